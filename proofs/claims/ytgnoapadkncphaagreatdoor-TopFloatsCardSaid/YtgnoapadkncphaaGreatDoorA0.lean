import Derived.WalkKit
import Derived.WalkSpells
import Derived.WalkLawsBesides
import Derived.WalkSmall
import Derived.Deep.QuietTactic
import Derived.BigQuiet
import Derived.StillTailTactics
import Derived.Lib.Hide
import Derived.OpenShut
import Derived.Deep.DeepCutAuto
import Derived.Deep.MidRow
import Derived.Great.Walk
import Derived.Laws.ResultCell
import Derived.Test.YtgnoapadkncphaaGreatDoorRows
import Derived.Laws.Rows
import Derived.Lib.AppendZerosOnto
import Derived.Lib.SliceRun
import Derived.Laws.BitsAllLaws
import Derived.Laws.BitsLemmas
import Derived.Lib.TrailingZeros
import Derived.Lib.BitFns
import Derived.Test.YtgnoapadkncphaaGreatDoorShelf
import Derived.Laws.MakeOwn
import Derived.Shelf.Abstract
import Derived.OwnWalk
set_option maxRecDepth 100000
set_option maxHeartbeats 8000000
set_option linter.all false
namespace Go.Proofs.YtgnoapadkncphaaGreatDoor
open Go.RowKit Go.Proofs.Tryz
theorem aa:(∀(t:Array Value)(D)(n:Nat)(v:Value),Act.put ⟨t,D⟩ (some n) v=⟨t.setIfInBounds n v,D⟩)/\(∀(a:Act)(v:Value),a.put none v=a)/\(∀(l:List Value)(i:Nat)(v:Value),l.toArray.setIfInBounds i v=(l.set i v).toArray)/\(∀(x:Value)(l:List Value)(v:Value),(x::l).set 0 v=v::l)/\∀(x:Value)(l:List Value)(n:Nat)(v:Value),(x::l).set (n+1) v=x::l.set n v:=⟨fun _ _ _ _=>rfl,fun _ _=>rfl,fun _ _ _=>List.setIfInBounds_toArray _ _ _,fun _ _ _=>rfl,fun _ _ _ _=>rfl⟩
theorem Kc:(∀(a:Oper)(l:List Oper)(n:Nat),(a::l).take (n+1)=a::l.take n)/\(∀l:List Oper,l.take 0=[])/\(∀(a:Oper)(l:List Oper)(n:Nat),(a::l).drop (n+1)=l.drop n)/\∀l:List Oper,l.drop 0=l:=⟨fun _ _ _=>rfl,fun _=>rfl,fun _ _ _=>rfl,fun _=>rfl⟩
theorem ab{α:Type}(x:α)(l:List α)(v:α):(x::l).set 0 v=v::l:=rfl
theorem ac{α:Type}(x:α)(l:List α)(n:Nat)(v:α):(x::l).set (n+1) v=x::l.set n v:=rfl
theorem ae {p:Prop} (h:p):Hid p:=Lib.hid h
theorem af {a b:Prop} (x:a) (y:b):a∧b:=⟨x,y⟩
def ag:=@Nat.le_refl
def aj:=@List.getElem?_eq_some_iff
def ak:=@Bool.and_eq_true
def al:=@List.take_succ_cons
def an:=@List.drop_succ_cons
def ao:=@Nat.zero_le
def ar:=@List.mem_of_getElem?
def az:=@Nat.div_add_mod
def aA:=@List.take_zero
def aB:=@List.drop_zero
def aC:=@List.getElem?_eq_getElem
def aG:=@Nat.mul_le_mul_right
def aH:=@Nat.le_trans
def aI:=@Nat.mod_lt
def aN:=@Nat.lt_or_ge
def aO:=@Nat.div_lt_iff_lt_mul
def aP:=@Nat.add_zero
def aR:=@List.getElem?_map
def aS:=@Nat.div_le_div_right
def aT:=@Option.some.injEq
def aU:=@List.length_append
def aW:=@List.length_set
def aX:=@Nat.div_le_self
def aY:=@Array.size_push
def ba:=@Nat.div_mul_le_self
def bc:=@List.mem_iff_getElem?
def be:=@List.length_singleton
def bg:=@Nat.mul_comm
def bl:=@Nat.pow_le_pow_right
def bm:=@List.mem_cons_of_mem
def bn:=@Nat.lt_of_lt_of_le
def bq:=@Nat.zero_add
def bt:=@Bool.eq_false_iff
def bw:=@List.mem_map
def bx:=@Nat.lt_of_le_of_lt
def bB:=@List.length_replicate
def bC:=@List.take_add_one
def bD:=@Bool.false_ne_true
def bE:=@Array.getElem?_eq_some_iff
def bF:=@List.not_mem_nil
def bG:=@List.length_cons
def bH:=@Nat.and_two_pow_sub_one_eq_mod
def bK:=@Option.some.inj
def bL:=@Bool.or_eq_true
def bM:=@Bool.eq_iff_iff
def bN:=@List.take_of_length_le
def bO:=@List.mem_range
def bS:=@List.mem_or_eq_of_mem_set
def bX:=@List.getD_eq_getElem?_getD
def bZ:=@List.eq_nil_of_length_eq_zero
def b8:=@Int.eq_ofNat_of_zero_le
def cg:=@Nat.mul_le_mul_left
def cl:=@Nat.lt_succ_self
def co:=@List.getElem?_set_ne
def cq:=@List.getElem?_set
def cv:=@Nat.add_assoc
def cw:=@List.mem_cons_self
def cA:=@Nat.le_div_iff_mul_le
def cB:=@List.length_nil
def cF:=@Nat.le_mul_of_pos_right
def cG:=@List.mem_cons
def cH:=@Bool.true_and
def cJ:=@Array.replicate_zero
def cK:=@Array.replicate_succ
def cM:=@Nat.mul_div_cancel
def cQ:=@List.length_map
def cT:=@Nat.pow_add
def cU:=@List.append_toArray
def cW:=@Nat.lt_trichotomy
def db:=@Nat.eq_of_testBit_eq
def dc:=@List.mem_singleton
def dd:=@List.map_append
def dh:=@Nat.succ_mul
def di:=@List.map_set
def dn:=@List.drop_eq_getElem_cons
def du:=@List.size_toArray
def dv:=@List.push_toArray
def dw:=@List.getElem?_eq_none
def dz:=@List.nil_append
def dB:=@Nat.eq_zero_or_pos
def dF:=@Bool.false_eq_true
def dH:=@List.cons_append
def dI:=@Nat.two_pow_add_eq_or_of_lt
def dM:=@Option.map_eq_some_iff
def dN:=@Nat.div_div_eq_div_mul
def dO:=@Iff.rfl
def dP:=@List.map_congr_left
def dS:=@Nat.add_mul_mod_self_left
def dU:=@List.take_append_drop
def dX:=@Nat.le_add_right
def dY:=@List.length_take
def d8:=@Nat.zero_mul
def d9:=@Nat.pow_succ
def ea:=@Nat.le_of_lt
def ef:=@Nat.add_sub_cancel_left
def eh:=@List.getElem?_cons_zero
def ej:=@Or.inl
def ek:=@Nat.testBit_two_pow_sub_succ
def el:=@Nat.and_le_left
def er:=@Nat.testBit_lt_two_pow
def eC:=@Nat.lt_of_mul_lt_mul_right
def eD:=@List.map_replicate
def eH:=@Nat.testBit_and
def eI:=@List.mem_append
def eN:=@List.mem_of_mem_take
def eO:=@List.ext_getElem?
def eP:=@Int.toNat_natCast
def eR:=@Nat.mul_assoc
def eS:=@List.eq_of_mem_replicate
def eT:=@Array.setIfInBounds_comm
def fd:=@Nat.mod_eq_of_lt
def fe:=@Nat.div_eq_of_lt
def ff:=@List.getElem?_replicate
def fg:=@List.getElem?_cons_succ
def fm:=@List.all_eq_true
def fu:=@Nat.mul_one
def fx:=@Nat.le_succ
def fy:=@Nat.ne_of_gt
def fI:=@Int.natCast_mul
def fN:=@Bool.or_false
def fT:=@Nat.testBit_two_pow_sub_one
def fU:=@Bool.not_eq_true'
def gj:=@Bool.or_eq_false_iff
def gn:=@Nat.testBit_two_pow_of_ne
def gp:=@List.getElem?_append_left
def gw:=@List.replicate_succ
def gC:=@List.set_eq_of_length_le
def gD:=@List.map_cons
def gF:=@Bool.false_or
def gJ:=@Nat.two_pow_pos
def gK:=@Nat.not_lt_zero
def gL:=@Nat.mul_add_div
def gN:=@Nat.min_eq_left
def gV:=@Nat.add_sub_cancel
def gW:=@List.getElem?_drop
def ig:=@Nat.mul_div_cancel_left
def iv:=@Nat.lt_trans
def iw:=@List.nodup_append
def ix:=@List.getElem?_set_self
def iy:=@List.drop_eq_nil_of_le
def iA:=@Bool.or_true
def iD:=@Array.getElem?_setIfInBounds_ne
def iF:=@Nat.add_mul_div_right
def iO:=@Nat.zero_lt_succ
def iP:=@Nat.min_eq_right
def iQ:=@List.take_length
def jc:=@Nat.sub_mul
def jd:=@Nat.add_mul
def jj:=@List.cons.injEq
def jk:=@Nat.add_lt_add_left
def jm:=@List.getElem?_range
def jt:=@Nat.testBit_two_pow_mul_add
def jK:=@Nat.mul_right_comm
def jL:=@Nat.le_of_mul_le_mul_right
def jM:=@Nat.eq_or_lt_of_le
def jN:=@List.getElem?_take
def jX:=@Nat.or_lt_two_pow
def jY:=@List.length_range
def kg:=@Nat.lt_irrefl
def ki:=@List.take_set
def kA:=@Option.bind_eq_some_iff
def kB:=@List.map_toArray
def kC:=@List.getElem?_set_self'
def kD:=@List.drop_length
def kE:=@List.any_eq_true
def kU:=@Nat.sub_self
def kV:=@Nat.ne_of_lt
def kW:=@Nat.le_total
def kY:=@List.map_nil
def kZ:=@List.map_map
def lf:=@List.filter_eq_nil_iff
def lm:=@Nat.testBit_xor
def lr:=@List.contains_iff_mem
def lx:=@Classical.choose_spec
def mf:=@Nat.testBit_or
def mg:=@Nat.pow_mul
def mh:=@Nat.pow_lt_pow_right
def mi:=@Nat.mul_le_mul
def mj:=@Nat.mul_add
def ml:=@Nat.div_le_of_le_mul
def mm:=@Nat.add_mul_div_left
def mn:=@Nat.add_mod
def mu:=@List.drop_drop
def mx:=@Int.le_refl
def na:=@Nat.add_le_add_left
def nc:=@Int.toNat_of_nonneg
def nm:=@List.sum_cons
def nP:=@Nat.and_one_is_mod
def nQ:=@List.map_singleton
def nV:=@Array.ext_getElem?
def nW:=@Array.any_eq_true'
def oT:=@Nat.pow_zero
def oU:=@Nat.mul_zero
def oW:=@Nat.le_succ_of_le
def pW:=@Nat.succ_ne_zero
def pX:=@Nat.succ_lt_succ
def pY:=@Nat.mul_mod_left
def pZ:=@Nat.min_le_right
def qb:=@List.length_drop
def qc:=@List.getElem_mem
def qd:=@Int.natCast_emod
instance:Coe Nat Value:=⟨fun b=>.pointer (some ⟨b,0,none⟩)⟩
theorem J9{P:Program}{md:Region.Mode}{ops:Array Oper}{Q:Exit->Act->World->Prop}{fuel:Nat}{listed:Array Bool}{a:Act}{w:World}{o:Oper}(i:Nat)(hr:Region.ready md ops listed=[i])(ho:ops[i]?=some o)(h:∀K:Act->World->Prop,(∀a w,wpAny P md ops Q fuel (listed.setIfInBounds i true) a w->K a w)->if Region.wanted o (yielded ops a.tmps)=true then Oper.wp P o a w K Q else K (a.put o.dst undef) w):wpAny P md ops Q (fuel+1) listed a w:=wpAny_ready hr (by simp) (AllReady.cons ho h AllReady.nil)
theorem Ka{P:Program}{md:Region.Mode}{ops:Array Oper}{Q:Exit->Act->World->Prop}{fuel:Nat}{listed:Array Bool}{a:Act}{w:World}{o:Oper}(i:Nat)(v:Value)(hi:ops[i]?=some o)(hb:(Region.noSelect ops&&Region.free md ops listed i&&(Region.ready md ops listed).contains i)=true)(hQ:∀c a w,Q (.panic c) (a.put o.dst v) w->Q (.panic c) a w)(hy:Yields P ops o v a)(h:wpAny P md ops Q fuel (listed.setIfInBounds i true) (a.put o.dst v) w):wpAny P md ops Q (fuel+1) listed a w:=by
 rw [Bool.and_eq_true,Bool.and_eq_true] at hb;exact wpAny_take hi hb.1.1 hb.1.2 hb.2 hQ hy h
instance:Coe Nat Addr:=⟨fun b=>⟨b,0,none⟩⟩
theorem J8{q:Nat->Prop}(i:Nat)(h:False):q i:=h.elim
instance:Coe Int Value:=⟨fun b=>.int .i64 b⟩
structure Fr(S:Nat->Prop)(w w':World):Prop where
 os:w'.os=w.os
 tape:w'.tape=w.tape
 output:w'.output=w.output
 size:w.heap.size<=w'.heap.size
 block:∀k,k<w.heap.size->¬S k->w'.heap[k]? =w.heap[k]?
abbrev J7:=Fr fun _=>False
theorem Fr.refl(S:Nat->Prop)(w:World):Fr S w w:=⟨rfl,rfl,rfl,ag _,fun _ _ _=>rfl⟩
theorem Kb(S:Nat->Prop)(w:World):Fr S w w:=Fr.refl S w
theorem Fr.trans{S S':Nat->Prop}{a b c:World}(h:Fr S a b)(k:Fr S' b c)(g:∀i,S' i->S i\/a.heap.size<=i):Fr S a c:=
 ⟨k.os.trans h.os,k.tape.trans h.tape,k.output.trans h.output,aH h.size k.size,fun i d e=>
  (k.block i (bn d h.size) (fun f=>by grind)).trans (h.block i d e)⟩
theorem Fr.mono{S S':Nat->Prop}{a b:World}(h:Fr S a b)(f:∀i,S i->S' i\/a.heap.size<=i):Fr S' a b:=
 ⟨h.os,h.tape,h.output,h.size,fun i c e=>h.block i c (fun d=>by grind)⟩
theorem Fr.drew{S:Nat->Prop}{a w:World}(h:Fr S a w):Fr S a w.drew:=⟨h.os,h.tape,h.output,h.size,h.block⟩
theorem Fr.drewN{S:Nat->Prop}{a w:World}(h:Fr S a w)(n:Nat):Fr S a (w.drewN n):=⟨h.os,h.tape,h.output,h.size,h.block⟩
theorem Fr.alloc{S:Nat->Prop}{a w:World}(h:Fr S a w)(o:Obj):Fr S a (w.alloc o):=
 h.trans (S':=fun _=>False) ⟨rfl,rfl,rfl,by simp,fun k b _=>Below.heap_alloc _ _ _ b⟩ J8
theorem Fr.setCell{S:Nat->Prop}{a w:World}(h:Fr S a w)(p:Addr)(hp:S p.block\/a.heap.size<=p.block)(u:Value):Fr S a (w.setCell p u):=
 h.trans (S':=fun k=>k=p.block) ⟨rfl,rfl,rfl,by simp_all,fun k _ b=>Below.heap_setCell _ _ _ _ b⟩ (fun i c=>by grind)
theorem Fr.below{w w':World}(h:J7 w w'):Below w.heap.size w w':=⟨h.os,h.tape,h.output,h.size,fun k a=>h.block k a id⟩
theorem Fr.Yr{S:Nat->Prop}{w w':World}(h:Below w.heap.size w w'):Fr S w w':=⟨h.os,h.tape,h.output,h.size,fun k a _=>h.block k a⟩
theorem Fr.Xd{w w':World}{a:Option Nat}(h:w.grownBy w' a):Fr (fun k=>a=some k) w w':=⟨h.os,h.tape,h.output,h.size,fun k b c=>h.block k b (fun e=>c e.symm)⟩
theorem Fr.heap{S:Nat->Prop}{w w':World}(h:Fr S w w'){b:Nat}{o:Obj}(a:w.heap[b]? =some o)(c:¬S b):w'.heap[b]? =some o:=
 (h.block b (bE.1 a).1 c).trans a
theorem qh{P:Program}{e:Nat}{Q:Exit->Act->World->Prop}{a:Act}{w:World}{l:List Oper}(n:Nat)(d:P.follows .mixedOrders=true)(c:Region.lexTailB .any l.toArray n=true)
  (h:wpStill P l.toArray w.drew (fun b=>wpList P l.toArray Q (l.drop n) b w.drew) (l.take n) a):(Code.region e l.toArray true).wp P Q a w:=
 wp_region_still_tail n d c h
def ay(w:World)(b:Nat)(c:List Value)(t:TypeId):Prop:=w.heap[b]? =some (.cells c.toArray t (0,0))
theorem ay.cell{w:World}{b:Nat}{c:List Value}{t:TypeId}(h:ay w b c t)(i:Nat){v:Value}(a:c[i]? =some v):w.cell? ⟨b,i,none⟩=some v:=by
 grind [ay,World.cell?]
theorem Ke{w:World}{b:Nat}{t:TypeId}{v0 v1:Value}{l:List Value}(h:ay w b (v0::v1::l) t):w.cell? ⟨b,0,none⟩=some v0/\w.cell? ⟨b,1,none⟩=some v1/\True:=⟨h.cell 0 rfl,h.cell 1 rfl,trivial⟩
theorem Kf{w:World}{b:Nat}{t:TypeId}{v0 v1 v2:Value}{l:List Value}(h:ay w b (v0::v1::v2::l) t):w.cell? ⟨b,0,none⟩=some v0/\w.cell? ⟨b,1,none⟩=some v1/\w.cell? ⟨b,2,none⟩=some v2/\True:=⟨h.cell 0 rfl,h.cell 1 rfl,h.cell 2 rfl,trivial⟩
theorem Kd{w:World}{b:Nat}{t:TypeId}{v0 v1 v2 v3:Value}{l:List Value}(h:ay w b (v0::v1::v2::v3::l) t):w.cell? ⟨b,0,none⟩=some v0/\w.cell? ⟨b,1,none⟩=some v1/\w.cell? ⟨b,2,none⟩=some v2/\w.cell? ⟨b,3,none⟩=some v3/\True:=⟨h.cell 0 rfl,h.cell 1 rfl,h.cell 2 rfl,h.cell 3 rfl,trivial⟩
theorem Kh{w:World}{b:Nat}{t:TypeId}{v0 v1 v2 v3 v4:Value}{l:List Value}(h:ay w b (v0::v1::v2::v3::v4::l) t):w.cell? ⟨b,0,none⟩=some v0/\w.cell? ⟨b,1,none⟩=some v1/\w.cell? ⟨b,2,none⟩=some v2/\w.cell? ⟨b,3,none⟩=some v3/\w.cell? ⟨b,4,none⟩=some v4/\True:=⟨h.cell 0 rfl,h.cell 1 rfl,h.cell 2 rfl,h.cell 3 rfl,h.cell 4 rfl,trivial⟩
theorem Kg{w:World}{b:Nat}{t:TypeId}{v0 v1 v2 v3 v4 v5 v6:Value}{l:List Value}(h:ay w b (v0::v1::v2::v3::v4::v5::v6::l) t):w.cell? ⟨b,0,none⟩=some v0/\w.cell? ⟨b,1,none⟩=some v1/\w.cell? ⟨b,2,none⟩=some v2/\w.cell? ⟨b,3,none⟩=some v3/\w.cell? ⟨b,4,none⟩=some v4/\w.cell? ⟨b,5,none⟩=some v5/\w.cell? ⟨b,6,none⟩=some v6/\True:=⟨h.cell 0 rfl,h.cell 1 rfl,h.cell 2 rfl,h.cell 3 rfl,h.cell 4 rfl,h.cell 5 rfl,h.cell 6 rfl,trivial⟩
theorem Ki{w:World}{b:Nat}{t:TypeId}{v0 v1 v2 v3 v4 v5 v6 v7:Value}{l:List Value}(h:ay w b (v0::v1::v2::v3::v4::v5::v6::v7::l) t):w.cell? ⟨b,0,none⟩=some v0/\w.cell? ⟨b,1,none⟩=some v1/\w.cell? ⟨b,2,none⟩=some v2/\w.cell? ⟨b,3,none⟩=some v3/\w.cell? ⟨b,4,none⟩=some v4/\w.cell? ⟨b,5,none⟩=some v5/\w.cell? ⟨b,6,none⟩=some v6/\w.cell? ⟨b,7,none⟩=some v7/\True:=⟨h.cell 0 rfl,h.cell 1 rfl,h.cell 2 rfl,h.cell 3 rfl,h.cell 4 rfl,h.cell 5 rfl,h.cell 6 rfl,h.cell 7 rfl,trivial⟩
theorem Kj{w:World}{b:Nat}{t:TypeId}{v0 v1 v2 v3 v4 v5 v6 v7 v8:Value}{l:List Value}(h:ay w b (v0::v1::v2::v3::v4::v5::v6::v7::v8::l) t):w.cell? ⟨b,0,none⟩=some v0/\w.cell? ⟨b,1,none⟩=some v1/\w.cell? ⟨b,2,none⟩=some v2/\w.cell? ⟨b,3,none⟩=some v3/\w.cell? ⟨b,4,none⟩=some v4/\w.cell? ⟨b,5,none⟩=some v5/\w.cell? ⟨b,6,none⟩=some v6/\w.cell? ⟨b,7,none⟩=some v7/\w.cell? ⟨b,8,none⟩=some v8/\True:=⟨h.cell 0 rfl,h.cell 1 rfl,h.cell 2 rfl,h.cell 3 rfl,h.cell 4 rfl,h.cell 5 rfl,h.cell 6 rfl,h.cell 7 rfl,h.cell 8 rfl,trivial⟩
theorem ay.free{w:World}{b:Nat}{c:List Value}{t:TypeId}(h:ay w b c t)(i:Nat):w.frozen? ⟨b,i,none⟩=false:=by
 grind [ay,World.frozen?]
theorem ay.lt{w:World}{b:Nat}{c:List Value}{t:TypeId}(h:ay w b c t):b<w.heap.size:=(bE.1 h).1
theorem ay.frame{S:Nat->Prop}{w w':World}{b:Nat}{c:List Value}{t:TypeId}(h:ay w b c t)(hf:Fr S w w')(a:¬S b):ay w' b c t:=hf.heap h a
theorem ay.alloc{w:World}{b:Nat}{c:List Value}{t:TypeId}(h:ay w b c t)(o:Obj):ay (w.alloc o) b c t:=h.frame ((Kb (fun _=>False) w).alloc o) id
theorem ay.new(w:World)(c:List Value)(t:TypeId):ay (w.alloc (.cells c.toArray t)) w.heap.size c t:=heap_alloc_new w _
theorem ay.drew{w:World}{b:Nat}{c:List Value}{t:TypeId}(h:ay w b c t):ay w.drew b c t:=h
theorem ay.drewN{w:World}{b:Nat}{c:List Value}{t:TypeId}(h:ay w b c t)(n:Nat):ay (w.drewN n) b c t:=h
theorem ay.set{w:World}{b:Nat}{c:List Value}{t:TypeId}(h:ay w b c t)(i:Nat)(u:Value):ay (w.setCell ⟨b,i,none⟩ u) b (c.set i u) t:=by
 grind [ay,World.setCell]
theorem ay.Qg{w:World}{b:Nat}{c:List Value}{t:TypeId}(h:ay w b c t)(p:Addr)(u:Value)(hp:b≠p.block):ay (w.setCell p u) b c t:=by
 grind [ay,Below.heap_setCell]
theorem aF{S:Nat->Prop}{w w':World}{Ba:Nat}{e:TypeId}{a:Nat}{v:Value}{n:Nat}{xs:List Value}(h:w.ownsRow Ba e a v n xs)
  (hf:Fr S w w') (c:∀k,v.ownBlock=some k->¬S k):w'.ownsRow Ba e a v n xs:=by
 refine ⟨h.1,?_⟩;rcases h.2 with d|⟨g,cap,cur,rfl,b,hg,r⟩
 ·grind
 ·exact Or.inr ⟨g,cap,cur,rfl,b,hf.heap hg (c g rfl),r⟩
theorem lJ{P:Program}(w:World)(t F e:TypeId)(i:TypeInfo)(z:Value)(f:Nat)(I:P.underlying t=some (.slice e))(G:P.info? e=some i)(O:i.zero=some z)
  (B:i.size=1) (L:i.bytes=f) (Q:z.cells.size=1)
  (v:Value) (n:Nat) (xs:List Value) (l:w.ownsRow 0 e 1 v n xs)
  (a:Addr) (c:Nat) (u:Value) (Y:w.cell? a=some u) (X:u.oneCell'=true)
  (J:n+1<=maxLen) (r:(n+1)*f<=140737488355328):
  ∃g cap w',(Builtin.append_ #[t,t] F #[v,.slice (some a) 1 c]).run P w= .ok (.slice (some ⟨g,0,none⟩) (n+1) cap) w'/\
   w'.ownsRow 0 e 1 (.slice (some g) (n+1) cap) (n+1) (xs++[u])/\Fr (fun k=>v.ownBlock=some k) w w'/\(v.ownBlock=some g\/w.heap.size<=g):=by
 have R:a.add 0=a:=by cases a;simp [Addr.add]
 have b:∀j x,[u][j]? =some x->w.cell? (a.add j)=some x:=by
  grind
 by_cases o:∃g cap,v= .slice (some ⟨g,0,none⟩) n cap/\n+1<=cap
 ·obtain ⟨g,cap,rfl,H⟩:=o;obtain ⟨s,N⟩:=l;rcases N with ⟨h,_⟩|⟨g',d,cur,V,K,hg,D,y,C,q⟩
  ·cases h
  ·cases V
   have p:=run_append_room (P:=P) w t F e i I G g n cap cur hg a 1 c [u] (by grind) b (by grind) H (by grind);refine ⟨g,cap,_,p,⟨by grind,.inr ⟨g,cap,_,rfl,K,setRow_heap w g cur _ e _ hg,H,y,?_,?_⟩⟩,⟨rfl,rfl,rfl,by simp,fun k _ T=>setRow_other w g k _ (fun e=>T (by simp [Value.ownBlock,e]))⟩,.inl rfl⟩
   ·grind
   grind
 ·obtain ⟨W,w',p,m,M,S⟩:=run_append_own (P:=P) w 0 t F e i z 1 f I G O B L Q (by decide) v n xs l a 1 c [u] (by simp) b (by grind) J r (ao _);have E:∃g cap,W= .slice (some ⟨g,0,none⟩) (n+1) cap:=by
   rcases m.2 with ⟨_,h⟩|⟨g,cap,_,h,_⟩
   ·omega
   grind
  obtain ⟨g,cap,rfl⟩:=E;refine ⟨g,cap,w',p,m,Fr.Xd M,.inr ?_⟩;obtain ⟨s,N⟩:=l;rcases N with ⟨rfl,rfl⟩|⟨g',d,cur,rfl,K,hg,D,y,C,q⟩
  ·have Z:xs=[]:=bZ (by omega);have H:=run_append_nil (P:=P) w t F e i z I G O a 1 c [u] (by grind) b (by omega) (by omega) (by omega)
   grind
  ·have U:¬n+1<=d:=fun h=>o ⟨g',d,rfl,h⟩
   have A:∀j u,xs[j]? =some u->w.cell? ((⟨g',0,none⟩:Addr).add j)=some u:=(show w.ownsRow 0 e 1 _ n xs from ⟨s,.inr ⟨g',d,cur,rfl,K,hg,D,y,C,q⟩⟩).cells (g:=g') rfl;have H:=run_append_grow (P:=P) w t F e i z I G O ⟨g',0,none⟩ n d xs (by grind) A a 1 c [u] (by grind) b (by omega) (by grind [maxLen]) (growslice_fits (by omega) (by grind))
   grind
theorem eJ{P:Program}{w:World}{l:Array Oper}{rest:List Oper}{o:Oper}{a:Act}{Q:Exit->Act->World->Prop}(r:o.guard=none)(s x:Operand)(t:TypeId)
  (G:o.op= .call {callee:= .builtin .append,args:= #[s,x],argTypes:= #[t,t]})
  (e:TypeId) (i:TypeInfo) (z:Value) (b:Nat) (J:P.underlying t=some (.slice e)) (F:P.info? e=some i) (N:i.zero=some z)
  (f:i.size=1) (q:i.bytes=b) (y:z.cells.size=1)
  (v:Value) (n:Nat) (xs:List Value) (I:a.eval s=v) (j:w.ownsRow 0 e 1 v n xs)
  (m:Addr) (c:Nat) (u:Value) (M:a.eval x= .slice (some m) 1 c) (L:w.cell? m=some u) (A:u.oneCell'=true)
  (p:n+1<=maxLen) (d:(n+1)*b<=140737488355328)
  (h:∀g cap w',w'.ownsRow 0 e 1 (.slice (some ⟨g,0,none⟩) (n+1) cap) (n+1) (xs++[u])->Fr (fun k=>v.ownBlock=some k) w w'->(v.ownBlock=some g\/w.heap.size<=g)->
   wpList P l Q rest (a.put o.dst (.slice (some g) (n+1) cap)) w'):wpList P l Q (o::rest) a w:=by
 refine wpList_plain r fun K E=> ?_
 obtain ⟨g,cap,w',H,B,C,D⟩:=lJ (P:=P) w t o.type e i z b J F N f q y v n xs j m c u L A p d;unfold Oper.wp execOp;simp only [G,resolve,invoke,builtin,Sem.run_bind,Sem.run_pure,Result.andThen_ok,kB,gD,kY,I,M,H];exact E _ _ (h g cap w' B C D)
def xa(k:IntKind)(w:World)(p:Option Addr)(len:Nat)(zs:List Int):Prop:=
 zs.length=len/\∀i,i<len->∃b off x,p=some ⟨b,off,none⟩/\zs[i]? =some x/\w.cell? ⟨b,off+i,none⟩=some (.int k x)
theorem bu{w:World}{a:Addr}{v:Value}(h:w.cell? a=some v):a.block<w.heap.size:=World.block_lt_of_cell? w a h
theorem xa.frame{k:IntKind}{w w':World}{p:Option Addr}{a:Nat}{zs:List Int}(h:xa k w p a zs)(hf:J7 w w'):xa k w' p a zs:=
 ⟨h.1,fun i d=>let ⟨b,off,x,hp,e,c⟩:=h.2 i d;⟨b,off,x,hp,e,(World.cell?_of_block (w:=w) (hf.block b (bu c) id)).trans c⟩⟩
theorem F5{k:IntKind}{w:World}{x:Addr}{d cap:Nat}{zs:List Int}(l:d<=cap)(m:zs.length=cap)(a:∀i,i<zs.length->w.cell? (x.add i)=some (.int k (zs.getD i 0))):
  xa k w (some x) d (zs.take d):=by
 refine ⟨by grind,fun i j=> ?_⟩;obtain ⟨b,off,c⟩:=x;have h:=a i (by omega);have e:=a 0 (by omega);have f:c=none:=by
  cases c with
  |none=>rfl
  |some s=>
   simp only [World.cell?,Addr.add,if_pos] at e
   grind
 subst f;have g:(⟨b,off,none⟩:Addr).add i=⟨b,off+i,none⟩:=by grind [Addr.add]
 grind
theorem Fr.setRow{S:Nat->Prop}{a w:World}(h:Fr S a w)(g:Nat)(hp:S g\/a.heap.size<=g)(cs:Array Value):Fr S a (w.setRow g cs):=
 h.trans (S':=fun k=>k=g) ⟨rfl,rfl,rfl,by simp,fun k _ b=>setRow_other w g k cs b⟩ (fun i c=>by grind)
theorem ay.setRow{w:World}{b:Nat}{c:List Value}{t:TypeId}(h:ay w b c t)(c':List Value):ay (w.setRow b c'.toArray) b c' t:=
 setRow_heap w b _ _ t _ h
theorem ay.Qf{w:World}{b:Nat}{c:List Value}{t:TypeId}(h:ay w b c t)(g:Nat)(cs:Array Value)(hg:b≠g):ay (w.setRow g cs) b c t:=by
 grind [ay,setRow_other]
section
variable{P:Program}{ops:Array Oper}{md:Region.Mode}{C:World->Prop}
def oM(P:Program)(md:Region.Mode)(ops:Array Oper)(C:World->Prop)(n:Nat)(L:Array Bool->Act->Prop):Nat->Array Bool->Act->Prop
 |0,listed,a=>L listed a
 |f+1,listed,a=>Region.ready md ops listed≠[]/\∀i∈Region.ready md ops listed,i<n/\qOp P ops C i (oM P md ops C n L f (listed.setIfInBounds i true)) a
theorem km{n g:Nat}{L:Array Bool->Act->Prop}{Q':Exit->Act->World->Prop}(d:∀b a w,C w->L b a->wpAny P md ops Q' g b a w):
  ∀(f:Nat) (b:Array Bool) (a:Act) (w:World),C w->oM P md ops C n L f b a->wpAny P md ops Q' (f+g) b a w
 |0,b,a,w,hw,h=>by rw [bq];exact d _ _ _ hw h
 |f+1,b,a,w,hw,h=>by
  rw [show f+1+g=(f+g)+1 by omega];exact ⟨fun k=>absurd k h.1,fun i l=>wpOp_of_qOp hw (fun e w' c j=>km d f _ e w' c j) (h.2 i l).2⟩
theorem sJ{n i:Nat}{x:Oper}{v:Value}{L:Array Bool->Act->Prop}(E:ops[i]? =some x)(r:∀(j:Nat) (o:Oper) cs b,ops[j]? =some o->o.op≠ .select cs b)
  (M:Region.sinkB md ops n=true) (J:Region.chainB md ops n=true) (K:n<ops.size) (y:i<n)
  (s:∀c a,L c a->∀j∈Region.ready md ops c,n<=j):
  ∀(f:Nat) (c:Array Bool) (a:Act),HeadInv md ops n c->
   (∀j w,ops[j]? =some w->j≠i->c.getD j true=false->(∀e∈w.after,Region.binds md e=true->e.on≠i)->x.apart ops w=true)->
   i∈Region.ready md ops c->YieldsIn P ops C x v a->
   oM P md ops C n L f (c.setIfInBounds i true) (a.put x.dst v)->oM P md ops C n L (f+1) c a:=by
 intro f
 induction f with
 |zero=>
  intro c a q _ B D H;have p:=(mem_ready.1 B).1;refine ⟨fun h=>(by grind),fun j t=> ?_⟩;have m:j<n:=by
   rcases aN j n with h|h
   ·exact h
   ·exact absurd t (tail_waits M J K q _ i rfl y p j h)
  refine ⟨m,?_⟩;by_cases d:j=i
  ·subst d;exact D.qOp E H
  ·have:=s _ _ H j (ready_mono t d);omega
 |succ f ih=>
  intro c a q g B D H;have p:=(mem_ready.1 B).1;refine ⟨fun h=>(by grind),fun j t=> ?_⟩;have m:j<n:=by
   rcases aN j n with h|h
   ·exact h
   ·exact absurd t (tail_waits M J K q _ i rfl y p j h)
  refine ⟨m,?_⟩;by_cases d:j=i
  ·subst d;exact D.qOp E H
  ·have O:=(H.2 j (ready_mono t d)).2;obtain ⟨z,w,u,I⟩:=mem_ready.1 t;have A:∀e∈w.after,Region.binds md e=true->e.on≠i:=fun e W V S=>by
    grind
   have Q:=qOp_put u (g j w u d z A) (fun cs b=>r i x cs b E) (fun cs b=>r j w cs b u) D O;have l:∀k ok,ops[k]? =some ok->k≠i->(c.setIfInBounds j true).getD k true=false->
     (∀e∈ok.after,Region.binds md e=true->e.on≠i)->x.apart ops ok=true:=fun k ok U F p G=>by
    refine g k ok U F ?_ G;by_cases T:j=k
    ·grind
    simp_all
   refine qOp_mono (fun N R=>ih (c.setIfInBounds j true) N (q.set t m) l (ready_mono B (Ne.symm d)) R.1 ?_) Q
   grind [Array.setIfInBounds_comm]
theorem qt{n g:Nat}{Lq:Act->Prop}(d:Region.noSelect ops=true)(t:Region.sinkB md ops n=true)(r:Region.chainB md ops n=true)(s:n<ops.size):
  ∀(l:List Oper) (k:Nat) (b:Array Bool) (a:Act),(∀j,j<l.length->l[j]? =ops[k+j]?)->k+l.length=n->HeadInv md ops n b->
  Region.lexHead md ops g l.length k b=true->wpQuiet P ops C Lq l a->
  oM P md ops C n (fun c q=>Region.seqB md ops g n c=true/\Lq q) l.length b a
 |[],k,b,a,_,hk,_,hB,h=>by
  have:k=n:=by omega
  subst this;exact ⟨by grind [Region.lexHead],h⟩
 |o::l,k,b,a,hl,hk,inv,hB,h=>by
  have i:ops[k]? =some o:=by simpa using (hl 0 (by simp)).symm
  simp only [bG,Region.lexHead,ak] at hB;obtain ⟨⟨z,hf⟩,m⟩:=hB;have e:k<n:=by grind
  have f:k∈Region.ready md ops b:=by grind
  have p:qOp P ops C k (wpQuiet P ops C Lq l) a:=by unfold qOp;simp only [i];exact h
  obtain ⟨v,x,u⟩:=yieldsIn_of_qOp i p;exact sJ i (Region.noSelect_spec d) t r s e (fun c q w=>seqB_ready w.1) l.length b a inv (Region.free_spec i hf) f x
   (qt d t r s l (k+1) _ _ (fun j y=>by have:=hl (j+1) (by grind);grind) (by grind) (inv.set f e) m u)
theorem bz{x:Nat}{Q:Exit->Act->World->Prop}{a:Act}{w:World}{l:List Oper}(C:World->Prop)(n:Nat)(k:(P.follows .mixedOrders&&Region.lexTailB .any l.toArray n)=true)(o:C w.drew)
  (h:wpQuiet P l.toArray C (fun f=>∀w',C w'->wpList P l.toArray Q (l.drop n) f w') (l.take n) a):
  (Code.region x l.toArray true).wp P Q a w:=by
 rw [ak] at k;obtain ⟨r,i⟩:=k;simp only [Region.lexTailB,ak,decide_eq_true_eq] at i;obtain ⟨⟨⟨⟨b,s⟩,v⟩,p⟩,m⟩:=i;have u:n<l.length:=by omega
 have e:(l.take n).length=n:=by grind
 have q:(l.drop n).length=l.toArray.size-n:=by simp
 have c:HeadInv .any l.toArray n (Array.replicate l.toArray.size false):=
  ⟨by simp,fun j E _ A=>(by grind [getD_replicate_false]),fun t _ B=>getD_in (by grind) (getD_replicate_false _ _)⟩
 have H:=qt (md:= .any) (g:=l.toArray.size-n) b v p s (l.take n) 0 _ a (fun j z=>by
  grind) (by omega) c (by grind) h
 refine wp_region_any r ?_;have:=km (Q':=Q) (g:=l.toArray.size-n) (fun d f w' D y=>by
  grind [wpAny_of_seq]) _ _ _ _ o H
 rwa [e,show n+(l.toArray.size-n)=l.toArray.size by omega] at this
theorem aV{g:Nat}{Q:Exit->Act->World->Prop}{a:Act}{w:World}{l:List Oper}(C:World->Prop)(b:(P.follows .mixedOrders&&Region.lexB .any l.toArray)=true)(e:C w.drew)
  (h:wpQuiet P l.toArray C (fun c=>∀w',C w'->Q .normal c w') l a):
  (Code.region g l.toArray true).wp P Q a w:=by
 rw [ak] at b;obtain ⟨f,d⟩:=b;exact wp_region_quiet (C:=C) f d e (by omega)
variable{Q:Act->Prop}{a:Act}{o:Oper}{rest:List Oper}
theorem ai(v:Value)(hg:o.guard=none)(b:∀w,C w->(execOp a.eval o).run P w= .ok (.value v) w)(h:wpQuiet P ops C Q rest (a.put o.dst v)):wpQuiet P ops C Q (o::rest) a:=by
 unfold wpQuiet;rw [if_pos (by grind [Region.wanted])];exact ⟨v,fun w c=>by unfold Oper.quietAt;rw [b w c];exact ⟨rfl,rfl⟩,h⟩
theorem aQ(v:Value)(hg:Region.wanted o (yielded ops a.tmps)=true)(b:∀w,C w->(execOp a.eval o).run P w= .ok (.value v) w)(h:wpQuiet P ops C Q rest (a.put o.dst v)):wpQuiet P ops C Q (o::rest) a:=by
 unfold wpQuiet;rw [if_pos hg];exact ⟨v,fun w c=>by unfold Oper.quietAt;rw [b w c];exact ⟨rfl,rfl⟩,h⟩
theorem bf(v:Value)(f:FuncId)(args:Array Value)(hg:o.guard=none)(c:∀w,(execOp a.eval o).run P w= .ok (.enter f args) w)(b:∀w,C w->Calls P f args w fun e w'=>e= .returned v/\C w')
  (h:wpQuiet P ops C Q rest (a.put o.dst v)):wpQuiet P ops C Q (o::rest) a:=by
 unfold wpQuiet;rw [if_pos (by grind [Region.wanted])];exact ⟨v,fun w d=>by unfold Oper.quietAt;rw [c w];exact ⟨rfl,b w d⟩,h⟩
theorem gZ(v:Value)(f:FuncId)(args:Array Value)(hg:Region.wanted o (yielded ops a.tmps)=true)(c:∀w,(execOp a.eval o).run P w= .ok (.enter f args) w)(b:∀w,C w->Calls P f args w fun e w'=>e= .returned v/\C w')
  (h:wpQuiet P ops C Q rest (a.put o.dst v)):wpQuiet P ops C Q (o::rest) a:=by
 unfold wpQuiet;rw [if_pos hg];exact ⟨v,fun w d=>by unfold Oper.quietAt;rw [c w];exact ⟨rfl,b w d⟩,h⟩
theorem eX{b:TypeId}{x:Operand}(f:o.op= .load b x)(g:Nat)(i:a.eval x= .pointer (some ⟨g,0,none⟩))(t:TypeId)(cs:Array Value)(fr:Nat×Nat)(d:TypeDesc){w:World}
  (hg:w.heap[g]? =some (.cells cs t fr)) (h:P.underlying b=some d) (c:(match d with| .struct _| .array _ _=>true|_=>false)=true) (e:(P.info? b).map (·.size)=some cs.size):
  (execOp a.eval o).run P w= .ok (.value (.agg cs)) w:=by
 unfold execOp;simp only [f,i,Instr.loadAt,Instr.sureAddr,Sem.run_bind,Sem.run_pure,Result.andThen_ok,run_loadVar_row w g t b cs fr d hg h c e]
end
theorem jg{P:Program}{l:Array Oper}{o:Oper}{a:Act}{w:World}{K:Act->World->Prop}{Q:Exit->Act->World->Prop}{E:Prop}(C:o.guard=none)(s x:Operand)(t:TypeId)
  (F:o.op= .call {callee:= .builtin .append,args:= #[s,x],argTypes:= #[t,t]})
  (e:TypeId) (i:TypeInfo) (z:Value) (b:Nat) (I:P.underlying t=some (.slice e)) (D:P.info? e=some i) (N:i.zero=some z)
  (f:i.size=1) (p:i.bytes=b) (q:z.cells.size=1)
  (v:Value) (k:Nat) (xs:List Value) (H:a.eval s=v) (j:w.ownsRow 0 e 1 v k xs)
  (m:Addr) (c:Nat) (u:Value) (M:a.eval x= .slice (some m) 1 c) (J:w.cell? m=some u) (r:u.oneCell'=true)
  (n:k+1<=maxLen) (d:(k+1)*b<=140737488355328)
  (h:∀g cap w',w'.ownsRow 0 e 1 (.slice (some ⟨g,0,none⟩) (k+1) cap) (k+1) (xs++[u])->Fr (fun k=>v.ownBlock=some k) w w'->(v.ownBlock=some g\/w.heap.size<=g)->
   K (a.put o.dst (.slice (some g) (k+1) cap)) w'):if Region.wanted o (yielded l a.tmps)=true then Oper.wp P o a w K Q else E:=by
 have L:Region.wanted o (yielded l a.tmps)=true:=by grind [Region.wanted]
 rw [if_pos L];obtain ⟨g,cap,w',G,y,A,B⟩:=lJ (P:=P) w t o.type e i z b I D N f p q v k xs j m c u J r n d;unfold Oper.wp;simp only [execOp,F,resolve,invoke,builtin,Sem.run_bind,Sem.run_pure,Result.andThen_ok,kB,gD,kY,H,M,G];exact h g cap w' y A B
theorem qN(z:Value)(a:z.cells= #[z])(n:Nat):(Builtin.zeroCells z.cells n).toList=List.replicate n z:=by
 rw [a];simp [Builtin.zeroCells];apply List.ext_getElem
 ·simp
 grind
theorem po{P:Program}(w:World)(t C D e:TypeId)(i:TypeInfo)(z:Value)(R:IntKind)(b:Nat)(M:P.underlying t=some (.slice e))(r:P.underlying C=some (.int R))(K:P.info? e=some i)(O:i.zero=some z)
  (q:i.size=1) (G:i.bytes=b) (Q:z.cells= #[z]) (ad:z.oneCell'=true)
  (v:Value) (n:Nat) (xs:List Value) (d:w.ownsRow 0 e 1 v n xs) (k:Nat) (T:0<k) (E:n+k<=maxLen) (h:(n+k)*b<=140737488355328):
  ∃g cap w',(Builtin.append_ #[t,C] D #[v,(k:Int)]).run P w= .ok (.slice (some ⟨g,0,none⟩) (n+k) cap) w'/\
   w'.ownsRow 0 e 1 (.slice (some g) (n+k) cap) (n+k) (xs++List.replicate k z)/\Fr (fun k=>v.ownBlock=some k) w w'/\(v.ownBlock=some g\/w.heap.size<=g):=by
 subst G;have l:(xs++List.replicate k z).length=(n+k)*1:=by rw [aU,d.1,bB];omega
 have V:n+k<=9223372036854775807:=by grind [maxLen]
 have x:k*i.bytes<=281474976710656:=aH (aG _ (Nat.le_add_left k n)) (by omega);have c:∀(m:Nat) (cs:Array Value),cs.toList=xs->∀S:Nat->Prop,
   (w.drew.alloc (.cells (cs++Builtin.zeroCells z.cells k++Builtin.zeroCells z.cells (grownCap w (n+k) m e-(n+k))) e)).ownsRow 0 e 1
    (.slice (some w.heap.size) (n+k) (grownCap w (n+k) m e)) (n+k) (xs++List.replicate k z)/\
   Fr S w (w.drew.alloc (.cells (cs++Builtin.zeroCells z.cells k++Builtin.zeroCells z.cells (grownCap w (n+k) m e-(n+k))) e)):=by
  intro m cs H S;have J:=grownCap_ge w (n+k) m e;have o:grownCap w (n+k) m e<=maxLen:=grownCap_le_maxLen w (n+k) m e E;have X:cs.size=n:=by grind
  refine ⟨⟨l,.inr ⟨w.heap.size,_,_,rfl,ao _,heap_alloc_new w.drew _,J,o,?_,?_⟩⟩,((Kb S w).drew).alloc _⟩
  ·grind [size_zeroCells]
  grind [qN]
 rcases id d.2 with ⟨rfl,rfl⟩|⟨g,cap,cur,rfl,F,hg,W,o,H,N⟩
 ·have Z:xs=[]:=bZ (by grind);subst Z;have A:=Lib.run_append_nil_zeros (P:=P) w t C D e i z .i64 R M r K O k T (by omega) (by omega) x;have a:=c 0 #[] rfl;simp only [bq,Array.empty_append] at a ⊢;exact ⟨_,_,_,A,(a (fun _=>False)).1,(a _).2,.inr (ag _)⟩
 ·by_cases f:n+k<=cap
  ·have B:=run_storeCells_at P g n e (List.replicate k z) 0 cur w hg (by grind) (fun u hu=>by grind);have L:k≠0:=by omega
   have Y:IntKind.i64.wrap (k:Int)=k:=by grind [IntKind.wrap_i64]
   have y:¬((k:Int)<0):=by omega
   have s:¬(281474976710656<(k:Int)*(i.bytes:Int)):=by omega
   have A:(Builtin.append_ #[t,C] D #[.slice (some g) n cap,(k:Int)]).run P w= .ok (.slice (some g) (n+k) cap) (w.setRow g (cur.toList.take n++List.replicate k z++cur.toList.drop (n+(List.replicate k z).length)).toArray):=by
    simp only [aP] at B;simp [Builtin.append_,run_underlying M,run_underlying r,sizeOf,typeInfo,zeroValue,K,O,asInt,asIntOf,Y,y,s,f,L,q,Addr.add_lit,qN z Q,B]
   refine ⟨g,cap,_,A,⟨l,.inr ⟨g,cap,_,rfl,F,setRow_heap w g cur _ e _ hg,f,o,?_,?_⟩⟩,⟨rfl,rfl,rfl,by simp,fun k _ U=>setRow_other w g k _ (fun e=>U (by simp [Value.ownBlock,e]))⟩,.inl rfl⟩
   ·grind
   grind
  ·have p:∀j u,xs[j]? =some u->w.cell? ((⟨g,0,none⟩:Addr).add j)=some u:=d.cells (g:=g) rfl;have I:=run_firstCells_some (P:=P) w.drew i.size n ⟨g,0,none⟩ n cap xs (by grind) p;have A:=Lib.run_append_grow_zeros (P:=P) w t C D e i z .i64 R M r K O (some ⟨g,0,none⟩) n cap xs I k T (by omega) (by omega) (by omega) x (growslice_fits (by omega) h);have a:=c cap xs.toArray rfl;exact ⟨_,_,_,A,(a (fun _=>False)).1,(a _).2,.inr (ag _)⟩
theorem jQ{P:Program}{j:Array Oper}{o:Oper}{a:Act}{w:World}{K:Act->World->Prop}{Q:Exit->Act->World->Prop}{E:Prop}(B:o.guard=none)(s x:Operand)(t u:TypeId)
  (L:o.op= .call {callee:= .builtin .append,args:= #[s,x],argTypes:= #[t,u]})
  (e:TypeId) (i:TypeInfo) (z:Value) (y:IntKind) (b:Nat) (D:P.underlying t=some (.slice e)) (p:P.underlying u=some (.int y)) (C:P.info? e=some i) (G:i.zero=some z)
  (d:i.size=1) (m:i.bytes=b) (r:z.cells= #[z]) (q:z.oneCell'=true)
  (v:Value) (n:Nat) (xs:List Value) (N:a.eval s=v) (f:w.ownsRow 0 e 1 v n xs) (k:Nat) (O:a.eval x= .int .i64 k) (A:0<k) (l:n+k<=maxLen) (c:(n+k)*b<=140737488355328)
  (h:∀g cap w',w'.ownsRow 0 e 1 (.slice (some ⟨g,0,none⟩) (n+k) cap) (n+k) (xs++List.replicate k z)->Fr (fun k=>v.ownBlock=some k) w w'->(v.ownBlock=some g\/w.heap.size<=g)->
   K (a.put o.dst (.slice (some g) (n+k) cap)) w'):if Region.wanted o (yielded j a.tmps)=true then Oper.wp P o a w K Q else E:=by
 have F:Region.wanted o (yielded j a.tmps)=true:=by grind [Region.wanted]
 rw [if_pos F];obtain ⟨g,cap,w',M,H,I,J⟩:=po (P:=P) w t u o.type e i z y b D p C G d m r q v n xs f k A l c
 grind [Lib.wp_append_run]
theorem qp(a b:Nat)(c:a<9223372036854775808)(d:b<9223372036854775808):bits .and .i64 (a:Int) (b:Int)=((a&&&b:Nat):Int):=by
 have e:a&&&b<2^63:=Nat.and_lt_two_pow _ (by omega);show IntKind.i64.wrap ((BitVec.ofInt 64 (a:Int)&&&BitVec.ofInt 64 (b:Int)).toNat:Int)=_
 grind [IntKind.wrap_i64]
theorem rI(a b:Nat)(c:a<9223372036854775808)(d:b<9223372036854775808):bits .andNot .i64 (a:Int) (b:Int)=((a&&&(18446744073709551615-b):Nat):Int):=by
 have e:a&&&(18446744073709551615-b)<2^63:=bx el (by omega);show IntKind.i64.wrap ((BitVec.ofInt 64 (a:Int)&&& ~~~BitVec.ofInt 64 (b:Int)).toNat:Int)=_
 grind [IntKind.wrap_i64]
def ov(f:Nat->Bool):Nat->Nat
 |0=>0
 |n+1=>ov f n|||(if f n then 2^n else 0)
def iZ(f:Nat->Bool):Nat->Nat
 |0=>0
 |n+1=>iZ f n+(if f n then 1 else 0)
def gA(f:Nat->Bool):Nat->Int
 |0=> -1
 |n+1=>if f n then (n:Int) else gA f n
def eA(f:Nat->Bool):Nat->Nat->Nat
 |a,0=>a
 |a,n+1=>if f a then a else eA f (a+1) n
theorem fY(f:Nat->Bool)(n j:Nat):(ov f n).testBit j=(decide (j<n)&&f j):=by
 induction n with
 |zero=>simp [ov]
 |succ n ih=>
  rw [ov,mf,ih]
  grind
theorem Iu(f:Nat->Bool)(n:Nat):ov f n<2^n:=by
 apply Nat.lt_pow_two_of_testBit
 grind [fY]
theorem ou(f:Nat->Bool){n:Nat}(h:n<=64):ov f n<18446744073709551616:=
 bn (Iu f n) (bl (by decide) h)
theorem IM{x:Nat}{f:Nat->Bool}(a:x<18446744073709551616)(h:∀j,j<64->x.testBit j=f j):x=ov f 64:=by
 apply db;intro j;rw [fY];by_cases b:j<64
 ·grind
 ·rw [er (bn a (show 2^64<=2^j from bl (by decide) (by omega)))]
  grind
theorem rX{f g:Nat->Bool}{n:Nat}(h:∀j,j<n->f j=g j):iZ f n=iZ g n:=by
 induction n with
 |zero=>rfl
 |succ n ih=>grind [iZ]
theorem Bo{f g:Nat->Bool}{n:Nat}(h:∀j,j<n->f j=g j):ov f n=ov g n:=by
 induction n with
 |zero=>rfl
 |succ n ih=>grind [ov]
theorem vU{f g:Nat->Bool}{n:Nat}(h:∀j,j<n->f j=g j):gA f n=gA g n:=by
 induction n with
 |zero=>rfl
 |succ n ih=>grind [gA]
theorem uF(f:Nat->Bool)(n:Nat):iZ f n<=n:=by
 induction n with
 |zero=>exact ag _
 |succ n ih=>grind [iZ]
theorem ja(k a b c d:Nat)(e:b<2^k)(f:d<2^k):(2^k*a+b)&&&(2^k*c+d)=2^k*(a&&&c)+(b&&&d):=by
 apply db
 grind [Nat.and_le_left,Nat.testBit_two_pow_mul_add]
def eV(k m:Nat):Nat->Nat
 |0=>0
 |n+1=>2^k*eV k m n+m
def kH(k:Nat):Nat->Nat->Nat
 |0,_=>0
 |n+1,y=>y% 2^k+kH k n (y/2^k)
def fQ(k b:Nat):Nat->Nat->Prop
 |0,y=>y=0
 |n+1,y=>y% 2^k<=b/\fQ k b n (y/2^k)
theorem rV{k b:Nat}:∀{n y:Nat},fQ k b n y->y<2^(k*n)
 |0,y,h=>by grind [fQ]
 |n+1,y,h=>by
  have a:=rV h.2;rw [Nat.mul_succ,cT,bg];exact bn (Nat.lt_mul_of_div_lt a (gJ k)) (by grind)
theorem Cl(x:Nat):∀n,iZ (fun j=>x.testBit j) n=kH 1 n x:=by
 intro n
 induction n generalizing x with
 |zero=>rfl
 |succ n ih=>
  rw [kH,<-ih];have a:∀m,iZ (fun j=>x.testBit j) (m+1)=x% 2+iZ (fun j=>(x/2).testBit j) m:=by
   intro m
   induction m with
   |zero=>
    simp only [iZ,bq,Nat.testBit_zero]
    grind
   |succ m ihm=>
    grind [iZ]
  grind
theorem CV:∀(n x:Nat),x<2^(2*n)->kH 2 n ((x/2&&&eV 2 1 n)+(x&&&eV 2 1 n))=kH 1 (2*n) x/\fQ 2 2 n ((x/2&&&eV 2 1 n)+(x&&&eV 2 1 n))
 |0,x,_=>by simp [eV,kH,fQ]
 |n+1,x,hx=>by
  have b:x/4<2^(2*n):=by
   grind
  obtain ⟨a,c⟩:=CV n (x/4) b;have f:x/2&&&eV 2 1 (n+1)=4*((x/4)/2&&&eV 2 1 n)+(x/2% 2):=by
   have h:=ja 2 (x/2/4) (x/2% 4) (eV 2 1 n) 1 (aI _ (by decide)) (by decide)
   grind [eV]
  have g:x&&&eV 2 1 (n+1)=4*(x/4&&&eV 2 1 n)+x% 2:=by
   have h:=ja 2 (x/4) (x% 4) (eV 2 1 n) 1 (aI _ (by decide)) (by decide)
   grind [eV]
  rw [f,g];generalize (x/4)/2&&&eV 2 1 n=A at a c ⊢;generalize x/4&&&eV 2 1 n=B at a c ⊢;have d:(4*A+x/2% 2+(4*B+x% 2))/2^2=A+B:=by omega
  have e:(4*A+x/2% 2+(4*B+x% 2))% 2^2=x/2% 2+x% 2:=by omega
  refine ⟨?_,?_⟩
  ·rw [kH,d,e,a,show 2*(n+1)=2*n+1+1 by omega,kH,kH,dN]
   grind
  grind [fQ]
theorem CU:∀(n x:Nat),fQ 2 2 (2*n) x->kH 4 n ((x/4&&&eV 4 3 n)+(x&&&eV 4 3 n))=kH 2 (2*n) x/\fQ 4 4 n ((x/4&&&eV 4 3 n)+(x&&&eV 4 3 n))
 |0,x,_=>by simp [eV,kH,fQ]
 |n+1,x,hx=>by
  rw [show 2*(n+1)=2*n+1+1 by omega,fQ,fQ,dN] at hx;obtain ⟨d,c1,a⟩:=hx;simp only [Nat.reducePow,Nat.reduceMul] at d c1 a;obtain ⟨b,c⟩:=CU n (x/16) a;have g:∀z,z&&&3=z% 4:=fun z=>bH z 2
  have e:x/4&&&eV 4 3 (n+1)=16*((x/16)/4&&&eV 4 3 n)+(x/4% 4):=by
   have h:=ja 4 (x/4/16) (x/4% 16) (eV 4 3 n) 3 (aI _ (by decide)) (by decide)
   grind [eV]
  have f:x&&&eV 4 3 (n+1)=16*(x/16&&&eV 4 3 n)+x% 4:=by
   have h:=ja 4 (x/16) (x% 16) (eV 4 3 n) 3 (aI _ (by decide)) (by decide)
   grind [eV]
  rw [e,f];generalize (x/16)/4&&&eV 4 3 n=A at b c ⊢;generalize x/16&&&eV 4 3 n=B at b c ⊢;have i:(16*A+x/4% 4+(16*B+x% 4))/2^4=A+B:=by omega
  grind [kH,fQ]
theorem CT:∀(n x:Nat),fQ 4 4 (2*n) x->kH 8 n ((x/16+x)&&&eV 8 15 n)=kH 4 (2*n) x/\fQ 8 8 n ((x/16+x)&&&eV 8 15 n)
 |0,x,_=>by simp [eV,kH,fQ]
 |n+1,x,hx=>by
  rw [show 2*(n+1)=2*n+1+1 by omega,fQ,fQ,dN] at hx;obtain ⟨c,c1,a⟩:=hx;simp only [Nat.reducePow,Nat.reduceMul] at c c1 a;obtain ⟨e,f⟩:=CT n (x/256) a;have h:x/256% 16<=4:=by
   cases n with
   |zero=>grind [fQ]
   |succ n=>
    grind [fQ]
  have b:∀z,z&&&15=z% 16:=fun z=>bH z 4
  have d:(x/16+x)&&&eV 8 15 (n+1)=256*(((x/256)/16+x/256)&&&eV 8 15 n)+(x/16% 16+x% 16):=by
   have:=ja 8 ((x/256)/16+x/256) (16*(x/256% 16)+x% 256/16+x% 256) (eV 8 15 n) 15 (by omega) (by decide)
   grind [eV]
  rw [d];generalize ((x/256)/16+x/256)&&&eV 8 15 n=A at e f ⊢;have g:(256*A+(x/16% 16+x% 16))/2^8=A:=by omega
  grind [kH,fQ]
theorem Im(x:Nat)(h:fQ 8 8 8 x):
  ((x/256+x)/65536+(x/256+x))<2^63/\x/256+x<2^63/\
  (((x/256+x)/65536+(x/256+x))/4294967296+((x/256+x)/65536+(x/256+x)))<2^63/\
  (((x/256+x)/65536+(x/256+x))/4294967296+((x/256+x)/65536+(x/256+x)))% 128=kH 8 8 x:=by
 simp only [fQ,kH,Nat.reducePow] at h ⊢;obtain ⟨n,o,p,q,r,s,t,u,v⟩:=h;have e:x=256*(x/256)+x% 256:=by omega
 generalize x% 256=b0 at n e ⊢;generalize x/256=x1 at*;have f:x1=256*(x1/256)+x1% 256:=by omega
 generalize x1% 256=b1 at o f ⊢;generalize x1/256=x2 at*;have g:x2=256*(x2/256)+x2% 256:=by omega
 generalize x2% 256=b2 at p g ⊢;generalize x2/256=x3 at*;have i:x3=256*(x3/256)+x3% 256:=by omega
 generalize x3% 256=b3 at q i ⊢;generalize x3/256=x4 at*;have j:x4=256*(x4/256)+x4% 256:=by omega
 generalize x4% 256=b4 at r j ⊢;generalize x4/256=x5 at*;have k:x5=256*(x5/256)+x5% 256:=by omega
 generalize x5% 256=b5 at s k ⊢;generalize x5/256=x6 at*;have l:x6=256*(x6/256)+x6% 256:=by omega
 generalize x6% 256=b6 at t l ⊢;generalize x6/256=x7 at*;have m:x7=x7% 256:=by omega
 generalize x7% 256=b7 at u m ⊢;clear v;subst m;have a:x1=b1+256*b2+65536*b3+16777216*b4+4294967296*b5+1099511627776*b6+281474976710656*x7:=by omega
 have w:x=b0+256*b1+65536*b2+16777216*b3+4294967296*b4+1099511627776*b5+281474976710656*b6+72057594037927936*x7:=by omega
 clear e f g i j k l;have b:(x1+x)/65536=(b2+b3)+256*(b3+b4)+65536*(b4+b5)+16777216*(b5+b6)+4294967296*(b6+x7)+1099511627776*x7:=by omega
 have d:((x1+x)/65536+(x1+x))/4294967296=
   (b4+b5+b6+x7)+256*(b5+b6+x7)+65536*(b6+x7)+16777216*x7:=by rw [b];omega
 rw [d];rw [b];refine ⟨by omega,by omega,by omega,?_⟩;clear b d;obtain ⟨T,c⟩:∃T,T=(b4+b5+b6+x7)+256*(b5+b6+x7)+65536*(b6+x7)+16777216*x7+((b2+b3)+256*(b3+b4)+65536*(b4+b5)+16777216*(b5+b6)+4294967296*(b6+x7)+1099511627776*x7+(x1+x)):=⟨_,rfl⟩;obtain ⟨Q,y⟩:∃Q,T=(b0+b1+b2+b3+b4+b5+b6+x7)+256*Q:=⟨1*b1+257*b2+65793*b3+16843009*b4+4311810305*b5+1103823438081*b6+282578800148737*x7,by omega⟩;rw [<-c];clear c w a;omega
theorem Dl(x:Nat)(u:x<18446744073709551616):
  let c:=(x/2&&&6148914691236517205)+(x&&&6148914691236517205)
  let a:=(c/4&&&3689348814741910323)+(c&&&3689348814741910323)
  let d:=(a/16+a)&&&1085102592571150095
  let f:=d/256+d
  let g:=f/65536+f
  let l:=g/4294967296+g
  c<18446744073709551616/\a<2^63/\d<18446744073709551616/\f<2^63/\g<2^63/\l<2^63/\l% 128=iZ (fun j=>x.testBit j) 64:=by
 intro c a d f g l;obtain ⟨m,i⟩:=CV 32 x u;have A:eV 2 1 32=6148914691236517205:=by decide+kernel
 have B:eV 4 3 16=3689348814741910323:=by decide+kernel
 have C:eV 8 15 8=1085102592571150095:=by decide+kernel
 rw [A] at m i;obtain ⟨o,k⟩:=CU 16 c i;rw [B] at o k;obtain ⟨c1,c2⟩:=CT 8 a k;rw [C] at c1 c2;obtain ⟨p,q,r,s⟩:=Im d c2;have v:=rV i;have z:=rV c2;have w:a<2^63:=by
  have h:∀n y,fQ 4 4 n y->15*y+4<=4*16^n:=by
   intro n
   induction n with
   |zero=>intro y b;simp [fQ] at b;simp [b]
   |succ n ih=>
    intro y b;have:=ih _ b.2;have t:=b.1;rw [d9];have D:1<=16^n:=Nat.one_le_pow _ _ (by decide);simp only [Nat.reducePow] at this t;omega
  have:=h 16 a k;have e:(16:Nat)^16=18446744073709551616:=by decide+kernel
  rw [e] at this;omega
 refine ⟨v,w,z,q,p,r,?_⟩;rw [Cl];exact s.trans (c1.trans (o.trans m))
theorem oI{f g:Nat->Bool}:∀(n a:Nat),(∀j,a<=j->j<a+n->f j=g j)->eA f a n=eA g a n
 |0,_,_=>rfl
 |n+1,a,h=>by
  rw [eA,eA,h a (ag _) (by omega),oI n (a+1) (fun j b c=>h j (by omega) (by omega))]
theorem ma(a b:Nat)(x y:Int)(e:x=a)(f:y=b)(c:a<18446744073709551616)(d:b<18446744073709551616):bits .and .u64 x y=((a&&&b:Nat):Int):=by
 grind [u64_and_nat]
theorem DA(x:Nat)(c:x<18446744073709551616)(w:World):
  Calls prog 241 #[.int .u64 x] w fun e w'=>e= .returned (.int .i64 (iZ (fun j=>x.testBit j) 64:Nat))/\w=w':=by
 have a:=Dl x c;dsimp only at a;generalize iZ (fun j=>x.testBit j) 64=N at a ⊢;have d:=ma (x/2) 6148914691236517205 ((x:Int)/2) 6148914691236517205 (by omega) rfl (by omega) (by decide);have f:=ma x 6148914691236517205 (x:Int) 6148914691236517205 rfl rfl c (by decide);generalize x/2&&&6148914691236517205=A at a d;generalize x&&&6148914691236517205=B at a f;obtain ⟨q,r,s,t,u,v,b⟩:=a;have m:=ma ((A+B)/4) 3689348814741910323 (((A:Int)+B)/4) 3689348814741910323 (by omega) rfl (by omega) (by decide);have n:=ma (A+B) 3689348814741910323 ((A:Int)+B) 3689348814741910323 (by omega) rfl (by omega) (by decide);generalize (A+B)/4&&&3689348814741910323=C at*;generalize (A+B)&&&3689348814741910323=D at*;have o:=ma ((C+D)/16+(C+D)) 1085102592571150095 (((C:Int)+D)/16+(C+D)) 1085102592571150095 (by omega) rfl (by omega) (by decide);generalize ((C+D)/16+(C+D))&&&1085102592571150095=E at*;have p:bits .and .i64 ((E:Int)+E/256+((E:Int)+E/256)/65536+((E:Int)+E/256+((E:Int)+E/256)/65536)/4294967296) 127=N:=by
  have h:=qp (((E/256+E)/65536+(E/256+E))/4294967296+((E/256+E)/65536+(E/256+E))) 127 (by omega) (by decide);rw [show ((127:Nat):Int)=127 from rfl,bH _ 7,show (2:Nat)^7=128 from rfl,b] at h;rw [<-h];have g:(E:Int)+E/256=((E/256+E:Nat):Int):=by omega
  rw [g];generalize E/256+E=F;have i:(F:Int)+F/65536=((F/65536+F:Nat):Int):=by omega
  rw [i];generalize F/65536+F=G;have k:(G:Int)+G/4294967296=((G/4294967296+G:Nat):Int):=by omega
  rw [k]
 have l:=ae b;clear b
 go_enter func241,ntmps241
 go_wp2;go_ret;exact ⟨rfl,rfl⟩
def jz(a b:Int)(j:Nat):Bool:=decide (a<=(j:Int))&&decide ((j:Int)<b)
def zT(x:Nat)(a b:Int)(j:Nat):Bool:=decide (a<=(j:Int))&&(decide ((j:Int)<b)&&x.testBit j)
def oG(x:Nat)(a:Int)(j:Nat):Bool:=decide (a<=(j:Int))&&x.testBit j
def l8(x:Nat)(b:Int)(j:Nat):Bool:=decide ((j:Int)<b)&&x.testBit j
theorem xC{x:Nat}(b:x<18446744073709551616){j:Nat}(a:64<=j):x.testBit j=false:=
 er (bn b (show 2^64<=2^j from bl (by decide) a))
theorem FF(A B:Nat)(f:A<B)(i:B<=64):
  IntKind.u64.wrap (18446744073709551615/2^(64-B+A)*2^A)=((ov (fun j=>decide (A<=j)&&decide (j<B)) 64:Nat):Int):=by
 rw [show 64-B+A=64-(B-A) by omega];obtain ⟨d,g⟩:∃d,B-A=d:=⟨_,rfl⟩;rw [g];have h:(18446744073709551615:Nat)/2^(64-d)=2^d-1:=by
  have hp:2^d*2^(64-d)=18446744073709551616:=by rw [<-cT,show d+(64-d)=64 by omega]
  have b:0<2^d:=gJ d;have a:0<2^(64-d):=gJ _;apply Nat.div_eq_of_lt_le
  ·grind [Nat.sub_mul]
  grind
 have c:(2^d-1)*2^A<18446744073709551616:=by
  have:2^d*2^A<=2^64:=by rw [<-cT];exact bl (by decide) (by omega)
  grind [Nat.sub_mul]
 have e:(18446744073709551615:Int)/2^(64-d)*2^A=(((2^d-1)*2^A:Nat):Int):=by
  grind
 rw [e,IntKind.wrap_u64,<-IM c]
 ·omega
 grind
theorem qr{f:Nat->Bool}:∀{n a:Nat},(∀j,a<=j->j<a+n->f j=false)->eA f a n=a+n
 |0,_,_=>rfl
 |n+1,a,h=>by
  rw [eA,h a (ag _) (by omega)];simp only [dF,if_false];rw [qr (fun j b c=>h j (by omega) (by omega))];omega
theorem tC{f:Nat->Bool}:∀{n a p:Nat},a<=p->p<a+n->f p=true->(∀j,a<=j->j<p->f j=false)->eA f a n=p
 |0,a,p,h1,h2,_,_=>by omega
 |n+1,a,p,h1,h2,h3,h4=>by
  rw [eA];by_cases h:a=p
  ·grind
  ·rw [h4 a (ag _) (by omega)];simp only [dF,if_false];exact tC (by omega) (by omega) h3 (fun j c b=>h4 j (by omega) b)
theorem B3(x:Nat)(c:x<18446744073709551616)(d:x≠0):∃k m,k<64/\x=2^k*(2*m+1)/\eA (fun j=>x.testBit j) 0 64=k:=by
 obtain ⟨m,a,b⟩:=Lib.ctzFrom_spec 64 x (by omega) c;generalize Lib.ctzFrom 64 x=k at a b;refine ⟨k,m,b,a,tC (ao _) (by omega) ?_ ?_⟩
 ·grind
 grind
theorem wP(x:Nat):∀n,x<2^n->gA (fun j=>x.testBit j) n=(Lib.bitLenAux n x:Int)-1:=by
 intro n
 induction n generalizing x with
 |zero=>grind [gA,Lib.bitLenAux]
 |succ n ih=>
  intro h;have a:x/2<2^n:=by omega
  have b:∀m,gA (fun j=>x.testBit j) (m+1)=if gA (fun j=>(x/2).testBit j) m= -1 then (if x% 2=1 then 0 else-1) else gA (fun j=>(x/2).testBit j) m+1:=by
   intro m
   induction m with
   |zero=>simp [gA]
   |succ m ihm=>
    have e:gA (fun j=>x.testBit j) (m+1+1)=if x.testBit (m+1) then ((m+1:Nat):Int) else gA (fun j=>x.testBit j) (m+1):=rfl
    have f:gA (fun j=>(x/2).testBit j) (m+1)=if (x/2).testBit m then (m:Int) else gA (fun j=>(x/2).testBit j) m:=rfl
    grind
  rw [b,ih _ a,Lib.bitLenAux];by_cases c:x=0
  ·subst c;have:Lib.bitLenAux n 0=0:=by cases n<;>simp [Lib.bitLenAux]
   grind
  ·rw [if_neg c];by_cases d:x/2=0
   ·omega
   ·have:0<Lib.bitLenAux n (x/2):=by
     cases n with
     |zero=>omega
     |succ n=>rw [Lib.bitLenAux,if_neg d];omega
    omega
def bV(n:Int):Bool:=(List.range 63).any fun i=>n==2^i
theorem iJ(n:Int):bV n=true↔∃i,i<63/\n=2^i:=by
 simp [bV]
theorem FI(n:Nat)(c:0<n)(f:n<9223372036854775808):(n&&&(n-1)=0)↔∃i,i<63/\n=2^i:=by
 constructor
 ·intro h;obtain ⟨m,a,b⟩:=Lib.ctzFrom_spec 63 n c f;generalize Lib.ctzFrom 63 n=k at a b;refine ⟨k,b,?_⟩;rcases dB m with d|d
  ·grind
  ·exfalso;obtain ⟨p,hp⟩:∃p,m.testBit p=true:=Nat.exists_testBit_of_ne_zero (by omega);have e:n-1=2^k*(2*m)+(2^k-1):=by
    grind
   have g:n.testBit (k+(p+1))=true:=by
    rw [a,Nat.testBit_two_pow_mul];simp only [show k<=k+(p+1) by omega,decide_true,cH,show k+(p+1)-k=p+1 by omega]
    grind
   have j:(n-1).testBit (k+(p+1))=true:=by
    rw [e,jt _ (by grind),if_neg (by omega),show k+(p+1)-k=p+1 by omega,Nat.testBit_succ,show 2*m/2=m by omega];exact hp
   have:=congrArg (fun z=>Nat.testBit z (k+(p+1))) h
   grind
 simp_all
theorem uJ(n k:Nat)(d:n<9223372036854775808)(c:k<=30):n&&&(18446744073709551615-(2^k-1))=n/2^k*2^k:=by
 apply db;intro j;have hp:2^k<=2^30:=bl (by decide) c;have a:0<2^k:=gJ k;rw [eH,Nat.testBit_mul_two_pow,Nat.testBit_div_two_pow];have e:18446744073709551615-(2^k-1)=2^64-((2^k-1)+1):=by omega
 rw [e,ek (by omega),fT];by_cases b:k<=j
 ·simp only [b,decide_true,cH,show j-k+k=j by omega,show¬j<k by omega,decide_false,Bool.not_false]
  grind [xC]
 grind
theorem uG(n:Int)(A:Nat)(c:min (max n 0) 64=(A:Int))(w:World):
  Calls prog 248 #[(n:Int)] w fun e w'=>e= .returned (A:Int)/\w=w':=by
 by_cases a:n<0
 ·have e:A=0:=by omega
  subst e
  go_enter func248,ntmps248
  go_wp2;go_ret;exact ⟨rfl,rfl⟩
 ·by_cases b:64<n
  ·have e:A=64:=by omega
   subst e
   go_enter func248,ntmps248
   go_wp2;go_ret;exact ⟨rfl,rfl⟩
  ·have e:n=A:=by omega
   subst e;have d:A<=64:=by omega
   clear a b c
   go_enter func248,ntmps248
   go_wp2;go_ret;exact ⟨congrArg (fun z=>Ending.returned (z:Int)) (by omega:min (A:Int) 64=A),rfl⟩
theorem Am(n:Int):∃A:Nat,min (max n 0) 64=(A:Int)/\A<=64/\∀j:Nat,j<64->((n<=(j:Int))↔A<=j)/\(((j:Int)<n)↔j<A):=
 ⟨(min (max n 0) 64).toNat,by omega,by omega,fun j a=>⟨by omega,by omega⟩⟩
theorem qD(a b:Int)(w:World):
  Calls prog 240 #[(a:Int),(b:Int)] w fun e w'=>e= .returned (.int .u64 ((ov (jz a b) 64:Nat):Int))/\w=w':=by
 obtain ⟨A,i,r,g⟩:=Am a;obtain ⟨B,k,q,h⟩:=Am b;have d:=ae i;have f:=ae k;have hf:ov (jz a b) 64=ov (fun j=>decide (A<=j)&&decide (j<B)) 64:=Bo (fun j l=>by
  unfold jz;rw [bM];simp only [ak,decide_eq_true_eq,(g j l).1,(h j l).2])
 rw [hf];clear i k g h hf;by_cases c:A<B
 ·have m:=FF A B c q;generalize p:ov (fun j=>decide (A<=j)&&decide (j<B)) 64=v at*;clear p;have n:=ae m;clear m
  go_enter func240,ntmps240
  go_wp2_with fail
  refine (uG a A d.out _).mono ?_;rintro e w' ⟨rfl,rfl⟩;go_wp2_with fail
  refine (uG b B f.out _).mono ?_;rintro e w' ⟨rfl,rfl⟩;go_wp2;go_ret;exact ⟨congrArg (fun z=>Ending.returned (.int .u64 z)) n.out,rfl⟩
 ·have o:ov (fun j=>decide (A<=j)&&decide (j<B)) 64=0:=by
   apply db;intro j;rw [fY,Nat.zero_testBit,bt];simp only [ne_eq,ak,decide_eq_true_eq];omega
  rw [o]
  go_enter func240,ntmps240
  go_wp2_with fail
  refine (uG a A d.out _).mono ?_;rintro e w' ⟨rfl,rfl⟩;go_wp2_with fail
  refine (uG b B f.out _).mono ?_;rintro e w' ⟨rfl,rfl⟩;go_wp2;go_ret;exact ⟨rfl,rfl⟩
theorem pN(x:Nat)(h:x<18446744073709551616)(a b:Int)(w:World):
  Calls prog 226 #[.int .u64 x,(a:Int),(b:Int)] w fun e w'=>e= .returned (.int .i64 ((iZ (zT x a b) 64:Nat):Int))/\w=w':=by
 have g:=ou (jz a b) (ag 64);have l:=u64_and_nat x (ov (jz a b) 64) h g;have c:x&&&ov (jz a b) 64<18446744073709551616:=bx el h;have d:iZ (zT x a b) 64=iZ (fun j=>(x&&&ov (jz a b) 64).testBit j) 64:=rX (fun j k=>by
  rw [eH,fY];unfold zT jz;simp only [k,decide_true,cH]
  cases x.testBit j<;>simp)
 rw [d];have f:=qD a b w;generalize ov (jz a b) 64=v at*;generalize x&&&v=y at*;clear d g;have i:=ae f;clear f
 go_enter func226,ntmps226
 go_wp2_with fail
 refine i.out.mono ?_;rintro e w' ⟨rfl,rfl⟩;go_wp2_with fail
 refine (DA y c _).mono ?_;rintro e w' ⟨rfl,rfl⟩;go_wp2;go_ret;exact ⟨rfl,rfl⟩
def FB:List Nat:=[0,1,56,2,57,49,28,3,61,58,42,50,38,29,17,4,62,47,59,36,45,43,51,22,53,39,33,30,24,18,12,5,63,55,48,27,60,41,37,16,46,35,44,21,52,32,23,11,54,26,40,15,34,20,31,10,25,14,19,9,13,8,7,6]
def ee(w:World):Prop:=∀(i k:Nat),FB[i]? =some k->w.cell? ⟨1,i,none⟩=some (.int .u8 k)
theorem Il:∀k,k<64->FB[2^k*285870213051353865% 18446744073709551616/288230376151711744]? =some k:=by decide+kernel
theorem Ii(x k:Nat)(d:x<18446744073709551616)(m:Nat)(h:x=2^k*(2*m+1)):
  IntKind.u64.wrap (bits BinOp.and IntKind.u64 (x:Int) (IntKind.u64.wrap (-(x:Int)))*285870213051353865)/288230376151711744=((2^k*285870213051353865% 18446744073709551616/288230376151711744:Nat):Int):=by
 have a:0<x:=by grind
 have b:IntKind.u64.wrap (-(x:Int))=((18446744073709551616-x:Nat):Int):=by grind [IntKind.wrap_u64]
 have c:x&&&(18446744073709551616-x)=2^k:=by
  have:=Lib.and_neg 64 k m (by omega)
  grind
 rw [b,u64_and_nat x _ d (by omega),c,IntKind.wrap_u64];omega
theorem Jd(x:Nat)(e:x<18446744073709551616)(f:x≠0):∃k ec:Nat,eA (fun j=>x.testBit j) 0 64=k/\k<64/\ec<64/\FB[ec]? =some k/\
  IntKind.u64.wrap (bits BinOp.and IntKind.u64 (x:Int) (IntKind.u64.wrap (-(x:Int)))*285870213051353865)/288230376151711744=(ec:Int):=by
 obtain ⟨k,m,d,b,hf⟩:=B3 x e f;have c:=Il k d;have a:=(aj.1 c).1;exact ⟨k,_,hf,d,a,c,Ii x k e m b⟩
theorem Fx(x k ec:Nat)(w:World)(f:((x:Int)==0)=false)(d:k<64)(c:ec<64)(a:w.cell? ⟨1,ec,none⟩=some (.int .u8 k))
  (b:IntKind.u64.wrap (bits BinOp.and IntKind.u64 (x:Int) (IntKind.u64.wrap (-(x:Int)))*285870213051353865)/288230376151711744=(ec:Int)):
  Calls prog 239 #[.int .u64 x] w fun e w'=>e= .returned (k:Int)/\w=w':=by
 go_enter func239,ntmps239
 go_wp2_with (simp only [b])
 go_ret;exact ⟨rfl,rfl⟩
theorem Fv(w:World):
  Calls prog 239 #[.int .u64 0] w fun e w'=>e= .returned (64:Int)/\w=w':=by
 go_enter func239,ntmps239
 go_wp2;go_ret;exact ⟨rfl,rfl⟩
theorem Ij(x:Nat)(h:x<18446744073709551616)(w:World)(d:ee w):
  Calls prog 239 #[.int .u64 x] w fun e w'=>e= .returned (.int .i64 ((eA (fun j=>x.testBit j) 0 64:Nat):Int))/\w=w':=by
 by_cases c:x=0
 ·grind [qr,Fv]
 ·obtain ⟨k,ec,hf,g,a,f,b⟩:=Jd x h c;rw [hf];exact Fx x k ec w (by grind) g a (d ec k f) b
theorem DI(x:Nat)(h:x<18446744073709551616)(a:Int)(w:World)(c:ee w):
  Calls prog 223 #[.int .u64 x,(a:Int)] w fun e w'=>e= .returned (.int .i64 ((eA (oG x a) 0 64:Nat):Int))/\w=w':=by
 have g:=ou (jz a 64) (ag 64);have l:=u64_and_nat x (ov (jz a 64) 64) h g;have b:x&&&ov (jz a 64) 64<18446744073709551616:=bx el h;have d:eA (oG x a) 0 64=eA (fun j=>(x&&&ov (jz a 64) 64).testBit j) 0 64:=oI 64 0 (fun j _ m=>by
  rw [eH,fY];unfold oG jz;simp only [show j<64 by omega,show (j:Int)<64 by omega,decide_true,cH,Bool.and_true]
  cases x.testBit j<;>simp)
 rw [d];have f:=qD a 64 w;generalize ov (jz a 64) 64=v at*;generalize x&&&v=y at*;clear d g;have k:=ae f;clear f;have i:=ae c;clear c
 go_enter func223,ntmps223
 go_wp2_with fail
 refine k.out.mono ?_;rintro e w' ⟨rfl,rfl⟩;go_wp2_with fail
 refine (Ij y b _ i.out).mono ?_;rintro e w' ⟨rfl,rfl⟩;go_wp2;go_ret;exact ⟨rfl,rfl⟩
theorem D0(x:Nat)(h:x<18446744073709551616)(b:Int)(w:World):
  Calls prog 245 #[.int .u64 x,(b:Int)] w fun e w'=>e= .returned (.int .i64 (gA (l8 x b) 64))/\w=w':=by
 have g:=ou (jz 0 b) (ag 64);have o:=u64_and_nat x (ov (jz 0 b) 64) h g;have c:x&&&ov (jz 0 b) 64<18446744073709551616:=bx el h;have d:gA (l8 x b) 64=gA (fun j=>(x&&&ov (jz 0 b) 64).testBit j) 64:=vU (fun j l=>by
  rw [eH,fY];unfold l8 jz;simp only [l,show (0:Int)<=(j:Int) by omega,decide_true,cH]
  cases x.testBit j<;>simp)
 rw [d];have f:=qD 0 b w;generalize ov (jz 0 b) 64=v at*;generalize x&&&v=y at*;rw [wP y 64 c];clear d g;have k:=ae f;clear f;have a:=Tryz.bits_Len64 (y:Int) w (by omega) (by omega);rw [eP] at a;change Calls prog 178 #[.int .u64 y] w (fun e w'=>e= .returned (.int .i64 (Lib.bitLenAux 64 y:Nat))/\w'=w) at a;have p:Lib.bitLenAux 64 y<=64:=by
  have:∀n z,Lib.bitLenAux n z<=n:=by
   intro n
   induction n with
   |zero=>intro z;simp [Lib.bitLenAux]
   |succ n ih=>intro z;rw [Lib.bitLenAux];split;omega;have:=ih (z/2);omega
  exact this 64 y
 generalize Lib.bitLenAux 64 y=n at*;have i:=ae a;clear a
 go_enter func245,ntmps245
 go_wp2_with fail
 refine k.out.mono ?_;rintro e w' ⟨rfl,rfl⟩;go_wp2_with fail
 refine i.out.mono ?_;rintro e w' ⟨rfl,m⟩;subst m;go_wp2;go_ret;exact ⟨rfl,rfl⟩
theorem A9(n:Int)(g:n<=9223372036854775807)(w:World):
  Calls prog 140 #[(n:Int)] w fun e w'=>e= .returned (.bool (bV n))/\w=w':=by
 by_cases d:n<=0
 ·have hp:bV n=false:=by
   rw [bt,ne_eq,iJ];rintro ⟨i,_,h⟩;have:(0:Int)<2^i:=Int.pow_pos (by decide);omega
  rw [hp]
  go_enter func140,ntmps140
  go_wp2;go_ret;exact ⟨rfl,rfl⟩
 ·obtain ⟨m,rfl⟩:=b8 (show 0<=n by omega);have c:0<m:=by omega
  have a:m<9223372036854775808:=by omega
  have hp:bV (m:Int)=((((m&&&(m-1):Nat):Int))==0):=by
   rw [bM,iJ,beq_iff_eq,Int.natCast_eq_zero,FI m c a];constructor
   ·rintro ⟨i,b,h⟩;exact ⟨i,b,by
     have:((2^i:Nat):Int)=2^i:=by simp
     omega⟩
   ·rintro ⟨i,b,h⟩;exact ⟨i,b,by subst h;simp⟩
  have f:bits .and .i64 (m:Int) ((m:Int)-1)=((m&&&(m-1):Nat):Int):=by
   rw [show (m:Int)-1=((m-1:Nat):Int) by omega];exact qp m (m-1) a (by omega)
  rw [hp];generalize m&&&(m-1)=q at*;clear hp d
  go_enter func140,ntmps140
  go_wp2;go_ret;exact ⟨rfl,rfl⟩
def Ic(n unit:Int):Prop:=bV unit=true/\unit<=1073741824/\0<=n/\n<=1152921504606846976
theorem jU(n:Int)(a:n<=9223372036854775807)(B:Bool)(b:bV n=B)(w:World):
  Calls prog 140 #[(n:Int)] w fun e w'=>e= .returned (.bool B)/\w=w':=by grind [A9]
theorem Jc{n a:Int}(h:¬Ic n a):bV a=false\/(bV a=true/\1073741824<a)\/(bV a=true/\a<=1073741824/\n<0)\/(bV a=true/\a<=1073741824/\0<=n/\1152921504606846976<n):=by
 unfold Ic at h
 grind
theorem GD(n a:Int)(f:a<=9223372036854775807)(h:¬Ic n a)(w:World):
  Calls prog 191 #[(n:Int),(a:Int)] w fun e w'=>e= .returned (.bool false)/\w=w':=by
 rcases Jc h with h|⟨h,b⟩|⟨h,b,d⟩|⟨h,b,d,g⟩
 all_goals
  have c:=ae h;clear h
  go_enter func191,ntmps191
  go_wp2_with (go_at_call 140;refine (jU a f _ c.out _).mono ?_;rintro e w' ⟨rfl,rfl⟩)
  go_ret
  first|exact ⟨rfl,rfl⟩|exact ⟨by simp;omega,rfl⟩
theorem ED(n a:Int)(h:Ic n a)(w:World):
  Calls prog 191 #[(n:Int),(a:Int)] w fun e w'=>e= .returned (.bool true)/\w=w':=by
 obtain ⟨h,c,d,f⟩:=h;have b:=ae h;clear h
 go_enter func191,ntmps191
 go_wp2_with (go_at_call 140;refine (jU a (by omega) _ b.out _).mono ?_;rintro e w' ⟨rfl,rfl⟩)
 go_ret
 first|exact ⟨rfl,rfl⟩|exact ⟨by simp;omega,rfl⟩
noncomputable def nD(n unit:Int)(up:Bool):Int:=
 open Classical in if Ic n unit then (if up then (n+unit-1)/unit*unit else n/unit*unit) else-1
theorem A3{n a:Int}(h:Ic n a):∃N k:Nat,n=N/\a=((2^k:Nat):Int)/\k<=30/\N<=1152921504606846976/\2^k<=1073741824/\1<=2^k:=by
 obtain ⟨h,f,c,g⟩:=h;obtain ⟨i,j,rfl⟩:=(iJ a).1 h;obtain ⟨N,rfl⟩:=b8 c;have e:((2^i:Nat):Int)=2^i:=by simp
 have d:2^i<=1073741824:=by omega
 have b:i<=30:=by
  rcases aN 30 i with h|h
  ·have:2^31<=2^i:=bl (by decide) h;omega
  omega
 grind
theorem Ih(n a:Int)(i:a<=9223372036854775807)(w:World):
  Calls prog 159 #[(n:Int),(a:Int)] w fun e w'=>e= .returned (.int .i64 (nD n a true))/\w=w':=by
 by_cases h:Ic n a
 ·have b:nD n a true=(n+a-1)/a*a:=by unfold nD;rw [if_pos h];rfl
  rw [b];have hf:=ae h;obtain ⟨N,k,rfl,rfl,f,j,hp,g⟩:=A3 h;have c:=rI (N+2^k-1) (2^k-1) (by omega) (by omega);rw [uJ (N+2^k-1) k (by omega) f] at c;have d:(((N+2^k-1)/2^k*2^k:Nat):Int)=((N:Int)+(2^k:Nat)-1)/(2^k:Nat)*(2^k:Nat):=by
   rw [fI,Int.natCast_ediv,show ((N+2^k-1:Nat):Int)=(N:Int)+(2^k:Nat)-1 by omega]
  rw [d,show ((N+2^k-1:Nat):Int)=(N:Int)+(2^k:Nat)-1 by omega,show ((2^k-1:Nat):Int)=((2^k:Nat):Int)-1 by omega] at c;clear b h d;generalize 2^k=u at*;generalize ((N:Int)+u-1)/u*u=r at*
  go_enter func159,ntmps159
  go_wp2_with (go_at_call 191;refine (ED _ _ hf.out _).mono ?_;rintro e w' ⟨rfl,rfl⟩)
  go_ret;exact ⟨rfl,rfl⟩
 ·have b:nD n a true= -1:=by unfold nD;rw [if_neg h]
  rw [b];have hf:=ae h;clear b h
  go_enter func159,ntmps159
  go_wp2_with (go_at_call 191;refine (GD _ _ i hf.out _).mono ?_;rintro e w' ⟨rfl,rfl⟩)
  go_ret;exact ⟨rfl,rfl⟩
def kR(f:Nat->Bool)(a:Nat):Nat->Nat
 |0=>0
 |k+1=>kR f a k+(if f (a+k) then 1 else 0)
def Qc(f:Nat->Bool)(a b:Nat):Nat:=kR f a (b-a)
theorem eL(f:Nat->Bool){a b:Nat}(h:b<=a):Qc f a b=0:=by unfold Qc;rw [show b-a=0 by omega];rfl
theorem bJ(f:Nat->Bool){a b:Nat}(h:a<=b):Qc f a (b+1)=Qc f a b+(if f b then 1 else 0):=by
 unfold Qc;rw [show b+1-a=(b-a)+1 by omega]
 grind [kR]
theorem wJ(f:Nat->Bool)(a k:Nat):∀m,kR f a (k+m)=kR f a k+kR f (a+k) m
 |0=>rfl
 |m+1=>by
  show kR f a (k+m)+(if f (a+(k+m)) then 1 else 0)=kR f a k+(kR f (a+k) m+(if f (a+k+m) then 1 else 0))
  rw [wJ f a k m,cv a k m,cv]
theorem bp(f:Nat->Bool){a m b:Nat}(c:a<=m)(d:m<=b):Qc f a b=Qc f a m+Qc f m b:=by
 unfold Qc;rw [show b-a=(m-a)+(b-m) by omega,wJ,show a+(m-a)=m by omega]
theorem Al(f:Nat->Bool)(a:Nat):∀k,kR f a k<=k
 |0=>ag _
 |k+1=>by
  have:=Al f a k
  grind [kR]
theorem dA(f:Nat->Bool)(a b:Nat):Qc f a b<=b-a:=Al f a (b-a)
theorem rY{f g:Nat->Bool}{a:Nat}:∀k,(∀i,a<=i->i<a+k->f i=g i)->kR f a k=kR g a k
 |0,_=>rfl
 |k+1,h=>by
  show kR f a k+(if f (a+k) then 1 else 0)=kR g a k+(if g (a+k) then 1 else 0)
  rw [rY k (fun i b c=>h i b (by omega)),h (a+k) (by omega) (by omega)]
theorem bY{f g:Nat->Bool}{a b:Nat}(h:∀i,a<=i->i<b->f i=g i):Qc f a b=Qc g a b:=
 rY (b-a) (fun i c d=>h i c (by omega))
theorem it(f:Nat->Bool){a b c:Nat}(h:b<=c):Qc f a b<=Qc f a c:=by
 grind [bp,eL]
theorem bP{f:Nat->Bool}{a b:Nat}(h:∀i,a<=i->i<b->f i=false):Qc f a b=0:=by
 rw [bY (g:=fun _=>false) h];unfold Qc;generalize b-a=k
 induction k with
 |zero=>rfl
 |succ k ih=>grind [kR]
theorem pO{f:Nat->Bool}{a b:Nat}(h:∀i,a<=i->i<b->f i=true):Qc f a b=b-a:=by
 rw [bY (g:=fun _=>true) h];unfold Qc;generalize b-a=k
 induction k with
 |zero=>rfl
 |succ k ih=>grind [kR]
theorem uq(f:Nat->Bool)(a:Nat):∀(b k:Nat),k<Qc f a b->∃i,a<=i/\i<b/\f i=true/\Qc f a i=k
 |0,k,h=>by rw [eL f (ao a)] at h;omega
 |b+1,k,h=>by
  by_cases c:a<=b
  ·rw [bJ f c] at h;by_cases d:k<Qc f a b
   ·obtain ⟨i,e,g,j,l⟩:=uq f a b k d
    grind
   grind
  grind [eL]
theorem rp{f:Nat->Bool}{a i j:Nat}(m:a<=i)(n:a<=j)(g:f i=true)(k:f j=true)(h:Qc f a i=Qc f a j):i=j:=by
 rcases cW i j with e|l|d
 ·have:=it f (a:=a) (b:=i+1) (c:=j) e;rw [bJ f m,if_pos g] at this;omega
 ·omega
 ·have:=it f (a:=a) (b:=j+1) (c:=i) d;rw [bJ f n,if_pos k] at this;omega
theorem pP{f:Nat->Bool}{a i b:Nat}(g:a<=i)(e:i<b)(d:f i=true):Qc f a i<Qc f a b:=by
 have:=it f (a:=a) (b:=i+1) (c:=b) e;rw [bJ f g,if_pos d] at this;omega
def lT(f:Nat->Bool)(a n i:Nat):Prop:=a<=i/\i<n/\f i=true/\∀j,a<=j->j<i->f j=false
def eK(ws:List Nat):List Value:=ws.map fun (x:Nat)=>Value.int .u64 x
def aZ(ws:List Nat)(i:Nat):Bool:=(ws.getD (i/64) 0).testBit (i% 64)
structure cP(w:World)(b g n:Nat)(ws:List Nat):Prop where
 Qd:∃c,ws.length<=c/\ay w b [.slice (some g) ws.length c,(n:Int)] 264
 row:∃rest,ay w g (eK ws++rest) 34
 ne:b≠g
 len:ws.length=(n+63)/64
 lt:∀x∈ws,x<18446744073709551616
 one:1<=n
 small:n<=1048576
 off:∀i,n<=i->aZ ws i=false
theorem cP.frame{S:Nat->Prop}{w w':World}{b g n:Nat}{ws:List Nat}(h:cP w b g n ws)(hf:Fr S w w')(a:¬S b)(hg:¬S g):cP w' b g n ws:=
 ⟨let ⟨c,d,e⟩:=h.Qd;⟨c,d,e.frame hf a⟩,let ⟨r,q⟩:=h.row;⟨r,q.frame hf hg⟩,h.ne,h.len,h.lt,h.one,h.small,h.off⟩
theorem cP.c0{w:World}{b g n:Nat}{ws:List Nat}(h:cP w b g n ws):∃c,ws.length<=c/\w.cell? b=some (.slice (some g) ws.length c):=let ⟨c,a,d⟩:=h.Qd;⟨c,a,d.cell 0 rfl⟩
theorem cP.c1{w:World}{b g n:Nat}{ws:List Nat}(h:cP w b g n ws):w.cell? ⟨b,1,none⟩=some (n:Int):=let ⟨_,_,a⟩:=h.Qd;a.cell 1 rfl
theorem cP.at{w:World}{b g n K x:Nat}{ws:List Nat}(h:cP w b g n ws)(a:ws[K]? =some x):w.cell? ⟨g,K,none⟩=some (.int .u64 x):=by
 obtain ⟨r,q⟩:=h.row;have c:=(aj.1 a).1;exact q.cell K (by grind [eK])
theorem cP.free{w:World}{b g n:Nat}{ws:List Nat}(h:cP w b g n ws)(K:Nat):w.frozen? ⟨g,K,none⟩=false:=let ⟨_,q⟩:=h.row;q.free K
theorem cP.blt{w:World}{b g n:Nat}{ws:List Nat}(h:cP w b g n ws):b<w.heap.size:=let ⟨_,_,a⟩:=h.Qd;a.lt
theorem cP.Ze{w:World}{b g n:Nat}{ws:List Nat}(h:cP w b g n ws):g<w.heap.size:=let ⟨_,q⟩:=h.row;q.lt
theorem cP.word{w:World}{b g n i:Nat}{ws:List Nat}(h:cP w b g n ws)(d:i<n):∃x,ws[i/64]? =some x/\x<18446744073709551616/\w.cell? ⟨g,i/64,none⟩=some (.int .u64 x)/\aZ ws i=x.testBit (i% 64):=by
 have c:i/64<ws.length:=by rw [h.len];omega
 obtain ⟨x,a⟩:∃x,ws[i/64]? =some x:=⟨_,aC c⟩;refine ⟨x,a,h.lt x (ar a),h.at a,?_⟩
 grind [aZ]
theorem lF{w:World}{b g n:Nat}{ws:List Nat}(h:cP w b g n ws):Calls prog 197 #[b] w fun e w'=>e= .returned (n:Int)/\w=w':=by
 have c1:=h.c1;clear h
 go_enter func197,ntmps197
 go_wp2;go_ret;exact ⟨rfl,rfl⟩
def FX(n:Nat)(i:Int):Bool:=decide (0<=i/\i<n)
theorem qS{w:World}{b g n:Nat}{ws:List Nat}(h:cP w b g n ws)(i:Int):Calls prog 237 #[b,(i:Int)] w fun e w'=>e= .returned (.int .i64 (if FX n i then 0 else 11))/\w=w':=by
 have c1:=h.c1;clear h;by_cases c:i<0
 ·have a:(if FX n i then (0:Int) else 11)=11:=if_neg (by unfold FX;simp;omega);rw [a];clear a
  go_enter func237,ntmps237
  go_wp2;go_ret;exact ⟨rfl,rfl⟩
 ·by_cases d:(n:Int)<=i
  ·have a:(if FX n i then (0:Int) else 11)=11:=if_neg (by unfold FX;simp;omega);rw [a];clear a
   go_enter func237,ntmps237
   go_wp2;go_ret;exact ⟨rfl,rfl⟩
  ·have a:(if FX n i then (0:Int) else 11)=0:=if_pos (by unfold FX;simp;omega);rw [a];clear a
   go_enter func237,ntmps237
   go_wp2;go_ret;exact ⟨rfl,rfl⟩
theorem GS(x k:Nat)(b:x<18446744073709551616):(bits .and .u64 ((x:Int)/2^k) 1==1)=x.testBit k:=by
 have a:x/2^k<=x:=aX _ _;have h:=u64_and_nat (x/2^k) 1 (by omega) (by decide)
 grind
theorem CL{w:World}{b g n i:Nat}{ws:List Nat}(h:cP w b g n ws)(f:i<n):Calls prog 221 #[b,(i:Int)] w fun e w'=>e= .returned (.bool (aZ ws i))/\w=w':=by
 have d:=ae (qS h (i:Int));rw [if_pos (by unfold FX;simp;omega)] at d;obtain ⟨x,k,c,o,a⟩:=h.word f;obtain ⟨C,m,l⟩:=h.c0;have p:i/64<ws.length:=by rw [h.len];omega
 have j:=h.small;rw [a];generalize ws.length=L at*;clear h a k;have q:(i:Int).tdiv 64=((i/64:Nat):Int):=rfl;have r:(i:Int).tmod 64=((i% 64:Nat):Int):=rfl
 go_enter func221,ntmps221
 go_wp2_with fail
 refine d.out.mono ?_;rintro e w' ⟨rfl,rfl⟩;go_wp2;go_ret;refine ⟨?_,rfl⟩;rw [<-GS x (i% 64) c];rfl
theorem oD:(prog.info? 34).map (fun i=>(i.zero,i.size,i.bytes))=some (some (.int .u64 0),1,8):=by kernel_rfl
theorem oz(v:Value)(n:Nat):madeCells #[v] n=Array.replicate n v:=by
 apply Array.ext
 ·simp [madeCells]
 ·intro i a b;simp [madeCells,Nat.mod_one]
theorem vP(k:Nat)(g:k<=16777216)(X:Int)(a:X=(k:Int))(w:World):(Instr.makeSlice 25 (.int .i64 X) (.int .i64 X)).run prog w= .ok (.slice (some w.heap.size) k k) (w.alloc (.cells (eK (List.replicate k 0)).toArray 34)):=by
 obtain ⟨e,b,d,c,f⟩:=info_parts oD;subst a;have h:=run_makeSlice (P:=prog) w 25 34 e (.int .u64 0) underlying25 b d .i64 .i64 (k:Int) (k:Int) (by omega) (mx _) (by grind) (by grind) (by omega);rw [c,eP,fu,show (Value.int .u64 0).cells= #[.int .u64 0] from rfl,oz] at h
 grind [eK,List.map_replicate]
theorem oL(k i:Nat):aZ (List.replicate k 0) i=false:=by
 grind [aZ]
theorem zo(n:Nat)(d:1<=n)(f:n<=1048576)(w:World):Calls prog 169 #[(n:Int)] w fun e w'=>∃b g,e= .returned (.tuple #[.pointer (some ⟨b,0,none⟩),(0:Int)])/\cP w' b g n (List.replicate ((n+63)/64) 0)/\w.heap.size<=b/\w.heap.size<=g/\J7 w w':=by
 have l:((n:Int)+64-1).tdiv 64=(((n+63)/64:Nat):Int):=by
  rw [show (n:Int)+64-1=((n+63:Nat):Int) by omega];rfl
 have j:=vP ((n+63)/64) (by omega) (((n:Int)+63)/64) (by omega);have c:∀W,W=(w.alloc (.cells (eK (List.replicate ((n+63)/64) 0)).toArray 34)).alloc (.cells #[.slice (some w.heap.size) ((n+63)/64) ((n+63)/64),(n:Int)] 264)->
   cP W (w.heap.size+1) w.heap.size n (List.replicate ((n+63)/64) 0)/\J7 w W:=by
  intro W h;subst h;refine ⟨⟨⟨(n+63)/64,by simp,?_⟩,⟨[],by rw [List.append_nil];exact (ay.new w _ _).alloc _⟩,by omega,by simp,fun x k=>by rw [eS k];decide,d,f,fun i _=>oL _ i⟩,((Kb _ w).alloc _).alloc _⟩;have:=ay.new (w.alloc (.cells (eK (List.replicate ((n+63)/64) 0)).toArray 34)) [.slice (some w.heap.size) ((n+63)/64) ((n+63)/64),(n:Int)] 264;rw [World.size_alloc] at this
  simpa using this
 have a:=ae c;clear c;generalize (eK (List.replicate ((n+63)/64) 0)).toArray=Z at*
 go_enter func169,ntmps169
 go_wp2;go_ret2;exact ⟨w.heap.size+1,w.heap.size,rfl,(a.out _ rfl).1,by omega,ag _,(a.out _ rfl).2⟩
theorem zA{ws:List Nat}{i x:Nat}(a:ws[i/64]? =some x)(j:Nat):aZ (ws.set (i/64) (x|||2^(i% 64))) j=(aZ ws j||j==i):=by
 unfold aZ
 grind
theorem FD{w w':World}{b g n i x:Nat}{ws:List Nat}(h:cP w b g n ws)(t:i<n)(e:ws[i/64]? =some x)(V:Int)(f:V=((x|||2^(i% 64):Nat):Int))(m:w'=(w.setCell ⟨g,i/64,none⟩ (.int .u64 V)).drew):
  cP w' b g n (ws.set (i/64) (x|||2^(i% 64)))/\Fr (fun k=>k=g) w w':=by
 subst m;subst f;have d:=h.lt x (ar e);have hp:(2:Nat)^(i% 64)<18446744073709551616:=bn (mh (by decide) (aI _ (by decide))) (by decide);refine ⟨⟨?_,?_,h.ne,by rw [aW];exact h.len,?_,h.one,h.small,?_⟩,((Kb (fun k=>k=g) w).setCell ⟨g,i/64,none⟩ (.inl rfl) _).drew⟩
 ·rw [aW];obtain ⟨c,p,s⟩:=h.Qd;exact ⟨c,p,(s.Qg ⟨g,i/64,none⟩ _ h.ne).drew⟩
 ·obtain ⟨r,q⟩:=h.row;have:=(q.set (i/64) (.int .u64 ((x|||2^(i% 64):Nat):Int))).drew
  grind [eK,List.map_set]
 ·intro y o;rcases bS o with a|a
  ·exact h.lt y a
  ·rw [a];exact jX (n:=64) d hp
 ·intro j l;rw [zA e,h.off j l]
  grind
theorem zn{w:World}{b g n i:Nat}{ws:List Nat}(h:cP w b g n ws)(r:i<n):Calls prog 217 #[b,(i:Int)] w fun e w'=>e= .returned (0:Int)/\∃f,cP w' b g n f/\(∀j,aZ f j=(aZ ws j||j==i))/\Fr (fun k=>k=g) w w':=by
 have p:=ae (qS h (i:Int));rw [if_pos (by unfold FX;simp;omega)] at p;obtain ⟨x,m,o,A,c⟩:=h.word r;obtain ⟨C,t,s⟩:=h.c0;have y:i/64<ws.length:=by rw [h.len];omega
 have v:=h.free (i/64);have z:=h.small;have d:bits .or .u64 (x:Int) (IntKind.u64.wrap (2^(i% 64)))=((x|||2^(i% 64):Nat):Int):=by
  have hp:(2:Nat)^(i% 64)<18446744073709551616:=bn (mh (by decide) (aI _ (by decide))) (by decide);have e:IntKind.u64.wrap (2^(i% 64))=((2^(i% 64):Nat):Int):=by
   have:((2^(i% 64):Nat):Int)=(2:Int)^(i% 64):=by simp
   rw [<-this,IntKind.wrap_u64];generalize (2:Nat)^(i% 64)=P at hp;omega
  rw [e];exact u64_or_nat x (2^(i% 64)) o hp
 have a:=ae (fun W u=>(FD (w':=W) h r m _ d u));have l:=ae (fun j=>zA m j);clear d;obtain ⟨L,q⟩:∃L,ws.length=L:=⟨_,rfl⟩;rw [q] at s y t;clear h c m q;have F:(i:Int).tdiv 64=((i/64:Nat):Int):=rfl;have G:(i:Int).tmod 64=((i% 64:Nat):Int):=rfl;have B:(0:Int)<=(i:Int)/64:=by omega
 have D:(i:Int)/64<(L:Int):=by omega
 have E:((i:Int)/64).toNat=i/64:=by omega
 have w1:IntKind.i64.wrap ((i:Int)/64)=((i/64:Nat):Int):=by rw [IntKind.wrap_i64];omega
 have w2:IntKind.i64.wrap ((i:Int)% 64)=((i% 64:Nat):Int):=by rw [IntKind.wrap_i64];omega
 go_enter func217,ntmps217
 go_wp2_with fail
 refine p.out.mono ?_;rintro e w' ⟨rfl,rfl⟩;go_wp2;refine qh 13 (by kernel_rfl) (by kernel_rfl) ?_;simp only [Kc]
 repeat still_step
 refine wpStill_nil ?_;go_wp2;go_ret;exact ⟨rfl,_,(a.out _ rfl).1,l.out,(a.out _ rfl).2⟩
theorem qq(f:Nat->Bool):∀(n a:Nat),(eA f a n=a+n/\∀j,a<=j->j<a+n->f j=false)\/(a<=eA f a n/\eA f a n<a+n/\f (eA f a n)=true/\∀j,a<=j->j<eA f a n->f j=false)
 |0,a=> .inl ⟨rfl,fun j b c=>by omega⟩
 |n+1,a=>by
  rw [eA]
  cases h:f a with
  |true=>grind
  |false=>
   simp only [dF,if_false];rcases qq f n (a+1) with ⟨b,c⟩|⟨b,c,d,e⟩
   ·grind
   grind
def oR(f:Nat->Bool)(n i:Nat)(w:World)(e:Ending)(w':World):Prop:=
 ((∃j:Nat,lT f i n j/\e= .returned (.tuple #[(j:Int),.bool true]))\/((∀j,i<=j->j<n->f j=false)/\e= .returned (.tuple #[(0:Int),.bool false])))/\w=w'
theorem xq{w:World}{b g n K F:Nat}{ws:List Nat}(h:cP w b g n ws)(k:K<ws.length)(r:F<64):∃x p:Nat,x<18446744073709551616/\w.cell? ⟨g,K,none⟩=some (.int .u64 x)/\eA (oG x (F:Int)) 0 64=p/\
  ((p=64/\∀j,64*K+F<=j->j<64*(K+1)->aZ ws j=false)\/(p<64/\F<=p/\64*K+p<n/\aZ ws (64*K+p)=true/\∀j,64*K+F<=j->j<64*K+p->aZ ws j=false)):=by
 obtain ⟨x,f⟩:∃x,ws[K]? =some x:=⟨_,aC k⟩;have e:∀q,q<64->aZ ws (64*K+q)=x.testBit q:=fun q s=>by
  grind [aZ]
 refine ⟨x,_,h.lt x (ar f),h.at f,rfl,?_⟩;rcases qq (oG x (F:Int)) 64 0 with ⟨i,c⟩|⟨i,c,a,d⟩
 ·refine .inl ⟨by omega,fun j a d=> ?_⟩;have:=c (j-64*K) (by omega) (by omega);rw [show j=64*K+(j-64*K) by omega,e _ (by omega)];unfold oG at this
  grind
 ·generalize eA (oG x (F:Int)) 0 64=p at*;unfold oG at a;rw [ak,decide_eq_true_eq] at a;have hp:aZ ws (64*K+p)=true:=by grind
  refine .inr ⟨by omega,by omega,?_,hp,fun j m o=> ?_⟩
  ·by_cases l:64*K+p<n
   ·exact l
   ·rw [h.off _ (by omega)] at hp;grind
  ·have:=d (j-64*K) (by omega) (by omega);rw [show j=64*K+(j-64*K) by omega,e _ (by omega)];unfold oG at this
   grind
theorem ko{w:World}{b g n:Nat}{ws:List Nat}(h:cP w b g n ws)(A:ee w)(i:Nat)(Y:i<=1048576):Calls prog 194 #[b,(i:Int)] w (oR (aZ ws) n i w):=by
 obtain ⟨C,W,I⟩:=h.c0;have c1:=h.c1;have S:=h.small;by_cases M:n<=i
 ·have c:∀e w',e= .returned (.tuple #[(0:Int),.bool false])->w=w'->oR (aZ ws) n i w e w':=fun e w' a m=>⟨.inr ⟨fun j t V=>by omega,a⟩,m⟩
  have l:=ae c;clear c;generalize oR (aZ ws) n i w=Q at*;clear h A
  go_enter func194,ntmps194
  go_wp2;exact l.out _ _ rfl rfl
 ·have O:(i:Int)<(n:Int):=by omega
  have P:max (i:Int) 0=(i:Int):=by omega
  have Z:(i:Int).tdiv 64=((i/64:Nat):Int):=rfl;have q2:(i:Int).tmod 64=((i% 64:Nat):Int):=rfl;have E:=ae h;have H:=ae A;have s:=h.len;obtain ⟨L,z⟩:∃L,ws.length=L:=⟨_,rfl⟩;rw [z] at I s;have G:=ae z;clear h A z
  go_enter func194,ntmps194
  go_wp2
  go_loopw [6,7] (fun k f wr=>∃K F:Nat,k= .int .i64 K/\f= .int .i64 F/\K<=L/\F<64/\wr=w/\Hid (i<=64*K+F/\∀j,i<=j->j<64*K+F->aZ ws j=false)) (fun k _ _=>L-(intOf k).toNat)
  case atStart=>exact ⟨i/64,i% 64,rfl,rfl,by omega,by omega,rfl,by omega,fun j a m=>by omega⟩
  case round=>
   obtain ⟨K,F,rfl,rfl,X,J,rfl,d⟩:=hrel;by_cases N:K<L
   ·have D:(K:Int)<(L:Int):=by omega
    obtain ⟨x,p,T,U,hp,u⟩:=xq E.out (by rw [G.out];exact N) J;have y:=ae (DI x T (F:Int) _ H.out);rw [hp] at y;clear hp;rcases u with ⟨rfl,u⟩|⟨hp,B,o,q,r⟩
    ·have v:Hid (i<=64*(K+1)+0/\∀j,i<=j->j<64*(K+1)+0->aZ ws j=false):=⟨by have:=d.out.1;omega,fun j a m=>by
      by_cases t:j<64*K+F
      ·exact d.out.2 j a t
      ·exact u j (by omega) (by omega)⟩
     clear u d;go_wp2_with fail
     refine y.out.mono ?_;rintro e w' ⟨rfl,rfl⟩;go_wp2;go_roundw
     case rel=>exact ⟨K+1,0,by go_num,rfl,by omega,by omega,trivial,v⟩
     case measure=>show L-(intOf (.int .i64 ((K:Int)+1))).toNat<L-(intOf (.int .i64 K)).toNat;simp only [intOf];omega
    ·have v:Hid (lT (aZ ws) i n (64*K+p)):=⟨by have:=d.out.1;omega,o,q,fun j a m=>by
      by_cases t:j<64*K+F
      ·exact d.out.2 j a t
      ·exact r j (by omega) (by omega)⟩
     have R:(p:Int)<64:=by omega
     clear B o q r d;go_wp2_with fail
     refine y.out.mono ?_;rintro e w' ⟨rfl,rfl⟩;go_wp2;go_ret2;exact ⟨.inl ⟨64*K+p,v.out,rfl⟩,rfl⟩
   ·have D:(L:Int)<=(K:Int):=by omega
    go_wp2;go_ret2;exact ⟨.inr ⟨fun j a m=>d.out.2 j a (by omega),rfl⟩,rfl⟩
def yg(f:Nat->Bool)(n i:Nat):Prop:=i<n/\f i=true/\∀j,i<j->j<n->f j=false
theorem rG(f:Nat->Bool):∀n,(gA f n= -1/\∀j,j<n->f j=false)\/∃p:Nat,gA f n=(p:Int)/\p<n/\f p=true/\∀j,p<j->j<n->f j=false
 |0=> .inl ⟨rfl,fun j h=>by omega⟩
 |n+1=>by
  rw [gA]
  cases h:f n with
  |true=>grind
  |false=>
   simp only [dF,if_false];rcases rG f n with ⟨a,b⟩|⟨p,a,b,c,d⟩
   ·grind
   grind
def Fc(f:Nat->Bool)(n:Nat)(w:World)(e:Ending)(w':World):Prop:=
 ((∃j:Nat,yg f n j/\e= .returned (.tuple #[(j:Int),.bool true]))\/((∀j,j<n->f j=false)/\e= .returned (.tuple #[(0:Int),.bool false])))/\w=w'
theorem AD{w:World}{b g n K m:Nat}{ws:List Nat}(h:cP w b g n ws)(l:K<ws.length)(t:64*K<m):∃(x:Nat) (r:Int),x<18446744073709551616/\w.cell? ⟨g,K,none⟩=some (.int .u64 x)/\gA (l8 x ((m:Int)-64*K)) 64=r/\
  ((r= -1/\∀j,64*K<=j->j<m->j<64*(K+1)->aZ ws j=false)\/∃p:Nat,r=(p:Int)/\p<64/\64*K+p<m/\aZ ws (64*K+p)=true/\∀j,64*K+p<j->j<m->j<64*(K+1)->aZ ws j=false):=by
 obtain ⟨x,i⟩:∃x,ws[K]? =some x:=⟨_,aC l⟩;have f:∀q,q<64->aZ ws (64*K+q)=x.testBit q:=fun q u=>by
  grind [aZ]
 refine ⟨x,_,h.lt x (ar i),h.at i,rfl,?_⟩;rcases rG (l8 x ((m:Int)-64*K)) 64 with ⟨a,c⟩|⟨p,a,c,d,e⟩
 ·refine .inl ⟨a,fun j d e k=> ?_⟩;have:=c (j-64*K) (by omega);rw [show j=64*K+(j-64*K) by omega,f _ (by omega)];unfold l8 at this
  grind
 ·unfold l8 at d;rw [ak,decide_eq_true_eq] at d;refine .inr ⟨p,a,c,by omega,by grind,fun j k o s=> ?_⟩;have:=e (j-64*K) (by omega) (by omega);rw [show j=64*K+(j-64*K) by omega,f _ (by omega)];unfold l8 at this
  grind
theorem AM{w:World}{b g n:Nat}{ws:List Nat}(h:cP w b g n ws)(m:Nat)(H:1<=m)(S:m<=n):Calls prog 233 #[b,(m:Int)] w (Fc (aZ ws) m w):=by
 obtain ⟨C,Q,D⟩:=h.c0;have c1:=h.c1;have M:=h.small;have P:(0:Int)<(m:Int):=by omega
 have E:decide (m=0)=false:=decide_eq_false (by omega);have I:min (m:Int) (n:Int)=(m:Int):=by omega
 have T:((m:Int)-1).tdiv 64=(((m-1)/64:Nat):Int):=by rw [show (m:Int)-1=((m-1:Nat):Int) by omega];rfl
 have z:=ae h;have a:=h.len;obtain ⟨L,y⟩:∃L,ws.length=L:=⟨_,rfl⟩;rw [y] at D a;have B:=ae y;have A:=ae a;clear h y a
 go_enter func233,ntmps233
 go_wp2
 go_loopw [6] (fun k wr=>∃K:Nat,k= .int .i64 ((K:Int)-1)/\K<=L/\wr=w/\Hid (64*K<m+64/\∀j,64*K<=j->j<m->aZ ws j=false)) (fun k _=>(intOf k+1).toNat)
 case atStart=>exact ⟨(m-1)/64+1,by go_num,by have:=A.out;omega,rfl,by omega,fun j f c=>by omega⟩
 case round=>
  obtain ⟨K,rfl,R,rfl,d⟩:=hrel;by_cases F:K=0
  ·subst F;go_wp2;go_ret2;exact ⟨.inr ⟨fun j f=>d.out.2 j (by omega) f,rfl⟩,rfl⟩
  ·obtain ⟨K,rfl⟩:∃k,K=k+1:=⟨K-1,by omega⟩;have q:((K+1:Nat):Int)-1=(K:Int):=by omega
   rw [q];clear q;have G:(K:Int)<(L:Int):=by omega
   have J:=d.out.1;obtain ⟨x,r,N,O,hp,s⟩:=AD (m:=m) (K:=K) z.out (by rw [B.out];omega) (by omega);have u:=ae (D0 x N ((m:Int)-64*K) wr);rw [hp] at u;clear hp;rcases s with ⟨rfl,s⟩|⟨p,rfl,hp,i,l,o⟩
   ·have t:Hid (64*K<m+64/\∀j,64*K<=j->j<m->aZ ws j=false):=⟨by omega,fun j f c=>by
     by_cases v:64*(K+1)<=j
     ·exact d.out.2 j v c
     ·exact s j (by omega) c (by omega)⟩
    clear s d;go_wp2_with fail
    refine u.out.mono ?_;rintro e w' ⟨rfl,rfl⟩;go_wp2;go_roundw
    case rel=>exact ⟨K,rfl,by omega,trivial,t⟩
    case measure=>simp [intOf]
   ·have t:Hid (yg (aZ ws) m (64*K+p)):=⟨i,l,fun j f c=>by
     by_cases v:64*(K+1)<=j
     ·exact d.out.2 j v c
     ·exact o j f c (by omega)⟩
    clear i l o d;go_wp2_with fail
    refine u.out.mono ?_;rintro e w' ⟨rfl,rfl⟩;go_wp2;go_ret2;exact ⟨.inl ⟨64*K+p,t.out,rfl⟩,rfl⟩
theorem qv(x m:Nat)(b:x<18446744073709551616)(a:m<18446744073709551616):∃y:Nat,y<18446744073709551616/\bits .andNot .u64 (x:Int) (m:Int)=(y:Int)/\∀q,q<64->y.testBit q=(x.testBit q&& !m.testBit q):=by
 refine ⟨x&&&(18446744073709551615-m),bx el b,u64_andNot_nat x m b a,fun q c=> ?_⟩;rw [eH];have:=ek (n:=64) a q
 grind
def gc(F T K:Nat):Nat:=ov (jz ((F:Int)-64*K) ((T:Int)-64*K)) 64
theorem ox(F T K:Nat):gc F T K<18446744073709551616:=ou _ (ag 64)
theorem rD(F T K q:Nat)(a:q<64):(gc F T K).testBit q=(decide (F<=64*K+q)&&decide (64*K+q<T)):=by
 unfold gc;rw [fY,decide_eq_true a,cH];unfold jz
 grind
theorem se{ws:List Nat}{K x:Nat}(b:ws[K]? =some x)(q:Nat)(a:q<64):aZ ws (64*K+q)=x.testBit q:=by
 grind [aZ]
theorem Ap{ws:List Nat}{K x:Nat}(a:ws[K]? =some x)(y j:Nat):aZ (ws.set K y) j=if j/64=K then y.testBit (j% 64) else aZ ws j:=by
 have b:=(aj.1 a).1;unfold aZ
 grind
def lX(f:Nat->Bool)(F T K j:Nat):Bool:=f j||(decide (F<=j)&&decide (j<T)&&decide (j<64*K))
def lE(f:Nat->Bool)(F T K j:Nat):Bool:=f j&& !(decide (F<=j)&&decide (j<T)&&decide (j<64*K))
theorem B4{ws:List Nat}{f:Nat->Bool}{F T K x:Nat}(a:ws[K]? =some x)(h:∀j,aZ ws j=lX f F T K j)(j:Nat):aZ (ws.set K (x|||gc F T K)) j=lX f F T (K+1) j:=by
 rw [Ap a];by_cases e:j/64=K
 ·rw [if_pos e,mf,rD _ _ _ _ (aI _ (by decide)),<-se a _ (aI _ (by decide)),h];have:64*K+j% 64=j:=by omega
  rw [this];unfold lX
  grind
 ·rw [if_neg e,h];unfold lX
  grind
theorem AF{ws:List Nat}{f:Nat->Bool}{F T K x y:Nat}(a:ws[K]? =some x)(b:∀q,q<64->y.testBit q=(x.testBit q&& !(gc F T K).testBit q))(h:∀j,aZ ws j=lE f F T K j)(j:Nat):aZ (ws.set K y) j=lE f F T (K+1) j:=by
 rw [Ap a];by_cases e:j/64=K
 ·rw [if_pos e,b _ (aI _ (by decide)),rD _ _ _ _ (aI _ (by decide)),<-se a _ (aI _ (by decide)),h];have:64*K+j% 64=j:=by omega
  rw [this];unfold lE
  grind
 ·rw [if_neg e,h];unfold lE
  grind
theorem zp{w:World}{b g n K x:Nat}{ws:List Nat}(h:cP w b g n ws)(m:ws[K]? =some x)(y:Nat)(o:y<18446744073709551616)(a:∀j,n<=j->aZ (ws.set K y) j=false){w':World}(V:Int)(e:V=(y:Int))(f:w'=w.setCell ⟨g,K,none⟩ (.int .u64 V)):cP w' b g n (ws.set K y):=by
 subst f;subst e;refine ⟨?_,?_,h.ne,by rw [aW];exact h.len,?_,h.one,h.small,a⟩
 ·rw [aW];obtain ⟨c,k,l⟩:=h.Qd;exact ⟨c,k,l.Qg ⟨g,K,none⟩ _ h.ne⟩
 ·obtain ⟨r,q⟩:=h.row;have:=q.set K (.int .u64 y)
  grind [eK,List.map_set]
 ·intro z i;rcases bS i with d|d
  ·exact h.lt z d
  omega
theorem EY(g:Nat->Bool)(a:Nat):∀k,kR g a k=iZ (fun q=>g (a+q)) k
 |0=>rfl
 |k+1=>by
  show kR g a k+_=iZ (fun q=>g (a+q)) k+_
  rw [EY g a k]
def iV(f:Nat->Bool)(F T j:Nat):Bool:=decide (F<=j)&&decide (j<T)&&f j
theorem yY{ws:List Nat}{F T K x:Nat}(b:ws[K]? =some x):iZ (zT (gc F T K&&&x) 0 64) 64=Qc (iV (aZ ws) F T) (64*K) (64*(K+1)):=by
 unfold Qc;rw [show 64*(K+1)-64*K=64 by omega,EY];refine rX (fun q a=> ?_);unfold zT iV;rw [eH,rD _ _ _ _ a,se b _ a,decide_eq_true (show (0:Int)<=(q:Int) by omega),decide_eq_true (show (q:Int)<64 by omega),cH,cH]
theorem wF(f:Nat->Bool){F T A B:Nat}(e:A<=F)(c:F<=T)(d:T<=B):Qc (iV f F T) A B=Qc f F T:=by
 rw [bp (iV f F T) e (aH c d),bp (iV f F T) c d,bP (a:=A) (b:=F) (fun i _ h=>by grind [iV]),
  bP (a:=T) (b:=B) (fun i h _=>by simp_all [iV,decide_eq_false]),
  bY (f:=iV f F T) (g:=f) (fun i j k=>by grind [iV])]
 omega
section
variable{P:Program}{ops:Array Oper}{C:World->Prop}{Q:Act->Prop}{a:Act}{o:Oper}{rest:List Oper}{v:Value}{vs:List Value}
def re(P:Program)(ops:Array Oper)(C:World->Prop)(Q:Act->Prop):List Value->List Oper->Act->Prop
 |v::vs,o::l,a=>wpQuiet P ops C Q (o::l) a\/(Region.wanted o (yielded ops a.tmps)=true/\(∀w,C w->(execOp a.eval o).run P w= .ok (.value v) w)/\re P ops C Q vs l (a.put o.dst v))
 |_,l,a=>wpQuiet P ops C Q l a
theorem aL(vs:List Value){l:List Oper}(h:re P ops C Q vs l a):wpQuiet P ops C Q l a:=by
 induction vs generalizing l a with
 |nil=>cases l<;>exact h
 |cons v vs ih=>
  cases l with
  |nil=>exact h
  |cons o l=>
   rcases h with h|⟨b,c,d⟩
   ·exact h
   grind [aQ]
theorem aM(hg:Region.wanted o (yielded ops a.tmps)=true)(b:∀w,C w->(execOp a.eval o).run P w= .ok (.value v) w)(h:re P ops C Q vs rest (a.put o.dst v)):re P ops C Q (v::vs) (o::rest) a:= .inr ⟨hg,b,h⟩
theorem aK{l:List Oper}(h:wpQuiet P ops C Q l a):re P ops C Q [] l a:=by
 cases l<;>exact h
end
theorem lk{w w':World}{a:Addr}(h:w'.heap[a.block]? =w.heap[a.block]?):w'.frozen? a=w.frozen? a:=by
 grind [World.frozen?]
theorem IL{w:World}{g K a:Nat}(x m:Nat)(V:Int)(p:x<18446744073709551616)(n:m<18446744073709551616)(j:w.cell? ⟨g,K,none⟩=some (.int .u64 x))(hf:w.frozen? ⟨g,K,none⟩=false)(o:w.cell? a=some (V:Int))(f:w.frozen? a=false)(d:a≠g):
  Calls prog 234 #[.pointer (some ⟨g,K,none⟩),.int .u64 m,a] w fun e w'=>e= .returned (.tuple #[])/\∃s,w'=((w.setCell a (.int .i64 s)).drew.setCell ⟨g,K,none⟩ (.int .u64 ((x|||m:Nat):Int))):=by
 obtain ⟨z,A,B,_⟩:=qv m x n p;have i:=ae (u64_or_nat x m p n);have q:=ae (pN z A 0 64);have y:=uF (zT z 0 64) 64;generalize iZ (zT z 0 64) 64=cn at*;have C:w.drew.cell? ⟨g,K,none⟩=some (.int .u64 x):=j;have D:w.drew.cell? a=some (V:Int):=o;have E:w.drew.frozen? a=false:=f;have k:∀u,(w.setCell a u).drew.cell? ⟨g,K,none⟩=some (.int .u64 x):=fun u=>(World.cell?_of_block (w:=w) (Below.heap_setCell _ _ _ _ (fun e=>d e.symm))).trans j
 have l:∀u,(w.setCell a u).drew.frozen? ⟨g,K,none⟩=false:=fun u=>(lk (w:=w) (Below.heap_setCell _ _ _ _ (fun e=>d e.symm))).trans hf
 clear j hf o f
 go_enter func234,ntmps234
 go_wp2;refine bz (fun w'=>w'=w.drew) 8 (by kernel_rfl) rfl ?_;simp only [Kc];refine ai (V:Int) rfl (fun w b=>by subst b;go_simp) ?_;simp only [aa];refine aL [.int .u64 m,.pointer (some ⟨g,K,none⟩),.pointer (some ⟨g,K,none⟩)] ?_
 iterate 3 (refine aM rfl (fun G F=>by go_simp) ?_;simp only [aa])
 refine aK ?_;refine ai (.int .u64 x) rfl (fun w b=>by subst b;go_simp) ?_;simp only [aa];refine ai (.int .u64 z) rfl (fun w b=>by go_simp) ?_;simp only [aa];refine bf (.int .i64 cn) 226 #[.int .u64 z,(0:Int),(64:Int)] rfl (fun w=>by go_simp) (fun w b=>(q.out w).mono fun e w' h=>⟨h.1,h.2▸b⟩) ?_;simp only [aa];refine ai (.int .i64 (IntKind.i64.wrap (V+(cn:Int)))) rfl (fun w b=>by go_simp) ?_;simp only [aa];refine wpQuiet_nil ?_;rintro w2 rfl
 go_upto_region 1 with fail
 obtain ⟨w3,c⟩:∃w3,(w.setCell a (.int .i64 (wrap64 (V+(cn:Int))))).drew=w3:=⟨_,rfl⟩;have t:=k (.int .i64 (wrap64 (V+(cn:Int))));have v:=l (.int .i64 (wrap64 (V+(cn:Int))));rw [c] at t v ⊢;clear k l;have r:=ae c;clear c;go_wp2;go_end0;exact ⟨rfl,_,by rw [r.out,i.out]⟩
theorem Ig{w:World}{g K a:Nat}(x m:Nat)(V:Int)(v:x<18446744073709551616)(l:m<18446744073709551616)(i:w.cell? ⟨g,K,none⟩=some (.int .u64 x))(hf:w.frozen? ⟨g,K,none⟩=false)(n:w.cell? a=some (V:Int))(f:w.frozen? a=false)(d:a≠g)(y:Nat)(G:bits .andNot .u64 (x:Int) (m:Int)=(y:Int)):
  Calls prog 225 #[.pointer (some ⟨g,K,none⟩),.int .u64 m,a] w fun e w'=>e= .returned (.tuple #[])/\∃q,w'=((w.setCell a (.int .i64 q)).drew.setCell ⟨g,K,none⟩ (.int .u64 y)):=by
 have B:=u64_and_nat m x l v;have A:m&&&x<18446744073709551616:=bx el l;generalize m&&&x=z at*;have o:=ae (pN z A 0 64);have t:=uF (zT z 0 64) 64;generalize iZ (zT z 0 64) 64=cn at*;have C:w.drew.cell? ⟨g,K,none⟩=some (.int .u64 x):=i;have D:w.drew.cell? a=some (V:Int):=n;have E:w.drew.frozen? a=false:=f;have j:∀u,(w.setCell a u).drew.cell? ⟨g,K,none⟩=some (.int .u64 x):=fun u=>(World.cell?_of_block (w:=w) (Below.heap_setCell _ _ _ _ (fun e=>d e.symm))).trans i
 have k:∀u,(w.setCell a u).drew.frozen? ⟨g,K,none⟩=false:=fun u=>(lk (w:=w) (Below.heap_setCell _ _ _ _ (fun e=>d e.symm))).trans hf
 clear i hf n f
 go_enter func225,ntmps225
 go_wp2;refine bz (fun w'=>w'=w.drew) 8 (by kernel_rfl) rfl ?_;simp only [Kc];refine ai (V:Int) rfl (fun w b=>by subst b;go_simp) ?_;simp only [aa];refine aL [.int .u64 m,.pointer (some ⟨g,K,none⟩),.pointer (some ⟨g,K,none⟩)] ?_
 iterate 3 (refine aM rfl (fun H F=>by go_simp) ?_;simp only [aa])
 refine aK ?_;refine ai (.int .u64 x) rfl (fun w b=>by subst b;go_simp) ?_;simp only [aa];refine ai (.int .u64 z) rfl (fun w b=>by go_simp) ?_;simp only [aa];refine bf (.int .i64 cn) 226 #[.int .u64 z,(0:Int),(64:Int)] rfl (fun w=>by go_simp) (fun w b=>(o.out w).mono fun e w' h=>⟨h.1,h.2▸b⟩) ?_;simp only [aa];refine ai (.int .i64 (IntKind.i64.wrap (V+(cn:Int)))) rfl (fun w b=>by go_simp) ?_;simp only [aa];refine wpQuiet_nil ?_;rintro w2 rfl
 go_upto_region 1 with fail
 obtain ⟨w3,c⟩:∃w3,(w.setCell a (.int .i64 (wrap64 (V+(cn:Int))))).drew=w3:=⟨_,rfl⟩;have r:=j (.int .i64 (wrap64 (V+(cn:Int))));have s:=k (.int .i64 (wrap64 (V+(cn:Int))));rw [c] at r s ⊢;clear j k;have p:=ae c;clear c;go_wp2;go_end0;exact ⟨rfl,_,by rw [p.out]⟩
theorem GN{w:World}{g K b:Nat}(x m:Nat)(V:Int)(l:x<18446744073709551616)(f:m<18446744073709551616)(d:w.cell? ⟨g,K,none⟩=some (.int .u64 x))(i:w.cell? b=some (V:Int))(c:w.frozen? b=false)(t:0<=V/\V<=1048576):
  Calls prog 247 #[.pointer (some ⟨g,K,none⟩),.int .u64 m,b] w fun e w'=>e= .returned (.tuple #[])/\w'=(w.setCell b (.int .i64 (V+(iZ (zT (m&&&x) 0 64) 64:Nat)))).drew:=by
 have o:=u64_and_nat m x f l;have n:m&&&x<18446744073709551616:=bx el f;generalize m&&&x=z at*;have j:=ae (pN z n 0 64);have k:=uF (zT z 0 64) 64;generalize iZ (zT z 0 64) 64=cn at*;have p:w.drew.cell? ⟨g,K,none⟩=some (.int .u64 x):=d;have q:w.drew.cell? b=some (V:Int):=i;have r:w.drew.frozen? b=false:=c;clear d i c
 go_enter func247,ntmps247
 go_wp2;refine bz (fun w'=>w'=w.drew) 8 (by kernel_rfl) rfl ?_;simp only [Kc];refine ai (V:Int) rfl (fun w a=>by subst a;go_simp) ?_;simp only [aa];refine aL [.int .u64 m,.pointer (some ⟨g,K,none⟩),.pointer (some ⟨g,K,none⟩)] ?_
 iterate 3 (refine aM rfl (fun u s=>by go_simp) ?_;simp only [aa])
 refine aK ?_;refine ai (.int .u64 x) rfl (fun w a=>by subst a;go_simp) ?_;simp only [aa];refine ai (.int .u64 z) rfl (fun w a=>by go_simp) ?_;simp only [aa];refine bf (.int .i64 cn) 226 #[.int .u64 z,(0:Int),(64:Int)] rfl (fun w=>by go_simp) (fun w a=>(j.out w).mono fun e w' h=>⟨h.1,h.2▸a⟩) ?_;simp only [aa];refine ai (.int .i64 (IntKind.i64.wrap (V+(cn:Int)))) rfl (fun w a=>by go_simp) ?_;simp only [aa];refine wpQuiet_nil ?_;rintro w2 rfl;go_wp2;go_end0;exact ⟨rfl,rfl⟩
theorem rU{w:World}{b g n L:Nat}(V:L=(n+63)/64)(f t F T:Nat)(eg:∀args w,(callFunc f args).run prog w= .ok (.enter f args) w)(R:F<=T)(hT:T<=n)(hn:n<=1048576)(X:Int)(hX:min X (n:Int)=(T:Int))(J:Nat->World->Prop)
  (v:∀K W,J K W->(∃C,L<=C/\W.cell? b=some (.slice (some g) L C))/\J K W.drew) (i:w.cell? ⟨b,1,none⟩=some (n:Int))
  (c:∀K W,F/64<=K->F<T->K<=(T-1)/64->J K W->Calls prog f #[.pointer (some ⟨g,K,none⟩),.int .u64 (gc F T K:Int),t] W fun e P=>e= .returned (.tuple #[])/\J (K+1) P)
  (H:J (F/64) w) (Q:Ending->World->Prop) (N:∀W,J (if F<T then (T-1)/64+1 else F/64) W->Q (.returned (.tuple #[])) W):
  Calls prog 224 #[b,(F:Int),(X:Int),.func (.func f) #[] #[t]] w Q:=by
 have u:w.drew.cell? ⟨b,1,none⟩=some (n:Int):=i;have A:max (F:Int) 0=(F:Int):=by omega
 have G:=ae v;have D:=ae c;have B:=ae (v _ _ H).2;have m:=ae N;clear v c H N
 go_enter func224,ntmps224
 go_wp2;refine aV (fun w'=>w'=w.drew) (by kernel_rfl) rfl ?_;refine aL [(F:Int),(F:Int),(X:Int),b,b,.pointer (some ⟨b,1,none⟩)] ?_
 iterate 6 (refine aM rfl (fun q o=>by go_simp) ?_;simp only [aa])
 refine aK ?_;refine ai (n:Int) rfl (fun w i=>by subst i;go_simp) ?_;simp only [aa];refine aL [(T:Int),(F:Int),(T:Int)] ?_
 iterate 3 (refine aM rfl (fun q o=>by go_simp) ?_;simp only [aa])
 refine aK ?_;refine wpQuiet_nil ?_;rintro w2 rfl;clear u A hX;generalize w.drew=w0 at*;have q1:(F:Int).tdiv 64=((F/64:Nat):Int):=rfl;by_cases d:F<T
 ·obtain ⟨M,y⟩:∃M,(T-1)/64=M:=⟨_,rfl⟩;have q2:((T:Int)-1).tdiv 64=(M:Int):=by rw [<-y,show (T:Int)-1=((T-1:Nat):Int) by omega];rfl
  have j:decide (F<T)=true:=decide_eq_true d;have l:(F:Int)<(T:Int):=by omega
  have Z:M<L:=by omega
  have Y:F/64<=M+1:=by omega
  have a:=ae m.out;rw [if_pos d] at a;rw [y] at a D;have ag:(T:Int)<=1048576:=by omega
  have ad:(M:Int)<=1048576:=by omega
  clear m y V;go_wp2
  go_loopw [8] (fun k wr=>∃K:Nat,k= .int .i64 K/\F/64<=K/\K<=M+1/\Hid (J K wr)) (fun k _=>((M:Int)+1-intOf k).toNat)
  case atStart=>exact ⟨F/64,by go_num,by omega,by omega,B.out⟩
  case round=>
   obtain ⟨K,rfl,x,U,p⟩:=hrel;by_cases hk:K<=M
   ·have E:=ae (G.out K wr p.out).2;obtain ⟨C,hC,u⟩:=(G.out K _ E.out).1;have z:(K:Int)<=(M:Int):=by omega
    have ah:(K:Int)<(L:Int):=by omega
    have r:=ae (D.out K wr.drew x d hk E.out);go_wp2;refine bz (fun w'=>w'=wr.drew) 16 (by kernel_rfl) rfl ?_;simp only [Kc];refine aL [.func (.func f) #[] #[t],b,b,b] ?_
    iterate 4 (refine aM rfl (fun q o=>by go_simp) ?_;simp only [aa])
    refine aK ?_;refine ai (.slice (some g) L C) rfl (fun w i=>by subst i;go_simp) ?_;simp only [aa];refine aL [(K:Int),.pointer (some ⟨g,K,none⟩),(F:Int),(K:Int)] ?_
    iterate 4 (refine aM rfl (fun q o=>by go_simp) ?_;simp only [aa])
    refine aK ?_;refine ai (.int .i64 (64*(K:Int))) rfl (fun w i=>by go_simp;rw [IntKind.wrap_i64];omega) ?_;simp only [aa];refine ai (.int .i64 ((F:Int)-64*(K:Int))) rfl (fun w i=>by go_simp;rw [IntKind.wrap_i64];omega) ?_;simp only [aa];refine aL [(T:Int),(K:Int)] ?_
    iterate 2 (refine aM rfl (fun q o=>by go_simp) ?_;simp only [aa])
    refine aK ?_;refine ai (.int .i64 (64*(K:Int))) rfl (fun w i=>by go_simp;rw [IntKind.wrap_i64];omega) ?_;simp only [aa];refine ai (.int .i64 ((T:Int)-64*(K:Int))) rfl (fun w i=>by go_simp;rw [IntKind.wrap_i64];omega) ?_;simp only [aa];refine bf (.int .u64 (gc F T K:Int)) 240 #[(((F:Int)-64*(K:Int)):Int),(((T:Int)-64*(K:Int)):Int)] rfl (fun w=>by go_simp) (fun w i=>(qD _ _ w).mono fun e w' h=>⟨h.1,h.2▸i⟩) ?_;simp only [aa];refine wpQuiet_nil ?_;rintro w2 rfl;clear u p;go_wp2_with fail
    refine r.out.mono ?_;rintro e w3 ⟨rfl,I⟩;have O:=ae I;clear I;go_wp2;go_roundw
    case rel=>exact ⟨K+1,by go_num,by omega,by omega,O.out⟩
    case measure=>simp [intOf];omega
   ·obtain rfl:K=M+1:=by omega
    have z:¬((M+1:Nat):Int)<=(M:Int):=by omega
    have s:=ae (a.out wr p.out);clear p;go_wp2;go_end0;exact s.out
 ·have a:=ae m.out;rw [if_neg d] at a;have j:decide (F<T)=false:=decide_eq_false d;have l:¬(F:Int)<(T:Int):=by omega
  have s:=ae (a.out w0 B.out);have S:(F:Int)<=1048576:=by omega
  clear m a;go_wp2
  go_loopw [8] (fun k wr=>k= .int .i64 ((F/64:Nat):Int)/\wr=w0) (fun _ _=>0)
  case atStart=>exact ⟨by go_num,rfl⟩
  case round=>
   obtain ⟨rfl,rfl⟩:=hrel;go_wp2;go_end0;exact s.out
def xj(w:World)(b g n cb F T:Nat)(f:Nat->Bool)(K:Nat)(W:World):Prop:=
 ∃ws V,cP W b g n ws/\(∀j,aZ ws j=lX f F T K j)/\ay W cb [(V:Int)] 3/\Fr (fun k=>k=g\/k=cb) w W
def wW(w:World)(b g n cb F T:Nat)(f:Nat->Bool)(K:Nat)(W:World):Prop:=
 ∃ws V,cP W b g n ws/\(∀j,aZ ws j=lE f F T K j)/\ay W cb [(V:Int)] 3/\Fr (fun k=>k=g\/k=cb) w W
def qf(w:World)(b g n cb F T:Nat)(ws:List Nat)(K:Nat)(W:World):Prop:=
 cP W b g n ws/\ay W cb [(((Qc (iV (aZ ws) F T) (64*(F/64)) (64*K):Nat):Int):Int)] 3/\Fr (fun k=>k=cb) w W
theorem yL{f:Nat->Bool}{F T j:Nat}:lX f F T (F/64) j=f j:=by
 unfold lX;have:(decide (F<=j)&&decide (j<T)&&decide (j<64*(F/64)))=false:=by
  grind
 grind
theorem xr{f:Nat->Bool}{F T j:Nat}:lE f F T (F/64) j=f j:=by
 unfold lE;have:(decide (F<=j)&&decide (j<T)&&decide (j<64*(F/64)))=false:=by
  grind
 grind
theorem EE{f:Nat->Bool}{F T j:Nat}:lX f F T (if F<T then (T-1)/64+1 else F/64) j=(f j||(decide (F<=j)&&decide (j<T))):=by
 unfold lX
 grind
theorem CK{f:Nat->Bool}{F T j:Nat}:lE f F T (if F<T then (T-1)/64+1 else F/64) j=(f j&& !(decide (F<=j)&&decide (j<T))):=by
 unfold lE
 grind
theorem yM{w W p:World}{b g n a F T K:Nat}{f:Nat->Bool}(y:T<=n)(hf:∀j,n<=j->f j=false)(d:a≠g)(u:b≠a){ws:List Nat}{x:Nat}(q:cP W b g n ws)(r:∀j,aZ ws j=lX f F T K j){V:Int}(s:ay W a [(V:Int)] 3)(t:Fr (fun k=>k=g\/k=a) w W)
  (m:ws[K]? =some x) (h:Int) (i:p=(W.setCell a (.int .i64 h)).drew.setCell ⟨g,K,none⟩ (.int .u64 ((x|||gc F T K:Nat):Int))):xj w b g n a F T f (K+1) p:=by
 have c:=B4 (F:=F) (T:=T) m r;have l:Fr (fun k=>k=a) W (W.setCell a (.int .i64 h)).drew:=((Kb (fun k=>k=a) W).setCell a (.inl rfl) _).drew;have v:=q.frame l u (fun e=>d e.symm);have o:=q.lt x (ar m);refine ⟨_,h,zp v m (x|||gc F T K) (jX (n:=64) o (ox _ _ _)) (fun j z=> ?_) _ rfl i,c,?_,?_⟩
 ·rw [c];unfold lX
  grind
 ·rw [i];exact (s.set 0 (.int .i64 h)).drew.Qg _ _ d
 ·rw [i];exact (((t.setCell a (.inl (.inr rfl)) _).drew).setCell ⟨g,K,none⟩ (.inl (.inl rfl)) _)
theorem xt{w W m:World}{b g n a F T K y:Nat}{f:Nat->Bool}(hf:∀j,n<=j->f j=false)(d:a≠g)(u:b≠a){ws:List Nat}{x:Nat}(p:cP W b g n ws)(r:∀j,aZ ws j=lE f F T K j){V:Int}(s:ay W a [(V:Int)] 3)(t:Fr (fun k=>k=g\/k=a) w W)
  (o:ws[K]? =some x) (A:y<18446744073709551616) (v:∀q,q<64->y.testBit q=(x.testBit q&& !(gc F T K).testBit q)) (h:Int) (i:m=(W.setCell a (.int .i64 h)).drew.setCell ⟨g,K,none⟩ (.int .u64 y)):wW w b g n a F T f (K+1) m:=by
 have c:=AF (F:=F) (T:=T) o v r;have l:Fr (fun k=>k=a) W (W.setCell a (.int .i64 h)).drew:=((Kb (fun k=>k=a) W).setCell a (.inl rfl) _).drew;have z:=p.frame l u (fun e=>d e.symm);refine ⟨_,h,zp z o y A (fun j B=> ?_) _ rfl i,c,?_,?_⟩
 ·simp_all [lE]
 ·rw [i];exact (s.set 0 (.int .i64 h)).drew.Qg _ _ d
 ·rw [i];exact (((t.setCell a (.inl (.inr rfl)) _).drew).setCell ⟨g,K,none⟩ (.inl (.inl rfl)) _)
theorem qQ{w:World}{b g n K:Nat}{ws:List Nat}(h:cP w b g n ws)(d:64*K<n):∃x,ws[K]? =some x/\x<18446744073709551616/\w.cell? ⟨g,K,none⟩=some (.int .u64 x):=by
 have c:K<ws.length:=by rw [h.len];omega
 obtain ⟨x,a⟩:∃x,ws[K]? =some x:=⟨_,aC c⟩;exact ⟨x,a,h.lt x (ar a),h.at a⟩
theorem xw{w:World}{b g n:Nat}{ws:List Nat}(h:cP w b g n ws):∃c,(n+63)/64<=c/\w.cell? b=some (.slice (some g) ((n+63)/64) c):=by
 have:=h.c0;rwa [h.len] at this
theorem cP.drew{w:World}{b g n:Nat}{ws:List Nat}(h:cP w b g n ws):cP w.drew b g n ws:=h.frame (S:=fun _=>False) ((Kb _ w).drew) id id
theorem AN{w:World}{b g n F T:Nat}{ws:List Nat}(h:cP w b g n ws)(r:F<=T)(B:T<=n):Calls prog 215 #[b,(F:Int),(T:Int)] w fun e w'=>(∃V,e= .returned (V:Int))/\∃a,cP w' b g n a/\(∀j,aZ a j=(aZ ws j||(decide (F<=j)&&decide (j<T))))/\Fr (fun k=>k=g) w w':=by
 have u:=h.Ze;have t:=h.blt;have L:(w.alloc (.cells #[(0:Int)] 3)).heap.size=w.heap.size+1:=by simp
 have m:Fr (fun k=>k=g\/k=w.heap.size) w (w.alloc (.cells #[(0:Int)] 3)):=(Kb _ w).alloc _;have y:xj w b g n w.heap.size F T (aZ ws) (F/64) (w.alloc (.cells #[(0:Int)] 3)):=⟨ws,0,h.frame (S:=fun _=>False) ((Kb _ w).alloc _) id id,fun j=>yL.symm,ay.new w _ _,m⟩;have D:=ae (rU (w:=w.alloc (.cells #[(0:Int)] 3)) (b:=b) (g:=g) (n:=n) rfl 234 w.heap.size F T (enters_of func234 (by kernel_rfl) rfl) r B h.small (T:Int) (by omega) (xj w b g n w.heap.size F T (aZ ws))
  (fun K W ⟨a,V,d,o,f,p⟩=>⟨xw d,a,V,d.drew,o,f.drew,p.drew⟩) ((h.frame (S:=fun _=>False) ((Kb _ w).alloc _) id id).c1)
  (fun K W G H I ⟨a,V,d,o,f,p⟩=>by
   obtain ⟨x,M,v,J⟩:=qQ (K:=K) d (by omega);refine (IL x (gc F T K) V v (ox _ _ _) J (d.free K) (f.cell 0 rfl) (f.free 0) (by omega)).mono ?_;rintro e N ⟨rfl,E,s⟩;exact ⟨rfl,yM B h.off (by omega) (by omega) d o f p M E s⟩) y
  (fun e W=>e= .returned (.tuple #[])/\xj w b g n w.heap.size F T (aZ ws) (if F<T then (T-1)/64+1 else F/64) W) (fun W s=>⟨rfl,s⟩))
 have c:∀W,xj w b g n w.heap.size F T (aZ ws) (if F<T then (T-1)/64+1 else F/64) W->(∃V,W.cell? w.heap.size=some (V:Int))/\∃a,cP W b g n a/\(∀j,aZ a j=(aZ ws j||(decide (F<=j)&&decide (j<T))))/\Fr (fun k=>k=g) w W:=fun W ⟨a,V,d,o,f,p⟩=>
  ⟨⟨V,f.cell 0 rfl⟩,a,d,fun j=>by rw [o,EE],p.mono (fun i q=>by rcases q with q|q;exact .inl q;exact .inr (by omega))⟩
 have l:=ae c;clear c y m h u t
 go_enter func215,ntmps215
 go_wp2_with fail
 refine D.out.mono ?_;rintro e w' ⟨rfl,z⟩;obtain ⟨⟨V,O⟩,A⟩:=l.out _ z;have C:=ae A;clear z A;go_wp2;go_ret;exact ⟨⟨V,rfl⟩,C.out⟩
theorem sR{w:World}{b g n F T:Nat}{ws:List Nat}(h:cP w b g n ws)(s:F<=T)(M:T<=n):Calls prog 198 #[b,(F:Int),(T:Int)] w fun e w'=>(∃V,e= .returned (V:Int))/\∃a,cP w' b g n a/\(∀j,aZ a j=(aZ ws j&& !(decide (F<=j)&&decide (j<T))))/\Fr (fun k=>k=g) w w':=by
 have v:=h.Ze;have u:=h.blt;have O:(w.alloc (.cells #[(0:Int)] 3)).heap.size=w.heap.size+1:=by simp
 have m:Fr (fun k=>k=g\/k=w.heap.size) w (w.alloc (.cells #[(0:Int)] 3)):=(Kb _ w).alloc _;have B:wW w b g n w.heap.size F T (aZ ws) (F/64) (w.alloc (.cells #[(0:Int)] 3)):=⟨ws,0,h.frame (S:=fun _=>False) ((Kb _ w).alloc _) id id,fun j=>xr.symm,ay.new w _ _,m⟩;have G:=ae (rU (w:=w.alloc (.cells #[(0:Int)] 3)) (b:=b) (g:=g) (n:=n) rfl 225 w.heap.size F T (enters_of func225 (by kernel_rfl) rfl) s M h.small (T:Int) (by omega) (wW w b g n w.heap.size F T (aZ ws))
  (fun K W ⟨a,V,d,p,f,q⟩=>⟨xw d,a,V,d.drew,p,f.drew,q.drew⟩) ((h.frame (S:=fun _=>False) ((Kb _ w).alloc _) id id).c1)
  (fun K W I J L ⟨a,V,d,p,f,q⟩=>by
   obtain ⟨x,P,o,N⟩:=qQ (K:=K) d (by omega);obtain ⟨y,Q,z,A⟩:=qv x (gc F T K) o (ox _ _ _);refine (Ig x (gc F T K) V o (ox _ _ _) N (d.free K) (f.cell 0 rfl) (f.free 0) (by omega) y z).mono ?_;rintro e R ⟨rfl,H,t⟩;exact ⟨rfl,xt h.off (by omega) (by omega) d p f q P Q A H t⟩) B
  (fun e W=>e= .returned (.tuple #[])/\wW w b g n w.heap.size F T (aZ ws) (if F<T then (T-1)/64+1 else F/64) W) (fun W t=>⟨rfl,t⟩))
 have c:∀W,wW w b g n w.heap.size F T (aZ ws) (if F<T then (T-1)/64+1 else F/64) W->(∃V,W.cell? w.heap.size=some (V:Int))/\∃a,cP W b g n a/\(∀j,aZ a j=(aZ ws j&& !(decide (F<=j)&&decide (j<T))))/\Fr (fun k=>k=g) w W:=fun W ⟨a,V,d,p,f,q⟩=>
  ⟨⟨V,f.cell 0 rfl⟩,a,d,fun j=>by rw [p,CK],q.mono (fun i r=>by rcases r with r|r;exact .inl r;exact .inr (by omega))⟩
 have l:=ae c;clear c B m h v u
 go_enter func198,ntmps198
 go_wp2_with fail
 refine G.out.mono ?_;rintro e w' ⟨rfl,C⟩;obtain ⟨⟨V,U⟩,D⟩:=l.out _ C;have E:=ae D;clear C D;go_wp2;go_ret;exact ⟨⟨V,rfl⟩,E.out⟩
theorem wG{w W d:World}{b g n a F T K:Nat}{ws:List Nat}(f:a≠g)(p:b≠a)(r:F/64<=K)(h:qf w b g n a F T ws K W){x:Nat}(s:ws[K]? =some x)
  (j:d=(W.setCell a (.int .i64 (((Qc (iV (aZ ws) F T) (64*(F/64)) (64*K):Nat):Int)+(iZ (zT (gc F T K&&&x) 0 64) 64:Nat)))).drew):qf w b g n a F T ws (K+1) d:=by
 obtain ⟨l,m,o⟩:=h;have c:Fr (fun k=>k=a) W d:=by rw [j];exact ((Kb (fun k=>k=a) W).setCell a (.inl rfl) _).drew
 refine ⟨l.frame c p (fun e=>f e.symm),?_,o.trans c (fun i q=> .inl q)⟩;rw [j];have:=(m.set 0 (.int .i64 (((Qc (iV (aZ ws) F T) (64*(F/64)) (64*K):Nat):Int)+(iZ (zT (gc F T K&&&x) 0 64) 64:Nat)))).drew
 grind [yY,bp]
theorem qR{w:World}{b g n F T:Nat}{ws:List Nat}(h:cP w b g n ws)(j:F<=T)(E:T<=n)(X:Int)(G:min X (n:Int)=(T:Int)):Calls prog 236 #[b,(F:Int),(X:Int)] w fun e w'=>e= .returned (.int .i64 ((Qc (aZ ws) F T:Nat):Int))/\J7 w w':=by
 have t:=h.Ze;have s:=h.blt;have I:=h.small;have v:qf w b g n w.heap.size F T ws (F/64) (w.alloc (.cells #[(0:Int)] 3)):=⟨h.frame (S:=fun _=>False) ((Kb _ w).alloc _) id id,by rw [eL _ (ag _)];exact ay.new w _ _,(Kb _ w).alloc _⟩;have l:∀K,Qc (iV (aZ ws) F T) (64*(F/64)) (64*K)<=1048576:=fun K=>by
  by_cases M:64*K<=T
  ·have:=dA (iV (aZ ws) F T) (64*(F/64)) (64*K);omega
  ·by_cases o:64*(F/64)<=T
   ·rw [bp (iV (aZ ws) F T) o (show T<=64*K by omega),bP (a:=T) (b:=64*K) (fun i h _=>by unfold iV;rw [decide_eq_false (show¬i<T by omega),Bool.and_false];rfl)];have:=dA (iV (aZ ws) F T) (64*(F/64)) T;omega
   ·omega
 have B:=ae (rU (w:=w.alloc (.cells #[(0:Int)] 3)) (b:=b) (g:=g) (n:=n) rfl 247 w.heap.size F T (enters_of func247 (by kernel_rfl) rfl) j E h.small X G (qf w b g n w.heap.size F T ws)
  (fun K W ⟨m,d,p⟩=>⟨xw m,m.drew,d.drew,p.drew⟩) ((h.frame (S:=fun _=>False) ((Kb _ w).alloc _) id id).c1)
  (fun K W q C D z=>by
   obtain ⟨m,d,p⟩:=id z;obtain ⟨x,J,u,H⟩:=qQ (K:=K) m (by omega);refine (GN x (gc F T K) _ u (ox _ _ _) H (d.cell 0 rfl) (d.free 0) ⟨by omega,by have:=l K;omega⟩).mono ?_;rintro e L ⟨rfl,r⟩;exact ⟨rfl,wG (by omega) (by omega) q z J r⟩) v
  (fun e W=>e= .returned (.tuple #[])/\qf w b g n w.heap.size F T ws (if F<T then (T-1)/64+1 else F/64) W) (fun W r=>⟨rfl,r⟩))
 have c:∀W,qf w b g n w.heap.size F T ws (if F<T then (T-1)/64+1 else F/64) W->W.cell? w.heap.size=some (.int .i64 ((Qc (aZ ws) F T:Nat):Int))/\J7 w W:=fun W ⟨m,d,p⟩=>by
  refine ⟨?_,p.mono (fun i P=> .inr (by omega))⟩;have:=d.cell 0 rfl;by_cases k:F<T
  ·rwa [if_pos k,wF _ (by omega) j (by omega)] at this
  ·rw [if_neg k,eL _ (ag _)] at this;rw [eL _ (show T<=F by omega)];exact this
 have f:=ae c;generalize Qc (aZ ws) F T=N at*;clear c v h t s l
 go_enter func236,ntmps236
 go_wp2_with fail
 refine B.out.mono ?_;rintro e w' ⟨rfl,o⟩;obtain ⟨O,y⟩:=f.out _ o;have A:=ae y;clear o y;go_wp2;go_ret;exact ⟨rfl,A.out⟩
def iG(E:Nat->Nat):Prop:=∀a b,a<b->E a≠0->E b≠0->a+E a<=b
def cV(E:Nat->Nat)(a:Nat):Bool:=E a !=0
def sG(E:Nat->Nat)(e:Nat):Bool:=(List.range (e+1)).any fun s=>E s !=0&&s+E s==e+1
def aw(E:Nat->Nat)(a:Nat):Bool:=(List.range (a+1)).any fun s=>decide (a<s+E s)
theorem cE{E:Nat->Nat}{a:Nat}:aw E a=true↔∃s,s<=a/\a<s+E s:=by
 unfold aw
 grind
theorem oK{E:Nat->Nat}{e:Nat}:sG E e=true↔∃s,E s≠0/\s+E s=e+1:=by
 unfold sG
 grind
theorem eG{E:Nat->Nat}{a:Nat}:cV E a=true↔E a≠0:=by unfold cV;grind
theorem iG.owner{E:Nat->Nat}(h:iG E){s t a:Nat}(g:s<=a)(e:a<s+E s)(i:t<=a)(f:a<t+E t):s=t:=by
 rcases cW s t with c|d|b
 ·have:=h s t c (by omega) (by omega);omega
 ·omega
 ·have:=h t s b (by omega) (by omega);omega
theorem iG.end_of{E:Nat->Nat}(h:iG E){s:Nat}(c:E s≠0):sG E (s+E s-1)=true/\∀j,s<=j->j<s+E s-1->sG E j=false:=by
 refine ⟨oK.2 ⟨s,c,by omega⟩,fun j f g=> ?_⟩
 cases hj:sG E j with
 |false=>rfl
 |true=>
  obtain ⟨t,d,i⟩:=oK.1 hj;rcases cW s t with b|e|a
  ·have:=h s t b c d;omega
  ·grind
  ·have:=h t s a d c;omega
theorem oA{E:Nat->Nat}{s i:Nat}(a:i<E s):aw E (s+i)=true:=cE.2 ⟨s,by omega,by omega⟩
theorem IP{E:Nat->Nat}{s i:Nat}(e:i<=E s):Qc (aw E) 0 (s+i)=Qc (aw E) 0 s+i:=by
 rw [bp (aw E) (ao s) (dX s i),pO (a:=s) (b:=s+i) (fun j c d=>by
  have:=oA (E:=E) (s:=s) (i:=j-s) (by omega)
  grind)]
 omega
def goes(E:Nat->Nat)(Ba a:Nat):Nat:=Ba+Qc (aw E) 0 a
theorem qG{E:Nat->Nat}{Ba s i:Nat}(a:i<=E s):goes E Ba (s+i)=goes E Ba s+i:=by grind [goes,IP]
theorem ku{E:Nat->Nat}{Ba a b:Nat}(h:a<=b):goes E Ba a<=goes E Ba b:=by
 simp_all [goes,it]
theorem tA{E:Nat->Nat}{Ba a:Nat}(h:∀s,E s≠0->Ba<=s)(c:Ba<=a):goes E Ba a<=a:=by
 unfold goes;rw [bp (aw E) (ao Ba) c,bP (a:=0) (b:=Ba) (fun j _ d=>by
  grind [cE])]
 grind [dA]
def dR(E:Nat->Nat)(s n:Nat):Nat->Nat:=fun a=>if a=s then n else E a
theorem xK{E:Nat->Nat}(h:iG E){s n:Nat}(k:n≠0)(i:∀a,a<s->E a≠0->a+E a<=s)(j:∀b,s<=b->E b≠0->s+n<=b):iG (dR E s n):=by
 intro a b c d e;unfold dR at*;by_cases f:a=s
 ·grind
 ·rw [if_neg f] at d ⊢;by_cases g:b=s
  ·grind
  ·rw [if_neg g] at e;exact h a b c d e
structure bT where
 m:Nat
 s:Nat
 gs:Nat
 e:Nat
 ge:Nat
def bT.has(L:bT)(k:Nat):Prop:=k=L.m\/k=L.s\/k=L.gs\/k=L.e\/k=L.ge
def bT.turns(L:bT)(k:Nat):Prop:=k=L.m\/k=L.gs\/k=L.ge
theorem bT.Qh{L:bT}{k:Nat}(h:L.turns k):L.has k:=by
 rcases h with h|h|h
 ·exact .inl h
 ·exact .inr (.inr (.inl h))
 ·exact .inr (.inr (.inr (.inr h)))
structure eo(w:World)(L:bT)(W:Nat)(E:Nat->Nat):Prop where
 Qd:ay w L.m [L.s,L.e,(((Qc (cV E) 0 W:Nat):Int):Int)] 238
 sv:∃ws,cP w L.s L.gs W ws/\∀j,aZ ws j=cV E j
 ev:∃ws,cP w L.e L.ge W ws/\∀j,aZ ws j=sG E j
 apart:iG E
 top:∀a,E a≠0->a+E a<=W
 d1:L.m≠L.gs
 d2:L.m≠L.ge
 d3:L.s≠L.ge
 d4:L.e≠L.gs
 d5:L.gs≠L.ge
 d6:L.s≠L.m
 d7:L.e≠L.m
theorem eo.frame{S:Nat->Prop}{w w':World}{L:bT}{W:Nat}{E:Nat->Nat}(h:eo w L W E)(hf:Fr S w w')(a:∀k,L.has k->¬S k):eo w' L W E:=
 ⟨h.Qd.frame hf (a _ (.inl rfl)),let ⟨ws,b,c⟩:=h.sv;⟨ws,b.frame hf (a _ (.inr (.inl rfl))) (a _ (.inr (.inr (.inl rfl)))),c⟩,
  let ⟨ws,b,c⟩:=h.ev;⟨ws,b.frame hf (a _ (.inr (.inr (.inr (.inl rfl))))) (a _ (.inr (.inr (.inr (.inr rfl))))),c⟩,h.apart,h.top,h.d1,h.d2,h.d3,h.d4,h.d5,h.d6,h.d7⟩
theorem eo.small{w:World}{L:bT}{W:Nat}{E:Nat->Nat}(h:eo w L W E):1<=W/\W<=1048576:=let ⟨_,a,_⟩:=h.sv;⟨a.one,a.small⟩
theorem eo.lt{w:World}{L:bT}{W:Nat}{E:Nat->Nat}(h:eo w L W E):∀k,L.has k->k<w.heap.size:=by
 obtain ⟨ws,a,_⟩:=h.sv;obtain ⟨c,b,_⟩:=h.ev;rintro k (rfl|rfl|rfl|rfl|rfl)
 ·exact h.Qd.lt
 ·exact a.blt
 ·exact a.Ze
 ·exact b.blt
 ·exact b.Ze
theorem ib{w:World}{m s e:Nat}{v:Value}(h:ay w m [s,.pointer (some ⟨e,0,none⟩),v] 238):Calls prog 162 #[m] w fun e w'=>e= .returned (.bool false)/\w=w':=by
 have a:=h.cell 0 rfl;clear h
 go_enter func162,ntmps162
 go_wp2;go_ret;exact ⟨rfl,rfl⟩
theorem gU{w:World}{L:bT}{W:Nat}{E:Nat->Nat}(h:eo w L W E):Calls prog 170 #[L.m] w fun e w'=>e= .returned (W:Int)/\w=w':=by
 have c:=ae (ib h.Qd);have d:=h.Qd.cell 0 rfl;obtain ⟨ws,a,_⟩:=h.sv;have b:=ae (lF a);clear h a
 go_enter func170,ntmps170
 go_wp2_with fail
 refine c.out.mono ?_;rintro e w' ⟨rfl,rfl⟩;go_wp2_with fail
 refine b.out.mono ?_;rintro e w' ⟨rfl,rfl⟩;go_wp2;go_ret;exact ⟨rfl,rfl⟩
theorem rT{w:World}{L:bT}{W:Nat}{E:Nat->Nat}(h:eo w L W E)(u:ee w)(a:Nat)(q:E a≠0):Calls prog 164 #[L.m,(a:Int)] w fun e w'=>e= .returned (.int .i64 (E a:Int))/\w=w':=by
 have c1:=h.Qd.cell 1 rfl;obtain ⟨ws,p,g⟩:=h.ev;have r:=h.top a q;have y:=h.small;obtain ⟨c,d⟩:=h.apart.end_of q;have t:=ae (ko p u a (by omega));have b:∀e w',oR (aZ ws) W a w e w'->e= .returned (.tuple #[(((a+E a-1:Nat):Int):Int),.bool true])/\w=w':=by
  rintro e w' ⟨hp,A⟩;refine ⟨?_,A⟩;rcases hp with ⟨j,f,rfl⟩|⟨f,rfl⟩
  ·have:j=a+E a-1:=by
    rcases cW j (a+E a-1) with l|i|k
    ·have:=d j f.1 l;rw [<-g,f.2.2.1] at this;cases this
    ·exact i
    ·have:=f.2.2.2 (a+E a-1) (by omega) k;rw [g,c] at this;cases this
   rw [this]
  ·have:=f (a+E a-1) (by omega) (by omega);rw [g,c] at this;cases this
 have o:=ae b;have s:((a+E a-1:Nat):Int)=(a:Int)+(E a:Int)-1:=by omega
 rw [s] at o;generalize E a=n at*;have v:(a:Int)<=1048576:=by omega
 have x:(n:Int)<=1048576:=by omega
 clear h p g c d b s
 go_enter func164,ntmps164
 go_wp2_with fail
 refine t.out.mono ?_;rintro e w' hp;obtain ⟨rfl,rfl⟩:=o.out _ _ hp;clear hp;go_wp2;go_ret;refine ⟨?_,rfl⟩;exact congrArg (fun z=>Ending.returned (z:Int)) (by omega)
def gg(E:Nat->Nat)(a:Nat)(w:World)(e:Ending)(w':World):Prop:=
 ((∃s n:Nat,s<=a/\E s=n/\a<s+n/\e= .returned (.tuple #[(s:Int),(n:Int),.bool true]))\/((∀s,s<=a->s+E s<=a)/\e= .returned (.tuple #[(0:Int),(0:Int),.bool false])))/\w=w'
theorem ky{w:World}{L:bT}{W:Nat}{E:Nat->Nat}(h:eo w L W E)(x:ee w)(a:Nat)(X:a<=1048576):Calls prog 214 #[L.m,(a:Int)] w (gg E a w):=by
 have D:=ae (ib h.Qd);have F:=ae (gU h);have V:=h.Qd.cell 0 rfl;have q:=h.small;have P:(a:Int)<=1048576:=by omega
 by_cases p:W<=a
 ·have g:gg E a w (.returned (.tuple #[(0:Int),(0:Int),.bool false])) w:=⟨.inr ⟨fun s H=>by
   by_cases i:E s=0
   ·omega
   ·have:=h.top s i;omega,rfl⟩,rfl⟩
  have k:=ae g;have y:(W:Int)<=(a:Int):=by omega
  generalize gg E a w=Q at*;clear h x g p q
  go_enter func214,ntmps214
  go_wp2_with fail
  refine D.out.mono ?_;rintro e w' ⟨rfl,rfl⟩;go_wp2_with fail
  refine F.out.mono ?_;rintro e w' ⟨rfl,rfl⟩;go_wp2
  go_ret3
  exact k.out
 ·obtain ⟨ws,G,r⟩:=h.sv;have C:=ae (AM G (a+1) (by omega) (by omega));rw [show ((a+1:Nat):Int)=(a:Int)+1 by omega] at C;have d:∀w',(∀j,j<a+1->aZ ws j=false)->w=w'->gg E a w (.returned (.tuple #[(0:Int),(0:Int),.bool false])) w':=fun w' b R=>⟨.inr ⟨fun s H=>by
   by_cases i:E s=0
   ·omega
   ·have:=b s (by omega)
    (rw [r,eG.2 i] at this;cases this),rfl⟩,R⟩
  have f:∀j,yg (aZ ws) (a+1) j->j<=a/\E j≠0/\E j<=1048576/\(a<j+E j->gg E a w (.returned (.tuple #[(j:Int),((E j:Int):Int),.bool true])) w)/\(j+E j<=a->gg E a w (.returned (.tuple #[(0:Int),(0:Int),.bool false])) w):=fun j b=>by
   have v:E j≠0:=by have:=b.2.1;rw [r] at this;exact eG.1 this
   have:=h.top j v;refine ⟨by have:=b.1;omega,v,by omega,fun c=>⟨.inl ⟨j,E j,by have:=b.1;omega,rfl,c,rfl⟩,rfl⟩,fun B=>⟨.inr ⟨fun s H=> ?_,rfl⟩,rfl⟩⟩;by_cases i:E s=0
   ·omega
   ·rcases cW s j with c|z|A
    ·have:=h.apart s j c i v;omega
    ·subst z;exact B
    ·have:=b.2.2 s A (by omega);rw [r,eG.2 i] at this;cases this
  have N:=ae (rT h x);have t:=ae d;have u:=ae f;have y:(a:Int)<(W:Int):=by omega
  generalize gg E a w=Q at*;clear h x G r d f p q
  go_enter func214,ntmps214
  go_wp2_with fail
  refine D.out.mono ?_;rintro e w' ⟨rfl,rfl⟩;go_wp2_with fail
  refine F.out.mono ?_;rintro e w' ⟨rfl,rfl⟩;go_wp2_with fail
  refine C.out.mono ?_;rintro e w' ⟨hp,rfl⟩;rcases hp with ⟨j,b,rfl⟩|⟨b,rfl⟩
  ·obtain ⟨Y,S,Z,I,J⟩:=u.out j b;have o:=ae (N.out j S);have M:=ae I;have K:=ae J;clear I J b;generalize E j=n at*;have T:(j:Int)<=(a:Int):=by omega
   have U:(n:Int)<=1048576:=by omega
   by_cases c:a<j+n
   ·have O:(a:Int)<(j:Int)+(n:Int):=by omega
    have l:=ae (M.out c);go_wp2_with fail
    refine o.out.mono ?_;rintro e w' ⟨rfl,rfl⟩;go_wp2
    go_ret3
    exact l.out
   ·have O:(j:Int)+(n:Int)<=(a:Int):=by omega
    have l:=ae (K.out (by omega));go_wp2_with fail
    refine o.out.mono ?_;rintro e w' ⟨rfl,rfl⟩;go_wp2
    go_ret3
    exact l.out
  ·have l:=ae (t.out _ b rfl);clear b;go_wp2
   go_ret3
   exact l.out
def ie(E:Nat->Nat)(W a:Nat)(w:World)(e:Ending)(w':World):Prop:=
 ((∃s n:Nat,lT (cV E) a W s/\E s=n/\e= .returned (.tuple #[(s:Int),(n:Int),.bool true]))\/((∀s,a<=s->s<W->cV E s=false)/\e= .returned (.tuple #[(0:Int),(0:Int),.bool false])))/\w=w'
theorem pL{w:World}{L:bT}{W:Nat}{E:Nat->Nat}(h:eo w L W E)(q:ee w)(a:Nat)(A:a<=1048576):Calls prog 183 #[L.m,(a:Int)] w (ie E W a w):=by
 have y:=ae (ib h.Qd);have C:=h.Qd.cell 0 rfl;have r:=h.small;have B:(a:Int)<=1048576:=by omega
 obtain ⟨ws,u,f⟩:=h.sv;have x:=ae (ko u q a A);have c:(∀j,a<=j->j<W->aZ ws j=false)->ie E W a w (.returned (.tuple #[(0:Int),(0:Int),.bool false])) w:=fun b=>⟨.inr ⟨fun s t g=>by rw [<-f];exact b s t g,rfl⟩,rfl⟩
 have d:∀j,lT (aZ ws) a W j->E j≠0/\ie E W a w (.returned (.tuple #[(j:Int),((E j:Int):Int),.bool true])) w:=fun j b=>
  ⟨by have:=b.2.2.1;rw [f] at this;exact eG.1 this,.inl ⟨j,E j,⟨b.1,b.2.1,by rw [<-f];exact b.2.2.1,fun k t g=>by rw [<-f];exact b.2.2.2 k t g⟩,rfl,rfl⟩,rfl⟩
 have z:=ae (rT h q);have i:=ae c;have o:=ae d;generalize ie E W a w=Q at*;clear h q u f c d r
 go_enter func183,ntmps183
 go_wp2_with fail
 refine y.out.mono ?_;rintro e w' ⟨rfl,rfl⟩;go_wp2_with fail
 refine x.out.mono ?_;rintro e w' ⟨hp,rfl⟩;rcases hp with ⟨j,b,rfl⟩|⟨b,rfl⟩
 ·obtain ⟨g,v⟩:=o.out j b;have p:=ae (z.out j g);have l:=ae v;clear v b;generalize E j=n at*;go_wp2_with fail
  refine p.out.mono ?_;rintro e w' ⟨rfl,rfl⟩;go_wp2
  go_ret3
  exact l.out
 ·have l:=ae (i.out b);clear b;go_wp2
  go_ret3
  exact l.out
structure Gr where
 size:Nat->Nat
 Qr:Nat->List Nat
inductive Reach(G:Gr)(rs:List Nat):Nat->Prop
 |root {a:Nat}:a∈rs->a≠0->Reach G rs a
 |step {a p:Nat}:Reach G rs a->p∈G.Qr a->p≠0->Reach G rs p
theorem Reach.pos{G:Gr}{rs:List Nat}{a:Nat}(h:Reach G rs a):a≠0:=by cases h<;>assumption
structure gd(G:Gr)(rs:List Nat)(N:Nat):Prop where
 apart:iG G.size
 top:∀a,G.size a≠0->a+G.size a<=N
 root:∀a∈rs,a≠0->G.size a≠0
 ptr:∀a,G.size a≠0->∀p∈G.Qr a,p≠0->G.size p≠0
theorem gd.reach{G:Gr}{rs:List Nat}{N:Nat}(h:gd G rs N){a:Nat}(b:Reach G rs a):G.size a≠0:=by
 induction b with
 |root h1 h2=>exact h.root _ h1 h2
 |step _ h1 h2 ih=>exact h.ptr _ ih _ h1 h2
def fz(G:Gr)(rs:List Nat)(E:Nat->Nat):Prop:=∀a,E a≠0->Reach G rs a/\E a=G.size a
def Cw(G:Gr)(E:Nat->Nat)(a:Nat):Prop:=∀p∈G.Qr a,p≠0->E p≠0
theorem fz.none(G:Gr)(rs:List Nat):fz G rs (fun _=>0):=fun _ h=>absurd rfl h
theorem fz.put{G:Gr}{rs:List Nat}{E:Nat->Nat}(h:fz G rs E){a:Nat}(d:Reach G rs a):fz G rs (dR E a (G.size a)):=by
 intro b c;unfold dR at*;by_cases e:b=a
 ·grind
 ·rw [if_neg e] at c ⊢;exact h b c
theorem fz.Rm{G:Gr}{rs:List Nat}{E:Nat->Nat}{N a:Nat}(h:fz G rs E)(d:gd G rs N)(e:G.size a≠0)(g:E a=0):
  (∀s,s<=a->s+E s<=a)/\(∀s,a<=s->E s≠0->a+G.size a<=s):=by
 constructor
 ·intro s f;by_cases b:E s=0
  ·omega
  ·by_cases c:s=a
   ·grind
   ·rw [(h s b).2];exact d.apart s a (by omega) (by rw [<-(h s b).2];exact b) e
 ·intro s f b;by_cases c:s=a
  ·grind
  ·exact d.apart a s (by omega) e (by rw [<-(h s b).2];exact b)
theorem ze{G:Gr}{rs:List Nat}{E:Nat->Nat}(c:∀a∈rs,a≠0->E a≠0)(b:∀a,E a≠0->Cw G E a){a:Nat}(h:Reach G rs a):E a≠0:=by
 induction h with
 |root h1 h2=>grind
 |step _ h1 h2 ih=>exact b _ ih _ h1 h2
theorem yd{G:Gr}{rs:List Nat}{E:Nat->Nat}(c:fz G rs E)(d:∀a∈rs,a≠0->E a≠0)(b:∀a,E a≠0->Cw G E a)(a:Nat):E a≠0↔Reach G rs a:=
 ⟨fun h=>(c a h).1,ze d b⟩
theorem nC{E:Nat->Nat}{a n N:Nat}(k:n≠0)(j:E a=0)(c:a<N):Qc (cV (dR E a n)) 0 N=Qc (cV E) 0 N+1:=by
 rw [bp (cV (dR E a n)) (ao a) (ea c),bp (cV E) (ao a) (ea c),
  bY (f:=cV (dR E a n)) (g:=cV E) (a:=0) (b:=a) (fun i _ h=>by unfold cV dR;grind)]
 have d:∀f:Nat->Bool,Qc f a N=(if f a then 1 else 0)+Qc f (a+1) N:=fun f=>by
  rw [bp f (show a<=a+1 from fx a) (show a+1<=N from c),bJ f (ag a),eL f (ag a),bq]
 rw [d (cV (dR E a n)),d (cV E),bY (f:=cV (dR E a n)) (g:=cV E) (a:=a+1) (b:=N) (fun i h _=>by unfold cV dR;grind)];have e:cV (dR E a n) a=true:=eG.2 (by unfold dR;grind)
 grind [cV]
end Go.Proofs.YtgnoapadkncphaaGreatDoor
