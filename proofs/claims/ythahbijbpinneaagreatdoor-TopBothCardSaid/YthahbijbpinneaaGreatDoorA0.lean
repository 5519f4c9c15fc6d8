import Derived.WalkKit
import Derived.WalkSpells
import Derived.WalkLawsBesides
import Derived.WalkSmall
import Derived.Deep.QuietTactic
import Derived.BigQuiet
import Derived.StillTailTactics
import Derived.Lib.Hide
import Derived.OpenShut
import Derived.Deep.DeepCutAuto
import Derived.Deep.MidRow
import Derived.Great.Walk
import Derived.Laws.ResultCell
import Derived.Test.YthahbijbpinneaaGreatDoorRows
import Derived.Deep.Slices
import Derived.ProofKit
import Derived.Laws.Rows
import Derived.Lib.AppendZerosOnto
import Derived.Lib.SliceRun
import Derived.Laws.BitsAllLaws
import Derived.Laws.BitsLemmas
import Derived.Lib.TrailingZeros
import Derived.Lib.BitFns
import Derived.Test.YthahbijbpinneaaGreatDoorShelf
import Derived.Laws.MakeOwn
set_option maxRecDepth 100000
set_option maxHeartbeats 8000000
set_option linter.all false
namespace Go.Proofs.YthahbijbpinneaaGreatDoor
open Go.RowKit Go.Proofs.Tryz
theorem aa:(∀(t:Array Value)(D)(n:Nat)(v:Value),Act.put ⟨t,D⟩ (some n) v=⟨t.setIfInBounds n v,D⟩)/\(∀(a:Act)(v:Value),a.put none v=a)/\(∀(l:List Value)(i:Nat)(v:Value),l.toArray.setIfInBounds i v=(l.set i v).toArray)/\(∀(x:Value)(l:List Value)(v:Value),(x::l).set 0 v=v::l)/\∀(x:Value)(l:List Value)(n:Nat)(v:Value),(x::l).set (n+1) v=x::l.set n v:=⟨fun _ _ _ _=>rfl,fun _ _=>rfl,fun _ _ _=>List.setIfInBounds_toArray _ _ _,fun _ _ _=>rfl,fun _ _ _ _=>rfl⟩
theorem ab (x:Value) (l:List Value) (v:Value):(x::l).set 0 v=v::l:=rfl
theorem ac (x:Value) (l:List Value) (n:Nat) (v:Value):(x::l).set (n+1) v=x::l.set n v:=rfl
theorem ae {p:Prop} (h:p):Hid p:=Lib.hid h
theorem ag {a b:Prop} (x:a) (y:b):a∧b:=⟨x,y⟩
def ai:=@List.take_succ_cons
def aj:=@List.drop_succ_cons
def ak:=@Nat.le_refl
def al:=@List.getElem?_eq_some_iff
def an:=@List.take_zero
def ao:=@List.drop_zero
def ar:=@decide_eq_false
def au:=@Bool.and_eq_true
def az:=@decide_eq_false_iff_not
def aB:=@decide_eq_true
def aC:=@decide_eq_true_eq
def aD:=@List.mem_of_getElem?
def aE:=@if_neg
def aF:=@Nat.zero_le
def aG:=@if_pos
def aH:=@List.length_append
def aK:=@List.getElem?_eq_getElem
def aL:=@Option.some.injEq
def aM:=@Nat.div_add_mod
def aN:=@Nat.mul_comm
def aP:=@List.length_singleton
def aQ:=@List.getD_eq_getElem?_getD
def aR:=@List.getElem?_map
def aT:=@beq_eq_false_iff_ne
def aX:=@Nat.mul_le_mul_right
def aY:=@Nat.lt_or_ge
def aZ:=@Nat.le_trans
def bc:=@List.length_set
def be:=@Bool.eq_false_iff
def bf:=@Option.some.inj
def bg:=@Nat.add_zero
def bi:=@Nat.div_le_div_right
def bl:=@Bool.and_eq_false_iff
def bn:=@List.length_cons
def bp:=@Nat.div_lt_iff_lt_mul
def bq:=@List.not_mem_nil
def br:=@Nat.zero_add
def bu:=@List.mem_map
def bv:=@List.mem_range
def bw:=@List.mem_iff_getElem?
def bx:=@List.mem_cons_of_mem
def bz:=@List.length_replicate
def bB:=@List.mem_append
def bC:=@Array.size_push
def bD:=@List.map_append
def bE:=@Nat.div_mul_le_self
def bF:=@List.getElem?_set
def bH:=@Array.getElem?_eq_some_iff
def bI:=@Nat.lt_succ_self
def bK:=@Nat.div_le_self
def bL:=@List.length_map
def bM:=@List.mem_cons
def bO:=@Nat.mod_lt
def bP:=@List.mem_singleton
def bQ:=@Bool.true_and
def bS:=@Bool.eq_iff_iff
def bU:=@Nat.lt_of_le_of_lt
def bV:=@List.eq_nil_of_length_eq_zero
def bW:=@Nat.add_assoc
def bX:=@List.getElem?_append_left
def bZ:=@List.nil_append
def b8:=@Bool.or_eq_true
def ca:=@Bool.or_false
def ce:=@decide_eq_decide
def cg:=@List.length_take
def ch:=@List.length_nil
def cq:=@List.mem_cons_self
def cz:=@Nat.lt_of_lt_of_le
def cA:=@Bool.false_eq_true
def cE:=@Array.getD_eq_getD_getElem?
def cG:=@Array.replicate_zero
def cH:=@Array.replicate_succ
def cL:=@List.getElem?_eq_none
def cM:=@Nat.add_sub_cancel_left
def cN:=@Int.eq_ofNat_of_zero_le
def cQ:=@List.append_toArray
def cT:=@beq_self_eq_true
def cU:=@List.size_toArray
def cV:=@Bool.and_false
def cW:=@List.map_cons
def cY:=@Nat.succ_mul
def dc:=@Nat.le_mul_of_pos_right
def dd:=@List.cons_append
def de:=@List.push_toArray
def dg:=@List.mem_append_left
def dh:=@List.mem_or_eq_of_mem_set
def di:=@Array.getElem?_eq_getElem
def dq:=@Nat.mul_div_cancel
def dz:=@beq_iff_eq
def dA:=@Nat.le_div_iff_mul_le
def dB:=@List.take_append_drop
def dC:=@Nat.lt_trichotomy
def dI:=@Nat.pow_le_pow_right
def dJ:=@List.getElem?_append_right
def dK:=@Nat.le_add_right
def dL:=@Nat.div_div_eq_div_mul
def dM:=@List.map_set
def dO:=@Int.toNat_natCast
def dS:=@List.eq_of_mem_replicate
def dT:=@Nat.testBit_and
def dX:=@Iff.rfl
def dZ:=@Bool.and_true
def d9:=@Nat.le_of_lt
def ea:=@List.take_add_one
def eb:=@Bool.not_eq_true'
def eh:=@Array.getElem?_setIfInBounds_ne
def ei:=@List.drop_eq_getElem_cons
def ek:=@Or.inl
def el:=@Nat.and_two_pow_sub_one_eq_mod
def en:=@List.length_drop
def eo:=@List.getElem?_take
def eu:=@List.sum_cons
def ew:=@Bool.or_true
def eC:=@Nat.eq_of_testBit_eq
def eD:=@List.getElem?_replicate
def eE:=@List.getElem?_cons_zero
def eG:=@Nat.two_pow_pos
def eH:=@Nat.and_le_left
def eI:=@List.map_congr_left
def eM:=@Nat.testBit_two_pow_sub_one
def eN:=@Nat.testBit_two_pow_mul_add
def eT:=@Nat.lt_of_mul_lt_mul_right
def eU:=@List.map_replicate
def eV:=@Bool.not_false
def eW:=@Bool.false_ne_true
def fb:=@Nat.not_lt_zero
def fc:=@Nat.min_eq_left
def fm:=@Nat.le_succ
def fo:=@Bool.or_eq_false_iff
def fy:=@Nat.add_lt_add_left
def fz:=@List.getElem?_range
def fD:=@or_false
def fE:=@if_false
def fF:=@List.getElem?_cons_succ
def fG:=@List.any_eq_true
def fH:=@List.all_eq_true
def fK:=@Nat.mul_one
def fL:=@Nat.mul_add
def fM:=@Nat.add_mul
def fN:=@List.take_append_of_le_length
def fP:=@Nat.ne_of_gt
def fR:=@List.getElem?_drop
def fV:=@Nat.testBit_two_pow_sub_succ
def ga:=@Bool.false_or
def gk:=@List.nodup_append
def gz:=@Nat.zero_mul
def gA:=@Nat.ne_of_lt
def gB:=@Nat.le_of_eq
def gG:=@Nat.mul_le_mul_left
def gJ:=@Nat.lt_irrefl
def gO:=@Nat.mul_add_div
def gP:=@List.cons.injEq
def ia:=@Nat.testBit_two_pow_mul
def ib:=@Nat.mul_div_cancel_left
def io:=@Nat.testBit_lt_two_pow
def ip:=@List.take_of_length_le
def iq:=@List.filter_eq_nil_iff
def ir:=@List.ext_getElem?
def it:=@List.append_assoc
def iv:=@Array.getElem?_eq_none
def iA:=@Classical.choose_spec
def iG:=@bne_iff_ne
def iH:=@Nat.testBit_succ
def iI:=@Nat.min_eq_right
def iJ:=@Nat.div_eq_of_lt
def iK:=@Nat.add_mod_left
def iL:=@List.drop_length
def iN:=@if_true
def iR:=@decide_true
def iT:=@Nat.sub_mul
def iU:=@List.mem_of_mem_take
def ja:=@List.mem_filter
def jc:=@Array.getElem?_setIfInBounds
def jj:=@Nat.sub_self
def jl:=@List.map_map
def jz:=@Nat.le_of_mul_le_mul_right
def jA:=@Nat.eq_zero_or_pos
def jB:=@Nat.and_one_is_mod
def jC:=@Nat.add_sub_cancel
def jD:=@Bool.false_and
def jG:=@Nat.testBit_two_pow_of_ne
def jH:=@List.getElem?_eq_none_iff
def jN:=@List.mem_range'_1
def jT:=@Bool.or_assoc
def j9:=@Option.getD_some
def ka:=@Option.bind_eq_some_iff
def ke:=@Nat.zero_lt_succ
def kf:=@Nat.testBit_mul_two_pow
def kg:=@List.take_length
def kh:=@List.prefix_refl
def ki:=@List.map_toArray
def kD:=@Nat.le_total
def kF:=@List.map_nil
def kJ:=@Bool.true_or
def kN:=@List.take_left'
def kO:=@Int.natCast_mul
def kS:=@List.contains_iff_mem
def kZ:=@true_and
def lJ:=@Nat.testBit_or
def lK:=@Nat.pow_lt_pow_right
def lL:=@Nat.pow_add
def lM:=@Nat.mul_le_mul
def lN:=@Nat.div_lt_of_lt_mul
def lO:=@Nat.div_le_of_le_mul
def lQ:=@List.take_take
def lR:=@List.take_left
def lS:=@List.set_append_left
def lT:=@List.getElem?_set_ne
def lU:=@List.drop_drop
def lV:=@List.Pairwise.filter
def lW:=@Int.le_refl
def mn:=@dif_pos
def mE:=@Nat.add_le_add_left
def mF:=@List.filter_eq_self
def mH:=@Array.length_toList
def mN:=@ne_eq
def mZ:=@List.prefix_append
def na:=@List.map_singleton
def nc:=@List.find?_eq_none
def ni:=@Array.ext_getElem?
def nj:=@Array.any_eq_true'
def oe:=@Nat.or_lt_two_pow
def og:=@Nat.mul_succ
def oh:=@Nat.mul_left_comm
def ol:=@Nat.le_succ_of_le
def om:=@Nat.add_comm
def oo:=@List.length_range
def pJ:=@Nat.add_mod
instance:Coe Nat Value:=⟨fun b=>.pointer (some ⟨b,0,none⟩)⟩
theorem GO{P:Program}{md:Region.Mode}{ops:Array Oper}{Q:Exit->Act->World->Prop}{fuel:Nat}{listed:Array Bool}{a:Act}{w:World}{o:Oper}(i:Nat)(ho:ops[i]?=some o)(h:∀K:Act->World->Prop,(∀a w,wpAny P md ops Q fuel (listed.setIfInBounds i true) a w->K a w)->if Region.wanted o (yielded ops a.tmps)=true then Oper.wp P o a w K Q else K (a.put o.dst undef) w)(hr:Region.ready md ops listed=[i]:=by kernel_rfl):wpAny P md ops Q (fuel+1) listed a w:=wpAny_ready hr (by simp) (AllReady.cons ho h AllReady.nil)
theorem GP{P:Program}{md:Region.Mode}{ops:Array Oper}{Q:Exit->Act->World->Prop}{fuel:Nat}{listed:Array Bool}{a:Act}{w:World}{o:Oper}(i:Nat)(v:Value)(hi:ops[i]?=some o)(h:wpAny P md ops Q fuel (listed.setIfInBounds i true) (a.put o.dst v) w)(hy:Yields P ops o v a:=by exact Or.inl ⟨by rfl,fun w=>by go_simp⟩)(hs:Region.noSelect ops=true:=by kernel_rfl)(hf:Region.free md ops listed i=true:=by kernel_rfl)(hr:(Region.ready md ops listed).contains i=true:=by kernel_rfl)(hQ:∀c a w,Q (.panic c) (a.put o.dst v) w->Q (.panic c) a w:=by exact fun _ _ _ h=>h):wpAny P md ops Q (fuel+1) listed a w:=wpAny_take hi hs hf hr hQ hy h
instance:Coe Nat Addr:=⟨fun b=>⟨b,0,none⟩⟩
theorem GN{q:Nat->Prop}(i:Nat)(h:False):q i:=h.elim
instance:Coe Int Value:=⟨fun b=>.int .i64 b⟩
structure Fr(S:Nat->Prop)(w w':World):Prop where
 os:w'.os=w.os
 tape:w'.tape=w.tape
 output:w'.output=w.output
 size:w.heap.size<=w'.heap.size
 block:∀k,k<w.heap.size->¬S k->w'.heap[k]? =w.heap[k]?
abbrev GM:=Fr fun _=>False
theorem Fr.refl(S:Nat->Prop)(w:World):Fr S w w:=⟨rfl,rfl,rfl,ak _,fun _ _ _=>rfl⟩
theorem GQ(S:Nat->Prop)(w:World):Fr S w w:=Fr.refl S w
theorem Fr.trans{S S':Nat->Prop}{a b c:World}(h:Fr S a b)(k:Fr S' b c)(g:∀i,S' i->S i\/a.heap.size<=i):Fr S a c:=
 ⟨k.os.trans h.os,k.tape.trans h.tape,k.output.trans h.output,aZ h.size k.size,fun i d e=>
  (k.block i (cz d h.size) (fun f=>by rcases g i f with h|h;exact e h;omega)).trans (h.block i d e)⟩
theorem Fr.mono{S S':Nat->Prop}{a b:World}(h:Fr S a b)(f:∀i,S i->S' i\/a.heap.size<=i):Fr S' a b:=
 ⟨h.os,h.tape,h.output,h.size,fun i c e=>h.block i c (fun d=>by rcases f i d with h|h;exact e h;omega)⟩
theorem Fr.drew{S:Nat->Prop}{a w:World}(h:Fr S a w):Fr S a w.drew:=⟨h.os,h.tape,h.output,h.size,h.block⟩
theorem Fr.drewN{S:Nat->Prop}{a w:World}(h:Fr S a w)(n:Nat):Fr S a (w.drewN n):=⟨h.os,h.tape,h.output,h.size,h.block⟩
theorem Fr.alloc{S:Nat->Prop}{a w:World}(h:Fr S a w)(o:Obj):Fr S a (w.alloc o):=
 h.trans (S':=fun _=>False) ⟨rfl,rfl,rfl,by simp,fun k b _=>Below.heap_alloc _ _ _ b⟩ GN
theorem Fr.setCell{S:Nat->Prop}{a w:World}(h:Fr S a w)(p:Addr)(hp:S p.block\/a.heap.size<=p.block)(u:Value):Fr S a (w.setCell p u):=
 h.trans (S':=fun k=>k=p.block) ⟨rfl,rfl,rfl,by simp [World.setCell],fun k _ c=>Below.heap_setCell _ _ _ _ c⟩ (fun i b=>by subst b;exact hp)
theorem Fr.below{w w':World}(h:GM w w'):Below w.heap.size w w':=⟨h.os,h.tape,h.output,h.size,fun k a=>h.block k a id⟩
theorem Fr.Yr{S:Nat->Prop}{w w':World}(h:Below w.heap.size w w'):Fr S w w':=⟨h.os,h.tape,h.output,h.size,fun k a _=>h.block k a⟩
theorem Fr.Qm{w w':World}{a:Option Nat}(h:w.grownBy w' a):Fr (fun k=>a=some k) w w':=⟨h.os,h.tape,h.output,h.size,fun k b c=>h.block k b (fun e=>c e.symm)⟩
theorem Fr.heap{S:Nat->Prop}{w w':World}(h:Fr S w w'){b:Nat}{o:Obj}(a:w.heap[b]? =some o)(c:¬S b):w'.heap[b]? =some o:=
 (h.block b (bH.1 a).1 c).trans a
theorem pr{P:Program}{e:Nat}{Q:Exit->Act->World->Prop}{a:Act}{w:World}{l:List Oper}(n:Nat)(d:P.follows .mixedOrders=true)(c:Region.lexTailB .any l.toArray n=true)
  (h:wpStill P l.toArray w.drew (fun b=>wpList P l.toArray Q (l.drop n) b w.drew) (l.take n) a):(Code.region e l.toArray true).wp P Q a w:=
 wp_region_still_tail n d c h
def aJ(w:World)(b:Nat)(c:List Value)(t:TypeId):Prop:=w.heap[b]? =some (.cells c.toArray t (0,0))
theorem aJ.cell{w:World}{b:Nat}{c:List Value}{t:TypeId}(h:aJ w b c t)(i:Nat){v:Value}(a:c[i]? =some v):w.cell? ⟨b,i,none⟩=some v:=by
 unfold aJ at h;simp [World.cell?,h,a]
theorem GS{w:World}{b:Nat}{t:TypeId}{v0 v1:Value}{l:List Value}(h:aJ w b (v0::v1::l) t):w.cell? ⟨b,0,none⟩=some v0/\w.cell? ⟨b,1,none⟩=some v1/\True:=⟨h.cell 0 rfl,h.cell 1 rfl,trivial⟩
theorem GT{w:World}{b:Nat}{t:TypeId}{v0 v1 v2:Value}{l:List Value}(h:aJ w b (v0::v1::v2::l) t):w.cell? ⟨b,0,none⟩=some v0/\w.cell? ⟨b,1,none⟩=some v1/\w.cell? ⟨b,2,none⟩=some v2/\True:=⟨h.cell 0 rfl,h.cell 1 rfl,h.cell 2 rfl,trivial⟩
theorem GR{w:World}{b:Nat}{t:TypeId}{v0 v1 v2 v3:Value}{l:List Value}(h:aJ w b (v0::v1::v2::v3::l) t):w.cell? ⟨b,0,none⟩=some v0/\w.cell? ⟨b,1,none⟩=some v1/\w.cell? ⟨b,2,none⟩=some v2/\w.cell? ⟨b,3,none⟩=some v3/\True:=⟨h.cell 0 rfl,h.cell 1 rfl,h.cell 2 rfl,h.cell 3 rfl,trivial⟩
theorem GV{w:World}{b:Nat}{t:TypeId}{v0 v1 v2 v3 v4:Value}{l:List Value}(h:aJ w b (v0::v1::v2::v3::v4::l) t):w.cell? ⟨b,0,none⟩=some v0/\w.cell? ⟨b,1,none⟩=some v1/\w.cell? ⟨b,2,none⟩=some v2/\w.cell? ⟨b,3,none⟩=some v3/\w.cell? ⟨b,4,none⟩=some v4/\True:=⟨h.cell 0 rfl,h.cell 1 rfl,h.cell 2 rfl,h.cell 3 rfl,h.cell 4 rfl,trivial⟩
theorem GU{w:World}{b:Nat}{t:TypeId}{v0 v1 v2 v3 v4 v5 v6:Value}{l:List Value}(h:aJ w b (v0::v1::v2::v3::v4::v5::v6::l) t):w.cell? ⟨b,0,none⟩=some v0/\w.cell? ⟨b,1,none⟩=some v1/\w.cell? ⟨b,2,none⟩=some v2/\w.cell? ⟨b,3,none⟩=some v3/\w.cell? ⟨b,4,none⟩=some v4/\w.cell? ⟨b,5,none⟩=some v5/\w.cell? ⟨b,6,none⟩=some v6/\True:=⟨h.cell 0 rfl,h.cell 1 rfl,h.cell 2 rfl,h.cell 3 rfl,h.cell 4 rfl,h.cell 5 rfl,h.cell 6 rfl,trivial⟩
theorem GW{w:World}{b:Nat}{t:TypeId}{v0 v1 v2 v3 v4 v5 v6 v7:Value}{l:List Value}(h:aJ w b (v0::v1::v2::v3::v4::v5::v6::v7::l) t):w.cell? ⟨b,0,none⟩=some v0/\w.cell? ⟨b,1,none⟩=some v1/\w.cell? ⟨b,2,none⟩=some v2/\w.cell? ⟨b,3,none⟩=some v3/\w.cell? ⟨b,4,none⟩=some v4/\w.cell? ⟨b,5,none⟩=some v5/\w.cell? ⟨b,6,none⟩=some v6/\w.cell? ⟨b,7,none⟩=some v7/\True:=⟨h.cell 0 rfl,h.cell 1 rfl,h.cell 2 rfl,h.cell 3 rfl,h.cell 4 rfl,h.cell 5 rfl,h.cell 6 rfl,h.cell 7 rfl,trivial⟩
theorem aJ.free{w:World}{b:Nat}{c:List Value}{t:TypeId}(h:aJ w b c t)(i:Nat):w.frozen? ⟨b,i,none⟩=false:=by
 unfold aJ at h;simp [World.frozen?,h]
theorem aJ.lt{w:World}{b:Nat}{c:List Value}{t:TypeId}(h:aJ w b c t):b<w.heap.size:=(bH.1 h).1
theorem aJ.frame{S:Nat->Prop}{w w':World}{b:Nat}{c:List Value}{t:TypeId}(h:aJ w b c t)(hf:Fr S w w')(a:¬S b):aJ w' b c t:=hf.heap h a
theorem aJ.alloc{w:World}{b:Nat}{c:List Value}{t:TypeId}(h:aJ w b c t)(o:Obj):aJ (w.alloc o) b c t:=h.frame ((GQ (fun _=>False) w).alloc o) id
theorem aJ.new(w:World)(c:List Value)(t:TypeId):aJ (w.alloc (.cells c.toArray t)) w.heap.size c t:=heap_alloc_new w _
theorem aJ.drew{w:World}{b:Nat}{c:List Value}{t:TypeId}(h:aJ w b c t):aJ w.drew b c t:=h
theorem aJ.drewN{w:World}{b:Nat}{c:List Value}{t:TypeId}(h:aJ w b c t)(n:Nat):aJ (w.drewN n) b c t:=h
theorem aJ.set{w:World}{b:Nat}{c:List Value}{t:TypeId}(h:aJ w b c t)(i:Nat)(u:Value):aJ (w.setCell ⟨b,i,none⟩ u) b (c.set i u) t:=by
 unfold aJ at*;simp [World.setCell,Array.getElem?_modify,h]
theorem aJ.Qg{w:World}{b:Nat}{c:List Value}{t:TypeId}(h:aJ w b c t)(p:Addr)(u:Value)(hp:b≠p.block):aJ (w.setCell p u) b c t:=by
 unfold aJ at*;rw [Below.heap_setCell _ _ _ _ hp];exact h
theorem aO{S:Nat->Prop}{w w':World}{Ba:Nat}{e:TypeId}{a:Nat}{v:Value}{n:Nat}{xs:List Value}(h:w.ownsRow Ba e a v n xs)
  (hf:Fr S w w') (d:∀k,v.ownBlock=some k->¬S k):w'.ownsRow Ba e a v n xs:=by
 refine ⟨h.1,?_⟩;rcases h.2 with c|⟨g,cap,cur,rfl,b,hg,r⟩
 ·exact ek c
 ·exact Or.inr ⟨g,cap,cur,rfl,b,hf.heap hg (d g rfl),r⟩
theorem lh{P:Program}(w:World)(t M e:TypeId)(i:TypeInfo)(z:Value)(q:Nat)(Q:P.underlying t=some (.slice e))(N:P.info? e=some i)(U:i.zero=some z)
  (b:i.size=1) (D:i.bytes=q) (V:z.cells.size=1)
  (v:Value) (n:Nat) (xs:List Value) (y:w.ownsRow 0 e 1 v n xs)
  (a:Addr) (c:Nat) (u:Value) (hu:w.cell? a=some u) (W:u.oneCell'=true)
  (I:n+1<=maxLen) (s:(n+1)*q<=140737488355328):
  ∃g cap w',(Builtin.append_ #[t,t] M #[v,.slice (some a) 1 c]).run P w= .ok (.slice (some ⟨g,0,none⟩) (n+1) cap) w'/\
   w'.ownsRow 0 e 1 (.slice (some g) (n+1) cap) (n+1) (xs++[u])/\Fr (fun k=>v.ownBlock=some k) w w'/\(v.ownBlock=some g\/w.heap.size<=g):=by
 have J:a.add 0=a:=by cases a;simp [Addr.add]
 have l:∀j x,[u][j]? =some x->w.cell? (a.add j)=some x:=by
  intro j x O
  match j,O with
  |0,O=>simp at O;subst O;rw [J];exact hu
 by_cases B:∃g cap,v= .slice (some ⟨g,0,none⟩) n cap/\n+1<=cap
 ·obtain ⟨g,cap,rfl,G⟩:=B;obtain ⟨f,T⟩:=y;rcases T with ⟨h,_⟩|⟨g',o,cur,hv,R,hg,K,E,C,m⟩
  ·cases h
  ·cases hv
   have d:=run_append_room (P:=P) w t M e i Q N g n cap cur hg a 1 c [u] (by simp [b]) l (by intro x H;simp at H;subst H;exact W) G (by simp [b,C];omega);refine ⟨g,cap,_,d,⟨by simp [f],.inr ⟨g,cap,_,rfl,R,setRow_heap w g cur _ e _ hg,G,E,?_,?_⟩⟩,⟨rfl,rfl,rfl,by simp,fun k _ Y=>setRow_other w g k _ (fun e=>Y (by simp [Value.ownBlock,e]))⟩,.inl rfl⟩
   ·simp [b,C];omega
   ·simp only [b,fK] at m ⊢;rw [m];have:xs.length=n:=by simpa using f
    rw [<-this,show xs.length+1=(xs++[u]).length by simp];exact lR
 ·obtain ⟨v',w',d,A,S,X⟩:=run_append_own (P:=P) w 0 t M e i z 1 q Q N U b D V (by decide) v n xs y a 1 c [u] (by simp) l (by intro x H;simp at H;subst H;exact W) I s (aF _);have L:∃g cap,v'= .slice (some ⟨g,0,none⟩) (n+1) cap:=by
   rcases A.2 with ⟨_,h⟩|⟨g,cap,_,h,_⟩
   ·omega
   ·exact ⟨g,cap,h⟩
  obtain ⟨g,cap,rfl⟩:=L;refine ⟨g,cap,w',d,A,Fr.Qm S,.inr ?_⟩;obtain ⟨f,T⟩:=y;rcases T with ⟨rfl,rfl⟩|⟨g',o,cur,rfl,R,hg,K,E,C,m⟩
  ·have H:xs=[]:=bV (by simpa using f);have G:=run_append_nil (P:=P) w t M e i z Q N U a 1 c [u] (by simp [b]) l (by omega) (by omega) (by rw [D];omega);rw [G] at d;have:=congrArg (fun r:Result Value=>match r with| .ok (.slice (some p) _ _) _=>p.block|_=>0) d;simp at this;omega
  ·have Z:¬n+1<=o:=fun h=>B ⟨g',o,rfl,h⟩
   have F:∀j u,xs[j]? =some u->w.cell? ((⟨g',0,none⟩:Addr).add j)=some u:=(show w.ownsRow 0 e 1 _ n xs from ⟨f,.inr ⟨g',o,cur,rfl,R,hg,K,E,C,m⟩⟩).cells (g:=g') rfl;have G:=run_append_grow (P:=P) w t M e i z Q N U ⟨g',0,none⟩ n o xs (by simp [f,b]) F a 1 c [u] (by simp [b]) l (by omega) (by simp only [maxLen] at I;omega) (growslice_fits (by omega) (by rw [D];exact s));rw [G] at d;have:=congrArg (fun r:Result Value=>match r with| .ok (.slice (some p) _ _) _=>p.block|_=>0) d;simp at this;omega
theorem fd{P:Program}{w:World}{l:Array Oper}{rest:List Oper}{o:Oper}{a:Act}{Q:Exit->Act->World->Prop}(r:o.guard=none)(s x:Operand)(t:TypeId)
  (G:o.op= .call {callee:= .builtin .append,args:= #[s,x],argTypes:= #[t,t]})
  (e:TypeId) (i:TypeInfo) (z:Value) (b:Nat) (J:P.underlying t=some (.slice e)) (F:P.info? e=some i) (N:i.zero=some z)
  (f:i.size=1) (q:i.bytes=b) (y:z.cells.size=1)
  (v:Value) (n:Nat) (xs:List Value) (I:a.eval s=v) (j:w.ownsRow 0 e 1 v n xs)
  (m:Addr) (c:Nat) (u:Value) (M:a.eval x= .slice (some m) 1 c) (L:w.cell? m=some u) (A:u.oneCell'=true)
  (p:n+1<=maxLen) (d:(n+1)*b<=140737488355328)
  (h:∀g cap w',w'.ownsRow 0 e 1 (.slice (some ⟨g,0,none⟩) (n+1) cap) (n+1) (xs++[u])->Fr (fun k=>v.ownBlock=some k) w w'->(v.ownBlock=some g\/w.heap.size<=g)->
   wpList P l Q rest (a.put o.dst (.slice (some g) (n+1) cap)) w'):wpList P l Q (o::rest) a w:=by
 refine wpList_plain r fun K E=> ?_
 obtain ⟨g,cap,w',H,B,C,D⟩:=lh (P:=P) w t o.type e i z b J F N f q y v n xs j m c u L A p d;unfold Oper.wp execOp;simp only [G,resolve,invoke,builtin,Sem.run_bind,Sem.run_pure,Result.andThen_ok,ki,cW,kF,I,M,H];exact E _ _ (h g cap w' B C D)
theorem cl{w:World}{a:Addr}{v:Value}(h:w.cell? a=some v):a.block<w.heap.size:=World.block_lt_of_cell? w a h
inductive Sc where
 |int (k:IntKind)
 |bool
 |float (k:FloatKind)
 |str
def Sc.ok:Sc->Value->Prop
 | .int k,v=>∃n,v= .int k n/\(Lit.int k n).wf=true
 | .bool,v=>∃b,v= .bool b
 | .float k,v=>∃b,v= .float k b/\(Lit.float k b).wf=true
 | .str,v=>∃s:ByteArray,v= .string s/\s.size<=maxLen
def ju(P:Program)(rec:TypeId->Option (List Sc)):Nat->List Field->Option (List Sc)
 |_,[]=>some []
 |off,f::fs=>if f.offset=off then
   match rec f.type with
   |some l=>if l.length=P.cellsOf f.type then (ju P rec (off+l.length) fs).map (l++ ·) else none
   |none=>none
  else none
def wQ(P:Program):Nat->TypeId->Option (List Sc)
 |0,_=>none
 |d+1,t=>
  match P.underlying t with
  |some .bool=>some [.bool]
  |some (.int k)=>some [.int k]
  |some (.float k)=>some [.float k]
  |some .string=>some [.str]
  |some (.struct fs)=>(ju P (wQ P d) 0 fs.toList).bind fun l=>if l.length=P.cellsOf t then some l else none
  |some (.array n e)=>(wQ P d e).bind fun l=>if l.length=P.cellsOf e/\n*l.length=P.cellsOf t then some (List.replicate n l).flatten else none
  |_=>none
def gL:List Sc->List Value->Prop
 |[],[]=>True
 |s::L,v::cs=>s.ok v/\gL L cs
 |_,_=>False
theorem gL.length:∀{L:List Sc} {cs:List Value},gL L cs->cs.length=L.length
 |[],[],_=>rfl
 |s::L,v::cs,h=>by simp [gL.length h.2]
 |[],_::_,h=>h.elim
 |_::_,[],h=>h.elim
theorem gL.append:∀{L M:List Sc} {cs a:List Value},gL L cs->gL M a->gL (L++M) (cs++a)
 |[],_,[],_,_,h2=>h2
 |_::_,_,_::_,_,h1,h2=>⟨h1.1,gL.append h1.2 h2⟩
 |[],_,_::_,_,h,_=>h.elim
 |_::_,_,[],_,h,_=>h.elim
section
variable{H:Type}{enc:TypeId×Value->H}{P:Program}{w:World}{Ba:Nat}{spare:Nat->Bool}{held:Bool}
theorem mO(b:TypeId->Option (List Sc))(n:Nat)(a:∀t L cs x,b t=some L->DataW.trod enc P w Ba spare held n t cs=some x->gL L cs)(cs:List Value):
  ∀(c:List Field) (off:Nat) (L:List Sc),ju P b off c=some L->off+L.length=cs.length->
   (∀f∈c,∃y,DataW.trod enc P w Ba spare held n f.type ((cs.drop f.offset).take (P.cellsOf f.type))=some y)->gL L (cs.drop off)
 |[],off,L,h,hl,_=>by
  simp only [ju,aL] at h;subst h;have:cs.drop off=[]:=List.drop_eq_nil_of_le (by simp at hl;omega);rw [this];trivial
 |f::c,off,L,h,hl,hf=>by
  unfold ju at h;split at h
  ·rename_i m;split at h
   ·rename_i l o;split at h
    ·rename_i k;simp only [Option.map_eq_some_iff] at h;obtain ⟨M,j,rfl⟩:=h;obtain ⟨y,d⟩:=hf f (by simp);rw [m,<-k] at d;have e:=a _ _ _ _ o d;have i:=mO b n a cs c (off+l.length) M j (by simp at hl;omega) (fun g hg=>hf g (by simp [hg]));have:=e.append i;rwa [<-lU,dB] at this
    ·cases h
   ·cases h
  ·cases h
theorem uT(n:Nat)(l:List Sc)(a:0<l.length):∀(k:Nat) (cs:List Value),cs.length=k*l.length->(∀i,i<k->gL l ((cs.drop (i*l.length)).take l.length))->gL (List.replicate k l).flatten cs
 |0,cs,hl,_=>by
  have:cs=[]:=bV (by simpa using hl);subst this;trivial
 |k+1,cs,hl,h=>by
  rw [List.replicate_succ,List.flatten_cons];have b:=h 0 (by omega);simp only [gz,ao] at b;have c:=uT n l a k (cs.drop l.length) (by rw [en,hl,cY];omega) (fun i d=>by
   have:=h (i+1) (by omega);rw [lU];rwa [show l.length+i*l.length=(i+1)*l.length by rw [cY];omega])
  have:=b.append c;rwa [dB] at this
theorem lZ:∀(d:Nat) (t:TypeId) (L:List Sc),wQ P d t=some L->∀fuel cs x,DataW.trod enc P w Ba spare held fuel t cs=some x->gL L cs
 |0,_,_,h,_,_,_,_=>by cases h
 |d+1,t,L,h,fuel,cs,x,b=>by
  unfold wQ at h;split at h
  ·rename_i c;simp only [aL] at h;subst h
   cases fuel with
   |zero=>simp [DataW.trod] at b
   |succ n=>
    unfold DataW.trod at b;rw [c] at b;split at b<;>simp_all [gL,Sc.ok]
  ·rename_i k c;simp only [aL] at h;subst h;obtain ⟨n,rfl,_,A⟩:=DataW.trod_int c b;exact ⟨⟨n,rfl,A⟩,trivial⟩
  ·rename_i k c;simp only [aL] at h;subst h
   cases fuel with
   |zero=>simp [DataW.trod] at b
   |succ n=>
    unfold DataW.trod at b;rw [c] at b;split at b<;>simp_all [gL,Sc.ok]
  ·rename_i c;simp only [aL] at h;subst h;obtain ⟨s,rfl,_,A⟩:=DataW.trod_string c b;exact ⟨⟨s,rfl,A⟩,trivial⟩
  ·rename_i B c;simp only [ka] at h;obtain ⟨l,r,g⟩:=h;split at g
   ·rename_i a;simp only [aL] at g;subst g;obtain ⟨xs,n,rfl,_,q,o,hf⟩:=DataW.trod_struct c b;have:=mO (wQ P d) n (fun t L cs x h b=>lZ d t L h n cs x b) cs B.toList 0 l r (by rw [q];omega) (fun f v=>by
     obtain ⟨i,y⟩:=List.getElem?_of_mem v;have hi':B[i]? =some f:=by simpa using y
     have j:i<xs.length:=by rw [o];exact (bH.1 hi').1
     exact ⟨xs[i],by rw [hf i f hi'];simp [j]⟩)
    simpa using this
   ·cases g
  ·rename_i n e c;simp only [ka] at h;obtain ⟨l,r,g⟩:=h;split at g
   ·rename_i a;simp only [aL] at g;subst g;obtain ⟨xs,m,rfl,_,q,o,hf⟩:=DataW.trod_array c b;rcases jA l.length with p|p
    ·have z:l=[]:=bV p;have u:cs=[]:=bV (by rw [q,<-a.2,p];simp);subst z;subst u;rw [show (List.replicate n ([]:List Sc)).flatten=[] by simp];trivial
    ·refine uT n l p n cs (by rw [q];exact a.2.symm) (fun i y=> ?_);have:=hf i y;rw [<-a.1] at this;have j:i<xs.length:=by omega
     rw [show xs[i]? =some xs[i] by simp [j]] at this;exact lZ d e l r m _ _ this
   ·cases g
  ·cases h
def mY(L:List Sc)(w:World)(p:Option Addr)(len:Nat):Prop:=
 ∀i,i<len->∃b off cs,p=some ⟨b,off,none⟩/\gL L cs/\∀j v,cs[j]? =some v->w.cell? ⟨b,off+i*L.length+j,none⟩=some v
theorem xj{a:Addr}{n:Nat}{cs:List Value}(h:w.cells? Ba a n=some cs):∀j v,cs[j]? =some v->w.cell? (a.add j)=some v:=by
 intro j v c;unfold World.cells? at h;split at h
 ·have b:=mapM_some_length h;have d:j<n:=by have:=(al.1 c).1;simp at b;omega
  have:=mapM_some_get h j j (by simp [d]);rw [this,c]
 ·cases h
theorem sP{t e:TypeId}{d:Nat}{L:List Sc}{p:Option Addr}{c cap:Nat}{x:DataW H}{ps:List MemPlace}(K:P.underlying t=some (.slice e))(hf:wQ P d e=some L)(C:P.cellsOf e=L.length)(z:0<L.length)
  (h:DataW.Trod enc P w Ba spare held t (.slice p c cap) x ps):mY L w p c/\c<=cap/\cap<=maxLen:=by
 obtain ⟨fuel,h⟩:=h;rcases Deep.open_slice K h with ⟨g,_⟩|⟨a,A,u,m,n,D,N,g,_,E,I,r,_,q⟩
 ·simp only [Value.cells] at g;simp only [gP,Value.slice.injEq,and_true] at g;obtain ⟨rfl,rfl,rfl⟩:=g;exact ⟨fun i o=>absurd o (by omega),by omega,by unfold maxLen;omega⟩
 ·simp only [Value.cells] at g;simp only [gP,Value.slice.injEq,and_true] at g;obtain ⟨rfl,rfl,rfl⟩:=g;refine ⟨fun i o=> ?_,E,I⟩;have G:c<=m:=by rw [r];split<;>omega
  have key:∀i,i<c->∃cs,gL L cs/\∀j v,cs[j]? =some v->w.cell? ((a.add (i*L.length)).add j)=some v:=by
   intro i o;obtain ⟨cs,k,l⟩:=q i (by omega);rw [C] at k;exact ⟨cs,lZ d e L hf n cs _ l,xj k⟩
  obtain ⟨b,off,f⟩:=a;have J:f=none:=by
   cases f with
   |none=>rfl
   |some s=>
    obtain ⟨cs,k,l⟩:=key 0 (by omega);have F:=k.length;have y:=l 0 (cs[0]'(by omega)) (by simp);simp only [gz,World.cell?,Addr.add,aG] at y;split at y<;>simp_all
  subst J;obtain ⟨cs,k,l⟩:=key i o;refine ⟨b,off,cs,rfl,k,fun j v M=> ?_⟩;have:=l j v M;rw [Deep.add_add] at this;have B:(⟨b,off,none⟩:Addr).add (i*L.length+j)=⟨b,off+i*L.length+j,none⟩:=by
   unfold Addr.add;split
   ·rename_i h;rw [bW,h];rfl
   ·simp [bW]
  rwa [B] at this
theorem mY.frame{L:List Sc}{w w':World}{p:Option Addr}{a:Nat}(h:mY L w p a)(hf:GM w w'):mY L w' p a:=fun i f=>
 let ⟨b,off,cs,hp,e,c⟩:=h i f
 ⟨b,off,cs,hp,e,fun j v d=>(World.cell?_of_block (w:=w) (hf.block b (cl (c j v d)) id)).trans (c j v d)⟩
theorem vi{r:Reach}{g:Nat}{t:TypeId}{d:Nat}{L:List Sc}{v:Value}{x:DataW H}{ps:List MemPlace}(b:Value.okWide P w r g t v)(a:(∃c,P.underlying t=some (.struct c))\/∃n e,P.underlying t=some (.array n e))
  (hf:wQ P d t=some L) (h:DataW.Trod enc P w Ba spare held t v x ps):∃cs,v= .agg cs.toArray/\gL L cs:=by
 have:∃cs,v= .agg cs:=by
  unfold Value.okWide at b;rcases a with ⟨c,f⟩|⟨n,e,f⟩<;>rw [f] at b<;>obtain ⟨cs,h,_⟩:=b<;>exact ⟨cs,h⟩
 obtain ⟨cs,rfl⟩:=this;obtain ⟨fuel,h⟩:=h;exact ⟨cs.toList,by simp,lZ d t L hf fuel _ _ h⟩
end
section
variable{P:Program}{ops:Array Oper}{md:Region.Mode}{C:World->Prop}
def nW(P:Program)(md:Region.Mode)(ops:Array Oper)(C:World->Prop)(n:Nat)(L:Array Bool->Act->Prop):Nat->Array Bool->Act->Prop
 |0,listed,a=>L listed a
 |f+1,listed,a=>Region.ready md ops listed≠[]/\∀i∈Region.ready md ops listed,i<n/\qOp P ops C i (nW P md ops C n L f (listed.setIfInBounds i true)) a
theorem jV{n g:Nat}{L:Array Bool->Act->Prop}{Q':Exit->Act->World->Prop}(d:∀b a w,C w->L b a->wpAny P md ops Q' g b a w):
  ∀(f:Nat) (b:Array Bool) (a:Act) (w:World),C w->nW P md ops C n L f b a->wpAny P md ops Q' (f+g) b a w
 |0,b,a,w,hw,h=>by rw [br];exact d _ _ _ hw h
 |f+1,b,a,w,hw,h=>by
  rw [show f+1+g=(f+g)+1 by omega];exact ⟨fun k=>absurd k h.1,fun i l=>wpOp_of_qOp hw (fun e w' c j=>jV d f _ e w' c j) (h.2 i l).2⟩
theorem rF{n i:Nat}{z:Oper}{v:Value}{L:Array Bool->Act->Prop}(J:ops[i]? =some z)(t:∀(j:Nat) (o:Oper) cs b,ops[j]? =some o->o.op≠ .select cs b)
  (R:Region.sinkB md ops n=true) (O:Region.chainB md ops n=true) (Q:n<ops.size) (B:i<n)
  (u:∀c a,L c a->∀j∈Region.ready md ops c,n<=j):
  ∀(f:Nat) (c:Array Bool) (a:Act),HeadInv md ops n c->
   (∀j y,ops[j]? =some y->j≠i->c.getD j true=false->(∀e∈y.after,Region.binds md e=true->e.on≠i)->z.apart ops y=true)->
   i∈Region.ready md ops c->YieldsIn P ops C z v a->
   nW P md ops C n L f (c.setIfInBounds i true) (a.put z.dst v)->nW P md ops C n L (f+1) c a:=by
 intro f
 induction f with
 |zero=>
  intro c a q _ s G H;have g:=(mem_ready.1 s).1;refine ⟨fun h=>(by rw [h] at s;cases s),fun j w=> ?_⟩;have p:j<n:=by
   rcases aY j n with h|h
   ·exact h
   ·exact absurd w (tail_waits R O Q q _ i rfl B g j h)
  refine ⟨p,?_⟩;by_cases d:j=i
  ·subst d;exact G.qOp J H
  ·have:=u _ _ H j (ready_mono w d);omega
 |succ f ih=>
  intro c a q l s G H;have g:=(mem_ready.1 s).1;refine ⟨fun h=>(by rw [h] at s;cases s),fun j w=> ?_⟩;have p:j<n:=by
   rcases aY j n with h|h
   ·exact h
   ·exact absurd w (tail_waits R O Q q _ i rfl B g j h)
  refine ⟨p,?_⟩;by_cases d:j=i
  ·subst d;exact G.qOp J H
  ·have F:=(H.2 j (ready_mono w d)).2;obtain ⟨r,y,x,A⟩:=mem_ready.1 w;have E:∀e∈y.after,Region.binds md e=true->e.on≠i:=fun e V U I=>by
    have F:=A e V U;rw [I,getD_both g] at F
    cases F
   have T:=qOp_put x (l j y x d r E) (fun cs b=>t i z cs b J) (fun cs b=>t j y cs b x) G F;have m:∀k ok,ops[k]? =some ok->k≠i->(c.setIfInBounds j true).getD k true=false->
     (∀e∈ok.after,Region.binds md e=true->e.on≠i)->z.apart ops ok=true:=fun k ok W K g M=>by
    refine l k ok W K ?_ M;by_cases D:j=k
    ·subst D;exact r
    ·rw [getD_set_ne true D] at g;exact g
   refine qOp_mono (fun S N=>ih (c.setIfInBounds j true) S (q.set w p) m (ready_mono s (Ne.symm d)) N.1 ?_) T;rw [Array.setIfInBounds_comm _ _ d];exact N.2
theorem pF{n g:Nat}{m:Act->Prop}(d:Region.noSelect ops=true)(u:Region.sinkB md ops n=true)(s:Region.chainB md ops n=true)(t:n<ops.size):
  ∀(l:List Oper) (k:Nat) (b:Array Bool) (a:Act),(∀j,j<l.length->l[j]? =ops[k+j]?)->k+l.length=n->HeadInv md ops n b->
  Region.lexHead md ops g l.length k b=true->wpQuiet P ops C m l a->
  nW P md ops C n (fun c r=>Region.seqB md ops g n c=true/\m r) l.length b a
 |[],k,b,a,_,hk,_,hB,h=>by
  have:k=n:=by simpa using hk
  subst this;exact ⟨by simpa [Region.lexHead] using hB,h⟩
 |o::l,k,b,a,hl,hk,inv,hB,h=>by
  have i:ops[k]? =some o:=by simpa using (hl 0 (by simp)).symm
  simp only [bn,Region.lexHead,au] at hB;obtain ⟨⟨y,hf⟩,p⟩:=hB;have e:k<n:=by simp only [bn] at hk;omega
  have f:k∈Region.ready md ops b:=by simpa using y
  have q:qOp P ops C k (wpQuiet P ops C m l) a:=by unfold qOp;simp only [i];exact h
  obtain ⟨v,z,w⟩:=yieldsIn_of_qOp i q;exact rF i (Region.noSelect_spec d) u s t e (fun c r x=>seqB_ready x.1) l.length b a inv (Region.free_spec i hf) f z
   (pF d u s t l (k+1) _ _ (fun j A=>by have:=hl (j+1) (by simp;omega);simpa [bW,om 1 j] using this) (by simp only [bn] at hk;omega) (inv.set f e) p w)
theorem bR{D:Nat}{Q:Exit->Act->World->Prop}{a:Act}{w:World}{l:List Oper}(C:World->Prop)(n:Nat)(u:C w.drew)
  (h:wpQuiet P l.toArray C (fun k=>∀w',C w'->wpList P l.toArray Q (l.drop n) k w') (l.take n) a) (x:P.follows .mixedOrders=true:=by kernel_rfl) (o:Region.lexTailB .any l.toArray n=true:=by kernel_rfl):
  (Code.region D l.toArray true).wp P Q a w:=by
 simp only [Region.lexTailB,au,aC] at o;obtain ⟨⟨⟨⟨f,s⟩,z⟩,v⟩,e⟩:=o;have y:n<l.length:=by simpa using s
 have b:(l.take n).length=n:=by simp;omega
 have d:(l.drop n).length=l.toArray.size-n:=by simp
 have i:HeadInv .any l.toArray n (Array.replicate l.toArray.size false):=
  ⟨by simp,fun j E _ r=>(by rw [getD_replicate_false] at r;cases r),fun t _ A=>getD_in (by simpa using A) (getD_replicate_false _ _)⟩
 have H:=pF (md:= .any) (g:=l.toArray.size-n) f z v s (l.take n) 0 _ a (fun j q=>by
  have m:j<n:=by rw [b] at q;exact q
  simp [m]) (by simpa using b) i (by rw [b];exact e) h
 refine wp_region_any x ?_;have:=jV (Q':=Q) (g:=l.toArray.size-n) (fun c k w' B p=>by
  have:=wpAny_of_seq (md:= .any) (Q':=Q) (l.drop n) n c k w' (fun j=>by simp [fR]) (by rw [d];exact p.1) (p.2 w' B);rwa [d] at this) _ _ _ _ u H
 rw [b,show n+(l.toArray.size-n)=l.toArray.size by omega] at this;exact this
theorem bt{f:Nat}{Q:Exit->Act->World->Prop}{a:Act}{w:World}{l:List Oper}(C:World->Prop)(d:C w.drew)
  (h:wpQuiet P l.toArray C (fun b=>∀w',C w'->Q .normal b w') l a) (e:P.follows .mixedOrders=true:=by kernel_rfl) (c:Region.lexB .any l.toArray=true:=by kernel_rfl):
  (Code.region f l.toArray true).wp P Q a w:=
 wp_region_quiet (C:=C) e c d (by simpa using h)
variable{Q:Act->Prop}{a:Act}{o:Oper}{rest:List Oper}
theorem aA(v:Value)(hg:o.guard=none)(b:∀w,C w->(execOp a.eval o).run P w= .ok (.value v) w)(h:wpQuiet P ops C Q rest (a.put o.dst v)):wpQuiet P ops C Q (o::rest) a:=by
 unfold wpQuiet;rw [aG (by unfold Region.wanted;rw [hg])];exact ⟨v,fun w c=>by unfold Oper.quietAt;rw [b w c];exact ⟨rfl,rfl⟩,h⟩
theorem cC(v:Value)(hg:Region.wanted o (yielded ops a.tmps)=true)(b:∀w,C w->(execOp a.eval o).run P w= .ok (.value v) w)(h:wpQuiet P ops C Q rest (a.put o.dst v)):wpQuiet P ops C Q (o::rest) a:=by
 unfold wpQuiet;rw [aG hg];exact ⟨v,fun w c=>by unfold Oper.quietAt;rw [b w c];exact ⟨rfl,rfl⟩,h⟩
theorem bT(v:Value)(f:FuncId)(args:Array Value)(hg:o.guard=none)(c:∀w,(execOp a.eval o).run P w= .ok (.enter f args) w)(b:∀w,C w->Calls P f args w fun e w'=>e= .returned v/\C w')
  (h:wpQuiet P ops C Q rest (a.put o.dst v)):wpQuiet P ops C Q (o::rest) a:=by
 unfold wpQuiet;rw [aG (by unfold Region.wanted;rw [hg])];exact ⟨v,fun w d=>by unfold Oper.quietAt;rw [c w];exact ⟨rfl,b w d⟩,h⟩
theorem fe(v:Value)(f:FuncId)(args:Array Value)(hg:Region.wanted o (yielded ops a.tmps)=true)(c:∀w,(execOp a.eval o).run P w= .ok (.enter f args) w)(b:∀w,C w->Calls P f args w fun e w'=>e= .returned v/\C w')
  (h:wpQuiet P ops C Q rest (a.put o.dst v)):wpQuiet P ops C Q (o::rest) a:=by
 unfold wpQuiet;rw [aG hg];exact ⟨v,fun w d=>by unfold Oper.quietAt;rw [c w];exact ⟨rfl,b w d⟩,h⟩
theorem jf{b:TypeId}{x:Operand}(f:o.op= .load b x)(g:Nat)(i:a.eval x= .pointer (some ⟨g,0,none⟩))(t:TypeId)(cs:Array Value)(fr:Nat×Nat)(d:TypeDesc){w:World}
  (hg:w.heap[g]? =some (.cells cs t fr)) (h:P.underlying b=some d) (c:(match d with| .struct _| .array _ _=>true|_=>false)=true) (e:(P.info? b).map (·.size)=some cs.size):
  (execOp a.eval o).run P w= .ok (.value (.agg cs)) w:=by
 unfold execOp;simp only [f,i,Instr.loadAt,Instr.sureAddr,Sem.run_bind,Sem.run_pure,Result.andThen_ok,run_loadVar_row w g t b cs fr d hg h c e]
end
theorem iW{P:Program}{l:Array Oper}{o:Oper}{a:Act}{w:World}{K:Act->World->Prop}{Q:Exit->Act->World->Prop}{E:Prop}(q:o.guard=none)(s x:Operand)(t:TypeId)
  (F:o.op= .call {callee:= .builtin .append,args:= #[s,x],argTypes:= #[t,t]})
  (e:TypeId) (i:TypeInfo) (z:Value) (b:Nat) (I:P.underlying t=some (.slice e)) (D:P.info? e=some i) (N:i.zero=some z)
  (f:i.size=1) (p:i.bytes=b) (r:z.cells.size=1)
  (v:Value) (k:Nat) (xs:List Value) (H:a.eval s=v) (j:w.ownsRow 0 e 1 v k xs)
  (m:Addr) (c:Nat) (u:Value) (M:a.eval x= .slice (some m) 1 c) (J:w.cell? m=some u) (y:u.oneCell'=true)
  (n:k+1<=maxLen) (d:(k+1)*b<=140737488355328)
  (h:∀g cap w',w'.ownsRow 0 e 1 (.slice (some ⟨g,0,none⟩) (k+1) cap) (k+1) (xs++[u])->Fr (fun k=>v.ownBlock=some k) w w'->(v.ownBlock=some g\/w.heap.size<=g)->
   K (a.put o.dst (.slice (some g) (k+1) cap)) w'):if Region.wanted o (yielded l a.tmps)=true then Oper.wp P o a w K Q else E:=by
 have L:Region.wanted o (yielded l a.tmps)=true:=by simp [Region.wanted,q]
 rw [aG L];obtain ⟨g,cap,w',G,A,B,C⟩:=lh (P:=P) w t o.type e i z b I D N f p r v k xs j m c u J y n d;unfold Oper.wp;simp only [execOp,F,resolve,invoke,builtin,Sem.run_bind,Sem.run_pure,Result.andThen_ok,ki,cW,kF,H,M,G];exact h g cap w' A B C
theorem qb(z:Value)(a:z.cells= #[z])(n:Nat):(Builtin.zeroCells z.cells n).toList=List.replicate n z:=by
 rw [a];simp [Builtin.zeroCells];apply List.ext_getElem
 ·simp
 ·intro i b c;simp [Nat.mod_one]
theorem oA{P:Program}(w:World)(t G H e:TypeId)(i:TypeInfo)(z:Value)(U:IntKind)(d:Nat)(Q:P.underlying t=some (.slice e))(x:P.underlying G=some (.int U))(M:P.info? e=some i)(R:i.zero=some z)
  (l:i.size=1) (J:i.bytes=d) (y:z.cells= #[z]) (T:z.oneCell'=true)
  (v:Value) (n:Nat) (xs:List Value) (a:w.ownsRow 0 e 1 v n xs) (k:Nat) (V:0<k) (B:n+k<=maxLen) (m:(n+k)*d<=140737488355328):
  ∃g cap w',(Builtin.append_ #[t,G] H #[v,(k:Int)]).run P w= .ok (.slice (some ⟨g,0,none⟩) (n+k) cap) w'/\
   w'.ownsRow 0 e 1 (.slice (some g) (n+k) cap) (n+k) (xs++List.replicate k z)/\Fr (fun k=>v.ownBlock=some k) w w'/\(v.ownBlock=some g\/w.heap.size<=g):=by
 subst J;have b:(xs++List.replicate k z).length=(n+k)*1:=by rw [aH,a.1,bz];omega
 have X:n+k<=9223372036854775807:=by simp only [maxLen] at B;omega
 have C:k*i.bytes<=281474976710656:=aZ (aX _ (Nat.le_add_left k n)) (by omega);have f:∀(p:Nat) (cs:Array Value),cs.toList=xs->∀S:Nat->Prop,
   (w.drew.alloc (.cells (cs++Builtin.zeroCells z.cells k++Builtin.zeroCells z.cells (grownCap w (n+k) p e-(n+k))) e)).ownsRow 0 e 1
    (.slice (some w.heap.size) (n+k) (grownCap w (n+k) p e)) (n+k) (xs++List.replicate k z)/\
   Fr S w (w.drew.alloc (.cells (cs++Builtin.zeroCells z.cells k++Builtin.zeroCells z.cells (grownCap w (n+k) p e-(n+k))) e)):=by
  intro p cs o S;have L:=grownCap_ge w (n+k) p e;have q:grownCap w (n+k) p e<=maxLen:=grownCap_le_maxLen w (n+k) p e B;have O:cs.size=n:=by rw [<-mH,o,a.1];omega
  refine ⟨⟨b,.inr ⟨w.heap.size,_,_,rfl,aF _,heap_alloc_new w.drew _,L,q,?_,?_⟩⟩,((GQ S w).drew).alloc _⟩
  ·simp only [Array.size_append,size_zeroCells,O];rw [y];simp;omega
  ·simp only [Array.toList_append,qb z y,o];rw [<-b];exact lR
 rcases id a.2 with ⟨rfl,rfl⟩|⟨g,cap,cur,rfl,I,hg,Y,q,o,s⟩
 ·have hx:xs=[]:=bV (by simpa using a.1);subst hx;have E:=Lib.run_append_nil_zeros (P:=P) w t G H e i z .i64 U Q x M R k V (by omega) (by omega) C;have c:=f 0 #[] rfl;simp only [br,Array.empty_append] at c ⊢;exact ⟨_,_,_,E,(c (fun _=>False)).1,(c _).2,.inr (ak _)⟩
 ·by_cases h:n+k<=cap
  ·have F:=run_storeCells_at P g n e (List.replicate k z) 0 cur w hg (by rw [bz,o];omega) (fun u Z=>by rw [dS Z];exact T);have N:k≠0:=by omega
   have hw:IntKind.i64.wrap (k:Int)=k:=by rw [IntKind.wrap_i64];omega
   have D:¬((k:Int)<0):=by omega
   have A:¬(281474976710656<(k:Int)*(i.bytes:Int)):=by rw [<-kO];omega
   have E:(Builtin.append_ #[t,G] H #[.slice (some g) n cap,(k:Int)]).run P w= .ok (.slice (some g) (n+k) cap) (w.setRow g (cur.toList.take n++List.replicate k z++cur.toList.drop (n+(List.replicate k z).length)).toArray):=by
    simp only [bg] at F;simp [Builtin.append_,run_underlying Q,run_underlying x,sizeOf,typeInfo,zeroValue,M,R,asInt,asIntOf,hw,D,A,h,N,l,Addr.add_lit,qb z y,F]
   refine ⟨g,cap,_,E,⟨b,.inr ⟨g,cap,_,rfl,I,setRow_heap w g cur _ e _ hg,h,q,?_,?_⟩⟩,⟨rfl,rfl,rfl,by simp,fun k _ W=>setRow_other w g k _ (fun e=>W (by simp [Value.ownBlock,e]))⟩,.inl rfl⟩
   ·simp only [cU,aH,cg,en,mH,bz];omega
   ·have:cur.toList.take n=xs:=by rw [<-s,fK]
    rw [this,<-b];exact lR
  ·have r:∀j u,xs[j]? =some u->w.cell? ((⟨g,0,none⟩:Addr).add j)=some u:=a.cells (g:=g) rfl;have K:=run_firstCells_some (P:=P) w.drew i.size n ⟨g,0,none⟩ n cap xs (by rw [a.1,l]) r;have E:=Lib.run_append_grow_zeros (P:=P) w t G H e i z .i64 U Q x M R (some ⟨g,0,none⟩) n cap xs K k V (by omega) (by omega) (by omega) C (growslice_fits (by omega) m);have c:=f cap xs.toArray rfl;exact ⟨_,_,_,E,(c (fun _=>False)).1,(c _).2,.inr (ak _)⟩
theorem jJ{P:Program}{j:Array Oper}{o:Oper}{a:Act}{w:World}{K:Act->World->Prop}{Q:Exit->Act->World->Prop}{E:Prop}(q:o.guard=none)(s x:Operand)(t l:TypeId)
  (H:o.op= .call {callee:= .builtin .append,args:= #[s,x],argTypes:= #[t,l]})
  (e:TypeId) (i:TypeInfo) (z:Value) (A:IntKind) (b:Nat) (L:P.underlying t=some (.slice e)) (r:P.underlying l=some (.int A)) (G:P.info? e=some i) (O:i.zero=some z)
  (d:i.size=1) (p:i.bytes=b) (y:z.cells= #[z]) (u:z.oneCell'=true)
  (v:Value) (n:Nat) (xs:List Value) (J:a.eval s=v) (f:w.ownsRow 0 e 1 v n xs) (k:Nat) (N:a.eval x= .int .i64 k) (B:0<k) (m:n+k<=maxLen) (c:(n+k)*b<=140737488355328)
  (h:∀g cap w',w'.ownsRow 0 e 1 (.slice (some ⟨g,0,none⟩) (n+k) cap) (n+k) (xs++List.replicate k z)->Fr (fun k=>v.ownBlock=some k) w w'->(v.ownBlock=some g\/w.heap.size<=g)->
   K (a.put o.dst (.slice (some g) (n+k) cap)) w'):if Region.wanted o (yielded j a.tmps)=true then Oper.wp P o a w K Q else E:=by
 have M:Region.wanted o (yielded j a.tmps)=true:=by simp [Region.wanted,q]
 rw [aG M];obtain ⟨g,cap,w',I,C,D,F⟩:=oA (P:=P) w t l o.type e i z A b L r G O d p y u v n xs f k B m c;exact Lib.wp_append_run w s x t l H v _ J N _ _ I (h g cap w' C D F)
theorem pA(a b:Nat)(c:a<9223372036854775808)(d:b<9223372036854775808):bits .and .i64 (a:Int) (b:Int)=((a&&&b:Nat):Int):=by
 have e:a&&&b<2^63:=Nat.and_lt_two_pow _ (by omega);show IntKind.i64.wrap ((BitVec.ofInt 64 (a:Int)&&&BitVec.ofInt 64 (b:Int)).toNat:Int)=_
 rw [BitVec.toNat_and,ofInt_u64 a (by omega),ofInt_u64 b (by omega),IntKind.wrap_i64];omega
theorem qN(a b:Nat)(c:a<9223372036854775808)(d:b<9223372036854775808):bits .andNot .i64 (a:Int) (b:Int)=((a&&&(18446744073709551615-b):Nat):Int):=by
 have e:a&&&(18446744073709551615-b)<2^63:=bU eH (by omega);show IntKind.i64.wrap ((BitVec.ofInt 64 (a:Int)&&& ~~~BitVec.ofInt 64 (b:Int)).toNat:Int)=_
 rw [BitVec.toNat_and,BitVec.toNat_not,ofInt_u64 a (by omega),ofInt_u64 b (by omega),IntKind.wrap_i64];rw [show 2^64-1-b=18446744073709551615-b by omega];omega
def nk(f:Nat->Bool):Nat->Nat
 |0=>0
 |n+1=>nk f n|||(if f n then 2^n else 0)
def ix(f:Nat->Bool):Nat->Nat
 |0=>0
 |n+1=>ix f n+(if f n then 1 else 0)
def gC(f:Nat->Bool):Nat->Int
 |0=> -1
 |n+1=>if f n then (n:Int) else gC f n
def eR(f:Nat->Bool):Nat->Nat->Nat
 |a,0=>a
 |a,n+1=>if f a then a else eR f (a+1) n
theorem gn(f:Nat->Bool)(n j:Nat):(nk f n).testBit j=(decide (j<n)&&f j):=by
 induction n with
 |zero=>simp [nk]
 |succ n ih=>
  rw [nk,lJ,ih];by_cases b:j=n
  ·subst b;by_cases h:f j<;>simp [h,Nat.testBit_two_pow_self]
  ·by_cases h:f n
   ·simp only [h,iN];rw [jG (by omega)];by_cases a:j<n
    ·simp [a,show j<n+1 by omega]
    ·simp [a,show¬j<n+1 by omega]
   ·simp only [h];by_cases a:j<n
    ·simp [a,show j<n+1 by omega]
    ·simp [a,show¬j<n+1 by omega]
theorem EV(f:Nat->Bool)(n:Nat):nk f n<2^n:=by
 apply Nat.lt_pow_two_of_testBit;intro i a;rw [gn];simp [show¬i<n by omega]
theorem nC(f:Nat->Bool){n:Nat}(h:n<=64):nk f n<18446744073709551616:=
 cz (EV f n) (dI (by decide) h)
theorem E8{x:Nat}{f:Nat->Bool}(b:x<18446744073709551616)(h:∀j,j<64->x.testBit j=f j):x=nk f 64:=by
 apply eC;intro j;rw [gn];by_cases a:j<64
 ·simp [a,h j a]
 ·rw [io (cz b (show 2^64<=2^j from dI (by decide) (by omega)))];simp [a]
theorem qZ{f g:Nat->Bool}{n:Nat}(h:∀j,j<n->f j=g j):ix f n=ix g n:=by
 induction n with
 |zero=>rfl
 |succ n ih=>rw [ix,ix,ih (fun j a=>h j (by omega)),h n (by omega)]
theorem zA{f g:Nat->Bool}{n:Nat}(h:∀j,j<n->f j=g j):nk f n=nk g n:=by
 induction n with
 |zero=>rfl
 |succ n ih=>rw [nk,nk,ih (fun j a=>h j (by omega)),h n (by omega)]
theorem uF{f g:Nat->Bool}{n:Nat}(h:∀j,j<n->f j=g j):gC f n=gC g n:=by
 induction n with
 |zero=>rfl
 |succ n ih=>rw [gC,gC,ih (fun j a=>h j (by omega)),h n (by omega)]
theorem tv(f:Nat->Bool)(n:Nat):ix f n<=n:=by
 induction n with
 |zero=>exact ak _
 |succ n ih=>rw [ix];split<;>omega
theorem iS(k a b c d:Nat)(f:b<2^k)(g:d<2^k):(2^k*a+b)&&&(2^k*c+d)=2^k*(a&&&c)+(b&&&d):=by
 apply eC;intro j;have e:b&&&d<2^k:=bU eH f;rw [dT,eN _ f,eN _ g,eN _ e];split<;>simp [dT]
def fu(k m:Nat):Nat->Nat
 |0=>0
 |n+1=>2^k*fu k m n+m
def jp(k:Nat):Nat->Nat->Nat
 |0,_=>0
 |n+1,y=>y% 2^k+jp k n (y/2^k)
def gh(k b:Nat):Nat->Nat->Prop
 |0,y=>y=0
 |n+1,y=>y% 2^k<=b/\gh k b n (y/2^k)
theorem qX{k b:Nat}:∀{n y:Nat},gh k b n y->y<2^(k*n)
 |0,y,h=>by simp [gh] at h;simp [h]
 |n+1,y,h=>by
  have a:=qX h.2;rw [og,lL,aN];exact cz (Nat.lt_mul_of_div_lt a (eG k)) (by rw [aN];exact ak _)
theorem Ap(x:Nat):∀n,ix (fun j=>x.testBit j) n=jp 1 n x:=by
 intro n
 induction n generalizing x with
 |zero=>rfl
 |succ n ih=>
  rw [jp,<-ih];have key:∀m,ix (fun j=>x.testBit j) (m+1)=x% 2+ix (fun j=>(x/2).testBit j) m:=by
   intro m
   induction m with
   |zero=>
    simp only [ix,br,Nat.testBit_zero];by_cases h:x% 2=1
    ·simp [h]
    ·simp [show x% 2=0 by omega]
   |succ m ihm=>
    rw [ix,ihm,ix,iH,bW]
  have:=key n
  simpa using this
theorem AU:∀(n x:Nat),x<2^(2*n)->jp 2 n ((x/2&&&fu 2 1 n)+(x&&&fu 2 1 n))=jp 1 (2*n) x/\gh 2 2 n ((x/2&&&fu 2 1 n)+(x&&&fu 2 1 n))
 |0,x,_=>by simp [fu,jp,gh]
 |n+1,x,hx=>by
  have c:x/4<2^(2*n):=by
   rw [og,lL] at hx;exact lN (by rw [aN];exact hx)
  obtain ⟨a,b⟩:=AU n (x/4) c;have f:x/2&&&fu 2 1 (n+1)=4*((x/4)/2&&&fu 2 1 n)+(x/2% 2):=by
   have h:=iS 2 (x/2/4) (x/2% 4) (fu 2 1 n) 1 (bO _ (by decide)) (by decide);rw [show 2^2*(x/2/4)+x/2% 4=x/2 by omega,show x/2/4=x/4/2 by omega,jB] at h;rw [fu,h];omega
  have g:x&&&fu 2 1 (n+1)=4*(x/4&&&fu 2 1 n)+x% 2:=by
   have h:=iS 2 (x/4) (x% 4) (fu 2 1 n) 1 (bO _ (by decide)) (by decide);rw [show 2^2*(x/4)+x% 4=x by omega,jB] at h;rw [fu,h];omega
  rw [f,g];generalize (x/4)/2&&&fu 2 1 n=A at a b ⊢;generalize x/4&&&fu 2 1 n=B at a b ⊢;have d:(4*A+x/2% 2+(4*B+x% 2))/2^2=A+B:=by omega
  have e:(4*A+x/2% 2+(4*B+x% 2))% 2^2=x/2% 2+x% 2:=by omega
  refine ⟨?_,?_⟩
  ·rw [jp,d,e,a,show 2*(n+1)=2*n+1+1 by omega,jp,jp,dL];simp only [Nat.pow_one,show 2*2=4 by rfl];omega
  ·rw [gh,d,e];exact ⟨by omega,b⟩
theorem AT:∀(n x:Nat),gh 2 2 (2*n) x->jp 4 n ((x/4&&&fu 4 3 n)+(x&&&fu 4 3 n))=jp 2 (2*n) x/\gh 4 4 n ((x/4&&&fu 4 3 n)+(x&&&fu 4 3 n))
 |0,x,_=>by simp [fu,jp,gh]
 |n+1,x,hx=>by
  rw [show 2*(n+1)=2*n+1+1 by omega,gh,gh,dL] at hx;obtain ⟨g,c1,a⟩:=hx;simp only [Nat.reducePow,Nat.reduceMul] at g c1 a;obtain ⟨b,c⟩:=AT n (x/16) a;have d:∀z,z&&&3=z% 4:=fun z=>el z 2
  have i:x/4&&&fu 4 3 (n+1)=16*((x/16)/4&&&fu 4 3 n)+(x/4% 4):=by
   have h:=iS 4 (x/4/16) (x/4% 16) (fu 4 3 n) 3 (bO _ (by decide)) (by decide);rw [show 2^4*(x/4/16)+x/4% 16=x/4 by omega,show x/4/16=x/16/4 by omega,d] at h;rw [fu,h];omega
  have j:x&&&fu 4 3 (n+1)=16*(x/16&&&fu 4 3 n)+x% 4:=by
   have h:=iS 4 (x/16) (x% 16) (fu 4 3 n) 3 (bO _ (by decide)) (by decide);rw [show 2^4*(x/16)+x% 16=x by omega,d] at h;rw [fu,h];omega
  rw [i,j];generalize (x/16)/4&&&fu 4 3 n=A at b c ⊢;generalize x/16&&&fu 4 3 n=B at b c ⊢;have e:(16*A+x/4% 4+(16*B+x% 4))/2^4=A+B:=by omega
  have f:(16*A+x/4% 4+(16*B+x% 4))% 2^4=x/4% 4+x% 4:=by omega
  refine ⟨?_,?_⟩
  ·rw [jp,e,f,b,show 2*(n+1)=2*n+1+1 by omega,jp,jp,dL];simp only [Nat.reducePow,Nat.reduceMul];omega
  ·rw [gh,e,f];exact ⟨by omega,c⟩
theorem AS:∀(n x:Nat),gh 4 4 (2*n) x->jp 8 n ((x/16+x)&&&fu 8 15 n)=jp 4 (2*n) x/\gh 8 8 n ((x/16+x)&&&fu 8 15 n)
 |0,x,_=>by simp [fu,jp,gh]
 |n+1,x,hx=>by
  rw [show 2*(n+1)=2*n+1+1 by omega,gh,gh,dL] at hx;obtain ⟨g,c1,a⟩:=hx;simp only [Nat.reducePow,Nat.reduceMul] at g c1 a;obtain ⟨e,f⟩:=AS n (x/256) a;have i:x/256% 16<=4:=by
   cases n with
   |zero=>simp [gh] at a;omega
   |succ n=>
    rw [show 2*(n+1)=2*n+1+1 by omega,gh] at a
    simpa using a.1
  have b:∀z,z&&&15=z% 16:=fun z=>el z 4
  have h:(x/16+x)&&&fu 8 15 (n+1)=256*(((x/256)/16+x/256)&&&fu 8 15 n)+(x/16% 16+x% 16):=by
   have:=iS 8 ((x/256)/16+x/256) (16*(x/256% 16)+x% 256/16+x% 256) (fu 8 15 n) 15 (by omega) (by decide);rw [show x/16+x=2^8*((x/256)/16+x/256)+(16*(x/256% 16)+x% 256/16+x% 256) by omega,fu,this,b];omega
  rw [h];generalize ((x/256)/16+x/256)&&&fu 8 15 n=A at e f ⊢;have c:(256*A+(x/16% 16+x% 16))/2^8=A:=by omega
  have d:(256*A+(x/16% 16+x% 16))% 2^8=x/16% 16+x% 16:=by omega
  refine ⟨?_,?_⟩
  ·rw [jp,c,d,e,show 2*(n+1)=2*n+1+1 by omega,jp,jp,dL];simp only [Nat.reducePow,Nat.reduceMul];omega
  ·rw [gh,c,d];exact ⟨by omega,f⟩
theorem EJ(x:Nat)(h:gh 8 8 8 x):
  ((x/256+x)/65536+(x/256+x))<2^63/\x/256+x<2^63/\
  (((x/256+x)/65536+(x/256+x))/4294967296+((x/256+x)/65536+(x/256+x)))<2^63/\
  (((x/256+x)/65536+(x/256+x))/4294967296+((x/256+x)/65536+(x/256+x)))% 128=jp 8 8 x:=by
 simp only [gh,jp,Nat.reducePow] at h ⊢;obtain ⟨n,o,p,q,r,s,t,u,v⟩:=h;have e:x=256*(x/256)+x% 256:=by omega
 generalize x% 256=b0 at n e ⊢;generalize x/256=x1 at*;have f:x1=256*(x1/256)+x1% 256:=by omega
 generalize x1% 256=b1 at o f ⊢;generalize x1/256=x2 at*;have g:x2=256*(x2/256)+x2% 256:=by omega
 generalize x2% 256=b2 at p g ⊢;generalize x2/256=x3 at*;have i:x3=256*(x3/256)+x3% 256:=by omega
 generalize x3% 256=b3 at q i ⊢;generalize x3/256=x4 at*;have j:x4=256*(x4/256)+x4% 256:=by omega
 generalize x4% 256=b4 at r j ⊢;generalize x4/256=x5 at*;have k:x5=256*(x5/256)+x5% 256:=by omega
 generalize x5% 256=b5 at s k ⊢;generalize x5/256=x6 at*;have l:x6=256*(x6/256)+x6% 256:=by omega
 generalize x6% 256=b6 at t l ⊢;generalize x6/256=x7 at*;have m:x7=x7% 256:=by omega
 generalize x7% 256=b7 at u m ⊢;clear v;subst m;have a:x1=b1+256*b2+65536*b3+16777216*b4+4294967296*b5+1099511627776*b6+281474976710656*x7:=by omega
 have w:x=b0+256*b1+65536*b2+16777216*b3+4294967296*b4+1099511627776*b5+281474976710656*b6+72057594037927936*x7:=by omega
 clear e f g i j k l;have b:(x1+x)/65536=(b2+b3)+256*(b3+b4)+65536*(b4+b5)+16777216*(b5+b6)+4294967296*(b6+x7)+1099511627776*x7:=by omega
 have d:((x1+x)/65536+(x1+x))/4294967296=
   (b4+b5+b6+x7)+256*(b5+b6+x7)+65536*(b6+x7)+16777216*x7:=by rw [b];omega
 rw [d];rw [b];refine ⟨by omega,by omega,by omega,?_⟩;clear b d;obtain ⟨T,c⟩:∃T,T=(b4+b5+b6+x7)+256*(b5+b6+x7)+65536*(b6+x7)+16777216*x7+((b2+b3)+256*(b3+b4)+65536*(b4+b5)+16777216*(b5+b6)+4294967296*(b6+x7)+1099511627776*x7+(x1+x)):=⟨_,rfl⟩;obtain ⟨Q,y⟩:∃Q,T=(b0+b1+b2+b3+b4+b5+b6+x7)+256*Q:=⟨1*b1+257*b2+65793*b3+16843009*b4+4311810305*b5+1103823438081*b6+282578800148737*x7,by omega⟩;rw [<-c];clear c w a;omega
theorem Bh(x:Nat)(u:x<18446744073709551616):
  let c:=(x/2&&&6148914691236517205)+(x&&&6148914691236517205)
  let a:=(c/4&&&3689348814741910323)+(c&&&3689348814741910323)
  let d:=(a/16+a)&&&1085102592571150095
  let f:=d/256+d
  let g:=f/65536+f
  let l:=g/4294967296+g
  c<18446744073709551616/\a<2^63/\d<18446744073709551616/\f<2^63/\g<2^63/\l<2^63/\l% 128=ix (fun j=>x.testBit j) 64:=by
 intro c a d f g l;obtain ⟨m,i⟩:=AU 32 x u;have A:fu 2 1 32=6148914691236517205:=by decide+kernel
 have B:fu 4 3 16=3689348814741910323:=by decide+kernel
 have C:fu 8 15 8=1085102592571150095:=by decide+kernel
 rw [A] at m i;obtain ⟨o,k⟩:=AT 16 c i;rw [B] at o k;obtain ⟨c1,c2⟩:=AS 8 a k;rw [C] at c1 c2;obtain ⟨p,q,r,s⟩:=EJ d c2;have v:=qX i;have z:=qX c2;have w:a<2^63:=by
  have h:∀n y,gh 4 4 n y->15*y+4<=4*16^n:=by
   intro n
   induction n with
   |zero=>intro y b;simp [gh] at b;simp [b]
   |succ n ih=>
    intro y b;have:=ih _ b.2;have t:=b.1;rw [Nat.pow_succ];have D:1<=16^n:=Nat.one_le_pow _ _ (by decide);simp only [Nat.reducePow] at this t;omega
  have:=h 16 a k;have e:(16:Nat)^16=18446744073709551616:=by decide+kernel
  rw [e] at this;omega
 refine ⟨v,w,z,q,p,r,?_⟩;rw [Ap];exact s.trans (c1.trans (o.trans m))
theorem nQ{f g:Nat->Bool}:∀(n a:Nat),(∀j,a<=j->j<a+n->f j=g j)->eR f a n=eR g a n
 |0,_,_=>rfl
 |n+1,a,h=>by
  rw [eR,eR,h a (ak _) (by omega),nQ n (a+1) (fun j b c=>h j (by omega) (by omega))]
theorem lI(a b:Nat)(x y:Int)(e:x=a)(f:y=b)(c:a<18446744073709551616)(d:b<18446744073709551616):bits .and .u64 x y=((a&&&b:Nat):Int):=by
 subst e;subst f;exact u64_and_nat a b c d
theorem Bv(x:Nat)(b:x<18446744073709551616)(w:World):
  Calls prog 275 #[.int .u64 x] w fun e w'=>e= .returned (.int .i64 (ix (fun j=>x.testBit j) 64:Nat))/\w=w':=by
 have key:=Bh x b;dsimp only at key;generalize ix (fun j=>x.testBit j) 64=N at key ⊢;have c:=lI (x/2) 6148914691236517205 ((x:Int)/2) 6148914691236517205 (by omega) rfl (by omega) (by decide);have d:=lI x 6148914691236517205 (x:Int) 6148914691236517205 rfl rfl b (by decide);generalize x/2&&&6148914691236517205=A at key c;generalize x&&&6148914691236517205=B at key d;obtain ⟨p,q,r,s,t,u,a⟩:=key;have l:=lI ((A+B)/4) 3689348814741910323 (((A:Int)+B)/4) 3689348814741910323 (by omega) rfl (by omega) (by decide);have m:=lI (A+B) 3689348814741910323 ((A:Int)+B) 3689348814741910323 (by omega) rfl (by omega) (by decide);generalize (A+B)/4&&&3689348814741910323=C at*;generalize (A+B)&&&3689348814741910323=D at*;have n:=lI ((C+D)/16+(C+D)) 1085102592571150095 (((C:Int)+D)/16+(C+D)) 1085102592571150095 (by omega) rfl (by omega) (by decide);generalize ((C+D)/16+(C+D))&&&1085102592571150095=E at*;have o:bits .and .i64 ((E:Int)+E/256+((E:Int)+E/256)/65536+((E:Int)+E/256+((E:Int)+E/256)/65536)/4294967296) 127=N:=by
  have h:=pA (((E/256+E)/65536+(E/256+E))/4294967296+((E/256+E)/65536+(E/256+E))) 127 (by omega) (by decide);rw [show ((127:Nat):Int)=127 from rfl,el _ 7,show (2:Nat)^7=128 from rfl,a] at h;rw [<-h];have f:(E:Int)+E/256=((E/256+E:Nat):Int):=by omega
  rw [f];generalize E/256+E=F;have g:(F:Int)+F/65536=((F/65536+F:Nat):Int):=by omega
  rw [g];generalize F/65536+F=G;have i:(G:Int)+G/4294967296=((G/4294967296+G:Nat):Int):=by omega
  rw [i]
 have k:=ae a;clear a
 go_enter func275,ntmps275
 go_wp2;go_ret;exact ⟨rfl,rfl⟩
def jq(a b:Int)(j:Nat):Bool:=decide (a<=(j:Int))&&decide ((j:Int)<b)
def xW(x:Nat)(a b:Int)(j:Nat):Bool:=decide (a<=(j:Int))&&(decide ((j:Int)<b)&&x.testBit j)
def nO(x:Nat)(a:Int)(j:Nat):Bool:=decide (a<=(j:Int))&&x.testBit j
def lH(x:Nat)(b:Int)(j:Nat):Bool:=decide ((j:Int)<b)&&x.testBit j
theorem vK{x:Nat}(b:x<18446744073709551616){j:Nat}(a:64<=j):x.testBit j=false:=
 io (cz b (show 2^64<=2^j from dI (by decide) a))
theorem Dk(A B:Nat)(g:A<B)(i:B<=64):
  IntKind.u64.wrap (18446744073709551615/2^(64-B+A)*2^A)=((nk (fun j=>decide (A<=j)&&decide (j<B)) 64:Nat):Int):=by
 rw [show 64-B+A=64-(B-A) by omega];obtain ⟨d,h⟩:∃d,B-A=d:=⟨_,rfl⟩;rw [h];have c:(18446744073709551615:Nat)/2^(64-d)=2^d-1:=by
  have hp:2^d*2^(64-d)=18446744073709551616:=by rw [<-lL,show d+(64-d)=64 by omega]
  have a:0<2^d:=eG d;have b:0<2^(64-d):=eG _;apply Nat.div_eq_of_lt_le
  ·rw [iT,hp];omega
  ·rw [Nat.sub_add_cancel a,aN,aN (2^(64-d)),hp];omega
 have e:(2^d-1)*2^A<18446744073709551616:=by
  have:2^d*2^A<=2^64:=by rw [<-lL];exact dI (by decide) (by omega)
  have a:0<2^A:=eG A;rw [iT];omega
 have f:(18446744073709551615:Int)/2^(64-d)*2^A=(((2^d-1)*2^A:Nat):Int):=by
  rw [<-c];simp only [kO,Int.natCast_ediv,Int.natCast_pow];rfl
 rw [f,IntKind.wrap_u64,<-E8 e]
 ·omega
 ·intro j k;rw [kf,eM,bS];simp only [au,aC];omega
theorem pD{f:Nat->Bool}:∀{n a:Nat},(∀j,a<=j->j<a+n->f j=false)->eR f a n=a+n
 |0,_,_=>rfl
 |n+1,a,h=>by
  rw [eR,h a (ak _) (by omega)];simp only [cA,fE];rw [pD (fun j b c=>h j (by omega) (by omega))];omega
theorem sx{f:Nat->Bool}:∀{n a p:Nat},a<=p->p<a+n->f p=true->(∀j,a<=j->j<p->f j=false)->eR f a n=p
 |0,a,p,h1,h2,_,_=>by omega
 |n+1,a,p,h1,h2,h3,h4=>by
  rw [eR];by_cases h:a=p
  ·subst h;rw [h3];rfl
  ·rw [h4 a (ak _) (by omega)];simp only [cA,fE];exact sx (by omega) (by omega) h3 (fun j c b=>h4 j (by omega) b)
theorem zZ(x:Nat)(c:x<18446744073709551616)(d:x≠0):∃k m,k<64/\x=2^k*(2*m+1)/\eR (fun j=>x.testBit j) 0 64=k:=by
 obtain ⟨m,a,b⟩:=Lib.ctzFrom_spec 64 x (by omega) c;generalize Lib.ctzFrom 64 x=k at a b;refine ⟨k,m,b,a,sx (aF _) (by omega) ?_ ?_⟩
 ·show x.testBit k=true
  rw [a,ia];simp
 ·intro j _ e;show x.testBit j=false
  rw [a,ia];simp;omega
theorem vg(x:Nat):∀n,x<2^n->gC (fun j=>x.testBit j) n=(Lib.bitLenAux n x:Int)-1:=by
 intro n
 induction n generalizing x with
 |zero=>intro h;simp [gC,Lib.bitLenAux]
 |succ n ih=>
  intro h;have a:x/2<2^n:=by rw [Nat.pow_succ] at h;omega
  have key:∀m,gC (fun j=>x.testBit j) (m+1)=if gC (fun j=>(x/2).testBit j) m= -1 then (if x% 2=1 then 0 else-1) else gC (fun j=>(x/2).testBit j) m+1:=by
   intro m
   induction m with
   |zero=>simp [gC]
   |succ m ihm=>
    have e:gC (fun j=>x.testBit j) (m+1+1)=if x.testBit (m+1) then ((m+1:Nat):Int) else gC (fun j=>x.testBit j) (m+1):=rfl
    have f:gC (fun j=>(x/2).testBit j) (m+1)=if (x/2).testBit m then (m:Int) else gC (fun j=>(x/2).testBit j) m:=rfl
    rw [e,f,iH];by_cases d:(x/2).testBit m
    ·simp only [d,iN];rw [aE (by omega)];omega
    ·simp only [d,cA,fE];exact ihm
  rw [key,ih _ a,Lib.bitLenAux];by_cases b:x=0
  ·subst b;have:Lib.bitLenAux n 0=0:=by cases n<;>simp [Lib.bitLenAux]
   simp [this]
  ·rw [aE b];by_cases c:x/2=0
   ·have g:x=1:=by omega
    rw [c];have:Lib.bitLenAux n 0=0:=by cases n<;>simp [Lib.bitLenAux]
    simp [this,g]
   ·have:0<Lib.bitLenAux n (x/2):=by
     cases n with
     |zero=>simp at a;omega
     |succ n=>rw [Lib.bitLenAux,aE c];omega
    rw [aE (by omega)];push_cast;omega
def cJ(n:Int):Bool:=(List.range 63).any fun i=>n==2^i
theorem iD(n:Int):cJ n=true↔∃i,i<63/\n=2^i:=by
 simp [cJ]
theorem Dp(n:Nat)(g:0<n)(l:n<9223372036854775808):(n&&&(n-1)=0)↔∃i,i<63/\n=2^i:=by
 constructor
 ·intro h;obtain ⟨m,a,b⟩:=Lib.ctzFrom_spec 63 n g l;generalize Lib.ctzFrom 63 n=k at a b;refine ⟨k,b,?_⟩;rcases jA m with d|d
  ·subst d;simpa using a
  ·exfalso;obtain ⟨p,hp⟩:∃p,m.testBit p=true:=Nat.exists_testBit_of_ne_zero (by omega);have e:n-1=2^k*(2*m)+(2^k-1):=by
    have f:0<2^k:=eG k;rw [a,fL];omega
   have o:n.testBit (k+(p+1))=true:=by
    rw [a,ia];simp only [show k<=k+(p+1) by omega,iR,bQ,show k+(p+1)-k=p+1 by omega];rw [iH,show (2*m+1)/2=m by omega];exact hp
   have q:(n-1).testBit (k+(p+1))=true:=by
    rw [e,eN _ (by have:=eG k;omega),aE (by omega),show k+(p+1)-k=p+1 by omega,iH,show 2*m/2=m by omega];exact hp
   have:=congrArg (fun z=>Nat.testBit z (k+(p+1))) h;simp [dT,o,q] at this
 ·rintro ⟨i,r,rfl⟩;apply eC;intro j;rw [dT,eM];by_cases c:i=j
  ·subst c;simp
  ·rw [jG c];simp
theorem tC(n k:Nat)(f:n<9223372036854775808)(d:k<=30):n&&&(18446744073709551615-(2^k-1))=n/2^k*2^k:=by
 apply eC;intro j;have hp:2^k<=2^30:=dI (by decide) d;have c:0<2^k:=eG k;rw [dT,kf,Nat.testBit_div_two_pow];have e:18446744073709551615-(2^k-1)=2^64-((2^k-1)+1):=by omega
 rw [e,fV (by omega),eM];by_cases b:k<=j
 ·simp only [b,iR,bQ,show j-k+k=j by omega,show¬j<k by omega,decide_false,eV];by_cases a:j<64
  ·simp [a]
  ·rw [vK (show n<18446744073709551616 by omega) (by omega)];simp
 ·simp [b,show j<k by omega]
theorem tx(n:Int)(A:Nat)(c:min (max n 0) 64=(A:Int))(w:World):
  Calls prog 289 #[(n:Int)] w fun e w'=>e= .returned (A:Int)/\w=w':=by
 by_cases a:n<0
 ·have e:A=0:=by omega
  subst e
  go_enter func289,ntmps289
  go_wp2;go_ret;exact ⟨rfl,rfl⟩
 ·by_cases b:64<n
  ·have e:A=64:=by omega
   subst e
   go_enter func289,ntmps289
   go_wp2;go_ret;exact ⟨rfl,rfl⟩
  ·have e:n=A:=by omega
   subst e;have d:A<=64:=by omega
   clear a b c
   go_enter func289,ntmps289
   go_wp2;go_ret;exact ⟨congrArg (fun z=>Ending.returned (z:Int)) (by omega:min (A:Int) 64=A),rfl⟩
theorem yq(n:Int):∃A:Nat,min (max n 0) 64=(A:Int)/\A<=64/\∀j:Nat,j<64->((n<=(j:Int))↔A<=j)/\(((j:Int)<n)↔j<A):=
 ⟨(min (max n 0) 64).toNat,by omega,by omega,fun j a=>⟨by omega,by omega⟩⟩
theorem pQ(a b:Int)(w:World):
  Calls prog 274 #[(a:Int),(b:Int)] w fun e w'=>e= .returned (.int .u64 ((nk (jq a b) 64:Nat):Int))/\w=w':=by
 obtain ⟨A,i,r,g⟩:=yq a;obtain ⟨B,k,q,h⟩:=yq b;have d:=ae i;have f:=ae k;have hf:nk (jq a b) 64=nk (fun j=>decide (A<=j)&&decide (j<B)) 64:=zA (fun j l=>by
  unfold jq;rw [bS];simp only [au,aC,(g j l).1,(h j l).2])
 rw [hf];clear i k g h hf;by_cases c:A<B
 ·have m:=Dk A B c q;generalize p:nk (fun j=>decide (A<=j)&&decide (j<B)) 64=v at*;clear p;have n:=ae m;clear m
  go_enter func274,ntmps274
  go_wp2_with fail
  refine (tx a A d.out _).mono ?_;rintro e w' ⟨rfl,rfl⟩;go_wp2_with fail
  refine (tx b B f.out _).mono ?_;rintro e w' ⟨rfl,rfl⟩;go_wp2;go_ret;exact ⟨congrArg (fun z=>Ending.returned (.int .u64 z)) n.out,rfl⟩
 ·have o:nk (fun j=>decide (A<=j)&&decide (j<B)) 64=0:=by
   apply eC;intro j;rw [gn,Nat.zero_testBit,be];simp only [mN,au,aC];omega
  rw [o]
  go_enter func274,ntmps274
  go_wp2_with fail
  refine (tx a A d.out _).mono ?_;rintro e w' ⟨rfl,rfl⟩;go_wp2_with fail
  refine (tx b B f.out _).mono ?_;rintro e w' ⟨rfl,rfl⟩;go_wp2;go_ret;exact ⟨rfl,rfl⟩
theorem oW(x:Nat)(h:x<18446744073709551616)(a b:Int)(w:World):
  Calls prog 247 #[.int .u64 x,(a:Int),(b:Int)] w fun e w'=>e= .returned (.int .i64 ((ix (xW x a b) 64:Nat):Int))/\w=w':=by
 have g:=nC (jq a b) (ak 64);have l:=u64_and_nat x (nk (jq a b) 64) h g;have c:x&&&nk (jq a b) 64<18446744073709551616:=bU eH h;have d:ix (xW x a b) 64=ix (fun j=>(x&&&nk (jq a b) 64).testBit j) 64:=qZ (fun j k=>by
  rw [dT,gn];unfold xW jq;simp only [k,iR,bQ]
  cases x.testBit j<;>simp)
 rw [d];have f:=pQ a b w;generalize nk (jq a b) 64=v at*;generalize x&&&v=y at*;clear d g;have i:=ae f;clear f
 go_enter func247,ntmps247
 go_wp2_with fail
 refine i.out.mono ?_;rintro e w' ⟨rfl,rfl⟩;go_wp2_with fail
 refine (Bv y c _).mono ?_;rintro e w' ⟨rfl,rfl⟩;go_wp2;go_ret;exact ⟨rfl,rfl⟩
def Dh:List Nat:=[0,1,56,2,57,49,28,3,61,58,42,50,38,29,17,4,62,47,59,36,45,43,51,22,53,39,33,30,24,18,12,5,63,55,48,27,60,41,37,16,46,35,44,21,52,32,23,11,54,26,40,15,34,20,31,10,25,14,19,9,13,8,7,6]
def et(w:World):Prop:=∀(i k:Nat),Dh[i]? =some k->w.cell? ⟨1,i,none⟩=some (.int .u8 k)
theorem EI:∀k,k<64->Dh[2^k*285870213051353865% 18446744073709551616/288230376151711744]? =some k:=by decide+kernel
theorem EF(x k:Nat)(b:x<18446744073709551616)(m:Nat)(h:x=2^k*(2*m+1)):
  IntKind.u64.wrap (bits BinOp.and IntKind.u64 (x:Int) (IntKind.u64.wrap (-(x:Int)))*285870213051353865)/288230376151711744=((2^k*285870213051353865% 18446744073709551616/288230376151711744:Nat):Int):=by
 have a:0<x:=by rw [h];exact Nat.mul_pos (eG k) (by omega)
 have c:IntKind.u64.wrap (-(x:Int))=((18446744073709551616-x:Nat):Int):=by rw [IntKind.wrap_u64];omega
 have d:x&&&(18446744073709551616-x)=2^k:=by
  have:=Lib.and_neg 64 k m (by rw [<-h];exact b);rw [<-h] at this;exact this
 rw [c,u64_and_nat x _ b (by omega),d,IntKind.wrap_u64];omega
theorem FE(x:Nat)(e:x<18446744073709551616)(f:x≠0):∃k ef:Nat,eR (fun j=>x.testBit j) 0 64=k/\k<64/\ef<64/\Dh[ef]? =some k/\
  IntKind.u64.wrap (bits BinOp.and IntKind.u64 (x:Int) (IntKind.u64.wrap (-(x:Int)))*285870213051353865)/288230376151711744=(ef:Int):=by
 obtain ⟨k,m,d,b,hf⟩:=zZ x e f;have c:=EI k d;have a:=(al.1 c).1;exact ⟨k,_,hf,d,a,c,EF x k e m b⟩
theorem Db(x k ef:Nat)(w:World)(d:((x:Int)==0)=false)(c:k<64)(b:ef<64)(a:w.cell? ⟨1,ef,none⟩=some (.int .u8 k))
  (key:IntKind.u64.wrap (bits BinOp.and IntKind.u64 (x:Int) (IntKind.u64.wrap (-(x:Int)))*285870213051353865)/288230376151711744=(ef:Int)):
  Calls prog 290 #[.int .u64 x] w fun e w'=>e= .returned (k:Int)/\w=w':=by
 go_enter func290,ntmps290
 go_wp2_with (simp only [key])
 go_ret;exact ⟨rfl,rfl⟩
theorem Da(w:World):
  Calls prog 290 #[.int .u64 0] w fun e w'=>e= .returned (64:Int)/\w=w':=by
 go_enter func290,ntmps290
 go_wp2;go_ret;exact ⟨rfl,rfl⟩
theorem EG(x:Nat)(g:x<18446744073709551616)(w:World)(c:et w):
  Calls prog 290 #[.int .u64 x] w fun e w'=>e= .returned (.int .i64 ((eR (fun j=>x.testBit j) 0 64:Nat):Int))/\w=w':=by
 by_cases b:x=0
 ·subst b;rw [pD (fun j _ _=>Nat.zero_testBit j)];exact Da w
 ·obtain ⟨k,ef,hf,f,a,d,key⟩:=FE x g b;rw [hf];exact Db x k ef w (by rw [aT];omega) f a (c ef k d) key
theorem BE(x:Nat)(h:x<18446744073709551616)(a:Int)(w:World)(c:et w):
  Calls prog 281 #[.int .u64 x,(a:Int)] w fun e w'=>e= .returned (.int .i64 ((eR (nO x a) 0 64:Nat):Int))/\w=w':=by
 have g:=nC (jq a 64) (ak 64);have l:=u64_and_nat x (nk (jq a 64) 64) h g;have b:x&&&nk (jq a 64) 64<18446744073709551616:=bU eH h;have d:eR (nO x a) 0 64=eR (fun j=>(x&&&nk (jq a 64) 64).testBit j) 0 64:=nQ 64 0 (fun j _ m=>by
  rw [dT,gn];unfold nO jq;simp only [show j<64 by omega,show (j:Int)<64 by omega,iR,bQ,dZ]
  cases x.testBit j<;>simp)
 rw [d];have f:=pQ a 64 w;generalize nk (jq a 64) 64=v at*;generalize x&&&v=y at*;clear d g;have k:=ae f;clear f;have i:=ae c;clear c
 go_enter func281,ntmps281
 go_wp2_with fail
 refine k.out.mono ?_;rintro e w' ⟨rfl,rfl⟩;go_wp2_with fail
 refine (EG y b _ i.out).mono ?_;rintro e w' ⟨rfl,rfl⟩;go_wp2;go_ret;exact ⟨rfl,rfl⟩
theorem BV(x:Nat)(h:x<18446744073709551616)(b:Int)(w:World):
  Calls prog 288 #[.int .u64 x,(b:Int)] w fun e w'=>e= .returned (.int .i64 (gC (lH x b) 64))/\w=w':=by
 have g:=nC (jq 0 b) (ak 64);have o:=u64_and_nat x (nk (jq 0 b) 64) h g;have c:x&&&nk (jq 0 b) 64<18446744073709551616:=bU eH h;have d:gC (lH x b) 64=gC (fun j=>(x&&&nk (jq 0 b) 64).testBit j) 64:=uF (fun j l=>by
  rw [dT,gn];unfold lH jq;simp only [l,show (0:Int)<=(j:Int) by omega,iR,bQ]
  cases x.testBit j<;>simp)
 rw [d];have f:=pQ 0 b w;generalize nk (jq 0 b) 64=v at*;generalize x&&&v=y at*;rw [vg y 64 c];clear d g;have k:=ae f;clear f;have a:=Tryz.bits_Len64 (y:Int) w (by omega) (by omega);rw [dO] at a;change Calls prog 269 #[.int .u64 y] w (fun e w'=>e= .returned (.int .i64 (Lib.bitLenAux 64 y:Nat))/\w'=w) at a;have p:Lib.bitLenAux 64 y<=64:=by
  have:∀n z,Lib.bitLenAux n z<=n:=by
   intro n
   induction n with
   |zero=>intro z;simp [Lib.bitLenAux]
   |succ n ih=>intro z;rw [Lib.bitLenAux];split;omega;have:=ih (z/2);omega
  exact this 64 y
 generalize Lib.bitLenAux 64 y=n at*;have i:=ae a;clear a
 go_enter func288,ntmps288
 go_wp2_with fail
 refine k.out.mono ?_;rintro e w' ⟨rfl,rfl⟩;go_wp2_with fail
 refine i.out.mono ?_;rintro e w' ⟨rfl,m⟩;subst m;go_wp2;go_ret;exact ⟨rfl,rfl⟩
theorem zj(n:Int)(g:n<=9223372036854775807)(w:World):
  Calls prog 235 #[(n:Int)] w fun e w'=>e= .returned (.bool (cJ n))/\w=w':=by
 by_cases d:n<=0
 ·have hp:cJ n=false:=by
   rw [be,mN,iD];rintro ⟨i,_,h⟩;have:(0:Int)<2^i:=Int.pow_pos (by decide);omega
  rw [hp]
  go_enter func235,ntmps235
  go_wp2;go_ret;exact ⟨rfl,rfl⟩
 ·obtain ⟨m,rfl⟩:=cN (show 0<=n by omega);have c:0<m:=by omega
  have a:m<9223372036854775808:=by omega
  have hp:cJ (m:Int)=((((m&&&(m-1):Nat):Int))==0):=by
   rw [bS,iD,dz,Int.natCast_eq_zero,Dp m c a];constructor
   ·rintro ⟨i,b,h⟩;exact ⟨i,b,by
     have:((2^i:Nat):Int)=2^i:=by simp
     omega⟩
   ·rintro ⟨i,b,h⟩;exact ⟨i,b,by subst h;simp⟩
  have f:bits .and .i64 (m:Int) ((m:Int)-1)=((m&&&(m-1):Nat):Int):=by
   rw [show (m:Int)-1=((m-1:Nat):Int) by omega];exact pA m (m-1) a (by omega)
  rw [hp];generalize m&&&(m-1)=q at*;clear hp d
  go_enter func235,ntmps235
  go_wp2;go_ret;exact ⟨rfl,rfl⟩
def Ey(n unit:Int):Prop:=cJ unit=true/\unit<=1073741824/\0<=n/\n<=1152921504606846976
theorem jM(n:Int)(a:n<=9223372036854775807)(B:Bool)(b:cJ n=B)(w:World):
  Calls prog 235 #[(n:Int)] w fun e w'=>e= .returned (.bool B)/\w=w':=by subst b;exact zj n a w
theorem FD{n a:Int}(h:¬Ey n a):cJ a=false\/(cJ a=true/\1073741824<a)\/(cJ a=true/\a<=1073741824/\n<0)\/(cJ a=true/\a<=1073741824/\0<=n/\1152921504606846976<n):=by
 unfold Ey at h
 cases hp:cJ a with
 |false=>exact .inl rfl
 |true=>
  right;by_cases b:a<=1073741824
  ·by_cases c:0<=n
   ·exact .inr (.inr ⟨rfl,b,c,by simp only [hp,kZ] at h;omega⟩)
   ·exact .inr (.inl ⟨rfl,b,by omega⟩)
  ·exact .inl ⟨rfl,by omega⟩
theorem DP(n a:Int)(f:a<=9223372036854775807)(h:¬Ey n a)(w:World):
  Calls prog 270 #[(n:Int),(a:Int)] w fun e w'=>e= .returned (.bool false)/\w=w':=by
 rcases FD h with h|⟨h,b⟩|⟨h,b,d⟩|⟨h,b,d,g⟩
 all_goals
  have c:=ae h;clear h
  go_enter func270,ntmps270
  go_wp2_with (go_at_call 235;refine (jM a f _ c.out _).mono ?_;rintro e w' ⟨rfl,rfl⟩)
  go_ret
  first|exact ⟨rfl,rfl⟩|exact ⟨by simp;omega,rfl⟩
theorem Cn(n a:Int)(h:Ey n a)(w:World):
  Calls prog 270 #[(n:Int),(a:Int)] w fun e w'=>e= .returned (.bool true)/\w=w':=by
 obtain ⟨h,c,d,f⟩:=h;have b:=ae h;clear h
 go_enter func270,ntmps270
 go_wp2_with (go_at_call 235;refine (jM a (by omega) _ b.out _).mono ?_;rintro e w' ⟨rfl,rfl⟩)
 go_ret
 first|exact ⟨rfl,rfl⟩|exact ⟨by simp;omega,rfl⟩
noncomputable def mR(n unit:Int)(up:Bool):Int:=
 open Classical in if Ey n unit then (if up then (n+unit-1)/unit*unit else n/unit*unit) else-1
theorem zd{n a:Int}(h:Ey n a):∃N k:Nat,n=N/\a=((2^k:Nat):Int)/\k<=30/\N<=1152921504606846976/\2^k<=1073741824/\1<=2^k:=by
 obtain ⟨h,f,d,g⟩:=h;obtain ⟨i,j,rfl⟩:=(iD a).1 h;obtain ⟨N,rfl⟩:=cN d;have e:((2^i:Nat):Int)=2^i:=by simp
 have c:2^i<=1073741824:=by omega
 have b:i<=30:=by
  rcases aY 30 i with h|h
  ·have:2^31<=2^i:=dI (by decide) h;omega
  ·exact h
 exact ⟨N,i,rfl,e.symm,b,by omega,c,Nat.one_le_two_pow⟩
theorem EE(n a:Int)(i:a<=9223372036854775807)(w:World):
  Calls prog 240 #[(n:Int),(a:Int)] w fun e w'=>e= .returned (.int .i64 (mR n a true))/\w=w':=by
 by_cases h:Ey n a
 ·have b:mR n a true=(n+a-1)/a*a:=by unfold mR;rw [aG h];rfl
  rw [b];have hf:=ae h;obtain ⟨N,k,rfl,rfl,f,j,hp,g⟩:=zd h;have c:=qN (N+2^k-1) (2^k-1) (by omega) (by omega);rw [tC (N+2^k-1) k (by omega) f] at c;have d:(((N+2^k-1)/2^k*2^k:Nat):Int)=((N:Int)+(2^k:Nat)-1)/(2^k:Nat)*(2^k:Nat):=by
   rw [kO,Int.natCast_ediv,show ((N+2^k-1:Nat):Int)=(N:Int)+(2^k:Nat)-1 by omega]
  rw [d,show ((N+2^k-1:Nat):Int)=(N:Int)+(2^k:Nat)-1 by omega,show ((2^k-1:Nat):Int)=((2^k:Nat):Int)-1 by omega] at c;clear b h d;generalize 2^k=u at*;generalize ((N:Int)+u-1)/u*u=r at*
  go_enter func240,ntmps240
  go_wp2_with (go_at_call 270;refine (Cn _ _ hf.out _).mono ?_;rintro e w' ⟨rfl,rfl⟩)
  go_ret;exact ⟨rfl,rfl⟩
 ·have b:mR n a true= -1:=by unfold mR;rw [aE h]
  rw [b];have hf:=ae h;clear b h
  go_enter func240,ntmps240
  go_wp2_with (go_at_call 270;refine (DP _ _ i hf.out _).mono ?_;rintro e w' ⟨rfl,rfl⟩)
  go_ret;exact ⟨rfl,rfl⟩
def kA(f:Nat->Bool)(a:Nat):Nat->Nat
 |0=>0
 |k+1=>kA f a k+(if f (a+k) then 1 else 0)
def Qb(f:Nat->Bool)(a b:Nat):Nat:=kA f a (b-a)
theorem eS(f:Nat->Bool){a b:Nat}(h:b<=a):Qb f a b=0:=by unfold Qb;rw [show b-a=0 by omega];rfl
theorem cr(f:Nat->Bool){a b:Nat}(h:a<=b):Qb f a (b+1)=Qb f a b+(if f b then 1 else 0):=by
 unfold Qb;rw [show b+1-a=(b-a)+1 by omega];show kA f a (b-a)+(if f (a+(b-a)) then 1 else 0)=_
 rw [show a+(b-a)=b by omega]
theorem u9(f:Nat->Bool)(a k:Nat):∀m,kA f a (k+m)=kA f a k+kA f (a+k) m
 |0=>rfl
 |m+1=>by
  show kA f a (k+m)+(if f (a+(k+m)) then 1 else 0)=kA f a k+(kA f (a+k) m+(if f (a+k+m) then 1 else 0))
  rw [u9 f a k m,bW a k m,bW]
theorem bJ(f:Nat->Bool){a m b:Nat}(c:a<=m)(d:m<=b):Qb f a b=Qb f a m+Qb f m b:=by
 unfold Qb;rw [show b-a=(m-a)+(b-m) by omega,u9,show a+(m-a)=m by omega]
theorem yo(f:Nat->Bool)(a:Nat):∀k,kA f a k<=k
 |0=>ak _
 |k+1=>by
  have:=yo f a k;show kA f a k+_<=_
  split<;>omega
theorem dR(f:Nat->Bool)(a b:Nat):Qb f a b<=b-a:=yo f a (b-a)
theorem ra{f g:Nat->Bool}{a:Nat}:∀k,(∀i,a<=i->i<a+k->f i=g i)->kA f a k=kA g a k
 |0,_=>rfl
 |k+1,h=>by
  show kA f a k+(if f (a+k) then 1 else 0)=kA g a k+(if g (a+k) then 1 else 0)
  rw [ra k (fun i b c=>h i b (by omega)),h (a+k) (by omega) (by omega)]
theorem cI{f g:Nat->Bool}{a b:Nat}(h:∀i,a<=i->i<b->f i=g i):Qb f a b=Qb g a b:=
 ra (b-a) (fun i c d=>h i c (by omega))
theorem il(f:Nat->Bool){a b c:Nat}(h:b<=c):Qb f a b<=Qb f a c:=by
 by_cases d:a<=b
 ·rw [bJ f d h];omega
 ·rw [eS f (by omega)];omega
theorem cu{f:Nat->Bool}{a b:Nat}(h:∀i,a<=i->i<b->f i=false):Qb f a b=0:=by
 rw [cI (g:=fun _=>false) h];unfold Qb;generalize b-a=k
 induction k with
 |zero=>rfl
 |succ k ih=>show kA _ a k+_=0;rw [ih];rfl
theorem oX{f:Nat->Bool}{a b:Nat}(h:∀i,a<=i->i<b->f i=true):Qb f a b=b-a:=by
 rw [cI (g:=fun _=>true) h];unfold Qb;generalize b-a=k
 induction k with
 |zero=>rfl
 |succ k ih=>show kA _ a k+_=k+1;rw [ih];rfl
theorem s9(f:Nat->Bool)(a:Nat):∀(b k:Nat),k<Qb f a b->∃i,a<=i/\i<b/\f i=true/\Qb f a i=k
 |0,k,h=>by rw [eS f (aF a)] at h;omega
 |b+1,k,h=>by
  by_cases c:a<=b
  ·rw [cr f c] at h;by_cases j:k<Qb f a b
   ·obtain ⟨i,d,l,e,g⟩:=s9 f a b k j;exact ⟨i,d,by omega,e,g⟩
   ·split at h
    ·rename_i hf;exact ⟨b,c,by omega,hf,by omega⟩
    ·omega
  ·rw [eS f (by omega)] at h;omega
theorem qy{f:Nat->Bool}{a i j:Nat}(m:a<=i)(n:a<=j)(k:f i=true)(l:f j=true)(h:Qb f a i=Qb f a j):i=j:=by
 rcases dC i j with g|d|e
 ·have:=il f (a:=a) (b:=i+1) (c:=j) g;rw [cr f m,aG k] at this;omega
 ·exact d
 ·have:=il f (a:=a) (b:=j+1) (c:=i) e;rw [cr f n,aG l] at this;omega
theorem oY{f:Nat->Bool}{a i b:Nat}(g:a<=i)(e:i<b)(d:f i=true):Qb f a i<Qb f a b:=by
 have:=il f (a:=a) (b:=i+1) (c:=b) e;rw [cr f g,aG d] at this;omega
def lu(f:Nat->Bool)(a n i:Nat):Prop:=a<=i/\i<n/\f i=true/\∀j,a<=j->j<i->f j=false
def ez(ws:List Nat):List Value:=ws.map fun (x:Nat)=>Value.int .u64 x
def bA(ws:List Nat)(i:Nat):Bool:=(ws.getD (i/64) 0).testBit (i% 64)
structure dv(w:World)(b g n:Nat)(ws:List Nat):Prop where
 Qd:∃c,ws.length<=c/\aJ w b [.slice (some g) ws.length c,(n:Int)] 289
 row:∃rest,aJ w g (ez ws++rest) 46
 ne:b≠g
 len:ws.length=(n+63)/64
 lt:∀x∈ws,x<18446744073709551616
 one:1<=n
 small:n<=1048576
 off:∀i,n<=i->bA ws i=false
theorem dv.frame{S:Nat->Prop}{w w':World}{b g n:Nat}{ws:List Nat}(h:dv w b g n ws)(hf:Fr S w w')(a:¬S b)(hg:¬S g):dv w' b g n ws:=
 ⟨let ⟨c,d,e⟩:=h.Qd;⟨c,d,e.frame hf a⟩,let ⟨r,q⟩:=h.row;⟨r,q.frame hf hg⟩,h.ne,h.len,h.lt,h.one,h.small,h.off⟩
theorem dv.c0{w:World}{b g n:Nat}{ws:List Nat}(h:dv w b g n ws):∃c,ws.length<=c/\w.cell? b=some (.slice (some g) ws.length c):=let ⟨c,a,d⟩:=h.Qd;⟨c,a,d.cell 0 rfl⟩
theorem dv.c1{w:World}{b g n:Nat}{ws:List Nat}(h:dv w b g n ws):w.cell? ⟨b,1,none⟩=some (n:Int):=let ⟨_,_,a⟩:=h.Qd;a.cell 1 rfl
theorem dv.at{w:World}{b g n K x:Nat}{ws:List Nat}(h:dv w b g n ws)(a:ws[K]? =some x):w.cell? ⟨g,K,none⟩=some (.int .u64 x):=by
 obtain ⟨r,q⟩:=h.row;have c:=(al.1 a).1;exact q.cell K (by rw [bX (by unfold ez;rw [bL];exact c)];unfold ez;rw [aR,a];rfl)
theorem dv.free{w:World}{b g n:Nat}{ws:List Nat}(h:dv w b g n ws)(K:Nat):w.frozen? ⟨g,K,none⟩=false:=let ⟨_,q⟩:=h.row;q.free K
theorem dv.blt{w:World}{b g n:Nat}{ws:List Nat}(h:dv w b g n ws):b<w.heap.size:=let ⟨_,_,a⟩:=h.Qd;a.lt
theorem dv.Yz{w:World}{b g n:Nat}{ws:List Nat}(h:dv w b g n ws):g<w.heap.size:=let ⟨_,q⟩:=h.row;q.lt
theorem dv.word{w:World}{b g n i:Nat}{ws:List Nat}(h:dv w b g n ws)(d:i<n):∃x,ws[i/64]? =some x/\x<18446744073709551616/\w.cell? ⟨g,i/64,none⟩=some (.int .u64 x)/\bA ws i=x.testBit (i% 64):=by
 have c:i/64<ws.length:=by rw [h.len];omega
 obtain ⟨x,a⟩:∃x,ws[i/64]? =some x:=⟨_,aK c⟩;refine ⟨x,a,h.lt x (aD a),h.at a,?_⟩;unfold bA;rw [aQ,a];rfl
theorem kY{w:World}{b g n:Nat}{ws:List Nat}(h:dv w b g n ws):Calls prog 201 #[b] w fun e w'=>e= .returned (n:Int)/\w=w':=by
 have c1:=h.c1;clear h
 go_enter func201,ntmps201
 go_wp2;go_ret;exact ⟨rfl,rfl⟩
def Dw(n:Nat)(i:Int):Bool:=decide (0<=i/\i<n)
theorem qe{w:World}{b g n:Nat}{ws:List Nat}(h:dv w b g n ws)(i:Int):Calls prog 285 #[b,(i:Int)] w fun e w'=>e= .returned (.int .i64 (if Dw n i then 0 else 11))/\w=w':=by
 have c1:=h.c1;clear h;by_cases c:i<0
 ·have a:(if Dw n i then (0:Int) else 11)=11:=aE (by unfold Dw;simp;omega);rw [a];clear a
  go_enter func285,ntmps285
  go_wp2;go_ret;exact ⟨rfl,rfl⟩
 ·by_cases d:(n:Int)<=i
  ·have a:(if Dw n i then (0:Int) else 11)=11:=aE (by unfold Dw;simp;omega);rw [a];clear a
   go_enter func285,ntmps285
   go_wp2;go_ret;exact ⟨rfl,rfl⟩
  ·have a:(if Dw n i then (0:Int) else 11)=0:=aG (by unfold Dw;simp;omega);rw [a];clear a
   go_enter func285,ntmps285
   go_wp2;go_ret;exact ⟨rfl,rfl⟩
theorem D6(x k:Nat)(b:x<18446744073709551616):(bits .and .u64 ((x:Int)/2^k) 1==1)=x.testBit k:=by
 have a:x/2^k<=x:=bK _ _;have h:=u64_and_nat (x/2^k) 1 (by omega) (by decide);rw [jB] at h;have e:((x/2^k:Nat):Int)=(x:Int)/2^k:=by simp
 rw [e] at h;rw [show bits .and .u64 ((x:Int)/2^k) 1=((x/2^k% 2:Nat):Int) from h,Nat.testBit_eq_decide_div_mod_eq,bS,dz,aC];omega
theorem AH{w:World}{b g n i:Nat}{ws:List Nat}(h:dv w b g n ws)(f:i<n):Calls prog 266 #[b,(i:Int)] w fun e w'=>e= .returned (.bool (bA ws i))/\w=w':=by
 have d:=ae (qe h (i:Int));rw [aG (by unfold Dw;simp;omega)] at d;obtain ⟨x,k,c,o,a⟩:=h.word f;obtain ⟨C,m,l⟩:=h.c0;have p:i/64<ws.length:=by rw [h.len];omega
 have j:=h.small;rw [a];generalize ws.length=L at*;clear h a k;have q:(i:Int).tdiv 64=((i/64:Nat):Int):=rfl;have r:(i:Int).tmod 64=((i% 64:Nat):Int):=rfl
 go_enter func266,ntmps266
 go_wp2_with fail
 refine d.out.mono ?_;rintro e w' ⟨rfl,rfl⟩;go_wp2;go_ret;refine ⟨?_,rfl⟩;rw [<-D6 x (i% 64) c];rfl
theorem nJ:(prog.info? 46).map (fun i=>(i.zero,i.size,i.bytes))=some (some (.int .u64 0),1,8):=by kernel_rfl
theorem nG(v:Value)(n:Nat):madeCells #[v] n=Array.replicate n v:=by
 apply Array.ext
 ·simp [madeCells]
 ·intro i a b;simp [madeCells,Nat.mod_one]
theorem uw(k:Nat)(i:k<=16777216)(X:Int)(b:X=(k:Int))(w:World):(Instr.makeSlice 98 (.int .i64 X) (.int .i64 X)).run prog w= .ok (.slice (some w.heap.size) k k) (w.alloc (.cells (ez (List.replicate k 0)).toArray 46)):=by
 obtain ⟨g,d,f,a,c⟩:=info_parts nJ;subst b;have h:=run_makeSlice (P:=prog) w 98 46 g (.int .u64 0) underlying98 d f .i64 .i64 (k:Int) (k:Int) (by omega) (lW _) (by rw [a,dO];omega) (by rw [c];omega) (by omega);rw [a,dO,fK,show (Value.int .u64 0).cells= #[.int .u64 0] from rfl,nG] at h;rw [h];have e:(ez (List.replicate k 0)).toArray=Array.replicate k (.int .u64 0):=by unfold ez;rw [eU];simp
 rw [e]
theorem nV(k i:Nat):bA (List.replicate k 0) i=false:=by
 unfold bA;rw [aQ,eD];split<;>simp
theorem xz(n:Nat)(d:1<=n)(f:n<=1048576)(w:World):Calls prog 134 #[(n:Int)] w fun e w'=>∃b g,e= .returned (.tuple #[.pointer (some ⟨b,0,none⟩),(0:Int)])/\dv w' b g n (List.replicate ((n+63)/64) 0)/\w.heap.size<=b/\w.heap.size<=g/\GM w w':=by
 have l:((n:Int)+64-1).tdiv 64=(((n+63)/64:Nat):Int):=by
  rw [show (n:Int)+64-1=((n+63:Nat):Int) by omega];rfl
 have j:=uw ((n+63)/64) (by omega) (((n:Int)+63)/64) (by omega);have c:∀W,W=(w.alloc (.cells (ez (List.replicate ((n+63)/64) 0)).toArray 46)).alloc (.cells #[.slice (some w.heap.size) ((n+63)/64) ((n+63)/64),(n:Int)] 289)->
   dv W (w.heap.size+1) w.heap.size n (List.replicate ((n+63)/64) 0)/\GM w W:=by
  intro W h;subst h;refine ⟨⟨⟨(n+63)/64,by simp,?_⟩,⟨[],by rw [List.append_nil];exact (aJ.new w _ _).alloc _⟩,by omega,by simp,fun x k=>by rw [dS k];decide,d,f,fun i _=>nV _ i⟩,((GQ _ w).alloc _).alloc _⟩;have:=aJ.new (w.alloc (.cells (ez (List.replicate ((n+63)/64) 0)).toArray 46)) [.slice (some w.heap.size) ((n+63)/64) ((n+63)/64),(n:Int)] 289;rw [World.size_alloc] at this
  simpa using this
 have a:=ae c;clear c;generalize (ez (List.replicate ((n+63)/64) 0)).toArray=Z at*
 go_enter func134,ntmps134
 go_wp2;go_ret2;exact ⟨w.heap.size+1,w.heap.size,rfl,(a.out _ rfl).1,by omega,ak _,(a.out _ rfl).2⟩
theorem xG{ws:List Nat}{i x:Nat}(a:ws[i/64]? =some x)(j:Nat):bA (ws.set (i/64) (x|||2^(i% 64))) j=(bA ws j||j==i):=by
 unfold bA;rw [aQ,aQ,bF];have b:=(al.1 a).1;by_cases e:i/64=j/64
 ·rw [aG e,aG b,<-e,a];show (x|||2^(i% 64)).testBit (j% 64)=(x.testBit (j% 64)||j==i)
  rw [lJ,Nat.testBit_two_pow];congr 1
  rw [bS,aC,dz];omega
 ·rw [aE e];have:(j==i)=false:=by rw [aT];intro h;exact e (by rw [h])
  rw [this,ca]
theorem Dj{w w':World}{b g n i x:Nat}{ws:List Nat}(h:dv w b g n ws)(t:i<n)(d:ws[i/64]? =some x)(V:Int)(f:V=((x|||2^(i% 64):Nat):Int))(m:w'=(w.setCell ⟨g,i/64,none⟩ (.int .u64 V)).drew):
  dv w' b g n (ws.set (i/64) (x|||2^(i% 64)))/\Fr (fun k=>k=g) w w':=by
 subst m;subst f;have e:=h.lt x (aD d);have hp:(2:Nat)^(i% 64)<18446744073709551616:=cz (lK (by decide) (bO _ (by decide))) (by decide);refine ⟨⟨?_,?_,h.ne,by rw [bc];exact h.len,?_,h.one,h.small,?_⟩,((GQ (fun k=>k=g) w).setCell ⟨g,i/64,none⟩ (.inl rfl) _).drew⟩
 ·rw [bc];obtain ⟨c,p,s⟩:=h.Qd;exact ⟨c,p,(s.Qg ⟨g,i/64,none⟩ _ h.ne).drew⟩
 ·obtain ⟨r,q⟩:=h.row;have:=(q.set (i/64) (.int .u64 ((x|||2^(i% 64):Nat):Int))).drew;rw [lS _ _ (by unfold ez;rw [bL];exact (al.1 d).1)] at this;refine ⟨r,?_⟩;unfold ez at this ⊢;rw [dM];exact this
 ·intro y o;rcases dh o with a|a
  ·exact h.lt y a
  ·rw [a];exact oe (n:=64) e hp
 ·intro j l;rw [xG d,h.off j l];simp;omega
theorem xy{w:World}{b g n i:Nat}{ws:List Nat}(h:dv w b g n ws)(r:i<n):Calls prog 260 #[b,(i:Int)] w fun e w'=>e= .returned (0:Int)/\∃f,dv w' b g n f/\(∀j,bA f j=(bA ws j||j==i))/\Fr (fun k=>k=g) w w':=by
 have p:=ae (qe h (i:Int));rw [aG (by unfold Dw;simp;omega)] at p;obtain ⟨x,m,o,A,c⟩:=h.word r;obtain ⟨C,t,s⟩:=h.c0;have y:i/64<ws.length:=by rw [h.len];omega
 have v:=h.free (i/64);have z:=h.small;have d:bits .or .u64 (x:Int) (IntKind.u64.wrap (2^(i% 64)))=((x|||2^(i% 64):Nat):Int):=by
  have hp:(2:Nat)^(i% 64)<18446744073709551616:=cz (lK (by decide) (bO _ (by decide))) (by decide);have e:IntKind.u64.wrap (2^(i% 64))=((2^(i% 64):Nat):Int):=by
   have:((2^(i% 64):Nat):Int)=(2:Int)^(i% 64):=by simp
   rw [<-this,IntKind.wrap_u64];generalize (2:Nat)^(i% 64)=P at hp;omega
  rw [e];exact u64_or_nat x (2^(i% 64)) o hp
 have a:=ae (fun W u=>(Dj (w':=W) h r m _ d u));have l:=ae (fun j=>xG m j);clear d;obtain ⟨L,q⟩:∃L,ws.length=L:=⟨_,rfl⟩;rw [q] at s y t;clear h c m q;have F:(i:Int).tdiv 64=((i/64:Nat):Int):=rfl;have G:(i:Int).tmod 64=((i% 64:Nat):Int):=rfl;have B:(0:Int)<=(i:Int)/64:=by omega
 have D:(i:Int)/64<(L:Int):=by omega
 have E:((i:Int)/64).toNat=i/64:=by omega
 have w1:IntKind.i64.wrap ((i:Int)/64)=((i/64:Nat):Int):=by rw [IntKind.wrap_i64];omega
 have w2:IntKind.i64.wrap ((i:Int)% 64)=((i% 64:Nat):Int):=by rw [IntKind.wrap_i64];omega
 go_enter func260,ntmps260
 go_wp2_with fail
 refine p.out.mono ?_;rintro e w' ⟨rfl,rfl⟩;go_wp2;refine pr 13 (by kernel_rfl) (by kernel_rfl) ?_;simp only [ai,an,aj,ao]
 repeat still_step
 refine wpStill_nil ?_;go_wp2;go_ret;exact ⟨rfl,_,(a.out _ rfl).1,l.out,(a.out _ rfl).2⟩
theorem pC(f:Nat->Bool):∀(n a:Nat),(eR f a n=a+n/\∀j,a<=j->j<a+n->f j=false)\/(a<=eR f a n/\eR f a n<a+n/\f (eR f a n)=true/\∀j,a<=j->j<eR f a n->f j=false)
 |0,a=> .inl ⟨rfl,fun j c b=>by omega⟩
 |n+1,a=>by
  rw [eR]
  cases h:f a with
  |true=>exact .inr ⟨ak _,by simp,by simpa using h,fun j c b=>by simp at b;omega⟩
  |false=>
   simp only [cA,fE];rcases pC f n (a+1) with ⟨c,b⟩|⟨c,b,d,g⟩
   ·exact .inl ⟨by omega,fun j d g=>by by_cases e:j=a;(subst e;exact h);exact b j (by omega) (by omega)⟩
   ·exact .inr ⟨by omega,by omega,d,fun j k i=>by by_cases e:j=a;(subst e;exact h);exact g j (by omega) i⟩
def oc(f:Nat->Bool)(n i:Nat)(w:World)(e:Ending)(w':World):Prop:=
 ((∃j:Nat,lu f i n j/\e= .returned (.tuple #[(j:Int),.bool true]))\/((∀j,i<=j->j<n->f j=false)/\e= .returned (.tuple #[(0:Int),.bool false])))/\w=w'
theorem vE{w:World}{b g n K F:Nat}{ws:List Nat}(h:dv w b g n ws)(k:K<ws.length)(r:F<64):∃x p:Nat,x<18446744073709551616/\w.cell? ⟨g,K,none⟩=some (.int .u64 x)/\eR (nO x (F:Int)) 0 64=p/\
  ((p=64/\∀j,64*K+F<=j->j<64*(K+1)->bA ws j=false)\/(p<64/\F<=p/\64*K+p<n/\bA ws (64*K+p)=true/\∀j,64*K+F<=j->j<64*K+p->bA ws j=false)):=by
 obtain ⟨x,d⟩:∃x,ws[K]? =some x:=⟨_,aK k⟩;have c:∀q,q<64->bA ws (64*K+q)=x.testBit q:=fun q s=>by
  unfold bA;rw [show (64*K+q)/64=K by omega,show (64*K+q)% 64=q by omega,aQ,d];rfl
 refine ⟨x,_,h.lt x (aD d),h.at d,rfl,?_⟩;rcases pC (nO x (F:Int)) 64 0 with ⟨i,e⟩|⟨i,e,a,f⟩
 ·refine .inl ⟨by omega,fun j a f=> ?_⟩;have:=e (j-64*K) (by omega) (by omega);rw [show j=64*K+(j-64*K) by omega,c _ (by omega)];unfold nO at this;rwa [aB (by omega),bQ] at this
 ·generalize eR (nO x (F:Int)) 0 64=p at*;unfold nO at a;rw [au,aC] at a;have hp:bA ws (64*K+p)=true:=by rw [c p (by omega)];exact a.2
  refine .inr ⟨by omega,by omega,?_,hp,fun j m o=> ?_⟩
  ·by_cases l:64*K+p<n
   ·exact l
   ·rw [h.off _ (by omega)] at hp;exact absurd hp (by decide)
  ·have:=f (j-64*K) (by omega) (by omega);rw [show j=64*K+(j-64*K) by omega,c _ (by omega)];unfold nO at this;rwa [aB (by omega),bQ] at this
theorem jW{w:World}{b g n:Nat}{ws:List Nat}(h:dv w b g n ws)(A:et w)(i:Nat)(Y:i<=1048576):Calls prog 257 #[b,(i:Int)] w (oc (bA ws) n i w):=by
 obtain ⟨C,W,I⟩:=h.c0;have c1:=h.c1;have S:=h.small;by_cases M:n<=i
 ·have c:∀e w',e= .returned (.tuple #[(0:Int),.bool false])->w=w'->oc (bA ws) n i w e w':=fun e w' a m=>⟨.inr ⟨fun j t V=>by omega,a⟩,m⟩
  have l:=ae c;clear c;generalize oc (bA ws) n i w=Q at*;clear h A
  go_enter func257,ntmps257
  go_wp2;exact l.out _ _ rfl rfl
 ·have O:(i:Int)<(n:Int):=by omega
  have P:max (i:Int) 0=(i:Int):=by omega
  have Z:(i:Int).tdiv 64=((i/64:Nat):Int):=rfl;have q2:(i:Int).tmod 64=((i% 64:Nat):Int):=rfl;have E:=ae h;have H:=ae A;have s:=h.len;obtain ⟨L,z⟩:∃L,ws.length=L:=⟨_,rfl⟩;rw [z] at I s;have G:=ae z;clear h A z
  go_enter func257,ntmps257
  go_wp2
  go_loopw [6,7] (fun k f wr=>∃K F:Nat,k= .int .i64 K/\f= .int .i64 F/\K<=L/\F<64/\wr=w/\Hid (i<=64*K+F/\∀j,i<=j->j<64*K+F->bA ws j=false)) (fun k _ _=>L-(intOf k).toNat)
  case atStart=>exact ⟨i/64,i% 64,rfl,rfl,by omega,by omega,rfl,by omega,fun j a m=>by omega⟩
  case round=>
   obtain ⟨K,F,rfl,rfl,X,J,rfl,d⟩:=hrel;by_cases N:K<L
   ·have D:(K:Int)<(L:Int):=by omega
    obtain ⟨x,p,T,U,hp,u⟩:=vE E.out (by rw [G.out];exact N) J;have y:=ae (BE x T (F:Int) _ H.out);rw [hp] at y;clear hp;rcases u with ⟨rfl,u⟩|⟨hp,B,o,q,r⟩
    ·have v:Hid (i<=64*(K+1)+0/\∀j,i<=j->j<64*(K+1)+0->bA ws j=false):=⟨by have:=d.out.1;omega,fun j a m=>by
      by_cases t:j<64*K+F
      ·exact d.out.2 j a t
      ·exact u j (by omega) (by omega)⟩
     clear u d;go_wp2_with fail
     refine y.out.mono ?_;rintro e w' ⟨rfl,rfl⟩;go_wp2;go_roundw
     case rel=>exact ⟨K+1,0,by go_num,rfl,by omega,by omega,trivial,v⟩
     case measure=>show L-(intOf (.int .i64 ((K:Int)+1))).toNat<L-(intOf (.int .i64 K)).toNat;simp only [intOf];omega
    ·have v:Hid (lu (bA ws) i n (64*K+p)):=⟨by have:=d.out.1;omega,o,q,fun j a m=>by
      by_cases t:j<64*K+F
      ·exact d.out.2 j a t
      ·exact r j (by omega) (by omega)⟩
     have R:(p:Int)<64:=by omega
     clear B o q r d;go_wp2_with fail
     refine y.out.mono ?_;rintro e w' ⟨rfl,rfl⟩;go_wp2;go_ret2;exact ⟨.inl ⟨64*K+p,v.out,rfl⟩,rfl⟩
   ·have D:(L:Int)<=(K:Int):=by omega
    go_wp2;go_ret2;exact ⟨.inr ⟨fun j a m=>d.out.2 j a (by omega),rfl⟩,rfl⟩
def wm(f:Nat->Bool)(n i:Nat):Prop:=i<n/\f i=true/\∀j,i<j->j<n->f j=false
theorem qK(f:Nat->Bool):∀n,(gC f n= -1/\∀j,j<n->f j=false)\/∃p:Nat,gC f n=(p:Int)/\p<n/\f p=true/\∀j,p<j->j<n->f j=false
 |0=> .inl ⟨rfl,fun j h=>by omega⟩
 |n+1=>by
  rw [gC]
  cases h:f n with
  |true=>exact .inr ⟨n,by simp,by omega,h,fun j a b=>by omega⟩
  |false=>
   simp only [cA,fE];rcases qK f n with ⟨a,b⟩|⟨p,a,b,c,d⟩
   ·exact .inl ⟨a,fun j c=>by by_cases e:j=n;(subst e;exact h);exact b j (by omega)⟩
   ·exact .inr ⟨p,a,by omega,c,fun j g i=>by by_cases e:j=n;(subst e;exact h);exact d j g (by omega)⟩
def CV(f:Nat->Bool)(n:Nat)(w:World)(e:Ending)(w':World):Prop:=
 ((∃j:Nat,wm f n j/\e= .returned (.tuple #[(j:Int),.bool true]))\/((∀j,j<n->f j=false)/\e= .returned (.tuple #[(0:Int),.bool false])))/\w=w'
theorem yF{w:World}{b g n K m:Nat}{ws:List Nat}(h:dv w b g n ws)(l:K<ws.length)(t:64*K<m):∃(x:Nat) (r:Int),x<18446744073709551616/\w.cell? ⟨g,K,none⟩=some (.int .u64 x)/\gC (lH x ((m:Int)-64*K)) 64=r/\
  ((r= -1/\∀j,64*K<=j->j<m->j<64*(K+1)->bA ws j=false)\/∃p:Nat,r=(p:Int)/\p<64/\64*K+p<m/\bA ws (64*K+p)=true/\∀j,64*K+p<j->j<m->j<64*(K+1)->bA ws j=false):=by
 obtain ⟨x,f⟩:∃x,ws[K]? =some x:=⟨_,aK l⟩;have e:∀q,q<64->bA ws (64*K+q)=x.testBit q:=fun q u=>by
  unfold bA;rw [show (64*K+q)/64=K by omega,show (64*K+q)% 64=q by omega,aQ,f];rfl
 refine ⟨x,_,h.lt x (aD f),h.at f,rfl,?_⟩;rcases qK (lH x ((m:Int)-64*K)) 64 with ⟨d,a⟩|⟨p,d,a,c,i⟩
 ·refine .inl ⟨d,fun j c i k=> ?_⟩;have:=a (j-64*K) (by omega);rw [show j=64*K+(j-64*K) by omega,e _ (by omega)];unfold lH at this;rwa [aB (by omega),bQ] at this
 ·unfold lH at c;rw [au,aC] at c;refine .inr ⟨p,d,a,by omega,by rw [e p a];exact c.2,fun j k o s=> ?_⟩;have:=i (j-64*K) (by omega) (by omega);rw [show j=64*K+(j-64*K) by omega,e _ (by omega)];unfold lH at this;rwa [aB (by omega),bQ] at this
theorem yK{w:World}{b g n:Nat}{ws:List Nat}(h:dv w b g n ws)(m:Nat)(H:1<=m)(S:m<=n):Calls prog 272 #[b,(m:Int)] w (CV (bA ws) m w):=by
 obtain ⟨C,Q,D⟩:=h.c0;have c1:=h.c1;have M:=h.small;have P:(0:Int)<(m:Int):=by omega
 have E:decide (m=0)=false:=ar (by omega);have I:min (m:Int) (n:Int)=(m:Int):=by omega
 have T:((m:Int)-1).tdiv 64=(((m-1)/64:Nat):Int):=by rw [show (m:Int)-1=((m-1:Nat):Int) by omega];rfl
 have z:=ae h;have a:=h.len;obtain ⟨L,y⟩:∃L,ws.length=L:=⟨_,rfl⟩;rw [y] at D a;have B:=ae y;have A:=ae a;clear h y a
 go_enter func272,ntmps272
 go_wp2
 go_loopw [6] (fun k wr=>∃K:Nat,k= .int .i64 ((K:Int)-1)/\K<=L/\wr=w/\Hid (64*K<m+64/\∀j,64*K<=j->j<m->bA ws j=false)) (fun k _=>(intOf k+1).toNat)
 case atStart=>exact ⟨(m-1)/64+1,by go_num,by have:=A.out;omega,rfl,by omega,fun j f c=>by omega⟩
 case round=>
  obtain ⟨K,rfl,R,rfl,d⟩:=hrel;by_cases F:K=0
  ·subst F;go_wp2;go_ret2;exact ⟨.inr ⟨fun j f=>d.out.2 j (by omega) f,rfl⟩,rfl⟩
  ·obtain ⟨K,rfl⟩:∃k,K=k+1:=⟨K-1,by omega⟩;have q:((K+1:Nat):Int)-1=(K:Int):=by omega
   rw [q];clear q;have G:(K:Int)<(L:Int):=by omega
   have J:=d.out.1;obtain ⟨x,r,N,O,hp,s⟩:=yF (m:=m) (K:=K) z.out (by rw [B.out];omega) (by omega);have u:=ae (BV x N ((m:Int)-64*K) wr);rw [hp] at u;clear hp;rcases s with ⟨rfl,s⟩|⟨p,rfl,hp,i,l,o⟩
   ·have t:Hid (64*K<m+64/\∀j,64*K<=j->j<m->bA ws j=false):=⟨by omega,fun j f c=>by
     by_cases v:64*(K+1)<=j
     ·exact d.out.2 j v c
     ·exact s j (by omega) c (by omega)⟩
    clear s d;go_wp2_with fail
    refine u.out.mono ?_;rintro e w' ⟨rfl,rfl⟩;go_wp2;go_roundw
    case rel=>exact ⟨K,rfl,by omega,trivial,t⟩
    case measure=>simp [intOf]
   ·have t:Hid (wm (bA ws) m (64*K+p)):=⟨i,l,fun j f c=>by
     by_cases v:64*(K+1)<=j
     ·exact d.out.2 j v c
     ·exact o j f c (by omega)⟩
    clear i l o d;go_wp2_with fail
    refine u.out.mono ?_;rintro e w' ⟨rfl,rfl⟩;go_wp2;go_ret2;exact ⟨.inl ⟨64*K+p,t.out,rfl⟩,rfl⟩
theorem pG(x m:Nat)(b:x<18446744073709551616)(a:m<18446744073709551616):∃y:Nat,y<18446744073709551616/\bits .andNot .u64 (x:Int) (m:Int)=(y:Int)/\∀q,q<64->y.testBit q=(x.testBit q&& !m.testBit q):=by
 refine ⟨x&&&(18446744073709551615-m),bU eH b,u64_andNot_nat x m b a,fun q c=> ?_⟩;rw [dT];have:=fV (n:=64) a q;rw [show 2^64-(m+1)=18446744073709551615-m by omega,aB c,bQ] at this;rw [this]
def gq(F T K:Nat):Nat:=nk (jq ((F:Int)-64*K) ((T:Int)-64*K)) 64
theorem nF(F T K:Nat):gq F T K<18446744073709551616:=nC _ (ak 64)
theorem qI(F T K q:Nat)(a:q<64):(gq F T K).testBit q=(decide (F<=64*K+q)&&decide (64*K+q<T)):=by
 unfold gq;rw [gn,aB a,bQ];unfold jq;rw [bS];simp only [au,aC];omega
theorem rj{ws:List Nat}{K x:Nat}(a:ws[K]? =some x)(q:Nat)(b:q<64):bA ws (64*K+q)=x.testBit q:=by
 unfold bA;rw [show (64*K+q)/64=K by omega,show (64*K+q)% 64=q by omega,aQ,a];rfl
theorem yt{ws:List Nat}{K x:Nat}(b:ws[K]? =some x)(y j:Nat):bA (ws.set K y) j=if j/64=K then y.testBit (j% 64) else bA ws j:=by
 have a:=(al.1 b).1;unfold bA;rw [aQ,aQ,bF];by_cases e:K=j/64
 ·rw [aG e,aG a,aG e.symm];rfl
 ·rw [aE e,aE (fun h=>e h.symm)]
def lC(f:Nat->Bool)(F T K j:Nat):Bool:=f j||(decide (F<=j)&&decide (j<T)&&decide (j<64*K))
def kX(f:Nat->Bool)(F T K j:Nat):Bool:=f j&& !(decide (F<=j)&&decide (j<T)&&decide (j<64*K))
theorem Aa{ws:List Nat}{f:Nat->Bool}{F T K x:Nat}(a:ws[K]? =some x)(h:∀j,bA ws j=lC f F T K j)(j:Nat):bA (ws.set K (x|||gq F T K)) j=lC f F T (K+1) j:=by
 rw [yt a];by_cases e:j/64=K
 ·rw [aG e,lJ,qI _ _ _ _ (bO _ (by decide)),<-rj a _ (bO _ (by decide)),h];have:64*K+j% 64=j:=by omega
  rw [this];unfold lC;rw [ar (show¬j<64*K by omega),aB (show j<64*(K+1) by omega),cV,ca,dZ]
 ·rw [aE e,h];unfold lC;rw [show decide (j<64*(K+1))=decide (j<64*K) by rw [ce];omega]
theorem yH{ws:List Nat}{f:Nat->Bool}{F T K x y:Nat}(a:ws[K]? =some x)(b:∀q,q<64->y.testBit q=(x.testBit q&& !(gq F T K).testBit q))(h:∀j,bA ws j=kX f F T K j)(j:Nat):bA (ws.set K y) j=kX f F T (K+1) j:=by
 rw [yt a];by_cases e:j/64=K
 ·rw [aG e,b _ (bO _ (by decide)),qI _ _ _ _ (bO _ (by decide)),<-rj a _ (bO _ (by decide)),h];have:64*K+j% 64=j:=by omega
  rw [this];unfold kX;rw [ar (show¬j<64*K by omega),aB (show j<64*(K+1) by omega),cV,eV,dZ,dZ]
 ·rw [aE e,h];unfold kX;rw [show decide (j<64*(K+1))=decide (j<64*K) by rw [ce];omega]
theorem xA{w:World}{b g n K x:Nat}{ws:List Nat}(h:dv w b g n ws)(i:ws[K]? =some x)(y:Nat)(k:y<18446744073709551616)(a:∀j,n<=j->bA (ws.set K y) j=false){w':World}(V:Int)(e:V=(y:Int))(f:w'=w.setCell ⟨g,K,none⟩ (.int .u64 V)):dv w' b g n (ws.set K y):=by
 subst f;subst e;refine ⟨?_,?_,h.ne,by rw [bc];exact h.len,?_,h.one,h.small,a⟩
 ·rw [bc];obtain ⟨c,m,o⟩:=h.Qd;exact ⟨c,m,o.Qg ⟨g,K,none⟩ _ h.ne⟩
 ·obtain ⟨r,q⟩:=h.row;have:=q.set K (.int .u64 y);rw [lS _ _ (by unfold ez;rw [bL];exact (al.1 i).1)] at this;refine ⟨r,?_⟩;unfold ez at this ⊢;rw [dM];exact this
 ·intro z l;rcases dh l with d|d
  ·exact h.lt z d
  ·rw [d];exact k
theorem CF(g:Nat->Bool)(a:Nat):∀k,kA g a k=ix (fun q=>g (a+q)) k
 |0=>rfl
 |k+1=>by
  show kA g a k+_=ix (fun q=>g (a+q)) k+_
  rw [CF g a k]
def gV(f:Nat->Bool)(F T j:Nat):Bool:=decide (F<=j)&&decide (j<T)&&f j
theorem xg{ws:List Nat}{F T K x:Nat}(b:ws[K]? =some x):ix (xW (gq F T K&&&x) 0 64) 64=Qb (gV (bA ws) F T) (64*K) (64*(K+1)):=by
 unfold Qb;rw [show 64*(K+1)-64*K=64 by omega,CF];refine qZ (fun q a=> ?_);unfold xW gV;rw [dT,qI _ _ _ _ a,rj b _ a,aB (show (0:Int)<=(q:Int) by omega),aB (show (q:Int)<64 by omega),bQ,bQ]
theorem uY(f:Nat->Bool){F T A B:Nat}(k:A<=F)(c:F<=T)(d:T<=B):Qb (gV f F T) A B=Qb f F T:=by
 rw [bJ (gV f F T) k (aZ c d),bJ (gV f F T) c d,cu (a:=A) (b:=F) (fun i _ h=>by unfold gV;rw [ar (by omega)];rfl),
  cu (a:=T) (b:=B) (fun i h _=>by unfold gV;rw [ar (show¬i<T by omega),cV];rfl),
  cI (f:=gV f F T) (g:=f) (fun i e j=>by unfold gV;rw [aB e,aB j];rfl)]
 omega
section
variable{P:Program}{ops:Array Oper}{C:World->Prop}{Q:Act->Prop}{a:Act}{o:Oper}{rest:List Oper}{v:Value}{vs:List Value}
def qm(P:Program)(ops:Array Oper)(C:World->Prop)(Q:Act->Prop):List Value->List Oper->Act->Prop
 |v::vs,o::l,a=>wpQuiet P ops C Q (o::l) a\/(Region.wanted o (yielded ops a.tmps)=true/\(∀w,C w->(execOp a.eval o).run P w= .ok (.value v) w)/\qm P ops C Q vs l (a.put o.dst v))
 |_,l,a=>wpQuiet P ops C Q l a
theorem aV(vs:List Value){l:List Oper}(h:qm P ops C Q vs l a):wpQuiet P ops C Q l a:=by
 induction vs generalizing l a with
 |nil=>cases l<;>exact h
 |cons v vs ih=>
  cases l with
  |nil=>exact h
  |cons o l=>
   rcases h with h|⟨b,c,d⟩
   ·exact h
   ·exact cC v b c (ih d)
theorem aW(hg:Region.wanted o (yielded ops a.tmps)=true)(b:∀w,C w->(execOp a.eval o).run P w= .ok (.value v) w)(h:qm P ops C Q vs rest (a.put o.dst v)):qm P ops C Q (v::vs) (o::rest) a:= .inr ⟨hg,b,h⟩
theorem aU{l:List Oper}(h:wpQuiet P ops C Q l a):qm P ops C Q [] l a:=by
 cases l<;>exact h
end
end Go.Proofs.YthahbijbpinneaaGreatDoor
