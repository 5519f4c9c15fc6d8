import Derived.Test.YthahbijbpinneaaGreatDoorA11
set_option maxRecDepth 100000
set_option maxHeartbeats 8000000
set_option linter.all false
namespace Go.Proofs.YthahbijbpinneaaGreatDoor
open Go.RowKit
section
variable {w:World} {c:Cy} {left fr ah:Nat} {E:Nat→Nat} {Pg W Fs Us Hg:Nat} {S:Nat→Prop} {mp:Nat→Bool} {M:Nat→Nat}
def qU (w:World) (x:Nat) (e:Ending) (w':World):Prop:=e= .returned (.int .u64 x)∧Fr (fun _=>False) w w'
theorem nQ (h:sK w c left fr ah) (hp:ca c.lo c.hi w c.pl W c.B E c.to_) (hb:c.to_≤1048576) (hm:bl w c.m S Pg W Fs Us Hg mp M) (a s p f g:Nat) (hs:s≤a) (ha:a<W) (hmp:mp (a/Pg)=true) (ho:bw p f g)
  (hpt:1≤a-s→a-s≤p→M a≠0→aj E (M a)=true∧M a<W) (hM:M a<18446744073709551616):
  Calls Tryz.prog 244 #[c.y,.int .i64 a,.int .i64 s,bP p f g] w (qU w (gB M (goes E c.to_) s p (a-s))):=by
 have hW2:=hm.at.2.2.1;have hsa:s+(a-s)=a:=by omega
 have hB0:∀o,Fr (fun _=>False) w (w.alloc o):=fun o=>(Fr.refl _ w).alloc o
 obtain ⟨W1,hW1⟩:∃W1,w.alloc (.cells #[.int .i64 p,.int .i64 f,.int .i64 g] 31)=W1:=⟨_,rfl⟩;have hf1:Fr (fun _=>False) w W1:=by rw [←hW1];exact hB0 _
 have hb1:ak W1 w.heap.size [.int .i64 p,.int .i64 f,.int .i64 g] 31:=by rw [←hW1];exact ak.new w _ _
 have c0:=(h.frame hf1 (fun h=>h)).cell 0 rfl;have HL:=ae (dH (hm.keep hf1) a ha hmp);have HP:=ae (fun w1=>lS p f g ho (a-s) (by omega) w1);have HT:=ae (fun (w1:World) (hf:Fr (fun _=>False) w w1) (h1:1≤a-s∧a-s≤p) (h0:M a≠0)=>qF (h.frame hf (fun h=>h)) (hp.keep hf) hb (M a) (hpt h1.1 h1.2 h0).1 (hpt h1.1 h1.2 h0).2);have hXW:(1≤a-s∧a-s≤p)→M a≠0→M a≤1048576:=fun h1 h0=>by have:=(hpt h1.1 h1.2 h0).2;omega
 have hgs:goes E c.to_ (M a)≤2097152∨¬(M a≤1048576):=by
  by_cases hx:M a≤1048576
  ·left;have:=bW (aj E) (M a);unfold goes;omega
  ·exact .inr hx
 have hgo:gB M (goes E c.to_) s p (a-s)=if (1≤a-s∧a-s≤p)∧M a≠0 then goes E c.to_ (M a) else M a:=by
  unfold gB;rw [hsa];by_cases h1:(1≤a-s∧a-s≤p)∧M a≠0
  ·rw [if_pos h1,if_pos ⟨h1.1.1,h1.1.2,h1.2⟩]
  ·rw [if_neg h1,if_neg (fun h=>h1 ⟨⟨h.1,h.2.1⟩,h.2.2⟩)]
 have hi:(a:Int)-(s:Int)=((a-s:Nat):Int):=by omega
 rw [hgo];generalize goes E c.to_ (M a)=Y at*;have HQ:Hid (∀w',Fr (fun _=>False) W1 w'→Fr (fun _=>False) w w'):=by
  show∀w',_
  exact fun w' h=>hf1.trans h (fun _ h=>h.elim)
 have HB1:=ae hb1;have HF1:=ae hf1;have k0:=hb1.cell 0 rfl;have k1:=hb1.cell 1 rfl;have k2:=hb1.cell 2 rfl;clear h hp hb hm hpt hmp ho hB0 hb1 hf1 hgo;unfold bP qU at*;generalize a-s=D at*;generalize M a=X at*;obtain ⟨Z,hZ⟩:∃Z,Z=if (1≤D∧D≤p)∧X≠0 then Y else X:=⟨_,rfl⟩
 rw [←hZ];have HZ:=ae hZ;clear hZ
 go_enter Tryz.func244,Tryz.ntmps244
 go_wp2_with fail
 refine (HL.out).mono ?_;rintro e w2 ⟨rfl,hf2⟩;have hb2:=HB1.out.frame hf2 (fun h=>h);have k0:=hb2.cell 0 rfl;have k1:=hb2.cell 1 rfl;have k2:=hb2.cell 2 rfl;have HQ2:=ae (HQ.out w2 hf2);have HP2:=ae (HP.out w2);have HT2:=ae (fun w3 (hf:Fr (fun _=>False) w2 w3)=>HT.out w3 (HQ.out w3 (hf2.trans hf (fun _ h=>h.elim))));have HQ3:=ae (fun w3 (hf:Fr (fun _=>False) w2 w3)=>HQ.out w3 (hf2.trans hf (fun _ h=>h.elim)));clear HL HB1 HF1 hb2 HQ HP HT c0 hf2;by_cases h0:X=0
 ·subst h0;have HZ2:=ae (HZ.out.trans (if_neg (fun h=>h.2 rfl)));clear HP2 HT2 HQ3 hXW hgs;go_wp2;go_ret;rw [HZ2.out];exact ⟨rfl,HQ2.out⟩
 ·have hx0:¬((X:Nat):Int)=0:=by omega
  by_cases hptr:1≤D∧D≤p
  ·have hX1:=hXW hptr h0;have hY:Y≤2097152:=by omega
   have hx1:IntKind.i64.wrap ((X:Nat):Int)=((X:Nat):Int):=by rw [IntKind.wrap_i64];omega
   have hx2:IntKind.u64.wrap ((Y:Nat):Int)=((Y:Nat):Int):=by rw [IntKind.wrap_u64];omega
   have HT3:=ae (fun w3 hf=>HT2.out w3 hf hptr h0);rw [decide_eq_true hptr] at HP2;have HZ2:=ae (HZ.out.trans (if_pos ⟨hptr,h0⟩));clear HT2 HQ2 hXW hgs HZ;go_wp2_with fail
   refine (HP2.out).mono ?_;rintro e w3 ⟨rfl,hf3⟩;have HT4:=ae (HT3.out w3 hf3);have HQ4:=ae (fun w4 (hf:Fr (fun _=>False) w3 w4)=>HQ3.out w4 (hf3.trans hf (fun _ h=>h.elim)));clear hf3 HP2 HT3 HQ3 k0 k1 k2;go_wp2_with fail
   refine (HT4.out).mono ?_;rintro e w4 ⟨rfl,hf4⟩;have HQ5:=ae (HQ4.out w4 hf4);clear hf4 HT4 HQ4;go_wp2;go_ret;rw [HZ2.out];exact ⟨rfl,HQ5.out⟩
  ·rw [decide_eq_false hptr] at HP2;have HZ2:=ae (HZ.out.trans (if_neg (fun h=>hptr h.1)));clear HT2 HQ2 hXW hgs HZ;go_wp2_with fail
   refine (HP2.out).mono ?_;rintro e w3 ⟨rfl,hf3⟩;have HQ5:=ae (HQ3.out w3 hf3);clear hf3 HP2 HQ3 k0 k1 k2;go_wp2;go_ret;rw [HZ2.out];exact ⟨rfl,HQ5.out⟩
end
def aT (E:Nat→Nat) (a:Nat):Nat:=((List.range (a+1)).find? (fun s=>decide (a<s+E s))).getD 0
theorem bX {E:Nat→Nat} {a:Nat} (h:aj E a=true):aT E a≤a∧a<aT E a+E (aT E a):=by
 unfold aT
 cases hf:(List.range (a+1)).find? (fun s=>decide (a<s+E s)) with
 |none=>
  obtain ⟨s,h1,h2⟩:=aQ.1 h;have:=List.find?_eq_none.1 hf s (List.mem_range.2 (by omega));simp at this;omega
 |some s=>
  have h1:=List.find?_some hf;have h2:=List.mem_range.1 (List.mem_of_find?_eq_some hf);simp only [decide_eq_true_eq] at h1;simp only [Option.getD_some];omega
theorem lK {E:Nat→Nat} (hA:cX E) {a s:Nat} (h1:s≤a) (h2:a<s+E s):aT E a=s:=by
 have h:=bX (aQ.2 ⟨s,h1,h2⟩);exact hA.owner h.1 h.2 h1 h2
def gT (E hp M F:Nat→Nat) (a:Nat):Nat:=gB M F (aT E a) (hp (aT E a)) (a-aT E a)
theorem dw {E hp M M' F:Nat→Nat} {a:Nat} (h:aj E a=true) (e:M' a=M a):gT E hp M' F a=gT E hp M F a:=by
 have:=bX h;unfold gT gB;rw [show aT E a+(a-aT E a)=a by omega,e]
def br (E:Nat→Nat) (a:Nat):Nat:=cnt (aj E) 0 a
theorem dX {E:Nat→Nat} {a W:Nat} (h:aj E a=true) (haW:a<W):br E a<cnt (aj E) 0 W:=ia (Nat.zero_le a) haW h
theorem o0 {E:Nat→Nat} {W i:Nat} (h:i<cnt (aj E) 0 W):∃a,a<W∧aj E a=true∧br E a=i:=
 let ⟨a,_,h2,h3,h4⟩:=lI (aj E) 0 W i h;⟨a,h2,h3,h4⟩
theorem lE {E:Nat→Nat} {a b:Nat} (ha:aj E a=true) (hb:aj E b=true) (h:br E a=br E b):a=b:=jH (Nat.zero_le _) (Nat.zero_le _) ha hb h
theorem mJ (E:Nat→Nat) (Ba a:Nat):goes E Ba a=Ba+br E a:=rfl
structure bg where
 E:Nat→Nat
 hp:Nat→Nat
 to_:Nat
 W:Nat
 P:Nat
 B:Nat
 R:Nat
 Ah:Nat
def bg.N (s:bg):Nat:=cnt (aj s.E) 0 s.W
def bg.F (s:bg):Nat→Nat:=goes s.E s.to_
def bg.nb (s:bg):Nat:=gS s.N s.B
def aY (B:Nat) (mvd:Nat→Bool):Nat→Bool:=fun i=>mvd (i/B)
def eK (s:bg) (top:Nat) (r:Nat):Bool:=eL s.P (fun i=>decide (s.N≤i)&&decide (s.to_+i<top)) r
def cU (s:bg) (mvd:Nat→Bool) (top q:Nat):Bool:=decide (s.to_/s.P≤q)&&decide (q<s.to_/s.P+s.R)&&(fO s.P s.N (aY s.B mvd) (q-s.to_/s.P)||eK s top (q-s.to_/s.P))
structure bT (s:bg):Prop where
 apart:cX s.E
 P1:1≤s.P
 B1:1≤s.B
 div:s.P∣s.B∨s.B∣s.P
 W1:s.W% s.P=0
 W2:s.W≤524288
 to1:s.to_% s.P=0
 to2:s.to_+s.R*s.P≤s.W
 N2:s.N≤s.R*s.P
 from_:∀a,aj s.E a=true→a<s.W∧(a<s.to_∨s.to_+s.R*s.P≤a)
structure fu (s:bg) (L M:Nat→Nat) (mp:Nat→Bool) (mvd:Nat→Bool) (fr ah left top:Nat):Prop where
 moved:∀a,a<s.W→aj s.E a=true→mvd (br s.E a/s.B)=true→M (s.F a)=L (s.F a)
 still:∀a,a<s.W→aj s.E a=true→mvd (br s.E a/s.B)=false→gT s.E s.hp M s.F a=L (s.F a)
 ptrs:∀a,a<s.W→aj s.E a=true→mvd (br s.E a/s.B)=false→1≤a-aT s.E a→a-aT s.E a≤s.hp (aT s.E a)→M a≠0→aj s.E (M a)=true∧M a<s.W
 small:∀a,a<s.W→aj s.E a=true→mvd (br s.E a/s.B)=false→M a<18446744073709551616
 behind:∀k,s.to_+s.N≤k→k<top→M k=L k
 pages:∀q,q<s.W/s.P→mp q=(eB s.P (aj s.E) (aY s.B mvd) q||cU s mvd top q)
 front:(∀k,k<fr→mvd k=true)∧fr≤s.nb∧(fr<s.nb→mvd fr=false)
 far:∀k,s.nb≤k→mvd k=false
 Ah:ah=cnt mvd fr s.nb∧ah≤s.Ah
 left:left+cnt mvd 0 s.nb=s.nb
 Rm:∃X,(∀k,X k=true→mvd k=true)∧gz s.P (s.W/s.P) s.R s.N (aj s.E) (aY s.B X) (eK s top)≤s.R
section
variable {s:bg} {L M:Nat→Nat} {mp:Nat→Bool} {mvd:Nat→Bool} {fr ah left top:Nat}
theorem bT.toq (ho:bT s):s.to_=s.to_/s.P*s.P:=by have:=Nat.div_add_mod s.to_ s.P;have:=ho.to1;rw [Nat.mul_comm];omega
theorem bT.Wq (ho:bT s):s.W=s.W/s.P*s.P:=by have:=Nat.div_add_mod s.W s.P;have:=ho.W1;rw [Nat.mul_comm];omega
theorem eS {P q i a:Nat} (hP:1≤P) (h:a=q*P+i) (hi:i<P):a/P=q:=by
 rw [h,Nat.mul_comm,Nat.mul_add_div (by omega),Nat.div_eq_of_lt hi,Nat.add_zero]
theorem oy {P t r:Nat} (hP:1≤P) (i:Nat) (h:t=r*P):(t+i)/P=r+i/P:=by
 rw [h,Nat.mul_comm,Nat.mul_add_div (by omega)]
theorem sy (ho:bT s) {a:Nat} (ha:aj s.E a=true):cU s mvd top (a/s.P)=false:=by
 have hP:=ho.P1;have hq:=ho.toq;have h2:=(ho.from_ a ha).2;unfold cU;rw [Bool.and_eq_false_iff,Bool.and_eq_false_iff,decide_eq_false_iff_not,decide_eq_false_iff_not];left;rcases h2 with h2|h2
 ·left;have:a/s.P<s.to_/s.P:=by rw [Nat.div_lt_iff_lt_mul (by omega),←hq];exact h2
  omega
 ·right;have:s.to_/s.P+s.R≤a/s.P:=by rw [Nat.le_div_iff_mul_le (by omega),Nat.add_mul,←hq];exact h2
  omega
theorem jL (ho:bT s) (hpg:∀q,q<s.W/s.P→mp q=(eB s.P (aj s.E) (aY s.B mvd) q||cU s mvd top q)):cnt mp 0 (s.W/s.P)=gz s.P (s.W/s.P) s.R s.N (aj s.E) (aY s.B mvd) (eK s top):=by
 have hP:=ho.P1;have hq:=ho.toq;have hw:=ho.Wq;have hR:s.to_/s.P+s.R≤s.W/s.P:=by
  have h1:=ho.to2;rw [Nat.le_div_iff_mul_le (by omega),Nat.add_mul,←hq];exact h1
 obtain ⟨g,hg⟩:∃g:Nat→Bool,g=fun r=>fO s.P s.N (aY s.B mvd) r||eK s top r:=⟨_,rfl⟩
 have e1:cnt mp 0 (s.W/s.P)=cnt (eB s.P (aj s.E) (aY s.B mvd)) 0 (s.W/s.P)+cnt (fun q=>decide (s.to_/s.P≤q)&&decide (q<s.to_/s.P+s.R)&&g (q-s.to_/s.P)) 0 (s.W/s.P):=by
  refine ly (Nat.zero_le _) (fun q _ hq2=> ?_) (fun q _ _ hf=> ?_)
  ·rw [hpg q hq2,hg];rfl
  ·obtain ⟨a,a1,a2⟩:=(aH hP).1 hf;rw [Bool.and_eq_true] at a2;have h2:=(ho.from_ a a2.1).2;rw [Bool.and_eq_false_iff,Bool.and_eq_false_iff,decide_eq_false_iff_not,decide_eq_false_iff_not];left;rw [←a1];rcases h2 with h2|h2
   ·left;have:a/s.P<s.to_/s.P:=by rw [Nat.div_lt_iff_lt_mul (by omega),←hq];exact h2
    omega
   ·right;have:s.to_/s.P+s.R≤a/s.P:=by rw [Nat.le_div_iff_mul_le (by omega),Nat.add_mul,←hq];exact h2
    omega
 have e2:cnt (fun q=>decide (s.to_/s.P≤q)&&decide (q<s.to_/s.P+s.R)&&g (q-s.to_/s.P)) 0 (s.W/s.P)=cnt g 0 s.R:=by
  rw [aw _ (Nat.zero_le (s.to_/s.P)) (show s.to_/s.P≤s.W/s.P by omega),aw _ (show s.to_/s.P≤s.to_/s.P+s.R by omega) hR,
   aD (a:=0) (b:=s.to_/s.P) (fun i _ hi=>by rw [Bool.and_eq_false_iff,Bool.and_eq_false_iff,decide_eq_false_iff_not];left;left;omega),
   aD (a:=s.to_/s.P+s.R) (b:=s.W/s.P) (fun i hi _=>by rw [Bool.and_eq_false_iff,Bool.and_eq_false_iff,decide_eq_false_iff_not,decide_eq_false_iff_not];left;right;omega),Nat.zero_add,Nat.add_zero]
  have h3:∀n,n≤s.R→cnt (fun q=>decide (s.to_/s.P≤q)&&decide (q<s.to_/s.P+s.R)&&g (q-s.to_/s.P)) (s.to_/s.P) (s.to_/s.P+n)=cnt g 0 n:=by
   intro n
   induction n with
   |zero=>intro _;rw [Nat.add_zero,bc,bc]
   |succ n ih=>
    intro hn;rw [←Nat.add_assoc,aC _ (by omega),aC g (Nat.zero_le n),ih (by omega),decide_eq_true (show s.to_/s.P≤s.to_/s.P+n by omega),decide_eq_true (show s.to_/s.P+n<s.to_/s.P+s.R by omega),show s.to_/s.P+n-s.to_/s.P=n by omega];rfl
  exact h3 s.R (Nat.le_refl _)
 rw [e1,e2,hg];rfl
theorem fu.Us (ho:bT s) (h:fu s L M mp mvd fr ah left top):cnt mp 0 (s.W/s.P)=gz s.P (s.W/s.P) s.R s.N (aj s.E) (aY s.B mvd) (eK s top):=jL ho h.pages
theorem fu.bound (ho:bT s) (h:fu s L M mp mvd fr ah left top):cnt mp 0 (s.W/s.P)≤s.R+2+pu s.B s.P*ah:=by
 obtain ⟨X,hX,hr⟩:=h.Rm;rw [h.Us ho];have hP:=ho.P1;have hB:=ho.B1;obtain ⟨f1,f2,f3⟩:=h.front;have hfar:=h.far;have hN:cnt (aj s.E) 0 (s.W/s.P*s.P)=s.N:=by rw [←ho.Wq];rfl
 have h1:=oK (P:=s.P) (Q:=s.W/s.P) (R:=s.R) (N:=s.N) (g:=min (fr*s.B) s.N) (live:=aj s.E) (X:=aY s.B X) (A:=eK s top) hP hN (Nat.min_le_right _ _);have h2:=ru (P:=s.P) (Q:=s.W/s.P) (R:=s.R) (N:=s.N) (B:=s.B) (live:=aj s.E) (A:=eK s top) (X:=fun i=>aY s.B X i||decide (i<min (fr*s.B) s.N)) (mv:=mvd) hP hB ho.div fr s.nb f2;have h3:gz s.P (s.W/s.P) s.R s.N (aj s.E) (aY s.B mvd) (eK s top)=gz s.P (s.W/s.P) s.R s.N (aj s.E) (fun i=>(aY s.B X i||decide (i<min (fr*s.B) s.N))||(decide (fr≤i/s.B)&&decide (i/s.B<s.nb)&&mvd (i/s.B))) (eK s top):=by
  have hk:∀i,i<s.N→aY s.B mvd i=((aY s.B X i||decide (i<min (fr*s.B) s.N))||(decide (fr≤i/s.B)&&decide (i/s.B<s.nb)&&mvd (i/s.B))):=by
   intro i hi;unfold aY
   cases hm:mvd (i/s.B) with
   |true=>
    by_cases hfr:fr≤i/s.B
    ·have hnb:i/s.B<s.nb:=by
      by_cases h:i/s.B<s.nb
      ·exact h
      ·rw [hfar _ (by omega)] at hm;cases hm
     rw [decide_eq_true hfr,decide_eq_true hnb];simp
    ·have:i<fr*s.B:=by
      have:=(Nat.div_lt_iff_lt_mul (show 0<s.B by omega)).1 (show i/s.B<fr by omega);exact this
     rw [decide_eq_true (show i<min (fr*s.B) s.N by omega)];simp
   |false=>
    have hx:X (i/s.B)=false:=by
     rw [Bool.eq_false_iff];exact fun h=>by rw [hX _ h] at hm;cases hm
    have hfr:¬i<fr*s.B:=fun h=>by
     have:=(Nat.div_lt_iff_lt_mul (show 0<s.B by omega)).2 h;rw [f1 _ this] at hm;cases hm
    rw [hx,decide_eq_false (show¬i<min (fr*s.B) s.N by omega)];simp
  unfold gz;congr 1
  ·refine aJ (fun q _ hq2=> ?_);rw [Bool.eq_iff_iff];unfold eB;rw [aH hP,aH hP];constructor
   ·rintro ⟨a,a1,a2⟩;refine ⟨a,a1,?_⟩;rw [Bool.and_eq_true] at a2 ⊢;have:=dX a2.1 (ho.from_ a a2.1).1;exact ⟨a2.1,(congrArg (fun x=> !x) (hk _ this).symm).trans a2.2⟩
   ·rintro ⟨a,a1,a2⟩;refine ⟨a,a1,?_⟩;rw [Bool.and_eq_true] at a2 ⊢;have:=dX a2.1 (ho.from_ a a2.1).1;exact ⟨a2.1,(congrArg (fun x=> !x) (hk _ this)).trans a2.2⟩
  ·refine aJ (fun r _ _=> ?_);congr 1
   rw [Bool.eq_iff_iff];unfold fO;rw [aH hP,aH hP];constructor
   ·rintro ⟨a,a1,a2⟩;refine ⟨a,a1,?_⟩;rw [Bool.and_eq_true,decide_eq_true_eq] at a2 ⊢;exact ⟨a2.1,(hk _ a2.1).symm.trans a2.2⟩
   ·rintro ⟨a,a1,a2⟩;refine ⟨a,a1,?_⟩;rw [Bool.and_eq_true,decide_eq_true_eq] at a2 ⊢;exact ⟨a2.1,(hk _ a2.1).trans a2.2⟩
 rw [h3];rw [←h.Ah.1] at h2;omega
end
def Cy.has (c:Cy) (k:Nat):Prop:=k=c.y∨k=c.mv∨k=c.wb∨k=c.sb∨c.EL.has k∨(c.lo≤k∧k<c.hi)
structure yW (c:Cy):Prop where
 y:c.y≠c.mv∧c.y≠c.wb∧c.y≠c.sb∧¬c.EL.has c.y∧¬(c.lo≤c.y∧c.y<c.hi)∧c.y≠aN
 mv:c.mv≠c.wb∧c.mv≠c.sb∧¬c.EL.has c.mv∧¬(c.lo≤c.mv∧c.mv<c.hi)∧c.mv≠aN
 wb:c.wb≠c.sb∧¬c.EL.has c.wb∧¬(c.lo≤c.wb∧c.wb<c.hi)∧c.wb≠aN
def ol (l:List Bool):List Value:=l.map fun x=>Value.bool x
structure dL (c:Cy) (s:bg) (hf hg:Nat→Nat) (Fs Us Hg:Nat) (Sm:Nat→Prop) (mp:Nat→Bool) (M:Nat→Nat) (Mv:List Bool) (fw:Nat→Option Nat) (n left fr ah:Nat) (w:World):Prop where
 blk:sK w c left fr ah
 mem:bl w c.m Sm s.P s.W Fs Us Hg mp M
 plan:ca c.lo c.hi w c.pl s.W c.B s.E c.to_
 ext:bA w c.EL s.W s.E
 tab:bu w
 mv:ak w c.mv (ol Mv) 4
 wds:bK w c.wb n fw
 shp:∃ns f,cN w c.sb ns f∧∀a,s.E a≠0→nW (f a)=(s.hp a,hf a,hg a)
 hib:c.hi≤w.heap.size
 dm:∀k,Sm k→¬c.has k∧k≠aN
 d:yW c
 B:c.B=s.B
 to_:c.to_=s.to_
 len:Mv.length=c.nb
section
variable {c:Cy} {s:bg} {hf hg:Nat→Nat} {Fs Us Hg used' Hg':Nat} {Sm Sm':Nat→Prop} {mp mp':Nat→Bool} {M M':Nat→Nat} {Mv mvl':List Bool} {fw fw':Nat→Option Nat} {n n' left fr ah left' fr' ah':Nat} {w w':World}
theorem dL.lt (h:dL c s hf hg Fs Us Hg Sm mp M Mv fw n left fr ah w):∀k,c.has k→k<w.heap.size:=by
 intro k hk;obtain ⟨ns,f,h1,_⟩:=h.shp;rcases hk with rfl|rfl|rfl|rfl|hk|hk
 ·exact h.blk.lt
 ·exact h.mv.lt
 ·exact h.wds.lt
 ·exact h1.lt
 ·exact h.ext.lt k hk
 ·have:=h.hib;omega
theorem dL.tabl (h:dL c s hf hg Fs Us Hg Sm mp M Mv fw n left fr ah w):aN<w.heap.size:=aE (h.tab 0 0 rfl)
theorem dL.frame {T:Nat→Prop} (h:dL c s hf hg Fs Us Hg Sm mp M Mv fw n left fr ah w) (hf':Fr T w w') (h1:∀k,c.has k→¬T k) (h2:∀k,Sm k→¬T k) (h3:¬T aN):dL c s hf hg Fs Us Hg Sm mp M Mv fw n left fr ah w':=by
 obtain ⟨ns,f,q1,q2⟩:=h.shp;exact ⟨h.blk.frame hf' (h1 _ (.inl rfl)),h.mem.frame hf' h2,h.plan.frame hf' (fun i hi=>by
   by_cases hx:c.lo≤i∧i<c.hi
   ·exact absurd hi (h1 i (.inr (.inr (.inr (.inr (.inr hx))))))
   ·omega),h.ext.frame hf' (fun k hk=>h1 k (.inr (.inr (.inr (.inr (.inl hk)))))),an h.tab hf' h3,h.mv.frame hf' (h1 _ (.inr (.inl rfl))),h.wds.frame hf' (h1 _ (.inr (.inr (.inl rfl)))),⟨ns,f,q1.frame hf' (h1 _ (.inr (.inr (.inr (.inl rfl))))),q2⟩,
  by have:=h.hib;have:=hf'.size;omega,h.dm,h.d,h.B,h.to_,h.len⟩
theorem dL.Fh (h:dL c s hf hg Fs Us Hg Sm mp M Mv fw n left fr ah w) (hf':Fr (fun _=>False) w w'):dL c s hf hg Fs Us Hg Sm mp M Mv fw n left fr ah w':=h.frame hf' (fun _ _ h=>h) (fun _ _ h=>h) (fun h=>h)
theorem dL.mem_ (h:dL c s hf hg Fs Us Hg Sm mp M Mv fw n left fr ah w) (hm:bl w' c.m Sm' s.P s.W Fs used' Hg' mp' M') (hf':Fr Sm w w') (hs:∀k,Sm' k→Sm k∨w.heap.size≤k):dL c s hf hg Fs used' Hg' Sm' mp' M' Mv fw n left fr ah w':=by
 obtain ⟨ns,f,q1,q2⟩:=h.shp;have hn:∀k,c.has k→¬Sm k:=fun k hk hs=>(h.dm k hs).1 hk
 have ht:¬Sm aN:=fun hs=>(h.dm _ hs).2 rfl
 exact ⟨h.blk.frame hf' (hn _ (.inl rfl)),hm,h.plan.frame hf' (fun i hi=>by
   by_cases hx:c.lo≤i∧i<c.hi
   ·exact absurd hi (hn i (.inr (.inr (.inr (.inr (.inr hx))))))
   ·omega),h.ext.frame hf' (fun k hk=>hn k (.inr (.inr (.inr (.inr (.inl hk)))))),an h.tab hf' ht,h.mv.frame hf' (hn _ (.inr (.inl rfl))),h.wds.frame hf' (hn _ (.inr (.inr (.inl rfl)))),⟨ns,f,q1.frame hf' (hn _ (.inr (.inr (.inr (.inl rfl))))),q2⟩,
  by have:=h.hib;have:=hf'.size;omega,fun k hk=>by
   rcases hs k hk with h1|h1
   ·exact h.dm k h1
   ·exact ⟨fun h2=>by have:=h.lt k h2;omega,fun e=>by have:=h.tabl;omega⟩,h.d,h.B,h.to_,h.len⟩
theorem dL.y_ (h:dL c s hf hg Fs Us Hg Sm mp M Mv fw n left fr ah w) (hb:sK w' c left' fr' ah') (hf':Fr (fun k=>k=c.y) w w'):dL c s hf hg Fs Us Hg Sm mp M Mv fw n left' fr' ah' w':=by
 obtain ⟨ns,f,q1,q2⟩:=h.shp;obtain ⟨d1,d2,d3,d4,d5,d6⟩:=h.d.y;exact ⟨hb,h.mem.frame hf' (fun k hk e=>(h.dm k hk).1 (.inl e)),h.plan.frame hf' (fun i hi=>by subst hi;omega),h.ext.frame hf' (fun k hk e=>d4 (e▸hk)),an h.tab hf' (Ne.symm d6),h.mv.frame hf' (Ne.symm d1),h.wds.frame hf' (Ne.symm d2),⟨ns,f,q1.frame hf' (Ne.symm d3),q2⟩,
  by have:=h.hib;have:=hf'.size;omega,h.dm,h.d,h.B,h.to_,h.len⟩
theorem dL.mv_ (h:dL c s hf hg Fs Us Hg Sm mp M Mv fw n left fr ah w) (hb:ak w' c.mv (ol mvl') 4) (hl:mvl'.length=c.nb) (hf':Fr (fun k=>k=c.mv) w w'):dL c s hf hg Fs Us Hg Sm mp M mvl' fw n left fr ah w':=by
 obtain ⟨ns,f,q1,q2⟩:=h.shp;obtain ⟨d1,d2,d3,d4,d5,d6⟩:=h.d.y;obtain ⟨e2,e3,e4,e5,e6⟩:=h.d.mv;exact ⟨h.blk.frame hf' d1,h.mem.frame hf' (fun k hk e=>(h.dm k hk).1 (.inr (.inl e))),h.plan.frame hf' (fun i hi=>by subst hi;omega),h.ext.frame hf' (fun k hk e=>e4 (e▸hk)),an h.tab hf' (Ne.symm e6),hb,h.wds.frame hf' (Ne.symm e2),⟨ns,f,q1.frame hf' (Ne.symm e3),q2⟩,
  by have:=h.hib;have:=hf'.size;omega,h.dm,h.d,h.B,h.to_,hl⟩
theorem dL.wb_ (h:dL c s hf hg Fs Us Hg Sm mp M Mv fw n left fr ah w) (hb:bK w' c.wb n' fw') (hf':Fr (fun k=>k=c.wb) w w'):dL c s hf hg Fs Us Hg Sm mp M Mv fw' n' left fr ah w':=by
 obtain ⟨ns,f,q1,q2⟩:=h.shp;obtain ⟨d1,d2,d3,d4,d5,d6⟩:=h.d.y;obtain ⟨e2,e3,e4,e5,e6⟩:=h.d.mv;obtain ⟨g3,g4,g5,g6⟩:=h.d.wb;exact ⟨h.blk.frame hf' d2,h.mem.frame hf' (fun k hk e=>(h.dm k hk).1 (.inr (.inr (.inl e)))),h.plan.frame hf' (fun i hi=>by subst hi;omega),h.ext.frame hf' (fun k hk e=>g4 (e▸hk)),an h.tab hf' (Ne.symm g6),h.mv.frame hf' e2,hb,⟨ns,f,q1.frame hf' (Ne.symm g3),q2⟩,
  by have:=h.hib;have:=hf'.size;omega,h.dm,h.d,h.B,h.to_,h.len⟩
theorem fx {l:List Bool} {k:Nat} (h:k<l.length):(ol l)[k]? =some (.bool (l.getD k false)):=by
 unfold ol;rw [List.getElem?_map,List.getElem?_eq_getElem h];simp [List.getD,h]
end
def iR (s:bg) (X:Nat→Bool) (q:Nat):Nat:=cnt (fun a=>aj s.E a&& !X (br s.E a)) (q*s.P) (q*s.P+s.P)
theorem iX {s:bg} (hP:1≤s.P) (X:Nat→Bool) (q:Nat):iR s X q≠0↔eB s.P (aj s.E) X q=true:=by
 unfold eB;constructor
 ·intro h
  cases hf:eL s.P (fun a=>aj s.E a&& !X (cnt (aj s.E) 0 a)) q with
  |true=>rfl
  |false=>
   refine absurd (aD (fun i h1 h2=> ?_)) h;exact (fF hP).1 hf i (eS (i:=i-q*s.P) hP (by omega) (by omega))
 ·intro h;obtain ⟨a,a1,a2⟩:=(aH hP).1 h;have h1:q*s.P≤a:=by rw [←a1];exact Nat.div_mul_le_self a s.P
  have h2:a<q*s.P+s.P:=by
   have h3:=Nat.div_add_mod a s.P;have:=Nat.mod_lt a (show 0<s.P by omega);rw [a1,Nat.mul_comm] at h3;omega
  have:=ia (f:=fun a=>aj s.E a&& !X (br s.E a)) h1 h2 a2;unfold iR;omega
theorem nx {s:bg} (hP:1≤s.P) {X:Nat→Bool} {a:Nat} (ha:aj s.E a=true) (hx:X (br s.E a)=false) (q:Nat):
  iR s X q=iR s (fun j=>X j||decide (j=br s.E a)) q+(if q=a/s.P then 1 else 0):=by
 have hi:∀i,i≠a→(aj s.E i&& !(X (br s.E i)||decide (br s.E i=br s.E a)))=(aj s.E i&& !X (br s.E i)):=fun i hne=>by
  cases hl:aj s.E i with
  |false=>rfl
  |true=>
   rw [decide_eq_false (fun e=>hne (lE hl ha e)),Bool.or_false]
 unfold iR;by_cases e:q=a/s.P
 ·rw [if_pos e];have h1:q*s.P≤a:=by rw [e];exact Nat.div_mul_le_self a s.P
  have h2:a<q*s.P+s.P:=by
   have h3:=Nat.div_add_mod a s.P;have:=Nat.mod_lt a (show 0<s.P by omega);rw [←e,Nat.mul_comm] at h3;omega
  have h4:∀f:Nat→Bool,cnt f (q*s.P) (q*s.P+s.P)=cnt f (q*s.P) a+(if f a then 1 else 0)+cnt f (a+1) (q*s.P+s.P):=fun f=>by
   rw [aw f (show q*s.P≤a+1 by omega) (show a+1≤q*s.P+s.P by omega),aC f h1]
  rw [h4,h4,aJ (f:=fun a_1=>aj s.E a_1&& !(X (br s.E a_1)||decide (br s.E a_1=br s.E a))) (a:=q*s.P) (b:=a) (fun i _ h=>hi i (by omega)),aJ (f:=fun a_1=>aj s.E a_1&& !(X (br s.E a_1)||decide (br s.E a_1=br s.E a))) (a:=a+1) (b:=q*s.P+s.P) (fun i h _=>hi i (by omega))];simp [ha,hx];omega
 ·rw [if_neg e,Nat.add_zero];refine aJ (fun i h1 h2=>(hi i (fun e'=>e ?_)).symm);subst e';exact (eS (i:=i-q*s.P) hP (by omega) (by omega)).symm
structure xX (s:bg) (X tp mp:Nat→Bool) (fw:Nat→Option Nat):Prop where
 cnts:∀q,(fw q).getD 0=iR s X q
 pages:∀q,q<s.W/s.P→mp q=(eB s.P (aj s.E) X q||tp q)
 apart:∀a,aj s.E a=true→tp (a/s.P)=false
theorem xX.step {s:bg} {X tp mp mp':Nat→Bool} {fw:Nat→Option Nat} (hP:1≤s.P) (h:xX s X tp mp fw) {a:Nat} (ha:aj s.E a=true) (hx:X (br s.E a)=false)
  (hmp:∀q,mp' q=(mp q&& !(decide (iR s X (a/s.P)=1)&&q==a/s.P))):
  xX s (fun j=>X j||decide (j=br s.E a)) tp mp' (dg fw (a/s.P) (iR s X (a/s.P)-1)):=by
 refine ⟨fun q=> ?_,fun q hq=> ?_,h.apart⟩
 ·unfold dg;have:=nx hP ha hx q;by_cases e:q=a/s.P
  ·rw [if_pos e,Option.getD_some];rw [if_pos e] at this;rw [←e];omega
  ·rw [if_neg e,h.cnts];rw [if_neg e] at this;omega
 ·rw [hmp,h.pages q hq];have h1:=nx hP ha hx q;have i1:=iX hP X q;have i2:=iX hP (fun j=>X j||decide (j=br s.E a)) q;have hap:=h.apart a ha;by_cases e:q=a/s.P
  ·rw [if_pos e] at h1;subst e;rw [beq_self_eq_true,Bool.and_true,hap,Bool.or_false,Bool.or_false];have f1:eB s.P (aj s.E) X (a/s.P)=true:=i1.1 (by omega);rw [f1,Bool.true_and];by_cases e1:iR s X (a/s.P)=1
   ·rw [decide_eq_true e1,Bool.not_true];refine (Bool.eq_false_iff.2 (fun hf=> ?_)).symm;exact absurd (i2.2 hf) (by omega)
   ·rw [decide_eq_false e1,Bool.not_false];exact (i2.1 (by omega)).symm
  ·rw [if_neg e,Nat.add_zero] at h1;rw [beq_eq_false_iff_ne.2 e,Bool.and_false,Bool.not_false,Bool.and_true];congr 1
   rw [Bool.eq_iff_iff,←i1,←i2,h1]
section
variable {c:Cy} {s:bg} {hf hg:Nat→Nat} {Fs:Nat} {Sm Sm':Nat→Prop} {mp mp':Nat→Bool} {M M0:Nat→Nat} {Mv:List Bool} {fw fw':Nat→Option Nat} {n left fr ah:Nat} {w w' w0:World} {X tp:Nat→Bool}
def iz (c:Cy) (s:bg) (hf hg:Nat→Nat) (Fs:Nat) (Mv:List Bool) (n left fr ah:Nat) (M0:Nat→Nat) (tp:Nat→Bool) (Sm0:Nat→Prop) (w0:World) (X:Nat→Bool) (w:World):Prop:=
 ∃Us Hg Sm mp M fw,dL c s hf hg Fs Us Hg Sm mp M Mv fw n left fr ah w∧xX s X tp mp fw∧(∀b,b<s.W→mp (b/s.P)=true→M b=M0 b)∧Fr (fun k=>Sm0 k∨k=c.wb) w0 w∧∀k,Sm k→Sm0 k∨w0.heap.size≤k
theorem iz.Fh {Sm0:Nat→Prop} (h:iz c s hf hg Fs Mv n left fr ah M0 tp Sm0 w0 X w) (hf':Fr (fun _=>False) w w'):iz c s hf hg Fs Mv n left fr ah M0 tp Sm0 w0 X w':=by
 obtain ⟨Us,Hg,Sm,mp,M,fw,q1,q2,q3,q4,q5⟩:=h;exact ⟨Us,Hg,Sm,mp,M,fw,q1.Fh hf',q2,q3,q4.trans hf' (fun _ h=>h.elim),q5⟩
theorem iz.anchor {Sm0:Nat→Prop} (h:iz c s hf hg Fs Mv n left fr ah M0 tp Sm0 w0 X w):∃Sm1,iz c s hf hg Fs Mv n left fr ah M0 tp Sm1 w X w∧(∀X' w',iz c s hf hg Fs Mv n left fr ah M0 tp Sm1 w X' w'→iz c s hf hg Fs Mv n left fr ah M0 tp Sm0 w0 X' w')∧∀k,Sm1 k→k<w.heap.size:=by
 obtain ⟨Us,Hg,Sm,mp,M,fw,q1,q2,q3,q4,q5⟩:=h;have hz:=q4.size;refine ⟨Sm,⟨Us,Hg,Sm,mp,M,fw,q1,q2,q3,Fr.refl _ _,fun k hk=> .inl hk⟩,?_,q1.mem.lt⟩;rintro X' w' ⟨used1,high1,Sm1,mp1,M1,fw1,p1,p2,p3,p4,p5⟩;refine ⟨used1,high1,Sm1,mp1,M1,fw1,p1,p2,p3,q4.trans p4 (fun k hk=> ?_),fun k hk=> ?_⟩
 ·rcases hk with h|h
  ·rcases q5 k h with h|h
   ·exact .inl (.inl h)
   ·exact .inr h
  ·exact .inl (.inr h)
 ·rcases p5 k hk with h|h
  ·exact q5 k h
  ·exact .inr (by omega)
theorem iz.word {Sm0:Nat→Prop} (hP:1≤s.P) (hn:n<4611686018427387904) (h:iz c s hf hg Fs Mv n left fr ah M0 tp Sm0 w0 X w) {a:Nat} (ha:aj s.E a=true) (haW:a<s.W) (hWp:s.W% s.P=0) (hx:X (br s.E a)=false):
  ∃v,1≤v∧v≤s.P∧w.cell? ⟨c.y,0,none⟩=some (.pointer (some ⟨c.m,0,none⟩))∧w.cell? ⟨c.y,14,none⟩=some (.map (some c.wb))∧
   (Calls Tryz.prog 148 #[c.m] w fun e w'=>e= .returned (.int .i64 (s.P:Int))∧w=w')∧
   (Instr.lookup 33 (.map (some c.wb)) (.int .i64 ((a/s.P:Nat):Int)) false).run Tryz.prog w= .ok (.int .i64 v) w∧
   ∃w1,(Instr.mapUpdate 33 (.map (some c.wb)) (.int .i64 ((a/s.P:Nat):Int)) (.int .i64 ((v-1:Nat):Int))).run Tryz.prog w= .ok () w1∧
    w1.cell? ⟨c.y,0,none⟩=some (.pointer (some ⟨c.m,0,none⟩))∧w1.cell? ⟨c.y,14,none⟩=some (.map (some c.wb))∧
    (Instr.lookup 33 (.map (some c.wb)) (.int .i64 ((a/s.P:Nat):Int)) false).run Tryz.prog w1= .ok (.int .i64 ((v-1:Nat):Int)) w1∧
    (v≠1→iz c s hf hg Fs Mv n left fr ah M0 tp Sm0 w0 (fun j=>X j||decide (j=br s.E a)) w1)∧
    (v=1→Calls Tryz.prog 149 #[c.m,.int .i64 ((a/s.P:Nat):Int)] w1 fun e w2=>e= .returned (.int .i64 0)∧iz c s hf hg Fs Mv n left fr ah M0 tp Sm0 w0 (fun j=>X j||decide (j=br s.E a)) w2):=by
 obtain ⟨Us,Hg,Sm,mp,M,fw,q1,q2,q3,q4,q5⟩:=h;have hq:a/s.P<4611686018427387904:=by have:=Nat.div_le_self a s.P;have:=q1.mem.at.2.2.1;omega
 have hc:=q2.cnts (a/s.P);have hfr:eB s.P (aj s.E) X (a/s.P)=true:=(aH hP).2 ⟨a,rfl,by rw [Bool.and_eq_true,Bool.not_eq_true'];exact ⟨ha,hx⟩⟩;have hv1:iR s X (a/s.P)≠0:=(iX hP X _).2 hfr;have hv2:iR s X (a/s.P)≤s.P:=by unfold iR;have:=be (fun a=>aj s.E a&& !X (br s.E a)) (a/s.P*s.P) (a/s.P*s.P+s.P);omega
 have hP2:=q1.mem.at.2.1;have hqW:=dq haW hP hWp;have hsome:(fw (a/s.P)).isSome=true:=by
  cases hfw:fw (a/s.P) with
  |some x=>rfl
  |none=>rw [hfw] at hc;exact absurd hc.symm hv1
 have hl:=q1.wds.look (a/s.P) hq;rw [hc] at hl;obtain ⟨w1,r1,r2,r3⟩:=q1.wds.put (a/s.P) (iR s X (a/s.P)-1) hq (by omega) hn;rw [if_pos hsome] at r2;have k1:=q1.wb_ r2 r3;have hl1:=k1.wds.look (a/s.P) hq;have hu:(dg fw (a/s.P) (iR s X (a/s.P)-1) (a/s.P)).getD 0=iR s X (a/s.P)-1:=by unfold dg;rw [if_pos rfl];rfl
 rw [hu] at hl1;have f1:Fr (fun k=>Sm0 k∨k=c.wb) w0 w1:=q4.trans r3 (fun k hk=> .inl (.inr hk));have hz:=q4.size;refine ⟨iR s X (a/s.P),by omega,hv2,q1.blk.cell 0 rfl,q1.blk.cell 14 rfl,dv q1.mem,hl,w1,r1,k1.blk.cell 0 rfl,k1.blk.cell 14 rfl,hl1,fun hne=> ?_,fun he=> ?_⟩
 ·exact ⟨Us,Hg,Sm,mp,M,_,k1,q2.step hP ha hx (fun q=>by rw [decide_eq_false hne];simp),q3,f1,q5⟩
 ·have hmq:mp (a/s.P)=true:=by rw [q2.pages _ hqW,hfr];rfl
  refine (fD k1.mem (a/s.P) hqW hmq).mono ?_;rintro e w2 ⟨rfl,Sm',Hg',M',p1,p2,p3,p4⟩;refine ⟨rfl,Us-1,Hg',Sm',_,M',_,k1.mem_ p1 p3 p4,q2.step hP ha hx (fun q=>by rw [decide_eq_true he,Bool.true_and]),fun b hb hm=> ?_,f1.trans p3 (fun k hk=> ?_),fun k hk=> ?_⟩
  ·have hm1:mp (b/s.P)=true:=by rw [Bool.and_eq_true] at hm;exact hm.1
   rw [p2 b hb hm1 hm];exact q3 b hb hm1
  ·rcases q5 k hk with h1|h1
   ·exact .inl (.inl h1)
   ·exact .inr h1
  ·have:=r3.size;rcases p4 k hk with h1|h1
   ·exact q5 k h1
   ·exact .inr (by omega)
def tA (s:bg) (X:Nat→Bool) (F k:Nat):Nat→Bool:=fun j=>X j||decide (br s.E F≤j∧j<br s.E F+k)
theorem tC (X:Nat→Bool) (F:Nat):tA s X F 0=X:=by
 funext j;unfold tA;rw [decide_eq_false (by omega),Bool.or_false]
theorem tB (X:Nat→Bool) {F k:Nat} (hk:br s.E (F+k)=br s.E F+k):(fun j=>tA s X F k j||decide (j=br s.E (F+k)))=tA s X F (k+1):=by
 funext j;unfold tA;rw [Bool.or_assoc,hk,←Bool.decide_or];congr 1
 rw [decide_eq_decide];omega
theorem sr {Sm0:Nat→Prop} (hP:1≤s.P) (hn:n<4611686018427387904) (hWp:s.W% s.P=0) (h:iz c s hf hg Fs Mv n left fr ah M0 tp Sm0 w0 X w) (F t k:Nat) (hk:F+k≤s.W) (hl:∀i,i<k→aj s.E (F+i)=true∧br s.E (F+i)=br s.E F+i) (hx:∀i,i<k→X (br s.E F+i)=false):
  Calls Tryz.prog 199 #[c.y,.agg #[.int .i64 F,.int .i64 t,.int .i64 k]] w fun e w'=>e= .returned (.tuple #[])∧iz c s hf hg Fs Mv n left fr ah M0 tp Sm0 w0 (tA s X F k) w':=by
 have hW:s.W≤524288:=h.choose_spec.choose_spec.choose_spec.choose_spec.choose_spec.choose_spec.1.mem.at.2.2.1;have hP3:s.P≤256:=h.choose_spec.choose_spec.choose_spec.choose_spec.choose_spec.choose_spec.1.mem.at.2.1;obtain ⟨W1,hW1⟩:∃W1,w.alloc (.cells #[.int .i64 F,.int .i64 t,.int .i64 k] 286)=W1:=⟨_,rfl⟩;have hf1:Fr (fun _=>False) w W1:=by rw [←hW1];exact (Fr.refl _ w).alloc _
 have hb1:ak W1 w.heap.size [.int .i64 F,.int .i64 t,.int .i64 k] 286:=by rw [←hW1];exact ak.new w _ _
 obtain ⟨Sm1,a1,a2,a3⟩:∃Sm1,iz c s hf hg Fs Mv n left fr ah M0 tp Sm1 W1 X W1∧(∀X' w',iz c s hf hg Fs Mv n left fr ah M0 tp Sm1 W1 X' w'→iz c s hf hg Fs Mv n left fr ah M0 tp Sm0 w0 X' w')∧∀k,Sm1 k→k<w.heap.size:=by
  obtain ⟨S,⟨Us,Hg,Sm,mp,M,fw,q1,q2,q3,q4,q5⟩,b2,b3⟩:=h.anchor;refine ⟨S,⟨Us,Hg,Sm,mp,M,fw,q1.Fh hf1,q2,q3,Fr.refl _ _,fun k hk=> ?_⟩,fun X' w' hh=>b2 X' w' ?_,b3⟩
  ·rcases q5 k hk with h|h
   ·exact .inl h
   ·have:=q1.mem.lt k hk;omega
  ·obtain ⟨used1,high1,Sm1,mp1,M1,fw1,p1,p2,p3,p4,p5⟩:=hh;have:=hf1.size;exact ⟨used1,high1,Sm1,mp1,M1,fw1,p1,p2,p3,(hf1.mono (fun _ h=>h.elim)).trans p4 (fun _ h=> .inl h),fun k hk=>(p5 k hk).imp id (fun h=>by omega)⟩
 have hz1:W1.heap.size=w.heap.size+1:=by rw [←hW1];exact Array.size_push _
 have hq1:¬Sm1 w.heap.size∧w.heap.size≠c.wb:=by
  obtain ⟨Us,Hg,Sm,mp,M,fw,q1,_⟩:=id h;exact ⟨fun hs=>by have:=a3 _ hs;omega,fun e=>by have:=q1.wds.lt;omega⟩
 have HB:=ae (fun wr (X':Nat→Bool) (hr:iz c s hf hg Fs Mv n left fr ah M0 tp Sm1 W1 X' wr)=>(show ak wr w.heap.size [.int .i64 F,.int .i64 t,.int .i64 k] 286 from by
  obtain ⟨_,_,_,_,_,_,_,_,_,q4,_⟩:=hr;exact hb1.frame q4 (fun e=>by rcases e with e|e;exact hq1.1 e;exact hq1.2 e)))
 have HWD:=ae (fun (i:Nat) wr (hi:i<k) (hr:iz c s hf hg Fs Mv n left fr ah M0 tp Sm1 W1 (tA s X F i) wr)=>iz.word hP hn hr (a:=F+i) (hl i hi).1 (by omega) hWp (by unfold tA;rw [(hl i hi).2,hx i hi,decide_eq_false (by omega)];rfl));have HST:=ae (fun (i:Nat) (hi:i<k)=>tB (s:=s) X (hl i hi).2);have HE:=ae a2;have H0:=ae a1;have hd:∀i:Nat,i<k→((F:Int)+(i:Int)).tdiv (s.P:Int)=(((F+i)/s.P:Nat):Int):=fun i _=>by rw [show (F:Int)+(i:Int)=((F+i:Nat):Int) by omega,bV]
 have HD:=ae hd;have hkz:¬s.P=0:=by omega
 clear h a1 a2 a3 hf1 hb1 hl hx hz1 hq1 hd hWp hP;rw [←tC (s:=s) X F] at H0
 go_enter Tryz.func199,Tryz.ntmps199
 have k0:=(HB.out W1 _ H0.out).cell 0 rfl;go_wp2;clear hW1
 go_loopw [4] (fun x wr=>∃i:Nat,x= .int .i64 ((F:Int)+(i:Int))∧i≤k∧Hid (iz c s hf hg Fs Mv n left fr ah M0 tp Sm1 W1 (tA s X F i) wr)) (fun x _=>(F+k-intOf x).toNat)
 case atStart=>exact ⟨0,by simp,Nat.zero_le _,H0⟩
 case round=>
  clear H0 k0;obtain ⟨i,rfl,hi,hr⟩:=hrel;have hbq:=HB.out wr _ hr.out;have k0:=hbq.cell 0 rfl;have k2:=hbq.cell 2 rfl;by_cases hlt:i<k
  ·obtain ⟨v,v1,v2,c0,c14,hpg,hl,w1,hu,d0,d14,hl1,hA,hB⟩:=HWD.out i wr hlt hr.out;have HA:=ae hA;have HBB:=ae hB;have HPG:=ae hpg;have hdq:=HD.out i hlt;have hs1:=HST.out i hlt;rw [hs1] at HA HBB;have hvi:(v:Int)-1=((v-1:Nat):Int):=by omega
   have hvw:IntKind.i64.wrap ((v:Int)-1)=((v-1:Nat):Int):=by rw [IntKind.wrap_i64];omega
   clear hA hB hpg hs1 hr HWD HE HD HST;have hqb:(F+i)/s.P≤524288:=Nat.le_trans (Nat.div_le_self _ _) (by omega);generalize (F+i)/s.P=q at*;have hq2:(q:Int)≤524288:=by omega
   have c1:(F:Int)+(i:Int)<(F:Int)+(k:Int):=by omega
   go_wp2_with fail
   refine (HPG.out).mono ?_;rintro e w' ⟨rfl,rfl⟩;clear HPG;by_cases hv1:v=1
   ·subst hv1;have HB2:=ae (HBB.out rfl);rw [show ((1:Nat):Int)=1 from rfl] at hl;rw [show ((1-1:Nat):Int)=0 from rfl] at hu hl1;clear hvi hvw;clear HA HBB;go_wp2_with fail
    refine (HB2.out).mono ?_;rintro e w2 ⟨rfl,hn2⟩;have HN2:=ae hn2;clear hn2 HB2 hu hl hl1 c0 c14 d0 d14;go_wp2;go_roundw
    case rel=>exact ⟨i+1,by push_cast;rw [Int.add_assoc],by omega,HN2⟩
    case measure=>simp [intOf];omega
   ·have HA2:=ae (HA.out hv1);have hv0:¬(((v-1:Nat):Int)=0):=by omega
    clear HA HBB;generalize v-1=v' at*;go_wp2;go_roundw
    case rel=>exact ⟨i+1,by push_cast;rw [Int.add_assoc],by omega,HA2⟩
    case measure=>simp [intOf];omega
  ·have hik:i=k:=by omega
   subst hik;have HE2:=ae (HE.out _ _ hr.out);have c1:¬(F:Int)+(i:Int)<(F:Int)+(i:Int):=by omega
   clear hr HE HWD HST HD hlt;go_wp2;go_end0;exact ⟨rfl,HE2.out⟩
end
def ke (s:bg) (M:Nat→Nat) (F t n:Nat):Nat→Nat:=fun x=>if t≤x∧x<t+n then gT s.E s.hp M s.F (F+(x-t)) else M x
theorem tx (s:bg) (M:Nat→Nat) (F t:Nat):ke s M F t 0=M:=by
 funext x;unfold ke;rw [if_neg (by omega)]
theorem tv (s:bg) (M:Nat→Nat) (F t n:Nat):bG (ke s M F t n) (t+n) (gT s.E s.hp M s.F (F+n))=ke s M F t (n+1):=by
 funext x;show (if x=t+n then gT s.E s.hp M s.F (F+n) else if t≤x∧x<t+n then gT s.E s.hp M s.F (F+(x-t)) else M x)=if t≤x∧x<t+(n+1) then gT s.E s.hp M s.F (F+(x-t)) else M x
 by_cases h:x=t+n
 ·subst h;rw [if_pos rfl,if_pos (by omega),show t+n-t=n by omega]
 ·rw [if_neg h];by_cases h3:t≤x∧x<t+n
  ·rw [if_pos h3,if_pos (by omega)]
  ·rw [if_neg h3,if_neg (by omega)]
structure yF (c:Cy) (s:bg) (hf hg:Nat→Nat) (mp:Nat→Bool) (M:Nat→Nat) (F t n:Nat):Prop where
 ap:cX s.E
 Fw:F+n≤s.W
 tw:t+n≤s.W
 live:∀i,i<n→aj s.E (F+i)=true
 off:∀i j,i<n→j<n→t+i≠F+j
 mpF:∀i,i<n→mp ((F+i)/s.P)=true
 mpt:∀i,i<n→mp ((t+i)/s.P)=true
 ptr:∀i,i<n→1≤F+i-aT s.E (F+i)→F+i-aT s.E (F+i)≤s.hp (aT s.E (F+i))→M (F+i)≠0→aj s.E (M (F+i))=true∧M (F+i)<s.W
 big:∀i,i<n→M (F+i)<18446744073709551616
 hd:∀a,s.E a≠0→bw (s.hp a) (hf a) (hg a)
 toB:c.to_≤1048576
section
variable {c:Cy} {s:bg} {hf hg:Nat→Nat} {Fs Us Hg:Nat} {Sm:Nat→Prop} {mp:Nat→Bool} {M:Nat→Nat} {Mv:List Bool} {fw:Nat→Option Nat} {n left fr ah:Nat} {w w' w0:World}
theorem yF.Ah {F t k i:Nat} (h:yF c s hf hg mp M F t k) {j:Nat} (hj:j<k):ke s M F t i (F+j)=M (F+j)∨k<i:=by
 by_cases hi:k<i
 ·exact .inr hi
 ·left;unfold ke;rw [if_neg (fun hh=>h.off (F+j-t) j (by omega) hj (by omega))]
theorem xV {s:bg} {M:Nat→Nat} {a:Nat} (hb:M a<18446744073709551616) (hto:s.to_≤1048576) (hl:aj s.E a=true) (hp:1≤a-aT s.E a→a-aT s.E a≤s.hp (aT s.E a)→M a≠0→aj s.E (M a)=true∧M a<s.W) (hW:s.W≤1048576):gT s.E s.hp M s.F a<18446744073709551616:=by
 have h1:=bX hl;unfold gT gB;rw [show aT s.E a+(a-aT s.E a)=a by omega];split
 ·next hc=>
  have h2:=(hp hc.1 hc.2.1 hc.2.2).2;have h3:=bW (aj s.E) (M a);show s.to_+cnt (aj s.E) 0 (M a)<_
  omega
 ·exact hb
def qM (c:Cy) (s:bg) (hf hg:Nat→Nat) (Fs Us Hg:Nat) (Sm:Nat→Prop) (mp:Nat→Bool) (Mv:List Bool) (fw:Nat→Option Nat) (n left fr ah:Nat) (w0:World) (M:Nat→Nat) (q:Nat) (h3:Nat×Nat×Nat) (q0:Nat) (pc:List Value) (w:World):Prop:=
 dL c s hf hg Fs Us Hg Sm mp M Mv fw n left fr ah w∧Fr (fun k=>Sm k∨w0.heap.size≤k) w0 w∧ak w q [.int .i64 (h3.1:Int),.int .i64 (h3.2.1:Int),.int .i64 (h3.2.2:Int)] 31∧ak w q0 pc 286
theorem qM.Fh {M:Nat→Nat} {q q0:Nat} {h3:Nat×Nat×Nat} {pc:List Value} (h:qM c s hf hg Fs Us Hg Sm mp Mv fw n left fr ah w0 M q h3 q0 pc w) (hf':Fr (fun _=>False) w w'):qM c s hf hg Fs Us Hg Sm mp Mv fw n left fr ah w0 M q h3 q0 pc w':=
 ⟨h.1.Fh hf',h.2.1.trans hf' (fun _ h=>h.elim),h.2.2.1.frame hf' (fun h=>h),h.2.2.2.frame hf' (fun h=>h)⟩
theorem mE (h:dL c s hf hg Fs Us Hg Sm mp M Mv fw n left fr ah w) (a x:Nat) (ha:a<s.W) (hm:mp (a/s.P)=true) (hx:x<18446744073709551616):Calls Tryz.prog 224 #[c.m,.int .i64 a,.int .u64 x] w fun e w'=>e= .returned (.int .i64 0)∧dL c s hf hg Fs Us Hg Sm mp (bG M a x) Mv fw n left fr ah w'∧Fr Sm w w':=
 (io h.mem a x ha hm hx).mono (fun _ _ ⟨h1,h2,h3⟩=>⟨h1,h.mem_ h2 h3 (fun _ h=> .inl h),h3⟩)
theorem qi (h:dL c s hf hg Fs Us Hg Sm mp M Mv fw n left fr ah w) (hap:cX s.E) (a:Nat) (ha:a<s.W) (hl:aj s.E a=true):Calls Tryz.prog 243 #[c.EL.m,.int .i64 a] w fun e w'=>e= .returned (.tuple #[.int .i64 ((aT s.E a:Nat):Int),.int .i64 ((s.E (aT s.E a):Nat):Int),.bool true])∧w=w':=by
 have hW:=h.mem.at.2.2.1;refine (ee h.ext h.tab a (by omega)).mono ?_;rintro e w' ⟨hh,rfl⟩;have ho:=bX hl;refine ⟨?_,rfl⟩;rcases hh with ⟨s',n',q1,q2,q3,rfl⟩|⟨q1,_⟩
 ·subst q2;rw [lK hap q1 q3]
 ·have:=q1 _ ho.1;omega
theorem uQ (h:dL c s hf hg Fs Us Hg Sm mp M Mv fw n left fr ah w) (F t k:Nat) (hc:yF c s hf hg mp M F t k):
  Calls Tryz.prog 198 #[c.y,.agg #[.int .i64 F,.int .i64 t,.int .i64 k]] w fun e w'=>e= .returned (.tuple #[])∧dL c s hf hg Fs Us Hg Sm mp (ke s M F t k) Mv fw n left fr ah w'∧Fr Sm w w':=by
 have hW:=h.mem.at.2.2.1;have hP:=h.mem.at.1;have HS3:Hid ((Tryz.prog.info? 31).map (·.size)=some 3):=by show _=_;kernel_rfl
 obtain ⟨W1,hW1⟩:∃W1,w.alloc (.cells #[.int .i64 F,.int .i64 t,.int .i64 k] 286)=W1:=⟨_,rfl⟩;have hf1:Fr (fun _=>False) w W1:=by rw [←hW1];exact (Fr.refl _ w).alloc _
 have hb1:ak W1 w.heap.size [.int .i64 F,.int .i64 t,.int .i64 k] 286:=by rw [←hW1];exact ak.new w _ _
 have hz1:W1.heap.size=w.heap.size+1:=by rw [←hW1];exact Array.size_push _
 obtain ⟨W2,hW2⟩:∃W2,W1.alloc (.cells #[.int .i64 0,.int .i64 0,.int .i64 0] 31)=W2:=⟨_,rfl⟩;have hf2:Fr (fun _=>False) W1 W2:=by rw [←hW2];exact (Fr.refl _ W1).alloc _
 have hb2:ak W2 (w.heap.size+1) [.int .i64 0,.int .i64 0,.int .i64 0] 31:=by rw [←hW2,←hz1];exact ak.new W1 _ _
 have hf12:=hf1.trans hf2 (fun _ h=>h.elim);have h0:qM c s hf hg Fs Us Hg Sm mp Mv fw n left fr ah w (ke s M F t 0) (w.heap.size+1) (0,0,0) w.heap.size [.int .i64 F,.int .i64 t,.int .i64 k] W2:=by
  rw [tx];exact ⟨h.Fh hf12,hf12.mono (fun _ h=>h.elim),hb2,hb1.frame hf2 (fun h=>h)⟩
 have H0:=ae h0;have HW2:=ae hW2;have hlt0:=h.lt;have hSlt:=h.mem.lt;have hold:∀i,i<k→ke s M F t i (F+i)=M (F+i):=fun i hi=>(hc.Ah (i:=i) hi).resolve_right (by omega)
 have HWO:=ae (fun (i:Nat) (h3:Nat×Nat×Nat) wr (hi:i<k) (hr:qM c s hf hg Fs Us Hg Sm mp Mv fw n left fr ah w (ke s M F t i) (w.heap.size+1) h3 w.heap.size [.int .i64 F,.int .i64 t,.int .i64 k] wr) st (e1:aT s.E (F+i)=st) (e2:h3=(s.hp st,hf st,hg st))=>
  (show Calls Tryz.prog 244 #[c.y,.int .i64 ((F:Int)+(i:Int)),.int .i64 st,bP (h3.1:Int) (h3.2.1:Int) (h3.2.2:Int)] wr (qU wr (gT s.E s.hp M s.F (F+i))) from by
   subst e1;have hl:=hc.live i hi;have ho:=bX hl;have hm:=hold i hi;have hw:=nQ hr.1.blk hr.1.plan hc.toB hr.1.mem (F+i) (aT s.E (F+i)) (s.hp (aT s.E (F+i))) (hf (aT s.E (F+i))) (hg (aT s.E (F+i))) ho.1 (by have:=hc.Fw;omega) (hc.mpF i hi) (hc.hd _ (by omega)) (fun q1 q2 q3=>by rw [hm] at q3 ⊢;exact hc.ptr i hi q1 q2 q3) (by rw [hm];exact hc.big i hi);have hg:gB (ke s M F t i) (goes s.E c.to_) (aT s.E (F+i)) (s.hp (aT s.E (F+i))) (F+i-aT s.E (F+i))=gT s.E s.hp M s.F (F+i):=by
    have:=dw (hp:=s.hp) (F:=s.F) hl hm;rw [←this];unfold gT bg.F;rw [hr.1.to_]
   rw [hg] at hw;rw [e2,show (F:Int)+(i:Int)=((F+i:Nat):Int) by push_cast;rfl];exact hw))
 have HST:=ae (fun (i:Nat) (h3:Nat×Nat×Nat) wr (hi:i<k) (hr:qM c s hf hg Fs Us Hg Sm mp Mv fw n left fr ah w (ke s M F t i) (w.heap.size+1) h3 w.heap.size [.int .i64 F,.int .i64 t,.int .i64 k] wr)=>
  (show Calls Tryz.prog 224 #[c.m,.int .i64 ((t:Int)+(i:Int)),.int .u64 ((gT s.E s.hp M s.F (F+i):Nat):Int)] wr fun e w'=>e= .returned (.int .i64 0)∧qM c s hf hg Fs Us Hg Sm mp Mv fw n left fr ah w (ke s M F t (i+1)) (w.heap.size+1) h3 w.heap.size [.int .i64 F,.int .i64 t,.int .i64 k] w' from by
   rw [show (t:Int)+(i:Int)=((t+i:Nat):Int) by push_cast;rfl];refine (mE hr.1 (t+i) _ (by have:=hc.tw;omega) (hc.mpt i hi) (xV (hc.big i hi) (by have:=hc.toB;have:=h.to_;omega) (hc.live i hi) (hc.ptr i hi) (by omega))).mono ?_;rintro e w' ⟨rfl,q1,q2⟩;rw [tv] at q1;exact ⟨rfl,q1,hr.2.1.trans q2 (fun k hk=> .inl (.inl hk)),hr.2.2.1.frame q2 (fun hs=>by have:=hSlt _ hs;omega),hr.2.2.2.frame q2 (fun hs=>by have:=hSlt _ hs;omega)⟩))
 have HFD:=ae (fun (i:Nat) (h3:Nat×Nat×Nat) wr (hi:i<k) (hr:qM c s hf hg Fs Us Hg Sm mp Mv fw n left fr ah w (ke s M F t i) (w.heap.size+1) h3 w.heap.size [.int .i64 F,.int .i64 t,.int .i64 k] wr)=>
  (show Calls Tryz.prog 243 #[c.EL.m,.int .i64 ((F:Int)+(i:Int))] wr fun e w'=>e= .returned (.tuple #[.int .i64 ((aT s.E (F+i):Nat):Int),.int .i64 ((s.E (aT s.E (F+i)):Nat):Int),.bool true])∧wr=w' from by
   rw [show (F:Int)+(i:Int)=((F+i:Nat):Int) by push_cast;rfl];exact qi hr.1 hc.ap (F+i) (by have:=hc.Fw;omega) (hc.live i hi)))
 have HSH:=ae (fun (i:Nat) (h3:Nat×Nat×Nat) wr (hi:i<k) (hr:qM c s hf hg Fs Us Hg Sm mp Mv fw n left fr ah w (ke s M F t i) (w.heap.size+1) h3 w.heap.size [.int .i64 F,.int .i64 t,.int .i64 k] wr)=>
  (show (Instr.lookup 208 (.map (some c.sb)) (.int .i64 ((aT s.E (F+i):Nat):Int)) false).run Tryz.prog wr= .ok (bP (s.hp (aT s.E (F+i)):Nat) (hf (aT s.E (F+i)):Nat) (hg (aT s.E (F+i)):Nat)) wr∧wr.there (w.heap.size+1) 0 3∧∀W,W=wr.setCells (w.heap.size+1) 0 [.int .i64 (s.hp (aT s.E (F+i)):Nat),.int .i64 (hf (aT s.E (F+i)):Nat),.int .i64 (hg (aT s.E (F+i)):Nat)]→qM c s hf hg Fs Us Hg Sm mp Mv fw n left fr ah w (ke s M F t i) (w.heap.size+1) (s.hp (aT s.E (F+i)),hf (aT s.E (F+i)),hg (aT s.E (F+i))) w.heap.size [.int .i64 F,.int .i64 t,.int .i64 k] W from by
   obtain ⟨ns,f,q1,q2⟩:=hr.1.shp;have ho:=bX (hc.live i hi);have hl:=q1.look (aT s.E (F+i)) (by have:=hc.Fw;omega);rw [q2 _ (by omega)] at hl;have hr3:=hr.2.2.1;refine ⟨hl,fun j hj=> ?_,?_⟩
   ·match j,hj with
    |0,_=>exact ⟨by rw [hr3.cell 0 rfl];rfl,hr3.free 0⟩
    |1,_=>exact ⟨by rw [hr3.cell 1 rfl];rfl,hr3.free 1⟩
    |2,_=>exact ⟨by rw [hr3.cell 2 rfl];rfl,hr3.free 2⟩
   ·rintro W rfl;have hfs:Fr (fun k=>k=w.heap.size+1) wr (wr.setCells (w.heap.size+1) 0 [.int .i64 (s.hp (aT s.E (F+i)):Nat),.int .i64 (hf (aT s.E (F+i)):Nat),.int .i64 (hg (aT s.E (F+i)):Nat)]):=
     (((Fr.refl (fun k=>k=w.heap.size+1) wr).setCell ⟨w.heap.size+1,0,none⟩ (.inl rfl) _).setCell ⟨w.heap.size+1,1,none⟩ (.inl rfl) _).setCell ⟨w.heap.size+1,2,none⟩ (.inl rfl) _
    exact ⟨hr.1.frame hfs (fun k hk e=>by have:=hlt0 k hk;omega) (fun k hk e=>by have:=hSlt k hk;omega) (fun e=>by have:=h.tabl;omega),hr.2.1.trans hfs (fun k hk=> .inl (.inr (by omega))),((hr3.set 0 _).set 1 _).set 2 _,hr.2.2.2.frame hfs (by omega)⟩))
 have HPC:=ae (fun (i:Nat) (h3:Nat×Nat×Nat) wr (hr:qM c s hf hg Fs Us Hg Sm mp Mv fw n left fr ah w (ke s M F t i) (w.heap.size+1) h3 w.heap.size [.int .i64 F,.int .i64 t,.int .i64 k] wr)=>af (hr.1.blk.cell 0 rfl) (af (hr.1.blk.cell 9 rfl) (af (hr.1.blk.cell 15 rfl) (af (hr.2.2.2.cell 0 rfl) (af (hr.2.2.2.cell 1 rfl) (hr.2.2.2.cell 2 rfl))))));have HOW:=ae (fun (i st sz:Nat) (h3:Nat×Nat×Nat) (hi:i<k) (e1:aT s.E (F+i)=st) (e3:sz=s.E st) (e2:h3=(s.hp st,hf st,hg st)) (hh:F+(i+1)<st+sz)=>
  (show aT s.E (F+(i+1))=st∧sz=s.E st∧h3=(s.hp st,hf st,hg st) from by
   have ho:=bX (hc.live i hi);refine ⟨lK hc.ap (by omega) (by omega),e3,e2⟩))
 have HOS:=ae (fun (i:Nat) (hi:i<k)=>(show aT s.E (F+i)+s.E (aT s.E (F+i))≤1048576 from by
  have ho:=bX (hc.live i hi);have:=h.ext.top (aT s.E (F+i)) (by omega);omega))
 have HEN:=ae (fun h3 wr (hr:qM c s hf hg Fs Us Hg Sm mp Mv fw n left fr ah w (ke s M F t k) (w.heap.size+1) h3 w.heap.size [.int .i64 F,.int .i64 t,.int .i64 k] wr)=>af hr.1 (hr.2.1.mono (S':=Sm) (fun k hk=>hk)));have HON:=ae (fun i=>uq (s.hp (aT s.E (F+i)):Nat) (hf (aT s.E (F+i)):Nat) (hg (aT s.E (F+i)):Nat));have hFw:=hc.Fw;have htw:=hc.tw;clear hW2 h hc h0 hb1 hb2 hf1 hf2 hf12 hold hlt0 hSlt hP
 go_enter Tryz.func198,Tryz.ntmps198
 go_upto_region 2 with fail
 rw [HW2.out];clear hW1 HW2 hz1;obtain ⟨k0,k1,k2,k3,k4,k5⟩:=HPC.out 0 (0,0,0) W2 H0.out;go_wp2;clear k0 k1 k2 k3 k4 k5
 go_loopw [4,5,12] (fun x4 x5 x12 wr=>∃(i st sz:Nat) (h3:Nat×Nat×Nat),x4= .int .i64 st∧x5= .int .i64 sz∧x12= .int .i64 i∧i≤k∧(F+i<st+sz→aT s.E (F+i)=st∧sz=s.E st∧h3=(s.hp st,hf st,hg st))∧st+sz≤1048576∧Hid (qM c s hf hg Fs Us Hg Sm mp Mv fw n left fr ah w (ke s M F t i) (w.heap.size+1) h3 w.heap.size [.int .i64 F,.int .i64 t,.int .i64 k] wr)) (fun _ _ x12 _=>(k-intOf x12).toNat)
 case atStart=>exact ⟨0,0,0,(0,0,0),rfl,rfl,rfl,Nat.zero_le _,fun hh=>by omega,by omega,H0⟩
 case round=>
  clear H0;obtain ⟨i,st,sz,h3,rfl,rfl,rfl,hi,hsc,hss,hr⟩:=hrel;obtain ⟨k0,k1,k2,k3,k4,k5⟩:=HPC.out i h3 wr hr.out;by_cases hlt:i<k
  ·have c1:(i:Int)<(k:Int):=by omega
   by_cases hin:F+i<st+sz
   ·obtain ⟨e1,e3,e2⟩:=hsc hin;obtain ⟨a3,b3,d3⟩:=h3;have c2:(F:Int)+(i:Int)<(st:Int)+(sz:Int):=by omega
    obtain ⟨wq,hwq⟩:∃wq,wq=wr:=⟨_,rfl⟩;rw [←hwq] at hr k0 k1 k2 k3 k4 k5 ⊢;clear hwq;have HFS:=ae (fun w' (hw:Fr (fun _=>False) wq w')=>(let hh:=hr.out.Fh hw;af (hh.1.blk.cell 0 rfl) (af (hh.2.2.2.cell 0 rfl) (af (hh.2.2.2.cell 1 rfl) (hh.2.2.2.cell 2 rfl)))));have HRW:=ae (fun w' (hw:Fr (fun _=>False) wq w')=>(hr.out.Fh hw).2.2.1);have HWD:=ae (fun w' (hw:Fr (fun _=>False) wq w')=>HWO.out i (a3,b3,d3) w' hlt (hr.out.Fh hw) st e1 e2);have HSO:=ae (fun w' (hw:Fr (fun _=>False) wq w')=>HST.out i (a3,b3,d3) w' hlt (hr.out.Fh hw));have HNX:Hid (F+(i+1)<st+sz→aT s.E (F+(i+1))=st∧sz=s.E st∧(a3,b3,d3)=(s.hp st,hf st,hg st)):=ae (fun hh=>HOW.out i st sz (a3,b3,d3) hlt e1 e3 e2 hh);obtain ⟨Z,hZ⟩:∃Z,Z=gT s.E s.hp M s.F (F+i):=⟨_,rfl⟩;rw [←hZ] at HWD HSO;unfold qU bP at HWD;clear hZ;clear hr hsc HWO HST HFD HSH HPC HOW HOS HEN HON hin e1 e2 e3;go_wp2;refine aB (fun w'=>Fr (fun _=>False) wq w') 13 (by kernel_rfl) (by kernel_rfl) ((Fr.refl _ wq).drew) ?_;simp only [List.take_succ_cons,List.take_zero,List.drop_succ_cons,List.drop_zero];refine ag (.pointer (some ⟨c.y,0,none⟩)) rfl (fun w' hw=>by go_simp) ?_;simp only [Act.put,aa,ab,ac];refine ag (.pointer (some ⟨c.y,0,none⟩)) rfl (fun w' hw=>by go_simp) ?_;simp only [Act.put,aa,ab,ac];refine ag (.pointer (some ⟨c.y,0,none⟩)) rfl (fun w' hw=>by go_simp) ?_;simp only [Act.put,aa,ab,ac];refine ag (.pointer (some ⟨c.m,0,none⟩)) rfl (fun w' hw=>by obtain ⟨k1,k2,k3,k4⟩:=HFS.out w' hw;go_simp) ?_;simp only [Act.put,aa,ab,ac];refine ag (.pointer (some ⟨w.heap.size,1,none⟩)) rfl (fun w' hw=>by go_simp) ?_;simp only [Act.put,aa,ab,ac];refine ag (.int .i64 t) rfl (fun w' hw=>by obtain ⟨k1,k2,k3,k4⟩:=HFS.out w' hw;go_simp) ?_;simp only [Act.put,aa,ab,ac];refine ag (.int .i64 i) rfl (fun w' hw=>by go_simp) ?_;simp only [Act.put,aa,ab,ac];refine ag (.int .i64 ((t:Int)+(i:Int))) rfl (fun w' hw=>by go_simp;rw [IntKind.wrap_i64];omega) ?_;simp only [Act.put,aa,ab,ac];refine ag (.pointer (some ⟨c.y,0,none⟩)) rfl (fun w' hw=>by go_simp) ?_;simp only [Act.put,aa,ab,ac];refine ag (.int .i64 ((F:Int)+(i:Int))) rfl (fun w' hw=>by go_simp) ?_;simp only [Act.put,aa,ab,ac];refine ag (.int .i64 st) rfl (fun w' hw=>by go_simp) ?_;simp only [Act.put,aa,ab,ac];refine ag (.agg #[.int .i64 a3,.int .i64 b3,.int .i64 d3]) rfl (fun w' hw=>du rfl (w.heap.size+1) rfl 31 _ (0,0) _ (HRW.out w' hw) Tryz.underlying31 rfl HS3.out) ?_;simp only [Act.put,aa,ab,ac];refine aA (.int .u64 Z) 244 #[.pointer (some ⟨c.y,0,none⟩),.int .i64 ((F:Int)+(i:Int)),.int .i64 st,.agg #[.int .i64 a3,.int .i64 b3,.int .i64 d3]] rfl (fun w'=>by go_simp) (fun w' hw=>(HWD.out w' hw).mono fun e w2 h=>⟨h.1,hw.trans h.2 (fun _ h=>h.elim)⟩) ?_;simp only [Act.put,aa,ab,ac];refine wpQuiet_nil ?_;intro w5 hw5;have HS5:=ae (HSO.out w5 hw5);clear HFS HRW HWD HSO hw5;go_wp2_with fail
    refine (HS5.out).mono ?_;rintro e w6 ⟨rfl,h6⟩;have H6:=ae h6;clear h6 HS5;go_wp2;go_roundw
    case rel=>exact ⟨i+1,st,sz,(a3,b3,d3),rfl,rfl,by go_num,by omega,HNX.out,hss,H6⟩
    case measure=>simp [intOf];omega
   ·have c2:¬(F:Int)+(i:Int)<(st:Int)+(sz:Int):=by omega
    have HFD2:=ae (HFD.out i h3 wr hlt hr.out);obtain ⟨hl,hth,hW3⟩:=HSH.out i h3 wr hlt hr.out;have HTH:=ae hth;have HW3:=ae hW3;have hss2:=HOS.out i hlt;have HON2:=ae (HON.out i);have HX:=ae (show∃st sz,aT s.E (F+i)=st∧sz=s.E st from ⟨_,_,rfl,rfl⟩);have e1:aT s.E (F+i)=aT s.E (F+i):=rfl;clear hr hsc HFD HSH HPC HOS HEN HON hin hth hW3 hss e1;generalize hst:aT s.E (F+i)=st' at*;generalize hsz:s.E st'=sz' at*;generalize ha3:s.hp st'=a3 at*;generalize hb3:hf st'=b3 at*;generalize nW:hg st'=d3 at*;have HGEN:=ae (af hst (af hsz (af ha3 (af hb3 nW))));clear hst hsz ha3 hb3 nW HX;unfold bP at hl;go_wp2_with fail
    refine (HFD2.out).mono ?_;rintro e w' ⟨rfl,rfl⟩;clear HFD2 k1 k3 k4 k5 c2;go_wp2_with (refine wpList_store_mid rfl 31 _ _ rfl (w.heap.size+1) 0 #[.int .i64 a3,.int .i64 b3,.int .i64 d3] rfl rfl HTH.out HS3.out HON2.out ?_)
    have hq:=HW3.out _ rfl;have e1:=HGEN.out.1;have e3:=HGEN.out.2.1.symm;have e2:(a3,b3,d3)=(s.hp st',hf st',hg st'):=by rw [HGEN.out.2.2.1,HGEN.out.2.2.2.1,HGEN.out.2.2.2.2]
    clear hl HTH HW3 HON2 k0 k2 HGEN;generalize wr.setCells (w.heap.size+1) 0 [.int .i64 a3,.int .i64 b3,.int .i64 d3]=wq at*;have HFS:=ae (fun w' (hw:Fr (fun _=>False) wq w')=>(let hh:=hq.Fh hw;af (hh.1.blk.cell 0 rfl) (af (hh.2.2.2.cell 0 rfl) (af (hh.2.2.2.cell 1 rfl) (hh.2.2.2.cell 2 rfl)))));have HRW:=ae (fun w' (hw:Fr (fun _=>False) wq w')=>(hq.Fh hw).2.2.1);have HWD:=ae (fun w' (hw:Fr (fun _=>False) wq w')=>HWO.out i (a3,b3,d3) w' hlt (hq.Fh hw) st' e1 e2);have HSO:=ae (fun w' (hw:Fr (fun _=>False) wq w')=>HST.out i (a3,b3,d3) w' hlt (hq.Fh hw));have HNX:Hid (F+(i+1)<st'+sz'→aT s.E (F+(i+1))=st'∧sz'=s.E st'∧(a3,b3,d3)=(s.hp st',hf st',hg st')):=ae (fun hh=>HOW.out i st' sz' (a3,b3,d3) hlt e1 e3 e2 hh);obtain ⟨Z,hZ⟩:∃Z,Z=gT s.E s.hp M s.F (F+i):=⟨_,rfl⟩;rw [←hZ] at HWD HSO;unfold qU bP at HWD;clear hZ;clear hq HWO HST HOW e1 e2 e3;go_wp2;refine aB (fun w'=>Fr (fun _=>False) wq w') 13 (by kernel_rfl) (by kernel_rfl) ((Fr.refl _ wq).drew) ?_;simp only [List.take_succ_cons,List.take_zero,List.drop_succ_cons,List.drop_zero];refine ag (.pointer (some ⟨c.y,0,none⟩)) rfl (fun w' hw=>by go_simp) ?_;simp only [Act.put,aa,ab,ac];refine ag (.pointer (some ⟨c.y,0,none⟩)) rfl (fun w' hw=>by go_simp) ?_;simp only [Act.put,aa,ab,ac];refine ag (.pointer (some ⟨c.y,0,none⟩)) rfl (fun w' hw=>by go_simp) ?_;simp only [Act.put,aa,ab,ac];refine ag (.pointer (some ⟨c.m,0,none⟩)) rfl (fun w' hw=>by obtain ⟨k1,k2,k3,k4⟩:=HFS.out w' hw;go_simp) ?_;simp only [Act.put,aa,ab,ac];refine ag (.pointer (some ⟨w.heap.size,1,none⟩)) rfl (fun w' hw=>by go_simp) ?_;simp only [Act.put,aa,ab,ac];refine ag (.int .i64 t) rfl (fun w' hw=>by obtain ⟨k1,k2,k3,k4⟩:=HFS.out w' hw;go_simp) ?_;simp only [Act.put,aa,ab,ac];refine ag (.int .i64 i) rfl (fun w' hw=>by go_simp) ?_;simp only [Act.put,aa,ab,ac];refine ag (.int .i64 ((t:Int)+(i:Int))) rfl (fun w' hw=>by go_simp;rw [IntKind.wrap_i64];omega) ?_;simp only [Act.put,aa,ab,ac];refine ag (.pointer (some ⟨c.y,0,none⟩)) rfl (fun w' hw=>by go_simp) ?_;simp only [Act.put,aa,ab,ac];refine ag (.int .i64 ((F:Int)+(i:Int))) rfl (fun w' hw=>by go_simp) ?_;simp only [Act.put,aa,ab,ac];refine ag (.int .i64 (st':Int)) rfl (fun w' hw=>by go_simp) ?_;simp only [Act.put,aa,ab,ac];refine ag (.agg #[.int .i64 a3,.int .i64 b3,.int .i64 d3]) rfl (fun w' hw=>du rfl (w.heap.size+1) rfl 31 _ (0,0) _ (HRW.out w' hw) Tryz.underlying31 rfl HS3.out) ?_;simp only [Act.put,aa,ab,ac];refine aA (.int .u64 Z) 244 #[.pointer (some ⟨c.y,0,none⟩),.int .i64 ((F:Int)+(i:Int)),.int .i64 (st':Int),.agg #[.int .i64 a3,.int .i64 b3,.int .i64 d3]] rfl (fun w'=>by go_simp) (fun w' hw=>(HWD.out w' hw).mono fun e w2 h=>⟨h.1,hw.trans h.2 (fun _ h=>h.elim)⟩) ?_;simp only [Act.put,aa,ab,ac];refine wpQuiet_nil ?_;intro w5 hw5;have HS5:=ae (HSO.out w5 hw5);clear HFS HRW HWD HSO hw5;go_wp2_with fail
    refine (HS5.out).mono ?_;rintro e w6 ⟨rfl,h6⟩;have H6:=ae h6;clear h6 HS5;go_wp2;go_roundw
    case rel=>exact ⟨i+1,st',sz',(a3,b3,d3),rfl,rfl,by go_num,by omega,HNX.out,hss2,H6⟩
    case measure=>simp [intOf];omega
  ·have hik:i=k:=by omega
   subst hik;obtain ⟨z1,z2⟩:=HEN.out h3 wr hr.out;have HZ:=ae (af z1 z2);clear hr z1 z2 HEN HWO HST HFD HSH HPC HOW HOS HON hlt hsc;go_wp2;go_end0;exact ⟨rfl,HZ.out⟩
end
end Go.Proofs.YthahbijbpinneaaGreatDoor
