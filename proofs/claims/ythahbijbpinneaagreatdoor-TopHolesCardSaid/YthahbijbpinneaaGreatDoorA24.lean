import Derived.Test.YthahbijbpinneaaGreatDoorA1
import Derived.Test.YthahbijbpinneaaGreatDoorA23
set_option maxRecDepth 100000
set_option maxHeartbeats 8000000
set_option linter.all false
namespace Go.Proofs.YthahbijbpinneaaGreatDoor
open Go.RowKit
theorem az (n lo hi:Int) (hn:n≤9223372036854775807) (hp:aK n=true) (h1:lo≤n) (h2:n≤hi) (w:World):Calls Tryz.prog 179 #[.int .i64 n,.int .i64 lo,.int .i64 hi] w fun e w'=>e= .returned (.bool true)∧w=w':=by
 have HP:=ae (dR n hn true hp w)
 go_enter Tryz.func179,Tryz.ntmps179
 go_wp2_with fail
 refine (HP.out).mono ?_;rintro e w' ⟨rfl,rfl⟩;clear HP hn;go_wp2;go_ret;exact ⟨rfl,rfl⟩
theorem il (n lo hi:Int) (hn:n≤9223372036854775807) (h:¬(aK n=true∧lo≤n∧n≤hi)) (w:World):Calls Tryz.prog 179 #[.int .i64 n,.int .i64 lo,.int .i64 hi] w fun e w'=>e= .returned (.bool false)∧w=w':=by
 cases hb:aK n with
 |false=>
  have HP:=ae (dR n hn false hb w);clear hb h
  go_enter Tryz.func179,Tryz.ntmps179
  go_wp2_with fail
  refine (HP.out).mono ?_;rintro e w' ⟨rfl,rfl⟩;clear HP hn;go_wp2;go_ret;exact ⟨rfl,rfl⟩
 |true=>
  have HP:=ae (dR n hn true hb w);by_cases h1:lo≤n
  ·have h2:¬n≤hi:=fun h2=>h ⟨hb,h1,h2⟩
   clear hb h
   go_enter Tryz.func179,Tryz.ntmps179
   go_wp2_with fail
   refine (HP.out).mono ?_;rintro e w' ⟨rfl,rfl⟩;clear HP hn;go_wp2;go_ret;exact ⟨congrArg (fun x=>Ending.returned (.bool x)) (decide_eq_false (by omega)),rfl⟩
  ·clear hb h
   go_enter Tryz.func179,Tryz.ntmps179
   go_wp2_with fail
   refine (HP.out).mono ?_;rintro e w' ⟨rfl,rfl⟩;clear HP hn;go_wp2;go_ret;exact ⟨rfl,rfl⟩
def vm (c:Cf):List Value:=[.int .i64 (c.kind:Int),.int .i64 (c.Pg:Int),.int .i64 (c.block:Int),.int .i64 (c.Wd:Int),.int .i64 (c.Sl:Int),.int .i64 (c.stack:Int),.int .i64 (c.Ah:Int),.float .f64 c.trig]
theorem jk {c:Cf} {w:World} {b:Nat} {t:TypeId} (h:ak w b (vm c) t):w.cell? ⟨b,0,none⟩=some (.int .i64 (c.kind:Int))∧w.cell? ⟨b,1,none⟩=some (.int .i64 (c.Pg:Int))∧w.cell? ⟨b,2,none⟩=some (.int .i64 (c.block:Int))∧w.cell? ⟨b,3,none⟩=some (.int .i64 (c.Wd:Int))∧w.cell? ⟨b,4,none⟩=some (.int .i64 (c.Sl:Int))∧w.cell? ⟨b,5,none⟩=some (.int .i64 (c.stack:Int))∧w.cell? ⟨b,6,none⟩=some (.int .i64 (c.Ah:Int))∧w.cell? ⟨b,7,none⟩=some (.float .f64 c.trig):=
 ⟨h.cell 0 rfl,h.cell 1 rfl,h.cell 2 rfl,h.cell 3 rfl,h.cell 4 rfl,h.cell 5 rfl,h.cell 6 rfl,h.cell 7 rfl⟩
theorem eU {c:Cf} (w:World) (hk:c.kind=1∨c.kind=2∨c.kind=3) (h1:1≤c.Pg) (h2:c.block≤1024) (h3:c.Ah≤16) (h4:c.Wd≤131072):Calls Tryz.prog 119 #[j4 c] w fun e w'=>e= .returned (.int .i64 (c.Fs:Int))∧Fr (fun _=>False) w w':=by
 obtain ⟨W1,hW1⟩:∃W1,w.alloc (.cells #[.int .i64 (c.kind:Int),.int .i64 (c.Pg:Int),.int .i64 (c.block:Int),.int .i64 (c.Wd:Int),.int .i64 (c.Sl:Int),.int .i64 (c.stack:Int),.int .i64 (c.Ah:Int),.float .f64 c.trig] 24)=W1:=⟨_,rfl⟩;have hf1:Fr (fun _=>False) w W1:=by rw [←hW1];exact (Fr.refl _ w).alloc _
 have hb1:ak W1 w.heap.size (vm c) 24:=by rw [←hW1];exact ak.new w _ _
 obtain ⟨k0,k1,k2,k3,k4,k5,k6,k7⟩:=jk hb1;have HF1:=ae hf1;have HSP:=ae (fun w'=>jv (c:=c) w' h1 h2 h3);have hd1:¬c.Pg=0:=by omega
 have hq0:=Nat.div_le_self c.Wd c.Pg;have hq:IntKind.i64.wrap ((c.Wd:Int)/(c.Pg:Int))=((c.Wd/c.Pg:Nat):Int):=by
  rw [show (c.Wd:Int)/(c.Pg:Int)=((c.Wd/c.Pg:Nat):Int) from rfl];generalize c.Wd/c.Pg=X at*;rw [IntKind.wrap_i64];omega
 have hsp1:c.spare≤20000:=by
  unfold Cf.spare;have h5:max (c.block/c.Pg) 1+3≤1027:=by have:=Nat.div_le_self c.block c.Pg;generalize c.block/c.Pg=X at*;omega
  have:=Nat.mul_le_mul (show c.Ah+2≤18 by omega) h5;omega
 have hfr:c.Fs=c.Wd/c.Pg+if c.kind=1 then c.spare else if c.kind=2 then c.Wd/c.Pg else 0:=rfl
 clear hf1 hb1 h1 h2 h3;obtain ⟨X,hX⟩:∃X,X=c.Wd/c.Pg:=⟨_,rfl⟩;rw [←hX] at hq hfr hq0;generalize c.Fs=FR at*;clear hX;unfold j4 at HSP ⊢;rcases hk with hk|hk|hk
 ·rw [if_pos hk] at hfr;rw [hk] at HSP k0 hW1 ⊢;rw [show ((1:Nat):Int)=1 from rfl] at HSP k0 hW1 ⊢;generalize c.spare=SPA at*;have hs1:IntKind.i64.wrap ((X:Int)+(SPA:Int))=(FR:Int):=by rw [IntKind.wrap_i64,hfr];push_cast;omega
  clear hfr hsp1 hk hq0
  go_enter Tryz.func119,Tryz.ntmps119
  go_wp2_with fail
  refine (HSP.out W1).mono ?_;rintro e w2 ⟨rfl,hf2⟩;have HF2:=ae (HF1.out.trans hf2 (fun _ h=>h.elim));clear HSP hf2 HF1;go_wp2;go_ret;exact ⟨rfl,HF2.out⟩
 ·rw [if_neg (by omega),if_pos hk] at hfr;rw [hk] at k0 hW1 ⊢;rw [show ((2:Nat):Int)=2 from rfl] at k0 hW1 ⊢;have hs1:IntKind.i64.wrap (2*(X:Int))=(FR:Int):=by rw [IntKind.wrap_i64,hfr];push_cast;omega
  clear hfr hsp1 hk hq0 HSP
  go_enter Tryz.func119,Tryz.ntmps119
  go_wp2;go_ret;exact ⟨rfl,HF1.out⟩
 ·rw [if_neg (by omega),if_neg (by omega),Nat.add_zero] at hfr;rw [hk] at k0 hW1 ⊢;rw [show ((3:Nat):Int)=3 from rfl] at k0 hW1 ⊢;subst hfr;clear hsp1 hk hq0 HSP
  go_enter Tryz.func119,Tryz.ntmps119
  go_wp2;go_ret;exact ⟨rfl,HF1.out⟩
theorem oV {c:Cf} (hc:cM c) (w:World):Calls Tryz.prog 117 #[j4 c] w fun e w'=>e= .returned (.int .i64 0)∧Fr (fun _=>False) w w':=by
 obtain ⟨W1,hW1⟩:∃W1,w.alloc (.cells #[.int .i64 (c.kind:Int),.int .i64 (c.Pg:Int),.int .i64 (c.block:Int),.int .i64 (c.Wd:Int),.int .i64 (c.Sl:Int),.int .i64 (c.stack:Int),.int .i64 (c.Ah:Int),.float .f64 c.trig] 24)=W1:=⟨_,rfl⟩;have hf1:Fr (fun _=>False) w W1:=by rw [←hW1];exact (Fr.refl _ w).alloc _
 have hb1:ak W1 w.heap.size (vm c) 24:=by rw [←hW1];exact ak.new w _ _
 obtain ⟨k0,k1,k2,k3,k4,k5,k6,k7⟩:=jk hb1;have HF1:=ae hf1;have HFR:=ae (eU (c:=c) W1 hc.kind1 hc.page2 hc.block3 hc.ahead1 hc.words3);obtain ⟨kd,p1,p2,p3,b1,b2,b3,w1,w2,w3,w4,s1,s2,t1,t2,a1,f1⟩:=hc;have q0:(1:Int)≤(c.kind:Int):=by omega
 have q1:(c.kind:Int)≤3:=by omega
 have q2:(c.Pg:Int)≤(c.Wd:Int):=by omega
 have q3:(1:Int)≤(c.Sl:Int):=by omega
 have q4:(c.Sl:Int)≤64:=by omega
 have q5:(1:Int)≤(c.stack:Int):=by omega
 have q6:(c.stack:Int)≤4096:=by omega
 have q7:(0:Int)≤(c.Ah:Int):=by omega
 have q8:(c.Ah:Int)≤16:=by omega
 have q9:¬(4096:Int)<(c.Fs:Int):=by omega
 have HP1:=ae (az (c.Pg:Int) 1 256 (by omega) p1 (by omega) (by omega) W1);have HP2:=ae (az (c.block:Int) 1 1024 (by omega) b1 (by omega) (by omega) W1);have HP3:=ae (az (c.Wd:Int) 16 131072 (by omega) w1 (by omega) (by omega) W1);unfold j4 at HFR ⊢;clear kd p1 p2 p3 b1 b2 b3 w1 w2 w3 w4 s1 s2 t1 t2 a1 f1 hf1 hb1;generalize (c.kind:Int)=v0 at*;generalize (c.Pg:Int)=v1 at*;generalize (c.block:Int)=v2 at*;generalize (c.Wd:Int)=v3 at*;generalize (c.Sl:Int)=v4 at*;generalize (c.stack:Int)=v5 at*;generalize (c.Ah:Int)=v6 at*;generalize (c.Fs:Int)=v7 at*
 go_enter Tryz.func117,Tryz.ntmps117
 go_wp2_with fail
 refine (HP1.out).mono ?_;rintro e w' ⟨rfl,rfl⟩;clear HP1 hW1;go_wp2_with fail
 refine (HP2.out).mono ?_;rintro e w' ⟨rfl,rfl⟩;clear HP2;go_wp2_with fail
 refine (HP3.out).mono ?_;rintro e w' ⟨rfl,rfl⟩;clear HP3;go_wp2_with fail
 refine (HFR.out).mono ?_;rintro e w2 ⟨rfl,hf2⟩;have HF2:=ae (HF1.out.trans hf2 (fun _ h=>h.elim));clear HFR hf2 HF1;go_wp2;go_ret;exact ⟨rfl,HF2.out⟩
def d8 (v0 v1 v2 v3 v4 v5 v6:Int) (tr:Nat):Value:= .agg #[.int .i64 v0,.int .i64 v1,.int .i64 v2,.int .i64 v3,.int .i64 v4,.int .i64 v5,.int .i64 v6,.float .f64 tr]
section
variable {v0 v1 v2 v3 v4 v5 v6:Int} {tr:Nat}
theorem oL (b1:v1≤9223372036854775807) (b2:v2≤9223372036854775807) (b3:v3≤9223372036854775807) (hn:¬((1:Int)≤v0)) (w:World):Calls Tryz.prog 117 #[d8 v0 v1 v2 v3 v4 v5 v6 tr] w fun e w'=>e= .returned (.int .i64 22)∧Fr (fun _=>False) w w':=by
 obtain ⟨W1,hW1⟩:∃W1,w.alloc (.cells #[.int .i64 v0,.int .i64 v1,.int .i64 v2,.int .i64 v3,.int .i64 v4,.int .i64 v5,.int .i64 v6,.float .f64 tr] 24)=W1:=⟨_,rfl⟩;have hf1:Fr (fun _=>False) w W1:=by rw [←hW1];exact (Fr.refl _ w).alloc _
 have hb1:ak W1 w.heap.size [.int .i64 v0,.int .i64 v1,.int .i64 v2,.int .i64 v3,.int .i64 v4,.int .i64 v5,.int .i64 v6,.float .f64 tr] 24:=by rw [←hW1];exact ak.new w _ _
 have k0:=hb1.cell 0 rfl;have k1:=hb1.cell 1 rfl;have k2:=hb1.cell 2 rfl;have k3:=hb1.cell 3 rfl;have k4:=hb1.cell 4 rfl;have k5:=hb1.cell 5 rfl;have k6:=hb1.cell 6 rfl;have k7:=hb1.cell 7 rfl;have HF1:=ae hf1;have hd:decide ((1:Int)≤v0)=false:=decide_eq_false hn;unfold d8;clear hf1 hb1 b1 b2 b3 hn
 go_enter Tryz.func117,Tryz.ntmps117
 go_wp2;go_ret;exact ⟨rfl,HF1.out⟩
theorem oM (b1:v1≤9223372036854775807) (b2:v2≤9223372036854775807) (b3:v3≤9223372036854775807) (c0:(1:Int)≤v0) (hn:¬(v0≤3)) (w:World):Calls Tryz.prog 117 #[d8 v0 v1 v2 v3 v4 v5 v6 tr] w fun e w'=>e= .returned (.int .i64 22)∧Fr (fun _=>False) w w':=by
 obtain ⟨W1,hW1⟩:∃W1,w.alloc (.cells #[.int .i64 v0,.int .i64 v1,.int .i64 v2,.int .i64 v3,.int .i64 v4,.int .i64 v5,.int .i64 v6,.float .f64 tr] 24)=W1:=⟨_,rfl⟩;have hf1:Fr (fun _=>False) w W1:=by rw [←hW1];exact (Fr.refl _ w).alloc _
 have hb1:ak W1 w.heap.size [.int .i64 v0,.int .i64 v1,.int .i64 v2,.int .i64 v3,.int .i64 v4,.int .i64 v5,.int .i64 v6,.float .f64 tr] 24:=by rw [←hW1];exact ak.new w _ _
 have k0:=hb1.cell 0 rfl;have k1:=hb1.cell 1 rfl;have k2:=hb1.cell 2 rfl;have k3:=hb1.cell 3 rfl;have k4:=hb1.cell 4 rfl;have k5:=hb1.cell 5 rfl;have k6:=hb1.cell 6 rfl;have k7:=hb1.cell 7 rfl;have HF1:=ae hf1;have hd:decide (v0≤3)=false:=decide_eq_false hn;unfold d8;clear hf1 hb1 b1 b2 b3 hn
 go_enter Tryz.func117,Tryz.ntmps117
 go_wp2;go_ret;exact ⟨rfl,HF1.out⟩
theorem oN (b1:v1≤9223372036854775807) (b2:v2≤9223372036854775807) (b3:v3≤9223372036854775807) (c0:(1:Int)≤v0) (c1:v0≤3) (hn:¬(aK v1=true∧1≤v1∧v1≤256)) (w:World):Calls Tryz.prog 117 #[d8 v0 v1 v2 v3 v4 v5 v6 tr] w fun e w'=>e= .returned (.int .i64 22)∧Fr (fun _=>False) w w':=by
 obtain ⟨W1,hW1⟩:∃W1,w.alloc (.cells #[.int .i64 v0,.int .i64 v1,.int .i64 v2,.int .i64 v3,.int .i64 v4,.int .i64 v5,.int .i64 v6,.float .f64 tr] 24)=W1:=⟨_,rfl⟩;have hf1:Fr (fun _=>False) w W1:=by rw [←hW1];exact (Fr.refl _ w).alloc _
 have hb1:ak W1 w.heap.size [.int .i64 v0,.int .i64 v1,.int .i64 v2,.int .i64 v3,.int .i64 v4,.int .i64 v5,.int .i64 v6,.float .f64 tr] 24:=by rw [←hW1];exact ak.new w _ _
 have k0:=hb1.cell 0 rfl;have k1:=hb1.cell 1 rfl;have k2:=hb1.cell 2 rfl;have k3:=hb1.cell 3 rfl;have k4:=hb1.cell 4 rfl;have k5:=hb1.cell 5 rfl;have k6:=hb1.cell 6 rfl;have k7:=hb1.cell 7 rfl;have HF1:=ae hf1;have HP2:=ae (il v1 1 256 b1 hn W1);unfold d8;clear hf1 hb1 b1 b2 b3 hn
 go_enter Tryz.func117,Tryz.ntmps117
 go_wp2_with fail
 refine (HP2.out).mono ?_;rintro e w' ⟨rfl,rfl⟩;clear HP2 hW1;go_wp2;go_ret;exact ⟨rfl,HF1.out⟩
theorem oO (b1:v1≤9223372036854775807) (b2:v2≤9223372036854775807) (b3:v3≤9223372036854775807) (c0:(1:Int)≤v0) (c1:v0≤3) (c2:aK v1=true∧1≤v1∧v1≤256) (hn:¬(aK v2=true∧1≤v2∧v2≤1024)) (w:World):Calls Tryz.prog 117 #[d8 v0 v1 v2 v3 v4 v5 v6 tr] w fun e w'=>e= .returned (.int .i64 22)∧Fr (fun _=>False) w w':=by
 obtain ⟨W1,hW1⟩:∃W1,w.alloc (.cells #[.int .i64 v0,.int .i64 v1,.int .i64 v2,.int .i64 v3,.int .i64 v4,.int .i64 v5,.int .i64 v6,.float .f64 tr] 24)=W1:=⟨_,rfl⟩;have hf1:Fr (fun _=>False) w W1:=by rw [←hW1];exact (Fr.refl _ w).alloc _
 have hb1:ak W1 w.heap.size [.int .i64 v0,.int .i64 v1,.int .i64 v2,.int .i64 v3,.int .i64 v4,.int .i64 v5,.int .i64 v6,.float .f64 tr] 24:=by rw [←hW1];exact ak.new w _ _
 have k0:=hb1.cell 0 rfl;have k1:=hb1.cell 1 rfl;have k2:=hb1.cell 2 rfl;have k3:=hb1.cell 3 rfl;have k4:=hb1.cell 4 rfl;have k5:=hb1.cell 5 rfl;have k6:=hb1.cell 6 rfl;have k7:=hb1.cell 7 rfl;have HF1:=ae hf1;have HP2:=ae (az v1 1 256 b1 c2.1 c2.2.1 c2.2.2 W1);have HP3:=ae (il v2 1 1024 b2 hn W1);unfold d8;clear hf1 hb1 b1 b2 b3 hn c2
 go_enter Tryz.func117,Tryz.ntmps117
 go_wp2_with fail
 refine (HP2.out).mono ?_;rintro e w' ⟨rfl,rfl⟩;clear HP2 hW1;go_wp2_with fail
 refine (HP3.out).mono ?_;rintro e w' ⟨rfl,rfl⟩;clear HP3;go_wp2;go_ret;exact ⟨rfl,HF1.out⟩
theorem oP (b1:v1≤9223372036854775807) (b2:v2≤9223372036854775807) (b3:v3≤9223372036854775807) (c0:(1:Int)≤v0) (c1:v0≤3) (c2:aK v1=true∧1≤v1∧v1≤256) (c3:aK v2=true∧1≤v2∧v2≤1024) (hn:¬(aK v3=true∧16≤v3∧v3≤131072)) (w:World):Calls Tryz.prog 117 #[d8 v0 v1 v2 v3 v4 v5 v6 tr] w fun e w'=>e= .returned (.int .i64 22)∧Fr (fun _=>False) w w':=by
 obtain ⟨W1,hW1⟩:∃W1,w.alloc (.cells #[.int .i64 v0,.int .i64 v1,.int .i64 v2,.int .i64 v3,.int .i64 v4,.int .i64 v5,.int .i64 v6,.float .f64 tr] 24)=W1:=⟨_,rfl⟩;have hf1:Fr (fun _=>False) w W1:=by rw [←hW1];exact (Fr.refl _ w).alloc _
 have hb1:ak W1 w.heap.size [.int .i64 v0,.int .i64 v1,.int .i64 v2,.int .i64 v3,.int .i64 v4,.int .i64 v5,.int .i64 v6,.float .f64 tr] 24:=by rw [←hW1];exact ak.new w _ _
 have k0:=hb1.cell 0 rfl;have k1:=hb1.cell 1 rfl;have k2:=hb1.cell 2 rfl;have k3:=hb1.cell 3 rfl;have k4:=hb1.cell 4 rfl;have k5:=hb1.cell 5 rfl;have k6:=hb1.cell 6 rfl;have k7:=hb1.cell 7 rfl;have HF1:=ae hf1;have HP2:=ae (az v1 1 256 b1 c2.1 c2.2.1 c2.2.2 W1);have HP3:=ae (az v2 1 1024 b2 c3.1 c3.2.1 c3.2.2 W1);have HP4:=ae (il v3 16 131072 b3 hn W1);unfold d8;clear hf1 hb1 b1 b2 b3 hn c2 c3
 go_enter Tryz.func117,Tryz.ntmps117
 go_wp2_with fail
 refine (HP2.out).mono ?_;rintro e w' ⟨rfl,rfl⟩;clear HP2 hW1;go_wp2_with fail
 refine (HP3.out).mono ?_;rintro e w' ⟨rfl,rfl⟩;clear HP3;go_wp2_with fail
 refine (HP4.out).mono ?_;rintro e w' ⟨rfl,rfl⟩;clear HP4;go_wp2;go_ret;exact ⟨rfl,HF1.out⟩
theorem oQ (b1:v1≤9223372036854775807) (b2:v2≤9223372036854775807) (b3:v3≤9223372036854775807) (c0:(1:Int)≤v0) (c1:v0≤3) (c2:aK v1=true∧1≤v1∧v1≤256) (c3:aK v2=true∧1≤v2∧v2≤1024) (c4:aK v3=true∧16≤v3∧v3≤131072) (hn:¬(v1≤v3)) (w:World):Calls Tryz.prog 117 #[d8 v0 v1 v2 v3 v4 v5 v6 tr] w fun e w'=>e= .returned (.int .i64 22)∧Fr (fun _=>False) w w':=by
 obtain ⟨W1,hW1⟩:∃W1,w.alloc (.cells #[.int .i64 v0,.int .i64 v1,.int .i64 v2,.int .i64 v3,.int .i64 v4,.int .i64 v5,.int .i64 v6,.float .f64 tr] 24)=W1:=⟨_,rfl⟩;have hf1:Fr (fun _=>False) w W1:=by rw [←hW1];exact (Fr.refl _ w).alloc _
 have hb1:ak W1 w.heap.size [.int .i64 v0,.int .i64 v1,.int .i64 v2,.int .i64 v3,.int .i64 v4,.int .i64 v5,.int .i64 v6,.float .f64 tr] 24:=by rw [←hW1];exact ak.new w _ _
 have k0:=hb1.cell 0 rfl;have k1:=hb1.cell 1 rfl;have k2:=hb1.cell 2 rfl;have k3:=hb1.cell 3 rfl;have k4:=hb1.cell 4 rfl;have k5:=hb1.cell 5 rfl;have k6:=hb1.cell 6 rfl;have k7:=hb1.cell 7 rfl;have HF1:=ae hf1;have HP2:=ae (az v1 1 256 b1 c2.1 c2.2.1 c2.2.2 W1);have HP3:=ae (az v2 1 1024 b2 c3.1 c3.2.1 c3.2.2 W1);have HP4:=ae (az v3 16 131072 b3 c4.1 c4.2.1 c4.2.2 W1);have hd:decide (v1≤v3)=false:=decide_eq_false hn;unfold d8;clear hf1 hb1 b1 b2 b3 hn c2 c3 c4
 go_enter Tryz.func117,Tryz.ntmps117
 go_wp2_with fail
 refine (HP2.out).mono ?_;rintro e w' ⟨rfl,rfl⟩;clear HP2 hW1;go_wp2_with fail
 refine (HP3.out).mono ?_;rintro e w' ⟨rfl,rfl⟩;clear HP3;go_wp2_with fail
 refine (HP4.out).mono ?_;rintro e w' ⟨rfl,rfl⟩;clear HP4;go_wp2;go_ret;exact ⟨rfl,HF1.out⟩
theorem oR (b1:v1≤9223372036854775807) (b2:v2≤9223372036854775807) (b3:v3≤9223372036854775807) (c0:(1:Int)≤v0) (c1:v0≤3) (c2:aK v1=true∧1≤v1∧v1≤256) (c3:aK v2=true∧1≤v2∧v2≤1024) (c4:aK v3=true∧16≤v3∧v3≤131072) (c5:v1≤v3) (hn:¬((1:Int)≤v4)) (w:World):Calls Tryz.prog 117 #[d8 v0 v1 v2 v3 v4 v5 v6 tr] w fun e w'=>e= .returned (.int .i64 22)∧Fr (fun _=>False) w w':=by
 obtain ⟨W1,hW1⟩:∃W1,w.alloc (.cells #[.int .i64 v0,.int .i64 v1,.int .i64 v2,.int .i64 v3,.int .i64 v4,.int .i64 v5,.int .i64 v6,.float .f64 tr] 24)=W1:=⟨_,rfl⟩;have hf1:Fr (fun _=>False) w W1:=by rw [←hW1];exact (Fr.refl _ w).alloc _
 have hb1:ak W1 w.heap.size [.int .i64 v0,.int .i64 v1,.int .i64 v2,.int .i64 v3,.int .i64 v4,.int .i64 v5,.int .i64 v6,.float .f64 tr] 24:=by rw [←hW1];exact ak.new w _ _
 have k0:=hb1.cell 0 rfl;have k1:=hb1.cell 1 rfl;have k2:=hb1.cell 2 rfl;have k3:=hb1.cell 3 rfl;have k4:=hb1.cell 4 rfl;have k5:=hb1.cell 5 rfl;have k6:=hb1.cell 6 rfl;have k7:=hb1.cell 7 rfl;have HF1:=ae hf1;have HP2:=ae (az v1 1 256 b1 c2.1 c2.2.1 c2.2.2 W1);have HP3:=ae (az v2 1 1024 b2 c3.1 c3.2.1 c3.2.2 W1);have HP4:=ae (az v3 16 131072 b3 c4.1 c4.2.1 c4.2.2 W1);have hd:decide ((1:Int)≤v4)=false:=decide_eq_false hn;unfold d8;clear hf1 hb1 b1 b2 b3 hn c2 c3 c4
 go_enter Tryz.func117,Tryz.ntmps117
 go_wp2_with fail
 refine (HP2.out).mono ?_;rintro e w' ⟨rfl,rfl⟩;clear HP2 hW1;go_wp2_with fail
 refine (HP3.out).mono ?_;rintro e w' ⟨rfl,rfl⟩;clear HP3;go_wp2_with fail
 refine (HP4.out).mono ?_;rintro e w' ⟨rfl,rfl⟩;clear HP4;go_wp2;go_ret;exact ⟨rfl,HF1.out⟩
theorem oS (b1:v1≤9223372036854775807) (b2:v2≤9223372036854775807) (b3:v3≤9223372036854775807) (c0:(1:Int)≤v0) (c1:v0≤3) (c2:aK v1=true∧1≤v1∧v1≤256) (c3:aK v2=true∧1≤v2∧v2≤1024) (c4:aK v3=true∧16≤v3∧v3≤131072) (c5:v1≤v3) (c6:(1:Int)≤v4) (hn:¬(v4≤64)) (w:World):Calls Tryz.prog 117 #[d8 v0 v1 v2 v3 v4 v5 v6 tr] w fun e w'=>e= .returned (.int .i64 22)∧Fr (fun _=>False) w w':=by
 obtain ⟨W1,hW1⟩:∃W1,w.alloc (.cells #[.int .i64 v0,.int .i64 v1,.int .i64 v2,.int .i64 v3,.int .i64 v4,.int .i64 v5,.int .i64 v6,.float .f64 tr] 24)=W1:=⟨_,rfl⟩;have hf1:Fr (fun _=>False) w W1:=by rw [←hW1];exact (Fr.refl _ w).alloc _
 have hb1:ak W1 w.heap.size [.int .i64 v0,.int .i64 v1,.int .i64 v2,.int .i64 v3,.int .i64 v4,.int .i64 v5,.int .i64 v6,.float .f64 tr] 24:=by rw [←hW1];exact ak.new w _ _
 have k0:=hb1.cell 0 rfl;have k1:=hb1.cell 1 rfl;have k2:=hb1.cell 2 rfl;have k3:=hb1.cell 3 rfl;have k4:=hb1.cell 4 rfl;have k5:=hb1.cell 5 rfl;have k6:=hb1.cell 6 rfl;have k7:=hb1.cell 7 rfl;have HF1:=ae hf1;have HP2:=ae (az v1 1 256 b1 c2.1 c2.2.1 c2.2.2 W1);have HP3:=ae (az v2 1 1024 b2 c3.1 c3.2.1 c3.2.2 W1);have HP4:=ae (az v3 16 131072 b3 c4.1 c4.2.1 c4.2.2 W1);have hd:decide (v4≤64)=false:=decide_eq_false hn;unfold d8;clear hf1 hb1 b1 b2 b3 hn c2 c3 c4
 go_enter Tryz.func117,Tryz.ntmps117
 go_wp2_with fail
 refine (HP2.out).mono ?_;rintro e w' ⟨rfl,rfl⟩;clear HP2 hW1;go_wp2_with fail
 refine (HP3.out).mono ?_;rintro e w' ⟨rfl,rfl⟩;clear HP3;go_wp2_with fail
 refine (HP4.out).mono ?_;rintro e w' ⟨rfl,rfl⟩;clear HP4;go_wp2;go_ret;exact ⟨rfl,HF1.out⟩
theorem oT (b1:v1≤9223372036854775807) (b2:v2≤9223372036854775807) (b3:v3≤9223372036854775807) (c0:(1:Int)≤v0) (c1:v0≤3) (c2:aK v1=true∧1≤v1∧v1≤256) (c3:aK v2=true∧1≤v2∧v2≤1024) (c4:aK v3=true∧16≤v3∧v3≤131072) (c5:v1≤v3) (c6:(1:Int)≤v4) (c7:v4≤64) (hn:¬((1:Int)≤v5)) (w:World):Calls Tryz.prog 117 #[d8 v0 v1 v2 v3 v4 v5 v6 tr] w fun e w'=>e= .returned (.int .i64 22)∧Fr (fun _=>False) w w':=by
 obtain ⟨W1,hW1⟩:∃W1,w.alloc (.cells #[.int .i64 v0,.int .i64 v1,.int .i64 v2,.int .i64 v3,.int .i64 v4,.int .i64 v5,.int .i64 v6,.float .f64 tr] 24)=W1:=⟨_,rfl⟩;have hf1:Fr (fun _=>False) w W1:=by rw [←hW1];exact (Fr.refl _ w).alloc _
 have hb1:ak W1 w.heap.size [.int .i64 v0,.int .i64 v1,.int .i64 v2,.int .i64 v3,.int .i64 v4,.int .i64 v5,.int .i64 v6,.float .f64 tr] 24:=by rw [←hW1];exact ak.new w _ _
 have k0:=hb1.cell 0 rfl;have k1:=hb1.cell 1 rfl;have k2:=hb1.cell 2 rfl;have k3:=hb1.cell 3 rfl;have k4:=hb1.cell 4 rfl;have k5:=hb1.cell 5 rfl;have k6:=hb1.cell 6 rfl;have k7:=hb1.cell 7 rfl;have HF1:=ae hf1;have HP2:=ae (az v1 1 256 b1 c2.1 c2.2.1 c2.2.2 W1);have HP3:=ae (az v2 1 1024 b2 c3.1 c3.2.1 c3.2.2 W1);have HP4:=ae (az v3 16 131072 b3 c4.1 c4.2.1 c4.2.2 W1);have hd:decide ((1:Int)≤v5)=false:=decide_eq_false hn;unfold d8;clear hf1 hb1 b1 b2 b3 hn c2 c3 c4
 go_enter Tryz.func117,Tryz.ntmps117
 go_wp2_with fail
 refine (HP2.out).mono ?_;rintro e w' ⟨rfl,rfl⟩;clear HP2 hW1;go_wp2_with fail
 refine (HP3.out).mono ?_;rintro e w' ⟨rfl,rfl⟩;clear HP3;go_wp2_with fail
 refine (HP4.out).mono ?_;rintro e w' ⟨rfl,rfl⟩;clear HP4;go_wp2;go_ret;exact ⟨rfl,HF1.out⟩
theorem oU (b1:v1≤9223372036854775807) (b2:v2≤9223372036854775807) (b3:v3≤9223372036854775807) (c0:(1:Int)≤v0) (c1:v0≤3) (c2:aK v1=true∧1≤v1∧v1≤256) (c3:aK v2=true∧1≤v2∧v2≤1024) (c4:aK v3=true∧16≤v3∧v3≤131072) (c5:v1≤v3) (c6:(1:Int)≤v4) (c7:v4≤64) (c8:(1:Int)≤v5) (hn:¬(v5≤4096)) (w:World):Calls Tryz.prog 117 #[d8 v0 v1 v2 v3 v4 v5 v6 tr] w fun e w'=>e= .returned (.int .i64 22)∧Fr (fun _=>False) w w':=by
 obtain ⟨W1,hW1⟩:∃W1,w.alloc (.cells #[.int .i64 v0,.int .i64 v1,.int .i64 v2,.int .i64 v3,.int .i64 v4,.int .i64 v5,.int .i64 v6,.float .f64 tr] 24)=W1:=⟨_,rfl⟩;have hf1:Fr (fun _=>False) w W1:=by rw [←hW1];exact (Fr.refl _ w).alloc _
 have hb1:ak W1 w.heap.size [.int .i64 v0,.int .i64 v1,.int .i64 v2,.int .i64 v3,.int .i64 v4,.int .i64 v5,.int .i64 v6,.float .f64 tr] 24:=by rw [←hW1];exact ak.new w _ _
 have k0:=hb1.cell 0 rfl;have k1:=hb1.cell 1 rfl;have k2:=hb1.cell 2 rfl;have k3:=hb1.cell 3 rfl;have k4:=hb1.cell 4 rfl;have k5:=hb1.cell 5 rfl;have k6:=hb1.cell 6 rfl;have k7:=hb1.cell 7 rfl;have HF1:=ae hf1;have HP2:=ae (az v1 1 256 b1 c2.1 c2.2.1 c2.2.2 W1);have HP3:=ae (az v2 1 1024 b2 c3.1 c3.2.1 c3.2.2 W1);have HP4:=ae (az v3 16 131072 b3 c4.1 c4.2.1 c4.2.2 W1);have hd:decide (v5≤4096)=false:=decide_eq_false hn;unfold d8;clear hf1 hb1 b1 b2 b3 hn c2 c3 c4
 go_enter Tryz.func117,Tryz.ntmps117
 go_wp2_with fail
 refine (HP2.out).mono ?_;rintro e w' ⟨rfl,rfl⟩;clear HP2 hW1;go_wp2_with fail
 refine (HP3.out).mono ?_;rintro e w' ⟨rfl,rfl⟩;clear HP3;go_wp2_with fail
 refine (HP4.out).mono ?_;rintro e w' ⟨rfl,rfl⟩;clear HP4;go_wp2;go_ret;exact ⟨rfl,HF1.out⟩
theorem mK (b1:v1≤9223372036854775807) (b2:v2≤9223372036854775807) (b3:v3≤9223372036854775807) (c0:(1:Int)≤v0) (c1:v0≤3) (c2:aK v1=true∧1≤v1∧v1≤256) (c3:aK v2=true∧1≤v2∧v2≤1024) (c4:aK v3=true∧16≤v3∧v3≤131072) (c5:v1≤v3) (c6:(1:Int)≤v4) (c7:v4≤64) (c8:(1:Int)≤v5) (c9:v5≤4096) (hn:¬((0:Int)≤v6)) (w:World):Calls Tryz.prog 117 #[d8 v0 v1 v2 v3 v4 v5 v6 tr] w fun e w'=>e= .returned (.int .i64 22)∧Fr (fun _=>False) w w':=by
 obtain ⟨W1,hW1⟩:∃W1,w.alloc (.cells #[.int .i64 v0,.int .i64 v1,.int .i64 v2,.int .i64 v3,.int .i64 v4,.int .i64 v5,.int .i64 v6,.float .f64 tr] 24)=W1:=⟨_,rfl⟩;have hf1:Fr (fun _=>False) w W1:=by rw [←hW1];exact (Fr.refl _ w).alloc _
 have hb1:ak W1 w.heap.size [.int .i64 v0,.int .i64 v1,.int .i64 v2,.int .i64 v3,.int .i64 v4,.int .i64 v5,.int .i64 v6,.float .f64 tr] 24:=by rw [←hW1];exact ak.new w _ _
 have k0:=hb1.cell 0 rfl;have k1:=hb1.cell 1 rfl;have k2:=hb1.cell 2 rfl;have k3:=hb1.cell 3 rfl;have k4:=hb1.cell 4 rfl;have k5:=hb1.cell 5 rfl;have k6:=hb1.cell 6 rfl;have k7:=hb1.cell 7 rfl;have HF1:=ae hf1;have HP2:=ae (az v1 1 256 b1 c2.1 c2.2.1 c2.2.2 W1);have HP3:=ae (az v2 1 1024 b2 c3.1 c3.2.1 c3.2.2 W1);have HP4:=ae (az v3 16 131072 b3 c4.1 c4.2.1 c4.2.2 W1);have hd:decide ((0:Int)≤v6)=false:=decide_eq_false hn;unfold d8;clear hf1 hb1 b1 b2 b3 hn c2 c3 c4
 go_enter Tryz.func117,Tryz.ntmps117
 go_wp2_with fail
 refine (HP2.out).mono ?_;rintro e w' ⟨rfl,rfl⟩;clear HP2 hW1;go_wp2_with fail
 refine (HP3.out).mono ?_;rintro e w' ⟨rfl,rfl⟩;clear HP3;go_wp2_with fail
 refine (HP4.out).mono ?_;rintro e w' ⟨rfl,rfl⟩;clear HP4;go_wp2;go_ret;exact ⟨rfl,HF1.out⟩
theorem mL (b1:v1≤9223372036854775807) (b2:v2≤9223372036854775807) (b3:v3≤9223372036854775807) (c0:(1:Int)≤v0) (c1:v0≤3) (c2:aK v1=true∧1≤v1∧v1≤256) (c3:aK v2=true∧1≤v2∧v2≤1024) (c4:aK v3=true∧16≤v3∧v3≤131072) (c5:v1≤v3) (c6:(1:Int)≤v4) (c7:v4≤64) (c8:(1:Int)≤v5) (c9:v5≤4096) (c10:(0:Int)≤v6) (hn:¬(v6≤16)) (w:World):Calls Tryz.prog 117 #[d8 v0 v1 v2 v3 v4 v5 v6 tr] w fun e w'=>e= .returned (.int .i64 22)∧Fr (fun _=>False) w w':=by
 obtain ⟨W1,hW1⟩:∃W1,w.alloc (.cells #[.int .i64 v0,.int .i64 v1,.int .i64 v2,.int .i64 v3,.int .i64 v4,.int .i64 v5,.int .i64 v6,.float .f64 tr] 24)=W1:=⟨_,rfl⟩;have hf1:Fr (fun _=>False) w W1:=by rw [←hW1];exact (Fr.refl _ w).alloc _
 have hb1:ak W1 w.heap.size [.int .i64 v0,.int .i64 v1,.int .i64 v2,.int .i64 v3,.int .i64 v4,.int .i64 v5,.int .i64 v6,.float .f64 tr] 24:=by rw [←hW1];exact ak.new w _ _
 have k0:=hb1.cell 0 rfl;have k1:=hb1.cell 1 rfl;have k2:=hb1.cell 2 rfl;have k3:=hb1.cell 3 rfl;have k4:=hb1.cell 4 rfl;have k5:=hb1.cell 5 rfl;have k6:=hb1.cell 6 rfl;have k7:=hb1.cell 7 rfl;have HF1:=ae hf1;have HP2:=ae (az v1 1 256 b1 c2.1 c2.2.1 c2.2.2 W1);have HP3:=ae (az v2 1 1024 b2 c3.1 c3.2.1 c3.2.2 W1);have HP4:=ae (az v3 16 131072 b3 c4.1 c4.2.1 c4.2.2 W1);have hd:decide (v6≤16)=false:=decide_eq_false hn;unfold d8;clear hf1 hb1 b1 b2 b3 hn c2 c3 c4
 go_enter Tryz.func117,Tryz.ntmps117
 go_wp2_with fail
 refine (HP2.out).mono ?_;rintro e w' ⟨rfl,rfl⟩;clear HP2 hW1;go_wp2_with fail
 refine (HP3.out).mono ?_;rintro e w' ⟨rfl,rfl⟩;clear HP3;go_wp2_with fail
 refine (HP4.out).mono ?_;rintro e w' ⟨rfl,rfl⟩;clear HP4;go_wp2;go_ret;exact ⟨rfl,HF1.out⟩
theorem mM {c:Cf} (kd:c.kind=1∨c.kind=2∨c.kind=3) (p1:aK (c.Pg:Int)=true) (p2:1≤c.Pg) (p3:c.Pg≤256) (b1:aK (c.block:Int)=true) (b2:1≤c.block) (b3:c.block≤1024) (w1:aK (c.Wd:Int)=true) (w2:16≤c.Wd) (w3:c.Wd≤131072) (w4:c.Pg≤c.Wd) (s1:1≤c.Sl) (s2:c.Sl≤64) (t1:1≤c.stack) (t2:c.stack≤4096) (a1:c.Ah≤16) (f1:¬c.Fs≤4096) (w:World):Calls Tryz.prog 117 #[j4 c] w fun e w'=>e= .returned (.int .i64 22)∧Fr (fun _=>False) w w':=by
 obtain ⟨W1,hW1⟩:∃W1,w.alloc (.cells #[.int .i64 (c.kind:Int),.int .i64 (c.Pg:Int),.int .i64 (c.block:Int),.int .i64 (c.Wd:Int),.int .i64 (c.Sl:Int),.int .i64 (c.stack:Int),.int .i64 (c.Ah:Int),.float .f64 c.trig] 24)=W1:=⟨_,rfl⟩;have hf1:Fr (fun _=>False) w W1:=by rw [←hW1];exact (Fr.refl _ w).alloc _
 have hb1:ak W1 w.heap.size (vm c) 24:=by rw [←hW1];exact ak.new w _ _
 obtain ⟨k0,k1,k2,k3,k4,k5,k6,k7⟩:=jk hb1;have HF1:=ae hf1;have HFR:=ae (eU (c:=c) W1 kd p2 b3 a1 w3);have q0:(1:Int)≤(c.kind:Int):=by omega
 have q1:(c.kind:Int)≤3:=by omega
 have q2:(c.Pg:Int)≤(c.Wd:Int):=by omega
 have q3:(1:Int)≤(c.Sl:Int):=by omega
 have q4:(c.Sl:Int)≤64:=by omega
 have q5:(1:Int)≤(c.stack:Int):=by omega
 have q6:(c.stack:Int)≤4096:=by omega
 have q7:(0:Int)≤(c.Ah:Int):=by omega
 have q8:(c.Ah:Int)≤16:=by omega
 have q9:(4096:Int)<(c.Fs:Int):=by omega
 have HP1:=ae (az (c.Pg:Int) 1 256 (by omega) p1 (by omega) (by omega) W1);have HP2:=ae (az (c.block:Int) 1 1024 (by omega) b1 (by omega) (by omega) W1);have HP3:=ae (az (c.Wd:Int) 16 131072 (by omega) w1 (by omega) (by omega) W1);unfold j4 at HFR ⊢;clear kd p1 p2 p3 b1 b2 b3 w1 w2 w3 w4 s1 s2 t1 t2 a1 f1 hf1 hb1;generalize (c.kind:Int)=v0 at*;generalize (c.Pg:Int)=v1 at*;generalize (c.block:Int)=v2 at*;generalize (c.Wd:Int)=v3 at*;generalize (c.Sl:Int)=v4 at*;generalize (c.stack:Int)=v5 at*;generalize (c.Ah:Int)=v6 at*;generalize (c.Fs:Int)=v7 at*
 go_enter Tryz.func117,Tryz.ntmps117
 go_wp2_with fail
 refine (HP1.out).mono ?_;rintro e w' ⟨rfl,rfl⟩;clear HP1 hW1;go_wp2_with fail
 refine (HP2.out).mono ?_;rintro e w' ⟨rfl,rfl⟩;clear HP2;go_wp2_with fail
 refine (HP3.out).mono ?_;rintro e w' ⟨rfl,rfl⟩;clear HP3;go_wp2_with fail
 refine (HFR.out).mono ?_;rintro e w2 ⟨rfl,hf2⟩;have HF2:=ae (HF1.out.trans hf2 (fun _ h=>h.elim));clear HFR hf2 HF1;go_wp2;go_ret;exact ⟨rfl,HF2.out⟩
theorem rA (b1:v1≤9223372036854775807) (b2:v2≤9223372036854775807) (b3:v3≤9223372036854775807) (hno:¬∃c,cM c∧d8 v0 v1 v2 v3 v4 v5 v6 tr=j4 c) (w:World):Calls Tryz.prog 117 #[d8 v0 v1 v2 v3 v4 v5 v6 tr] w fun e w'=>e= .returned (.int .i64 22)∧Fr (fun _=>False) w w':=by
 by_cases c0:(1:Int)≤v0
 case neg=>exact oL b1 b2 b3 c0 w
 by_cases c1:v0≤3
 case neg=>exact oM b1 b2 b3 c0 c1 w
 by_cases c2:aK v1=true∧1≤v1∧v1≤256
 case neg=>exact oN b1 b2 b3 c0 c1 c2 w
 by_cases c3:aK v2=true∧1≤v2∧v2≤1024
 case neg=>exact oO b1 b2 b3 c0 c1 c2 c3 w
 by_cases c4:aK v3=true∧16≤v3∧v3≤131072
 case neg=>exact oP b1 b2 b3 c0 c1 c2 c3 c4 w
 by_cases c5:v1≤v3
 case neg=>exact oQ b1 b2 b3 c0 c1 c2 c3 c4 c5 w
 by_cases c6:(1:Int)≤v4
 case neg=>exact oR b1 b2 b3 c0 c1 c2 c3 c4 c5 c6 w
 by_cases c7:v4≤64
 case neg=>exact oS b1 b2 b3 c0 c1 c2 c3 c4 c5 c6 c7 w
 by_cases c8:(1:Int)≤v5
 case neg=>exact oT b1 b2 b3 c0 c1 c2 c3 c4 c5 c6 c7 c8 w
 by_cases c9:v5≤4096
 case neg=>exact oU b1 b2 b3 c0 c1 c2 c3 c4 c5 c6 c7 c8 c9 w
 by_cases c10:(0:Int)≤v6
 case neg=>exact mK b1 b2 b3 c0 c1 c2 c3 c4 c5 c6 c7 c8 c9 c10 w
 by_cases c11:v6≤16
 case neg=>exact mL b1 b2 b3 c0 c1 c2 c3 c4 c5 c6 c7 c8 c9 c10 c11 w
 obtain ⟨n0,rfl⟩:=Int.eq_ofNat_of_zero_le (show 0≤v0 by omega);obtain ⟨n1,rfl⟩:=Int.eq_ofNat_of_zero_le (show 0≤v1 by omega);obtain ⟨n2,rfl⟩:=Int.eq_ofNat_of_zero_le (show 0≤v2 by omega);obtain ⟨n3,rfl⟩:=Int.eq_ofNat_of_zero_le (show 0≤v3 by omega);obtain ⟨n4,rfl⟩:=Int.eq_ofNat_of_zero_le (show 0≤v4 by omega);obtain ⟨n5,rfl⟩:=Int.eq_ofNat_of_zero_le (show 0≤v5 by omega);obtain ⟨n6,rfl⟩:=Int.eq_ofNat_of_zero_le (show 0≤v6 by omega);obtain ⟨c,hcc⟩:∃c:Cf,c=⟨n0,n1,n2,n3,n4,n5,n6,tr⟩:=⟨_,rfl⟩;have hv:d8 n0 n1 n2 n3 n4 n5 n6 tr=j4 c:=by rw [hcc];rfl
 have hm:c.kind=n0∧c.Pg=n1∧c.block=n2∧c.Wd=n3∧c.Sl=n4∧c.stack=n5∧c.Ah=n6:=by rw [hcc];exact ⟨rfl,rfl,rfl,rfl,rfl,rfl,rfl⟩
 obtain ⟨rfl,rfl,rfl,rfl,rfl,rfl,rfl⟩:=hm;have hkd:c.kind=1∨c.kind=2∨c.kind=3:=by omega
 by_cases hf:c.Fs≤4096
 ·exact absurd ⟨c,⟨hkd,c2.1,by omega,by omega,c3.1,by omega,by omega,c4.1,by omega,by omega,by omega,by omega,by omega,by omega,by omega,by omega,hf⟩,hv⟩ hno
 ·rw [hv];exact mM hkd c2.1 (by omega) (by omega) c3.1 (by omega) (by omega) c4.1 (by omega) (by omega) (by omega) (by omega) (by omega) (by omega) (by omega) (by omega) hf w
end
end Go.Proofs.YthahbijbpinneaaGreatDoor
