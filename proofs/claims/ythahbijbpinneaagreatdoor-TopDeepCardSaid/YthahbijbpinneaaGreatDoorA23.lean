import Derived.Test.YthahbijbpinneaaGreatDoorA7
import Derived.Test.YthahbijbpinneaaGreatDoorA22
set_option maxRecDepth 100000
set_option maxHeartbeats 8000000
set_option linter.all false
namespace Go.Proofs.YthahbijbpinneaaGreatDoor
open Go.RowKit
def dY (v0 v1 v2 v3 v4 v5 v6:Int) (tr:Nat):Value:= .agg #[.int .i64 v0,.int .i64 v1,.int .i64 v2,.int .i64 v3,.int .i64 v4,.int .i64 v5,.int .i64 v6,.float .f64 tr]
section
variable {v0 v1 v2 v3 v4 v5 v6:Int} {tr:Nat}
theorem pJ (g:v1<=9223372036854775807) (h:v2<=9223372036854775807) (i:v3<=9223372036854775807) (f:¬((1:Int)<=v0)) (w:World):Calls Tryz.prog 117 #[dY v0 v1 v2 v3 v4 v5 v6 tr] w fun e w'=>e= .returned (.int .i64 22)∧Fr (fun _=>False) w w':=by
 obtain ⟨W1,b⟩:∃W1,w.alloc (.cells #[.int .i64 v0,.int .i64 v1,.int .i64 v2,.int .i64 v3,.int .i64 v4,.int .i64 v5,.int .i64 v6,.float .f64 tr] 24)=W1:=⟨_,rfl⟩;have c:Fr (fun _=>False) w W1:=by rw [<-b];exact (Fr.refl _ w).alloc _
 have a:aj W1 w.heap.size [.int .i64 v0,.int .i64 v1,.int .i64 v2,.int .i64 v3,.int .i64 v4,.int .i64 v5,.int .i64 v6,.float .f64 tr] 24:=by rw [<-b];exact aj.new w _ _
 have k:=a.cell 0 rfl;have l:=a.cell 1 rfl;have m:=a.cell 2 rfl;have n:=a.cell 3 rfl;have o:=a.cell 4 rfl;have p:=a.cell 5 rfl;have q:=a.cell 6 rfl;have r:=a.cell 7 rfl;have d:=ae c;have j:decide ((1:Int)<=v0)=false:=decide_eq_false f;unfold dY;clear c a g h i f
 go_enter Tryz.func117,Tryz.ntmps117
 go_wp2;go_ret;exact ⟨rfl,d.out⟩
theorem pK (g:v1<=9223372036854775807) (h:v2<=9223372036854775807) (i:v3<=9223372036854775807) (j:(1:Int)<=v0) (f:¬(v0<=3)) (w:World):Calls Tryz.prog 117 #[dY v0 v1 v2 v3 v4 v5 v6 tr] w fun e w'=>e= .returned (.int .i64 22)∧Fr (fun _=>False) w w':=by
 obtain ⟨W1,b⟩:∃W1,w.alloc (.cells #[.int .i64 v0,.int .i64 v1,.int .i64 v2,.int .i64 v3,.int .i64 v4,.int .i64 v5,.int .i64 v6,.float .f64 tr] 24)=W1:=⟨_,rfl⟩;have c:Fr (fun _=>False) w W1:=by rw [<-b];exact (Fr.refl _ w).alloc _
 have a:aj W1 w.heap.size [.int .i64 v0,.int .i64 v1,.int .i64 v2,.int .i64 v3,.int .i64 v4,.int .i64 v5,.int .i64 v6,.float .f64 tr] 24:=by rw [<-b];exact aj.new w _ _
 have l:=a.cell 0 rfl;have m:=a.cell 1 rfl;have n:=a.cell 2 rfl;have o:=a.cell 3 rfl;have p:=a.cell 4 rfl;have q:=a.cell 5 rfl;have r:=a.cell 6 rfl;have s:=a.cell 7 rfl;have d:=ae c;have k:decide (v0<=3)=false:=decide_eq_false f;unfold dY;clear c a g h i f
 go_enter Tryz.func117,Tryz.ntmps117
 go_wp2;go_ret;exact ⟨rfl,d.out⟩
theorem pL (g:v1<=9223372036854775807) (i:v2<=9223372036854775807) (j:v3<=9223372036854775807) (k:(1:Int)<=v0) (c1:v0<=3) (h:¬(aL v1=true∧1<=v1∧v1<=256)) (w:World):Calls Tryz.prog 117 #[dY v0 v1 v2 v3 v4 v5 v6 tr] w fun e w'=>e= .returned (.int .i64 22)∧Fr (fun _=>False) w w':=by
 obtain ⟨W1,b⟩:∃W1,w.alloc (.cells #[.int .i64 v0,.int .i64 v1,.int .i64 v2,.int .i64 v3,.int .i64 v4,.int .i64 v5,.int .i64 v6,.float .f64 tr] 24)=W1:=⟨_,rfl⟩;have d:Fr (fun _=>False) w W1:=by rw [<-b];exact (Fr.refl _ w).alloc _
 have a:aj W1 w.heap.size [.int .i64 v0,.int .i64 v1,.int .i64 v2,.int .i64 v3,.int .i64 v4,.int .i64 v5,.int .i64 v6,.float .f64 tr] 24:=by rw [<-b];exact aj.new w _ _
 have l:=a.cell 0 rfl;have m:=a.cell 1 rfl;have n:=a.cell 2 rfl;have o:=a.cell 3 rfl;have p:=a.cell 4 rfl;have q:=a.cell 5 rfl;have r:=a.cell 6 rfl;have s:=a.cell 7 rfl;have f:=ae d;have c:=ae (iO v1 1 256 g h W1);unfold dY;clear d a g i j h
 go_enter Tryz.func117,Tryz.ntmps117
 go_wp2_with fail
 refine (c.out).mono ?_;rintro e w' ⟨rfl,rfl⟩;clear c b;go_wp2;go_ret;exact ⟨rfl,f.out⟩
theorem pM (h:v1<=9223372036854775807) (i:v2<=9223372036854775807) (k:v3<=9223372036854775807) (l:(1:Int)<=v0) (c1:v0<=3) (c2:aL v1=true∧1<=v1∧v1<=256) (j:¬(aL v2=true∧1<=v2∧v2<=1024)) (w:World):Calls Tryz.prog 117 #[dY v0 v1 v2 v3 v4 v5 v6 tr] w fun e w'=>e= .returned (.int .i64 22)∧Fr (fun _=>False) w w':=by
 obtain ⟨W1,b⟩:∃W1,w.alloc (.cells #[.int .i64 v0,.int .i64 v1,.int .i64 v2,.int .i64 v3,.int .i64 v4,.int .i64 v5,.int .i64 v6,.float .f64 tr] 24)=W1:=⟨_,rfl⟩;have f:Fr (fun _=>False) w W1:=by rw [<-b];exact (Fr.refl _ w).alloc _
 have a:aj W1 w.heap.size [.int .i64 v0,.int .i64 v1,.int .i64 v2,.int .i64 v3,.int .i64 v4,.int .i64 v5,.int .i64 v6,.float .f64 tr] 24:=by rw [<-b];exact aj.new w _ _
 have m:=a.cell 0 rfl;have n:=a.cell 1 rfl;have o:=a.cell 2 rfl;have p:=a.cell 3 rfl;have q:=a.cell 4 rfl;have r:=a.cell 5 rfl;have s:=a.cell 6 rfl;have t:=a.cell 7 rfl;have g:=ae f;have c:=ae (aB v1 1 256 h c2.1 c2.2.1 c2.2.2 W1);have d:=ae (iO v2 1 1024 i j W1);unfold dY;clear f a h i k j c2
 go_enter Tryz.func117,Tryz.ntmps117
 go_wp2_with fail
 refine (c.out).mono ?_;rintro e w' ⟨rfl,rfl⟩;clear c b;go_wp2_with fail
 refine (d.out).mono ?_;rintro e w' ⟨rfl,rfl⟩;clear d;go_wp2;go_ret;exact ⟨rfl,g.out⟩
theorem pN (j:v1<=9223372036854775807) (k:v2<=9223372036854775807) (l:v3<=9223372036854775807) (n:(1:Int)<=v0) (c1:v0<=3) (c2:aL v1=true∧1<=v1∧v1<=256) (h:aL v2=true∧1<=v2∧v2<=1024) (m:¬(aL v3=true∧16<=v3∧v3<=131072)) (w:World):Calls Tryz.prog 117 #[dY v0 v1 v2 v3 v4 v5 v6 tr] w fun e w'=>e= .returned (.int .i64 22)∧Fr (fun _=>False) w w':=by
 obtain ⟨W1,b⟩:∃W1,w.alloc (.cells #[.int .i64 v0,.int .i64 v1,.int .i64 v2,.int .i64 v3,.int .i64 v4,.int .i64 v5,.int .i64 v6,.float .f64 tr] 24)=W1:=⟨_,rfl⟩;have g:Fr (fun _=>False) w W1:=by rw [<-b];exact (Fr.refl _ w).alloc _
 have a:aj W1 w.heap.size [.int .i64 v0,.int .i64 v1,.int .i64 v2,.int .i64 v3,.int .i64 v4,.int .i64 v5,.int .i64 v6,.float .f64 tr] 24:=by rw [<-b];exact aj.new w _ _
 have o:=a.cell 0 rfl;have p:=a.cell 1 rfl;have q:=a.cell 2 rfl;have r:=a.cell 3 rfl;have s:=a.cell 4 rfl;have t:=a.cell 5 rfl;have u:=a.cell 6 rfl;have v:=a.cell 7 rfl;have i:=ae g;have c:=ae (aB v1 1 256 j c2.1 c2.2.1 c2.2.2 W1);have d:=ae (aB v2 1 1024 k h.1 h.2.1 h.2.2 W1);have f:=ae (iO v3 16 131072 l m W1);unfold dY;clear g a j k l m c2 h
 go_enter Tryz.func117,Tryz.ntmps117
 go_wp2_with fail
 refine (c.out).mono ?_;rintro e w' ⟨rfl,rfl⟩;clear c b;go_wp2_with fail
 refine (d.out).mono ?_;rintro e w' ⟨rfl,rfl⟩;clear d;go_wp2_with fail
 refine (f.out).mono ?_;rintro e w' ⟨rfl,rfl⟩;clear f;go_wp2;go_ret;exact ⟨rfl,i.out⟩
theorem pO (k:v1<=9223372036854775807) (l:v2<=9223372036854775807) (m:v3<=9223372036854775807) (o:(1:Int)<=v0) (c1:v0<=3) (c2:aL v1=true∧1<=v1∧v1<=256) (h:aL v2=true∧1<=v2∧v2<=1024) (i:aL v3=true∧16<=v3∧v3<=131072) (n:¬(v1<=v3)) (w:World):Calls Tryz.prog 117 #[dY v0 v1 v2 v3 v4 v5 v6 tr] w fun e w'=>e= .returned (.int .i64 22)∧Fr (fun _=>False) w w':=by
 obtain ⟨W1,b⟩:∃W1,w.alloc (.cells #[.int .i64 v0,.int .i64 v1,.int .i64 v2,.int .i64 v3,.int .i64 v4,.int .i64 v5,.int .i64 v6,.float .f64 tr] 24)=W1:=⟨_,rfl⟩;have g:Fr (fun _=>False) w W1:=by rw [<-b];exact (Fr.refl _ w).alloc _
 have a:aj W1 w.heap.size [.int .i64 v0,.int .i64 v1,.int .i64 v2,.int .i64 v3,.int .i64 v4,.int .i64 v5,.int .i64 v6,.float .f64 tr] 24:=by rw [<-b];exact aj.new w _ _
 have q:=a.cell 0 rfl;have r:=a.cell 1 rfl;have s:=a.cell 2 rfl;have t:=a.cell 3 rfl;have u:=a.cell 4 rfl;have v:=a.cell 5 rfl;have x:=a.cell 6 rfl;have y:=a.cell 7 rfl;have j:=ae g;have c:=ae (aB v1 1 256 k c2.1 c2.2.1 c2.2.2 W1);have d:=ae (aB v2 1 1024 l h.1 h.2.1 h.2.2 W1);have f:=ae (aB v3 16 131072 m i.1 i.2.1 i.2.2 W1);have p:decide (v1<=v3)=false:=decide_eq_false n;unfold dY;clear g a k l m n c2 h i
 go_enter Tryz.func117,Tryz.ntmps117
 go_wp2_with fail
 refine (c.out).mono ?_;rintro e w' ⟨rfl,rfl⟩;clear c b;go_wp2_with fail
 refine (d.out).mono ?_;rintro e w' ⟨rfl,rfl⟩;clear d;go_wp2_with fail
 refine (f.out).mono ?_;rintro e w' ⟨rfl,rfl⟩;clear f;go_wp2;go_ret;exact ⟨rfl,j.out⟩
theorem pP (k:v1<=9223372036854775807) (l:v2<=9223372036854775807) (m:v3<=9223372036854775807) (o:(1:Int)<=v0) (c1:v0<=3) (c2:aL v1=true∧1<=v1∧v1<=256) (h:aL v2=true∧1<=v2∧v2<=1024) (i:aL v3=true∧16<=v3∧v3<=131072) (p:v1<=v3) (n:¬((1:Int)<=v4)) (w:World):Calls Tryz.prog 117 #[dY v0 v1 v2 v3 v4 v5 v6 tr] w fun e w'=>e= .returned (.int .i64 22)∧Fr (fun _=>False) w w':=by
 obtain ⟨W1,b⟩:∃W1,w.alloc (.cells #[.int .i64 v0,.int .i64 v1,.int .i64 v2,.int .i64 v3,.int .i64 v4,.int .i64 v5,.int .i64 v6,.float .f64 tr] 24)=W1:=⟨_,rfl⟩;have g:Fr (fun _=>False) w W1:=by rw [<-b];exact (Fr.refl _ w).alloc _
 have a:aj W1 w.heap.size [.int .i64 v0,.int .i64 v1,.int .i64 v2,.int .i64 v3,.int .i64 v4,.int .i64 v5,.int .i64 v6,.float .f64 tr] 24:=by rw [<-b];exact aj.new w _ _
 have r:=a.cell 0 rfl;have s:=a.cell 1 rfl;have t:=a.cell 2 rfl;have u:=a.cell 3 rfl;have v:=a.cell 4 rfl;have x:=a.cell 5 rfl;have y:=a.cell 6 rfl;have z:=a.cell 7 rfl;have j:=ae g;have c:=ae (aB v1 1 256 k c2.1 c2.2.1 c2.2.2 W1);have d:=ae (aB v2 1 1024 l h.1 h.2.1 h.2.2 W1);have f:=ae (aB v3 16 131072 m i.1 i.2.1 i.2.2 W1);have q:decide ((1:Int)<=v4)=false:=decide_eq_false n;unfold dY;clear g a k l m n c2 h i
 go_enter Tryz.func117,Tryz.ntmps117
 go_wp2_with fail
 refine (c.out).mono ?_;rintro e w' ⟨rfl,rfl⟩;clear c b;go_wp2_with fail
 refine (d.out).mono ?_;rintro e w' ⟨rfl,rfl⟩;clear d;go_wp2_with fail
 refine (f.out).mono ?_;rintro e w' ⟨rfl,rfl⟩;clear f;go_wp2;go_ret;exact ⟨rfl,j.out⟩
theorem pQ (k:v1<=9223372036854775807) (l:v2<=9223372036854775807) (m:v3<=9223372036854775807) (o:(1:Int)<=v0) (c1:v0<=3) (c2:aL v1=true∧1<=v1∧v1<=256) (h:aL v2=true∧1<=v2∧v2<=1024) (i:aL v3=true∧16<=v3∧v3<=131072) (p:v1<=v3) (q:(1:Int)<=v4) (n:¬(v4<=64)) (w:World):Calls Tryz.prog 117 #[dY v0 v1 v2 v3 v4 v5 v6 tr] w fun e w'=>e= .returned (.int .i64 22)∧Fr (fun _=>False) w w':=by
 obtain ⟨W1,b⟩:∃W1,w.alloc (.cells #[.int .i64 v0,.int .i64 v1,.int .i64 v2,.int .i64 v3,.int .i64 v4,.int .i64 v5,.int .i64 v6,.float .f64 tr] 24)=W1:=⟨_,rfl⟩;have g:Fr (fun _=>False) w W1:=by rw [<-b];exact (Fr.refl _ w).alloc _
 have a:aj W1 w.heap.size [.int .i64 v0,.int .i64 v1,.int .i64 v2,.int .i64 v3,.int .i64 v4,.int .i64 v5,.int .i64 v6,.float .f64 tr] 24:=by rw [<-b];exact aj.new w _ _
 have s:=a.cell 0 rfl;have t:=a.cell 1 rfl;have u:=a.cell 2 rfl;have v:=a.cell 3 rfl;have x:=a.cell 4 rfl;have y:=a.cell 5 rfl;have z:=a.cell 6 rfl;have A:=a.cell 7 rfl;have j:=ae g;have c:=ae (aB v1 1 256 k c2.1 c2.2.1 c2.2.2 W1);have d:=ae (aB v2 1 1024 l h.1 h.2.1 h.2.2 W1);have f:=ae (aB v3 16 131072 m i.1 i.2.1 i.2.2 W1);have r:decide (v4<=64)=false:=decide_eq_false n;unfold dY;clear g a k l m n c2 h i
 go_enter Tryz.func117,Tryz.ntmps117
 go_wp2_with fail
 refine (c.out).mono ?_;rintro e w' ⟨rfl,rfl⟩;clear c b;go_wp2_with fail
 refine (d.out).mono ?_;rintro e w' ⟨rfl,rfl⟩;clear d;go_wp2_with fail
 refine (f.out).mono ?_;rintro e w' ⟨rfl,rfl⟩;clear f;go_wp2;go_ret;exact ⟨rfl,j.out⟩
theorem pR (k:v1<=9223372036854775807) (l:v2<=9223372036854775807) (m:v3<=9223372036854775807) (o:(1:Int)<=v0) (c1:v0<=3) (c2:aL v1=true∧1<=v1∧v1<=256) (h:aL v2=true∧1<=v2∧v2<=1024) (i:aL v3=true∧16<=v3∧v3<=131072) (p:v1<=v3) (q:(1:Int)<=v4) (r:v4<=64) (n:¬((1:Int)<=v5)) (w:World):Calls Tryz.prog 117 #[dY v0 v1 v2 v3 v4 v5 v6 tr] w fun e w'=>e= .returned (.int .i64 22)∧Fr (fun _=>False) w w':=by
 obtain ⟨W1,b⟩:∃W1,w.alloc (.cells #[.int .i64 v0,.int .i64 v1,.int .i64 v2,.int .i64 v3,.int .i64 v4,.int .i64 v5,.int .i64 v6,.float .f64 tr] 24)=W1:=⟨_,rfl⟩;have g:Fr (fun _=>False) w W1:=by rw [<-b];exact (Fr.refl _ w).alloc _
 have a:aj W1 w.heap.size [.int .i64 v0,.int .i64 v1,.int .i64 v2,.int .i64 v3,.int .i64 v4,.int .i64 v5,.int .i64 v6,.float .f64 tr] 24:=by rw [<-b];exact aj.new w _ _
 have t:=a.cell 0 rfl;have u:=a.cell 1 rfl;have v:=a.cell 2 rfl;have x:=a.cell 3 rfl;have y:=a.cell 4 rfl;have z:=a.cell 5 rfl;have A:=a.cell 6 rfl;have B:=a.cell 7 rfl;have j:=ae g;have c:=ae (aB v1 1 256 k c2.1 c2.2.1 c2.2.2 W1);have d:=ae (aB v2 1 1024 l h.1 h.2.1 h.2.2 W1);have f:=ae (aB v3 16 131072 m i.1 i.2.1 i.2.2 W1);have s:decide ((1:Int)<=v5)=false:=decide_eq_false n;unfold dY;clear g a k l m n c2 h i
 go_enter Tryz.func117,Tryz.ntmps117
 go_wp2_with fail
 refine (c.out).mono ?_;rintro e w' ⟨rfl,rfl⟩;clear c b;go_wp2_with fail
 refine (d.out).mono ?_;rintro e w' ⟨rfl,rfl⟩;clear d;go_wp2_with fail
 refine (f.out).mono ?_;rintro e w' ⟨rfl,rfl⟩;clear f;go_wp2;go_ret;exact ⟨rfl,j.out⟩
theorem pS (k:v1<=9223372036854775807) (l:v2<=9223372036854775807) (m:v3<=9223372036854775807) (o:(1:Int)<=v0) (c1:v0<=3) (c2:aL v1=true∧1<=v1∧v1<=256) (h:aL v2=true∧1<=v2∧v2<=1024) (i:aL v3=true∧16<=v3∧v3<=131072) (p:v1<=v3) (q:(1:Int)<=v4) (r:v4<=64) (s:(1:Int)<=v5) (n:¬(v5<=4096)) (w:World):Calls Tryz.prog 117 #[dY v0 v1 v2 v3 v4 v5 v6 tr] w fun e w'=>e= .returned (.int .i64 22)∧Fr (fun _=>False) w w':=by
 obtain ⟨W1,b⟩:∃W1,w.alloc (.cells #[.int .i64 v0,.int .i64 v1,.int .i64 v2,.int .i64 v3,.int .i64 v4,.int .i64 v5,.int .i64 v6,.float .f64 tr] 24)=W1:=⟨_,rfl⟩;have g:Fr (fun _=>False) w W1:=by rw [<-b];exact (Fr.refl _ w).alloc _
 have a:aj W1 w.heap.size [.int .i64 v0,.int .i64 v1,.int .i64 v2,.int .i64 v3,.int .i64 v4,.int .i64 v5,.int .i64 v6,.float .f64 tr] 24:=by rw [<-b];exact aj.new w _ _
 have u:=a.cell 0 rfl;have v:=a.cell 1 rfl;have x:=a.cell 2 rfl;have y:=a.cell 3 rfl;have z:=a.cell 4 rfl;have A:=a.cell 5 rfl;have B:=a.cell 6 rfl;have C:=a.cell 7 rfl;have j:=ae g;have c:=ae (aB v1 1 256 k c2.1 c2.2.1 c2.2.2 W1);have d:=ae (aB v2 1 1024 l h.1 h.2.1 h.2.2 W1);have f:=ae (aB v3 16 131072 m i.1 i.2.1 i.2.2 W1);have t:decide (v5<=4096)=false:=decide_eq_false n;unfold dY;clear g a k l m n c2 h i
 go_enter Tryz.func117,Tryz.ntmps117
 go_wp2_with fail
 refine (c.out).mono ?_;rintro e w' ⟨rfl,rfl⟩;clear c b;go_wp2_with fail
 refine (d.out).mono ?_;rintro e w' ⟨rfl,rfl⟩;clear d;go_wp2_with fail
 refine (f.out).mono ?_;rintro e w' ⟨rfl,rfl⟩;clear f;go_wp2;go_ret;exact ⟨rfl,j.out⟩
theorem nN (k:v1<=9223372036854775807) (l:v2<=9223372036854775807) (m:v3<=9223372036854775807) (o:(1:Int)<=v0) (c1:v0<=3) (c2:aL v1=true∧1<=v1∧v1<=256) (h:aL v2=true∧1<=v2∧v2<=1024) (i:aL v3=true∧16<=v3∧v3<=131072) (p:v1<=v3) (q:(1:Int)<=v4) (r:v4<=64) (s:(1:Int)<=v5) (t:v5<=4096) (n:¬((0:Int)<=v6)) (w:World):Calls Tryz.prog 117 #[dY v0 v1 v2 v3 v4 v5 v6 tr] w fun e w'=>e= .returned (.int .i64 22)∧Fr (fun _=>False) w w':=by
 obtain ⟨W1,b⟩:∃W1,w.alloc (.cells #[.int .i64 v0,.int .i64 v1,.int .i64 v2,.int .i64 v3,.int .i64 v4,.int .i64 v5,.int .i64 v6,.float .f64 tr] 24)=W1:=⟨_,rfl⟩;have g:Fr (fun _=>False) w W1:=by rw [<-b];exact (Fr.refl _ w).alloc _
 have a:aj W1 w.heap.size [.int .i64 v0,.int .i64 v1,.int .i64 v2,.int .i64 v3,.int .i64 v4,.int .i64 v5,.int .i64 v6,.float .f64 tr] 24:=by rw [<-b];exact aj.new w _ _
 have v:=a.cell 0 rfl;have x:=a.cell 1 rfl;have y:=a.cell 2 rfl;have z:=a.cell 3 rfl;have A:=a.cell 4 rfl;have B:=a.cell 5 rfl;have C:=a.cell 6 rfl;have D:=a.cell 7 rfl;have j:=ae g;have c:=ae (aB v1 1 256 k c2.1 c2.2.1 c2.2.2 W1);have d:=ae (aB v2 1 1024 l h.1 h.2.1 h.2.2 W1);have f:=ae (aB v3 16 131072 m i.1 i.2.1 i.2.2 W1);have u:decide ((0:Int)<=v6)=false:=decide_eq_false n;unfold dY;clear g a k l m n c2 h i
 go_enter Tryz.func117,Tryz.ntmps117
 go_wp2_with fail
 refine (c.out).mono ?_;rintro e w' ⟨rfl,rfl⟩;clear c b;go_wp2_with fail
 refine (d.out).mono ?_;rintro e w' ⟨rfl,rfl⟩;clear d;go_wp2_with fail
 refine (f.out).mono ?_;rintro e w' ⟨rfl,rfl⟩;clear f;go_wp2;go_ret;exact ⟨rfl,j.out⟩
theorem nO (k:v1<=9223372036854775807) (l:v2<=9223372036854775807) (m:v3<=9223372036854775807) (p:(1:Int)<=v0) (c1:v0<=3) (c2:aL v1=true∧1<=v1∧v1<=256) (h:aL v2=true∧1<=v2∧v2<=1024) (i:aL v3=true∧16<=v3∧v3<=131072) (q:v1<=v3) (r:(1:Int)<=v4) (s:v4<=64) (t:(1:Int)<=v5) (u:v5<=4096) (o:(0:Int)<=v6) (n:¬(v6<=16)) (w:World):Calls Tryz.prog 117 #[dY v0 v1 v2 v3 v4 v5 v6 tr] w fun e w'=>e= .returned (.int .i64 22)∧Fr (fun _=>False) w w':=by
 obtain ⟨W1,b⟩:∃W1,w.alloc (.cells #[.int .i64 v0,.int .i64 v1,.int .i64 v2,.int .i64 v3,.int .i64 v4,.int .i64 v5,.int .i64 v6,.float .f64 tr] 24)=W1:=⟨_,rfl⟩;have g:Fr (fun _=>False) w W1:=by rw [<-b];exact (Fr.refl _ w).alloc _
 have a:aj W1 w.heap.size [.int .i64 v0,.int .i64 v1,.int .i64 v2,.int .i64 v3,.int .i64 v4,.int .i64 v5,.int .i64 v6,.float .f64 tr] 24:=by rw [<-b];exact aj.new w _ _
 have x:=a.cell 0 rfl;have y:=a.cell 1 rfl;have z:=a.cell 2 rfl;have A:=a.cell 3 rfl;have B:=a.cell 4 rfl;have C:=a.cell 5 rfl;have D:=a.cell 6 rfl;have E:=a.cell 7 rfl;have j:=ae g;have c:=ae (aB v1 1 256 k c2.1 c2.2.1 c2.2.2 W1);have d:=ae (aB v2 1 1024 l h.1 h.2.1 h.2.2 W1);have f:=ae (aB v3 16 131072 m i.1 i.2.1 i.2.2 W1);have v:decide (v6<=16)=false:=decide_eq_false n;unfold dY;clear g a k l m n c2 h i
 go_enter Tryz.func117,Tryz.ntmps117
 go_wp2_with fail
 refine (c.out).mono ?_;rintro e w' ⟨rfl,rfl⟩;clear c b;go_wp2_with fail
 refine (d.out).mono ?_;rintro e w' ⟨rfl,rfl⟩;clear d;go_wp2_with fail
 refine (f.out).mono ?_;rintro e w' ⟨rfl,rfl⟩;clear f;go_wp2;go_ret;exact ⟨rfl,j.out⟩
theorem nP {c:Cf} (q:c.kind=1∨c.kind=2∨c.kind=3) (r:aL (c.Pg:Int)=true) (s:1<=c.Pg) (v:c.Pg<=256) (o:aL (c.block:Int)=true) (t:1<=c.block) (p:c.block<=1024) (w1:aL (c.Wd:Int)=true) (w2:16<=c.Wd) (w3:c.Wd<=131072) (w4:c.Pg<=c.Wd) (x:1<=c.Sl) (y:c.Sl<=64) (z:1<=c.stack) (A:c.stack<=4096) (n:c.Ah<=16) (u:¬c.Fs<=4096) (w:World):Calls Tryz.prog 117 #[kF c] w fun e w'=>e= .returned (.int .i64 22)∧Fr (fun _=>False) w w':=by
 obtain ⟨W1,b⟩:∃W1,w.alloc (.cells #[.int .i64 (c.kind:Int),.int .i64 (c.Pg:Int),.int .i64 (c.block:Int),.int .i64 (c.Wd:Int),.int .i64 (c.Sl:Int),.int .i64 (c.stack:Int),.int .i64 (c.Ah:Int),.float .f64 c.trig] 24)=W1:=⟨_,rfl⟩;have k:Fr (fun _=>False) w W1:=by rw [<-b];exact (Fr.refl _ w).alloc _
 have j:aj W1 w.heap.size (wI c) 24:=by rw [<-b];exact aj.new w _ _
 obtain ⟨B,C,D,E,F,G,H,I⟩:=jI j;have d:=ae k;have a:=ae (fy (c:=c) W1 q s p n w3);have q0:(1:Int)<=(c.kind:Int):=by omega
 have J:(c.kind:Int)<=3:=by omega
 have K:(c.Pg:Int)<=(c.Wd:Int):=by omega
 have L:(1:Int)<=(c.Sl:Int):=by omega
 have M:(c.Sl:Int)<=64:=by omega
 have N:(1:Int)<=(c.stack:Int):=by omega
 have O:(c.stack:Int)<=4096:=by omega
 have P:(0:Int)<=(c.Ah:Int):=by omega
 have Q:(c.Ah:Int)<=16:=by omega
 have R:(4096:Int)<(c.Fs:Int):=by omega
 have f:=ae (aB (c.Pg:Int) 1 256 (by omega) r (by omega) (by omega) W1);have g:=ae (aB (c.block:Int) 1 1024 (by omega) o (by omega) (by omega) W1);have i:=ae (aB (c.Wd:Int) 16 131072 (by omega) w1 (by omega) (by omega) W1);unfold kF at a ⊢;clear q r s v o t p w1 w2 w3 w4 x y z A n u k j;generalize (c.kind:Int)=v0 at*;generalize (c.Pg:Int)=v1 at*;generalize (c.block:Int)=v2 at*;generalize (c.Wd:Int)=v3 at*;generalize (c.Sl:Int)=v4 at*;generalize (c.stack:Int)=v5 at*;generalize (c.Ah:Int)=v6 at*;generalize (c.Fs:Int)=v7 at*
 go_enter Tryz.func117,Tryz.ntmps117
 go_wp2_with fail
 refine (f.out).mono ?_;rintro e w' ⟨rfl,rfl⟩;clear f b;go_wp2_with fail
 refine (g.out).mono ?_;rintro e w' ⟨rfl,rfl⟩;clear g;go_wp2_with fail
 refine (i.out).mono ?_;rintro e w' ⟨rfl,rfl⟩;clear i;go_wp2_with fail
 refine (a.out).mono ?_;rintro e w2 ⟨rfl,l⟩;have m:=ae (d.out.trans l (fun _ h=>h.elim));clear a l d;go_wp2;go_ret;exact ⟨rfl,m.out⟩
theorem sC (a:v1<=9223372036854775807) (b:v2<=9223372036854775807) (d:v3<=9223372036854775807) (r:¬∃c,cT c∧dY v0 v1 v2 v3 v4 v5 v6 tr=kF c) (w:World):Calls Tryz.prog 117 #[dY v0 v1 v2 v3 v4 v5 v6 tr] w fun e w'=>e= .returned (.int .i64 22)∧Fr (fun _=>False) w w':=by
 by_cases f:(1:Int)<=v0
 case neg=>exact pJ a b d f w
 by_cases c1:v0<=3
 case neg=>exact pK a b d f c1 w
 by_cases c2:aL v1=true∧1<=v1∧v1<=256
 case neg=>exact pL a b d f c1 c2 w
 by_cases g:aL v2=true∧1<=v2∧v2<=1024
 case neg=>exact pM a b d f c1 c2 g w
 by_cases h:aL v3=true∧16<=v3∧v3<=131072
 case neg=>exact pN a b d f c1 c2 g h w
 by_cases i:v1<=v3
 case neg=>exact pO a b d f c1 c2 g h i w
 by_cases j:(1:Int)<=v4
 case neg=>exact pP a b d f c1 c2 g h i j w
 by_cases l:v4<=64
 case neg=>exact pQ a b d f c1 c2 g h i j l w
 by_cases o:(1:Int)<=v5
 case neg=>exact pR a b d f c1 c2 g h i j l o w
 by_cases q:v5<=4096
 case neg=>exact pS a b d f c1 c2 g h i j l o q w
 by_cases k:(0:Int)<=v6
 case neg=>exact nN a b d f c1 c2 g h i j l o q k w
 by_cases p:v6<=16
 case neg=>exact nO a b d f c1 c2 g h i j l o q k p w
 obtain ⟨n0,rfl⟩:=Int.eq_ofNat_of_zero_le (show 0<=v0 by omega);obtain ⟨s,rfl⟩:=Int.eq_ofNat_of_zero_le (show 0<=v1 by omega);obtain ⟨t,rfl⟩:=Int.eq_ofNat_of_zero_le (show 0<=v2 by omega);obtain ⟨u,rfl⟩:=Int.eq_ofNat_of_zero_le (show 0<=v3 by omega);obtain ⟨v,rfl⟩:=Int.eq_ofNat_of_zero_le (show 0<=v4 by omega);obtain ⟨x,rfl⟩:=Int.eq_ofNat_of_zero_le (show 0<=v5 by omega);obtain ⟨y,rfl⟩:=Int.eq_ofNat_of_zero_le (show 0<=v6 by omega);obtain ⟨c,m⟩:∃c:Cf,c=⟨n0,s,t,u,v,x,y,tr⟩:=⟨_,rfl⟩;have z:dY n0 s t u v x y tr=kF c:=by rw [m];rfl
 have A:c.kind=n0∧c.Pg=s∧c.block=t∧c.Wd=u∧c.Sl=v∧c.stack=x∧c.Ah=y:=by rw [m];exact ⟨rfl,rfl,rfl,rfl,rfl,rfl,rfl⟩
 obtain ⟨rfl,rfl,rfl,rfl,rfl,rfl,rfl⟩:=A;have n:c.kind=1∨c.kind=2∨c.kind=3:=by omega
 by_cases hf:c.Fs<=4096
 ·exact absurd ⟨c,⟨n,c2.1,by omega,by omega,g.1,by omega,by omega,h.1,by omega,by omega,by omega,by omega,by omega,by omega,by omega,by omega,hf⟩,z⟩ r
 ·rw [z];exact nP n c2.1 (by omega) (by omega) g.1 (by omega) (by omega) h.1 (by omega) (by omega) (by omega) (by omega) (by omega) (by omega) (by omega) (by omega) hf w
end
def rQ (c:Cf) (A:AG) (w:World) (e:Ending) (w':World):Prop:=∃b T,e= .returned (.tuple #[.pointer (some ⟨b,0,none⟩),.int .i64 0])∧bM b c A (List.replicate c.Sl 0) 0 0 T w'∧(∀k,T k->w.heap.size<=k)∧Fr (fun _=>False) w w'
section
variable {c:Cf} {A:AG} {w:World}
theorem dT {n z:Nat}:¬Reach A.gr (List.replicate n 0) z:=by
 intro h
 induction h with
 |root h1 h2=>exact h2 (List.eq_of_mem_replicate h1)
 |step _ _ _ ih=>exact ih
theorem ll {d m e g i:Nat} {S:Nat->Prop} {w4 w5 w6 j:World} (p:cT c) (o:bv w) (n:∀k,S k->w4.heap.size<=k) (L:w.heap.size<=d) (r:d<w4.heap.size) (l:∀k,S k->k<w5.heap.size) (t:w5.heap.size<=e) (u:w5.heap.size<=g) (E:e<w6.heap.size) (F:g<w6.heap.size) (I:w6.heap.size<=i) (s:w4.heap.size<=w5.heap.size) (v:w5.heap.size<=w6.heap.size)
  (C:bn j m S c.Pg c.W c.Fs 0 0 (fun _=>false) (fun _=>0)) (D:aV j e g (List.replicate c.Sl 0)) (H:bR j i m c.Pg c.Pg (c.Pg+c.Wd)) (z:gq j d c m e i none 0 0) (hf:Fr (fun _=>False) w j):rQ c A w (.returned (.tuple #[.pointer (some ⟨d,0,none⟩),.int .i64 0])) j:=by
 have G:aN<w.heap.size:=aD (o 0 0 rfl);refine ⟨d,eZ ⟨d,m,e,g⟩ i S,rfl,⟨⟨d,m,e,g⟩,fun _=>0,fun _=>0,c.Pg,i,none,0,0,S,rfl,⟨p,z,by rw [List.map_const',List.length_replicate];exact D,H,ak o hf (fun h=>h),⟨rfl,p.page2,fun x f=>absurd f dT,fun x y f=>absurd f dT,fun x f=>absurd f dT,fun x f=>absurd f dT,fun x f=>absurd f dT⟩,List.length_replicate,Nat.zero_le _,.inl rfl,⟨rfl,0,0,fun _=>false,⟨_,C,fun a B=>absurd B.2 Bool.false_ne_true⟩,fun q=> ?_⟩,fun k b=> ?_,?_⟩,fun k=>Iff.rfl,fun _=>rfl⟩,fun k b=> ?_,hf⟩
 ·symm;rw [Bool.and_eq_false_iff,decide_eq_false_iff_not,decide_eq_false_iff_not,Nat.add_zero];omega
 ·have J:=n k b;have K:=l k b;exact ⟨by show k≠d;omega,by show k≠e;omega,by show k≠g;omega,by omega,by omega⟩
 ·show d≠e∧d≠g∧d≠i∧e≠i∧g≠i∧d≠aN∧g≠aN∧i≠aN∧e≠aN
  omega
 ·rcases b with b|b|b|b|b
  ·have:=n k b;omega
  ·dsimp only at b;omega
  ·dsimp only at b;omega
  ·dsimp only at b;omega
  ·omega
theorem ro (hc:cT c) (hT:bv w) (A:AG):Calls Tryz.prog 49 #[kF c] w (rQ c A w):=by
 obtain ⟨W1,cd⟩:∃W1,w.alloc (.cells #[.int .i64 (c.kind:Int),.int .i64 (c.Pg:Int),.int .i64 (c.block:Int),.int .i64 (c.Wd:Int),.int .i64 (c.Sl:Int),.int .i64 (c.stack:Int),.int .i64 (c.Ah:Int),.float .f64 c.trig] 24)=W1:=⟨_,rfl⟩;have cx:Fr (fun _=>False) w W1:=by rw [<-cd];exact (Fr.refl _ w).alloc _
 have n:aj W1 w.heap.size (wI c) 24:=by rw [<-cd];exact aj.new w _ _
 have bs:=ae (pT hc W1);have b4:=ae (fun w1=>fy (c:=c) w1 hc.kind1 hc.page2 hc.block3 hc.ahead1 hc.words3);obtain ⟨k0,k1,k2,k3,k4,k5,k6,k7⟩:=jI n;have HC:=ae hc;have ct:Hid ((Tryz.prog.info? 24).map (·.size)=some 8):=by show _=_;kernel_rfl
 have HT:=ae hT;have cp:=ae cx;have bo:=ae n;have c3:=hc.page3;have c4:=hc.words3;clear cx n hT hc;unfold kF at bs b4 ⊢;generalize hQ:(rQ c A w)=Q;have HQ:=ae hQ;clear hQ
 go_enter Tryz.func49,Tryz.ntmps49
 go_wp2_with fail
 refine (bs.out).mono ?_;rintro e w2 ⟨rfl,bj⟩;obtain ⟨k0,k1,k2,k3,k4,k5,k6,k7⟩:=jI (bo.out.frame bj (fun h=>h));have bk:=ae (bo.out.frame bj (fun h=>h));have b0:=ae (cp.out.trans bj (fun _ h=>h.elim));have c5:w.heap.size<w2.heap.size:=(bk.out).lt;have bb:=ae HC.out.W5;clear bs bj cd cp bo;obtain ⟨E,bd⟩:∃E,w2.alloc (.cells (#[.int .i64 (c.kind:Int),.int .i64 (c.Pg:Int),.int .i64 (c.block:Int),.int .i64 (c.Wd:Int),.int .i64 (c.Sl:Int),.int .i64 (c.stack:Int),.int .i64 (c.Ah:Int),.float .f64 c.trig,.pointer none,.pointer none,.pointer none,.pointer none,.int .i64 0,.int .i64 0]) 117)=E:=⟨_,rfl⟩;have ck:Fr (fun _=>False) w2 E:=by rw [<-bd];exact (Fr.refl _ w2).alloc _
 have cf:aj E w2.heap.size (wI c++[.pointer none,.pointer none,.pointer none,.pointer none,.int .i64 0,.int .i64 0]) 117:=by rw [<-bd];exact aj.new w2 _ _
 have J:w2.heap.size<E.heap.size:=cf.lt;have O:=ae (fun w1 (hf:Fr (fun k=>k=w2.heap.size) E.drew w1)=>((bk.out.frame ck (fun h=>h)).drew).frame hf (fun e=>by omega));have a8:=ae (fun w1 (hf:Fr (fun _=>False) E.drew w1)=>cf.drew.frame hf (fun h=>h));have a9:=ae (fun w1=>xC c.W c.Pg c.Fs (by have:=HC.out.words4;have:=HC.out.page2;have h9:1<=c.Wd/c.Pg:=(Nat.le_div_iff_mul_le (by omega)).2 (by omega);unfold Cf.Fs;generalize c.Wd/c.Pg=X at*;omega) HC.out.frames1 HC.out.page1 HC.out.page2 HC.out.page3 (by have:=bb.out;omega) bb.out.1 HC.out.Wp w1);have cs:=ae (b0.out.trans ck (fun _ h=>h.elim));clear cf ck;by_cases a5:c.kind=3
 ·have l:((c.kind:Int) !=3)=false:=by rw [a5];rfl
  have ax:(c.Pg:Int)+(c.Wd:Int)=(c.W:Int):=by unfold Cf.W;rw [if_pos a5];push_cast;omega
  have av:=ae ax;clear ax a5;go_wp2;rw [av.out];clear bd l;refine aS 13 12 (fun a I=>Fr (fun k=>k=w2.heap.size) a I) (fun a I=>Fr (fun _=>False) a I) [.c (.pointer (some ⟨w2.heap.size,0,none⟩)),.c (.int .i64 (c.W:Int)),.c (.pointer (some ⟨w.heap.size,1,none⟩)),.c (.int .i64 (c.Pg:Int)),.c (.agg #[.int .i64 (c.kind:Int),.int .i64 (c.Pg:Int),.int .i64 (c.block:Int),.int .i64 (c.Wd:Int),.int .i64 (c.Sl:Int),.int .i64 (c.stack:Int),.int .i64 (c.Ah:Int),.float .f64 c.trig]),.c (.int .i64 (c.Fs:Int)),.p (fun v w'=>∃m S,v=(.tuple #[.pointer (some ⟨m,0,none⟩),.int .i64 0])∧bn w' m S c.Pg c.W c.Fs 0 0 (fun _=>false) (fun _=>0)∧∀k,S k->E.heap.size<=k),.p (fun v w'=>∃m S,v=(.tuple #[.pointer (some ⟨m,0,none⟩),.int .i64 0])∧bn w' m S c.Pg c.W c.Fs 0 0 (fun _=>false) (fun _=>0)∧∀k,S k->E.heap.size<=k),.p (fun v w'=>∃m S,v= .pointer (some ⟨m,0,none⟩)∧bn w' m S c.Pg c.W c.Fs 0 0 (fun _=>false) (fun _=>0)∧∀k,S k->E.heap.size<=k),.p (fun v _=>True),.c (.pointer (some ⟨w2.heap.size,0,none⟩)),.c (.pointer (some ⟨w2.heap.size,8,none⟩)),.p (fun v w'=>∃m S,(bn w' m S c.Pg c.W c.Fs 0 0 (fun _=>false) (fun _=>0)∧∀k,S k->E.heap.size<=k)∧aj w' w2.heap.size (wI c++[.pointer (some ⟨m,0,none⟩),.pointer none,.pointer none,.pointer none,.int .i64 0,.int .i64 0]) 117)] (fun j=>false) (by kernel_rfl) (by kernel_rfl) (by kernel_rfl) (by kernel_rfl) rfl (fun _=>Fr.refl _ _) (fun _ _ h=>h.mono (fun _ h=>h.elim)) (fun _ _ _ f b=>f.trans b (fun _ h=>h.elim)) (fun _ _ _ f b=>f.trans b (fun _ h=>h.elim)) (fun _ _ _ f b=>(f.mono (fun _ h=>h.elim)).trans b (fun _ h=> .inl h)) (fun _ _ h=>h.size) ⟨fun v w1 w2 h i=>let ⟨m,S,e,f,b⟩:=h;⟨m,S,e,f.keep i,b⟩,fun v w1 w2 h i=>let ⟨m,S,e,f,b⟩:=h;⟨m,S,e,f.keep i,b⟩,fun v w1 w2 h i=>let ⟨m,S,e,f,b⟩:=h;⟨m,S,e,f.keep i,b⟩,fun _ _ _ h _=>h,fun v w1 w2 h i=>let ⟨m,S,⟨f,b⟩,Y⟩:=h;⟨m,S,⟨f.keep i,b⟩,Y.frame i (fun h=>h)⟩,trivial⟩ ⟨.inr (fun v w1 w2 h i=>let ⟨m,S,e,f,b⟩:=h;⟨m,S,e,f.frame i (fun k l e=>by have:=b k l;have:=J;omega),b⟩),.inr (fun v w1 w2 h i=>let ⟨m,S,e,f,b⟩:=h;⟨m,S,e,f.frame i (fun k l e=>by have:=b k l;have:=J;omega),b⟩),.inr (fun v w1 w2 h i=>let ⟨m,S,e,f,b⟩:=h;⟨m,S,e,f.frame i (fun k l e=>by have:=b k l;have:=J;omega),b⟩),.inr (fun _ _ _ h _=>h),.inl rfl,trivial⟩ ?_;intro F hF;simp only [cU,PK.val,List.take_succ_cons,List.take_zero,aa,ab,ac] at hF;subst hF;refine ⟨by
   refine ⟨?_,?_,?_,?_,?_,?_,?_,?_,?_,?_,?_,?_,?_,trivial⟩<;>intro vs w1 M u L hx
   all_goals try (apply oV;rotate_left;rfl;exact Fr.refl _ _;go_simp;done)
   all_goals try (apply oV;rotate_left;rfl;exact Fr.refl _ _;have r:=O.out w1 M;have k1:=r.cell 1 rfl;go_simp;done)
   ·have r:=O.out w1 M;refine ao (.agg #[.int .i64 (c.kind:Int),.int .i64 (c.Pg:Int),.int .i64 (c.block:Int),.int .i64 (c.Wd:Int),.int .i64 (c.Sl:Int),.int .i64 (c.stack:Int),.int .i64 (c.Ah:Int),.float .f64 c.trig]) ?_ ⟨rfl,Fr.refl _ _,fun h=>nomatch h⟩;exact dI rfl w.heap.size rfl 24 _ (0,0) _ r Tryz.underlying24 rfl ct.out
   ·refine ar 119 #[.agg #[.int .i64 (c.kind:Int),.int .i64 (c.Pg:Int),.int .i64 (c.block:Int),.int .i64 (c.Wd:Int),.int .i64 (c.Sl:Int),.int .i64 (c.stack:Int),.int .i64 (c.Ah:Int),.float .f64 c.trig]] (by go_simp) ((b4.out w1).mono ?_);rintro e w5 ⟨rfl,hf⟩;exact ⟨_,rfl,rfl,hf,fun h=>nomatch h⟩
   ·have P:=u (by kernel_rfl);refine ar 118 #[.int .i64 (c.W:Int),.int .i64 (c.Pg:Int),.int .i64 (c.Fs:Int)] (by go_simp) ((a9.out w1).mono ?_);rintro e w5 ⟨m,S,rfl,f,b,Y⟩;exact ⟨_,rfl,⟨m,S,rfl,f,fun k l=>Nat.le_trans P.size (b k l)⟩,Y,fun h=>nomatch h⟩
   ·have h6:=L 6 (by kernel_rfl);obtain ⟨m,S,G,q,o⟩:=h6;refine ao (.tuple #[m,.int .i64 0]) (by go_simp) ⟨⟨m,S,rfl,q,o⟩,Fr.refl _ _,fun h=>nomatch h⟩
   ·have h7:=L 7 (by kernel_rfl);obtain ⟨m,S,G,q,o⟩:=h7;refine ao (.pointer (some ⟨m,0,none⟩)) (by go_simp) ⟨⟨m,S,rfl,q,o⟩,Fr.refl _ _,fun h=>nomatch h⟩
   ·have h7:=L 7 (by kernel_rfl);obtain ⟨m,S,G,q,o⟩:=h7;refine ao (.int .i64 0) (by go_simp) ⟨trivial,Fr.refl _ _,fun h=>nomatch h⟩
   ·have h8:=L 8 (by kernel_rfl);obtain ⟨m,S,G,q,o⟩:=h8;have P:=u (by kernel_rfl);have n:=a8.out w1 P;have k8:=aj.cell n 8 rfl;have f8:=aj.free n 8;have g:=(Fr.refl (fun k=>k=w2.heap.size) w1).setCell ⟨w2.heap.size,8,none⟩ (.inl rfl) (.pointer (some ⟨m,0,none⟩));refine bZ (w':=w1.setCell ⟨w2.heap.size,8,none⟩ (.pointer (some ⟨m,0,none⟩))) (by go_simp) ⟨⟨m,S,⟨q.frame g (fun k l e=>by have h9:k=w2.heap.size:=e;have:=o k l;have:=J;omega),o⟩,n.set 8 _⟩,g,fun h=>nomatch h⟩
   ,fun vs w1 M hp hx=> ?_⟩
  obtain ⟨g6,g7,g8,g9,U,_⟩:=hp;obtain ⟨m,S,⟨G,q⟩,o⟩:=U;clear g6 g7 g8 g9 hx;simp only [List.drop_succ_cons,List.drop_zero];have a4:Fr (fun k=>k=w2.heap.size) E w1:=((Fr.refl (fun k=>k=w2.heap.size) E).drew).trans M (fun _ h=> .inl h);have z:=O.out w1 M;have k4:=z.cell 4 rfl;have aq:=ae (oC c.Sl HC.out.slots1 HC.out.slots2 w1);have H8:=ae (af G (af q (af o (af a4 z))));clear G q o a4 z M O a8 a9 av k0 k1 k2 k3 k5 k6 k7;go_wp2_with fail
  refine (aq.out).mono ?_;rintro e w5 ⟨rb,rg,rfl,r1,r2,r3,T⟩;have K:=H8.out.2.2.1.frame T (fun h=>h);have k9:=aj.cell K 9 rfl;have f9:=aj.free K 9;obtain ⟨W5,Z⟩:∃W5,w5.setCell ⟨w2.heap.size,9,none⟩ (.pointer (some ⟨rb,0,none⟩))=W5:=⟨_,rfl⟩;have g:Fr (fun k=>k=w2.heap.size) w5 W5:=by rw [<-Z];exact (Fr.refl (fun k=>k=w2.heap.size) w5).setCell ⟨w2.heap.size,9,none⟩ (.inl rfl) _
  have a0:aj W5 w2.heap.size (wI c++[.pointer (some ⟨m,0,none⟩),.pointer (some ⟨rb,0,none⟩),.pointer none,.pointer none,.int .i64 0,.int .i64 0]) 117:=by rw [<-Z];exact K.set 9 _
  obtain ⟨g1,g2,g3,g4,g5⟩:=H8.out;have N:=g4.size;have ah:=T.size;have am:=g.size;have D:=(g1.keep T).frame g (fun k l e=>by have h9:k=w2.heap.size:=e;have:=g2 k l;omega);have t:=r1.frame g (fun e=>by omega) (fun e=>by omega);have R:=(g5.frame T (fun h=>h)).frame g (fun e=>by omega);have s:w2.heap.size<W5.heap.size:=by omega
  have x:=ae (fun w1 (hf:Fr (fun k=>k=w2.heap.size) W5.drew w1)=>R.drew.frame hf (fun e=>by omega));have y:=ae (fun w1 (hf:Fr (fun _=>False) W5.drew w1)=>a0.drew.frame hf (fun h=>h));have ap:=ae (fun w1 (hf:Fr (fun _=>False) W5.drew w1)=>mf (D.keep (((Fr.refl (fun _=>False) W5).drew).trans hf (fun _ h=>h.elim))) c.Pg (c.Pg+c.Wd) (by omega) (by have:=bb.out;omega));have a6:((c.Pg+c.Wd:Nat):Int)=(c.Pg:Int)+(c.Wd:Int):=by push_cast;rfl
  have H9:=ae (af g1 (af g2 (af g4 (af r1 (af r2 (af r3 (af T (af g (af D (af t (af N (af ah am))))))))))));clear g1 g2 g3 g4 g5 r1 r2 r3 T g D t N ah am a0 K R aq H8 k4;go_wp2;clear Z k9 f9;refine aS 19 18 (fun a I=>Fr (fun k=>k=w2.heap.size) a I) (fun a I=>Fr (fun _=>False) a I) [.c (.pointer (some ⟨w2.heap.size,0,none⟩)),.c (.pointer (some ⟨w2.heap.size,0,none⟩)),.c (.pointer (some ⟨w2.heap.size,0,none⟩)),.c (.pointer (some ⟨w2.heap.size,8,none⟩)),.c (.pointer (some ⟨m,0,none⟩)),.c (.pointer (some ⟨w.heap.size,1,none⟩)),.c (.int .i64 (c.Pg:Int)),.c (.pointer (some ⟨w.heap.size,1,none⟩)),.c (.int .i64 (c.Pg:Int)),.c (.pointer (some ⟨w.heap.size,3,none⟩)),.c (.int .i64 (c.Wd:Int)),.c (.int .i64 ((c.Pg+c.Wd:Nat):Int)),.p (fun v w'=>∃d,v=(.tuple #[.pointer (some ⟨d,0,none⟩),.int .i64 0])∧bR w' d m c.Pg c.Pg (c.Pg+c.Wd)∧W5.heap.size<=d),.p (fun v w'=>∃d,v=(.tuple #[.pointer (some ⟨d,0,none⟩),.int .i64 0])∧bR w' d m c.Pg c.Pg (c.Pg+c.Wd)∧W5.heap.size<=d),.p (fun v w'=>∃d,v= .pointer (some ⟨d,0,none⟩)∧bR w' d m c.Pg c.Pg (c.Pg+c.Wd)∧W5.heap.size<=d),.p (fun v _=>True),.c (.pointer (some ⟨w2.heap.size,0,none⟩)),.c (.pointer (some ⟨w2.heap.size,10,none⟩)),.p (fun v w'=>∃d,(bR w' d m c.Pg c.Pg (c.Pg+c.Wd)∧W5.heap.size<=d)∧gq w' w2.heap.size c m rb d none 0 0)] (fun j=>false) (by kernel_rfl) (by kernel_rfl) (by kernel_rfl) (by kernel_rfl) rfl (fun _=>Fr.refl _ _) (fun _ _ h=>h.mono (fun _ h=>h.elim)) (fun _ _ _ f b=>f.trans b (fun _ h=>h.elim)) (fun _ _ _ f b=>f.trans b (fun _ h=>h.elim)) (fun _ _ _ f b=>(f.mono (fun _ h=>h.elim)).trans b (fun _ h=> .inl h)) (fun _ _ h=>h.size) ⟨fun v w1 w2 h i=>let ⟨d,e,f,b⟩:=h;⟨d,e,aj.frame f i (fun h=>h),b⟩,fun v w1 w2 h i=>let ⟨d,e,f,b⟩:=h;⟨d,e,aj.frame f i (fun h=>h),b⟩,fun v w1 w2 h i=>let ⟨d,e,f,b⟩:=h;⟨d,e,aj.frame f i (fun h=>h),b⟩,fun _ _ _ h _=>h,fun v w1 w2 h i=>let ⟨d,⟨f,b⟩,Y⟩:=h;⟨d,⟨aj.frame f i (fun h=>h),b⟩,aj.frame Y i (fun h=>h)⟩,trivial⟩ ⟨.inr (fun v w1 w2 h i=>let ⟨d,e,f,b⟩:=h;⟨d,e,aj.frame f i (fun e=>by have:=s;omega),b⟩),.inr (fun v w1 w2 h i=>let ⟨d,e,f,b⟩:=h;⟨d,e,aj.frame f i (fun e=>by have:=s;omega),b⟩),.inr (fun v w1 w2 h i=>let ⟨d,e,f,b⟩:=h;⟨d,e,aj.frame f i (fun e=>by have:=s;omega),b⟩),.inr (fun _ _ _ h _=>h),.inl rfl,trivial⟩ ?_;intro F hF;simp only [cU,PK.val,List.take_succ_cons,List.take_zero,aa,ab,ac] at hF;subst hF;refine ⟨by
   refine ⟨?_,?_,?_,?_,?_,?_,?_,?_,?_,?_,?_,?_,?_,?_,?_,?_,?_,?_,?_,trivial⟩<;>intro vs w1 M u L hx
   all_goals try (apply oV;rotate_left;rfl;exact Fr.refl _ _;go_simp;done)
   all_goals try (apply oV;rotate_left;rfl;exact Fr.refl _ _;have r:=x.out w1 M;have k1:=r.cell 1 rfl;go_simp;done)
   all_goals try (apply oV;rotate_left;rfl;exact Fr.refl _ _;have r:=x.out w1 M;have k3:=r.cell 3 rfl;go_simp;done)
   all_goals try (apply oV;rotate_left;rfl;exact Fr.refl _ _;have k8:=aj.cell (y.out w1 (u (by kernel_rfl))) 8 rfl;go_simp;done)
   all_goals try (apply oV;rotate_left;rfl;exact Fr.refl _ _;(have cy:IntKind.i64.wrap ((c.Pg:Int)+(c.Wd:Int))=(c.Pg:Int)+(c.Wd:Int):=by rw [IntKind.wrap_i64];omega);go_simp;done)
   ·have P:=u (by kernel_rfl);refine ar 121 #[m,.int .i64 (c.Pg:Int),.int .i64 ((c.Pg+c.Wd:Nat):Int)] (by go_simp) ((ap.out w1 P).mono ?_);rintro e w5 ⟨d,rfl,f,b,Y⟩;exact ⟨_,rfl,⟨d,rfl,f,Nat.le_trans P.size b⟩,Y,fun h=>nomatch h⟩
   ·have cb:=L 12 (by kernel_rfl);obtain ⟨d,G,q,o⟩:=cb;refine ao (.tuple #[d,.int .i64 0]) (by go_simp) ⟨⟨d,rfl,q,o⟩,Fr.refl _ _,fun h=>nomatch h⟩
   ·have V:=L 13 (by kernel_rfl);obtain ⟨d,G,q,o⟩:=V;refine ao (.pointer (some ⟨d,0,none⟩)) (by go_simp) ⟨⟨d,rfl,q,o⟩,Fr.refl _ _,fun h=>nomatch h⟩
   ·have V:=L 13 (by kernel_rfl);obtain ⟨d,G,q,o⟩:=V;refine ao (.int .i64 0) (by go_simp) ⟨trivial,Fr.refl _ _,fun h=>nomatch h⟩
   ·have cc:=L 14 (by kernel_rfl);obtain ⟨d,G,q,o⟩:=cc;have P:=u (by kernel_rfl);have n:=y.out w1 P;have c1:=aj.cell n 10 rfl;have c0:=aj.free n 10;have g:=(Fr.refl (fun k=>k=w2.heap.size) w1).setCell ⟨w2.heap.size,10,none⟩ (.inl rfl) (.pointer (some ⟨d,0,none⟩));refine bZ (w':=w1.setCell ⟨w2.heap.size,10,none⟩ (.pointer (some ⟨d,0,none⟩))) (by go_simp) ⟨⟨d,⟨aj.frame q g (fun e=>by have h9:d=w2.heap.size:=e;have:=s;omega),o⟩,n.set 10 _⟩,g,fun h=>nomatch h⟩
   ,fun c2 w6 a7 hp hx=> ?_⟩
  obtain ⟨U,b5,b6,b7,b9,_⟩:=hp;obtain ⟨d,⟨b1,I⟩,b3⟩:=b9;clear U b5 b6 b7 hx;simp only [List.drop_succ_cons,List.drop_zero];have C:rQ c A w (.returned (.tuple #[.pointer (some ⟨w2.heap.size,0,none⟩),.int .i64 0])) w6:=by
   obtain ⟨g1,g2,g4,r1,r2,r3,T,g,D,t,N,ah,am⟩:=H9.out;have B:Fr (fun k=>k=w2.heap.size) W5 w6:=((Fr.refl (fun k=>k=w2.heap.size) W5).drew).trans a7 (fun _ h=> .inl h);have cn:=b0.out.size;have ad:Fr (fun _=>False) w w6:=(((cs.out.trans g4 (fun k l=> .inr (by have h9:k=w2.heap.size:=l;omega))).trans T (fun _ h=>h.elim)).trans g (fun k l=> .inr (by have h9:k=w2.heap.size:=l;omega))).trans B (fun k l=> .inr (by have h9:k=w2.heap.size:=l;omega));refine ll (w4:=E) (w5:=w1) (w6:=W5) HC.out HT.out g2 cn J (fun k l=>(aF _ _ _ _ _ _ _).lt (fun _=>0) S w1 ⟨_,g1,fun _ _=>rfl⟩ k l) r2 r3 t.blk.lt t.row.lt I N (by omega) (D.frame B (fun k l e=>by have h9:k=w2.heap.size:=e;have:=g2 k l;omega)) (t.frame B (fun e=>by omega) (fun e=>by omega)) b1 b3 ad
  rw [HQ.out] at C;have H:=ae C;clear C b1 I b3 H9 a7 x y ap a6;go_wp2;exact H.out
 ·have l:((c.kind:Int) !=3)=true:=by rw [bne_iff_ne];omega
  have ax:(c.Pg:Int)+(c.Wd:Int)+(c.Wd:Int)=(c.W:Int):=by unfold Cf.W;rw [if_neg a5];push_cast;omega
  have av:=ae ax;clear ax a5;go_wp2;rw [av.out];clear bd l;refine aS 13 12 (fun a I=>Fr (fun k=>k=w2.heap.size) a I) (fun a I=>Fr (fun _=>False) a I) [.c (.pointer (some ⟨w2.heap.size,0,none⟩)),.c (.int .i64 (c.W:Int)),.c (.pointer (some ⟨w.heap.size,1,none⟩)),.c (.int .i64 (c.Pg:Int)),.c (.agg #[.int .i64 (c.kind:Int),.int .i64 (c.Pg:Int),.int .i64 (c.block:Int),.int .i64 (c.Wd:Int),.int .i64 (c.Sl:Int),.int .i64 (c.stack:Int),.int .i64 (c.Ah:Int),.float .f64 c.trig]),.c (.int .i64 (c.Fs:Int)),.p (fun v w'=>∃m S,v=(.tuple #[.pointer (some ⟨m,0,none⟩),.int .i64 0])∧bn w' m S c.Pg c.W c.Fs 0 0 (fun _=>false) (fun _=>0)∧∀k,S k->E.heap.size<=k),.p (fun v w'=>∃m S,v=(.tuple #[.pointer (some ⟨m,0,none⟩),.int .i64 0])∧bn w' m S c.Pg c.W c.Fs 0 0 (fun _=>false) (fun _=>0)∧∀k,S k->E.heap.size<=k),.p (fun v w'=>∃m S,v= .pointer (some ⟨m,0,none⟩)∧bn w' m S c.Pg c.W c.Fs 0 0 (fun _=>false) (fun _=>0)∧∀k,S k->E.heap.size<=k),.p (fun v _=>True),.c (.pointer (some ⟨w2.heap.size,0,none⟩)),.c (.pointer (some ⟨w2.heap.size,8,none⟩)),.p (fun v w'=>∃m S,(bn w' m S c.Pg c.W c.Fs 0 0 (fun _=>false) (fun _=>0)∧∀k,S k->E.heap.size<=k)∧aj w' w2.heap.size (wI c++[.pointer (some ⟨m,0,none⟩),.pointer none,.pointer none,.pointer none,.int .i64 0,.int .i64 0]) 117)] (fun j=>false) (by kernel_rfl) (by kernel_rfl) (by kernel_rfl) (by kernel_rfl) rfl (fun _=>Fr.refl _ _) (fun _ _ h=>h.mono (fun _ h=>h.elim)) (fun _ _ _ f b=>f.trans b (fun _ h=>h.elim)) (fun _ _ _ f b=>f.trans b (fun _ h=>h.elim)) (fun _ _ _ f b=>(f.mono (fun _ h=>h.elim)).trans b (fun _ h=> .inl h)) (fun _ _ h=>h.size) ⟨fun v w1 w2 h i=>let ⟨m,S,e,f,b⟩:=h;⟨m,S,e,f.keep i,b⟩,fun v w1 w2 h i=>let ⟨m,S,e,f,b⟩:=h;⟨m,S,e,f.keep i,b⟩,fun v w1 w2 h i=>let ⟨m,S,e,f,b⟩:=h;⟨m,S,e,f.keep i,b⟩,fun _ _ _ h _=>h,fun v w1 w2 h i=>let ⟨m,S,⟨f,b⟩,Y⟩:=h;⟨m,S,⟨f.keep i,b⟩,Y.frame i (fun h=>h)⟩,trivial⟩ ⟨.inr (fun v w1 w2 h i=>let ⟨m,S,e,f,b⟩:=h;⟨m,S,e,f.frame i (fun k l e=>by have:=b k l;have:=J;omega),b⟩),.inr (fun v w1 w2 h i=>let ⟨m,S,e,f,b⟩:=h;⟨m,S,e,f.frame i (fun k l e=>by have:=b k l;have:=J;omega),b⟩),.inr (fun v w1 w2 h i=>let ⟨m,S,e,f,b⟩:=h;⟨m,S,e,f.frame i (fun k l e=>by have:=b k l;have:=J;omega),b⟩),.inr (fun _ _ _ h _=>h),.inl rfl,trivial⟩ ?_;intro F hF;simp only [cU,PK.val,List.take_succ_cons,List.take_zero,aa,ab,ac] at hF;subst hF;refine ⟨by
   refine ⟨?_,?_,?_,?_,?_,?_,?_,?_,?_,?_,?_,?_,?_,trivial⟩<;>intro vs w1 M u L hx
   all_goals try (apply oV;rotate_left;rfl;exact Fr.refl _ _;go_simp;done)
   all_goals try (apply oV;rotate_left;rfl;exact Fr.refl _ _;have r:=O.out w1 M;have k1:=r.cell 1 rfl;go_simp;done)
   ·have r:=O.out w1 M;refine ao (.agg #[.int .i64 (c.kind:Int),.int .i64 (c.Pg:Int),.int .i64 (c.block:Int),.int .i64 (c.Wd:Int),.int .i64 (c.Sl:Int),.int .i64 (c.stack:Int),.int .i64 (c.Ah:Int),.float .f64 c.trig]) ?_ ⟨rfl,Fr.refl _ _,fun h=>nomatch h⟩;exact dI rfl w.heap.size rfl 24 _ (0,0) _ r Tryz.underlying24 rfl ct.out
   ·refine ar 119 #[.agg #[.int .i64 (c.kind:Int),.int .i64 (c.Pg:Int),.int .i64 (c.block:Int),.int .i64 (c.Wd:Int),.int .i64 (c.Sl:Int),.int .i64 (c.stack:Int),.int .i64 (c.Ah:Int),.float .f64 c.trig]] (by go_simp) ((b4.out w1).mono ?_);rintro e w5 ⟨rfl,hf⟩;exact ⟨_,rfl,rfl,hf,fun h=>nomatch h⟩
   ·have P:=u (by kernel_rfl);refine ar 118 #[.int .i64 (c.W:Int),.int .i64 (c.Pg:Int),.int .i64 (c.Fs:Int)] (by go_simp) ((a9.out w1).mono ?_);rintro e w5 ⟨m,S,rfl,f,b,Y⟩;exact ⟨_,rfl,⟨m,S,rfl,f,fun k l=>Nat.le_trans P.size (b k l)⟩,Y,fun h=>nomatch h⟩
   ·have h6:=L 6 (by kernel_rfl);obtain ⟨m,S,G,q,o⟩:=h6;refine ao (.tuple #[m,.int .i64 0]) (by go_simp) ⟨⟨m,S,rfl,q,o⟩,Fr.refl _ _,fun h=>nomatch h⟩
   ·have h7:=L 7 (by kernel_rfl);obtain ⟨m,S,G,q,o⟩:=h7;refine ao (.pointer (some ⟨m,0,none⟩)) (by go_simp) ⟨⟨m,S,rfl,q,o⟩,Fr.refl _ _,fun h=>nomatch h⟩
   ·have h7:=L 7 (by kernel_rfl);obtain ⟨m,S,G,q,o⟩:=h7;refine ao (.int .i64 0) (by go_simp) ⟨trivial,Fr.refl _ _,fun h=>nomatch h⟩
   ·have h8:=L 8 (by kernel_rfl);obtain ⟨m,S,G,q,o⟩:=h8;have P:=u (by kernel_rfl);have n:=a8.out w1 P;have k8:=aj.cell n 8 rfl;have f8:=aj.free n 8;have g:=(Fr.refl (fun k=>k=w2.heap.size) w1).setCell ⟨w2.heap.size,8,none⟩ (.inl rfl) (.pointer (some ⟨m,0,none⟩));refine bZ (w':=w1.setCell ⟨w2.heap.size,8,none⟩ (.pointer (some ⟨m,0,none⟩))) (by go_simp) ⟨⟨m,S,⟨q.frame g (fun k l e=>by have h9:k=w2.heap.size:=e;have:=o k l;have:=J;omega),o⟩,n.set 8 _⟩,g,fun h=>nomatch h⟩
   ,fun vs w1 M hp hx=> ?_⟩
  obtain ⟨g6,g7,g8,g9,U,_⟩:=hp;obtain ⟨m,S,⟨G,q⟩,o⟩:=U;clear g6 g7 g8 g9 hx;simp only [List.drop_succ_cons,List.drop_zero];have a4:Fr (fun k=>k=w2.heap.size) E w1:=((Fr.refl (fun k=>k=w2.heap.size) E).drew).trans M (fun _ h=> .inl h);have z:=O.out w1 M;have k4:=z.cell 4 rfl;have aq:=ae (oC c.Sl HC.out.slots1 HC.out.slots2 w1);have H8:=ae (af G (af q (af o (af a4 z))));clear G q o a4 z M O a8 a9 av k0 k1 k2 k3 k5 k6 k7;go_wp2_with fail
  refine (aq.out).mono ?_;rintro e w5 ⟨rb,rg,rfl,r1,r2,r3,T⟩;have K:=H8.out.2.2.1.frame T (fun h=>h);have k9:=aj.cell K 9 rfl;have f9:=aj.free K 9;obtain ⟨W5,Z⟩:∃W5,w5.setCell ⟨w2.heap.size,9,none⟩ (.pointer (some ⟨rb,0,none⟩))=W5:=⟨_,rfl⟩;have g:Fr (fun k=>k=w2.heap.size) w5 W5:=by rw [<-Z];exact (Fr.refl (fun k=>k=w2.heap.size) w5).setCell ⟨w2.heap.size,9,none⟩ (.inl rfl) _
  have a0:aj W5 w2.heap.size (wI c++[.pointer (some ⟨m,0,none⟩),.pointer (some ⟨rb,0,none⟩),.pointer none,.pointer none,.int .i64 0,.int .i64 0]) 117:=by rw [<-Z];exact K.set 9 _
  obtain ⟨g1,g2,g3,g4,g5⟩:=H8.out;have N:=g4.size;have ah:=T.size;have am:=g.size;have D:=(g1.keep T).frame g (fun k l e=>by have h9:k=w2.heap.size:=e;have:=g2 k l;omega);have t:=r1.frame g (fun e=>by omega) (fun e=>by omega);have R:=(g5.frame T (fun h=>h)).frame g (fun e=>by omega);have s:w2.heap.size<W5.heap.size:=by omega
  have x:=ae (fun w1 (hf:Fr (fun k=>k=w2.heap.size) W5.drew w1)=>R.drew.frame hf (fun e=>by omega));have y:=ae (fun w1 (hf:Fr (fun _=>False) W5.drew w1)=>a0.drew.frame hf (fun h=>h));have ap:=ae (fun w1 (hf:Fr (fun _=>False) W5.drew w1)=>mf (D.keep (((Fr.refl (fun _=>False) W5).drew).trans hf (fun _ h=>h.elim))) c.Pg (c.Pg+c.Wd) (by omega) (by have:=bb.out;omega));have a6:((c.Pg+c.Wd:Nat):Int)=(c.Pg:Int)+(c.Wd:Int):=by push_cast;rfl
  have H9:=ae (af g1 (af g2 (af g4 (af r1 (af r2 (af r3 (af T (af g (af D (af t (af N (af ah am))))))))))));clear g1 g2 g3 g4 g5 r1 r2 r3 T g D t N ah am a0 K R aq H8 k4;go_wp2;clear Z k9 f9;refine aS 19 18 (fun a I=>Fr (fun k=>k=w2.heap.size) a I) (fun a I=>Fr (fun _=>False) a I) [.c (.pointer (some ⟨w2.heap.size,0,none⟩)),.c (.pointer (some ⟨w2.heap.size,0,none⟩)),.c (.pointer (some ⟨w2.heap.size,0,none⟩)),.c (.pointer (some ⟨w2.heap.size,8,none⟩)),.c (.pointer (some ⟨m,0,none⟩)),.c (.pointer (some ⟨w.heap.size,1,none⟩)),.c (.int .i64 (c.Pg:Int)),.c (.pointer (some ⟨w.heap.size,1,none⟩)),.c (.int .i64 (c.Pg:Int)),.c (.pointer (some ⟨w.heap.size,3,none⟩)),.c (.int .i64 (c.Wd:Int)),.c (.int .i64 ((c.Pg+c.Wd:Nat):Int)),.p (fun v w'=>∃d,v=(.tuple #[.pointer (some ⟨d,0,none⟩),.int .i64 0])∧bR w' d m c.Pg c.Pg (c.Pg+c.Wd)∧W5.heap.size<=d),.p (fun v w'=>∃d,v=(.tuple #[.pointer (some ⟨d,0,none⟩),.int .i64 0])∧bR w' d m c.Pg c.Pg (c.Pg+c.Wd)∧W5.heap.size<=d),.p (fun v w'=>∃d,v= .pointer (some ⟨d,0,none⟩)∧bR w' d m c.Pg c.Pg (c.Pg+c.Wd)∧W5.heap.size<=d),.p (fun v _=>True),.c (.pointer (some ⟨w2.heap.size,0,none⟩)),.c (.pointer (some ⟨w2.heap.size,10,none⟩)),.p (fun v w'=>∃d,(bR w' d m c.Pg c.Pg (c.Pg+c.Wd)∧W5.heap.size<=d)∧gq w' w2.heap.size c m rb d none 0 0)] (fun j=>false) (by kernel_rfl) (by kernel_rfl) (by kernel_rfl) (by kernel_rfl) rfl (fun _=>Fr.refl _ _) (fun _ _ h=>h.mono (fun _ h=>h.elim)) (fun _ _ _ f b=>f.trans b (fun _ h=>h.elim)) (fun _ _ _ f b=>f.trans b (fun _ h=>h.elim)) (fun _ _ _ f b=>(f.mono (fun _ h=>h.elim)).trans b (fun _ h=> .inl h)) (fun _ _ h=>h.size) ⟨fun v w1 w2 h i=>let ⟨d,e,f,b⟩:=h;⟨d,e,aj.frame f i (fun h=>h),b⟩,fun v w1 w2 h i=>let ⟨d,e,f,b⟩:=h;⟨d,e,aj.frame f i (fun h=>h),b⟩,fun v w1 w2 h i=>let ⟨d,e,f,b⟩:=h;⟨d,e,aj.frame f i (fun h=>h),b⟩,fun _ _ _ h _=>h,fun v w1 w2 h i=>let ⟨d,⟨f,b⟩,Y⟩:=h;⟨d,⟨aj.frame f i (fun h=>h),b⟩,aj.frame Y i (fun h=>h)⟩,trivial⟩ ⟨.inr (fun v w1 w2 h i=>let ⟨d,e,f,b⟩:=h;⟨d,e,aj.frame f i (fun e=>by have:=s;omega),b⟩),.inr (fun v w1 w2 h i=>let ⟨d,e,f,b⟩:=h;⟨d,e,aj.frame f i (fun e=>by have:=s;omega),b⟩),.inr (fun v w1 w2 h i=>let ⟨d,e,f,b⟩:=h;⟨d,e,aj.frame f i (fun e=>by have:=s;omega),b⟩),.inr (fun _ _ _ h _=>h),.inl rfl,trivial⟩ ?_;intro F hF;simp only [cU,PK.val,List.take_succ_cons,List.take_zero,aa,ab,ac] at hF;subst hF;refine ⟨by
   refine ⟨?_,?_,?_,?_,?_,?_,?_,?_,?_,?_,?_,?_,?_,?_,?_,?_,?_,?_,?_,trivial⟩<;>intro vs w1 M u L hx
   all_goals try (apply oV;rotate_left;rfl;exact Fr.refl _ _;go_simp;done)
   all_goals try (apply oV;rotate_left;rfl;exact Fr.refl _ _;have r:=x.out w1 M;have k1:=r.cell 1 rfl;go_simp;done)
   all_goals try (apply oV;rotate_left;rfl;exact Fr.refl _ _;have r:=x.out w1 M;have k3:=r.cell 3 rfl;go_simp;done)
   all_goals try (apply oV;rotate_left;rfl;exact Fr.refl _ _;have k8:=aj.cell (y.out w1 (u (by kernel_rfl))) 8 rfl;go_simp;done)
   all_goals try (apply oV;rotate_left;rfl;exact Fr.refl _ _;(have cy:IntKind.i64.wrap ((c.Pg:Int)+(c.Wd:Int))=(c.Pg:Int)+(c.Wd:Int):=by rw [IntKind.wrap_i64];omega);go_simp;done)
   ·have P:=u (by kernel_rfl);refine ar 121 #[m,.int .i64 (c.Pg:Int),.int .i64 ((c.Pg+c.Wd:Nat):Int)] (by go_simp) ((ap.out w1 P).mono ?_);rintro e w5 ⟨d,rfl,f,b,Y⟩;exact ⟨_,rfl,⟨d,rfl,f,Nat.le_trans P.size b⟩,Y,fun h=>nomatch h⟩
   ·have cb:=L 12 (by kernel_rfl);obtain ⟨d,G,q,o⟩:=cb;refine ao (.tuple #[d,.int .i64 0]) (by go_simp) ⟨⟨d,rfl,q,o⟩,Fr.refl _ _,fun h=>nomatch h⟩
   ·have V:=L 13 (by kernel_rfl);obtain ⟨d,G,q,o⟩:=V;refine ao (.pointer (some ⟨d,0,none⟩)) (by go_simp) ⟨⟨d,rfl,q,o⟩,Fr.refl _ _,fun h=>nomatch h⟩
   ·have V:=L 13 (by kernel_rfl);obtain ⟨d,G,q,o⟩:=V;refine ao (.int .i64 0) (by go_simp) ⟨trivial,Fr.refl _ _,fun h=>nomatch h⟩
   ·have cc:=L 14 (by kernel_rfl);obtain ⟨d,G,q,o⟩:=cc;have P:=u (by kernel_rfl);have n:=y.out w1 P;have c1:=aj.cell n 10 rfl;have c0:=aj.free n 10;have g:=(Fr.refl (fun k=>k=w2.heap.size) w1).setCell ⟨w2.heap.size,10,none⟩ (.inl rfl) (.pointer (some ⟨d,0,none⟩));refine bZ (w':=w1.setCell ⟨w2.heap.size,10,none⟩ (.pointer (some ⟨d,0,none⟩))) (by go_simp) ⟨⟨d,⟨aj.frame q g (fun e=>by have h9:d=w2.heap.size:=e;have:=s;omega),o⟩,n.set 10 _⟩,g,fun h=>nomatch h⟩
   ,fun c2 w6 a7 hp hx=> ?_⟩
  obtain ⟨U,b5,b6,b7,b9,_⟩:=hp;obtain ⟨d,⟨b1,I⟩,b3⟩:=b9;clear U b5 b6 b7 hx;simp only [List.drop_succ_cons,List.drop_zero];have C:rQ c A w (.returned (.tuple #[.pointer (some ⟨w2.heap.size,0,none⟩),.int .i64 0])) w6:=by
   obtain ⟨g1,g2,g4,r1,r2,r3,T,g,D,t,N,ah,am⟩:=H9.out;have B:Fr (fun k=>k=w2.heap.size) W5 w6:=((Fr.refl (fun k=>k=w2.heap.size) W5).drew).trans a7 (fun _ h=> .inl h);have cn:=b0.out.size;have ad:Fr (fun _=>False) w w6:=(((cs.out.trans g4 (fun k l=> .inr (by have h9:k=w2.heap.size:=l;omega))).trans T (fun _ h=>h.elim)).trans g (fun k l=> .inr (by have h9:k=w2.heap.size:=l;omega))).trans B (fun k l=> .inr (by have h9:k=w2.heap.size:=l;omega));refine ll (w4:=E) (w5:=w1) (w6:=W5) HC.out HT.out g2 cn J (fun k l=>(aF _ _ _ _ _ _ _).lt (fun _=>0) S w1 ⟨_,g1,fun _ _=>rfl⟩ k l) r2 r3 t.blk.lt t.row.lt I N (by omega) (D.frame B (fun k l e=>by have h9:k=w2.heap.size:=e;have:=g2 k l;omega)) (t.frame B (fun e=>by omega) (fun e=>by omega)) b1 b3 ad
  rw [HQ.out] at C;have H:=ae C;clear C b1 I b3 H9 a7 x y ap a6;go_wp2;exact H.out
end
section
variable {v0 v1 v2 v3 v4 v5 v6:Int} {tr:Nat}
theorem cY {w:World} {b:Nat} {t:TypeId} (h:aj w b [.int .i64 v0,.int .i64 v1,.int .i64 v2,.int .i64 v3,.int .i64 v4,.int .i64 v5,.int .i64 v6,.float .f64 tr] t):w.cell? ⟨b,0,none⟩=some (.int .i64 v0)∧w.cell? ⟨b,1,none⟩=some (.int .i64 v1)∧w.cell? ⟨b,2,none⟩=some (.int .i64 v2)∧w.cell? ⟨b,3,none⟩=some (.int .i64 v3)∧w.cell? ⟨b,4,none⟩=some (.int .i64 v4)∧w.cell? ⟨b,5,none⟩=some (.int .i64 v5)∧w.cell? ⟨b,6,none⟩=some (.int .i64 v6)∧w.cell? ⟨b,7,none⟩=some (.float .f64 tr):=
 ⟨h.cell 0 rfl,h.cell 1 rfl,h.cell 2 rfl,h.cell 3 rfl,h.cell 4 rfl,h.cell 5 rfl,h.cell 6 rfl,h.cell 7 rfl⟩
theorem xu (m:v1<=9223372036854775807) (n:v2<=9223372036854775807) (o:v3<=9223372036854775807) (k:¬∃c,cT c∧dY v0 v1 v2 v3 v4 v5 v6 tr=kF c) (w:World):Calls Tryz.prog 49 #[dY v0 v1 v2 v3 v4 v5 v6 tr] w fun e w'=>e= .returned (.tuple #[.pointer none,.int .i64 22])∧Fr (fun _=>False) w w':=by
 obtain ⟨W1,b⟩:∃W1,w.alloc (.cells #[.int .i64 v0,.int .i64 v1,.int .i64 v2,.int .i64 v3,.int .i64 v4,.int .i64 v5,.int .i64 v6,.float .f64 tr] 24)=W1:=⟨_,rfl⟩;have i:Fr (fun _=>False) w W1:=by rw [<-b];exact (Fr.refl _ w).alloc _
 have g:aj W1 w.heap.size [.int .i64 v0,.int .i64 v1,.int .i64 v2,.int .i64 v3,.int .i64 v4,.int .i64 v5,.int .i64 v6,.float .f64 tr] 24:=by rw [<-b];exact aj.new w _ _
 obtain ⟨p,q,r,s,t,u,v,x⟩:=cY g;have a:=ae (sC m n o k W1);have d:=ae i;clear m n o k i g;unfold dY at a ⊢;have l:Hid (∀w',Fr (fun _=>False) w w'->(fun e w'=>e=Ending.returned (.tuple #[.pointer none,.int .i64 22])∧Fr (fun _=>False) w w') (.returned (.tuple #[.pointer none,.int .i64 22])) w'):=ae (fun w' h=>⟨rfl,h⟩);generalize (fun e w'=>e=Ending.returned (.tuple #[.pointer none,.int .i64 22])∧Fr (fun _=>False) w w')=Q at*
 go_enter Tryz.func49,Tryz.ntmps49
 go_wp2_with fail
 refine (a.out).mono ?_;rintro e w2 ⟨rfl,j⟩;have f:=ae (d.out.trans j (fun _ h=>h.elim));clear a j d b p q r s t u v x;have H:=ae (l.out w2 f.out);clear l f;go_wp2;exact H.out
end
def ec (k:Nat):Cf:=⟨k,4,4,16,3,2,1,4607182418800017408⟩
theorem ya {k:Nat} (a:1<=k) (b:k<=3):cT (ec k):=by
 refine ⟨?_,?_,?_,?_,?_,?_,?_,?_,?_,?_,?_,?_,?_,?_,?_,?_,?_⟩
 ·show k=1∨k=2∨k=3;omega
 ·exact (dn _).2 ⟨2,by decide,rfl⟩
 ·show 1<=4;omega
 ·show 4<=256;omega
 ·exact (dn _).2 ⟨2,by decide,rfl⟩
 ·show 1<=4;omega
 ·show 4<=1024;omega
 ·exact (dn _).2 ⟨4,by decide,rfl⟩
 ·show 16<=16;omega
 ·show 16<=131072;omega
 ·show 4<=16;omega
 ·show 1<=3;omega
 ·show 3<=64;omega
 ·show 1<=2;omega
 ·show 2<=4096;omega
 ·show 1<=16;omega
 ·obtain rfl|rfl|rfl:k=1∨k=2∨k=3:=by omega
  ·decide
  ·decide
  ·decide
theorem sH (k:Nat) (w:World):Calls Tryz.prog 59 #[.int .i64 k] w fun e w'=>e= .returned (kF (ec k))∧Fr (fun _=>False) w w':=by
 have c:kF (ec k)= .agg #[.int .i64 k,.int .i64 4,.int .i64 4,.int .i64 16,.int .i64 3,.int .i64 2,.int .i64 1,.float .f64 4607182418800017408]:=rfl;rw [c];clear c;have a:Hid ((Tryz.prog.info? 24).map (·.size)=some 8):=by show _=_;kernel_rfl
 have d:Hid ((#[.int .i64 k,.int .i64 4,.int .i64 4,.int .i64 16,.int .i64 3,.int .i64 2,.int .i64 1,.float .f64 4607182418800017408]:Array Value).all (·.oneCell')=true):=ae (Go.all_oneCell_toArray (cs:=[.int .i64 k,.int .i64 4,.int .i64 4,.int .i64 16,.int .i64 3,.int .i64 2,.int .i64 1,.float .f64 4607182418800017408]) (fun v c=>by simp only [List.mem_cons,List.not_mem_nil,or_false] at c;rcases c with rfl|rfl|rfl|rfl|rfl|rfl|rfl|rfl<;>rfl))
 go_enter Tryz.func59,Tryz.ntmps59
 go_wp2_with (refine wpList_store_row rfl 24 _ _ rfl w.heap.size #[.int .i64 k,.int .i64 4,.int .i64 4,.int .i64 16,.int .i64 3,.int .i64 2,.int .i64 1,.float .f64 4607182418800017408] rfl rfl 24 _ (heap_alloc_new _ _) a.out rfl d.out ?_)
 generalize b:(World.alloc w _).setRow w.heap.size _=W2;have f:aj W2 w.heap.size [.int .i64 k,.int .i64 4,.int .i64 4,.int .i64 16,.int .i64 3,.int .i64 2,.int .i64 1,.float .f64 4607182418800017408] 24:=by rw [<-b];exact setRow_heap _ _ _ _ _ _ (heap_alloc_new w _)
 have g:Fr (fun _=>False) w W2:=by
  rw [<-b];exact ((Fr.refl _ w).alloc _).trans (S':=fun i=>i=w.heap.size) ⟨rfl,rfl,rfl,by simp,fun i _ h=>setRow_other _ _ _ _ (fun e=>h e)⟩ (fun i h=> .inr (by omega))
 refine bodyPost_ret (fK rfl _ _ _ _ _ _ _ rfl f Tryz.underlying24 rfl a.out) rfl ?_;exact ⟨rfl,g⟩
end Go.Proofs.YthahbijbpinneaaGreatDoor
