import Derived.Test.YthahbijbpinneaaGreatDoorA11
import Derived.Test.YthahbijbpinneaaGreatDoorA25
import Derived.Test.YthahbijbpinneaaGreatDoorA26
set_option maxRecDepth 100000
set_option maxHeartbeats 8000000
set_option linter.all false
namespace Go.Proofs.YthahbijbpinneaaGreatDoor
open Go.RowKit
structure ki (A:AG) (N:Nat) (has:Nat→Option Nat):Prop where
 np1:A.np 1=N
 nf1:A.nf 1=0
 ng1:A.ng 1=0
 some:∀i m,i<N→has i=some m→A.fld 1 i=i+2∧A.np (i+2)=0∧A.sz (i+2)=m
 none:∀i,i<N→has i=none→A.fld 1 i=0
def nH (has:Nat→Option Nat) (i:Nat) (v:Option Nat):Nat→Option Nat:=fun k=>if k=i then v else has k
def dF (has:Nat→Option Nat) (k:Nat):List Nat:=(List.range k).filterMap fun i=>(has i).map fun _=>i+2
def fp (has:Nat→Option Nat) (k:Nat):Nat:=((List.range k).map fun i=>(has i).getD 0).sum
section
variable {A:AG} {N i m:Nat} {has:Nat→Option Nat}
theorem gO {v:Option Nat}:nH has i v i=v:=if_pos rfl
theorem fG {k:Nat} {v:Option Nat} (h:k≠i):nH has i v k=has k:=if_neg h
theorem el (k:Nat):fp has (k+1)=fp has k+(has k).getD 0:=by
 unfold fp;rw [List.range_succ,List.map_append,List.sum_append];simp
theorem eX (k:Nat):dF has (k+1)=dF has k++(match has k with|some _=>[k+2]|none=>[]):=by
 unfold dF;rw [List.range_succ,List.filterMap_append];congr 1
 cases hh:has k<;>simp [hh]
theorem jT (v:Option Nat):∀k,fp (nH has i v) k+(if i<k then (has i).getD 0 else 0)=fp has k+(if i<k then v.getD 0 else 0)
 |0=>by simp [fp]
 |k+1=>by
  have ih:=jT v k;rw [el,el];by_cases h:k=i
  ·subst h;rw [gO,if_pos (Nat.lt_succ_self _),if_pos (Nat.lt_succ_self _)];rw [if_neg (Nat.lt_irrefl _),if_neg (Nat.lt_irrefl _)] at ih;omega
  ·rw [fG h];by_cases h2:i<k
   ·rw [if_pos h2,if_pos h2] at ih;rw [if_pos (by omega),if_pos (by omega)];omega
   ·rw [if_neg h2,if_neg h2] at ih;rw [if_neg (by omega),if_neg (by omega)];omega
theorem ki.reach (h:ki A N has) (z:Nat):Reach A.gr [1,0] z↔z=1∨∃i m,i<N∧has i=Option.some m∧z=i+2:=by
 constructor
 ·intro hr
  induction hr with
  |root h1 h2=>left;simp at h1;omega
  | @step a p _ h2 h3 ih=>
   obtain ⟨i,hi,rfl⟩:=List.mem_map.1 h2;have hi:=List.mem_range.1 hi;rcases ih with rfl|⟨j,m,hj,hm,rfl⟩
   ·rw [h.np1] at hi;right
    cases hh:has i with
    |none=>exact absurd (h.none i hi hh) h3
    |some m=>exact ⟨i,m,hi,hh,(h.some i m hi hh).1⟩
   ·rw [(h.some j m hj hm).2.1] at hi;omega
 ·rintro (rfl|⟨i,m,hi,hm,rfl⟩)
  ·exact .root (by simp) (by omega)
  ·have h1:=(h.some i m hi hm).1;rw [←h1];exact .step (.root (by simp) (by omega)) (List.mem_map.2 ⟨i,List.mem_range.2 (by rw [h.np1];exact hi),rfl⟩) (by rw [h1];omega)
theorem dG {z:Nat}:∀{k:Nat},z∈dF has k↔∃i m,i<k∧has i=Option.some m∧z=i+2
 |0=>by simp [dF]
 |k+1=>by
  rw [eX,List.mem_append,dG];constructor
  ·rintro (⟨i,m,h1,h2,h3⟩|h)
   ·exact ⟨i,m,by omega,h2,h3⟩
   ·cases hh:has k with
    |none=>rw [hh] at h;simp at h
    |some m=>rw [hh] at h;simp at h;exact ⟨k,m,by omega,hh,h⟩
  ·rintro ⟨i,m,h1,h2,h3⟩;by_cases hk:i=k
   ·subst hk;right;rw [h2];simp [h3]
   ·exact .inl ⟨i,m,by omega,h2,h3⟩
theorem gF:∀k,(dF has k).Nodup
 |0=>by simp [dF]
 |k+1=>by
  rw [eX];refine List.nodup_append.2 ⟨gF k,by cases has k<;>simp,fun a ha b hb e=> ?_⟩;obtain ⟨i,m,h1,_,h3⟩:=dG.1 ha
  cases hh:has k with
  |none=>rw [hh] at hb;simp at hb
  |some m=>rw [hh] at hb;simp at hb;omega
theorem ki.lives (h:ki A N has):aL A [1,0] (1::dF has N):=by
 refine ⟨List.nodup_cons.2 ⟨fun hm=> ?_,gF N⟩,fun x=> ?_⟩
 ·obtain ⟨i,m,_,_,h3⟩:=dG.1 hm;omega
 ·rw [List.mem_cons,dG,h.reach]
theorem ki.wordsL (h:ki A N has):∀k,k≤N→A.Wd (dF has k)=fp has k
 |0,_=>rfl
 |k+1,hk=>by
  rw [eX,el,←h.wordsL k (by omega)];unfold AG.Wd;rw [List.map_append,List.sum_append]
  cases hh:has k with
  |none=>simp
  |some m=>simp [(h.some k m (by omega) hh).2.2]
theorem ki.Wd (h:ki A N has):A.Wd (1::dF has N)=1+N+fp has N:=by
 have h1:=h.wordsL N (Nat.le_refl _);unfold AG.Wd at h1 ⊢;rw [List.map_cons,List.sum_cons,h1];unfold AG.sz;rw [h.np1,h.nf1,h.ng1];omega
theorem ki.drop (h:ki A N has) (hi:i<N):ki (A.put 1 i 0) N (nH has i .none):=by
 refine ⟨h.np1,h.nf1,h.ng1,fun j m hj hm=> ?_,fun j hj hm=> ?_⟩
 ·by_cases e:j=i
  ·subst e;rw [gO] at hm;cases hm
  ·rw [fG e] at hm;obtain ⟨h1,h2,h3⟩:=h.some j m hj hm;exact ⟨by show (if 1=1∧j=i then 0 else A.fld 1 j)=_;rw [if_neg (by omega)];exact h1,h2,h3⟩
 ·show (if 1=1∧j=i then 0 else A.fld 1 j)=0
  by_cases e:j=i
  ·rw [if_pos ⟨rfl,e⟩]
  ·rw [fG e] at hm;rw [if_neg (by omega)];exact h.none j hj hm
theorem ki.add (h:ki A N has) (hi:i<N) (hn:has i=Option.none):ki ((A.new (i+2) 0 0 m).put 1 i (i+2)) N (nH has i (.some (m+1))):=by
 have ho:∀y,y≠i+2→(A.new (i+2) 0 0 m).np y=A.np y∧(A.new (i+2) 0 0 m).nf y=A.nf y∧(A.new (i+2) 0 0 m).ng y=A.ng y∧(A.new (i+2) 0 0 m).fld y=A.fld y∧(A.new (i+2) 0 0 m).sz y=A.sz y:=fun y hy=>AG.new_other hy
 have h1:=ho 1 (by omega);refine ⟨h1.1.trans h.np1,h1.2.1.trans h.nf1,h1.2.2.1.trans h.ng1,fun j k hj hm=> ?_,fun j hj hm=> ?_⟩
 ·by_cases e:j=i
  ·subst e;rw [gO] at hm;obtain rfl:=Option.some.inj hm;obtain ⟨s1,s2,s3,_,s5⟩:=AG.new_self A (j+2) 0 0 m;exact ⟨by show (if 1=1∧j=j then j+2 else _)=_;rw [if_pos ⟨rfl,rfl⟩],s1,by show (A.new (j+2) 0 0 m).sz (j+2)=_;rw [s5];omega⟩
  ·rw [fG e] at hm;obtain ⟨g1,g2,g3⟩:=h.some j k hj hm;have h2:=ho (j+2) (by omega);exact ⟨by show (if 1=1∧j=i then i+2 else (A.new (i+2) 0 0 m).fld 1 j)=_;rw [if_neg (by omega),h1.2.2.2.1];exact g1,h2.1.trans g2,h2.2.2.2.2.trans g3⟩
 ·by_cases e:j=i
  ·subst e;rw [gO] at hm;cases hm
  ·rw [fG e] at hm;show (if 1=1∧j=i then i+2 else (A.new (i+2) 0 0 m).fld 1 j)=0
   rw [if_neg (by omega),h1.2.2.2.1];exact h.none j hj hm
end
section
open Go.RowKit Go.Maps
theorem bK.del {w:World} {b n:Nat} {f:Nat→Option Nat} (h:bK w b n f) (q:Nat) (hq:q<4611686018427387904) (ty:TypeId):
  ∃w',(Builtin.delete_ #[33,3] ty #[.map (some b),.int .i64 q]).run Tryz.prog w= .ok (.tuple #[]) w'∧bK w' b n (nH f q none)∧Fr (fun k=>k=b) w w':=by
 obtain ⟨D,h1,h2⟩:=h;obtain ⟨w',hrun,r1,r2⟩:=h1.drop dP Tryz.underlying33 (fX hq) ty;refine ⟨w',hrun,⟨D.del (kI q),r1,fun r hr=> ?_⟩,?_⟩
 ·unfold nH;by_cases e:r=q
  ·subst e;rw [if_pos rfl];exact ⟨has_del_same,atKey_del_same _⟩
  ·rw [if_neg e,has_del_other (mU e),atKey_del_other (mU e)];exact h2 r hr
 ·obtain ⟨es,clock,es',clock',e1,rfl⟩:=r2;exact (Fr.refl (fun k=>k=b) w).putObj b (.map es' clock') (.inl rfl)
end
def et (b:Nat) (c:Cf) (A:AG) (rs:List Nat) (mb nm:Nat) (f:Nat→Option Nat) (w0 w:World):Prop:=∃u n T,b8 b c A rs u n T w∧(∀k,T k→w0.heap.size≤k)∧¬T mb∧w0.heap.size≤mb∧bK w mb nm f∧Fr (fun _=>False) w0 w
section
variable {b mb nm:Nat} {c:Cf} {A A':AG} {rs rs' l:List Nat} {T T':Nat→Prop} {f:Nat→Option Nat} {w0 w w':World}
theorem et.next {u n:Nat} (h0:∀k,T k→w0.heap.size≤k) (h1:¬T mb) (hm:w0.heap.size≤mb) (h2:bK w mb nm f) (h3:Fr (fun _=>False) w0 w) (hi:b8 b c A' rs' u n T' w') (hf:Fr T w w') (ht:∀k,T' k→T k∨w.heap.size≤k):et b c A' rs' mb nm f w0 w':=by
 have hz:=h3.size;have hl:=h2.lt;exact ⟨u,n,T',hi,fun k hk=>(ht k hk).elim (h0 k) (fun h=>by omega),fun hx=>(ht _ hx).elim h1 (fun h=>by omega),hm,h2.frame hf h1,h3.trans hf (fun k hk=> .inr (h0 k hk))⟩
theorem et.words_le (h:et b c A rs mb nm f w0 w) (hl:aL A rs l):A.Wd l≤c.Wd:=by
 obtain ⟨u,n,T,h1,_⟩:=h;exact Nat.le_trans (h1.words_le hl) h1.cf.2.2
theorem et.alloc {s k p f' g:Nat} (h:et b c A rs mb nm f w0 w) (hl:aL A rs l) (hs:s<c.Sl) (ho:bw p f' g) (hk0:k≠0) (hkn:k∉l):Calls Tryz.prog 11 #[b,.int .i64 s,bP p f' g] w fun e w'=>
  (A.Wd l+(1+(p+f'+g))≤c.Wd∧e= .returned (.int .i64 0)∧et b c (A.new k p f' g) (rs.set s k) mb nm f w0 w')∨(c.Wd<A.Wd l+(1+(p+f'+g))∧e= .returned (.int .i64 21)∧et b c A rs mb nm f w0 w'):=by
 obtain ⟨u,n,T,h1,h2,h3,h4,h5,h6⟩:=h;refine (ek h1 hl hs ho hk0 (fun hr=>hkn ((hl.2 _).2 hr))).mono ?_;rintro e w' (⟨g0,rfl,u',n',T',g1,g2,g3⟩|⟨g0,rfl,u',n',T',g1,g2,g3⟩)
 ·exact .inl ⟨g0,rfl,et.next h2 h3 h4 h5 h6 g1 g2 g3⟩
 ·exact .inr ⟨g0,rfl,et.next h2 h3 h4 h5 h6 g1 g2 g3⟩
theorem et.store {s x i t v:Nat} (h:et b c A rs mb nm f w0 w) (hs:rs[s]? =some x) (hx0:x≠0) (hix:i<A.np x) (ht:rs[t]? =some v):Calls Tryz.prog 13 #[b,.int .i64 s,.int .i64 i,.int .i64 t] w fun e w'=>e= .returned (.int .i64 0)∧et b c (A.put x i v) rs mb nm f w0 w':=by
 obtain ⟨u,n,T,h1,h2,h3,h4,h5,h6⟩:=h;refine (kE h1 hs hx0 hix ht).mono ?_;rintro e w' ⟨rfl,u',n',T',g1,g2,g3⟩;exact ⟨rfl,et.next h2 h3 h4 h5 h6 g1 g2 g3⟩
theorem et.clear {s:Nat} (h:et b c A rs mb nm f w0 w) (hs:s<c.Sl):Calls Tryz.prog 14 #[b,.int .i64 s] w fun e w'=>e= .returned (.int .i64 0)∧et b c A (rs.set s 0) mb nm f w0 w':=by
 obtain ⟨u,n,T,h1,h2,h3,h4,h5,h6⟩:=h;refine (kB h1 hs).mono ?_;rintro e w' ⟨rfl,u',n',T',g1,g2,g3⟩;exact ⟨rfl,et.next h2 h3 h4 h5 h6 g1 g2 g3⟩
theorem et.copy {s t r:Nat} (h:et b c A rs mb nm f w0 w) (hs:s<c.Sl) (ht:rs[t]? =some r):Calls Tryz.prog 15 #[b,.int .i64 s,.int .i64 t] w fun e w'=>e= .returned (.int .i64 0)∧et b c A (rs.set s r) mb nm f w0 w':=by
 obtain ⟨u,n,T,h1,h2,h3,h4,h5,h6⟩:=h;refine (mN h1 hs ht).mono ?_;rintro e w' ⟨rfl,u',n',T',g1,g2,g3⟩;exact ⟨rfl,et.next h2 h3 h4 h5 h6 g1 g2 g3⟩
theorem et.turn {nm':Nat} {f':Nat→Option Nat} (h:et b c A rs mb nm f w0 w) (ht:aN<w0.heap.size) (hm:bK w' mb nm' f') (hf:Fr (fun k=>k=mb) w w'):et b c A rs mb nm' f' w0 w':=by
 obtain ⟨u,n,T,h1,h2,h3,h4,h5,h6⟩:=h;exact ⟨u,n,T,h1.stays hf (fun k hk e=>h3 (by have h9:k=mb:=e;exact h9▸hk)) (fun e=>by have h9:aN=mb:=e;omega),h2,h3,h4,hm,h6.trans hf (fun k hk=> .inr (by have h9:k=mb:=hk;omega))⟩
theorem et.map (h:et b c A rs mb nm f w0 w):bK w mb nm f:=let ⟨_,_,_,_,_,_,_,h,_⟩:=h;h
theorem et.fr (h:et b c A rs mb nm f w0 w):Fr (fun _=>False) w0 w:=let ⟨_,_,_,_,_,_,_,_,h⟩:=h;h
end
section
variable {A:AG} {r k p f g:Nat} {l:List Nat}
def AG.Ah (A:AG) (k p f g r:Nat):AG:=(A.new k p f g).put k 0 r
theorem eO {y:Nat} (h:y≠k):(A.Ah k p f g r).np y=A.np y∧(A.Ah k p f g r).sz y=A.sz y∧(A.Ah k p f g r).gr.ptrs y=A.gr.ptrs y:=by
 obtain ⟨h1,h2,h3,h4,h5⟩:=AG.new_other (A:=A) (p:=p) (f:=f) (g:=g) h;refine ⟨h1,h5,?_⟩;show (List.range ((A.new k p f g).np y)).map (fun i=>if y=k∧i=0 then r else (A.new k p f g).fld y i)=(List.range (A.np y)).map (A.fld y)
 rw [h1];refine List.map_congr_left (fun i _=> ?_);rw [if_neg (fun e=>h e.1),h4]
theorem mm (hl:aL A [r,0] l) (hr0:r≠0) (hk0:k≠0) (hk:k∉l) (hp:p=1):aL (A.Ah k p f g r) [k,0] (k::l):=by
 subst hp;have hx:(A.Ah k 1 f g r).gr.ptrs k=[r]:=by
  show (List.range ((A.new k 1 f g).np k)).map (fun i=>if k=k∧i=0 then r else (A.new k 1 f g).fld k i)=[r]
  rw [(AG.new_self A k 1 f g).1];simp
 refine ⟨List.nodup_cons.2 ⟨hk,hl.1⟩,fun x=> ?_⟩;rw [List.mem_cons,hl.2];constructor
 ·rintro (rfl|h)
  ·exact .root (by simp) hk0
  ·induction h with
   |root h1 h2=>
    simp at h1;rcases h1 with rfl|rfl
    ·exact .step (.root (by simp) hk0) (by rw [hx];simp) h2
    ·exact absurd rfl h2
   | @step a q ha h1 h2 ih=>
    refine .step ih ?_ h2;rw [(eO (y:=a) (fun e=>hk ((hl.2 _).2 (by rw [←e];exact ha)))).2.2];exact h1
 ·intro h
  induction h with
  |root h1 h2=>simp at h1;omega
  | @step a q _ h1 h2 ih=>
   right;rcases ih with rfl|ih
   ·rw [hx] at h1;simp at h1;subst h1;exact .root (by simp) h2
   ·rw [(eO (y:=a) (fun e=>hk ((hl.2 _).2 (by rw [←e];exact ih)))).2.2] at h1;exact .step ih h1 h2
theorem mn (hk:k∉l):(A.Ah k p f g r).Wd (k::l)=1+(p+f+g)+A.Wd l:=by
 unfold AG.Wd;rw [List.map_cons,List.sum_cons];have h1:(A.Ah k p f g r).sz k=1+(p+f+g):=(AG.new_self A k p f g).2.2.2.2;rw [h1];congr 2
 refine List.map_congr_left (fun x hx=>(eO (y:=x) (fun e=>hk (by rw [←e];exact hx))).2.1)
theorem gy (l:List Nat):l.sum+1∉l:=fun h=>by have:=iW h;omega
end
section
variable {b N i m mb:Nat} {c:Cf} {w0 w:World} {left:Int}
def qP (b:Nat) (c:Cf) (N i mb:Nat) (w0 w:World) (left:Int):Prop:=∃A has nm,ki A N has∧et b c A [1,0] mb nm has w0 w∧nm≤i∧(∀j,i≤j→has j=none)∧left=(c.Wd:Int)-1-(N:Int)-(fp has N:Int)
def xe (b:Nat) (c:Cf) (N i m mb:Nat) (w0 w:World) (left:Int):Prop:=∃A has nm,ki A N has∧et b c (A.new (i+2) 0 0 m) [1,i+2] mb nm has w0 w∧nm≤i∧(∀j,i≤j→has j=none)∧left=(c.Wd:Int)-1-(N:Int)-(fp has N:Int)
def xf (b:Nat) (c:Cf) (N i m mb:Nat) (w0 w:World) (left:Int):Prop:=∃A has nm,ki A N has∧et b c ((A.new (i+2) 0 0 m).put 1 i (i+2)) [1,i+2] mb nm has w0 w∧nm≤i∧(∀j,i≤j→has j=none)∧left=(c.Wd:Int)-1-(N:Int)-(fp has N:Int)
def sT (b:Nat) (c:Cf) (N i m mb:Nat) (w0 w:World) (left:Int):Prop:=∃A has nm,ki A N has∧has i=some (m+1)∧et b c A [1,i+2] mb nm has w0 w∧nm≤i+1∧(∀j,i+1≤j→has j=none)∧left-(m+1:Nat)=(c.Wd:Int)-1-(N:Int)-(fp has N:Int)
theorem qP.alloc (h:qP b c N i mb w0 w left) (hs:1<c.Sl) (hm:m<40):Calls Tryz.prog 11 #[b,.int .i64 1,bP ((0:Nat):Int) ((0:Nat):Int) (m:Int)] w fun e w'=>(e= .returned (.int .i64 0)∧xe b c N i m mb w0 w' left)∨(e= .returned (.int .i64 21)∧qP b c N (i+1) mb w0 w' left):=by
 obtain ⟨A,has,nm,h1,h2,h3,h4,h5⟩:=h;have hn:i+2∉1::dF has N:=fun hx=>by
  rcases List.mem_cons.1 hx with h|h
  ·omega
  ·obtain ⟨j,m',_,hj,e⟩:=dG.1 h;obtain rfl:i=j:=by omega
   rw [h4 i (Nat.le_refl _)] at hj;cases hj
 refine (h2.alloc (s:=1) h1.lives hs (by unfold bw;omega) (by omega) hn).mono ?_;rintro e w' (⟨g0,rfl,g1⟩|⟨g0,rfl,g1⟩)
 ·exact .inl ⟨rfl,A,has,nm,h1,g1,h3,h4,h5⟩
 ·exact .inr ⟨rfl,A,has,nm,h1,g1,by omega,fun j hj=>h4 j (by omega),h5⟩
theorem xe.store (h:xe b c N i m mb w0 w left) (hi:i<N):Calls Tryz.prog 13 #[b,.int .i64 0,.int .i64 i,.int .i64 1] w fun e w'=>e= .returned (.int .i64 0)∧xf b c N i m mb w0 w' left:=by
 obtain ⟨A,has,nm,h1,h2,h3⟩:=h;refine (h2.store (s:=0) (x:=1) (i:=i) (t:=1) (v:=i+2) rfl (by omega) (by rw [(AG.new_other (show 1≠i+2 by omega)).1,h1.np1];exact hi) rfl).mono ?_;rintro e w' ⟨rfl,g1⟩;exact ⟨rfl,A,has,nm,h1,g1,h3⟩
theorem xf.put (h:xf b c N i m mb w0 w left) (hi:i<N) (hN:N≤60) (hm:m<40) (ht:aN<w0.heap.size):∃w',(Instr.mapUpdate 33 (.map (some mb)) (.int .i64 i) (.int .i64 ((m+1:Nat):Int))).run Tryz.prog w= .ok () w'∧sT b c N i m mb w0 w' left:=by
 obtain ⟨A,has,nm,h1,h2,h3,h4,h5⟩:=h;obtain ⟨w',g1,g2,g3⟩:=h2.map.put i (m+1) (by omega) (by omega) (by omega);have hn:=h4 i (Nat.le_refl _);rw [hn] at g2;have hst:dg has i (m+1)=nH has i (some (m+1)):=rfl;rw [hst] at g2;refine ⟨w',g1,_,_,_,h1.add (m:=m) hi hn,gO,h2.turn ht g2 g3,by simp;omega,fun j hj=>by rw [fG (by omega)];exact h4 j (by omega),?_⟩;have:=jT (has:=has) (i:=i) (some (m+1)) N;rw [if_pos hi,if_pos hi,hn] at this;simp at this;omega
theorem sT.look (h:sT b c N i m mb w0 w left) (hi:i<60):(Instr.lookup 33 (.map (some mb)) (.int .i64 i) false).run Tryz.prog w= .ok (.int .i64 ((m+1:Nat):Int)) w:=by
 obtain ⟨A,has,nm,h1,hi2,h2,h3⟩:=h;have:=h2.map.look i (by omega);rw [hi2] at this;exact this
theorem sT.clear (h:sT b c N i m mb w0 w left) (hs:1<c.Sl):Calls Tryz.prog 14 #[b,.int .i64 1] w fun e w'=>e= .returned (.int .i64 0)∧qP b c N (i+1) mb w0 w' (left-(m+1:Nat)):=by
 obtain ⟨A,has,nm,h1,hi2,h2,h3,h4,h5⟩:=h;refine (h2.clear (s:=1) hs).mono ?_;rintro e w' ⟨rfl,g⟩;exact ⟨rfl,A,has,nm,h1,g,h3,h4,h5⟩
theorem qP.clear (h:qP b c N i mb w0 w left) (hs:1<c.Sl):Calls Tryz.prog 14 #[b,.int .i64 1] w fun e w'=>e= .returned (.int .i64 0)∧qP b c N i mb w0 w' left:=by
 obtain ⟨A,has,nm,h1,h2,h3⟩:=h;refine (h2.clear (s:=1) hs).mono ?_;rintro e w' ⟨rfl,g⟩;exact ⟨rfl,A,has,nm,h1,g,h3⟩
end
section
variable {b N i m mb d:Nat} {c:Cf} {w0 w w':World} {left:Int}
def sU (b:Nat) (c:Cf) (N mb:Nat) (w0 w:World) (left:Int):Prop:=∃A has nm,ki A N has∧et b c A [1,0] mb nm has w0 w∧left=(c.Wd:Int)-1-(N:Int)-(fp has N:Int)
def sV (b:Nat) (c:Cf) (N i d mb:Nat) (w0 w:World) (left:Int):Prop:=∃A has nm,ki A N has∧(has i).getD 0=d∧et b c (A.put 1 i 0) [1,0] mb nm has w0 w∧left=(c.Wd:Int)-1-(N:Int)-(fp has N:Int)
theorem qP.to2 (h:qP b c N i mb w0 w left):sU b c N mb w0 w left:=let ⟨A,has,nm,h1,h2,_,_,h5⟩:=h;⟨A,has,nm,h1,h2,h5⟩
theorem sU.fr (h:sU b c N mb w0 w left):Fr (fun _=>False) w0 w:=let ⟨_,_,_,_,h2,_⟩:=h;h2.fr
theorem qP.fr (h:qP b c N i mb w0 w left):Fr (fun _=>False) w0 w:=h.to2.fr
theorem sU.bound (h:sU b c N mb w0 w left):0≤left∧left≤c.Wd:=by
 obtain ⟨A,has,nm,h1,h2,h5⟩:=h;have h3:=h2.words_le h1.lives;rw [h1.Wd] at h3;omega
theorem qt {has:Nat→Option Nat}:∀k,i<k→(has i).getD 0≤fp has k
 |k+1,h=>by
  rw [el];by_cases e:i=k
  ·subst e;omega
  ·have:=qt (has:=has) k (by omega);omega
theorem sU.store (h:sU b c N mb w0 w left) (hi:i<N):∃d,d≤c.Wd∧Calls Tryz.prog 13 #[b,.int .i64 0,.int .i64 i,.int .i64 1] w fun e w'=>e= .returned (.int .i64 0)∧sV b c N i d mb w0 w' left:=by
 obtain ⟨A,has,nm,h1,h2,h5⟩:=h;have h3:=h2.words_le h1.lives;rw [h1.Wd] at h3;have h4:=qt (has:=has) (i:=i) N hi;refine ⟨(has i).getD 0,by omega,(h2.store (s:=0) (x:=1) (i:=i) (t:=1) (v:=0) rfl (by omega) (by rw [h1.np1];exact hi) rfl).mono ?_⟩;rintro e w' ⟨rfl,g1⟩;exact ⟨rfl,A,has,nm,h1,rfl,g1,h5⟩
theorem sV.look (h:sV b c N i d mb w0 w left) (hi:i<60):(Instr.lookup 33 (.map (some mb)) (.int .i64 i) false).run Tryz.prog w= .ok (.int .i64 d) w:=by
 obtain ⟨A,has,nm,h1,hd,h2,h3⟩:=h;have:=h2.map.look i (by omega);rw [hd] at this;exact this
theorem sV.del (h:sV b c N i d mb w0 w left) (hi:i<N) (hN:N≤60) (ht:aN<w0.heap.size) (ty:TypeId):∃w',(Builtin.delete_ #[33,3] ty #[.map (some mb),.int .i64 i]).run Tryz.prog w= .ok (.tuple #[]) w'∧sU b c N mb w0 w' (left+d):=by
 obtain ⟨A,has,nm,h1,hd,h2,h3⟩:=h;obtain ⟨w',g1,g2,g3⟩:=h2.map.del i (by omega) ty;refine ⟨w',g1,_,_,_,h1.drop hi,h2.turn ht g2 g3,?_⟩;have:=jT (has:=has) (i:=i) none N;rw [if_pos hi,if_pos hi,hd] at this;simp at this;omega
def nY (b:Nat) (c:Cf) (mb:Nat) (w0 w:World) (left:Int):Prop:=∃A r l nm f,r≠0∧aL A [r,0] l∧et b c A [r,0] mb nm f w0 w∧left=(c.Wd:Int)-(A.Wd l:Int)
def xg (b:Nat) (c:Cf) (mb:Nat) (w0 w:World) (left:Int):Prop:=∃A r l k nm f,r≠0∧k≠0∧k∉l∧aL A [r,0] l∧et b c (A.new k 1 0 198) [r,k] mb nm f w0 w∧left=(c.Wd:Int)-(A.Wd l:Int)
def xh (b:Nat) (c:Cf) (mb:Nat) (w0 w:World) (left:Int):Prop:=∃A r l nm f,r≠0∧aL A [r,0] l∧(∃q,et b c A [q,r] mb nm f w0 w)∧left-200=(c.Wd:Int)-(A.Wd l:Int)
def xi (b:Nat) (c:Cf) (mb:Nat) (w0 w:World) (left:Int):Prop:=∃A r l nm f,r≠0∧aL A [r,0] l∧et b c A [r,r] mb nm f w0 w∧left-200=(c.Wd:Int)-(A.Wd l:Int)
theorem sU.to3 (h:sU b c N mb w0 w left):nY b c mb w0 w left:=by
 obtain ⟨A,has,nm,h1,h2,h5⟩:=h;refine ⟨A,1,_,nm,has,by omega,h1.lives,h2,?_⟩;rw [h1.Wd];push_cast;omega
theorem nY.fr (h:nY b c mb w0 w left):Fr (fun _=>False) w0 w:=let ⟨_,_,_,_,_,_,_,h3,_⟩:=h;h3.fr
theorem nY.bound (h:nY b c mb w0 w left):0≤left∧left≤c.Wd:=by
 obtain ⟨A,r,l,nm,f,h1,h2,h3,h4⟩:=h;have:=h3.words_le h2;omega
theorem nY.alloc (h:nY b c mb w0 w left) (hs:1<c.Sl) (hl:250<left):Calls Tryz.prog 11 #[b,.int .i64 1,bP ((1:Nat):Int) ((0:Nat):Int) ((198:Nat):Int)] w fun e w'=>e= .returned (.int .i64 0)∧xg b c mb w0 w' left:=by
 obtain ⟨A,r,l,nm,f,h1,h2,h3,h4⟩:=h;refine (h3.alloc (s:=1) (k:=l.sum+1) h2 hs (by unfold bw;omega) (by omega) (gy l)).mono ?_;rintro e w' (⟨g0,rfl,g1⟩|⟨g0,rfl,g1⟩)
 ·exact ⟨rfl,A,r,l,_,nm,f,h1,by omega,gy l,h2,g1,h4⟩
 ·omega
theorem xg.store (h:xg b c mb w0 w left):Calls Tryz.prog 13 #[b,.int .i64 1,.int .i64 0,.int .i64 0] w fun e w'=>e= .returned (.int .i64 0)∧xh b c mb w0 w' left:=by
 obtain ⟨A,r,l,k,nm,f,h1,hk0,hk,h2,h3,h4⟩:=h;refine (h3.store (s:=1) (x:=k) (i:=0) (t:=0) (v:=r) rfl hk0 (by rw [(AG.new_self A k 1 0 198).1];omega) rfl).mono ?_;rintro e w' ⟨rfl,g1⟩;refine ⟨rfl,A.Ah k 1 0 198 r,k,k::l,nm,f,hk0,mm h2 h1 hk0 hk rfl,⟨r,g1⟩,?_⟩;rw [mn hk];omega
theorem xh.copy (h:xh b c mb w0 w left) (hs:1<c.Sl):Calls Tryz.prog 15 #[b,.int .i64 0,.int .i64 1] w fun e w'=>e= .returned (.int .i64 0)∧xi b c mb w0 w' left:=by
 obtain ⟨A,r,l,nm,f,h1,h2,⟨q,h3⟩,h4⟩:=h;refine (h3.copy (s:=0) (t:=1) (r:=r) (by omega) rfl).mono ?_;rintro e w' ⟨rfl,g1⟩;exact ⟨rfl,A,r,l,nm,f,h1,h2,g1,h4⟩
theorem xi.clear (h:xi b c mb w0 w left) (hs:1<c.Sl):Calls Tryz.prog 14 #[b,.int .i64 1] w fun e w'=>e= .returned (.int .i64 0)∧nY b c mb w0 w' (left-200):=by
 obtain ⟨A,r,l,nm,f,h1,h2,h3,h4⟩:=h;refine (h3.clear (s:=1) hs).mono ?_;rintro e w' ⟨rfl,g1⟩;exact ⟨rfl,A,r,l,nm,f,h1,h2,g1,h4⟩
theorem nY.full (h:nY b c mb w0 w left) (hs:1<c.Sl) {n:Nat} (hn:left=(n:Int)) (h250:n≤250):Calls Tryz.prog 11 #[b,.int .i64 1,bP ((0:Nat):Int) ((0:Nat):Int) (n:Int)] w fun e w'=>e= .returned (.int .i64 21)∧nY b c mb w0 w' left:=by
 obtain ⟨A,r,l,nm,f,h1,h2,h3,h4⟩:=h;refine (h3.alloc (s:=1) (k:=l.sum+1) h2 hs (by unfold bw;omega) (by omega) (gy l)).mono ?_;rintro e w' (⟨g0,rfl,g1⟩|⟨g0,rfl,g1⟩)
 ·omega
 ·exact ⟨rfl,A,r,l,nm,f,h1,h2,g1,h4⟩
theorem nY.last (h:nY b c mb w0 w left) (hs:1<c.Sl) {n:Nat} (hn:left=((n+1:Nat):Int)) (h250:n≤250):Calls Tryz.prog 11 #[b,.int .i64 1,bP ((0:Nat):Int) ((0:Nat):Int) (n:Int)] w fun e w'=>e= .returned (.int .i64 0)∧Fr (fun _=>False) w0 w':=by
 obtain ⟨A,r,l,nm,f,h1,h2,h3,h4⟩:=h;refine (h3.alloc (s:=1) (k:=l.sum+1) h2 hs (by unfold bw;omega) (by omega) (gy l)).mono ?_;rintro e w' (⟨g0,rfl,g1⟩|⟨g0,rfl,g1⟩)
 ·exact ⟨rfl,g1.fr⟩
 ·omega
end
def sO (w:World) (v:Value) (n:Nat):Prop:=(n=0∧∃p cp,v= .slice p 0 cp)∨∃g o cp,v= .slice (some ⟨g,o,none⟩) n cp∧∀i,i<n→∃x:Nat,x<256∧w.cell? ⟨g,o+i,none⟩=some (.int .u8 x)
theorem sO.shape {w:World} {v:Value} {n:Nat} (h:sO w v n):∃p cp,v= .slice p n cp:=by
 rcases h with ⟨rfl,p,cp,rfl⟩|⟨g,o,cp,rfl,_⟩
 ·exact ⟨p,cp,rfl⟩
 ·exact ⟨_,cp,rfl⟩
def xm (w:World) (e:Ending) (w':World):Prop:=e= .returned (.bool true)∧Fr (fun _=>False) w w'
section
variable {v0 v1 v2 v3 v4 v5 v6:Int} {tr n1 n2:Nat} {s1 s2:Value} {w:World}
theorem nS (b1:v1≤9223372036854775807) (b2:v2≤9223372036854775807) (b3:v3≤9223372036854775807) (hT:bu w) (h1:sO w s1 n1) (h2:sO w s2 n2):Calls Tryz.prog 3 #[d8 v0 v1 v2 v3 v4 v5 v6 tr,s1,s2] w (xm w):=by
 obtain ⟨p1,cp1,hs1⟩:=h1.shape;obtain ⟨p2,cp2,hs2⟩:=h2.shape;have htl:aN<w.heap.size:=aE (hT 0 0 rfl);obtain ⟨W1,hW1⟩:∃W1,w.alloc (.cells #[.int .i64 v0,.int .i64 v1,.int .i64 v2,.int .i64 v3,.int .i64 2,.int .i64 v5,.int .i64 v6,.float .f64 tr] 24)=W1:=⟨_,rfl⟩;have hf1:Fr (fun _=>False) w W1:=by rw [←hW1];exact (Fr.refl _ w).alloc _
 have hb1:ak W1 w.heap.size [.int .i64 v0,.int .i64 v1,.int .i64 v2,.int .i64 v3,.int .i64 2,.int .i64 v5,.int .i64 v6,.float .f64 tr] 24:=by rw [←hW1];exact ak.new w _ _
 obtain ⟨k0,k1,k2,k3,k4,k5,k6,k7⟩:=dp hb1;have HMD:=ae (mQ (v0:=v0) (v4:=2) (v5:=v5) (v6:=v6) (tr:=tr) b1 b2 b3 (an hT hf1 (fun h=>h)) ⟨fun _=>0,fun _=>0,fun _=>0,fun _ _=>0⟩ none 0 0);have HLI:=ae (fun w1 (hf:Fr (fun _=>False) w w1)=>jt w1 (an hT hf (fun h=>h)));have HF1:=ae hf1;have HB1:=ae hb1;have HX:=ae (af h1 h2);have HQ:Hid (∀w',Fr (fun _=>False) w w'→xm w (.returned (.bool true)) w'):=ae (fun w' h=>⟨rfl,h⟩);subst hs1 hs2;clear b1 b2 b3 hT h1 h2 hf1 hb1;unfold d8 at HMD ⊢;generalize (xm w)=Q at*
 go_enter Tryz.func3,Tryz.ntmps3
 go_wp2_with fail
 refine (HMD.out).mono ?_;rintro e w2 hmd;obtain ⟨k0,k1,k2,k3,k4,k5,k6,k7⟩:=dp (HB1.out);rcases hmd with ⟨rfl,hf2⟩|⟨c,b,T,hc,hcv,hw3,_,rfl,hi,hTn,hf2⟩
 ·have HL2:=ae (HLI.out w2 (HF1.out.trans hf2 (fun _ h=>h.elim)));have HF2:=ae (HF1.out.trans hf2 (fun _ h=>h.elim));clear HMD HLI HF1 HB1 HX hf2 hW1 k0 k1 k2 k3 k4 k5 k6 k7;go_wp2_with fail
  refine (HL2.out).mono ?_;rintro e w3 ⟨rfl,hf3⟩;have H:=ae (HQ.out w3 (HF2.out.trans hf3 (fun _ h=>h.elim)));clear HL2 HF2 hf3 HQ;go_wp2;exact H.out
 ·have hv:=Array.mk.inj (Value.agg.inj hcv);simp only [List.cons.injEq,Value.int.injEq,true_and,and_true,Value.float.injEq] at hv;obtain ⟨e0,e1,e2,e3,e4,e5,e6,e7⟩:=hv;have hsl:c.Sl=2:=by omega
  have hf02:=HF1.out.trans hf2 (fun _ h=>h.elim);obtain ⟨k0,k1,k2,k3,k4,k5,k6,k7⟩:=dp (HB1.out.frame hf2 (fun h=>h));have HL2:=ae (fun w3 (hf:Fr (fun _=>False) w2 w3)=>HLI.out w3 (hf02.trans hf (fun _ h=>h.elim)));have HQ2:=ae (fun w3 (hf:Fr (fun _=>False) w2 w3)=>HQ.out w3 (hf02.trans hf (fun _ h=>h.elim)));have hA0:aL (⟨fun _=>0,fun _=>0,fun _=>0,fun _ _=>0⟩:AG) (List.replicate c.Sl 0) []:=⟨.nil,fun x=>⟨fun h=>by simp at h,fun h=>absurd h de⟩⟩;clear HMD hcv hw3 hW1;by_cases hbig:n1≤60∧n2≤60∧v3≤1024
  case neg=>
   have HL3:=ae (HL2.out w2 (Fr.refl _ _));clear HL2 HX HF1 HB1 HLI hi hTn hf2 hf02 hc hA0 HQ e0 e1 e2 e3 e4 e5 e6 e7 hsl;by_cases g1:n1≤60
   ·by_cases g2:n2≤60
    ·have g3:decide (1024<v3)=true:=by rw [decide_eq_true_eq];omega
     have g3':(1024:Int)<v3:=by omega
     have g1d:decide ((60:Int)<(n1:Int))=false:=by rw [decide_eq_false_iff_not];omega
     have g2d:decide ((60:Int)<(n2:Int))=false:=by rw [decide_eq_false_iff_not];omega
     clear hbig;go_wp2_with fail
     refine (HL3.out).mono ?_;rintro e w3 ⟨rfl,hf3⟩;have H:=ae (HQ2.out w3 hf3);clear HL3 hf3 HQ2;go_wp2;exact H.out
    ·have g2d:decide ((60:Int)<(n2:Int))=true:=by rw [decide_eq_true_eq];omega
     have g1d:decide ((60:Int)<(n1:Int))=false:=by rw [decide_eq_false_iff_not];omega
     clear hbig;go_wp2_with fail
     refine (HL3.out).mono ?_;rintro e w3 ⟨rfl,hf3⟩;have H:=ae (HQ2.out w3 hf3);clear HL3 hf3 HQ2;go_wp2;exact H.out
   ·have g1d:decide ((60:Int)<(n1:Int))=true:=by rw [decide_eq_true_eq];omega
    clear hbig;go_wp2_with fail
    refine (HL3.out).mono ?_;rintro e w3 ⟨rfl,hf3⟩;have H:=ae (HQ2.out w3 hf3);clear HL3 hf3 HQ2;go_wp2;exact H.out
  case pos=>
   obtain ⟨g1,g2,g3⟩:=hbig;have g1d:decide ((60:Int)<(n1:Int))=false:=by rw [decide_eq_false_iff_not];omega
   have g2d:decide ((60:Int)<(n2:Int))=false:=by rw [decide_eq_false_iff_not];omega
   have g3d:decide (1024<v3)=false:=by rw [decide_eq_false_iff_not];omega
   have HAL:=ae (ek (s:=0) (k:=1) (p:=n1) (f:=0) (g:=0) hi hA0 (by omega) (by unfold bw;omega) (by omega) de);have HE:=ae (af e3 (af hsl (af hTn (af hf2 (af hf02 (af g1 (af g2 g3)))))));rw [hsl] at HAL;clear e0 e1 e2 e3 e4 e5 e6 e7 hsl hTn hf2 hf02 hi hA0 hc g1 g2 g3;unfold bP at HAL;rw [show ((0:Nat):Int)=0 from rfl] at HAL;have hmm:∀(t:TypeId) (w:World),(Instr.makeMap t none).run Tryz.prog w= .ok (.map (some w.heap.size)) (w.alloc (.map #[] 0)):=fun _ _=>rfl
   go_wp2_with fail
   refine (HAL.out).mono ?_;rintro e w3 (⟨g0,rfl,u3,n3,T3,hi3,hf3,ht3⟩|⟨g0,rfl,u3,n3,T3,hi3,hf3,ht3⟩)
   case inr=>
    obtain ⟨e3,hsl,hTn,hf2,hf02,g1,g2,g3⟩:=HE.out;have HF3:=ae (hf02.trans hf3 (fun k hk=> .inr (by have h1:=hTn k hk;have h2:=HF1.out.size;omega)));have HL3:=ae (HLI.out w3 HF3.out);clear HAL HL2 HX HF1 HB1 HLI HE g0 hi3 hf3 ht3 HQ2 e3 hsl hTn hf2 hf02 g1 g2 g3;go_wp2_with fail
    refine (HL3.out).mono ?_;rintro e w4 ⟨rfl,hf4⟩;have H:=ae (HQ.out w4 (HF3.out.trans hf4 (fun _ h=>h.elim)));clear HL3 hf4 HQ HF3;go_wp2;exact H.out
   case inl=>
    obtain ⟨e3,hsl,hTn,hf2,hf02,g1,g2,g3⟩:=HE.out;have hz2:=hf2.size;have hz3:=hf3.size;have hz1:=HF1.out.size;have hf03:=hf02.trans hf3 (fun k hk=> .inr (by have h1:=hTn k hk;omega));have hbx3:=(HB1.out.frame hf2 (fun h=>h)).frame hf3 (fun h=>by have h1:=hTn _ h;have h2:=HB1.out.lt;omega);have hrs:(List.replicate 2 0).set 0 1=[1,0]:=rfl;rw [hrs] at hi3;obtain ⟨n1',n2',n3',n4',n5'⟩:=AG.new_self (⟨fun _=>0,fun _=>0,fun _=>0,fun _ _=>0⟩:AG) 1 n1 0 0;obtain ⟨LF,hLF⟩:∃LF:Int,LF=(c.Wd:Int)-1-(n1:Int)-((fp (fun _=>none) n1:Nat):Int):=⟨_,rfl⟩;have hs0:∀n,fp (fun _=>none) n=0:=fun n=>by
     induction n with
     |zero=>rfl
     |succ n ih=>rw [el,ih];rfl
    have hle:1+n1≤c.Wd:=by
     unfold AG.Wd at g0;simp at g0;omega
    have H0:=ae (show qP b c n1 0 w3.heap.size w (w3.alloc (.map #[] 0)) LF from ⟨_,fun _=>none,0,⟨n1',n2',n3',fun i m _ h=>(by cases h),fun i _ _=>n4' i⟩,⟨u3,n3,T3,hi3.keep ((Fr.refl _ w3).alloc _),fun k hk=>by
     rcases ht3 k hk with h|h
     ·have:=hTn k h;omega
     ·omega,fun hk=>by have:=hi3.lt _ hk;omega,by omega,im w3,hf03.alloc _⟩,Nat.le_refl _,fun _ _=>rfl,hLF⟩)
    have hlf:wrap64 (wrap64 (v3-1)-(n1:Int))=LF:=by
     rw [hLF,hs0,e3];unfold wrap64;omega
    obtain ⟨k0,k1,k2,k3,k4,k5,k6,k7⟩:=dp hbx3;have HSL:=ae (af hsl (af hle (af g1 (af g2 (show c.Wd≤1024 by omega)))));clear HAL e3 hTn hf2 hf02 hz2 hz3 hz1 hbx3 hf03 hi3 ht3 hf3 n1' n2' n3' n4' n5' hs0 hle g0 hLF hsl hrs g1 g2 g3;go_wp2_with fail
    obtain ⟨mb,hmb⟩:∃mb,mb=w3.heap.size:=⟨_,rfl⟩;rw [←hmb] at H0 ⊢;rw [hlf];clear hmb hlf
    go_loopw [8,53] (fun lf z wr=>∃(i:Nat) (left:Int),z= .int .i64 i∧i≤n1∧lf= .int .i64 left∧Hid (qP b c n1 i mb w wr left)) (fun _ z _=>(n1-intOf z).toNat)
    case atStart=>exact ⟨0,LF,rfl,by omega,rfl,H0⟩
    case round=>
     clear H0;obtain ⟨i,left,rfl,hi1,rfl,hr⟩:=hrel;by_cases hin:i<n1
     ·have c1:(i:Int)<(n1:Int):=by omega
      rcases HX.out.1 with ⟨h0,_⟩|⟨g,o,cp,he,hx⟩
      ·omega
      obtain ⟨hp,_,hcc⟩:=Value.slice.inj he;subst hp;subst hcc;obtain ⟨x,hx256,hxc⟩:=hx i hin;have hcw:wr.cell? ⟨g,o+i,none⟩=some (.int .u8 x):=(World.cell?_of_block (w:=w) (hr.out.fr.block _ (aE hxc) (fun h=>h))).trans hxc;obtain ⟨m,hm⟩:∃m,m=x% 40:=⟨_,rfl⟩;have hmx:(x:Int)% 40=(m:Int):=by omega
      have HM:=ae (show m<40 by omega);have hs1:1<c.Sl:=by have:=HSL.out.1;omega
      have HA1:=ae (hr.out.alloc hs1 HM.out);unfold bP at HA1;rw [show ((0:Nat):Int)=0 from rfl] at HA1;have hn1:n1≤60:=HSL.out.2.2.1;have hbd:=hr.out.to2.bound;have hcw2:=HSL.out.2.2.2.2;have HBD:=ae (show 0≤left∧left≤1024 by omega);clear he hx hxc hm hbd hcw2;go_wp2_with fail
      refine (HA1.out).mono ?_;rintro e w4 (⟨rfl,ha⟩|⟨rfl,ha⟩)
      ·have HST:=ae (ha.store hin);clear HA1 ha hcw hr;go_wp2_with fail
       refine (HST.out).mono ?_;rintro e w5 ⟨rfl,hb⟩;obtain ⟨w6,hrun,hc6⟩:=hb.put hin hn1 HM.out htl;have hrun2:(Instr.mapUpdate 33 (.map (some mb)) (.int .i64 i) (.int .i64 ((m:Int)+1))).run Tryz.prog w5= .ok () w6:=hrun;have hlook:=hc6.look (show i<60 by omega);have HCL:=ae (hc6.clear hs1);have hlw:wrap64 (left-((m+1:Nat):Int))=left-((m+1:Nat):Int):=by have:=HBD.out;have:=HM.out;unfold wrap64;omega
       clear HST hb hrun hc6;go_wp2_with fail
       refine (HCL.out).mono ?_;rintro e w7 ⟨rfl,hn⟩;have HN:=ae hn;clear HCL hn hrun2 hlook;have hlw2:wrap64 (left-((m:Int)+1))=left-((m:Int)+1):=hlw;go_wp2;go_roundw
       case rel=>exact ⟨i+1,left-((m+1:Nat):Int),by go_num,by omega,by first|rfl|(rw [hlw2];rfl),HN⟩
       case measure=>simp [intOf];omega
      ·have HCL:=ae (ha.clear hs1);clear HA1 ha hcw hr;go_wp2_with fail
       refine (HCL.out).mono ?_;rintro e w7 ⟨rfl,hn⟩;have HN:=ae hn;clear HCL hn;go_wp2;go_roundw
       case rel=>exact ⟨i+1,left,by go_num,by omega,rfl,HN⟩
       case measure=>simp [intOf];omega
     ·have H2:=ae hr.out.to2;have c1:¬(i:Int)<(n1:Int):=by omega
      clear hr hin hi1;go_wp2
      go_loopw [8,84] (fun lf z wr=>∃(j:Nat) (left:Int),z= .int .i64 j∧j≤n2∧lf= .int .i64 left∧Hid (sU b c n1 mb w wr left)) (fun _ z _=>(n2-intOf z).toNat)
      case atStart=>exact ⟨0,left,rfl,by omega,rfl,H2⟩
      case round=>
       clear H2 c1;obtain ⟨j,left,rfl,hj1,rfl,hr⟩:=hrel;by_cases hjn:j<n2
       ·have c1:(j:Int)<(n2:Int):=by omega
        rcases HX.out.2 with ⟨h0,_⟩|⟨g,o,cp,he,hx⟩
        ·omega
        obtain ⟨hp,_,hcc⟩:=Value.slice.inj he;subst hp;subst hcc;obtain ⟨x,hx256,hxc⟩:=hx j hjn;have hcw:wr.cell? ⟨g,o+j,none⟩=some (.int .u8 x):=(World.cell?_of_block (w:=w) (hr.out.fr.block _ (aE hxc) (fun h=>h))).trans hxc;have hn2:n2≤60:=HSL.out.2.2.2.1;clear he hx hxc;by_cases hz:n1=0
        ·subst hz;have H3:=ae (hr.out.to3);clear hr;go_wp2
         go_loopw [8] (fun lf wr=>∃left:Int,lf= .int .i64 left∧Hid (nY b c mb w wr left)) (fun lf _=>(intOf lf).toNat)
         case atStart=>exact ⟨left,rfl,H3⟩
         case round=>
          clear H3;obtain ⟨left,rfl,hr⟩:=hrel;have hs1:1<c.Sl:=by have:=HSL.out.1;omega
          by_cases hg:250<left
          ·have HAL:=ae (hr.out.alloc hs1 hg);have HBD:=ae (af hr.out.bound HSL.out.2.2.2.2);unfold bP at HAL;rw [show ((0:Nat):Int)=0 from rfl,show ((1:Nat):Int)=1 from rfl,show ((198:Nat):Int)=198 from rfl] at HAL;clear hr;go_wp2_with fail
           refine (HAL.out).mono ?_;rintro e w4 ⟨rfl,ha⟩;have HST:=ae ha.store;clear HAL ha;go_wp2_with fail
           refine (HST.out).mono ?_;rintro e w5 ⟨rfl,hb⟩;have HCP:=ae (hb.copy hs1);clear HST hb;go_wp2_with fail
           refine (HCP.out).mono ?_;rintro e w6 ⟨rfl,hc⟩;have HCL:=ae (hc.clear hs1);clear HCP hc;go_wp2_with fail
           refine (HCL.out).mono ?_;rintro e w7 ⟨rfl,hn⟩;have hlw:wrap64 (left-200)=left-200:=by have:=HBD.out;unfold wrap64;omega
           have HN:=ae hn;clear HCL hn;go_wp2;go_roundw
           case rel=>exact ⟨left-200,by rw [hlw],HN⟩
           case measure=>simp only [intOf];omega
          ·obtain ⟨n,rfl⟩:∃n:Nat,left=(n:Int):=⟨left.toNat,by have:=hr.out.bound;omega⟩;have HFU:=ae (hr.out.full hs1 rfl (show n≤250 by omega));unfold bP at HFU;rw [show ((0:Nat):Int)=0 from rfl] at HFU;have hg':¬(250:Int)<(n:Int):=hg;have HG:=ae (show n≤250 by omega);clear hr hg;go_wp2_with fail
           refine (HFU.out).mono ?_;rintro e w4 ⟨rfl,h4⟩;clear HFU hg';by_cases h0:n=0
           ·subst h0;have HL5:=ae (HLI.out w4 h4.fr);have HF5:=ae h4.fr;clear h4;go_wp2_with fail
            refine (HL5.out).mono ?_;rintro e w5 ⟨rfl,hf5⟩;have H:=ae (HQ.out w5 (HF5.out.trans hf5 (fun _ h=>h.elim)));clear HL5 hf5 HF5 HQ;go_wp2;exact H.out
           ·obtain ⟨k,rfl⟩:∃k,n=k+1:=⟨n-1,by omega⟩;have HLA:=ae (h4.last hs1 rfl (show k≤250 by have:=HG.out;omega));unfold bP at HLA;rw [show ((0:Nat):Int)=0 from rfl] at HLA;have hw1:wrap64 (((k+1:Nat):Int)-1)=(k:Int):=by have:=HG.out;unfold wrap64;omega
            have hn0:¬((k+1:Nat):Int)=0:=by omega
            have hn0d:decide (((k+1:Nat):Int)=0)=false:=decide_eq_false hn0;obtain ⟨K,hK⟩:∃K:Int,K=((k+1:Nat):Int):=⟨_,rfl⟩;rw [←hK] at hw1 hn0 hn0d ⊢;clear h4 h0 hK;go_wp2_with fail
            refine (HLA.out).mono ?_;rintro e w5 ⟨rfl,hf5⟩;have HL6:=ae (HLI.out w5 hf5);have HF6:=ae hf5;clear HLA hf5;go_wp2_with fail
            refine (HL6.out).mono ?_;rintro e w6 ⟨rfl,hf6⟩;have H:=ae (HQ.out w6 (HF6.out.trans hf6 (fun _ h=>h.elim)));clear HL6 hf6 HF6 HQ;go_wp2;exact H.out
        ·obtain ⟨i,hi⟩:∃i,i=x% n1:=⟨_,rfl⟩;have hin:i<n1:=by rw [hi];exact Nat.mod_lt _ (by omega)
         have hn1:n1≤60:=HSL.out.2.2.1;have hmx:(x:Int)% (n1:Int)=(i:Int):=by
          rw [show (x:Int)% (n1:Int)=((x% n1:Nat):Int) from rfl,←hi]
         obtain ⟨d,hd,hst⟩:=hr.out.store hin;have HST:=ae hst;have HBD:=ae (af hr.out.bound (af hd HSL.out.2.2.2.2));clear hst hd hi hr;go_wp2_with fail
         refine (HST.out).mono ?_;rintro e w5 ⟨rfl,hb⟩;have hlook:=hb.look (show i<60 by omega);obtain ⟨w6,hrun,hn⟩:=hb.del hin hn1 htl 0;have hlw:wrap64 (left+(d:Int))=left+(d:Int):=by have:=HBD.out;unfold wrap64;omega
         have HN:=ae hn;clear HST hb hn hcw;go_wp2_with fail
         exact ⟨⟨j+1,left+(d:Int),by go_num,by omega,by rw [hlw],HN⟩,by simp [intOf];omega⟩
       ·have c1:¬(j:Int)<(n2:Int):=by omega
        clear hjn hj1;have H3:=ae (hr.out.to3);clear hr;go_wp2
        go_loopw [8] (fun lf wr=>∃left:Int,lf= .int .i64 left∧Hid (nY b c mb w wr left)) (fun lf _=>(intOf lf).toNat)
        case atStart=>exact ⟨left,rfl,H3⟩
        case round=>
         clear H3;obtain ⟨left,rfl,hr⟩:=hrel;have hs1:1<c.Sl:=by have:=HSL.out.1;omega
         by_cases hg:250<left
         ·have HAL:=ae (hr.out.alloc hs1 hg);have HBD:=ae (af hr.out.bound HSL.out.2.2.2.2);unfold bP at HAL;rw [show ((0:Nat):Int)=0 from rfl,show ((1:Nat):Int)=1 from rfl,show ((198:Nat):Int)=198 from rfl] at HAL;clear hr;go_wp2_with fail
          refine (HAL.out).mono ?_;rintro e w4 ⟨rfl,ha⟩;have HST:=ae ha.store;clear HAL ha;go_wp2_with fail
          refine (HST.out).mono ?_;rintro e w5 ⟨rfl,hb⟩;have HCP:=ae (hb.copy hs1);clear HST hb;go_wp2_with fail
          refine (HCP.out).mono ?_;rintro e w6 ⟨rfl,hc⟩;have HCL:=ae (hc.clear hs1);clear HCP hc;go_wp2_with fail
          refine (HCL.out).mono ?_;rintro e w7 ⟨rfl,hn⟩;have hlw:wrap64 (left-200)=left-200:=by have:=HBD.out;unfold wrap64;omega
          have HN:=ae hn;clear HCL hn;go_wp2;go_roundw
          case rel=>exact ⟨left-200,by rw [hlw],HN⟩
          case measure=>simp only [intOf];omega
         ·obtain ⟨n,rfl⟩:∃n:Nat,left=(n:Int):=⟨left.toNat,by have:=hr.out.bound;omega⟩;have HFU:=ae (hr.out.full hs1 rfl (show n≤250 by omega));unfold bP at HFU;rw [show ((0:Nat):Int)=0 from rfl] at HFU;have hg':¬(250:Int)<(n:Int):=hg;have HG:=ae (show n≤250 by omega);clear hr hg;go_wp2_with fail
          refine (HFU.out).mono ?_;rintro e w4 ⟨rfl,h4⟩;clear HFU hg';by_cases h0:n=0
          ·subst h0;have HL5:=ae (HLI.out w4 h4.fr);have HF5:=ae h4.fr;clear h4;go_wp2_with fail
           refine (HL5.out).mono ?_;rintro e w5 ⟨rfl,hf5⟩;have H:=ae (HQ.out w5 (HF5.out.trans hf5 (fun _ h=>h.elim)));clear HL5 hf5 HF5 HQ;go_wp2;exact H.out
          ·obtain ⟨k,rfl⟩:∃k,n=k+1:=⟨n-1,by omega⟩;have HLA:=ae (h4.last hs1 rfl (show k≤250 by have:=HG.out;omega));unfold bP at HLA;rw [show ((0:Nat):Int)=0 from rfl] at HLA;have hw1:wrap64 (((k+1:Nat):Int)-1)=(k:Int):=by have:=HG.out;unfold wrap64;omega
           have hn0:¬((k+1:Nat):Int)=0:=by omega
           have hn0d:decide (((k+1:Nat):Int)=0)=false:=decide_eq_false hn0;obtain ⟨K,hK⟩:∃K:Int,K=((k+1:Nat):Int):=⟨_,rfl⟩;rw [←hK] at hw1 hn0 hn0d ⊢;clear h4 h0 hK;go_wp2_with fail
           refine (HLA.out).mono ?_;rintro e w5 ⟨rfl,hf5⟩;have HL6:=ae (HLI.out w5 hf5);have HF6:=ae hf5;clear HLA hf5;go_wp2_with fail
           refine (HL6.out).mono ?_;rintro e w6 ⟨rfl,hf6⟩;have H:=ae (HQ.out w6 (HF6.out.trans hf6 (fun _ h=>h.elim)));clear HL6 hf6 HF6 HQ;go_wp2;exact H.out
end
theorem tg {w:World} {p:Option Addr} {len cap:Nat} {zs:List Int} (h:qS .u8 w p len zs) (hz:∀n∈zs,(Lit.int .u8 n).wf=true):sO w (.slice p len cap) len:=by
 obtain ⟨h1,h2⟩:=h;by_cases h0:len=0
 ·subst h0;exact .inl ⟨rfl,p,cap,rfl⟩
 ·obtain ⟨b,off,_,rfl,_⟩:=h2 0 (by omega);refine .inr ⟨b,off,cap,rfl,fun i hi=> ?_⟩;obtain ⟨b',off',x,e,hx,hc⟩:=h2 i hi
  cases e
  have hw:=hz x (List.mem_of_getElem? hx);simp [Lit.wf,IntKind.min,IntKind.max,IntKind.bits,IntKind.signed] at hw;exact ⟨x.toNat,by omega,by rw [hc,Int.toNat_of_nonneg (by omega)]⟩
theorem mh {cs:List Value} {p1 p2:Option Addr} {n1 n2 c1 c2:Nat} {z1 z2:List Int} {W:World} (h:db lu cs) (h1:qS .u8 W p1 n1 z1) (g1:∀n∈z1,(Lit.int .u8 n).wf=true) (h2:qS .u8 W p2 n2 z2) (g2:∀n∈z2,(Lit.int .u8 n).wf=true) (hL:laidMetH Tryz.prog Rows.topHolesRow.laid W):Calls Tryz.prog 3 #[.agg cs.toArray,.slice p1 n1 c1,.slice p2 n2 c2] W fun e w'=>e= .returned (.bool true)∧Fr (fun _=>False) W w':=by
 obtain ⟨v0,v1,v2,v3,v4,v5,v6,tr,e,b1,b2,b3⟩:=iF h;rw [e];exact nS b1 b2 b3 (la hL) (tg h1 g1) (tg h2 g2)
end Go.Proofs.YthahbijbpinneaaGreatDoor
