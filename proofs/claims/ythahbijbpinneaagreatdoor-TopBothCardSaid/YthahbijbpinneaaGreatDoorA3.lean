import Derived.Test.YthahbijbpinneaaGreatDoorA0
import Derived.Test.YthahbijbpinneaaGreatDoorA2
set_option maxRecDepth 100000
set_option maxHeartbeats 8000000
set_option linter.all false
namespace Go.Proofs.YthahbijbpinneaaGreatDoor
open Go.RowKit Go.Proofs.Tryz
theorem sf:(prog.info? 4).map (fun i=>(i.zero,i.size,i.bytes))=some (some (.bool false),1,1):=by kernel_rfl
section
variable{w:World}{p Rm Pg Us Hg:Nat}{Tm:Int}{vw vt vb:Value}{ws:List Nat}{tk:List Bool}{bk:List Nat}
theorem pN{f n Pg i l:Nat}(hf:f<n)(a:i<Pg)(b:l=n*Pg):f*Pg+i<l:=by
 have:=iQ (Pg:=Pg) hf;omega
theorem dN.word(h:dN w p vw vt vb ws tk bk Rm Pg Us Hg Tm){f i:Nat}(hf:tk[f]? =some true)(k:i<Pg):∃g cap x,vw= .slice (some ⟨g,0,none⟩) ws.length cap/\ws[f*Pg+i]? =some x/\x<18446744073709551616/\w.cell? ⟨g,f*Pg+i,none⟩=some (.int .u64 x)/\w.frozen? ⟨g,f*Pg+i,none⟩=false:=by
 have a:=(al.1 hf).1;have b:=pN a k h.len;obtain ⟨x,c⟩:∃x,ws[f*Pg+i]? =some x:=⟨_,aK b⟩;obtain ⟨g,cap,e,_⟩:=js h.rw (by omega);have d:=h.rw;rw [e] at d;have:=mT d (j:=f*Pg+i) (u:= .int .u64 x) (by unfold ez;rw [aR,c];rfl);exact ⟨g,cap,x,e,c,h.lt x (aD c),this.1,this.2⟩
theorem uS(h:dN w p vw vt vb ws tk bk Rm Pg Us Hg Tm)(f i:Nat)(hf:tk[f]? =some true)(l:i<Pg):Calls prog 286 #[p,(f:Int),(i:Int)] w fun e w'=>(∃g cap,vw= .slice (some ⟨g,0,none⟩) ws.length cap/\e= .returned (.tuple #[.pointer (some ⟨g,f*Pg+i,none⟩),(0:Int)]))/\w=w':=by
 have c:=ae (sy h f hf);have a:=ae (wV h f (al.1 hf).1);have k:=h.Qd.cell 4 rfl;have j:(i:Int)<(Pg:Int):=by omega
 clear h hf
 go_enter func286,ntmps286
 go_wp2_with fail
 refine c.out.mono ?_;rintro e w' ⟨rfl,rfl⟩;go_wp2_with fail
 refine a.out.mono ?_;rintro e w' ⟨⟨g,cap,b,rfl⟩,rfl⟩;have d:=ae b;clear b;go_wp2;go_ret2;exact ⟨⟨g,cap,d.out,rfl⟩,rfl⟩
theorem Cm(h:dN w p vw vt vb ws tk bk Rm Pg Us Hg Tm)(f i:Nat)(hf:tk[f]? =some true)(d:i<Pg):Calls prog 264 #[p,(f:Int),(i:Int)] w fun e w'=>e= .returned (.tuple #[.int .u64 ((ws.getD (f*Pg+i) 0:Nat):Int),(0:Int)])/\w=w':=by
 have b:=ae (uS h f i hf d);obtain ⟨g,cap,x,rfl,j,_,l,_⟩:=h.word hf d;have a:ws.getD (f*Pg+i) 0=x:=by rw [aQ,j];rfl
 rw [a];clear h hf j a
 go_enter func264,ntmps264
 go_wp2_with fail
 refine b.out.mono ?_;rintro e w' ⟨⟨g',c,k,rfl⟩,rfl⟩
 cases k
 go_wp2;go_ret2;exact ⟨rfl,rfl⟩
theorem dN.stored(h:dN w p vw vt vb ws tk bk Rm Pg Us Hg Tm){f i g cap x:Nat}(hf:tk[f]? =some true)(o:i<Pg)(m:vw= .slice (some g) ws.length cap)(q:x<18446744073709551616):
  dN (w.setCell ⟨g,f*Pg+i,none⟩ (.int .u64 x)) p vw vt vb (ws.set (f*Pg+i) x) tk bk Rm Pg Us Hg Tm/\Fr (fun k=>vw.ownBlock=some k) w (w.setCell ⟨g,f*Pg+i,none⟩ (.int .u64 x)):=by
 have j:=(al.1 hf).1;have l:=pN j o h.len;have hg:vw.ownBlock=some g:=by rw [m];rfl
 have a:Fr (fun k=>k=g) w (w.setCell ⟨g,f*Pg+i,none⟩ (.int .u64 x)):=(GQ (fun k=>k=g) w).setCell ⟨g,f*Pg+i,none⟩ (.inl rfl) _;have n:=h.rw;rw [m] at n;have b:=sW (.int .u64 x) n l;have s:=ii h.rw h.rt (by decide) hg;have t:=ii h.rw h.rb (by decide) hg;have u:=fq h.rw h.Qd (by decide);refine ⟨⟨h.Qd.frame a (fun e=>u (by rw [hg,e])),?_,aO h.rt a (fun k c e=>s (by rw [c,e])),aO h.rb a (fun k c e=>t (by rw [c,e])),by rw [bc];exact h.len,?_,h.Qb,h.free,h.nd,h.Yc,h.Xq,h.Qv,h.Qq,h.Qj⟩,a.mono (fun k c=> .inl (by rw [c];exact hg))⟩
 ·rw [m,bc];unfold ez at b ⊢;rw [dM];exact b
 ·intro y r;rcases dh r with d|d
  ·exact h.lt y d
  ·rw [d];exact q
theorem zU(h:dN w p vw vt vb ws tk bk Rm Pg Us Hg Tm)(f i x:Nat)(hf:tk[f]? =some true)(j:i<Pg)(m:x<18446744073709551616):Calls prog 265 #[p,(f:Int),(i:Int),.int .u64 x] w fun e w'=>e= .returned (0:Int)/\dN w' p vw vt vb (ws.set (f*Pg+i) x) tk bk Rm Pg Us Hg Tm/\Fr (fun k=>vw.ownBlock=some k) w w':=by
 have d:=ae (uS h f i hf j);obtain ⟨g,cap,y,c,n,_,q,r⟩:=h.word hf j;have a:=ae (h.stored hf j c m);clear h hf n m
 go_enter func265,ntmps265
 go_wp2_with fail
 refine d.out.mono ?_;rintro e w' ⟨⟨g',l,b,rfl⟩,rfl⟩;rw [c] at b
 cases b
 have o:=ae c;clear c;go_wp2;go_ret;exact ⟨rfl,a.out.1,a.out.2⟩
end
section
variable{w:World}{p Rm Pg Us Hg:Nat}{Tm:Int}{vw vt vb:Value}{ws:List Nat}{tk:List Bool}{bk:List Nat}
theorem dN.give1(h:dN w p vw vt vb ws tk bk Rm Pg Us Hg Tm){f g cap:Nat}(hf:f<tk.length)(i:vt= .slice (some g) tk.length cap)(b:Bool):
  aJ (w.setCell ⟨g,f,none⟩ (.bool b)) p [vw,vt,vb,(Rm:Int),(Pg:Int),(Us:Int),(Hg:Int),(Tm:Int)] 307/\
  (w.setCell ⟨g,f,none⟩ (.bool b)).ownsRow 0 46 1 vw ws.length (ez ws)/\(w.setCell ⟨g,f,none⟩ (.bool b)).ownsRow 0 4 1 vt (tk.set f b).length ((tk.set f b).map Value.bool)/\
  (w.setCell ⟨g,f,none⟩ (.bool b)).ownsRow 0 3 1 vb bk.length (bk.map fun (f:Nat)=>Value.int .i64 f)/\Fr (fun k=>vt.ownBlock=some k) w (w.setCell ⟨g,f,none⟩ (.bool b)):=by
 have hg:vt.ownBlock=some g:=by rw [i];rfl
 have a:Fr (fun k=>k=g) w (w.setCell ⟨g,f,none⟩ (.bool b)):=(GQ (fun k=>k=g) w).setCell ⟨g,f,none⟩ (.inl rfl) _;have j:=h.rt;rw [i] at j;have d:=sW (.bool b) j hf;have l:=ii h.rt h.rw (by decide) hg;have m:=ii h.rt h.rb (by decide) hg;have n:=fq h.rt h.Qd (by decide);refine ⟨h.Qd.frame a (fun e=>n (by rw [hg,e])),aO h.rw a (fun k c e=>l (by rw [c,e])),?_,aO h.rb a (fun k c e=>m (by rw [c,e])),a.mono (fun k c=> .inl (by rw [c];exact hg))⟩;rw [bc,dM,i];exact d
def C0(w:World)(p:Nat)(vw vt vb:Value)(ws:List Nat)(tk:List Bool)(bk:List Nat)(Rm Pg Us Hg:Nat)(Tm:Int)(f:Nat)(e:Ending)(w':World):Prop:=
 e= .returned (0:Int)/\∃vb',dN w' p vw vt vb' ws (tk.set f false) (bk++[f]) Rm Pg (Us-1) Hg Tm/\Fr (d8 p vw vt vb) w w'/\∀g,vb'.ownBlock=some g->vb.ownBlock=some g\/w.heap.size<=g
theorem Ck{tk:List Bool}{f g:Nat}(h:tk[g]? =some false):(tk.set f false)[g]? =some false:=by
 rw [bF];by_cases e:f=g
 ·subst e;rw [aG rfl,aG (al.1 h).1]
 ·rw [aE e];exact h
theorem dN.give2{w1 w2 w3 W:World}{f g cap:Nat}(h:dN w p vw vt vb ws tk bk Rm Pg Us Hg Tm)(hf:tk[f]? =some true)(G:1<=Us)
  (i:aJ w1 p [vw,vt,vb,(Rm:Int),(Pg:Int),(Us:Int),(Hg:Int),(Tm:Int)] 307)
  (u:w1.ownsRow 0 46 1 vw ws.length (ez ws)) (s:w1.ownsRow 0 4 1 vt (tk.set f false).length ((tk.set f false).map Value.bool)) (r:w1.ownsRow 0 3 1 vb bk.length (bk.map fun (f:Nat)=>Value.int .i64 f)) (v:Fr (fun k=>vt.ownBlock=some k) w w1)
  (j:GM w1 w2) (z:w3.ownsRow 0 3 1 (.slice (some g) (bk.length+1) cap) (bk.length+1) ((bk.map fun (f:Nat)=>Value.int .i64 f)++[.int .i64 f])) (n:Fr (fun k=>vb.ownBlock=some k) w2 w3) (hg:vb.ownBlock=some g\/w2.heap.size<=g):
  aJ w3 p [vw,vt,vb,(Rm:Int),(Pg:Int),(Us:Int),(Hg:Int),(Tm:Int)] 307/\
  ∀W,W=(w3.setCell ⟨p,2,none⟩ (.slice (some g) (bk.length+1) cap)).setCell ⟨p,5,none⟩ (.int .i64 ((Us:Int)-1))->
   dN W p vw vt (.slice (some g) (bk.length+1) cap) ws (tk.set f false) (bk++[f]) Rm Pg (Us-1) Hg Tm/\Fr (d8 p vw vt vb) w W/\∀g',(Value.slice (some g) (bk.length+1) cap).ownBlock=some g'->vb.ownBlock=some g'\/w.heap.size<=g':=by
 have o:=(al.1 hf).1;have x:=fq r i (by decide);have nw:∀k,vw.ownBlock=some k->vb.ownBlock≠some k:=fun k c=>ii u r (by decide) c
 have F:∀k,vt.ownBlock=some k->vb.ownBlock≠some k:=fun k c=>ii s r (by decide) c
 have l:=(i.frame j id).frame n x;refine ⟨l,?_⟩;rintro W rfl;have B:=v.size;have C:=j.size;have A:=i.lt;have q:g≠p:=fun e=>by
  rcases hg with hg|hg
  ·exact x (by rw [hg,e])
  ·omega
 have d:Fr (fun k=>k=p) w3 ((w3.setCell ⟨p,2,none⟩ (.slice (some g) (bk.length+1) cap)).setCell ⟨p,5,none⟩ (.int .i64 ((Us:Int)-1))):=((GQ (fun k=>k=p) w3).setCell ⟨p,2,none⟩ (.inl rfl) _).setCell ⟨p,5,none⟩ (.inl rfl) _;have E:=fq u i (by decide);have D:=fq s i (by decide);have t:((Us-1:Nat):Int)=(Us:Int)-1:=by omega
 refine ⟨⟨?_,?_,?_,?_,by rw [bc];exact h.len,h.lt,?_,?_,?_,by rw [bc];exact h.Yc,h.Xq,h.Qv,h.Qq,h.Qj⟩,?_,?_⟩
 ·rw [t];exact (l.set 2 _).set 5 _
 ·exact aO (aO (aO u j (fun _ _ h=>h)) n nw) d (fun k c e=>E (by rw [c,e]))
 ·exact aO (aO (aO s j (fun _ _ h=>h)) n F) d (fun k c e=>D (by rw [c,e]))
 ·have:=aO z d (fun k c e=>q (by simp only [Value.ownBlock,aL] at c;omega));rw [aH,aP,bD];exact this
 ·have:=h.Qb;rw [aH,aP,bc];omega
 ·intro k c;rcases bB.1 c with c|c
  ·exact Ck (h.free k c)
  ·rw [bP] at c;rw [c,bF,aG rfl,aG o]
 ·rw [gk];refine ⟨h.nd,by simp,?_⟩;intro a y b i e;rw [bP] at i;subst i;subst e;have:=h.free a y;rw [hf] at this;cases this
 ·exact (((v.mono (S':=d8 p vw vt vb) (fun k c=> .inl (.inr (.inr (.inl c))))).trans j GN).trans n (fun k c=> .inl (.inr (.inr (.inr c))))).trans d (fun k c=> .inl (.inl c))
 ·intro g' m;simp only [Value.ownBlock,aL] at m;subst m;rcases hg with hg|hg
  ·exact .inl hg
  ·exact .inr (by omega)
theorem Cp(h:dN w p vw vt vb ws tk bk Rm Pg Us Hg Tm)(f:Nat)(hf:tk[f]? =some true)(U:1<=Us):Calls prog 214 #[p,(f:Int)] w (C0 w p vw vt vb ws tk bk Rm Pg Us Hg Tm f):=by
 have C:=ae (sy h f hf);have k:=(al.1 hf).1;obtain ⟨g,cap,r,_⟩:=js h.rt (by omega);obtain ⟨X,Q,z,A,B⟩:=info_parts iP;have c1:=h.Qd.cell 1 rfl;have c:=h.rt;rw [r] at c c1;have c2:=(mT (j:=f) c (by rw [aR,hf];rfl)).1;have I:=(mT (j:=f) c (by rw [aR,hf];rfl)).2;have s:=ae (h.give1 k r false);have G:=ae (fun w1 w2 w3 g cap N V T c K L q M hg=>dN.give2 (w1:=w1) (w2:=w2) (w3:=w3) (W:=w3) (g:=g) (cap:=cap) h hf U N V T c K L q M hg);have P:=h.Qb;have R:=h.Yc;have y:=h.Xq;have O:bk.length<=4096:=by omega
 generalize S:tk.length=n at*;have Z:(f:Int)<(n:Int):=by omega
 have b2:(1:Int)<=(Us:Int):=by omega
 have b3:(Us:Int)<=4096:=by omega
 have Y:=ae r;clear h hf c P R y k r S
 go_enter func214,ntmps214
 go_wp2_with fail
 refine C.out.mono ?_;rintro e w' ⟨rfl,rfl⟩
 go_upto_region 5 with fail
 obtain ⟨w1,m⟩:∃w1,w.setCell ⟨g,f,none⟩ (.bool false)=w1:=⟨_,rfl⟩;rw [m] at s ⊢;obtain ⟨t,D,E,u,v⟩:=s.out;have J:=t.cell 2 rfl;have hz:=v.size;have d:=ae (ag t (ag D (ag E (ag u v))));clear t D E v s m c1 c2 I C;go_wp2_with (at_builtin;refine Hid.out ?_)
 unfold Hid;have b:GM w1 (w1.alloc (.cells #[(f:Int)] 3)):=(GQ _ w1).alloc _;refine fd rfl _ _ 123 rfl 3 X (.int .i64 0) 8 underlying123 Q z A B rfl vb bk.length _ rfl (aO u b (fun _ _ h=>h)) ⟨w1.heap.size,0,none⟩ _ (.int .i64 f) rfl ((aJ.new w1 [(f:Int)] 3).cell 0 rfl) rfl (by unfold maxLen;omega) (by omega) ?_;intro x a w3 q i l;obtain ⟨o,F⟩:=G.out w1 _ w3 x a d.out.1 d.out.2.1 d.out.2.2.1 d.out.2.2.2.1 d.out.2.2.2.2 b q i l;have d2:=o.cell 2 rfl;have e2:=o.free 2;have d5:=(o.set 2 (.slice (some x) (bk.length+1) a)).cell 5 rfl;have e5:=(o.set 2 (.slice (some x) (bk.length+1) a)).free 5;have H:=ae F;clear b q i l u o F J;go_wp2;go_ret;exact ⟨rfl,_,H.out _ rfl⟩
end
section
variable{w:World}{p Rm Pg Us Hg:Nat}{Tm:Int}{vw vt vb:Value}{ws:List Nat}{tk:List Bool}{bk:List Nat}
structure pZ(w w':World)(p:Nat)(vw vt vb:Value)(ws:List Nat)(tk:List Bool)(Rm Pg Us Hg:Nat)(Tm:Int)(f:Nat)(vw' vt' vb':Value)(ws':List Nat)(tk':List Bool)(bk':List Nat):Prop where
 Qd:aJ w' p [vw',vt',vb',(Rm:Int),(Pg:Int),(Us:Int),(Hg:Int),(Tm:Int)] 307
 rw:w'.ownsRow 0 46 1 vw' ws'.length (ez ws')
 rt:w'.ownsRow 0 4 1 vt' tk'.length (tk'.map Value.bool)
 rb:w'.ownsRow 0 3 1 vb' bk'.length (bk'.map fun (f:Nat)=>Value.int .i64 f)
 len:ws'.length=tk'.length*Pg
 lt:∀x∈ws',x<18446744073709551616
 Qb:Us+1+bk'.length=tk'.length
 free:∀g∈bk',tk'[g]? =some false
 nd:bk'.Nodup
 Yc:tk'.length<=Rm
 new:f∉bk'
 none:tk'[f]? =some false
 Xt:∀g,tk[g]? =some true->tk'[g]? =some true/\g≠f/\∀i,i<Pg->ws'.getD (g*Pg+i) 0=ws.getD (g*Pg+i) 0
 was:tk[f]? ≠some true
 fr:Fr (d8 p vw vt vb) w w'
 own:∀g,d8 p vw' vt' vb' g->d8 p vw vt vb g\/w.heap.size<=g
def pk(w:World)(p:Nat)(vw vt vb:Value)(ws:List Nat)(tk:List Bool)(Rm Pg Us Hg:Nat)(Tm:Int)(e:Ending)(w':World):Prop:=
 ∃f vw' vt' vb' ws' tk' bk',e= .returned (.int .i64 ((f:Nat):Int))/\pZ w w' p vw vt vb ws tk Rm Pg Us Hg Tm f vw' vt' vb' ws' tk' bk'
theorem wM{w1:World}{f g cap:Nat}{a:List Nat}(h:dN w p vw vt (.slice (some g) (a.length+1) cap) ws tk (a++[f]) Rm Pg Us Hg Tm)(m:w1=w.setCell ⟨p,2,none⟩ (.slice (some g) a.length cap)):
  pZ w w1 p vw vt (.slice (some g) (a.length+1) cap) ws tk Rm Pg Us Hg Tm f vw vt (.slice (some g) a.length cap) ws tk a:=by
 have c:Fr (fun k=>k=p) w w1:=by rw [m];exact (GQ (fun k=>k=p) w).setCell ⟨p,2,none⟩ (.inl rfl) _
 have nw:=fq h.rw h.Qd (by decide);have o:=fq h.rt h.Qd (by decide);have n:=fq h.rb h.Qd (by decide);have j:=h.nd;rw [gk] at j;have l:=h.rb;rw [aH,aP,bD,na] at l;have d:=h.free f (by simp);refine ⟨by rw [m];exact h.Qd.set 2 _,aO h.rw c (fun k i e=>nw (by rw [i,e])),aO h.rt c (fun k i e=>o (by rw [i,e])),aO (ks l).1 c (fun k i e=>n (by simp only [Value.ownBlock,aL] at i ⊢;omega)),h.len,h.lt,?_,fun g' b=>h.free g' (by simp [b]),j.1,h.Yc,?_,d,?_,by rw [d];simp,c.mono (fun k i=> .inl (.inl i)),?_⟩
 ·have:=h.Qb;rw [aH,aP] at this;omega
 ·intro hf;exact j.2.2 f hf f (by simp) rfl
 ·exact fun g' b=>⟨b,fun e=>by (rw [e,d] at b;cases b),fun _ _=>rfl⟩
 ·rintro k (h|h|h|h)
  ·exact .inl (.inl h)
  ·exact .inl (.inr (.inl h))
  ·exact .inl (.inr (.inr (.inl h)))
  ·exact .inl (.inr (.inr (.inr h)))
theorem uU(h:dN w p vw vt vb ws tk bk Rm Pg Us Hg Tm)(c:bk≠[]):Calls prog 279 #[p] w (pk w p vw vt vb ws tk Rm Pg Us Hg Tm):=by
 obtain ⟨a,f,rfl⟩:∃l x,bk=l++[x]:=⟨_,_,(List.dropLast_concat_getLast c).symm⟩;have d:(a++[f]).length=a.length+1:=by simp
 have b:=h.rb;rw [d] at b;obtain ⟨g,cap,rfl,i,j,_⟩:=js b (by omega);rw [bD,na] at b;have c2:=h.Qd.cell 2 rfl;have r:=h.Qd.free 2;have q:=(ks b).2;have e:=ae (fun w1 k=>wM (w1:=w1) h k);generalize a.length=n at*;have m:(n:Int)+1<=(cap:Int):=by omega
 have o:(cap:Int)<=9223372036854775807:=by omega
 clear h c d b
 go_enter func279,ntmps279
 go_wp2;go_ret;exact ⟨f,_,_,_,_,_,_,rfl,e.out _ rfl⟩
theorem zY{w1 w2:World}{g1 cap1:Nat}(h:dN w p vw vt vb ws tk [] Rm Pg Us Hg Tm)(J:Us<Rm)
  (d:GM w w1) (G:w2.ownsRow 0 4 1 (.slice (some g1) (tk.length+1) cap1) (tk.length+1) (tk.map Value.bool++[.bool false])) (c:Fr (fun k=>vt.ownBlock=some k) w1 w2) (z:vt.ownBlock=some g1\/w1.heap.size<=g1):
  aJ w2 p [vw,vt,vb,(Rm:Int),(Pg:Int),(Us:Int),(Hg:Int),(Tm:Int)] 307/\
  ∀w3,w3=w2.setCell ⟨p,1,none⟩ (.slice (some g1) (tk.length+1) cap1)->
   aJ w3 p [vw,.slice (some g1) (tk.length+1) cap1,vb,(Rm:Int),(Pg:Int),(Us:Int),(Hg:Int),(Tm:Int)] 307/\w3.ownsRow 0 46 1 vw ws.length (ez ws)/\
   ∀w4 o b,w4.ownsRow 0 46 1 (.slice (some ⟨o,0,none⟩) (ws.length+Pg) b) (ws.length+Pg) (ez ws++List.replicate Pg (.int .u64 0))->Fr (fun k=>vw.ownBlock=some k) w3.drew w4->(vw.ownBlock=some o\/w3.heap.size<=o)->
    aJ w4 p [vw,.slice (some g1) (tk.length+1) cap1,vb,(Rm:Int),(Pg:Int),(Us:Int),(Hg:Int),(Tm:Int)] 307/\
    ∀W,W=w4.setCell p (.slice (some o) (ws.length+Pg) b)->
     pZ w W p vw vt vb ws tk Rm Pg Us Hg Tm tk.length (.slice (some o) (ws.length+Pg) b) (.slice (some g1) (tk.length+1) cap1) vb (ws++List.replicate Pg 0) (tk++[false]) []:=by
 have M:=fq h.rt h.Qd (by decide);have nw:=fq h.rw h.Qd (by decide);have L:=fq h.rb h.Qd (by decide);have T:∀k,vw.ownBlock=some k->vt.ownBlock≠some k:=fun k a=>ii h.rw h.rt (by decide) a
 have tb:∀k,vb.ownBlock=some k->vt.ownBlock≠some k:=fun k a=>ii h.rb h.rt (by decide) a
 have wb:∀k,vb.ownBlock=some k->vw.ownBlock≠some k:=fun k a=>ii h.rb h.rw (by decide) a
 have P:=d.size;have Q:=c.size;have t:=(h.Qd.frame d id).frame c M;refine ⟨t,?_⟩;rintro w3 rfl;have f:Fr (fun k=>k=p) w2 (w2.setCell ⟨p,1,none⟩ (.slice (some g1) (tk.length+1) cap1)):=(GQ (fun k=>k=p) w2).setCell ⟨p,1,none⟩ (.inl rfl) _;have j:=t.set 1 (.slice (some g1) (tk.length+1) cap1);have s:=aO (aO (aO h.rw d (fun _ _ h=>h)) c T) f (fun k a e=>nw (by rw [a,e]));have I:=aO (aO (aO h.rb d (fun _ _ h=>h)) c tb) f (fun k a e=>L (by rw [a,e]));have q:g1≠p:=fun e=>by
  rcases z with hg|hg
  ·exact M (by rw [hg,e])
  ·have:=h.Qd.lt;omega
 have D:=aO G f (fun k a e=>q (by simp only [Value.ownBlock,aL] at a;omega));have R:=f.size;refine ⟨j,s,?_⟩;intro w4 o b H l A;have F:=fq s j (by decide);have u:=j.drew.frame l F;refine ⟨u,?_⟩;rintro W rfl;have m:Fr (fun k=>k=p) w4 (w4.setCell p (.slice (some o) (ws.length+Pg) b)):=(GQ (fun k=>k=p) w4).setCell p (.inl rfl) _;have O:=j.lt;have B:o≠p:=fun e=>by
  rcases A with hg|hg
  ·exact F (by rw [hg,e])
  ·omega
 have S:∀k,(Value.slice (some g1) (tk.length+1) cap1).ownBlock=some k->vw.ownBlock≠some k:=fun k a=>ii D s (by decide) a
 have K:∀{e:TypeId} {v:Value} {n:Nat} {xs:List Value},(w2.setCell ⟨p,1,none⟩ (.slice (some g1) (tk.length+1) cap1)).ownsRow 0 e 1 v n xs->(w2.setCell ⟨p,1,none⟩ (.slice (some g1) (tk.length+1) cap1)).drew.ownsRow 0 e 1 v n xs:=fun h=>h
 have y:=h.Qb;rw [ch] at y;have r:=h.len;refine ⟨u.set 0 _,?_,?_,?_,?_,?_,?_,by simp,by simp,?_,by simp,by simp,?_,by simp,?_,?_⟩
 ·have:=aO H m (fun k a e=>B (by simp only [Value.ownBlock,aL] at a;omega));have e:ez (ws++List.replicate Pg 0)=ez ws++List.replicate Pg (.int .u64 0):=by unfold ez;rw [bD,eU];rfl
  rw [e,aH,bz];exact this
 ·have:=aO (aO (K D) l S) m (fun k a e=>q (by simp only [Value.ownBlock,aL] at a;omega));rw [aH,aP,bD];exact this
 ·exact aO (aO (K I) l wb) m (fun k a e=>L (by rw [a,e]))
 ·rw [aH,aH,bz,aP,r,cY]
 ·intro x E;rcases bB.1 E with E|E
  ·exact h.lt x E
  ·rw [dS E];decide
 ·rw [aH,aP,ch];omega
 ·rw [aH,aP];omega
 ·intro g hg;have C:=(al.1 hg).1;refine ⟨by rw [bX C];exact hg,by omega,fun i N=> ?_⟩;have:=pN C N r;rw [aQ,aQ,bX this]
 ·exact (((((d.mono (S':=d8 p vw vt vb) GN).trans c (fun k a=> .inl (.inr (.inr (.inl a))))).trans f (fun k a=> .inl (.inl a))).drew).trans l (fun k a=> .inl (.inr (.inl a)))).trans m (fun k a=> .inl (.inl a))
 ·rintro k (a|a|a|a)
  ·exact .inl (.inl a)
  ·simp only [Value.ownBlock,aL] at a;subst a;rcases A with hg|hg
   ·exact .inl (.inr (.inl hg))
   ·exact .inr (by omega)
  ·simp only [Value.ownBlock,aL] at a;subst a;rcases z with hg|hg
   ·exact .inl (.inr (.inr (.inl hg)))
   ·exact .inr (by omega)
  ·exact .inl (.inr (.inr (.inr a)))
theorem wT(h:dN w p vw vt vb ws tk [] Rm Pg Us Hg Tm)(o:Us<Rm):Calls prog 279 #[p] w (pk w p vw vt vb ws tk Rm Pg Us Hg Tm):=by
 obtain ⟨pb,cb,rfl⟩:=fW h.rb;obtain ⟨pt,S,rfl⟩:=fW h.rt;obtain ⟨i0,V,D,E,F⟩:=info_parts sf;obtain ⟨M,L,t,u,x⟩:=info_parts nJ;have c1:=h.Qd.cell 1 rfl;have c2:=h.Qd.cell 2 rfl;have m:=h.Qb;have X:=h.Xq;have W:=h.Qv;have C:=h.Qq;have n:=h.len;rw [ch] at m;have s:=h.rt;have I:=ae (fun w1 w2 g1 cap1 d k g j=>zY (w1:=w1) (w2:=w2) (g1:=g1) (cap1:=cap1) h o d k g j);have Z:ws.length+Pg<=1048576:=by
  rw [n];have:tk.length*Pg+Pg<=4096*Pg:=by rw [<-cY];exact aX Pg (by omega)
  have:4096*Pg<=4096*256:=gG _ C;omega
 have Y:tk.length<=4096:=by omega
 clear h n m
 go_enter func279,ntmps279
 go_wp2_with (at_builtin;refine Hid.out ?_)
 unfold Hid;have d:GM w (w.alloc (.cells #[.bool false] 4)):=(GQ _ w).alloc _;refine fd rfl _ _ 207 rfl 4 i0 (.bool false) 1 underlying207 V D E F rfl (.slice pt tk.length S) tk.length _ rfl (aO s d (fun _ _ h=>h)) ⟨w.heap.size,0,none⟩ _ (.bool false) rfl ((aJ.new w [.bool false] 4).cell 0 rfl) rfl (by unfold maxLen;omega) (by omega) ?_;intro g1 cap1 w2 k g j;obtain ⟨G,P⟩:=I.out _ w2 g1 cap1 d k g j;have T:=G.cell 1 rfl;have U:=G.free 1;have J:=ae P;clear d k g j G P I c1 c2 s
 go_upto_region 8 with fail
 obtain ⟨w3,q⟩:∃w3,w2.setCell ⟨p,1,none⟩ (.slice (some g1) (tk.length+1) cap1)=w3:=⟨_,rfl⟩;rw [q];obtain ⟨H,Q,R⟩:=J.out w3 q.symm;have N:w3.drew.cell? p=some vw:=H.drew.cell 0 rfl;have O:w3.drew.cell? ⟨p,4,none⟩=some (Pg:Int):=H.drew.cell 4 rfl;have l:w3.drew.ownsRow 0 46 1 vw ws.length (ez ws):=Q;have z:=ae R;clear T U J q H Q R;refine wp_region_any (by kernel_rfl) ?_;change wpAny _ _ _ _ _ _ _ (World.drew _);refine GP 0 p rfl ?_;refine GP 1 p rfl ?_;refine GP 2 p rfl ?_;refine GP 3 p rfl ?_;refine GP 5 p rfl ?_;refine GP 6 p rfl ?_;refine GP 7 (.pointer (some ⟨p,4,none⟩)) rfl ?_;simp only [Act.put];refine wpAny_ready (rs:=[4,8]) (by kernel_rfl) (by simp) ?_;refine AllReady.cons rfl (fun K a=> ?_) (AllReady.cons rfl (fun K a=> ?_) AllReady.nil)
 ·go_simp;refine a _ _ ?_;clear a K;refine GO 8 rfl fun K a=> ?_;go_simp;refine a _ _ ?_;clear a K;refine GO 9 rfl fun K a=> ?_;refine jJ rfl _ _ 98 3 rfl 46 M (.int .u64 0) .i64 8 underlying98 underlying3 L t u x rfl rfl vw ws.length _ rfl l Pg rfl (by omega) (by unfold maxLen;omega) (by omega) ?_;intro B b w4 f c e;obtain ⟨r,y⟩:=z.out w4 B b f c e;have k5:=r.cell 0 rfl;have k6:=r.free 0;have A:=ae y;clear f c e r y z N O l;refine a _ _ ?_;clear a K;refine GO 10 rfl fun K a=> ?_;go_simp;refine a _ _ ?_;clear a K;refine GO 11 rfl fun K a=> ?_;go_simp;refine a _ _ ?_;clear a K;refine GO 12 rfl fun K a=> ?_;go_simp;refine a _ _ ?_;clear a K;refine wpAny_done (by kernel_rfl) ?_ _;go_wp2;go_ret;exact ⟨tk.length,_,_,_,_,_,_,rfl,A.out _ rfl⟩
 ·go_simp;refine a _ _ ?_;clear a K;refine GO 4 rfl fun K a=> ?_;go_simp;refine a _ _ ?_;clear a K;refine GO 9 rfl fun K a=> ?_;refine jJ rfl _ _ 98 3 rfl 46 M (.int .u64 0) .i64 8 underlying98 underlying3 L t u x rfl rfl vw ws.length _ rfl l Pg rfl (by omega) (by unfold maxLen;omega) (by omega) ?_;intro B b w4 f c e;obtain ⟨r,y⟩:=z.out w4 B b f c e;have k5:=r.cell 0 rfl;have k6:=r.free 0;have A:=ae y;clear f c e r y z N O l;refine a _ _ ?_;clear a K;refine GO 10 rfl fun K a=> ?_;go_simp;refine a _ _ ?_;clear a K;refine GO 11 rfl fun K a=> ?_;go_simp;refine a _ _ ?_;clear a K;refine GO 12 rfl fun K a=> ?_;go_simp;refine a _ _ ?_;clear a K;refine wpAny_done (by kernel_rfl) ?_ _;go_wp2;go_ret;exact ⟨tk.length,_,_,_,_,_,_,rfl,A.out _ rfl⟩
end
theorem sM{P:Program}{w:World}{b:Array Oper}{rest:List Oper}{o:Oper}{a:Act}{Q:Exit->Act->World->Prop}(c:o.guard=none)(s:Operand)(t:TypeId)
  (e:o.op= .call {callee:= .builtin .clear,args:= #[s],argTypes:= #[t]})
  (H:∃w',(Builtin.clear_ #[t] o.type #[a.eval s]).run P w= .ok (.tuple #[]) w'/\wpList P b Q rest (a.put o.dst (.tuple #[])) w'):wpList P b Q (o::rest) a w:=by
 obtain ⟨w',f,h⟩:=H;refine wpList_plain c fun K d=> ?_
 unfold Oper.wp execOp;simp only [e,resolve,invoke,builtin,Sem.run_bind,Sem.run_pure,Result.andThen_ok,ki,cW,kF,f];exact d _ _ h
theorem Fr.setCells{S:Nat->Prop}{a:World}{g:Nat}(hp:S g\/a.heap.size<=g):∀(vs:List Value) (o:Nat) {w:World},Fr S a w->Fr S a (w.setCells g o vs)
 |[],_,_,h=>h
 |v::r,o,_,h=>Fr.setCells hp r (o+1) (h.setCell ⟨g,o,none⟩ hp v)
theorem aJ.setCells{b:Nat}{t:TypeId}:∀(vs:List Value) (a c:List Value) {w:World},aJ w b (a++c) t->vs.length<=c.length->aJ (w.setCells b a.length vs) b (a++(vs++c.drop vs.length)) t
 |[],a,c,_,h,_=>by simpa [World.setCells] using h
 |v::r,a,[],_,_,hl=>by simp at hl
 |v::r,a,s::c,w,h,hl=>by
  have f:aJ (w.setCell ⟨b,a.length,none⟩ v) b ((a++[v])++c) t:=by
   have:=h.set a.length v;rw [show (a++s::c).set a.length v=(a++[v])++c by simp] at this;exact this
  have d:=aJ.setCells r (a++[v]) c f (by simpa using hl);rw [show (a++[v]).length=a.length+1 by simp] at d;have e:a++(v::r++(s::c).drop (v::r).length)=a++[v]++(r++c.drop r.length):=by simp
  rw [e];exact d
theorem sV{w:World}{g cap n o:Nat}{xs:List Value}{e:TypeId}(vs:List Value)(h:w.ownsRow 0 e 1 (.slice (some g) n cap) n xs)(l:o+vs.length<=n):(w.setCells g o vs).ownsRow 0 e 1 (.slice (some g) n cap) n (xs.take o++vs++xs.drop (o+vs.length)):=by
 obtain ⟨c,d,k,i,f,j⟩:=mX h;have b:(c.take o).length=o:=by rw [cg];omega
 have a:=aJ.setCells vs (c.take o) (c.drop o) (by rw [dB];exact d) (by rw [en];omega);rw [b] at a;refine qv a (by simp only [aH,cg,en];omega) i f ?_;rw [<-j,List.take_append,b,ip (by omega),List.take_append,ip (show vs.length<=n-o by omega),lU,lQ,fc (by omega),List.drop_take,it];congr 3
 omega
theorem Ci{xs vs:List Nat}{o k:Nat}(b:o+vs.length<=xs.length)(a:k<o\/o+vs.length<=k):(xs.take o++vs++xs.drop (o+vs.length)).getD k 0=xs.getD k 0:=by
 rw [aQ,aQ];congr 1
 rcases a with a|a
 ·rw [it,bX (by rw [cg];omega),eo,aG a]
 ·rw [dJ (by rw [aH,cg];omega),fR,aH,cg];congr 1
  omega
section
variable{w:World}{p Rm Pg Us Hg:Nat}{Tm:Int}{vw vt vb:Value}{ws:List Nat}{tk:List Bool}{bk:List Nat}
structure rr(w w':World)(p:Nat)(vw vt vb:Value)(ws:List Nat)(tk:List Bool)(Rm Pg Us:Nat)(f:Nat)(vw' vt' vb':Value)(ws':List Nat)(tk':List Bool)(bk':List Nat)(Hg':Nat)(times':Int):Prop where
 pool:dN w' p vw' vt' vb' ws' tk' bk' Rm Pg (Us+1) Hg' times'
 now:tk'[f]? =some true
 was:tk[f]? ≠some true
 Xt:∀g,tk[g]? =some true->tk'[g]? =some true/\∀i,i<Pg->ws'.getD (g*Pg+i) 0=ws.getD (g*Pg+i) 0
 fr:Fr (d8 p vw vt vb) w w'
 own:∀g,d8 p vw' vt' vb' g->d8 p vw vt vb g\/w.heap.size<=g
def rq(w:World)(p:Nat)(vw vt vb:Value)(ws:List Nat)(tk:List Bool)(Rm Pg Us:Nat)(e:Ending)(w':World):Prop:=
 ∃f vw' vt' vb' ws' tk' bk' Hg' times',e= .returned (.tuple #[(((f:Nat):Int):Int),(0:Int)])/\rr w w' p vw vt vb ws tk Rm Pg Us f vw' vt' vb' ws' tk' bk' Hg' times'
theorem AQ{w1:World}{f g cap t ct:Nat}{l d s:Value}{a:List Nat}{r:List Bool}{G:List Nat}(h:pZ w w1 p vw vt vb ws tk Rm Pg Us Hg Tm f l d s a r G)
  (F:l= .slice (some g) a.length cap) (E:d= .slice (some t) r.length ct):
  ∀w2,w2=w1.setCells g (f*Pg) (List.replicate Pg (.int .u64 0))->w2.cell? ⟨p,1,none⟩=some d/\w2.cell? ⟨t,f,none⟩=some (.bool false)/\w2.frozen? ⟨t,f,none⟩=false/\
   ∀w3,w3=w2.setCell ⟨t,f,none⟩ (.bool true)->aJ w3 p [l,d,s,(Rm:Int),(Pg:Int),(Us:Int),(Hg:Int),(Tm:Int)] 307/\
    ∀W v c,v<=Rm->Us<Rm->Rm<=4096->1<=Pg->Pg<=256->aJ W p [l,d,s,(Rm:Int),(Pg:Int),(((Us:Int)+1):Int),((v:Int):Int),(c:Int)] 307->Fr (fun k=>k=p) w3 W->
     rr w W p vw vt vb ws tk Rm Pg Us f l d s (a.take (f*Pg)++List.replicate Pg 0++a.drop (f*Pg+Pg)) (r.set f true) G v c:=by
 rintro w2 rfl;have C:=(al.1 h.none).1;have D:=iQ (Pg:=Pg) C;rw [<-h.len] at D;have hg:l.ownBlock=some g:=by rw [F];rfl
 have m:d.ownBlock=some t:=by rw [E];rfl
 have nt:=ii h.rw h.rt (by decide) hg;have nb:=ii h.rw h.rb (by decide) hg;have Z:=fq h.rw h.Qd (by decide);have tp:=fq h.rt h.Qd (by decide);have tb:=ii h.rt h.rb (by decide) m;have tw:=ii h.rt h.rw (by decide) m;have y:Fr (fun k=>k=g) w1 (w1.setCells g (f*Pg) (List.replicate Pg (.int .u64 0))):=Fr.setCells (S:=fun k=>k=g) (.inl rfl) _ _ (GQ _ w1);have H:=h.Qd.frame y (fun e=>Z (by rw [hg,e]));have U:=aO h.rt y (fun k b e=>nt (by rw [b,e]));have Q:=aO h.rb y (fun k b e=>nb (by rw [b,e]));have K:=h.rw;rw [F] at K;have M:=sV (o:=f*Pg) (List.replicate Pg (.int .u64 0)) K (by rw [bz];exact D);rw [<-F,bz] at M;have J:(a.take (f*Pg)++List.replicate Pg 0++a.drop (f*Pg+Pg)).length=a.length:=by
  simp only [aH,cg,en,bz];omega
 have N:(w1.setCells g (f*Pg) (List.replicate Pg (.int .u64 0))).ownsRow 0 46 1 l (a.take (f*Pg)++List.replicate Pg 0++a.drop (f*Pg+Pg)).length (ez (a.take (f*Pg)++List.replicate Pg 0++a.drop (f*Pg+Pg))):=by
  rw [J];have e:ez (a.take (f*Pg)++List.replicate Pg 0++a.drop (f*Pg+Pg))=(ez a).take (f*Pg)++List.replicate Pg (.int .u64 0)++(ez a).drop (f*Pg+Pg):=by
   unfold ez;rw [bD,bD,List.map_take,List.map_drop,eU];rfl
  rw [e];exact M
 have q:=U;rw [E] at q;have Y:=mT (j:=f) (u:= .bool false) q (by rw [aR,h.none];rfl);refine ⟨H.cell 1 rfl,Y.1,Y.2,?_⟩;rintro w3 rfl;have z:Fr (fun k=>k=t) (w1.setCells g (f*Pg) (List.replicate Pg (.int .u64 0))) ((w1.setCells g (f*Pg) (List.replicate Pg (.int .u64 0))).setCell ⟨t,f,none⟩ (.bool true)):=(GQ (fun k=>k=t) _).setCell ⟨t,f,none⟩ (.inl rfl) _;refine ⟨H.frame z (fun e=>tp (by rw [m,e])),?_⟩;intro W v c hh hu T O P hB A;have X:=aO N z (fun k b e=>tw (by rw [b,e]));have R:=aO Q z (fun k b e=>tb (by rw [b,e]));have L:=sW (.bool true) q C;rw [<-E,<-dM] at L;have n:(r.set f true).length=r.length:=bc;have V:((Us+1:Nat):Int)=(Us:Int)+1:=by omega
 refine ⟨⟨by rw [V];exact hB,aO X A (fun k b e=>Z (by rw [b,e])),by rw [n];exact aO L A (fun k b e=>tp (by rw [b,e])),aO R A (fun k b e=>fq h.rb h.Qd (by decide) (by rw [b,e])),by rw [J,n];exact h.len,?_,by rw [n];exact h.Qb,?_,h.nd,by rw [n];exact h.Yc,T,O,P,hh⟩,?_,h.was,?_,?_,h.own⟩
 ·intro x B;rcases bB.1 B with B|B
  ·rcases bB.1 B with B|B
   ·exact h.lt x (iU B)
   ·rw [dS B];decide
  ·exact h.lt x (List.mem_of_mem_drop B)
 ·intro k b;rw [bF,aE (fun e=>h.new (by rw [e];exact b))];exact h.free k b
 ·rw [bF,aG rfl,aG C]
 ·intro k b;obtain ⟨o1,o2,o3⟩:=h.Xt k b;refine ⟨by rw [bF,aE (fun e=>o2 e.symm)];exact o1,fun i hi=> ?_⟩;rw [<-o3 i hi];have ad:=(al.1 o1).1;have:=Ci (xs:=a) (vs:=List.replicate Pg 0) (o:=f*Pg) (k:=k*Pg+i) (by rw [bz];exact D) (by
   rw [bz];rcases Nat.lt_or_gt_of_ne o2 with n|m
   ·have:=iQ (Pg:=Pg) n;omega
   ·have:=iQ (Pg:=Pg) m;omega)
  rw [bz] at this;exact this
 ·have I:∀k,d8 p l d s k->d8 p vw vt vb k\/w.heap.size<=k:=h.own;exact ((h.fr.trans y (fun k b=>by rw [b];exact I g (.inr (.inl hg)))).trans z (fun k b=>by rw [b];exact I t (.inr (.inr (.inl m))))).trans A (fun k b=> .inl (.inl b))
theorem wU(h:dN w p vw vt vb ws tk bk Rm Pg Us Hg Tm)(a:Us<Rm):Calls prog 279 #[p] w (pk w p vw vt vb ws tk Rm Pg Us Hg Tm):=by
 by_cases b:bk=[]
 ·subst b;exact wT h a
 ·exact uU h b
theorem Cj(h:dN w p vw vt vb ws tk bk Rm Pg Us Hg Tm)(d:Us<Rm):Calls prog 252 #[p] w (rq w p vw vt vb ws tk Rm Pg Us):=by
 have hd:=h.frame (S:=fun _=>False) ((GQ _ w).drew) (fun _ _ h=>h);have H:=ae (wU hd d);have c3:=h.Qd.cell 3 rfl;have d3:w.drew.cell? ⟨p,3,none⟩=_:=c3;have d5:w.drew.cell? ⟨p,5,none⟩=_:=h.Qd.cell 5 rfl;have Y:=h.Xq;have s:=h.Qv;have X:=h.Qq;have ak:=h.Qj;have ap:((Rm:Int)==0)=false:=by rw [aT];omega
 have aq:((Us:Int)==(Rm:Int))=false:=by rw [aT];omega
 have b1:(Us:Int)<(Rm:Int):=by omega
 have b2:(Rm:Int)<=4096:=by omega
 have b3:(Hg:Int)<=4096:=by omega
 have HW:=ae (show∀e w',rq w.drew p vw vt vb ws tk Rm Pg Us e w'->rq w p vw vt vb ws tk Rm Pg Us e w' from fun e w' ⟨f,C,B,A,n,z,J,hi',ad,he,D⟩=>⟨f,C,B,A,n,z,J,hi',ad,he,⟨D.pool,D.now,D.was,D.Xt,((GQ _ w).drew).trans D.fr (fun _ h=> .inl h),D.own⟩⟩);clear h hd
 go_enter func252,ntmps252
 go_wp2;refine bt (fun w'=>w'=w.drew) rfl ?_;refine aV [p,p,.pointer (some ⟨p,5,none⟩)] ?_
 iterate 3 (refine aW rfl (fun O N=>by go_simp) ?_;simp only [aa])
 refine aU ?_;refine aA (Us:Int) rfl (fun w o=>by subst o;go_simp) ?_;simp only [aa];refine aV [p,p,.pointer (some ⟨p,3,none⟩)] ?_
 iterate 3 (refine aW rfl (fun O N=>by go_simp) ?_;simp only [aa])
 refine aU ?_;refine aA (Rm:Int) rfl (fun w o=>by subst o;go_simp) ?_;simp only [aa];refine aV [.bool false,.bool false] ?_
 iterate 2 (refine aW rfl (fun O N=>by go_simp) ?_;simp only [aa])
 refine aU ?_;refine wpQuiet_nil ?_;rintro w2 rfl;generalize w.drew=w0 at*;go_wp2_with fail
 refine H.out.mono ?_;rintro e w1 ⟨f,C,B,A,n,z,J,rfl,a⟩;have V:=(al.1 a.none).1;have r:=iQ (Pg:=Pg) V;rw [<-a.len] at r;obtain ⟨g,cap,l,K,L,_⟩:=js a.rw (by omega);obtain ⟨gt,ct,t,_⟩:=js a.rt (by omega);have R:=a.Qd.cell 0 rfl;rw [l] at R;have HF:=ae (qU R (a.Qd.cell 4 rfl) s f r K L);have i:=a.rw;rw [l] at i;have F:=ae (Lib.run_clear_slice (P:=prog) w1 98 46 0 (.int .u64 0) underlying98 (fun w=>by obtain ⟨i0,hi,hz,_⟩:=info_parts nJ;simp [zeroValue,typeInfo,hi,hz]) rfl rfl g (f*Pg) Pg Pg s
  (fun j hj=>by
   obtain ⟨x,Z⟩:∃x,n[f*Pg+j]? =some x:=⟨_,aK (by omega)⟩;rw [(mT (j:=f*Pg+j) (u:= .int .u64 x) i (by unfold ez;rw [aR,Z];rfl)).1];rfl)
  (fun j hj=>by
   obtain ⟨x,Z⟩:∃x,n[f*Pg+j]? =some x:=⟨_,aK (by omega)⟩;exact (mT (j:=f*Pg+j) (u:= .int .u64 x) i (by unfold ez;rw [aR,Z];rfl)).2))
 have HM:=ae (AQ a l t);have af:(f:Int)<(z.length:Int):=by omega
 have ah:(f:Int)<=4096:=by have:=a.Yc;omega
 have Q:=ae t;clear a r K L R i l t H;go_wp2_with fail
 refine HF.out.mono ?_;rintro e w' ⟨rfl,rfl⟩;go_wp2_with (refine sM rfl _ _ rfl ?_;refine Hid.out ?_)
 unfold Hid;refine ⟨_,F.out,?_⟩;obtain ⟨w2,v⟩:∃w2,w1.setCells g (f*Pg) (List.replicate Pg (.int .u64 0))=w2:=⟨_,rfl⟩;rw [v];obtain ⟨m1,m2,m3,m4⟩:=HM.out w2 v.symm;rw [Q.out] at m1;have I:=ae m4;clear F v HM m4 HF
 go_upto_region 8 with fail
 obtain ⟨w3,y⟩:∃w3,w2.setCell ⟨gt,f,none⟩ (.bool true)=w3:=⟨_,rfl⟩;rw [y];obtain ⟨b,hT⟩:=I.out w3 y.symm;have HT:=ae hT;have E:=ae b;have k5:=b.cell 5 rfl;have k6:=b.free 5;have k7:=(b.set 5 (.int .i64 ((Us:Int)+1))).cell 7 rfl;have k8:=(b.set 5 (.int .i64 ((Us:Int)+1))).free 7;clear m1 m2 m3 y I hT b
 go_upto_region 10 with fail
 obtain ⟨w5,m⟩:∃w5,(w3.setCell ⟨p,5,none⟩ (.int .i64 ((Us:Int)+1))).setCell ⟨p,7,none⟩ (.int .i64 (wrap64 (Tm+1)))=w5:=⟨_,rfl⟩;rw [m];have c:aJ w5 p [C,B,A,(Rm:Int),(Pg:Int),(((Us:Int)+1):Int),(Hg:Int),((wrap64 (Tm+1)):Int)] 307:=by rw [<-m];exact (E.out.set 5 _).set 7 _
 have M:Fr (fun k=>k=p) w3 w5:=by rw [<-m];exact ((GQ (fun k=>k=p) w3).setCell ⟨p,5,none⟩ (.inl rfl) _).setCell ⟨p,7,none⟩ (.inl rfl) _
 obtain ⟨q,T⟩:∃q,q=max Hg (Us+1):=⟨_,rfl⟩;have am:max (Hg:Int) ((Us:Int)+1)=(q:Int):=by omega
 have U:q<=Rm:=by omega
 have k9:w5.drew.cell? ⟨p,6,none⟩=_:=c.drew.cell 6 rfl;have ar:w5.drew.cell? ⟨p,5,none⟩=_:=c.drew.cell 5 rfl;have au:w5.drew.frozen? ⟨p,6,none⟩=false:=c.drew.free 6;have G:=ae (fun W (hW:W=(w5.drew.setCell ⟨p,6,none⟩ (.int .i64 q)))=>HT.out W q (wrap64 (Tm+1)) U d Y s X (by rw [hW];exact c.drew.set 6 _) (by rw [hW];exact M.drew.setCell ⟨p,6,none⟩ (.inl rfl) _));clear m c M HT E k5 k6 k7 k8 T;refine bR (fun w'=>w'=w5.drew) 10 rfl ?_;simp only [ai,an,aj,ao];refine aV [p,p,p,.pointer (some ⟨p,6,none⟩)] ?_
 iterate 4 (refine aW rfl (fun O N=>by go_simp) ?_;simp only [aa])
 refine aU ?_;refine aA (Hg:Int) rfl (fun w o=>by subst o;go_simp) ?_;simp only [aa];refine aV [p,p,.pointer (some ⟨p,5,none⟩)] ?_
 iterate 3 (refine aW rfl (fun O N=>by go_simp) ?_;simp only [aa])
 refine aU ?_;refine aA (.int .i64 ((Us:Int)+1)) rfl (fun w o=>by subst o;go_simp) ?_;simp only [aa];refine aA (q:Int) rfl (fun w o=>by go_simp) ?_;simp only [aa];refine wpQuiet_nil ?_;rintro w6 rfl;go_wp2;go_ret2;exact HW.out _ _ ⟨f,_,_,_,_,_,_,_,_,rfl,G.out _ rfl⟩
end
def ug:Option Nat->Value
 |none=> .pointer none
 |some t=> .pointer (some ⟨t,0,none⟩)
def eK(fr:Nat->Nat)(p:Nat):Bool:=fr p !=0
def mB(fr:Nat->Nat)(i:Nat):List Value:=(List.range 256).map (fun q=>Value.int .u32 ((fr (256*i+q):Nat):Int))++[.int .i64 ((Qb (eK fr) (256*i) (256*i+256):Nat):Int)]
structure cK(w:World)(g gt:Nat)(ts:List (Option Nat))(P:Nat)(fr:Nat->Nat)(n:Int):Prop where
 Qd:aJ w g [.slice (some gt) ts.length ts.length,(P:Int),(n:Int)] 319
 row:aJ w gt (ts.map ug) 348
 len:ts.length=(P+255)/256
 Qp:∀(i t:Nat),ts[i]? =some (some t)->aJ w t (mB fr i) 351
 nil:∀(i:Nat),ts[i]? =some none->∀q,q<256->fr (256*i+q)=0
 inj:∀(i j t:Nat),ts[i]? =some (some t)->ts[j]? =some (some t)->i=j
 one:1<=P
 small:P<=524288
 lt:∀p,fr p<4294967296
 off:∀p,P<=p->fr p=0
def cv(g gt:Nat)(ts:List (Option Nat))(k:Nat):Prop:=k=g\/k=gt\/some k∈ts
theorem cK.frame{S:Nat->Prop}{w w':World}{g a:Nat}{c:List (Option Nat)}{P:Nat}{fr:Nat->Nat}{n:Int}(h:cK w g a c P fr n)(hf:Fr S w w')(b:∀k,cv g a c k->¬S k):cK w' g a c P fr n:=
 ⟨h.Qd.frame hf (b _ (.inl rfl)),h.row.frame hf (b _ (.inr (.inl rfl))),h.len,fun i t d=>(h.Qp i t d).frame hf (b _ (.inr (.inr (aD d)))),h.nil,h.inj,h.one,h.small,h.lt,h.off⟩
theorem nu(fr:Nat->Nat)(i q:Nat)(a:q<256):(mB fr i)[q]? =some (.int .u32 ((fr (256*i+q):Nat):Int)):=by
 unfold mB;rw [bX (by simpa using a),aR,fz a];rfl
theorem xC(fr:Nat->Nat)(i:Nat):(mB fr i)[256]? =some (.int .i64 ((Qb (eK fr) (256*i) (256*i+256):Nat):Int)):=by
 unfold mB;rw [dJ (by simp)];simp
section
variable{w:World}{g gt:Nat}{ts:List (Option Nat)}{P:Nat}{fr:Nat->Nat}{n:Int}
theorem cK.slot(h:cK w g gt ts P fr n){p:Nat}(hp:p<P):∃o,ts[p/256]? =some o/\w.cell? ⟨gt,p/256,none⟩=some (ug o)/\w.frozen? ⟨gt,p/256,none⟩=false:=by
 have b:p/256<ts.length:=by rw [h.len];omega
 obtain ⟨o,a⟩:∃o,ts[p/256]? =some o:=⟨_,aK b⟩;exact ⟨o,a,h.row.cell (p/256) (by rw [aR,a];rfl),h.row.free _⟩
theorem qp(h:cK w g gt ts P fr n)(p:Nat)(hp:p<P):Calls prog 278 #[g,(p:Int)] w fun e w'=>e= .returned (.int .u32 ((fr p:Nat):Int))/\w=w':=by
 obtain ⟨o,a,d,_⟩:=h.slot hp;have l:=h.Qd.cell 0 rfl;have m:p/256<ts.length:=(al.1 a).1;have q:=h.small;have r:(p:Int).tdiv 256=((p/256:Nat):Int):=rfl;have s:(p:Int).tmod 256=((p% 256:Nat):Int):=rfl;have b:256*(p/256)+p% 256=p:=by omega
 cases o with
 |none=>
  have c:=h.nil _ a (p% 256) (bO _ (by decide));rw [b] at c;rw [c];unfold ug at d;generalize ts.length=L at*;have f:((p/256:Nat):Int)<(L:Int):=by omega
  have i:(p:Int)<=524288:=by omega
  clear h a b
  go_enter func278,ntmps278
  go_wp2;go_ret;exact ⟨rfl,rfl⟩
 |some t=>
  have j:=(h.Qp _ t a).cell (p% 256) (nu fr (p/256) (p% 256) (bO _ (by decide)));rw [b] at j;unfold ug at d;generalize ts.length=L at*;generalize fr p=x at*;have f:((p/256:Nat):Int)<(L:Int):=by omega
  have i:(p:Int)<=524288:=by omega
  have k:((p% 256:Nat):Int)<256:=by omega
  clear h a b
  go_enter func278,ntmps278
  go_wp2;go_ret;exact ⟨rfl,rfl⟩
theorem sU(h:cK w g gt ts P fr n)(p:Nat)(hp:p<P)(b:Nat)(f:w.cell? b=some (p:Int)):Calls prog 277 #[g,.slice (some b) 1 1] w fun e w'=>e= .returned (0:Int)/\w=w':=by
 have c1:=h.Qd.cell 1 rfl;have l:=h.small;have c:(p:Int)<(P:Int):=by omega
 have d:(p:Int)<=524288:=by omega
 clear h
 go_enter func277,ntmps277
 go_wp2
 go_loopw [11] (fun k wr=>∃j:Nat,k= .int .i64 j/\j<=1/\wr=w) (fun k _=>(1-intOf k).toNat)
 case atStart=>exact ⟨0,rfl,by omega,rfl⟩
 case round=>
  obtain ⟨j,rfl,i,rfl⟩:=hrel;by_cases a:j=0
  ·subst a;go_wp2;go_roundw
   case rel=>exact ⟨1,rfl,by omega,trivial⟩
   case measure=>simp [intOf]
  ·obtain rfl:j=1:=by omega
   go_wp2;go_ret;exact ⟨rfl,rfl⟩
theorem uj(h:cK w g gt ts P fr n)(p:Nat)(hp:p<P)(f:fr p=0):Calls prog 251 #[g,(p:Int)] w fun e w'=>e= .returned (.tuple #[(0:Int),(12:Int)])/\GM w w':=by
 have hf:GM w (w.alloc (.cells #[(p:Int)] 3)):=(GQ _ w).alloc _;have a:=h.frame hf (fun _ _ h=>h);have d:=ae (sU a p hp w.heap.size ((aJ.new w [(p:Int)] 3).cell 0 rfl));have b:=ae (qp a p hp);rw [f] at b;have c:=ae hf;clear h a hf
 go_enter func251,ntmps251
 go_wp2_with fail
 refine d.out.mono ?_;rintro e w' ⟨rfl,rfl⟩;go_wp2_with fail
 refine b.out.mono ?_;rintro e w' ⟨rfl,rfl⟩;go_wp2;go_ret2;exact ⟨rfl,c.out⟩
theorem ln(h:cK w g gt ts P fr n)(p f:Nat)(hp:p<P)(k:fr p=f+1):Calls prog 251 #[g,(p:Int)] w fun e w'=>e= .returned (.tuple #[(f:Int),(0:Int)])/\GM w w':=by
 have hf:GM w (w.alloc (.cells #[(p:Int)] 3)):=(GQ _ w).alloc _;have c:=h.frame hf (fun _ _ h=>h);have j:=ae (sU c p hp w.heap.size ((aJ.new w [(p:Int)] 3).cell 0 rfl));have b:=ae (qp c p hp);have d:=h.lt p;rw [k] at b d;rw [show ((f+1:Nat):Int)=(f:Int)+1 by omega] at b;have i:=ae hf;have l:(((f:Int)+1)==0)=false:=by rw [aT];omega
 obtain ⟨F,a⟩:∃F:Int,(f:Int)=F:=⟨_,rfl⟩;rw [a] at b l ⊢;have m:F<4294967295:=by omega
 have o:0<=F:=by omega
 clear h c hf d a
 go_enter func251,ntmps251
 go_wp2_with fail
 refine j.out.mono ?_;rintro e w' ⟨rfl,rfl⟩;go_wp2_with fail
 refine b.out.mono ?_;rintro e w' ⟨rfl,rfl⟩;go_wp2;go_ret2;exact ⟨by simp,i.out⟩
end
def gm(fr:Nat->Nat)(p x:Nat)(k:Nat):Nat:=if k=p then x else fr k
theorem mr{fr:Nat->Nat}{p x a b:Nat}(e:a<=p)(c:p<b):Qb (eK (gm fr p x)) a b+(if fr p=0 then 0 else 1)=Qb (eK fr) a b+(if x=0 then 0 else 1):=by
 rw [bJ _ e (d9 c),bJ (eK fr) e (d9 c)];have d:∀f:Nat->Bool,Qb f p b=(if f p then 1 else 0)+Qb f (p+1) b:=fun f=>by
  rw [bJ f (show p<=p+1 from fm p) (show p+1<=b from c),cr f (ak p),eS f (ak p),br]
 rw [d (eK (gm fr p x)),d (eK fr),cI (f:=eK (gm fr p x)) (g:=eK fr) (a:=a) (b:=p) (fun i _ h=>by unfold eK gm;rw [aE (by omega)]),
  cI (f:=eK (gm fr p x)) (g:=eK fr) (a:=p+1) (b:=b) (fun i h _=>by unfold eK gm;rw [aE (by omega)])]
 have j:eK (gm fr p x) p=(x !=0):=by unfold eK gm;rw [aG rfl]
 have k:eK fr p=(fr p !=0):=rfl;rw [j,k];by_cases l:x=0<;>by_cases hf:fr p=0<;>simp [l,hf]<;>omega
theorem vL{fr:Nat->Nat}{p x i:Nat}(d:i≠p/256):mB (gm fr p x) i=mB fr i:=by
 unfold mB;congr 1
 ·apply eI;intro q a;rw [bv] at a;unfold gm;rw [aE (by omega)]
 ·rw [cI (g:=eK fr) (fun k b c=>by unfold eK gm;rw [aE (by omega)])]
theorem yU{fr:Nat->Nat}{p x:Nat}:mB (gm fr p x) (p/256)=((mB fr (p/256)).set (p% 256) (.int .u32 (x:Int))).set 256 (.int .i64 ((Qb (eK (gm fr p x)) (256*(p/256)) (256*(p/256)+256):Nat):Int)):=by
 apply ir;intro k;have b:∀f i,(mB f i).length=257:=fun f i=>by unfold mB;simp
 rcases dC k 256 with a|a|a
 ·rw [nu _ _ _ a,lT (by omega),bF];unfold gm;by_cases e:p% 256=k
  ·rw [aG (by omega),aG e,aG (by rw [b];omega)]
  ·rw [aE (by omega),aE e,nu _ _ _ a]
 ·subst a;rw [xC,bF,aG rfl,aG (by rw [bc,b];decide)]
 ·rw [cL (by rw [b];omega),cL (by rw [bc,bc,b];omega)]
section
variable{w:World}{g gt:Nat}{ts:List (Option Nat)}{P:Nat}{fr:Nat->Nat}{n:Int}
theorem cK.gne(h:cK w g gt ts P fr n):g≠gt:=fun e=>by
 have a:=h.Qd;have b:=h.row;unfold aJ at a b;rw [e,b] at a;simp only [aL,Obj.cells.injEq] at a;exact absurd a.2.1 (by decide)
theorem cK.tne(h:cK w g gt ts P fr n){i t:Nat}(d:ts[i]? =some (some t)):t≠g/\t≠gt:=by
 have a:=h.Qp i t d;have b:=h.Qd;have c:=h.row;unfold aJ at a b c;constructor
 ·intro e;rw [e,b] at a;simp only [aL,Obj.cells.injEq] at a;exact absurd a.2.1 (by decide)
 ·intro e;rw [e,c] at a;simp only [aL,Obj.cells.injEq] at a;exact absurd a.2.1 (by decide)
theorem cK.upd(h:cK w g gt ts P fr n){p x t:Nat}(hp:p<P)(r:x<4294967296)(d:ts[p/256]? =some (some t))(c:Int)(m:c=((Qb (eK (gm fr p x)) (256*(p/256)) (256*(p/256)+256):Nat):Int))(n':Int):
  ∀W,W=((w.setCell ⟨t,p% 256,none⟩ (.int .u32 (x:Int))).setCell ⟨t,256,none⟩ (.int .i64 c)).setCell ⟨g,2,none⟩ (.int .i64 n')->cK W g gt ts P (gm fr p x) n'/\Fr (cv g gt ts) w W:=by
 rintro W rfl;obtain ⟨j,s⟩:=h.tne d;have hg:=h.gne;have hf:Fr (fun k=>k=t\/k=g) w (((w.setCell ⟨t,p% 256,none⟩ (.int .u32 (x:Int))).setCell ⟨t,256,none⟩ (.int .i64 c)).setCell ⟨g,2,none⟩ (.int .i64 n')):=
  (((GQ (fun k=>k=t\/k=g) w).setCell ⟨t,p% 256,none⟩ (.inl (.inl rfl)) _).setCell ⟨t,256,none⟩ (.inl (.inl rfl)) _).setCell ⟨g,2,none⟩ (.inl (.inr rfl)) _
 refine ⟨⟨?_,h.row.frame hf (by omega),h.len,?_,?_,h.inj,h.one,h.small,?_,?_⟩,hf.mono (fun k f=> .inl (by rcases f with rfl|rfl;exact .inr (.inr (aD d));exact .inl rfl))⟩
 ·exact ((h.Qd.Qg ⟨t,p% 256,none⟩ _ (Ne.symm j)).Qg ⟨t,256,none⟩ _ (Ne.symm j)).set 2 _
 ·intro i l a;by_cases b:i=p/256
  ·subst b;rw [d] at a;simp only [aL] at a;subst a;rw [yU,<-m];exact (((h.Qp _ t d).set (p% 256) _).set 256 _).Qg ⟨g,2,none⟩ _ j
  ·rw [vL b];have:l≠t:=fun e=>b (h.inj i (p/256) t (by rw [<-e];exact a) d)
   exact (h.Qp i l a).frame hf (by have:=(h.tne a).1;omega)
 ·intro i b q o;have:i≠p/256:=fun e=>by rw [e,d] at b;cases b
  unfold gm;rw [aE (by omega)];exact h.nil i b q o
 ·intro k;unfold gm;split
  ·exact r
  ·exact h.lt k
 ·intro k f;unfold gm;rw [aE (by omega)];exact h.off k f
theorem cK.more(h:cK w g gt ts P fr n){i:Nat}(p:ts[i]? =some none):
  ∀W,W=(w.alloc (.cells (List.replicate 256 (Value.int .u32 0)++[Value.int .i64 0]).toArray 351)).setCell ⟨gt,i,none⟩ (.pointer (some ⟨w.heap.size,0,none⟩))->
   cK W g gt (ts.set i (some w.heap.size)) P fr n/\Fr (cv g gt ts) w W:=by
 rintro W rfl;have d:=(al.1 p).1;have hg:=h.gne;have z:=h.Qd.lt;have A:=h.row.lt;have b:GM w (w.alloc (.cells (List.replicate 256 (Value.int .u32 0)++[Value.int .i64 0]).toArray 351)):=(GQ _ w).alloc _;have c:Fr (fun k=>k=gt) (w.alloc (.cells (List.replicate 256 (Value.int .u32 0)++[Value.int .i64 0]).toArray 351)) ((w.alloc (.cells (List.replicate 256 (Value.int .u32 0)++[Value.int .i64 0]).toArray 351)).setCell ⟨gt,i,none⟩ (.pointer (some ⟨w.heap.size,0,none⟩))):=
  (GQ (fun k=>k=gt) _).setCell ⟨gt,i,none⟩ (.inl rfl) _
 refine ⟨⟨?_,?_,by rw [bc];exact h.len,?_,?_,?_,h.one,h.small,h.lt,h.off⟩,(b.mono (S':=cv g gt ts) GN).trans c (fun k f=> .inl (.inr (.inl f)))⟩
 ·rw [bc];exact (h.Qd.frame b id).frame c hg
 ·have:=(h.row.frame b id).set i (.pointer (some ⟨w.heap.size,0,none⟩));rw [dM];exact this
 ·intro j t l;rw [bF] at l;by_cases e:i=j
  ·subst e;rw [aG rfl,aG d] at l;simp only [aL] at l;subst l;have u:mB fr i=List.replicate 256 (Value.int .u32 0)++[Value.int .i64 0]:=by
    unfold mB;congr 1
    ·rw [List.eq_replicate_iff];refine ⟨by simp,fun v s=> ?_⟩;obtain ⟨q,o,rfl⟩:=bu.1 s;rw [bv] at o;rw [h.nil i p q o];rfl
    ·rw [cu (fun k x y=>by
      have:=h.nil i p (k-256*i) (by omega);rw [show 256*i+(k-256*i)=k by omega] at this;unfold eK;rw [this];rfl)]
     rfl
   rw [u];exact (aJ.new w _ _).frame c (by omega)
  ·rw [aE e] at l;exact ((h.Qp j t l).frame b id).frame c (h.tne l).2
 ·intro j a q o;rw [bF] at a;by_cases e:i=j
  ·subst e;rw [aG rfl,aG d] at a
   cases a
  ·rw [aE e] at a;exact h.nil j a q o
 ·intro j k t a f;rw [bF] at a f;by_cases r:i=j
  ·by_cases m:i=k
   ·omega
   ·subst r;rw [aG rfl,aG d] at a;rw [aE m] at f;simp only [aL] at a;have:=(h.Qp k t f).lt;omega
  ·rw [aE r] at a;by_cases m:i=k
   ·subst m;rw [aG rfl,aG d] at f;simp only [aL] at f;have:=(h.Qp j t a).lt;omega
   ·rw [aE m] at f;exact h.inj j k t a f
theorem cK.less(h:cK w g gt ts P fr n){i t:Nat}(s:ts[i]? =some (some t))(r:Qb (eK fr) (256*i) (256*i+256)=0):
  ∀W,W=w.setCell ⟨gt,i,none⟩ (.pointer none)->cK W g gt (ts.set i none) P fr n/\Fr (cv g gt ts) w W:=by
 rintro W rfl;have c:=(al.1 s).1;have hg:=h.gne;have b:Fr (fun k=>k=gt) w (w.setCell ⟨gt,i,none⟩ (.pointer none)):=(GQ (fun k=>k=gt) _).setCell ⟨gt,i,none⟩ (.inl rfl) _;refine ⟨⟨?_,?_,by rw [bc];exact h.len,?_,?_,?_,h.one,h.small,h.lt,h.off⟩,b.mono (fun k d=> .inl (.inr (.inl d)))⟩
 ·rw [bc];exact h.Qd.frame b hg
 ·rw [dM];exact h.row.set i (.pointer none)
 ·intro j l f;rw [bF] at f;by_cases e:i=j
  ·subst e;rw [aG rfl,aG c] at f
   cases f
  ·rw [aE e] at f;exact (h.Qp j l f).frame b (h.tne f).2
 ·intro j a q u;by_cases e:i=j
  ·subst e
   cases hz:fr (256*i+q) with
   |zero=>rfl
   |succ m=>
    have:=u5 r (256*i+q) (by omega) (by omega);unfold eK at this;rw [hz] at this
    cases this
  ·rw [bF,aE e] at a;exact h.nil j a q u
 ·intro j k l a d;rw [bF] at a d;by_cases o:i=j
  ·subst o;rw [aG rfl,aG c] at a
   cases a
  ·rw [aE o] at a;by_cases p:i=k
   ·subst p;rw [aG rfl,aG c] at d
    cases d
   ·rw [aE p] at d;exact h.inj j k l a d
end
section
variable{w:World}{g gt:Nat}{ts:List (Option Nat)}{P:Nat}{fr:Nat->Nat}{n:Int}
def kC(w:World)(g gt:Nat)(ts:List (Option Nat))(P:Nat)(fr:Nat->Nat)(p x:Nat)(e:Ending)(w':World):Prop:=
 e= .returned (.tuple #[])/\∃ts' n',cK w' g gt ts' P (gm fr p x) n'/\Fr (cv g gt ts) w w'/\∀k,cv g gt ts' k->cv g gt ts k\/w.heap.size<=k
theorem vC:Tryz.zeroCells351=(List.replicate 256 (Value.int .u32 0)++[Value.int .i64 0]).toArray:=by kernel_rfl
theorem yd{ts:List (Option Nat)}{g gt i k m:Nat}(h:cv g gt (ts.set i (some m)) k):cv g gt ts k\/k=m:=by
 rcases h with h|h|h
 ·exact .inl (.inl h)
 ·exact .inl (.inr (.inl h))
 ·rcases dh h with h|h
  ·exact .inl (.inr (.inr h))
  ·exact .inr (by simpa using h)
theorem cK.Yk(h:cK w g gt ts P fr n){p x t:Nat}(hp:p<P)(l:x<4294967296)(e:ts[p/256]? =some (some t))(δ:Int)(C:Nat)(j:Qb (eK fr) (256*(p/256)) (256*(p/256)+256)=C)(c:Int)(k:c=((Qb (eK (gm fr p x)) (256*(p/256)) (256*(p/256)+256):Nat):Int)):
  (∃u,w.cell? ⟨t,p% 256,none⟩=some u)/\w.frozen? ⟨t,p% 256,none⟩=false/\
  (w.setCell ⟨t,p% 256,none⟩ (.int .u32 (x:Int))).cell? ⟨t,256,none⟩=some (C:Int)/\(w.setCell ⟨t,p% 256,none⟩ (.int .u32 (x:Int))).frozen? ⟨t,256,none⟩=false/\
  ((w.setCell ⟨t,p% 256,none⟩ (.int .u32 (x:Int))).setCell ⟨t,256,none⟩ (.int .i64 c)).cell? ⟨g,2,none⟩=some (n:Int)/\((w.setCell ⟨t,p% 256,none⟩ (.int .u32 (x:Int))).setCell ⟨t,256,none⟩ (.int .i64 c)).frozen? ⟨g,2,none⟩=false/\
  (((w.setCell ⟨t,p% 256,none⟩ (.int .u32 (x:Int))).setCell ⟨t,256,none⟩ (.int .i64 c)).setCell ⟨g,2,none⟩ (.int .i64 (wrap64 (n+δ)))).cell? ⟨t,256,none⟩=some (c:Int)/\
  ∀W,W=(((w.setCell ⟨t,p% 256,none⟩ (.int .u32 (x:Int))).setCell ⟨t,256,none⟩ (.int .i64 c)).setCell ⟨g,2,none⟩ (.int .i64 (wrap64 (n+δ))))->cK W g gt ts P (gm fr p x) (wrap64 (n+δ))/\Fr (cv g gt ts) w W:=by
 have b:=h.Qp _ t e;have a:=b.set (p% 256) (.int .u32 (x:Int));have i:((mB fr (p/256)).set (p% 256) (.int .u32 (x:Int)))[256]? =some (.int .i64 C):=by rw [lT (by omega),xC,j]
 obtain ⟨f,m⟩:=h.tne e;have d:=(h.Qd.Qg ⟨t,p% 256,none⟩ (.int .u32 (x:Int)) (Ne.symm f)).Qg ⟨t,256,none⟩ (.int .i64 c) (Ne.symm f);exact ⟨⟨_,b.cell (p% 256) (nu fr (p/256) (p% 256) (bO _ (by decide)))⟩,b.free _,a.cell 256 i,a.free 256,d.cell 2 rfl,d.free 2,
  ((a.set 256 (.int .i64 c)).Qg ⟨g,2,none⟩ _ f).cell 256 (by rw [bF,aG rfl,aG (by rw [bc];unfold mB;simp)]),h.upd hp l e c k _⟩
theorem Bc(h:cK w g gt ts P fr n)(p x t:Nat)(hp:p<P)(i:x≠0)(C:x<4294967296)(q:fr p=0)(f:ts[p/256]? =some (some t)):Calls prog 255 #[g,(p:Int),.int .u32 (x:Int)] w (kC w g gt ts P fr p x):=by
 obtain ⟨o,m,r,s⟩:=h.slot hp;rw [f] at m
 cases m
 unfold ug at r;have I:=h.Qd.cell 0 rfl;have A:p/256<ts.length:=(al.1 f).1;have J:=h.small;have S:(p:Int).tdiv 256=((p/256:Nat):Int):=rfl;have T:(p:Int).tmod 256=((p% 256:Nat):Int):=rfl;have F:(p:Int)<=524288:=by omega
 have G:((p% 256:Nat):Int)<256:=by omega
 have w1:IntKind.i64.wrap ((p:Int)/256)=((p/256:Nat):Int):=by rw [IntKind.wrap_i64];omega
 have w2:IntKind.i64.wrap ((p:Int)% 256)=((p% 256:Nat):Int):=by rw [IntKind.wrap_i64];omega
 have v1:((p:Int)/256).toNat=p/256:=by omega
 have v2:((p:Int)% 256).toNat=p% 256:=by omega
 have e:=mr (fr:=fr) (p:=p) (x:=x) (a:=256*(p/256)) (b:=256*(p/256)+256) (by omega) (by omega);rw [aG q,aE i] at e;obtain ⟨c,d⟩:∃c,Qb (eK fr) (256*(p/256)) (256*(p/256)+256)=c:=⟨_,rfl⟩;have v:c<=256:=by rw [<-d];have:=dR (eK fr) (256*(p/256)) (256*(p/256)+256);omega
 rw [d] at e;obtain ⟨⟨u,K⟩,B,M,N,O,Q,R,l⟩:=h.Yk hp C f 1 c d ((c:Int)+1) (by omega);have j:=ae l;have D:((x:Int)==0)=false:=by rw [aT];omega
 have y:(((c:Int)+1)==0)=false:=by rw [aT];omega
 generalize ts.length=L at*;have E:((p/256:Nat):Int)<(L:Int):=by omega
 have H:(c:Int)<=256:=by omega
 clear h f e d A l
 go_enter func255,ntmps255
 go_wp2;go_end0;exact ⟨rfl,ts,_,(j.out _ rfl).1,(j.out _ rfl).2,fun k z=> .inl z⟩
theorem Be(h:cK w g gt ts P fr n)(p x:Nat)(hp:p<P)(z:x≠0)(S:x<4294967296)(N:fr p=0)(m:ts[p/256]? =some none):Calls prog 255 #[g,(p:Int),.int .u32 (x:Int)] w (kC w g gt ts P fr p x):=by
 obtain ⟨o,l,E,v⟩:=h.slot hp;rw [m] at l
 cases l
 unfold ug at E;have J:=h.Qd.cell 0 rfl;have G:p/256<ts.length:=(al.1 m).1;have Y:=h.small;have q1:(p:Int).tdiv 256=((p/256:Nat):Int):=rfl;have q2:(p:Int).tmod 256=((p% 256:Nat):Int):=rfl;have V:(p:Int)<=524288:=by omega
 have W:((p% 256:Nat):Int)<256:=by omega
 have w1:IntKind.i64.wrap ((p:Int)/256)=((p/256:Nat):Int):=by rw [IntKind.wrap_i64];omega
 have w2:IntKind.i64.wrap ((p:Int)% 256)=((p% 256:Nat):Int):=by rw [IntKind.wrap_i64];omega
 have v1:((p:Int)/256).toNat=p/256:=by omega
 have v2:((p:Int)% 256).toNat=p% 256:=by omega
 have f:=mr (fr:=fr) (p:=p) (x:=x) (a:=256*(p/256)) (b:=256*(p/256)+256) (by omega) (by omega);rw [aG N,aE z] at f;obtain ⟨c,d⟩:∃c,Qb (eK fr) (256*(p/256)) (256*(p/256)+256)=c:=⟨_,rfl⟩;have O:c<=256:=by rw [<-d];have:=dR (eK fr) (256*(p/256)) (256*(p/256)+256);omega
 rw [d] at f;have T:((x:Int)==0)=false:=by rw [aT];omega
 have Q:(((c:Int)+1)==0)=false:=by rw [aT];omega
 have B:=ae (h.more m);have I:=ae G;have q:=ae d;have r:=ae f;have K:∀o,(w.alloc o).cell? ⟨gt,p/256,none⟩=some (.pointer none):=fun o=>((h.row.alloc o).cell (p/256) (by rw [aR,m];rfl))
 have M:∀o,(w.alloc o).frozen? ⟨gt,p/256,none⟩=false:=fun o=>(h.row.alloc o).free _
 generalize s:ts.length=L at*;have U:((p/256:Nat):Int)<(L:Int):=by omega
 have X:(c:Int)<=256:=by omega
 clear h m f d G
 go_enter func255,ntmps255
 go_upto_region 3 with fail
 obtain ⟨W1,i⟩:∃W1,(w.alloc (.cells Tryz.zeroCells351 351)).setCell ⟨gt,p/256,none⟩ (.pointer (some ⟨w.heap.size,0,none⟩))=W1:=⟨_,rfl⟩;rw [i];obtain ⟨g1,C⟩:=B.out W1 (by rw [<-i,vC]);have j:(ts.set (p/256) (some w.heap.size))[p/256]? =some (some w.heap.size):=by rw [bF,aG rfl,aG (by rw [s];exact I.out)]
 obtain ⟨o,l,t,F⟩:=g1.slot hp;rw [j] at l
 cases l
 unfold ug at t;obtain ⟨⟨u,Z⟩,R,k1,k2,k3,k4,k5,D⟩:=g1.Yk hp S j 1 c q.out ((c:Int)+1) (by have:=r.out;omega);have A:=ae D;have H:=ae C;clear g1 C D i B K M J E v j;go_wp2;go_end0;exact ⟨rfl,_,_,(A.out _ rfl).1,H.out.trans (A.out _ rfl).2 (fun k y=>(yd y).imp id (fun e=>by rw [e];exact ak _)),fun k y=>(yd y).imp id (fun e=>by rw [e];exact ak _)⟩
theorem zi(h:cK w g gt ts P fr n)(p:Nat)(hp:p<P)(C:fr p≠0):Calls prog 255 #[g,(p:Int),.int .u32 0] w (kC w g gt ts P fr p 0):=by
 obtain ⟨o,B,G,H⟩:=h.slot hp;obtain ⟨t,rfl⟩:∃t,o=some t:=by
  cases o with
  |none=>
   have:=h.nil _ B (p% 256) (bO _ (by decide));rw [show 256*(p/256)+p% 256=p by omega] at this;exact absurd this C
  |some t=>exact ⟨t,rfl⟩
 have q:=B;clear B;unfold ug at G;have Y:=h.Qd.cell 0 rfl;have J:p/256<ts.length:=(al.1 q).1;have hs:=h.small;have q1:(p:Int).tdiv 256=((p/256:Nat):Int):=rfl;have q2:(p:Int).tmod 256=((p% 256:Nat):Int):=rfl;have V:(p:Int)<=524288:=by omega
 have W:((p% 256:Nat):Int)<256:=by omega
 have w1:IntKind.i64.wrap ((p:Int)/256)=((p/256:Nat):Int):=by rw [IntKind.wrap_i64];omega
 have w2:IntKind.i64.wrap ((p:Int)% 256)=((p% 256:Nat):Int):=by rw [IntKind.wrap_i64];omega
 have v1:((p:Int)/256).toNat=p/256:=by omega
 have v2:((p:Int)% 256).toNat=p% 256:=by omega
 have j:=mr (fr:=fr) (p:=p) (x:=0) (a:=256*(p/256)) (b:=256*(p/256)+256) (by omega) (by omega);rw [aE C,aG rfl] at j;obtain ⟨c,l⟩:∃c,Qb (eK fr) (256*(p/256)) (256*(p/256)+256)=c+1:=⟨Qb (eK fr) (256*(p/256)) (256*(p/256)+256)-1,by omega⟩;have I:c<=256:=by have:=dR (eK fr) (256*(p/256)) (256*(p/256)+256);omega
 rw [l] at j;obtain ⟨⟨u,k0⟩,K,D,M,N,O,Q,z⟩:=h.Yk (x:=0) hp (by decide) q (-1) (c+1) l (c:Int) (by omega);rw [show ((0:Nat):Int)=0 from rfl] at D M N O Q z;have v:=ae z;obtain ⟨R,s⟩:=h.tne q;have m:=h.gne;have F:=ae j;have E:=ae q;rw [show ((c+1:Nat):Int)=(c:Int)+1 by omega] at D;have hd:IntKind.i64.wrap ((c:Int)+1+ -1)=(c:Int):=by rw [IntKind.wrap_i64];omega
 have Z:∀a b d,(((w.setCell ⟨t,p% 256,none⟩ a).setCell ⟨t,256,none⟩ b).setCell ⟨g,2,none⟩ d).cell? ⟨gt,p/256,none⟩=some t:=fun a b d=>(((h.row.Qg ⟨t,p% 256,none⟩ a (Ne.symm s)).Qg ⟨t,256,none⟩ b (Ne.symm s)).Qg ⟨g,2,none⟩ d (Ne.symm m)).cell (p/256) (by rw [aR,q];rfl)
 have e6:∀a b d,(((w.setCell ⟨t,p% 256,none⟩ a).setCell ⟨t,256,none⟩ b).setCell ⟨g,2,none⟩ d).frozen? ⟨gt,p/256,none⟩=false:=fun a b d=>(((h.row.Qg ⟨t,p% 256,none⟩ a (Ne.symm s)).Qg ⟨t,256,none⟩ b (Ne.symm s)).Qg ⟨g,2,none⟩ d (Ne.symm m)).free _
 generalize ts.length=L at*;have U:((p/256:Nat):Int)<(L:Int):=by omega
 have X:(c:Int)<=256:=by omega
 clear h q j l J z R s m;by_cases A:c=0
 ·have r:((c:Int)==0)=true:=by rw [dz];omega
  have f:=(v.out _ rfl).1.less (i:=p/256) (t:=t) E.out (by have:=F.out;omega);have y:=ae f;clear f A
  go_enter func255,ntmps255
  go_wp2;go_end0;obtain ⟨S,T⟩:=y.out _ rfl;refine ⟨rfl,_,_,S,(v.out _ rfl).2.trans T (fun k e=> .inl e),fun k e=> .inl ?_⟩;rcases e with e|e|e
  ·exact .inl e
  ·exact .inr (.inl e)
  ·rcases dh e with e|e
   ·exact .inr (.inr e)
   ·cases e
 ·have r:((c:Int)==0)=false:=by rw [aT];omega
  go_enter func255,ntmps255
  go_wp2;go_end0;exact ⟨rfl,ts,_,(v.out _ rfl).1,(v.out _ rfl).2,fun k e=> .inl e⟩
theorem Bf(h:cK w g gt ts P fr n)(p x:Nat)(hp:p<P)(a:x≠0)(d:x<4294967296)(b:fr p=0):Calls prog 255 #[g,(p:Int),.int .u32 (x:Int)] w (kC w g gt ts P fr p x):=by
 obtain ⟨o,c,_⟩:=h.slot hp
 cases o with
 |none=>exact Be h p x hp a d b c
 |some t=>exact Bc h p x t hp a d b c
end
section
variable{w:World}{g gt:Nat}{ts:List (Option Nat)}{P:Nat}{fr:Nat->Nat}{n:Int}
def jk(w:World)(g gt:Nat)(ts:List (Option Nat))(P:Nat)(fr:Nat->Nat)(p x:Nat)(v:Value)(e:Ending)(w':World):Prop:=
 e= .returned v/\∃ts' n',cK w' g gt ts' P (gm fr p x) n'/\Fr (cv g gt ts) w w'/\∀k,cv g gt ts' k->cv g gt ts k\/w.heap.size<=k
theorem Do(h:cK w g gt ts P fr n)(p f:Nat)(hp:p<P)(hf:f<=4096)(l:fr p=0):Calls prog 253 #[g,(p:Int),(f:Int)] w (jk w g gt ts P fr p (f+1) (.int .i64 0)):=by
 have a:GM w (w.alloc (.cells #[(p:Int)] 3)):=(GQ _ w).alloc _;have c:=h.frame a (fun _ _ h=>h);have r:=ae (sU c p hp w.heap.size ((aJ.new w [(p:Int)] 3).cell 0 rfl));have j:=ae (qp c p hp);rw [l] at j;have d:=ae (Bf c p (f+1) hp (by omega) (by omega) l);rw [show ((f+1:Nat):Int)=(f:Int)+1 by omega] at d;have q:=ae (show∀e w',kC (w.alloc (.cells #[(p:Int)] 3)) g gt ts P fr p (f+1) e w'->e= .returned (.tuple #[])/\jk w g gt ts P fr p (f+1) (.int .i64 0) (.returned (0:Int)) w' from
  fun e w' ⟨t,i,n',v,x,y⟩=>⟨t,rfl,i,n',v,(a.mono (S':=cv g gt ts) GN).trans x (fun _ h=> .inl h),fun k u=>(y k u).imp id (fun h=>by have:=a.size;omega)⟩)
 obtain ⟨F,b⟩:∃F:Int,(f:Int)=F:=⟨_,rfl⟩;rw [b] at d ⊢;have z:F<=4096:=by omega
 have A:0<=F:=by omega
 generalize jk w g gt ts P fr p (f+1) (.int .i64 0)=Q at*;generalize kC (w.alloc (.cells #[(p:Int)] 3)) g gt ts P fr p (f+1)=Q2 at*;clear h c a hf b
 go_enter func253,ntmps253
 go_wp2_with fail
 refine r.out.mono ?_;rintro e w' ⟨rfl,rfl⟩;go_wp2_with fail
 refine j.out.mono ?_;rintro e w' ⟨rfl,rfl⟩;go_wp2_with fail
 refine d.out.mono ?_;intro e w' o;obtain ⟨rfl,m⟩:=q.out e w' o;have s:=ae m;clear o m;go_wp2;exact s.out
theorem Bm(h:cK w g gt ts P fr n)(p f:Nat)(hp:p<P)(i:fr p=f+1):Calls prog 213 #[g,(p:Int)] w (jk w g gt ts P fr p 0 (.tuple #[(f:Int),(0:Int)])):=by
 have o:=ae (ln h p f hp i);have r:=ae (fun w1 (hf:GM w w1)=>zi (h.frame hf (fun _ _ h=>h)) p hp (by omega));have m:=ae (show∀w1,GM w w1->∀e w',kC w1 g gt ts P fr p 0 e w'->e= .returned (.tuple #[])/\jk w g gt ts P fr p 0 (.tuple #[(f:Int),(0:Int)]) (.returned (.tuple #[(f:Int),(0:Int)])) w' from
  fun w1 hf e w' ⟨s,d,n',u,v,x⟩=>⟨s,rfl,d,n',u,(hf.mono (S':=cv g gt ts) GN).trans v (fun _ h=> .inl h),fun k t=>(x k t).imp id (fun h=>by have:=hf.size;omega)⟩)
 generalize jk w g gt ts P fr p 0 (.tuple #[(f:Int),(0:Int)])=Q at*;clear h i
 go_enter func213,ntmps213
 go_wp2_with fail
 refine o.out.mono ?_;rintro e w1 ⟨rfl,a⟩;have c:=ae (r.out w1 a);have b:=ae (m.out w1 a);clear a;go_wp2_with fail
 refine c.out.mono ?_;intro e w' l;obtain ⟨rfl,j⟩:=b.out e w' l;have q:=ae j;clear l j;go_wp2;exact q.out
theorem zJ:(prog.info? 348).map (fun i=>(i.zero,i.size,i.bytes))=some (some (.pointer none),1,8):=by kernel_rfl
theorem zG(k:Nat)(i:k<=16777216)(X:Int)(b:X=(k:Int))(w:World):(Instr.makeSlice 317 (.int .i64 X) (.int .i64 X)).run prog w= .ok (.slice (some w.heap.size) k k) (w.alloc (.cells (List.replicate k (Value.pointer none)).toArray 348)):=by
 obtain ⟨f,d,e,a,c⟩:=info_parts zJ;subst b;have h:=run_makeSlice (P:=prog) w 317 348 f (.pointer none) underlying317 d e .i64 .i64 (k:Int) (k:Int) (by omega) (lW _) (by rw [a,dO];omega) (by rw [c];omega) (by omega);rw [a,dO,fK,show (Value.pointer none).cells= #[.pointer none] from rfl,nG] at h;rw [h];simp
theorem Bl(P:Nat)(d:1<=P)(f:P<=524288)(w:World):Calls prog 181 #[(P:Int)] w fun e w'=>∃g gt ts n,e= .returned (.tuple #[.pointer (some ⟨g,0,none⟩),(0:Int)])/\cK w' g gt ts P (fun _=>0) n/\(∀k,cv g gt ts k->w.heap.size<=k)/\GM w w':=by
 have m:((P:Int)+256-1).tdiv 256=(((P+255)/256:Nat):Int):=by
  rw [show (P:Int)+256-1=((P+255:Nat):Int) by omega];rfl
 have l:=zG ((P+255)/256) (by omega) (((P:Int)+255)/256) (by omega);have a:∀W,W=(w.alloc (.cells (List.replicate ((P+255)/256) (Value.pointer none)).toArray 348)).alloc (.cells #[.slice (some w.heap.size) ((P+255)/256) ((P+255)/256),(P:Int),(0:Int)] 319)->
   cK W (w.heap.size+1) w.heap.size (List.replicate ((P+255)/256) none) P (fun _=>0) 0/\(∀k,cv (w.heap.size+1) w.heap.size (List.replicate ((P+255)/256) none) k->w.heap.size<=k)/\GM w W:=by
  rintro W rfl;refine ⟨⟨?_,?_,by simp,?_,fun _ _ _ _=>rfl,?_,d,f,fun _=>by decide,fun _ _=>rfl⟩,?_,((GQ _ w).alloc _).alloc _⟩
  ·have:=aJ.new (w.alloc (.cells (List.replicate ((P+255)/256) (Value.pointer none)).toArray 348)) [.slice (some w.heap.size) ((P+255)/256) ((P+255)/256),(P:Int),(0:Int)] 319;rw [World.size_alloc] at this;rw [bz];exact this
  ·rw [eU];exact (aJ.new w _ _).alloc _
  ·intro i t b;rw [eD] at b;split at b<;>cases b
  ·intro i j t b;rw [eD] at b;split at b<;>cases b
  ·rintro k (h|h|h)
   ·omega
   ·omega
   ·have:=dS h;cases this
 have c:=ae a;clear a;generalize (List.replicate ((P+255)/256) (Value.pointer none)).toArray=Z at*
 go_enter func181,ntmps181
 go_wp2;go_ret2;exact ⟨_,_,_,_,rfl,c.out _ rfl⟩
end
theorem rf{w:World}{a b:Nat}{c c':List Value}{t f:TypeId}(h:aJ w a c t)(d:aJ w b c' f)(g:t≠f):a≠b:=fun e=>by
 unfold aJ at h d;rw [e,d] at h;simp only [aL,Obj.cells.injEq] at h;exact g h.2.1.symm
section
variable{w:World}{p Rm Pg Us Hg:Nat}{Tm:Int}{vw vt vb:Value}{ws:List Nat}{tk:List Bool}{bk:List Nat}{g gt:Nat}{ts:List (Option Nat)}{P:Nat}{fr:Nat->Nat}{n:Int}
theorem gR(h:dN w p vw vt vb ws tk bk Rm Pg Us Hg Tm)(d:cK w g gt ts P fr n){k:Nat}(a:d8 p vw vt vb k):¬cv g gt ts k:=by
 intro hg;have e:∀{c:List Value} {t:TypeId},aJ w k c t->t≠307->t≠46->t≠4->t≠3->False:=fun b j l m o=>by
  rcases a with a|a|a|a
  ·exact rf b h.Qd j (by rw [a])
  ·exact fq h.rw b (Ne.symm l) a
  ·exact fq h.rt b (Ne.symm m) a
  ·exact fq h.rb b (Ne.symm o) a
 rcases hg with hg|hg|hg
 ·exact e (by rw [hg];exact d.Qd) (by decide) (by decide) (by decide) (by decide)
 ·exact e (by rw [hg];exact d.row) (by decide) (by decide) (by decide) (by decide)
 ·obtain ⟨i,f⟩:=bw.1 hg;exact e (d.Qp i k f) (by decide) (by decide) (by decide) (by decide)
theorem lm(h:dN w p vw vt vb ws tk bk Rm Pg Us Hg Tm){m:Nat}{c:List Value}(b:aJ w m c 219):¬d8 p vw vt vb m:=by
 rintro (a|a|a|a)
 ·exact rf b h.Qd (by decide) a
 ·exact fq h.rw b (by decide) a
 ·exact fq h.rt b (by decide) a
 ·exact fq h.rb b (by decide) a
theorem mg(h:cK w g gt ts P fr n){m:Nat}{c:List Value}(b:aJ w m c 219):¬cv g gt ts m:=by
 rintro (a|a|a)
 ·exact rf b h.Qd (by decide) a
 ·exact rf b h.row (by decide) a
 ·obtain ⟨i,d⟩:=bw.1 a;exact rf b (h.Qp i m d) (by decide) rfl
end
def ed(w:World)(m:Nat)(S:Nat->Prop)(Pg W Rm Us Hg:Nat)(mp:Nat->Bool)(M:Nat->Nat):Prop:=
 ∃p vw vt vb ws tk bk Tm g gt ts fr n,aJ w m [.pointer (some ⟨p,0,none⟩),.pointer (some ⟨g,0,none⟩),(W:Int)] 219/\dN w p vw vt vb ws tk bk Rm Pg Us Hg Tm/\cK w g gt ts (W/Pg) fr n/\
  (W% Pg=0/\W<=524288/\1<=W)/\(∀q f,fr q=f+1->tk[f]? =some true)/\(∀q q',fr q=fr q'->fr q≠0->q=q')/\Us=Qb (eK fr) 0 (W/Pg)/\(∀q,mp q=eK fr q)/\
  (∀a f,a<W->fr (a/Pg)=f+1->M a=ws.getD (f*Pg+a% Pg) 0)/\∀k,S k↔(k=m\/d8 p vw vt vb k\/cv g gt ts k)
theorem ed.frame{T S:Nat->Prop}{w w':World}{m Pg W Rm Us Hg:Nat}{mp:Nat->Bool}{M:Nat->Nat}(h:ed w m S Pg W Rm Us Hg mp M)(hf:Fr T w w')(c:∀k,S k->¬T k):ed w' m S Pg W Rm Us Hg mp M:=by
 obtain ⟨p,A,z,y,ws,v,e,d,g,f,x,fr,n,i,j,l,o,q,r,s,t,u,a⟩:=h;exact ⟨p,A,z,y,ws,v,e,d,g,f,x,fr,n,i.frame hf (c _ ((a _).2 (.inl rfl))),j.frame hf (fun k b=>c k ((a k).2 (.inr (.inl b)))),l.frame hf (fun k b=>c k ((a k).2 (.inr (.inr b)))),o,q,r,s,t,u,a⟩
theorem ed.Qa{S:Nat->Prop}{w w':World}{m Pg W Rm Us Hg:Nat}{mp:Nat->Bool}{M:Nat->Nat}(h:ed w m S Pg W Rm Us Hg mp M)(hf:GM w w'):ed w' m S Pg W Rm Us Hg mp M:=h.frame hf (fun _ _ h=>h)
theorem ed.at{S:Nat->Prop}{w:World}{m Pg W Rm Us Hg:Nat}{mp:Nat->Bool}{M:Nat->Nat}(h:ed w m S Pg W Rm Us Hg mp M):1<=Pg/\Pg<=256/\W<=524288/\W% Pg=0/\Us<=Rm/\Rm<=4096/\Hg<=Rm/\Us=Qb mp 0 (W/Pg)/\1<=W:=by
 obtain ⟨p,y,x,v,ws,t,j,f,g,k,u,fr,n,l,a,o,b,q,r,d,e,s,c⟩:=h;refine ⟨a.Qv,a.Qq,b.2.1,b.1,?_,a.Xq,a.Qj,by rw [d];exact cI (fun i _ _=>(e i).symm),b.2.2⟩;have:=a.Qb;have:=a.Yc;omega
theorem jh{a W Pg:Nat}(h:a<W)(hp:1<=Pg)(c:W% Pg=0):a/Pg<W/Pg:=by
 have b:W=Pg*(W/Pg):=by have:=aM W Pg;omega
 exact (bp (by omega)).2 (by rw [aN,<-b];exact h)
section
variable{w:World}{m Pg W Rm Us Hg:Nat}{S:Nat->Prop}{mp:Nat->Bool}{M:Nat->Nat}
theorem ed.Qr(h:ed w m S Pg W Rm Us Hg mp M):∃p g i f e ws d b a,w.cell? m=some (.pointer (some ⟨p,0,none⟩))/\w.cell? ⟨m,1,none⟩=some (.pointer (some ⟨g,0,none⟩))/\w.cell? ⟨m,2,none⟩=some (W:Int)/\dN w p i f e ws d b Rm Pg Us Hg a:=by
 obtain ⟨p,i,f,e,ws,d,b,a,g,k,l,fr,n,c,j,_⟩:=h;exact ⟨p,g,i,f,e,ws,d,b,a,c.cell 0 rfl,c.cell 1 rfl,c.cell 2 rfl,j⟩
theorem fY(h:ed w m S Pg W Rm Us Hg mp M):Calls prog 135 #[m] w fun e w'=>e= .returned (.bool false)/\w=w':=by
 obtain ⟨p,g,j,i,f,ws,d,b,a,c,_⟩:=h.Qr;clear h
 go_enter func135,ntmps135
 go_wp2;go_ret;exact ⟨rfl,rfl⟩
theorem gS(h:ed w m S Pg W Rm Us Hg mp M):Calls prog 67 #[m] w fun e w'=>e= .returned (W:Int)/\w=w':=by
 have a:=ae (fY h);obtain ⟨p,g,k,j,i,ws,f,c,b,d,c1,c2,hp⟩:=h.Qr;clear h hp
 go_enter func67,ntmps67
 go_wp2_with fail
 refine a.out.mono ?_;rintro e w' ⟨rfl,rfl⟩;go_wp2;go_ret;exact ⟨rfl,rfl⟩
theorem jo(h:ed w m S Pg W Rm Us Hg mp M):Calls prog 148 #[m] w fun e w'=>e= .returned (Pg:Int)/\w=w':=by
 have a:=ae (fY h);obtain ⟨p,g,l,k,j,ws,i,d,c,f,c1,c2,hp⟩:=h.Qr;have b:=ae (oQ hp);clear h hp
 go_enter func148,ntmps148
 go_wp2_with fail
 refine a.out.mono ?_;rintro e w' ⟨rfl,rfl⟩;go_wp2_with fail
 refine b.out.mono ?_;rintro e w' ⟨rfl,rfl⟩;go_wp2;go_ret;exact ⟨rfl,rfl⟩
theorem zx(h:ed w m S Pg W Rm Us Hg mp M):Calls prog 78 #[m] w fun e w'=>e= .returned (Us:Int)/\w=w':=by
 have a:=ae (fY h);obtain ⟨p,g,l,k,j,ws,i,d,c,f,c1,c2,hp⟩:=h.Qr;have b:=ae (zT hp);clear h hp
 go_enter func78,ntmps78
 go_wp2_with fail
 refine a.out.mono ?_;rintro e w' ⟨rfl,rfl⟩;go_wp2_with fail
 refine b.out.mono ?_;rintro e w' ⟨rfl,rfl⟩;go_wp2;go_ret;exact ⟨rfl,rfl⟩
theorem zy(h:ed w m S Pg W Rm Us Hg mp M):Calls prog 183 #[m] w fun e w'=>e= .returned (Rm:Int)/\w=w':=by
 have a:=ae (fY h);obtain ⟨p,g,l,k,j,ws,i,d,c,f,c1,c2,hp⟩:=h.Qr;have b:=ae (zV hp);clear h hp
 go_enter func183,ntmps183
 go_wp2_with fail
 refine a.out.mono ?_;rintro e w' ⟨rfl,rfl⟩;go_wp2_with fail
 refine b.out.mono ?_;rintro e w' ⟨rfl,rfl⟩;go_wp2;go_ret;exact ⟨rfl,rfl⟩
def Fq(w:World)(f i:Nat)(e:Ending)(w':World):Prop:=e= .returned (.tuple #[(f:Int),(i:Int),(0:Int)])/\GM w w'
theorem uv{p g z n0:Nat}{I H G:Value}{ws:List Nat}{E:List Bool}{y:List Nat}{x n:Int}{F:List (Option Nat)}{fr:Nat->Nat}(h:ed w m S Pg W Rm Us Hg mp M)
  (c:aJ w m [p,g,(W:Int)] 219) (hp:dN w p I H G ws E y Rm Pg Us Hg x) (hg:cK w g z F (W/Pg) fr n) (a f:Nat) (C:a<W) (hf:fr (a/Pg)=f+1):
  Calls prog 263 #[m,(a:Int)] w (Fq w f (a% Pg)):=by
 have t:=ae (fY h);obtain ⟨p1,p2,R,q,_⟩:=h.at;have Q:=c.cell 0 rfl;have c1:w.drew.cell? ⟨m,1,none⟩=_:=c.drew.cell 1 rfl;have c2:=c.cell 2 rfl;have u:=ae (oQ hp);have i:=hg.frame (S:=fun _=>False) ((GQ _ w).drew) (fun _ _ h=>h);have s:=ae (fun w' (b:GM w.drew w')=>ln (i.frame b (fun _ _ h=>h)) (a/Pg) f (jh C p1 q) hf);have k:=ae (fun w' (b:GM w.drew w')=>(c.drew.frame b id).cell 1 rfl);have o:=ae ((GQ (fun _=>False) w).drew);have T:(a:Int).tdiv (Pg:Int)=((a/Pg:Nat):Int):=fU a Pg;have U:(a:Int).tmod (Pg:Int)=((a% Pg:Nat):Int):=rfl;have K:a/Pg<=a:=bK _ _;have J:a% Pg<Pg:=bO _ (by omega);generalize a/Pg=A at*;generalize a% Pg=B at*;have D:¬Pg=0:=by omega
 have L:(a:Int)<(W:Int):=by omega
 have N:(W:Int)<=524288:=by omega
 have O:(A:Int)<=524288:=by omega
 have P:(B:Int)<=256:=by omega
 clear h c hp hg i hf q
 go_enter func263,ntmps263
 go_wp2_with fail
 refine t.out.mono ?_;rintro e w' ⟨rfl,rfl⟩;go_wp2_with fail
 refine u.out.mono ?_;rintro e w' ⟨rfl,rfl⟩;go_wp2;refine bt (fun w'=>GM w.drew w') (GQ _ _) ?_;refine aV [m,m,.pointer (some ⟨m,1,none⟩),g,(a:Int),(Pg:Int)] ?_
 iterate 6 (refine aW rfl (fun r l=>by first|(go_simp;done)|(have d:=k.out _ l;go_simp)) ?_;simp only [aa])
 refine aU ?_;refine aA (A:Int) rfl (fun w b=>by go_simp;rw [IntKind.wrap_i64];omega) ?_;simp only [aa];refine bT (.tuple #[(f:Int),(0:Int)]) 251 #[g,(A:Int)] rfl (fun w=>by go_simp) (fun w b=>(s.out w b).mono fun e w' h=>⟨h.1,b.trans h.2 GN⟩) ?_;simp only [aa];refine aV [.tuple #[(f:Int),(0:Int)],(f:Int),(0:Int),(f:Int),(0:Int)] ?_
 iterate 5 (refine aW rfl (fun r l=>by go_simp) ?_;simp only [aa])
 refine aU ?_;refine wpQuiet_nil ?_;intro w1 j;have v:=ae (o.out.trans j GN);clear j c1;go_wp2;refine bt (fun w'=>w'=w1.drew) rfl ?_;refine aV [(f:Int),(a:Int),(Pg:Int),(B:Int),(0:Int),(f:Int),(B:Int),(0:Int)] ?_
 iterate 8 (refine aW rfl (fun r l=>by go_simp) ?_;simp only [aa])
 refine aU ?_;refine wpQuiet_nil ?_;rintro w2 rfl;go_wp2
 go_ret3
 exact ⟨rfl,v.out.drew⟩
theorem jt(h:ed w m S Pg W Rm Us Hg mp M)(a:Nat)(t:a<W)(hp:mp (a/Pg)=true):Calls prog 223 #[m,(a:Int)] w fun e w'=>e= .returned (.tuple #[.int .u64 ((M a:Nat):Int),(0:Int)])/\GM w w':=by
 obtain ⟨p,L,K,J,ws,H,E,D,g,G,I,fr,n,l,c,u,A,v,B,C,y,z,o⟩:=id h;rw [y] at hp;unfold eK at hp;obtain ⟨f,hf⟩:∃f,fr (a/Pg)=f+1:=⟨fr (a/Pg)-1,by rw [iG] at hp;omega⟩;have r:=ae (uv (n0:=0) h l c u a f t hf);rw [z a f t hf];have s:=ae (fun w1 (k:GM w w1)=>Cm (c.frame k (fun _ _ h=>h)) f (a% Pg) (v _ f hf) (bO _ c.Qv));have q:=ae (fun w1 (k:GM w w1)=>(l.frame k id).cell 0 rfl);generalize ws.getD (f*Pg+a% Pg) 0=x at*;generalize a% Pg=i at*;clear h l c u A v B C y z o hp hf
 go_enter func223,ntmps223
 go_wp2_with fail
 refine r.out.mono ?_;rintro e w1 ⟨rfl,b⟩;have F:=q.out w1 b;have j:=ae (s.out w1 b);have d:=ae b;clear b s q r;go_wp2_with fail
 refine j.out.mono ?_;rintro e w' ⟨rfl,rfl⟩;go_wp2;go_ret2;exact ⟨rfl,d.out⟩
def ej(M:Nat->Nat)(a x:Nat)(b:Nat):Nat:=if b=a then x else M b
theorem wg{p g v f a x:Nat}{j s r:Value}{ws:List Nat}{o:List Bool}{u:List Nat}{t n:Int}{H:List (Option Nat)}{fr:Nat->Nat}{w1 w2:World}
  (J:aJ w m [p,g,(W:Int)] 219) (l:dN w p j s r ws o u Rm Pg Us Hg t) (K:cK w g v H (W/Pg) fr n) (U:W% Pg=0/\W<=524288/\1<=W) (L:∀q f,fr q=f+1->o[f]? =some true) (N:∀q I,fr q=fr I->fr q≠0->q=I) (V:Us=Qb (eK fr) 0 (W/Pg)) (X:∀q,mp q=eK fr q)
  (Y:∀a f,a<W->fr (a/Pg)=f+1->M a=ws.getD (f*Pg+a% Pg) 0) (i:∀k,S k↔(k=m\/d8 p j s r k\/cv g v H k)) (ha:a<W) (hf:fr (a/Pg)=f+1)
  (G:GM w w1) (hp:dN w2 p j s r (ws.set (f*Pg+a% Pg) x) o u Rm Pg Us Hg t) (c:Fr (fun k=>j.ownBlock=some k) w1 w2):ed w2 m S Pg W Rm Us Hg mp (ej M a x)/\Fr S w w2:=by
 have F:=lm l J;refine ⟨⟨p,j,s,r,_,o,u,t,g,v,H,fr,n,(J.frame G id).frame c (fun e=>F (.inr (.inl e))),hp,(K.frame G (fun _ _ h=>h)).frame c (fun k B e=>gR l K (.inr (.inl e)) B),U,L,N,V,X,?_,i⟩,(G.mono (S':=S) GN).trans c (fun k B=> .inl ((i k).2 (.inr (.inl (.inr (.inl B))))))⟩;intro b f' Q y;unfold ej;have T:=l.Qv;have D:=bO a (show 0<Pg by omega);have R:=bO b (show 0<Pg by omega);have A:=(al.1 (L _ f hf)).1;have C:=pN A D l.len;rw [aQ,bF];by_cases e:b=a
 ·subst e;have:f=f':=by omega
  subst this;rw [aG rfl,aG rfl,aG C];rfl
 ·rw [aE e];have E:f*Pg+a% Pg≠f'*Pg+b% Pg:=fun h=>by
   have z:f=f':=by
    rcases dC f f' with d|d|d
    ·have:=iQ (Pg:=Pg) d;omega
    ·exact d
    ·have:=iQ (Pg:=Pg) d;omega
   subst z;have O:=N (a/Pg) (b/Pg) (by omega) (by omega);have P:=aM a Pg;have Z:=aM b Pg;rw [O] at P;omega
  rw [aE E,<-aQ];exact Y b f' Q y
theorem oL(h:ed w m S Pg W Rm Us Hg mp M)(a x:Nat)(C:a<W)(hp:mp (a/Pg)=true)(D:x<18446744073709551616):Calls prog 224 #[m,(a:Int),.int .u64 x] w fun e w'=>e= .returned (0:Int)/\ed w' m S Pg W Rm Us Hg mp (ej M a x)/\Fr S w w':=by
 obtain ⟨p,U,T,R,ws,P,L,K,g,O,Q,fr,n,r,q,s,E,t,F,G,u,H,o⟩:=id h;rw [u] at hp;unfold eK at hp;obtain ⟨f,hf⟩:∃f,fr (a/Pg)=f+1:=⟨fr (a/Pg)-1,by rw [iG] at hp;omega⟩;have z:=ae (uv (n0:=0) h r q s a f C hf);have A:=ae (fun w1 (l:GM w w1)=>zU (q.frame l (fun _ _ h=>h)) f (a% Pg) x (t _ f hf) (bO _ q.Qv) D);have v:=ae (fun w1 (l:GM w w1)=>(r.frame l id).cell 0 rfl);have y:=ae (fun w1 w2 l hp c=>wg (w1:=w1) (w2:=w2) (x:=x) r q s E t F G u H o C hf l hp c);generalize f*Pg+a% Pg=i at*;generalize a% Pg=j at*;clear h r q s E t F G u H o hp hf D
 go_enter func224,ntmps224
 go_wp2_with fail
 refine z.out.mono ?_;rintro e w1 ⟨rfl,b⟩;have N:=v.out w1 b;have k:=ae (A.out w1 b);have d:=ae (fun w2 hp c=>y.out w1 w2 b hp c);clear b A v z y;go_wp2_with fail
 refine k.out.mono ?_;rintro e w2 ⟨rfl,I,J⟩;have B:=ae (d.out w2 I J);clear I J d k;go_wp2;go_ret;exact ⟨rfl,B.out.1,B.out.2⟩
end
section
variable{w:World}{m Pg W Rm Us Hg:Nat}{S:Nat->Prop}{mp:Nat->Bool}{M:Nat->Nat}
def lP(w:World)(m:Nat)(S:Nat->Prop)(Pg W Rm used':Nat)(mp' mp:Nat->Bool)(M:Nat->Nat)(v:Value)(e:Ending)(w':World):Prop:=
 e= .returned v/\∃S' Hg' M',ed w' m S' Pg W Rm used' Hg' mp' M'/\(∀a,a<W->mp (a/Pg)=true->mp' (a/Pg)=true->M' a=M a)/\Fr S w w'/\∀k,S' k->S k\/w.heap.size<=k
theorem wh{p g o f q0 A:Nat}{X V U y v u:Value}{ws l:List Nat}{T D:List Bool}{bk B:List Nat}{Tm c n n':Int}{E r:List (Option Nat)}{fr:Nat->Nat}{w1 w2 w3:World}
  (O:aJ w m [p,g,(W:Int)] 219) (P:dN w p X V U ws T bk Rm Pg Us Hg Tm) (Q:cK w g o E (W/Pg) fr n) (q4:W% Pg=0/\W<=524288/\1<=W) (R:∀q f,fr q=f+1->T[f]? =some true) (q6:∀q z,fr q=fr z->fr q≠0->q=z) (q7:Us=Qb (eK fr) 0 (W/Pg)) (q8:∀q,mp q=eK fr q)
  (q9:∀a f,a<W->fr (a/Pg)=f+1->M a=ws.getD (f*Pg+a% Pg) 0) (j:∀k,S k↔(k=m\/d8 p X V U k\/cv g o E k)) (hq:q0<W/Pg) (Y:fr q0=0)
  (G:GM w w1) (i:rr w1 w2 p X V U ws T Rm Pg Us f y v u l D B A c) (hP:cK w3 g o r (W/Pg) (gm fr q0 (f+1)) n') (s:Fr (cv g o E) w2 w3) (hn:∀k,cv g o r k->cv g o E k\/w2.heap.size<=k):
  lP w m S Pg W Rm (Us+1) (fun q=>mp q||q==q0) mp M (.int .i64 0) (.returned (0:Int)) w3:=by
 have N:=lm P O;have J:=mg Q O;have ad:=G.size;have af:=i.fr.size;have I:cK w2 g o E (W/Pg) fr n:=(Q.frame G (fun _ _ h=>h)).frame i.fr (fun k d e=>gR P Q e d);have K:=(O.frame G id).frame i.fr N;have L:=i.pool.frame s (fun k d e=>gR i.pool I d e);have C:∀q f',fr q=f'+1->f'≠f:=fun q f' h e=>i.was (by rw [<-e];exact R q f' h)
 refine ⟨rfl,fun k=>k=m\/d8 p y v u k\/cv g o r k,A,fun a=>if a/Pg=q0 then l.getD (f*Pg+a% Pg) 0 else M a,⟨p,y,v,u,l,D,B,c,g,o,r,gm fr q0 (f+1),n',K.frame s J,L,hP,q4,?_,?_,?_,?_,?_,fun k=>dX⟩,?_,?_,?_⟩
 ·intro q f' h;unfold gm at h;by_cases e:q=q0
  ·rw [aG e] at h;have:f'=f:=by omega
   rw [this];exact i.now
  ·rw [aE e] at h;exact (i.Xt f' (R q f' h)).1
 ·intro q z h t;unfold gm at h t;by_cases e:q=q0<;>by_cases H:z=q0
  ·omega
  ·rw [aG e,aE H] at h;exact absurd rfl (C z f h.symm)
  ·rw [aE e,aG H] at h;exact absurd rfl (C q f h)
  ·rw [aE e,aE H] at h;rw [aE e] at t;exact q6 q z h t
 ·have:=mr (fr:=fr) (p:=q0) (x:=f+1) (a:=0) (b:=W/Pg) (aF _) hq;rw [aG Y,aE (by omega)] at this;omega
 ·intro q;show (mp q||q==q0)=_
  rw [q8];unfold eK gm;by_cases e:q=q0
  ·subst e;simp
  ·simp [e]
 ·intro a f' Z h;unfold gm at h;show (if a/Pg=q0 then l.getD (f*Pg+a% Pg) 0 else M a)=_
  by_cases e:a/Pg=q0
  ·rw [aG e] at h ⊢;have:f'=f:=by omega
   rw [this]
  ·rw [aE e] at h ⊢;rw [q9 a f' Z h];exact ((i.Xt f' (R _ f' h)).2 (a% Pg) (bO _ P.Qv)).symm
 ·intro a Z F _;show (if a/Pg=q0 then l.getD (f*Pg+a% Pg) 0 else M a)=M a
  rw [aE];intro e;rw [q8,e] at F;unfold eK at F;rw [Y] at F
  cases F
 ·exact ((G.mono (S':=S) GN).trans i.fr (fun k d=> .inl ((j k).2 (.inr (.inl d))))).trans s (fun k d=> .inl ((j k).2 (.inr (.inr d))))
 ·rintro k (d|d|d)
  ·exact .inl ((j k).2 (.inl d))
  ·rcases i.own k d with h|h
   ·exact .inl ((j k).2 (.inr (.inl h)))
   ·exact .inr (by omega)
  ·rcases hn k d with h|h
   ·exact .inl ((j k).2 (.inr (.inr h)))
   ·exact .inr (by omega)
theorem DE(h:ed w m S Pg W Rm Us Hg mp M)(q:Nat)(P:q<W/Pg)(H:mp q=false)(hr:Us<Rm):Calls prog 211 #[m,(q:Int)] w (lP w m S Pg W Rm (Us+1) (fun k=>mp k||k==q) mp M (.int .i64 0)):=by
 have HN:=ae (fY h);obtain ⟨p,vw,vt,vb,ws,tk,bk,Tm,g,R,X,fr,n,A,B,N,q4,q5,q6,q7,V,q9,L⟩:=id h;have O:fr q=0:=by
  rw [V] at H;unfold eK at H;rw [bne_eq_false_iff_eq] at H;exact H
 have J:=lm B A;have c1:=A.cell 1 rfl;have Y:=ae (uj N q P O);have Z:=ae (fun w1 (y:GM w w1)=>(ag ((A.frame y id).cell 0 rfl) (Cj (B.frame y (fun _ _ h=>h)) hr)));have u:∀w1 w2 f l j i o d c b a,GM w w1->rr w1 w2 p vw vt vb ws tk Rm Pg Us f l j i o d c b a->w2.cell? ⟨m,1,none⟩=some g/\Calls prog 253 #[g,(q:Int),(f:Int)] w2 (jk w2 g R X (W/Pg) fr q (f+1) (.int .i64 0)):=by
  intro w1 w2 f l j i o d c b a y z;have T:cK w2 g R X (W/Pg) fr n:=(N.frame y (fun _ _ h=>h)).frame z.fr (fun k hk e=>gR B N e hk);have U:=(A.frame y id).frame z.fr J;have ad:=(al.1 z.now).1;have:=z.pool.Yc;have:=B.Xq;exact ⟨U.cell 1 rfl,Do T q f P (by omega) O⟩
 have s:=ae u;have t:∀w1 w2 f l j i o d c b a e w3,GM w w1->rr w1 w2 p vw vt vb ws tk Rm Pg Us f l j i o d c b a->jk w2 g R X (W/Pg) fr q (f+1) (.int .i64 0) e w3->e= .returned (0:Int)/\lP w m S Pg W Rm (Us+1) (fun k=>mp k||k==q) mp M (.int .i64 0) (.returned (0:Int)) w3:=by
  rintro w1 w2 f l j i o d c b a e w3 y z ⟨rfl,af,n',r1,r2,r3⟩;exact ⟨rfl,wh A B N q4 q5 q6 q7 V q9 L P O y z r1 r2 r3⟩
 have r:=ae t;generalize lP w m S Pg W Rm (Us+1) (fun k=>mp k||k==q) mp M (.int .i64 0)=Q at*;clear h A B N q4 q5 q6 q7 V q9 L J u t H P O
 go_enter func211,ntmps211
 go_wp2_with fail
 refine HN.out.mono ?_;rintro e w' ⟨rfl,rfl⟩;go_wp2_with fail
 refine Y.out.mono ?_;rintro e w1 ⟨rfl,x⟩;obtain ⟨c0,G⟩:=Z.out w1 x;have F:=ae G;have D:=ae x;clear x G Z Y c1;go_wp2_with fail
 refine F.out.mono ?_;rintro e w2 ⟨f,l,j,i,o,d,c,b,a,rfl,v⟩;obtain ⟨c1,I⟩:=s.out w1 w2 f l j i o d c b a D.out v;have E:=ae I;have C:=ae (fun e w3=>r.out w1 w2 f l j i o d c b a e w3 D.out v);clear I v s r F c0;go_wp2_with fail
 refine E.out.mono ?_;intro e w3 hs;obtain ⟨rfl,K⟩:=C.out e w3 hs;have HQ:=ae K;clear hs K C E;go_wp2;exact HQ.out
theorem DF(h:ed w m S Pg W Rm Us Hg mp M)(q:Nat)(i:q<W/Pg)(b:mp q=true):Calls prog 211 #[m,(q:Int)] w fun e w'=>e= .returned (13:Int)/\GM w w':=by
 have r:=ae (fY h);obtain ⟨p,G,F,E,ws,C,A,z,g,B,D,fr,n,j,s,k,t,u,v,x,l,y,d⟩:=id h;rw [l] at b;unfold eK at b;obtain ⟨f,hf⟩:∃f,fr q=f+1:=⟨fr q-1,by rw [iG] at b;omega⟩;have c1:=j.cell 1 rfl;have o:=ae (ln k q f i hf);clear h j s k t u v x l y d b i hf
 go_enter func211,ntmps211
 go_wp2_with fail
 refine r.out.mono ?_;rintro e w' ⟨rfl,rfl⟩;go_wp2_with fail
 refine o.out.mono ?_;rintro e w1 ⟨rfl,a⟩;have c:=ae a;clear a;go_wp2;go_ret;exact ⟨rfl,c.out⟩
theorem td{p g r f q0:Nat}{u t A o:Value}{ws:List Nat}{y:List Bool}{C:List Nat}{B n n':Int}{z l:List (Option Nat)}{fr:Nat->Nat}{w2 w3:World}
  (I:aJ w m [p,g,(W:Int)] 219) (J:dN w p u t A ws y C Rm Pg Us Hg B) (N:cK w g r z (W/Pg) fr n) (Y:W% Pg=0/\W<=524288/\1<=W) (Z:∀q f,fr q=f+1->y[f]? =some true) (O:∀q v,fr q=fr v->fr q≠0->q=v) (q7:Us=Qb (eK fr) 0 (W/Pg)) (q8:∀q,mp q=eK fr q)
  (q9:∀a f,a<W->fr (a/Pg)=f+1->M a=ws.getD (f*Pg+a% Pg) 0) (d:∀k,S k↔(k=m\/d8 p u t A k\/cv g r z k)) (U:q0<W/Pg) (h0:fr q0=f+1)
  (L:cK w2 g r l (W/Pg) (gm fr q0 0) n') (j:Fr (cv g r z) w w2) (T:∀k,cv g r l k->cv g r z k\/w.heap.size<=k)
  (Q:dN w3 p u t o ws (y.set f false) (C++[f]) Rm Pg (Us-1) Hg B) (s:Fr (d8 p u t A) w2 w3) (V:∀g,o.ownBlock=some g->A.ownBlock=some g\/w2.heap.size<=g):
  lP w m S Pg W Rm (Us-1) (fun q=>mp q&& !(q==q0)) mp M (.int .i64 0) (.returned (0:Int)) w3:=by
 have H:=lm J I;have E:=mg N I;have X:=j.size;have G:=J.frame j (fun k c e=>gR J N c e);have F:=I.frame j E;have D:=L.frame s (fun k c e=>gR G L e c);refine ⟨rfl,fun k=>k=m\/d8 p u t o k\/cv g r l k,Hg,M,⟨p,u,t,o,ws,y.set f false,C++[f],B,g,r,l,gm fr q0 0,n',F.frame s H,Q,D,Y,?_,?_,?_,?_,?_,fun k=>dX⟩,fun _ _ _ _=>rfl,?_,?_⟩
 ·intro q f' h;unfold gm at h;by_cases e:q=q0
  ·rw [aG e] at h;cases h
  ·rw [aE e] at h;rw [bF,aE (fun P=>e (by subst P;exact O q q0 (by omega) (by omega)))];exact Z q f' h
 ·intro q v h i;unfold gm at h i;by_cases e:q=q0
  ·rw [aG e] at i;exact absurd rfl i
  ·rw [aE e] at h i;by_cases K:v=q0
   ·rw [aG K] at h;exact absurd h i
   ·rw [aE K] at h;exact O q v h i
 ·have:=mr (fr:=fr) (p:=q0) (x:=0) (a:=0) (b:=W/Pg) (aF _) U;rw [aE (by omega),aG rfl] at this;omega
 ·intro q;show (mp q&& !(q==q0))=_
  rw [q8];unfold eK gm;by_cases e:q=q0
  ·subst e;simp
  ·simp [e]
 ·intro a f' R h;unfold gm at h;by_cases e:a/Pg=q0
  ·rw [aG e] at h;cases h
  ·rw [aE e] at h;exact q9 a f' R h
 ·exact (j.mono (S':=S) (fun k c=> .inl ((d k).2 (.inr (.inr c))))).trans s (fun k c=> .inl ((d k).2 (.inr (.inl c))))
 ·rintro k (c|c|c)
  ·exact .inl ((d k).2 (.inl c))
  ·rcases c with c|c|c|c
   ·exact .inl ((d k).2 (.inr (.inl (.inl c))))
   ·exact .inl ((d k).2 (.inr (.inl (.inr (.inl c)))))
   ·exact .inl ((d k).2 (.inr (.inl (.inr (.inr (.inl c))))))
   ·rcases V k c with h|h
    ·exact .inl ((d k).2 (.inr (.inl (.inr (.inr (.inr h))))))
    ·exact .inr (by omega)
  ·rcases T k c with h|h
   ·exact .inl ((d k).2 (.inr (.inr h)))
   ·exact .inr h
theorem mh(h:ed w m S Pg W Rm Us Hg mp M)(q:Nat)(u:q<W/Pg)(t:mp q=true):Calls prog 149 #[m,(q:Int)] w (lP w m S Pg W Rm (Us-1) (fun k=>mp k&& !(k==q)) mp M (.int .i64 0)):=by
 have J:=ae (fY h);obtain ⟨p,vw,vt,vb,ws,tk,bk,Z,g,L,V,fr,n,o,v,s,F,y,G,H,z,I,r⟩:=id h;rw [z] at t;unfold eK at t;obtain ⟨f,hf⟩:∃f,fr q=f+1:=⟨fr q-1,by rw [iG] at t;omega⟩;have E:1<=Us:=by
  have:=mr (fr:=fr) (p:=q) (x:=0) (a:=0) (b:=W/Pg) (aF _) u;rw [aE (by omega),aG rfl] at this;omega
 have j:=mg s o;have c1:=o.cell 1 rfl;have B:=ae (Bm s q f u hf);have c:∀e w2,jk w g L V (W/Pg) fr q 0 (.tuple #[(f:Int),(0:Int)]) e w2->e= .returned (.tuple #[(f:Int),(0:Int)])/\w2.cell? m=some p/\Calls prog 214 #[p,(f:Int)] w2 (fun e w3=>e= .returned (0:Int)/\lP w m S Pg W Rm (Us-1) (fun k=>mp k&& !(k==q)) mp M (.int .i64 0) (.returned (0:Int)) w3):=by
  rintro e w2 ⟨rfl,X,n',O,A,P⟩;refine ⟨rfl,(o.frame A j).cell 0 rfl,(Cp (v.frame A (fun k N e=>gR v s N e)) f (y q f hf) E).mono ?_⟩;rintro e w3 ⟨rfl,Y,R,T,U⟩;exact ⟨rfl,td o v s F y G H z I r u hf O A P R T U⟩
 have C:=ae c;generalize lP w m S Pg W Rm (Us-1) (fun k=>mp k&& !(k==q)) mp M (.int .i64 0)=Q at*;clear h o v s F y G H z I r j c t u hf E
 go_enter func149,ntmps149
 go_wp2_with fail
 refine J.out.mono ?_;rintro e w' ⟨rfl,rfl⟩;go_wp2_with fail
 refine B.out.mono ?_;intro e w2 D;obtain ⟨rfl,c0,i⟩:=C.out e w2 D;have d:=ae i;clear D i C B c1;go_wp2_with fail
 refine d.out.mono ?_;rintro e w3 ⟨rfl,l⟩;have K:=ae l;clear l d;go_wp2;exact K.out
end
end Go.Proofs.YthahbijbpinneaaGreatDoor
