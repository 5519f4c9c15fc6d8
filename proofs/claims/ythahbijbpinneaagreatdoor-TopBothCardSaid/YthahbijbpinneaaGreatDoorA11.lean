import Derived.Test.YthahbijbpinneaaGreatDoorA10
set_option maxRecDepth 100000
set_option maxHeartbeats 8000000
set_option linter.all false
namespace Go.Proofs.YthahbijbpinneaaGreatDoor
open Go.RowKit Go.Proofs.Tryz
theorem wl(k:Nat)(i:k<=16777216)(X:Int)(b:X=(k:Int))(w:World):(Instr.makeSlice 207 (.int .i64 X) (.int .i64 X)).run prog w= .ok (.slice (some w.heap.size) k k) (w.alloc (.cells (xl (List.replicate k false)).toArray 4)):=by
 obtain ⟨g,d,f,a,c⟩:=info_parts sf;subst b;have h:=run_makeSlice (P:=prog) w 207 4 g (.bool false) underlying207 d f .i64 .i64 (k:Int) (k:Int) (by omega) (lW _) (by rw [a,dO];omega) (by rw [c];omega) (by omega);rw [a,dO,fK,show (Value.bool false).cells= #[.bool false] from rfl,nG] at h;rw [h];have e:(xl (List.replicate k false)).toArray=Array.replicate k (.bool false):=by unfold xl;rw [eU];simp
 rw [e]
section
variable{m b g Pg W Fs Us Hg:Nat}{S:Nat->Prop}{mp:Nat->Bool}{L:Nat->Nat}{w:World}
attribute [local go_sem] Oper.semAt_some
theorem AX(d:Nat){A:AG}{rs:List Nat}{φ:Nat->Nat}(hi:dY m Pg W Fs Us Hg mp L S w)(O:dt w b g (rs.map φ))(hT:et w)(a5:¬S cO)(aL:¬S b/\¬S g)(bj:g≠cO)(F Tp T P B Rm ah:Nat)(hc:nh Pg W F Tp T P B Rm ah)(hl:cP A rs φ L F Tp)(bP:1<=rs.length)(av:Tp-F<=P-T)(a6:∀q,mp q=(decide (F<=q*Pg)&&decide (q*Pg<Tp)))(bf:Fs=(P-T)/Pg+(ah+2)*(vW B Pg+3))(aq:Pg∣B\/B∣Pg):
  CallsIn Fence.wide d prog 129 #[m,b,gY F Tp T P B Rm ah] w (rv m b g Pg W Fs A rs T P B ah S w):=by
 refine callsIn_of_wp_marks func129 rfl trivial ?_ rfl;simp only [ntmps129,cU,bn,ch,Nat.reduceAdd,Nat.reduceSub,cH,cG,de,cQ,bZ,dd];have ad:=cw m Pg W Fs Us Hg mp;obtain ⟨bv,bS,bF,bM,ki,kf,ka,kk,b0⟩:=hi.choose_spec.1.at;have aY:=ad.lt _ _ _ hi;have cb:cO<w.heap.size:=cl (hT 0 0 rfl);have bU:=O.Qd.lt;have bV:=O.row.lt;obtain ⟨G,aQ⟩:=hl.conc;have hG:=gH.sound hl aQ;have af:∀k,F<=k->k<Tp->dD W Pg mp k:=fun k H C=>by
  refine ⟨by have:=hc.F3;omega,?_⟩;have fF:F=F/Pg*Pg:=by have:=aM F Pg;have:=hc.F4;rw [aN];omega
  have h3:=aX Pg (bi (c:=Pg) H);have h4:=bE k Pg;rw [a6,aB (show F<=k/Pg*Pg by omega),aB (show k/Pg*Pg<Tp by omega)];rfl
 have hO:=gH.obj hl aQ af (by have:=hc.F3;omega);have bk:=gH.low hl aQ;obtain ⟨W1,b1⟩:∃W1,(w.alloc (.cells #[m] 112)).alloc (.cells #[(F:Int),(Tp:Int),(T:Int),(P:Int),(B:Int),(Rm:Int),(ah:Int)] 143)=W1:=⟨_,rfl⟩;have aR:GM w W1:=by rw [<-b1];exact ((GQ _ w).alloc _).alloc _
 have cc:W1.heap.size=w.heap.size+2:=by rw [<-b1,World.size_alloc,World.size_alloc]
 have fN:aJ W1 w.heap.size [m] 112:=by rw [<-b1];exact (aJ.new w _ _).alloc _
 have bO:aJ W1 (w.heap.size+1) [(F:Int),(Tp:Int),(T:Int),(P:Int),(B:Int),(Rm:Int),(ah:Int)] 143:=by
  rw [<-b1];have:=aJ.new (w.alloc (.cells #[m] 112)) [(F:Int),(Tp:Int),(T:Int),(P:Int),(B:Int),(Rm:Int),(ah:Int)] 143;rwa [World.size_alloc] at this
 have bo:=O.frame aR id id;have bp:=aS hT aR id;have bs:=ad.Qa hi aR;have fh:=ae (qk bo);have eV:=ae (rQ bs.choose_spec.1 hc);have fm:=ae (fun w1 (hf:GM W1 w1)=>tW (d-1) (ad.Qa bs hf) (bo.frame hf id id) (aS bp hf id) a5 F Tp T P B Rm ah hc hG hO bk);unfold gY at eV fm ⊢;rw [bL] at fh;have hy:Hid ((prog.info? 143).map (·.size)=some 7):=by show _=_;kernel_rfl
 have lT:¬(rs.length:Int)=0:=by omega
 obtain ⟨k0,k1,k2,k3,k4,k5,k6,_⟩:=GU bO;have j0:=fN.cell 0 rfl;have HA:=ae (ag hi (ag O (ag hT (ag a5 (ag aL (ag bj (ag hc (ag hl (ag av (ag a6 (ag bf (ag ad (ag aY (ag aQ (ag hG (ag af (ag aR (ag hO (ag bk (ag aq bP))))))))))))))))))));have HB:=ae (ag bv (ag bS (ag bF (ag bM (ag b0 (ag cb (ag bU (ag bV (ag cc (ag bo (ag bp bs)))))))))));have eN:=ae (ag fN bO);have lM:F<=524288/\Tp<=524288/\T<=524288/\P<=524288/\T<=P:=by have:=hc.F2;have:=hc.F3;have:=hc.T2;have:=hc.T3;omega
 clear hi O hT a5 aL bj hc hl av a6 bf ad aY aQ hG af aR hO bk aq bP bv bS bF bM ki kf ka kk b0 cb bU bV cc bo bp bs fN bO;gi_wp2;clear b1;refine ep (fh.out.mono ?_);rintro e w' ⟨rfl,rfl⟩;clear fh;gi_wp2;refine ep (eV.out.mono ?_);rintro e w1 ⟨rfl,dx⟩;have ho:=ae (fm.out w1 dx);have a7:=ae (ag (eN.out.1.frame dx id) (eN.out.2.frame dx id));have j0:=a7.out.1.cell 0 rfl;have k0:=a7.out.2.cell 0 rfl;have k1:=a7.out.2.cell 1 rfl;have k2:=a7.out.2.cell 2 rfl;have k3:=a7.out.2.cell 3 rfl;have k4:=a7.out.2.cell 4 rfl;have k5:=a7.out.2.cell 5 rfl;have k6:=a7.out.2.cell 6 rfl;have ce:=ae dx;clear eV fm dx;gi_wp2;refine ⟨trivial,(fun h=>by cases h),ho.out.mono ?_⟩;rintro e w2 ⟨EL,E,S2,rfl,p1,p2,p3,p5,p6,p7,p8,p9⟩;obtain ⟨hi,O,hT,a5,aL,bj,hc,hl,av,a6,bf,ad,aY,aQ,hG,af,aR,hO,bk,aq,bP⟩:=HA.out;obtain ⟨bv,bS,bF,bM,b0,cb,bU,bV,cc,bo,bp,bs⟩:=HB.out;have cn:=ce.out.size;have cp:=p9.size;have cV:¬S w.heap.size/\¬S (w.heap.size+1):=⟨fun h=>by have:=aY _ h;omega,fun h=>by have:=aY _ h;omega⟩;have a9:=a7.out.1.frame p9 cV.1;have ax:=a7.out.2.frame p9 cV.2;have bB:=aS (aS bp ce.out id) p9 a5;have ca:=(bo.frame ce.out id id).frame p9 aL.1 aL.2;have g7:=ae (Dq p5 bB hc.B0 hc.B1 hc.B2 T (by omega));obtain ⟨_,_,k2,_,k4,_⟩:=GV ax;have bd:=gH.ext hl aQ p6 p7;have HP:=ae (ag p1 (ag p2 (ag p3 (ag p5 (ag p6 (ag p7 (ag p8 (ag p9 (ag cn (ag cp (ag a9 (ag ax (ag bB (ag ca bd))))))))))))));have k7:B<=1024/\1<=B:=by have:=hc.B1;have:=hc.B2;omega
 clear p1 p2 p3 p5 p6 p7 p8 p9 hi O hT a5 aL bj hc hl av a6 bf ad aY aQ hG af aR hO bk aq bP bv bS bF bM b0 cb bU bV cc bo bp bs cn cp cV a9 ax bB ca bd ho j0 k0 k1 k3 k5 k6;gi_wp2;refine ep (g7.out.mono ?_);rintro e w3 ⟨pl,rfl,q1,q2⟩;have ap:=HP.out.2.2.2.2.2.2.2.2.2.2.2.1.frame q2 id;have bc:=HP.out.2.2.2.2.2.2.2.2.2.2.1.frame q2 id;obtain ⟨N,hN⟩:∃N,N=Qb (aI E) 0 W:=⟨_,rfl⟩;have gM:=ae (jg (q1.Qa ((GQ _ w3).drew)));have fz:=ae (fun p (hp:gU w2.heap.size w3.heap.size w3.drew p W B E T)=>qT hp);rw [<-hN] at fz;obtain ⟨_,_,k2,k3,_⟩:=GR ap;have lN:N<=P-T:=by
  obtain ⟨p1,p2,p3,p5,p6,p7,p8,p9,cn,cp,a9,ax,bB,ca,bd⟩:=HP.out;obtain ⟨hi,O,hT,a5,aL,bj,hc,hl,av,a6,bf,ad,aY,aQ,hG,af,aR,hO,bk,aq,bP⟩:=HA.out;have h4:Qb (aI E) 0 W<=Tp-F:=by
   rw [bJ (aI E) (aF F) (aZ hc.F2 hc.F3),bJ (aI E) hc.F2 hc.F3,cu (a:=0) (b:=F) (fun i _ hi=>by
    rw [be];intro hl;obtain ⟨s,s1,s2⟩:=cX.1 hl;have h6:=p7 s (by omega);have:=bk s (by omega);omega),cu (a:=Tp) (b:=W) (fun i hi _=>by
    rw [be];intro hl;obtain ⟨s,s1,s2⟩:=cX.1 hl;have h6:=p7 s (by omega);have:=hG.top s (by omega);omega),br,bg]
   exact dR _ _ _
  omega
 have kv:IntKind.i64.wrap ((P:Int)-(T:Int))=(P:Int)-(T:Int):=by rw [IntKind.wrap_i64];omega
 have d1:decide ((P:Int)-(T:Int)<(N:Int))=false:=by rw [az];omega
 have HQ:=ae (ag q1 (ag q2 (ag bc (ag ap hN))));clear q1 q2 ap bc hN g7 k4;gi_wp2;refine wpIn_wide.2 ?_;refine cZ 9 (fun a b=>b=a) [.c pl,.p (fun v w'=>∃p,v= .pointer (some ⟨p,0,none⟩)/\gU w2.heap.size w3.heap.size w' p W B E T),.c (N:Int),.c (.pointer (some ⟨w.heap.size+1,3,none⟩)),.c (P:Int),.c (.pointer (some ⟨w.heap.size+1,2,none⟩)),.c (T:Int),.c (.int .i64 ((P:Int)-(T:Int))),.c (.bool false)] (fun j=>false) (fun _=>rfl) (fun _ _ _ H C=>C.trans H) (fun _ _ h=>by rw [h];exact ak _) ⟨fun v w1 w2 h O=>by subst O;exact h,trivial⟩ ?_;intro F hF;simp only [fp,PK.val,ai,an,aa] at hF;subst hF;refine ⟨by
  refine ⟨?_,?_,?_,?_,?_,?_,?_,?_,?_,trivial⟩<;>intro vs w1 R al hd hx
  all_goals try (apply oV;rotate_left;rfl;exact rfl;go_simp;done)
  all_goals try (apply oV;rotate_left;rfl;exact rfl;subst R;go_simp;done)
  ·subst R;refine bm 191 #[pl] (by go_simp) (gM.out.mono ?_);rintro e w4 ⟨⟨p,rfl,hq⟩,rfl⟩;exact ⟨_,rfl,⟨p,rfl,hq⟩,rfl,fun h=>nomatch h⟩
  ·have H:=hd 1 (by kernel_rfl);obtain ⟨p,C,hq⟩:=H;subst R;refine bm 192 #[p] (by go_simp) ((fz.out p hq).mono ?_);rintro e w4 ⟨rfl,rfl⟩;exact ⟨_,rfl,rfl,rfl,fun h=>nomatch h⟩
  ,fun vs w1 R hp hx=> ?_⟩
 obtain ⟨g1,_⟩:=hp;clear hx gM fz;obtain ⟨p1,g1,_⟩:=g1;subst R;simp only [aj,ao];go_wp2;obtain ⟨W4,d7⟩:∃W4,w3.drew=W4:=⟨_,rfl⟩;have aw:GM w3 W4:=by rw [<-d7];exact (GQ _ w3).drew
 have c0:W4.heap.size=w3.heap.size:=by rw [<-d7];rfl
 rw [d7];clear d7 k2 k3;obtain ⟨U,bQ⟩:∃U,U=ou N B:=⟨_,rfl⟩;have k9:U<=1048576:=by
  rw [bQ];unfold ou;exact aZ (bK _ _) (by omega)
 have dT:=ae (fun w' (hf:GM W4.drew w')=>ag (HQ.out.2.2.1.frame (aw.trans (((GQ (fun _=>False) W4).drew).trans hf GN) GN) id) (HQ.out.2.2.2.1.frame (aw.trans (((GQ (fun _=>False) W4).drew).trans hf GN) GN) id));have d0:=ae (fun w' (hf:GM W4.drew w')=>pw (HQ.out.1.Qa (aw.trans (((GQ (fun _=>False) W4).drew).trans hf GN) GN)));rw [<-HQ.out.2.2.2.2,<-bQ] at d0;have gP:=ae (fun w'=>wl U (by omega) (U:Int) rfl w');have lW:∀(t:TypeId) (w:World),(Instr.makeMap t none).run prog w= .ok (.map (some w.heap.size)) (w.alloc (.map #[] 0)):=fun _ _=>rfl
 have fa:=ae (ag aw (ag c0 bQ));clear aw c0 bQ kv d1;gi_wp2;refine wpIn_wide.2 ?_;refine cZ 14 (fun a b=>GM a b) [.c m,.c (.agg #[(F:Int),(Tp:Int),(T:Int),(P:Int),(B:Int),(Rm:Int),(ah:Int)]),.c pl,.c EL.m,.c pl,.c (U:Int),.p (fun v w'=>∃mv,v= .slice (some ⟨mv,0,none⟩) U U/\aJ w' mv (xl (List.replicate U false)) 4/\W4.heap.size<=mv),.c pl,.c (U:Int),.p (fun v w'=>∃wb,v= .map (some wb)/\gK w' wb 0 (fun _=>none)/\W4.heap.size<=wb),.p (fun v w'=>∃sb,v= .map (some sb)/\iu w' sb 0 (fun _=>none)/\W4.heap.size<=sb),.p (fun v w'=>∃mv wb sb,v= .agg #[m,(F:Int),(Tp:Int),(T:Int),(P:Int),(B:Int),(Rm:Int),(ah:Int),pl,EL.m,.slice (some ⟨mv,0,none⟩) U U,(U:Int),(0:Int),(0:Int),.map (some wb),.map (some sb)]/\aJ w' mv (xl (List.replicate U false)) 4/\gK w' wb 0 (fun _=>none)/\iu w' sb 0 (fun _=>none)/\mv≠wb/\mv≠sb/\wb≠sb/\W4.heap.size<=mv/\W4.heap.size<=wb/\W4.heap.size<=sb),.p (fun v w'=>∃y mv wb sb,v= .pointer (some ⟨y,0,none⟩)/\aJ w' y [m,(F:Int),(Tp:Int),(T:Int),(P:Int),(B:Int),(Rm:Int),(ah:Int),pl,EL.m,.slice (some ⟨mv,0,none⟩) U U,(U:Int),(0:Int),(0:Int),.map (some wb),.map (some sb)] 210/\(aJ w' mv (xl (List.replicate U false)) 4/\gK w' wb 0 (fun _=>none)/\iu w' sb 0 (fun _=>none)/\mv≠wb/\mv≠sb/\wb≠sb/\W4.heap.size<=mv/\W4.heap.size<=wb/\W4.heap.size<=sb)/\W4.heap.size<=y/\y≠mv/\y≠wb/\y≠sb),.p (fun v w'=>∃Xd,v= .pointer (some ⟨Xd,0,none⟩)/\aJ w' Xd [.pointer none] 115/\W4.heap.size<=Xd)] (fun j=>([6,9,10,12,13]).contains j) (fun _=>GQ _ _) (fun _ _ _ H C=>H.trans C GN) (fun _ _ h=>h.size) ⟨fun v w1 w2 h O=>let ⟨mv,e,hb,hn⟩:=h;⟨mv,e,hb.frame O id,hn⟩,fun v w1 w2 h O=>let ⟨mv,e,hb,hn⟩:=h;⟨mv,e,hb.frame O id,hn⟩,fun v w1 w2 h O=>let ⟨mv,e,hb,hn⟩:=h;⟨mv,e,hb.frame O id,hn⟩,fun v w1 w2 h O=>let ⟨mv,wb,sb,e,f1,f2,f3,f4⟩:=h;⟨mv,wb,sb,e,f1.frame O id,f2.frame O id,f3.frame O id,f4⟩,fun v w1 w2 h O=>let ⟨y,mv,wb,sb,e,f0,⟨f1,f2,f3,f4⟩,f5⟩:=h;⟨y,mv,wb,sb,e,f0.frame O id,⟨f1.frame O id,f2.frame O id,f3.frame O id,f4⟩,f5⟩,fun v w1 w2 h O=>let ⟨mv,e,hb,hn⟩:=h;⟨mv,e,hb.frame O id,hn⟩,trivial⟩ ?_;intro F hF;simp only [fp,PK.val,ai,an,aa] at hF;subst hF;refine ⟨by
  refine ⟨?_,?_,?_,?_,?_,?_,?_,?_,?_,?_,?_,?_,?_,?_,trivial⟩<;>intro vs w1 R al hd hx
  all_goals try (apply oV;rotate_left;rfl;exact GQ _ _;go_simp;done)
  all_goals try (apply oV;rotate_left;rfl;exact GQ _ _;obtain ⟨k1,k2⟩:=dT.out w1 R;have k3:=k1.cell 0 rfl;go_simp;done)
  ·obtain ⟨k1,k2⟩:=dT.out w1 R;refine ba (.agg #[(F:Int),(Tp:Int),(T:Int),(P:Int),(B:Int),(Rm:Int),(ah:Int)]) ?_ ⟨rfl,GQ _ _,fun h=>nomatch h⟩;exact jf rfl (w.heap.size+1) rfl 143 _ (0,0) _ k2 underlying143 rfl hy.out
  ·refine bm 193 #[pl] (by go_simp) ((d0.out w1 R).mono ?_);rintro e w4 ⟨rfl,aw⟩;exact ⟨_,rfl,rfl,aw,fun h=>nomatch h⟩
  ·refine ba (.slice (some w1.heap.size) U U) (w':=w1.alloc (.cells (xl (List.replicate U false)).toArray 4)) ?_ ⟨⟨_,rfl,aJ.new w1 _ _,R.size⟩,(GQ _ w1).alloc _,fun _=>⟨_,rfl,ak _,by rw [World.size_alloc];exact bI _⟩⟩;have l0:=gP.out w1;go_simp
  ·refine bm 193 #[pl] (by go_simp) ((d0.out w1 R).mono ?_);rintro e w4 ⟨rfl,aw⟩;exact ⟨_,rfl,rfl,aw,fun h=>nomatch h⟩
  ·refine ba (.map (some w1.heap.size)) (w':=w1.alloc (.map #[] 0)) ?_ ⟨⟨_,rfl,sh w1,R.size⟩,(GQ _ w1).alloc _,fun _=>⟨_,rfl,ak _,by rw [World.size_alloc];exact bI _⟩⟩;go_simp
  ·refine ba (.map (some w1.heap.size)) (w':=w1.alloc (.map #[] 0)) ?_ ⟨⟨_,rfl,zR w1,R.size⟩,(GQ _ w1).alloc _,fun _=>⟨_,rfl,ak _,by rw [World.size_alloc];exact bI _⟩⟩;go_simp
  ·have h6:=hd 6 (by kernel_rfl);have h9:=hd 9 (by kernel_rfl);have jz:=hd 10 (by kernel_rfl);obtain ⟨mv,e6,b6,n6⟩:=h6;obtain ⟨wb,e9,b9,n9⟩:=h9;obtain ⟨sb,hH,ja,kS⟩:=jz;have x1:=hx 6 9 rfl rfl (by kernel_rfl) (by kernel_rfl) (by omega);have x2:=hx 6 10 rfl rfl (by kernel_rfl) (by kernel_rfl) (by omega);have x3:=hx 9 10 rfl rfl (by kernel_rfl) (by kernel_rfl) (by omega);rw [e6,e9] at x1;rw [e6,hH] at x2;rw [e9,hH] at x3;refine ba (.agg #[m,(F:Int),(Tp:Int),(T:Int),(P:Int),(B:Int),(Rm:Int),(ah:Int),pl,EL.m,.slice (some mv) U U,(U:Int),(0:Int),(0:Int),.map (some wb),.map (some sb)]) ?_ ⟨⟨mv,wb,sb,rfl,b6,b9,ja,fun e=>x1 (congrArg some e),fun e=>x2 (congrArg some e),fun e=>x3 (congrArg some e),n6,n9,kS⟩,GQ _ _,fun h=>nomatch h⟩;go_simp
  ·have jA:=hd 11 (by kernel_rfl);obtain ⟨mv,wb,sb,lA,f1,f2,f3,f4,f5,f6,f7,f8,f9⟩:=jA;have l1:=f1.lt;have l2:=f2.lt;have l3:=f3.lt;have ei:GM w1 (w1.alloc (.cells #[m,(F:Int),(Tp:Int),(T:Int),(P:Int),(B:Int),(Rm:Int),(ah:Int),pl,EL.m,.slice (some mv) U U,(U:Int),(0:Int),(0:Int),.map (some wb),.map (some sb)] 210)):=(GQ _ w1).alloc _;refine ba (.pointer (some ⟨w1.heap.size,0,none⟩)) (w':=w1.alloc (.cells #[m,(F:Int),(Tp:Int),(T:Int),(P:Int),(B:Int),(Rm:Int),(ah:Int),pl,EL.m,.slice (some mv) U U,(U:Int),(0:Int),(0:Int),.map (some wb),.map (some sb)] 210)) ?_ ⟨⟨_,mv,wb,sb,rfl,aJ.new w1 _ _,⟨f1.frame ei id,f2.frame ei id,f3.frame ei id,f4,f5,f6,f7,f8,f9⟩,R.size,by omega,by omega,by omega⟩,ei,fun _=>⟨_,rfl,ak _,by rw [World.size_alloc];exact bI _⟩⟩;go_simp
  ·refine ba (.pointer (some ⟨w1.heap.size,0,none⟩)) (w':=w1.alloc (.cells #[.pointer none] 115)) ?_ ⟨⟨_,rfl,aJ.new w1 _ _,R.size⟩,(GQ _ w1).alloc _,fun _=>⟨_,rfl,ak _,by rw [World.size_alloc];exact bI _⟩⟩;go_simp
  ,fun vs w1 R hp hx=> ?_⟩
 obtain ⟨g6,g9,d5,jc,di,jj,_⟩:=hp;obtain ⟨y,mv,wb,sb,fB,z1,⟨z2,z3,z4,z5,z6,z7,z8,z9,c2⟩,c4,ct,cx,cy⟩:=di;obtain ⟨Xd,fD,aK,c6⟩:=jj;have x1:=hx 12 13 rfl rfl (by omega) (by omega) (by omega);rw [fB,fD] at x1;simp only [fB,fD];clear g6 g9 d5 jc hx fB fD;simp only [aj,ao];have hC:=aK.cell 0 rfl;have hE:=aK.free 0;have eM:=ae (ag z1 (ag z2 (ag z3 (ag z4 (ag z5 (ag z6 (ag z7 (ag z8 (ag z9 (ag c2 (ag c4 (ag ct (ag cx (ag cy (ag aK (ag c6 (ag x1 (ag R (dT.out w1 R)))))))))))))))))));have gB:=ae (jv EL.m);clear z1 z2 z3 z4 z5 z6 z7 z8 z9 c2 c4 ct cx cy aK c6 x1 R dT d0 gP hy;go_wp2;obtain ⟨W5,cA⟩:∃W5,w1.setCell Xd (.pointer (some ⟨y,0,none⟩))=W5:=⟨_,rfl⟩;rw [cA];clear hC hE;obtain ⟨p1,p2,p3,p5,p6,p7,p8,p9,cn,cp,a9,ax,bB,ca,bd⟩:=HP.out;obtain ⟨q1,q2,bc,ap,hN⟩:=HQ.out;obtain ⟨aw,c0,bQ⟩:=fa.out;obtain ⟨z1,z2,z3,z4,z5,z6,z7,z8,z9,c2,c4,ct,cx,cy,aK,c6,x1,al,gt,gz⟩:=eM.out;obtain ⟨hi,O,hT,a5,aL,bj,hc,hl,av,a6,bf,ad,aY,aQ,hG,af,aR,hO,bk,aq,bP⟩:=HA.out;obtain ⟨bv,bS,bF,bM,b0,cb,bU,bV,cc,bo,bp,bs⟩:=HB.out;have gG:=ae (gB.out W5);clear gB;gi_wp2;refine ep (gG.out.mono ?_);rintro e W7 ⟨rfl,d9⟩;clear gG;have dz:GM W5 W7:=by rw [d9];exact (GQ _ W5).alloc _
 have iI:aJ W7 W5.heap.size [EL.m] 132:=by rw [d9];exact aJ.new W5 _ _
 have em:W7.heap.size=W5.heap.size+1:=by rw [d9];exact bC _
 clear d9;have ds:Fr (fun k=>k=Xd) w1 W5:=by rw [<-cA];exact (GQ (fun k=>k=Xd) w1).setCell Xd (.inl rfl) _
 have kD:=ds.size;have fP:=aK.lt;have cL:=al.size;have iN:W4.heap.size<=w1.heap.size:=cL;have au:Fr (fun k=>k=Xd) w1 W7:=ds.trans dz GN;have aC:GM w3 W7:=((aw.trans ((GQ (fun _=>False) W4).drew) GN).trans al GN).trans au (fun k J=> .inr (by omega));have ay:GM w2 W7:=q2.trans aC GN;have dS:=q2.size;have iJ:y≠Xd:=fun e=>x1 (by rw [e])
 have eE:wb≠Xd:=fun e=>by
  obtain ⟨D,⟨es,fA,hb,_⟩,_⟩:=z3;rw [e] at hb;have ci:w1.heap[Xd]? =some (.cells #[.pointer none] 115 (0,0)):=aK;rw [hb] at ci
  cases ci
 have eD:sb≠Xd:=fun e=>by
  obtain ⟨D,⟨es,fA,hb,_⟩,_⟩:=z4;rw [e] at hb;have ci:w1.heap[Xd]? =some (.cells #[.pointer none] 115 (0,0)):=aK;rw [hb] at ci
  cases ci
 have ey:mv≠Xd:=fun e=>by
  have hb:w1.heap[mv]? =some (.cells (xl (List.replicate U false)).toArray 4 (0,0)):=z2;have ci:w1.heap[Xd]? =some (.cells #[.pointer none] 115 (0,0)):=aK;rw [e,ci] at hb;simp at hb
 obtain ⟨c,b4⟩:∃c:Cy,c=⟨y,m,F,Tp,T,P,B,Rm,ah,pl,EL,mv,U,wb,sb,w2.heap.size,w3.heap.size⟩:=⟨_,rfl⟩;obtain ⟨x,cm⟩:∃x:Fz,x=⟨w.heap.size,w.heap.size+1,Xd,W5.heap.size,b,g⟩:=⟨_,rfl⟩;obtain ⟨hp,hf,hg,cW⟩:=hl.heads;have Y:=(cw m Pg W Fs Us Hg mp).lt _ _ _ p1;have hQ:∀k,S2 k->S k\/w1.heap.size<=k\/(W1.heap.size<=k/\k<w2.heap.size):=fun k J=>(p2 k J).imp id (fun h=> .inr ⟨by omega,Y k J⟩)
 have dm:=p5.lt;have iH:=p5.small.2;have hJ:Ev c x W E (rs.map φ) W7:=by
  rw [b4,cm];refine ⟨⟨p5.frame ay (fun _ _ h=>h),aS bB ay id,iI⟩,bc.frame aC id,ap.frame aC id,?_,?_,z2.frame au ey,q1.Qa aC,ca.frame ay id id⟩
  ·have:=aK.set 0 (.pointer (some ⟨y,0,none⟩));rw [cA] at this;exact aJ.frame this dz id
  ·exact aJ.frame z1 au iJ
 have d6:∀k,yB c x k->k<W7.heap.size/\¬S2 k/\k≠wb/\k≠sb:=by
  rw [b4,cm];have dI:∀k,k<w.heap.size+2->¬S k->¬S2 k:=fun k H C h3=>by
   rcases p2 k h3 with h4|h4
   ·exact C h4
   ·omega
  have cV:¬S w.heap.size/\¬S (w.heap.size+1):=⟨fun h=>by have:=aY _ h;omega,fun h=>by have:=aY _ h;omega⟩;have lV:=z2.lt;have mn:=z1.lt;rintro k (h|h|h|h|h|h|h|h|h|h|h)
  ·have:=dm k h;exact ⟨by omega,fun C=>p3 k C h,by omega,by omega⟩
  all_goals (try dsimp only at h)
  ·have h3:=z3.lt;have h4:=z4.lt;exact ⟨by omega,fun C=>by have:=Y k C;omega,by omega,by omega⟩
  ·exact ⟨by omega,by rw [h];exact dI _ (by omega) cV.1,by omega,by omega⟩
  ·exact ⟨by omega,by rw [h];exact dI _ (by omega) cV.2,by omega,by omega⟩
  ·exact ⟨by omega,fun C=>by have:=Y k C;omega,by omega,by omega⟩
  ·exact ⟨by omega,fun C=>by have:=Y k C;omega,by omega,by omega⟩
  ·exact ⟨by omega,fun C=>by have:=Y k C;omega,by omega,by omega⟩
  ·exact ⟨by omega,fun C=>by have:=Y k C;omega,by omega,by omega⟩
  ·exact ⟨by omega,by rw [h];exact dI _ (by omega) aL.1,by omega,by omega⟩
  ·exact ⟨by omega,by rw [h];exact dI _ (by omega) aL.2,by omega,by omega⟩
  ·exact ⟨by omega,by rw [h];exact dI _ (by omega) a5,by omega,by omega⟩
 have hL:sK m Pg W Fs Us Hg mp L E hp hf hg c (BD E W 0) [] (fun k=>S2 k\/k=wb\/k=sb) W7:=by
  have H:sK m Pg W Fs Us Hg mp L E hp hf hg c 0 [] (fun k=>S2 k\/k=wb\/k=sb) W7:=by
   rw [b4];exact ⟨S2,fun _=>none,0,0,fun _=>none,fun k=>dX,fun h=>by have C:wb<w2.heap.size:=Y _ h;omega,fun h=>by have C:sb<w2.heap.size:=Y _ h;omega,z7,(cw m Pg W Fs Us Hg mp).Qa p1 ay,z3.frame au eE,fun q=>Bo.symm,aF _,z4.frame au eD,aF _,fun x hx=>absurd hx bq⟩
  exact H.skip (aF _) (xQ p5.apart p5.top (fun j x h=>absurd h (fb j)))
 have fG:Fi m Pg W Fs Us Hg mp L E hp hf hg c x (rs.map φ) [] (fun k=>S2 k\/k=wb\/k=sb) W7:=⟨fun k J hb=>by
  obtain ⟨_,C,h3,h4⟩:=d6 k hb;rcases J with h|h|h
  ·exact C h
  ·exact h3 h
  ·exact h4 h,hJ,hL⟩
 have ck:gE W7.heap.size (Fi m Pg W Fs Us Hg mp L E hp hf hg c x (rs.map φ)):=Fi.stays (fun k J=>(d6 k J).1);have fL:∀k,(S2 k\/k=wb\/k=sb)->k<W7.heap.size:=fun k J=>by
  have h3:=z3.lt;have h4:=z4.lt;rcases J with h|h|h
  ·have:=Y k h;omega
  ·omega
  ·omega
 have dl:∀a,E a≠0->∃z,Reach A.gr rs z/\φ z=a/\E a=A.sz z:=fun a ha=>by
  obtain ⟨z,H,C⟩:=bd.some a ha;exact ⟨z,H,C,by rw [<-C];exact bd.size z H⟩
 have g5:=ae (fun (s n:Nat) (I:List (Nat×Nat)) (hx:(cS E W)[I.length]? =some (s,n))=>(show jb L s (hp s) (hf s) (hg s)/\1<=s/\dD W Pg mp s/\s+n<=524288/\n=E s/\(∀i,i<n->aI E (s+i)=true)/\BD E W I.length=s/\(∀i,s+n<=i->i<BD E W (I.length+1)->aI E i=false)/\s+n<=BD E W (I.length+1) from by
  obtain ⟨m1,m2,m3⟩:=dW.1 (aD hx);dsimp only at m1 m2 m3;obtain ⟨z,H,C,h3⟩:=dl s m2;have h4:=hl.Qn z H;have h5:=cW z H;have mk:1<=A.sz z:=by unfold AG.sz;omega
  rw [C] at h4 h5;have fM:=p5.apart;refine ⟨by rw [h5.1,h5.2.1,h5.2.2,<-C];exact hl.head z H,by have:=hl.one;omega,af s h4.1 (by omega),by omega,m3,fun i hi=>nI (by omega),BC hx,xQ fM p5.top (fun j x hj kx=>Bz fM hx j x hj kx),?_⟩;unfold BD
  cases hn:(cS E W)[I.length+1]? with
  |none=>
   have:=p5.top s m2;dsimp only;omega
  |some y=>
   have h6:=s8 hn hx (bI _);obtain ⟨_,y2,_⟩:=dW.1 (aD hn);have:=fM s y.1 h6 m2 y2;dsimp only;omega))
 have eu:=ae (fun (s n:Nat) (I:List (Nat×Nat)) (bl:I=(cS E W).take I.length) (hx:(cS E W)[I.length]? =some (s,n))=>(show∀x∈I,x.1<s from fun x hm=>by rw [bl] at hm;exact kt hx hm));have cN:Hid (c.EL=EL/\x.tb=W5.heap.size/\c.m=m/\c.wb=wb/\c.sb=sb/\c.y=y/\x.c3=w.heap.size/\x.Xd=Xd/\x.c5=w.heap.size+1):=ae (by rw [b4,cm];exact ⟨rfl,rfl,rfl,rfl,rfl,rfl,rfl,rfl,rfl⟩);have bX:=ae (fun S1 w1 (hm:dY m Pg W Fs Us Hg mp L S1 w1)=>jo hm.choose_spec.1);have ht:=ae (fun S1 w1 s (hm:dY m Pg W Fs Us Hg mp L S1 w1) (H:jb L s (hp s) (hf s) (hg s)) (C:1<=s) (h3:dD W Pg mp s)=>mi hm s (hp s) (hf s) (hg s) C h3 H);have cz:=ae d6;have en:=ae (ag ay (ag aC (ag au (ag b4 (ag cm (ag cW (ag dl (ag Y em))))))));clear dl bv ay aC au b4 cm cW Y hQ dm p1 p2 p3 p5 p6 p7 p8 p9 cn cp a9 ax bB ca bd q1 q2 bc ap hN aw c0 bQ z1 z2 z3 z4 z5 z6 z7 z8 z9 c2 c4 ct cx cy aK c6 x1 al gt gz hi O hT a5 aL bj hc hl av a6 bf ad aY aQ hG af aR hO bk aq bP bS bF bM b0 cb bU bV cc bo bp bs dz iI em ds kD fP cL iN dS iJ eE eD ey hJ d6 hL cA;gi_wp2;refine iO (gf:=220) (lb:= #[W5.heap.size]) rfl (enters_of func220 (by kernel_rfl) rfl) (encs:=mC) (fun _=>rfl) (jw (L:=EL) (tb:=W5.heap.size) (E:=E) iH) (fun I S w=>I=(cS E W).take I.length/\Fi m Pg W Fs Us Hg mp L E hp hf hg c x (rs.map φ) I S w) (fun k=>S2 k\/k=wb\/k=sb) ?stay ?reads fL ⟨rfl,fG⟩
  ?a1 ?assign ?body ?done
 case stay=>exact fun I S W1 W2 T h hf hT=>⟨h.1,ck I S W1 W2 T h.2 hf hT⟩
 case reads=>
  intro I S W h;have:=h.2.2.1.all;rw [cN.out.1,cN.out.2.1] at this;exact this
 case assign=>
  intro k x W K hK;unfold mC;gi_wp2;exact hK
 case body=>
  intro l I S9 xx W9 hI cE dB hs;obtain ⟨s,n⟩:=xx;obtain ⟨o1,o2,o3,o4,o5,o6,o7,o8,o9⟩:=g5.out s n I cE;clear o5;have bl:=eu.out s n I hI.1 cE;have ga:=cE;have eH:=dB.size;obtain ⟨gs,i1,i2,i3⟩:=hI;have a8:=i3.lt;rw [o7] at i3;obtain ⟨Z,fw,nn,ns,f,m1,m2,m3,m4,m5,m6,m7,m8,m9,cq,cd⟩:=i3;obtain ⟨e0,dh,e1,e2,e3,e4,e5,e6,e7⟩:=cN.out;rw [e2] at m2 m6;rw [e3] at m3 m9;have bx:=m9.lt;have cM:=m6.lt;have iq:=(cw m Pg W Fs Us Hg mp).lt _ _ _ m5;have dr:∀k,(Z k\/k=sb)->¬yB c x k:=fun k J=>i1 k ((m1 k).2 (by rw [e2,e3];exact J.elim .inl (fun h=> .inr (.inr h))))
  have cT:∀w',Fr (fun k=>Z k\/k=sb) W9 w'->Ev c x W E (rs.map φ) w':=fun w' hf=>i2.frame hf dr
  have HW:=ae (fun w' (hf:Fr (fun k=>Z k\/k=sb\/W9.heap.size<=k) W9.drew w')=>(show w'.cell? Xd=some y/\w'.cell? ⟨y,15,none⟩=some (.map (some sb))/\w'.cell? w.heap.size=some m from by
   have h:=cT w' ((((GQ (fun k=>Z k\/k=sb\/W9.heap.size<=k) W9).drew).trans hf (fun _ h=> .inl h)).mono (fun k h=>h.elim (fun h=> .inl (.inl h)) (fun h=>h.elim (fun h=> .inl (.inr h)) .inr)));have H:=h.b13.cell 0 rfl;have C:w'.cell? ⟨c.y,15,none⟩=some (.map (some c.sb)):=aJ.cell h.y 15 rfl;have h3:=h.b3.cell 0 rfl;rw [e6,e4] at H;rw [e4,e3] at C;rw [e5,e1] at h3;exact ⟨H,C,h3⟩))
  have dL:¬(Z sb\/W9.heap.size<=sb):=fun h=>h.elim m3 (fun h=>by omega)
  have fj:=ae ((cw m Pg W Fs Us Hg mp).Qa m5 ((GQ (fun _=>False) W9).drew));have g8:=ae (fun w1 (R:Fr (fun k=>Z k\/W9.heap.size<=k) W9.drew w1/\∀S1,(∀k,S1 k->Z k\/W9.heap.size<=k)->dY m Pg W Fs Us Hg mp L S1 W9.drew->∃S2,(∀k,S2 k->Z k\/W9.heap.size<=k)/\dY m Pg W Fs Us Hg mp L S2 w1)=>(show∃w',(Instr.mapUpdate 208 (.map (some sb)) (.int .i64 s) (gD ((hp s:Nat):Int) ((hf s:Nat):Int) ((hg s:Nat):Int))).run prog w1= .ok () w'/\iu w' sb (ns+1) (iV f s (hp s,hf s,hg s))/\(∃S1,(∀k,S1 k->Z k\/W9.heap.size<=k)/\dY m Pg W Fs Us Hg mp L S1 w')/\Fr (fun k=>Z k\/k=sb\/W9.heap.size<=k) w1 w' from by
   have H:=(m9.frame ((GQ (fun _=>False) W9).drew) id).frame R.1 dL;have l6:I.length<=524288:=by
    rw [gs,cg];have:=qx E W;have:=HB.out.2.2.1;omega
   obtain ⟨w',r1,r2,r3⟩:=H.put s (hp s) (hf s) (hg s) (by omega) (by omega);obtain ⟨S2,a1,a2⟩:=R.2 Z (fun _ h=> .inl h) fj.out;refine ⟨w',r1,r2,⟨S2,a1,(da m Pg W Fs Us Hg mp) _ _ _ _ _ a2 r3 (fun k J e=> ?_)⟩,r3.mono (fun k h=> .inl (.inr (.inl h)))⟩;subst e;rcases a1 _ J with h|h
   ·exact m3 h
   ·omega))
  have gO:=ae (ag i1 (ag i2 (ag m1 (ag m2 (ag m3 (ag m4 (ag m6 (ag m7 (ag m8 (ag cq (ag cd (ag bl (ag bx (ag cM (ag a8 (ag dr cT))))))))))))))));clear dB hs cE a8 i1 i2 m1 m2 m4 m5 m6 m7 m8 m9 cq cd e0 dh e1 e2 e3 e4 e5 e6 e7 bx cM iq dr cT ck fG fL bl;gi_wp2;refine lk 13 12 (fun a b=>Fr (fun k=>Z k\/k=sb\/W9.heap.size<=k) a b) (fun a b=>Fr (fun k=>Z k\/W9.heap.size<=k) a b/\∀S1,(∀k,S1 k->Z k\/W9.heap.size<=k)->dY m Pg W Fs Us Hg mp L S1 a->∃S2,(∀k,S2 k->Z k\/W9.heap.size<=k)/\dY m Pg W Fs Us Hg mp L S2 b) [.c y,.c y,.c (.pointer (some ⟨y,15,none⟩)),.c (.map (some sb)),.c (s:Int),.c m,.c (.iface 112 (.pointer (some ⟨m,0,none⟩))),.c (s:Int),.c (.tuple #[gD ((hp s:Nat):Int) ((hf s:Nat):Int) ((hg s:Nat):Int),(0:Int)]),.c (.tuple #[gD ((hp s:Nat):Int) ((hf s:Nat):Int) ((hg s:Nat):Int),(0:Int)]),.c (gD ((hp s:Nat):Int) ((hf s:Nat):Int) ((hg s:Nat):Int)),.c (0:Int),.p (fun _ w'=>iu w' sb (ns+1) (iV f s (hp s,hf s,hg s))/\∃S1,(∀k,S1 k->Z k\/W9.heap.size<=k)/\dY m Pg W Fs Us Hg mp L S1 w')] (fun j=>false) (fun _=>⟨GQ _ _,fun S1 H C=>⟨S1,H,C⟩⟩) (fun _ _ h=>h.1.mono (fun _ h=> .inl (h.imp id .inr))) (fun _ _ _ H C=>⟨H.1.trans C.1 (fun _ h=> .inl h),fun S1 a b=>let ⟨S2,a2,b2⟩:=H.2 S1 a b;C.2 S2 a2 b2⟩) (fun _ _ _ H C=>H.trans C.1 (fun _ h=> .inl (h.imp id .inr))) (fun _ _ _ H C=>(H.1.mono (fun _ h=> .inl (h.imp id .inr))).trans C (fun _ h=> .inl h)) (fun _ _ h=>h.size) ⟨fun _ w1 w2 h O=>⟨h.1.frame O.1 dL,let ⟨S1,a,b⟩:=h.2;O.2 S1 a b⟩,trivial⟩ ⟨.inl rfl,trivial⟩ ?_;intro F hF;simp only [fp,PK.val,ai,an,aa] at hF;subst hF;refine ⟨by
   refine ⟨?_,?_,?_,?_,?_,?_,?_,?_,?_,?_,?_,?_,?_,trivial⟩<;>intro vs w1 R al hd hx
   all_goals try (apply oV;rotate_left;rfl;exact ⟨GQ _ _,fun S1 H C=>⟨S1,H,C⟩⟩;go_simp;done)
   all_goals try (apply oV;rotate_left;rfl;exact ⟨GQ _ _,fun S1 H C=>⟨S1,H,C⟩⟩;obtain ⟨t1,t2,t3⟩:=HW.out w1 R;go_simp;done)
   ·obtain ⟨S3,u1,u2⟩:=(al (by kernel_rfl)).2 Z (fun _ h=> .inl h) fj.out;refine bm 88 #[.iface 112 (.pointer (some ⟨m,0,none⟩)),(s:Int)] (by go_simp) ((ht.out S3 w1 s u2 o1 o2 o3).mono ?_);rintro e w5 ⟨rfl,S4,v1,v2,v3⟩;have kF:=R.size;exact ⟨_,rfl,rfl,⟨v2.mono (fun k J=> .inl (u1 k J)),fun S1 H C=>⟨S4,fun k J=>(v3 k J).elim (u1 k) (fun h=> .inr (aZ kF h)),v1⟩⟩,fun h=>nomatch h⟩
   ·obtain ⟨w5,lf,v1,v2,v3⟩:=g8.out w1 (al (by kernel_rfl));refine ff (w':=w5) (by go_simp) ⟨⟨v1,v2⟩,v3,fun h=>nomatch h⟩
   ,fun vs w1 R hp hx=> ?_⟩
  obtain ⟨di,_⟩:=hp;have di:=di;clear hx;obtain ⟨i1,i2,m1,m2,m3,m4,m6,m7,m8,cq,cd,bl,bx,cM,a8,dr,cT⟩:=gO.out;obtain ⟨e0,dh,e1,e2,e3,e4,e5,e6,e7⟩:=cN.out;obtain ⟨y1,S1,y2,y3⟩:=di;have b8:Fr (fun k=>Z k\/k=sb) W9 w1:=(((GQ (fun k=>Z k\/k=sb\/W9.heap.size<=k) W9).drew).trans R (fun _ h=> .inl h)).mono (fun k h=>h.elim (fun h=> .inl (.inl h)) (fun h=>h.elim (fun h=> .inl (.inr h)) .inr));have ew:sK m Pg W Fs Us Hg mp L E hp hf hg c s (I++[(s,n)]) (fun k=>S1 k\/k=c.wb\/k=c.sb) w1:=by
   rw [<-e3] at y1 b8 bx m3;rw [<-e2] at m2 m6;exact sK.head m2 m3 m4 m6 m7 m8 cq cd bl y2 b8 y3 y1 bx
  have ev:=cT w1 b8;have hP:∀k,(S1 k\/k=c.wb\/k=c.sb)->S9 k\/W9.heap.size<=k:=fun k J=>by
   rcases J with h|h
   ·exact (y2 k h).imp (fun h=>(m1 k).2 (.inl h)) id
   ·exact .inl ((m1 k).2 (.inr h))
  have dA:Fr S9 W9 w1:=b8.mono (fun k J=> .inl ((m1 k).2 (by rw [e2,e3];exact J.elim .inl (fun h=> .inr (.inr h)))));have hh:=ae (ag ev (ag ew (ag hP dA)));have fo:=ae (ag i1 (ag a8 o8));have lo:IntKind.i64.wrap ((s:Int)+(n:Int))=(s:Int)+(n:Int):=by rw [IntKind.wrap_i64];omega
  have fi:=ae o6;have fk:=ae o9;have fl:=ae gs;have i8:=ae eH;have fc:=ae ga;clear i1 i2 m1 m2 m3 m4 m6 m7 m8 cq cd bl bx cM a8 dr cT e0 dh e1 e2 e3 e4 e5 e6 e7 y1 y2 y3 b8 ew ev hP dA R o1 o3 o6 o7 o8 o9 HW fj g8 gO dL gs eH;gi_wp2
  gi_loopw [16] (fun z wr=>∃(a:Nat) (S1:Nat->Prop),z= .int .i64 a/\s<=a/\a<=s+n/\Hid (Ev c x W E (rs.map φ) wr/\sK m Pg W Fs Us Hg mp L E hp hf hg c a (I++[(s,n)]) S1 wr/\(∀k,S1 k->S9 k\/W9.heap.size<=k)/\Fr S9 W9 wr)) (fun z _=>(s+n-intOf z).toNat)
  case atStart=>exact ⟨s,_,rfl,ak _,dK _ _,hh⟩
  case round=>
   clear hh;obtain ⟨a,S1,rfl,jH,jN,O⟩:=hrel;by_cases ih:a<s+n
   ·have c1:(a:Int)<(s:Int)+(n:Int):=by omega
    obtain ⟨f1,f2,f3,f4⟩:=O.out;obtain ⟨e0,dh,e1,e2,e3,e4,e5,e6,e7⟩:=cN.out;have eC:1<=Pg:=HB.out.1;have io:aI E a=true:=by
     have:=fi.out (a-s) (by omega);rwa [show s+(a-s)=a by omega] at this
    have fE:=f2.frame ((GQ (fun _=>False) wr).drew) (fun _ _ h=>h);obtain ⟨V,lR,cj,wn,el,ir,fV⟩:=fE.word io (by omega) eC;have kb:wr.cell? Xd=some y:=by
     have H:=f1.b13.cell 0 rfl;rw [e6,e4] at H;exact H
    have kc:wr.cell? ⟨y,14,none⟩=some (.map (some wb)):=by
     have C:wr.cell? ⟨c.y,14,none⟩=some (.map (some c.wb)):=aJ.cell f1.y 14 rfl;rw [e4,e2] at C;exact C
    have kd:wr.cell? w.heap.size=some m:=by
     have h3:=f1.b3.cell 0 rfl;rw [e5,e1] at h3;exact h3
    rw [e2] at cj el fV;have eg:(a:Int).tdiv (Pg:Int)=((a/Pg:Nat):Int):=fU _ _;have h8:¬Pg=0:=by omega
    have hM:a/Pg<=524288:=aZ (bK _ _) (by omega);have eG:¬yB c x wb:=fun h=>(cz.out wb h).2.2.1 rfl
    have er:=ae (fun w' (he:w'=wr.drew)=>(show Calls prog 148 #[m] w' fun e w5=>e= .returned (Pg:Int)/\w'=w5 from by
     subst he;obtain ⟨Z,_,_,_,_,_,_,_,_,m5,_⟩:=fE;exact bX.out Z _ m5))
    have eo:=ae ir;have g4:=ae (fun w' (dB:Fr (fun k=>k=wb) wr.drew w')=>(show Ev c x W E (rs.map φ) w'/\Fr S9 W9 w' from by
     refine ⟨f1.frame (((GQ (fun _=>False) wr).drew.mono (S':=fun k=>k=wb) GN).trans dB (fun _ h=> .inl h)) (fun k J hb=>eG (J▸hb)),?_⟩;refine (f4.trans ((GQ (fun _=>False) wr).drew) GN).trans dB (fun k J=> ?_);subst J;obtain ⟨Z,_,_,_,_,m1,_⟩:=f2;exact f3 _ ((m1 _).2 (.inr (.inl e2.symm)))))
    have i6:=ae f3;have hU:((V+1:Nat):Int)=(V:Int)+1:=by push_cast;rfl
    rw [hU] at el;have kq:IntKind.i64.wrap ((V:Int)+1)=(V:Int)+1:=by rw [IntKind.wrap_i64];omega
    generalize a/Pg=Q at cj el eg hM;have kn:IntKind.i64.wrap (Q:Int)=(Q:Int):=by rw [IntKind.wrap_i64];omega
    clear f1 f2 f3 f4 e0 dh e1 e2 e3 e4 e5 e6 e7 io fE ir eG O fo fi fk fl fc;gi_wp2;refine lk 11 10 (fun a b=>Fr (fun k=>k=wb) a b) (fun a b=>b=a) [.c y,.c y,.c (.pointer (some ⟨y,14,none⟩)),.c (.map (some wb)),.c (a:Int),.c m,.c (Pg:Int),.c (Q:Int),.c (V:Int),.c (.int .i64 ((V:Int)+1)),.p (fun _ w'=>sK m Pg W Fs Us Hg mp L E hp hf hg c (a+1) (I++[(s,n)]) S1 w')] (fun j=>false) (fun _=>rfl) (fun _ _ h=>by subst h;exact GQ _ _) (fun _ _ _ H C=>C.trans H) (fun _ _ _ H C=>by subst C;exact H) (fun _ _ _ H C=>by subst H;exact C) (fun _ _ h=>h.size) ⟨fun _ w1 w2 h O=>by subst O;exact h,trivial⟩ ⟨.inl rfl,trivial⟩ ?_;intro F hF;simp only [fp,PK.val,ai,an,aa] at hF;subst hF;refine ⟨by
     refine ⟨?_,?_,?_,?_,?_,?_,?_,?_,?_,?_,?_,trivial⟩<;>intro vs w1 R al hd hx
     all_goals try (apply oV;rotate_left;rfl;exact rfl;go_simp;done)
     all_goals try (apply oV;rotate_left;rfl;exact rfl;have dO:=al (by kernel_rfl);subst dO;go_simp;done)
     ·have dO:=al (by kernel_rfl);refine bm 148 #[m] (by go_simp) ((er.out w1 dO).mono ?_);rintro e w5 ⟨rfl,rfl⟩;exact ⟨_,rfl,rfl,rfl,fun h=>nomatch h⟩
     ·have dO:=al (by kernel_rfl);subst dO;refine ff (w':=wn) (by go_simp) ⟨eo.out,fV,fun h=>nomatch h⟩
     ,fun vs w1 R hp hx=> ?_⟩
    obtain ⟨d5,_⟩:=hp;clear hx;obtain ⟨y1,y2⟩:=g4.out w1 R;have i7:=ae (ag y1 (ag d5 (ag i6.out y2)));clear y1 y2 d5 R g4 eo er el fV cj kb kc kd eg h8 hM kq kn hU eC;gi_wp2;go_roundw
    case rel=>exact ⟨a+1,S1,by go_num,by omega,by omega,i7⟩
    case measure=>simp [intOf];omega
   ·have c1:¬(a:Int)<(s:Int)+(n:Int):=by omega
    obtain ⟨f1,f2,f3,f4⟩:=O.out;obtain ⟨i1,a8,o8⟩:=fo.out;have hY:a=s+n:=by omega
    have i5:Hid (CT (fun I S w=>I=(cS E W).take I.length/\Fi m Pg W Fs Us Hg mp L E hp hf hg c x (rs.map φ) I S w) (I++[(s,n)]) S9 W9 wr):=by
     refine ae ⟨S1,⟨oy fl.out fc.out,fun k J hb=> ?_,f1,?_⟩,f4,f3⟩
     ·rcases f3 k J with h|h
      ·exact i1 k h hb
      ·have:=(cz.out k hb).1;have:=i8.out;omega
     ·rw [aH,aP];subst hY;exact f2.skip fk.out o8
    clear f1 f2 f3 f4 i1 a8 o8 O fo fi fk fl fc hY jH jN;gi_wp2;exact i5.out
 case done=>
  intro D S9 W9 hI hD jB hR fR iG;obtain ⟨_,i1,i2,i3⟩:=hI;rw [Dz] at i3;obtain ⟨Z,fw,nn,ns,f,m1,m2,m3,m4,m5,m6,m7,m8,m9,cq,cd⟩:=i3;obtain ⟨ay,aC,au,b4,cm,cW,dl,Y,em⟩:=en.out;have eq:=cz.out;clear cN g5 eu bX ht cz en ck fG fL;subst b4;subst cm;dsimp only at m1 m2 m3 m4 m6 m9;obtain ⟨p1,p2,p3,p5,p6,p7,p8,p9,cn,cp,a9,ax,bB,ca,bd⟩:=HP.out;obtain ⟨q1,q2,bc,ap,hN⟩:=HQ.out;obtain ⟨aw,c0,bQ⟩:=fa.out;obtain ⟨z1,z2,z3,z4,z5,z6,z7,z8,z9,c2,c4,ct,cx,cy,aK,c6,x1,al,gt,gz⟩:=eM.out;obtain ⟨hi,O,hT,a5,aL,bj,hc,hl,av,a6,bf,ad,aY,aQ,hG,af,aR,hO,bk,aq,bP⟩:=HA.out;obtain ⟨bv,bS,bF,bM,b0,cb,bU,bV,cc,bo,bp,bs⟩:=HB.out;have ke:∀(fn:Fn) (first cap:Array Value) (w:World),(Instr.makeFunc fn first cap).run prog w= .ok (.func fn first cap) w:=fun _ _ _ _=>rfl
  have iR:=fR.size;have a0:∀k,Z k->¬yB _ _ k:=fun k J=>i1 k ((m1 k).2 (.inl J))
  have cL:W4.heap.size<=w1.heap.size:=al.size;have dS:=q2.size;have iL:=aC.size;have iK:=au.size;have l3:=z3.lt;have l4:=z4.lt;have l2:=z2.lt;have l1:=z1.lt;have lc:=aK.lt;have j9:g<w.heap.size/\b<w.heap.size:=⟨bV,bU⟩;have gb:∀k,yB ⟨y,m,F,Tp,T,P,B,Rm,ah,pl,EL,mv,U,wb,sb,w2.heap.size,w3.heap.size⟩ ⟨w.heap.size,w.heap.size+1,Xd,W5.heap.size,b,g⟩ k->k<W7.heap.size:=fun k J=>(eq k J).1
  have hA:=ae (oB 194 #[y] #[] (enters_of func194 (by kernel_rfl) rfl) (fun am w'=>am=((rs.map φ).take am.length).map (rY (goes E T) id)/\Fr (fun k=>k=g) W9 w') i2.roots ⟨rfl,GQ _ _⟩
   (fun am wa kZ ⟨j1,j2⟩ hf=>⟨j1,j2.trans hf (fun k h=> .inl h)⟩)
   (fun am wa ⟨j1,j2⟩ hz=>⟨by
    rw [aH,aP,ea,hz];rw [bD,<-j1];rfl,j2⟩)
   (fun am a wa ek ⟨j1,j2⟩ ha h0=>by
    have ip:=aD ha;obtain ⟨z,hz,rfl⟩:=bu.1 ip;have iU:Reach A.gr rs z:= .root hz (fun e=>h0 (by rw [e];exact hl.zero));have ib:=hl.live bd iU (i:=0) (by unfold AG.sz;omega);rw [bg] at ib;have lU:=hl.Qn z iU;have mt:1<=A.sz z:=by unfold AG.sz;omega
    refine (xD (aJ.frame i2.y j2 (fun e=>by dsimp only at e;omega)) (i2.Xe.frame j2 (fun i hi=>by dsimp only;omega)) (by dsimp only;omega) (φ z) ib (by have:=hc.F3;omega)).mono ?_;rintro e kZ ⟨rfl,hZ⟩;refine ⟨goes E T (φ z),rfl,ek.frame hZ id id,?_,j2.trans hZ GN⟩;rw [aH,aP,ea,ha,bD,<-j1];show _=am++[rY (goes E T) id (φ z)]
    unfold rY;rw [aE h0];rfl))
  have hS:¬Z wb/\¬Z sb:=⟨m2,m3⟩;have dq:∀k,Z k->S2 k\/W7.heap.size<=k:=fun k J=>by
   rcases iG k ((m1 k).2 (.inl J)) with h|h
   ·rcases h with h|h|h
    ·exact .inl h
    ·exact absurd J (h▸m2)
    ·exact absurd J (h▸m3)
   ·exact .inr h
  have dk:¬Z D:=fun h=>hR ((m1 D).2 (.inl h))
  have Xm:∀(o wr:World) (q:Nat),Fr (fun k=>k=g) W9 o->pY m Pg W Fs mp L (fun r=>decide (mS E Pg W r=0)) (F/Pg) Z o q wr->∀(bb:Nat) (cs:List Value) (t:TypeId),yB ⟨y,m,F,Tp,T,P,B,Rm,ah,pl,EL,mv,U,wb,sb,w2.heap.size,w3.heap.size⟩ ⟨w.heap.size,w.heap.size+1,Xd,W5.heap.size,b,g⟩ bb->bb≠g->aJ W9 bb cs t->aJ wr bb cs t:=by
   rintro o wr q H ⟨_,_,_,_,_,_,C,_⟩ bb cs t h3 h4 h5;exact (h5.frame H h4).frame C (fun h=>a0 bb h h3)
  have eU:Hid (∀(o wr:World) (q:Nat),Fr (fun k=>k=g) W9 o->pY m Pg W Fs mp L (fun r=>decide (mS E Pg W r=0)) (F/Pg) Z o q wr->wr.cell? Xd=some y/\wr.cell? ⟨y,14,none⟩=some (.map (some wb))/\wr.cell? w.heap.size=some m/\wr.cell? ⟨w.heap.size+1,0,none⟩=some (F:Int)/\wr.cell? ⟨w.heap.size+1,1,none⟩=some (Tp:Int)/\
    (q<4611686018427387904->(Instr.lookup 33 (.map (some wb)) (.int .i64 q) false).run prog wr= .ok (.int .i64 ((mS E Pg W q:Nat):Int)) wr)):=by
   show∀(o wr:World) (q:Nat),_
   intro o wr q H C;have hB:=Xm o wr q H C;refine ⟨(hB _ _ _ (.inr (.inr (.inr (.inr (.inl rfl))))) (by dsimp only;omega) i2.b13).cell 0 rfl,(hB _ _ _ (.inr (.inr (.inr (.inr (.inr (.inl rfl)))))) (by dsimp only;omega) i2.y).cell 14 rfl,(hB _ _ _ (.inr (.inr (.inl rfl))) (by dsimp only;omega) i2.b3).cell 0 rfl,(hB _ _ _ (.inr (.inr (.inr (.inl rfl)))) (by dsimp only;omega) i2.b5).cell 0 rfl,(hB _ _ _ (.inr (.inr (.inr (.inl rfl)))) (by dsimp only;omega) i2.b5).cell 1 rfl,fun hq=> ?_⟩;obtain ⟨_,_,_,_,_,_,h3,_⟩:=C;have:=((m6.frame H (by omega)).frame h3 m2).look q hq;rwa [m7] at this
  have eW:Hid (∀(o wr:World) (q:Nat),Fr (fun k=>k=g) W9 o->pY m Pg W Fs mp L (fun r=>decide (mS E Pg W r=0)) (F/Pg) Z o q wr->wr.heap[D]? =some (.deferred (some []))):=by
   show∀(o wr:World) (q:Nat),_
   rintro o wr q H ⟨_,_,_,_,_,_,h3,_⟩;exact h3.heap (H.heap hD (fun e=>by omega)) dk
  have fv:=ae (fun (o:World) (H:Fr (fun k=>k=g) W9 o)=>(show pY m Pg W Fs mp L (fun r=>decide (mS E Pg W r=0)) (F/Pg) Z o (F/Pg) o from pY.start ((da m Pg W Fs Us Hg mp) _ _ _ _ _ m5 H (fun k J e=>a0 k J (by rw [e];exact .inr (.inr (.inr (.inr (.inr (.inr (.inr (.inr (.inr (.inl rfl))))))))))))));have fF:F=F/Pg*Pg:=by have:=aM F Pg;have:=hc.F4;rw [aN];omega
  have e8:=ae (fun (o wr:World) (q:Nat) (hu:pY m Pg W Fs mp L (fun r=>decide (mS E Pg W r=0)) (F/Pg) Z o q wr) (h0:mS E Pg W q=0) (h:q*Pg<Tp) (hq:F/Pg<=q)=>pY.drop hu (aB h0) (by
    rw [a6,aB (show F<=q*Pg by rw [fF];exact aX Pg hq),aB h];rfl) (by
    have C:W=W/Pg*Pg:=by have:=aM W Pg;rw [aN];omega
    have h3:q*Pg<W/Pg*Pg:=by have:=hc.F3;omega
    exact eT h3) hq)
  have fs:=ae (fun (o wr:World) (q:Nat) (hu:pY m Pg W Fs mp L (fun r=>decide (mS E Pg W r=0)) (F/Pg) Z o q wr) (h0:mS E Pg W q≠0)=>pY.skip hu (ar h0));have db:Hid (∀(o wr:World) (am:List Nat) (q:Nat),am.length=(rs.map φ).length->dt o b g am->am=((rs.map φ).take am.length).map (rY (goes E T) id)->Fr (fun k=>k=g) W9 o->pY m Pg W Fs mp L (fun r=>decide (mS E Pg W r=0)) (F/Pg) Z o q wr->Tp<=q*Pg->rv m b g Pg W Fs A rs T P B ah S w (.returned (.tuple #[y,(0:Int)])) (wr.putObj D (.deferred none))):=by
   show∀(o wr:World) (am:List Nat) (q:Nat),_
   intro o wr am q a1 a2 a3 a4 hu ge;have le:=Xm o wr q a4 hu;obtain ⟨gA,i9,kO,S',⟨M,u0,u1⟩,u2,u3,u4⟩:=hu;have eh:Fr (fun k=>k=D) wr (wr.putObj D (.deferred none)):=(GQ _ wr).putObj _ _ (.inl rfl);have ls:=a4.size;have lx:=u3.size;have fK:∀k,S' k->(Z k\/o.heap.size<=k)/\k≠D:=fun k J=>⟨u4 k J,fun e=>by
    rcases u4 k J with h|h
    ·exact dk (e▸h)
    ·have h6:=(bH.1 (a4.heap hD (fun e=>by omega))).1;omega⟩
   have bw:Fr (fun k=>k=g\/Z k\/k=D) W9 (wr.putObj D (.deferred none)):=((a4.mono (S':=fun k=>k=g\/Z k\/k=D) (fun k h=> .inl (.inl h))).trans u3 (fun k h=> .inl (.inr (.inl h)))).trans eh (fun k h=> .inl (.inr (.inr h)));have dM:∀k,yB ⟨y,m,F,Tp,T,P,B,Rm,ah,pl,EL,mv,U,wb,sb,w2.heap.size,w3.heap.size⟩ ⟨w.heap.size,w.heap.size+1,Xd,W5.heap.size,b,g⟩ k->k≠g->¬(k=g\/Z k\/k=D):=fun k J hg h=>by
    rcases h with h|h|h
    ·exact hg h
    ·exact a0 k h J
    ·have:=gb k J;omega
   obtain ⟨L',l,s1,s2,s3,s4,s5,s6,s7⟩:=zq (hf:=hf) (hg:=hg) (Rm:=Rm) hc bv bM bF aq hl bd p5.apart cW av a6 bf ge u2 u1;obtain ⟨i0,gk,kJ⟩:=i2.all;dsimp only at i0 gk kJ;have lO:N=A.Wd l:=by omega
   have dJ:U=ou (Qb (aI E) 0 W) B:=by rw [bQ,hN]
   have dm:=p5.lt;have iA:am=rs.map (rY (goes E T) φ):=by
    rw [a3,a1,kg,jl];refine eI (fun z hz=> ?_);show (if φ z=0 then 0 else goes E T (φ z))=if z=0 then 0 else goes E T (φ z)
    by_cases h0:z=0
    ·rw [aG h0,aG (by rw [h0];exact hl.zero)]
    ·rw [aE h0,aE (by have:=hl.pos (.root hz h0);omega)]
   have lL:(P-T)/Pg*Pg=P-T:=by
    have H:(P-T)% Pg=0:=by
     have lQ:=hc.T4;have lK:=hc.L4;obtain ⟨u,hu⟩:∃u,T=u*Pg:=⟨T/Pg,by have:=aM T Pg;rw [aN];omega⟩;obtain ⟨v,hv⟩:∃v,P=v*Pg:=⟨P/Pg,by have:=aM P Pg;rw [aN];omega⟩;rw [hu,hv,<-iT];exact Nat.mul_mod_left _ _
    have:=aM (P-T) Pg;rw [aN];omega
   refine ⟨⟨y,m,F,Tp,T,P,B,Rm,ah,pl,EL,mv,U,wb,sb,w2.heap.size,w3.heap.size⟩,⟨E,hp,T,W,Pg,B,(P-T)/Pg,ah⟩,hf,hg,rY (goes E T) φ,L',fun k=>S' k\/Cy.has ⟨y,m,F,Tp,T,P,B,Rm,ah,pl,EL,mv,U,wb,sb,w2.heap.size,w3.heap.size⟩ k,l,rfl,rfl,rfl,rfl,rfl,rfl,rfl,rfl,?cyt,?cys,s2,s5,s4,?rts,?Qp,?foot,?fr,by have H:=ap.lt;have C:=bw.size;have h3:=aw.size;omega,s3⟩
   case cyt=>
    refine ⟨s6,s7,?_,?_,bf,?_,dJ,rfl,?_,hc.B2,hc.a1⟩
    ·show T+A.Wd l<=T+(P-T)/Pg*Pg
     omega
    ·show T+Qb (aI E) 0 W<=T+A.Wd l
     omega
    ·show T<=524288
     omega
    ·show Qb (aI E) 0 W<=524288
     omega
   case cys=>
    have kh:(⟨E,hp,T,W,Pg,B,(P-T)/Pg,ah⟩:dV).nb=U:=dJ.symm;rw [kh];refine ⟨gA,i9,S',kO,M,fw,nn,⟨?_,u0.frame eh (fun k J e=>(fK k J).2 e),?_,?_,?_,?_,?_,⟨ns,f,?_,?_⟩,?_,?_,?_,rfl,rfl,bz⟩,?_,fun r=> ?_,?_,fun k=>dX⟩
    ·exact aJ.frame i2.y bw (dM _ (.inr (.inr (.inr (.inr (.inr (.inl rfl)))))) (by dsimp only;omega))
    ·exact i2.Xe.frame bw (fun i hi=>by
      dsimp only;rcases hi with h|h|h
      ·omega
      ·by_cases hx:w2.heap.size<=i/\i<w3.heap.size
       ·exact absurd (.inr (.inr (.inr (.inr (.inr (.inr (.inr (.inl hx)))))))) (a0 i h)
       ·omega
      ·omega)
    ·exact i0.frame bw (fun k J=>dM k (.inl J) (fun e=>by have:=dm k J;have:=HP.out.2.2.2.2.2.2.1 k J;omega))
    ·exact aS gk bw (dM _ (.inr (.inr (.inr (.inr (.inr (.inr (.inr (.inr (.inr (.inr rfl)))))))))) (Ne.symm bj))
    ·exact i2.mv.frame bw (dM _ (.inr (.inr (.inr (.inr (.inr (.inr (.inl rfl))))))) (by dsimp only;omega))
    ·exact m6.frame bw (fun h=>by
      rcases h with h|h|h
      ·omega
      ·exact m2 h
      ·omega)
    ·exact m9.frame bw (fun h=>by
      rcases h with h|h|h
      ·omega
      ·exact m3 h
      ·omega)
    ·exact fun a ha=>(show E a≠0->_ from fun eb=>cd (a,E a) (dW.2 ⟨by have:=p5.top a eb;omega,eb,rfl⟩)) ha
    ·show w3.heap.size<=(wr.putObj D (.deferred none)).heap.size
     have:=eh.size;omega
    ·intro k J;have h5:=(fK k J).1;have dC:∀k',yB ⟨y,m,F,Tp,T,P,B,Rm,ah,pl,EL,mv,U,wb,sb,w2.heap.size,w3.heap.size⟩ ⟨w.heap.size,w.heap.size+1,Xd,W5.heap.size,b,g⟩ k'->k≠k':=fun k' h7 e=>by
      rcases h5 with h|h
      ·exact a0 k h (e▸h7)
      ·have:=gb k' h7;omega
     refine ⟨fun hx=> ?_,dC _ (.inr (.inr (.inr (.inr (.inr (.inr (.inr (.inr (.inr (.inr rfl))))))))))⟩;rcases hx with h|h|h|h|h|h
     ·exact dC _ (.inr (.inr (.inr (.inr (.inr (.inl rfl)))))) h
     ·exact dC _ (.inr (.inr (.inr (.inr (.inr (.inr (.inl rfl))))))) h
     ·dsimp only at h;rcases h5 with h6|h6
      ·exact m2 (h▸h6)
      ·omega
     ·dsimp only at h;rcases h5 with h6|h6
      ·exact m3 (h▸h6)
      ·omega
     ·exact dC k (.inl h) rfl
     ·exact dC k (.inr (.inr (.inr (.inr (.inr (.inr (.inr (.inl h)))))))) rfl
    ·have dn:∀k,EL.has k->k<w2.heap.size:=dm;refine ⟨⟨?_,?_,?_,fun h=> ?_,fun h=> ?_,?_⟩,⟨?_,?_,fun h=> ?_,fun h=> ?_,?_⟩,⟨?_,fun h=> ?_,fun h=> ?_,?_⟩⟩
     ·exact ct
     ·exact cx
     ·exact cy
     ·have:=dn _ h;dsimp only at this;omega
     ·dsimp only at h;omega
     ·show y≠cO
      omega
     ·exact z5
     ·exact z6
     ·have:=dn _ h;dsimp only at this;omega
     ·dsimp only at h;omega
     ·show mv≠cO
      omega
     ·exact z7
     ·have:=dn _ h;dsimp only at this;omega
     ·dsimp only at h;omega
     ·show wb≠cO
      omega
    ·rw [FI];have:=s1;rw [<-dJ] at this;exact this
    ·rw [m7,FI];exact xM (s:=⟨E,hp,T,W,Pg,B,(P-T)/Pg,ah⟩) bv (fun a ha=>by
      have eb:aI E a=true:=ha;obtain ⟨s,mw,mE⟩:=cX.1 eb;have:=p5.top s (by omega);show a<W
      omega) r
    ·omega
   case rts=>
    rw [<-iA];have jT:yB ⟨y,m,F,Tp,T,P,B,Rm,ah,pl,EL,mv,U,wb,sb,w2.heap.size,w3.heap.size⟩ ⟨w.heap.size,w.heap.size+1,Xd,W5.heap.size,b,g⟩ b:= .inr (.inr (.inr (.inr (.inr (.inr (.inr (.inr (.inl rfl))))))));have j3:yB ⟨y,m,F,Tp,T,P,B,Rm,ah,pl,EL,mv,U,wb,sb,w2.heap.size,w3.heap.size⟩ ⟨w.heap.size,w.heap.size+1,Xd,W5.heap.size,b,g⟩ g:= .inr (.inr (.inr (.inr (.inr (.inr (.inr (.inr (.inr (.inl rfl)))))))));exact (a2.frame u3 (fun h=>a0 b h jT) (fun h=>a0 g h j3)).frame eh (fun e=>by omega) (fun e=>by omega)
   case Qp=>exact aS gk bw (dM _ (.inr (.inr (.inr (.inr (.inr (.inr (.inr (.inr (.inr (.inr rfl)))))))))) (Ne.symm bj))
   case foot=>
    intro k J;rcases J with h|h
    ·rcases (fK k h).1 with h|h
     ·rcases dq k h with h|h
      ·rcases p2 k h with h|h
       ·exact .inl h
       ·exact .inr (by omega)
      ·exact .inr (by omega)
     ·exact .inr (by omega)
    ·right;rcases h with h|h|h|h|h|h
     ·dsimp only at h;omega
     ·dsimp only at h;omega
     ·dsimp only at h;omega
     ·dsimp only at h;omega
     ·have:=p8 k h;omega
     ·dsimp only at h;omega
   case fr=>
    have g1:Fr (fun k=>S k\/k=g) w w2:=((aR.trans ce.out GN).mono (S':=fun k=>S k\/k=g) GN).trans p9 (fun k h=> .inl (.inl h));have g2:Fr (fun k=>S k\/k=g) w W7:=g1.trans ay GN;have ex:∀k,S2 k->(S k\/k=g)\/w.heap.size<=k:=fun k h=>by
     rcases p2 k h with h|h
     ·exact .inl (.inl h)
     ·exact .inr (by omega)
    have g3:Fr (fun k=>S k\/k=g) w W9:=g2.trans fR (fun k h=>by
     rcases h with h|h|h
     ·exact ex k h
     ·exact .inr (by omega)
     ·exact .inr (by omega))
    exact g3.trans bw (fun k h=>by
     rcases h with h|h|h
     ·exact .inl (.inr h)
     ·rcases dq k h with h|h
      ·exact ex k h
      ·exact .inr (by omega)
     ·exact .inr (by omega))
  have kN:W9.cell? Xd=some y:=i2.b13.cell 0 rfl;have eg:(F:Int).tdiv (Pg:Int)=((F/Pg:Nat):Int):=fU _ _;have h8:¬Pg=0:=by omega
  have l5:Pg<=256:=bS;have k8:Tp<=524288:=by have:=hc.F3;omega
  have jC:F<=524288:=by have:=hc.F2;omega
  have jG:F/Pg<=524288:=aZ (bK _ _) jC;have fH:F/Pg*Pg<Tp+Pg:=by have:=hc.F2;omega
  generalize jD:F/Pg=QF at eU eW fv e8 fs db eg jG fH;clear jD;have ml:IntKind.i64.wrap (QF:Int)=(QF:Int):=by rw [IntKind.wrap_i64];omega
  clear dq dk Xm hS fF gb l1 l2 l3 l4 lc iK iL dS cL a0 iR j9 eq bv bS bF bM b0 cb bU bV cc bo bp bs hi O hT a5 aL bj hc hl av a6 bf ad aY aQ hG af aR hO bk aq bP z1 z2 z3 z4 z5 z6 z7 z8 z9 c2 c4 ct cx cy aK c6 x1 al gt gz aw c0 bQ q1 q2 bc ap hN p1 p2 p3 p5 p6 p7 p8 p9 cn cp a9 ax bB ca bd ay aC au cW dl Y em m1 m2 m3 m4 m5 m6 m7 m8 m9 cq cd i1 i2 hD jB hR fR iG HP HQ fa eM HA HB eN a7 ce;gi_wp2;refine ep (hA.out.mono ?_);rintro e o ⟨rfl,am,it,ek,iv,b7⟩;have d3:=ae (fv.out o b7);have bW:=ae (fun q wr hu=>eU.out o wr q b7 hu);have c7:=ae (fun q wr hu=>eW.out o wr q b7 hu);have c9:=ae (fun q wr hu hq=>db.out o wr am q it ek iv b7 hu hq);have c8:=ae (fun q wr hu=>e8.out o wr q hu);have dg:=ae (fun q wr hu=>fs.out o wr q hu);clear it ek iv b7 fv eU eW db e8 fs hA kN ke;obtain ⟨t1,t2,t3,t4,t5,t6⟩:=bW.out _ _ d3.out;have bX:=ae ((d3.out.Fh ((GQ _ o).drew)).pg);clear t1 t2 t5 t6;gi_wp2;refine wpIn_wide.2 ?_;refine cZ 6 (fun a b=>b=a) [.c (.pointer (some ⟨w.heap.size+1,0,none⟩)),.c (F:Int),.c m,.c (Pg:Int),.c (.int .i64 ((QF:Nat):Int)),.c (.int .i64 ((QF:Nat):Int))] (fun j=>false) (fun _=>rfl) (fun _ _ _ H C=>C.trans H) (fun _ _ h=>by rw [h];exact ak _) trivial ?_;intro F hF;simp only [fp,PK.val,ai,an,aa] at hF;subst hF;refine ⟨by
   refine ⟨?_,?_,?_,?_,?_,?_,trivial⟩<;>intro vs w1 R al hd hx
   all_goals try (apply oV;rotate_left;rfl;exact rfl;go_simp;done)
   all_goals try (apply oV;rotate_left;rfl;exact rfl;subst R;go_simp;done)
   ·subst R;refine bm 148 #[m] (by go_simp) (bX.out.mono ?_);rintro e w2 ⟨rfl,rfl⟩;exact ⟨_,rfl,rfl,rfl,fun h=>nomatch h⟩
   ,fun vs w1 R hp hx=> ?_⟩
  subst R;clear hx bX;simp only [aj,ao];clear t3 t4;go_wp2;gi_wp2
  gi_loopw [17] (fun z wr=>∃q:Nat,z= .int .i64 q/\QF<=q/\q*Pg<Tp+Pg/\q<=524288+1/\Hid (pY m Pg W Fs mp L (fun r=>decide (mS E Pg W r=0)) QF Z o q wr)) (fun z _=>(524288+2-intOf z).toNat)
  case atStart=>exact ⟨QF,rfl,ak _,fH,by omega,ae (d3.out.Fh ((GQ _ o).drew))⟩
  case round=>
   clear d3 fH;obtain ⟨q,rfl,ge,l9,mb,O⟩:=hrel;obtain ⟨t1,t2,t3,t4,t5,t6⟩:=bW.out q _ O.out;have bX:=ae (O.out.Fh ((GQ _ _).drew)).pg;have cf:=ae (O.out.Fh ((GQ _ wr).drew));obtain ⟨X,hX⟩:∃X,X=q*Pg:=⟨_,rfl⟩;have hW:(q:Int)*(Pg:Int)=(X:Int):=by rw [hX];push_cast;rfl
   have lS:X<=1048576:=by omega
   have R:IntKind.i64.wrap ((q:Int)*(Pg:Int))=(X:Int):=by rw [hW,IntKind.wrap_i64];omega
   have md:q<=X:=by rw [hX];exact dc q (by omega)
   have HN:Hid (X<Tp->(q+1)*Pg<Tp+Pg):=by
    show X<Tp->_
    intro h;rw [cY,<-hX];omega
   have d4:=ae hX;clear hX hW O t6;gi_wp2;refine wpIn_wide.2 ?_;refine cZ 7 (fun a b=>b=a) [.c (q:Int),.c m,.c (Pg:Int),.c (X:Int),.c (.pointer (some ⟨w.heap.size+1,1,none⟩)),.c (Tp:Int),.c (.bool (decide ((X:Int)<(Tp:Int))))] (fun j=>false) (fun _=>rfl) (fun _ _ _ H C=>C.trans H) (fun _ _ h=>by rw [h];exact ak _) trivial ?_;intro F hF;simp only [fp,PK.val,ai,an,aa] at hF;subst hF;refine ⟨by
    refine ⟨?_,?_,?_,?_,?_,?_,?_,trivial⟩<;>intro vs w1 R al hd hx
    all_goals try (apply oV;rotate_left;rfl;exact rfl;go_simp;done)
    all_goals try (apply oV;rotate_left;rfl;exact rfl;subst R;go_simp;done)
    ·subst R;refine bm 148 #[m] (by go_simp) (bX.out.mono ?_);rintro e w2 ⟨rfl,rfl⟩;exact ⟨_,rfl,rfl,rfl,fun h=>nomatch h⟩
    ,fun vs w1 R hp hx=> ?_⟩
   subst R;clear hx bX;simp only [aj,ao];go_wp2;clear t1 t2 t3 t4 t5;obtain ⟨t1,t2,t3,t4,t5,t6⟩:=bW.out q _ cf.out;by_cases ih:X<Tp
   ·have c1:(X:Int)<(Tp:Int):=by omega
    have g0:=ae (HN.out ih);have cj:=t6 (by omega);have ia:q*Pg<Tp:=by have:=d4.out;omega
    have dZ:=ae (fun h0=>c8.out q _ cf.out h0 ia ge);have d2:=ae (fun h0=>dg.out q _ cf.out h0);clear t4 t5 t6 HN d4 cf ia R bW c7 c9 c8 dg;obtain ⟨V,hV⟩:∃V,V=mS E Pg W q:=⟨_,rfl⟩;rw [<-hV] at cj dZ d2;clear hV;by_cases h0:V=0
    ·have gJ:=ae (dZ.out h0);subst h0;rw [show ((0:Nat):Int)=0 from rfl] at cj;clear d2 dZ;gi_wp2;refine ep (gJ.out.mono ?_);rintro e w9 ⟨rfl,hu⟩;have fy:=ae hu;clear hu gJ cj t1 t2 t3;gi_wp2;go_roundw
     case rel=>exact ⟨q+1,by go_num,by omega,g0.out,by omega,fy⟩
     case measure=>simp [intOf];omega
    ·have fy:=ae (d2.out h0);have lB:¬(V:Int)=0:=by omega
     have lJ:((V:Int)==0)=false:=by rw [aT];omega
     clear d2 dZ;gi_wp2;go_roundw
     case rel=>exact ⟨q+1,by go_num,by omega,g0.out,by omega,fy⟩
     case measure=>simp [intOf];omega
   ·have c1:¬(X:Int)<(Tp:Int):=by omega
    have ce:=ae (c9.out q _ cf.out (by have:=d4.out;omega));have i4:=ae (c7.out q _ cf.out);clear t2 t3 t4 t5 t6 HN d4 cf R bW c7 c9 c8 dg;gi_wp2;refine ⟨by simp,.inl ⟨_,_,rfl,run_takeDeferred i4.out,?_⟩⟩;refine ⟨_,results_tmp2 rfl _ _ _,?_⟩;exact ce.out
end
def kG(b:Nat)(c:Cf)(m rb:Nat)(cy:Option Nat)(ns bs:Int)(Ba top wd:Nat)(w w':World):Prop:=∃ub',my w' b c m rb ub' cy ns bs/\fx w' ub' m Ba top (Ba+wd)/\w.heap.size<=ub'/\Fr (fun k=>k=b) w w'
section
variable{b m rb ub:Nat}{c:Cf}{cy:Option Nat}{ns bs:Int}{w w' w'':World}
theorem kG.size{Ba top a:Nat}(h:kG b c m rb cy ns bs Ba top a w w'):w.heap.size<=w'.heap.size:=let ⟨_,_,_,_,h⟩:=h;h.size
theorem uM{S:Nat->Prop}{Pg W Rm Us Hg:Nat}{mp:Nat->Bool}{M:Nat->Nat}(h:my w b c m rb ub cy ns bs)(hm:ed w m S Pg W Rm Us Hg mp M)(Ba top:Nat)(s:Ba<=top)(o:top<=Ba+c.Wd)(J:Ba+c.Wd<=W):
  Calls prog 73 #[b,(Ba:Int),(top:Int)] w fun e w'=>e= .returned (.tuple #[])/\kG b c m rb cy ns bs Ba top c.Wd w w':=by
 obtain ⟨i,r⟩:∃i,i=c.Wd:=⟨_,rfl⟩;have ak:=hm.at.2.2.1;rw [<-r] at o J;have P:=ae (fun w1 (hf:GM w.drew w1)=>(show w1.cell? ⟨b,8,none⟩=some m/\w1.cell? ⟨b,3,none⟩=some (i:Int) from by
  have g:aJ w1 b _ _:=aJ.frame h (((GQ (fun _=>False) w).drew).trans hf GN) id;rw [r];exact ⟨g.cell 8 rfl,g.cell 3 rfl⟩))
 have B:=ae (fun w1 (hf:GM w.drew w1)=>tz (hm.Qa (((GQ (fun _=>False) w).drew).trans hf GN)) Ba (Ba+i) (by omega) J);have al:IntKind.i64.wrap ((Ba:Int)+(i:Int))=((Ba+i:Nat):Int):=by rw [IntKind.wrap_i64];push_cast;omega
 have HH:=ae h;have q:=aJ.lt h;have E:=ae (fun w1 d (f:fx w1 d m Ba Ba (Ba+i))=>ve f top s o);have HQ:Hid (∀d w1 w2,w.heap.size<=d->Fr (fun k=>k=b) w w1->my w1 b c m rb d cy ns bs->fx w2 d m Ba top (Ba+i)->Fr (fun k=>k=d) w1 w2->kG b c m rb cy ns bs Ba top c.Wd w w2):=by
  show∀d w1 w2,_
  intro d w1 w2 l G n I a5;have hb:=aJ.lt h;refine ⟨d,aJ.frame n a5 (fun e=>by omega),by rw [<-r];exact I,l,G.trans a5 (fun k hk=> .inr (by omega))⟩
 have k8:w.cell? ⟨b,8,none⟩=some m:=aJ.cell h 8 rfl;clear h hm s o J;have af:=ae r;clear r;generalize (kG b c m rb cy ns bs Ba top c.Wd w)=Q at*
 go_enter func73,ntmps73
 go_wp2;refine dw 20 19 (fun a R=>Fr (fun k=>k=b) a R) (fun a R=>GM a R) [.c b,.c b,.c b,.c (.pointer (some ⟨b,8,none⟩)),.c m,.c (Ba:Int),.c (Ba:Int),.c b,.c b,.c b,.c (.pointer (some ⟨b,3,none⟩)),.c (i:Int),.c (.int .i64 (((Ba+i:Nat)):Int)),.p (fun v w'=>∃ub,w.heap.size<=ub/\v= .tuple #[.pointer (some ⟨ub,0,none⟩),(0:Int)]/\fx w' ub m Ba Ba (Ba+i)),.p (fun v w'=>∃ub,w.heap.size<=ub/\v= .tuple #[.pointer (some ⟨ub,0,none⟩),(0:Int)]/\fx w' ub m Ba Ba (Ba+i)),.p (fun v w'=>∃ub,w.heap.size<=ub/\v= .pointer (some ⟨ub,0,none⟩)/\fx w' ub m Ba Ba (Ba+i)),.p (fun v w'=>True),.c b,.c (.pointer (some ⟨b,10,none⟩)),.p (fun v w'=>∃ub,w.heap.size<=ub/\fx w' ub m Ba Ba (Ba+i)/\my w' b c m rb ub cy ns bs)] (fun j=>false) (fun _=>GQ _ _) (fun _ _ h=>h.mono GN) (fun _ _ _ s o=>s.trans o GN) (fun _ _ _ s o=>s.trans o GN) (fun _ _ _ s o=>(s.mono GN).trans o (fun _ h=> .inl h)) (fun _ _ h=>h.size) ⟨fun v w1 w2 h f=>let ⟨ub,a,b,c⟩:=h;⟨ub,a,b,aJ.frame c f id⟩,fun v w1 w2 h f=>let ⟨ub,a,b,c⟩:=h;⟨ub,a,b,aJ.frame c f id⟩,fun v w1 w2 h f=>let ⟨ub,a,b,c⟩:=h;⟨ub,a,b,aJ.frame c f id⟩,fun _ _ _ h _=>h,fun v w1 w2 h f=>let ⟨ub,a,b,c⟩:=h;⟨ub,a,aJ.frame b f id,aJ.frame c f id⟩,trivial⟩ ⟨.inr (fun v w1 w2 h f=>let ⟨ub,a,b,c⟩:=h;⟨ub,a,b,aJ.frame c f (fun e=>by have:=q;omega)⟩),.inr (fun v w1 w2 h f=>let ⟨ub,a,b,c⟩:=h;⟨ub,a,b,aJ.frame c f (fun e=>by have:=q;omega)⟩),.inr (fun v w1 w2 h f=>let ⟨ub,a,b,c⟩:=h;⟨ub,a,b,aJ.frame c f (fun e=>by have:=q;omega)⟩),.inr (fun _ _ _ h _=>h),.inl rfl,trivial⟩ ?_;intro F hF;simp only [fp,PK.val,ai,an,aa] at hF;subst hF;refine ⟨by
  refine ⟨?_,?_,?_,?_,?_,?_,?_,?_,?_,?_,?_,?_,?_,?_,?_,?_,?_,?_,?_,?_,trivial⟩<;>intro vs w1 hw t O hx
  all_goals try (apply oV;rotate_left;rfl;exact GQ _ _;go_simp;done)
  all_goals try (apply oV;rotate_left;rfl;exact GQ _ _;have u:=t (by kernel_rfl);have k8:=(P.out w1 u).1;go_simp;done)
  all_goals try (apply oV;rotate_left;rfl;exact GQ _ _;have u:=t (by kernel_rfl);have k3:=(P.out w1 u).2;go_simp;done)
  ·have u:=t (by kernel_rfl);refine bm 121 #[m,(Ba:Int),(((Ba+i:Nat):Int):Int)] (by go_simp) ((B.out w1 u).mono ?_);rintro e w5 ⟨ub,rfl,s,o,J⟩;exact ⟨_,rfl,⟨ub,aZ u.size o,rfl,s⟩,J,fun h=>nomatch h⟩
  ·have Z:=O 13 (by kernel_rfl);obtain ⟨ub,l,G,n⟩:=Z;refine ba (.tuple #[ub,(0:Int)]) (by go_simp) ⟨⟨ub,l,rfl,n⟩,GQ _ _,fun h=>nomatch h⟩
  ·have x:=O 14 (by kernel_rfl);obtain ⟨ub,l,G,n⟩:=x;refine ba (.pointer (some ⟨ub,0,none⟩)) (by go_simp) ⟨⟨ub,l,rfl,n⟩,GQ _ _,fun h=>nomatch h⟩
  ·have x:=O 14 (by kernel_rfl);obtain ⟨ub,l,G,n⟩:=x;refine ba (.int .i64 0) (by go_simp) ⟨trivial,GQ _ _,fun h=>nomatch h⟩
  ·have ad:=O 15 (by kernel_rfl);obtain ⟨ub,l,G,n⟩:=ad;have u:=t (by kernel_rfl);have y:my w1 b c m rb _ cy ns bs:=aJ.frame HH.out (((GQ (fun _=>False) w).drew).trans u GN) id;have N:=aJ.cell y 10 rfl;have ah:=aJ.free y 10;refine ff (w':=w1.setCell ⟨b,10,none⟩ (.pointer (some ⟨ub,0,none⟩))) (by go_simp) ⟨⟨ub,l,aJ.frame n ((GQ (fun k=>k=b) w1).setCell ⟨b,10,none⟩ (.inl rfl) _) (fun e=>by have:=q;omega),y.set 10 _⟩,(GQ (fun k=>k=b) w1).setCell ⟨b,10,none⟩ (.inl rfl) _,fun h=>nomatch h⟩
  ,fun vs w1 hw hp hx=> ?_⟩
 obtain ⟨T,U,V,X,Y,_⟩:=hp;obtain ⟨ub,l,n,I⟩:=Y;clear T U V X hx;simp only [aj,ao];have D:=ae n;have A:=ae I;have C:=ae ((show Fr (fun k=>k=b) w w.drew from (GQ _ _).drew).trans hw (fun _ h=> .inl h));have z:=ae l;have N:=aJ.cell I 10 rfl;clear hw l n I P B HH q;go_wp2_with fail
 refine (E.out _ _ D.out).mono ?_;intro e w5 hp;obtain ⟨rfl,L,K⟩:=hp;have H:=ae (HQ.out ub w1 w5 z.out C.out A.out L K);clear L K HQ D C z E A N;go_wp2;go_end0;exact ⟨rfl,H.out⟩
theorem C5.Qa{A:AG}{rs:List Nat}{u n:Nat}{T:Nat->Prop}(a:C5 b c A rs u n T w)(hf:GM w w'):C5 b c A rs u n T w':=by
 obtain ⟨h,φ,L,Ba,ub,cy,ns,bs,S,d,e,f⟩:=a;exact ⟨h,φ,L,Ba,ub,cy,ns,bs,S,d,e.Qa hf,f⟩
def CX(b:Nat)(c:Cf)(A:AG)(rs:List Nat)(T:Nat->Prop)(w:World)(e:Ending)(w':World):Prop:=e= .returned (.tuple #[])/\∃l n' T',dE A rs l/\eX b c A rs (A.Wd l) n' T' w'/\Fr T w w'/\∀k,T' k->T k\/w.heap.size<=k
end
def Gx(b m rb:Nat)(c:Cf)(ns bs:Int)(A:AG)(rs:List Nat)(T:Nat->Prop)(w:World)(To y tp wd:Nat)(w6:World):Prop:=
 (∀w7,GM w6 w7->Calls prog 130 #[y] w7 fun e w'=>e= .returned (tp:Int)/\GM w7 w')/\
 (∀w7,GM w6 w7->Calls prog 73 #[b,(To:Int),(tp:Int)] w7 fun e w'=>e= .returned (.tuple #[])/\kG b c m rb (some y) ns bs To tp wd w7 w')/\
 (∀w7 w8,GM w6 w7->kG b c m rb (some y) ns bs To tp wd w7 w8->∃l n T1,dE A rs l/\C5 b c A rs (A.Wd l) n T1 w8/\Fr T w w8/\∀k,T1 k->T k\/w.heap.size<=k)
section
variable{b u n Ba ub:Nat}{h:Hp}{c:Cf}{A:AG}{rs:List Nat}{T S:Nat->Prop}{φ L:Nat->Nat}{ns bs:Int}{w w1 w5 w6:World}
theorem Bt(v:kP (fun _=>True) h c A rs φ L Ba u ub none 0 ns bs S w)(C:∀k,T k↔kT h ub S k)(a:c.kind=1)(hf:GM w w1){e:Ending}(ho:rv h.m h.rb h.rg c.Pg c.W c.Fs A rs (2*c.Pg+c.Wd-Ba) (2*c.Pg+c.Wd-Ba+c.Wd) c.block c.Ah S w1 e w5):
  ∃y tp,e= .returned (.tuple #[.pointer (some ⟨y,0,none⟩),(0:Int)])/\my w5 h.b c h.m h.rb ub none ns bs/\(∀D cs t,w.heap.size<=D->aJ w1 D cs t->aJ w5 D cs t)/\∀w6,Fr (fun k=>k=h.b) w5 w6->my w6 h.b c h.m h.rb ub (some y) ns bs->Gx h.b h.m h.rb c ns bs A rs T w (2*c.Pg+c.Wd-Ba) y tp c.Wd w6:=by
 have B:=v.Qa hf;have j:=v.half.other (by omega);have X:=j.le;have J:=j.top;generalize 2*c.Pg+c.Wd-Ba=To at ho j X J ⊢;obtain ⟨O,s,V,hg,φ',L',S',l,rfl,r1,r2,r3,r4,r5,r6,r7,q1,q2,q3,q4,q5,q6,q7,q8,N,ap,Z⟩:=ho;obtain ⟨ad,_⟩:=v.Qs.W5;have f:=B.lt;have ak:=hf.size;have ao:=N.size;obtain ⟨e1,P,e3,e4,e5,E,e7,e8,e9⟩:=v.e;have hd:=v.d;have ai:cO<w1.heap.size:=cl (B.Qp 0 0 rfl);have F:my w5 h.b c h.m h.rb ub none ns bs:=aJ.frame B.Qd N (fun r=>r.elim (fun r=>(hd _ r).1 rfl) (fun e=>P e));have ah:=aJ.lt F;refine ⟨O.y,To+A.Wd l,rfl,F,fun D cs t af hb=>aJ.frame hb N (fun r=> ?_),fun w6 q Q=> ?_⟩
 ·have I:=v.lt;have h3:=I h.rg (.inr (.inr (.inr (.inl rfl))));rcases r with r|r
  ·have:=I D (.inl r);omega
  ·omega
 have R:∀k,S' k->k<w5.heap.size:=q2.lt;have p:∀k,S' k->k≠h.b/\k≠h.rb/\k≠h.rg/\k≠ub/\k≠cO:=fun k a=>by
  rcases q8 k a with x|x
  ·exact hd k x
  ·have h2:=f h.b (.inr (.inl rfl));have h3:=f h.rb (.inr (.inr (.inl rfl)));have h4:=f h.rg (.inr (.inr (.inr (.inl rfl))));have h5:=f ub (.inr (.inr (.inr (.inr rfl))));exact ⟨by omega,by omega,by omega,by omega,by omega⟩
 have al:=q.size;obtain ⟨Us,z⟩:=q2.su;refine ⟨fun w7 g=> ?_,fun w7 g=> ?_,fun w7 w8 g hp=> ?_⟩
 ·have o:=(z.stays q (fun k a=>(p k a).1) (Ne.symm E)).stays g (fun _ _ h=>h) id;obtain ⟨Hg,Sm,mp,M,fw,n,p1,p2,p3,p4,p5⟩:=o;have x:=AR p1.Qd p1.Xe (by rw [p1.Qe,r2];omega);refine x.mono ?_;rintro e w' ⟨rfl,h2⟩;rw [p1.Qe,r2,Z];exact ⟨rfl,h2⟩
 ·have o:=(z.stays q (fun k a=>(p k a).1) (Ne.symm E)).stays g (fun _ _ h=>h) id;obtain ⟨Hg,Sm,mp,M,fw,n,p1,p2,p3,p4,p5⟩:=o;have hm:=p1.mem;rw [r1,r4] at hm;exact uM (aJ.frame Q g id) hm To (To+A.Wd l) (by omega) q5 J
 ·obtain ⟨K,U,Y,aj,G⟩:=hp;have am:=g.size;have an:=G.size;have i:Fr (fun k=>k=h.b) w5 w8:=(q.trans g GN).trans G (fun _ h=> .inl h);have H:A.Wd l<=c.Wd:=by omega
  refine ⟨l,s.nb,kT h K S',q3,⟨h,φ',L',To,K,some O.y,ns,bs,S',rfl,⟨v.Qs,U,q6.frame i (Ne.symm e1) (Ne.symm P),Y,aS q7 i (Ne.symm E),q4,v.Sl,H,j,⟨a,O,s,V,hg,_,0,0,q1,⟨Us,trivial,z.stays i (fun k a=>(p k a).1) (Ne.symm E)⟩,rfl,r1,r2,r3,by rw [r5];congr 1;omega,r4,r6,r7⟩,fun k a=> ?_,e1,P,?_,?_,?_,E,e7,?_,e9⟩,fun k=>dX⟩,?_,?_⟩
  ·have h9:=R k a;have:=p k a;exact ⟨this.1,this.2.1,this.2.2.1,by omega,this.2.2.2.2⟩
  ·have:=f h.b (.inr (.inl rfl));omega
  ·have:=f h.rb (.inr (.inr (.inl rfl)));omega
  ·have:=f h.rg (.inr (.inr (.inr (.inl rfl))));omega
  ·omega
  ·refine (((hf.mono GN).trans N (fun k a=> .inl ?_)).trans i (fun k a=> .inl ?_))
   ·exact (C k).2 (a.elim .inl (fun e=> .inr (.inr (.inr (.inl e)))))
   ·exact (C k).2 (.inr (.inl a))
  ·rintro k (a|a|a|a|a)
   ·rcases q8 k a with x|x
    ·exact .inl ((C k).2 (.inl x))
    ·exact .inr (by omega)
   ·exact .inl ((C k).2 (.inr (.inl a)))
   ·exact .inl ((C k).2 (.inr (.inr (.inl a))))
   ·exact .inl ((C k).2 (.inr (.inr (.inr (.inl a)))))
   ·exact .inr (by omega)
theorem qQ(hi:eX b c A rs u 0 T w)(hk:c.kind=1):Calls prog 58 #[b] w (CX b c A rs T w):=by
 obtain ⟨h,φ,L,Ba,ub,cy,ns,bs,S,rfl,f,hT,aC⟩:=hi;obtain rfl:=aC rfl;have X:=ae (si f.Qs f.Qd f.Yb (by have:=f.half.le;omega));have s:=ae (fun w1 (hf:GM w w1)=>(show Calls prog 129 #[h.m,h.rb,gY Ba (Ba+u) (2*c.Pg+c.Wd-Ba) (2*c.Pg+c.Wd-Ba+c.Wd) c.block c.stack c.Ah] w1 (rv h.m h.rb h.rg c.Pg c.W c.Fs A rs (2*c.Pg+c.Wd-Ba) (2*c.Pg+c.Wd-Ba+c.Wd) c.block c.Ah S w1) from by
  obtain ⟨_,Us,Hg,mp,hm,aQ⟩:=(f.Qa hf).mem;refine callsIn_wide.1 (AX 0 hm (f.Qa hf).roots (f.Qa hf).Qp (fun h=>(f.d _ h).2.2.2.2 rfl) ⟨fun h=>(f.d _ h).2.1 rfl,fun h=>(f.d _ h).2.2.1 rfl⟩ f.e.2.2.2.2.2.2.1 Ba (Ba+u) _ _ c.block c.stack c.Ah (f.half.conf f.Qs (by omega) f.fits) f.laid (by have:=f.Qs.Yp;have:=f.Sl;omega) (by have:=f.fits;omega) aQ ?_ f.Qs.div);unfold Cf.Fs Cf.spare;rw [aG hk,cM];rfl))
 have ax:=ae (fun w1 w5 e (hf:GM w w1) ho=>Bt (e:=e) (w5:=w5) f hT hk hf ho);have am:=ae (fun u n t w1 (hj:C5 h.b c A rs u n t w1)=>tj hj);have U:=ae f.Qd;have aF:Hid ((prog.info? 143).map (·.size)=some 7):=by show _=_;kernel_rfl
 have aT:=ae (Bw Ba (Ba+u:Nat) (2*c.Pg+c.Wd-Ba:Nat) (2*c.Pg+c.Wd-Ba+c.Wd:Nat) c.block c.stack c.Ah);have HQ:Hid (∀w1 e w2 l n t,dE A rs l->Fr T w w1->(∀k,t k->T k\/w.heap.size<=k)->Fo h.b c A rs (A.Wd l) n t w1 e w2->e= .returned (.tuple #[])/\CX h.b c A rs T w (.returned (.tuple #[])) w2):=by
  show∀w1 e w2 l n t,_
  rintro w1 e w2 l n t g0 g1 g2 ⟨rfl,T2,g3,g4,g5⟩;have hz:=g1.size;exact ⟨rfl,rfl,l,n,T2,g0,g3,g1.trans g4 g2,fun k hk=>(g5 k hk).elim (g2 k) (fun h=> .inr (by omega))⟩
 clear f hT aC;unfold gY at X s;generalize (CX h.b c A rs T w)=Q at*;generalize 2*c.Pg+c.Wd-Ba=To at*;generalize To+c.Wd=Li at*;generalize Ba+u=Tp at*;obtain ⟨b,m,rb,rg⟩:=h;dsimp only at*
 go_enter func58,ntmps58
 go_wp2_with fail
 refine X.out.mono ?_;rintro e w2 ⟨rfl,af⟩;obtain ⟨z,ay⟩:∃z,w2.alloc (.cells #[(Ba:Int),(Tp:Int),(To:Int),(Li:Int),((c.block:Int):Int),((c.stack:Int):Int),((c.Ah:Int):Int)] 143)=z:=⟨_,rfl⟩;have K:GM w z.drew:=by rw [<-ay];exact (af.alloc _).drew
 have V:Hid (aJ z.drew w2.heap.size [(Ba:Int),(Tp:Int),(To:Int),(Li:Int),((c.block:Int):Int),((c.stack:Int):Int),((c.Ah:Int):Int)] 143):=by rw [<-ay];exact ae (aJ.new w2 _ _)
 have Y:my z.drew b c m rb ub none ns bs:=aJ.frame U.out K id;have k8:=aJ.cell Y 8 rfl;have k9:=aJ.cell Y 9 rfl;have N:=ae (s.out z.drew K);have O:=ae (fun w5 e ho=>ax.out z.drew w5 e K ho);have C:Hid (∀e w5,rv m rb rg c.Pg c.W c.Fs A rs To Li c.block c.Ah S z.drew e w5->z.drew.heap.size<w5.heap.size):=ae (fun e w5 h=>by
  obtain ⟨_,_,_,_,_,_,_,_,_,_,_,_,_,_,_,_,_,_,_,_,_,_,_,_,_,i,_⟩:=h;exact i)
 have I:Hid (∀e w5,rv m rb rg c.Pg c.W c.Fs A rs To Li c.block c.Ah S z.drew e w5->∃y,e= .returned (.tuple #[.pointer (some ⟨y,0,none⟩),(0:Int)])):=ae (fun e w5 h=>by
  obtain ⟨_,_,_,_,_,_,_,_,i,_⟩:=h;exact ⟨_,i⟩)
 generalize (rv m rb rg c.Pg c.W c.Fs A rs To Li c.block c.Ah S z.drew)=OPN at*;have ap:=ae af;have al:=U;clear af X K Y s ax U;generalize c.block=bk at*;generalize c.stack=sk at*;generalize c.Ah=ad at*;have s:=N;clear N;go_wp2;refine dw 15 9 (fun a B=>(B=a\/a=z.drew)/\a.heap.size<=B.heap.size) (fun a B=>B=a) [.c b,.c b,.c (.pointer (some ⟨b,8,none⟩)),.c m,.c b,.c b,.c (.pointer (some ⟨b,9,none⟩)),.c rb,.c (.agg #[(Ba:Int),(Tp:Int),(To:Int),(Li:Int),(bk:Int),(sk:Int),(ad:Int)]),.p (fun v w'=>OPN (.returned v) w'),.p (fun v w'=>OPN (.returned v) w'),.p (fun v w'=>∃y,v= .pointer (some ⟨y,0,none⟩)/\OPN (.returned (.tuple #[.pointer (some ⟨y,0,none⟩),(0:Int)])) w'),.c (0:Int),.p (fun v w'=>∃y,v= .pointer (some ⟨y,0,none⟩)/\OPN (.returned (.tuple #[.pointer (some ⟨y,0,none⟩),(0:Int)])) w'),.c (0:Int)] (fun j=>false) (fun _=>rfl) (fun _ _ h=>⟨.inl h,by rw [h];exact ak _⟩) (fun _ _ _ i r=>r.trans i) (fun _ _ _ i r=>by subst r;exact i) (fun _ _ _ i r=>by subst i;exact r) (fun _ _ h=>h.2) ⟨fun v w1 w2 h o=>by subst o;exact h,fun v w1 w2 h o=>by subst o;exact h,fun v w1 w2 h o=>by subst o;exact h,fun v w1 w2 h o=>by subst o;exact h,trivial⟩ ⟨.inl rfl,.inr (fun v w1 w2 h o=>by rcases o.1 with e|e;(subst e;exact h);(subst e;exact absurd (C.out _ _ h) (gJ _))),.inr (fun v w1 w2 h o=>by rcases o.1 with e|e;(subst e;exact h);(subst e;obtain ⟨y,_,h⟩:=h;exact absurd (C.out _ _ h) (gJ _))),.inr (fun v w1 w2 h o=>by rcases o.1 with e|e;(subst e;exact h);(subst e;obtain ⟨y,_,h⟩:=h;exact absurd (C.out _ _ h) (gJ _))),trivial⟩ ?_;intro F hF;simp only [fp,PK.val,ai,an,aa] at hF;subst hF;refine ⟨by
  refine ⟨?_,?_,?_,?_,?_,?_,?_,?_,?_,?_,?_,?_,?_,?_,?_,trivial⟩<;>intro vs w1 f q hd hx
  all_goals try (apply oV;rotate_left;rfl;exact rfl;go_simp;done)
  all_goals try (apply oV;rotate_left;rfl;exact rfl;have E:=q (by kernel_rfl);subst E;go_simp;done)
  ·have E:=q (by kernel_rfl);subst E;refine ba (.agg #[(Ba:Int),(Tp:Int),(To:Int),(Li:Int),(bk:Int),(sk:Int),(ad:Int)]) ?_ ⟨rfl,rfl,fun h=>nomatch h⟩;exact jf rfl w2.heap.size rfl 143 _ (0,0) _ V.out underlying143 rfl aF.out
  ·have E:=q (by kernel_rfl);subst E;refine bm 129 #[m,rb,.agg #[(Ba:Int),(Tp:Int),(To:Int),(Li:Int),(bk:Int),(sk:Int),(ad:Int)]] (by go_simp) (s.out.mono ?_);intro e w5 hp;have hz:=C.out e w5 hp;obtain ⟨y,rfl⟩:=I.out e w5 hp;exact ⟨_,rfl,hp,⟨.inr rfl,d9 hz⟩,fun h=>nomatch h⟩
  ·have h9:=hd 9 (by kernel_rfl);refine ba (vs 9) (by go_simp) ⟨h9,rfl,fun h=>nomatch h⟩
  ·have g:=hd 10 (by kernel_rfl);have g:OPN (.returned (vs 10)) w1:=g;obtain ⟨y,R⟩:=I.out _ _ g;have aE:=Ending.returned.inj R;rw [aE] at g;refine ba (.pointer (some ⟨y,0,none⟩)) (by go_simp) ⟨⟨y,rfl,g⟩,rfl,fun h=>nomatch h⟩
  ·have g:=hd 10 (by kernel_rfl);have g:OPN (.returned (vs 10)) w1:=g;obtain ⟨y,R⟩:=I.out _ _ g;have aE:=Ending.returned.inj R;clear R g;refine ba (.int .i64 0) (by go_simp) ⟨rfl,rfl,fun h=>nomatch h⟩
  ·have aN:=hd 11 (by kernel_rfl);obtain ⟨y,R,ho⟩:=aN;refine ba (.pointer (some ⟨y,0,none⟩)) (by go_simp) ⟨⟨y,rfl,ho⟩,rfl,fun h=>nomatch h⟩
  ,fun vs w1 f hp hx=> ?_⟩
 obtain ⟨g9,aK,aL,aM,_⟩:=hp;obtain ⟨y,R,Xm⟩:=aM;simp only [R];clear g9 aK aL hx R f;simp only [aj,ao];obtain ⟨y',tp,e1,J,P,hJ⟩:=O.out _ _ Xm;have e2:y=y':=by
  have i:=congrArg (fun x=>match x with|Ending.returned (.tuple #[.pointer (some a),_])=>a.block|_=>0) e1;exact i
 subst e2;have aB:=P _ _ _ ap.out.size V.out;clear e1 P Xm V s C I O k8 k9;have ah:Fr (fun k=>k=b) w1 (w1.setCell ⟨b,11,none⟩ (.pointer (some ⟨y,0,none⟩))):=(GQ (fun k=>k=b) w1).setCell ⟨b,11,none⟩ (.inl rfl) _;have aP:=aJ.lt al.out;have D:=hJ _ ah (J.set 11 (.pointer (some ⟨y,0,none⟩)));have Z:=aJ.frame aB ah (fun e=>by have:=ap.out.size;omega);have aR:=aJ.cell J 11 rfl;have aH:=aJ.free J 11;obtain ⟨G,az⟩:∃G,w1.setCell ⟨b,11,none⟩ (.pointer (some ⟨y,0,none⟩))=G:=⟨_,rfl⟩;rw [az] at D Z;have aw:=ae (fun w1 (hf:GM G.drew w1)=>D.1 w1 (((GQ (fun _=>False) G).drew).trans hf GN));have ar:=ae (fun w1 (hf:GM G.drew w1)=>D.2.1 w1 (((GQ (fun _=>False) G).drew).trans hf GN));have au:=ae (fun w1 w8 (hf:GM G.drew w1) hp=>D.2.2 w1 w8 (((GQ (fun _=>False) G).drew).trans hf GN) hp);have aq:=ae (fun w1 (hf:GM G.drew w1)=>(aJ.frame Z (((GQ (fun _=>False) G).drew).trans hf GN) id).cell 2 rfl);clear hJ D aB Z J ah aP;go_wp2;clear az aR aH;refine dw 6 5 (fun a B=>(GM a B\/True)/\a.heap.size<=B.heap.size) (fun a B=>GM a B) [.c b,.c (.pointer (some ⟨w2.heap.size,2,none⟩)),.c (To:Int),.c y,.c (tp:Int),.p (fun _ w'=>∃l n t,dE A rs l/\C5 b c A rs (A.Wd l) n t w'/\Fr T w w'/\∀k,t k->T k\/w.heap.size<=k)] (fun j=>false) (fun _=>GQ _ _) (fun _ _ h=>⟨.inl h,h.size⟩) (fun _ _ _ i r=>i.trans r GN) (fun _ _ _ i r=>⟨i.1.elim (fun h=> .inl (h.trans r GN)) (fun h=> .inr trivial),aZ i.2 r.size⟩) (fun _ _ _ i r=>⟨.inr trivial,aZ i.size r.2⟩) (fun _ _ h=>h.2) ⟨fun v w1 w2 h o=>let ⟨l,n,t,i,r,h3,h4⟩:=h;⟨l,n,t,i,r.Qa o,h3.trans o GN,h4⟩,trivial⟩ ⟨.inl rfl,trivial⟩ ?_;intro F hF;simp only [fp,PK.val,ai,an,aa] at hF;subst hF;refine ⟨by
  refine ⟨?_,?_,?_,?_,?_,?_,trivial⟩<;>intro vs w1 f q hd hx
  all_goals try (apply oV;rotate_left;rfl;exact GQ _ _;go_simp;done)
  all_goals try (apply oV;rotate_left;rfl;exact GQ _ _;have k2:=aq.out w1 (q (by kernel_rfl));go_simp;done)
  ·refine bm 130 #[y] (by go_simp) ((aw.out w1 (q (by kernel_rfl))).mono ?_);rintro e w5 ⟨rfl,hf⟩;exact ⟨_,rfl,rfl,hf,fun h=>nomatch h⟩
  ·have aD:=q (by kernel_rfl);refine bm 73 #[b,(To:Int),(tp:Int)] (by go_simp) ((ar.out w1 aD).mono ?_);rintro e w5 ⟨rfl,hp⟩;exact ⟨_,rfl,au.out w1 w5 aD hp,⟨.inr trivial,hp.size⟩,fun h=>nomatch h⟩
  ,fun vs w1 f hp hx=> ?_⟩
 obtain ⟨g5,_⟩:=hp;obtain ⟨l,n1,t,b1,B,b3,b4⟩:=g5;clear hx f;simp only [aj,ao];have M:=ae (am.out _ _ _ _ B);have av:=ae (fun e w2 he=>HQ.out w1 e w2 l n1 t b1 b3 b4 he);clear am HQ b1 B b3 b4 aw ar au aq;go_wp2_with fail
 refine M.out.mono ?_;intro e w7 he;obtain ⟨rfl,hq⟩:=av.out _ _ he;have H:=ae hq;clear he hq M av;go_wp2;go_end0;exact H.out
end
end Go.Proofs.YthahbijbpinneaaGreatDoor
