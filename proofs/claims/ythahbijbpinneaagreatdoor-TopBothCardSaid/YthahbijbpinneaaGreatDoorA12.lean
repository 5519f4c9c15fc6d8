import Derived.Test.YthahbijbpinneaaGreatDoorA0
import Derived.Test.YthahbijbpinneaaGreatDoorA8
import Derived.Test.YthahbijbpinneaaGreatDoorA9
import Derived.Test.YthahbijbpinneaaGreatDoorA10
import Derived.Test.YthahbijbpinneaaGreatDoorA11
set_option maxRecDepth 100000
set_option maxHeartbeats 8000000
set_option linter.all false
namespace Go.Proofs.YthahbijbpinneaaGreatDoor
open Go.RowKit Go.Proofs.Tryz
section
variable{m b g Pg W Fs Us Hg:Nat}{S:Nat->Prop}{mp:Nat->Bool}{L:Nat->Nat}{w:World}
def yE(m b g Pg W Fs:Nat)(A:AG)(rs:List Nat)(T Li:Nat)(S:Nat->Prop)(w:World)(e:Ending)(w':World):Prop:=
 ∃(φ' L':Nat->Nat) (S':Nat->Prop) (used' Hg':Nat) (mp':Nat->Bool) (l:List Nat),e= .returned (.tuple #[(((T+A.Wd l:Nat):Int):Int),(0:Int)])/\dY m Pg W Fs used' Hg' mp' L' S' w'/\(∀q,mp' q=(decide (T<=q*Pg)&&decide (q*Pg<T+A.Wd l)))/\dE A rs l/\cP A rs φ' L' T (T+A.Wd l)/\T+A.Wd l<=Li/\dt w' b g (rs.map φ')/\et w'/\(∀k,S' k->S k\/w.heap.size<=k)/\Fr (fun k=>S k\/k=g) w w'
theorem Ez.fr{kb wb:Nat}{S0:Nat->Prop}{w0:World}{sz d:Nat->Nat}{a:Nat}{R:Nat->Prop}{ls rs:List Nat}{cur:Nat}(h:Ez m Pg W Fs Us Hg mp kb wb S0 w0 L sz d a R ls rs cur w):Fr (fun k=>S0 k\/k=kb\/k=wb) w0 w:=by
 obtain ⟨e,s,c,⟨⟨i,j,f,l⟩,_⟩,_⟩:=h;exact f
theorem DV{A:AG}{rs:List Nat}{φ:Nat->Nat}(hi:dY m Pg W Fs Us Hg mp L S w)(hr:dt w b g (rs.map φ))(hT:et w)(K:¬S cO)(u:¬S b/\¬S g)(aD:g≠cO)(F Tp T Li B Rm ah:Nat)(hc:nh Pg W F Tp T Li B Rm ah)(hl:cP A rs φ L F Tp)(cA:1<=rs.length)(J:Tp-F<=Li-T)(ad:∀q,mp q=(decide (F<=q*Pg)&&decide (q*Pg<Tp)))(Y:Us+(Li-T)/Pg<=Fs):
  Calls prog 72 #[m,b,gY F Tp T Li B Rm ah] w (yE m b g Pg W Fs A rs T Li S w):=by
 have p:=cw m Pg W Fs Us Hg mp;have cG:=hi.choose_spec.1.at;obtain ⟨ar,aG,a0,a7,dr,dq,di,ds,aY⟩:=cG;have a8:=p.lt _ _ _ hi;have aL:cO<w.heap.size:=cl (hT 0 0 rfl);have aH:=hr.Qd.lt;have aK:=hr.row.lt;obtain ⟨G,Q⟩:=hl.conc;have hG:=gH.sound hl Q;have aP:=hc.F1;have au:=hc.F2;have av:=hc.F3;have af:=hc.T1;have aQ:=hc.T2;have aR:=hc.T3;have aw:=hc.F4;have al:=hc.T4;have ay:=hc.L4;have am:=hc.ap;have ax:F=F/Pg*Pg:=by have:=aM F Pg;rw [aN];omega
 have aT:T=T/Pg*Pg:=by have:=aM T Pg;rw [aN];omega
 have f:∀k,F<=k->k<Tp->dD W Pg mp k:=fun k h1 R=>by
  refine ⟨by omega,?_⟩;have h3:=aX Pg (bi (c:=Pg) h1);have h4:=bE k Pg;rw [ad,aB (show F<=k/Pg*Pg by omega),aB (show k/Pg*Pg<Tp by omega)];rfl
 have hO:=gH.obj hl Q f (by omega);have aq:=gH.low hl Q;obtain ⟨W1,bd⟩:∃W1,w.alloc (.cells #[(F:Int),(Tp:Int),(T:Int),(Li:Int),(B:Int),(Rm:Int),(ah:Int)] 143)=W1:=⟨_,rfl⟩;have I:GM w W1:=by rw [<-bd];exact (GQ _ w).alloc _
 have az:aJ W1 w.heap.size [(F:Int),(Tp:Int),(T:Int),(Li:Int),(B:Int),(Rm:Int),(ah:Int)] 143:=by rw [<-bd];exact aJ.new w _ _
 have bc:W1.heap.size=w.heap.size+1:=by rw [<-bd,World.size_alloc]
 have b0:=ae (callsIn_wide.1 (Ae 0 (p.Qa hi I) (hr.frame I id id) (aS hT I id) K F Tp T Li B Rm ah hc hG hO aq (by rw [bL];exact cA) J));unfold gY at b0;unfold gY;obtain ⟨k0,k1,k2,k3,k4,k5,k6,_⟩:=GU az;have dB:F<=524288/\Tp<=524288/\T<=524288/\Li<=524288:=by omega
 have dl:(rs.map φ).length=rs.length:=bL _;have dJ:∀(fn:Fn) (first cap:Array Value) (w:World),(Instr.makeFunc fn first cap).run prog w= .ok (.func fn first cap) w:=fun _ _ _ _=>rfl
 have dK:∀(t:TypeId) (w:World),(Instr.makeMap t none).run prog w= .ok (.map (some w.heap.size)) (w.alloc (.map #[] 0)):=fun _ _=>rfl
 have HA:=ae (ag hi (ag hr (ag hT (ag K (ag u (ag aD (ag hc (ag hl (ag J (ag ad (ag Y (ag p (ag a8 (ag Q (ag hG (ag f (ag I (ag hO aq))))))))))))))))));have HB:=ae (ag ar (ag aG (ag a0 (ag a7 (ag aY (ag aL (ag aH (ag aK (ag bc (ag aP (ag au (ag av (ag af (ag aQ (ag aR (ag aw (ag al (ag ay (ag am (ag ax aT))))))))))))))))))));have cf:=ae az;have cj:Hid (∀E S1 w2,dY m Pg W Fs Us Hg mp L S1 w2->(∀k,S1 k->S k\/W1.heap.size<=k)->(∀a,E a≠0↔Reach G (rs.map φ) a)->fQ G (rs.map φ) E->Fr S W1 w2->Qb (aI E) 0 W<=Li-T/\lX A rs φ E/\Qb (aI E) 0 W=Qb (aI E) 0 Tp/\
   Calls prog 144 #[m,(T:Int),(((T:Int)+((Qb (aI E) 0 W:Nat):Int)):Int)] w2 fun e w'=>e= .returned (0:Int)/\∃S' ce cW cQ L',dY m Pg W Fs ce cW cQ L' S' w'/\(∀q,cQ q=(mp q||(decide (T<T+Qb (aI E) 0 W)&&decide (T/Pg<=q)&&decide (q<=(T+Qb (aI E) 0 W-1)/Pg))))/\(∀b,dD W Pg mp b->L' b=L b)/\Fr S1 w2 w'/\∀k,S' k->S1 k\/w2.heap.size<=k):=by
  show∀E S1 w2,_
  intro E S1 w2 q1 q2 q3 q4 q5;have dg:=gH.ext hl Q q3 q4;have h0:Qb (aI E) 0 W=Qb (aI E) 0 Tp:=by
   rw [bJ (aI E) (aF Tp) av,cu (a:=Tp) (b:=W) (fun i hi _=>by
    rw [be];intro cb;obtain ⟨s,s1,s2⟩:=cX.1 cb;have h6:=q4 s (by omega);have:=hG.top s (by omega);omega),bg]
  have h1:Qb (aI E) 0 Tp<=Tp-F:=by
   rw [bJ (aI E) (aF F) au,cu (a:=0) (b:=F) (fun i _ hi=>by
    rw [be];intro cb;obtain ⟨s,s1,s2⟩:=cX.1 cb;have h6:=q4 s (by omega);have:=aq s (by omega);omega),br]
   exact dR _ _ _
  have R:Qb (aI E) 0 W<=Li-T:=by omega
  have h3:=zD q1 T (T+Qb (aI E) 0 W) (by omega) (aZ (mE (Ai ar al af ay (by omega)) Us) Y);rw [Int.natCast_add] at h3;exact ⟨R,dg,h0,h3⟩
 clear hi hr hT K u aD hc hl J ad Y p a8 Q hG f I ar aG a0 a7 dr dq di ds aY aL aH aK aP au av af aQ aR aw al ay am ax aT hO aq cA az
 go_enter func72,ntmps72
 go_wp2_with fail
 clear bd;refine b0.out.mono ?_;rintro e w2 ⟨E,S1,rfl,q1,q2,q3,q4,q5⟩;obtain ⟨r1,r2,r3,r4⟩:=cj.out E S1 w2 q1 q2 q3 q4 q5;obtain ⟨n,hn⟩:∃n,n=Qb (aI E) 0 W:=⟨_,rfl⟩;rw [<-hn] at r1 r3 r4;rw [<-hn];have bF:=ae r4;have a9:=ae (ag q1 (ag q2 (ag q3 (ag q4 (ag q5 (ag r1 (ag r2 (ag r3 hn))))))));have dL:n<=524288:=by omega
 have bf:¬S w.heap.size:=fun h=>by have R:=HA.out.2.2.2.2.2.2.2.2.2.2.2.2.1 _ h;omega
 have b8:=cf.out.frame q5 bf;have cg:=ae b8;have k2:=b8.cell 2 rfl;have dX:IntKind.i64.wrap ((T:Int)+(n:Int))=(T:Int)+(n:Int):=by rw [IntKind.wrap_i64];omega
 clear q1 q2 q3 q4 q5 r1 r2 r3 r4 hn cj b0 k0 k1 k3 k4 k5 k6 b8;go_wp2_with fail
 refine bF.out.mono ?_;rintro e w3 ⟨rfl,S3,C,z,O,L3,t1,t2,t3,t4,t5⟩;clear bF k2;obtain ⟨q1,q2,q3,q4,q5,r1,r2,r3,hn⟩:=a9.out;obtain ⟨hi,hr,hT,K,u,aD,hc,hl,J,ad,Y,p,a8,Q,hG,f,I,hO,aq⟩:=HA.out;obtain ⟨ar,aG,a0,a7,aY,aL,aH,aK,bc,aP,au,av,af,aQ,aR,aw,al,ay,am,ax,aT⟩:=HB.out;have bk:=q5.size;have bl:=t4.size;have d:∀k,k<w.heap.size+1->¬S k->¬S1 k/\¬S3 k:=fun k hk hs=>by
  have h1:¬S1 k:=fun h=>(q2 k h).elim hs (fun h=>by omega)
  exact ⟨h1,fun h=>(t5 k h).elim h1 (fun h=>by omega)⟩
 have aC:=cg.out.frame t4 (d _ (bI _) bf).1;have k2:=aC.cell 2 rfl;have dz:=(aC.frame ((GQ (fun _=>False) w3).alloc (.map #[] 0)) id).cell 2 rfl;have cM:=((hr.frame I id id).frame q5 u.1 u.2).frame t4 (d b (by omega) u.1).1 (d g (by omega) u.2).1;have U:=aS (aS (aS hT I id) q5 K) t4 (d _ (by omega) K).1;have aE:cP A rs φ L3 F Tp:=hl.congr (fun k h1 R=>t3 k (f k h1 R));obtain ⟨hp,hf,hg,cz⟩:=hl.heads;have N:∀x,Reach A.gr rs x->E (φ x)=A.sz x/\hp (φ x)=A.np x:=fun x H=>⟨r2.size x H,(cz x H).1⟩
 have bW:∀k,k<W->mp (k/Pg)=true->dD W Pg O k:=fun k h1 R=>⟨h1,by rw [t2,R];rfl⟩
 have b6:C1 L3 E hp T (T+n) (fun a=>∃x,Reach A.gr rs x/\φ x=a):=by
  refine aE.cpr N (by
   rcases am with h|h
   ·right;omega
   ·left;have h1:Tp<=(Tp+Pg-1)/Pg*Pg:=by
     have R:=aM (Tp+Pg-1) Pg;have h3:=bO (Tp+Pg-1) (show 0<Pg by omega);rw [aN] at R;omega
    omega) (fun l h1 R=> ?_)
  refine mE ?_ T;rw [hn];refine xB E W l (aI E) h1 (fun a ha=> ?_) (fun a ha c c9 dm=> ?_)
  ·obtain ⟨x,H,rfl⟩:=R a ha;have h4:=hl.Qn x H;rw [(N x H).1];exact ⟨by omega,fun k k1 k2=>cX.2 ⟨φ x,k1,by rw [(N x H).1];omega⟩⟩
  ·obtain ⟨x,H,rfl⟩:=R a ha;obtain ⟨y,hy,rfl⟩:=R c c9;rw [(N x H).1,(N y hy).1];exact hl.apart x y H hy (fun e=>dm (by rw [e]))
 have b5:EA L3 E hp T (T+n) (fun a=>∃x,Reach A.gr rs x/\φ x=a) (dD W Pg O):=by
  refine aE.cpd2 N (fun k h1 R=> ?_) (fun k h1 R=>⟨by omega,?_⟩) (by omega) (by omega) (by omega)
  ·have h3:=f k h1 R;exact bW k h3.1 h3.2
  ·rw [t2];have h4:T/Pg<=k/Pg:=bi h1;have h5:k/Pg<=(T+n-1)/Pg:=bi (by omega);rw [aB (show T<T+n by omega),aB h4,aB h5];simp
 obtain ⟨W5,a6⟩:∃W5,(w3.alloc (.map #[] 0)).alloc (.cells #[m,.map (some w3.heap.size),(T:Int)] 230)=W5:=⟨_,rfl⟩;have o:GM w3 W5:=by rw [<-a6];exact ((GQ _ w3).alloc _).alloc _
 have bn:W5.heap.size=w3.heap.size+2:=by rw [<-a6,World.size_alloc,World.size_alloc]
 have cE:=p;have P:=(cw m Pg W Fs C z O).lt _ _ _ t1;have ct:AD m Pg W Fs C z O (w3.heap.size+1) w3.heap.size L3 (fun _=>none) 0 T S3 W5:=by
  refine ⟨?_,(cw m Pg W Fs C z O).Qa t1 o,?_,fun h=>by have:=P _ h;omega,fun h=>by have:=P _ h;omega,by omega⟩
  ·rw [<-a6];have:=aJ.new (w3.alloc (.map #[] 0)) [m,.map (some w3.heap.size),(T:Int)] 230;rwa [World.size_alloc] at this
  ·rw [<-a6];exact (sh w3).frame ((GQ (fun _=>False) _).alloc _) id
 have cN:=cM.frame o id id;have c8:b<w3.heap.size/\g<w3.heap.size:=by omega
 have cq:C7 m Pg W Fs C z O (w3.heap.size+1) w3.heap.size g S3 W5 L3 E hp T (fun a=>∃x,Reach A.gr rs x/\φ x=a) (rs.map φ) [] W5:=
  ⟨[],⟨L3,fun _=>none,0,T⟩,⟨S3,ct,GQ _ _,fun _ h=> .inl h⟩,kH.none _ _ _ _,fun x H=>absurd H bq,aF _,fun i a hi=>absurd hi (fb i)⟩
 have cm:=ae (Af b6 b5 cq cN (fun a ha=>by
  obtain ⟨x,H,rfl⟩:=bu.1 ha;by_cases h0:x=0
  ·left;rw [h0];exact hl.zero
  ·exact .inr ⟨x,.root H h0,rfl⟩) (by omega) (by omega) (d g (by omega) u.2).2 (d b (by omega) u.1).2 (by omega))
 have HU:=ae (fun bp w6 (hu:C7 m Pg W Fs C z O (w3.heap.size+1) w3.heap.size g S3 W5 L3 E hp T (fun a=>∃x,Reach A.gr rs x/\φ x=a) (rs.map φ) bp w6) (dk:bp.length=(rs.map φ).length)=>C7.loop hu dk);have HC:=ae (ag b6 b5);have HY:=ae (ag d (ag aC (ag U (ag aE (ag N (ag o (ag bn (ag P (ag t1 (ag t2 (ag t4 (ag t5 (ag bk bl)))))))))))));clear q1 q2 q3 q4 q5 r1 r2 r3 hn hi hr hT K u aD hc hl J ad Y p a8 Q hG f I hO aq ar aG a0 a7 aY aL aH aK bc aP au av af aQ aR aw al ay am ax aT bk bl d aC cM U aE cz N bW b6 b5 o bn cE P ct cN c8 cq t1 t2 t3 t4 t5
 go_upto_region 8 with fail
 clear a6 k2 dz;go_wp2_with fail
 refine cm.out.mono ?_;rintro e w6 ⟨rfl,bp,u1,u2,u3⟩;obtain ⟨S6,v1,v2,v3⟩:=HU.out bp w6 u3 u1;obtain ⟨d,aC,U,aE,N,o,bn,P,t1,t2,t4,t5,bk,bl⟩:=HY.out;obtain ⟨hi,hr,hT,K,u,aD,hc,hl,J,ad,Y,p,a8,Q,hG,f,I,hO,aq⟩:=HA.out;obtain ⟨ar,aG,a0,a7,aY,aL,aH,aK,bc,aP,au,av,af,aQ,aR,aw,al,ay,am,ax,aT⟩:=HB.out;have bS:=v3.size;have Z:∀k,k<w.heap.size+1->¬S k->¬S6 k:=fun k hk hs h=>(v2 k h).elim (d k hk hs).2 (fun h=>by omega)
 have b9:aJ w6 w.heap.size [(F:Int),(Tp:Int),(T:Int),(Li:Int),(B:Int),(Rm:Int),(ah:Int)] 143:=
  (aC.frame o id).frame v3 (fun h=>by
   rcases h with h|h|h|h
   ·exact (d _ (bI _) bf).2 h
   ·omega
   ·omega
   ·omega)
 have bx:et w6:=aS (aS U o id) v3 (fun h=>by
   rcases h with h|h|h|h
   ·exact (d _ (by omega) K).2 h
   ·omega
   ·omega
   ·exact aD h.symm)
 have bz:∀wr,Fr (fun k=>S6 k\/k=w3.heap.size+1\/k=w3.heap.size) w6 wr->aJ wr w.heap.size [(F:Int),(Tp:Int),(T:Int),(Li:Int),(B:Int),(Rm:Int),(ah:Int)] 143:=
  fun wr hf=>b9.frame hf (fun h=>by
   rcases h with h|h|h
   ·exact Z _ (bI _) bf h
   ·omega
   ·omega)
 have ch:=ae bz;have k2:=b9.cell 2 rfl;have H6:=ae (ag u1 (ag u2 (ag v2 (ag v3 (ag bS (ag Z bx))))));have HV:=ae v1;have ck:=ae (fun cur wr hv=>Ez.next (m:=m) (Pg:=Pg) (W:=W) (Fs:=Fs) (Us:=C) (Hg:=z) (mp:=O) (kb:=w3.heap.size+1) (wb:=w3.heap.size) (S0:=S6) (w0:=w6) (ls:=rs.map φ) (rs:=bp) (cur:=cur) (w:=wr) HC.out.1 HC.out.2 hv);clear u1 u2 u3 v1 v2 v3 d aC U aE N o bn P t1 t2 t4 t5 bk bl hi hr hT K u aD hc hl J ad Y p a8 Q hG f I hO aq ar aG a0 a7 aY aL aH aK aP au av af aQ aR aw al ay am ax aT bc bS Z b9 bx bz HU cm;go_wp2;clear k2
 go_loopw [12] (fun x wr=>∃cur:Nat,x= .int .i64 cur/\Hid (Ez m Pg W Fs C z O (w3.heap.size+1) w3.heap.size S6 w6 L3 E hp T (fun a=>∃x,Reach A.gr rs x/\φ x=a) (rs.map φ) bp cur wr)) (fun x _=>(T+n+1-intOf x).toNat)
 case atStart=>exact ⟨T,rfl,HV⟩
 case round=>
  clear HV;obtain ⟨cur,rfl,hr⟩:=hrel;obtain ⟨top,a1,a2,a3,a4,a5⟩:=ck.out cur wr hr.out;have Y:=hr.out.fr;have bP:=ch.out wr Y;have e2:=a1.cell 2 rfl;have dd:(cur:Int)<=1048576:=by omega
  by_cases cc:cur<top
  ·have HS:=ae (a4 cc);have c1:(cur:Int)<(top:Int):=by omega
   clear a1 a4 a5 bP Y hr;go_wp2_with fail
   refine HS.out.mono ?_;rintro e w9 ⟨cn,g1,rfl,g2⟩;have G2:=ae g2;clear g2 HS e2;go_wp2;go_roundw
   case rel=>exact ⟨cn,rfl,G2⟩
   case measure=>simp [intOf];omega
  ·obtain ⟨dZ,s,b1,b2,b3,b4⟩:=a5 cc;have c1:¬(cur:Int)<(top:Int):=by omega
   obtain ⟨⟨S8,d1,d2,d3⟩,bj,bo⟩:=b2;obtain ⟨u1,u2,v2,v3,bS,Z,bx⟩:=H6.out;obtain ⟨d,aC,U,aE,N,o,bn,P,t1,t2,t4,t5,bk,bl⟩:=HY.out;obtain ⟨hi,dn,hT,K,u,aD,hc,hl,J,ad,cx,p,a8,Q,hG,f,I,hO,aq⟩:=HA.out;obtain ⟨ar,aG,a0,a7,aY,aL,aH,aK,bc,aP,au,av,af,aQ,aR,aw,al,ay,am,ax,aT⟩:=HB.out;have dx:=d2.size;have bb:∀k,k<w.heap.size+1->¬S k->¬S8 k:=fun k hk hs h=>(d3 k h).elim (Z k hk hs) (fun h=>by omega)
   have cp:1<=T:=by omega
   obtain ⟨φ',l,f1,f2,f3,f4⟩:=xi aE N cp bj bo b3 b4;have db:=(dE.Qb hl a9.out.2.2.2.2.2.2.1 f3).1;have cH:n<=Li-T:=a9.out.2.2.2.2.2.1;have cL:n=A.Wd l:=by
    obtain ⟨_,_,_,_,_,_,_,r3,hn⟩:=a9.out;omega
   have bw:=ae (vy.start (q0:=F/Pg) d1.mem);have bU:=ae (bw.out.pg);have bZ:=ae (fun q D (hu:vy m Pg W Fs O s.M (F/Pg) S8 wr q D) (h:q*Pg<Tp) (hq:F/Pg<=q)=>vy.drop hu (by
    rw [t2,ad,aB (show F<=q*Pg by rw [ax];exact aX Pg hq),aB h];rfl) (by
    have R:W=W/Pg*Pg:=by have:=aM W Pg;rw [aN];omega
    have h3:q*Pg<W/Pg*Pg:=by omega
    exact eT h3) hq)
   have bB:Hid (∀q D,vy m Pg W Fs O s.M (F/Pg) S8 wr q D->D.cell? ⟨w.heap.size,1,none⟩=some (Tp:Int)/\D.cell? ⟨w3.heap.size+1,2,none⟩=some (top:Int)):=by
    show∀q D,_
    rintro q D ⟨ud,cy,cT,S',c1,c2,c3,c4⟩;exact ⟨(bP.frame c3 (bb _ (bI _) bf)).cell 1 rfl,by have:=(d1.Qd.frame c3 d1.d1).cell 2 rfl;rw [b1] at this;exact this⟩
   have bs:Hid (∀q D,vy m Pg W Fs O s.M (F/Pg) S8 wr q D->Tp<=q*Pg->q*Pg<Tp+Pg->yE m b g Pg W Fs A rs T Li S w (.returned (.tuple #[(top:Int),(0:Int)])) D):=by
    show∀q D,_
    rintro q D ⟨ud,cy,cT,S',c1,c2,c3,c4⟩ cd bQ;have e1:top=T+A.Wd l:=by omega
    have dh:Fr (fun k=>S k\/k=g) w D:=by
     obtain ⟨q1,q2,q3,q4,q5,_⟩:=a9.out;have s1:Fr (fun k=>S k\/k=g) w w2:=(I.mono GN).trans q5 (fun k h=> .inl (.inl h));have s2:Fr (fun k=>S k\/k=g) w w3:=s1.trans t4 (fun k h=>(q2 k h).imp .inl (fun h=>by omega));have s3:∀k,S3 k->(S k\/k=g)\/w.heap.size<=k:=fun k hk=>by
      rcases t5 k hk with h|h
      ·exact (q2 k h).imp .inl (fun h=>by omega)
      ·exact .inr (by omega)
     have s4:Fr (fun k=>S k\/k=g) w w6:=(s2.trans o GN).trans v3 (fun k h=>by
      rcases h with h|h|h|h
      ·exact s3 k h
      ·exact .inr (by omega)
      ·exact .inr (by omega)
      ·exact .inl (.inr h))
     have s6:∀k,S6 k->(S k\/k=g)\/w.heap.size<=k:=fun k hk=>by
      rcases v2 k hk with h|h
      ·exact s3 k h
      ·exact .inr (by omega)
     have s5:Fr (fun k=>S k\/k=g) w wr:=s4.trans d2 (fun k h=>by
      rcases h with h|h|h
      ·exact s6 k h
      ·exact .inr (by omega)
      ·exact .inr (by omega))
     exact s5.trans c3 (fun k hk=>by
      rcases d3 k hk with h|h
      ·exact s6 k h
      ·exact .inr (by omega))
    have c7:∀k,S' k->S k\/w.heap.size<=k:=fun k hk=>by
     obtain ⟨q1,q2,q3,q4,q5,_⟩:=a9.out;rcases c4 k hk with h|h
     ·rcases d3 k h with h|h
      ·rcases v2 k h with h|h
       ·rcases t5 k h with h|h
        ·exact (q2 k h).imp id (fun h=>by omega)
        ·exact .inr (by omega)
       ·exact .inr (by omega)
      ·exact .inr (by omega)
     ·exact .inr (by omega)
    have ca:∀k,k<w.heap.size->¬S k->k≠w3.heap.size+1/\k≠w3.heap.size/\¬S6 k/\¬S8 k:=fun k hk hs=>⟨by omega,by omega,Z k (by omega) hs,bb k (by omega) hs⟩
    have hB:=ca b aH u.1;have bH:=ca g aK u.2;have bM:=ca cO aL K;refine ⟨φ',s.M,S',ud,cy,cT,l,by rw [e1],c1,fun r=> ?_,f3,by rw [<-f4];exact f1,by omega,?_,?_,c7,dh⟩
    ·rw [c2,t2,ad,<-cL];exact xh ar aw al af (by omega) am cd bQ r
    ·rw [<-f2];exact (u2.frame d2 (fun h=>by rcases h with h|h|h;exact hB.2.2.1 h;exact hB.1 h;exact hB.2.1 h) (fun h=>by rcases h with h|h|h;exact bH.2.2.1 h;exact bH.1 h;exact bH.2.1 h)).frame c3 hB.2.2.2 bH.2.2.2
    ·exact aS (aS bx d2 (fun h=>by rcases h with h|h|h;exact bM.2.2.1 h;exact bM.1 h;exact bM.2.1 h)) c3 bM.2.2.2
   have k0:=bP.cell 0 rfl;have de:(F:Int).tdiv (Pg:Int)=((F/Pg:Nat):Int):=fU _ _;have dI:¬Pg=0:=by omega
   have dM:Pg<=256:=aG;have dA:Tp<=524288:=by omega
   have c0:F<=524288:=by omega
   have c6:F/Pg<=524288:=aZ (bK _ _) c0;have b7:F/Pg*Pg<Tp+Pg:=by omega
   generalize c5:F/Pg=QF at bw bU bZ bB bs de c6 b7;clear c5 cH;have dT:IntKind.i64.wrap (QF:Int)=(QF:Int):=by rw [IntKind.wrap_i64];omega
   clear u1 u2 v2 v3 bS Z bx d aC U aE N o bn P t1 t2 t4 t5 bk bl hi dn hT K u aD hc hl J ad cx p a8 Q hG f I hO aq ar aG a0 a7 aY aL aH aK aP au av af aQ aR aw al ay am ax aT bc dx bb cp f1 f2 f3 f4 db cL d1 d2 d3 bj bo b1 b3 b4 a1 a4 a5 bP Y hr ck HC ch H6 HY HA HB a9 cg cf bf;have bv:=ae (show Calls prog 148 #[m] wr.drew fun e w'=>e= .returned (Pg:Int)/\wr.drew=w' from vy.pg (bw.out.Fh ((GQ _ wr).drew)));clear bU;go_wp2;refine jP 6 (fun a b=>b=a) [fun v _=>v= .pointer (some ⟨w.heap.size,0,none⟩),fun v _=>v= .int .i64 F,fun v _=>v= .pointer (some ⟨m,0,none⟩),fun v _=>v= .int .i64 Pg,fun v _=>v= .int .i64 ((QF:Nat):Int),fun v _=>v= .int .i64 ((QF:Nat):Int)] (fun j=>false) (by kernel_rfl) (by kernel_rfl) (by kernel_rfl) (by kernel_rfl) rfl (fun _=>rfl) (fun _ _ _ h1 R=>R.trans h1) (fun _ _ h=>by rw [h];exact ak _) ⟨fun _ _ _ h _=>h,fun _ _ _ h _=>h,fun _ _ _ h _=>h,fun _ _ _ h _=>h,fun _ _ _ h _=>h,fun _ _ _ h _=>h,trivial⟩ ?_;intro F hF;simp only [df,ai,an,aa] at hF;subst hF;refine ⟨⟨fun vs w1 hw V H=> ?_,fun vs w1 hw V H=> ?_,fun vs w1 hw V H=> ?_,fun vs w1 hw V H=> ?_,fun vs w1 hw V H=> ?_,fun vs w1 hw V H=> ?_,trivial⟩,?_⟩
   ·refine ba (.pointer (some ⟨w.heap.size,0,none⟩)) ?_ ⟨rfl,rfl,fun h=>nomatch h⟩;go_simp
   ·have h0:vs 0= .pointer (some ⟨w.heap.size,0,none⟩):=V 0 (by kernel_rfl);refine ba (.int .i64 F) ?_ ⟨rfl,rfl,fun h=>nomatch h⟩;subst hw;go_simp
   ·refine ba (.pointer (some ⟨m,0,none⟩)) ?_ ⟨rfl,rfl,fun h=>nomatch h⟩;go_simp
   ·have R:vs 2= .pointer (some ⟨m,0,none⟩):=V 2 (by kernel_rfl);subst hw;refine bm 148 #[m] (by go_simp) (bv.out.mono ?_);rintro e w2 ⟨rfl,rfl⟩;exact ⟨_,rfl,rfl,rfl,fun h=>nomatch h⟩
   ·have h1:vs 1= .int .i64 F:=V 1 (by kernel_rfl);have h3:vs 3= .int .i64 Pg:=V 3 (by kernel_rfl);refine ba (.int .i64 ((QF:Nat):Int)) ?_ ⟨rfl,rfl,fun h=>nomatch h⟩;go_simp
   ·have h4:vs 4= .int .i64 ((QF:Nat):Int):=V 4 (by kernel_rfl);refine ba (.int .i64 ((QF:Nat):Int)) ?_ ⟨rfl,rfl,fun h=>nomatch h⟩;go_simp
   intro vs w1 hw hp H;obtain ⟨g0,g1,g2,g3,g4,g5,_⟩:=hp;simp only [g0,g1,g2,g3,g4,g5];subst hw;clear g0 g1 g2 g3 g4 g5 H bv;simp only [aj,ao];go_wp2;clear k0 e2 dd cc c1
   go_loopw [13] (fun x D=>∃q:Nat,x= .int .i64 q/\QF<=q/\q*Pg<Tp+Pg/\q<=524288+1/\Hid (vy m Pg W Fs O s.M QF S8 wr q D)) (fun x _=>(524288+2-intOf x).toNat)
   case atStart=>exact ⟨QF,rfl,ak _,b7,by omega,ae (bw.out.Fh ((GQ _ wr).drew))⟩
   case round=>
    clear bw b7;obtain ⟨q,rfl,cd,bQ,dO,hr⟩:=hrel;obtain ⟨k1,k2⟩:=bB.out q _ hr.out;have bv:=ae (hr.out.Fh ((GQ _ _).drew)).pg;have bC:=ae (fun w1 (hf:GM _ w1) (h:q*Pg<Tp)=>bZ.out q w1 (hr.out.Fh hf) h cd);have bX:=ae (fun w1 (hf:GM _ w1)=>bB.out q w1 (hr.out.Fh hf));have bD:=ae (fun w1 (hf:GM _ w1) (h:Tp<=q*Pg)=>bs.out q w1 (hr.out.Fh hf) h bQ);obtain ⟨X,hX⟩:∃X,X=q*Pg:=⟨_,rfl⟩;have cs:(q:Int)*(Pg:Int)=(X:Int):=by rw [hX];push_cast;rfl
    have dC:X<=1048576:=by omega
    have hw:IntKind.i64.wrap ((q:Int)*(Pg:Int))=(X:Int):=by rw [cs,IntKind.wrap_i64];omega
    have dS:q<=X:=by rw [hX];exact dc q (by omega)
    rw [<-hX] at bQ bC bD;have HN:Hid (X<Tp->(q+1)*Pg<Tp+Pg):=by
     show X<Tp->_
     intro h;rw [cY,<-hX];omega
    clear bB bZ bs hr hX cs;go_wp2;refine jP 7 (fun a b=>b=a) [fun v _=>v= .int .i64 q,fun v _=>v= .pointer (some ⟨m,0,none⟩),fun v _=>v= .int .i64 Pg,fun v _=>v= .int .i64 X,fun v _=>v= .pointer (some ⟨w.heap.size,1,none⟩),fun v _=>v= .int .i64 Tp,fun v _=>v= .bool (decide ((X:Int)<(Tp:Int)))] (fun j=>false) (by kernel_rfl) (by kernel_rfl) (by kernel_rfl) (by kernel_rfl) rfl (fun _=>rfl) (fun _ _ _ h1 R=>R.trans h1) (fun _ _ h=>by rw [h];exact ak _) ⟨fun _ _ _ h _=>h,fun _ _ _ h _=>h,fun _ _ _ h _=>h,fun _ _ _ h _=>h,fun _ _ _ h _=>h,fun _ _ _ h _=>h,fun _ _ _ h _=>h,trivial⟩ ?_;intro F hF;simp only [df,ai,an,aa] at hF;subst hF;refine ⟨⟨fun vs w1 hw V H=> ?_,fun vs w1 hw V H=> ?_,fun vs w1 hw V H=> ?_,fun vs w1 hw V H=> ?_,fun vs w1 hw V H=> ?_,fun vs w1 hw V H=> ?_,fun vs w1 hw V H=> ?_,trivial⟩,?_⟩
    ·refine ba (.int .i64 q) ?_ ⟨rfl,rfl,fun h=>nomatch h⟩;go_simp
    ·refine ba (.pointer (some ⟨m,0,none⟩)) ?_ ⟨rfl,rfl,fun h=>nomatch h⟩;go_simp
    ·have h1:vs 1= .pointer (some ⟨m,0,none⟩):=V 1 (by kernel_rfl);subst hw;refine bm 148 #[m] (by go_simp) (bv.out.mono ?_);rintro e w2 ⟨rfl,rfl⟩;exact ⟨_,rfl,rfl,rfl,fun h=>nomatch h⟩
    ·have h0:vs 0= .int .i64 q:=V 0 (by kernel_rfl);have R:vs 2= .int .i64 Pg:=V 2 (by kernel_rfl);refine ba (.int .i64 X) ?_ ⟨rfl,rfl,fun h=>nomatch h⟩;go_simp
    ·refine ba (.pointer (some ⟨w.heap.size,1,none⟩)) ?_ ⟨rfl,rfl,fun h=>nomatch h⟩;go_simp
    ·have h4:vs 4= .pointer (some ⟨w.heap.size,1,none⟩):=V 4 (by kernel_rfl);refine ba (.int .i64 Tp) ?_ ⟨rfl,rfl,fun h=>nomatch h⟩;subst hw;go_simp
    ·have h3:vs 3= .int .i64 X:=V 3 (by kernel_rfl);have h5:vs 5= .int .i64 Tp:=V 5 (by kernel_rfl);refine ba (.bool (decide ((X:Int)<(Tp:Int)))) ?_ ⟨rfl,rfl,fun h=>nomatch h⟩;go_simp
    intro vs w1 hw hp H;obtain ⟨g0,g1,g2,g3,g4,g5,g6,_⟩:=hp;simp only [g0,g1,g2,g3,g4,g5,g6];subst hw;clear g0 g1 g2 g3 g4 g5 g6 H bv;simp only [aj,ao];by_cases bV:X<Tp
    ·have c1:(X:Int)<(Tp:Int):=by omega
     have ci:=ae (bC.out _ ((GQ _ _).drew) bV);have bF:=ae (HN.out bV);clear bC bX bD HN k1 k2;go_wp2_with fail
     refine ci.out.mono ?_;rintro e w9 ⟨rfl,hu⟩;have cV:=ae hu;clear hu ci;go_wp2;go_roundw
     case rel=>exact ⟨q+1,by go_num,by omega,bF.out,by omega,cV⟩
     case measure=>simp [intOf];omega
    ·have c1:¬(X:Int)<(Tp:Int):=by omega
     obtain ⟨k3,k4⟩:=bX.out _ ((GQ _ _).drew);have cU:=ae (bD.out _ ((GQ _ _).drew) (by omega));clear bC bX bD HN k1 k2;go_wp2;go_ret2;exact cU.out
end
section
variable{A:AG}{rs l l':List Nat}{φ L:Nat->Nat}{lo hi:Nat}
theorem vD{l l':List Nat}(h:l.Perm l'):A.Wd l=A.Wd l':=by
 unfold AG.Wd
 induction h with
 |nil=>rfl
 |cons x _ ih=>rw [cW,cW,eu,eu,ih]
 |swap x y l=>rw [cW,cW,cW,cW,eu,eu,eu,eu];omega
 |trans _ _ h1 h2=>rw [h1,h2]
theorem dE.Wd(h:dE A rs l)(b:dE A rs l'):A.Wd l=A.Wd l':=
 vD ((List.perm_ext_iff_of_nodup h.1 b.1).2 (fun a=>(h.2 a).trans (b.2 a).symm))
theorem cP.some(h:cP A rs φ L lo hi):∃l,dE A rs l:=by
 obtain ⟨G,b⟩:=h.conc;refine h.Xh (E:=G.size) ⟨b.size,b.some⟩ (W:=hi) (fun a c=> ?_);obtain ⟨x,d,rfl⟩:=b.some a c;have:=(h.Qn x d).2;have e:1<=A.sz x:=by unfold AG.sz;omega
 omega
theorem cP.small(h:cP A rs φ L lo hi){G:Gr}(b:gH A rs φ G)(e:hi<=2147483648):∀a,G.size a≠0->∀i,i<G.size a->L (a+i)<18446744073709551616:=fun a d i hi=>by
 obtain ⟨x,c,rfl⟩:=b.some a d;rw [b.size x c] at hi;exact h.Yi (E:=G.size) ⟨b.size,b.some⟩ e _ (h.live ⟨b.size,b.some⟩ c hi)
theorem cP.Xl(h:cP A rs φ L lo hi)(j:lo<=hi){l:List Nat}(e:dE A rs l):lo+A.Wd l<=hi:=by
 obtain ⟨G,b⟩:=h.conc;rw [<-(dE.Qb h (E:=G.size) ⟨b.size,b.some⟩ e).1];have:=kz (f:=aI G.size) (M:=hi) (a:=lo) (R:=hi-lo) (fun i _ c=>by
  obtain ⟨s,k,g⟩:=cX.1 c;obtain ⟨x,d,rfl⟩:=b.some s (by omega);rw [b.size x d] at g;have:=h.Qn x d;omega)
 omega
end
def tI(b:Nat)(c:Cf)(A:AG)(rs:List Nat)(T:Nat->Prop)(w:World)(e:Ending)(w':World):Prop:=e= .returned (.tuple #[])/\∃l T',dE A rs l/\eX b c A rs (A.Wd l) 0 T' w'/\Fr T w w'/\∀k,T' k->T k\/w.heap.size<=k
section
variable{b u n Ba ub:Nat}{h:Hp}{c:Cf}{A:AG}{rs l0:List Nat}{T S:Nat->Prop}{φ L:Nat->Nat}{ns bs:Int}{w w1 w5 w6 w':World}
theorem eX.count(p:eX b c A rs u n T w):∃ns:Int,w.cell? ⟨b,12,none⟩=some (ns:Int)/\w.frozen? ⟨b,12,none⟩=false/\∀v:Int,eX b c A rs u n T (w.setCell ⟨b,12,none⟩ (.int .i64 v))/\Fr T w (w.setCell ⟨b,12,none⟩ (.int .i64 v)):=by
 obtain ⟨h,φ,L,Ba,ub,j,ns,bs,S,rfl,a,i,q⟩:=p;refine ⟨ns,aJ.cell a.Qd 12 rfl,aJ.free a.Qd 12,fun v=> ?_⟩;have hf:Fr (fun k=>k=h.b) w (w.setCell ⟨h.b,12,none⟩ (.int .i64 v)):=(GQ (fun k=>k=h.b) w).setCell ⟨h.b,12,none⟩ (.inl rfl) _;obtain ⟨l,m,o,r,s,g,t,x,y⟩:=a.e;exact ⟨⟨h,φ,L,Ba,ub,j,v,bs,S,rfl,⟨a.Qs,a.Qd.set 12 _,a.roots.frame hf (Ne.symm l) (Ne.symm m),aJ.frame a.Yb hf (Ne.symm o),aS a.Qp hf (Ne.symm g),a.laid,a.Sl,a.fits,a.half,a.mem.stays hf (fun k f=>(a.d k f).1) (Ne.symm g),a.d,a.e⟩,i,q⟩,hf.mono (fun k f=> .inl ((i k).2 (.inr (.inl f))))⟩
theorem eX.plain(e:eX b c A rs u n T w)(f:c.kind≠1):n=0:=by
 obtain ⟨h,φ,L,Ba,ub,d,ns,bs,S,rfl,a,g,i⟩:=e
 cases d with
 |none=>exact a.mem.1
 |some y=>exact absurd a.mem.1 f
theorem uV(a:iz c)(j:Ba% c.Pg=0):(Ba+c.Wd)/c.Pg=Ba/c.Pg+c.Wd/c.Pg:=by
 have e:=a.Qq;have f:=a.wp;have g:=aM Ba c.Pg;have i:=aM c.Wd c.Pg;have d:Ba+c.Wd=c.Pg*(Ba/c.Pg+c.Wd/c.Pg):=by rw [fL];omega
 rw [d,ib _ (by omega)]
theorem vI{j:Nat->Prop}{m Us Hg:Nat}{mp:Nat->Bool}{M:Nat->Nat}(d:iz c)(e:c.half Ba)(s:u<=c.Wd)(o:ed w m j c.Pg c.W c.Fs Us Hg mp M)(f:∀q,mp q=(decide (Ba<=q*c.Pg)&&decide (q*c.Pg<Ba+u))):Us<=c.Wd/c.Pg:=by
 obtain ⟨_,_,_,_,_,_,_,k,_⟩:=o.at;rw [k];have hp:=d.Qq;refine kz (a:=Ba/c.Pg) (fun i _ g=> ?_);rw [f,au,aC,aC] at g;refine ⟨lO (by rw [aN];exact g.1),?_⟩;rw [<-uV d (e.mod d)];have p:=uV d (e.mod d);refine eT (a:=c.Pg) ?_;have r:(Ba+c.Wd)/c.Pg*c.Pg=Ba+c.Wd:=by
  have l:=aM (Ba+c.Wd) c.Pg;rw [pJ,e.mod d,d.wp,br,Nat.zero_mod] at l;rw [aN];omega
 omega
end
section
variable{b u n Ba ub m rb rg:Nat}{h:Hp}{c:Cf}{A:AG}{rs l0:List Nat}{T S:Nat->Prop}{φ L:Nat->Nat}{ns bs:Int}{w w1 w5 w6 w' w'':World}
def CZ(b:Nat)(c:Cf)(A:AG)(rs:List Nat)(N:Nat)(T:Nat->Prop)(w w8:World):Prop:=∃T1,eX b c A rs N 0 T1 w8/\Fr T w w8/\∀k,T1 k->T k\/w.heap.size<=k
def Fp(b m rb:Nat)(c:Cf)(ns bs:Int)(A:AG)(rs:List Nat)(N:Nat)(T:Nat->Prop)(w:World)(To:Nat)(w5:World):Prop:=
 (∀w7,GM w5 w7->Calls prog 73 #[b,(To:Int),(((To+N:Nat):Int):Int)] w7 fun e w'=>e= .returned (.tuple #[])/\kG b c m rb none ns bs To (To+N) c.Wd w7 w')/\
 (∀w7 w8,GM w5 w7->kG b c m rb none ns bs To (To+N) c.Wd w7 w8->CZ b c A rs N T w w8)
theorem qF{Pg W lo top:Nat}{mp:Nat->Bool}(a:∀q,mp q=(decide (lo<=q*Pg)&&decide (q*Pg<top)))(f:lo% Pg=0)(l:top<=W):∀k,lo<=k->k<top->dD W Pg mp k:=fun k d g=>by
 refine ⟨by omega,?_⟩;have e:lo=lo/Pg*Pg:=by have:=aM lo Pg;rw [aN];omega
 have i:=aX Pg (bi (c:=Pg) d);have j:=bE k Pg;rw [a,aB (show lo<=k/Pg*Pg by omega),aB (show k/Pg*Pg<top by omega)];rfl
theorem DW(p:kP (fun _=>True) h c A rs φ L Ba u ub none 0 ns bs S w)(s:∀k,T k↔kT h ub S k)(f:c.kind=2)(N:dE A rs l0)(hf:GM w w1){e:Ending}(ho:yE h.m h.rb h.rg c.Pg c.W c.Fs A rs (2*c.Pg+c.Wd-Ba) (2*c.Pg+c.Wd-Ba+c.Wd) S w1 e w5):
  e= .returned (.tuple #[(((2*c.Pg+c.Wd-Ba+A.Wd l0:Nat):Int):Int),(0:Int)])/\w1.heap.size<=w5.heap.size/\(∀v cs t,w.heap.size<=v->aJ w1 v cs t->aJ w5 v cs t)/\Fp h.b h.m h.rb c ns bs A rs (A.Wd l0) T w (2*c.Pg+c.Wd-Ba) w5:=by
 have q:=p.Qa hf;have i:=p.half.other (by omega);have O:=i.le;have E:=i.top;generalize 2*c.Pg+c.Wd-Ba=To at ho i O E ⊢;obtain ⟨φ',L',S',r,H,U,l,rfl,V,q2,q3,q4,q5,q6,q7,q8,G⟩:=ho;rw [q3.Wd N] at q2 q4 q5 ⊢;obtain ⟨ad,_⟩:=p.Qs.W5;have a:=q.lt;have ak:=hf.size;have R:=G.size;obtain ⟨X,I,e3,e4,e5,Y,e7,e8,e9⟩:=p.e;have Z:=p.d;have ai:cO<w1.heap.size:=cl (q.Qp 0 0 rfl);have y:my w5 h.b c h.m h.rb ub none ns bs:=aJ.frame q.Qd G (fun o=>o.elim (fun o=>(Z _ o).1 rfl) (fun e=>I e));have J:∀k,S' k->k<w5.heap.size:=(cw _ _ _ _ _ _ _).lt _ _ _ V;have z:∀k,S' k->k≠h.b/\k≠h.rb/\k≠h.rg/\k≠ub/\k≠cO:=fun k f=>by
  rcases q8 k f with x|x
  ·exact Z k x
  ·have h2:=a h.b (.inr (.inl rfl));have h3:=a h.rb (.inr (.inr (.inl rfl)));have h4:=a h.rg (.inr (.inr (.inr (.inl rfl))));have h5:=a ub (.inr (.inr (.inr (.inr rfl))));exact ⟨by omega,by omega,by omega,by omega,by omega⟩
 refine ⟨rfl,R,fun v cs t af hb=>aJ.frame hb G (fun o=> ?_),fun w7 j=> ?_,fun w7 w8 j hp=> ?_⟩
 ·have D:=p.lt;have h3:=D h.rg (.inr (.inr (.inr (.inl rfl))));rcases o with o|o
  ·have:=D v (.inl o);omega
  ·omega
 ·obtain ⟨M,hm,_⟩:=(cw _ _ _ _ _ _ _).Qa V j;exact uM (aJ.frame y j id) hm To (To+A.Wd l0) (by omega) q5 E
 ·obtain ⟨F,K,Q,aj,B⟩:=hp;have al:=j.size;have am:=B.size;have ah:=aJ.lt y;have g:Fr (fun k=>k=h.b) w5 w8:=(j.mono GN).trans B (fun _ h=> .inl h);have C:A.Wd l0<=c.Wd:=by omega
  have P:=da _ _ _ _ _ _ _ _ _ _ _ _ V g (fun k f=>(z k f).1);refine ⟨kT h F S',⟨h,φ',L',To,F,none,ns,bs,S',rfl,⟨p.Qs,K,q6.frame g (Ne.symm X) (Ne.symm I),Q,aS q7 g (Ne.symm Y),q4,p.Sl,C,i,⟨rfl,r,H,U,P,q2⟩,fun k f=> ?_,X,I,?_,?_,?_,Y,e7,?_,e9⟩,fun k=>dX,fun _=>rfl⟩,?_,?_⟩
  ·have h9:=J k f;have:=z k f;exact ⟨this.1,this.2.1,this.2.2.1,by omega,this.2.2.2.2⟩
  ·have:=a h.b (.inr (.inl rfl));omega
  ·have:=a h.rb (.inr (.inr (.inl rfl)));omega
  ·have:=a h.rg (.inr (.inr (.inr (.inl rfl))));omega
  ·omega
  ·refine (((hf.mono GN).trans G (fun k f=> .inl ?_)).trans g (fun k f=> .inl ?_))
   ·exact (s k).2 (f.elim .inl (fun e=> .inr (.inr (.inr (.inl e)))))
   ·exact (s k).2 (.inr (.inl f))
  ·rintro k (f|f|f|f|f)
   ·rcases q8 k f with x|x
    ·exact .inl ((s k).2 (.inl x))
    ·exact .inr (by omega)
   ·exact .inl ((s k).2 (.inr (.inl f)))
   ·exact .inl ((s k).2 (.inr (.inr (.inl f))))
   ·exact .inl ((s k).2 (.inr (.inr (.inr (.inl f)))))
   ·exact .inr (by omega)
theorem DX(a:kP (fun _=>True) h c A rs φ L Ba u ub none 0 ns bs S w)(k:c.kind=2)(hf:GM w w1):Calls prog 72 #[h.m,h.rb,gY Ba (Ba+u) (2*c.Pg+c.Wd-Ba) (2*c.Pg+c.Wd-Ba+c.Wd) c.block c.stack c.Ah] w1 (yE h.m h.rb h.rg c.Pg c.W c.Fs A rs (2*c.Pg+c.Wd-Ba) (2*c.Pg+c.Wd-Ba+c.Wd) S w1):=by
 have f:=a.Qa hf;obtain ⟨_,Us,Hg,mp,j,g⟩:=f.mem;refine DV j f.roots f.Qp (fun h=>(a.d _ h).2.2.2.2 rfl) ⟨fun h=>(a.d _ h).2.1 rfl,fun h=>(a.d _ h).2.2.1 rfl⟩ a.e.2.2.2.2.2.2.1 Ba (Ba+u) _ _ c.block c.stack c.Ah (a.half.conf a.Qs (by omega) a.fits) a.laid (by have:=a.Qs.Yp;have:=a.Sl;omega) (by have:=a.fits;omega) g ?_;obtain ⟨M,i,_⟩:=j;have l:=vI a.Qs a.half a.fits i g;unfold Cf.Fs;rw [aE (by omega),aG k,cM];omega
def Au(b m rb ub:Nat)(c:Cf)(ns bs:Int)(A:AG)(rs:List Nat)(N Ba u:Nat)(T:Nat->Prop)(w:World)(e:Ending)(w5:World):Prop:=
 e= .returned (.tuple #[(((Ba+N:Nat):Int):Int),(0:Int)])/\my w5 b c m rb ub none ns bs/\fx w5 ub m Ba (Ba+u) (Ba+c.Wd)/\Ba+N<=Ba+c.Wd/\
 ∀w7 w8,GM w5 w7->fx w8 ub m Ba (Ba+N) (Ba+c.Wd)->Fr (fun k=>k=ub) w7 w8->CZ b c A rs N T w w8
theorem Au.Fh{N:Nat}{e:Ending}(h:Au b m rb ub c ns bs A rs N Ba u T w e w')(hf:GM w' w''):Au b m rb ub c ns bs A rs N Ba u T w e w'':=by
 obtain ⟨f,g,i,j,k⟩:=h;exact ⟨f,aJ.frame g hf id,aJ.frame i hf id,j,fun l o g1 a d=>k l o (hf.trans g1 GN) a d⟩
theorem Ds(a:kP (fun _=>True) h c A rs φ L Ba u ub none 0 ns bs S w)(J:∀k,T k↔kT h ub S k)(s:dE A rs l0)(hf:GM w w1):Calls prog 74 #[h.m,h.rb,(Ba:Int),(((Ba+u:Nat):Int):Int),((c.stack:Int):Int)] w1 fun e w5=>Au h.b h.m h.rb ub c ns bs A rs (A.Wd l0) Ba u T w e w5/\w1.heap.size<=w5.heap.size:=by
 have j:=a.Qa hf;obtain ⟨_,Us,Hg,mp,hm,D⟩:=j.mem;have aj:=a.half.le;have am:=a.half.top;have af:=a.fits;have ak:=a.Qs.Qq;obtain ⟨ai,_⟩:=a.Qs.W5;obtain ⟨G,g⟩:=a.laid.conc;have hG:=gH.sound a.laid g;have C:=a.half.mod a.Qs;have hO:=gH.obj a.laid g (qF D C (show Ba+u<=c.W by omega)) (by omega);obtain ⟨e1,e2,e3,e4,N,e6,e7,e8,e9⟩:=a.e;have Q:=a.d;refine (callsIn_wide.1 (Bk 0 hm j.roots j.Qp (fun h=>(a.d _ h).2.2.2.2 rfl) ⟨fun h=>(a.d _ h).2.1 rfl,fun h=>(a.d _ h).2.2.1 rfl⟩ Ba (Ba+u) c.stack hG hO (gH.low a.laid g) (by omega) (by omega) (by omega) a.Qs.Yx a.Qs.Yy D C (a.laid.small g (by omega)) e7)).mono ?_;rintro e w5 ⟨E,L',S',t,M,ad,rfl,q1,q2,q3,q4,q5,q6,q7,q8,K⟩;have I:=gH.ext a.laid g q3 q4;have P:=(dE.Qb (a.laid.wide (show Ba+u<=c.W by omega)) I s).1;have B:=(dE.Qb a.laid I s).1;have an:=a.laid.Xl (by omega) s;rw [P] at q2 ⊢;have p:=a.laid.slide I (show 1<=Ba by omega) (L':=L') (fun x Y i hi=>by
  have q:=q5 (φ x) ((q3 _).2 ((gH.reach a.laid g _).2 ⟨x,Y,rfl⟩)) i (by rw [I.size x Y];exact hi);rw [g.Qr x Y,bL,oo] at q;exact q)
 rw [B] at p;have l:=j.lt;have ao:=hf.size;have Z:=K.size;have al:cO<w1.heap.size:=cl (j.Qp 0 0 rfl);have v:my w5 h.b c h.m h.rb ub none ns bs:=aJ.frame j.Qd K (fun r=>r.elim (fun r=>(Q _ r).1 rfl) (fun e=>e2 e));have O:fx w5 ub h.m Ba (Ba+u) (Ba+c.Wd):=aJ.frame j.Yb K (fun r=>r.elim (fun r=>(Q _ r).2.2.2.1 rfl) (fun e=>N e.symm));have ah:∀k,S' k->k<w5.heap.size:=(cw _ _ _ _ _ _ _).lt _ _ _ q1;have y:∀k,S' k->k≠h.b/\k≠h.rb/\k≠h.rg/\k≠ub/\k≠cO:=fun k o=>by
  rcases q8 k o with q|q
  ·exact Q k q
  ·have h2:=l h.b (.inr (.inl rfl));have h3:=l h.rb (.inr (.inr (.inl rfl)));have h4:=l h.rg (.inr (.inr (.inr (.inl rfl))));have h5:=l ub (.inr (.inr (.inr (.inr rfl))));exact ⟨by omega,by omega,by omega,by omega,by omega⟩
 refine ⟨⟨rfl,v,O,by omega,fun w7 w8 R X U=> ?_⟩,Z⟩;have f:Fr (fun k=>k=ub) w5 w8:=(R.mono GN).trans U (fun _ h=> .inl h);have V:=da _ _ _ _ _ _ _ _ _ _ _ _ q1 f (fun k o=>(y k o).2.2.2.1);rw [jl] at q6;have F:rs.map (rY (goes E Ba) id∘φ)=rs.map (rY (goes E Ba) φ):=eI (fun z hz=>by
  show (if φ z=0 then 0 else goes E Ba (φ z))=if z=0 then 0 else goes E Ba (φ z)
  by_cases H:z=0
  ·rw [aG H,aG (by rw [H];exact a.laid.zero)]
  ·rw [aE H,aE (by have:=a.laid.pos (.root hz H);omega)])
 rw [F] at q6;refine ⟨kT h ub S',⟨h,_,L',Ba,ub,none,ns,bs,S',rfl,⟨a.Qs,aJ.frame v f e3,q6.frame f e4 N,X,aS q7 f (Ne.symm e8),p,a.Sl,by omega,a.half,⟨rfl,t,M,ad,V,q2⟩,y,e1,e2,e3,e4,N,e6,e7,e8,e9⟩,fun k=>dX,fun _=>rfl⟩,?_,?_⟩
 ·refine (((hf.mono GN).trans K (fun k o=> .inl ?_)).trans f (fun k o=> .inl ?_))
  ·exact (J k).2 (o.elim .inl (fun e=> .inr (.inr (.inr (.inl e)))))
  ·exact (J k).2 (.inr (.inr (.inr (.inr o))))
 ·rintro k (o|o)
  ·rcases q8 k o with q|q
   ·exact .inl ((J k).2 (.inl q))
   ·exact .inr (by omega)
  ·exact .inl ((J k).2 (.inr o))
end
section
variable{b u n:Nat}{c:Cf}{A:AG}{rs:List Nat}{T:Nat->Prop}{w:World}
theorem FO(y:eX b c A rs u n T w)(f:c.kind=1):Calls prog 20 #[b] w (tI b c A rs T w):=by
 obtain ⟨z,F⟩:Hid (Calls prog 50 #[b] w fun e w'=>e= .returned (.bool false)/\w=w')/\w.cell? b=some (1:Int):=by
  obtain ⟨h,φ,L,Ba,O,I,J,G,S,rfl,D,K,M⟩:=y;refine ⟨ae (gy D.Qd),?_⟩;have:=aJ.cell D.Qd 0 rfl;rw [f] at this;exact this
 have i:=ae (mV y);have j:Hid (∀N n w2,ko b c A rs N n T w w2->Calls prog 70 #[b] w2 fun e w3=>e= .returned (.tuple #[])/\ko b c A rs N 0 T w w3):=by
  show∀N n w2,_
  rintro N n w2 ⟨r,g1,a,d⟩;refine (mV g1).mono ?_;rintro e w3 ⟨rfl,s,t,v,x⟩;have E:=a.size;exact ⟨rfl,s,t,a.trans v d,fun k f=>(x k f).elim (d k) (fun h=> .inr (by omega))⟩
 have p:Hid (∀w2,ko b c A rs u 0 T w w2->Calls prog 58 #[b] w2 fun e w3=>e= .returned (.tuple #[])/\∃l n,dE A rs l/\ko b c A rs (A.Wd l) n T w w3):=by
  show∀w2,_
  rintro w2 ⟨r,g1,a,d⟩;refine (qQ g1 f).mono ?_;rintro e w3 ⟨rfl,l,C,s,g,t,v,x⟩;have E:=a.size;exact ⟨rfl,l,C,g,s,t,a.trans v d,fun k f=>(x k f).elim (d k) (fun h=> .inr (by omega))⟩
 have B:Hid (∀l w3,dE A rs l->ko b c A rs (A.Wd l) 0 T w w3->tI b c A rs T w (.returned (.tuple #[])) w3):=ae (fun l w3 g ⟨r,g1,a,d⟩=>⟨rfl,l,r,g,g1,a,d⟩);clear y;generalize (tI b c A rs T w)=Q at*
 go_enter func20,ntmps20
 go_wp2_with fail
 refine z.out.mono ?_;rintro e w1 ⟨rfl,rfl⟩;clear z;go_wp2_with fail
 refine i.out.mono ?_;rintro e w1 ⟨rfl,hf⟩;have o:=ae (p.out w1 hf);clear i hf F p;go_wp2_with fail
 refine o.out.mono ?_;rintro e w2 ⟨rfl,l,C,g,hf⟩;have m:=ae (j.out _ _ w2 hf);have q:=ae (fun w3 h=>B.out l w3 g h);clear o hf j B g;go_wp2_with fail
 refine m.out.mono ?_;rintro e w3 ⟨rfl,hf⟩;have H:=ae (q.out w3 hf);clear m hf q;go_wp2;go_end0;exact H.out
theorem Ce{l:List Nat}{w5:World}(k:dE A rs l)(h:CZ b c A rs (A.Wd l) T w w5):∃a:Int,w5.cell? ⟨b,12,none⟩=some (a:Int)/\w5.frozen? ⟨b,12,none⟩=false/\∀v:Int,tI b c A rs T w (.returned (.tuple #[])) (w5.setCell ⟨b,12,none⟩ (.int .i64 v)):=by
 obtain ⟨f,g1,g,d⟩:=h;obtain ⟨a,i,j,e⟩:=g1.count;exact ⟨a,i,j,fun v=>⟨rfl,l,f,k,(e v).1,g.trans (e v).2 d,d⟩⟩
theorem FN(hi:eX b c A rs u n T w)(V:c.kind=2):Calls prog 20 #[b] w (tI b c A rs T w):=by
 have h0:=hi.plain (by omega);obtain ⟨h,φ,L,Ba,ub,cy,ns,bs,S,rfl,d,hT,I⟩:=hi;obtain rfl:=I h0;subst h0;obtain ⟨W,J⟩:=d.laid.some;have Y:=ae (gy d.Qd);have k0:w.cell? h.b=some (2:Int):=by
  have:=aJ.cell d.Qd 0 rfl;rw [V] at this;exact this
 have p:=ae (si d.Qs d.Qd d.Yb (by have:=d.half.le;omega));have f:=ae (fun w1 (hf:GM w w1)=>(DX d V hf).mono (fun e w5 ho=>DW (e:=e) (w5:=w5) d hT V J hf ho));have x:=ae d.Qd;have N:Hid ((prog.info? 143).map (·.size)=some 7):=by show _=_;kernel_rfl
 have af:=ae (Bw Ba (Ba+u:Nat) (2*c.Pg+c.Wd-Ba:Nat) (2*c.Pg+c.Wd-Ba+c.Wd:Nat) c.block c.stack c.Ah);have HQ:=ae (fun w5 (hh:CZ h.b c A rs (A.Wd W) T w w5)=>Ce J hh);clear d hT I;unfold gY at p f;generalize (tI h.b c A rs T w)=Q at*;generalize 2*c.Pg+c.Wd-Ba=To at*;obtain ⟨X,R⟩:∃X,X=To+A.Wd W:=⟨_,rfl⟩;rw [<-R] at f;generalize To+c.Wd=Li at*;generalize Ba+u=Tp at*;obtain ⟨b,m,K,rg⟩:=h;dsimp only at*
 go_enter func20,ntmps20
 go_wp2_with fail
 refine Y.out.mono ?_;rintro e w1 ⟨rfl,rfl⟩;clear Y;have HX:=ae R;clear R;go_wp2_with fail
 refine p.out.mono ?_;rintro e w2 ⟨rfl,r⟩;obtain ⟨i,E⟩:∃i,w2.alloc (.cells #[(Ba:Int),(Tp:Int),(To:Int),(Li:Int),((c.block:Int):Int),((c.stack:Int):Int),((c.Ah:Int):Int)] 143)=i:=⟨_,rfl⟩;have s:GM w i.drew:=by rw [<-E];exact (r.alloc _).drew
 have o:Hid (aJ i.drew w2.heap.size [(Ba:Int),(Tp:Int),(To:Int),(Li:Int),((c.block:Int):Int),((c.stack:Int):Int),((c.Ah:Int):Int)] 143):=by rw [<-E];exact ae (aJ.new w2 _ _)
 have q:my i.drew b c m K ub none ns bs:=aJ.frame x.out s id;have k8:=aJ.cell q 8 rfl;have k9:=aJ.cell q 9 rfl;have M:∃Z:World->Prop,Z=fun w5=>(∀P cs t,w.heap.size<=P->aJ i.drew P cs t->aJ w5 P cs t)/\Fp b m K c ns bs A rs (A.Wd W) T w To w5:=⟨_,rfl⟩
 obtain ⟨Z,U⟩:=M;have k:Hid (Calls prog 72 #[m,K,.agg #[(Ba:Int),(Tp:Int),(To:Int),(Li:Int),((c.block:Int):Int),((c.stack:Int):Int),((c.Ah:Int):Int)]] i.drew fun e w5=>e= .returned (.tuple #[(X:Int),(0:Int)])/\i.drew.heap.size<=w5.heap.size/\Z w5):=by
  rw [U];exact ae (f.out i.drew s)
 have M:=ae U;have y:=ae r;have f:=k;clear r p s q k x U k0;generalize c.block=bk at*;generalize c.stack=sk at*;generalize c.Ah=ad at*;go_wp2;refine dw 15 9 (fun a O=>a.heap.size<=O.heap.size) (fun a O=>O=a) [.c b,.c b,.c (.pointer (some ⟨b,8,none⟩)),.c m,.c b,.c b,.c (.pointer (some ⟨b,9,none⟩)),.c K,.c (.agg #[(Ba:Int),(Tp:Int),(To:Int),(Li:Int),(bk:Int),(sk:Int),(ad:Int)]),.w (.tuple #[(X:Int),(0:Int)]) (Z),.c (.tuple #[(X:Int),(0:Int)]),.c (X:Int),.c (0:Int),.c (X:Int),.c (0:Int)] (fun j=>false) (fun _=>rfl) (fun _ _ h=>by rw [h];exact ak _) (fun _ _ _ C D=>D.trans C) (fun _ _ _ C D=>by subst D;exact C) (fun _ _ _ C D=>by subst C;exact D) (fun _ _ h=>h) ⟨fun w1 w2 h hr=>by subst hr;exact h,trivial⟩ ⟨.inl rfl,trivial⟩ ?_;intro F hF;simp only [fp,PK.val,ai,an,aa] at hF;subst hF;refine ⟨by
  refine ⟨?_,?_,?_,?_,?_,?_,?_,?_,?_,?_,?_,?_,?_,?_,?_,trivial⟩<;>intro vs w1 d v hd hx
  all_goals try (apply oV;rotate_left;rfl;exact rfl;go_simp;done)
  all_goals try (apply oV;rotate_left;rfl;exact rfl;have g:=v (by kernel_rfl);subst g;go_simp;done)
  ·have g:=v (by kernel_rfl);subst g;refine ba (.agg #[(Ba:Int),(Tp:Int),(To:Int),(Li:Int),(bk:Int),(sk:Int),(ad:Int)]) ?_ ⟨rfl,rfl,fun h=>nomatch h⟩;exact jf rfl w2.heap.size rfl 143 _ (0,0) _ o.out underlying143 rfl N.out
  ·have g:=v (by kernel_rfl);subst g;refine bm 72 #[m,K,.agg #[(Ba:Int),(Tp:Int),(To:Int),(Li:Int),(bk:Int),(sk:Int),(ad:Int)]] (by go_simp) (f.out.mono ?_);rintro e w5 ⟨rfl,hz,hp⟩;exact ⟨_,rfl,⟨rfl,hp⟩,hz,fun h=>nomatch h⟩
  ,fun vs w1 d hp hx=> ?_⟩
 obtain ⟨g9,_⟩:=hp;have Xm:=g9;clear hx d;simp only [aj,ao];rw [M.out] at Xm;obtain ⟨l,hp⟩:=Xm;have G:=l _ _ _ y.out.size o.out;unfold Fp at hp;rw [<-HX.out] at hp;have z:=ae (hp.1 w1 (GQ _ _));have B:=ae (fun w8 h=>hp.2 w1 w8 (GQ _ _) h);have k2:=G.cell 2 rfl;clear l hp G M o f y k8 k9;go_wp2_with fail
 refine z.out.mono ?_;rintro e w6 ⟨rfl,hp⟩;obtain ⟨am,al,ah,hq⟩:=HQ.out w6 (B.out w6 hp);have H:=ae hq;clear z B hp hq HQ k2;go_wp2;go_end0;exact H.out _
theorem FM(hi:eX b c A rs u n T w)(hk:c.kind=3):Calls prog 20 #[b] w (tI b c A rs T w):=by
 have h0:=hi.plain (by omega);obtain ⟨h,φ,L,Ba,l,cy,z,x,S,rfl,g,hT,N⟩:=hi;obtain rfl:=N h0;subst h0;obtain ⟨y,O⟩:=g.laid.some;have HN:=ae (gy g.Qd);have k0:w.cell? h.b=some (3:Int):=by
  have:=aJ.cell g.Qd 0 rfl;rw [hk] at this;exact this
 have f:∀w1,GM w.drew w1->GM w w1:=fun w1 hf=>((GQ (fun _=>False) w).drew).trans hf GN
 have d:=ae (fun w1 (hf:GM w.drew w1)=>(Ds g hT O (f w1 hf)).mono (fun e w5 ho=>(show e= .returned (.tuple #[(((Ba+A.Wd y:Nat):Int):Int),(0:Int)])/\w1.heap.size<=w5.heap.size/\Au h.b h.m h.rb l c z x A rs (A.Wd y) Ba u T w e w5 from ⟨ho.1.1,ho.2,ho.1⟩)));have C:=ae (fun w1 (hf:GM w.drew w1)=>mu (g.Qa (f w1 hf)).Yb);have s:=ae (fun w1 (hf:GM w.drew w1)=>re (g.Qa (f w1 hf)).Yb);have D:=ae (fun w1 (hf:GM w.drew w1)=>(show w1.cell? ⟨h.b,8,none⟩=some h.m/\w1.cell? ⟨h.b,9,none⟩=some h.rb/\w1.cell? ⟨h.b,10,none⟩=some l/\w1.cell? ⟨h.b,5,none⟩=some (.int .i64 (c.stack:Int))/\True from
  ⟨aJ.cell (g.Qa (f w1 hf)).Qd 8 rfl,aJ.cell (g.Qa (f w1 hf)).Qd 9 rfl,aJ.cell (g.Qa (f w1 hf)).Qd 10 rfl,aJ.cell (g.Qa (f w1 hf)).Qd 5 rfl,trivial⟩))
 have HQ:=ae (fun w5 (hh:CZ h.b c A rs (A.Wd y) T w w5)=>Ce O hh);have B:Hid (my w.drew h.b c h.m h.rb l none z x):=ae g.Qd;clear g hT N;generalize (tI h.b c A rs T w)=Q at*;obtain ⟨X,hX⟩:∃X,X=Ba+A.Wd y:=⟨_,rfl⟩;rw [<-hX] at d;have HX:=ae hX;clear hX f;obtain ⟨b,m,v,rg⟩:=h;dsimp only at*;have HZ:∃Z:World->Prop,Z=fun w5=>Au b m v l c z x A rs (A.Wd y) Ba u T w (.returned (.tuple #[(X:Int),(0:Int)])) w5:=⟨_,rfl⟩
 obtain ⟨Z,J⟩:=HZ;have I:Hid (∀p wb,Z p->GM p wb->Z wb):=by
  show∀p wb,_
  rw [J];exact fun p wb h hf=>h.Fh hf
 have G:Hid (∀p,Z p->my p b c m v l none z x):=by
  show∀p,_
  rw [J];exact fun p h=>h.2.1
 have q:Hid (∀w1,GM w.drew w1->Calls prog 74 #[m,v,(Ba:Int),(((Ba+u:Nat):Int):Int),((c.stack:Int):Int)] w1 fun e w5=>e= .returned (.tuple #[(X:Int),(0:Int)])/\w1.heap.size<=w5.heap.size/\Z w5):=by
  show∀w1,_
  intro w1 hf;rw [J];refine (d.out w1 hf).mono ?_;rintro e w5 ⟨rfl,k,h3⟩;exact ⟨rfl,k,h3⟩
 have HZ:=ae J;clear d J;have d:=q;clear q;obtain ⟨Tp,t⟩:∃Tp,Tp=Ba+u:=⟨_,rfl⟩;rw [<-t] at d s;have af:=ae t;clear t;obtain ⟨sk,W⟩:∃sk,sk=c.stack:=⟨_,rfl⟩;rw [<-W] at d D;clear W
 go_enter func20,ntmps20
 go_wp2_with fail
 refine HN.out.mono ?_;rintro e w1 ⟨rfl,rfl⟩;clear HN;go_wp2;clear k0;refine dw 29 23 (fun a b2=>a.heap.size<=b2.heap.size/\(my a b c m v l none z x->my b2 b c m v l none z x)) (fun a b2=>GM a b2) [.c b,.c b,.c (.pointer (some ⟨b,8,none⟩)),.c m,.c b,.c b,.c (.pointer (some ⟨b,9,none⟩)),.c v,.c b,.c b,.c (.pointer (some ⟨b,10,none⟩)),.c l,.c (Ba:Int),.c b,.c b,.c (.pointer (some ⟨b,10,none⟩)),.c l,.c (Tp:Int),.c b,.c b,.c b,.c (.pointer (some ⟨b,5,none⟩)),.c (sk:Int),.w (.tuple #[(X:Int),(0:Int)]) (Z),.c (.tuple #[(X:Int),(0:Int)]),.c (X:Int),.c (0:Int),.c (X:Int),.c (0:Int)] (fun j=>false) (fun _=>GQ _ _) (fun _ _ h=>⟨h.size,fun K=>aJ.frame K h id⟩) (fun _ _ _ o k=>o.trans k GN) (fun _ _ _ o k=>⟨aZ o.1 k.size,fun K=>aJ.frame (o.2 K) k id⟩) (fun _ _ _ o k=>⟨aZ o.size k.1,fun K=>k.2 (aJ.frame K o id)⟩) (fun _ _ h=>h.1) ⟨fun w1 w2 h hr=>I.out _ _ h hr,trivial⟩ ⟨.inl rfl,trivial⟩ ?_;intro F hF;simp only [fp,PK.val,ai,an,aa] at hF;subst hF;refine ⟨by
  refine ⟨?_,?_,?_,?_,?_,?_,?_,?_,?_,?_,?_,?_,?_,?_,?_,?_,?_,?_,?_,?_,?_,?_,?_,?_,?_,?_,?_,?_,?_,trivial⟩<;>intro vs w1 g i hd hx
  all_goals try (apply oV;rotate_left;rfl;exact GQ _ _;go_simp;done)
  all_goals try (apply oV;rotate_left;rfl;exact GQ _ _;have Y:=aJ.cell (g.2 B.out) 10 rfl;go_simp;done)
  all_goals try (apply oV;rotate_left;rfl;exact GQ _ _;have k8:=(D.out w1 (i (by kernel_rfl))).1;go_simp;done)
  all_goals try (apply oV;rotate_left;rfl;exact GQ _ _;have k9:=(D.out w1 (i (by kernel_rfl))).2.1;go_simp;done)
  all_goals try (apply oV;rotate_left;rfl;exact GQ _ _;have k5:=(D.out w1 (i (by kernel_rfl))).2.2.2.1;go_simp;done)
  ·refine bm 75 #[l] (by go_simp) ((C.out w1 (i (by kernel_rfl))).mono ?_);rintro e w5 ⟨rfl,rfl⟩;exact ⟨_,rfl,rfl,GQ _ _,fun h=>nomatch h⟩
  ·refine bm 76 #[l] (by go_simp) ((s.out w1 (i (by kernel_rfl))).mono ?_);rintro e w5 ⟨rfl,rfl⟩;exact ⟨_,rfl,rfl,GQ _ _,fun h=>nomatch h⟩
  ·refine bm 74 #[m,v,(Ba:Int),(Tp:Int),(sk:Int)] (by go_simp) ((d.out w1 (i (by kernel_rfl))).mono ?_);rintro e w5 ⟨rfl,hz,hp⟩;exact ⟨_,rfl,⟨rfl,hp⟩,⟨hz,fun _=>G.out _ hp⟩,fun h=>nomatch h⟩
  ,fun vs w1 g hp hx=> ?_⟩
 obtain ⟨ad,_⟩:=hp;have Xm:=ad;clear hx g;simp only [aj,ao];rw [HZ.out] at Xm;obtain ⟨_,M,V,P,hp⟩:=Xm;have r:=ae (ve V (Ba+A.Wd y) (by omega) P);rw [<-HX.out] at r hp;have E:=ae (fun w8 o k=>hp w1 w8 (GQ _ _) o k);have Y:=aJ.cell M 10 rfl;clear hp M V P HZ d I G B C s D;go_wp2_with fail
 refine r.out.mono ?_;rintro e w6 ⟨rfl,R,U⟩;obtain ⟨al,ak,ah,hq⟩:=HQ.out w6 (E.out w6 R U);have H:=ae hq;clear r E R U hq HQ Y;go_wp2;go_end0;exact H.out _
theorem pB(a:eX b c A rs u n T w):Calls prog 20 #[b] w (tI b c A rs T w):=by
 rcases a.cf.1.Yj with h|h|h
 ·exact FO a h
 ·exact FN a h
 ·exact FM a h
end
section
variable{s:dV}{L M L' M':Nat->Nat}{mp mp':Nat->Bool}{mvd:Nat->Bool}{fr ah left top n:Nat}
theorem xN{P a b q:Nat}(g:1<=P)(d:a<b):(a/P<=q/\q<=(b-1)/P)↔∃k,a<=k/\k<b/\k/P=q:=by
 constructor
 ·rintro ⟨c,e⟩;have f:q*P<=b-1:=(dA (by omega)).1 e;rcases kD a (q*P) with h|h
  ·exact ⟨q*P,h,by omega,dq _ (by omega)⟩
  ·refine ⟨a,ak _,d,Nat.le_antisymm c ((dA (by omega)).2 h)⟩
 ·rintro ⟨k,c,e,rfl⟩;exact ⟨bi c,bi (by omega)⟩
theorem yR(v:fS s)(z:1<=n)(u:s.Qe+s.N<=top)(w:top+n<=s.Qe+s.R*s.P)(q:Nat):ic s mvd (top+n) q=(ic s mvd top q||(decide (top/s.P<=q)&&decide (q<=(top+n-1)/s.P))):=by
 have o:=v.P1;have y:=v.toq;have p:∀i,(s.Qe+i)/s.P=s.Qe/s.P+i/s.P:=fun i=>wY o i y
 have x:∀t r,kQ s t r=true↔∃i,i/s.P=r/\s.N<=i/\s.Qe+i<t:=fun t r=>by
  unfold kQ;rw [cB o];simp only [au,aC]
 have g:=xN (P:=s.P) (a:=top) (b:=top+n) (q:=q) o (by omega);rw [bS];unfold ic;simp only [au,b8,aC,x];constructor
 ·rintro ⟨⟨d,e⟩,l|⟨i,j,f,c⟩⟩
  ·exact .inl ⟨⟨d,e⟩,.inl l⟩
  ·by_cases m:s.Qe+i<top
   ·exact .inl ⟨⟨d,e⟩,.inr ⟨i,j,f,m⟩⟩
   ·exact .inr (g.2 ⟨s.Qe+i,by omega,c,by rw [p];omega⟩)
 ·rintro (⟨⟨d,e⟩,l|⟨i,j,f,c⟩⟩|h)
  ·exact ⟨⟨d,e⟩,.inl l⟩
  ·exact ⟨⟨d,e⟩,.inr ⟨i,j,f,by omega⟩⟩
  ·obtain ⟨k,j,f,c⟩:=g.1 h;obtain ⟨i,rfl⟩:∃i,k=s.Qe+i:=⟨k-s.Qe,by omega⟩;rw [p] at c;have m:i/s.P<s.R:=by rw [bp (by omega)];omega
   exact ⟨⟨by rw [<-c];exact dK _ _,by rw [<-c];exact fy m _⟩,.inr ⟨i,by rw [<-c,cM],by omega,f⟩⟩
theorem mz.put(r:fS s)(h:mz s L M mp mvd fr ah left top){lo b:Nat}(C:s.Qe+s.N<=lo)(J:lo<=top)(O:top<=b)(G:b<=s.Qe+s.R*s.P)(x:∀q,q<s.W/s.P->mp' q=(ky s.P (aI s.E) (dH s.B mvd) q||ic s mvd b q))
  (v:∀k,k<lo->L' k=L k) (w:∀k,k<s.W->mp (k/s.P)=true->(k<lo\/b<=k)->M' k=M k) (H:∀k,lo<=k->k<b->M' k=L' k) (m:∃X,(∀k,X k=true->mvd k=true)/\nP s.P (s.W/s.P) s.R s.N (aI s.E) (dH s.B X) (kQ s b)<=s.R):
  mz s L' M' mp' mvd fr ah left b:=by
 have t:=r.P1;have K:=r.toq;have y:=r.Wq;have D:=r.to2;have A:∀i,(s.Qe+i)/s.P=s.Qe/s.P+i/s.P:=fun i=>wY t i K
 have l:∀k,k<s.W->k/s.P<s.W/s.P:=fun k I=>by rw [bp (by omega),<-y];exact I
 have z:∀a,a<s.W->aI s.E a=true->s.F a<s.Qe+s.N:=fun a d c=>by
  show goes s.E s.Qe a<_
  rw [uR];have:=jQ c d;unfold dV.N;omega
 have e:∀a,a<s.W->aI s.E a=true->mvd (ef s.E a/s.B)=false->M' a=M a:=fun a d c f=>by
  refine w a d ?_ ?_
  ·rw [h.Qx _ (l a d),b8];left;unfold ky;rw [cB t];refine ⟨a,rfl,?_⟩;show (aI s.E a&& !mvd (ef s.E a/s.B))=true
   rw [c,f];rfl
  ·rcases (r.from_ a c).2 with g|g
   ·left;omega
   ·right;omega
 have p:∀k,s.Qe+s.N<=k->k<lo->M' k=M k:=fun k g j=>by
  refine w k (by omega) ?_ (.inl j);obtain ⟨i,rfl⟩:∃i,k=s.Qe+i:=⟨k-s.Qe,by omega⟩;rw [h.Qx _ (l _ (by omega)),b8];right;have u:i/s.P<s.R:=by rw [bp (by omega)];omega
  unfold ic;rw [A,au,au,aC,aC,b8,cM];refine ⟨⟨dK _ _,fy u _⟩,.inr ?_⟩;unfold kQ;rw [cB t];exact ⟨i,rfl,by rw [au,aC,aC];exact ⟨by omega,by omega⟩⟩
 refine ⟨fun a d c f=> ?_,fun a d c f=> ?_,fun a d c f g j o=> ?_,fun a d c f=> ?_,fun k g j=> ?_,x,h.front,h.far,h.Ah,h.left,m⟩
 ·have g:=z a d c;rw [v _ (by omega),<-h.Yg a d c f];refine w _ (by omega) ?_ (.inl (by omega));have j:s.F a=s.Qe+ef s.E a:=rfl;rw [h.Qx _ (l _ (by omega)),b8];right;have u:ef s.E a/s.P<s.R:=by rw [bp (by omega)];omega
  unfold ic;rw [j,A,au,au,aC,aC,b8,cM];refine ⟨⟨dK _ _,fy u _⟩,.inl ?_⟩;unfold mA;rw [cB t];exact ⟨ef s.E a,rfl,by rw [au,aC];exact ⟨by omega,f⟩⟩
 ·rw [jm c (e a d c f),h.still a d c f,v _ (by have:=z a d c;omega)]
 ·rw [e a d c f] at o ⊢;exact h.Qr a d c f g j o
 ·rw [e a d c f];exact h.small a d c f
 ·by_cases o:k<lo
  ·rw [p k g o,h.behind k g (by omega),v k o]
  ·exact H k (by omega) j
theorem mz.grow(f:fS s)(h:mz s L M mp mvd fr ah left top)(g:1<=n)(a:s.Qe+s.N<=top)(b:top+n<=s.Qe+s.R*s.P)(e:∀q,mp' q=(mp q||(decide (top/s.P<=q)&&decide (q<=(top+n-1)/s.P))))
  (i:∀k,k<top->L' k=L k) (j:∀k,k<s.W->mp (k/s.P)=true->(k<top\/top+n<=k)->M' k=M k) (l:∀k,top<=k->k<top+n->M' k=L' k) (c:Qb mp' 0 (s.W/s.P)<=s.R):
  mz s L' M' mp' mvd fr ah left (top+n):=by
 have d:∀q,q<s.W/s.P->mp' q=(ky s.P (aI s.E) (dH s.B mvd) q||ic s mvd (top+n) q):=fun q m=>by
  rw [e,h.Qx q m,yR f g a b,jT]
 exact h.put f a (ak _) (by omega) b d i j l ⟨mvd,fun _ h=>h,by rw [<-qt f d];exact c⟩
theorem sD(mp:Nat->Bool)(a:Nat):∀k,Qb mp a (a+k)+Qb (fun q=> !mp q) a (a+k)=k
 |0=>by rw [eS _ (by omega),eS _ (by omega)]
 |k+1=>by
  rw [<-bW,cr _ (by omega),cr _ (by omega)];have:=sD mp a k
  cases mp (a+k)<;>simp<;>omega
theorem D0(mp mp':Nat->Bool){a e Q:Nat}(c:a<=e)(d:e<=Q)(h:∀q,mp' q=(mp q||(decide (a<=q)&&decide (q<e)))):Qb mp' 0 Q=Qb mp 0 Q+Qb (fun q=> !mp q) a e:=by
 rw [bJ mp' (aF a) (by omega),bJ mp' c d,bJ mp (aF a) (by omega),bJ mp c d,
  cI (f:=mp') (g:=mp) (a:=0) (b:=a) (fun i _ l=>by rw [h,ar (by omega)];simp),cI (f:=mp') (g:=mp) (a:=e) (b:=Q) (fun i l _=>by rw [h,ar (p:=i<e) (by omega)];simp),
  oX (f:=mp') (a:=a) (b:=e) (fun i j k=>by rw [h,aB j,aB k];simp)]
 have:=sD mp a (e-a);rw [Nat.add_sub_cancel' c] at this;omega
end
def pE(c:Cf):Value:= .agg #[((c.kind:Int):Int),((c.Pg:Int):Int),((c.block:Int):Int),((c.Wd:Int):Int),((c.Sl:Int):Int),((c.stack:Int):Int),((c.Ah:Int):Int),.float .f64 c.Qu]
theorem qP{c:Cf}(w:World)(s:1<=c.Pg)(t:c.block<=1024)(u:c.Ah<=16):Calls prog 182 #[pE c] w fun e w'=>e= .returned (.int .i64 (c.spare:Int))/\GM w w':=by
 have o:Hid ((prog.info? 24).map (·.size)=some 8):=by show _=_;kernel_rfl
 have p:decide ((c.Pg:Int)=0)=false:=by rw [az];omega
 have r:¬c.Pg=0:=by omega
 have l:=bK c.block c.Pg;have q:IntKind.i64.wrap ((c.block:Int)/(c.Pg:Int))=((c.block/c.Pg:Nat):Int):=by
  rw [show (c.block:Int)/(c.Pg:Int)=((c.block/c.Pg:Nat):Int) from rfl];generalize c.block/c.Pg=X at*;rw [IntKind.wrap_i64];omega
 have A:IntKind.i64.wrap ((c.Ah:Int)+2)=(c.Ah:Int)+2:=by rw [IntKind.wrap_i64];omega
 unfold pE
 go_enter func182,ntmps182
 obtain ⟨W1,f⟩:∃W1,w.alloc (.cells #[((c.kind:Int):Int),((c.Pg:Int):Int),((c.block:Int):Int),((c.Wd:Int):Int),((c.Sl:Int):Int),((c.stack:Int):Int),((c.Ah:Int):Int),.float .f64 c.Qu] 24)=W1:=⟨_,rfl⟩;have g:GM w W1:=by rw [<-f];exact (GQ _ w).alloc _
 have b:aJ W1 w.heap.size [((c.kind:Int):Int),((c.Pg:Int):Int),((c.block:Int):Int),((c.Wd:Int):Int),((c.Sl:Int):Int),((c.stack:Int):Int),((c.Ah:Int):Int),.float .f64 c.Qu] 24:=by rw [<-f];exact aJ.new w _ _
 have D:=b.drew.cell 6 rfl;have C:=b.drew.cell 2 rfl;have B:=b.drew.cell 1 rfl;have j:=ae g;clear g b;obtain ⟨Q,k⟩:∃Q,Q=c.block/c.Pg:=⟨_,rfl⟩;rw [<-k] at q l;have m:=ae k;clear k;go_wp2;clear f;refine bR (fun w'=>w'=W1.drew) 10 rfl ?_;simp only [ai,an,aj,ao];refine aA (.pointer (some ⟨w.heap.size,6,none⟩)) rfl (fun w a=>by go_simp) ?_;simp only [aa];refine aA (.int .i64 (c.Ah:Int)) rfl (fun w a=>by subst a;go_simp) ?_;simp only [aa];refine aV [(((c.Ah:Int)+2):Int),.pointer (some ⟨w.heap.size,2,none⟩)] ?_
 iterate 2 (refine aW rfl (fun E y=>by go_simp) ?_;simp only [aa])
 refine aU ?_;refine aA (.int .i64 (c.block:Int)) rfl (fun w a=>by subst a;go_simp) ?_;simp only [aa];refine aA (.pointer (some ⟨w.heap.size,1,none⟩)) rfl (fun w a=>by go_simp) ?_;simp only [aa];refine aA (.int .i64 (c.Pg:Int)) rfl (fun w a=>by subst a;go_simp) ?_;simp only [aa];refine aA (Q:Int) rfl (fun w a=>by go_simp) ?_;simp only [aa];refine aA (.int .i64 ((max Q 1:Nat):Int)) rfl (fun w a=>by go_simp;omega) ?_;simp only [aa];refine aA (.int .i64 ((max Q 1+3:Nat):Int)) rfl (fun w a=>by go_simp;rw [IntKind.wrap_i64];omega) ?_;simp only [aa];refine wpQuiet_nil ?_;rintro w2 rfl;have i:∀M:Nat,M<=1024->wrap64 (((c.Ah:Int)+2)*((M:Int)+3))=(((c.Ah+2)*(M+3):Nat):Int):=fun M z=>by
  have v:(c.Ah+2)*(M+3)<=18*1027:=lM (by omega) (by omega);have n:((c.Ah:Int)+2)*((M:Int)+3)=(((c.Ah+2)*(M+3):Nat):Int):=by push_cast;rfl
  rw [n];generalize (c.Ah+2)*(M+3)=Z at*;unfold wrap64;omega
 have d:=i (max Q 1) (by omega);have h:(c.Ah+2)*(max Q 1+3)=c.spare:=by unfold Cf.spare;rw [m.out]
 rw [h] at d;clear i h;go_wp2;go_ret;exact ⟨congrArg (fun x=>Ending.returned (x:Int)) d,j.out.drew⟩
section
variable{P:Program}{a:Act}{o:Oper}
theorem xH{c:TypeId}{x:Operand}(h:o.op= .load c x)(b f:Nat)(j:a.eval x= .pointer (some ⟨b,f,none⟩))(cs:List Value)(d:TypeDesc){w:World}
  (hg:w.rangeAt b f cs) (i:P.underlying c=some d) (e:d.isRow=true) (g:(P.info? c).map (·.size)=some cs.length):
  (execOp a.eval o).run P w= .ok (.value (.agg cs.toArray)) w:=by
 unfold execOp;simp only [h,j,Instr.loadAt,Instr.sureAddr,Sem.run_bind,Sem.run_pure,Result.andThen_ok,run_loadVar_mid w b f c cs d hg i e g]
end
def FA(q:Nat->Prop)(b:Nat)(c:Cf)(A:AG)(rs:List Nat)(u n:Nat)(T:Nat->Prop)(w:World):Prop:=
 ∃h φ L Ba ub cy ns bs S,h.b=b/\kP q h c A rs φ L Ba u ub cy n ns bs S w/\(∀k,T k↔kT h ub S k)/\(n=0->cy=none)
def vr(kW:Nat)(b:Nat)(c:Cf)(A:AG)(rs:List Nat)(u:Nat)(T:Nat->Prop)(w:World)(e:Ending)(w':World):Prop:=e= .returned (.tuple #[])/\∃n T',FA (fun Us=>Us+kW<=c.Wd/c.Pg) b c A rs u n T' w'/\Fr T w w'/\∀k,T' k->T k\/w.heap.size<=k
section
variable{b u n:Nat}{c:Cf}{A:AG}{rs:List Nat}{T:Nat->Prop}{w wr:World}
theorem ko.drew(g:ko b c A rs u n T w wr):ko b c A rs u n T w wr.drew:=let ⟨a,d,e,f⟩:=g;⟨a,d.Qa ((GQ _ _).drew),e.drew,f⟩
theorem A8(kW:Nat)(V:ko b c A rs u n T w wr):
  (n=0/\(∀w',GM wr w'->w'.cell? ⟨b,11,none⟩=some (.pointer none)/\True)/\∀w',GM wr w'->vr kW b c A rs u T w (.returned (.tuple #[])) w')\/
  (n≠0/\∃(y m Us:Nat),Us<=4096/\(∀w',GM wr w'->w'.cell? ⟨b,11,none⟩=some y/\w'.cell? ⟨b,8,none⟩=some m/\True)/\(∀w',GM wr w'->Calls prog 183 #[m] w' fun e l=>e= .returned (.int .i64 (c.Fs:Int))/\w'=l)/\
   (∀w',GM wr w'->Calls prog 78 #[m] w' fun e l=>e= .returned (Us:Int)/\w'=l)/\c.Fs=c.Wd/c.Pg+c.spare/\(∀w',GM wr w'->w'.rangeAt b 0 [((c.kind:Int):Int),((c.Pg:Int):Int),((c.block:Int):Int),((c.Wd:Int):Int),((c.Sl:Int):Int),((c.stack:Int):Int),((c.Ah:Int):Int),.float .f64 c.Qu])/\
   (Us+kW<=c.Wd/c.Pg->∀w',GM wr w'->vr kW b c A rs u T w (.returned (.tuple #[])) w')):=by
 obtain ⟨r,⟨h,φ,L,Ba,J,P,E,t,S,rfl,i,B,p⟩,x,z⟩:=V
 cases P with
 |none=>
  left;refine ⟨i.mem.1,fun w' hf=>⟨aJ.cell (i.Qa hf).Qd 11 rfl,trivial⟩,fun w' hf=>⟨rfl,n,r,⟨h,φ,L,Ba,J,none,E,t,S,rfl,?_,B,fun _=>rfl⟩,x.trans hf GN,z⟩⟩;have a:=i.Qa hf;exact ⟨a.Qs,a.Qd,a.roots,a.Yb,a.Qp,a.laid,a.Sl,a.fits,a.half,a.mem,a.d,a.e⟩
 |some y=>
  right;refine ⟨fun Q=>(by cases p Q),?_⟩;obtain ⟨C,O,s,q,hg,K,fr,N,X,⟨Us,_,F⟩,Y,G,Z,H,r5,I,r7,r8⟩:=id i.mem;have f:∀w',GM wr w'->∃Hg o mp M,ed w' h.m o c.Pg c.W c.Fs Us Hg mp M:=fun w' hf=>by
   obtain ⟨Hg,o,mp,M,fw,k,p1,p2,p3,p4,p5⟩:=F.stays hf (fun _ _ h=>h) id;have g:=p1.mem;rw [G,H,I] at g;exact ⟨Hg,o,mp,M,g⟩
  refine ⟨y,h.m,Us,?_,fun w' hf=>⟨aJ.cell (i.Qa hf).Qd 11 rfl,aJ.cell (i.Qa hf).Qd 8 rfl,trivial⟩,fun w' hf=> ?_,fun w' hf=> ?_,?_,fun w' hf j v D=> ?_,fun U w' hf=>⟨rfl,n,r,⟨h,φ,L,Ba,J,some y,E,t,S,rfl,?_,B,p⟩,x.trans hf GN,z⟩⟩
  ·obtain ⟨Hg,o,mp,M,g⟩:=f wr (GQ _ _);have:=g.at;omega
  ·obtain ⟨Hg,o,mp,M,g⟩:=f w' hf;exact zy g
  ·obtain ⟨Hg,o,mp,M,g⟩:=f w' hf;exact zx g
  ·unfold Cf.Fs;rw [aG C]
  ·rw [br];have R:j<8:=(al.1 D).1;refine aJ.cell (i.Qa hf).Qd j ?_;unfold Cf.cells;rw [bX (by exact R)];exact D
  ·have a:=i.Qa hf;exact ⟨a.Qs,a.Qd,a.roots,a.Yb,a.Qp,a.laid,a.Sl,a.fits,a.half,⟨C,O,s,q,hg,K,fr,N,X,⟨Us,U,F.stays hf (fun _ _ h=>h) id⟩,Y,G,Z,H,r5,I,r7,r8⟩,a.d,a.e⟩
theorem uK(hi:eX b c A rs u n T w)(sz:Nat)(az:sz<=1024):Calls prog 123 #[b,(sz:Int)] w (vr (sz/c.Pg+2) b c A rs u T w):=by
 have i:=hi.cf.1;have H0:=ae (show ko b c A rs u n T w w from ⟨T,hi,GQ _ _,fun _ h=> .inl h⟩);have V:=ae (fun n w1 (hh:ko b c A rs u n T w w1)=>(show Calls prog 17 #[b] w1 fun e w2=>e= .returned (.bool (decide (n≠0)))/\ko b c A rs u (n-1) T w w2 from by
  obtain ⟨T',q1,q2,q3⟩:=hh;refine (qO q1).mono ?_;rintro e w2 ⟨rfl,ar,r1,r2,r3⟩;have hz:=q2.size;exact ⟨rfl,ar,r1,q2.trans r2 q3,fun k I=>by
   rcases r3 k I with h|h
   ·exact q3 k h
   ·exact .inr (by omega)⟩))
 have k1:w.cell? ⟨b,1,none⟩=some (.int .i64 (c.Pg:Int)):=by
  obtain ⟨h,φ,L,Ba,ub,cy,ns,bs,S,rfl,q2,q3,q4⟩:=hi;exact aJ.cell q2.Qd 1 rfl
 have U:Hid ((prog.info? 24).map (·.size)=some 8):=by show _=_;kernel_rfl
 have aw:=i.Qq;have Xk:¬c.Pg=0:=by omega
 have ay:=bK sz c.Pg;have s:IntKind.i64.wrap ((sz:Int)/(c.Pg:Int))=((sz/c.Pg:Nat):Int):=by
  rw [show (sz:Int)/(c.Pg:Int)=((sz/c.Pg:Nat):Int) from rfl];generalize sz/c.Pg=X at*;rw [IntKind.wrap_i64];omega
 have B:=ae (fun w'=>qP (c:=c) w' i.Qq i.Yn i.Yo);have Z:=i.Zc;clear i aw;obtain ⟨kW,r⟩:∃kW,kW=sz/c.Pg+2:=⟨_,rfl⟩;have E:kW<=2000:=by generalize sz/c.Pg=X at*;omega
 have F:((sz/c.Pg:Nat):Int)+2=(kW:Int):=by rw [r];push_cast;rfl
 have ax:IntKind.i64.wrap (((sz/c.Pg:Nat):Int)+2)=(kW:Int):=by rw [F,IntKind.wrap_i64];omega
 rw [<-r];have l:=ae (fun n wr (M:ko b c A rs u n T w wr)=>A8 kW M);clear F r;generalize sz/c.Pg=X at*;have aq:=ae E;clear E hi;generalize (vr kW b c A rs u T w)=Q at*
 go_enter func123,ntmps123
 go_wp2;clear k1 s ay Xk ax
 go_loopw [] (fun wr=>∃n,Hid (ko b c A rs u n T w wr)) (fun wr=>gu (fun n=>ko b c A rs u n T w wr))
 case atStart=>exact ⟨n,H0⟩
 case round=>
  clear H0;obtain ⟨aE,hm⟩:=hrel;obtain ⟨M,_⟩:=dG (P:=fun n=>ko b c A rs u n T w wr) hm.out;clear hm;generalize ad:gu (fun n=>ko b c A rs u n T w wr)=m0 at M;have am:=ae ad;have O:=ae (fun w1 (hf:GM wr.drew w1)=>V.out m0 w1 (let ⟨T',h1,h2,h3⟩:=M;⟨T',h1.Qa (((GQ (fun _=>False) wr).drew).trans hf GN),h2.trans (((GQ (fun _=>False) wr).drew).trans hf GN) GN,h3⟩));have au:=l.out m0 wr.drew M.drew;clear ad M l V;rcases au with ⟨W,I,s⟩|⟨W,y,m,Us,hu,I,ah,ak,q,af,s⟩
  ·have o:=ae I;have K:=ae s;clear I s O W;go_wp2;refine bR (fun w'=>GM wr.drew w') 24 (GQ _ _) ?_;simp only [ai,an,aj,ao];refine aA b rfl (fun j g=>by go_simp) ?_;simp only [aa];refine aA b rfl (fun j g=>by go_simp) ?_;simp only [aa];refine aA (.pointer (some ⟨b,11,none⟩)) rfl (fun j g=>by go_simp) ?_;simp only [aa];refine aA (.pointer none) rfl (fun j g=>by have al:=(o.out j g).1;go_simp) ?_;simp only [aa];refine aA (.bool false) rfl (fun j g=>by go_simp) ?_;simp only [aa];refine aA (.bool false) rfl (fun j g=>by go_simp) ?_;simp only [aa]
   go_big_quiet_skip
   go_big_quiet_skip
   go_big_quiet_skip
   go_big_quiet_skip
   go_big_quiet_skip
   go_big_quiet_skip
   go_big_quiet_skip
   go_big_quiet_skip
   go_big_quiet_skip
   go_big_quiet_skip
   go_big_quiet_skip
   go_big_quiet_skip
   go_big_quiet_skip
   go_big_quiet_skip
   go_big_quiet_skip
   go_big_quiet_skip
   go_big_quiet_skip
   go_big_quiet_skip
   refine wpQuiet_nil ?_;rintro w2 a;have H:=ae (K.out w2 a);clear a K o;go_wp2;go_end0;exact H.out
  ·rw [aB W] at O;have ap:=ae W;generalize c.Wd/c.Pg=Y at q s;have o:=ae I;have K:=ae s;have v:=ae af;obtain ⟨t,J⟩:∃t,t=c.spare:=⟨_,rfl⟩;have x:Hid (∀w',GM wr.drew w'->Calls prog 182 #[pE c] w' fun e f=>e= .returned (t:Int)/\GM wr.drew f):=by
    show∀w',_
    intro w' hf;rw [J];refine (B.out w').mono ?_;rintro e f ⟨rfl,h⟩;exact ⟨rfl,hf.trans h GN⟩
   have p:Hid (∀w',GM wr.drew w'->Calls prog 183 #[m] w' fun e f=>e= .returned (.int .i64 (c.Fs:Int))/\GM wr.drew f):=by
    show∀w',_
    intro w' hf;refine (ah w' hf).mono ?_;rintro e f ⟨rfl,rfl⟩;exact ⟨rfl,hf⟩
   have z:Hid (∀w',GM wr.drew w'->Calls prog 78 #[m] w' fun e f=>e= .returned (Us:Int)/\GM wr.drew f):=by
    show∀w',_
    intro w' hf;refine (ak w' hf).mono ?_;rintro e f ⟨rfl,rfl⟩;exact ⟨rfl,hf⟩
   rw [<-J] at q;obtain ⟨fr,D⟩:∃fr,fr=c.Fs:=⟨_,rfl⟩;rw [<-D] at q Z p;have aC:IntKind.i64.wrap ((fr:Int)-(Us:Int))=(fr:Int)-(Us:Int):=by rw [IntKind.wrap_i64];omega
   have aD:IntKind.i64.wrap ((kW:Int)+(t:Int))=(kW:Int)+(t:Int):=by have:=aq.out;rw [IntKind.wrap_i64];omega
   have C:(¬(fr:Int)-(Us:Int)<(kW:Int)+(t:Int))->Us+kW<=Y:=fun h=>by rw [q] at h;push_cast at h;omega
   have G:=ae C;clear I s af ah ak J D q Z hu C W B;by_cases av:(fr:Int)-(Us:Int)<(kW:Int)+(t:Int)
   ·clear K G;go_wp2;refine bR (fun w'=>GM wr.drew w') 24 (GQ _ _) ?_;simp only [ai,an,aj,ao];refine aA b rfl (fun j g=>by go_simp) ?_;simp only [aa];refine aA b rfl (fun j g=>by go_simp) ?_;simp only [aa];refine aA (.pointer (some ⟨b,11,none⟩)) rfl (fun j g=>by go_simp) ?_;simp only [aa];refine aA y rfl (fun j g=>by have al:=(o.out j g).1;have k8:=(o.out j g).2.1;go_simp) ?_;simp only [aa];refine aA (.bool true) rfl (fun j g=>by go_simp) ?_;simp only [aa];refine aA (.bool true) rfl (fun j g=>by go_simp) ?_;simp only [aa];refine cC b rfl (fun j g=>by go_simp) ?_;simp only [aa];refine cC b rfl (fun j g=>by go_simp) ?_;simp only [aa];refine cC (.pointer (some ⟨b,8,none⟩)) rfl (fun j g=>by go_simp) ?_;simp only [aa];refine cC m rfl (fun j g=>by have al:=(o.out j g).1;have k8:=(o.out j g).2.1;go_simp) ?_;simp only [aa];refine fe (.int .i64 fr) 183 #[m] rfl (fun w'=>by go_simp) p.out ?_;simp only [aa];refine cC b rfl (fun j g=>by go_simp) ?_;simp only [aa];refine cC b rfl (fun j g=>by go_simp) ?_;simp only [aa];refine cC (.pointer (some ⟨b,8,none⟩)) rfl (fun j g=>by go_simp) ?_;simp only [aa];refine cC m rfl (fun j g=>by have k8:=(o.out j g).2.1;go_simp) ?_;simp only [aa];refine fe (.int .i64 Us) 78 #[m] rfl (fun w'=>by go_simp) z.out ?_;simp only [aa];refine cC (((fr:Int)-(Us:Int)):Int) rfl (fun j g=>by go_simp) ?_;simp only [aa];refine cC (kW:Int) rfl (fun j g=>by go_simp) ?_;simp only [aa];refine cC b rfl (fun j g=>by go_simp) ?_;simp only [aa];refine cC b rfl (fun j g=>by go_simp) ?_;simp only [aa];refine cC b rfl (fun j g=>by go_simp) ?_;simp only [aa];refine cC (pE c) rfl (fun w' d=>xH rfl b 0 rfl _ _ (v.out w' d) rfl rfl U.out) ?_;simp only [aa];refine fe (.int .i64 t) 182 #[pE c] rfl (fun w'=>by go_simp) x.out ?_;simp only [aa];refine cC (.int .i64 ((kW:Int)+(t:Int))) rfl (fun w' d=>by go_simp) ?_;simp only [aa];refine wpQuiet_nil ?_;rintro w2 a;have R:=ae (O.out w2 a);clear O o v p z x a;go_wp2_with fail
    refine R.out.mono ?_;rintro e w3 ⟨rfl,s⟩;have H:=ae s;clear s R;go_wp2;go_roundw
    case rel=>exact ⟨m0-1,H⟩
    case measure=>exact bU (dG (P:=fun n=>ko b c A rs u n T w w3) H.out).2 (by have:=ap.out;have:=am.out;omega)
   ·have N:=ae (K.out (G.out av));clear K G O;go_wp2;refine bR (fun w'=>GM wr.drew w') 24 (GQ _ _) ?_;simp only [ai,an,aj,ao];refine aA b rfl (fun j g=>by go_simp) ?_;simp only [aa];refine aA b rfl (fun j g=>by go_simp) ?_;simp only [aa];refine aA (.pointer (some ⟨b,11,none⟩)) rfl (fun j g=>by go_simp) ?_;simp only [aa];refine aA y rfl (fun j g=>by have al:=(o.out j g).1;have k8:=(o.out j g).2.1;go_simp) ?_;simp only [aa];refine aA (.bool true) rfl (fun j g=>by go_simp) ?_;simp only [aa];refine aA (.bool true) rfl (fun j g=>by go_simp) ?_;simp only [aa];refine cC b rfl (fun j g=>by go_simp) ?_;simp only [aa];refine cC b rfl (fun j g=>by go_simp) ?_;simp only [aa];refine cC (.pointer (some ⟨b,8,none⟩)) rfl (fun j g=>by go_simp) ?_;simp only [aa];refine cC m rfl (fun j g=>by have al:=(o.out j g).1;have k8:=(o.out j g).2.1;go_simp) ?_;simp only [aa];refine fe (.int .i64 fr) 183 #[m] rfl (fun w'=>by go_simp) p.out ?_;simp only [aa];refine cC b rfl (fun j g=>by go_simp) ?_;simp only [aa];refine cC b rfl (fun j g=>by go_simp) ?_;simp only [aa];refine cC (.pointer (some ⟨b,8,none⟩)) rfl (fun j g=>by go_simp) ?_;simp only [aa];refine cC m rfl (fun j g=>by have k8:=(o.out j g).2.1;go_simp) ?_;simp only [aa];refine fe (.int .i64 Us) 78 #[m] rfl (fun w'=>by go_simp) z.out ?_;simp only [aa];refine cC (((fr:Int)-(Us:Int)):Int) rfl (fun j g=>by go_simp) ?_;simp only [aa];refine cC (kW:Int) rfl (fun j g=>by go_simp) ?_;simp only [aa];refine cC b rfl (fun j g=>by go_simp) ?_;simp only [aa];refine cC b rfl (fun j g=>by go_simp) ?_;simp only [aa];refine cC b rfl (fun j g=>by go_simp) ?_;simp only [aa];refine cC (pE c) rfl (fun w' d=>xH rfl b 0 rfl _ _ (v.out w' d) rfl rfl U.out) ?_;simp only [aa];refine fe (.int .i64 t) 182 #[pE c] rfl (fun w'=>by go_simp) x.out ?_;simp only [aa];refine cC (.int .i64 ((kW:Int)+(t:Int))) rfl (fun w' d=>by go_simp) ?_;simp only [aa];refine wpQuiet_nil ?_;rintro w2 a;have H:=ae (N.out w2 a);clear o v p z x a N;go_wp2;go_end0;exact H.out
end
def GA(c:Cf)(m Ba top lo y n:Nat)(L:Nat->Nat)(S:Nat->Prop)(w:World):Prop:=
 ∃cc s hf hg Mv fr ah Us,yD cc s hf hg c.Fs top/\rJ cc s hf hg c.Fs top Mv n fr ah Us L S w/\cc.y=y/\cc.m=m/\s.Qe=Ba/\s.P=c.Pg/\s.R=c.Wd/c.Pg/\s.W=c.W/\s.B=c.block/\s.Ah=c.Ah/\s.Qe+s.N<=lo
def Gz(c:Cf)(m Ba top lo:Nat)(L:Nat->Nat)(S:Nat->Prop)(w:World):Option Nat->Nat->Prop
 |none,_=>True
 |some y,n=>GA c m Ba top lo y n L S w
def Fm(b:Nat)(c:Cf)(A:AG)(rs:List Nat)(u sz n:Nat)(T:Nat->Prop)(w:World)(a:Nat):Prop:=
 ∃h φ L Ba ub cy ns bs S,h.b=b/\kP (fun _=>True) h c A rs φ L Ba (u+sz) ub cy n ns bs S w/\(∀k,T k↔kT h ub S k)/\(n=0->cy=none)/\cP A rs φ L Ba (Ba+u)/\a=Ba+u/\Gz c h.m Ba (Ba+(u+sz)) (Ba+u) L S w cy n
section
variable{b u n:Nat}{c:Cf}{A:AG}{rs:List Nat}{T:Nat->Prop}{w w':World}
theorem eX.q0(j:eX b c A rs u 0 T w)(q:Nat->Prop):FA q b c A rs u 0 T w:=by
 obtain ⟨h,φ,L,Ba,l,m,k,g,S,rfl,a,i,f⟩:=j;obtain rfl:=f rfl;exact ⟨h,φ,L,Ba,l,none,k,g,S,rfl,⟨a.Qs,a.Qd,a.roots,a.Yb,a.Qp,a.laid,a.Sl,a.fits,a.half,a.mem,a.d,a.e⟩,i,f⟩
theorem yZ{Ba Pg top sz:Nat}{mp:Nat->Bool}(hp:1<=Pg)(r:Ba% Pg=0)(o:1<=sz)(m:Ba<=top)(h:∀q,mp q=(decide (Ba<=q*Pg)&&decide (q*Pg<top)))(q:Nat):(mp q||(decide (top/Pg<=q)&&decide (q<=(top+sz-1)/Pg)))=(decide (Ba<=q*Pg)&&decide (q*Pg<top+sz)):=by
 have g:=xN (P:=Pg) (a:=top) (b:=top+sz) (q:=q) hp (by omega);have p:Ba=Ba/Pg*Pg:=by have:=aM Ba Pg;rw [aN];omega
 rw [h,bS];simp only [au,b8,aC];rw [g];constructor
 ·rintro (⟨d,e⟩|⟨k,d,e,f⟩)
  ·exact ⟨d,by omega⟩
  ·have i:=bi (c:=Pg) (show Ba<=k by omega);have j:=aX Pg i;have l:=bE k Pg;rw [f] at j l;exact ⟨by omega,by omega⟩
 ·rintro ⟨d,e⟩;by_cases f:q*Pg<top
  ·exact .inl ⟨d,f⟩
  ·exact .inr ⟨q*Pg,by omega,e,dq _ (by omega)⟩
theorem DZ{Ba top Pg R N:Nat}{mp:Nat->Bool}(hp:1<=Pg)(g:Ba% Pg=0)(h:top<=Ba+R*Pg)(d:∀q,mp q=(decide (Ba<=q*Pg)&&decide (q*Pg<top))):Qb mp 0 N<=R:=by
 have f:Ba=Ba/Pg*Pg:=by have:=aM Ba Pg;rw [aN];omega
 refine kz (a:=Ba/Pg) (fun i _ e=> ?_);rw [d,au,aC,aC] at e;refine ⟨lO (by rw [aN];exact e.1),?_⟩;refine eT (a:=Pg) ?_;rw [fM,<-f];omega
theorem Al{mp:Nat->Bool}{top sz Pg:Nat}(hp:1<=Pg)(h:1<=sz):Qb (fJ mp) (top/Pg) ((top+sz-1)/Pg+1)<=sz/Pg+2:=by
 have i:=dR (fJ mp) (top/Pg) ((top+sz-1)/Pg+1);have j:(top+sz-1)/Pg<=top/Pg+(sz/Pg+1):=by
  have d:=aM top Pg;have e:=aM sz Pg;have f:=bO top (show Pg>0 by omega);have g:=bO sz (show Pg>0 by omega);rw [<-Nat.lt_succ_iff,bp (by omega)];have a:(top/Pg+(sz/Pg+1)).succ*Pg=Pg*(top/Pg)+Pg*(sz/Pg)+Pg+Pg:=by
   rw [cY,fM,fM,Nat.one_mul,aN (top/Pg),aN (sz/Pg)];omega
  rw [a];omega
 generalize (top+sz-1)/Pg=X at*;generalize top/Pg=Y at*;generalize sz/Pg=Z at*;omega
theorem iz.wordsq(a:iz c):c.Wd/c.Pg*c.Pg=c.Wd:=by have:=aM c.Wd c.Pg;have:=a.wp;rw [aN];omega
theorem kP.ran{q r:Nat->Prop}{h:Hp}{φ L L':Nat->Nat}{Ba i g n':Nat}{j:Option Nat}{p l:Int}{S S':Nat->Prop}{A':AG}(a:kP q h c A rs φ L Ba u i j n p l S w)(hf:Fr (fun k=>S k\/k=i) w w')(C:∀k,S' k->S k\/w.heap.size<=k)(B:fx w' i h.m Ba (Ba+g) (Ba+c.Wd))(F:vB c h.m Ba (Ba+g) r L' S' w' j n')(z:cP A' rs φ L' Ba (Ba+g))(E:g<=c.Wd):kP r h c A' rs φ L' Ba g i j n' p l S' w':=by
 have d:=a.d;have f:=a.lt;have D:cO<w.heap.size:=cl (a.Qp 0 0 rfl);obtain ⟨G,H,s,t,v,I,J,x,K⟩:=id a.e;refine ⟨a.Qs,aJ.frame a.Qd hf (fun h=>h.elim (fun h=>(d _ h).1 rfl) s),a.roots.frame hf (fun h=>h.elim (fun h=>(d _ h).2.1 rfl) t) (fun h=>h.elim (fun h=>(d _ h).2.2.1 rfl) v),B,aS a.Qp hf (fun h=>h.elim (fun h=>(d _ h).2.2.2.2 rfl) (Ne.symm x)),z,a.Sl,E,a.half,F,fun k y=> ?_,a.e⟩;rcases C k y with o|o
 ·exact d k o
 ·have M:=f _ (.inr (.inl rfl));have N:=f _ (.inr (.inr (.inl rfl)));have O:=f _ (.inr (.inr (.inr (.inl rfl))));have P:=f _ (.inr (.inr (.inr (.inr rfl))));omega
theorem jE.mem2{c:Cy}{s:dV}{hf hg:Nat->Nat}{Fs Us Hg g q:Nat}{r l:Nat->Prop}{mp t:Nat->Bool}{M z:Nat->Nat}{C:List Bool}{E:Nat->Option Nat}{n left fr D x:Nat}(h:jE c s hf hg Fs Us Hg r mp M C E n left fr D w)(I:ed w' c.m l s.P s.W Fs g q t z)(a:Fr (fun k=>r k\/k=x) w w')(j:∀k,l k->r k\/w.heap.size<=k)(v:¬c.has x)(y:x≠cO):jE c s hf hg Fs g q l t z C E n left fr D w':=by
 obtain ⟨K,f,L,N⟩:=h.shp;have p:∀k,c.has k->¬(r k\/k=x):=fun k o j=>j.elim (fun j=>(h.dm k j).1 o) (fun e=>v (e▸o))
 have J:¬(r cO\/cO=x):=fun j=>j.elim (fun j=>(h.dm _ j).2 rfl) (Ne.symm y)
 exact ⟨h.Qd.frame a (p _ (.inl rfl)),I,h.Xe.frame a (fun i H=>by
   by_cases v:c.lo<=i/\i<c.hi
   ·exact absurd H (p i (.inr (.inr (.inr (.inr (.inr v))))))
   ·omega),h.ext.frame a (fun k o=>p k (.inr (.inr (.inr (.inr (.inl o)))))),aS h.Qp a J,h.mv.frame a (p _ (.inr (.inl rfl))),h.wds.frame a (p _ (.inr (.inr (.inl rfl)))),⟨K,f,L.frame a (p _ (.inr (.inr (.inr (.inl rfl))))),N⟩,
  by have:=h.hib;have:=a.size;omega,fun k o=>by
   rcases j k o with F|F
   ·exact h.dm k F
   ·exact ⟨fun G=>by have:=h.lt k G;omega,fun e=>by have:=h.Xu;omega⟩,h.d,h.B,h.Qe,h.len⟩
def F8(b:Nat)(c:Cf)(A:AG)(rs:List Nat)(u sz n:Nat)(T:Nat->Prop)(w:World)(a:Nat)(e:Ending)(w':World):Prop:=e= .returned (.tuple #[(a:Int),(0:Int)])/\∃T',Fm b c A rs u sz n T' w' a/\Fr T w w'/\∀k,T' k->T k\/w.heap.size<=k
theorem E4{sz:Nat}(hq:FA (fun Us=>Us+(sz/c.Pg+2)<=c.Wd/c.Pg) b c A rs u n T w)(t:1<=sz)(D:u+sz<=c.Wd):∃r a,w.cell? ⟨b,10,none⟩=some (.pointer (some ⟨r,0,none⟩))/\Calls prog 124 #[.pointer (some ⟨r,0,none⟩),(sz:Int)] w (F8 b c A rs u sz n T w a):=by
 obtain ⟨h,φ,L,Ba,r,cy,ns,bs,S,rfl,g,V,al⟩:=hq;have au:=g.half.le;have ax:=g.half.top;have J:=g.Qs.Qq;have o:=g.half.mod g.Qs;have aq:=g.Qs.wordsq;have ai:=g.laid.wide (hi':=Ba+(u+sz)) (by omega);have I:∀k,S k->k≠r:=fun k f=>(g.d k f).2.2.2.1
 refine ⟨r,Ba+u,aJ.cell g.Qd 10 rfl,?_⟩;have X:∀k,S k\/k=r->T k:=fun k f=>(V k).2 (f.elim .inl (fun e=> .inr (.inr (.inr (.inr e)))))
 cases cy with
 |none=>
  obtain ⟨am,Us,Hg,mp,⟨M,hm,ak⟩,aj⟩:=id g.mem;have F:=yZ (sz:=sz) J o t (dK Ba u) aj;have ap:=hm.at.2.2.2.2.2.2.2.1;have hQ:(Ba+u+sz-1)/c.Pg+1<=c.W/c.Pg:=by
   rw [Nat.succ_le_iff,bp (by omega)];have:=g.Qs.Wp;have h3:=aM c.W c.Pg;rw [aN] at h3;omega
  have aw:=D0 mp (fun q=>mp q||(decide ((Ba+u)/c.Pg<=q)&&decide (q<(Ba+u+sz-1)/c.Pg+1))) (e:=(Ba+u+sz-1)/c.Pg+1) (Q:=c.W/c.Pg) (ol (bi (c:=c.Pg) (show Ba+u<=Ba+u+sz-1 by omega))) hQ (fun q=>rfl);have ar:=DZ (R:=c.Wd/c.Pg) (N:=c.W/c.Pg) (mp:=fun q=>mp q||(decide ((Ba+u)/c.Pg<=q)&&decide (q<(Ba+u+sz-1)/c.Pg+1))) J o (top:=Ba+u+sz) (by omega) (fun q=>by
   have:=F q;show (mp q||(decide ((Ba+u)/c.Pg<=q)&&decide (q<(Ba+u+sz-1)/c.Pg+1)))=_
   rw [<-this];congr 2;rw [ce];omega)
  have ad:c.Wd/c.Pg<=c.Fs:=dK _ _;refine (sH g.Yb hm (fun h=>I _ h rfl) sz t (by omega) (by omega) (by show Us+Qb (fun q=> !mp q) _ _<=_;omega)).mono ?_;rintro e w' ⟨rfl,hr,S',H,j,z,g1,g2,g3,O,U⟩;have m:∀x,Reach A.gr rs x->∀i,i<A.sz x->(if j ((φ x+i)/c.Pg)=true then z (φ x+i) else L (φ x+i))=L (φ x+i):=fun x hx i hi=>by
   have h5:=g.laid.Qn x hx;obtain ⟨d1,d2⟩:=qF aj o (show Ba+u<=c.W by omega) (φ x+i) (by omega) (by omega);by_cases h6:j ((φ x+i)/c.Pg)=true
   ·rw [aG h6,g3 _ d1 d2,ak _ ⟨d1,d2⟩]
   ·rw [aE h6]
  refine ⟨rfl,kT h r S',⟨h,φ,fun k=>if j (k/c.Pg)=true then z k else L k,Ba,r,none,ns,bs,S',rfl,g.ran O U (by rw [<-bW];exact hr) ⟨am,_,H,j,⟨z,g1,fun a ha=>(aG ha.2).symm⟩,fun q=> ?_⟩ (ai.Xy ?_) D,fun k=>dX,fun _=>rfl,g.laid.Xy ?_,rfl,trivial⟩,O.mono (fun k f=> .inl (X k f)),fun k f=> ?_⟩
  ·rw [g2,F q,bW]
  ·exact m
  ·exact m
  ·rcases f with f|f
   ·exact (U k f).imp (fun h=>(V k).2 (.inl h)) id
   ·exact .inl ((V k).2 (.inr f))
 |some y=>
  obtain ⟨f,C,s,v,hg,Mv,fr,ah,p,⟨Us,ap,Hg,Sm,mp,M,fw,kk,p1,p2,p3,p4,p5⟩,r1,r2,r3,G,r5,K,r7,r8⟩:=id g.mem;have hm:=p1.mem;rw [r2,G,K] at hm;have av:=Al (mp:=mp) (top:=Ba+u) J t;have ad:c.Wd/c.Pg<=c.Fs:=dK _ _;refine (sH g.Yb hm (fun h=>I _ ((p5 _).2 (.inl h)) rfl) sz t (by omega) (by omega) (by omega)).mono ?_;rintro e w' ⟨rfl,hr,l,H,j,z,g1,g2,g3,O,U⟩;have m:∀x,Reach A.gr rs x->∀i,i<A.sz x->(if Ba+u<=φ x+i then z (φ x+i) else L (φ x+i))=L (φ x+i):=fun x hx i hi=>by
   have h5:=g.laid.Qn x hx;exact aE (by omega)
  have af:Fr (fun k=>S k\/k=r) w w':=O.mono (fun k f=> .inl (f.imp (fun h=>(p5 k).2 (.inl h)) id));have hs:∀k,(l k\/C.has k)->S k\/w.heap.size<=k:=fun k f=>by
   rcases f with f|f
   ·exact (U k f).imp (fun h=>(p5 k).2 (.inl h)) id
   ·exact .inl ((p5 k).2 (.inr f))
  have ao:=g1.at.2.2.2.2.2.2.2.1;have an:Ba+(u+sz)<=s.Qe+s.R*s.P:=by rw [r3,G,r5,aq];omega
  have E:=p.low1;have Z:yD C s v hg c.Fs (Ba+(u+sz)):=⟨p.ok,p.hd,an,by omega,p.fr1,p.Qe,p.nb,p.ah,p.N,p.B,p.a16⟩;have Y:rJ C s v hg c.Fs (Ba+(u+sz)) Mv n fr ah (Us+Qb (fJ mp) ((Ba+u)/c.Pg) ((Ba+u+sz-1)/c.Pg+1)) (fun k=>if Ba+u<=k then z k else L k) (fun k=>l k\/C.has k) w':=by
   refine ⟨H,l,j,z,fw,kk,?_,?_,p3,p4,fun k=>dX⟩
   ·exact p1.mem2 (by rw [r2,G,K];exact g1) O U (fun h=>I _ ((p5 _).2 (.inr h)) rfl) g.e.2.2.2.2.2.2.2.1
   ·rw [<-bW];refine p2.grow p.ok t E (by omega) (by rw [G];exact g2) (fun k f=>aE (by omega)) (fun k t h2 _=> ?_) (fun k t h2=>(aG t).symm) ?_
    ·rw [G] at h2;rw [K] at t;exact g3 k t h2
    ·rw [G,K,r5,<-ao];omega
  refine ⟨rfl,kT h r (fun k=>l k\/C.has k),⟨h,φ,fun k=>if Ba+u<=k then z k else L k,Ba,r,some y,ns,bs,fun k=>l k\/C.has k,rfl,g.ran af hs (by rw [<-bW];exact hr) ⟨f,C,s,v,hg,Mv,fr,ah,Z,⟨_,trivial,Y⟩,r1,r2,r3,G,r5,K,r7,r8⟩ (ai.Xy m) D,fun k=>dX,al,g.laid.Xy m,rfl,⟨C,s,v,hg,Mv,fr,ah,_,Z,Y,r1,r2,r3,G,r5,K,r7,r8,E⟩⟩,af.mono (fun k f=> .inl (X k f)),fun k f=> ?_⟩
  ·rcases f with f|f
   ·exact (hs k f).imp (fun h=>(V k).2 (.inl h)) id
   ·exact .inl ((V k).2 (.inr f))
end
def vq(b:Nat)(c:Cf)(A:AG)(rs l0:List Nat)(sz:Nat)(T:Nat->Prop)(w:World)(e:Ending)(w':World):Prop:=
 (A.Wd l0+sz<=c.Wd/\∃a u n T',e= .returned (.tuple #[(((a:Nat):Int):Int),(0:Int)])/\Fm b c A rs u sz n T' w' a/\Fr T w w'/\∀k,T' k->T k\/w.heap.size<=k)\/
 (c.Wd<A.Wd l0+sz/\e= .returned (.tuple #[(0:Int),(21:Int)])/\∃u n T',eX b c A rs u n T' w'/\Fr T w w'/\∀k,T' k->T k\/w.heap.size<=k)
section
variable{b u n sz:Nat}{c:Cf}{A:AG}{rs l0:List Nat}{T:Nat->Prop}{w w':World}
theorem E5(i:eX b c A rs u n T w)(f:1<=sz)(o:c.Wd<u+sz):∃d,w.cell? ⟨b,10,none⟩=some (.pointer (some ⟨d,0,none⟩))/\Calls prog 124 #[.pointer (some ⟨d,0,none⟩),(sz:Int)] w fun e w'=>e= .returned (.tuple #[(0:Int),(21:Int)])/\GM w w':=by
 obtain ⟨h,φ,L,Ba,d,l,p,k,S,rfl,a,m,g⟩:=i;have j:=a.half.top;have:=a.Qs.W5;have hf:=a.fits;exact ⟨d,aJ.cell a.Qd 10 rfl,Aq a.Yb sz f (by omega) (by omega) (by omega)⟩
theorem FA.toI{q:Nat->Prop}(r:FA q b c A rs u n T w):eX b c A rs u n T w:=by
 obtain ⟨h,φ,L,Ba,B,i,t,l,S,rfl,a,o,f⟩:=r;refine ⟨h,φ,L,Ba,B,i,t,l,S,rfl,⟨a.Qs,a.Qd,a.roots,a.Yb,a.Qp,a.laid,a.Sl,a.fits,a.half,?_,a.d,a.e⟩,o,f⟩
 cases i with
 |none=>exact a.mem
 |some y=>
  obtain ⟨p,m,s,g,hg,j,fr,k,v,⟨Us,_,x⟩,z⟩:=a.mem;exact ⟨p,m,s,g,hg,j,fr,k,v,⟨Us,trivial,x⟩,z⟩
theorem eX.Xl(d:eX b c A rs u n T w)(e:dE A rs l0):A.Wd l0<=u:=by
 obtain ⟨h,φ,L,Ba,l,i,k,g,S,rfl,f,j,a⟩:=d;have:=f.laid.Xl (by omega) e;omega
def Eg(b:Nat)(c:Cf)(A:AG)(rs l0:List Nat)(sz:Nat)(T:Nat->Prop)(w:World)(wr:World):Prop:=
 ∃ub a,wr.cell? ⟨b,10,none⟩=some (.pointer (some ⟨ub,0,none⟩))/\Calls prog 124 #[.pointer (some ⟨ub,0,none⟩),(sz:Int)] wr fun e w'=>e= .returned (.tuple #[(((a:Nat):Int):Int),(0:Int)])/\vq b c A rs l0 sz T w e w'
theorem xX{q:Nat->Prop}(p:dE A rs l0)(g:FA (fun Us=>Us+(sz/c.Pg+2)<=c.Wd/c.Pg) b c A rs u n T w)(m:1<=sz)(d:u+sz<=c.Wd){f:Nat->Prop}{w0:World}(hf:Fr f w0 w)(i:∀k,T k->f k\/w0.heap.size<=k):Eg b c A rs l0 sz f w0 w:=by
 obtain ⟨v,a,g1,l⟩:=E4 g m d;refine ⟨v,a,g1,l.mono ?_⟩;rintro e w' ⟨rfl,j,r,s,t⟩;have x:=hf.size;have:=g.toI.Xl p;exact ⟨rfl,.inl ⟨by omega,a,u,n,j,rfl,r,hf.trans s i,fun k o=>(t k o).elim (i k) (fun h=> .inr (by omega))⟩⟩
theorem B3(V:eX b c A rs u n T w)(J:dE A rs l0)(M:1<=sz)(R:sz<=1024):Calls prog 53 #[b,(sz:Int)] w (vq b c A rs l0 sz T w):=by
 have G:=ae (uK V sz R);have x:Hid (∀u n w1,ko b c A rs u n T w w1->Calls prog 70 #[b] w1 fun e w2=>e= .returned (.tuple #[])/\ko b c A rs u 0 T w w2):=by
  show∀u n w1,_
  rintro u n w1 ⟨s,g1,i,j⟩;refine (mV g1).mono ?_;rintro e w2 ⟨rfl,K,B,I,L⟩;have W:=i.size;exact ⟨rfl,K,B,i.trans I j,fun k N=>(L k N).elim (j k) (fun h=> .inr (by omega))⟩
 have v:Hid (∀u n w1,ko b c A rs u n T w w1->Calls prog 20 #[b] w1 fun e w2=>e= .returned (.tuple #[])/\ko b c A rs (A.Wd l0) 0 T w w2):=by
  show∀u n w1,_
  rintro u n w1 ⟨s,g1,i,j⟩;refine (pB g1).mono ?_;rintro e w2 ⟨rfl,l,K,O,B,I,L⟩;have W:=i.size;rw [O.Wd J] at B;exact ⟨rfl,K,B,i.trans I j,fun k N=>(L k N).elim (j k) (fun h=> .inr (by omega))⟩
 have o:Hid (∀u n w1,c.Wd<u+sz->ko b c A rs u n T w w1->∃C,w1.cell? ⟨b,10,none⟩=some (.pointer (some ⟨C,0,none⟩))/\Calls prog 124 #[.pointer (some ⟨C,0,none⟩),(sz:Int)] w1 fun e w'=>e= .returned (.tuple #[(0:Int),(21:Int)])/\ko b c A rs u n T w w'):=by
  show∀u n w1,_
  rintro u n w1 P ⟨s,g1,i,j⟩;obtain ⟨C,B,I⟩:=E5 g1 M P;refine ⟨C,B,I.mono ?_⟩;rintro e w' ⟨rfl,hf⟩;exact ⟨rfl,s,g1.Qa hf,i.trans hf GN,j⟩
 have z:Hid (∀u e w1,vr (sz/c.Pg+2) b c A rs u T w e w1->e= .returned (.tuple #[])/\(u+sz<=c.Wd->Eg b c A rs l0 sz T w w1)/\∃n,ko b c A rs u n T w w1):=by
  show∀u e w1,_
  rintro u e w1 ⟨rfl,n,s,g1,i,j⟩;exact ⟨rfl,fun hf=>xX (q:=fun _=>True) J g1 M hf i j,n,s,g1.toI,i,j⟩
 have p:Hid (∀w1,ko b c A rs (A.Wd l0) 0 T w w1->A.Wd l0+sz<=c.Wd->Eg b c A rs l0 sz T w w1):=by
  show∀w1,_
  rintro w1 ⟨s,g1,i,j⟩ hf;exact xX (q:=fun _=>True) J (g1.q0 _) M hf i j
 have r:Hid (∀w1,c.Wd<A.Wd l0+sz->ko b c A rs (A.Wd l0) 0 T w w1->vq b c A rs l0 sz T w (.returned (.tuple #[(0:Int),(21:Int)])) w1):=by
  show∀w1,_
  rintro w1 P ⟨s,g1,i,j⟩;exact .inr ⟨P,rfl,_,_,s,g1,i,j⟩
 clear V J;unfold Eg at z p;generalize (vq b c A rs l0 sz T w)=Q at*
 go_enter func53,ntmps53
 go_wp2_with fail
 refine G.out.mono ?_;intro e w1 hp;obtain ⟨rfl,S,X,hf⟩:=z.out _ _ _ hp;clear hp G z;by_cases d:u+sz<=c.Wd
 ·obtain ⟨C,a,f,m⟩:=S d;have g:=ae m;clear S m hf x v o p r d;go_wp2_with fail
  refine g.out.mono ?_;rintro e w2 ⟨rfl,t⟩;have H:=ae t;clear t g f;go_wp2;exact H.out
 ·obtain ⟨C,f,m⟩:=o.out u X w1 (by omega) hf;have g:=ae m;have y:=ae d;clear S m hf d;go_wp2_with fail
  refine g.out.mono ?_;rintro e w2 ⟨rfl,hf⟩;have E:=ae (x.out _ _ w2 hf);clear g hf x f;go_wp2_with fail
  refine E.out.mono ?_;rintro e w3 ⟨rfl,hf⟩;obtain ⟨Y,f,m⟩:=o.out u 0 w3 (by have:=y.out;omega) hf;have g:=ae m;clear E hf m;go_wp2_with fail
  refine g.out.mono ?_;rintro e w4 ⟨rfl,hf⟩;have D:=ae (v.out _ _ w4 hf);clear g hf v f;go_wp2_with fail
  refine D.out.mono ?_;rintro e w5 ⟨rfl,hf⟩;clear D;by_cases d:A.Wd l0+sz<=c.Wd
  ·obtain ⟨U,Z,f,m⟩:=p.out w5 hf d;have g:=ae m;clear m hf o p r d y;go_wp2_with fail
   refine g.out.mono ?_;rintro e w6 ⟨rfl,t⟩;have H:=ae t;clear t g f;go_wp2;exact H.out
  ·obtain ⟨U,f,m⟩:=o.out _ 0 w5 (by omega) hf;have g:=ae m;have F:=ae (fun w6 h=>r.out w6 (by omega) h);clear m hf o p r d y;go_wp2_with fail
   refine g.out.mono ?_;rintro e w6 ⟨rfl,t⟩;have H:=ae (F.out w6 t);clear t g f F;go_wp2;exact H.out
end
theorem A3{P:Program}(t:TypeId)(b c:Nat)(w:World):
  ∃r w',(binOp .mul t (.float .f64 b) (.float .f64 c)).run P w= .ok (.float .f64 r) w'/\GM w w':=by
 cases h:floatBits .mul .f64 b c with
 |some r=>exact ⟨r,w,run_float_arith w .mul t .f64 b c r h,GQ _ w⟩
 |none=>
  refine ⟨(Question.nanBits .f64 b c).cut (w.tape w.drawn (.nanBits .f64 b c)),w.drew,?_,(GQ _ w).drew⟩;unfold floatBits at h;simp only at h;simp [binOp,Op.floatArith,h,Question.forced]
section
variable{b u n:Nat}{c:Cf}{A:AG}{rs:List Nat}{T:Nat->Prop}{w:World}
theorem Cb(Y:eX b c A rs u n T w):Calls prog 57 #[b] w fun e w'=>∃B,e= .returned (.bool B)/\GM w w':=by
 obtain ⟨h,φ,L,Ba,z,cy,ns,bs,S,rfl,d,X,N⟩:=Y;obtain ⟨V,M⟩:∃V,V=w:=⟨_,rfl⟩;have l:=ae (fun w1 (hf:GM w w1)=>d.Qa hf);have U:=ae (fun w1 (hf:GM w.drew w1)=>(show w1.cell? ⟨h.b,10,none⟩=some z/\True from ⟨aJ.cell (l.out w1 (((GQ (fun _=>False) w).drew).trans hf GN)).Qd 10 rfl,trivial⟩));have i:=ae (fun w1 (hf:GM w.drew w1)=>re (l.out w1 (((GQ (fun _=>False) w).drew).trans hf GN)).Yb);have m:=ae (fun w1 (hf:GM w.drew w1)=>mu (l.out w1 (((GQ (fun _=>False) w).drew).trans hf GN)).Yb);generalize Ba+u=Tp at i;have o:=ae (fun w1 w2 (hf:GM w.drew w1) (hg:GM w1.drew w2)=>(show GM w w2/\w2.cell? ⟨h.b,7,none⟩=some (.float .f64 c.Qu)/\w2.cell? ⟨h.b,3,none⟩=some (.int .i64 (c.Wd:Int))/\True from by
  have Q:=((((GQ (fun _=>False) w).drew).trans hf GN).drew).trans hg GN;exact ⟨Q,aJ.cell (l.out w2 Q).Qd 7 rfl,aJ.cell (l.out w2 Q).Qd 3 rfl,trivial⟩))
 clear d X N l M;generalize h.b=b at*
 go_enter func57,ntmps57
 go_wp2;refine cZ 13 (fun a E=>GM a E) [.c b,.c b,.c (.pointer (some ⟨b,10,none⟩)),.c z,.c (Tp:Int),.c b,.c b,.c (.pointer (some ⟨b,10,none⟩)),.c z,.c (Ba:Int),.c (.int .i64 (IntKind.i64.wrap ((Tp:Int)-(Ba:Int)))),.p (fun v _=>∃r,v= .float .f64 r),.p (fun v _=>∃r,v= .float .f64 r)] (fun j=>false) (fun _=>GQ _ _) (fun _ _ _ J K=>J.trans K GN) (fun _ _ h=>h.size) ⟨fun _ _ _ h _=>h,fun _ _ _ h _=>h,trivial⟩ ?_;intro F g;simp only [fp,PK.val,ai,an,aa] at g;subst g;refine ⟨by
  refine ⟨?_,?_,?_,?_,?_,?_,?_,?_,?_,?_,?_,?_,?_,trivial⟩<;>intro vs w1 d R C y
  all_goals try (apply oV;rotate_left;rfl;exact GQ _ _;go_simp;done)
  all_goals try (apply oV;rotate_left;rfl;exact GQ _ _;have ad:=(U.out w1 d).1;go_simp;done)
  ·refine bm 76 #[z] (by go_simp) ((i.out w1 d).mono ?_);rintro e w5 ⟨rfl,rfl⟩;exact ⟨_,rfl,rfl,GQ _ _,fun h=>nomatch h⟩
  ·refine bm 75 #[z] (by go_simp) ((m.out w1 d).mono ?_);rintro e w5 ⟨rfl,rfl⟩;exact ⟨_,rfl,rfl,GQ _ _,fun h=>nomatch h⟩
  ·refine ba (.float .f64 (floatOfInt .f64 (IntKind.i64.wrap ((Tp:Int)-(Ba:Int))))) (by go_simp) ⟨⟨_,rfl⟩,GQ _ _,fun h=>nomatch h⟩
  ·have q:=C 11 (by kernel_rfl);obtain ⟨r,q⟩:=q;refine ba (.float .f64 r) (by go_simp) ⟨⟨_,rfl⟩,GQ _ _,fun h=>nomatch h⟩
  ,fun vs w1 d hp y=> ?_⟩
 obtain ⟨G,k,_⟩:=hp;obtain ⟨F,g⟩:=k;simp only [g];clear G y g;simp only [aj,ao];have f:=ae (fun w2 hg=>o.out w1 w2 d hg);clear U i m o d;go_wp2;refine cZ 15 (fun a E=>GM a E) [.c (.float .f64 F),.c b,.c b,.c b,.c (.pointer (some ⟨b,7,none⟩)),.c (.float .f64 c.Qu),.c b,.c b,.c b,.c (.pointer (some ⟨b,3,none⟩)),.c (.int .i64 (c.Wd:Int)),.c (.float .f64 (floatOfInt .f64 (c.Wd:Int))),.p (fun v _=>∃r,v= .float .f64 r),.p (fun v _=>∃B,v= .bool B),.p (fun v _=>∃B,v= .bool B)] (fun j=>false) (fun _=>GQ _ _) (fun _ _ _ J K=>J.trans K GN) (fun _ _ h=>h.size) ⟨fun _ _ _ h _=>h,fun _ _ _ h _=>h,fun _ _ _ h _=>h,trivial⟩ ?_;intro F g;simp only [fp,PK.val,ai,an,aa] at g;subst g;refine ⟨by
  refine ⟨?_,?_,?_,?_,?_,?_,?_,?_,?_,?_,?_,?_,?_,?_,?_,trivial⟩<;>intro vs w1 d R C y
  all_goals try (apply oV;rotate_left;rfl;exact GQ _ _;go_simp;done)
  all_goals try (apply oV;rotate_left;rfl;exact GQ _ _;have k7:=(f.out w1 d).2.1;go_simp;done)
  all_goals try (apply oV;rotate_left;rfl;exact GQ _ _;have k3:=(f.out w1 d).2.2.1;go_simp;done)
  ·obtain ⟨r,w5,Z,O⟩:=A3 (P:=prog) 22 c.Qu (floatOfInt .f64 (c.Wd:Int)) w1;refine ba (.float .f64 r) (w':=w5) (by go_simp) ⟨⟨_,rfl⟩,O,fun h=>nomatch h⟩
  ·have s:=C 12 (by kernel_rfl);obtain ⟨r,s⟩:=s;refine ba (.bool (FloatKind.f64.format.order F r==some .gt||FloatKind.f64.format.order F r==some .eq)) (by go_simp) ⟨⟨_,rfl⟩,GQ _ _,fun h=>nomatch h⟩
  ·have t:=C 13 (by kernel_rfl);obtain ⟨r,t⟩:=t;refine ba (.bool r) (by go_simp) ⟨⟨_,rfl⟩,GQ _ _,fun h=>nomatch h⟩
  ,fun af w4 x hp y=> ?_⟩
 obtain ⟨k,H,I,_⟩:=hp;obtain ⟨B,W⟩:=I;simp only [W];clear k H y W;simp only [aj,ao];have D:=ae (f.out w4 x).1;clear f x;go_wp2;go_ret;exact ⟨B,rfl,D.out⟩
end
end Go.Proofs.YthahbijbpinneaaGreatDoor
