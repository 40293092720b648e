/- Lemmas for the walk, part 6. -/
import Derived.Test.YtebibeaobhcfkaaGreatR5
set_option linter.unusedVariables false
set_option linter.unusedSimpArgs false
set_option maxRecDepth 100000
set_option maxHeartbeats 16000000
namespace Go.Proofs.YtebibeaobhcfkaaGreat.Ab
open Go
def RgW (S:XS) (P:cC) (gP:List Nat) (r:Nat) (m:List Nat) (gd:Rn):Prop:=∀{H:ad} {t t':VT} {g mi:List Nat} {k:Nat},RQ S P gP H r t m g mi->gd k t=some t'->aj Tryz.prog 137 #[pV r,iV (k:Nat)] H (fun w H'=>xX S P gP H r t m g mi t' H')
def CJ (t:VT) (k:Nat) (x:Int):VT:={t with ns:=t.ns.set k {t.ns.getD k {} with x:=x}}
def aa2 (bd:Rb) (k:Nat) (n:aJ) (t:VT):Option VT:=
 let t1:=CJ (fE t n.oe n.line n.az).2 k t.aY
 (bd n.a {t1 with be:=t.be,inner:=((t.be.length:Nat):Int)}).bind fun t3=>
  if t.be.length<=t3.be.length/\t3.be.length < 1000000 then some {t3 with be:=t3.be.take t.be.length++[⟨n.oe,t.aY⟩],inner:=t.inner} else none
def Za (bd:Rb) (gd:Rn) (k:Nat) (t:VT):Option VT:=
 if k < t.ns.length/\t.be.length < 100000/\0<=t.aY/\t.aY < 100000 then
  (let n:=t.ns.getD k {}
  if n.kind=8 then aa2 bd k n t
  else if n.kind=1∨n.kind=3∨n.kind=4∨n.kind=5∨n.kind=7 then some (CJ (fE t n.oe n.line n.az).2 k t.aY)
  else if n.kind=11 then bd n.a t
  else if n.kind=16 then (bd n.a t).bind (bd n.b)
  else if n.kind=15 then gd k t
  else some t)
 else none
theorem IJ (t:VT) (s:bC) (l c:Int):(fE t s l c).2.ns=t.ns/\(fE t s l c).2.be=t.be++[⟨s,t.aY⟩]/\(fE t s l c).2.inner=t.inner:=by
 refine ⟨?_,rfl,?_⟩
 ·show (xY (tZ t s l c) l c).ns=t.ns
  rw [(aat _ _ _).2.2,(aas _ _ _ _).2.2]
 ·have hf:∀(t:VT) (e l c:Int),(t.fail e l c).inner=t.inner:=fun t e l c=>by unfold VT.fail;split <;> rfl
  show (xY (tZ t s l c) l c).inner=t.inner
  unfold xY tZ
  (repeat' split) <;> simp only [hf]
section
variable {S:XS} {P:cC} {gP:List Nat} {H H1 H2:ad} {r:Nat} {t t1 t2:VT} {m g g1 g2 mi dL dQ:List Nat}
theorem agm {bd:Rb} {gd:Rn} (oE:Y9 S P gP r m bd) (iH:RgW S P gP r m gd) (h:RQ S P gP H r t m g mi) {k:Nat} {t':VT} (he:Za bd gd k t=some t'):
  aj Tryz.prog 110 #[pV r,iV (k:Nat)] H (fun w H'=>xX S P gP H r t m g mi t' H'):=by
 refine aj.told ?_
 refine ai7 (Nat.le_refl _) fun hf=>?_
 simp only [Tryz.f110,Option.getD_some]
 unfold Za at he
 split at he
 case isFalse=>cases he
 rename_i hb
 obtain ⟨hk,bX,nu,cZ⟩:=hb
 obtain ⟨vI,b,cs,vA,vQ,vB,gA,gQ,gB,hr,hI,hm,hb,cb,bg,mJ,uH⟩:=h.toRQ0.node hk
 simp only at he
 generalize hn:t.ns.getD k {}=n at *
 obtain ⟨aA,kA,rfl⟩:=mJ.a.val
 obtain ⟨aQ,kQ,rfl⟩:=mJ.q.val
 obtain ⟨aB,kB,rfl⟩:=mJ.b.val
 clear mJ
 obtain ⟨kd,x,y,f,nn,cap,rc,op,a,bb,nx,ln,cl,nX,nY,nF,nR,ar,pt,cU⟩:=n
 simp only at he bg
 have eV:H.fz H.next=false:=hf.fresh (Nat.le_refl _)
 have nr:¬r=H.next:=by have:=h.rl;omega
 have vZ:¬H.next=r:=fun e=>nr e.symm
 have nb:¬b=H.next:=by have:=(h.hm b (by rw [hm];simp)).1;omega
 have df:H.next∉r::(m++mi):=fun e=>by
  simp only [List.mem_cons,List.mem_append] at e
  rcases e with e | e | e
  ·omega
  ·have:=(h.hm _ e).1;omega
  ·have:=(h.hi _ e).1;omega
 have Fc:=h.fz
 by_cases Zc:kd=8
 ·subst Zc
  have r1:=(RR.start h).push ⟨aU ⟨8,x,y,f,nn,cap,rc,op,a,bb,nx,ln,cl,nX,nY,nF,nR,ar,pt,cU⟩ (.slice aA ar.length kA) (.slice aQ pt.length kQ) (.slice aB cU.length kB),59,false,false⟩
  have ib:(H.push ⟨aU ⟨8,x,y,f,nn,cap,rc,op,a,bb,nx,ln,cl,nX,nY,nF,nR,ar,pt,cU⟩ (.slice aA ar.length kA) (.slice aQ pt.length kQ) (.slice aB cU.length kB),59,false,false⟩).get H.next=some ⟨aU ⟨8,x,y,f,nn,cap,rc,op,a,bb,nx,ln,cl,nX,nY,nF,nR,ar,pt,cU⟩ (.slice aA ar.length kA) (.slice aQ pt.length kQ) (.slice aB cU.length kB),59,false,false⟩:=by rw [aZ,if_pos rfl]
  simp only [go_sem,hr,hk,hb,cb,bg,eV,nr]
  refine ag.by (DM (s:=nX) (n:=⟨8,x,y,f,nn,cap,rc,op,a,bb,nx,ln,cl,nX,nY,nF,nR,ar,pt,cU⟩) r1.rq bX nu cZ) ?_
  rintro _ H2 - ⟨rfl,p2⟩
  obtain ⟨g2,dQ,r2,Kf,jn⟩:=r1.call p2
  obtain ⟨kN,kI,Lk⟩:=IJ t nX ln cl
  have fQ:k < (fE t nX ln cl).2.ns.length:=by rw [kN];exact hk
  have jF:(fE t nX ln cl).2.ns.getD k {}=⟨8,x,y,f,nn,cap,rc,op,a,bb,nx,ln,cl,nX,nY,nF,nR,ar,pt,cU⟩:=by rw [kN];exact hn
  obtain ⟨Im,b2,nV,dP,mI,eo,Fg,g3,r3⟩:=r2.oT (j:=1) (v:=iV t.aY) (n':={(fE t nX ln cl).2.ns.getD k {} with x:=t.aY}) fQ (by decide) (fun _ _ _=>rfl) rfl rfl rfl
  have r3:RR S P gP H r t m g mi (H2.ai b2 ⟨nV.set (k * 20+1) (iV t.aY),59,true,false⟩) (CJ (fE t nX ln cl).2 k t.aY) g3 dQ:=r3
  have Ay:b2=b:=by rw [hm] at mI;simpa using mI
  subst Ay
  have gC:H.fz b2=false:=h.fm b2 mI
  have dE:k * 20+1 < nV.length:=by omega
  have hV:k * 20+1+1<=nV.length:=by omega
  have oF:=(p2.1.get H.next (Nat.lt_succ_self _) df).trans ib
  rw [kN] at dP
  simp only [if_true] at he
  rw [aa2] at he
  simp only at he
  generalize O3:CJ (fE t nX ln cl).2 k t.aY=T1 at *
  have aqA:T1.be=t.be++[⟨nX,t.aY⟩]:=by rw [<-O3];exact kI
  have aqB:T1.inner=t.inner:=by rw [<-O3];exact Lk
  obtain ⟨H3,dv⟩:=r3.hp
  have nb2:¬H.next=b2:=fun e=>nb e.symm
  have ml:H3.get H.next=some ⟨aU ⟨8,x,y,f,nn,cap,rc,op,a,bb,nx,ln,cl,nX,nY,nF,nR,ar,pt,cU⟩ (.slice aA ar.length kA) (.slice aQ pt.length kQ) (.slice aB cU.length kB),59,false,false⟩:=by rw [dv,aH,if_neg nb2];exact oF
  simp only [go_sem,oF,dP,hk,eo,gC,dE,hV,fL dE]
  rw [<-dv] at r3 ⊢
  have ij:¬r=b2:=fun e=>by have:=(h.hm b2 (by rw [hm];simp)).2.1;exact this e.symm
  have aqC:H3.get r=some ⟨rC S (.slice (some ⟨b2,0,none⟩) t.ns.length t.ns.length) Im (fE t nX ln cl).2,133,false,false⟩:=by rw [dv,aH,if_neg ij];exact dP
  have lK:H2.next<=H3.next:=by rw [dv];exact Nat.le_refl _
  clear dv
  obtain ⟨Od,S3,je,_,OK,_,aog⟩:=r3.re
  rw [if_neg ij,<-aqC]
  rw [aqA] at OK
  obtain ⟨aI3,cI3,aep⟩:=OK.val
  rw [List.length_append,List.length_singleton] at aep
  subst aep
  have Zd:IntKind.wrap .i64 (((t.be.length+1:Nat):Int) - 1)=((t.be.length:Nat):Int):=by rw [show (((t.be.length+1:Nat):Int) - 1)=((t.be.length:Nat):Int) by omega];exact tT (by omega)
  obtain ⟨v5,dB,oG⟩:=OK.cut (k:=t.be.length) (by rw [List.length_append];omega)
  rw [List.take_left] at oG
  obtain ⟨a5,c5,ji⟩:=oG.val
  subst ji
  have r5:=aog {T1 with be:=t.be,inner:=((t.be.length:Nat):Int)} _ dQ rfl oG fun c hc=>⟨(r3.rq.hi c hc).1,(r3.rq.hi c hc).2.1,(r3.rq.hi c hc).2.2.1,(r3.rq.hi c hc).2.2.2,fun e=>(r3.rq.hm c e).2.2.2.2 hc,r3.si c hc,r3.rq.fi c hc⟩
  obtain ⟨H5,ri⟩:=r5.hp
  have eJ:H5.get H.next=_:=(by rw [ri,aH,if_neg (fun e=>nr e.symm)]:H5.get H.next=H3.get H.next).trans ml
  simp only [go_sem,je,Zd,Option.map_none,Option.map_some,dB,Fc,ml,nr,vZ]
  have n25:H2.next<=H5.next:=by rw [ri];show H2.next<=H3.next;exact lK
  rw [L4,<-ri]
  rw [<-ri] at r5
  clear ri
  cases lk:bd a {T1 with be:=t.be,inner:=((t.be.length:Nat):Int)} with
  | none=>rw [lk] at he;cases he
  | some t3=>
  rw [lk] at he
  simp only [Option.bind_some] at he
  split at he
  case isFalse=>cases he
  rename_i hle
  cases he
  refine ag.by (oE r5.rq lk) ?_
  rintro _ H6 - p6
  obtain ⟨g6,Dm,r6,aBK,_⟩:=r5.call p6
  have iy:H6.get H.next=_:=(p6.1.get H.next (by have:=p2.1.nx;rw [bI] at this;have:H2.next<=H5.next:=n25;omega) (fun e=>by
   simp only [List.mem_cons,List.mem_append] at e
   rcases e with e | e | e
   ·omega
   ·have:=(h.hm _ e).1;omega
   ·exact (Kf _ e).elim (fun e=>by have:=(h.hi _ e).1;omega) fun e=>by rw [bI] at e;omega)).trans eJ
  obtain ⟨K9,La,lS,_,Lh,_,_⟩:=r6.re
  obtain ⟨v7,aqD,Ld⟩:=Lh.cut hle.1
  obtain ⟨a7,c7,uw⟩:=Ld.val
  rw [List.length_take,Nat.min_eq_left hle.1] at uw
  subst uw
  simp only [go_sem,lS,Option.map_none,Option.map_some,aqD,iy,Uk,eX AS (by decide) (by decide)]
  have r7:=r6.push ⟨[ah nX,iV t.aY],137,false,false⟩
  have q8:(H6.push ⟨[ah nX,iV t.aY],137,false,false⟩).get r=some ⟨rC S K9 La t3,133,false,false⟩:=(bO r6.rq.rl).trans lS
  have aqE:=Ld.ae (H':=H6.push ⟨[ah nX,iV t.aY],137,false,false⟩) fun c hc=>bO (r6.rq.hi c hc).1
  refine UK (x:=⟨nX,t.aY⟩) aqE (fun c hc=>(r7.rq.hi c hc).1) r7.x (by rw [aZ,if_pos rfl]) (by rw [List.length_take];omega) ?_
  intro v8 H8 mi8 hI8 O5 BK hz8
  obtain ⟨a8,c8,rh⟩:=hI8.val
  subst rh
  obtain ⟨De,r8⟩:=r7.be q8 BK (t2:={t3 with be:=t3.be.take t.be.length++[⟨nX,t.aY⟩],inner:=t.inner}) rfl hI8 O5
  simp only [go_sem,De,Fc]
  rw [L4,aqB]
  exact r8.last
 rw [if_neg Zc] at he
 by_cases Fe:kd=1
 ·subst Fe
  have r1:=(RR.start h).push ⟨aU ⟨1,x,y,f,nn,cap,rc,op,a,bb,nx,ln,cl,nX,nY,nF,nR,ar,pt,cU⟩ (.slice aA ar.length kA) (.slice aQ pt.length kQ) (.slice aB cU.length kB),59,false,false⟩
  have ib:(H.push ⟨aU ⟨1,x,y,f,nn,cap,rc,op,a,bb,nx,ln,cl,nX,nY,nF,nR,ar,pt,cU⟩ (.slice aA ar.length kA) (.slice aQ pt.length kQ) (.slice aB cU.length kB),59,false,false⟩).get H.next=some ⟨aU ⟨1,x,y,f,nn,cap,rc,op,a,bb,nx,ln,cl,nX,nY,nF,nR,ar,pt,cU⟩ (.slice aA ar.length kA) (.slice aQ pt.length kQ) (.slice aB cU.length kB),59,false,false⟩:=by rw [aZ,if_pos rfl]
  simp only [go_sem,hr,hk,hb,cb,bg,eV,nr]
  refine ag.by (DM (s:=nX) (n:=⟨1,x,y,f,nn,cap,rc,op,a,bb,nx,ln,cl,nX,nY,nF,nR,ar,pt,cU⟩) r1.rq bX nu cZ) ?_
  rintro _ H2 - ⟨rfl,p2⟩
  obtain ⟨g2,dQ,r2,Kf,jn⟩:=r1.call p2
  obtain ⟨kN,kI,Lk⟩:=IJ t nX ln cl
  have fQ:k < (fE t nX ln cl).2.ns.length:=by rw [kN];exact hk
  have jF:(fE t nX ln cl).2.ns.getD k {}=⟨1,x,y,f,nn,cap,rc,op,a,bb,nx,ln,cl,nX,nY,nF,nR,ar,pt,cU⟩:=by rw [kN];exact hn
  obtain ⟨Im,b2,nV,dP,mI,eo,Fg,g3,r3⟩:=r2.oT (j:=1) (v:=iV t.aY) (n':={(fE t nX ln cl).2.ns.getD k {} with x:=t.aY}) fQ (by decide) (fun _ _ _=>rfl) rfl rfl rfl
  have r3:RR S P gP H r t m g mi (H2.ai b2 ⟨nV.set (k * 20+1) (iV t.aY),59,true,false⟩) (CJ (fE t nX ln cl).2 k t.aY) g3 dQ:=r3
  have Ay:b2=b:=by rw [hm] at mI;simpa using mI
  subst Ay
  have gC:H.fz b2=false:=h.fm b2 mI
  have dE:k * 20+1 < nV.length:=by omega
  have hV:k * 20+1+1<=nV.length:=by omega
  have oF:=(p2.1.get H.next (Nat.lt_succ_self _) df).trans ib
  rw [kN] at dP
  simp only [Int.reduceEq,if_true,if_false,or_true,true_or,or_false,false_or] at he
  cases he
  simp only [go_sem,hr,nr,dP,hk,eo,gC,dE,hV,fL dE]
  exact r3.last
 by_cases Au:kd=3
 ·subst Au
  have r1:=(RR.start h).push ⟨aU ⟨3,x,y,f,nn,cap,rc,op,a,bb,nx,ln,cl,nX,nY,nF,nR,ar,pt,cU⟩ (.slice aA ar.length kA) (.slice aQ pt.length kQ) (.slice aB cU.length kB),59,false,false⟩
  have ib:(H.push ⟨aU ⟨3,x,y,f,nn,cap,rc,op,a,bb,nx,ln,cl,nX,nY,nF,nR,ar,pt,cU⟩ (.slice aA ar.length kA) (.slice aQ pt.length kQ) (.slice aB cU.length kB),59,false,false⟩).get H.next=some ⟨aU ⟨3,x,y,f,nn,cap,rc,op,a,bb,nx,ln,cl,nX,nY,nF,nR,ar,pt,cU⟩ (.slice aA ar.length kA) (.slice aQ pt.length kQ) (.slice aB cU.length kB),59,false,false⟩:=by rw [aZ,if_pos rfl]
  simp only [go_sem,hr,hk,hb,cb,bg,eV,nr]
  refine ag.by (DM (s:=nX) (n:=⟨3,x,y,f,nn,cap,rc,op,a,bb,nx,ln,cl,nX,nY,nF,nR,ar,pt,cU⟩) r1.rq bX nu cZ) ?_
  rintro _ H2 - ⟨rfl,p2⟩
  obtain ⟨g2,dQ,r2,Kf,jn⟩:=r1.call p2
  obtain ⟨kN,kI,Lk⟩:=IJ t nX ln cl
  have fQ:k < (fE t nX ln cl).2.ns.length:=by rw [kN];exact hk
  have jF:(fE t nX ln cl).2.ns.getD k {}=⟨3,x,y,f,nn,cap,rc,op,a,bb,nx,ln,cl,nX,nY,nF,nR,ar,pt,cU⟩:=by rw [kN];exact hn
  obtain ⟨Im,b2,nV,dP,mI,eo,Fg,g3,r3⟩:=r2.oT (j:=1) (v:=iV t.aY) (n':={(fE t nX ln cl).2.ns.getD k {} with x:=t.aY}) fQ (by decide) (fun _ _ _=>rfl) rfl rfl rfl
  have r3:RR S P gP H r t m g mi (H2.ai b2 ⟨nV.set (k * 20+1) (iV t.aY),59,true,false⟩) (CJ (fE t nX ln cl).2 k t.aY) g3 dQ:=r3
  have Ay:b2=b:=by rw [hm] at mI;simpa using mI
  subst Ay
  have gC:H.fz b2=false:=h.fm b2 mI
  have dE:k * 20+1 < nV.length:=by omega
  have hV:k * 20+1+1<=nV.length:=by omega
  have oF:=(p2.1.get H.next (Nat.lt_succ_self _) df).trans ib
  rw [kN] at dP
  simp only [Int.reduceEq,if_true,if_false,or_true,true_or,or_false,false_or] at he
  cases he
  simp only [go_sem,hr,nr,dP,hk,eo,gC,dE,hV,fL dE]
  exact r3.last
 by_cases iO:kd=4
 ·subst iO
  have r1:=(RR.start h).push ⟨aU ⟨4,x,y,f,nn,cap,rc,op,a,bb,nx,ln,cl,nX,nY,nF,nR,ar,pt,cU⟩ (.slice aA ar.length kA) (.slice aQ pt.length kQ) (.slice aB cU.length kB),59,false,false⟩
  have ib:(H.push ⟨aU ⟨4,x,y,f,nn,cap,rc,op,a,bb,nx,ln,cl,nX,nY,nF,nR,ar,pt,cU⟩ (.slice aA ar.length kA) (.slice aQ pt.length kQ) (.slice aB cU.length kB),59,false,false⟩).get H.next=some ⟨aU ⟨4,x,y,f,nn,cap,rc,op,a,bb,nx,ln,cl,nX,nY,nF,nR,ar,pt,cU⟩ (.slice aA ar.length kA) (.slice aQ pt.length kQ) (.slice aB cU.length kB),59,false,false⟩:=by rw [aZ,if_pos rfl]
  simp only [go_sem,hr,hk,hb,cb,bg,eV,nr]
  refine ag.by (DM (s:=nX) (n:=⟨4,x,y,f,nn,cap,rc,op,a,bb,nx,ln,cl,nX,nY,nF,nR,ar,pt,cU⟩) r1.rq bX nu cZ) ?_
  rintro _ H2 - ⟨rfl,p2⟩
  obtain ⟨g2,dQ,r2,Kf,jn⟩:=r1.call p2
  obtain ⟨kN,kI,Lk⟩:=IJ t nX ln cl
  have fQ:k < (fE t nX ln cl).2.ns.length:=by rw [kN];exact hk
  have jF:(fE t nX ln cl).2.ns.getD k {}=⟨4,x,y,f,nn,cap,rc,op,a,bb,nx,ln,cl,nX,nY,nF,nR,ar,pt,cU⟩:=by rw [kN];exact hn
  obtain ⟨Im,b2,nV,dP,mI,eo,Fg,g3,r3⟩:=r2.oT (j:=1) (v:=iV t.aY) (n':={(fE t nX ln cl).2.ns.getD k {} with x:=t.aY}) fQ (by decide) (fun _ _ _=>rfl) rfl rfl rfl
  have r3:RR S P gP H r t m g mi (H2.ai b2 ⟨nV.set (k * 20+1) (iV t.aY),59,true,false⟩) (CJ (fE t nX ln cl).2 k t.aY) g3 dQ:=r3
  have Ay:b2=b:=by rw [hm] at mI;simpa using mI
  subst Ay
  have gC:H.fz b2=false:=h.fm b2 mI
  have dE:k * 20+1 < nV.length:=by omega
  have hV:k * 20+1+1<=nV.length:=by omega
  have oF:=(p2.1.get H.next (Nat.lt_succ_self _) df).trans ib
  rw [kN] at dP
  simp only [Int.reduceEq,if_true,if_false,or_true,true_or,or_false,false_or] at he
  cases he
  simp only [go_sem,hr,nr,dP,hk,eo,gC,dE,hV,fL dE]
  exact r3.last
 by_cases Ii:kd=5
 ·subst Ii
  have r1:=(RR.start h).push ⟨aU ⟨5,x,y,f,nn,cap,rc,op,a,bb,nx,ln,cl,nX,nY,nF,nR,ar,pt,cU⟩ (.slice aA ar.length kA) (.slice aQ pt.length kQ) (.slice aB cU.length kB),59,false,false⟩
  have ib:(H.push ⟨aU ⟨5,x,y,f,nn,cap,rc,op,a,bb,nx,ln,cl,nX,nY,nF,nR,ar,pt,cU⟩ (.slice aA ar.length kA) (.slice aQ pt.length kQ) (.slice aB cU.length kB),59,false,false⟩).get H.next=some ⟨aU ⟨5,x,y,f,nn,cap,rc,op,a,bb,nx,ln,cl,nX,nY,nF,nR,ar,pt,cU⟩ (.slice aA ar.length kA) (.slice aQ pt.length kQ) (.slice aB cU.length kB),59,false,false⟩:=by rw [aZ,if_pos rfl]
  simp only [go_sem,hr,hk,hb,cb,bg,eV,nr]
  refine ag.by (DM (s:=nX) (n:=⟨5,x,y,f,nn,cap,rc,op,a,bb,nx,ln,cl,nX,nY,nF,nR,ar,pt,cU⟩) r1.rq bX nu cZ) ?_
  rintro _ H2 - ⟨rfl,p2⟩
  obtain ⟨g2,dQ,r2,Kf,jn⟩:=r1.call p2
  obtain ⟨kN,kI,Lk⟩:=IJ t nX ln cl
  have fQ:k < (fE t nX ln cl).2.ns.length:=by rw [kN];exact hk
  have jF:(fE t nX ln cl).2.ns.getD k {}=⟨5,x,y,f,nn,cap,rc,op,a,bb,nx,ln,cl,nX,nY,nF,nR,ar,pt,cU⟩:=by rw [kN];exact hn
  obtain ⟨Im,b2,nV,dP,mI,eo,Fg,g3,r3⟩:=r2.oT (j:=1) (v:=iV t.aY) (n':={(fE t nX ln cl).2.ns.getD k {} with x:=t.aY}) fQ (by decide) (fun _ _ _=>rfl) rfl rfl rfl
  have r3:RR S P gP H r t m g mi (H2.ai b2 ⟨nV.set (k * 20+1) (iV t.aY),59,true,false⟩) (CJ (fE t nX ln cl).2 k t.aY) g3 dQ:=r3
  have Ay:b2=b:=by rw [hm] at mI;simpa using mI
  subst Ay
  have gC:H.fz b2=false:=h.fm b2 mI
  have dE:k * 20+1 < nV.length:=by omega
  have hV:k * 20+1+1<=nV.length:=by omega
  have oF:=(p2.1.get H.next (Nat.lt_succ_self _) df).trans ib
  rw [kN] at dP
  simp only [Int.reduceEq,if_true,if_false,or_true,true_or,or_false,false_or] at he
  cases he
  simp only [go_sem,hr,nr,dP,hk,eo,gC,dE,hV,fL dE]
  exact r3.last
 by_cases Ij:kd=7
 ·subst Ij
  have r1:=(RR.start h).push ⟨aU ⟨7,x,y,f,nn,cap,rc,op,a,bb,nx,ln,cl,nX,nY,nF,nR,ar,pt,cU⟩ (.slice aA ar.length kA) (.slice aQ pt.length kQ) (.slice aB cU.length kB),59,false,false⟩
  have ib:(H.push ⟨aU ⟨7,x,y,f,nn,cap,rc,op,a,bb,nx,ln,cl,nX,nY,nF,nR,ar,pt,cU⟩ (.slice aA ar.length kA) (.slice aQ pt.length kQ) (.slice aB cU.length kB),59,false,false⟩).get H.next=some ⟨aU ⟨7,x,y,f,nn,cap,rc,op,a,bb,nx,ln,cl,nX,nY,nF,nR,ar,pt,cU⟩ (.slice aA ar.length kA) (.slice aQ pt.length kQ) (.slice aB cU.length kB),59,false,false⟩:=by rw [aZ,if_pos rfl]
  simp only [go_sem,hr,hk,hb,cb,bg,eV,nr]
  refine ag.by (DM (s:=nX) (n:=⟨7,x,y,f,nn,cap,rc,op,a,bb,nx,ln,cl,nX,nY,nF,nR,ar,pt,cU⟩) r1.rq bX nu cZ) ?_
  rintro _ H2 - ⟨rfl,p2⟩
  obtain ⟨g2,dQ,r2,Kf,jn⟩:=r1.call p2
  obtain ⟨kN,kI,Lk⟩:=IJ t nX ln cl
  have fQ:k < (fE t nX ln cl).2.ns.length:=by rw [kN];exact hk
  have jF:(fE t nX ln cl).2.ns.getD k {}=⟨7,x,y,f,nn,cap,rc,op,a,bb,nx,ln,cl,nX,nY,nF,nR,ar,pt,cU⟩:=by rw [kN];exact hn
  obtain ⟨Im,b2,nV,dP,mI,eo,Fg,g3,r3⟩:=r2.oT (j:=1) (v:=iV t.aY) (n':={(fE t nX ln cl).2.ns.getD k {} with x:=t.aY}) fQ (by decide) (fun _ _ _=>rfl) rfl rfl rfl
  have r3:RR S P gP H r t m g mi (H2.ai b2 ⟨nV.set (k * 20+1) (iV t.aY),59,true,false⟩) (CJ (fE t nX ln cl).2 k t.aY) g3 dQ:=r3
  have Ay:b2=b:=by rw [hm] at mI;simpa using mI
  subst Ay
  have gC:H.fz b2=false:=h.fm b2 mI
  have dE:k * 20+1 < nV.length:=by omega
  have hV:k * 20+1+1<=nV.length:=by omega
  have oF:=(p2.1.get H.next (Nat.lt_succ_self _) df).trans ib
  rw [kN] at dP
  simp only [Int.reduceEq,if_true,if_false,or_true,true_or,or_false,false_or] at he
  cases he
  simp only [go_sem,hr,nr,dP,hk,eo,gC,dE,hV,fL dE]
  exact r3.last
 rw [if_neg (by simp [Fe,Au,iO,Ii,Ij])] at he
 by_cases Wu:kd=11
 ·subst Wu
  rw [if_pos rfl] at he
  have r1:=(RR.start h).push ⟨aU ⟨11,x,y,f,nn,cap,rc,op,a,bb,nx,ln,cl,nX,nY,nF,nR,ar,pt,cU⟩ (.slice aA ar.length kA) (.slice aQ pt.length kQ) (.slice aB cU.length kB),59,false,false⟩
  have ib:(H.push ⟨aU ⟨11,x,y,f,nn,cap,rc,op,a,bb,nx,ln,cl,nX,nY,nF,nR,ar,pt,cU⟩ (.slice aA ar.length kA) (.slice aQ pt.length kQ) (.slice aB cU.length kB),59,false,false⟩).get H.next=some ⟨aU ⟨11,x,y,f,nn,cap,rc,op,a,bb,nx,ln,cl,nX,nY,nF,nR,ar,pt,cU⟩ (.slice aA ar.length kA) (.slice aQ pt.length kQ) (.slice aB cU.length kB),59,false,false⟩:=by rw [aZ,if_pos rfl]
  simp only [go_sem,hr,hk,hb,cb,bg,eV,nr]
  refine ag.by (oE r1.rq he) ?_
  rintro _ H2 - p2
  obtain ⟨g2,dQ,r2,_,_⟩:=r1.call p2
  simp only [go_sem]
  exact r2.last
 rw [if_neg Wu] at he
 by_cases GI:kd=16
 ·subst GI
  rw [if_pos rfl] at he
  have r1:=(RR.start h).push ⟨aU ⟨16,x,y,f,nn,cap,rc,op,a,bb,nx,ln,cl,nX,nY,nF,nR,ar,pt,cU⟩ (.slice aA ar.length kA) (.slice aQ pt.length kQ) (.slice aB cU.length kB),59,false,false⟩
  have ib:(H.push ⟨aU ⟨16,x,y,f,nn,cap,rc,op,a,bb,nx,ln,cl,nX,nY,nF,nR,ar,pt,cU⟩ (.slice aA ar.length kA) (.slice aQ pt.length kQ) (.slice aB cU.length kB),59,false,false⟩).get H.next=some ⟨aU ⟨16,x,y,f,nn,cap,rc,op,a,bb,nx,ln,cl,nX,nY,nF,nR,ar,pt,cU⟩ (.slice aA ar.length kA) (.slice aQ pt.length kQ) (.slice aB cU.length kB),59,false,false⟩:=by rw [aZ,if_pos rfl]
  simp only [go_sem,hr,hk,hb,cb,bg,eV,nr]
  cases fB:bd a t with
  | none=>rw [fB] at he;cases he
  | some t2=>
  rw [fB] at he
  simp only [Option.bind_some] at he
  refine ag.by (oE r1.rq fB) ?_
  rintro _ H2 - p2
  obtain ⟨g2,dQ,r2,_,_⟩:=r1.call p2
  have oF:=(p2.1.get H.next (Nat.lt_succ_self _) df).trans ib
  simp only [go_sem,oF]
  refine ag.by (oE r2.rq he) ?_
  rintro _ H3 - p3
  obtain ⟨g3,mi3,r3,_,_⟩:=r2.call p3
  simp only [go_sem]
  exact r3.last
 rw [if_neg GI] at he
 by_cases Wv:kd=15
 ·subst Wv
  rw [if_pos rfl] at he
  have r1:=(RR.start h).push ⟨aU ⟨15,x,y,f,nn,cap,rc,op,a,bb,nx,ln,cl,nX,nY,nF,nR,ar,pt,cU⟩ (.slice aA ar.length kA) (.slice aQ pt.length kQ) (.slice aB cU.length kB),59,false,false⟩
  have ib:(H.push ⟨aU ⟨15,x,y,f,nn,cap,rc,op,a,bb,nx,ln,cl,nX,nY,nF,nR,ar,pt,cU⟩ (.slice aA ar.length kA) (.slice aQ pt.length kQ) (.slice aB cU.length kB),59,false,false⟩).get H.next=some ⟨aU ⟨15,x,y,f,nn,cap,rc,op,a,bb,nx,ln,cl,nX,nY,nF,nR,ar,pt,cU⟩ (.slice aA ar.length kA) (.slice aQ pt.length kQ) (.slice aB cU.length kB),59,false,false⟩:=by rw [aZ,if_pos rfl]
  simp only [go_sem,hr,hk,hb,cb,bg,eV,nr]
  refine ag.by (iH r1.rq he) ?_
  rintro _ H2 - p2
  obtain ⟨g2,dQ,r2,_,_⟩:=r1.call p2
  simp only [go_sem]
  exact r2.last
 rw [if_neg Wv] at he
 cases he
 have r1:=(RR.start h).push ⟨aU ⟨kd,x,y,f,nn,cap,rc,op,a,bb,nx,ln,cl,nX,nY,nF,nR,ar,pt,cU⟩ (.slice aA ar.length kA) (.slice aQ pt.length kQ) (.slice aB cU.length kB),59,false,false⟩
 simp only [go_sem,hr,hk,hb,cb,bg,eV,nr,Zc,Fe,Au,iO,Ii,Ij,Wu,GI,Wv]
 exact r1.last
end
theorem Gr.mid {α:Type} {r:Rp α} {ty:TypeId} {H:ad} {v:Value} {pre post:List α} {x:α} {m g:List Nat} (h:Gr r ty H v (pre++x::post) m g):
  ∃b c1 cx c2 f1 f2 f3,v=.slice (some ⟨b,0,none⟩) (pre++x::post).length (pre++x::post).length/\m=[b]/\H.get b=some ⟨c1++(cx++c2),ty,true,false⟩/\c1.length=pre.length * r.sz/\cx.length=r.sz/\c2.length=post.length * r.sz/\g=f1++(f2++f3)/\dT r H c1 pre f1/\r.E H cx x f2/\dT r H c2 post f3/\b∉g:=by
 rcases h with ⟨_,h,_⟩ | ⟨b,cs,rfl,h2,rfl,h4,h5,h6,hb⟩
 ·simp at h
 ·obtain ⟨c1,c2',f1,f2',rfl,rfl,e1,a1,a2⟩:=h6.split
  obtain ⟨cx,c2,f2,f3,rfl,rfl,e2,a3⟩:=a2
  have e3:=r.len e2
  refine ⟨b,c1,cx,c2,f1,f2,f3,rfl,rfl,h4,e1,e3,?_,rfl,a1,e2,a3,hb⟩
  simp only [List.length_append,List.length_cons,e1,e3,Nat.add_mul,Nat.succ_mul] at h5
  omega
theorem Gr.aln {α:Type} {r:Rp α} {ty:TypeId} {H:ad} {b:Nat} {c1 cx c2:List Value} {pre post:List α} {x:α} {f1 f2 f3:List Nat} (hb:H.get b=some ⟨c1++(cx++c2),ty,true,false⟩) (h1:c1.length=pre.length * r.sz) (h2:c2.length=post.length * r.sz) (a1:dT r H c1 pre f1) (e:r.E H cx x f2) (a2:dT r H c2 post f3) (hn:b∉f1++(f2++f3)):
  Gr r ty H (.slice (some ⟨b,0,none⟩) (pre++x::post).length (pre++x::post).length) (pre++x::post) [b] (f1++(f2++f3)):=by
 have hl:(pre++x::post).length=pre.length+(post.length+1):=by simp
 refine Or.inr ⟨b,c1++(cx++c2),rfl,by simp,rfl,hb,?_,a1.join h1 ⟨cx,c2,f2,f3,rfl,rfl,e,a2⟩,hn⟩
 rw [hl,List.length_append,List.length_append,h1,h2,r.len e,Nat.add_mul,Nat.succ_mul]
 omega
theorem Qe {c1 cx c2:List Value} {n j:Nat} (h1:c1.length=n) (hj:j < cx.length):(c1++(cx++c2))[n+j]?=cx[j]?:=by
 subst h1
 rw [List.getElem?_append_right (by omega),Nat.add_sub_cancel_left,List.getElem?_append_left hj]
theorem Ut {c1 cx c2:List Value} {n j:Nat} {v:Value} (h1:c1.length=n) (hj:j < cx.length):(c1++(cx++c2)).set (n+j) v=c1++(cx.set j v++c2):=by
 subst h1
 rw [List.set_append_right _ _ (by omega),Nat.add_sub_cancel_left,List.set_append_left _ _ hj]
section
variable {S:XS} {P:cC} {gP:List Nat} {H H1 H2:ad} {r:Nat} {t t1 t2:VT} {m g g1 g2 mi dL dQ:List Nat}
theorem RR.app {α:Type} {rp:Rp α} {tt e:TypeId} {dW:Nat} (ha:iL Tryz.prog tt=some (e,rp.sz,dW)) (NZ:dW < 1000) (h:RR S P gP H r t m g mi H1 t1 g1 dL) {vO:Value} {done:List α} {mO gO gx:List Nat} {x:α} {cs:List Value} (cw:Gr rp e H1 vO done mO gO) (hb:RQ0 S P gP H r t m g mi) (ee:∀d∈mO,H.next<=d/\d < H1.next/\d∉dL/\d∉g1) (ly:∀d∈gO,d < H1.next) (hE:rp.E H1 cs x gx) (df:∀d∈gx,d < H1.next/\d∉mO) (h1:lC cs=true) (dK:done.length < 1000000) {K:Value->ad->Prop} {tg:Tag K}
  (hk:∀v8 H8 rj,Gr rp e H8 v8 (done++[x]) rj (gO++gx)->(∀d∈rj,H1.next < d/\d < H8.next)->RR S P gP H r t m g mi H8 t1 g1 dL->H1.next<=H8.next->(∀d,d < H1.next->d∉mO->H8.get d=H1.get d)->K v8 H8):
  fe Tryz.prog H.fz (H1.push ⟨cs,e,false,false⟩) (iZ Tryz.prog tt vO (.slice (some ⟨H1.next,0,none⟩) 1 1) (H1.push ⟨cs,e,false,false⟩)) K tg:=by
 have n1:(H1.push ⟨cs,e,false,false⟩).next=H1.next+1:=rfl
 have lo:∀d,d < H1.next->(H1.push ⟨cs,e,false,false⟩).get d=H1.get d:=fun d hd=>bO hd
 have uk:H.next<=H1.next:=h.fr.nx
 refine lA (r:=rp) (x:=x) (g':=gx) ha (cw.ae (fun d hd=>lo d (ee d hd).2.1) fun d hd=>lo d (ly d hd)) (fun d hd=>by have:=(ee d hd).2.1;omega) (fun d hd=>by have:=ly d hd;omega) (fun d hd=>⟨by have:=(df d hd).1;omega,(df d hd).2⟩) (fun d hd=>h.zn d (ee d hd).1) (by rw [aZ,if_pos rfl]) (rp.ae hE fun d hd=>lo d (df d hd).1) h1 ?_ ?_
 ·have:(done.length+1) * dW<=1000001 * 1000:=Nat.mul_le_mul (by omega) (by omega)
  omega
 ·intro v8 H8 l4 VZ ME GC GD
  refine hk v8 H8 _ l4 (fun d hd=>?_) ((h.push _).own GC (fun d hd=>?_) fun d hd=>?_) (by omega) fun d hd hn=>(ME d (by omega) hn).trans (lo d hd)
  ·rw [List.mem_singleton] at hd
   omega
  ·have:=ee d hd
   exact ⟨this.1,by have:=hb.rl;omega,fun e=>by have:=(hb.hm d e).1;omega,this.2.2.1,this.2.2.2,fun e=>by have:=(hb.hP d e).1;omega⟩
  ·rw [GD,show (d==(H1.push ⟨cs,e,false,false⟩).next)=false from by rw [beq_eq_false_iff_ne];omega,Bool.false_or]
def Ln (r:Nat) (m:List Nat) (H:ad) (mi O:List Nat):Prop:=∀c∈O,c < H.next/\c≠r/\c∉m/\c∉mi
theorem Ln.call {O:List Nat} (h:Ln r m H1 dL O) (hf:Fr (r::(m++dL)) H1 H2) (hs:∀c∈dQ,c∈dL∨H1.next<=c):Ln r m H2 dQ O/\∀c∈O,H2.get c=H1.get c:=by
 have nx:=hf.nx
 refine ⟨fun c hc=>?_,fun c hc=>?_⟩
 ·obtain ⟨h1,h2,h3,h4⟩:=h c hc
  exact ⟨by omega,h2,h3,fun e=>(hs c e).elim h4 fun e=>by omega⟩
 ·obtain ⟨h1,h2,h3,h4⟩:=h c hc
  exact hf.get c h1 (by simp only [List.mem_cons,List.mem_append,not_or];exact ⟨h2,h3,h4⟩)
end
def Cl (P:cC) (n:aJ):List fu->List fu->List Int->VT->List fu × VT
 | [],done,tags,t=>(done,t)
 | b::l,done,tags,t=>Cl P n l (done++[(yT P b tags n t).1]) (tags++[(yT P b tags n t).1.tag]) (yT P b tags n t).2
def Ll (t:VT):Prop:=t.be.length < 100000/\0<=t.aY/\t.aY < 100000
instance (t:VT):Decidable (Ll t):=inferInstanceAs (Decidable (_/\_/\_))
def FL (n:aJ):List bC->List Int->VT->Option (List Int × VT)
 | [],sl,t=>if Ll t then some (sl,t) else none
 | s::l,sl,t=>if Ll t then FL n l (sl++[t.aY]) (fE t s n.line n.az).2 else none
def Cd (n:aJ) (op:List nT):List fu->List fu->List (List nT)->VT->Option (List fu × List (List nT) × VT)
 | [],done,sc,t=>some (done,sc,t)
 | b::l,done,sc,t=>if b.tag= -1∨¬t.bad=0 then Cd n op l (done++[b]) (sc++[op]) t
  else if b.names.length < 100000 then (FL n b.names [] {t with be:=op}).bind fun x=>
   Cd n op l (done++[{b with aY:=x.1,rY:=x.2.aY}]) (sc++[(fE x.2 b.ry n.line n.az).2.be]) (fE x.2 b.ry n.line n.az).2
  else none
def FH (bd:Rb):List fu->List (List nT)->VT->Option VT
 | b::l,s::sc,t=>if s.length < 1000000 then (bd b.body {t with be:=s}).bind (FH bd l sc) else none
 | [],_,t=>some t
 | _,[],_=>none
def Ze (P:cC) (bd:Rb) (k:Nat) (t:VT):Option VT:=
 if k < t.ns.length/\t.be.length < 100000/\(t.ns.getD k {}).ak.length < 100000/\(t.ns.getD k {}).pat.length < 1000000/\(t.ns.getD k {}).ak.all (fun b=>Nat.ble b.names.length 100000)=true then
  (match rJ (jV P) (t.ns.getD k {}).pat with
  | none=>some (t.fail 4 (t.ns.getD k {}).line (t.ns.getD k {}).az)
  | some p=>
   let n:=t.ns.getD k {}
   let n1:aJ:={n with pat:=p}
   let a:=Cl P n1 n.ak [] [] t
   (Cd n1 (t.be.filter fun x=>decide (¬x.slot=n.y)) a.1 [] [] a.2).bind fun s=>
    (FH bd s.1 s.2.1 {s.2.2 with ns:=s.2.2.ns.set k {n1 with ak:=s.1}}).map fun t2=>{t2 with be:=t.be,inner:=s.2.2.inner})
 else none
section
variable {S:XS} {P:cC} {gP:List Nat} {H H1 H2:ad} {r:Nat} {t t1 t2:VT} {m g g1 g2 mi dL dQ:List Nat}
theorem agn (hP:Av P) {bd:Rb} (oE:Y9 S P gP r m bd) (h:RQ S P gP H r t m g mi) {k:Nat} {t':VT} (he:Ze P bd k t=some t'):
  aj Tryz.prog 137 #[pV r,iV (k:Nat)] H (fun w H'=>xX S P gP H r t m g mi t' H'):=by
 refine aj.told ?_
 refine ni (l:=[_,_]) _ mixed Tryz.func137 ajV [] (show 2<=216 by decide) rfl fun hf=>?_
 simp only [Tryz.f137,Option.getD_some]
 unfold Ze at he
 split at he
 case isFalse=>cases he
 rename_i hb
 obtain ⟨hk,bX,Kg,dZ,oX⟩:=hb
 obtain ⟨vI,b,cs,vA,vQ,vB,gA,gQ,gB,hr,hI,hm,hb,cb,bg,mJ,uH⟩:=h.toRQ0.node hk
 generalize hn:t.ns.getD k {}=n at *
 have oX:∀x∈n.ak,x.names.length < 1000000:=fun x hx=>by
  have:=Nat.le_of_ble_eq_true (List.all_eq_true.1 oX x hx);omega
 obtain ⟨aA,kA,rfl⟩:=mJ.a.val
 obtain ⟨aQ,kQ,rfl⟩:=mJ.q.val
 obtain ⟨aB,kB,rfl⟩:=mJ.b.val
 have eV:H.fz H.next=false:=hf.fresh (Nat.le_refl _)
 have nr:¬r=H.next:=by have:=h.rl;omega
 have vZ:¬H.next=r:=fun e=>nr e.symm
 have Fc:=h.fz
 have tL:∀c∈gA++(gQ++gB),c < H.next/\c≠r:=fun c hc=>h.hg c (uH c hc)
 have r1:=((RA.start h).push ⟨aU n (.slice aA n.args.length kA) (.slice aQ n.pat.length kQ) (.slice aB n.ak.length kB),59,false,false⟩).told
 obtain ⟨H1,cu⟩:=r1.hp
 have ib:H1.get H.next=some ⟨aU n (.slice aA n.args.length kA) (.slice aQ n.pat.length kQ) (.slice aB n.ak.length kB),59,false,false⟩:=by rw [cu,bG,aZ,if_pos rfl]
 have KZ:H1.next=H.next+1:=by rw [cu];rfl
 refine ja (ja (ja (ja (ja (ja (lB 9444732965739289379824 (fun V H4=>∃p ap kp aL mL gL gp,rJ (jV P) n.pat=some p/\V 4=pV H.next/\V 7=.slice aL n.ak.length n.ak.length/\
   RA S P gP H r t m g mi H4 (Cl P {n with pat:=p} n.ak [] [] t).2/\H4.get H.next=some ⟨aU {n with pat:=p} (.slice aA n.args.length kA) (.slice ap p.length kp) (.slice aB n.ak.length kB),59,false,false⟩/\
   Gr eQ 109 H4 (.slice aL n.ak.length n.ak.length) (Cl P {n with pat:=p} n.ak [] [] t).1 mL gL/\(∀c∈mL,H.next < c/\c < H4.next)/\(∀c∈gL,c∈gB)/\Sl gU H4 (.slice ap p.length kp) p gp/\(∀c∈gp,H.next < c/\c < H4.next/\c∉mL)/\H.next < H4.next) ?_ ?_ (by rfl)))))))
 ·simp only [go_sem,hr,hk,hb,cb,bg,eV]
  rw [<-cu] at r1 ⊢
  clear cu
  refine ag.by (T5 r1.rq.toRQ0 hP.m (mJ.q.ae (H':=H1) fun c hc=>r1.k (tL c (by simp [hc])).1 (tL c (by simp [hc])).2) (fun c hc=>by have:=(tL c (by simp [hc])).1;omega) dZ) ?_
  rintro w H2 - ⟨sE,o2,z2⟩
  have r2:=(r1.au o2 z2).told
  have oF:=(o2.get H.next (by omega)).trans ib
  have eC:=o2.nx
  unfold Kb at sE
  cases BI:rJ (jV P) n.pat with
  | none=>
   rw [BI] at sE he
   subst sE
   cases he
   simp only [go_sem,oF]
   refine ag.by (nh r2.rq) ?_
   rintro _ H3 - p3
   simp only [go_sem]
   exact (r2.call p3).rr.last
  | some p=>
   rw [BI] at sE
   obtain ⟨vp,gp,rfl,fR,Bu⟩:=sE
   obtain ⟨ap,kp,rfl⟩:=fR.val
   have r3:=(r2.own (M:=[H.next]) ((Fr.refl _ _).ai (b:=H.next) (.inl (by simp)) ⟨aU {n with pat:=p} (.slice aA n.args.length kA) (.slice ap p.length kp) (.slice aB n.ak.length kB),59,false,false⟩) (by simp) fun _ _=>rfl).told
   obtain ⟨H3,dv⟩:=r3.hp
   have ml:H3.get H.next=some ⟨aU {n with pat:=p} (.slice aA n.args.length kA) (.slice ap p.length kp) (.slice aB n.ak.length kB),59,false,false⟩:=by rw [dv,bG,aH,if_pos rfl]
   have k3:∀c,c≠H.next->H3.get c=H2.get c:=fun c hc=>by rw [dv,bG,aH,if_neg hc,bG]
   have Oe:H3.next=H2.next:=by rw [dv];rfl
   simp only [go_sem,oF,eV]
   rw [<-dv] at r3 ⊢
   clear dv
   have qV:=mJ.b.ae (H':=H3) fun c hc=>r3.k (tL c (by simp [hc])).1 (tL c (by simp [hc])).2
   refine AP (r:=eQ) A3 qV (by
    have:n.ak.length * 1000<=1000000 * 1000:=Nat.mul_le_mul (by omega) (Nat.le_refl _)
    omega) (fun c hc=>by have:=(tL c (by simp [hc])).1;omega) ?_
   intro vL H4 mL gL ui uE nP
   obtain ⟨aL,wh⟩:=ui.val
   subst wh
   obtain ⟨r4,hU,k4,qU⟩:RA S P gP H r t m g mi H4 t/\(∀d∈mL,H3.next<=d/\d < H4.next)/\(∀d,d < H3.next->H4.get d=H3.get d)/\H3.next<=H4.next:=by
    rcases nP with ⟨rfl,rfl⟩ | ⟨rfl,cs,rfl⟩
    ·exact ⟨r3,by simp,fun _ _=>rfl,Nat.le_refl _⟩
    ·exact ⟨r3.push _,fun d hd=>by rw [List.mem_singleton] at hd;subst hd;exact ⟨Nat.le_refl _,Nat.lt_succ_self _⟩,fun d hd=>bO hd,Nat.le_succ _⟩
   have r4:=r4.told
   have tG:=(k4 H.next (by omega)).trans ml
   have aqF:=fR.ae (H':=H4) fun c hc=>by
    have:=Bu c hc
    rw [k4 c (by omega),k3 c (by omega)]
   have aeq:∀c∈gp,H.next < c/\c < H4.next/\c∉mL:=fun c hc=>by
    have:=Bu c hc
    exact ⟨by omega,by omega,fun e=>by have:=(hU c e).1;omega⟩
   simp only [go_sem]
   refine kC 9444731839839383585536 n.ak.length (fun i V H5=>V 50=iV (i:Nat)/\∃vT mT tags done t5 Fh,V 8=vT/\RA S P gP H r t m g mi H5 t5/\Gr .int 3 H5 vT tags mT []/\(∀d∈mT,H4.next<=d/\d < H5.next)/\tags.length=i/\H5.get H.next=some ⟨aU {n with pat:=p} (.slice aA n.args.length kA) (.slice ap p.length kp) (.slice aB n.ak.length kB),59,false,false⟩/\
     Gr eQ 109 H5 (.slice aL n.ak.length n.ak.length) (done++n.ak.drop i) mL Fh/\(∀d∈Fh,d∈gB)/\done.length=i/\H4.next<=H5.next/\(∀d∈gp,H5.get d=H4.get d)/\Cl P {n with pat:=p} n.ak [] [] t=Cl P {n with pat:=p} (n.ak.drop i) done tags t5)
    ⟨by simp only [go_sem] <;> rfl,.slice none 0 0,[],[],[],t,gL,by simp only [go_sem] <;> rfl,r4,Gr.nil _ _ _,by simp,rfl,tG,ui.ae (fun _ _=>rfl) (fun _ _=>rfl),uE,rfl,Nat.le_refl _,fun _ _=>rfl,rfl⟩ ?_ ?_ (by rfl)
   ·rintro i V H5 hi ⟨ei,vT,mT,tags,done,t5,Fh,e8,r5,GH,nO,eF,eJ,lH,KG,dK,xz,C2,Io⟩
    have hx:n.ak[i]?=some (n.ak[i]'hi):=List.getElem?_eq_getElem hi
    have cT:n.ak.drop i=(n.ak[i]'hi)::n.ak.drop (i+1):=(List.getElem_cons_drop hi).symm
    generalize (n.ak[i]'hi)=x at hx cT
    rw [cT] at lH Io
    rw [Cl] at Io
    have CI:i < (done++x::n.ak.drop (i+1)).length:=by rw [List.length_append,List.length_cons];omega
    have tj:(done++x::n.ak.drop (i+1))[i]'CI=x:=by subst dK;simp
    have gI:∀y:fu,(done++x::n.ak.drop (i+1)).set i y=(done++[y])++n.ak.drop (i+1):=fun y=>by subst dK;simp
    have cH:IntKind.wrap .i64 (((i:Nat):Int)+1)=((i+1:Nat):Int):=cG hi (by omega)
    obtain ⟨b5,eH,f1,f2,f3,hv,eT,fj,gJ,kZ,jC,hE,jk⟩:=lH.put CI
    rw [tj] at hE
    obtain ⟨vS,vN,u1,u2,jW,rfl,S6,Lm⟩:=hE
    obtain ⟨aS,kS,rfl⟩:=S6.val
    obtain ⟨aN,kN,rfl⟩:=Lm.val
    have jW:(eH.drop (i * 7)).take 7=cJ x (.slice aS x.aY.length kS) (.slice aN x.names.length kN):=jW
    have jC:i * 7+7<=eH.length:=jC
    simp only [Value.slice.injEq] at hv
    have iY:=hv.1
    have Rv:b5∈mL:=by rw [eT];simp
    have Wl:=hU b5 Rv
    have jg:H.fz b5=false:=hf.fresh (by omega)
    have F9:∀d∈f1++((u1++u2)++f3),d∈Fh:=fun d hd=>by rw [kZ];exact hd
    have Rw:∀d∈Fh,d < H.next/\d≠r:=fun d hd=>tL d (by simp [KG d hd])
    obtain ⟨aT,K6⟩:=GH.val
    subst K6
    have n5:=r5.fr.nx
    simp only [go_sem,ei,hi,iY,fj,jC,jW,e8,eJ]
    refine ag.by (ag4 r5.told.rq hP (b:=x) (n:={n with pat:=p}) (GH.sl.ae fun _ _=>rfl) (fun c hc=>by rw [List.append_nil] at hc;have:=nO c hc;exact ⟨this.2,by have:=h.rl;omega⟩) (by omega)) ?_
    rintro _ H6 - ⟨rfl,p6⟩
    have St:H5.next<=H6.next:=p6.fr.nx
    have r6:=r5.told.call p6
    have kk:∀d,d < H5.next->d≠r->H6.get d=H5.get d:=fun d h1 h2=>p6.fr.get d h1 (by simp [h2])
    have qt:=(kk b5 (by omega) (by have:=h.rl;omega)).trans fj
    have iy:=(kk H.next (by omega) vZ).trans eJ
    generalize hBR:yT P x tags {n with pat:=p} t5=BR at *
    have cQ:BR.1.aY=x.aY/\BR.1.names=x.names:=by
     rw [<-hBR,yT]
     (repeat' split) <;> exact ⟨rfl,rfl⟩
    have r7:=(r6.own (M:=[b5]) ((Fr.refl _ _).ai (b:=b5) (.inl (by simp)) ⟨cY eH (i * 7) (cJ BR.1 (.slice aS x.aY.length kS) (.slice aN x.names.length kN)),109,true,false⟩) (by simp;omega) fun _ _=>rfl).told
    obtain ⟨H7,eW⟩:=r7.hp
    have k7:∀d,d≠b5->H7.get d=H6.get d:=fun d hd=>by rw [eW,bG,aH,if_neg hd]
    have E5:H7.next=H6.next:=by rw [eW];rfl
    have Li:H7.get b5=some ⟨cY eH (i * 7) (cJ BR.1 (.slice aS x.aY.length kS) (.slice aN x.names.length kN)),109,true,false⟩:=by rw [eW,bG,aH,if_pos rfl]
    have js:=(k7 H.next (by omega)).trans iy
    have kl:∀d∈Fh,H7.get d=H5.get d:=fun d hd=>by
     have:=Rw d hd
     rw [k7 d (by omega),kk d (by omega) this.2]
    have cA:=jk H7 (cJ BR.1 (.slice aS x.aY.length kS) (.slice aN x.names.length kN)) BR.1 (u1++u2) (fun z hz=>kl z (F9 z (by rcases hz with e | e <;> simp [e]))) Li ⟨_,_,u1,u2,rfl,rfl,by show Sl .int H7 _ BR.1.aY u1;rw [cQ.1];exact S6.ae fun d hd=>kl d (F9 d (by simp [hd])),by show Sl .str H7 _ BR.1.names u2;rw [cQ.2];exact Lm.ae fun d hd=>kl d (F9 d (by simp [hd]))⟩ (fun e=>by have:=Rw b5 (F9 b5 (by simp only [List.mem_append] at e ⊢;rcases e with e | e <;> simp [e]));omega)
    rw [gI,<-eT] at cA
    have Gj:(cY eH (i * 7) (cJ BR.1 (.slice aS x.aY.length kS) (.slice aN x.names.length kN)))[i * 7]?=some (iV BR.1.tag):=by
     unfold cY
     rw [List.getElem?_append_right (by rw [List.length_take];omega),List.length_take,Nat.min_eq_left (by omega),Nat.sub_self];rfl
    have hlen:(cY eH (i * 7) (cJ BR.1 (.slice aS x.aY.length kS) (.slice aN x.names.length kN))).length=eH.length:=Z4 (by show i * 7+7<=_;exact jC)
    have Le:i * 7+1<=eH.length:=by omega
    simp only [go_sem,ei,hi,iY,qt,jg,jC]
    rw [<-eW] at r7 ⊢
    clear eW
    have aoh:=GH.ae (H':=H7) (fun d hd=>by have:=nO d hd;rw [k7 d (by omega),kk d this.2 (by have:=h.rl;omega)]) (by simp)
    simp only [go_sem,ei,hi,iY,Li,Gj,hlen,Le,e8,eX iR (by decide) (by decide)]
    refine r7.app (X:=H.fz) (rp:=.int) (cs:=[iV BR.1.tag]) (gx:=[]) iR (by decide) aoh (fun d hd=>by have:=nO d hd;exact ⟨by omega,by omega,hf.fresh (by omega)⟩) (by simp) ⟨rfl,rfl⟩ (by simp) rfl (by omega) ?_
    intro v8 H8 mT8 l4 O5 r8 KW k8
    simp only [go_sem,ei,cH]
    have kT:∀d,d < H7.next->d∉mT->H8.get d=H7.get d:=k8
    have S7:∀d,d < H4.next->d∉mT:=fun d hd e=>by have:=(nO d e).1;omega
    refine ⟨v8,mT8,tags++[BR.1.tag],done++[BR.1],BR.2,f1++((u1++u2)++f3),rfl,r8.told,l4.ae (fun _ _=>rfl) (fun _ _=>rfl),fun d hd=>?_,by rw [List.length_append,List.length_singleton,eF],(kT H.next (by omega) (S7 _ (by omega))).trans js,?_,fun d hd=>KG d (F9 d hd),by rw [List.length_append,List.length_singleton,dK],by show H4.next<=H8.next;omega,fun d hd=>?_,Io⟩
    ·have:=O5 d hd
     show _/\d < H8.next
     omega
    ·exact cA.ae (fun d hd=>kT d (by have:=hU d hd;omega) (S7 d (hU d hd).2)) fun d hd=>kT d (by have:=Rw d (F9 d hd);omega) (S7 d (by have:=Rw d (F9 d hd);omega))
    ·have:=aeq d hd
     show H8.get d=_
     rw [kT d (by omega) (S7 d this.2.1),k7 d (fun e=>this.2.2 (e▸Rv)),kk d (by omega) (by have:=h.rl;omega),C2 d hd]
   ·rintro V H5 ⟨ei,vT,mT,tags,done,t5,Fh,e8,r5,GH,nO,eF,eJ,lH,KG,dK,xz,C2,Io⟩
    rw [List.drop_length] at lH Io
    rw [List.append_nil] at lH
    rw [Cl] at Io
    simp only [go_sem,ei]
    refine ⟨p,ap,kp,aL,mL,Fh,gp,rfl,?_⟩
    rw [Io]
    exact ⟨rfl,r5.told,eJ,lH.ae (fun _ _=>rfl) (fun _ _=>rfl),fun c hc=>by have:=hU c hc;show _/\c < H5.next;omega,KG,aqF.ae fun c hc=>C2 c hc,fun c hc=>by have:=aeq c hc;exact ⟨this.1,by show c < H5.next;omega,this.2.2⟩,by omega⟩
 ·rintro V H4 ⟨p,ap,kp,aL,mL,gL,gp,BI,e4,e7,r4,tG,ui,hU,uE,fR,yG,n4⟩
  rw [BI] at he
  simp only at he
  generalize Cl P {n with pat:=p} n.ak [] [] t=TG at *
  obtain ⟨sH,tB⟩:=TG
  simp only at he r4 ui
  have Zf:sH.length=n.ak.length:=by
   obtain ⟨a,e⟩:=ui.val
   simp only [Value.slice.injEq] at e
   exact e.2.1.symm
  have Ip:tB.be=t.be:=r4.be
  have hnB:tB.ns=t.ns:=r4.ns
  -- all,and GZ names adA stay
  refine ja (ja (lB 9903510869550076459902577664 (fun V2 H5=>∃El aO mO,V2 10=El/\V2 11=.slice aO (t.be.filter fun x=>decide (¬x.slot=n.y)).length (t.be.filter fun x=>decide (¬x.slot=n.y)).length/\kr H5 El t.be mi/\RA S P gP H r t m g mi H5 tB/\Gr tI 137 H5 (.slice aO (t.be.filter fun x=>decide (¬x.slot=n.y)).length (t.be.filter fun x=>decide (¬x.slot=n.y)).length) (t.be.filter fun x=>decide (¬x.slot=n.y)) mO []/\(∀c∈mO,H4.next<=c/\c < H5.next)/\H4.next<=H5.next/\(∀c,c < H4.next->H5.get c=H4.get c)) ?_ ?_ (by rfl)))
  ·obtain ⟨YS,vI5,HW,Zg,oG⟩:=r4.rq.row
   rw [Ip] at oG
   obtain ⟨aI,cI,Dg⟩:=oG.val
   subst Dg
   simp only [go_sem,HW]
   refine kC 9902915851373234884605650944 t.be.length (fun i V3 H5=>V3 79=iV (i:Nat)/\∃vO mO,V3 11=vO/\RA S P gP H r t m g mi H5 tB/\Gr tI 137 H5 vO ((t.be.take i).filter fun x=>decide (¬x.slot=n.y)) mO []/\(∀c∈mO,H4.next<=c/\c < H5.next)/\H4.next<=H5.next/\(∀c,c < H4.next->H5.get c=H4.get c)) ⟨by simp only [go_sem] <;> rfl,.slice none 0 0,[],by simp only [go_sem] <;> rfl,r4.told,Gr.nil _ _ _,by simp,Nat.le_refl _,fun _ _=>rfl⟩ ?_ ?_ (by rfl)
   ·rintro i V3 H5 hi ⟨ei,vO,mO,nf,r5,qe,ee,xz,k5⟩
    have hx:t.be[i]?=some (t.be[i]'hi):=List.getElem?_eq_getElem hi
    have iX:t.be.take (i+1)=t.be.take i++[t.be[i]'hi]:=List.take_succ_eq_append_getElem hi
    generalize (t.be[i]'hi)=x at hx iX
    have cH:IntKind.wrap .i64 (((i:Nat):Int)+1)=((i+1:Nat):Int):=cG hi (by omega)
    obtain ⟨b5,o5,c5,B5,eJ,ji,wm,Rk,GA,GB,tz⟩:=(oG.sl.ae (H':=H5) fun c hc=>k5 c (r4.rq.hi c hc).1).at hx
    have GB:o5+i * 2+2<=B5.cells.length:=GB
    have jW:(B5.cells.drop (o5+i * 2)).take 2=[ah x.name,iV x.slot]:=tz.1
    simp only [Value.slice.injEq] at ji
    have haI:=ji.1
    have n5:=r5.fr.nx
    have Br:H.fz H5.next=false:=hf.fresh n5
    have aer:=(k5 H.next n4).trans tG
    have Lf:¬H.next=H5.next:=by omega
    obtain ⟨aO,HH⟩:=qe.val
    subst HH
    by_cases hs:x.slot=n.y
    ·have dC:(t.be.take (i+1)).filter (fun x=>decide (¬x.slot=n.y))=(t.be.take i).filter (fun x=>decide (¬x.slot=n.y)):=by rw [iX,List.filter_append];simp [hs]
     have r6:=(r5.told.push ⟨[ah x.name,iV x.slot],137,false,false⟩).told
     simp only [go_sem,e4,ei,hi,haI,wm,GB,jW,Br,Lf,aer,hs,cH]
     rw [hs] at r6
     refine ⟨_,mO,nf,r6,?_,fun c hc=>by have:=ee c hc;omega,by omega,fun c hc=>by rw [if_neg (by omega)];exact k5 c hc⟩
     rw [dC]
     exact qe.ae (fun c hc=>by have:=ee c hc;rw [bG,aZ,BZ,if_neg (by omega),bG]) (by simp)
    ·have dC:(t.be.take (i+1)).filter (fun x=>decide (¬x.slot=n.y))=(t.be.take i).filter (fun x=>decide (¬x.slot=n.y))++[x]:=by rw [iX,List.filter_append];simp [hs]
     have r6:=(r5.told.push ⟨[ah x.name,iV x.slot],137,false,false⟩).told
     obtain ⟨H6,fo⟩:=r6.hp
     have k6:∀d,d < H5.next->H6.get d=H5.get d:=fun d hd=>by rw [fo,bG,aZ,BZ,if_neg (by omega),bG]
     have E4:H6.next=H5.next+1:=by rw [fo];rfl
     simp only [go_sem,e4,ei,hi,haI,wm,GB,jW,Br,Lf,aer,hs,nf,eX AS (by decide) (by decide)]
     rw [<-fo] at r6 ⊢
     have nn6:H5.next+1=H6.next:=by omega
     rw [nn6]
     clear fo
     have hlf:((t.be.take i).filter fun x=>decide (¬x.slot=n.y)).length<=i:=by
      have:=List.length_filter_le (fun x:nT=>decide (¬x.slot=n.y)) (t.be.take i)
      rw [List.length_take] at this
      omega
     refine r6.app (X:=H.fz) (rp:=tI) (x:=x) (cs:=[ah x.name,iV x.slot]) (gx:=[]) AS (by decide) (qe.ae (fun c hc=>k6 c (ee c hc).2) (by simp)) (fun d hd=>by have:=ee d hd;exact ⟨by omega,by omega,hf.fresh (by omega)⟩) (by simp) ⟨rfl,rfl⟩ (by simp) rfl (by omega) ?_
     intro v8 H8 rj l4 O5 r8 n68 k8
     simp only [go_sem,ei,cH]
     refine ⟨v8,rj,rfl,r8.told,?_,fun c hc=>by have:=O5 c hc;show _/\c < H8.next;omega,by show H4.next<=H8.next;omega,fun c hc=>by rw [k8 c (by omega) (fun e=>by have:=(ee c e).1;omega),k6 c (by omega),k5 c hc]⟩
     rw [dC]
     exact l4.ae (fun _ _=>rfl) (fun _ _=>rfl)
   ·rintro V3 H5 ⟨ei,vO,mO,nf,r5,qe,ee,xz,k5⟩
    rw [List.take_length] at qe
    obtain ⟨aO,HH⟩:=qe.val
    subst HH
    simp only [go_sem,ei,nf]
    exact ⟨_,aO,mO,rfl,rfl,oG.ae (fun c hc=>k5 c (r4.rq.hi c hc).1),r5.told,qe.ae (fun _ _=>rfl) (fun _ _=>rfl),ee,xz,k5⟩
  ·rintro V2 H5 ⟨El,aO,mO,Iq,nf,aqG,r5,qe,ee,xz,k5⟩
   have aBL:(t.be.filter fun x=>decide (¬x.slot=n.y)).length<=t.be.length:=List.length_filter_le _ _
   generalize (t.be.filter fun x=>decide (¬x.slot=n.y))=op at *
   have eJ:=(k5 H.next n4).trans tG
   have aoi:=ui.ae (H':=H5) (fun c hc=>k5 c (hU c hc).2) (fun c hc=>k5 c (by have:=(tL c (by simp [uE c hc])).1;omega))
   have aqH:=fR.ae (H':=H5) fun c hc=>k5 c (yG c hc).2.1
   cases C3:Cd {n with pat:=p} op sH [] [] tB with
   | none=>rw [C3] at he;cases he
   | some SS=>
   rw [C3] at he
   obtain ⟨pg,uJ,tC⟩:=SS
   simp only [Option.bind_some] at he
   obtain ⟨bs,O6⟩:∃bs,bs=H5.next:=⟨_,rfl⟩
   refine ja (lB 11972621413014756705924576246091476213979200199245824 (fun V3 H7=>∃g7 xH rm fS vs,V3 14=.slice (some ⟨bs,0,none⟩) n.ak.length n.ak.length/\RR S P gP H r t m g mi H7 tC g7 xH/\H7.get H.next=some ⟨aU {n with pat:=p} (.slice aA n.args.length kA) (.slice ap p.length kp) (.slice aB n.ak.length kB),59,false,false⟩/\
     Gr eQ 109 H7 (.slice aL n.ak.length n.ak.length) pg mL rm/\Ln r m H7 xH (bs::mL++rm)/\(∀c∈rm,c∈g∨H.next<=c)/\Sl gU H7 (.slice ap p.length kp) p gp/\Ln r m H7 xH (H.next::gp)/\kr H7 El t.be mi/\
     H7.get bs=some ⟨vs,131,false,false⟩/\dT (Rp.slice tI) H7 vs uJ fS/\vs.length=n.ak.length/\(∀c∈fS,H.next < c/\c < H7.next/\c≠bs/\c∉mL)/\uJ.length=n.ak.length/\H.next∉g7/\H.next < bs/\pg.length=n.ak.length/\∀c∈rm,c≠H.next) ?_ ?_ (by rfl))
   ·have hzS:fx Tryz.prog 131=some [.slice none 0 0]:=by kernel_rfl
    have aAT:n.ak.length < 100000:=Kg
    simp only [go_sem,e7,Zf]
    rw [I1 (n:=n.ak.length) (c:=n.ak.length) aiM hzS (by decide) (Nat.le_refl _) (by omega) (by omega)]
    have r6:=(r5.rr.push ⟨fW [.slice none 0 0] n.ak.length,131,false,false⟩).told
    obtain ⟨H6,fo⟩:=r6.hp
    have KI:H6.get bs=some ⟨fW [.slice none 0 0] n.ak.length,131,false,false⟩:=by rw [fo,bG,aZ,if_pos O6]
    have k6:∀c,c < H5.next->H6.get c=H5.get c:=fun c hc=>by rw [fo,bG,bO hc]
    have E4:H6.next=H5.next+1:=by rw [fo];rfl
    simp only [go_sem,e7]
    rw [<-fo,<-O6]
    rw [<-fo] at r6
    clear fo
    have aqI:∀q,(fW [.slice none 0 0] q:List Value).length=q:=fun q=>by
     induction q with
     | zero=>rfl
     | succ q ih=>show ([.slice none 0 0]++fW [.slice none 0 0] q:List Value).length=_;rw [List.length_append,ih];simp;omega
    have uK:∀c∈mi,c < H.next/\c≠r/\c∉m:=fun c hc=>⟨(h.hi c hc).1,(h.hi c hc).2.1,fun e=>(h.hm c e).2.2.2.2 hc⟩
    have nm:∀c,H.next<=c->c∉m/\c≠r/\c∉gP/\c∉mi/\c∉g:=fun c hc=>⟨fun e=>by have:=(h.hm c e).1;omega,by have:=h.rl;omega,fun e=>by have:=(h.hP c e).1;omega,fun e=>by have:=(h.hi c e).1;omega,fun e=>by have:=(h.hg c e).1;omega⟩
    have S8:∀c∈gL,c∈g:=fun c hc=>uH c (by simp [uE c hc])
    have pI:∀c∈g,c < H.next/\c≠r/\c∉m/\c∉mi:=fun c hc=>⟨(h.hg c hc).1,(h.hg c hc).2,fun e=>(h.hm c e).2.2.2.1 hc,fun e=>(h.hi c e).2.2.2 hc⟩
    refine kC 11972621413014756705924269236961733439671025216421888 n.ak.length (fun i V3 H7=>V3 98=iV (i:Nat)/\∃done sc tS g7 xH rm fS vs rest,RR S P gP H r t m g mi H7 tS g7 xH/\H7.get H.next=some ⟨aU {n with pat:=p} (.slice aA n.args.length kA) (.slice ap p.length kp) (.slice aB n.ak.length kB),59,false,false⟩/\
      Gr eQ 109 H7 (.slice aL n.ak.length n.ak.length) (done++sH.drop i) mL rm/\Ln r m H7 xH (H.next::bs::(mL++rm++gp++mO))/\(∀c∈rm,c∈g∨H.next < c)/\(∀c∈rm,c≠bs/\c∉mL/\c≠H.next)/\(∀c∈H.next::bs::mL,c∉g7)/\Sl gU H7 (.slice ap p.length kp) p gp/\Sl tI H7 (.slice aO op.length op.length) op mO/\kr H7 El t.be mi/\
      H7.get bs=some ⟨vs++rest,131,false,false⟩/\vs.length=i/\rest.length+i=n.ak.length/\dT (Rp.slice tI) H7 vs sc fS/\(∀c∈fS,H.next < c/\c < H7.next/\c≠bs/\c∉mL)/\sc.length=i/\done.length=i/\H6.next<=H7.next/\Cd {n with pat:=p} op sH [] [] tB=Cd {n with pat:=p} op (sH.drop i) done sc tS)
     ⟨by simp only [go_sem] <;> rfl,[],[],tB,g,mi,gL,[],[],fW [.slice none 0 0] n.ak.length,r6,(k6 H.next (by omega)).trans eJ,aoi.ae (fun c hc=>k6 c (by have:=hU c hc;omega)) (fun c hc=>k6 c (by have:=(pI c (S8 c hc)).1;omega)),?_,fun c hc=>.inl (S8 c hc),?_,?_,aqH.ae fun c hc=>k6 c (by have:=yG c hc;omega),by have:=qe.sl.ae (H':=H6) (fun c hc=>k6 c (by rw [List.append_nil] at hc;exact (ee c hc).2));rw [List.append_nil] at this;exact this,aqG.ae fun c hc=>k6 c (by have:=(uK c hc).1;omega),KI,rfl,by rw [aqI];omega,rfl,by simp,rfl,rfl,Nat.le_refl _,rfl⟩ ?_ ?_ (by rfl)
    ·intro c hc
     simp only [List.mem_append,List.mem_cons] at hc
     have au:c∈g->c < H6.next/\c≠r/\c∉m/\c∉mi:=fun e=>⟨by have:=(pI c e).1;omega,(pI c e).2⟩
     have new:H.next<=c->c < H6.next->c < H6.next/\c≠r/\c∉m/\c∉mi:=fun h1 h2=>⟨h2,(nm c h1).2.1,(nm c h1).1,(nm c h1).2.2.2.1⟩
     rcases hc with e | e | (((e | e) | e) | e)
     ·exact new (by omega) (by omega)
     ·exact new (by omega) (by omega)
     ·exact new (by have:=hU c e;omega) (by have:=hU c e;omega)
     ·exact au (S8 c e)
     ·exact new (by have:=yG c e;omega) (by have:=yG c e;omega)
     ·exact new (by have:=ee c e;omega) (by have:=ee c e;omega)
    ·intro c hc
     have:=(pI c (S8 c hc)).1
     exact ⟨by omega,fun e=>by have:=hU c e;omega,by omega⟩
    ·intro c hc
     simp only [List.mem_cons] at hc
     rcases hc with e | e | e
     ·exact (nm c (by omega)).2.2.2.2
     ·exact (nm c (by omega)).2.2.2.2
     ·exact (nm c (by have:=hU c e;omega)).2.2.2.2
    ·rintro i V3 H7 hi ⟨ei,done,sc,tS,g7,xH,rm,fS,vs,rest,r7,js,cA,zL,CK,zM,Fi,CL,Nn,Ga,Fj,ur,qk,Gb,rK,CM,dK,Su,oH⟩
     have Ip:i < sH.length:=by omega
     have hx:sH[i]?=some (sH[i]'Ip):=List.getElem?_eq_getElem Ip
     have cT:sH.drop i=(sH[i]'Ip)::sH.drop (i+1):=(List.getElem_cons_drop Ip).symm
     generalize (sH[i]'Ip)=x at hx cT
     rw [cT] at cA oH
     rw [Cd] at oH
     have cH:IntKind.wrap .i64 (((i:Nat):Int)+1)=((i+1:Nat):Int):=cG hi (by omega)
     obtain ⟨bL,c1,cx,c2,f1,f2,f3,wh,eT,O7,fg,Kx,jI,rfl,a1,hE,a2,iu⟩:=cA.mid
     obtain ⟨vS,vN,u1,u2,rfl,rfl,S6,Lm⟩:=hE
     obtain ⟨aS,kS,rfl⟩:=S6.val
     obtain ⟨aN,kN,rfl⟩:=Lm.val
     simp only [Value.slice.injEq] at wh
     have iY:=wh.1
     have fg:c1.length=i * 7:=by rw [fg,dK];rfl
     have hgc:∀j v,j < 7->(cJ x (.slice aS x.aY.length kS) (.slice aN x.names.length kN))[j]?=some v->(c1++(cJ x (.slice aS x.aY.length kS) (.slice aN x.names.length kN)++c2))[i * 7+j]?=some v:=fun j v hj hv=>by rw [Qe fg hj];exact hv
     obtain ⟨Az,nk⟩:∃Az,Az=c1++(cJ x (.slice aS x.aY.length kS) (.slice aN x.names.length kN)++c2):=⟨_,rfl⟩
     rw [<-nk] at O7 hgc
     have g0:Az[i * 7]?=some (iV x.tag):=hgc 0 _ (by decide) rfl
     obtain ⟨Fb,O0,q8,_,Ld,_,_⟩:=r7.re
     have aqJ:0 < rest.length:=by omega
     have Zh:H.fz bs=false:=hf.fresh (by omega)
     have l8:i < (vs++rest).length:=by rw [List.length_append];omega
     have Ww:i+1<=(vs++rest).length:=l8
     obtain ⟨w0,uc,rfl⟩:∃w0 uc,rest=w0::uc:=by
      cases rest with
      | nil=>simp at aqJ
      | cons a l=>exact ⟨a,l,rfl⟩
     have Vh:∀v,(vs++w0::uc).set i v=(vs++[v])++uc:=fun v=>by subst ur;simp
     have Kc:uc.length+(i+1)=n.ak.length:=by simp only [List.length_cons] at qk;omega
     have yd:=fun c (hc:c∈H.next::bs::(mL++(f1++(u1++u2++f3))++gp++mO))=>zL c hc
     have Em:=yd bs (by simp)
     have rL:bL∈mL:=by rw [eT];simp
     have Zi:H.fz bL=false:=hf.fresh (by have:=hU bL rL;omega)
     have stop:∀{b':Bool},x.tag= -1∨¬tS.bad=0->True:=fun _=>trivial
     by_cases qW:x.tag= -1
     ·rw [if_pos (.inl qW)] at oH
      simp only [go_sem,ei,hi,e7,iY,O7,g0,qW,nf,Fj,Zh,l8,Ww,fL l8]
      have r8:=(r7.told.own (M:=[bs]) ((Fr.refl _ _).ai (b:=bs) (.inl (by simp)) ⟨(vs++[.slice aO op.length op.length])++uc,131,false,false⟩) (fun c hc=>by rw [List.mem_singleton] at hc;subst hc;exact ⟨by omega,Em.2.1,Em.2.2.1,Em.2.2.2,Fi _ (by simp),(nm _ (by omega)).2.2.1⟩) fun _ _=>rfl).told
      rw [Vh]
      obtain ⟨H8,jo⟩:=r8.hp
      have k8:∀c,c≠bs->H8.get c=H7.get c:=fun c hc=>by rw [jo,bG,aH,if_neg hc,bG]
      have gs8:H8.get bs=some ⟨(vs++[.slice aO op.length op.length])++uc,131,false,false⟩:=by rw [jo,bG,aH,if_pos rfl]
      have OO:H8.next=H7.next:=by rw [jo];rfl
      simp only [cH,ei,go_sem]
      rw [<-jo] at r8 ⊢
      clear jo
      have AA:∀c∈H.next::(mL++(f1++(u1++u2++f3))++gp++mO),c≠bs:=fun c hc e=>by
       simp only [List.mem_cons,List.mem_append] at hc
       rcases hc with e' | (((e' | e') | e') | e')
       ·omega
       ·have:=hU c e';omega
       ·exact (zM c (by simp only [List.mem_append];exact e')).1 e
       ·have:=yG c e';omega
       ·have:=ee c e';omega
      have kq:∀c,c≠bs->H8.get c=H7.get c:=k8
      have No:Sl tI H8 (.slice aO op.length op.length) op mO:=Nn.ae fun c hc=>kq c (AA c (by simp [hc]))
      refine ⟨done++[x],sc++[op],tS,g7,xH,_,fS++mO,vs++[.slice aO op.length op.length],uc,r8,by rw [if_neg (AA _ (by simp))];exact js,?_,fun c hc=>by have:=zL c hc;exact ⟨by omega,this.2⟩,CK,zM,Fi,CL.ae fun c hc=>kq c (AA c (by simp [hc])),No,Ga.ae fun c hc=>kq c (by have:=(uK c hc).1;omega),rfl,by rw [List.length_append,List.length_singleton,ur],Kc,(Gb.ae fun c hc=>kq c (rK c hc).2.2.1).join (by rw [ur,CM];show i=i * 1;omega) (dT.one ⟨_,rfl,No⟩),fun c hc=>?_,by rw [List.length_append,List.length_singleton,CM],by rw [List.length_append,List.length_singleton,dK],by omega,oH⟩
      ·have:=cA.ae (H':=H8) (fun c hc=>kq c (AA c (by simp [hc]))) (fun c hc=>kq c (AA c (by simp only [List.mem_cons,List.mem_append] at hc ⊢;rcases hc with e | e | e <;> simp [e])))
       rw [iY] at this
       rw [List.append_assoc]
       exact this
      ·rcases List.mem_append.1 hc with e | e
       ·have:=rK c e
        exact ⟨this.1,by omega,this.2.2⟩
       ·have:=ee c e
        have h2:=(yd c (by simp [e])).1
        exact ⟨by omega,by omega,by omega,fun e=>by have:=hU c e;omega⟩
     ·by_cases Ej:tS.bad=0
      ·rw [if_neg (by simp [qW,Ej])] at oH
       by_cases aes:x.names.length < 100000
       case' neg=>rw [if_neg aes,C3] at oH;cases oH
       rw [if_pos aes] at oH
       have aBM:=C3
       rw [C3] at oH
       cases lO:FL {n with pat:=p} x.names [] {tS with be:=op} with
       | none=>rw [lO] at oH;cases oH
       | some BN=>
       rw [lO] at oH
       obtain ⟨slF,tF⟩:=BN
       simp only [Option.bind_some] at oH
       simp only [go_sem,ei,hi,e7,iY,O7,g0,qW,q8,Ej,nf]
       refine AP (r:=tI) AS (Nn.ae (H':=H7.af H.fz) fun _ _=>rfl) (by
        have:op.length * 1000<=1000000 * 1000:=Nat.mul_le_mul (by omega) (Nat.le_refl _)
        omega) (fun c hc=>(yd c (by simp [hc])).1) ?_
       intro vB H8 mB gB8 GJ _ nP
       have CZ:=GJ.flat
       subst CZ
       obtain ⟨aB8,Zj⟩:=GJ.val
       subst Zj
       obtain ⟨o8,Fk⟩:aG (H7.af H.fz) H8/\∀c∈mB,c=H7.next/\c < H8.next:=by
        rcases nP with ⟨rfl,rfl⟩ | ⟨rfl,cs,rfl⟩
        ·exact ⟨aG.refl _,by simp⟩
        ·exact ⟨aG.push _ _,fun c hc=>by rw [List.mem_singleton] at hc;subst hc;exact ⟨rfl,Nat.lt_succ_self _⟩⟩
       have KW:H7.next<=H8.next:=o8.nx
       obtain ⟨De,r9⟩:=r7.told.be (t2:={tS with be:=op}) (dQ:=mB) q8 (o8.fr _) rfl GJ.inr fun c hc=>⟨.inr (Fk c hc).1,(Fk c hc).2⟩
       obtain ⟨H9,tO⟩:=r9.hp
       have k9:∀c,c < H7.next->c≠r->H9.get c=H7.get c:=fun c h1 h2=>by rw [tO,bG,aH,if_neg h2];exact o8.get c h1
       have nx9:H9.next=H8.next:=by rw [tO];rfl
       simp only [go_sem,De,Fc]
       rw [<-tO] at r9 ⊢
       clear tO
       have En:=yd bL (by simp [rL])
       have aqK:=(k9 bL En.1 En.2.1).trans O7
       have S9:∀c,c < H7.next->c∉mB:=fun c hc e=>by have:=(Fk c e).1;omega
       have sy:Az.length=i * 7+(7+c2.length):=by rw [nk,List.length_append,List.length_append,fg];rfl
       have EF:i * 7+5 < Az.length:=by omega
       have aqL:i * 7+5+1<=Az.length:=by omega
       have adh:Az.set (i * 7+5) (.slice none 0 0)=c1++(cJ {x with aY:=[]} (.slice none 0 0) (.slice aN x.names.length kN)++c2):=by rw [nk,Ut fg (show 5 < 7 by decide)];rfl
       obtain ⟨GK,QT⟩:∃GK,GK=Az.set (i * 7+5) (.slice none 0 0):=⟨_,rfl⟩
       have cS:=(r9.own (M:=[bL]) ((Fr.refl _ _).ai (b:=bL) (.inl (by simp)) ⟨GK,109,true,false⟩) (fun c hc=>by rw [List.mem_singleton] at hc;subst hc;exact ⟨by have:=hU _ rL;omega,En.2.1,En.2.2.1,S9 _ En.1,Fi _ (by simp [rL]),(nm _ (by have:=hU _ rL;omega)).2.2.1⟩) fun _ _=>rfl).told
       obtain ⟨du,qf⟩:=cS.hp
       have xG:∀c,c≠bL->du.get c=H9.get c:=fun c hc=>by rw [qf,bG,aH,if_neg hc]
       have aet:du.get bL=some ⟨GK,109,true,false⟩:=by rw [qf,bG,aH,if_pos rfl]
       have ael:du.next=H8.next:=by rw [qf,BZ,uT];exact nx9
       simp only [go_sem,ei,hi,e7,iY,aqK,Zi,EF,aqL,fL EF]
       rw [<-QT,<-qf]
       rw [<-qf] at cS
       clear qf
       have kH:∀c,c < H7.next->c≠r->c≠bL->du.get c=H7.get c:=fun c h1 h2 h3=>(xG c h3).trans (k9 c h1 h2)
       have g6n:GK[i * 7+6]?=some (.slice aN x.names.length kN):=by rw [QT,adh,Qe fg (show 6 < 7 by decide)];rfl
       have ayl:GK.length=Az.length:=by rw [QT,List.length_set]
       simp only [go_sem,ei,hi,e7,iY,aet,g6n]
       obtain ⟨Q,hQ⟩:∃Q,Q=H.next::bs::((f1++(u1++u2++f3))++gp++mO++mi):=⟨_,rfl⟩
       have wt:∀c∈Q,c < H7.next/\c≠r/\c∉m/\c≠bL:=fun c hc=>by
        rw [hQ] at hc
        simp only [List.mem_cons,List.mem_append] at hc
        have l7:c∈H.next::bs::(mL++(f1++(u1++u2++f3))++gp++mO)->c < H7.next/\c≠r/\c∉m:=fun e=>⟨(yd c e).1,(yd c e).2.1,(yd c e).2.2.1⟩
        have aBN:=hU bL rL
        rcases hc with e | e | (((e | e) | e) | e)
        ·exact ⟨(l7 (by simp [e])).1,(l7 (by simp [e])).2.1,(l7 (by simp [e])).2.2,by omega⟩
        ·exact ⟨(l7 (by simp [e])).1,(l7 (by simp [e])).2.1,(l7 (by simp [e])).2.2,by omega⟩
        ·have e':c∈f1++(u1++u2++f3):=by simp only [List.mem_append];exact e
         have:=l7 (by simp only [List.mem_cons,List.mem_append] at e' ⊢;exact .inr (.inr (.inl (.inl (.inr e')))))
         exact ⟨this.1,this.2.1,this.2.2,fun e2=>(zM c e').2.1 (e2▸rL)⟩
        ·have:=l7 (by simp [e])
         exact ⟨this.1,this.2.1,this.2.2,fun e2=>(yG c e).2.2 (e2▸rL)⟩
        ·have:=l7 (by simp [e])
         exact ⟨this.1,this.2.1,this.2.2,fun e2=>by have:=ee c e;omega⟩
        ·have:=uK c e
         exact ⟨by omega,this.2.1,this.2.2,by omega⟩
       have CN:bL≠r/\bL∉m/\bL∉gP:=⟨En.2.1,En.2.2.1,(nm bL (by have:=hU bL rL;omega)).2.2.1⟩
       have aoj:Ln r m du mB (bL::Q):=fun c hc=>by
        rcases List.mem_cons.1 hc with e | e
        ·subst e;exact ⟨by omega,CN.1,CN.2.1,S9 c En.1⟩
        ·have:=wt c e;exact ⟨by omega,this.2.1,this.2.2.1,S9 c this.1⟩
       have gxQ:du.get H.next=some ⟨aU {n with pat:=p} (.slice aA n.args.length kA) (.slice ap p.length kp) (.slice aB n.ak.length kB),59,false,false⟩:=(kH H.next (wt _ (by simp [hQ])).1 (wt _ (by simp [hQ])).2.1 (wt _ (by simp [hQ])).2.2.2).trans js
       have aqM:Sl .str du (.slice aN x.names.length kN) x.names u2:=(Lm.ae (H':=du) fun c hc=>kH c (wt c (by simp [hQ,hc])).1 (wt c (by simp [hQ,hc])).2.1 (wt c (by simp [hQ,hc])).2.2.2)
       refine kC 11417970652611937578435456927608523274479337472 x.names.length (fun j V4 eA=>V4 133=iV (j:Nat)/\∃Dn sl mS t9 g9 xI vw,RR S P gP H r t m g mi eA t9 g9 xI/\eA.get bL=some ⟨vw,109,true,false⟩/\vw=c1++(cJ {x with aY:=sl} Dn (.slice aN x.names.length kN)++c2)/\Gr .int 3 eA Dn sl mS []/\(∀c∈mS,du.next<=c/\c < eA.next/\c∉xI/\c∉g9)/\Ln r m eA xI (bL::Q)/\(∀c∈Q,eA.get c=du.get c)/\(∀c∈H.next::bs::mL,c∉g9)/\du.next<=eA.next/\FL {n with pat:=p} x.names [] {tS with be:=op}=FL {n with pat:=p} (x.names.drop j) sl t9/\sl.length=j/\(∀c∈fS,c∉xI/\eA.get c=du.get c)/\∀c∈xI,H7.next<=c)
        ⟨by simp only [go_sem] <;> rfl,.slice none 0 0,[],[],_,g7,mB,GK,cS.told,aet,by rw [QT,adh],Gr.nil _ _ _,by simp,aoj,fun _ _=>rfl,Fi,Nat.le_refl _,rfl,rfl,fun c hc=>⟨S9 c (rK c hc).2.1,rfl⟩,fun c hc=>by have:=(Fk c hc).1;omega⟩ ?_ ?_ (by rfl)
       ·rintro j V4 eA hj ⟨ej,Dn,sl,mS,t9,g9,xI,vw,dV,Kh,Gc,sI,Dp,Vi,GL,Wx,adi,mu,ea,MI,Wy⟩
        have hy:x.names[j]?=some (x.names[j]'hj):=List.getElem?_eq_getElem hj
        have vk:x.names.drop j=(x.names[j]'hj)::x.names.drop (j+1):=(List.getElem_cons_drop hj).symm
        generalize (x.names[j]'hj)=s at hy vk
        rw [vk,FL] at mu
        by_cases iv:Ll t9
        ·rw [if_pos iv] at mu
         have jh:IntKind.wrap .i64 (((j:Nat):Int)+1)=((j+1:Nat):Int):=cG hj (by omega)
         obtain ⟨bn,on,cn,Bn,zX,N0,lO,dN⟩:=(aqM.ae (H':=eA) fun c hc=>GL c (by simp [hQ,hc])).Me hy
         simp only [Value.slice.injEq] at zX
         have HV:=zX.1
         have Ke:=(GL H.next (by simp [hQ])).trans gxQ
         have g5:vw[i * 7+5]?=some Dn:=by rw [Gc,Qe fg (show 5 < 7 by decide)];rfl
         simp only [go_sem,ei,ej,hi,hj,e4,e7,iY,HV,N0,dN,Kh,g5,Ke]
         refine ag.by (DM (s:=s) (n:={n with pat:=p}) dV.told.rq iv.1 iv.2.1 iv.2.2) ?_
         rintro _ dx - ⟨rfl,dJ⟩
         obtain ⟨kj,zN,dF,D2,yc⟩:=dV.told.call dJ
         have acZ:eA.next<=dx.next:=dJ.1.nx
         obtain ⟨D3,Bf⟩:=(show Ln r m (eA.af H.fz) xI (bL::Q) from Vi).call dJ.1 D2
         have Bf:∀c∈bL::Q,dx.get c=eA.get c:=Bf
         have Vj:∀c∈mS,dx.get c=eA.get c:=fun c hc=>by
          have:=Dp c hc
          exact dJ.1.get c this.2.1 (by simp only [List.mem_cons,List.mem_append,not_or];exact ⟨(nm c (by omega)).2.1,(nm c (by omega)).1,this.2.2.1⟩)
         have Vk:∀c∈fS,dx.get c=eA.get c:=fun c hc=>by
          have:=rK c hc
          exact dJ.1.get c (by show c < eA.next;omega) (by simp only [List.mem_cons,List.mem_append,not_or];exact ⟨(nm c (by omega)).2.1,(nm c (by omega)).1,(MI c hc).1⟩)
         have Rx:=(Bf bL (by simp)).trans Kh
         obtain ⟨aS9,aqN⟩:=sI.val
         subst aqN
         have la:=dF
         simp only [go_sem,iY,Kh,Rx,g5,eX iR (by decide) (by decide)]
         refine la.app (rp:=.int) (cs:=[iV t9.aY]) (gx:=[]) iR (by decide) (sI.ae Vj (by simp)) h.toRQ0 (fun c hc=>?_) (by simp) ⟨rfl,rfl⟩ (by simp) rfl (by omega) ?_
         ·have:=Dp c hc
          exact ⟨by omega,by omega,fun e=>(D2 c e).elim this.2.2.1 fun e=>by have:eA.next<=c:=e;omega,fun e=>(yc c e).elim this.2.2.2 fun e=>by have:eA.next<=c:=e;omega⟩
         intro v13 ux aqO adj adk la aok Aw
         obtain ⟨a13,Ry⟩:=adj.val
         subst Ry
         have kS:∀c,c < dx.next->c∉mS->ux.get c=dx.get c:=Aw
         have nS:∀c,c < du.next->c∉mS:=fun c hc e=>by have:=(Dp c e).1;omega
         have aol:bL < du.next:=by omega
         have aqP:=(kS bL (by omega) (nS _ aol)).trans Rx
         have alo:vw.length=Az.length:=by rw [Gc,sy,List.length_append,List.length_append,fg];rfl
         have aeu:i * 7+5 < vw.length:=by omega
         have aom:i * 7+5+1<=vw.length:=by omega
         obtain ⟨wV,MJ⟩:∃wV,wV=vw.set (i * 7+5) (.slice a13 (sl++[t9.aY]).length (sl++[t9.aY]).length):=⟨_,rfl⟩
         have UL:wV=c1++(cJ {x with aY:=sl++[t9.aY]} (.slice a13 (sl++[t9.aY]).length (sl++[t9.aY]).length) (.slice aN x.names.length kN)++c2):=by rw [MJ,Gc,Ut fg (show 5 < 7 by decide)];rfl
         have Ki:∀c∈H.next::bs::mL,c∉kj:=fun c hc e=>by
          have bf:c < eA.next:=by
           simp only [List.mem_cons] at hc
           rcases hc with e | e | e
           ·omega
           ·omega
           ·have:=(yd c (by simp [e])).1;omega
          have Al:H.next<=c:=by
           simp only [List.mem_cons] at hc
           rcases hc with e | e | e
           ·omega
           ·omega
           ·have:=hU c e;omega
          exact (yc c e).elim (Wx c hc) fun e=>by have:eA.next<=c:=e;omega
         have nL:=(la.own (M:=[bL]) ((Fr.refl _ _).ai (b:=bL) (.inl (by simp)) ⟨wV,109,true,false⟩) (fun c hc=>by rw [List.mem_singleton] at hc;subst hc;exact ⟨by have:=hU _ rL;omega,CN.1,CN.2.1,(D3 _ (by simp)).2.2.2,Ki _ (by simp [rL]),CN.2.2⟩) fun _ _=>rfl).told
         obtain ⟨oB,vx⟩:=nL.hp
         have Fl:∀c,c≠bL->oB.get c=ux.get c:=fun c hc=>by rw [vx,bG,aH,if_neg hc]
         have Wz:oB.get bL=some ⟨wV,109,true,false⟩:=by rw [vx,bG,aH,if_pos rfl]
         have aqQ:oB.next=ux.next:=by rw [vx];rfl
         simp only [go_sem,ei,hi,e7,iY,aqP,Zi,aeu,aom,fL aeu]
         rw [<-MJ,<-vx]
         rw [<-vx] at nL
         clear vx
         simp only [go_sem,ej,jh]
         have kF:∀c,c < eA.next->c∉mS->c≠bL->oB.get c=dx.get c:=fun c h1 h2 h3=>(Fl c h3).trans (kS c (by omega) h2)
         refine ⟨_,sl++[t9.aY],aqO,_,kj,zN,wV,nL.told,Wz,UL,adj.ae (H':=oB.af H.fz) (fun c hc=>Fl c (by have:=(adk c hc).1;omega)) (by simp),fun c hc=>?_,fun c hc=>?_,fun c hc=>?_,Ki,by show du.next<=oB.next;omega,mu,by rw [List.length_append,List.length_singleton,ea],fun c hc=>?_,fun c hc=>(D2 c hc).elim (Wy c) fun e=>by have:eA.next<=c:=e;omega⟩
         ·have:=adk c hc
          exact ⟨by omega,by show c < oB.next;omega,fun e=>by have:=(dF.rq.hi c e).1;omega,fun e=>by have:=(dF.rq.hg c e).1;omega⟩
         ·have:=D3 c hc
          exact ⟨by show c < oB.next;omega,this.2⟩
         ·have:=wt c hc
          rw [<-GL c hc,<-Bf c (by simp [hc])]
          exact kF c (by omega) (nS c (by omega)) this.2.2.2
         ·have h7:=rK c hc
          have Ky:=MI c hc
          refine ⟨fun e=>(D2 c e).elim Ky.1 fun e=>by have:eA.next<=c:=e;omega,?_⟩
          rw [<-Ky.2,<-Vk c hc]
          exact kF c (by omega) (nS c (by omega)) (fun e=>h7.2.2.2 (e▸rL))
        ·rw [if_neg iv,lO] at mu
         cases mu
       ·rintro V4 eA ⟨ej,Dn,sl,mS,t9,g9,xI,vw,dV,Kh,Gc,sI,Dp,Vi,GL,Wx,adi,mu,ea,MI,Wy⟩
        rw [List.drop_length,FL] at mu
        by_cases iv:Ll t9
        ·rw [if_pos iv,lO] at mu
         simp only [Option.some.injEq,Prod.mk.injEq] at mu
         obtain ⟨cZ,fh⟩:=mu
         have cZ:=cZ.symm
         have fh:=fh.symm
         subst cZ fh
         have Ke:=(GL H.next (by simp [hQ])).trans gxQ
         have g4:vw[i * 7+4]?=some (ah x.ry):=by rw [Gc,Qe fg (show 4 < 7 by decide)];rfl
         simp only [go_sem,ei,ej,hi,e4,e7,iY,Kh,g4,Ke]
         refine ag.by (DM (s:=x.ry) (n:={n with pat:=p}) dV.told.rq iv.1 iv.2.1 iv.2.2) ?_
         rintro _ dx - ⟨rfl,dJ⟩
         obtain ⟨kj,zN,dF,D2,yc⟩:=dV.told.call dJ
         have acZ:eA.next<=dx.next:=dJ.1.nx
         obtain ⟨D3,Bf⟩:=(show Ln r m (eA.af H.fz) xI (bL::Q) from Vi).call dJ.1 D2
         have Bf:∀c∈bL::Q,dx.get c=eA.get c:=Bf
         have Vj:∀c∈mS,dx.get c=eA.get c:=fun c hc=>by
          have:=Dp c hc
          exact dJ.1.get c this.2.1 (by simp only [List.mem_cons,List.mem_append,not_or];exact ⟨(nm c (by omega)).2.1,(nm c (by omega)).1,this.2.2.1⟩)
         have Vk:∀c∈fS,dx.get c=eA.get c:=fun c hc=>by
          have:=rK c hc
          exact dJ.1.get c (by show c < eA.next;omega) (by simp only [List.mem_cons,List.mem_append,not_or];exact ⟨(nm c (by omega)).2.1,(nm c (by omega)).1,(MI c hc).1⟩)
         have Rx:=(Bf bL (by simp)).trans Kh
         have Ki:∀c∈H.next::bs::mL,c∉kj:=fun c hc e=>by
          have bf:c < eA.next:=by
           simp only [List.mem_cons] at hc
           rcases hc with e | e | e
           ·omega
           ·omega
           ·have:=(yd c (by simp [e])).1;omega
          have Al:H.next<=c:=by
           simp only [List.mem_cons] at hc
           rcases hc with e | e | e
           ·omega
           ·omega
           ·have:=hU c e;omega
          exact (yc c e).elim (Wx c hc) fun e=>by have:eA.next<=c:=e;omega
         have alo:vw.length=Az.length:=by rw [Gc,sy,List.length_append,List.length_append,fg];rfl
         have aev:i * 7+1 < vw.length:=by omega
         have aon:i * 7+1+1<=vw.length:=by omega
         obtain ⟨wV,MJ⟩:∃wV,wV=vw.set (i * 7+1) (iV t9.aY):=⟨_,rfl⟩
         have UL:wV=c1++(cJ {x with aY:=sl,rY:=t9.aY} Dn (.slice aN x.names.length kN)++c2):=by rw [MJ,Gc,Ut fg (show 1 < 7 by decide)];rfl
         have nL:=(dF.own (M:=[bL]) ((Fr.refl _ _).ai (b:=bL) (.inl (by simp)) ⟨wV,109,true,false⟩) (fun c hc=>by rw [List.mem_singleton] at hc;subst hc;exact ⟨by have:=hU _ rL;omega,CN.1,CN.2.1,(D3 _ (by simp)).2.2.2,Ki _ (by simp [rL]),CN.2.2⟩) fun _ _=>rfl).told
         obtain ⟨oB,vx⟩:=nL.hp
         have Fl:∀c,c≠bL->oB.get c=dx.get c:=fun c hc=>by rw [vx,bG,aH,if_neg hc]
         have Wz:oB.get bL=some ⟨wV,109,true,false⟩:=by rw [vx,bG,aH,if_pos rfl]
         have aqQ:oB.next=dx.next:=by rw [vx];rfl
         obtain ⟨aqR,aBO,Rz,_,Np,_,_⟩:=nL.re
         rw [<-vx] at Rz Np
         obtain ⟨Nq,Nr,aoo⟩:=Np.val
         subst aoo
         have Np:kr oB (.slice Nq (fE t9 x.ry n.line n.az).2.be.length Nr) (fE t9 x.ry n.line n.az).2.be zN:=Np
         have Rz:oB.get r=some ⟨rC S aqR (.slice Nq (fE t9 x.ry n.line n.az).2.be.length Nr) (fE t9 x.ry n.line n.az).2,133,false,false⟩:=Rz
         have oH:some (pg,uJ,tC)=Cd {n with pat:=p} op (sH.drop (i+1)) (done++[{x with aY:=sl,rY:=t9.aY}]) (sc++[(fE t9 x.ry n.line n.az).2.be]) (fE t9 x.ry n.line n.az).2:=oH
         have nL:RR S P gP H r t m g mi ((dx.ai bL ⟨wV,109,true,false⟩).af H.fz) (fE t9 x.ry n.line n.az).2 kj zN:=nL
         have GM:bs∈Q:=by simp [hQ]
         have aqS:oB.get bs=some ⟨vs++w0::uc,131,false,false⟩:=(Fl bs (wt bs GM).2.2.2).trans ((Bf bs (by simp [GM])).trans ((GL bs GM).trans ((kH bs (wt bs GM).1 (wt bs GM).2.1 (wt bs GM).2.2.2).trans Fj)))
         have adl:bs∉zN:=(D3 bs (by simp [GM])).2.2.2
         rw [<-vx] at nL
         have tq:=(nL.own (M:=[bs]) ((Fr.refl _ _).ai (b:=bs) (.inl (by simp)) ⟨(vs++[.slice Nq (fE t9 x.ry n.line n.az).2.be.length Nr])++uc,131,false,false⟩) (fun c hc=>by rw [List.mem_singleton] at hc;subst hc;exact ⟨by omega,Em.2.1,Em.2.2.1,adl,Ki _ (by simp),(nm _ (by omega)).2.2.1⟩) fun _ _=>rfl).told
         obtain ⟨mY,Kj⟩:=tq.hp
         have BM:∀c,c≠bs->mY.get c=oB.get c:=fun c hc=>by rw [Kj,bG,aH,if_neg hc]
         have aqT:mY.get bs=some ⟨(vs++[.slice Nq (fE t9 x.ry n.line n.az).2.be.length Nr])++uc,131,false,false⟩:=by rw [Kj,bG,aH,if_pos rfl]
         have aBP:mY.next=oB.next:=by rw [Kj];rfl
         simp only [go_sem,ei,hi,e7,iY,Rx,Zi,aev,aon,fL aev]
         rw [<-MJ,<-vx]
         clear vx
         have nrL:¬r=bL:=fun e=>CN.1 e.symm
         have WA:=(Fl r nrL).symm.trans Rz
         simp only [go_sem,nrL,WA,hi,aqS,Zh,l8,Ww,fL l8]
         rw [Vh,<-Kj]
         rw [<-Kj] at tq
         clear Kj
         simp only [go_sem,ei,cH]
         have GN:∀c∈Q,c≠bs->mY.get c=H7.get c:=fun c hc hn=>by
          have h7:=wt c hc
          rw [BM c hn,Fl c h7.2.2.2,Bf c (by simp [hc]),GL c hc,kH c h7.1 h7.2.1 h7.2.2.2]
         have yK:∀c∈f1++((u1++u2)++f3),c∈Q/\c≠bs/\c≠bL:=fun c hc=>by
          have h1:=zM c hc
          refine ⟨?_,h1.1,fun e=>h1.2.1 (e▸rL)⟩
          rw [hQ]
          simp only [List.mem_cons,List.mem_append] at hc ⊢
          exact .inr (.inr (.inl (.inl (.inl hc))))
         have WB:∀c∈gp,c∈Q/\c≠bs:=fun c hc=>⟨by simp [hQ,hc],fun e=>by have:=yG c hc;omega⟩
         have WC:∀c∈mO,c∈Q/\c≠bs:=fun c hc=>⟨by simp [hQ,hc],fun e=>by have:=ee c hc;omega⟩
         have aew:∀c∈mi,c∈Q/\c≠bs:=fun c hc=>⟨by simp [hQ,hc],fun e=>by have:=(uK c hc).1;omega⟩
         have hSx:∀c∈mS,mY.get c=eA.get c/\c≠bs/\c≠bL:=fun c hc=>by
          have:=Dp c hc
          exact ⟨by rw [BM c (by omega),Fl c (by omega),Vj c hc],by omega,by omega⟩
         have aAU:dx.next<=mY.next:=by omega
         have aqU:mY.get bL=some ⟨c1++(cJ {x with aY:=sl,rY:=t9.aY} Dn (.slice aN x.names.length kN)++c2),109,true,false⟩:=by
          rw [BM bL (by have:=hU bL rL;omega),Wz,UL]
         have aop:Sl .int mY Dn sl mS:=by
          have:=sI.sl.ae (H':=mY) fun c hc=>by rw [List.append_nil] at hc;exact (hSx c hc).1
          rw [List.append_nil] at this
          exact this
         have aoq:Sl .str mY (.slice aN x.names.length kN) x.names u2:=Lm.ae fun c hc=>GN c (yK c (by simp [hc])).1 (yK c (by simp [hc])).2.1
         have aor:(done++({x with aY:=sl,rY:=t9.aY}:fu)::sH.drop (i+1)).length=n.ak.length:=by
          rw [List.length_append,List.length_cons,List.length_drop];omega
         have aex:Gr eQ 109 mY (.slice (some ⟨bL,0,none⟩) n.ak.length n.ak.length) ((done++[{x with aY:=sl,rY:=t9.aY}])++sH.drop (i+1)) mL (f1++((mS++u2)++f3)):=by
          have:=Gr.aln (r:=eQ) (ty:=109) (pre:=done) (post:=sH.drop (i+1)) (x:={x with aY:=sl,rY:=t9.aY}) aqU (by rw [fg,dK];rfl) jI (a1.ae fun c hc=>GN c (yK c (by simp [hc])).1 (yK c (by simp [hc])).2.1) ⟨Dn,_,mS,u2,rfl,rfl,aop,aoq⟩ (a2.ae fun c hc=>GN c (yK c (by simp [hc])).1 (yK c (by simp [hc])).2.1) (fun e=>by
           simp only [List.mem_append] at e
           rcases e with e | (e | e) | e
           ·exact (yK bL (by simp [e])).2.2 rfl
           ·exact (hSx bL e).2.2 rfl
           ·exact (yK bL (by simp [e])).2.2 rfl
           ·exact (yK bL (by simp [e])).2.2 rfl)
          rw [aor] at this
          rw [List.append_assoc,eT]
          exact this
         rw [<-iY] at aex
         obtain ⟨gsc,aos,aey⟩:=Np.sl
         have alp:∀c∈zN,H7.next<=c/\c < dx.next:=fun c hc=>⟨(D2 c hc).elim (Wy c) fun e=>by have:eA.next<=c:=e;omega,(dF.rq.hi c hc).1⟩
         have aAV:∀c,c < mY.next->c∈bL::Q->c < mY.next/\c≠r/\c∉m/\c∉zN:=fun c h1 h2=>⟨h1,(D3 c h2).2⟩
         have aqV:∀c∈mS,c < mY.next/\c≠r/\c∉m/\c∉zN:=fun c hc=>by
          have h1:=Dp c hc
          exact ⟨by omega,(nm c (by omega)).2.1,(nm c (by omega)).1,fun e=>(D2 c e).elim h1.2.2.1 fun e=>by have:eA.next<=c:=e;omega⟩
         refine ⟨done++[({x with aY:=sl,rY:=t9.aY}:fu)],sc++[(fE t9 x.ry n.line n.az).2.be],_,kj,zN,f1++((mS++u2)++f3),fS++gsc,vs++[.slice Nq (fE t9 x.ry n.line n.az).2.be.length Nr],uc,tq.told,?_,aex.ae (fun _ _=>rfl) (fun _ _=>rfl),?_,?_,?_,Ki,CL.ae fun c hc=>GN c (WB c hc).1 (WB c hc).2,Nn.ae fun c hc=>GN c (WC c hc).1 (WC c hc).2,Ga.ae fun c hc=>GN c (aew c hc).1 (aew c hc).2,aqT,by rw [List.length_append,List.length_singleton,ur],Kc,?_,?_,by rw [List.length_append,List.length_singleton,CM],by rw [List.length_append,List.length_singleton,dK],by show H6.next<=mY.next;omega,C3.trans oH⟩
         ·exact (GN H.next (by simp [hQ]) (by omega)).trans js
         ·intro c hc
          have aot:bL < mY.next:=by omega
          have Ir:c∈Q->c < mY.next/\c≠r/\c∉m/\c∉zN:=fun e=>⟨by have:=(wt c e).1;omega,(D3 c (by simp [e])).2⟩
          simp only [List.mem_cons,List.mem_append] at hc
          rcases hc with e | e | (((e | e) | e) | e)
          ·exact Ir (by simp [hQ,e])
          ·exact Ir (by simp [hQ,e])
          ·rw [eT,List.mem_singleton] at e
           subst e
           exact ⟨aot,(D3 _ (by simp)).2⟩
          ·rcases e with e | (e | e) | e
           ·exact Ir (yK c (by simp [e])).1
           ·exact aqV c e
           ·exact Ir (yK c (by simp [e])).1
           ·exact Ir (yK c (by simp [e])).1
          ·exact Ir (WB c e).1
          ·exact Ir (WC c e).1
         ·intro c hc
          simp only [List.mem_append] at hc
          rcases hc with e | (e | e) | e
          ·exact CK c (by simp [e])
          ·exact .inr (by have:=Dp c e;omega)
          ·exact CK c (by simp [e])
          ·exact CK c (by simp [e])
         ·intro c hc
          simp only [List.mem_append] at hc
          rcases hc with e | (e | e) | e
          ·exact zM c (by simp [e])
          ·have:=Dp c e
           exact ⟨by omega,fun e'=>by have:=(yd c (by simp [e'])).1;omega,by omega⟩
          ·exact zM c (by simp [e])
          ·exact zM c (by simp [e])
         ·refine (Gb.ae fun c hc=>?_).join (by rw [ur,CM];show i=i * 1;omega) (dT.one ⟨_,rfl,aos.ae fun c hc=>?_⟩)
          ·have h7:=rK c hc
           have nbl:c≠bL:=fun e=>h7.2.2.2 (e▸rL)
           show mY.get c=_
           rw [BM c h7.2.2.1,Fl c nbl,Vk c hc,(MI c hc).2,kH c h7.2.1 (nm c (by omega)).2.1 nbl]
          ·show mY.get c=_
           exact BM c fun e=>adl (e▸aey c hc)
         ·intro c hc
          rcases List.mem_append.1 hc with e | e
          ·have h7:=rK c e
           exact ⟨h7.1,by show c < mY.next;omega,h7.2.2⟩
          ·have h1:=alp c (aey c e)
           exact ⟨by omega,by show c < mY.next;omega,by omega,fun e'=>by have:=(yd c (by simp [e'])).1;omega⟩
        ·rw [if_neg iv,lO] at mu
         cases mu
      ·rw [if_pos (.inr Ej)] at oH
       simp only [go_sem,ei,hi,e7,iY,O7,g0,qW,q8,Ej,nf,Fj,Zh,l8,Ww,fL l8]
       have r8:=(r7.told.own (M:=[bs]) ((Fr.refl _ _).ai (b:=bs) (.inl (by simp)) ⟨(vs++[.slice aO op.length op.length])++uc,131,false,false⟩) (fun c hc=>by rw [List.mem_singleton] at hc;subst hc;exact ⟨by omega,Em.2.1,Em.2.2.1,Em.2.2.2,Fi _ (by simp),(nm _ (by omega)).2.2.1⟩) fun _ _=>rfl).told
       rw [Vh]
       obtain ⟨H8,jo⟩:=r8.hp
       have k8:∀c,c≠bs->H8.get c=H7.get c:=fun c hc=>by rw [jo,bG,aH,if_neg hc,bG]
       have gs8:H8.get bs=some ⟨(vs++[.slice aO op.length op.length])++uc,131,false,false⟩:=by rw [jo,bG,aH,if_pos rfl]
       have OO:H8.next=H7.next:=by rw [jo];rfl
       simp only [cH,ei,go_sem]
       rw [<-jo] at r8 ⊢
       clear jo
       have AA:∀c∈H.next::(mL++(f1++(u1++u2++f3))++gp++mO),c≠bs:=fun c hc e=>by
        simp only [List.mem_cons,List.mem_append] at hc
        rcases hc with e' | (((e' | e') | e') | e')
        ·omega
        ·have:=hU c e';omega
        ·exact (zM c (by simp only [List.mem_append];exact e')).1 e
        ·have:=yG c e';omega
        ·have:=ee c e';omega
       have kq:∀c,c≠bs->H8.get c=H7.get c:=k8
       have No:Sl tI H8 (.slice aO op.length op.length) op mO:=Nn.ae fun c hc=>kq c (AA c (by simp [hc]))
       refine ⟨done++[x],sc++[op],tS,g7,xH,_,fS++mO,vs++[.slice aO op.length op.length],uc,r8,by rw [if_neg (AA _ (by simp))];exact js,?_,fun c hc=>by have:=zL c hc;exact ⟨by omega,this.2⟩,CK,zM,Fi,CL.ae fun c hc=>kq c (AA c (by simp [hc])),No,Ga.ae fun c hc=>kq c (by have:=(uK c hc).1;omega),rfl,by rw [List.length_append,List.length_singleton,ur],Kc,(Gb.ae fun c hc=>kq c (rK c hc).2.2.1).join (by rw [ur,CM];show i=i * 1;omega) (dT.one ⟨_,rfl,No⟩),fun c hc=>?_,by rw [List.length_append,List.length_singleton,CM],by rw [List.length_append,List.length_singleton,dK],by omega,oH⟩
       ·have:=cA.ae (H':=H8) (fun c hc=>kq c (AA c (by simp [hc]))) (fun c hc=>kq c (AA c (by simp only [List.mem_cons,List.mem_append] at hc ⊢;rcases hc with e | e | e <;> simp [e])))
        rw [iY] at this
        rw [List.append_assoc]
        exact this
       ·rcases List.mem_append.1 hc with e | e
        ·have:=rK c e
         exact ⟨this.1,by omega,this.2.2⟩
        ·have:=ee c e
         have h2:=(yd c (by simp [e])).1
         exact ⟨by omega,by omega,by omega,fun e=>by have:=hU c e;omega⟩
    ·rintro V3 H7 ⟨ei,done,sc,tS,g7,xH,rm,fS,vs,rest,r7,js,cA,zL,CK,zM,Fi,CL,Nn,Ga,Fj,ur,qk,Gb,rK,CM,dK,Su,oH⟩
     have HJ:sH.drop n.ak.length=[]:=by rw [<-Zf];exact List.drop_length
     rw [HJ,List.append_nil] at cA
     rw [HJ,Cd,C3] at oH
     simp only [Option.some.injEq,Prod.mk.injEq] at oH
     obtain ⟨q1,q2,q3⟩:=oH
     subst q1 q2 q3
     have N1:rest=[]:=by rw [<-List.length_eq_zero_iff];omega
     subst N1
     rw [List.append_nil] at Fj
     simp only [go_sem,ei]
     exact ⟨g7,xH,rm,fS,vs,r7.told,js,cA.ae (fun _ _=>rfl) (fun _ _=>rfl),fun c hc=>zL c (by simp only [List.mem_cons,List.mem_append] at hc ⊢;rcases hc with e | e | e <;> simp [e]),fun c hc=>(CK c hc).imp id Nat.le_of_lt,CL.ae fun _ _=>rfl,fun c hc=>zL c (by simp only [List.mem_cons,List.mem_append] at hc ⊢;rcases hc with e | e <;> simp [e]),Ga.ae fun _ _=>rfl,Fj,Gb.ae fun _ _=>rfl,ur,rK,CM,Fi _ (by simp),by omega,dK,fun c hc=>(zM c hc).2.2⟩
   ·rintro V3 H7 ⟨g7,xH,rm,fS,vs,YW,r7,js,cA,zL,CK,CL,aez,Ga,Fj,Gb,ur,rK,CM,aqW,aBQ,hlC,aou⟩
    have uK:∀c∈mi,c < H.next/\c≠r/\c∉m:=fun c hc=>⟨(h.hi c hc).1,(h.hi c hc).2.1,fun e=>(h.hm c e).2.2.2.2 hc⟩
    have nm:∀c,H.next<=c->c∉m/\c≠r/\c∉gP/\c∉mi/\c∉g:=fun c hc=>⟨fun e=>by have:=(h.hm c e).1;omega,by have:=h.rl;omega,fun e=>by have:=(h.hP c e).1;omega,fun e=>by have:=(h.hi c e).1;omega,fun e=>by have:=(h.hg c e).1;omega⟩
    have pI:∀c∈g,c < H.next/\c≠r/\c∉m/\c∉mi:=fun c hc=>⟨(h.hg c hc).1,(h.hg c hc).2,fun e=>(h.hm c e).2.2.2.1 hc,fun e=>(h.hi c e).2.2.2 hc⟩
    have WD:=aez H.next (by simp)
    have r8:=(r7.own (M:=[H.next]) ((Fr.refl _ _).ai (b:=H.next) (.inl (by simp)) ⟨aU {n with pat:=p,ak:=pg} (.slice aA n.args.length kA) (.slice ap p.length kp) (.slice aL n.ak.length n.ak.length),59,false,false⟩) (fun c hc=>by rw [List.mem_singleton] at hc;subst hc;exact ⟨Nat.le_refl _,WD.2.1,WD.2.2.1,WD.2.2.2,aqW,(nm _ (Nat.le_refl _)).2.2.1⟩) fun _ _=>rfl).told
    obtain ⟨H8,jo⟩:=r8.hp
    have k8:∀c,c≠H.next->H8.get c=H7.get c:=fun c hc=>by rw [jo,bG,aH,if_neg hc]
    have SQ:H8.get H.next=some ⟨aU {n with pat:=p,ak:=pg} (.slice aA n.args.length kA) (.slice ap p.length kp) (.slice aL n.ak.length n.ak.length),59,false,false⟩:=by rw [jo,bG,aH,if_pos rfl]
    have OO:H8.next=H7.next:=by rw [jo];rfl
    simp only [go_sem,e4,e7,js,eV]
    rw [<-jo] at r8 ⊢
    clear jo
    have hnC:tC.ns.length=t.ns.length:=r8.le
    have nLx:∀c∈mL++rm,c≠H.next:=fun c hc e=>by
     rcases List.mem_append.1 hc with e' | e'
     ·have:=hU c e';omega
     ·exact (aou c e') e
    have aqX:FZ H8 {n with pat:=p,ak:=pg} (.slice aA n.args.length kA) (.slice ap p.length kp) (.slice aL n.ak.length n.ak.length) gA gp (mL++rm):=⟨mJ.a.ae fun c hc=>by
     have:=pI c (uH c (by simp [hc]))
     exact r8.fr.get c this.1 (by simp only [List.mem_cons,List.mem_append,not_or];exact this.2),CL.ae fun c hc=>k8 c (by have:=(yG c hc).1;omega),cA.sl.ae fun c hc=>k8 c (nLx c hc)⟩
    obtain ⟨vI9,b9,cs9,Ik,Nl,Sz,Y7,g9,r9,nU⟩:=r8.Wk (k:=k) (by rw [hnC];exact hk) aqX fun c hc=>by
     rcases List.mem_append.1 hc with e | e
     ·have:=pI c (uH c (by simp [e]))
      exact ⟨by have:=r7.fr.nx;omega,this.2.1,this.2.2.1,fun e'=>(r7.si c e').elim this.2.2.2 fun e=>by omega,.inl (uH c (by simp [e]))⟩
     ·rcases List.mem_append.1 e with e | e
      ·have:=aez c (by simp [e])
       exact ⟨by omega,this.2.1,this.2.2.1,this.2.2.2,.inr (by have:=yG c e;omega)⟩
      ·have h2:=zL c (by simp only [List.mem_cons,List.mem_append] at e ⊢;rcases e with e | e <;> simp [e])
       refine ⟨by omega,h2.2.1,h2.2.2.1,h2.2.2.2,?_⟩
       rcases List.mem_append.1 e with e | e
       ·exact .inr (by have:=hU c e;omega)
       ·exact CK c e
    have Ia:H.fz b9=false:=h.fm b9 Nl
    have aqY:=(k8 r nr).symm.trans Ik
    have hkC:k < tC.ns.length:=by rw [hnC];exact hk
    simp only [go_sem,e4,nr,aqY,hkC,SQ,Sz,Ia,Y7]
    have r9:=r9.told
    obtain ⟨H9,tO⟩:=r9.hp
    have k9:∀c,c≠b9->H9.get c=H8.get c:=fun c hc=>by rw [tO,bG,aH,if_neg hc]
    have nx9:H9.next=H8.next:=by rw [tO];rfl
    rw [<-tO]
    rw [<-tO] at r9
    clear tO
    have aqZ:¬r=b9:=fun e=>by have:=(h.hm b9 Nl).2.1;exact this e.symm
    obtain ⟨Yh,aBR,aq0,aBS,aBT,_,_⟩:=r9.re
    have nmb:∀c,c∉m->c≠b9:=fun c hc e=>hc (e▸Nl)
    have Ta:∀c,c∉m->c≠H.next->H9.get c=H7.get c:=fun c h1 h2=>(k9 c (nmb c h1)).trans (k8 c h2)
    have hL9:Sl eQ H9 (.slice aL n.ak.length n.ak.length) pg (mL++rm):=cA.sl.ae fun c hc=>Ta c (by
     have h2:=zL c (by simp only [List.mem_cons,List.mem_append] at hc ⊢;rcases hc with e | e <;> simp [e])
     exact h2.2.2.1) (nLx c hc)
    have Sq:∀c∈fS,c∉m:=fun c hc=>(nm c (by have:=rK c hc;omega)).1
    have hS9:H9.get bs=some ⟨vs,131,false,false⟩/\dT (Rp.slice tI) H9 vs uJ fS:=⟨(Ta bs (nm bs (by omega)).1 (by omega)).trans Fj,Gb.ae fun c hc=>Ta c (Sq c hc) (by have:=rK c hc;omega)⟩
    have hA9:kr H9 El t.be mi:=Ga.ae fun c hc=>Ta c (uK c hc).2.2 (by have:=(uK c hc).1;omega)
    have nI9:H.next < H9.next:=by omega
    simp only [go_sem,e7,aqZ,nr,Ik,aq0]
    cases jc:FH bd pg uJ {tC with ns:=tC.ns.set k {n with pat:=p,ak:=pg}} with
    | none=>rw [jc] at he;cases he
    | some tE=>
    rw [jc] at he
    cases he
    have Ey:∀c∈mL++rm,c < H7.next/\c≠r/\c∉m:=fun c hc=>by
     have h2:=zL c (by simp only [List.mem_cons,List.mem_append] at hc ⊢;rcases hc with e | e <;> simp [e])
     exact ⟨h2.1,h2.2.1,h2.2.2.1⟩
    have aeA:=zL bs (by simp)
    refine kC 411375354692584587203646816165659725287381953613964407833362432 n.ak.length (fun i V4 du=>V4 189=iV (i:Nat)/\∃t10 uz RD,RR S P gP H r t m g mi du t10 uz RD/\H9.next<=du.next/\Sl eQ du (.slice aL n.ak.length n.ak.length) pg (mL++rm)/\du.get bs=some ⟨vs,131,false,false⟩/\dT (Rp.slice tI) du vs uJ fS/\kr du El t.be mi/\FH bd pg uJ {tC with ns:=tC.ns.set k {n with pat:=p,ak:=pg}}=FH bd (pg.drop i) (uJ.drop i) t10)
     ⟨by simp only [go_sem] <;> rfl,_,g9,xH,r9.told,Nat.le_refl _,hL9.ae fun _ _=>rfl,hS9.1,hS9.2.ae fun _ _=>rfl,hA9.ae fun _ _=>rfl,rfl⟩ ?_ ?_ (by rfl)
    ·rintro i V4 du hi ⟨ei,t10,uz,RD,cS,aq1,WE,WG,WH,RE,mu⟩
     have O8:i < pg.length:=by omega
     have O9:i < uJ.length:=by omega
     have hx:pg[i]?=some (pg[i]'O8):=List.getElem?_eq_getElem O8
     have hy:uJ[i]?=some (uJ[i]'O9):=List.getElem?_eq_getElem O9
     have cT:pg.drop i=(pg[i]'O8)::pg.drop (i+1):=(List.getElem_cons_drop O8).symm
     have vk:uJ.drop i=(uJ[i]'O9)::uJ.drop (i+1):=(List.getElem_cons_drop O9).symm
     generalize (pg[i]'O8)=x at hx cT
     generalize (uJ[i]'O9)=s at hy vk
     rw [cT,vk,FH] at mu
     have cH:IntKind.wrap .i64 (((i:Nat):Int)+1)=((i+1:Nat):Int):=cG hi (by omega)
     obtain ⟨bx,ox,cx,Bx,gx,hvx,HR,aq2,aBU,aBV,hEx⟩:=WE.at hx
     obtain ⟨vS,vN,u1,u2,WI,rfl,_,_⟩:=hEx
     have WI:(Bx.cells.drop (ox+i * 7)).take 7=cJ x vS vN:=WI
     have oY:Bx.cells[ox+i * 7+2]?=some (iV x.body):=by
      have:((Bx.cells.drop (ox+i * 7)).take 7)[2]?=some (iV x.body):=by rw [WI];rfl
      rw [List.getElem?_take,if_pos (by decide),List.getElem?_drop] at this
      exact this
     simp only [Value.slice.injEq] at hvx
     have iY:=hvx.1
     obtain ⟨s1,s2,s3,xl,hle,Gz⟩:=WH.at hy
     obtain ⟨vsc,aq3,Q2⟩:=Gz
     have EB:vs[i]?=some vsc:=by
      have:((vs.drop (i * 1)).take 1)[0]?=some vsc:=by rw [show (vs.drop (i * 1)).take 1=_ from aq3];rfl
      rw [List.getElem?_take,if_pos (by decide),List.getElem?_drop,Nat.mul_one,Nat.add_zero] at this
      exact this
     by_cases ea:s.length < 1000000
     case' neg=>
      rw [if_neg ea,jc] at mu
      cases mu
     rw [if_pos ea] at mu
     cases WJ:bd x.body {t10 with be:=s} with
     | none=>rw [WJ,jc] at mu;cases mu
     | some t11=>
     rw [WJ] at mu
     simp only [Option.bind_some] at mu
     have n10:=cS.fr.nx
     have aq4:∀c∈s2,c∈fS:=fun c hc=>by rw [xl];simp [hc]
     have adm:∀c∈fS,c < du.next:=fun c hc=>by have:=rK c hc;omega
     obtain ⟨Nc,aeB,GO,_,_,_,_⟩:=cS.re
     obtain ⟨asc,csc,aov⟩:=Q2.val
     subst aov
     simp only [go_sem,ei,hi,YW,WG,EB]
     refine AP (r:=tI) AS (Q2.ae (H':=du.af H.fz) fun _ _=>rfl) (by
      have:s.length * 1000<=1000000 * 1000:=Nat.mul_le_mul (by omega) (Nat.le_refl _)
      omega) (fun c hc=>adm c (aq4 c hc)) ?_
     intro vB eA mB aBW GJ _ nP
     have CZ:=GJ.flat
     subst CZ
     obtain ⟨aBX,Zj⟩:=GJ.val
     subst Zj
     obtain ⟨Pa,Fk⟩:aG (du.af H.fz) eA/\∀c∈mB,c=du.next/\c < eA.next:=by
      rcases nP with ⟨rfl,rfl⟩ | ⟨rfl,cs,rfl⟩
      ·exact ⟨aG.refl _,by simp⟩
      ·exact ⟨aG.push _ _,fun c hc=>by rw [List.mem_singleton] at hc;subst hc;exact ⟨rfl,Nat.lt_succ_self _⟩⟩
     have adi:du.next<=eA.next:=Pa.nx
     obtain ⟨GP,dF⟩:=cS.told.be (t2:={t10 with be:=s}) (dQ:=mB) GO (Pa.fr _) rfl GJ.inr fun c hc=>⟨.inr (Fk c hc).1,(Fk c hc).2⟩
     obtain ⟨dx,Be⟩:=dF.hp
     have oA:∀c,c < du.next->c≠r->dx.get c=du.get c:=fun c h1 h2=>by rw [Be,bG,aH,if_neg h2];exact Pa.get c h1
     have aqv:dx.next=eA.next:=by rw [Be];rfl
     simp only [go_sem,GP,Fc]
     rw [<-Be] at dF ⊢
     clear Be
     have Is:dx.get bx=some Bx:=by
      have h2:=Ey bx aq2
      exact (oA bx (by omega) h2.2.1).trans HR
     simp only [go_sem,ei,hi,e7,iY,Is,oY]
     refine ag.by (oE dF.rq WJ) ?_
     rintro _ ux - qj
     obtain ⟨X6,aq5,la,aAW,aBY⟩:=dF.call qj
     have aok:dx.next<=ux.next:=qj.1.nx
     have kk:∀c,c < du.next->c≠r->c∉m->ux.get c=du.get c:=fun c h1 h2 h3=>(qj.1.get c (by show c < dx.next;omega) (by simp only [List.mem_cons,List.mem_append,not_or];exact ⟨h2,h3,fun e=>by have:=(Fk c e).1;omega⟩)).trans (oA c h1 h2)
     simp only [go_sem,ei,cH]
     exact ⟨t11,X6,aq5,la.told,by show H9.next<=ux.next;omega,WE.ae fun c hc=>kk c (by have:=Ey c hc;omega) (Ey c hc).2.1 (Ey c hc).2.2,(kk bs (by omega) aeA.2.1 aeA.2.2.1).trans WG,WH.ae fun c hc=>kk c (adm c hc) (nm c (by have:=rK c hc;omega)).2.1 (Sq c hc),RE.ae fun c hc=>kk c (by have:=(uK c hc).1;omega) (uK c hc).2.1 (uK c hc).2.2,mu⟩
    ·rintro V4 du ⟨ei,t10,uz,RD,cS,aq1,WE,WG,WH,RE,mu⟩
     have vY:pg.drop n.ak.length=[]:=by rw [<-hlC];exact List.drop_length
     rw [vY,jc,FH] at mu
     cases mu
     obtain ⟨Nc,aeB,GO,_,_,_,alq⟩:=cS.told.re
     have dV:=alq {tE with be:=t.be,inner:=tC.inner} El mi rfl (RE.ae fun _ _=>rfl) fun c hc=>⟨by have:=(uK c hc).1;have:=cS.fr.nx;show c < du.next;omega,(uK c hc).2.1,(h.hi c hc).2.2.1,fun e=>(cS.sg c e).elim (h.hi c hc).2.2.2 fun e=>by have:=(uK c hc).1;omega,(uK c hc).2.2,.inl hc,h.fi c hc⟩
     obtain ⟨aBZ,aB0,hvA⟩:=RE.val
     subst hvA
     simp only [go_sem,ei,Iq,GO,Fc]
     rw [L4]
     exact dV.last
end
section
variable {S:XS} {P:cC} {gP:List Nat} {r:Nat} {m:List Nat}
def Lo (P:cC):Nat->Rb
 | 0=>fun _ _=>none
 | k+1=>fun i t=>if t.be.length < 1000000 then Nm P (Za (Lo P k) (Ze P (Lo P k))) t.be.length 402 i t else none
theorem ahY (hP:Av P) (k:Nat):Y9 S P gP r m (Lo P k):=by
 induction k with
 | zero=>exact fun _ he=>nomatch he
 | succ k ih=>
  refine fun {H t t' g mi i} h he=>?_
  unfold Lo at he
  split at he
  case isFalse=>cases he
  rename_i bX
  exact agl hP (fun hq hn=>agm ih (fun gV jF=>agn hP ih gV jF) hq hn) h bX he
end
def RF (P:cC):Bool:=Nat.ble P.msgs.length 90000&&Nat.beq P.dk.length 0&&Nat.ble P.defs.length 90000&&P.msgs.all (fun x=>Nat.ble x.types.length 90000&&x.types.all fun y=>Nat.ble y.pat.length 90000)&&P.dk.all (fun x=>Nat.ble x.fields.length 90000&&x.fields.all fun y=>Nat.ble y.ty.pat.length 90000)&&P.defs.all (fun x=>Nat.ble x.params.length 90000&&x.params.all fun y=>Nat.ble y.ty.pat.length 90000)
theorem acf {P:cC} (h:RF P=true):Av P:=by
 have le:∀{a:Nat},Nat.ble a 90000=true->a < 1000000:=fun h=>by have:=Nat.le_of_ble_eq_true h;omega
 simp only [RF,Bool.and_eq_true] at h
 obtain ⟨⟨⟨⟨⟨h1,h2⟩,h3⟩,h4⟩,h5⟩,h6⟩:=h
 refine ⟨le h1,by have:=Nat.eq_of_beq_eq_true h2;omega,le h3,fun x hx=>?_,fun x hx=>?_,fun x hx=>?_,List.length_eq_zero_iff.1 (Nat.eq_of_beq_eq_true h2)⟩
 ·have:=List.all_eq_true.1 h4 x hx
  rw [Bool.and_eq_true] at this
  exact ⟨le this.1,fun y hy=>le (List.all_eq_true.1 this.2 y hy)⟩
 ·have:=List.all_eq_true.1 h5 x hx
  rw [Bool.and_eq_true] at this
  exact ⟨le this.1,fun y hy=>le (List.all_eq_true.1 this.2 y hy)⟩
 ·have:=List.all_eq_true.1 h6 x hx
  rw [Bool.and_eq_true] at this
  exact ⟨le this.1,fun y hy=>le (List.all_eq_true.1 this.2 y hy)⟩
theorem Av.defs {P:cC} (h:Av P) {ds:List gh} (hd:ds.map (·.params)=P.defs.map (·.params)):Av {P with defs:=ds}:=by
 refine ⟨h.m,h.r,?_,h.mt,h.rf,fun x hx=>?_,h.r0⟩
 ·have:=congrArg List.length hd
  rw [List.length_map,List.length_map] at this
  show ds.length < _
  rw [this];exact h.d
 ·have:x.params∈P.defs.map (·.params):=by rw [<-hd];exact List.mem_map.2 ⟨x,hx,rfl⟩
  obtain ⟨y,hy,e⟩:=List.mem_map.1 this
  have:=h.dp y hy
  rw [e] at this
  exact this
def IV:List tn->VT->Option VT
 | [],t=>some t
 | f::l,t=>if Ll t then IV l {t with be:=t.be++[⟨f.name,t.aY⟩],aY:=t.aY+1} else none
def Jj (fuel:Nat) (P:cC):List gh->List gh->VT->Option (List gh × VT)
 | done,[],t=>some (done,t)
 | done,d::l,t=>if t.bad=0 then (IV d.params {t with be:=[],aY:=0,inner:=0}).bind fun t1=>(Lo {P with defs:=done++d::l} fuel d.body t1).bind fun t2=>Jj fuel P (done++[{d with aY:=t2.aY}]) l t2
  else some (done++d::l,t)
def Ul (fuel:Nat) (P:cC):Option (Option cC):=
 if RF P=true/\Nat.ble P.nodes.length 90000=true then
  (let d:=pT P ⟨P.nodes,[],0,0,0,0,0⟩
  let P1:cC:={P with msgs:=d.1,dk:=d.2.1,defs:=d.2.2.1}
  if RF P1=true then
   (Jj fuel P1 [] P1.defs (if d.2.2.2.bad=0/\JL P.defs < 0 then d.2.2.2.fail 4 0 0 else d.2.2.2)).map fun x=>if x.2.bad=0 then some {P1 with defs:=x.1,nodes:=x.2.ns} else none
  else none)
 else none
theorem Gr.own {α:Type} {r:Rp α} {ty:TypeId} {H:ad} {v:Value} {l:List α} {m g:List Nat} (h:Gr r ty H v l m g):∀b∈m,b∉g:=by
 rcases h with ⟨_,_,rfl,_⟩ | ⟨b,cs,_,_,rfl,_,_,_,h6⟩
 ·simp
 ·intro c hc
  rw [List.mem_singleton] at hc
  exact hc▸h6
structure RV (S:XS) (P:cC) (gP g0:List Nat) (n0:Nat) (H:ad) (r:Nat) (t:VT) (m g mi mD gD gx:List Nat):Prop where
 q:RQ0 S P gP H r t m g mi
 gd:Gr kV 47 H S.vD P.defs mD gD
 sm:qs qF H S.vM P.msgs gx
 sr:qs u9 H S.vR P.dk gx
 md:∀d∈mD,n0<=d/\d∈gP/\d∉gx/\d∉g
 dg:∀d∈gD++gx,d∈gP
 r0:n0<=r
 m0:∀c∈m,n0<=c
 i0:∀c∈mi,n0<=c
 pz:∀c∈gP,c∈g0∨n0<=c
 gz:∀c∈g,c∈g0∨n0<=c
section
variable {S:XS} {P:cC} {gP g0:List Nat} {H H1 H2:ad} {r n0:Nat} {t t1 t2:VT} {m g g1 g2 mi dL dQ mD gD gx:List Nat}
theorem RV.rq (h:RV S P gP g0 n0 H r t m g mi mD gD gx) (hz:∀c,n0<=c->H.fz c=false):RQ S P gP H r t m g mi:=
 {h.q with fz:=hz r h.r0,fm:=fun c hc=>hz c (h.m0 c hc),fi:=fun c hc=>hz c (h.i0 c hc),fn:=fun b hb=>hz b (by have:=h.q.rl;have:=h.r0;omega)}
theorem RV.af (h:RV S P gP g0 n0 H r t m g mi mD gD gx) {fz:Nat->Bool}:RV S P gP g0 n0 (H.af fz) r t m g mi mD gD gx:=
 {h with q:=h.q.af,gd:=h.gd.ae (fun _ _=>rfl) (fun _ _=>rfl),sm:=h.sm.ae fun _ _=>rfl,sr:=h.sr.ae fun _ _=>rfl}
theorem RV.call (h:RV S P gP g0 n0 H r t m g mi mD gD gx) (hp:xX S P gP H r t m g mi t2 H2):∃g2 dQ,RV S P gP g0 n0 H2 r t2 m g2 dQ mD gD gx:=by
 obtain ⟨hf,hz,hle,g2,dQ,h0,hs,jf⟩:=hp
 have k:∀c∈gP,H2.get c=H.get c:=fun c hc=>hf.get c (h.q.hP c hc).1 fun e=>by
  simp only [List.mem_cons,List.mem_append] at e
  rcases e with e | e | e
  ·exact (h.q.hP c hc).2 e
  ·exact (h.q.hm c e).2.2.1 hc
  ·exact (h.q.hi c e).2.2.1 hc
 exact ⟨g2,dQ,⟨h0,h.gd.ae (fun c hc=>k c (h.md c hc).2.1) (fun c hc=>k c (h.dg c (by simp [hc]))),h.sm.ae fun c hc=>k c (h.dg c (by simp [hc])),h.sr.ae fun c hc=>k c (h.dg c (by simp [hc])),fun d hd=>⟨(h.md d hd).1,(h.md d hd).2.1,(h.md d hd).2.2.1,fun e=>(jf d e).elim (h.md d hd).2.2.2 fun e=>by have:=(h.q.hP d (h.md d hd).2.1).1;omega⟩,h.dg,h.r0,h.m0,fun c hc=>(hs c hc).elim (h.i0 c) fun e=>by have:=h.q.rl;have:=h.r0;omega,h.pz,fun c hc=>(jf c hc).elim (h.gz c) fun e=>.inr (by have:=h.q.rl;have:=h.r0;omega)⟩⟩
theorem RV.au (h:RV S P gP g0 n0 H r t m g mi mD gD gx) (ho:aG H H2):RV S P gP g0 n0 H2 r t m g mi mD gD gx:=by
 have k:∀c∈gP,H2.get c=H.get c:=fun c hc=>ho.get c (h.q.hP c hc).1
 exact {h with q:=h.q.fr (ho.fr []) (by simp) (by simp) (by simp) (by simp) (by simp),gd:=h.gd.ae (fun c hc=>k c (h.md c hc).2.1) (fun c hc=>k c (h.dg c (by simp [hc]))),sm:=h.sm.ae fun c hc=>k c (h.dg c (by simp [hc])),sr:=h.sr.ae fun c hc=>k c (h.dg c (by simp [hc]))}
theorem As.post (h:As S P gP H r t m g mi t2 H2):xX S P gP H r t m g mi t2 H2:=⟨h.fr.sub fun c hc=>.inl (by rw [List.mem_singleton] at hc;simp [hc]),h.fz,by rw [h.ns],g,mi,h.rq,fun _ h=>.inl h,fun _ h=>.inl h⟩
theorem RV.i {α:Type} {rp:Rp α} {v:Value} {l:List α} {g g':List Nat} (h:qs rp H v l g) (hg:∀c∈g,c∈g'):qs rp H v l g':=by
 obtain ⟨gs,h1,h2⟩:=h
 exact ⟨gs,h1,fun c hc=>hg c (h2 c hc)⟩
theorem RV.aY (h:RV S P gP g0 n0 H r t m g mi mD gD gx) {i:Nat} {d:gh} (hd:P.defs[i]?=some d) {w:Int}:
  ∃b cs,S.vD=.slice (some ⟨b,0,none⟩) P.defs.length P.defs.length/\b∈mD/\b≠r/\b < H.next/\H.get b=some ⟨cs,47,true,false⟩/\i * 9+9<=cs.length/\(∃vp vq vo f5,(cs.drop (i * 9)).take 9=ff d vp vq vo/\Sl oV H vp d.params f5/\∀c∈f5,c∈gD)/\
  ∃gD',RV S {P with defs:=P.defs.set i {d with aY:=w}} gP g0 n0 (H.ai b ⟨cs.set (i * 9+2) (iV w),47,true,false⟩) r t m g mi mD gD' gx:=by
 have bX:i < P.defs.length:=(List.getElem?_eq_some_iff.1 hd).1
 have hdi:P.defs[i]=d:=(List.getElem?_eq_some_iff.1 hd).2
 obtain ⟨b,cs,f1,f2,f3,e1,e2,hb,gJ,e3,cb,hE,jk⟩:=h.gd.put bX
 subst e2
 subst e3
 obtain ⟨tf,EW,Is,Sc⟩:=h.md b (by simp)
 obtain ⟨lO,di⟩:=h.q.hP b EW
 rw [hdi] at hE
 obtain ⟨vp,vq,vo,f5,f6,f7,bg,rfl,s5,s6,s7⟩:=hE
 have cb:i * 9+9<=cs.length:=cb
 have bg:(cs.drop (i * 9)).take 9=ff d vp vq vo:=bg
 have uk:b∉f1++((f5++(f6++f7))++f3):=h.gd.own b (by simp)
 have kn:∀z,z≠b->(H.ai b ⟨cs.set (i * 9+2) (iV w),47,true,false⟩).get z=H.get z:=fun z hz=>by rw [aH,if_neg hz]
 have bf:i * 9+2 < cs.length:=by omega
 have fR:cs.set (i * 9+2) (iV w)=cY cs (i * 9) (ff {d with aY:=w} vp vq vo):=by
  have:=AE (vs:=[iV w]) bg (k:=2) (by show 2+1<=9;omega) cb
  rw [fL bf] at this
  rw [this]
  have e:cY (ff d vp vq vo) 2 [iV w]=(ff d vp vq vo).set 2 (iV w):=fL (by show 2 < 9;omega)
  rw [e];rfl
 have n5:∀z∈f5++(f6++f7),z≠b:=fun z hz e=>uk (by rw [<-e];simp only [List.mem_append] at hz ⊢;exact .inr (.inl hz))
 have iH:=jk (H.ai b ⟨cs.set (i * 9+2) (iV w),47,true,false⟩) (ff {d with aY:=w} vp vq vo) {d with aY:=w} (f5++(f6++f7)) (fun z hz=>kn z fun e=>uk (by rw [<-e];simp only [List.mem_append];rcases hz with e | e <;> simp [e])) (by rw [aH,if_pos rfl,fR];rfl)
  ⟨vp,vq,vo,f5,f6,f7,rfl,rfl,s5.ae fun z hz=>kn z (n5 z (by simp [hz])),s6.ae fun z hz=>kn z (n5 z (by simp [hz])),s7.ae fun z hz=>kn z (n5 z (by simp [hz]))⟩ (fun e=>n5 b e rfl)
 refine ⟨b,cs,e1,by simp,di,lO,hb,cb,⟨vp,vq,vo,f5,bg,s5,fun c hc=>by simp [hc]⟩,f1++((f5++(f6++f7))++f3),?_⟩
 have kx:∀c∈gx,(H.ai b ⟨cs.set (i * 9+2) (iV w),47,true,false⟩).get c=H.get c:=fun c hc=>kn c fun e=>Is (e▸hc)
 have q:=h.q
 obtain ⟨vN,vI,hr,hN,hI⟩:=q.row
 have hxP:∀c∈gx,c∈gP:=fun c hc=>h.dg c (by simp [hc])
 exact ⟨⟨⟨vN,vI,(kn r (Ne.symm di)).trans hr,hN.ae (fun c hc=>kn c fun e=>(q.hm c hc).2.2.1 (e▸EW)) (fun c hc=>kn c fun e=>Sc (e▸hc)),hI.ae fun c hc=>kn c fun e=>(q.hi c hc).2.2.1 (e▸EW)⟩,RV.i (h.sm.ae kx) hxP,RV.i (h.sr.ae kx) hxP,⟨_,iH.sl,fun c hc=>by
  simp only [List.mem_append,List.mem_singleton] at hc
  rcases hc with e | e
  ·exact e▸EW
  ·exact h.dg c (by simp only [List.mem_append];exact .inl e)⟩,q.rl,q.hm,q.hi,q.hg,q.hP⟩,iH,h.sm.ae kx,h.sr.ae kx,h.md,h.dg,h.r0,h.m0,h.i0,h.pz,h.gz⟩
end
theorem ag5 {a1 a2 a3 a4:Option Addr} {n1 n2 n3 n4 c1 c2 c3 c4:Nat} {h:KH}:iA Tryz.prog 133 [(0,.agg #[.slice a1 n1 c1,.slice a2 n2 c2,.slice a3 n3 c3,.slice a4 n4 c4])] h=.ok (.agg (rC ⟨.slice a1 n1 c1,.slice a2 n2 c2,.slice a3 n3 c3⟩ (.slice a4 n4 c4) (.slice none 0 0) ⟨[],[],0,0,0,0,0⟩).toArray) h:=by kernel_rfl
section
variable {H:ad} {P:cC}
theorem ago {fuel:Nat} {vM vR vD vN:Value} {gM gR gD gN:List Nat} (hM:Sl qF H vM P.msgs gM) (hR:Sl u9 H vR P.dk gR) (hD:Sl kV H vD P.defs gD) (hN:Sl ku H vN P.nodes gN) (bf:∀c∈gM++(gR++(gD++gN)),c < H.next) {R:Option cC} (he:Ul fuel P=some R):
  aj Tryz.prog 56 #[.agg #[vM,vR,vD,vN]] H (fun w H'=>aG H H'/\acd (gM++(gR++(gD++gN))) H.next R H' w):=by
 refine aj.told ?_
 refine ni (l:=[_]) _ mixed Tryz.func56 amN [.cell 2 31,.tmp 3,.tmp 4,.tmp 5] (show 1<=143 by decide) rfl fun hf=>?_
 simp only [Tryz.f56,Option.getD_some]
 obtain ⟨aM,kM,rfl⟩:=hM.val
 obtain ⟨aR,kR,rfl⟩:=hR.val
 obtain ⟨aD,kD,rfl⟩:=hD.val
 obtain ⟨aN,kN,rfl⟩:=hN.val
 unfold Ul at he
 split at he
 case isFalse=>cases he
 rename_i hb
 obtain ⟨fB,eo⟩:=hb
 have oX:=Nat.le_of_ble_eq_true eo
 simp only at he
 split at he
 case isFalse=>cases he
 rename_i fU
 have hP:=acf fB
 have Tb:=acf fU
 have p1:¬H.next=H.next+1:=by omega
 have p2:¬H.next=H.next+1+1:=by omega
 have p3:¬H.next+1=H.next+1+1:=by omega
 have p4:¬H.next+1+1=H.next:=by omega
 have hX:∀{n:Nat},H.next<=n->H.fz n=false:=fun h=>hf.fresh h
 have dw:H.fz (H.next+1+1)=false:=hX (by omega)
 obtain ⟨P1,Kk⟩:∃P1:cC,P1={P with msgs:=(pT P ⟨P.nodes,[],0,0,0,0,0⟩).1,dk:=(pT P ⟨P.nodes,[],0,0,0,0,0⟩).2.1,defs:=(pT P ⟨P.nodes,[],0,0,0,0,0⟩).2.2.1}:=⟨_,rfl⟩
 rw [<-Kk] at Tb
 have eM:(pT P ⟨P.nodes,[],0,0,0,0,0⟩).1=P1.msgs:=by rw [Kk]
 have eR:(pT P ⟨P.nodes,[],0,0,0,0,0⟩).2.1=P1.dk:=by rw [Kk]
 have eD:(pT P ⟨P.nodes,[],0,0,0,0,0⟩).2.2.1=P1.defs:=by rw [Kk]
 have eP:({P with msgs:=P1.msgs,dk:=P1.dk,defs:=P1.defs}:cC)=P1:=by rw [Kk]
 rw [eM,eR,eD,eP] at he
 obtain ⟨tA,Zk⟩:∃tA,tA=(pT P ⟨P.nodes,[],0,0,0,0,0⟩).2.2.2:=⟨_,rfl⟩
 rw [<-Zk] at he
 refine ja (ja (ja (ja (lB 17179868286 (fun V H5=>V 2=pV (H.next+1)/\V 6=pV (H.next+1+1)/\∃S gP m g mi mD gE gx,RV S P1 gP (gM++(gR++(gD++gN))) (H.next+1+1) H5 (H.next+1+1) (if tA.bad=0/\JL P.defs < 0 then tA.fail 4 0 0 else tA) m g mi mD gE gx/\(∀c,H5.fz c=H.fz c)/\Fr [] H H5/\H5.get (H.next+1)=some ⟨[.slice none 0 0,.slice none 0 0,.slice none 0 0,.slice none 0 0],31,false,false⟩) ?_ ?_ (by rfl)))))
 ·simp only [go_sem,ag5,p1,p2,p3,p4,dw]
  obtain ⟨H1,cu⟩:∃H1,H1=(((((H.push ⟨[.slice aM P.msgs.length kM,.slice aR P.dk.length kR,.slice aD P.defs.length kD,.slice aN P.nodes.length kN],31,false,false⟩).push ⟨[.slice none 0 0,.slice none 0 0,.slice none 0 0,.slice none 0 0],31,false,false⟩).af H.fz).push ⟨rC ⟨.slice aM P.msgs.length kM,.slice aR P.dk.length kR,.slice aD P.defs.length kD⟩ (.slice aN P.nodes.length kN) (.slice none 0 0) ⟨[],[],0,0,0,0,0⟩,133,false,false⟩).af H.fz):=⟨_,rfl⟩
  rw [<-cu]
  have f1:Fr [] H H1:=by rw [cu];exact ((((Fr.refl [] H).push _).push _).af _ |>.push _).af _
  have HS:H1.get H.next=some ⟨[.slice aM P.msgs.length kM,.slice aR P.dk.length kR,.slice aD P.defs.length kD,.slice aN P.nodes.length kN],31,false,false⟩:=by rw [cu,bG,bO (by simp only [BZ,bI];omega),bG,bO (by simp only [bI];omega),aZ,if_pos rfl]
  have Lp:H1.get (H.next+1)=some ⟨[.slice none 0 0,.slice none 0 0,.slice none 0 0,.slice none 0 0],31,false,false⟩:=by rw [cu,bG,bO (by simp only [BZ,bI];omega),bG,aZ];exact if_pos rfl
  have KY:H1.get (H.next+1+1)=some ⟨rC ⟨.slice aM P.msgs.length kM,.slice aR P.dk.length kR,.slice aD P.defs.length kD⟩ (.slice aN P.nodes.length kN) (.slice none 0 0) ⟨[],[],0,0,0,0,0⟩,133,false,false⟩:=by rw [cu,bG,aZ];exact if_pos rfl
  have KZ:H1.next=H.next+1+1+1:=by rw [cu];rfl
  have fz1:H1.fz=H.fz:=by rw [cu];rfl
  clear cu
  obtain ⟨z,hz⟩:∃z,z=H.next+1:=⟨_,rfl⟩
  obtain ⟨r,hr⟩:∃r,r=H.next+1+1:=⟨_,rfl⟩
  rw [<-hr] at KY dw ⊢
  rw [<-hz] at Lp ⊢
  clear p1 p2 p3 p4
  refine AP (r:=ku) Mr (hN.ae (H':=H1) fun c hc=>f1.get c (bf c (by simp [hc])) (by simp)) (by
   have:P.nodes.length * 1000<=1000000 * 1000:=Nat.mul_le_mul (by omega) (Nat.le_refl _)
   omega) (fun c hc=>by have:=bf c (by simp [hc]);omega) ?_
  intro vN H2 m g cw sv nP
  obtain ⟨aN2,C4⟩:=cw.val
  subst C4
  obtain ⟨f12,jX⟩:Fr [] H1 H2/\∀c∈m,H1.next<=c/\c < H2.next:=by
   rcases nP with ⟨rfl,rfl⟩ | ⟨rfl,cs,rfl⟩
   ·exact ⟨.refl _ _,by simp⟩
   ·exact ⟨(Fr.refl [] _).push _,fun c hc=>by rw [List.mem_singleton] at hc;subst hc;exact ⟨Nat.le_refl _,Nat.lt_succ_self _⟩⟩
  have eC:=f12.nx
  have K0:=(f12.get r (by omega) (by simp)).trans KY
  have uF:=(f12.get H.next (by omega) (by simp)).trans HS
  have Pb:=(f12.get z (by omega) (by simp)).trans Lp
  simp only [go_sem,K0,dw]
  obtain ⟨H3,dv⟩:∃H3,H3=(H2.ai r ⟨rC ⟨.slice aM P.msgs.length kM,.slice aR P.dk.length kR,.slice aD P.defs.length kD⟩ (.slice aN2 P.nodes.length P.nodes.length) (.slice none 0 0) ⟨P.nodes,[],0,0,0,0,0⟩,133,false,false⟩).af H.fz:=⟨_,rfl⟩
  rw [<-dv]
  have k3:∀c,c≠r->H3.get c=H2.get c:=fun c hc=>by rw [dv,bG,aH,if_neg hc]
  have Oe:H3.next=H2.next:=by rw [dv];rfl
  have OD:∀c,H3.fz c=H.fz c:=fun c=>by rw [dv];rfl
  have gr3:H3.get r=some ⟨rC ⟨.slice aM P.msgs.length kM,.slice aR P.dk.length kR,.slice aD P.defs.length kD⟩ (.slice aN2 P.nodes.length P.nodes.length) (.slice none 0 0) ⟨P.nodes,[],0,0,0,0,0⟩,133,false,false⟩:=by rw [dv,bG,aH,if_pos rfl]
  have f03:Fr [] H H3:=by rw [dv];exact ((f1.then f12).ai (.inr (by omega)) _).af _
  clear dv
  have YD:=(k3 H.next (by omega)).trans uF
  have K2:=(k3 z (by omega)).trans Pb
  have ko:∀c,c < H.next->H3.get c=H.get c:=fun c hc=>(k3 c (by omega)).trans ((f12.get c (by omega) (by simp)).trans (f1.get c hc (by simp)))
  have kG:∀c∈gM++(gR++(gD++gN)),H3.get c=H.get c:=fun c hc=>ko c (bf c hc)
  have mX:∀c∈g,c < H.next:=fun c hc=>bf c (by simp [sv c hc])
  have Zl:∀c∈gM++(gR++gD),c < H.next:=fun c hc=>bf c (by simp only [List.mem_append] at hc ⊢;rcases hc with e | e | e <;> simp [e])
  have q3:RQ ⟨.slice aM P.msgs.length kM,.slice aR P.dk.length kR,.slice aD P.defs.length kD⟩ P (gM++(gR++gD)) H3 r ⟨P.nodes,[],0,0,0,0,0⟩ m g []:=
   ⟨⟨⟨_,_,gr3,cw.ae (fun c hc=>k3 c (by have:=(jX c hc).1;omega)) (fun c hc=>k3 c (by have:=mX c hc;omega)),kr.nil _⟩,
    ⟨gM,hM.ae fun c hc=>kG c (by simp [hc]),fun c hc=>by simp [hc]⟩,⟨gR,hR.ae fun c hc=>kG c (by simp [hc]),fun c hc=>by simp [hc]⟩,⟨gD,hD.ae fun c hc=>kG c (by simp [hc]),fun c hc=>by simp [hc]⟩,by omega,
    fun c hc=>⟨by have:=(jX c hc).2;omega,by have:=(jX c hc).1;omega,fun e=>by have:=(jX c hc).1;have:=Zl c e;omega,fun e=>by have:=(jX c hc).1;have:=mX c e;omega,by simp⟩,by simp,
    fun c hc=>⟨by have:=mX c hc;omega,by have:=mX c hc;omega⟩,fun c hc=>⟨by have:=Zl c hc;omega,by have:=Zl c hc;omega⟩⟩,
    by rw [OD];exact dw,fun c hc=>by rw [OD];exact hX (by have:=(jX c hc).1;omega),by simp,fun b hb=>by rw [OD];exact hX (by omega)⟩
  refine ag.by (ahX q3 hP) ?_
  rintro _ H4 - ⟨f4,i9,yh,aq6,S1,gP1,mD,gD1,q4,aq7,aeC,aeD,aeE,gx,sM1,sR1,df⟩
  rw [<-Kk,<-Zk] at q4
  rw [<-Zk] at yh aq6
  rw [eD] at aeC
  rw [eM] at sM1
  rw [eR] at sR1
  have Zm:RV S1 P1 gP1 (gM++(gR++(gD++gN))) r H4 r tA m g [] mD gD1 gx:=⟨q4,aeC,sM1,sR1,fun d hd=>⟨by have:=aeD d hd;omega,aeE d (by simp [hd]),fun e=>(df d e).2 hd,fun e=>by have:=mX d e;have:=aeD d hd;omega⟩,fun d hd=>by
   simp only [List.mem_append] at hd
   exact hd.elim (fun e=>aeE d (by simp [e])) fun e=>(df d e).1,Nat.le_refl _,fun c hc=>by have:=(jX c hc).1;omega,by simp,fun c hc=>(aq7 c hc).imp (fun e=>by simp only [List.mem_append] at e ⊢;rcases e with e | e | e <;> simp [e]) fun e=>by omega,fun c hc=>.inl (by simp [sv c hc])⟩
  have HU:Fr [] H H4:=f03.trans f4 fun c hc=>.inr (by rw [List.mem_singleton] at hc;omega)
  have qU:=f4.nx
  have K1:=(f4.get H.next (by omega) (by simp;omega)).trans YD
  have SI:=(f4.get z (by omega) (by simp;omega)).trans K2
  have Tc:∀c,r<=c->H.fz c=false:=fun c hc=>hX (by omega)
  obtain ⟨vN4,vI4,hJ,_,_⟩:=Zm.q.row
  by_cases hb:tA.bad=0
  ·simp only [go_sem,hJ,hb,K1]
   refine ag.by (ali (l:=P.defs) (g:=gD) ((hD.ae fun c hc=>HU.get c (bf c (by simp [hc])) (by simp)).ae fun _ _=>rfl) hP.d (fun c hc=>by have:=bf c (by simp [hc]);show c < H4.next;omega)) ?_
   rintro _ H5 - ⟨rfl,o5,z5⟩
   have Iu:=Zm.af.au o5
   have Df:=(HU.af H.fz).then (o5.fr [])
   have xz:H4.next<=H5.next:=o5.nx
   have Pc:=(o5.get z (by show z < H4.next;omega)).trans SI
   by_cases jX:JL P.defs < 0
   ·rw [if_pos ⟨hb,jX⟩]
    simp only [go_sem,jX]
    refine ag.by (nh (Iu.af.rq fun c hc=>Tc c hc)) ?_
    rintro _ H6 - p6
    obtain ⟨g6,Dm,fC⟩:=Iu.af.call p6.post
    simp only [go_sem]
    exact ⟨_,_,_,_,_,_,_,_,fC.af,fun _=>trivial,((Df.af H.fz).trans p6.fr fun c hc=>.inr (by rw [List.mem_singleton] at hc;omega)).af _,(p6.fr.get z (by show z < H5.next;omega) (by simp;omega)).trans Pc⟩
   ·rw [if_neg fun e=>jX e.2]
    simp only [go_sem,jX]
    exact ⟨_,_,_,_,_,_,_,_,Iu.af,fun _=>trivial,Df.af _,Pc⟩
  ·rw [if_neg fun e=>hb e.1]
   simp only [go_sem,hJ,hb]
   exact ⟨_,_,_,_,_,_,_,_,Zm.af,fun _=>trivial,HU.af _,SI⟩
 ·rintro V H5 ⟨e2,e6,S,gP,m,g,mi,mD,gE,gx,Iu,z5,f5,Pc⟩
  obtain ⟨z,hz⟩:∃z,z=H.next+1:=⟨_,rfl⟩
  obtain ⟨r,hr⟩:∃r,r=H.next+1+1:=⟨_,rfl⟩
  obtain ⟨G0,hG0⟩:∃G0,G0=gM++(gR++(gD++gN)):=⟨_,rfl⟩
  rw [<-hG0] at Iu ⊢
  have hG:∀c∈G0,c < H.next:=by rw [hG0];exact bf
  rw [<-hr] at Iu e6 dw
  rw [<-hz] at Pc e2
  clear p1 p2 p3 p4
  generalize (if tA.bad=0/\JL P.defs < 0 then tA.fail 4 0 0 else tA)=tB at *
  cases SR:Jj fuel P1 [] P1.defs tB with
  | none=>rw [SR] at he;cases he
  | some x=>
  obtain ⟨Zo,tE⟩:=x
  rw [SR] at he
  simp only [Option.map_some,Option.some.injEq] at he
  subst he
  refine lB 2658455991569831745807614103380820608 (fun V6 H6=>∃g6 Dm BO,RV S {P1 with defs:=Zo} gP G0 r H6 r tE m g6 Dm mD BO gx/\(∀c,H6.fz c=H.fz c)/\Fr [] H H6/\H6.get z=some ⟨[.slice none 0 0,.slice none 0 0,.slice none 0 0,.slice none 0 0],31,false,false⟩) ?_ ?_ (by rfl)
  ·simp only [go_sem]
   refine kC 2658455991569831745807614103380820608 P1.defs.length (fun i V6 H6=>V6 7=iV (i:Nat)/\∃done t6 g6 Dm BO,RV S {P1 with defs:=done++P1.defs.drop i} gP G0 r H6 r t6 m g6 Dm mD BO gx/\(∀c,H6.fz c=H.fz c)/\Fr [] H H6/\H6.get z=some ⟨[.slice none 0 0,.slice none 0 0,.slice none 0 0,.slice none 0 0],31,false,false⟩/\done.length=i/\done.map (·.params)=(P1.defs.take i).map (·.params)/\Jj fuel P1 done (P1.defs.drop i) t6=some (Zo,tE))
    ⟨by simp only [go_sem] <;> rfl,[],tB,g,mi,gE,Iu.af,fun _=>rfl,f5.af _,Pc,rfl,rfl,SR⟩ ?_ ?_ (by rfl)
   ·rintro i V6 H6 hi ⟨ei,done,t6,g6,Dm,BO,fC,z6,f6,Iv,dK,Zp,sJ⟩
    have hx:P1.defs[i]?=some (P1.defs[i]'hi):=List.getElem?_eq_getElem hi
    have cT:P1.defs.drop i=(P1.defs[i]'hi)::P1.defs.drop (i+1):=(List.getElem_cons_drop hi).symm
    have iX:P1.defs.take (i+1)=P1.defs.take i++[P1.defs[i]'hi]:=by rw [List.take_add_one,hx];rfl
    generalize (P1.defs[i]'hi)=x at hx cT iX
    rw [cT] at fC sJ
    rw [Jj] at sJ
    have aq8:Av {P1 with defs:=done++x::P1.defs.drop (i+1)}:=Tb.defs (by
     rw [List.map_append,Zp,<-cT,<-List.map_append,List.take_append_drop])
    have hlen:(done++x::P1.defs.drop (i+1)).length=P1.defs.length:=by rw [<-cT,List.length_append,List.length_drop];omega
    have hd:(done++x::P1.defs.drop (i+1))[i]?=some x:=by rw [List.getElem?_append_right (by omega),dK,Nat.sub_self];rfl
    have gY:i < (done++x::P1.defs.drop (i+1)).length:=by omega
    obtain ⟨bD,Td,eD,jr,di,lO,hB,cb,⟨vp,vq,vo,fp,bg,fR,Pd⟩,_⟩:=fC.aY (i:=i) (d:=x) hd (w:=0)
    have eD:S.vD=.slice (some ⟨bD,0,none⟩) P1.defs.length P1.defs.length:=by rw [eD];show Value.slice _ (done++x::P1.defs.drop (i+1)).length (done++x::P1.defs.drop (i+1)).length=_;rw [hlen]
    obtain ⟨K9,La,lS,Lq,Lh⟩:=fC.q.row
    have cH:IntKind.wrap .i64 (((i:Nat):Int)+1)=((i+1:Nat):Int):=cG hi (by have:=Tb.d;omega)
    by_cases hb:t6.bad=0
    ·rw [if_pos hb] at sJ
     cases EI:IV x.params {t6 with be:=[],aY:=0,inner:=0} with
     | none=>rw [EI] at sJ;cases sJ
     | some t7=>
     rw [EI] at sJ
     simp only [Option.bind_some] at sJ
     cases lk:Lo {P1 with defs:=done++x::P1.defs.drop (i+1)} fuel x.body t7 with
     | none=>rw [lk] at sJ;cases sJ
     | some t8=>
     rw [lk] at sJ
     simp only [Option.bind_some] at sJ
     have Tc:∀c,r<=c->H.fz c=false:=fun c hc=>hX (by omega)
     have q6:=fC.af (fz:=H.fz).rq Tc
     have r6:=RR.start q6
     obtain ⟨vN,vI,aq9,SX,Ld,_,gI⟩:=r6.re
     have r7:=(gI {t6 with be:=[],aY:=0,inner:=0} (.slice none 0 0) [] rfl (kr.nil _) (by simp)).iB H.fz fun _=>rfl
     have lS:H6.get r=some ⟨rC S vN vI t6,133,false,false⟩:=aq9
     obtain ⟨H7,eW⟩:=r7.hp
     have q8:H7.get r=some ⟨rC S vN (.slice none 0 0) {t6 with be:=[],aY:=0,inner:=0},133,false,false⟩:=by rw [eW,bG,aH,if_pos rfl]
     have k7:∀c,c≠r->H7.get c=H6.get c:=fun c hc=>by rw [eW,bG,aH,if_neg hc,bG]
     have E5:H7.next=H6.next:=by rw [eW];rfl
     rw [<-eW] at r7
     simp only [go_sem,ei,hi,e6,lS,hb,eD,dw]
     simp only [rC,eD,hb] at eW
     rw [L4,L4,<-eW]
     clear eW
     have Iw:=(k7 bD di).trans hB
     have CL:=fR.ae (H':=H7) fun c hc=>k7 c (fC.q.hP c (fC.dg c (by simp [Pd c hc]))).2
     obtain ⟨ap,kp,Ag⟩:=CL.val
     subst Ag
     have dN:Td[i * 9+1]?=some (.slice ap x.params.length kp):=by
      have:((Td.drop (i * 9)).take 9)[1]?=some (.slice ap x.params.length kp):=by rw [bg];rfl
      rw [List.getElem?_take,if_pos (by decide),List.getElem?_drop] at this
      exact this
     simp only [go_sem,di,hB,dN]
     have dZ:x.params.length < 1000000:=(Tb.dp x (List.mem_of_getElem? hx)).1
     refine kC 316912648876465729656764498432 x.params.length (fun j V8 H8=>V8 70=iV (j:Nat)/\∃t9 g9 xI,RR S {P1 with defs:=done++x::P1.defs.drop (i+1)} gP (H6.af H.fz) r t6 m g6 Dm H8 t9 g9 xI/\H7.next<=H8.next/\IV (x.params.drop j) t9=some t7)
      ⟨by simp only [go_sem] <;> rfl,_,_,_,r7.iB H.fz fun _=>rfl,Nat.le_refl _,EI⟩ ?_ ?_ (by rfl)
     ·rintro j V8 H8 hj ⟨ej,t9,g9,xI,r9,KW,Ix⟩
      have hy:x.params[j]?=some (x.params[j]'hj):=List.getElem?_eq_getElem hj
      have pL:x.params.drop j=(x.params[j]'hj)::x.params.drop (j+1):=(List.getElem_cons_drop hj).symm
      generalize (x.params[j]'hj)=y at hy pL
      rw [pL,IV] at Ix
      split at Ix
      case isFalse=>cases Ix
      rename_i iv
      obtain ⟨bX,nu,cZ⟩:=iv
      have jh:IntKind.wrap .i64 (((j:Nat):Int)+1)=((j+1:Nat):Int):=cG hj (by omega)
      have Zq:∀c∈gP,H8.get c=H6.get c:=fun c hc=>r9.fr.get c (fC.q.hP c hc).1 fun e=>by
       simp only [List.mem_cons,List.mem_append] at e
       rcases e with e | e | e
       ·exact (fC.q.hP c hc).2 e
       ·exact (fC.q.hm c e).2.2.1 hc
       ·exact (fC.q.hi c e).2.2.1 hc
      obtain ⟨b,o,c',B,gy,hv,ph,dI,wu,ara,hE⟩:=(fR.ae (H':=H8) fun c hc=>Zq c (fC.dg c (by simp [Pd c hc]))).at hy
      simp only [Value.slice.injEq] at hv
      have iz:=hv.1
      obtain ⟨vq,WK,Ox⟩:=hE
      obtain ⟨aq,kq,rfl⟩:=Ox.val
      have aow:o+j * 6+6<=B.cells.length:=ara
      have WK:(B.cells.drop (o+j * 6)).take 6=[ah y.name,iV y.ty.kind,iV y.ty.cap,iV y.ty.rc,ah y.ty.name,.slice aq y.ty.pat.length kq]:=WK
      have qk:r < H8.next:=r9.rq.rl
      have Il:H.fz H8.next=false:=hX (by omega)
      have nr8:¬r=H8.next:=by omega
      have cS:=((r9.iB H.fz fun _=>rfl).push ⟨[ah y.name,iV y.ty.kind,iV y.ty.cap,iV y.ty.rc,ah y.ty.name,.slice aq y.ty.pat.length kq],104,false,false⟩).iB H.fz fun _=>rfl
      obtain ⟨du,qf⟩:=cS.hp
      have Kd:du.get H8.next=some ⟨[ah y.name,iV y.ty.kind,iV y.ty.cap,iV y.ty.rc,ah y.ty.name,.slice aq y.ty.pat.length kq],104,false,false⟩:=by rw [qf,bG,aZ];exact if_pos rfl
      have ael:du.next=H8.next+1:=by rw [qf];rfl
      rw [<-qf] at cS
      simp only [go_sem,ej,hj,iz,ph,aow,WK,Il,e6]
      rw [<-qf]
      have arb:du.get r=H8.get r:=by rw [qf,bG,bO (by show r < H8.next;omega),bG]
      clear qf
      obtain ⟨Nc,aeB,GO,_,aeF,_⟩:=cS.re
      obtain ⟨aI,cI,Dg⟩:=aeF.val
      subst Dg
      have De:H8.get r=some ⟨rC S Nc (.slice aI t9.be.length cI) t9,133,false,false⟩:=arb▸GO
      have aB1:¬r=du.next:=by omega
      have dV:=cS.push ⟨[ah y.name,iV t9.aY],137,false,false⟩
      have GP:(du.push ⟨[ah y.name,iV t9.aY],137,false,false⟩).get r=some ⟨rC S Nc (.slice aI t9.be.length cI) t9,133,false,false⟩:=(bO cS.rq.rl).trans GO
      have arc:=aeF.ae (H':=du.push ⟨[ah y.name,iV t9.aY],137,false,false⟩) fun c hc=>bO (cS.rq.hi c hc).1
      simp only [go_sem,e6,ej,jh,dw,nr8,De,GO,Kd,Uk,eX AS (by decide) (by decide)]
      refine UK (X:=H.fz) (x:=⟨y.name,t9.aY⟩) arc (fun c hc=>(dV.rq.hi c hc).1) dV.x (by rw [aZ,if_pos rfl]) (by omega) ?_
      intro OT dx zN aeG ard aeH aB2
      obtain ⟨WA,dF⟩:=dV.be GP aeH (v2:=OT) (t2:={t9 with be:=t9.be++[⟨y.name,t9.aY⟩]}) rfl aeG ard
      obtain ⟨sn,KJ⟩:=Int.eq_ofNat_of_zero_le nu
      have fP:IntKind.wrap .i64 (t9.aY+1)=t9.aY+1:=by rw [KJ,show (((sn:Nat):Int)+1)=((sn+1:Nat):Int) by omega];exact tT (by omega)
      obtain ⟨a12,c12,arf⟩:=aeG.val
      subst arf
      obtain ⟨w6,w7,hrx,_,_,arh,_⟩:=(dF.iB H.fz fun _=>rfl).re
      rw [bG,bG,aH,if_pos rfl] at hrx
      cases hrx
      have aB3:H8.next<=dx.next:=by have:=aeH.nx;have h2:(du.push ⟨[ah y.name,iV t9.aY],137,false,false⟩).next=du.next+1:=rfl;omega
      simp only [go_sem,e6,WA,dw,fP,ej,jh]
      exact ⟨_,_,_,(arh {t9 with be:=t9.be++[⟨y.name,t9.aY⟩],aY:=t9.aY+1} rfl rfl).iB H.fz fun _=>rfl,by show H7.next<=dx.next;omega,Ix⟩
     ·rintro V8 H8 ⟨ej,t9,g9,xI,r9,KW,Ix⟩
      rw [List.drop_length,IV] at Ix
      cases Ix
      obtain ⟨Yh,vI9,Ik,_⟩:=r9.re
      have Zq:∀c∈gP,H8.get c=H6.get c:=fun c hc=>r9.fr.get c (fC.q.hP c hc).1 fun e=>by
       simp only [List.mem_cons,List.mem_append] at e
       rcases e with e | e | e
       ·exact (fC.q.hP c hc).2 e
       ·exact (fC.q.hm c e).2.2.1 hc
       ·exact (fC.q.hi c e).2.2.1 hc
      have ph:=(Zq bD (fC.md bD jr).2.1).trans hB
      have oY:Td[i * 9+3]?=some (iV x.body):=by
       have:((Td.drop (i * 9)).take 9)[3]?=some (iV x.body):=by rw [bg];rfl
       rw [List.getElem?_take,if_pos (by decide),List.getElem?_drop] at this
       exact this
      simp only [go_sem,ej,e6,Ik,eD,ei,hi,ph,oY]
      refine ag.by (ahY aq8 fuel (r9.iB H.fz fun _=>rfl).rq lk) ?_
      rintro _ du - nK
      obtain ⟨uz,RD,cS,_,_⟩:=(r9.iB H.fz fun _=>rfl).call nK
      have cS:=cS.iB H.fz fun _=>rfl
      obtain ⟨EL,ari,aeI⟩:=fC.af.call cS.last
      have f10:Fr [] H (du.af H.fz):=(f6.af H.fz).trans cS.fr fun c hc=>.inr (by
       simp only [List.mem_cons,List.mem_append] at hc
       rcases hc with e | e | e
       ·omega
       ·have:=fC.m0 c e;omega
       ·have:=fC.i0 c e;omega)
      have arj:du.get z=H6.get z:=cS.fr.get z (by show z < H6.next;have:=fC.q.rl;omega) fun hc=>by
       simp only [List.mem_cons,List.mem_append] at hc
       rcases hc with e | e | e
       ·omega
       ·have:=fC.m0 z e;omega
       ·have:=fC.i0 z e;omega
      obtain ⟨bE,Te,eE,mI,aB5,aB6,jH,ad9,_,ark,aeJ⟩:=aeI.aY (i:=i) (d:=x) hd (w:=t8.aY)
      rw [eD] at eE
      simp only [Value.slice.injEq,Option.some.injEq,Addr.mk.injEq] at eE
      obtain ⟨⟨rfl,_⟩,_⟩:=eE
      obtain ⟨arl,arn,GP,_,_⟩:=aeI.q.row
      have GP:du.get r=some ⟨rC S arl arn t8,133,false,false⟩:=GP
      have jH:du.get bD=some ⟨Te,47,true,false⟩:=jH
      have gC:H.fz bD=false:=Tc bD (fC.md bD jr).1
      have hV:i * 9+2+1<=Te.length:=by omega
      have cX:¬z=bD:=by have:=(fC.md bD jr).1;omega
      have Zr:(done++x::P1.defs.drop (i+1)).set i {x with aY:=t8.aY}=(done++[{x with aY:=t8.aY}])++P1.defs.drop (i+1):=by
       rw [List.set_append_right _ _ (by omega),dK,Nat.sub_self,List.append_assoc];rfl
      rw [show (({P1 with defs:=done++x::P1.defs.drop (i+1)}:cC).defs.set i {x with aY:=t8.aY})=(done++[{x with aY:=t8.aY}])++P1.defs.drop (i+1) from Zr] at aeJ
      simp only [go_sem,e6,GP,eD,ei,hi,jH,gC,hV,cH,cX]
      rw [show cY Te (i * 9+2) [iV t8.aY]=Te.set (i * 9+2) (iV t8.aY) from fL (by omega)]
      exact ⟨done++[{x with aY:=t8.aY}],t8,EL,ari,ark,aeJ.af,fun _=>trivial,(f10.ai (.inr (by have:=(fC.md bD jr).1;omega)) _).af _,arj.trans Iv,by simp [dK],by rw [List.map_append,Zp,iX,List.map_append];rfl,sJ⟩
    ·rw [if_neg hb] at sJ
     cases sJ
     simp only [go_sem,ei,hi,e6,lS,hb,eD]
     exact ⟨_,_,_,fC.af,fun _=>trivial,f6.af _,Iv⟩
   ·rintro V6 H6 ⟨ei,done,t6,g6,Dm,BO,fC,z6,f6,Iv,dK,Zp,sJ⟩
    rw [List.drop_length,Jj] at sJ
    cases sJ
    rw [List.drop_length,List.append_nil] at fC
    obtain ⟨K9,La,lS,Lq,Lh⟩:=fC.q.row
    obtain ⟨aD6,OM⟩:=fC.gd.val
    simp only at OM
    simp only [go_sem,ei,e6,lS,OM,dK]
    exact ⟨_,_,_,fC.af,fun _=>trivial,f6.af _,Iv⟩
  ·rintro V6 H6 ⟨g6,Dm,BO,fC,z6,f6,Iv⟩
   obtain ⟨K9,La,lS,Lq,_⟩:=fC.q.row
   obtain ⟨aN6,hv⟩:=Lq.val
   subst hv
   have Zs:¬z=r:=by omega
   have K3:H.fz z=false:=hX (by omega)
   have hrz:¬r=z:=fun e=>Zs e.symm
   obtain ⟨vM2,vR2,vD2⟩:=S
   obtain ⟨gm,Zt,pI⟩:=fC.sm
   obtain ⟨gs,Zu,mj⟩:=fC.sr
   have Zv:=fC.gd.sl
   have kz:∀c∈gm++(gs++((mD++BO)++(m++g6))),c < H6.next/\(c∈G0∨r<=c):=fun c hc=>by
    have Tf:∀c∈gP,c < H6.next/\(c∈G0∨r<=c):=fun c hc=>⟨(fC.q.hP c hc).1,fC.pz c hc⟩
    simp only [List.mem_append] at hc
    rcases hc with e | e | (e | e) | e | e
    ·exact Tf c (fC.dg c (by simp [pI c e]))
    ·exact Tf c (fC.dg c (by simp [mj c e]))
    ·exact Tf c (fC.md c e).2.1
    ·exact Tf c (fC.dg c (by simp [e]))
    ·exact ⟨(fC.q.hm c e).1,.inr (fC.m0 c e)⟩
    ·exact ⟨(fC.q.hg c e).1,fC.gz c e⟩
   have kzz:∀c∈gm++(gs++((mD++BO)++(m++g6))),¬c=z:=fun c hc=>(kz c hc).2.elim (fun e=>by have:=hG c e;omega) fun e=>by omega
   simp only at Zt Zu Zv
   obtain ⟨aM6,kM6,hv⟩:=Zt.val
   subst hv
   obtain ⟨aR6,kR6,hv⟩:=Zu.val
   subst hv
   obtain ⟨aD6,kD6,hv⟩:=Zv.val
   subst hv
   by_cases hb:tE.bad=0
   ·rw [if_pos hb]
    simp only [go_sem,e6,e2,lS,hb,Iv,K3,hrz,Zs]
    generalize hB:(⟨[.slice aM6 P1.msgs.length kM6,.slice aR6 P1.dk.length kR6,.slice aD6 Zo.length kD6,.slice aN6 tE.ns.length tE.ns.length],31,false,false⟩:cO)=B
    have kk:∀c∈gm++(gs++((mD++BO)++(m++g6))),(((H6.af H.fz).ai z B).af H.fz).get c=H6.get c:=fun c hc=>by rw [bG,aH,if_neg (kzz c hc),bG]
    exact ⟨(((f6.af _).ai (.inr (by omega)) B (by rw [<-hB])).af _).au,_,_,rfl,⟨_,_,_,_,gm,gs,mD++BO,m++g6,rfl,Zt.ae fun c hc=>kk c (by simp [hc]),Zu.ae fun c hc=>kk c (by simp only [List.mem_append];exact .inr (.inl hc)),Zv.ae fun c hc=>kk c (by simp only [List.mem_append] at hc ⊢;exact .inr (.inr (.inl hc))),Lq.sl.ae fun c hc=>kk c (by simp only [List.mem_append] at hc ⊢;exact .inr (.inr (.inr hc))),rfl⟩,fun c hc=>⟨(kz c hc).1,(kz c hc).2.imp id fun e=>by omega⟩⟩
   ·rw [if_neg hb]
    simp only [go_sem,e6,e2,lS,hb,sO,Iv,K3,hrz,Zs]
    exact ⟨((f6.ai (.inr (by omega)) _).af _).au,_,_,_,rfl,hb⟩
end
def Gd (fuel:Nat) (s:bC):Option (Option cC):=
 (Qu fuel s).bind fun a=>match a with
  | none=>some none
  | some P=>(Qx fuel P).bind fun b=>match b with
   | none=>some none
   | some Q=>Ul fuel Q
def aox (n:Nat) (R:Option cC) (H':ad) (w:Value):Prop:=match R with
 | some P=>∃v g,w=.tuple #[v,iV 0,iV 0,iV 0]/\wk H' v P g/\∀c∈g,n<=c/\c < H'.next
 | none=>∃v a b e,w=.tuple #[v,iV a,iV b,iV e]/\e≠0/\∃g,wk H' v {} g/\∀c∈g,n<=c/\c < H'.next
theorem wk.ae {H H':ad} {v:Value} {P:cC} {g:List Nat} (h:wk H v P g) (hk:∀c∈g,H'.get c=H.get c):wk H' v P g:=by
 obtain ⟨vM,vR,vD,vN,gM,gR,gD,gN,rfl,h1,h2,h3,h4,rfl⟩:=h
 exact ⟨vM,vR,vD,vN,gM,gR,gD,gN,rfl,h1.ae fun c hc=>hk c (by simp [hc]),h2.ae fun c hc=>hk c (by simp [hc]),h3.ae fun c hc=>hk c (by simp [hc]),h4.ae fun c hc=>hk c (by simp [hc]),rfl⟩
theorem wk.nil {H:ad}:wk H (.agg #[.slice none 0 0,.slice none 0 0,.slice none 0 0,.slice none 0 0]) {} []:=⟨_,_,_,_,[],[],[],[],rfl,.inl ⟨rfl,rfl,rfl⟩,.inl ⟨rfl,rfl,rfl⟩,.inl ⟨rfl,rfl,rfl⟩,.inl ⟨rfl,rfl,rfl⟩,rfl⟩
section
variable {H:ad}
theorem alr {s:bC} (hs:s.length < 999000) {fuel:Nat} {R:Option cC} (he:Gd fuel s=some R):aj Tryz.prog 31 #[ah s] H (fun w H'=>aG H H'/\aox H.next R H' w):=by
 refine aj.told ?_
 refine amr (Nat.le_refl _) fun hf=>?_
 simp only [Tryz.f31,Option.getD_some]
 unfold Gd at he
 have hX:∀{n:Nat},H.next<=n->H.fz n=false:=fun h=>hf.fresh h
 cases Zw:Qu fuel s with
 | none=>rw [Zw] at he;cases he
 | some A=>
 rw [Zw] at he
 simp only [Option.bind_some] at he
 simp only [go_sem,sO]
 refine ag.by (ahU hs Zw) ?_
 rintro _ H1 - ⟨o1,k1⟩
 have n1:=o1.nx
 simp only [bI] at n1
 have ey:H.fz H1.next=false:=hX (by omega)
 have eV:H.fz H.next=false:=hX (Nat.le_refl _)
 have Lp:H1.get H.next=some ⟨[.slice none 0 0,.slice none 0 0,.slice none 0 0,.slice none 0 0],31,false,false⟩:=(o1.get H.next (by rw [bI];omega)).trans (by rw [aZ,if_pos rfl])
 have Iy:¬H.next=H1.next:=by omega
 have Lr:¬H1.next=H.next:=by omega
 have f01:Fr [] H H1:=((Fr.refl [] H).push _).then (o1.fr [])
 cases A with
 | none=>
  cases he
  obtain ⟨v,a,b,e,rfl,dd,pv⟩:=k1
  obtain ⟨vM,vR,vD,vN,gM,gR,gD,gN,rfl,h1,h2,h3,h4,i4⟩:=pv
  obtain ⟨aM,kM,rfl⟩:=h1.val
  obtain ⟨aR,kR,rfl⟩:=h2.val
  obtain ⟨aD,kD,rfl⟩:=h3.val
  obtain ⟨aN,kN,rfl⟩:=h4.val
  simp only [go_sem,sO,ey,eV,dd,Iy,Lr,Lp]
  generalize hB:(⟨[.slice aM 0 kM,.slice aR 0 kR,.slice aD 0 kD,.slice aN 0 kN],31,false,false⟩:cO)=B
  have vX:B.ro=false:=by rw [<-hB]
  refine ⟨(((f01.push B vX).ai (.inr (Nat.le_refl _)) B vX).af _).au,_,_,_,_,rfl,dd,_,wk.ae ⟨_,_,_,_,gM,gR,gD,gN,rfl,h1,h2,h3,h4,rfl⟩ fun c hc=>?_,fun c hc=>?_⟩
  ·obtain ⟨u1,u2⟩:=i4 c hc
   rw [bI] at u1
   rw [bG,aH,if_neg (by omega),bO u2]
  ·obtain ⟨u1,u2⟩:=i4 c hc
   rw [bI] at u1
   exact ⟨by omega,by show c < H1.next+1;omega⟩
 | some P=>
  simp only at he
  obtain ⟨v,rfl,vM,vR,vD,vN,gM,gR,gD,gN,rfl,h1,h2,h3,h4,i4⟩:=k1
  obtain ⟨aM,kM,rfl⟩:=h1.val
  obtain ⟨aR,kR,rfl⟩:=h2.val
  obtain ⟨aD,kD,rfl⟩:=h3.val
  obtain ⟨aN,kN,rfl⟩:=h4.val
  cases dZ:Qx fuel P with
  | none=>rw [dZ] at he;cases he
  | some B=>
  rw [dZ] at he
  simp only [Option.bind_some] at he
  simp only [go_sem,sO,ey,eV,Iy,Lr,Lp]
  generalize th:(⟨[.slice aM P.msgs.length kM,.slice aR P.dk.length kR,.slice aD P.defs.length kD,.slice aN P.nodes.length kN],31,false,false⟩:cO)=B1
  have zO:B1.ro=false:=by rw [<-th]
  have kp:∀c∈gM++(gR++(gD++gN)),(H1.push B1).get c=H1.get c:=fun c hc=>bO (i4 c hc).2
  have f1p:Fr [] H (H1.push B1):=f01.push B1 zO
  refine ag.by (ahW (h1.ae fun c hc=>kp c (by simp [hc])) (h2.ae fun c hc=>kp c (by simp [hc])) (h3.ae fun c hc=>kp c (by simp [hc])) (h4.ae fun c hc=>kp c (by simp [hc])) (fun c hc=>by rw [bI];have:=(i4 c hc).2;omega) dZ) ?_
  rintro _ H2 - ⟨o2,k2⟩
  have n2:=o2.nx
  rw [bI] at n2
  have f2:Fr [] H H2:=f1p.then (o2.fr [])
  have sx:H2.get H1.next=some B1:=(o2.get H1.next (by rw [bI];omega)).trans (by rw [aZ,if_pos rfl])
  have Pb:H2.get H.next=some ⟨[.slice none 0 0,.slice none 0 0,.slice none 0 0,.slice none 0 0],31,false,false⟩:=(o2.get H.next (by rw [bI];omega)).trans ((bO (by omega)).trans Lp)
  subst th
  have low:∀c∈gM++(gR++(gD++gN)),H.next+1<=c/\c < H1.next:=fun c hc=>by
   have:=i4 c hc
   rw [bI] at this
   exact this
  cases B with
  | none=>
   cases he
   obtain ⟨a,b,e,rfl,dd⟩:=k2
   simp only [go_sem,sO,ey,eV,Iy,Lr,Pb,sx,dd]
   refine ⟨((f2.ai (.inr (by omega)) _).ai (.inr (by omega)) _ |>.af _).au,_,_,_,_,rfl,dd,_,wk.nil,by simp⟩
  | some Q=>
   simp only at he
   obtain ⟨v,g2,rfl,pw,jn⟩:=k2
   obtain ⟨vM,vR,vD,vN,uM,uR,uD,uN,rfl,q1,q2,q3,q4,rfl⟩:=pw
   obtain ⟨bM,lM,rfl⟩:=q1.val
   obtain ⟨bR,lR,rfl⟩:=q2.val
   obtain ⟨bD,lD,rfl⟩:=q3.val
   obtain ⟨bN,lN,rfl⟩:=q4.val
   have WL:∀c∈uM++(uR++(uD++uN)),H.next+1<=c/\c < H2.next/\¬c=H1.next:=fun c hc=>by
    obtain ⟨u1,u2⟩:=jn c hc
    rw [bI] at u2
    rcases u2 with e | e
    ·have:=low c e;exact ⟨by omega,u1,by omega⟩
    ·exact ⟨by omega,u1,by omega⟩
   simp only [go_sem,sO,ey,eV,Iy,Lr,Pb,sx]
   generalize jH:(⟨[.slice bM Q.msgs.length lM,.slice bR Q.dk.length lR,.slice bD Q.defs.length lD,.slice bN Q.nodes.length lN],31,false,false⟩:cO)=B2
   have GQ:B2.ro=false:=by rw [<-jH]
   have Tg:∀c∈uM++(uR++(uD++uN)),(H2.ai H1.next B2).get c=H2.get c:=fun c hc=>by rw [aH,if_neg (WL c hc).2.2]
   have f2p:Fr [] H (H2.ai H1.next B2):=f2.ai (.inr (by omega)) B2 GQ
   refine ag.by (ago (q1.ae fun c hc=>Tg c (by simp [hc])) (q2.ae fun c hc=>Tg c (by simp [hc])) (q3.ae fun c hc=>Tg c (by simp [hc])) (q4.ae fun c hc=>Tg c (by simp [hc])) (fun c hc=>(WL c hc).2.1) he) ?_
   rintro _ H3 - ⟨o3,k3⟩
   have n3:H2.next<=H3.next:=o3.nx
   have f3:Fr [] H H3:=f2p.then (o3.fr [])
   have Ao:H3.get H1.next=some B2:=(o3.get H1.next (by show H1.next < H2.next;omega)).trans (by rw [aH,if_pos rfl])
   have K2:H3.get H.next=some ⟨[.slice none 0 0,.slice none 0 0,.slice none 0 0,.slice none 0 0],31,false,false⟩:=(o3.get H.next (by show H.next < H2.next;omega)).trans (by rw [aH,if_neg Iy];exact Pb)
   subst jH
   cases R with
   | none=>
    obtain ⟨a,b,e,rfl,dd⟩:=k3
    simp only [go_sem,sO,ey,eV,Iy,Lr,K2,Ao,dd]
    exact ⟨((f3.ai (.inr (by omega)) _).ai (.inr (by omega)) _ |>.af _).au,_,_,_,_,rfl,dd,_,wk.nil,by simp⟩
   | some Z=>
    obtain ⟨v,g3,rfl,pw,pC⟩:=k3
    obtain ⟨vM,vR,vD,vN,wM,wR,wD,wN,rfl,y1,y2,y3,y4,rfl⟩:=pw
    have RG:∀c∈wM++(wR++(wD++wN)),H.next+1<=c/\c < H3.next/\¬c=H1.next:=fun c hc=>by
     obtain ⟨u1,u2⟩:=pC c hc
     rcases u2 with e | e
     ·have:=WL c e;exact ⟨by omega,u1,this.2.2⟩
     ·have e:H2.next<=c:=e
      exact ⟨by omega,u1,by omega⟩
    have pw:wk H3 (.agg #[vM,vR,vD,vN]) Z (wM++(wR++(wD++wN))):=⟨_,_,_,_,wM,wR,wD,wN,rfl,y1,y2,y3,y4,rfl⟩
    obtain ⟨cM,jM,rfl⟩:=y1.val
    obtain ⟨cR,jR,rfl⟩:=y2.val
    obtain ⟨cD,jD,rfl⟩:=y3.val
    obtain ⟨cN,jN,rfl⟩:=y4.val
    simp only [go_sem,sO,ey,eV,Iy,Lr,K2,Ao]
    exact ⟨((f3.ai (.inr (by omega)) _).ai (.inr (by omega)) _ |>.af _).au,_,_,rfl,pw.ae fun c hc=>by rw [bG,aH,if_neg (by have:=(RG c hc).1;omega),aH,if_neg (RG c hc).2.2],fun c hc=>⟨by have:=(RG c hc).1;omega,(RG c hc).2.1⟩⟩
end
def Th (p:List Int):Prop:=∀i,i < p.length->0<=p.getD i 0/\p.getD i 0<=i/\p.getD (p.getD i 0).toNat 0=p.getD i 0
theorem DE {H:ad} {v:Value} {p:List Int} {f:List Nat} (h:Sl .int H v p f) (hl:p.length < 1000000):aj Tryz.prog 25 #[v] H (fun r H'=>(∃b,r=.bool b/\(b=true↔Th p))/\H=H'):=by
 refine aml (Nat.le_refl _) fun hf=>?_
 simp only [Tryz.f25,Option.getD_some]
 obtain ⟨a0,c0,gj⟩:=h.val
 simp only [go_sem,gj]
 refine ft 268435356 p.length (fun i V H1=>V 7=.int .i64 (i:Nat)/\H=H1/\∀j,j < i->0<=p.getD j 0/\p.getD j 0<=j/\p.getD (p.getD j 0).toNat 0=p.getD j 0) ⟨by simp only [go_sem];rfl,rfl,fun j hj=>by omega⟩ ?_ ?_ (by rfl)
 ·rintro i V H1 hi ⟨e7,rfl,fG⟩
  obtain ⟨b,o,c,B,hv,hB,dI,dN⟩:=h.j0 hi
  rw [gj] at hv
  cases hv
  generalize hk:p.getD i 0=k at dN
  by_cases h1:k < 0
  ·simp only [go_sem,e7,hi,hB,dN,h1]
   exact ⟨_,rfl,by constructor;intro h;cases h;intro h;have:=(h i hi).1;omega⟩
  ·by_cases h2:(i:Int) < k
   ·simp only [go_sem,e7,hi,hB,dN,h1,h2]
    exact ⟨_,rfl,by constructor;intro h;cases h;intro h;have:=(h i hi).2.1;omega⟩
   ·have jZ:k.toNat < p.length:=by omega
    have h0:0<=k:=by omega
    obtain ⟨b2,o2,c2,B2,jm,jH,_,uY⟩:=h.j0 jZ
    rw [gj] at jm
    cases jm
    rw [hB] at jH
    cases jH
    by_cases h3:p.getD k.toNat 0=k
    ·simp only [go_sem,e7,hi,hB,dN,h1,h2,h0,jZ,uY,h3,cG hi (by omega)]
     refine fun j hj=>?_
     by_cases lr:j=i
     ·subst lr;rw [hk];exact ⟨h0,by omega,h3⟩
     ·exact fG j (by omega)
    ·simp only [go_sem,e7,hi,hB,dN,h1,h2,h0,jZ,uY,h3]
     exact ⟨_,rfl,by constructor;intro h;cases h;intro h;have:=(h i hi).2.2;rw [hk] at this;exact absurd this h3⟩
 ·rintro V H1 ⟨e7,rfl,fG⟩
  simp only [go_sem,e7]
  exact ⟨_,rfl,by constructor;intro _;exact fG;intro _;rfl⟩
def In (l:List Int) (n:Nat):Prop:=∀x∈l,0<=x/\x < n
theorem In.at {l:List Int} {n i:Nat} (h:In l n) (hi:i < l.length):0<=l.getD i 0/\l.getD i 0 < n:=by
 have e:l.getD i 0=l[i]:=by simp [List.getD_eq_getElem?_getD,hi]
 rw [e];exact h _ (List.getElem_mem hi)
def Iz (v n:Int):Int:=if n < 1 then 0 else if Int.tmod v n < 0 then Int.tmod v n+n else Int.tmod v n
theorem als (v n:Int) (h:1<=n):0<=Iz v n/\Iz v n < n:=by
 have h1:Int.tmod v n < n:=Int.tmod_lt_of_pos v (by omega)
 have h2: -n < Int.tmod v n:=by
  have:=Int.tmod_lt_of_pos (-v) (show 0 < n by omega)
  rw [Int.neg_tmod] at this
  omega
 unfold Iz
 rw [if_neg (by omega)]
 split <;> omega
theorem FM {n:Int} (h1: -9223372036854775808<=n) (h2:n < 9223372036854775808):IntKind.wrap .i64 n=n:=by
 apply LH
 cases n with
 | ofNat a=>show Nat.blt a 9223372036854775808=true;rw [blt_eq,decide_eq_true_eq];have:(Int.ofNat a)=(a:Int):=rfl;omega
 | negSucc a=>show Nat.blt a 9223372036854775808=true;rw [blt_eq,decide_eq_true_eq];have:=Int.negSucc_eq a;omega
theorem ag6 {H:ad} {v n:Int} (hn:n < 4611686018427387904):aj Tryz.prog 19 #[.int .i64 v,.int .i64 n] H (fun r H'=>r=.int .i64 (Iz v n)/\H=H'):=by
 refine ami (Nat.le_refl _) fun hf=>?_
 simp only [Tryz.f19,Option.getD_some]
 by_cases h1:n < 1
 ·simp only [go_sem,h1]
  simp [Iz,h1]
 ·have tf:n≠0:=by omega
  have b1:Int.tmod v n < n:=Int.tmod_lt_of_pos v (by omega)
  have b2: -n < Int.tmod v n:=by
   have:=Int.tmod_lt_of_pos (-v) (show 0 < n by omega)
   rw [Int.neg_tmod] at this
   omega
  by_cases h2:Int.tmod v n < 0
  ·have hw:=FM (n:=Int.tmod v n+n) (by omega) (by omega)
   simp only [go_sem,h1,tf,h2,hw]
   simp [Iz,h1,h2]
  ·simp only [go_sem,h1,tf,h2]
   simp [Iz,h1,h2]
theorem AR {H:ad}:∀{l:List Int} {cs:List Value} {f:List Nat},dT Rp.int H cs l f->f=[]
 | [],cs,f,h=>h
 | x::l,cs,f,h=>by
  obtain ⟨c,gi,f1,f2,rfl,rfl,⟨rfl,rfl⟩,h2⟩:=h
  rw [AR h2];rfl
theorem Qf {H:ad} {v:Value} {l:List Int} {f:List Nat} (h:Sl .int H v l f) (hl:l.length < 1000000):
  aj Tryz.prog 47 #[v] H (fun v' H'=>aG H H'/\∃f',Sl .int H' v' l f'/\iM H.next H' f'/\∀y∈f',H'.fz y=false):=by
 have main:bY H->aj Tryz.prog 47 #[v] H (fun v' H'=>aG H H'/\∃f',Sl .int H' v' l f'/\iM H.next H' f'):=fun qO=>by
  refine acQ (Nat.le_refl _) fun hf=>?_
  simp only [Tryz.f47,Option.getD_some]
  have MU:=h.src (size:=1) rfl
  rcases h with ⟨rfl,rfl,rfl⟩ | ⟨a,c,rfl,rfl,rfl⟩ | ⟨b,o,c,B,g,rfl,dd,Sd,rfl,hB,hA⟩
  ·simp only [go_sem]
   exact ⟨aG.refl H,[],.inl ⟨rfl,rfl,rfl⟩,⟨List.nodup_nil,by simp,by simp⟩⟩
  ·have hx:H.fz H.next=false:=hf.fresh (Nat.le_refl _)
   simp only [go_sem,Pz iR (by decide)]
   rw [Mc (n:=0) (new:=[]) iR rfl rfl (by rw [aZ,if_pos rfl]) rfl (Nat.le_refl _) (by decide) (Nat.le_refl _) rfl]
   simp only [go_sem,hx]
   exact ⟨aG.push H _,[],.inr (.inl ⟨_,_,rfl,rfl,rfl⟩),⟨List.nodup_nil,by simp,by simp⟩⟩
  ·have hx:H.fz H.next=false:=hf.fresh (Nat.le_refl _)
   have oR:0 < l.length:=List.length_pos_iff.2 dd
   have bf:=hf.AZ hB
   have Vl:=(Sl.src (r:=.int) (H:=H.push ⟨[],3,false,false⟩) (v:=.slice (some ⟨b,o,none⟩) l.length c) (l:=l) (f:=b::g) (.inr (.inr ⟨b,o,c,B,g,rfl,dd,Sd,rfl,by rw [bO bf];exact hB,by
    have:=AR hA;subst this;exact hA.ae (by simp)⟩)) (size:=1) rfl)
   obtain ⟨cs,g2,e1,e2,e3,_⟩:=Vl
   have:=AR e3;subst this
   simp only [go_sem,Pz iR (by decide)]
   rw [FF iR e1 (by rw [aZ,if_pos rfl]) (by simp) (Nat.le_refl _) (by omega) (by omega)]
   simp only [go_sem]
   refine ⟨(aG.push H _).trans (aG.push _ _),[H.next+1],.inr (.inr ⟨H.next+1,0,l.length,_,[],rfl,dd,Nat.le_refl _,rfl,by rw [aZ,bI,if_pos rfl],?_⟩),⟨by simp,by simp,by simp [bI]⟩⟩
   exact e3.ae (by simp)
 intro hf
 refine aj.af ((main hf).mono fun v' H' Xj ⟨hold,f',hs,ho⟩=>⟨H.fz,fun b hb=>hb,fun b hb=>Nat.lt_of_lt_of_le (hf.fz b hb) hold.nx,⟨⟨hold.nx,hold.get,hold.ro⟩,f',hs.ae (fun b hb=>rfl),⟨ho.nd,ho.lo,ho.hi⟩,fun y hy=>hf.fresh (ho.lo y hy)⟩⟩) hf
theorem ag7 {H:ad} {b:Nat} {B:cO} {a:Option Addr} {n c:Nat} {x:Int} (hB:H.get b=some B) (hc:B.cells[0]?=some (.slice a n c)):aj Tryz.prog 143 #[.int .i64 x,.pointer (some ⟨b,0,none⟩)] H (fun r H'=>(∃q,r=.bool q/\(q=true↔¬(0<=x/\x < (n:Nat))))/\H=H'):=by
 refine aj4 (Nat.le_refl _) fun hf=>?_
 simp only [Tryz.f143,Option.getD_some]
 by_cases h1:x < 0
 ·simp only [go_sem,h1]
  exact ⟨_,rfl,by constructor;intro _;omega;intro _;rfl⟩
 ·by_cases h2:((n:Nat):Int)<=x
  ·simp only [go_sem,h1,hB,hc,h2]
   exact ⟨_,rfl,by constructor;intro _;omega;intro _;rfl⟩
  ·simp only [go_sem,h1,hB,hc,h2]
   exact ⟨_,rfl,by constructor;intro h;cases h;intro h;omega⟩
theorem ag8 {H:ad} {w:Value} {l:List Int} {g:List Nat} {b:Nat} {q:Int->Prop} (hg:Sl .int H w l g) (hl:l.length < 1000000)
  (hq:∀x,aj Tryz.prog 143 #[.int .i64 x,.pointer (some ⟨b,0,none⟩)] H (fun r H'=>(∃t,r=.bool t/\(t=true↔q x))/\H=H')):
  aj Tryz.prog 158 #[w,.func (.func 143) #[] #[.pointer (some ⟨b,0,none⟩)]] H (fun r H'=>(∃k:Int,r=.int .i64 k/\(0<=k↔∃x∈l,q x))/\H=H'):=by
 refine akw (Nat.le_refl _) fun hf=>?_
 simp only [Tryz.f158,Option.getD_some]
 obtain ⟨a1,c1,nC⟩:=hg.val
 simp only [go_sem,nC]
 refine ft 524080 l.length (fun i V H1=>V 8=.int .i64 (i:Nat)/\H=H1/\∀j,j < i->¬q (l.getD j 0)) ⟨by simp only [go_sem];rfl,rfl,fun j hj=>by omega⟩ ?_ ?_ (by rfl)
 ·rintro i V H1 hi ⟨e8,rfl,fG⟩
  obtain ⟨b2,o2,c2,B2,jm,jH,_,uY⟩:=hg.j0 hi
  rw [nC] at jm
  cases jm
  simp only [go_sem,e8,hi,jH,uY]
  refine ag.by (hq _) ?_
  rintro _ _ - ⟨⟨t,rfl,ht⟩,rfl⟩
  have py:l.getD i 0∈l:=by simp [List.getD_eq_getElem?_getD,hi]
  cases t
  ·simp only [go_sem,e8,cG hi (by omega)]
   refine fun j hj=>?_
   by_cases lr:j=i
   ·subst lr;simpa using ht
   ·exact fG j (by omega)
  ·simp only [go_sem,e8]
   exact ⟨_,rfl,⟨fun _=>⟨_,py,ht.1 rfl⟩,fun _=>by omega⟩⟩
 ·rintro V H1 ⟨e8,rfl,fG⟩
  simp only [go_sem,e8]
  refine ⟨_,rfl,⟨fun h=>absurd h (by decide),fun ⟨x,hx,hqx⟩=>?_⟩⟩
  obtain ⟨i,hi,rfl⟩:=List.getElem_of_mem hx
  have e:l.getD i 0=l[i]:=by simp [List.getD_eq_getElem?_getD,hi]
  exact absurd hqx (e▸fG i hi)
theorem afj {H:ad} {w:Value} {l:List Int} {g:List Nat} {b:Nat} {q:Int->Prop} (hg:Sl .int H w l g) (hl:l.length < 1000000)
  (hq:∀x,aj Tryz.prog 143 #[.int .i64 x,.pointer (some ⟨b,0,none⟩)] H (fun r H'=>(∃t,r=.bool t/\(t=true↔q x))/\H=H')):
  aj Tryz.prog 142 #[w,.func (.func 143) #[] #[.pointer (some ⟨b,0,none⟩)]] H (fun r H'=>(∃t,r=.bool t/\(t=true↔∃x∈l,q x))/\H=H'):=by
 refine aj2 (Nat.le_refl _) fun hf=>?_
 simp only [Tryz.f142,Option.getD_some]
 simp only [go_sem]
 refine ag.by (ag8 hg hl hq) ?_
 rintro _ _ - ⟨⟨k,rfl,hk⟩,rfl⟩
 simp only [go_sem]
 exact ⟨_,rfl,by rw [decide_eq_true_iff];exact hk⟩
theorem Qg {H:ad} {v w:Value} {p l:List Int} {f g:List Nat} (h:Sl .int H v p f) (hg:Sl .int H w l g) (gu:∀y∈g,y < H.next) (hl:l.length < 1000000):
  aj Tryz.prog 116 #[v,w] H (fun r H'=>aG H H'/\∃b,r=.bool b/\(b=true↔In l p.length)):=by
 refine ajk (Nat.le_refl _) fun hf=>?_
 simp only [Tryz.f116,Option.getD_some]
 obtain ⟨a0,c0,gj⟩:=h.val
 simp only [go_sem,gj]
 refine ag.by (afj (q:=fun x=>¬(0<=x/\x < (p.length:Nat))) (hg.ae fun y hy=>bO (gu y hy)) hl (fun x=>ag7 (by rw [aZ,if_pos rfl]) rfl)) ?_
 rintro _ _ - ⟨⟨t,rfl,ht⟩,rfl⟩
 simp only [go_sem]
 refine ⟨aG.push H _,_,rfl,?_⟩
 have e:(t=true)↔¬In l p.length:=ht.trans ⟨fun ⟨x,hx,hn⟩ hi=>hn (hi x hx),fun hn=>Classical.byContradiction fun hc=>hn fun x hx=>Classical.byContradiction fun h=>hc ⟨x,hx,h⟩⟩
 cases t
 ·exact ⟨fun _=>Classical.byContradiction fun h=>(by have:=e.2 h;cases this),fun _=>rfl⟩
 ·exact ⟨fun h=>(by cases h),fun h=>absurd h (e.1 rfl)⟩
theorem Qh {k k':IntKind} {a b:Int} {h:KH}:zd false (.int k a) (.int k' b) h=.ok (.int k (min a b)) h:=by
 simp only [zd,yU,cond_false]
 by_cases hb:b < a
 ·simp only [hb,decide_true,cond_true];rw [Int.min_eq_right (by omega)]
 ·simp only [hb,decide_false,cond_false];rw [Int.min_eq_left (by omega)]
theorem P0 {xs:List Int} {i j:Nat} {x:Int} (hi:i < xs.length):(xs.set i x).getD j 0=if j=i then x else xs.getD j 0:=by
 rw [List.getD_eq_getElem?_getD,List.getElem?_set,List.getD_eq_getElem?_getD]
 by_cases h:i=j
 ·subst h;simp [hi]
 ·rw [if_neg h,if_neg (fun e=>h e.symm)]
def WM (q q':List Int) (a b:Int):Prop:=q'.length=q.length/\∀j,j < q.length->q'.getD j 0=if q.getD j 0=a∨q.getD j 0=b then min a b else q.getD j 0
theorem adn {H:ad} {v:Value} {q:List Int} {f:List Nat} {a b:Int} (h:Sl .int H v q f) (mW:∀y∈f,H.fz y=false) (vX:∀y∈f,∀B,H.get y=some B->B.ro=false)
  (ha:0<=a/\a < q.length) (hb:0<=b/\b < q.length) (hl:q.length < 1000000):
  aj Tryz.prog 48 #[v,.int .i64 a,.int .i64 b] H (fun _ H'=>∃q',WM q q' (q.getD a.toNat 0) (q.getD b.toNat 0)/\Sl .int H' v q' f/\qi f H H'):=by
 refine amE (Nat.le_refl _) fun hf=>?_
 simp only [Tryz.f48,Option.getD_some]
 obtain ⟨ma,ha1⟩:=ha
 obtain ⟨uk,fB⟩:=hb
 have CU:a.toNat < q.length:=by omega
 have eo:b.toNat < q.length:=by omega
 obtain ⟨b0,o0,c0,B0,gj,yv,aB7,xJ⟩:=h.j0 CU
 obtain ⟨b0',o0',c0',B0',aeK,aeL,_,oY⟩:=h.j0 eo
 rw [gj] at aeK
 cases aeK
 rw [yv] at aeL
 cases aeL
 generalize hda:q.getD a.toNat 0=x at xJ ⊢
 generalize SA:q.getD b.toNat 0=y at oY ⊢
 simp only [go_sem,gj,ma,CU,uk,eo,yv,xJ,oY]
 refine ft 274877644992 q.length (fun i V H1=>V 18=.int .i64 (i:Nat)/\∃q',q'.length=q.length/\(∀j,j < q.length->q'.getD j 0=if j < i/\(q.getD j 0=x∨q.getD j 0=y) then min x y else q.getD j 0)/\Sl .int H1 v q' f/\qi f H H1)
  ⟨by simp only [go_sem];rfl,q,rfl,fun j hj=>by simp,h,qi.refl vX⟩ ?_ ?_ (by rfl)
 ·rintro i V H1 hi ⟨Ls,q',gq,gV,hs,hu⟩
  have dU:i < q'.length:=by omega
  obtain ⟨b1,o1,c1,B1,nC,th,rfl,bf,dN,jk⟩:=hs.Qb dU
  rw [gj,gq] at nC
  cases nC
  have aeM:q'.getD i 0=q.getD i 0:=by rw [gV i hi];simp
  rw [aeM] at dN
  generalize hk:q.getD i 0=k at dN
  have hX:H.fz b0=false:=mW b0 (by simp)
  have zO:B1.ro=false:=hu.ro b0 (by simp) B1 th
  have key:∀Zx:List Int,(∀j,j < q.length->Zx.getD j 0=if j=i then (if k=x∨k=y then min x y else k) else q'.getD j 0)->∀j,j < q.length->Zx.getD j 0=if j < i+1/\(q.getD j 0=x∨q.getD j 0=y) then min x y else q.getD j 0:=by
   intro Zx hq j hj
   rw [hq j hj]
   by_cases lr:j=i
   ·subst lr;rw [if_pos rfl,hk];simp
   ·rw [if_neg lr,gV j hj]
    have:j < i↔j < i+1:=by omega
    simp only [this]
  have hw:=cG hi (by omega)
  have dE:o0+i+1<=B1.cells.length:=bf
  by_cases h1:k=x
  ·simp only [go_sem,Ls,hi,th,dN,h1,Qh,bf,dE,hX,zO,hw]
   exact ⟨q'.set i (min x y),by rw [List.length_set];exact gq,key _ (fun j hj=>by rw [P0 dU,h1];simp),jk _ (min x y) (if_pos rfl),hu.ai (by simp) rfl⟩
  ·by_cases h2:k=y
   ·simp only [go_sem,Ls,hi,th,dN,h1,h2,Qh,bf,dE,hX,zO,hw]
    have yp:¬y=x:=fun e=>h1 (h2.trans e)
    simp only [go_sem,Ls,hi,th,dN,yp,Qh,bf,dE,hX,zO,hw]
    exact ⟨q'.set i (min x y),by rw [List.length_set];exact gq,key _ (fun j hj=>by rw [P0 dU,h2];simp),jk _ (min x y) (if_pos rfl),hu.ai (by simp) rfl⟩
   ·simp only [go_sem,Ls,hi,th,dN,h1,h2,hw]
    exact ⟨q',gq,key _ (fun j hj=>by
     by_cases lr:j=i
     ·subst lr;rw [if_pos rfl,if_neg (by simp [h1,h2]),aeM,hk]
     ·rw [if_neg lr]),hs,hu⟩
 ·rintro V H1 ⟨Ls,q',gq,gV,hs,hu⟩
  simp only [go_sem,Ls]
  refine ⟨q',⟨gq,fun j hj=>?_⟩,by rw [<-gj];exact hs,hu⟩
  rw [gV j hj]
  simp only [hj,true_and]
def vz (p:List Int):Bool:=(List.range p.length).all fun i=>decide (0<=p.getD i 0/\p.getD i 0<=(i:Nat)/\p.getD (p.getD i 0).toNat 0=p.getD i 0)
theorem xP {p:List Int}:vz p=true↔Th p:=by
 unfold vz Th
 simp only [List.all_eq_true,List.mem_range,decide_eq_true_eq]
def Fm (l:List Int) (n:Nat):Bool:=l.all fun x=>decide (0<=x/\x < (n:Nat))
theorem FN {l:List Int} {n:Nat}:Fm l n=true↔In l n:=by
 unfold Fm In
 simp only [List.all_eq_true,decide_eq_true_eq]
def Kl (q:List Int) (x y:Int):List Int:=q.map fun k=>if k=x∨k=y then min x y else k
theorem P4 {p q:List Int} (hl:p.length=q.length) (h:∀i,i < p.length->p.getD i 0=q.getD i 0):p=q:=by
 refine List.ext_getElem hl fun i h1 h2=>?_
 have:=h i h1
 simpa [List.getD_eq_getElem?_getD,h1,h2] using this
theorem getD_map {q:List Int} {g:Int->Int} {i:Nat} (hi:i < q.length):(q.map g).getD i 0=g (q.getD i 0):=by
 simp [List.getD_eq_getElem?_getD,hi]
theorem WM.eq {q q':List Int} {a b:Int} (h:WM q q' a b):q'=Kl q a b:=by
 refine P4 (by unfold Kl;rw [List.length_map];exact h.1) fun i h1=>?_
 have hi:i < q.length:=by rw [<-h.1];exact h1
 unfold Kl
 rw [getD_map hi,h.2 i hi]
theorem aa3 (q:List Int) (x y:Int):(Kl q x y).length=q.length:=List.length_map _
def aoy (l0:Int) (q:List Int) (x:Int):List Int:=Kl q (q.getD l0.toNat 0) (q.getD x.toNat 0)
def MK (p l:List Int):Nat->List Int
 | 0=>p
 | n+1=>aoy (l.getD 0 0) (MK p l n) (l.getD n 0)
theorem LL (p l:List Int):∀n,(MK p l n).length=p.length
 | 0=>rfl
 | n+1=>(aa3 _ _ _).trans (LL p l n)
def At (p l:List Int) (i:Nat):Int:=p.getD (l.getD i 0).toNat 0
def Good (p l:List Int) (n:Nat):Prop:=∀a,a < n->∀k,k < a->At p l a≠At p l k
def Pe (p l:List Int):Bool:=(List.range l.length).all fun a=>(List.range a).all fun k=>decide (¬At p l a=At p l k)
theorem ahZ {p l:List Int}:Pe p l=true↔Good p l l.length:=by
 unfold Pe Good
 simp only [List.all_eq_true,List.mem_range,decide_eq_true_eq,Ne]
def Cw (p l:List Int):Option (List Int × Bool):=if vz p=true/\Fm l p.length=true then some (MK p l l.length,Pe p l) else none
theorem ag9 {H:ad} {v w:Value} {p l:List Int} {f g:List Nat} (h:Sl .int H v p f) (dC:∀y∈f,y < H.next) (hg:Sl .int H w l g) (gu:∀y∈g,y < H.next) (hp:Th p) (fH:In l p.length) (dZ:p.length < 1000000) (fK:l.length < 1000000):
  aj Tryz.prog 141 #[v,w] H (fun r H'=>aG H H'/\∃v' f',r=.tuple #[v',.bool (Pe p l)]/\Sl .int H' v' (MK p l l.length) f'/\iM H.next H' f'):=by
 refine UC (Nat.le_refl _) fun hf=>?_
 simp only [Tryz.f141,Option.getD_some]
 obtain ⟨a0,c0,gj⟩:=h.val
 obtain ⟨a1,c1,iE⟩:=hg.val
 simp only [go_sem]
 refine ag.by (DE h dZ) ?_
 rintro _ _ - ⟨⟨b1,rfl,fB⟩,rfl⟩
 obtain rfl:=fB.2 hp
 simp only [go_sem]
 refine ag.by (Qg h hg gu fK) ?_
 rintro _ H1 - ⟨pY,b2,rfl,eo⟩
 obtain rfl:=eo.2 fH
 have h1:=h.ae fun y hy=>pY.get y (dC y hy)
 simp only [go_sem]
 refine ag.by (Qf h1 dZ) ?_
 rintro v2 H2 - ⟨Ge,f2,fh,dh,tr⟩
 have Cm:=pY.trans Ge
 have h2:=h.ae fun y hy=>Cm.get y (dC y hy)
 have jn:=hg.ae fun y hy=>Cm.get y (gu y hy)
 simp only [go_sem,iE]
 refine ft 4503599593816800 l.length (fun i V H3=>V 25=.int .i64 (i:Nat)/\H2=H3/\∃b,V 5=.bool b/\(b=true↔Good p l i)) ⟨by simp only [go_sem];rfl,rfl,true,by simp only [go_sem],⟨fun _ a ha=>by omega,fun _=>rfl⟩⟩ ?_ ?_ (by rfl)
 ·rintro i V H3 hi ⟨Ti,rfl,b,e5,hb⟩
  obtain ⟨b3,o3,c3,B3,wx,qV,_,nE⟩:=jn.j0 hi
  rw [iE] at wx
  cases wx
  obtain ⟨vt,gt,et,st,sub⟩:=jn.to (P:=Tryz.prog) (t:=22) (k:=i) (by exact ama) (by omega)
  rw [iE] at et
  obtain ⟨at1,ct1,uL⟩:=st.val
  have eF:(l.take i).length=i:=by rw [List.length_take];omega
  rw [eF] at uL
  have hia:=fH.at hi
  simp only [go_sem,Ti,e5,hi,qV,nE,Option.map_none,Option.map_some,et,uL]
  refine ft 2251782633816608 i (fun j V' H4=>V' 34=.int .i64 (j:Nat)/\H2=H4/\∃b,V' 5=.bool b/\(b=true↔Good p l i/\∀k,k < j->At p l i≠At p l k)) ⟨by simp only [go_sem];rfl,rfl,b,by simp only [go_sem,e5],by rw [hb];exact ⟨fun h=>⟨h,fun k hk=>by omega⟩,fun h=>h.1⟩⟩ ?_ ?_ (by rfl)
  ·rintro j V' H4 hj ⟨Tj,rfl,b',Tk,dX⟩
   have hjt:j < (l.take i).length:=by omega
   obtain ⟨b4,o4,c4,B4,sC,qn,_,tK⟩:=st.j0 hjt
   rw [uL,eF] at sC
   cases sC
   have hlj:(l.take i).getD j 0=l.getD j 0:=by simp [List.getD_eq_getElem?_getD,List.getElem?_take,hj]
   rw [hlj] at tK
   have hja:=fH.at (show j < l.length by omega)
   have hZ:(l.getD i 0).toNat < p.length:=by omega
   have l9:(l.getD j 0).toNat < p.length:=by omega
   obtain ⟨b5,o5,c5,B5,ji,wm,_,Ap⟩:=h2.j0 hZ
   obtain ⟨b6,o6,c6,B6,Fo,AB,_,Pf⟩:=h2.j0 l9
   rw [ji] at Fo
   cases Fo
   rw [wm] at AB
   cases AB
   have hw:=cG hj (by omega)
   have step:∀t:Bool,(t=true↔(b'=true/\¬p.getD (l.getD i 0).toNat 0=p.getD (l.getD j 0).toNat 0))->(t=true↔Good p l i/\∀k,k < j+1->At p l i≠At p l k):=by
    intro t ht
    rw [ht,dX]
    constructor
    ·rintro ⟨⟨g1,g2⟩,g3⟩
     refine ⟨g1,fun k hk=>?_⟩
     by_cases RZ:k=j
     ·subst RZ;exact g3
     ·exact g2 k (by omega)
    ·rintro ⟨g1,g2⟩
     exact ⟨⟨g1,fun k hk=>g2 k (by omega)⟩,g2 j (by omega)⟩
   cases b'
   ·simp only [go_sem,Tj,Tk,hj,qn,tK,hw]
    exact ⟨_,rfl,step false (by simp)⟩
   ·simp only [go_sem,Tj,Tk,hj,qn,tK,hw,ji,hia.1,hZ,hja.1,l9,wm,Ap,Pf]
    exact ⟨_,rfl,step _ (by simp)⟩
  ·rintro V' H4 ⟨Tj,rfl,b',Tk,dX⟩
   simp only [go_sem,Tj,Ti,Tk,cG hi (by omega)]
   refine ⟨_,rfl,?_⟩
   rw [dX]
   constructor
   ·rintro ⟨g1,g2⟩ a ha k hk
    by_cases Kw:a=i
    ·subst Kw;exact g2 k hk
    ·exact g1 a (by omega) k hk
   ·exact fun g=>⟨fun a ha=>g a (by omega),fun k hk=>g i (by omega) k hk⟩
 ·rintro V H3 ⟨Ti,rfl,b,e5,hb⟩
  simp only [go_sem,Ti,e5,iE]
  have GQ:∀y∈f2,∀B,H2.get y=some B->B.ro=false:=fun y hy B hB=>Cm.free hf (Nat.le_trans pY.nx (dh.lo y hy)) hB
  refine ft 36875473748909623296 l.length (fun i V' H3=>V' 54=.int .i64 (i:Nat)/\Sl .int H3 v2 (MK p l i) f2/\qi f2 H2 H3) ⟨by simp only [go_sem];rfl,fh,qi.refl GQ⟩ ?_ ?_ (by rfl)
  ·rintro i V' H3 hi ⟨Tl,fZ,hu⟩
   have Fp:=Cm.oT hu (fun y hy=>Nat.le_trans pY.nx (dh.lo y hy))
   have pC:=hg.ae fun y hy=>Fp.get y (gu y hy)
   obtain ⟨b3,o3,c3,B3,wx,qV,_,nE⟩:=pC.j0 hi
   rw [iE] at wx
   cases wx
   have uq:0 < l.length:=by omega
   obtain ⟨b4,o4,c4,B4,sC,qn,_,tK⟩:=pC.j0 uq
   rw [iE] at sC
   cases sC
   rw [qV] at qn
   cases qn
   rw [Nat.add_zero] at tK
   simp only [go_sem,Tl,hi,uq,qV,nE,tK]
   have i0:=fH.at uq
   have i1:=fH.at hi
   refine ag.by (adn fZ (fun y hy=>by rw [hu.fz y];exact tr y hy) hu.ro (by rw [LL];exact i0) (by rw [LL];exact i1) (by rw [LL];exact dZ)) ?_
   rintro _ H4 - ⟨q',ht,jt,Zy⟩
   simp only [go_sem,Tl,cG hi (by omega)]
   rw [ht.eq] at jt
   exact ⟨jt,hu.trans Zy⟩
  ·rintro V' H3 ⟨Tl,fZ,hu⟩
   have jc:b=Pe p l:=by rw [Bool.eq_iff_iff,hb,ahZ]
   subst jc
   simp only [go_sem,Tl,e5]
   exact ⟨Cm.oT hu (fun y hy=>Nat.le_trans pY.nx (dh.lo y hy)),_,f2,rfl,fZ,⟨dh.nd,fun y hy=>Nat.le_trans pY.nx (dh.lo y hy),fun y hy=>by rw [hu.nx];exact dh.hi y hy⟩⟩
theorem alu {H:ad} {v w:Value} {p l:List Int} {f g:List Nat} (h:Sl .int H v p f) (dC:∀y∈f,y < H.next) (hg:Sl .int H w l g) (gu:∀y∈g,y < H.next) (dZ:p.length < 1000000) (fK:l.length < 1000000):
  aj Tryz.prog 141 #[v,w] H (fun r H'=>aG H H'/\match Cw p l with
   | none=>r=.tuple #[.slice none 0 0,.bool false]
   | some (q,b)=>∃v' f',r=.tuple #[v',.bool b]/\Sl .int H' v' q f'/\iM H.next H' f'):=by
 unfold Cw
 by_cases hc:vz p=true
 ·by_cases hi:Fm l p.length=true
  ·rw [if_pos ⟨hc,hi⟩]
   exact ag9 h dC hg gu (xP.1 hc) (FN.1 hi) dZ fK
  ·rw [if_neg fun e=>hi e.2]
   refine UC (Nat.le_refl _) fun hf=>?_
   simp only [Tryz.f141,Option.getD_some]
   simp only [go_sem]
   refine ag.by (DE h dZ) ?_
   rintro _ _ - ⟨⟨b1,rfl,fB⟩,rfl⟩
   obtain rfl:=fB.2 (xP.1 hc)
   simp only [go_sem]
   refine ag.by (Qg h hg gu fK) ?_
   rintro _ H1 - ⟨pY,b2,rfl,eo⟩
   cases b2
   ·simp only [go_sem]
    exact pY
   ·exact absurd (FN.2 (eo.1 rfl)) hi
 ·rw [if_neg fun e=>hc e.1]
  refine UC (Nat.le_refl _) fun hf=>?_
  simp only [Tryz.f141,Option.getD_some]
  simp only [go_sem]
  refine ag.by (DE h dZ) ?_
  rintro _ _ - ⟨⟨b1,rfl,fB⟩,rfl⟩
  cases b1
  ·simp only [go_sem]
   exact aG.refl _
  ·exact absurd (xP.2 (fB.1 rfl)) hc
def WN (n:Nat) (q:List Int):Prop:=q.length=n/\∀j,j < n->q.getD j 0=(j:Int)
theorem aoz {H:ad} {n:Nat} (hn:n < 1000):aj Tryz.prog 33 #[.int .i64 (n:Nat)] H (fun v' H'=>aG H H'/\∃q f',WN n q/\Sl .int H' v' q f'/\iM H.next H' f'):=by
 refine amt (Nat.le_refl _) fun hf=>?_
 simp only [Tryz.f33,Option.getD_some]
 have n1:¬((n:Nat):Int) < 0:=by omega
 have n2:¬(1000:Int) < ((n:Nat):Int):=by omega
 have zI:fx Tryz.prog 3=some [.int .i64 0]:=by kernel_rfl
 simp only [go_sem,n1,n2,I1 iR zI (by decide) (Nat.le_refl n) (by omega) (by omega)]
 have hz:∃f,Sl .int (H.push ⟨fW [.int .i64 0] n,3,false,false⟩) (.slice (some ⟨H.next,0,none⟩) n n) (List.replicate n 0) f/\iM H.next (H.push ⟨fW [.int .i64 0] n,3,false,false⟩) f:=by
  by_cases h0:n=0
  ·subst h0;exact ⟨[],.inr (.inl ⟨_,_,rfl,rfl,rfl⟩),⟨by simp,by simp,by simp⟩⟩
  ·exact ⟨[H.next],.inr (.inr ⟨H.next,0,n,_,[],by rw [List.length_replicate],by simp [h0],by simp,rfl,by rw [aZ,if_pos rfl],T2 (r:=.int) (x:=0) (Rp.wG.2 ⟨rfl,rfl⟩) n⟩),⟨by simp,by simp,by simp [bI]⟩⟩
 obtain ⟨f,hs,ho⟩:=hz
 refine ft 8355856 n (fun i V H1=>V 15=.int .i64 (i:Nat)/\∃q,q.length=n/\(∀j,j < i->q.getD j 0=(j:Int))/\Sl .int H1 (.slice (some ⟨H.next,0,none⟩) n n) q f/\iM H.next H1 f/\aG H H1) ⟨by simp only [go_sem];rfl,_,by simp,fun j hj=>by omega,hs,ho,aG.push H _⟩ ?_ ?_ (by rfl)
 ·rintro i V H1 hi ⟨Pg,q,gq,gV,cZ,jd,hold⟩
  have dU:i < q.length:=by omega
  obtain ⟨b8,o8,c8,B8,rh,ph,BK,bf,dN,jk⟩:=cZ.Qb dU
  rw [gq] at rh
  cases rh
  have hX:H.fz H.next=false:=hf.fresh (Nat.le_refl _)
  have zO:B8.ro=false:=hold.free hf (Nat.le_refl _) ph
  have dE:i+1<=B8.cells.length:=by omega
  have hV:i < B8.cells.length:=by omega
  simp only [go_sem,Pg,hi,ph,hV,dE,hX,zO,cG hi (by omega)]
  refine ⟨q.set i (i:Int),by rw [List.length_set];exact gq,fun j hj=>?_,by rw [BK];exact jk _ _ (by rw [aH,if_pos rfl,Nat.zero_add]),⟨jd.nd,jd.lo,jd.hi⟩,hold.ai (Nat.le_refl _) _⟩
  rw [P0 dU]
  by_cases xg:j=i
  ·subst xg;rw [if_pos rfl]
  ·rw [if_neg xg,gV j (by omega)]
 ·rintro V H1 ⟨Pg,q,gq,gV,cZ,jd,hold⟩
  simp only [go_sem,Pg]
  exact ⟨hold,q,f,⟨gq,gV⟩,cZ,jd⟩
def j6 (n:Nat):List Int:=(List.range n).map fun i=>((i:Nat):Int)
theorem WN.eq {n:Nat} {q:List Int} (h:WN n q):q=j6 n:=by
 refine P4 (by unfold j6;rw [List.length_map,List.length_range];exact h.1) fun i h1=>?_
 have h2:i < n:=by rw [<-h.1];exact h1
 rw [h.2 i h2]
 unfold j6
 simp [List.getD_eq_getElem?_getD,h2]
def Ns (x:Int):Nat->List Int->Int
 | _,[]=> -1
 | i,y::l=>if x=y then ((i:Nat):Int) else Ns x (i+1) l
def GR (l:List Int) (x:Int):Int:=Ns x 0 l
theorem IM {p:List Int} {i:Nat} (hi:i < p.length):p.drop i=p.getD i 0::p.drop (i+1):=by
 rw [List.getD_eq_getElem?_getD,List.getElem?_eq_getElem hi,Option.getD_some];exact (List.getElem_cons_drop hi).symm
theorem abA {H:ad} {v:Value} {p:List Int} {f:List Nat} (h:Sl .int H v p f) (hl:p.length < 1000000) {x:Int}:aj Tryz.prog 144 #[v,.int .i64 x] H (fun r H'=>r=.int .i64 (GR p x)/\H=H'):=by
 refine aj6 (Nat.le_refl _) fun hf=>?_
 simp only [Tryz.f144,Option.getD_some]
 obtain ⟨a0,c0,gj⟩:=h.val
 simp only [go_sem,gj]
 refine ft 524080 p.length (fun i V H1=>V 8=.int .i64 (i:Nat)/\H=H1/\GR p x=Ns x i (p.drop i)) ⟨by simp only [go_sem] <;> rfl,rfl,rfl⟩ ?_ ?_ (by rfl)
 ·rintro i V H1 hi ⟨e8,rfl,fG⟩
  obtain ⟨b,o,c,B,hv,hB,_,dN⟩:=h.j0 hi
  rw [gj] at hv
  cases hv
  rw [IM hi,Ns] at fG
  by_cases hx:x=p.getD i 0
  ·rw [if_pos hx] at fG
   rw [fG]
   rw [<-hx] at dN
   simp only [go_sem,e8,hi,hB,dN]
  ·rw [if_neg hx] at fG
   simp only [go_sem,e8,hi,hB,dN,hx,cG hi (by omega)]
   exact fG
 ·rintro V H1 ⟨e8,rfl,fG⟩
  rw [List.drop_length,Ns] at fG
  rw [fG]
  simp only [go_sem,e8]
def CO (q:List Int):List Int:=q.map (GR q)
theorem aa4 {H:ad} {v:Value} {p:List Int} {f:List Nat} (h:Sl .int H v p f) (dC:∀y∈f,y < H.next) (hl:p.length < 1000000):aj Tryz.prog 117 #[v] H (fun v' H'=>aG H H'/\∃f',Sl .int H' v' (CO p) f'/\iM H.next H' f'):=by
 refine ajm (Nat.le_refl _) fun hf=>?_
 simp only [Tryz.f117,Option.getD_some]
 obtain ⟨a0,c0,gj⟩:=h.val
 have zI:fx Tryz.prog 3=some [.int .i64 0]:=by kernel_rfl
 simp only [go_sem,gj,I1 iR zI (by decide) (Nat.le_refl p.length) (by omega) (by omega)]
 have hz:∃f,Sl .int (H.push ⟨fW [.int .i64 0] p.length,3,false,false⟩) (.slice (some ⟨H.next,0,none⟩) p.length p.length) (List.replicate p.length 0) f/\iM H.next (H.push ⟨fW [.int .i64 0] p.length,3,false,false⟩) f:=by
  by_cases h0:p.length=0
  ·rw [h0];exact ⟨[],.inr (.inl ⟨_,_,rfl,rfl,rfl⟩),⟨by simp,by simp,by simp⟩⟩
  ·exact ⟨[H.next],.inr (.inr ⟨H.next,0,p.length,_,[],by rw [List.length_replicate],by simpa using h0,by simp,rfl,by rw [aZ,if_pos rfl],T2 (r:=.int) (x:=0) (Rp.wG.2 ⟨rfl,rfl⟩) p.length⟩),⟨by simp,by simp,by simp [bI]⟩⟩
 obtain ⟨f1,hs,ho⟩:=hz
 refine ft 8386608 p.length (fun i V H1=>V 11=.int .i64 (i:Nat)/\∃q,q.length=p.length/\(∀j,j < i->q.getD j 0=(CO p).getD j 0)/\Sl .int H1 (.slice (some ⟨H.next,0,none⟩) p.length p.length) q f1/\iM H.next H1 f1/\aG H H1) ⟨by simp only [go_sem] <;> rfl,_,by simp,fun j hj=>by omega,hs,ho,aG.push H _⟩ ?_ ?_ (by rfl)
 ·rintro i V H1 hi ⟨nf,q,gq,gV,cZ,jd,hold⟩
  have Dq:=h.ae fun y hy=>hold.get y (dC y hy)
  obtain ⟨b,o,c,B,hv,hB,_,dN⟩:=Dq.j0 hi
  rw [gj] at hv
  cases hv
  simp only [go_sem,nf,hi,hB,dN,gj]
  rw [gj] at Dq
  refine ag.by (abA Dq hl) ?_
  rintro _ _ - ⟨rfl,rfl⟩
  have dU:i < q.length:=by omega
  obtain ⟨b8,o8,c8,B8,rh,ph,BK,bf,alv,jk⟩:=cZ.Qb dU
  rw [gq] at rh
  cases rh
  have hX:H.fz H.next=false:=hf.fresh (Nat.le_refl _)
  have zO:B8.ro=false:=hold.free hf (Nat.le_refl _) ph
  have dE:i+1<=B8.cells.length:=by omega
  have hV:i < B8.cells.length:=by omega
  simp only [go_sem,nf,hi,ph,hV,dE,hX,zO,cG hi (by omega)]
  refine ⟨q.set i (GR p (p.getD i 0)),by rw [List.length_set];exact gq,fun j hj=>?_,by rw [BK];exact jk _ _ (by rw [aH,if_pos rfl,Nat.zero_add]),⟨jd.nd,jd.lo,jd.hi⟩,hold.ai (Nat.le_refl _) _⟩
  rw [P0 dU]
  by_cases xg:j=i
  ·subst xg;rw [if_pos rfl,CO,getD_map hi]
  ·rw [if_neg xg,gV j (by omega)]
 ·rintro V H1 ⟨nf,q,gq,gV,cZ,jd,hold⟩
  simp only [go_sem,nf]
  have:q=CO p:=P4 (by rw [gq,CO,List.length_map]) fun i hi=>gV i (by omega)
  exact ⟨hold,f1,this▸cZ,jd⟩
def Eo (p l:List Int):Nat->List Int
 | 0=>p
 | n+1=>(Eo p l n).set (l.getD n 0).toNat (-1 - l.getD n 0)
theorem P5 (p l:List Int):∀n,(Eo p l n).length=p.length
 | 0=>rfl
 | n+1=>(List.length_set ..).trans (P5 p l n)
def F0 (p l:List Int):Option (List Int):=if vz p=true/\Fm l p.length=true then some (CO (Eo p l l.length)) else none
def GS (R:Option (List Int)) (H H':ad) (r:Value):Prop:=aG H H'/\match R with
 | none=>r=.slice none 0 0
 | some q=>∃f',Sl .int H' r q f'/\iM H.next H' f'
theorem abB {H:ad} {v w:Value} {p l:List Int} {f g:List Nat} (h:Sl .int H v p f) (dC:∀y∈f,y < H.next) (hg:Sl .int H w l g) (gu:∀y∈g,y < H.next) (dZ:p.length < 1000000) (fK:l.length < 1000000):
  aj Tryz.prog 86 #[v,w] H (fun r H'=>GS (F0 p l) H H' r):=by
 refine anw (Nat.le_refl _) fun hf=>?_
 simp only [Tryz.f86,Option.getD_some]
 obtain ⟨a1,c1,iE⟩:=hg.val
 simp only [go_sem]
 refine ag.by (DE h dZ) ?_
 rintro _ _ - ⟨⟨b1,rfl,fB⟩,rfl⟩
 unfold F0
 by_cases hc:vz p=true
 ·obtain rfl:=fB.2 (xP.1 hc)
  simp only [go_sem]
  refine ag.by (Qg h hg gu fK) ?_
  rintro _ H1 - ⟨pY,b2,rfl,eo⟩
  by_cases hi:Fm l p.length=true
  ·rw [if_pos ⟨hc,hi⟩]
   have fH:=FN.1 hi
   obtain rfl:=eo.2 fH
   have h1:=h.ae fun y hy=>pY.get y (dC y hy)
   simp only [go_sem]
   refine ag.by (Qf h1 dZ) ?_
   rintro v2 H2 - ⟨Ge,f2,fh,dh,tr⟩
   have Cm:=pY.trans Ge
   have GQ:∀y∈f2,∀B,H2.get y=some B->B.ro=false:=fun y hy B hB=>Cm.free hf (Nat.le_trans pY.nx (dh.lo y hy)) hB
   simp only [go_sem,iE]
   refine ft 2145386624 l.length (fun i V' H3=>V' 21=.int .i64 (i:Nat)/\Sl .int H3 v2 (Eo p l i) f2/\qi f2 H2 H3) ⟨by simp only [go_sem] <;> rfl,fh,qi.refl GQ⟩ ?_ ?_ (by rfl)
   ·rintro i V' H3 bX ⟨Zz,fZ,hu⟩
    have Fp:=Cm.oT hu (fun y hy=>Nat.le_trans pY.nx (dh.lo y hy))
    have pC:=hg.ae fun y hy=>Fp.get y (gu y hy)
    obtain ⟨b3,o3,c3,B3,wx,qV,_,nE⟩:=pC.j0 bX
    rw [iE] at wx
    cases wx
    have hx:=fH.at bX
    generalize xf:l.getD i 0=x at nE hx
    have EA:x.toNat < (Eo p l i).length:=by rw [P5];omega
    obtain ⟨b8,o8,c8,B8,rh,ph,BK,bf,alv,jk⟩:=fZ.Qb EA
    have hX:H.fz b8=false:=hf.fresh (Nat.le_trans pY.nx (dh.lo b8 (by rw [BK];simp)))
    have zO:B8.ro=false:=hu.ro b8 (by rw [BK];simp) B8 ph
    have fP:IntKind.wrap .i64 (-1 - x)= -1 - x:=FM (by omega) (by omega)
    have l9:0<=x:=hx.1
    have dE:o8+x.toNat+1<=B8.cells.length:=by omega
    simp only [go_sem,Zz,bX,qV,nE,fP,rh,l9,EA,ph,bf,dE,hX,zO,cG bX (by omega)]
    refine ⟨?_,hu.ai (by rw [BK];simp) rfl⟩
    rw [Eo,xf,BK,<-rh]
    exact jk _ _ (by rw [aH,if_pos rfl])
   ·rintro V' H3 ⟨Zz,fZ,hu⟩
    simp only [go_sem,Zz]
    have Fp:=Cm.oT hu (fun y hy=>Nat.le_trans pY.nx (dh.lo y hy))
    refine ag.by (aa4 fZ (fun y hy=>by rw [hu.nx];exact dh.hi y hy) (by rw [P5];exact dZ)) ?_
    rintro v4 H4 - ⟨o4,f4,jt,lj⟩
    simp only [go_sem]
    exact ⟨Fp.trans o4,f4,jt,⟨lj.nd,fun y hy=>Nat.le_trans Fp.nx (lj.lo y hy),lj.hi⟩⟩
  ·rw [if_neg fun e=>hi e.2]
   cases b2
   ·simp only [go_sem]
    exact ⟨pY,rfl⟩
   ·exact absurd (FN.2 (eo.1 rfl)) hi
 ·rw [if_neg fun e=>hc e.1]
  cases b1
  ·simp only [go_sem]
   exact ⟨aG.refl _,rfl⟩
  ·exact absurd (xP.2 (fB.1 rfl)) hc
def Jk (p b:List Int):Nat->List Int
 | 0=>p
 | n+1=>Kl (Jk p b n) ((Jk p b n).getD n 0) ((Jk p b n).getD (b.getD n 0).toNat 0)
theorem IK (p l:List Int):∀n,(Jk p l n).length=p.length
 | 0=>rfl
 | n+1=>(aa3 _ _ _).trans (IK p l n)
def AW (a b:List Int):Option (List Int):=if vz a=true/\vz b=true/\a.length=b.length then some (Jk a b b.length) else none
theorem abC {H:ad} {v w:Value} {p l:List Int} {f g:List Nat} (h:Sl .int H v p f) (dC:∀y∈f,y < H.next) (hg:Sl .int H w l g) (gu:∀y∈g,y < H.next) (dZ:p.length < 1000000) (fK:l.length < 1000000):
  aj Tryz.prog 26 #[v,w] H (fun r H'=>GS (AW p l) H H' r):=by
 refine amn (Nat.le_refl _) fun hf=>?_
 simp only [Tryz.f26,Option.getD_some]
 obtain ⟨a0,c0,gj⟩:=h.val
 obtain ⟨a1,c1,iE⟩:=hg.val
 simp only [go_sem]
 refine ag.by (DE h dZ) ?_
 rintro _ _ - ⟨⟨b1,rfl,fB⟩,rfl⟩
 unfold AW
 by_cases hc:vz p=true
 ·obtain rfl:=fB.2 (xP.1 hc)
  simp only [go_sem]
  refine ag.by (DE hg fK) ?_
  rintro _ _ - ⟨⟨b2,rfl,eo⟩,rfl⟩
  by_cases hi:vz l=true
  ·have gJ:=xP.1 hi
   obtain rfl:=eo.2 gJ
   by_cases he:p.length=l.length
   ·rw [if_pos ⟨hc,hi,he⟩]
    simp only [go_sem,gj,iE,he]
    have h0:=h
    rw [gj,he] at h0
    refine ag.by (Qf h0 dZ) ?_
    rintro v2 H2 - ⟨Ge,f2,fh,dh,tr⟩
    have GQ:∀y∈f2,∀B,H2.get y=some B->B.ro=false:=fun y hy B hB=>Ge.free hf (dh.lo y hy) hB
    simp only [go_sem,iE]
    refine ft 137304735936 l.length (fun i V' H3=>V' 27=.int .i64 (i:Nat)/\Sl .int H3 v2 (Jk p l i) f2/\qi f2 H2 H3) ⟨by simp only [go_sem] <;> rfl,fh,qi.refl GQ⟩ ?_ ?_ (by rfl)
    ·rintro i V' H3 bX ⟨Tm,fZ,hu⟩
     have Fp:=Ge.oT hu (fun y hy=>dh.lo y hy)
     have pC:=hg.ae fun y hy=>Fp.get y (gu y hy)
     obtain ⟨b3,o3,c3,B3,wx,qV,_,nE⟩:=pC.j0 bX
     rw [iE] at wx
     cases wx
     have hx:=gJ i bX
     simp only [go_sem,Tm,bX,qV,nE]
     refine ag.by (adn fZ (fun y hy=>by rw [hu.fz y];exact tr y hy) hu.ro (by rw [IK];omega) (by rw [IK];omega) (by rw [IK];exact dZ)) ?_
     rintro _ H4 - ⟨q',ht,jt,Zy⟩
     simp only [go_sem,Tm,cG bX (by omega)]
     rw [ht.eq] at jt
     rw [Int.toNat_natCast] at jt
     exact ⟨jt,hu.trans Zy⟩
    ·rintro V' H3 ⟨Tm,fZ,hu⟩
     simp only [go_sem,Tm]
     exact ⟨Ge.oT hu (fun y hy=>dh.lo y hy),f2,fZ,⟨dh.nd,dh.lo,fun y hy=>by rw [hu.nx];exact dh.hi y hy⟩⟩
   ·rw [if_neg fun e=>he e.2.2]
    simp only [go_sem,gj,iE,he]
    exact ⟨aG.refl _,rfl⟩
  ·rw [if_neg fun e=>hi e.2.1]
   cases b2
   ·simp only [go_sem]
    exact ⟨aG.refl _,rfl⟩
   ·exact absurd (xP.2 (eo.1 rfl)) hi
 ·rw [if_neg fun e=>hc e.1]
  cases b1
  ·simp only [go_sem]
   exact ⟨aG.refl _,rfl⟩
  ·exact absurd (xP.2 (fB.1 rfl)) hc
def WO (l:List Int):Bool:=(List.range l.length).all fun i=>decide (i=0∨l.getD (i - 1) 0 < l.getD i 0)
theorem aa5 {l:List Int}:WO l=true↔∀i,i < l.length->i=0∨l.getD (i - 1) 0 < l.getD i 0:=by
 unfold WO
 simp only [List.all_eq_true,List.mem_range,decide_eq_true_eq]
def D4 (p l:List Int):List Int:=l.map fun x=>p.getD x.toNat 0
def QU (p l:List Int):Option (List Int):=if vz p=true/\Fm l p.length=true/\WO l=true then some (CO (D4 p l)) else none
theorem alw {H:ad} {v w:Value} {p l:List Int} {f g:List Nat} (h:Sl .int H v p f) (dC:∀y∈f,y < H.next) (hg:Sl .int H w l g) (gu:∀y∈g,y < H.next) (dZ:p.length < 1000000) (fK:l.length < 1000000):
  aj Tryz.prog 119 #[v,w] H (fun r H'=>GS (QU p l) H H' r):=by
 refine ajp (Nat.le_refl _) fun hf=>?_
 simp only [Tryz.f119,Option.getD_some]
 obtain ⟨a0,c0,gj⟩:=h.val
 obtain ⟨a1,c1,iE⟩:=hg.val
 simp only [go_sem]
 refine ag.by (DE h dZ) ?_
 rintro _ _ - ⟨⟨b1,rfl,fB⟩,rfl⟩
 unfold QU
 by_cases hc:vz p=true
 ·obtain rfl:=fB.2 (xP.1 hc)
  simp only [go_sem]
  refine ag.by (Qg h hg gu fK) ?_
  rintro _ H1 - ⟨pY,b2,rfl,eo⟩
  by_cases hi:Fm l p.length=true
  ·have fH:=FN.1 hi
   obtain rfl:=eo.2 fH
   simp only [go_sem,iE]
   refine ft 8796092498160 l.length (fun i V H2=>V 19=.int .i64 (i:Nat)/\∃v' q f',V 5=v'/\q=D4 p (l.take i)/\Ow .int 3 H2 v' q f'/\iM H.next H2 f'/\aG H H2/\∀j,j < i->j=0∨l.getD (j - 1) 0 < l.getD j 0) ⟨by simp only [go_sem] <;> rfl,_,[],[],by simp only [go_sem] <;> rfl,rfl,Ow.nil _ _ _,⟨by simp,by simp,by simp⟩,pY,fun j hj=>by omega⟩ ?_ ?_ (by rfl)
   ·rintro i V H2 bX ⟨IA,v',q,f',e5,hq,en,dr,hold,RH⟩
    have jn:=hg.ae fun y hy=>hold.get y (gu y hy)
    have BS:=h.ae fun y hy=>hold.get y (dC y hy)
    obtain ⟨b3,o3,c3,B3,wx,qV,_,nE⟩:=jn.j0 bX
    rw [iE] at wx
    cases wx
    have hx:=fH.at bX
    have fP:=cG bX (by omega)
    have rV:=hold.nx
    by_cases bw:i=0∨l.getD (i - 1) 0 < l.getD i 0
    ·have EA:(l.getD i 0).toNat < p.length:=by omega
     obtain ⟨b4,o4,c4,B4,sC,qn,_,tK⟩:=BS.j0 EA
     have l9:=hx.1
     have fin:∀{K:Value->ad->Prop} {tg:Tag K},(∀v5 H5 f5,Ow .int 3 H5 v5 (D4 p (l.take (i+1))) f5->iM H.next H5 f5->aG H H5->K v5 H5)->fe Tryz.prog H.fz (H2.push ⟨[.int .i64 (p.getD (l.getD i 0).toNat 0)],3,false,false⟩) (iZ Tryz.prog 22 v' (.slice (some ⟨H2.next,0,none⟩) 1 1) (H2.push ⟨[.int .i64 (p.getD (l.getD i 0).toNat 0)],3,false,false⟩)) K tg:=by
      intro K tg hk
      refine FG (r:=.int) (x:=p.getD (l.getD i 0).toNat 0) (g:=[]) iR (en.ae fun y hy=>bO (dr.hi y hy)) (fun y hy=>Nat.lt_succ_of_lt (dr.hi y hy)) (by rw [List.append_nil];exact dr.nd) (by simp) (fun y hy=>hf.fresh (dr.lo y hy)) (by rw [aZ,if_pos rfl]) (Rp.wG.2 ⟨rfl,rfl⟩) rfl (by rw [hq,D4,List.length_map,List.length_take];omega) ?_
      intro v5 H5 f5 qK CE ML Nt RI Nu aeN Nv
      have aoA:H5.next=H2.next+2:=RI
      have hp:=hold.trans (aG.push H2 ⟨[.int .i64 (p.getD (l.getD i 0).toNat 0)],3,false,false⟩)
      refine hk v5 H5 f5 ?_ ⟨CE,fun y hy=>?_,Nt⟩ ⟨by omega,fun b hb=>?_,fun b B hB hr=>hp.ro b B (Nv b B hB hr) hr⟩
      ·have:D4 p (l.take (i+1))=q++[p.getD (l.getD i 0).toNat 0]:=by
        rw [hq,List.take_add_one,D4,List.map_append,List.getElem?_eq_getElem bX]
        simp [D4,List.getD_eq_getElem?_getD,bX]
       rw [this];exact qK
      ·rcases ML y hy with e | e | e
       ·rw [bI] at e;omega
       ·exact dr.lo y e
       ·cases e
      ·rw [Nu b (by rw [bI];omega) (fun e=>by have:=dr.lo b e;omega),hp.get b hb]
     by_cases j9:i=0
     ·have Nw:¬(0:Int) < ((i:Nat):Int):=by omega
      simp only [go_sem,IA,e5,bX,qV,nE,Nw,sC,l9,EA,qn,tK,eX iR (by decide) (by decide)]
      refine fin ?_
      intro v5 H5 f5 qK kJ Vm
      simp only [go_sem,IA,fP]
      exact ⟨_,_,f5,rfl,rfl,qK,kJ,Vm,fun j hj=>by
       by_cases lr:j=i
       ·subst lr;exact .inl j9
       ·exact RH j (by omega)⟩
     ·have Nw:(0:Int) < ((i:Nat):Int):=by omega
      have nG:i - 1 < l.length:=by omega
      have qP:IntKind.wrap .i64 (((i:Nat):Int) - 1)=((i - 1:Nat):Int):=by rw [show ((i:Nat):Int) - 1=((i - 1:Nat):Int) by omega];exact tT (by omega)
      obtain ⟨b6,o6,c6,B6,Fo,AB,_,Pf⟩:=jn.j0 nG
      rw [iE] at Fo
      cases Fo
      rw [qV] at AB
      cases AB
      have Al:¬l.getD i 0<=l.getD (i - 1) 0:=by have:=bw.resolve_left j9;omega
      simp only [go_sem,IA,e5,bX,qV,nE,Nw,nG,qP,Pf,Al,sC,l9,EA,qn,tK,eX iR (by decide) (by decide)]
      refine fin ?_
      intro v5 H5 f5 qK kJ Vm
      simp only [go_sem,IA,fP]
      exact ⟨_,_,f5,rfl,rfl,qK,kJ,Vm,fun j hj=>by
       by_cases lr:j=i
       ·subst lr;exact bw
       ·exact RH j (by omega)⟩
    ·have j9:¬i=0:=fun e=>bw (.inl e)
     have Nw:(0:Int) < ((i:Nat):Int):=by omega
     have nG:i - 1 < l.length:=by omega
     have qP:IntKind.wrap .i64 (((i:Nat):Int) - 1)=((i - 1:Nat):Int):=by rw [show ((i:Nat):Int) - 1=((i - 1:Nat):Int) by omega];exact tT (by omega)
     obtain ⟨b6,o6,c6,B6,Fo,AB,_,Pf⟩:=jn.j0 nG
     rw [iE] at Fo
     cases Fo
     rw [qV] at AB
     cases AB
     have Al:l.getD i 0<=l.getD (i - 1) 0:=Int.not_lt.1 fun e=>bw (.inr e)
     rw [if_neg fun e=>bw (aa5.1 e.2.2 i bX)]
     simp only [go_sem,IA,e5,bX,qV,nE,Nw,nG,qP,Pf,Al]
     exact ⟨hold,rfl⟩
   ·rintro V H2 ⟨IA,v',q,f',e5,hq,en,dr,hold,RH⟩
    rw [if_pos ⟨hc,hi,aa5.2 RH⟩]
    rw [List.take_length] at hq
    subst hq
    simp only [go_sem,IA,e5]
    refine ag.by (aa4 en.sl (fun y hy=>dr.hi y hy) (by rw [D4,List.length_map];exact fK)) ?_
    rintro v4 H4 - ⟨o4,f4,jt,lj⟩
    simp only [go_sem]
    exact ⟨hold.trans o4,f4,jt,⟨lj.nd,fun y hy=>Nat.le_trans hold.nx (lj.lo y hy),lj.hi⟩⟩
  ·rw [if_neg fun e=>hi e.2.1]
   cases b2
   ·simp only [go_sem]
    exact ⟨pY,rfl⟩
   ·exact absurd (FN.2 (eo.1 rfl)) hi
 ·rw [if_neg fun e=>hc e.1]
  cases b1
  ·simp only [go_sem]
   exact ⟨aG.refl _,rfl⟩
  ·exact absurd (xP.2 (fB.1 rfl)) hc
abbrev uV (s:Nat):Value:=.int .u64 (s:Int)
section
variable {P:Program} {h:KH} {t:TypeId}
theorem DN {n:Nat} (hn:n < 18446744073709551616):nZ .u64 (Int.ofNat n)=(n:Int):=by
 show (bif Nat.blt n 18446744073709551616 then Int.ofNat n else _)=_
 rw [show Nat.blt n 18446744073709551616=true from by simp [blt_eq,hn],cond_true];rfl
theorem Jl {n:Nat} (hn:n < 18446744073709551616):sW .u64 (Int.ofNat n)=n:=Nat.mod_eq_of_lt hn
theorem aoB {n:Nat} (hn:n < 64):dS P .shl t (.int .u64 1) (iV n) h=.ok (uV (2 ^ n)) h:=by
 have h1:kO P .shl t (.int .u64 1) (iV n)=some (.int .u64 (nZ .u64 (1 * Int.ofNat (2 ^ (bif Nat.ble n 64 then n else 64))))):=rfl
 have h2:2 ^ n < 18446744073709551616:=Nat.lt_of_lt_of_le (Nat.pow_lt_pow_right (by decide) hn) (Nat.le_refl _)
 rw [show Nat.ble n 64=true from by simp [ble_eq];omega,cond_true,Int.one_mul,DN h2] at h1
 simp only [dS,h1]
theorem CP {a b:Nat} (ha:a < 18446744073709551616) (hb:b < 18446744073709551616):dS P .or t (uV a) (uV b) h=.ok (uV (a ||| b)) h:=by
 have h1:kO P .or t (uV a) (uV b)=some (.int .u64 (nZ .u64 (Int.ofNat (Nat.lor (sW .u64 (Int.ofNat a)) (sW .u64 (Int.ofNat b)))))):=rfl
 rw [Jl ha,Jl hb,show Nat.lor a b=a ||| b from rfl,DN (Nat.or_lt_two_pow (n:=64) ha hb)] at h1
 simp only [dS,h1]
def Ep (a b:Nat):Nat:=Nat.land a (18446744073709551615 - b)
theorem Qi {a b:Nat} (ha:a < 18446744073709551616):Ep a b < 18446744073709551616:=Nat.lt_of_le_of_lt Nat.and_le_left ha
theorem aa6 {a b:Nat} (ha:a < 18446744073709551616) (hb:b < 18446744073709551616):dS P .andNot t (uV a) (uV b) h=.ok (uV (Ep a b)) h:=by
 have h1:kO P .andNot t (uV a) (uV b)=some (.int .u64 (nZ .u64 (Int.ofNat (Nat.land (sW .u64 (Int.ofNat a)) (2 ^ 64 - 1 - sW .u64 (Int.ofNat b)))))):=rfl
 rw [Jl ha,Jl hb] at h1
 rw [show Nat.land a (2 ^ 64 - 1 - b)=Ep a b from rfl,DN (Qi ha)] at h1
 simp only [dS,h1]
theorem Vn {a n:Nat} (hn:n < 64):dS P .shr t (uV a) (iV n) h=.ok (uV (a / 2 ^ n)) h:=by
 have h1:kO P .shr t (uV a) (iV n)=some (.int .u64 (Int.fdiv (Int.ofNat a) (Int.ofNat (2 ^ (bif Nat.ble n 64 then n else 64))))):=rfl
 rw [show Nat.ble n 64=true from by simp [ble_eq];omega,cond_true,show Int.fdiv (Int.ofNat a) (Int.ofNat (2 ^ n))=((a / 2 ^ n:Nat):Int) from (Int.fdiv_eq_ediv_of_nonneg _ (Int.natCast_nonneg (2 ^ n))).trans rfl] at h1
 simp only [dS,h1]
theorem UM {a:Nat} (ha:a < 18446744073709551616):dS P .and t (uV a) (.int .u64 1) h=.ok (uV (a % 2)) h:=by
 have h1:kO P .and t (uV a) (.int .u64 1)=some (.int .u64 (nZ .u64 (Int.ofNat (Nat.land (sW .u64 (Int.ofNat a)) 1)))):=rfl
 rw [Jl ha,show Nat.land a 1=a % 2 from Nat.and_one_is_mod a,DN (by omega)] at h1
 simp only [dS,h1]
end
def pA (x:Int):Nat:=if 0<=x/\x < 40 then 2 ^ x.toNat else 0
theorem D5 {H:ad} {x:Int}:aj Tryz.prog 60 #[iV x] H (fun r H'=>r=uV (pA x)/\H=H'):=by
 refine amV (Nat.le_refl _) fun hf=>?_
 simp only [Tryz.f60,Option.getD_some]
 unfold pA
 by_cases h1:x < 0
 ·rw [if_neg (by omega)]
  simp only [go_sem,h1]
  rfl
 ·by_cases h2:40<=x
  ·rw [if_neg (by omega)]
   simp only [go_sem,h1,h2]
   rfl
  ·rw [if_pos (by omega)]
   obtain ⟨n,rfl⟩:=Int.eq_ofNat_of_zero_le (by omega:0<=x)
   simp only [go_sem,h1,h2,aoB (show n < 64 by omega)]
theorem sS (x:Int):pA x < 18446744073709551616:=by
 unfold pA
 split
 ·exact Nat.lt_of_lt_of_le (Nat.pow_lt_pow_right (by decide) (by omega:x.toNat < 40)) (by decide)
 ·decide
theorem Z8 {H:ad} {v:Value} {p:List Int} {f:List Nat} (h:Sl .int H v p f) (hl:p.length < 1000000) {x:Int}:aj Tryz.prog 159 #[v,.int .i64 x] H (fun r H'=>r=.bool (decide (0<=GR p x))/\H=H'):=by
 refine aky (Nat.le_refl _) fun hf=>?_
 simp only [Tryz.f159,Option.getD_some]
 simp only [go_sem]
 refine ag.by (abA h hl) ?_
 rintro _ _ - ⟨rfl,rfl⟩
 simp only [go_sem]
theorem aau {H:ad} {a b c d e f:Int}:qx Tryz.prog 22 6 [(0,.int .i64 a),(1,.int .i64 b),(2,.int .i64 c),(3,.int .i64 d),(4,.int .i64 e),(5,.int .i64 f)] H=.ok (.slice (some ⟨H.next,0,none⟩) 6 6) (H.push ⟨[.int .i64 a,.int .i64 b,.int .i64 c,.int .i64 d,.int .i64 e,.int .i64 f],3,false,false⟩):=
 AK iR (z:=[.int .i64 0]) (by kernel_rfl) (by decide) (by decide) rfl
theorem abD {H:ad} {xs:List Int} (hx:xs≠[]):Sl .int (H.push ⟨xs.map (.int .i64),3,false,false⟩) (.slice (some ⟨H.next,0,none⟩) xs.length xs.length) xs [H.next]:=
 .inr (.inr ⟨H.next,0,_,_,[],rfl,hx,Nat.le_refl _,rfl,by rw [aZ,if_pos rfl],PU _ xs⟩)
def Jm (k:Int):Bool:=decide (0<=GR [1,3,4,5,7,8] k)
theorem abE {H:ad} {k:Int}:aj Tryz.prog 145 #[iV k] H (fun r H'=>r=.bool (Jm k)/\aG H H'):=by
 refine aj.told ?_
 refine aj8 (Nat.le_refl _) fun hf=>?_
 simp only [Tryz.f145,Option.getD_some]
 simp only [go_sem,aau]
 refine ag.by (Z8 (abD (xs:=[1,3,4,5,7,8]) (by simp)) (by simp)) ?_
 rintro _ _ - ⟨rfl,rfl⟩
 simp only [go_sem]
 exact ⟨rfl,(((Fr.refl [] H).push _).af _).au⟩
def QV (k:Int):Bool:=decide (0<=GR [9,5,6,7,15,17] k)
theorem ah0 {H:ad} {k:Int}:aj Tryz.prog 172 #[iV k] H (fun r H'=>r=.bool (QV k)/\aG H H'):=by
 refine aj.told ?_
 refine akX (Nat.le_refl _) fun hf=>?_
 simp only [Tryz.f172,Option.getD_some]
 simp only [go_sem,aau]
 refine ag.by (Z8 (abD (xs:=[9,5,6,7,15,17]) (by simp)) (by simp)) ?_
 rintro _ _ - ⟨rfl,rfl⟩
 simp only [go_sem]
 exact ⟨rfl,(((Fr.refl [] H).push _).af _).au⟩
def Km:List oU->Nat->Nat
 | [],s=>s
 | a::l,s=>Km l (if a.kind=1 then s else s ||| pA a.n)
def RJ (n:aJ):Nat:=Km n.args (if QV n.kind=true then pA n.y else 0)
theorem abF:∀(l:List oU) (s:Nat),s < 18446744073709551616->Km l s < 18446744073709551616
 | [],s,h=>h
 | a::l,s,h=>abF l _ (by
  split
  ·exact h
  ·exact Nat.or_lt_two_pow (n:=64) h (sS _))
theorem abG (n:aJ):RJ n < 18446744073709551616:=abF _ _ (by
 split
 ·exact sS _
 ·decide)
theorem aoC {H:ad} {n:aJ} {vA vQ vB:Value} {gA:List Nat} (hA:Sl jy H vA n.args gA) (yI:∀y∈gA,y < H.next) (hl:n.args.length < 1000000) (hq:∃a k,vQ=.slice a n.pat.length k) (hb:∃a k,vB=.slice a n.ak.length k):
  aj Tryz.prog 161 #[.agg (aU n vA vQ vB).toArray] H (fun r H'=>r=uV (RJ n)/\aG H H'):=by
 refine aj.told ?_
 refine ni (l:=[_]) _ mixed Tryz.func161 akB [.tmp 2] (show 1<=29 by decide) rfl fun hf=>?_
 simp only [Tryz.f161,Option.getD_some]
 obtain ⟨aA,kA,rfl⟩:=hA.val
 obtain ⟨aQ,kQ,rfl⟩:=hq
 obtain ⟨aB,kB,rfl⟩:=hb
 have hX:∀{c:Nat},H.next<=c->H.fz c=false:=fun h=>hf.fresh h
 refine ja (ja (lB 4046 (fun V H1=>V 1=pV H.next/\V 3=uV (if QV n.kind=true then pA n.y else 0)/\Fr [] H H1/\H.next < H1.next/\H1.get H.next=some ⟨aU n (.slice aA n.args.length kA) (.slice aQ n.pat.length kQ) (.slice aB n.ak.length kB),59,false,false⟩) ?_ ?_ (by rfl)))
 ·simp only [go_sem]
  refine ag.by ah0 ?_
  rintro _ H1 - ⟨rfl,o1⟩
  have f1:Fr [] H H1:=((Fr.refl [] H).push _ |>.af _).then (o1.fr [])
  have n1:=o1.nx
  have n1:H.next+1<=H1.next:=n1
  have ib:H1.get H.next=some ⟨aU n (.slice aA n.args.length kA) (.slice aQ n.pat.length kQ) (.slice aB n.ak.length kB),59,false,false⟩:=(o1.get H.next (by show H.next < H.next+1;omega)).trans (by rw [bG,aZ,if_pos rfl])
  by_cases hu:QV n.kind=true
  ·rw [if_pos hu]
   simp only [go_sem,hu,ib]
   refine ag.by D5 ?_
   rintro _ _ - ⟨rfl,rfl⟩
   simp only [go_sem,ib]
   exact ⟨(f1.af _).af _,n1⟩
  ·rw [if_neg hu]
   simp only [Bool.not_eq_true] at hu
   simp only [go_sem,hu,ib]
   exact ⟨rfl,f1.af _,n1⟩
 ·rintro V H1 ⟨e1,e3,f1,n1,ib⟩
  simp only [go_sem,e1,ib]
  refine kC 268402728 n.args.length (fun i V2 H2=>V2 15=iV (i:Nat)/\∃s,V2 3=uV s/\s < 18446744073709551616/\Fr [] H H2/\H.next < H2.next/\RJ n=Km (n.args.drop i) s) ⟨by simp only [go_sem] <;> rfl,_,by simp only [go_sem,e3] <;> rfl,by
   split
   ·exact sS _
   ·decide,f1.af _,n1,rfl⟩ ?_ ?_ (by rfl)
  ·rintro i V2 H2 hi ⟨ei,s,es,hs,f2,n2,ho⟩
   have hx:n.args[i]?=some (n.args[i]'hi):=List.getElem?_eq_getElem hi
   have cT:n.args.drop i=(n.args[i]'hi)::n.args.drop (i+1):=(List.getElem_cons_drop hi).symm
   generalize (n.args[i]'hi)=x at hx cT
   rw [cT,Km] at ho
   obtain ⟨b,o,c,B,gx,hv,hB,dI,df,cb,hE⟩:=(hA.ae (H':=H2) fun y hy=>f2.get y (yI y hy) (by simp)).at hx
   simp only [Value.slice.injEq] at hv
   have iz:=hv.1
   have bg:(B.cells.drop (o+i * 3)).take 3=[iV x.kind,iV x.n,ah x.name]:=hE.1
   have ef:o+i * 3+3<=B.cells.length:=cb
   have cH:IntKind.wrap .i64 (((i:Nat):Int)+1)=((i+1:Nat):Int):=cG hi (by omega)
   have dw:H.fz H2.next=false:=hX (by omega)
   by_cases hk:x.kind=1
   ·rw [if_pos hk] at ho
    simp only [go_sem,ei,hi,iz,hB,ef,bg,dw,hk,es,cH]
    exact ⟨_,rfl,hs,((f2.af _).push _).af _,by show H.next < H2.next+1;omega,ho⟩
   ·rw [if_neg hk] at ho
    simp only [go_sem,ei,hi,iz,hB,ef,bg,dw,hk,es,cH]
    refine ag.by D5 ?_
    rintro _ _ - ⟨rfl,rfl⟩
    simp only [go_sem,ei,es,cH,CP hs (sS _)]
    exact ⟨_,rfl,Nat.or_lt_two_pow (n:=64) hs (sS _),((f2.af _).push _).af _,by show H.next < H2.next+1;omega,ho⟩
  ·rintro V2 H2 ⟨ei,s,es,hs,f2,n2,ho⟩
   rw [List.drop_length,Km] at ho
   simp only [go_sem,ei,es]
   exact ⟨by rw [ho],(f2.af _).au⟩
def A8 (s:Nat):Nat->List Int
 | 0=>[]
 | n+1=>if s / 2 ^ n % 2=1 then A8 s n++[((n:Nat):Int)] else A8 s n
theorem T6 (s:Nat):∀n,(A8 s n).length<=n
 | 0=>Nat.le_refl _
 | n+1=>by
  rw [A8]
  have:=T6 s n
  split
  ·rw [List.length_append];simp;omega
  ·omega
def acg (s:Nat):List Int:=A8 s 40
theorem alx {H:ad} {s:Nat} (hs:s < 18446744073709551616):aj Tryz.prog 147 #[uV s] H (fun r H'=>aG H H'/\∃f',Sl .int H' r (acg s) f'/\iM H.next H' f'):=by
 refine akb (Nat.le_refl _) fun hf=>?_
 simp only [Tryz.f147,Option.getD_some]
 simp only [go_sem]
 refine ft 262136 40 (fun i V H2=>V 5=.int .i64 (i:Nat)/\∃v' f',V 3=v'/\Ow .int 3 H2 v' (A8 s i) f'/\iM H.next H2 f'/\aG H H2) ⟨by simp only [go_sem] <;> rfl,_,[],by simp only [go_sem] <;> rfl,Ow.nil _ _ _,⟨by simp,by simp,by simp⟩,aG.refl _⟩ ?_ ?_ (by rfl)
 ·rintro i V H2 bX ⟨e5,v',f',e3,en,dr,hold⟩
  have fP:=cG bX (by omega)
  have rV:=hold.nx
  have dU:((i:Nat):Int) < 40:=by omega
  have hd:s / 2 ^ i < 18446744073709551616:=Nat.lt_of_le_of_lt (Nat.div_le_self _ _) hs
  by_cases hb:s / 2 ^ i % 2=1
  ·have dX:((s / 2 ^ i % 2:Nat):Int)=1:=by omega
   simp only [go_sem,e5,e3,dU,Vn (show i < 64 by omega),UM hd,dX,eX iR (by decide) (by decide)]
   refine FG (r:=.int) (x:=((i:Nat):Int)) (g:=[]) iR (en.ae fun y hy=>bO (dr.hi y hy)) (fun y hy=>Nat.lt_succ_of_lt (dr.hi y hy)) (by rw [List.append_nil];exact dr.nd) (by simp) (fun y hy=>hf.fresh (dr.lo y hy)) (by rw [aZ,if_pos rfl]) (Rp.wG.2 ⟨rfl,rfl⟩) rfl (by have:=T6 s i;omega) ?_
   intro v5 H5 f5 qK CE ML Nt RI Nu aeN Nv
   have aoA:H5.next=H2.next+2:=RI
   have hp:=hold.trans (aG.push H2 ⟨[.int .i64 ((i:Nat):Int)],3,false,false⟩)
   simp only [go_sem,e5,fP]
   refine ⟨_,f5,rfl,by rw [A8,if_pos hb];exact qK,⟨CE,fun y hy=>?_,Nt⟩,⟨by omega,fun b hb=>?_,fun b B hB hr=>hp.ro b B (Nv b B hB hr) hr⟩⟩
   ·rcases ML y hy with e | e | e
    ·rw [bI] at e;omega
    ·exact dr.lo y e
    ·cases e
   ·rw [Nu b (by rw [bI];omega) (fun e=>by have:=dr.lo b e;omega),hp.get b hb]
  ·have dX:¬((s / 2 ^ i % 2:Nat):Int)=1:=by omega
   simp only [go_sem,e5,e3,dU,Vn (show i < 64 by omega),UM hd,dX,fP]
   exact ⟨_,f',rfl,by rw [A8,if_neg hb];exact en,dr,hold⟩
 ·rintro V H2 ⟨e5,v',f',e3,en,dr,hold⟩
  have e40:¬((40:Nat):Int) < 40:=by decide
  simp only [go_sem,e5,e3,e40]
  exact ⟨hold,f',en.sl,dr⟩
def Nx (n:Nat) (l:List Int) (H':ad) (v':Value):Prop:=(∃f',Ow .int 3 H' v' l f'/\iM n H' f')∨(l=[]/\∃b,v'=.slice (some ⟨b,0,none⟩) 0 0/\H'.get b=some ⟨[],3,false,false⟩/\n<=b/\b < H'.next)
theorem aha {H:ad} {v:Value} {l:List Int} {f:List Nat} (h:Sl .int H v l f) (hl:l.length < 1000000):
  aj Tryz.prog 47 #[v] H (fun v' H'=>aG H H'/\Nx H.next l H' v'):=by
 refine acQ (Nat.le_refl _) fun hf=>?_
 simp only [Tryz.f47,Option.getD_some]
 have MU:=h.src (size:=1) rfl
 rcases h with ⟨rfl,rfl,rfl⟩ | ⟨a,c,rfl,rfl,rfl⟩ | ⟨b,o,c,B,g,rfl,dd,Sd,rfl,hB,hA⟩
 ·simp only [go_sem]
  exact ⟨aG.refl H,.inl ⟨[],Ow.nil _ _ _,⟨List.nodup_nil,by simp,by simp⟩⟩⟩
 ·have hx:H.fz H.next=false:=hf.fresh (Nat.le_refl _)
  simp only [go_sem,Pz iR (by decide)]
  rw [Mc (n:=0) (new:=[]) iR rfl rfl (by rw [aZ,if_pos rfl]) rfl (Nat.le_refl _) (by decide) (Nat.le_refl _) rfl]
  simp only [go_sem,hx]
  exact ⟨aG.push H _,.inr ⟨rfl,H.next,rfl,by rw [aZ,if_pos rfl],Nat.le_refl _,Nat.lt_succ_self _⟩⟩
 ·have hx:H.fz H.next=false:=hf.fresh (Nat.le_refl _)
  have oR:0 < l.length:=List.length_pos_iff.2 dd
  have bf:=hf.AZ hB
  have Vl:=(Sl.src (r:=.int) (H:=H.push ⟨[],3,false,false⟩) (v:=.slice (some ⟨b,o,none⟩) l.length c) (l:=l) (f:=b::g) (.inr (.inr ⟨b,o,c,B,g,rfl,dd,Sd,rfl,by rw [bO bf];exact hB,by
   have:=AR hA;subst this;exact hA.ae (by simp)⟩)) (size:=1) rfl)
  obtain ⟨cs,g2,e1,e2,e3,_⟩:=Vl
  have:=AR e3;subst this
  simp only [go_sem,Pz iR (by decide)]
  rw [FF iR e1 (by rw [aZ,if_pos rfl]) (by simp) (Nat.le_refl _) (by omega) (by omega)]
  simp only [go_sem]
  exact ⟨(aG.push H _).trans (aG.push _ _),.inl ⟨[H.next+1],.inr ⟨H.next+1,cs,[],rfl,dd,rfl,by rw [aZ,bI,if_pos rfl],by simpa using e2,e3.ae (by simp)⟩,⟨by simp,by simp,by simp [bI]⟩⟩⟩
theorem Nx.push {n:Nat} {l:List Int} {H:ad} {v:Value} (h:Nx n l H v) (B:cO):Nx n l (H.push B) v:=by
 rcases h with ⟨f,en,ho⟩ | ⟨rfl,b,rfl,hb,h1,h2⟩
 ·exact .inl ⟨f,en.ae fun y hy=>bO (ho.hi y hy),⟨ho.nd,ho.lo,fun y hy=>Nat.lt_succ_of_lt (ho.hi y hy)⟩⟩
 ·exact .inr ⟨rfl,b,rfl,by rw [bO h2];exact hb,h1,Nat.lt_succ_of_lt h2⟩
theorem ah1 {n:Nat} {l:List Int} {H:ad} {v:Value} {x:Int} {bx:Nat} {e:TypeId} {o r:Bool} {X:Nat->Bool} {K:Value->ad->Prop} {tg:Tag K} (hc:Nx n l H v) (hX:∀y,n<=y->X y=false) (hB:H.get bx=some ⟨[.int .i64 x],e,o,r⟩) (hl:l.length < 1000000) (hn:n<=H.next)
  (hk:∀v4 H4 f4,Sl .int H4 v4 (l++[x]) f4->(∀y∈f4,n<=y/\y < H4.next)->H.next<=H4.next->(∀c,c < n->H4.get c=H.get c)->(∀c B,H4.get c=some B->B.ro=true->H.get c=some B)->K v4 H4):
  fe Tryz.prog X H (iZ Tryz.prog 22 v (.slice (some ⟨bx,0,none⟩) 1 1) H) K tg:=by
 rcases hc with ⟨f,en,ho⟩ | ⟨rfl,b,rfl,hb,h1,h2⟩
 ·refine FG (r:=.int) (x:=x) (g:=[]) iR en ho.hi (by rw [List.append_nil];exact ho.nd) (by simp) (fun y hy=>hX y (ho.lo y hy)) hB (Rp.wG.2 ⟨rfl,rfl⟩) rfl (by omega) ?_
  intro v5 H5 f5 qK CE ML Nt RI Nu aeN Nv
  refine hk v5 H5 f5 qK.sl (fun y hy=>⟨?_,Nt y hy⟩) (by omega) (fun c hc=>Nu c (by omega) fun e=>by have:=ho.lo c e;omega) Nv
  rcases ML y hy with e | e | e
  ·omega
  ·exact ho.lo y e
  ·cases e
 ·rw [FF (n:=1) iR (FI hB rfl) hb rfl (Nat.le_refl _) (by omega) (by omega)]
  rw [AI]
  refine hk _ _ [H.next] (.inr (.inr ⟨H.next,0,1,_,[],rfl,by simp,Nat.le_refl _,rfl,by rw [aZ,if_pos rfl],?_⟩)) (fun y hy=>by rw [List.mem_singleton] at hy;subst hy;exact ⟨hn,Nat.lt_succ_self _⟩) (Nat.le_succ _) (fun c hc=>bO (by omega)) fun c B hB hr=>?_
  ·exact dT.one (Rp.wG.2 ⟨rfl,rfl⟩)
  ·rw [aZ] at hB
   split at hB
   ·cases hB;cases hr
   ·exact hB
abbrev uR:Rp Nat:=.flat 1 (by decide) (fun s=>[uV s]) fun _=>rfl
def AD (all:List Nat) (fr to:Int):Nat:=if to<=fr∨((all.length:Nat):Int)<=to then 0 else all.getD to.toNat 0
theorem RK {H:ad} {bc:Nat} {Bc:cO} {va:Value} {all:List Nat} {f:List Nat} {fr to:Int} (hBc:H.get bc=some Bc) (hc:Bc.cells[0]?=some va) (ha:Sl uR H va all f) (h0:0<=fr):aj Tryz.prog 160 #[iV fr,iV to,pV bc] H (fun r H'=>r=uV (AD all fr to)/\H=H'):=by
 refine akA (Nat.le_refl _) fun hf=>?_
 simp only [Tryz.f160,Option.getD_some]
 obtain ⟨a0,c0,gj⟩:=ha.val
 subst gj
 unfold AD
 by_cases h1:to<=fr
 ·rw [if_pos (.inl h1)]
  simp only [go_sem,h1]
  rfl
 ·by_cases h2:((all.length:Nat):Int)<=to
  ·rw [if_pos (.inr h2)]
   simp only [go_sem,h1,hBc,hc,h2]
   rfl
  ·rw [if_neg (by simp [h1,h2])]
   have hi:to.toNat < all.length:=by omega
   have h3:0<=to:=by omega
   obtain ⟨b,o,c,B,gx,hv,hB,dI,df,cb,hE⟩:=ha.at (List.getElem?_eq_getElem hi)
   simp only [Value.slice.injEq] at hv
   have iz:=hv.1
   have dN:B.cells[o+to.toNat]?=some (uV (all.getD to.toNat 0)):=by
    have e1:(B.cells.drop (o+to.toNat * 1)).take 1=[uV all[to.toNat]]:=hE.1
    rw [Nat.mul_one] at e1
    have:((B.cells.drop (o+to.toNat)).take 1)[0]?=some (uV all[to.toNat]):=by rw [e1];rfl
    rw [List.getElem?_take,if_pos (by decide),List.getElem?_drop,Nat.add_zero] at this
    rw [this,List.getD_eq_getElem?_getD,List.getElem?_eq_getElem hi];rfl
   simp only [go_sem,h1,hBc,hc,h2,h3,hi,iz,hB,dN]
theorem aro {H:ad} {b:Nat} {all:List Nat} {e:TypeId} {o r:Bool} (hB:H.get b=some ⟨all.map uV,e,o,r⟩):Sl uR H (.slice (some ⟨b,0,none⟩) all.length all.length) all (if all=[] then [] else [b]):=by
 have key:∀all:List Nat,dT uR H (all.map uV) all []:=by
  intro all
  induction all with
  | nil=>rfl
  | cons x l ih=>exact ⟨[uV x],l.map uV,[],[],rfl,rfl,⟨rfl,rfl⟩,ih⟩
 by_cases he:all=[]
 ·subst he;exact .inr (.inl ⟨_,_,rfl,rfl,if_pos rfl⟩)
 ·rw [if_neg he];exact .inr (.inr ⟨b,0,all.length,_,[],rfl,he,Nat.le_refl _,rfl,hB,key all⟩)
theorem aeO:∀n,fW [uV 0] n=(List.replicate n 0).map uV
 | 0=>rfl
 | n+1=>by rw [List.replicate_succ,List.map_cons,<-aeO n];rfl
def LS (b:fu) (s:Nat):Nat:=if 0<=b.tag then (b.aY++[b.rY]).foldl (fun s x=>Ep s (pA x)) s else s
def MM (all:List Nat) (i:Nat):List fu->Nat->Nat
 | [],s=>s
 | b::l,s=>MM all i l (s ||| LS b (AD all (i:Nat) b.body))
def MN (all:List Nat) (i:Nat) (n:aJ):Nat:=if Jm n.kind=true then Ep (AD all (i:Nat) n.next) (pA n.x) else AD all (i:Nat) n.next
def ado (all:List Nat) (i:Nat) (n:aJ):Nat:=MM all i n.ak (((MN all i n ||| RJ n) ||| AD all (i:Nat) n.a) ||| AD all (i:Nat) n.b)
def Jn (ns:List aJ) (place:Int):Nat->List Nat->List Nat
 | 0,all=>all
 | k+1,all=>if place<=(k:Nat) then Jn ns place k (all.set k (ado all k (ns.getD k {}))) else all
def Cn (ns:List aJ) (place:Int):List Nat:=Jn ns place ns.length (List.replicate ns.length 0)
structure RM (n:aJ):Prop where
 a:n.args.length < 1000000
 b:n.ak.length < 1000000
 s:∀x∈n.ak,x.aY.length < 100000
theorem AX {all:List Nat} {fr to:Int} (h:∀x∈all,x < 18446744073709551616):AD all fr to < 18446744073709551616:=by
 unfold AD
 split
 ·decide
 ·rw [List.getD_eq_getElem?_getD]
  cases hx:all[to.toNat]? with
  | none=>decide
  | some x=>exact h x (List.mem_of_getElem? hx)
theorem ZW {b:fu} {s:Nat} (h:s < 18446744073709551616):LS b s < 18446744073709551616:=by
 have key:∀(l:List Int) (s:Nat),s < 18446744073709551616->l.foldl (fun s x=>Ep s (pA x)) s < 18446744073709551616:=by
  intro l
  induction l with
  | nil=>exact fun s h=>h
  | cons x l ih=>exact fun s h=>ih _ (Qi h)
 unfold LS
 split
 ·exact key _ _ h
 ·exact h
theorem aa7 {all:List Nat} {i:Nat} {n:aJ} (h:∀x∈all,x < 18446744073709551616):MN all i n < 18446744073709551616:=by
 unfold MN
 split
 ·exact Qi (AX h)
 ·exact AX h
section
variable {H:ad}
theorem ah2 {aM aR aD aN:Option Addr} {nM nR nD kM kR kD kN:Nat} {ns:List aJ} {gN:List Nat} (hN:Sl ku H (.slice aN ns.length kN) ns gN) (hg:∀c∈gN,c < H.next) (hl:ns.length < 100000) (iv:∀n∈ns,RM n) {place:Int} (h0:0<=place):
  aj Tryz.prog 146 #[.agg #[.slice aM nM kM,.slice aR nR kR,.slice aD nD kD,.slice aN ns.length kN],iV place] H (fun r H'=>aG H H'/\∃b,r=.slice (some ⟨b,0,none⟩) ns.length ns.length/\(Cn ns place).length=ns.length/\(∀x∈Cn ns place,x < 18446744073709551616)/\H'.get b=some ⟨(Cn ns place).map uV,100,false,false⟩):=by
 refine aj.told ?_
 refine ni (l:=[_,_]) _ mixed Tryz.func146 aj9 [.tmp 4] (show 2<=103 by decide) rfl fun hf=>?_
 simp only [Tryz.f146,Option.getD_some]
 have hX:∀{c:Nat},H.next<=c->H.fz c=false:=fun h=>hf.fresh h
 have zS:fx Tryz.prog 100=some [uV 0]:=by kernel_rfl
 have dw:H.fz (H.next+1+1)=false:=hX (by omega)
 refine ja (ja (lB 1015924 (fun V H1=>V 2=pV H.next/\V 5=pV (H.next+1+1)/\V 6=.func (.func 160) #[] #[pV (H.next+1+1)]/\Fr [] H H1/\H.next+1+1 < H1.next/\H1.get H.next=some ⟨[.slice aM nM kM,.slice aR nR kR,.slice aD nD kD,.slice aN ns.length kN],31,false,false⟩/\H1.get (H.next+1)=some ⟨(List.replicate ns.length 0).map uV,100,false,false⟩/\H1.get (H.next+1+1)=some ⟨[.slice (some ⟨H.next+1,0,none⟩) ns.length ns.length],186,false,false⟩) ?_ ?_ (by rfl)))
 ·have p1:¬H.next=H.next+1+1:=by omega
  have p2:¬H.next+1=H.next+1+1:=by omega
  have p3:¬H.next=H.next+1:=by omega
  simp only [go_sem,I1 aiL zS (by decide) (Nat.le_refl ns.length) (by omega) (by omega),dw,p1,p2,p3,aeO]
  exact ⟨(((((Fr.refl [] H).push _).af _ |>.push _).push _).ai (.inr (by omega)) _).af _,by omega⟩
 ·rintro V H1 ⟨e2,e5,e6,f1,n1,HS,ga1,Tn⟩
  obtain ⟨ba,hba⟩:∃ba,ba=H.next+1:=⟨_,rfl⟩
  obtain ⟨bc,hbc⟩:∃bc,bc=H.next+1+1:=⟨_,rfl⟩
  rw [<-hbc] at e5 e6 Tn dw n1
  rw [<-hba] at ga1 Tn
  have fK:(List.replicate ns.length 0).length=ns.length:=List.length_replicate ..
  have iE:IntKind.wrap .i64 (((ns.length:Nat):Int) - 1)=((ns.length:Nat):Int) - 1:=FM (by omega) (by omega)
  simp only [go_sem,e5,Tn,iE]
  refine L3 5070602400912917605986804456320 (fun k V2 H2=>k<=ns.length/\V2 7=iV (((k:Nat):Int) - 1)/\∃all,all.length=ns.length/\(∀x∈all,x < 18446744073709551616)/\Cn ns place=Jn ns place k all/\Fr [] H H2/\bc < H2.next/\H2.get H.next=some ⟨[.slice aM nM kM,.slice aR nR kR,.slice aD nD kD,.slice aN ns.length kN],31,false,false⟩/\H2.get ba=some ⟨all.map uV,100,false,false⟩/\H2.get bc=some ⟨[.slice (some ⟨ba,0,none⟩) ns.length ns.length],186,false,false⟩) (n:=ns.length)
   ⟨Nat.le_refl _,by simp only [go_sem] <;> rfl,List.replicate ns.length 0,fK,fun x hx=>by rw [List.eq_of_mem_replicate hx];decide,rfl,f1.af _,n1,HS,ga1,Tn⟩ ?_ (by rfl)
  rintro k V2 H2 ⟨hk,ei,all,iT,bf,bk,f2,n2,uF,Dr,Ds⟩
  by_cases hp:k=0∨((k:Nat):Int) - 1 < place
  ·have Ou:¬place<=((k:Nat):Int) - 1:=by omega
   have xl:Jn ns place k all=all:=by
    cases k with
    | zero=>rfl
    | succ k=>rw [Jn,if_neg (by omega)]
   rw [xl] at bk
   simp only [go_sem,ei,Ou,e5,Ds]
   exact ⟨(f2.af _ |>.af _).au,ba,rfl,by rw [bk,iT],by rw [bk];exact bf,by rw [bk];exact Dr⟩
  ·obtain ⟨i,rfl⟩:∃i,k=i+1:=⟨k - 1,by omega⟩
   have NU:place<=((i:Nat):Int):=by omega
   have bX:i < ns.length:=by omega
   rw [Jn,if_pos NU] at bk
   have ei:V2 7=iV ((i:Nat):Int):=by rw [ei];congr 1;omega
   refine lB 58720256 (fun V3 H3=>H3=H2.af H.fz) (by simp only [go_sem,ei,NU]) ?_ (by rfl)
   rintro V3 Hx xF
   have hx:ns[i]?=some (ns[i]'bX):=List.getElem?_eq_getElem bX
   have iH:ns.getD i {}=ns[i]'bX:=by rw [List.getD_eq_getElem?_getD,hx];rfl
   rw [iH] at bk
   obtain ⟨oa,ob,os⟩:=iv _ (List.getElem_mem bX)
   generalize (ns[i]'bX)=x at hx bk oa ob os
   obtain ⟨b,o,c,B,gx,hv,hB,dI,df,cb,hE⟩:=(hN.ae (H':=Hx) fun y hy=>by rw [xF,bG];exact f2.get y (hg y hy) (by simp)).at hx
   simp only [Value.slice.injEq] at hv
   have iz:=hv.1
   obtain ⟨vA,vQ,vB,u1,u2,u3,bg,rfl,t1,t2,t3⟩:=hE
   obtain ⟨a1,k1,rfl⟩:=t1.val
   obtain ⟨a2,k2,rfl⟩:=t2.val
   obtain ⟨a3,k3,rfl⟩:=t3.val
   have ef:o+i * 20+20<=B.cells.length:=cb
   have bg:(B.cells.drop (o+i * 20)).take 20=aU x (.slice a1 x.args.length k1) (.slice a2 x.pat.length k2) (.slice a3 x.ak.length k3):=bg
   have f2:Fr [] H Hx:=by rw [xF];exact f2.af _
   have n2:bc < Hx.next:=by rw [xF];exact n2
   have uF:Hx.get H.next=some ⟨[.slice aM nM kM,.slice aR nR kR,.slice aD nD kD,.slice aN ns.length kN],31,false,false⟩:=by rw [xF];exact uF
   have Dr:Hx.get ba=some ⟨all.map uV,100,false,false⟩:=by rw [xF];exact Dr
   have Ds:Hx.get bc=some ⟨[.slice (some ⟨ba,0,none⟩) ns.length ns.length],186,false,false⟩:=by rw [xF];exact Ds
   clear xF
   have gu:∀c∈u1++(u2++u3),c < H.next:=fun c hc=>hg c (df c hc)
   have ON:H.fz Hx.next=false:=hX (by omega)
   have nb:¬bc=Hx.next:=by omega
   have sA:∀{H':ad},H'.get ba=some ⟨all.map uV,100,false,false⟩->Sl uR H' (.slice (some ⟨ba,0,none⟩) ns.length ns.length) all (if all=[] then [] else [ba]):=fun h=>by rw [<-iT];exact aro h
   rw [MF,I8]
   refine ja (ja (lB 70368475742976 (fun V4 H4=>V4 8=pV Hx.next/\V4 9=uV (MN all i x)/\aG Hx H4/\Hx.next < H4.next/\H4.get Hx.next=some ⟨aU x (.slice a1 x.args.length k1) (.slice a2 x.pat.length k2) (.slice a3 x.ak.length k3),59,false,false⟩) ?_ ?_ (by rfl)))
   ·simp only [go_sem,ei,e2,e6,uF,bX,iz,hB,ef,bg,ON]
    obtain ⟨H3,dv⟩:∃H3,H3=(Hx.push ⟨aU x (.slice a1 x.args.length k1) (.slice a2 x.pat.length k2) (.slice a3 x.ak.length k3),59,false,false⟩).af H.fz:=⟨_,rfl⟩
    rw [<-dv]
    have o3:aG Hx H3:=by rw [dv];exact (((Fr.refl [] Hx).push _).af _).au
    have ml:H3.get Hx.next=some ⟨aU x (.slice a1 x.args.length k1) (.slice a2 x.pat.length k2) (.slice a3 x.ak.length k3),59,false,false⟩:=by rw [dv,bG,aZ,if_pos rfl]
    have n3:H3.next=Hx.next+1:=by rw [dv];rfl
    clear dv
    have ga3:=(o3.get ba (by omega)).trans Dr
    have gc3:=(o3.get bc n2).trans Ds
    refine ag.by (RK (all:=all) gc3 rfl (sA ga3) (by omega)) ?_
    rintro _ _ - ⟨rfl,rfl⟩
    simp only [go_sem,ml]
    refine ag.by abE ?_
    rintro _ H5 - ⟨rfl,o5⟩
    have Ph:=o3.trans ((((Fr.refl [] H3).af H.fz).then (o5.fr [])).au)
    have n5:H3.next<=H5.next:=o5.nx
    have eJ:=(o5.get Hx.next (by show Hx.next < H3.next;omega)).trans ml
    unfold MN
    by_cases eG:Jm x.kind=true
    ·rw [if_pos eG]
     simp only [go_sem,eG,eJ]
     refine ag.by D5 ?_
     rintro _ _ - ⟨rfl,rfl⟩
     simp only [go_sem,eJ,aa6 (AX bf) (sS _)]
     exact ⟨((Ph.fr []).af _).au,by omega⟩
    ·rw [if_neg eG]
     simp only [Bool.not_eq_true] at eG
     simp only [go_sem,eG]
     exact ⟨((Ph.fr []).af _).au,by omega,eJ⟩
   ·rintro V4 H4 ⟨e8,e9,o4,n4,tG⟩
    have f4:=f2.then (o4.fr [])
    have ga4:=(o4.get ba (by omega)).trans Dr
    have gc4:=(o4.get bc n2).trans Ds
    simp only [go_sem,e8,e9,tG]
    refine ag.by (aoC (t1.ae (H':=H4) fun c hc=>o4.get c (by have:=gu c (by simp [hc]);omega)) (fun c hc=>by have:=gu c (by simp [hc]);omega) oa ⟨a2,k2,rfl⟩ ⟨a3,k3,rfl⟩) ?_
    rintro _ H5 - ⟨rfl,o5⟩
    have ga5:=(o5.get ba (by omega)).trans ga4
    have gc5:=(o5.get bc (by omega)).trans gc4
    have eJ:=(o5.get Hx.next (by omega)).trans tG
    have l1:=Nat.or_lt_two_pow (n:=64) (aa7 (i:=i) (n:=x) bf) (abG x)
    simp only [go_sem,e8,e9,ei,e6,tG,eJ,CP (aa7 bf) (abG x)]
    refine ag.by (RK (all:=all) gc5 rfl (sA ga5) (by omega)) ?_
    rintro _ _ - ⟨rfl,rfl⟩
    have l2:=Nat.or_lt_two_pow (n:=64) l1 (AX (fr:=((i:Nat):Int)) (to:=x.a) bf)
    simp only [go_sem,e8,e9,ei,e6,tG,eJ,CP l1 (AX bf)]
    refine ag.by (RK (all:=all) gc5 rfl (sA ga5) (by omega)) ?_
    rintro _ _ - ⟨rfl,rfl⟩
    have l3:=Nat.or_lt_two_pow (n:=64) l2 (AX (fr:=((i:Nat):Int)) (to:=x.b) bf)
    simp only [go_sem,e8,e9,ei,e6,tG,eJ,CP l2 (AX bf)]
    have xz:H4.next<=H5.next:=o5.nx
    have o5:aG Hx H5:=o4.trans o5
    refine kC 316912650020163862226756721152 x.ak.length (fun j V5 H6=>V5 65=iV (j:Nat)/\∃s,V5 9=uV s/\s < 18446744073709551616/\aG Hx H6/\Hx.next < H6.next/\ado all i x=MM all i (x.ak.drop j) s)
     ⟨by simp only [go_sem] <;> rfl,_,by simp only [go_sem] <;> rfl,l3,((o5.fr []).af _).au,by show Hx.next < H5.next;omega,rfl⟩ ?_ ?_ (by rfl)
    ·rintro j V5 H6 hj ⟨ej,s,es,hs,o6,n6,vH⟩
     have hy:x.ak[j]?=some (x.ak[j]'hj):=List.getElem?_eq_getElem hj
     have pL:x.ak.drop j=(x.ak[j]'hj)::x.ak.drop (j+1):=(List.getElem_cons_drop hj).symm
     have OQ:(x.ak[j]'hj)∈x.ak:=List.getElem_mem hj
     generalize (x.ak[j]'hj)=y at hy pL OQ
     rw [pL,MM] at vH
     have ea:=os y OQ
     obtain ⟨b7,o7,c7,B7,gy,uw,Iw,aB9,wu,arp,Aq⟩:=(t3.ae (H':=H6) fun c hc=>o6.get c (by have:=gu c (by simp [hc]);omega)).at hy
     simp only [Value.slice.injEq] at uw
     have oI:=uw.1
     obtain ⟨vS,vW,w1,w2,nk,rfl,q1,q2⟩:=Aq
     obtain ⟨aS,kS,rfl⟩:=q1.val
     obtain ⟨aW,kW,rfl⟩:=q2.val
     have aoD:o7+j * 7+7<=B7.cells.length:=arp
     have nk:(B7.cells.drop (o7+j * 7)).take 7=cJ y (.slice aS y.aY.length kS) (.slice aW y.names.length kW):=nk
     have jh:IntKind.wrap .i64 (((j:Nat):Int)+1)=((j+1:Nat):Int):=cG hj (by omega)
     have tH:H.fz H6.next=false:=hX (by omega)
     have Sn:=(o6.get ba (by omega)).trans Dr
     have gc6:=(o6.get bc n2).trans Ds
     refine ja (lB 73786976294838206464 (fun V7 H7=>H7=H6.af H.fz) (by simp only [go_sem,ej,hj]) ?_ (by rfl))
     rintro V7 Hy E7
     have oy:aG Hx Hy:=by rw [E7];exact ((o6.fr []).af _).au
     have ny:Hx.next < Hy.next:=by rw [E7];exact n6
     have Iw:Hy.get b7=some B7:=by rw [E7];exact Iw
     have q1:Sl .int Hy (.slice aS y.aY.length kS) y.aY w1:=by rw [E7];exact q1.ae fun _ _=>rfl
     have gay:=(oy.get ba (by omega)).trans Dr
     have gcy:=(oy.get bc n2).trans Ds
     clear E7
     have Zd:∀c∈w1++w2,c < H.next:=fun c hc=>gu c (by have:=wu c hc;simp [this])
     have hXy:H.fz Hy.next=false:=hX (by omega)
     rw [MF,I8]
     refine ja (ja (lB 19807040480992131808709597184 (fun V8 H8=>V8 12=uV (LS y (AD all (i:Nat) y.body))/\aG Hx H8/\Hx.next < H8.next) ?_ ?_ (by rfl)))
     ·simp only [go_sem,ej,e6,ei,hj,oI,Iw,aoD,nk,hXy]
      obtain ⟨H9,tO⟩:∃H9,H9=(Hy.push ⟨cJ y (.slice aS y.aY.length kS) (.slice aW y.names.length kW),109,false,false⟩).af H.fz:=⟨_,rfl⟩
      rw [<-tO]
      have o9:aG Hx H9:=by rw [tO];exact ((((oy.fr []).push _).af _).au)
      have To:H9.get Hy.next=some ⟨cJ y (.slice aS y.aY.length kS) (.slice aW y.names.length kW),109,false,false⟩:=by rw [tO,bG,aZ,if_pos rfl]
      have n9:H9.next=Hy.next+1:=by rw [tO];rfl
      clear tO
      have ga9:=(o9.get ba (by omega)).trans Dr
      have gc9:=(o9.get bc n2).trans Ds
      refine ag.by (RK (all:=all) gc9 rfl (sA ga9) (by omega)) ?_
      rintro _ _ - ⟨rfl,rfl⟩
      unfold LS
      by_cases qW:0<=y.tag
      ·rw [if_pos qW]
       simp only [go_sem,To,qW]
       refine ag.by (aha (q1.ae (H':=H9.af H.fz) fun c hc=>by have:=Zd c (by simp [hc]);exact (o9.get c (by omega)).trans (oy.get c (by omega)).symm) (by omega)) ?_
       rintro v10 du - ⟨Pj,gJ⟩
       have n10:H9.next<=du.next:=Pj.nx
       have Kd:=(Pj.get Hy.next (by show Hy.next < H9.next;omega)).trans To
       simp only [go_sem,To,Kd,eX iR (by decide) (by decide)]
       refine ah1 (n:=H9.next) (x:=y.rY) (gJ.push _) (fun c hc=>hX (by omega)) (by rw [aZ,if_pos rfl]) (by omega) (by rw [bI];omega) ?_
       intro v11 eA f11 Ni aCa Sp Lt arq
       rw [bI] at Sp
       have aeP:aG Hx (du.push ⟨[.int .i64 y.rY],3,false,false⟩):=(o9.trans ((((Fr.refl [] H9).af H.fz).then (Pj.fr [])).au)).trans (aG.push _ _)
       have Pa:aG Hx eA:=⟨by omega,fun c hc=>(Lt c (by omega)).trans (aeP.get c hc),fun c B hB hr=>aeP.ro c B (arq c B hB hr) hr⟩
       obtain ⟨OS,c11,ars⟩:=Ni.val
       subst ars
       have fK:(y.aY++[y.rY]).length < 1000000:=by rw [List.length_append];simp;omega
       generalize er:y.aY++[y.rY]=row at *
       simp only [go_sem]
       refine kC 19768355002338416264795410432 row.length (fun k V9 dx=>V9 85=iV (k:Nat)/\∃z,V9 12=uV z/\z < 18446744073709551616/\aG Hx dx/\Hx.next < dx.next/\(∀c,dx.get c=eA.get c)/\row.foldl (fun s x=>Ep s (pA x)) (AD all (i:Nat) y.body)=(row.drop k).foldl (fun s x=>Ep s (pA x)) z)
        ⟨by simp only [go_sem] <;> rfl,_,by simp only [go_sem] <;> rfl,AX bf,((Pa.fr []).af _).au,by show Hx.next < eA.next;omega,fun _=>rfl,rfl⟩ ?_ ?_ (by rfl)
       ·rintro k V9 dx jZ ⟨ek,z,ez,hz,ZA,eC,oA,xe⟩
        obtain ⟨b13,Pk,c13,B13,Ry,art,_,aru⟩:=(Ni.ae (H':=dx) fun c _=>oA c).j0 jZ
        simp only [Value.slice.injEq] at Ry
        have Fq:=Ry.1
        have jj:IntKind.wrap .i64 (((k:Nat):Int)+1)=((k+1:Nat):Int):=cG jZ (by omega)
        rw [IM jZ,List.foldl_cons] at xe
        simp only [go_sem,ek,jZ,Fq,art,aru]
        refine ag.by D5 ?_
        rintro _ _ - ⟨rfl,rfl⟩
        simp only [go_sem,ez,ek,jj,aa6 hz (sS _)]
        exact ⟨_,rfl,Qi hz,((ZA.fr []).af _).au,eC,oA,xe⟩
       ·rintro V9 dx ⟨ek,z,ez,hz,ZA,eC,oA,xe⟩
        rw [List.drop_length,List.foldl_nil] at xe
        simp only [go_sem,ek,ez]
        exact ⟨by rw [xe],((ZA.fr []).af _).au,eC⟩
      ·rw [if_neg qW]
       simp only [go_sem,To,qW]
       exact ⟨((o9.fr []).af _).au,by omega⟩
     ·rintro V8 H8 ⟨ZC,o8,n8⟩
      simp only [go_sem,ZC,es,ej,jh,CP hs (ZW (AX bf))]
      exact ⟨_,rfl,Nat.or_lt_two_pow (n:=64) hs (ZW (AX bf)),((o8.fr []).af _).au,n8,vH⟩
    ·rintro V5 H6 ⟨ej,s,es,hs,o6,n6,vH⟩
     rw [List.drop_length,MM] at vH
     have Sn:=(o6.get ba (by omega)).trans Dr
     have gc6:=(o6.get bc n2).trans Ds
     have uv:H.fz ba=false:=hX (by omega)
     have C5:i+1<=(all.map uV).length:=by rw [List.length_map];omega
     have arv:i < (all.map uV).length:=by rw [List.length_map];omega
     have hwm:IntKind.wrap .i64 (((i:Nat):Int) - 1)=((i:Nat):Int) - 1:=FM (by omega) (by omega)
     have YH:=(o6.get H.next (by omega)).trans uF
     have nab:¬bc=ba:=by omega
     have npb:¬H.next=ba:=by omega
     simp only [go_sem,ej,es,e5,ei,gc6,bX,Sn,uv,C5,arv,hwm]
     refine ⟨i,by omega,by omega,rfl,all.set i s,by rw [List.length_set];exact iT,fun y hy=>?_,by rw [bk,vH],((f2.then (o6.fr []) |>.af _).ai (.inr (by omega)) _).af _,by omega,by rw [if_neg npb];exact YH,by rw [List.map_set],by rw [if_neg nab]⟩
     rcases List.mem_or_eq_of_mem_set hy with e | e
     ·exact bf y e
     ·exact e▸hs
end
def Gf (ns:List aJ) (place:Int):List Int:=if place < 0∨((ns.length:Nat):Int)<=place then [] else acg ((Cn ns place).getD place.toNat 0)
theorem aly {H:ad} {aM aR aD aN:Option Addr} {nM nR nD kM kR kD kN:Nat} {ns:List aJ} {gN:List Nat} (hN:Sl ku H (.slice aN ns.length kN) ns gN) (hg:∀c∈gN,c < H.next) (hl:ns.length < 100000) (iv:∀n∈ns,RM n) {place:Int}:
  aj Tryz.prog 120 #[.agg #[.slice aM nM kM,.slice aR nR kR,.slice aD nD kD,.slice aN ns.length kN],iV place] H (fun r H'=>aG H H'/\∃f',Sl .int H' r (Gf ns place) f'/\iM H.next H' f'):=by
 refine aj.told ?_
 refine ajr (Nat.le_refl _) fun hf=>?_
 simp only [Tryz.f120,Option.getD_some]
 have o1:aG H (H.push ⟨[.slice aM nM kM,.slice aR nR kR,.slice aD nD kD,.slice aN ns.length kN],31,false,false⟩):=aG.push H _
 unfold Gf
 by_cases h1:place < 0
 ·rw [if_pos (.inl h1)]
  simp only [go_sem,h1]
  exact ⟨((o1.fr []).af _).au,[],.inl ⟨rfl,rfl,rfl⟩,⟨List.nodup_nil,by simp,by simp⟩⟩
 ·by_cases h2:((ns.length:Nat):Int)<=place
  ·rw [if_pos (.inr h2)]
   simp only [go_sem,h1,h2]
   exact ⟨((o1.fr []).af _).au,[],.inl ⟨rfl,rfl,rfl⟩,⟨List.nodup_nil,by simp,by simp⟩⟩
  ·rw [if_neg (by simp [h1,h2])]
   simp only [go_sem,h1,h2]
   refine ag.by (ah2 (hN.ae fun c hc=>bO (hg c hc)) (fun c hc=>Nat.lt_succ_of_lt (hg c hc)) hl iv (by omega)) ?_
   rintro _ H2 - ⟨o2,b,rfl,dC,bf,hB⟩
   have hi:place.toNat < (Cn ns place).length:=by omega
   have gY:place.toNat < ns.length:=by omega
   have h3:0<=place:=by omega
   have dN:((Cn ns place).map uV)[place.toNat]?=some (uV ((Cn ns place).getD place.toNat 0)):=by
    rw [List.getElem?_map,List.getD_eq_getElem?_getD,List.getElem?_eq_getElem hi];rfl
   have G5:(Cn ns place).getD place.toNat 0 < 18446744073709551616:=by
    rw [List.getD_eq_getElem?_getD,List.getElem?_eq_getElem hi];exact bf _ (List.getElem_mem hi)
   simp only [go_sem,h3,gY,hB,dN]
   refine ag.by (alx G5) ?_
   rintro v3 H3 - ⟨o3,f3,fZ,EU⟩
   simp only [go_sem]
   have n3:=(o1.trans o2).nx
   exact ⟨((((o1.trans o2).trans o3).fr []).af _).au,f3,fZ.ae fun _ _=>rfl,⟨EU.nd,fun y hy=>Nat.le_trans n3 (EU.lo y hy),EU.hi⟩⟩
section
variable {P:Program} {h:KH} {t:TypeId}
theorem ah3 {a:Nat}:dS P .shr t (uV a) (.int .u64 32) h=.ok (uV (a / 4294967296)) h:=by
 have h1:kO P .shr t (uV a) (.int .u64 32)=some (.int .u64 (Int.fdiv (Int.ofNat a) (Int.ofNat 4294967296))):=rfl
 rw [show Int.fdiv (Int.ofNat a) (Int.ofNat 4294967296)=((a / 4294967296:Nat):Int) from (Int.fdiv_eq_ediv_of_nonneg _ (Int.natCast_nonneg 4294967296)).trans rfl] at h1
 simp only [dS,h1]
theorem UN {a:Nat} (ha:a < 18446744073709551616):dS P .and t (uV a) (.int .u64 4294967295) h=.ok (uV (a % 4294967296)) h:=by
 have h1:kO P .and t (uV a) (.int .u64 4294967295)=some (.int .u64 (nZ .u64 (Int.ofNat (Nat.land (sW .u64 (Int.ofNat a)) 4294967295)))):=rfl
 rw [Jl ha,show Nat.land a 4294967295=a % 4294967296 from Nat.and_two_pow_sub_one_eq_mod a 32,DN (by omega)] at h1
 simp only [dS,h1]
theorem Qz {a b:Nat} (ha:a * b < 18446744073709551616):dS P .mul t (uV a) (uV b) h=.ok (uV (a * b)) h:=by
 have h1:kO P .mul t (uV a) (uV b)=some (.int .u64 (nZ .u64 (Int.ofNat a * Int.ofNat b))):=rfl
 rw [show Int.ofNat a * Int.ofNat b=Int.ofNat (a * b) from rfl,DN ha] at h1
 simp only [dS,h1]
theorem UO {a b:Nat} (ha:a+b < 18446744073709551616):dS P .add t (uV a) (uV b) h=.ok (uV (a+b)) h:=by
 have h1:kO P .add t (uV a) (uV b)=some (.int .u64 (nZ .u64 (Int.ofNat a+Int.ofNat b))):=rfl
 rw [show Int.ofNat a+Int.ofNat b=Int.ofNat (a+b) from rfl,DN ha] at h1
 simp only [dS,h1]
end
theorem ah4 {H:ad} {a n:Nat} (ha:a < 65536) (hn:n < 4294967296):aj Tryz.prog 139 #[uV a,uV n] H (fun r H'=>r=.tuple #[uV 0,uV (a * n)]/\H=H'):=by
 refine ajX (Nat.le_refl _) fun hf=>?_
 simp only [Tryz.f139,Option.getD_some]
 have a0:a / 4294967296=0:=Nat.div_eq_of_lt (by omega)
 have n0:n / 4294967296=0:=Nat.div_eq_of_lt (by omega)
 have am:a % 4294967296=a:=Nat.mod_eq_of_lt (by omega)
 have nm:n % 4294967296=n:=Nat.mod_eq_of_lt (by omega)
 have hm:a * n < 65536 * 4294967296:=by
  rcases Nat.eq_zero_or_pos n with h | h
  ·subst h;simp
  ·exact Nat.lt_of_lt_of_le (Nat.mul_lt_mul_of_pos_right ha h) (Nat.mul_le_mul_left _ (by omega))
 obtain ⟨z,hz⟩:∃z,z=0:=⟨0,rfl⟩
 rw [<-hz] at a0 n0
 have Xz:z * n=z:=by rw [hz,Nat.zero_mul]
 have tr:a * z=z:=by rw [hz,Nat.mul_zero]
 have hz3:z * z=z:=by rw [hz]
 have hz4:z < 1000:=by omega
 obtain ⟨m,Hg⟩:∃m,m=a * n:=⟨_,rfl⟩
 have hzz:z+z=z:=by omega
 rw [<-Hg] at hm
 have hd:(m / 4294967296 % 4294967296+z) / 4294967296=z:=by omega
 have G9:(m / 4294967296) / 4294967296=z:=by omega
 have c1:z+m / 4294967296=m / 4294967296:=by omega
 have iT:a < 18446744073709551616:=by omega
 have oX:n < 18446744073709551616:=by omega
 have xE:a * n < 18446744073709551616:=by omega
 have hq:m / 4294967296 < 18446744073709551616:=by omega
 have Tp:m / 4294967296 % 4294967296+z < 18446744073709551616:=by omega
 have q1:z * n < 18446744073709551616:=by omega
 have q2:a * z < 18446744073709551616:=by omega
 have q3:z * z < 18446744073709551616:=by omega
 have q4:z+z < 18446744073709551616:=by omega
 have q5:z+m / 4294967296 < 18446744073709551616:=by omega
 simp only [go_sem,UN iT,ah3,UN oX,a0,n0,am,nm,Qz xE,Qz q1,<-Hg,Xz,UO q5,c1,UN hq,Qz q2,tr,UO Tp,Qz q3,hz3,G9,UO q4,hzz,hd]
 rw [hz]
theorem aoE {H:ad} {a n:Nat} (ha:a < 65536) (hn:n < 4294967296):aj Tryz.prog 111 #[uV a,uV n] H (fun r H'=>r=.tuple #[uV 0,uV (a * n)]/\H=H'):=by
 refine ai9 (Nat.le_refl _) fun hf=>?_
 simp only [Tryz.f111,Option.getD_some]
 simp only [go_sem]
 refine ag.by (ah4 ha hn) ?_
 rintro _ _ - ⟨rfl,rfl⟩
 simp only [go_sem]
theorem abH {P:Program} {H:ad} {t e:TypeId} {sz b b2 o o2 dn n c c2:Nat} {B B2:cO} (he:iF P t=some (e,sz)) (jH:H.get b2=some B2) (h2:o2+min n dn * sz<=B2.cells.length) (hB:H.get b=some B) (h1:o+min n dn * sz<=B.cells.length) (vX:B.ro=false) (Vo:lC ((B2.cells.drop o2).take (min n dn * sz))=true):
  Cq P t (.slice (some ⟨b,o,none⟩) dn c) (.slice (some ⟨b2,o2,none⟩) n c2) H=.ok (iV (min n dn:Nat)) (H.ai b ⟨cY B.cells o ((B2.cells.drop o2).take (min n dn * sz)),B.elem,B.iD,false⟩):=by
 obtain ⟨hu,hs⟩:=Uf he
 have hl:((B2.cells.drop o2).take (min n dn * sz)).length=min n dn * sz:=by rw [List.length_take,List.length_drop];omega
 simp only [Cq,hu,hs,jH]
 rw [if_pos h2]
 simp only [sT,hB]
 rw [if_pos ⟨by rw [hl];exact h1,Vo,vX⟩]
 rfl
theorem WT:∀n,fW [iV 0] n=(List.replicate n 0).map iV
 | 0=>rfl
 | n+1=>by rw [List.replicate_succ,List.map_cons,<-WT n];rfl
theorem afJ {x:Int} {k n m:Nat} (h:m<=k) (h2:k+m<=n):cY ((List.replicate k x++List.replicate (n - k) 0).map iV) k (((List.replicate k x++List.replicate (n - k) 0).map iV).take m)=((List.replicate (k+m) x++List.replicate (n - (k+m)) 0).map iV):=by
 unfold cY
 simp only [List.map_append,List.map_replicate]
 rw [List.take_left' (by simp),List.take_append_of_le_length (by simp;omega),List.take_replicate,Nat.min_eq_left h,List.length_replicate,List.drop_append]
 rw [List.drop_of_length_le (by simp)]
 simp only [List.length_replicate,List.nil_append,List.drop_replicate,List.replicate_append_replicate]
 rw [show n - k - (k+m - k)=n - (k+m) by omega,<-List.append_assoc,List.replicate_append_replicate]
theorem T7:∀l:List Int,lC (l.map iV)=true
 | []=>rfl
 | x::l=>by rw [List.map_cons,Px,T7 l];rfl
theorem ahb {H:ad} {b o c:Nat} {x:Int} {B:cO} {n:Nat} (hB:H.get b=some B) (hc:B.cells[o]?=some (iV x)) (hn:n < 100000):
  aj Tryz.prog 83 #[.slice (some ⟨b,o,none⟩) 1 c,iV (n:Nat)] H (fun v H'=>aG H H'/\v=.slice (some ⟨H.next,0,none⟩) n n/\H.next < H'.next/\H'.get H.next=some ⟨(List.replicate n x).map iV,3,false,false⟩):=by
 refine aj.told ?_
 refine ans (Nat.le_refl _) fun hf=>?_
 simp only [Tryz.f83,Option.getD_some]
 have hx:H.fz H.next=false:=hf.fresh (Nat.le_refl _)
 have zI:fx Tryz.prog 3=some [iV 0]:=by kernel_rfl
 have eL:iF Tryz.prog 22=some (3,1):=by kernel_rfl
 have bf:=hf.AZ hB
 have cb:o < B.cells.length:=(List.getElem?_eq_some_iff.1 hc).1
 have vY:B.cells.drop o=iV x::B.cells.drop (o+1):=by
  rw [<-List.getElem_cons_drop cb];congr 1;exact (List.getElem?_eq_some_iff.1 hc).2
 have de:¬((n:Nat):Int) < 0:=by omega
 have hm:=aoE (H:=H) (a:=1) (n:=n) (by decide) (by omega)
 have c1:∀{n:Nat} {H:ad},n < 100000->yZ Tryz.prog 3 162 (iV (n:Nat)) H=.ok (uV n) H:=fun {n H} hn=>by
  rw [Ug (ks:=.i64) (kd:=.u64) (by kernel_rfl) (by kernel_rfl)]
  show _=AO.ok (.int .u64 (n:Int)) H
  rw [show IntKind.wrap .u64 (n:Int)=(n:Int) from by rw [<-sL];exact DN (by omega)]
 have c2:∀{n:Nat} {H:ad},n < 100000->yZ Tryz.prog 162 3 (uV n) H=.ok (iV (n:Nat)) H:=fun {n H} hn=>by
  rw [Ug (ks:=.u64) (kd:=.i64) (by kernel_rfl) (by kernel_rfl)]
  rw [show IntKind.wrap .i64 (n:Int)=(n:Int) from FM (by omega) (by omega)]
 simp only [go_sem,de,c1 (show 1 < 100000 by decide),c1 hn]
 refine ag.by hm ?_
 rintro _ _ - ⟨rfl,rfl⟩
 rw [Nat.one_mul]
 have ue:¬(9223372036854775807:Int) < ((n:Nat):Int):=by omega
 have Dt:¬(0:Int) < ((0:Nat):Int):=by omega
 simp only [go_sem,Dt,ue,c2 hn,I1 iR zI (by decide) (Nat.le_refl n) (by omega) (by omega)]
 have hBp:(H.push ⟨fW [iV 0] n,3,false,false⟩).get b=some B:=by rw [bO bf];exact hB
 have oX:(fW [iV 0] n).length=n:=by rw [WT];simp
 have ph:B.cells.length<=o+1+B.cells.length:=by omega
 have e1:Cq Tryz.prog 22 (.slice (some ⟨H.next,0,none⟩) n n) (.slice (some ⟨b,o,none⟩) 1 c) (H.push ⟨fW [iV 0] n,3,false,false⟩)=.ok (iV (min 1 n:Nat)) ((H.push ⟨fW [iV 0] n,3,false,false⟩).ai H.next ⟨(List.replicate (min 1 n) x++List.replicate (n - min 1 n) 0).map iV,3,false,false⟩):=by
  have Vo:lC ((B.cells.drop o).take (min 1 n * 1))=true:=by
   rw [vY]
   rcases Nat.eq_zero_or_pos n with h | h
   ·subst h;rfl
   ·rw [Nat.min_eq_left h];rfl
  rw [abH eL hBp (by omega) (by rw [aZ,if_pos rfl]) (by show 0+min 1 n * 1<=(fW [iV 0] n).length;omega) rfl Vo]
  congr 3
  rw [vY,WT]
  unfold cY
  rcases Nat.eq_zero_or_pos n with h | h
  ·subst h;rfl
  ·obtain ⟨m,rfl⟩:∃m,n=m+1:=⟨n - 1,by omega⟩
   rw [Nat.min_eq_left h];rfl
 simp only [go_sem,e1,hx]
 refine qA 140720308486400 (fun m V H1=>∃k,k+m=n/\(1<=k∨n=0)/\V 8=iV (k:Nat)/\aG H H1/\H.next < H1.next/\H1.get H.next=some ⟨(List.replicate k x++List.replicate (n - k) 0).map iV,3,false,false⟩) (n:=n - min 1 n)
  ⟨min 1 n,by omega,by omega,by simp only [go_sem] <;> rfl,aG.push _ _,Nat.lt_succ_self _,by rw [aZ,if_pos rfl]⟩ ?_ (by rfl)
 rintro m V H1 ⟨k,zU,Fe,ek,o1,n1,g1⟩
 by_cases Tq:k < n
 ·have Fg:((List.replicate k x++List.replicate (n - k) 0).map iV).length=n:=by simp;omega
  have eo:min k (n - k)<=k:=Nat.min_le_left _ _
  have fU:min k (n - k)<=n - k:=Nat.min_le_right _ _
  have qY:1<=min k (n - k):=by omega
  have jj:IntKind.wrap .i64 (((k:Nat):Int)+((min k (n - k):Nat):Int))=((k+min k (n - k):Nat):Int):=FM (by omega) (by omega)
  have e2:=abH (P:=Tryz.prog) (t:=22) (b:=H.next) (o:=0+k * 1) (dn:=n - k) (c:=n - k) (n:=k) (c2:=n) (o2:=0) eL g1 (by show 0+min k (n - k) * 1<=((List.replicate k x++List.replicate (n - k) 0).map iV).length;rw [Fg];omega) g1 (by show 0+k * 1+min k (n - k) * 1<=((List.replicate k x++List.replicate (n - k) 0).map iV).length;rw [Fg];omega) rfl (by
   show lC (List.take (min k (n - k) * 1) (List.drop 0 ((List.replicate k x++List.replicate (n - k) 0).map iV)))=true
   rw [List.drop_zero,<-List.map_take];exact T7 _)
  have ey:H.fz H.next=false:=hx
  have fR:=afJ (x:=x) (k:=k) (n:=n) (m:=min k (n - k)) eo (by omega)
  rw [<-Nat.mul_one (min k (n - k)),Nat.mul_one] at fR
  have e3:cY ((List.replicate k x++List.replicate (n - k) 0).map iV) (0+k * 1) (((List.replicate k x++List.replicate (n - k) 0).map iV).drop 0 |>.take (min k (n - k) * 1))=(List.replicate (k+min k (n - k)) x++List.replicate (n - (k+min k (n - k))) 0).map iV:=by
   rw [List.drop_zero,Nat.mul_one,Nat.mul_one,Nat.zero_add];exact fR
  simp only [] at e2
  rw [e3] at e2
  simp only [Nat.zero_add,Nat.mul_one] at e2
  simp only [go_sem,Option.map_some,Option.map_none,ek,Tq,afB (b:=H.next) (o:=0) (n:=n) (c:=n) eL (Nat.le_of_lt Tq) (Nat.le_refl n) (.inl Tq),aaO (b:=H.next) (o:=0) (n:=n) (c:=n) eL (Nat.le_of_lt Tq),e2,ey,jj]
  exact ⟨m - min k (n - k),by omega,k+min k (n - k),by omega,.inl (by omega),rfl,o1.ai (Nat.le_refl _) _,n1,rfl⟩
 ·have arw:k=n:=by omega
  subst arw
  have yq:¬k < k:=by omega
  rw [Nat.sub_self,List.replicate_zero,List.append_nil] at g1
  simp only [go_sem,ek,yq]
  exact ⟨(o1.fr [] |>.af _).au,n1,g1⟩
end Go.Proofs.YtebibeaobhcfkaaGreat.Ab
