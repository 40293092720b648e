/- Lemmas for the walk, part 6. -/
import Derived.Test.YtinjmfblebpnnaaGreatF5
set_option linter.unusedVariables false
set_option linter.unusedSimpArgs false
set_option maxRecDepth 100000
set_option maxHeartbeats 16000000
namespace Go.Proofs.YtinjmfblebpnnaaGreat.Ab
open Go
section
variable {S:XS} {P:bC} {gP:List Nat} {H H1 H2:ad} {r:Nat} {t t1 t2:VT} {m g g1 g2 mi dz dF:List Nat}
theorem RA.rr (h:RA S P gP H r t m g mi H1 t1):RR S P gP H r t m g mi H1 t1 g mi:=
 ⟨h.fr.sub fun c hc=>.inl (by rw [List.mem_singleton] at hc;simp [hc]),h.rq,by rw [h.ns],fun _ h=>.inl h,fun _ h=>.inl h,h.b0.fz,h.b0.fm,h.b0.fi,h.b0.fn⟩
theorem RR.ft (h:RR S P gP H r t m g mi H1 t1 g1 dz) (fz:Nat->Bool) (hz:∀c,fz c=H.fz c):RR S P gP H r t m g mi (H1.ai fz) t1 g1 dz:=by
 rw [show fz=H.fz from funext hz];exact h.told
structure Ea (H:ad) (n:aH) (vA vP vB:Value) (gA gQ gB:List Nat):Prop where
 a:Sl jG H vA n.args gA
 q:Sl fy H vP n.pat gQ
 b:Sl dB H vB n.ak gB
theorem Ea.ae {n:aH} {vA vP vB:Value} {gA gQ gB:List Nat} (h:Ea H n vA vP vB gA gQ gB) (hk:∀c∈gA++(gQ++gB),H1.get c=H.get c):Ea H1 n vA vP vB gA gQ gB:=
 ⟨h.a.ae fun c hc=>hk c (by simp [hc]),h.q.ae fun c hc=>hk c (by simp [hc]),h.b.ae fun c hc=>hk c (by simp [hc])⟩
theorem JI {b:Nat} {A B:ct}:(H.ah b A).ah b B=H.ah b B:=by
 unfold ad.ah
 congr 1
 funext x
 by_cases hx:x=b <;> simp [hx]
theorem RQ0.node (h:RQ0 S P gP H r t m g mi) {k:Nat} (hk:k < t.ns.length):∃vI b cs vA vP vB gA gQ gB,H.get r=some ⟨rC S (.slice (some ⟨b,0,none⟩) t.ns.length t.ns.length) vI t,136,false,false⟩/\jz H vI t.aK mi/\m=[b]/\H.get b=some ⟨cs,42,true,false⟩/\k * 20+20<=cs.length/\(cs.drop (k * 20)).take 20=aJ (t.ns.getD k {}) vA vP vB/\Ea H (t.ns.getD k {}) vA vP vB gA gQ gB/\∀c∈gA++(gQ++gB),c∈g:=by
 obtain ⟨vN,vI,hr,cw,hI⟩:=h.row
 obtain ⟨b,cs,f1,f2,f3,rfl,rfl,hb,fE,rfl,c6,hE,_⟩:=cw.put hk
 obtain ⟨wA,wP,wB,e1,e2,e3,aV,rfl,s1,s2,s3⟩:=hE
 have kt:(t.ns.getD k {})=t.ns[k]:=by rw [List.getD_eq_getElem?_getD,List.getElem?_eq_getElem hk];rfl
 rw [kt]
 exact ⟨vI,b,cs,wA,wP,wB,e1,e2,e3,hr,hI,rfl,hb,c6,aV,⟨s1,s2,s3⟩,fun c hc=>by simp only [List.mem_append] at hc ⊢;rcases hc with e | e | e <;> simp [e]⟩
theorem RR.SF (h:RR S P gP H r t m g mi H1 t1 g1 dz) {k:Nat} (hk:k < t1.ns.length) {n:aH} {vA vP vB:Value} {gA gQ gB:List Nat} (hn:Ea H1 n vA vP vB gA gQ gB) (hg:∀c∈gA++(gQ++gB),c < H1.next/\c≠r/\c∉m/\c∉dz/\(c∈g∨H.next<=c)):
  ∃vI b cs,H1.get r=some ⟨rC S (.slice (some ⟨b,0,none⟩) t1.ns.length t1.ns.length) vI t1,136,false,false⟩/\b∈m/\H1.get b=some ⟨cs,42,true,false⟩/\k * 20+20<=cs.length/\
  ∃g2,RR S P gP H r t m g mi (H1.ah b ⟨cT cs (k * 20) (aJ n vA vP vB),42,true,false⟩) {t1 with ns:=t1.ns.set k n} g2 dz/\∀c∈g2,c∈g1∨c∈gA++(gQ++gB):=by
 have q:=h.rq
 obtain ⟨vN,vI,hr,cw,hI⟩:=q.row
 obtain ⟨b,cs,f1,f2,f3,rfl,rfl,hb,fE,rfl,c6,hE,oE⟩:=cw.put hk
 obtain ⟨iD,fe,fj,oh,iy⟩:=q.hm b (by simp)
 have kg:∀c,c≠b->(H1.ah b ⟨cT cs (k * 20) (aJ n vA vP vB),42,true,false⟩).get c=H1.get c:=fun c hc=>by rw [az,if_neg hc]
 have qK:∀c∈f1++(f2++f3),c≠b:=fun c hc e=>oh (e▸hc)
 have Vq:∀c∈gA++(gQ++gB),c≠b:=fun c hc e=>(hg c hc).2.2.1 (by simp [e])
 have i4:=hn.ae (H1:=H1.ah b ⟨cT cs (k * 20) (aJ n vA vP vB),42,true,false⟩) fun c hc=>kg c (Vq c hc)
 have bG:=oE (H1.ah b ⟨cT cs (k * 20) (aJ n vA vP vB),42,true,false⟩) (aJ n vA vP vB) n (gA++(gQ++gB)) (fun z hz=>kg z (qK z (by rcases hz with e | e <;> simp [e]))) (by rw [az,if_pos rfl];rfl) ⟨vA,vP,vB,gA,gQ,gB,rfl,rfl,i4.a,i4.q,i4.b⟩ (fun e=>Vq b e rfl)
 have kP:∀c∈gP,(H1.ah b ⟨cT cs (k * 20) (aJ n vA vP vB),42,true,false⟩).get c=H1.get c:=fun c hc=>kg c fun e=>fj (e▸hc)
 have mem:∀c∈f1++((gA++(gQ++gB))++f3),c∈f1++(f2++f3)∨c∈gA++(gQ++gB):=fun c hc=>by
  simp only [List.mem_append] at hc ⊢
  rcases hc with e | (e | e | e) | e <;> simp [e]
 refine ⟨vI,b,cs,hr,by simp,hb,c6,f1++((gA++(gQ++gB))++f3),⟨h.fr.ah (.inl (by simp)) _,{row:=⟨_,vI,(kg r (Ne.symm fe)).trans hr,bG,hI.ae fun c hc=>kg c fun e=>iy (e▸hc)⟩,sM:=q.sM.ae kP,sR:=q.sR.ae kP,sD:=q.sD.ae kP,rl:=q.rl,hm:=fun c hc=>?_,hi:=fun c hc=>⟨(q.hi c hc).1,(q.hi c hc).2.1,(q.hi c hc).2.2.1,fun e=>(mem c e).elim (q.hi c hc).2.2.2 fun e=>(hg c e).2.2.2.1 hc⟩,hg:=fun c hc=>(mem c hc).elim (q.hg c) fun e=>⟨(hg c e).1,(hg c e).2.1⟩,hP:=q.hP,fz:=q.fz,fm:=q.fm,fi:=q.fi,fn:=q.fn},by rw [List.length_set];exact h.le,h.si,fun c hc=>(mem c hc).elim (h.sg c) fun e=>(hg c e).2.2.2.2,h.z0,h.zm,h.zi,h.zn⟩,mem⟩
 rw [List.mem_singleton] at hc
 subst hc
 exact ⟨iD,fe,fj,fun e=>(mem _ e).elim oh fun e=>Vq _ e rfl,iy⟩
theorem RR.sk (h:RR S P gP H r t m g mi H1 t1 g1 dz) {k j:Nat} (hk:k < t1.ns.length) (hj:j < 17) {v:Value} {n':aH} (hn:∀wA wP wB,(aJ (t1.ns.getD k {}) wA wP wB).set j v=aJ n' wA wP wB) (ha:n'.args=(t1.ns.getD k {}).args) (hp:n'.pat=(t1.ns.getD k {}).pat) (cX:n'.ak=(t1.ns.getD k {}).ak):
  ∃vI b cs,H1.get r=some ⟨rC S (.slice (some ⟨b,0,none⟩) t1.ns.length t1.ns.length) vI t1,136,false,false⟩/\b∈m/\H1.get b=some ⟨cs,42,true,false⟩/\k * 20+20<=cs.length/\
  ∃g2,RR S P gP H r t m g mi (H1.ah b ⟨cs.set (k * 20+j) v,42,true,false⟩) {t1 with ns:=t1.ns.set k n'} g2 dz:=by
 obtain ⟨vI,b,cs,vA,vP,vB,gA,gQ,gB,hr,hI,fP,hb,c6,aV,iS,tc⟩:=h.rq.toRQ0.node hk
 have fP:b∈m:=by rw [fP];simp
 have q:=h.rq
 obtain ⟨vI',b',fL,ib,avl,dT,avm,g2,h2,_⟩:=h.SF hk (n:=n') (vA:=vA) (vP:=vP) (vB:=vB) (gA:=gA) (gQ:=gQ) (gB:=gB) ⟨ha▸iS.a,hp▸iS.q,cX▸iS.b⟩ fun c hc=>⟨(q.hg c (tc c hc)).1,(q.hg c (tc c hc)).2,fun e=>(q.hm c e).2.2.2.1 (tc c hc),fun e=>(q.hi c e).2.2.2 (tc c hc),h.sg c (tc c hc)⟩
 rw [hr] at ib
 simp only [rC,Option.some.injEq,ct.mk.injEq,List.cons.injEq,Value.slice.injEq,Addr.mk.injEq,and_true,true_and] at ib
 obtain ⟨rfl,_⟩:=ib
 rw [hb] at dT
 simp only [Option.some.injEq,ct.mk.injEq,and_true] at dT
 subst dT
 have aZ:k * 20+j < cs.length:=by omega
 have eu:cs.set (k * 20+j) v=cT cs (k * 20) (aJ n' vA vP vB):=by
  have:=xq (vs:=[v]) aV (k:=j) (by show j+1<=20;omega) c6
  rw [eG aZ] at this
  rw [this,<-hn vA vP vB]
  have e:cT (aJ (t1.ns.getD k {}) vA vP vB) j [v]=(aJ (t1.ns.getD k {}) vA vP vB).set j v:=eG (by show j < 20;omega)
  rw [e]
 exact ⟨vI,b,cs,hr,fP,hb,c6,g2,eu▸h2⟩
end
theorem Xo:∀(l:List bj) (s:bj) (i:Nat),0<=findF s i l->∃k,findF s i l=((i+k:Nat):Int)/\k < l.length
 | [],s,i,h=>by simp [findF] at h
 | x::l,s,i,h=>by
  rw [findF] at h ⊢
  by_cases hx:x=s
  ·rw [if_pos hx];exact ⟨0,by simp,by simp⟩
  ·rw [if_neg hx] at h ⊢
   obtain ⟨k,h1,h2⟩:=Xo l s (i+1) h
   exact ⟨k+1,by rw [h1];congr 1;omega,by simp;omega⟩
theorem Cm {l:List bj} {s:bj} (h:0<=cH l s):∃k:Nat,cH l s=(k:Int)/\k < l.length:=by
 obtain ⟨k,h1,h2⟩:=Xo l s 0 h
 exact ⟨k,by rw [cH,h1];simp,h2⟩
def AX (b:Prop) [Decidable b] (e:Int) (n:aH) (t:VT):VT:=if b then t.fail e n.line n.au else t
def HL (n:aH) (t:VT):Nat:=if n.kind=17 then t.inner.toNat else 0
def nN (n:aH) (t:VT):aH × VT:=if n.gf=[] then (n,t)
 else ({n with y:=ke t.aK n.gf (HL n t)},AX (ke t.aK n.gf (HL n t) < 0) 4 n t)
def tJ (n:aH) (aK:List l9):List so->List so->VT->List so × VT
 | [],done,t=>(done,t)
 | a::l,done,t=>if a.kind=1 then tJ n aK l (done++[a]) t else tJ n aK l (done++[{a with n:=ke aK a.name 0}]) (AX (ke aK a.name 0 < 0) 4 n t)
def JV (x y:Nat) (n:aH) (t:VT):VT:=if ((x:Nat):Int)=((y:Nat):Int) then t else t.fail 6 n.line n.au
def kV (P:bC) (n:aH) (t:VT):Option aH × VT:=
 if n.kind=9 then (if cH (jf P) n.gV < 0 then (none,t.fail 4 n.line n.au) else (some {n with f:=cH (jf P) n.gV},JV n.args.length ((P.msgs.getD (cH (jf P) n.gV).toNat ⟨[],[],0,0⟩).types.length) n t))
 else if n.kind=10∨n.kind=13 then (if cH (sf P) n.gV < 0 then (none,t.fail 4 n.line n.au) else (some {n with f:=cH (sf P) n.gV},JV n.args.length ((P.defs.getD (cH (sf P) n.gV).toNat ⟨[],[],0,0,0,0,false,[],[]⟩).params.length) n t))
 else if n.kind=4∨n.kind=5∨n.kind=6∨n.kind=7 then
  (if n.rc= -1 then (some n,t)
   else if cH (jU P) n.jq < 0 then (none,t.fail 4 n.line n.au)
   else (let rc:=cH (jU P) n.jq
    let fs:=(P.bZ.getD rc.toNat ⟨[],[],0,0⟩).fields
    if n.kind=4 then (some {n with rc:=rc},JV n.args.length fs.length n t)
    else if cH (fs.map (·.name)) n.gV < 0 then (none,t.fail 4 n.line n.au) else (some {n with rc:=rc,f:=cH (fs.map (·.name)) n.gV},t)))
 else (some n,t)
def NM (P:bC) (n:aH) (t:VT):Option aH × VT:=
 kV P {(nN n t).1 with args:=(tJ n t.aK n.args [] (nN n t).2).1} (tJ n t.aK n.args [] (nN n t).2).2
def NN (P:bC) (k:Nat) (t:VT):Option VT:=
 if k < t.ns.length/\0<=t.inner/\t.aK.length < 1000000/\(t.ns.getD k {}).args.length < 1000000 then
  some (match (NM P (t.ns.getD k {}) t).1 with
   | some n'=>{(NM P (t.ns.getD k {}) t).2 with ns:=t.ns.set k n'}
   | none=>(NM P (t.ns.getD k {}) t).2)
 else none
theorem abd (n:aH) (t:VT):(nN n t).1.args=n.args/\(nN n t).1.pat=n.pat/\(nN n t).1.ak=n.ak/\(nN n t).1.line=n.line/\(nN n t).1.au=n.au/\(nN n t).2.aK=t.aK/\(nN n t).2.ns=t.ns:=by
 unfold nN
 split
 ·exact ⟨rfl,rfl,rfl,rfl,rfl,rfl,rfl⟩
 ·unfold AX
  split
  ·exact ⟨rfl,rfl,rfl,rfl,rfl,VT.Qu _ _ _ _,VT.QM _ _ _ _⟩
  ·exact ⟨rfl,rfl,rfl,rfl,rfl,rfl,rfl⟩
section
variable {S:XS} {P:bC} {gP:List Nat} {H H1 H2:ad} {r:Nat} {t t1 t2:VT} {m g g1 g2 mi dz dF:List Nat}
theorem agh (h:RQ S P gP H r t m g mi) (hP:y0 P) {k:Nat} {t':VT} (he:NN P k t=some t'):aj Tryz.prog 124 #[pV r,iV (k:Nat)] H (fun w H'=>wk S P gP H r t m g mi t' H'):=by
 refine aj.told ?_
 refine qi (l:=[_,_]) _ mixed Tryz.func124 aet [] (show 2<=234 by decide) rfl fun hf=>?_
 simp only [Tryz.f124,Option.getD_some]
 unfold NN at he
 split at he
 case isFalse=>cases he
 rename_i hb
 obtain ⟨hk,iS,c6,Bi⟩:=hb
 obtain ⟨vI,b,cs,vA,vQ,vB,gA,gQ,gB,hr,hI,fP,hb,b7,aV,lG,tc⟩:=h.toRQ0.node hk
 generalize hn:t.ns.getD k {}=n at *
 obtain ⟨aA,kA,rfl⟩:=lG.a.val
 obtain ⟨aQ,kQ,rfl⟩:=lG.q.val
 obtain ⟨aB,kB,rfl⟩:=lG.b.val
 have r1:=((RA.start h).push ⟨aJ n (.slice aA n.args.length kA) (.slice aQ n.pat.length kQ) (.slice aB n.ak.length kB),42,false,false⟩).told
 have rI:∀c∈gA++(gQ++gB),c < H.next/\c≠r:=fun c hc=>h.hg c (tc c hc)
 have dv:H.fz H.next=false:=hf.fresh (Nat.le_refl _)
 have gq:¬H.next=r:=by have:=h.rl;omega
 have nr:¬r=H.next:=fun e=>gq e.symm
 refine lS (qj 2199023255344 (fun V H1=>V 4=pV H.next/\RA S P gP H r t m g mi H1 (nN n t).2/\H1.get H.next=some ⟨aJ (nN n t).1 (.slice aA n.args.length kA) (.slice aQ n.pat.length kQ) (.slice aB n.ak.length kB),42,false,false⟩/\H.next < H1.next) ?_ ?_ (by rfl))
 ·obtain ⟨H1,cF⟩:=r1.hp
  have iz:H1.get H.next=some ⟨aJ n (.slice aA n.args.length kA) (.slice aQ n.pat.length kQ) (.slice aB n.ak.length kB),42,false,false⟩:=by rw [cF,be,aU,if_pos rfl]
  have IU:H1.next=H.next+1:=by rw [cF];rfl
  obtain ⟨vN1,vI1,gj,_,_⟩:=r1.rq.row
  rw [<-cF] at gj
  by_cases hy:n.gf=[]
  ·rw [nN,if_pos hy]
   simp only [go_sem,hr,hk,hb,b7,aV,dv,hy]
   rw [<-cF] at r1 ⊢
   exact ⟨r1,by omega⟩
  ·rw [nN,if_neg hy]
   obtain ⟨ti,Vr⟩:=Int.eq_ofNat_of_zero_le iS
   by_cases Om:n.kind=17
   ·simp only [go_sem,hr,hk,hb,b7,aV,dv,hy,Om,Vr,nr]
    rw [<-cF] at r1 ⊢
    refine af.by (Nr r1.rq.toRQ0 c6 (s:=n.gf) (fr:=ti)) ?_
    rintro _ _ - ⟨rfl,rfl⟩
    have Vs:HL n t=ti:=by rw [HL,if_pos Om,Vr,Int.toNat_natCast]
    rw [Vs]
    have r2:=(r1.own (M:=[H.next]) ((Fr.refl _ _).ah (b:=H.next) (.inl (by simp)) ⟨aJ {n with y:=ke t.aK n.gf ti} (.slice aA n.args.length kA) (.slice aQ n.pat.length kQ) (.slice aB n.ak.length kB),42,false,false⟩) (by simp) fun _ _=>rfl).told
    obtain ⟨H2,vx⟩:=r2.hp
    have mJ:H2.get H.next=some ⟨aJ {n with y:=ke t.aK n.gf ti} (.slice aA n.args.length kA) (.slice aQ n.pat.length kQ) (.slice aB n.ak.length kB),42,false,false⟩:=by rw [vx,be,az,if_pos rfl]
    have nx2:H2.next=H1.next:=by rw [vx];rfl
    by_cases cu:ke t.aK n.gf ti < 0
    ·rw [AX,if_pos cu]
     simp only [go_sem,iz,dv,cu]
     rw [<-vx] at r2 ⊢
     refine af.by (iX r2.rq) ?_
     rintro _ H3 - p3
     have n3:H2.next<=H3.next:=p3.fr.nx
     simp only [go_sem]
     exact ⟨(r2.call p3).told,(p3.fr.get H.next (by omega) (by simp [gq])).trans mJ,by omega⟩
    ·rw [AX,if_neg cu]
     simp only [go_sem,iz,dv,cu]
     rw [<-vx] at r2 ⊢
     exact ⟨r2,by omega⟩
   ·simp only [go_sem,hr,hk,hb,b7,aV,dv,hy,Om,Vr,nr]
    rw [<-cF] at r1 ⊢
    refine af.by (Nr r1.rq.toRQ0 c6 (s:=n.gf) (fr:=0)) ?_
    rintro _ _ - ⟨rfl,rfl⟩
    have Vs:HL n t=0:=by rw [HL,if_neg Om]
    rw [Vs]
    have r2:=(r1.own (M:=[H.next]) ((Fr.refl _ _).ah (b:=H.next) (.inl (by simp)) ⟨aJ {n with y:=ke t.aK n.gf 0} (.slice aA n.args.length kA) (.slice aQ n.pat.length kQ) (.slice aB n.ak.length kB),42,false,false⟩) (by simp) fun _ _=>rfl).told
    obtain ⟨H2,vx⟩:=r2.hp
    have mJ:H2.get H.next=some ⟨aJ {n with y:=ke t.aK n.gf 0} (.slice aA n.args.length kA) (.slice aQ n.pat.length kQ) (.slice aB n.ak.length kB),42,false,false⟩:=by rw [vx,be,az,if_pos rfl]
    have nx2:H2.next=H1.next:=by rw [vx];rfl
    by_cases cu:ke t.aK n.gf 0 < 0
    ·rw [AX,if_pos cu]
     simp only [go_sem,iz,dv,cu]
     rw [<-vx] at r2 ⊢
     refine af.by (iX r2.rq) ?_
     rintro _ H3 - p3
     have n3:H2.next<=H3.next:=p3.fr.nx
     simp only [go_sem]
     exact ⟨(r2.call p3).told,(p3.fr.get H.next (by omega) (by simp [gq])).trans mJ,by omega⟩
    ·rw [AX,if_neg cu]
     simp only [go_sem,iz,dv,cu]
     rw [<-vx] at r2 ⊢
     exact ⟨r2,by omega⟩
 ·rintro V H1 ⟨e4,r2,mJ,n2⟩
  obtain ⟨ka,kp,kb,kl,kc,ki,kn⟩:=abd n t
  have eU:NM P n t=kV P {(nN n t).1 with args:=(tJ n t.aK n.args [] (nN n t).2).1} (tJ n t.aK n.args [] (nN n t).2).2:=rfl
  rw [eU] at he
  clear eU
  generalize (nN n t).1=n1 at *
  generalize (nN n t).2=t1 at *
  have lo1:∀c,c < H.next->c≠r->H1.get c=H.get c:=fun c h1 h2=>r2.k h1 h2
  refine lS (qj 604462909805115564097728 (fun _ H3=>∃lk mA,RA S P gP H r t m g mi H3 (tJ n t.aK n.args [] t1).2/\H3.get H.next=some ⟨aJ {n1 with args:=(tJ n t.aK n.args [] t1).1} (.slice lk n.args.length n.args.length) (.slice aQ n.pat.length kQ) (.slice aB n.ak.length kB),42,false,false⟩/\Sl jG H3 (.slice lk n.args.length n.args.length) (tJ n t.aK n.args [] t1).1 mA/\(∀d∈mA,H.next < d/\d < H3.next)/\H.next < H3.next) ?_ ?_ (by rfl))
  ·simp only [go_sem,e4,mJ]
   refine xy (r:=jG) qn (lG.a.ae (H':=H1) fun c hc=>lo1 c (rI c (by simp [hc])).1 (rI c (by simp [hc])).2) (by
    have:n.args.length * 1000<=1000000 * 1000:=Nat.mul_le_mul (by omega) (Nat.le_refl _)
    omega) (fun c hc=>by have:=(rI c (by simp [hc])).1;omega) ?_
   intro vL H2 mL gL cw pL jo
   have kt:=cw.flat
   subst kt
   obtain ⟨aL,pO⟩:=cw.val
   subst pO
   obtain ⟨r3,fZ,k2,ey⟩:RA S P gP H r t m g mi H2 t1/\(∀d∈mL,H1.next<=d/\d < H2.next)/\(∀d,d < H1.next->H2.get d=H1.get d)/\H1.next<=H2.next:=by
    rcases jo with ⟨rfl,rfl⟩ | ⟨rfl,cs,rfl⟩
    ·exact ⟨r2,by simp,fun _ _=>rfl,Nat.le_refl _⟩
    ·exact ⟨r2.push _,fun d hd=>by rw [List.mem_singleton] at hd;subst hd;exact ⟨Nat.le_refl _,Nat.lt_succ_self _⟩,fun d hd=>bS hd,Nat.le_succ _⟩
   have mN:=(k2 H.next n2).trans mJ
   have r4:=(r3.own (M:=[H.next]) ((Fr.refl _ _).ah (b:=H.next) (.inl (by simp)) ⟨aJ n1 (.slice aL n.args.length n.args.length) (.slice aQ n.pat.length kQ) (.slice aB n.ak.length kB),42,false,false⟩) (by simp) fun _ _=>rfl).told
   obtain ⟨H4,dx⟩:=r4.hp
   have Ap:H4.get H.next=some ⟨aJ n1 (.slice aL n.args.length n.args.length) (.slice aQ n.pat.length kQ) (.slice aB n.ak.length kB),42,false,false⟩:=by rw [dx,be,az,if_pos rfl]
   have k4:∀d,d≠H.next->H4.get d=H2.get d:=fun d hd=>by rw [dx,be,az,if_neg hd]
   have FY:H4.next=H2.next:=by rw [dx];rfl
   simp only [go_sem,e4,mN,dv]
   rw [<-dx] at r4 ⊢
   clear dx
   have oD:=cw.ae (H':=H4) (fun d hd=>k4 d (by have:=(fZ d hd).1;omega)) (by simp)
   refine pe 604462909525839610642624 n.args.length (fun i V3 H5=>V3 48=iV (i:Nat)/\∃done t5,RA S P gP H r t m g mi H5 t5/\H5.get H.next=some ⟨aJ n1 (.slice aL n.args.length n.args.length) (.slice aQ n.pat.length kQ) (.slice aB n.ak.length kB),42,false,false⟩/\Gr jG 44 H5 (.slice aL n.args.length n.args.length) (done++n.args.drop i) mL []/\H4.next<=H5.next/\done.length=i/\tJ n t.aK n.args [] t1=tJ n t.aK (n.args.drop i) done t5)
    ⟨by simp only [go_sem] <;> rfl,[],t1,r4,Ap,oD,Nat.le_refl _,rfl,rfl⟩ ?_ ?_ (by rfl)
   ·rintro i V3 H5 hi ⟨ei,done,t5,r5,dJ,ly,w4,db,qW⟩
    have hx:n.args[i]?=some (n.args[i]'hi):=List.getElem?_eq_getElem hi
    have cB:n.args.drop i=(n.args[i]'hi)::n.args.drop (i+1):=(List.getElem_cons_drop hi).symm
    generalize (n.args[i]'hi)=x at hx cB
    obtain ⟨xk,xn,xs⟩:=x
    rw [cB] at ly qW
    rw [tJ] at qW
    have KL:i < (done++⟨xk,xn,xs⟩::n.args.drop (i+1)).length:=by rw [List.length_append,List.length_cons];omega
    have pA:(done++⟨xk,xn,xs⟩::n.args.drop (i+1))[i]'KL=⟨xk,xn,xs⟩:=by subst db;simp
    have eV:∀y:so,(done++⟨xk,xn,xs⟩::n.args.drop (i+1)).set i y=(done++[y])++n.args.drop (i+1):=fun y=>by subst db;simp
    have bX:IntKind.wrap .i64 (((i:Nat):Int)+1)=((i+1:Nat):Int):=cW hi (by omega)
    obtain ⟨b5,dC,f1,f2,f3,hv,dy,iy,fE,lL,iJ,hE,oE⟩:=ly.put KL
    have lL:=lL.symm
    simp only [List.append_eq_nil_iff] at lL
    obtain ⟨rfl,rfl,rfl⟩:=lL
    rw [pA] at hE
    have ji:(dC.drop (i * 3)).take 3=[iV xk,iV xn,ag xs]:=hE.1
    have iJ:i * 3+3<=dC.length:=iJ
    simp only [Value.slice.injEq] at hv
    have iA:=hv.1
    have On:b5∈mL:=by rw [dy];simp
    have akQ:=fZ b5 On
    have i9:H.fz b5=false:=hf.fresh (by omega)
    have Af:H.fz H5.next=false:=hf.fresh (by omega)
    have r6:=((r5.told).push ⟨[iV xk,iV xn,ag xs],44,false,false⟩).told
    have Au:i * 3+1 < dC.length:=by omega
    have SG:i * 3+1+1<=dC.length:=by omega
    have BO:¬b5=H5.next:=by omega
    have avn:¬H5.next=b5:=by omega
    have Vt:¬H.next=b5:=by omega
    have I7:¬H.next=H5.next:=by omega
    obtain ⟨H6,ez⟩:=r6.hp
    have dH:H6.get H.next=_:=(by rw [ez,be,aU,DT,if_neg I7,be]:H6.get H.next=H5.get H.next).trans dJ
    have Ug:H6.get H5.next=some ⟨[iV xk,iV xn,ag xs],44,false,false⟩:=by rw [ez,be,aU];exact if_pos rfl
    have Uv:H6.get b5=_:=(by rw [ez,be,aU,DT,if_neg BO,be]:H6.get b5=H5.get b5).trans iy
    have FV:H6.next=H5.next+1:=by rw [ez];rfl
    have k6:∀d,d < H5.next->H6.get d=H5.get d:=fun d hd=>by rw [ez,be,bS (by exact hd),be]
    by_cases y8:xk=1
    ·subst y8
     rw [if_pos rfl] at qW
     simp only [go_sem,ei,hi,iA,iy,iJ,ji,Af,bX]
     rw [<-ez]
     refine ⟨done++[⟨1,xn,xs⟩],t5,ez▸r6,by rw [if_neg I7,dJ,iA],?_,by omega,by rw [List.length_append,List.length_singleton,db],qW⟩
     have:=ly.ae (H':=H6) (fun d hd=>k6 d (by have:=(fZ d hd).2;omega)) (by simp)
     rw [iA] at this
     rw [List.append_assoc]
     exact this
    ·rw [if_neg y8] at qW
     have I8:=r6.rq.toRQ0
     rw [<-ez] at I8 r6
     have mV:t5.aK=t.aK:=r5.aK
     rw [<-mV] at qW
     have r7:=(r6.own (M:=[b5]) ((Fr.refl _ _).ah (b:=b5) (.inl (by simp)) ⟨dC.set (i * 3+1) (iV (ke t5.aK xs 0)),44,true,false⟩) (by simp;omega) fun _ _=>rfl).told
     obtain ⟨H7,cS⟩:=r7.hp
     have k7:∀d,d≠b5->H7.get d=H6.get d:=fun d hd=>by rw [cS,be,az,if_neg hd]
     have xg:H7.next=H6.next:=by rw [cS];rfl
     have I9:H7.get b5=some ⟨dC.set (i * 3+1) (iV (ke t5.aK xs 0)),44,true,false⟩:=by rw [cS,be,az,if_pos rfl]
     have ea:=(k7 H.next Vt).trans dH
     have eu:dC.set (i * 3+1) (iV (ke t5.aK xs 0))=cT dC (i * jG.sz) [iV xk,iV (ke t5.aK xs 0),ag xs]:=by
      have:=xq (vs:=[iV (ke t5.aK xs 0)]) ji (k:=1) (by decide:1+1<=3) iJ
      rw [eG Au] at this
      rw [this];rfl
     have bG:=oE H7 [iV xk,iV (ke t5.aK xs 0),ag xs] ⟨xk,ke t5.aK xs 0,xs⟩ [] (by simp) (by rw [I9,eu]) ⟨rfl,rfl⟩ (by simp)
     rw [eV,<-dy] at bG
     simp only [go_sem,e4,ei,hi,iA,iy,iJ,ji,Af,y8,I7,dJ]
     rw [<-ez]
     refine af.by (Nr I8 (by rw [mV];exact c6) (s:=xs) (fr:=0)) ?_
     rintro _ _ - ⟨rfl,rfl⟩
     simp only [go_sem,e4,dH,iA,hi,Uv,i9,Au,SG,eG Au]
     rw [<-cS] at r7 ⊢
     have Ev:(dC.set (i * 3+1) (iV (ke t5.aK xs 0)))[i * 3+1]?=some (iV (ke t5.aK xs 0)):=List.getElem?_set_self Au
     have hlen:(dC.set (i * 3+1) (iV (ke t5.aK xs 0))).length=dC.length:=List.length_set
     have Pt:(done++[(⟨xk,ke t5.aK xs 0,xs⟩:so)]).length=i+1:=by rw [List.length_append,List.length_singleton,db]
     rw [iA] at bG
     by_cases cu:ke t5.aK xs 0 < 0
     ·rw [AX,if_pos cu] at qW
      simp only [go_sem,Vt,e4,ea,hi,I9,Ev,hlen,SG,cu,iA]
      rw [<-kl,<-kc] at qW
      refine af.by (iX (e:=4) (l:=n1.line) (c:=n1.au) r7.told.rq) ?_
      rintro _ H8 - p8
      have n8:H7.next<=H8.next:=p8.fr.nx
      have k8:∀d,d < H7.next->d≠r->H8.get d=H7.get d:=fun d h1 h2=>p8.fr.get d h1 (by simp [h2])
      simp only [go_sem,ei,bX]
      rw [<-iA] at bG
      rw [mV] at qW bG Pt
      exact ⟨_,_,(r7.told.call p8).told,(k8 H.next (by omega) gq).trans ea,bG.ae (fun d hd=>k8 d (by have:=fZ d hd;omega) (by have:=fZ d hd;have:=h.rl;omega)) (by simp),by omega,Pt,qW⟩
     ·rw [AX,if_neg cu] at qW
      simp only [go_sem,Vt,e4,ea,hi,I9,Ev,hlen,SG,cu,iA,ei,bX]
      rw [mV] at qW bG Pt
      exact ⟨_,t5,r7.told,bG.ae (fun _ _=>rfl) (fun _ _=>rfl),by omega,Pt,qW⟩
   ·rintro V3 H5 ⟨ei,done,t5,r5,dJ,ly,w4,db,qW⟩
    rw [List.drop_length] at ly qW
    rw [List.append_nil] at ly
    rw [tJ] at qW
    simp only [go_sem,ei]
    rw [qW]
    have r5:=r5.told
    have fk:=ly.sl.ae (H':=H5.ai H.fz) fun _ _=>rfl
    rw [List.append_nil] at fk
    exact ⟨aL,mL,r5,dJ,fk,fun d hd=>by have:=fZ d hd;omega,by omega⟩
  ·rintro V2 H3 ⟨lk,mA,r5,dJ,Vu,Pu,n3⟩
   generalize tJ n t.aK n.args [] t1=UA at *
   obtain ⟨kd,x,y,f,nn,cap,rc,op,a,bb,nx,ln,cl,nX,nY,nF,nR,as0,pt,bY⟩:=n1
   obtain ⟨al,t2⟩:=UA
   simp only at ka kp kb kl kc he dJ r5 Vu
   have Oo:al.length=n.args.length:=by
    obtain ⟨_,_,e⟩:=Vu.val
    simp only [Value.slice.injEq] at e
    exact e.2.1.symm
   refine qj 107839786668602559178668060348078522694548577085699380117099853643776 (fun _ H4=>∃n3 t3,kV P ⟨kd,x,y,f,nn,cap,rc,op,a,bb,nx,ln,cl,nX,nY,nF,nR,al,pt,bY⟩ t2=(some n3,t3)/\RA S P gP H r t m g mi H4 t3/\H4.get H.next=some ⟨aJ n3 (.slice lk n.args.length n.args.length) (.slice aQ n.pat.length kQ) (.slice aB n.ak.length kB),42,false,false⟩/\n3.args=al/\n3.pat=pt/\n3.ak=bY/\(∀c,c < H3.next->c≠r->c≠H.next->H4.get c=H3.get c)/\H.next < H4.next/\H3.next<=H4.next) ?_ ?_ (by rfl)
   ·by_cases Vv:kd=9
    ·subst Vv
     obtain ⟨BA,DJ,fA,_,_⟩:=r5.rq.row
     obtain ⟨gs,qS,jx⟩:=r5.rq.sM
     simp only [go_sem,e4,dJ,fA]
     refine af.by (Nn (qS.ae fun _ _=>rfl) hP.m (fun c hc=>by show c < H3.next;have:=(r5.rq.hP c (jx c hc)).1;omega)) ?_
     rintro B8 H4 - ⟨⟨g4,nE,F8⟩,o4,z4⟩
     have nB:H3.next<=H4.next:=o4.nx
     have r6:=r5.told.aE o4 z4
     have k4:∀c,c < H3.next->H4.get c=H3.get c:=fun c hc=>o4.get c hc
     have dH:=(k4 H.next n3).trans dJ
     have hZ:=(k4 r r5.rq.rl).trans fA
     simp only [go_sem,e4,dJ,dH]
     refine af.by (qh nE (by rw [List.length_map];exact hP.m)) ?_
     rintro _ _ - ⟨rfl,rfl⟩
     have r7:=(r6.own (M:=[H.next]) ((Fr.refl _ _).ah (b:=H.next) (.inl (by simp)) ⟨aJ ⟨9,x,y,cH (jf P) nF,nn,cap,rc,op,a,bb,nx,ln,cl,nX,nY,nF,nR,al,pt,bY⟩ (.slice lk n.args.length n.args.length) (.slice aQ n.pat.length kQ) (.slice aB n.ak.length kB),42,false,false⟩) (by simp) fun _ _=>rfl).told
     obtain ⟨H7,cS⟩:=r7.hp
     have ea:H7.get H.next=some ⟨aJ ⟨9,x,y,cH (jf P) nF,nn,cap,rc,op,a,bb,nx,ln,cl,nX,nY,nF,nR,al,pt,bY⟩ (.slice lk n.args.length n.args.length) (.slice aQ n.pat.length kQ) (.slice aB n.ak.length kB),42,false,false⟩:=by rw [cS,be,az,if_pos rfl]
     have k7:∀c,c≠H.next->H7.get c=H4.get c:=fun c hc=>by rw [cS,be,az,if_neg hc]
     have xg:H7.next=H4.next:=by rw [cS];rfl
     have kC:=(k7 r nr).trans hZ
     by_cases cu:cH (jf P) nF < 0
     ·rw [kV] at he
      simp only [Int.reduceEq,if_true,if_false,or_true,true_or,or_false,false_or,cu] at he
      cases he
      simp only [go_sem,e4,dH,dv,cu]
      rw [<-cS] at r7 ⊢
      refine af.by (iX (e:=4) (l:=ln) (c:=cl) r7.rq) ?_
      rintro _ Hf - pf
      simp only [go_sem]
      exact (r7.call pf).rr.last
     ·simp only [go_sem,e4,dH,dv,cu]
      rw [<-cS] at r7 ⊢
      clear cS
      obtain ⟨fi,gY,cY⟩:=Cm (Int.not_lt.1 cu)
      rw [List.length_map] at cY
      rw [gY] at ea
      have ja:P.msgs[fi]?=some (P.msgs[fi]'cY):=List.getElem?_eq_getElem cY
      have fG:P.msgs.getD fi ⟨[],[],0,0⟩=P.msgs[fi]'cY:=by rw [List.getD_eq_getElem?_getD,ja];rfl
      generalize (P.msgs[fi]'cY)=xd at ja fG
      obtain ⟨bd,od,cd,BD,F9,td,te,ES,zO,ET,oU⟩:=(r7.rq.sM).at ja
      obtain ⟨wv,iw,pX⟩:=oU
      obtain ⟨aw,kw,rfl⟩:=pX.val
      have iw:(BD.cells.drop (od+fi * 4)).take 4=[ag xd.name,.slice aw xd.types.length kw,iV xd.line,iV xd.au]:=iw
      have tf:BD.cells[od+fi * 4+1]?=some (.slice aw xd.types.length kw):=by
       have:((BD.cells.drop (od+fi * 4)).take 4)[1]?=some (.slice aw xd.types.length kw):=by rw [iw];rfl
       rw [List.getElem?_take,if_pos (by decide),List.getElem?_drop] at this
       exact this
      simp only [go_sem,nr,hZ,e4,ea,kC,td,gY,cY,te,tf]
      refine af.by (JH (n:=⟨9,x,y,((fi:Nat):Int),nn,cap,rc,op,a,bb,nx,ln,cl,nX,nY,nF,nR,al,pt,bY⟩) r7.rq) ?_
      rintro _ H8 - p8
      have n8:H7.next<=H8.next:=p8.fr.nx
      simp only [go_sem]
      refine ⟨⟨9,x,y,((fi:Nat):Int),nn,cap,rc,op,a,bb,nx,ln,cl,nX,nY,nF,nR,al,pt,bY⟩,_,?_,(r7.call p8).told,(p8.fr.get H.next (by show H.next < H7.next;omega) (by simp [gq])).trans ea,rfl,rfl,rfl,fun c h1 h2 h3=>(p8.fr.get c (by show c < H7.next;omega) (by simp [h2])).trans ((k7 c h3).trans (k4 c h1)),by omega,by omega⟩
      rw [kV]
      simp only [Int.reduceEq,if_true,if_false,or_true,true_or,or_false,false_or,cu,gY,Int.toNat_natCast,fG]
      rw [Oo]
      rfl
    ·by_cases SH:kd=10
     ·subst SH
      obtain ⟨BA,DJ,fA,_,_⟩:=r5.rq.row
      obtain ⟨gs,qS,jx⟩:=r5.rq.sD
      simp only [go_sem,e4,dJ,fA]
      refine af.by (QZ (qS.ae fun _ _=>rfl) hP.d (fun c hc=>by show c < H3.next;have:=(r5.rq.hP c (jx c hc)).1;omega)) ?_
      rintro B8 H4 - ⟨⟨g4,nE,F8⟩,o4,z4⟩
      have nB:H3.next<=H4.next:=o4.nx
      have r6:=r5.told.aE o4 z4
      have k4:∀c,c < H3.next->H4.get c=H3.get c:=fun c hc=>o4.get c hc
      have dH:=(k4 H.next n3).trans dJ
      have hZ:=(k4 r r5.rq.rl).trans fA
      simp only [go_sem,e4,dJ,dH]
      refine af.by (qh nE (by rw [List.length_map];exact hP.d)) ?_
      rintro _ _ - ⟨rfl,rfl⟩
      have r7:=(r6.own (M:=[H.next]) ((Fr.refl _ _).ah (b:=H.next) (.inl (by simp)) ⟨aJ ⟨10,x,y,cH (sf P) nF,nn,cap,rc,op,a,bb,nx,ln,cl,nX,nY,nF,nR,al,pt,bY⟩ (.slice lk n.args.length n.args.length) (.slice aQ n.pat.length kQ) (.slice aB n.ak.length kB),42,false,false⟩) (by simp) fun _ _=>rfl).told
      obtain ⟨H7,cS⟩:=r7.hp
      have ea:H7.get H.next=some ⟨aJ ⟨10,x,y,cH (sf P) nF,nn,cap,rc,op,a,bb,nx,ln,cl,nX,nY,nF,nR,al,pt,bY⟩ (.slice lk n.args.length n.args.length) (.slice aQ n.pat.length kQ) (.slice aB n.ak.length kB),42,false,false⟩:=by rw [cS,be,az,if_pos rfl]
      have k7:∀c,c≠H.next->H7.get c=H4.get c:=fun c hc=>by rw [cS,be,az,if_neg hc]
      have xg:H7.next=H4.next:=by rw [cS];rfl
      have kC:=(k7 r nr).trans hZ
      by_cases cu:cH (sf P) nF < 0
      ·rw [kV] at he
       simp only [Int.reduceEq,if_true,if_false,or_true,true_or,or_false,false_or,cu] at he
       cases he
       simp only [go_sem,e4,dH,dv,cu]
       rw [<-cS] at r7 ⊢
       refine af.by (iX (e:=4) (l:=ln) (c:=cl) r7.rq) ?_
       rintro _ Hf - pf
       simp only [go_sem]
       exact (r7.call pf).rr.last
      ·simp only [go_sem,e4,dH,dv,cu]
       rw [<-cS] at r7 ⊢
       clear cS
       obtain ⟨fi,gY,cY⟩:=Cm (Int.not_lt.1 cu)
       rw [List.length_map] at cY
       rw [gY] at ea
       have ja:P.defs[fi]?=some (P.defs[fi]'cY):=List.getElem?_eq_getElem cY
       have fG:P.defs.getD fi ⟨[],[],0,0,0,0,false,[],[]⟩=P.defs[fi]'cY:=by rw [List.getD_eq_getElem?_getD,ja];rfl
       generalize (P.defs[fi]'cY)=xd at ja fG
       obtain ⟨bd,od,cd,BD,F9,td,te,ES,zO,ET,oU⟩:=(r7.rq.sD).at ja
       obtain ⟨wv,Vw,Vx,q1,q2,q3,iw,_,pX,_,_⟩:=oU
       obtain ⟨aw,kw,rfl⟩:=pX.val
       have iw:(BD.cells.drop (od+fi * 9)).take 9=dK xd (.slice aw xd.params.length kw) Vw Vx:=iw
       have tf:BD.cells[od+fi * 9+1]?=some (.slice aw xd.params.length kw):=by
        have:((BD.cells.drop (od+fi * 9)).take 9)[1]?=some (.slice aw xd.params.length kw):=by rw [iw];rfl
        rw [List.getElem?_take,if_pos (by decide),List.getElem?_drop] at this
        exact this
       simp only [go_sem,nr,hZ,e4,ea,kC,td,gY,cY,te,tf]
       refine af.by (JH (n:=⟨10,x,y,((fi:Nat):Int),nn,cap,rc,op,a,bb,nx,ln,cl,nX,nY,nF,nR,al,pt,bY⟩) r7.rq) ?_
       rintro _ H8 - p8
       have n8:H7.next<=H8.next:=p8.fr.nx
       simp only [go_sem]
       refine ⟨⟨10,x,y,((fi:Nat):Int),nn,cap,rc,op,a,bb,nx,ln,cl,nX,nY,nF,nR,al,pt,bY⟩,_,?_,(r7.call p8).told,(p8.fr.get H.next (by show H.next < H7.next;omega) (by simp [gq])).trans ea,rfl,rfl,rfl,fun c h1 h2 h3=>(p8.fr.get c (by show c < H7.next;omega) (by simp [h2])).trans ((k7 c h3).trans (k4 c h1)),by omega,by omega⟩
       rw [kV]
       simp only [Int.reduceEq,if_true,if_false,or_true,true_or,or_false,false_or,cu,gY,Int.toNat_natCast,fG]
       rw [Oo]
       rfl
     ·by_cases SI:kd=13
      ·subst SI
       obtain ⟨BA,DJ,fA,_,_⟩:=r5.rq.row
       obtain ⟨gs,qS,jx⟩:=r5.rq.sD
       simp only [go_sem,e4,dJ,fA]
       refine af.by (QZ (qS.ae fun _ _=>rfl) hP.d (fun c hc=>by show c < H3.next;have:=(r5.rq.hP c (jx c hc)).1;omega)) ?_
       rintro B8 H4 - ⟨⟨g4,nE,F8⟩,o4,z4⟩
       have nB:H3.next<=H4.next:=o4.nx
       have r6:=r5.told.aE o4 z4
       have k4:∀c,c < H3.next->H4.get c=H3.get c:=fun c hc=>o4.get c hc
       have dH:=(k4 H.next n3).trans dJ
       have hZ:=(k4 r r5.rq.rl).trans fA
       simp only [go_sem,e4,dJ,dH]
       refine af.by (qh nE (by rw [List.length_map];exact hP.d)) ?_
       rintro _ _ - ⟨rfl,rfl⟩
       have r7:=(r6.own (M:=[H.next]) ((Fr.refl _ _).ah (b:=H.next) (.inl (by simp)) ⟨aJ ⟨13,x,y,cH (sf P) nF,nn,cap,rc,op,a,bb,nx,ln,cl,nX,nY,nF,nR,al,pt,bY⟩ (.slice lk n.args.length n.args.length) (.slice aQ n.pat.length kQ) (.slice aB n.ak.length kB),42,false,false⟩) (by simp) fun _ _=>rfl).told
       obtain ⟨H7,cS⟩:=r7.hp
       have ea:H7.get H.next=some ⟨aJ ⟨13,x,y,cH (sf P) nF,nn,cap,rc,op,a,bb,nx,ln,cl,nX,nY,nF,nR,al,pt,bY⟩ (.slice lk n.args.length n.args.length) (.slice aQ n.pat.length kQ) (.slice aB n.ak.length kB),42,false,false⟩:=by rw [cS,be,az,if_pos rfl]
       have k7:∀c,c≠H.next->H7.get c=H4.get c:=fun c hc=>by rw [cS,be,az,if_neg hc]
       have xg:H7.next=H4.next:=by rw [cS];rfl
       have kC:=(k7 r nr).trans hZ
       by_cases cu:cH (sf P) nF < 0
       ·rw [kV] at he
        simp only [Int.reduceEq,if_true,if_false,or_true,true_or,or_false,false_or,cu] at he
        cases he
        simp only [go_sem,e4,dH,dv,cu]
        rw [<-cS] at r7 ⊢
        refine af.by (iX (e:=4) (l:=ln) (c:=cl) r7.rq) ?_
        rintro _ Hf - pf
        simp only [go_sem]
        exact (r7.call pf).rr.last
       ·simp only [go_sem,e4,dH,dv,cu]
        rw [<-cS] at r7 ⊢
        clear cS
        obtain ⟨fi,gY,cY⟩:=Cm (Int.not_lt.1 cu)
        rw [List.length_map] at cY
        rw [gY] at ea
        have ja:P.defs[fi]?=some (P.defs[fi]'cY):=List.getElem?_eq_getElem cY
        have fG:P.defs.getD fi ⟨[],[],0,0,0,0,false,[],[]⟩=P.defs[fi]'cY:=by rw [List.getD_eq_getElem?_getD,ja];rfl
        generalize (P.defs[fi]'cY)=xd at ja fG
        obtain ⟨bd,od,cd,BD,F9,td,te,ES,zO,ET,oU⟩:=(r7.rq.sD).at ja
        obtain ⟨wv,Vw,Vx,q1,q2,q3,iw,_,pX,_,_⟩:=oU
        obtain ⟨aw,kw,rfl⟩:=pX.val
        have iw:(BD.cells.drop (od+fi * 9)).take 9=dK xd (.slice aw xd.params.length kw) Vw Vx:=iw
        have tf:BD.cells[od+fi * 9+1]?=some (.slice aw xd.params.length kw):=by
         have:((BD.cells.drop (od+fi * 9)).take 9)[1]?=some (.slice aw xd.params.length kw):=by rw [iw];rfl
         rw [List.getElem?_take,if_pos (by decide),List.getElem?_drop] at this
         exact this
        simp only [go_sem,nr,hZ,e4,ea,kC,td,gY,cY,te,tf]
        refine af.by (JH (n:=⟨13,x,y,((fi:Nat):Int),nn,cap,rc,op,a,bb,nx,ln,cl,nX,nY,nF,nR,al,pt,bY⟩) r7.rq) ?_
        rintro _ H8 - p8
        have n8:H7.next<=H8.next:=p8.fr.nx
        simp only [go_sem]
        refine ⟨⟨13,x,y,((fi:Nat):Int),nn,cap,rc,op,a,bb,nx,ln,cl,nX,nY,nF,nR,al,pt,bY⟩,_,?_,(r7.call p8).told,(p8.fr.get H.next (by show H.next < H7.next;omega) (by simp [gq])).trans ea,rfl,rfl,rfl,fun c h1 h2 h3=>(p8.fr.get c (by show c < H7.next;omega) (by simp [h2])).trans ((k7 c h3).trans (k4 c h1)),by omega,by omega⟩
        rw [kV]
        simp only [Int.reduceEq,if_true,if_false,or_true,true_or,or_false,false_or,cu,gY,Int.toNat_natCast,fG]
        rw [Oo]
        rfl
      ·by_cases ij:kd=4
       ·subst ij
        by_cases iu:rc= -1
        ·subst iu
         simp only [go_sem,e4,dJ]
         refine ⟨⟨4,x,y,f,nn,cap,(-1),op,a,bb,nx,ln,cl,nX,nY,nF,nR,al,pt,bY⟩,_,?_,r5.told,rfl,rfl,rfl,rfl,by first | exact ⟨fun _ _ _ _=>trivial,n3,Nat.le_refl _⟩ | exact ⟨fun _ _ _ _=>trivial,n3⟩⟩
         rw [kV]
         simp only [Int.reduceEq,if_true,if_false,or_true,true_or,or_false,false_or]
        ·obtain ⟨BA,DJ,fA,_,_⟩:=r5.rq.row
         obtain ⟨gs,qS,jx⟩:=r5.rq.sR
         simp only [go_sem,e4,dJ,fA,iu]
         refine af.by (G4 (qS.ae fun _ _=>rfl) hP.r (fun c hc=>by show c < H3.next;have:=(r5.rq.hP c (jx c hc)).1;omega)) ?_
         rintro B8 H4 - ⟨⟨g4,nE,F8⟩,o4,z4⟩
         have nB:H3.next<=H4.next:=o4.nx
         have r6:=r5.told.aE o4 z4
         have k4:∀c,c < H3.next->H4.get c=H3.get c:=fun c hc=>o4.get c hc
         have dH:=(k4 H.next n3).trans dJ
         have hZ:=(k4 r r5.rq.rl).trans fA
         simp only [go_sem,e4,dJ,dH]
         refine af.by (qh nE (by rw [List.length_map];exact hP.r)) ?_
         rintro _ _ - ⟨rfl,rfl⟩
         have r7:=(r6.own (M:=[H.next]) ((Fr.refl _ _).ah (b:=H.next) (.inl (by simp)) ⟨aJ ⟨4,x,y,f,nn,cap,cH (jU P) nR,op,a,bb,nx,ln,cl,nX,nY,nF,nR,al,pt,bY⟩ (.slice lk n.args.length n.args.length) (.slice aQ n.pat.length kQ) (.slice aB n.ak.length kB),42,false,false⟩) (by simp) fun _ _=>rfl).told
         obtain ⟨H7,cS⟩:=r7.hp
         have ea:H7.get H.next=some ⟨aJ ⟨4,x,y,f,nn,cap,cH (jU P) nR,op,a,bb,nx,ln,cl,nX,nY,nF,nR,al,pt,bY⟩ (.slice lk n.args.length n.args.length) (.slice aQ n.pat.length kQ) (.slice aB n.ak.length kB),42,false,false⟩:=by rw [cS,be,az,if_pos rfl]
         have k7:∀c,c≠H.next->H7.get c=H4.get c:=fun c hc=>by rw [cS,be,az,if_neg hc]
         have xg:H7.next=H4.next:=by rw [cS];rfl
         have kC:=(k7 r nr).trans hZ
         by_cases cu:cH (jU P) nR < 0
         ·rw [kV] at he
          simp only [Int.reduceEq,if_true,if_false,or_true,true_or,or_false,false_or,cu,iu] at he
          cases he
          simp only [go_sem,e4,dH,dv,cu]
          rw [<-cS] at r7 ⊢
          refine af.by (iX (e:=4) (l:=ln) (c:=cl) r7.rq) ?_
          rintro _ Hf - pf
          simp only [go_sem]
          exact (r7.call pf).rr.last
         ·simp only [go_sem,e4,dH,dv,cu]
          rw [<-cS] at r7 ⊢
          clear cS
          obtain ⟨fi,gY,cY⟩:=Cm (Int.not_lt.1 cu)
          rw [List.length_map] at cY
          rw [gY] at ea
          have ja:P.bZ[fi]?=some (P.bZ[fi]'cY):=List.getElem?_eq_getElem cY
          have fG:P.bZ.getD fi ⟨[],[],0,0⟩=P.bZ[fi]'cY:=by rw [List.getD_eq_getElem?_getD,ja];rfl
          generalize (P.bZ[fi]'cY)=xd at ja fG
          obtain ⟨bd,od,cd,BD,F9,td,te,ES,zO,ET,oU⟩:=(r7.rq.sR).at ja
          obtain ⟨wv,iw,pX⟩:=oU
          obtain ⟨aw,kw,rfl⟩:=pX.val
          have iw:(BD.cells.drop (od+fi * 4)).take 4=[ag xd.name,.slice aw xd.fields.length kw,iV xd.line,iV xd.au]:=iw
          have tf:BD.cells[od+fi * 4+1]?=some (.slice aw xd.fields.length kw):=by
           have:((BD.cells.drop (od+fi * 4)).take 4)[1]?=some (.slice aw xd.fields.length kw):=by rw [iw];rfl
           rw [List.getElem?_take,if_pos (by decide),List.getElem?_drop] at this
           exact this
          simp only [go_sem,nr,hZ,e4,ea,kC,td,gY,cY,te,tf,iu]
          refine af.by (JH (n:=⟨4,x,y,f,nn,cap,((fi:Nat):Int),op,a,bb,nx,ln,cl,nX,nY,nF,nR,al,pt,bY⟩) r7.rq) ?_
          rintro _ H8 - p8
          have n8:H7.next<=H8.next:=p8.fr.nx
          simp only [go_sem]
          refine ⟨⟨4,x,y,f,nn,cap,((fi:Nat):Int),op,a,bb,nx,ln,cl,nX,nY,nF,nR,al,pt,bY⟩,_,?_,(r7.call p8).told,(p8.fr.get H.next (by show H.next < H7.next;omega) (by simp [gq])).trans ea,rfl,rfl,rfl,fun c h1 h2 h3=>(p8.fr.get c (by show c < H7.next;omega) (by simp [h2])).trans ((k7 c h3).trans (k4 c h1)),by omega,by omega⟩
          rw [kV]
          simp only [Int.reduceEq,if_true,if_false,or_true,true_or,or_false,false_or,cu,gY,Int.toNat_natCast,fG,iu]
          rw [Oo]
          rfl
       ·by_cases Ga:kd=5
        ·subst Ga
         by_cases iu:rc= -1
         ·subst iu
          simp only [go_sem,e4,dJ]
          refine ⟨⟨5,x,y,f,nn,cap,(-1),op,a,bb,nx,ln,cl,nX,nY,nF,nR,al,pt,bY⟩,_,?_,r5.told,rfl,rfl,rfl,rfl,by first | exact ⟨fun _ _ _ _=>trivial,n3,Nat.le_refl _⟩ | exact ⟨fun _ _ _ _=>trivial,n3⟩⟩
          rw [kV]
          simp only [Int.reduceEq,if_true,if_false,or_true,true_or,or_false,false_or]
         ·obtain ⟨BA,DJ,fA,_,_⟩:=r5.rq.row
          obtain ⟨gs,qS,jx⟩:=r5.rq.sR
          simp only [go_sem,e4,dJ,fA,iu]
          refine af.by (G4 (qS.ae fun _ _=>rfl) hP.r (fun c hc=>by show c < H3.next;have:=(r5.rq.hP c (jx c hc)).1;omega)) ?_
          rintro B8 H4 - ⟨⟨g4,nE,F8⟩,o4,z4⟩
          have nB:H3.next<=H4.next:=o4.nx
          have r6:=r5.told.aE o4 z4
          have k4:∀c,c < H3.next->H4.get c=H3.get c:=fun c hc=>o4.get c hc
          have dH:=(k4 H.next n3).trans dJ
          have hZ:=(k4 r r5.rq.rl).trans fA
          simp only [go_sem,e4,dJ,dH]
          refine af.by (qh nE (by rw [List.length_map];exact hP.r)) ?_
          rintro _ _ - ⟨rfl,rfl⟩
          have r7:=(r6.own (M:=[H.next]) ((Fr.refl _ _).ah (b:=H.next) (.inl (by simp)) ⟨aJ ⟨5,x,y,f,nn,cap,cH (jU P) nR,op,a,bb,nx,ln,cl,nX,nY,nF,nR,al,pt,bY⟩ (.slice lk n.args.length n.args.length) (.slice aQ n.pat.length kQ) (.slice aB n.ak.length kB),42,false,false⟩) (by simp) fun _ _=>rfl).told
          obtain ⟨H7,cS⟩:=r7.hp
          have ea:H7.get H.next=some ⟨aJ ⟨5,x,y,f,nn,cap,cH (jU P) nR,op,a,bb,nx,ln,cl,nX,nY,nF,nR,al,pt,bY⟩ (.slice lk n.args.length n.args.length) (.slice aQ n.pat.length kQ) (.slice aB n.ak.length kB),42,false,false⟩:=by rw [cS,be,az,if_pos rfl]
          have k7:∀c,c≠H.next->H7.get c=H4.get c:=fun c hc=>by rw [cS,be,az,if_neg hc]
          have xg:H7.next=H4.next:=by rw [cS];rfl
          have kC:=(k7 r nr).trans hZ
          by_cases cu:cH (jU P) nR < 0
          ·rw [kV] at he
           simp only [Int.reduceEq,if_true,if_false,or_true,true_or,or_false,false_or,cu,iu] at he
           cases he
           simp only [go_sem,e4,dH,dv,cu]
           rw [<-cS] at r7 ⊢
           refine af.by (iX (e:=4) (l:=ln) (c:=cl) r7.rq) ?_
           rintro _ Hf - pf
           simp only [go_sem]
           exact (r7.call pf).rr.last
          ·simp only [go_sem,e4,dH,dv,cu]
           rw [<-cS] at r7 ⊢
           clear cS
           obtain ⟨fi,gY,cY⟩:=Cm (Int.not_lt.1 cu)
           rw [List.length_map] at cY
           rw [gY] at ea
           have ja:P.bZ[fi]?=some (P.bZ[fi]'cY):=List.getElem?_eq_getElem cY
           have fG:P.bZ.getD fi ⟨[],[],0,0⟩=P.bZ[fi]'cY:=by rw [List.getD_eq_getElem?_getD,ja];rfl
           have CZ:(P.bZ[fi]'cY)∈P.bZ:=List.getElem_mem cY
           generalize (P.bZ[fi]'cY)=xd at ja fG CZ
           have C0:=(hP.rf xd CZ).1
           obtain ⟨bd,od,cd,BD,F9,td,te,ES,zO,ET,oU⟩:=(r7.rq.sR).at ja
           obtain ⟨wv,iw,pX⟩:=oU
           obtain ⟨aw,kw,rfl⟩:=pX.val
           have iw:(BD.cells.drop (od+fi * 4)).take 4=[ag xd.name,.slice aw xd.fields.length kw,iV xd.line,iV xd.au]:=iw
           have tf:BD.cells[od+fi * 4+1]?=some (.slice aw xd.fields.length kw):=by
            have:((BD.cells.drop (od+fi * 4)).take 4)[1]?=some (.slice aw xd.fields.length kw):=by rw [iw];rfl
            rw [List.getElem?_take,if_pos (by decide),List.getElem?_drop] at this
            exact this
           simp only [go_sem,nr,hZ,e4,ea,kC,td,gY,cY,te,tf]
           refine af.by (MZ (pX.ae fun _ _=>rfl) C0 (fun c hc=>(r7.rq.hP c (zO c hc)).1)) ?_
           rintro vfn H8 - ⟨⟨g8,yP,I0⟩,o8,z8⟩
           have Al:H7.next<=H8.next:=o8.nx
           have r8:=r7.aE o8 z8
           have k8:∀c,c < H7.next->H8.get c=H7.get c:=fun c hc=>o8.get c hc
           have qV:=(k8 H.next (by omega)).trans ea
           simp only [go_sem,e4,ea,qV]
           refine af.by (qh yP (by rw [List.length_map];exact C0)) ?_
           rintro _ _ - ⟨rfl,rfl⟩
           have r9:=(r8.own (M:=[H.next]) ((Fr.refl _ _).ah (b:=H.next) (.inl (by simp)) ⟨aJ ⟨5,x,y,cH (xd.fields.map (·.name)) nF,nn,cap,((fi:Nat):Int),op,a,bb,nx,ln,cl,nX,nY,nF,nR,al,pt,bY⟩ (.slice lk n.args.length n.args.length) (.slice aQ n.pat.length kQ) (.slice aB n.ak.length kB),42,false,false⟩) (by simp) fun _ _=>rfl).told
           obtain ⟨H9,jS⟩:=r9.hp
           have xl:H9.get H.next=some ⟨aJ ⟨5,x,y,cH (xd.fields.map (·.name)) nF,nn,cap,((fi:Nat):Int),op,a,bb,nx,ln,cl,nX,nY,nF,nR,al,pt,bY⟩ (.slice lk n.args.length n.args.length) (.slice aQ n.pat.length kQ) (.slice aB n.ak.length kB),42,false,false⟩:=by rw [jS,be,az,if_pos rfl]
           have k9:∀c,c≠H.next->H9.get c=H8.get c:=fun c hc=>by rw [jS,be,az,if_neg hc]
           have Ml:H9.next=H8.next:=by rw [jS];rfl
           by_cases tK:cH (xd.fields.map (·.name)) nF < 0
           ·rw [kV] at he
            simp only [Int.reduceEq,if_true,if_false,or_true,true_or,or_false,false_or,cu,iu,gY,Int.toNat_natCast,fG,tK] at he
            cases he
            simp only [go_sem,e4,qV,dv,tK]
            rw [<-jS] at r9 ⊢
            refine af.by (iX (e:=4) (l:=ln) (c:=cl) r9.rq) ?_
            rintro _ Hf - pf
            simp only [go_sem]
            exact (r9.call pf).rr.last
           ·simp only [go_sem,e4,qV,dv,tK]
            rw [<-jS] at r9 ⊢
            refine ⟨⟨5,x,y,cH (xd.fields.map (·.name)) nF,nn,cap,((fi:Nat):Int),op,a,bb,nx,ln,cl,nX,nY,nF,nR,al,pt,bY⟩,_,?_,r9,(by first | exact xl | rfl),rfl,rfl,rfl,fun c h1 h2 h3=>(by first | exact (k9 c h3).trans ((k8 c (by omega)).trans ((k7 c h3).trans (k4 c h1))) | (rw [if_neg h3];exact (k8 c (by omega)).trans ((k7 c h3).trans (k4 c h1)))),by omega,by omega⟩
            rw [kV]
            simp only [Int.reduceEq,if_true,if_false,or_true,true_or,or_false,false_or,cu,iu,gY,Int.toNat_natCast,fG,tK,show¬((fi:Nat):Int) < 0 from by omega]
        ·by_cases Mm:kd=6
         ·subst Mm
          by_cases iu:rc= -1
          ·subst iu
           simp only [go_sem,e4,dJ]
           refine ⟨⟨6,x,y,f,nn,cap,(-1),op,a,bb,nx,ln,cl,nX,nY,nF,nR,al,pt,bY⟩,_,?_,r5.told,rfl,rfl,rfl,rfl,by first | exact ⟨fun _ _ _ _=>trivial,n3,Nat.le_refl _⟩ | exact ⟨fun _ _ _ _=>trivial,n3⟩⟩
           rw [kV]
           simp only [Int.reduceEq,if_true,if_false,or_true,true_or,or_false,false_or]
          ·obtain ⟨BA,DJ,fA,_,_⟩:=r5.rq.row
           obtain ⟨gs,qS,jx⟩:=r5.rq.sR
           simp only [go_sem,e4,dJ,fA,iu]
           refine af.by (G4 (qS.ae fun _ _=>rfl) hP.r (fun c hc=>by show c < H3.next;have:=(r5.rq.hP c (jx c hc)).1;omega)) ?_
           rintro B8 H4 - ⟨⟨g4,nE,F8⟩,o4,z4⟩
           have nB:H3.next<=H4.next:=o4.nx
           have r6:=r5.told.aE o4 z4
           have k4:∀c,c < H3.next->H4.get c=H3.get c:=fun c hc=>o4.get c hc
           have dH:=(k4 H.next n3).trans dJ
           have hZ:=(k4 r r5.rq.rl).trans fA
           simp only [go_sem,e4,dJ,dH]
           refine af.by (qh nE (by rw [List.length_map];exact hP.r)) ?_
           rintro _ _ - ⟨rfl,rfl⟩
           have r7:=(r6.own (M:=[H.next]) ((Fr.refl _ _).ah (b:=H.next) (.inl (by simp)) ⟨aJ ⟨6,x,y,f,nn,cap,cH (jU P) nR,op,a,bb,nx,ln,cl,nX,nY,nF,nR,al,pt,bY⟩ (.slice lk n.args.length n.args.length) (.slice aQ n.pat.length kQ) (.slice aB n.ak.length kB),42,false,false⟩) (by simp) fun _ _=>rfl).told
           obtain ⟨H7,cS⟩:=r7.hp
           have ea:H7.get H.next=some ⟨aJ ⟨6,x,y,f,nn,cap,cH (jU P) nR,op,a,bb,nx,ln,cl,nX,nY,nF,nR,al,pt,bY⟩ (.slice lk n.args.length n.args.length) (.slice aQ n.pat.length kQ) (.slice aB n.ak.length kB),42,false,false⟩:=by rw [cS,be,az,if_pos rfl]
           have k7:∀c,c≠H.next->H7.get c=H4.get c:=fun c hc=>by rw [cS,be,az,if_neg hc]
           have xg:H7.next=H4.next:=by rw [cS];rfl
           have kC:=(k7 r nr).trans hZ
           by_cases cu:cH (jU P) nR < 0
           ·rw [kV] at he
            simp only [Int.reduceEq,if_true,if_false,or_true,true_or,or_false,false_or,cu,iu] at he
            cases he
            simp only [go_sem,e4,dH,dv,cu]
            rw [<-cS] at r7 ⊢
            refine af.by (iX (e:=4) (l:=ln) (c:=cl) r7.rq) ?_
            rintro _ Hf - pf
            simp only [go_sem]
            exact (r7.call pf).rr.last
           ·simp only [go_sem,e4,dH,dv,cu]
            rw [<-cS] at r7 ⊢
            clear cS
            obtain ⟨fi,gY,cY⟩:=Cm (Int.not_lt.1 cu)
            rw [List.length_map] at cY
            rw [gY] at ea
            have ja:P.bZ[fi]?=some (P.bZ[fi]'cY):=List.getElem?_eq_getElem cY
            have fG:P.bZ.getD fi ⟨[],[],0,0⟩=P.bZ[fi]'cY:=by rw [List.getD_eq_getElem?_getD,ja];rfl
            have CZ:(P.bZ[fi]'cY)∈P.bZ:=List.getElem_mem cY
            generalize (P.bZ[fi]'cY)=xd at ja fG CZ
            have C0:=(hP.rf xd CZ).1
            obtain ⟨bd,od,cd,BD,F9,td,te,ES,zO,ET,oU⟩:=(r7.rq.sR).at ja
            obtain ⟨wv,iw,pX⟩:=oU
            obtain ⟨aw,kw,rfl⟩:=pX.val
            have iw:(BD.cells.drop (od+fi * 4)).take 4=[ag xd.name,.slice aw xd.fields.length kw,iV xd.line,iV xd.au]:=iw
            have tf:BD.cells[od+fi * 4+1]?=some (.slice aw xd.fields.length kw):=by
             have:((BD.cells.drop (od+fi * 4)).take 4)[1]?=some (.slice aw xd.fields.length kw):=by rw [iw];rfl
             rw [List.getElem?_take,if_pos (by decide),List.getElem?_drop] at this
             exact this
            simp only [go_sem,nr,hZ,e4,ea,kC,td,gY,cY,te,tf]
            refine af.by (MZ (pX.ae fun _ _=>rfl) C0 (fun c hc=>(r7.rq.hP c (zO c hc)).1)) ?_
            rintro vfn H8 - ⟨⟨g8,yP,I0⟩,o8,z8⟩
            have Al:H7.next<=H8.next:=o8.nx
            have r8:=r7.aE o8 z8
            have k8:∀c,c < H7.next->H8.get c=H7.get c:=fun c hc=>o8.get c hc
            have qV:=(k8 H.next (by omega)).trans ea
            simp only [go_sem,e4,ea,qV]
            refine af.by (qh yP (by rw [List.length_map];exact C0)) ?_
            rintro _ _ - ⟨rfl,rfl⟩
            have r9:=(r8.own (M:=[H.next]) ((Fr.refl _ _).ah (b:=H.next) (.inl (by simp)) ⟨aJ ⟨6,x,y,cH (xd.fields.map (·.name)) nF,nn,cap,((fi:Nat):Int),op,a,bb,nx,ln,cl,nX,nY,nF,nR,al,pt,bY⟩ (.slice lk n.args.length n.args.length) (.slice aQ n.pat.length kQ) (.slice aB n.ak.length kB),42,false,false⟩) (by simp) fun _ _=>rfl).told
            obtain ⟨H9,jS⟩:=r9.hp
            have xl:H9.get H.next=some ⟨aJ ⟨6,x,y,cH (xd.fields.map (·.name)) nF,nn,cap,((fi:Nat):Int),op,a,bb,nx,ln,cl,nX,nY,nF,nR,al,pt,bY⟩ (.slice lk n.args.length n.args.length) (.slice aQ n.pat.length kQ) (.slice aB n.ak.length kB),42,false,false⟩:=by rw [jS,be,az,if_pos rfl]
            have k9:∀c,c≠H.next->H9.get c=H8.get c:=fun c hc=>by rw [jS,be,az,if_neg hc]
            have Ml:H9.next=H8.next:=by rw [jS];rfl
            by_cases tK:cH (xd.fields.map (·.name)) nF < 0
            ·rw [kV] at he
             simp only [Int.reduceEq,if_true,if_false,or_true,true_or,or_false,false_or,cu,iu,gY,Int.toNat_natCast,fG,tK] at he
             cases he
             simp only [go_sem,e4,qV,dv,tK]
             rw [<-jS] at r9 ⊢
             refine af.by (iX (e:=4) (l:=ln) (c:=cl) r9.rq) ?_
             rintro _ Hf - pf
             simp only [go_sem]
             exact (r9.call pf).rr.last
            ·simp only [go_sem,e4,qV,dv,tK]
             rw [<-jS] at r9 ⊢
             refine ⟨⟨6,x,y,cH (xd.fields.map (·.name)) nF,nn,cap,((fi:Nat):Int),op,a,bb,nx,ln,cl,nX,nY,nF,nR,al,pt,bY⟩,_,?_,r9,(by first | exact xl | rfl),rfl,rfl,rfl,fun c h1 h2 h3=>(by first | exact (k9 c h3).trans ((k8 c (by omega)).trans ((k7 c h3).trans (k4 c h1))) | (rw [if_neg h3];exact (k8 c (by omega)).trans ((k7 c h3).trans (k4 c h1)))),by omega,by omega⟩
             rw [kV]
             simp only [Int.reduceEq,if_true,if_false,or_true,true_or,or_false,false_or,cu,iu,gY,Int.toNat_natCast,fG,tK,show¬((fi:Nat):Int) < 0 from by omega]
         ·by_cases Gb:kd=7
          ·subst Gb
           by_cases iu:rc= -1
           ·subst iu
            simp only [go_sem,e4,dJ]
            refine ⟨⟨7,x,y,f,nn,cap,(-1),op,a,bb,nx,ln,cl,nX,nY,nF,nR,al,pt,bY⟩,_,?_,r5.told,rfl,rfl,rfl,rfl,by first | exact ⟨fun _ _ _ _=>trivial,n3,Nat.le_refl _⟩ | exact ⟨fun _ _ _ _=>trivial,n3⟩⟩
            rw [kV]
            simp only [Int.reduceEq,if_true,if_false,or_true,true_or,or_false,false_or]
           ·obtain ⟨BA,DJ,fA,_,_⟩:=r5.rq.row
            obtain ⟨gs,qS,jx⟩:=r5.rq.sR
            simp only [go_sem,e4,dJ,fA,iu]
            refine af.by (G4 (qS.ae fun _ _=>rfl) hP.r (fun c hc=>by show c < H3.next;have:=(r5.rq.hP c (jx c hc)).1;omega)) ?_
            rintro B8 H4 - ⟨⟨g4,nE,F8⟩,o4,z4⟩
            have nB:H3.next<=H4.next:=o4.nx
            have r6:=r5.told.aE o4 z4
            have k4:∀c,c < H3.next->H4.get c=H3.get c:=fun c hc=>o4.get c hc
            have dH:=(k4 H.next n3).trans dJ
            have hZ:=(k4 r r5.rq.rl).trans fA
            simp only [go_sem,e4,dJ,dH]
            refine af.by (qh nE (by rw [List.length_map];exact hP.r)) ?_
            rintro _ _ - ⟨rfl,rfl⟩
            have r7:=(r6.own (M:=[H.next]) ((Fr.refl _ _).ah (b:=H.next) (.inl (by simp)) ⟨aJ ⟨7,x,y,f,nn,cap,cH (jU P) nR,op,a,bb,nx,ln,cl,nX,nY,nF,nR,al,pt,bY⟩ (.slice lk n.args.length n.args.length) (.slice aQ n.pat.length kQ) (.slice aB n.ak.length kB),42,false,false⟩) (by simp) fun _ _=>rfl).told
            obtain ⟨H7,cS⟩:=r7.hp
            have ea:H7.get H.next=some ⟨aJ ⟨7,x,y,f,nn,cap,cH (jU P) nR,op,a,bb,nx,ln,cl,nX,nY,nF,nR,al,pt,bY⟩ (.slice lk n.args.length n.args.length) (.slice aQ n.pat.length kQ) (.slice aB n.ak.length kB),42,false,false⟩:=by rw [cS,be,az,if_pos rfl]
            have k7:∀c,c≠H.next->H7.get c=H4.get c:=fun c hc=>by rw [cS,be,az,if_neg hc]
            have xg:H7.next=H4.next:=by rw [cS];rfl
            have kC:=(k7 r nr).trans hZ
            by_cases cu:cH (jU P) nR < 0
            ·rw [kV] at he
             simp only [Int.reduceEq,if_true,if_false,or_true,true_or,or_false,false_or,cu,iu] at he
             cases he
             simp only [go_sem,e4,dH,dv,cu]
             rw [<-cS] at r7 ⊢
             refine af.by (iX (e:=4) (l:=ln) (c:=cl) r7.rq) ?_
             rintro _ Hf - pf
             simp only [go_sem]
             exact (r7.call pf).rr.last
            ·simp only [go_sem,e4,dH,dv,cu]
             rw [<-cS] at r7 ⊢
             clear cS
             obtain ⟨fi,gY,cY⟩:=Cm (Int.not_lt.1 cu)
             rw [List.length_map] at cY
             rw [gY] at ea
             have ja:P.bZ[fi]?=some (P.bZ[fi]'cY):=List.getElem?_eq_getElem cY
             have fG:P.bZ.getD fi ⟨[],[],0,0⟩=P.bZ[fi]'cY:=by rw [List.getD_eq_getElem?_getD,ja];rfl
             have CZ:(P.bZ[fi]'cY)∈P.bZ:=List.getElem_mem cY
             generalize (P.bZ[fi]'cY)=xd at ja fG CZ
             have C0:=(hP.rf xd CZ).1
             obtain ⟨bd,od,cd,BD,F9,td,te,ES,zO,ET,oU⟩:=(r7.rq.sR).at ja
             obtain ⟨wv,iw,pX⟩:=oU
             obtain ⟨aw,kw,rfl⟩:=pX.val
             have iw:(BD.cells.drop (od+fi * 4)).take 4=[ag xd.name,.slice aw xd.fields.length kw,iV xd.line,iV xd.au]:=iw
             have tf:BD.cells[od+fi * 4+1]?=some (.slice aw xd.fields.length kw):=by
              have:((BD.cells.drop (od+fi * 4)).take 4)[1]?=some (.slice aw xd.fields.length kw):=by rw [iw];rfl
              rw [List.getElem?_take,if_pos (by decide),List.getElem?_drop] at this
              exact this
             simp only [go_sem,nr,hZ,e4,ea,kC,td,gY,cY,te,tf]
             refine af.by (MZ (pX.ae fun _ _=>rfl) C0 (fun c hc=>(r7.rq.hP c (zO c hc)).1)) ?_
             rintro vfn H8 - ⟨⟨g8,yP,I0⟩,o8,z8⟩
             have Al:H7.next<=H8.next:=o8.nx
             have r8:=r7.aE o8 z8
             have k8:∀c,c < H7.next->H8.get c=H7.get c:=fun c hc=>o8.get c hc
             have qV:=(k8 H.next (by omega)).trans ea
             simp only [go_sem,e4,ea,qV]
             refine af.by (qh yP (by rw [List.length_map];exact C0)) ?_
             rintro _ _ - ⟨rfl,rfl⟩
             have r9:=(r8.own (M:=[H.next]) ((Fr.refl _ _).ah (b:=H.next) (.inl (by simp)) ⟨aJ ⟨7,x,y,cH (xd.fields.map (·.name)) nF,nn,cap,((fi:Nat):Int),op,a,bb,nx,ln,cl,nX,nY,nF,nR,al,pt,bY⟩ (.slice lk n.args.length n.args.length) (.slice aQ n.pat.length kQ) (.slice aB n.ak.length kB),42,false,false⟩) (by simp) fun _ _=>rfl).told
             obtain ⟨H9,jS⟩:=r9.hp
             have xl:H9.get H.next=some ⟨aJ ⟨7,x,y,cH (xd.fields.map (·.name)) nF,nn,cap,((fi:Nat):Int),op,a,bb,nx,ln,cl,nX,nY,nF,nR,al,pt,bY⟩ (.slice lk n.args.length n.args.length) (.slice aQ n.pat.length kQ) (.slice aB n.ak.length kB),42,false,false⟩:=by rw [jS,be,az,if_pos rfl]
             have k9:∀c,c≠H.next->H9.get c=H8.get c:=fun c hc=>by rw [jS,be,az,if_neg hc]
             have Ml:H9.next=H8.next:=by rw [jS];rfl
             by_cases tK:cH (xd.fields.map (·.name)) nF < 0
             ·rw [kV] at he
              simp only [Int.reduceEq,if_true,if_false,or_true,true_or,or_false,false_or,cu,iu,gY,Int.toNat_natCast,fG,tK] at he
              cases he
              simp only [go_sem,e4,qV,dv,tK]
              rw [<-jS] at r9 ⊢
              refine af.by (iX (e:=4) (l:=ln) (c:=cl) r9.rq) ?_
              rintro _ Hf - pf
              simp only [go_sem]
              exact (r9.call pf).rr.last
             ·simp only [go_sem,e4,qV,dv,tK]
              rw [<-jS] at r9 ⊢
              refine ⟨⟨7,x,y,cH (xd.fields.map (·.name)) nF,nn,cap,((fi:Nat):Int),op,a,bb,nx,ln,cl,nX,nY,nF,nR,al,pt,bY⟩,_,?_,r9,(by first | exact xl | rfl),rfl,rfl,rfl,fun c h1 h2 h3=>(by first | exact (k9 c h3).trans ((k8 c (by omega)).trans ((k7 c h3).trans (k4 c h1))) | (rw [if_neg h3];exact (k8 c (by omega)).trans ((k7 c h3).trans (k4 c h1)))),by omega,by omega⟩
              rw [kV]
              simp only [Int.reduceEq,if_true,if_false,or_true,true_or,or_false,false_or,cu,iu,gY,Int.toNat_natCast,fG,tK,show¬((fi:Nat):Int) < 0 from by omega]
          ·simp only [go_sem,e4,dJ,Vv,SH,SI,ij,Ga,Mm,Gb]
           exact ⟨⟨kd,x,y,f,nn,cap,rc,op,a,bb,nx,ln,cl,nX,nY,nF,nR,al,pt,bY⟩,t2,by rw [kV];simp only [Vv,SH,SI,ij,Ga,Mm,Gb,if_false,or_self],r5.told,rfl,rfl,rfl,rfl,by first | exact ⟨fun _ _ _ _=>trivial,n3,Nat.le_refl _⟩ | exact ⟨fun _ _ _ _=>trivial,n3⟩⟩
   ·rintro V4 H4 ⟨n3',t3,hus,r6,dH,qa,qp,qb,k6,n4,nB⟩
    rw [hus] at he
    cases he
    have uc:t3.ns=t.ns:=r6.ns
    have akR:Ea H4 n3' (.slice lk n.args.length n.args.length) (.slice aQ n.pat.length kQ) (.slice aB n.ak.length kB) mA gQ gB:=⟨qa▸Vu.ae fun c hc=>k6 c (Pu c hc).2 (by have:=(Pu c hc).1;have:=h.rl;omega) (by have:=(Pu c hc).1;omega),(qp.trans kp)▸lG.q.ae fun c hc=>r6.k (rI c (by simp [hc])).1 (rI c (by simp [hc])).2,(qb.trans kb)▸lG.b.ae fun c hc=>r6.k (rI c (by simp [hc])).1 (rI c (by simp [hc])).2⟩
    obtain ⟨vI9,b9,cs9,Gc,KM,FE,Vy,g9,r9,pU⟩:=r6.rr.SF (k:=k) (by rw [uc];exact hk) akR fun c hc=>by
     rcases List.mem_append.1 hc with e | e
     ·have:=Pu c e
      exact ⟨by omega,by have:=h.rl;omega,fun e=>by have:=(h.hm c e).1;omega,fun e=>by have:=(h.hi c e).1;omega,.inr (by omega)⟩
     ·have:=tc c (List.mem_append_right _ e)
      exact ⟨by have:=(h.hg c this).1;omega,(h.hg c this).2,fun e=>(h.hm c e).2.2.2.1 this,fun e=>(h.hi c e).2.2.2 this,.inl this⟩
    have An:H.fz b9=false:=h.fm b9 KM
    rw [uc] at Gc r9
    simp only [go_sem,e4,dH,Gc,hk,FE,An,Vy]
    exact r9.last
end
def sh (b:Int->Bool) (n:aH):List Int->VT->VT
 | [],t=>t
 | x::l,t=>sh b n l (if b x=true then t.fail 5 n.line n.au else t)
def xz (P:bC) (b:eZ) (tags:List Int) (n:aH) (t:VT):eZ × VT:=
 if b.tag= -1 then (b,sh (fun x=>decide (x= -1)) n tags t)
 else if cH (jf P) b.name < 0 then ({b with tag:=cH (jf P) b.name},(sh (fun x=>decide (0<=cH (jf P) b.name)&&decide (x=cH (jf P) b.name)) n tags t).fail 4 n.line n.au)
 else ({b with tag:=cH (jf P) b.name},JV b.names.length ((P.msgs.getD (cH (jf P) b.name).toNat ⟨[],[],0,0⟩).types.length) n (sh (fun x=>decide (0<=cH (jf P) b.name)&&decide (x=cH (jf P) b.name)) n tags t))
section
variable {S:XS} {P:bC} {gP:List Nat} {H H1 H2:ad} {r:Nat} {t t1 t2:VT} {m g g1 g2 mi dz dF:List Nat}
theorem acw (h:RQ S P gP H r t m g mi) (hP:y0 P) {b:eZ} {aS aN:Option Addr} {nS kS kN:Nat} {n:aH} {vA vP vB:Value} {vT:Value} {tags:List Int} {gT:List Nat} (hT:Sl .int H vT tags gT) (xj:∀c∈gT,c < H.next/\c≠r) (fO:tags.length < 1000000):
  aj Tryz.prog 167 #[pV r,.agg (cC b (.slice aS nS kS) (.slice aN b.names.length kN)).toArray,vT,.agg (aJ n vA vP vB).toArray] H (fun w H'=>w=.agg (cC (xz P b tags n t).1 (.slice aS nS kS) (.slice aN b.names.length kN)).toArray/\yY S P gP H r t m g mi (xz P b tags n t).2 H'):=by
 refine aj.told ?_
 refine afx (Nat.le_refl _) fun hf=>?_
 simp only [Tryz.f167,Option.getD_some]
 obtain ⟨tg,bs,bd,nm,an,sl,ns⟩:=b
 obtain ⟨aT,kT,rfl⟩:=hT.val
 have pG:=h.rl
 have r1:=(((RA.start h).push ⟨cC ⟨tg,bs,bd,nm,an,sl,ns⟩ (.slice aS nS kS) (.slice aN ns.length kN),52,false,false⟩).push ⟨aJ n vA vP vB,42,false,false⟩).push ⟨[iV 0,iV 0,iV 0,ag [],ag [],.slice none 0 0,.slice none 0 0],52,false,false⟩
 obtain ⟨H1,cF⟩:=r1.hp
 have p1:¬H.next=H.next+1:=by omega
 have p2:¬H.next=H.next+1+1:=by omega
 have Mn:H1.get H.next=some ⟨cC ⟨tg,bs,bd,nm,an,sl,ns⟩ (.slice aS nS kS) (.slice aN ns.length kN),52,false,false⟩:=by rw [cF,aU,bH,bH,if_neg p2,aU,bH,if_neg p1,aU,if_pos rfl]
 have fY:H1.get (H.next+1)=some ⟨aJ n vA vP vB,42,false,false⟩:=by rw [cF,aU,bH,bH,if_neg (by omega),aU];exact if_pos rfl
 have Ar:H1.get (H.next+1+1)=some ⟨[iV 0,iV 0,iV 0,ag [],ag [],.slice none 0 0,.slice none 0 0],52,false,false⟩:=by rw [cF,aU];exact if_pos rfl
 have IU:H1.next=H.next+1+1+1:=by rw [cF];rfl
 have o1:bc H H1:=by rw [cF];exact ((((Fr.refl [] H).push _).push _).push _).aE
 simp only [go_sem]
 rw [<-cF] at r1 ⊢
 clear cF
 obtain ⟨bn,pB⟩:∃bn,bn=H.next+1:=⟨_,rfl⟩
 obtain ⟨b8,Am⟩:∃b8,b8=H.next+1+1:=⟨_,rfl⟩
 rw [<-Am] at Ar p2 ⊢
 rw [<-pB] at fY p1 ⊢
 have dv:H.fz H.next=false:=hf.fresh (Nat.le_refl _)
 have Mo:H.fz b8=false:=hf.fresh (by omega)
 have Mp:=hT.ae (H':=H1) fun c hc=>o1.get c (xj c hc).1
 obtain ⟨O8,vI0,Lc,_,_⟩:=h.row
 have gj:=(o1.get r pG).trans Lc
 have kk:∀{Hx:ad},Fr [r] H1 Hx->∀c,c < H1.next->c≠r->Hx.get c=H1.get c:=fun f c h1 h2=>f.get c h1 (by simp [h2])
 by_cases vz:tg= -1
 ·subst vz
  have eR:xz P ⟨-1,bs,bd,nm,an,sl,ns⟩ tags n t=(⟨-1,bs,bd,nm,an,sl,ns⟩,sh (fun x=>decide (x= -1)) n tags t):=by rw [xz,if_pos rfl]
  rw [eR]
  simp only [go_sem,Mn,p2]
  refine il 2147222528 tags.length (fun i V H2=>V 18=iV (i:Nat)/\∃t2,RA S P gP H r t m g mi H2 t2/\Fr [r] H1 H2/\sh (fun x=>decide (x= -1)) n tags t=sh (fun x=>decide (x= -1)) n (tags.drop i) t2) ⟨by simp only [go_sem] <;> rfl,t,r1,Fr.refl _ _,rfl⟩ ?_ ?_ (by rfl)
  ·rintro i V H2 hi ⟨ei,t2,r2,f2,nJ⟩
   have hx:tags[i]?=some (tags[i]'hi):=List.getElem?_eq_getElem hi
   have cB:tags.drop i=(tags[i]'hi)::tags.drop (i+1):=(List.getElem_cons_drop hi).symm
   generalize (tags[i]'hi)=x at hx cB
   rw [cB,sh] at nJ
   have bX:IntKind.wrap .i64 (((i:Nat):Int)+1)=((i+1:Nat):Int):=cW hi (by omega)
   obtain ⟨bb,o,c',B,gx,hv,hB,ee,de,b7,hE⟩:=(Mp.ae (H':=H2) fun c hc=>kk f2 c (by have:=(xj c hc).1;omega) (xj c hc).2).at hx
   simp only [Value.slice.injEq] at hv
   have Cc:=hv.1
   have iv:B.cells[o+i]?=some (iV x):=by
    have:((B.cells.drop (o+i * 1)).take 1)[0]?=some (iV x):=by rw [show (B.cells.drop (o+i * 1)).take 1=_ from hE.1];rfl
    rw [List.getElem?_take,if_pos (by decide),List.getElem?_drop,Nat.mul_one,Nat.add_zero] at this
    exact this
   have rF:=(kk f2 bn (by omega) (by omega)).trans fY
   by_cases fW:x= -1
   ·subst fW
    rw [if_pos (by decide)] at nJ
    simp only [go_sem,ei,hi,Cc,hB,iv,rF]
    refine af.by (iX r2.rq) ?_
    rintro _ H3 - p3
    simp only [go_sem,ei,bX]
    exact ⟨_,r2.call p3,f2.then p3.fr,nJ⟩
   ·rw [if_neg (by simp [fW])] at nJ
    simp only [go_sem,ei,hi,Cc,hB,iv,fW,bX]
    exact ⟨_,r2,f2,nJ⟩
  ·rintro V H2 ⟨ei,t2,r2,f2,nJ⟩
   rw [List.drop_length,sh] at nJ
   rw [nJ]
   have oR:=(kk f2 H.next (by omega) (by omega)).trans Mn
   have Vz:=(kk f2 b8 (by omega) (by omega)).trans Ar
   simp only [go_sem,ei,oR,Vz,Mo,p2]
   exact (r2.own (M:=[b8]) ((Fr.refl _ _).ah (.inl (by simp)) _) (by simp;omega) fun _ _=>rfl).last
 ·obtain ⟨gs,qS,jx⟩:=r1.rq.sM
  simp only [go_sem,Mn,vz,gj,p2]
  refine af.by (Nn qS hP.m (fun c hc=>(r1.rq.hP c (jx c hc)).1)) ?_
  rintro B8 H2 - ⟨⟨g2,jJ,i4⟩,o2,z2⟩
  have r2:=r1.aE o2 z2
  have oR:=(o2.get H.next (by omega)).trans Mn
  have rF:=(o2.get bn (by omega)).trans fY
  have Vz:=(o2.get b8 (by omega)).trans Ar
  have dL:=(o2.get r (by omega)).trans gj
  have ey:=o2.nx
  simp only [go_sem,Mn,oR]
  refine af.by (qh jJ (by rw [List.length_map];exact hP.m)) ?_
  rintro _ _ - ⟨rfl,rfl⟩
  have r3:=r2.own (M:=[H.next]) ((Fr.refl _ _).ah (b:=H.next) (.inl (by simp)) ⟨cC ⟨cH (jf P) nm,bs,bd,nm,an,sl,ns⟩ (.slice aS nS kS) (.slice aN ns.length kN),52,false,false⟩) (by simp) fun _ _=>rfl
  obtain ⟨H3,dI⟩:=r3.hp
  have yQ:H3.get H.next=some ⟨cC ⟨cH (jf P) nm,bs,bd,nm,an,sl,ns⟩ (.slice aS nS kS) (.slice aN ns.length kN),52,false,false⟩:=by rw [dI,az,if_pos rfl]
  have k3:∀c,c≠H.next->H3.get c=H2.get c:=fun c hc=>by rw [dI,az,if_neg hc]
  have Fw:H3.next=H2.next:=by rw [dI];rfl
  have gn3:=(k3 bn (by omega)).trans rF
  have As:=(k3 b8 (by omega)).trans Vz
  have fA:=(k3 r (by omega)).trans dL
  have hT3:=Mp.ae (H':=H3) fun c hc=>(k3 c (by have:=(xj c hc).1;omega)).trans (o2.get c (by have:=(xj c hc).1;omega))
  simp only [go_sem,oR,dv]
  rw [<-dI] at r3 ⊢
  clear dI
  generalize hF:cH (jf P) nm=F at *
  have eR:xz P ⟨tg,bs,bd,nm,an,sl,ns⟩ tags n t=if F < 0 then (⟨F,bs,bd,nm,an,sl,ns⟩,(sh (fun x=>decide (0<=F)&&decide (x=F)) n tags t).fail 4 n.line n.au) else (⟨F,bs,bd,nm,an,sl,ns⟩,JV ns.length ((P.msgs.getD F.toNat ⟨[],[],0,0⟩).types.length) n (sh (fun x=>decide (0<=F)&&decide (x=F)) n tags t)):=by
   rw [xz,if_neg vz];simp only [hF]
  rw [eR]
  clear eR
  obtain ⟨p,hp⟩:∃p:Int->Bool,p=fun x=>decide (0<=F)&&decide (x=F):=⟨_,rfl⟩
  rw [<-hp]
  have Ja:∀{Hx:ad},Fr [r] H3 Hx->∀c,c < H3.next->c≠r->Hx.get c=H3.get c:=fun f c h1 h2=>f.get c h1 (by simp [h2])
  refine il 9223363240761757696 tags.length (fun i V H4=>V 43=iV (i:Nat)/\∃t4,RA S P gP H r t m g mi H4 t4/\Fr [r] H3 H4/\sh p n tags t=sh p n (tags.drop i) t4) ⟨by simp only [go_sem] <;> rfl,t,r3,Fr.refl _ _,rfl⟩ ?_ ?_ (by rfl)
  ·rintro i V H4 hi ⟨ei,t4,r4,f4,nJ⟩
   have hx:tags[i]?=some (tags[i]'hi):=List.getElem?_eq_getElem hi
   have cB:tags.drop i=(tags[i]'hi)::tags.drop (i+1):=(List.getElem_cons_drop hi).symm
   generalize (tags[i]'hi)=x at hx cB
   rw [cB,sh] at nJ
   have bX:IntKind.wrap .i64 (((i:Nat):Int)+1)=((i+1:Nat):Int):=cW hi (by omega)
   obtain ⟨bb,o,c',B,gx,hv,hB,ee,de,b7,hE⟩:=(hT3.ae (H':=H4) fun c hc=>Ja f4 c (by have:=(xj c hc).1;omega) (xj c hc).2).at hx
   simp only [Value.slice.injEq] at hv
   have Cc:=hv.1
   have iv:B.cells[o+i]?=some (iV x):=by
    have:((B.cells.drop (o+i * 1)).take 1)[0]?=some (iV x):=by rw [show (B.cells.drop (o+i * 1)).take 1=_ from hE.1];rfl
    rw [List.getElem?_take,if_pos (by decide),List.getElem?_drop,Nat.mul_one,Nat.add_zero] at this
    exact this
   have Pv:=(Ja f4 bn (by omega) (by omega)).trans gn3
   have DK:=(Ja f4 H.next (by omega) (by omega)).trans yQ
   by_cases Mq:0<=F
   ·by_cases Pw:x=F
    ·rw [if_pos (by rw [hp];simp [Mq,Pw])] at nJ
     simp only [go_sem,ei,hi,Cc,hB,iv,Pv,DK,Mq,Pw]
     refine af.by (iX r4.rq) ?_
     rintro _ H5 - p5
     simp only [go_sem,ei,bX]
     exact ⟨_,r4.call p5,f4.then p5.fr,nJ⟩
    ·rw [if_neg (by rw [hp];simp [Pw])] at nJ
     simp only [go_sem,ei,hi,Cc,hB,iv,DK,Mq,Pw,bX]
     exact ⟨_,r4,f4,nJ⟩
   ·rw [if_neg (by rw [hp];simp [Mq])] at nJ
    simp only [go_sem,ei,hi,Cc,hB,iv,DK,Mq,bX]
    exact ⟨_,r4,f4,nJ⟩
  ·rintro V H4 ⟨ei,t4,r4,f4,nJ⟩
   rw [List.drop_length,sh] at nJ
   rw [nJ]
   have nB:=f4.nx
   have DK:=(Ja f4 H.next (by omega) (by omega)).trans yQ
   have Pv:=(Ja f4 bn (by omega) (by omega)).trans gn3
   have g84:=(Ja f4 b8 (by omega) (by omega)).trans As
   by_cases cu:F < 0
   ·rw [if_pos cu]
    simp only [go_sem,ei,DK,cu,Pv]
    refine af.by (iX r4.rq) ?_
    rintro _ H5 - p5
    have FN:=(p5.fr.get H.next (by omega) (by simp;omega)).trans DK
    have B9:=(p5.fr.get b8 (by omega) (by simp;omega)).trans g84
    simp only [go_sem,FN,B9,Mo,p2]
    exact ((r4.call p5).own (M:=[b8]) ((Fr.refl _ _).ah (.inl (by simp)) _) (by simp;omega) fun _ _=>rfl).last
   ·rw [if_neg cu]
    obtain ⟨fi,gY,cY⟩:=Cm (l:=jf P) (s:=nm) (by rw [hF];omega)
    rw [List.length_map] at cY
    rw [hF] at gY
    subst gY
    have ja:P.msgs[fi]?=some (P.msgs[fi]'cY):=List.getElem?_eq_getElem cY
    have fG:P.msgs.getD fi ⟨[],[],0,0⟩=P.msgs[fi]'cY:=by rw [List.getD_eq_getElem?_getD,ja];rfl
    generalize (P.msgs[fi]'cY)=xd at ja fG
    obtain ⟨bd',od,cd,BD,F9,td,te,ES,zO,ET,oU⟩:=r4.rq.sM.at ja
    obtain ⟨wv,iw,pX⟩:=oU
    obtain ⟨aw,kw,rfl⟩:=pX.val
    have iw:(BD.cells.drop (od+fi * 4)).take 4=[ag xd.name,.slice aw xd.types.length kw,iV xd.line,iV xd.au]:=iw
    have tf:BD.cells[od+fi * 4+1]?=some (.slice aw xd.types.length kw):=by
     have:((BD.cells.drop (od+fi * 4)).take 4)[1]?=some (.slice aw xd.types.length kw):=by rw [iw];rfl
     rw [List.getElem?_take,if_pos (by decide),List.getElem?_drop] at this
     exact this
    obtain ⟨vN4,vI4,sL,_,_⟩:=r4.rq.row
    simp only [go_sem,ei,DK,cu,Pv,sL,td,cY,te,tf]
    refine af.by (JH r4.rq) ?_
    rintro _ H5 - p5
    have FN:=(p5.fr.get H.next (by omega) (by simp;omega)).trans DK
    have B9:=(p5.fr.get b8 (by omega) (by simp;omega)).trans g84
    simp only [go_sem,FN,B9,Mo,p2]
    rw [fG]
    exact ((r4.call p5).own (M:=[b8]) ((Fr.refl _ _).ah (.inl (by simp)) _) (by simp;omega) fun _ _=>rfl).last
end
abbrev Rb:=Int->VT->Option VT
abbrev Rn:=Nat->VT->Option VT
def VA (S:XS) (P:bC) (gP:List Nat) (r:Nat) (m:List Nat) (bd:Rb):Prop:=∀{H:ad} {t t':VT} {g mi:List Nat} {k:Int},RQ S P gP H r t m g mi->bd k t=some t'->aj Tryz.prog 83 #[pV r,iV k] H (fun w H'=>wk S P gP H r t m g mi t' H')
def RnW (S:XS) (P:bC) (gP:List Nat) (r:Nat) (m:List Nat) (nd:Rn):Prop:=∀{H:ad} {t t':VT} {g mi:List Nat} {k:Nat},RQ S P gP H r t m g mi->nd k t=some t'->aj Tryz.prog 125 #[pV r,iV (k:Nat)] H (fun w H'=>wk S P gP H r t m g mi t' H')
def KN (P:bC) (nd:Rn) (hv:Nat):Nat->Int->VT->Option VT
 | 0,_,_=>none
 | j+1,k,t=>if 0<=k/\t.bad=0 then
   (NN P k.toNat t).bind fun t1=>if t1.bad=0 then (nd k.toNat t1).bind fun t2=>if k.toNat < t2.ns.length then KN P nd hv j (t2.ns.getD k.toNat {}).next t2 else none else some t1
  else if hv<=t.aK.length then some {t with aK:=t.aK.take hv} else none
section
variable {S:XS} {P:bC} {gP:List Nat} {H H1 H2:ad} {r:Nat} {t t1 t2:VT} {m g g1 g2 mi dz dF:List Nat}
theorem abQ (hP:y0 P) {nd:Rn} (cK:RnW S P gP r m nd) (h:RQ S P gP H r t m g mi) (c6:t.aK.length < 1000000) {fuel:Nat} {k:Int} {t':VT} (he:KN P nd t.aK.length fuel k t=some t'):
  aj Tryz.prog 83 #[pV r,iV k] H (fun w H'=>wk S P gP H r t m g mi t' H'):=by
 refine aj.told ?_
 refine ahF (Nat.le_refl _) fun hf=>?_
 simp only [Tryz.f83,Option.getD_some]
 have r0:=RR.start h
 obtain ⟨vN,vI,hr,_,hI⟩:=h.row
 obtain ⟨aI,cI,B6⟩:=hI.val
 subst B6
 simp only [go_sem,hr]
 refine lp 549755812866 (fun n V H2=>∃k2 t2 g2 dF,V 1=iV k2/\RR S P gP H r t m g mi H2 t2 g2 dF/\KN P nd t.aK.length n k2 t2=some t') (n:=fuel) ⟨k,t,g,mi,by simp only [go_sem] <;> rfl,r0,he⟩ ?_ (by rfl)
 rintro n V H2 ⟨k2,t2,g2,dF,e1,r2,bf⟩
 cases n with
 | zero=>cases bf
 | succ n=>
  rw [KN] at bf
  obtain ⟨vN2,Gd,dL,_,hI2,ZU,YO⟩:=r2.re
  by_cases hk:0<=k2
  ·by_cases hb:t2.bad=0
   ·rw [if_pos ⟨hk,hb⟩] at bf
    obtain ⟨kn,rfl⟩:=Int.eq_ofNat_of_zero_le hk
    rw [Int.toNat_natCast] at bf
    cases hu:NN P kn t2 with
    | none=>rw [hu] at bf;cases bf
    | some t3=>
    rw [hu] at bf
    simp only [Option.bind_some] at bf
    simp only [go_sem,e1,hk,dL,hb]
    refine af.by (agh r2.rq hP hu) ?_
    rintro _ H3 - p3
    obtain ⟨g3,mi3,r3,_,_⟩:=r2.call p3
    obtain ⟨BA,DJ,fA,_,_,_,_⟩:=r3.re
    by_cases fj:t3.bad=0
    ·rw [if_pos fj] at bf
     cases hn:nd kn t3 with
     | none=>rw [hn] at bf;cases bf
     | some t4=>
     rw [hn] at bf
     simp only [Option.bind_some] at bf
     simp only [go_sem,fA,fj,e1]
     refine af.by (cK r3.rq hn) ?_
     rintro _ H4 - p4
     obtain ⟨g4,mi4,r4,_,_⟩:=r3.call p4
     split at bf
     case isFalse=>cases bf
     rename_i nC
     obtain ⟨vI4,b4,LO,OY,Fm,IA,wT,gQ4,OW,sL,Pk,hm4,oh,Zo,akS,_,_⟩:=r4.rq.toRQ0.node nC
     have iv:LO[kn * 20+10]?=some (iV (t4.ns.getD kn {}).next):=by
      have:((LO.drop (kn * 20)).take 20)[10]?=some (iV (t4.ns.getD kn {}).next):=by rw [akS];rfl
      rw [List.getElem?_take,if_pos (by decide),List.getElem?_drop] at this
      exact this
     simp only [go_sem,e1,sL,nC,oh,iv]
     exact ⟨n,by omega,_,t4,g4,mi4,rfl,r4,bf⟩
    ·rw [if_neg fj] at bf
     cases bf
     simp only [go_sem,fA,fj]
     exact r3.last
   ·rw [if_neg fun e=>hb e.2] at bf
    split at bf
    case isFalse=>cases bf
    rename_i hle
    cases bf
    obtain ⟨v5,dE,mV⟩:=hI2.cut hle
    have r5:=YO {t2 with aK:=t2.aK.take t.aK.length} v5 dF rfl mV fun c hc=>⟨(r2.rq.hi c hc).1,(r2.rq.hi c hc).2.1,(r2.rq.hi c hc).2.2.1,(r2.rq.hi c hc).2.2.2,fun e=>(r2.rq.hm c e).2.2.2.2 hc,r2.si c hc,r2.rq.fi c hc⟩
    obtain ⟨a5,c5,jy⟩:=mV.val
    subst jy
    have hX:=h.fz
    simp only [go_sem,e1,hk,dL,hb,Option.map_none,Option.map_some,dE,hX]
    exact r5.last
  ·rw [if_neg fun e=>hk e.1] at bf
   split at bf
   case isFalse=>cases bf
   rename_i hle
   cases bf
   obtain ⟨v5,dE,mV⟩:=hI2.cut hle
   have r5:=YO {t2 with aK:=t2.aK.take t.aK.length} v5 dF rfl mV fun c hc=>⟨(r2.rq.hi c hc).1,(r2.rq.hi c hc).2.1,(r2.rq.hi c hc).2.2.1,(r2.rq.hi c hc).2.2.2,fun e=>(r2.rq.hm c e).2.2.2.2 hc,r2.si c hc,r2.rq.fi c hc⟩
   obtain ⟨a5,c5,jy⟩:=mV.val
   subst jy
   have hX:=h.fz
   simp only [go_sem,e1,hk,dL,Option.map_none,Option.map_some,dE,hX]
   exact r5.last
end
def RgW (S:XS) (P:bC) (gP:List Nat) (r:Nat) (m:List Nat) (gd:Rn):Prop:=∀{H:ad} {t t':VT} {g mi:List Nat} {k:Nat},RQ S P gP H r t m g mi->gd k t=some t'->aj Tryz.prog 154 #[pV r,iV (k:Nat)] H (fun w H'=>wk S P gP H r t m g mi t' H')
def Bb (t:VT) (k:Nat) (x:Int):VT:={t with ns:=t.ns.set k {t.ns.getD k {} with x:=x}}
def Xp (bd:Rb) (k:Nat) (n:aH) (t:VT):Option VT:=
 let t1:=Bb (eT t n.mf n.line n.au).2 k t.aX
 (bd n.a {t1 with aK:=t.aK,inner:=((t.aK.length:Nat):Int)}).bind fun t3=>
  if t.aK.length<=t3.aK.length/\t3.aK.length < 1000000 then some {t3 with aK:=t3.aK.take t.aK.length++[⟨n.mf,t.aX⟩],inner:=t.inner} else none
def VB (bd:Rb) (gd:Rn) (k:Nat) (t:VT):Option VT:=
 if k < t.ns.length/\t.aK.length < 100000/\0<=t.aX/\t.aX < 100000 then
  (let n:=t.ns.getD k {}
  if n.kind=8 then Xp bd k n t
  else if n.kind=1∨n.kind=3∨n.kind=4∨n.kind=5∨n.kind=7 then some (Bb (eT t n.mf n.line n.au).2 k t.aX)
  else if n.kind=11 then bd n.a t
  else if n.kind=16 then (bd n.a t).bind (bd n.b)
  else if n.kind=15 then gd k t
  else some t)
 else none
theorem Gu (t:VT) (s:bj) (l c:Int):(eT t s l c).2.ns=t.ns/\(eT t s l c).2.aK=t.aK++[⟨s,t.aX⟩]/\(eT t s l c).2.inner=t.inner:=by
 refine ⟨?_,rfl,?_⟩
 ·show (wm (se t s l c) l c).ns=t.ns
  rw [(WL _ _ _).2.2,(WK _ _ _ _).2.2]
 ·have hf:∀(t:VT) (e l c:Int),(t.fail e l c).inner=t.inner:=fun t e l c=>by unfold VT.fail;split <;> rfl
  show (wm (se t s l c) l c).inner=t.inner
  unfold wm se
  (repeat' split) <;> simp only [hf]
section
variable {S:XS} {P:bC} {gP:List Nat} {H H1 H2:ad} {r:Nat} {t t1 t2:VT} {m g g1 g2 mi dz dF:List Nat}
theorem abR {bd:Rb} {gd:Rn} (jn:VA S P gP r m bd) (fG:RgW S P gP r m gd) (h:RQ S P gP H r t m g mi) {k:Nat} {t':VT} (he:VB bd gd k t=some t'):
  aj Tryz.prog 125 #[pV r,iV (k:Nat)] H (fun w H'=>wk S P gP H r t m g mi t' H'):=by
 refine aj.told ?_
 refine aev (Nat.le_refl _) fun hf=>?_
 simp only [Tryz.f125,Option.getD_some]
 unfold VB at he
 split at he
 case isFalse=>cases he
 rename_i hb
 obtain ⟨hk,c6,nj,dm⟩:=hb
 obtain ⟨vI,b,cs,vA,vQ,vB,gA,gQ,gB,hr,hI,hm,hb,b7,aV,lG,tc⟩:=h.toRQ0.node hk
 simp only at he
 generalize hn:t.ns.getD k {}=n at *
 obtain ⟨aA,kA,rfl⟩:=lG.a.val
 obtain ⟨aQ,kQ,rfl⟩:=lG.q.val
 obtain ⟨aB,kB,rfl⟩:=lG.b.val
 clear lG
 obtain ⟨kd,x,y,f,nn,cap,rc,op,a,bb,nx,ln,cl,nX,nY,nF,nR,ar,pt,bY⟩:=n
 simp only at he aV
 have dv:H.fz H.next=false:=hf.fresh (Nat.le_refl _)
 have nr:¬r=H.next:=by have:=h.rl;omega
 have uh:¬H.next=r:=fun e=>nr e.symm
 have nb:¬b=H.next:=by have:=(h.hm b (by rw [hm];simp)).1;omega
 have de:H.next∉r::(m++mi):=fun e=>by
  simp only [List.mem_cons,List.mem_append] at e
  rcases e with e | e | e
  ·omega
  ·have:=(h.hm _ e).1;omega
  ·have:=(h.hi _ e).1;omega
 have DI:=h.fz
 by_cases VC:kd=8
 ·subst VC
  have r1:=(RR.start h).push ⟨aJ ⟨8,x,y,f,nn,cap,rc,op,a,bb,nx,ln,cl,nX,nY,nF,nR,ar,pt,bY⟩ (.slice aA ar.length kA) (.slice aQ pt.length kQ) (.slice aB bY.length kB),42,false,false⟩
  have iz:(H.push ⟨aJ ⟨8,x,y,f,nn,cap,rc,op,a,bb,nx,ln,cl,nX,nY,nF,nR,ar,pt,bY⟩ (.slice aA ar.length kA) (.slice aQ pt.length kQ) (.slice aB bY.length kB),42,false,false⟩).get H.next=some ⟨aJ ⟨8,x,y,f,nn,cap,rc,op,a,bb,nx,ln,cl,nX,nY,nF,nR,ar,pt,bY⟩ (.slice aA ar.length kA) (.slice aQ pt.length kQ) (.slice aB bY.length kB),42,false,false⟩:=by rw [aU,if_pos rfl]
  simp only [go_sem,hr,hk,hb,b7,aV,dv,nr]
  refine af.by (Cr (s:=nX) (n:=⟨8,x,y,f,nn,cap,rc,op,a,bb,nx,ln,cl,nX,nY,nF,nR,ar,pt,bY⟩) r1.rq c6 nj dm) ?_
  rintro _ H2 - ⟨rfl,p2⟩
  obtain ⟨g2,dF,r2,HZ,i6⟩:=r1.call p2
  obtain ⟨kN,kI,Jb⟩:=Gu t nX ln cl
  have fM:k < (eT t nX ln cl).2.ns.length:=by rw [kN];exact hk
  have i4:(eT t nX ln cl).2.ns.getD k {}=⟨8,x,y,f,nn,cap,rc,op,a,bb,nx,ln,cl,nX,nY,nF,nR,ar,pt,bY⟩:=by rw [kN];exact hn
  obtain ⟨Gd,b2,ma,dL,lF,fe,th,g3,r3⟩:=r2.sk (j:=1) (v:=iV t.aX) (n':={(eT t nX ln cl).2.ns.getD k {} with x:=t.aX}) fM (by decide) (fun _ _ _=>rfl) rfl rfl rfl
  have r3:RR S P gP H r t m g mi (H2.ah b2 ⟨ma.set (k * 20+1) (iV t.aX),42,true,false⟩) (Bb (eT t nX ln cl).2 k t.aX) g3 dF:=r3
  have za:b2=b:=by rw [hm] at lF;simpa using lF
  subst za
  have fg:H.fz b2=false:=h.fm b2 lF
  have dG:k * 20+1 < ma.length:=by omega
  have fU:k * 20+1+1<=ma.length:=by omega
  have mJ:=(p2.1.get H.next (Nat.lt_succ_self _) de).trans iz
  rw [kN] at dL
  simp only [if_true] at he
  rw [Xp] at he
  simp only at he
  generalize Mp:Bb (eT t nX ln cl).2 k t.aX=T1 at *
  have akT:T1.aK=t.aK++[⟨nX,t.aX⟩]:=by rw [<-Mp];exact kI
  have akU:T1.inner=t.inner:=by rw [<-Mp];exact Jb
  obtain ⟨H3,dI⟩:=r3.hp
  have nb2:¬H.next=b2:=fun e=>nb e.symm
  have mN:H3.get H.next=some ⟨aJ ⟨8,x,y,f,nn,cap,rc,op,a,bb,nx,ln,cl,nX,nY,nF,nR,ar,pt,bY⟩ (.slice aA ar.length kA) (.slice aQ pt.length kQ) (.slice aB bY.length kB),42,false,false⟩:=by rw [dI,az,if_neg nb2];exact mJ
  simp only [go_sem,mJ,dL,hk,fe,fg,dG,fU,eG dG]
  rw [<-dI] at r3 ⊢
  have gq:¬r=b2:=fun e=>by have:=(h.hm b2 (by rw [hm];simp)).2.1;exact this e.symm
  have akV:H3.get r=some ⟨rC S (.slice (some ⟨b2,0,none⟩) t.ns.length t.ns.length) Gd (eT t nX ln cl).2,136,false,false⟩:=by rw [dI,az,if_neg gq];exact dL
  have kr:H2.next<=H3.next:=by rw [dI];exact Nat.le_refl _
  clear dI
  obtain ⟨BA,DJ,fA,_,L5,_,aiw⟩:=r3.re
  rw [if_neg gq,<-akV]
  rw [akT] at L5
  obtain ⟨aI3,cI3,Z1⟩:=L5.val
  rw [List.length_append,List.length_singleton] at Z1
  subst Z1
  have hwl:IntKind.wrap .i64 (((t.aK.length+1:Nat):Int) - 1)=((t.aK.length:Nat):Int):=by rw [show (((t.aK.length+1:Nat):Int) - 1)=((t.aK.length:Nat):Int) by omega];exact uy (by omega)
  obtain ⟨v5,dE,mV⟩:=L5.cut (k:=t.aK.length) (by rw [List.length_append];omega)
  rw [List.take_left] at mV
  obtain ⟨a5,c5,jy⟩:=mV.val
  subst jy
  have r5:=aiw {T1 with aK:=t.aK,inner:=((t.aK.length:Nat):Int)} _ dF rfl mV fun c hc=>⟨(r3.rq.hi c hc).1,(r3.rq.hi c hc).2.1,(r3.rq.hi c hc).2.2.1,(r3.rq.hi c hc).2.2.2,fun e=>(r3.rq.hm c e).2.2.2.2 hc,r3.si c hc,r3.rq.fi c hc⟩
  obtain ⟨H5,jC⟩:=r5.hp
  have dJ:H5.get H.next=_:=(by rw [jC,az,if_neg (fun e=>nr e.symm)]:H5.get H.next=H3.get H.next).trans mN
  simp only [go_sem,fA,hwl,Option.map_none,Option.map_some,dE,DI,mN,nr,uh]
  have n25:H2.next<=H5.next:=by rw [jC];show H2.next<=H3.next;exact kr
  rw [JI,<-jC]
  rw [<-jC] at r5
  clear jC
  cases hJ:bd a {T1 with aK:=t.aK,inner:=((t.aK.length:Nat):Int)} with
  | none=>rw [hJ] at he;cases he
  | some t3=>
  rw [hJ] at he
  simp only [Option.bind_some] at he
  split at he
  case isFalse=>cases he
  rename_i hle
  cases he
  refine af.by (jn r5.rq hJ) ?_
  rintro _ H6 - p6
  obtain ⟨g6,Cf,r6,avo,_⟩:=r5.call p6
  have dH:H6.get H.next=_:=(p6.1.get H.next (by have:=p2.1.nx;rw [bH] at this;have:H2.next<=H5.next:=n25;omega) (fun e=>by
   simp only [List.mem_cons,List.mem_append] at e
   rcases e with e | e | e
   ·omega
   ·have:=(h.hm _ e).1;omega
   ·exact (HZ _ e).elim (fun e=>by have:=(h.hi _ e).1;omega) fun e=>by rw [bH] at e;omega)).trans dJ
  obtain ⟨I3,I4,hZ,_,I8,_,_⟩:=r6.re
  obtain ⟨v7,akW,I6⟩:=I8.cut hle.1
  obtain ⟨a7,c7,wU⟩:=I6.val
  rw [List.length_take,Nat.min_eq_left hle.1] at wU
  subst wU
  simp only [go_sem,hZ,Option.map_none,Option.map_some,akW,dH,Qv,eA zs (by decide) (by decide)]
  have r7:=r6.push ⟨[ag nX,iV t.aX],139,false,false⟩
  have kC:(H6.push ⟨[ag nX,iV t.aX],139,false,false⟩).get r=some ⟨rC S I3 I4 t3,136,false,false⟩:=(bS r6.rq.rl).trans hZ
  have akX:=I6.ae (H':=H6.push ⟨[ag nX,iV t.aX],139,false,false⟩) fun c hc=>bS (r6.rq.hi c hc).1
  refine Q2 (x:=⟨nX,t.aX⟩) akX (fun c hc=>(r7.rq.hi c hc).1) r7.x (by rw [aU,if_pos rfl]) (by rw [List.length_take];omega) ?_
  intro v8 H8 mi8 hI8 Mr hf8 Pe
  obtain ⟨a8,c8,L1⟩:=hI8.val
  subst L1
  obtain ⟨BU,r8⟩:=r7.aK kC hf8 (t2:={t3 with aK:=t3.aK.take t.aK.length++[⟨nX,t.aX⟩],inner:=t.inner}) rfl hI8 Mr
  simp only [go_sem,BU,DI]
  rw [JI,akU]
  exact r8.last
 rw [if_neg VC] at he
 by_cases y8:kd=1
 ·subst y8
  have r1:=(RR.start h).push ⟨aJ ⟨1,x,y,f,nn,cap,rc,op,a,bb,nx,ln,cl,nX,nY,nF,nR,ar,pt,bY⟩ (.slice aA ar.length kA) (.slice aQ pt.length kQ) (.slice aB bY.length kB),42,false,false⟩
  have iz:(H.push ⟨aJ ⟨1,x,y,f,nn,cap,rc,op,a,bb,nx,ln,cl,nX,nY,nF,nR,ar,pt,bY⟩ (.slice aA ar.length kA) (.slice aQ pt.length kQ) (.slice aB bY.length kB),42,false,false⟩).get H.next=some ⟨aJ ⟨1,x,y,f,nn,cap,rc,op,a,bb,nx,ln,cl,nX,nY,nF,nR,ar,pt,bY⟩ (.slice aA ar.length kA) (.slice aQ pt.length kQ) (.slice aB bY.length kB),42,false,false⟩:=by rw [aU,if_pos rfl]
  simp only [go_sem,hr,hk,hb,b7,aV,dv,nr]
  refine af.by (Cr (s:=nX) (n:=⟨1,x,y,f,nn,cap,rc,op,a,bb,nx,ln,cl,nX,nY,nF,nR,ar,pt,bY⟩) r1.rq c6 nj dm) ?_
  rintro _ H2 - ⟨rfl,p2⟩
  obtain ⟨g2,dF,r2,HZ,i6⟩:=r1.call p2
  obtain ⟨kN,kI,Jb⟩:=Gu t nX ln cl
  have fM:k < (eT t nX ln cl).2.ns.length:=by rw [kN];exact hk
  have i4:(eT t nX ln cl).2.ns.getD k {}=⟨1,x,y,f,nn,cap,rc,op,a,bb,nx,ln,cl,nX,nY,nF,nR,ar,pt,bY⟩:=by rw [kN];exact hn
  obtain ⟨Gd,b2,ma,dL,lF,fe,th,g3,r3⟩:=r2.sk (j:=1) (v:=iV t.aX) (n':={(eT t nX ln cl).2.ns.getD k {} with x:=t.aX}) fM (by decide) (fun _ _ _=>rfl) rfl rfl rfl
  have r3:RR S P gP H r t m g mi (H2.ah b2 ⟨ma.set (k * 20+1) (iV t.aX),42,true,false⟩) (Bb (eT t nX ln cl).2 k t.aX) g3 dF:=r3
  have za:b2=b:=by rw [hm] at lF;simpa using lF
  subst za
  have fg:H.fz b2=false:=h.fm b2 lF
  have dG:k * 20+1 < ma.length:=by omega
  have fU:k * 20+1+1<=ma.length:=by omega
  have mJ:=(p2.1.get H.next (Nat.lt_succ_self _) de).trans iz
  rw [kN] at dL
  simp only [Int.reduceEq,if_true,if_false,or_true,true_or,or_false,false_or] at he
  cases he
  simp only [go_sem,hr,nr,dL,hk,fe,fg,dG,fU,eG dG]
  exact r3.last
 by_cases yZ:kd=3
 ·subst yZ
  have r1:=(RR.start h).push ⟨aJ ⟨3,x,y,f,nn,cap,rc,op,a,bb,nx,ln,cl,nX,nY,nF,nR,ar,pt,bY⟩ (.slice aA ar.length kA) (.slice aQ pt.length kQ) (.slice aB bY.length kB),42,false,false⟩
  have iz:(H.push ⟨aJ ⟨3,x,y,f,nn,cap,rc,op,a,bb,nx,ln,cl,nX,nY,nF,nR,ar,pt,bY⟩ (.slice aA ar.length kA) (.slice aQ pt.length kQ) (.slice aB bY.length kB),42,false,false⟩).get H.next=some ⟨aJ ⟨3,x,y,f,nn,cap,rc,op,a,bb,nx,ln,cl,nX,nY,nF,nR,ar,pt,bY⟩ (.slice aA ar.length kA) (.slice aQ pt.length kQ) (.slice aB bY.length kB),42,false,false⟩:=by rw [aU,if_pos rfl]
  simp only [go_sem,hr,hk,hb,b7,aV,dv,nr]
  refine af.by (Cr (s:=nX) (n:=⟨3,x,y,f,nn,cap,rc,op,a,bb,nx,ln,cl,nX,nY,nF,nR,ar,pt,bY⟩) r1.rq c6 nj dm) ?_
  rintro _ H2 - ⟨rfl,p2⟩
  obtain ⟨g2,dF,r2,HZ,i6⟩:=r1.call p2
  obtain ⟨kN,kI,Jb⟩:=Gu t nX ln cl
  have fM:k < (eT t nX ln cl).2.ns.length:=by rw [kN];exact hk
  have i4:(eT t nX ln cl).2.ns.getD k {}=⟨3,x,y,f,nn,cap,rc,op,a,bb,nx,ln,cl,nX,nY,nF,nR,ar,pt,bY⟩:=by rw [kN];exact hn
  obtain ⟨Gd,b2,ma,dL,lF,fe,th,g3,r3⟩:=r2.sk (j:=1) (v:=iV t.aX) (n':={(eT t nX ln cl).2.ns.getD k {} with x:=t.aX}) fM (by decide) (fun _ _ _=>rfl) rfl rfl rfl
  have r3:RR S P gP H r t m g mi (H2.ah b2 ⟨ma.set (k * 20+1) (iV t.aX),42,true,false⟩) (Bb (eT t nX ln cl).2 k t.aX) g3 dF:=r3
  have za:b2=b:=by rw [hm] at lF;simpa using lF
  subst za
  have fg:H.fz b2=false:=h.fm b2 lF
  have dG:k * 20+1 < ma.length:=by omega
  have fU:k * 20+1+1<=ma.length:=by omega
  have mJ:=(p2.1.get H.next (Nat.lt_succ_self _) de).trans iz
  rw [kN] at dL
  simp only [Int.reduceEq,if_true,if_false,or_true,true_or,or_false,false_or] at he
  cases he
  simp only [go_sem,hr,nr,dL,hk,fe,fg,dG,fU,eG dG]
  exact r3.last
 by_cases ij:kd=4
 ·subst ij
  have r1:=(RR.start h).push ⟨aJ ⟨4,x,y,f,nn,cap,rc,op,a,bb,nx,ln,cl,nX,nY,nF,nR,ar,pt,bY⟩ (.slice aA ar.length kA) (.slice aQ pt.length kQ) (.slice aB bY.length kB),42,false,false⟩
  have iz:(H.push ⟨aJ ⟨4,x,y,f,nn,cap,rc,op,a,bb,nx,ln,cl,nX,nY,nF,nR,ar,pt,bY⟩ (.slice aA ar.length kA) (.slice aQ pt.length kQ) (.slice aB bY.length kB),42,false,false⟩).get H.next=some ⟨aJ ⟨4,x,y,f,nn,cap,rc,op,a,bb,nx,ln,cl,nX,nY,nF,nR,ar,pt,bY⟩ (.slice aA ar.length kA) (.slice aQ pt.length kQ) (.slice aB bY.length kB),42,false,false⟩:=by rw [aU,if_pos rfl]
  simp only [go_sem,hr,hk,hb,b7,aV,dv,nr]
  refine af.by (Cr (s:=nX) (n:=⟨4,x,y,f,nn,cap,rc,op,a,bb,nx,ln,cl,nX,nY,nF,nR,ar,pt,bY⟩) r1.rq c6 nj dm) ?_
  rintro _ H2 - ⟨rfl,p2⟩
  obtain ⟨g2,dF,r2,HZ,i6⟩:=r1.call p2
  obtain ⟨kN,kI,Jb⟩:=Gu t nX ln cl
  have fM:k < (eT t nX ln cl).2.ns.length:=by rw [kN];exact hk
  have i4:(eT t nX ln cl).2.ns.getD k {}=⟨4,x,y,f,nn,cap,rc,op,a,bb,nx,ln,cl,nX,nY,nF,nR,ar,pt,bY⟩:=by rw [kN];exact hn
  obtain ⟨Gd,b2,ma,dL,lF,fe,th,g3,r3⟩:=r2.sk (j:=1) (v:=iV t.aX) (n':={(eT t nX ln cl).2.ns.getD k {} with x:=t.aX}) fM (by decide) (fun _ _ _=>rfl) rfl rfl rfl
  have r3:RR S P gP H r t m g mi (H2.ah b2 ⟨ma.set (k * 20+1) (iV t.aX),42,true,false⟩) (Bb (eT t nX ln cl).2 k t.aX) g3 dF:=r3
  have za:b2=b:=by rw [hm] at lF;simpa using lF
  subst za
  have fg:H.fz b2=false:=h.fm b2 lF
  have dG:k * 20+1 < ma.length:=by omega
  have fU:k * 20+1+1<=ma.length:=by omega
  have mJ:=(p2.1.get H.next (Nat.lt_succ_self _) de).trans iz
  rw [kN] at dL
  simp only [Int.reduceEq,if_true,if_false,or_true,true_or,or_false,false_or] at he
  cases he
  simp only [go_sem,hr,nr,dL,hk,fe,fg,dG,fU,eG dG]
  exact r3.last
 by_cases Ga:kd=5
 ·subst Ga
  have r1:=(RR.start h).push ⟨aJ ⟨5,x,y,f,nn,cap,rc,op,a,bb,nx,ln,cl,nX,nY,nF,nR,ar,pt,bY⟩ (.slice aA ar.length kA) (.slice aQ pt.length kQ) (.slice aB bY.length kB),42,false,false⟩
  have iz:(H.push ⟨aJ ⟨5,x,y,f,nn,cap,rc,op,a,bb,nx,ln,cl,nX,nY,nF,nR,ar,pt,bY⟩ (.slice aA ar.length kA) (.slice aQ pt.length kQ) (.slice aB bY.length kB),42,false,false⟩).get H.next=some ⟨aJ ⟨5,x,y,f,nn,cap,rc,op,a,bb,nx,ln,cl,nX,nY,nF,nR,ar,pt,bY⟩ (.slice aA ar.length kA) (.slice aQ pt.length kQ) (.slice aB bY.length kB),42,false,false⟩:=by rw [aU,if_pos rfl]
  simp only [go_sem,hr,hk,hb,b7,aV,dv,nr]
  refine af.by (Cr (s:=nX) (n:=⟨5,x,y,f,nn,cap,rc,op,a,bb,nx,ln,cl,nX,nY,nF,nR,ar,pt,bY⟩) r1.rq c6 nj dm) ?_
  rintro _ H2 - ⟨rfl,p2⟩
  obtain ⟨g2,dF,r2,HZ,i6⟩:=r1.call p2
  obtain ⟨kN,kI,Jb⟩:=Gu t nX ln cl
  have fM:k < (eT t nX ln cl).2.ns.length:=by rw [kN];exact hk
  have i4:(eT t nX ln cl).2.ns.getD k {}=⟨5,x,y,f,nn,cap,rc,op,a,bb,nx,ln,cl,nX,nY,nF,nR,ar,pt,bY⟩:=by rw [kN];exact hn
  obtain ⟨Gd,b2,ma,dL,lF,fe,th,g3,r3⟩:=r2.sk (j:=1) (v:=iV t.aX) (n':={(eT t nX ln cl).2.ns.getD k {} with x:=t.aX}) fM (by decide) (fun _ _ _=>rfl) rfl rfl rfl
  have r3:RR S P gP H r t m g mi (H2.ah b2 ⟨ma.set (k * 20+1) (iV t.aX),42,true,false⟩) (Bb (eT t nX ln cl).2 k t.aX) g3 dF:=r3
  have za:b2=b:=by rw [hm] at lF;simpa using lF
  subst za
  have fg:H.fz b2=false:=h.fm b2 lF
  have dG:k * 20+1 < ma.length:=by omega
  have fU:k * 20+1+1<=ma.length:=by omega
  have mJ:=(p2.1.get H.next (Nat.lt_succ_self _) de).trans iz
  rw [kN] at dL
  simp only [Int.reduceEq,if_true,if_false,or_true,true_or,or_false,false_or] at he
  cases he
  simp only [go_sem,hr,nr,dL,hk,fe,fg,dG,fU,eG dG]
  exact r3.last
 by_cases Gb:kd=7
 ·subst Gb
  have r1:=(RR.start h).push ⟨aJ ⟨7,x,y,f,nn,cap,rc,op,a,bb,nx,ln,cl,nX,nY,nF,nR,ar,pt,bY⟩ (.slice aA ar.length kA) (.slice aQ pt.length kQ) (.slice aB bY.length kB),42,false,false⟩
  have iz:(H.push ⟨aJ ⟨7,x,y,f,nn,cap,rc,op,a,bb,nx,ln,cl,nX,nY,nF,nR,ar,pt,bY⟩ (.slice aA ar.length kA) (.slice aQ pt.length kQ) (.slice aB bY.length kB),42,false,false⟩).get H.next=some ⟨aJ ⟨7,x,y,f,nn,cap,rc,op,a,bb,nx,ln,cl,nX,nY,nF,nR,ar,pt,bY⟩ (.slice aA ar.length kA) (.slice aQ pt.length kQ) (.slice aB bY.length kB),42,false,false⟩:=by rw [aU,if_pos rfl]
  simp only [go_sem,hr,hk,hb,b7,aV,dv,nr]
  refine af.by (Cr (s:=nX) (n:=⟨7,x,y,f,nn,cap,rc,op,a,bb,nx,ln,cl,nX,nY,nF,nR,ar,pt,bY⟩) r1.rq c6 nj dm) ?_
  rintro _ H2 - ⟨rfl,p2⟩
  obtain ⟨g2,dF,r2,HZ,i6⟩:=r1.call p2
  obtain ⟨kN,kI,Jb⟩:=Gu t nX ln cl
  have fM:k < (eT t nX ln cl).2.ns.length:=by rw [kN];exact hk
  have i4:(eT t nX ln cl).2.ns.getD k {}=⟨7,x,y,f,nn,cap,rc,op,a,bb,nx,ln,cl,nX,nY,nF,nR,ar,pt,bY⟩:=by rw [kN];exact hn
  obtain ⟨Gd,b2,ma,dL,lF,fe,th,g3,r3⟩:=r2.sk (j:=1) (v:=iV t.aX) (n':={(eT t nX ln cl).2.ns.getD k {} with x:=t.aX}) fM (by decide) (fun _ _ _=>rfl) rfl rfl rfl
  have r3:RR S P gP H r t m g mi (H2.ah b2 ⟨ma.set (k * 20+1) (iV t.aX),42,true,false⟩) (Bb (eT t nX ln cl).2 k t.aX) g3 dF:=r3
  have za:b2=b:=by rw [hm] at lF;simpa using lF
  subst za
  have fg:H.fz b2=false:=h.fm b2 lF
  have dG:k * 20+1 < ma.length:=by omega
  have fU:k * 20+1+1<=ma.length:=by omega
  have mJ:=(p2.1.get H.next (Nat.lt_succ_self _) de).trans iz
  rw [kN] at dL
  simp only [Int.reduceEq,if_true,if_false,or_true,true_or,or_false,false_or] at he
  cases he
  simp only [go_sem,hr,nr,dL,hk,fe,fg,dG,fU,eG dG]
  exact r3.last
 rw [if_neg (by simp [y8,yZ,ij,Ga,Gb])] at he
 by_cases SJ:kd=11
 ·subst SJ
  rw [if_pos rfl] at he
  have r1:=(RR.start h).push ⟨aJ ⟨11,x,y,f,nn,cap,rc,op,a,bb,nx,ln,cl,nX,nY,nF,nR,ar,pt,bY⟩ (.slice aA ar.length kA) (.slice aQ pt.length kQ) (.slice aB bY.length kB),42,false,false⟩
  have iz:(H.push ⟨aJ ⟨11,x,y,f,nn,cap,rc,op,a,bb,nx,ln,cl,nX,nY,nF,nR,ar,pt,bY⟩ (.slice aA ar.length kA) (.slice aQ pt.length kQ) (.slice aB bY.length kB),42,false,false⟩).get H.next=some ⟨aJ ⟨11,x,y,f,nn,cap,rc,op,a,bb,nx,ln,cl,nX,nY,nF,nR,ar,pt,bY⟩ (.slice aA ar.length kA) (.slice aQ pt.length kQ) (.slice aB bY.length kB),42,false,false⟩:=by rw [aU,if_pos rfl]
  simp only [go_sem,hr,hk,hb,b7,aV,dv,nr]
  refine af.by (jn r1.rq he) ?_
  rintro _ H2 - p2
  obtain ⟨g2,dF,r2,_,_⟩:=r1.call p2
  simp only [go_sem]
  exact r2.last
 rw [if_neg SJ] at he
 by_cases SK:kd=16
 ·subst SK
  rw [if_pos rfl] at he
  have r1:=(RR.start h).push ⟨aJ ⟨16,x,y,f,nn,cap,rc,op,a,bb,nx,ln,cl,nX,nY,nF,nR,ar,pt,bY⟩ (.slice aA ar.length kA) (.slice aQ pt.length kQ) (.slice aB bY.length kB),42,false,false⟩
  have iz:(H.push ⟨aJ ⟨16,x,y,f,nn,cap,rc,op,a,bb,nx,ln,cl,nX,nY,nF,nR,ar,pt,bY⟩ (.slice aA ar.length kA) (.slice aQ pt.length kQ) (.slice aB bY.length kB),42,false,false⟩).get H.next=some ⟨aJ ⟨16,x,y,f,nn,cap,rc,op,a,bb,nx,ln,cl,nX,nY,nF,nR,ar,pt,bY⟩ (.slice aA ar.length kA) (.slice aQ pt.length kQ) (.slice aB bY.length kB),42,false,false⟩:=by rw [aU,if_pos rfl]
  simp only [go_sem,hr,hk,hb,b7,aV,dv,nr]
  cases iD:bd a t with
  | none=>rw [iD] at he;cases he
  | some t2=>
  rw [iD] at he
  simp only [Option.bind_some] at he
  refine af.by (jn r1.rq iD) ?_
  rintro _ H2 - p2
  obtain ⟨g2,dF,r2,_,_⟩:=r1.call p2
  have mJ:=(p2.1.get H.next (Nat.lt_succ_self _) de).trans iz
  simp only [go_sem,mJ]
  refine af.by (jn r2.rq he) ?_
  rintro _ H3 - p3
  obtain ⟨g3,mi3,r3,_,_⟩:=r2.call p3
  simp only [go_sem]
  exact r3.last
 rw [if_neg SK] at he
 by_cases SL:kd=15
 ·subst SL
  rw [if_pos rfl] at he
  have r1:=(RR.start h).push ⟨aJ ⟨15,x,y,f,nn,cap,rc,op,a,bb,nx,ln,cl,nX,nY,nF,nR,ar,pt,bY⟩ (.slice aA ar.length kA) (.slice aQ pt.length kQ) (.slice aB bY.length kB),42,false,false⟩
  have iz:(H.push ⟨aJ ⟨15,x,y,f,nn,cap,rc,op,a,bb,nx,ln,cl,nX,nY,nF,nR,ar,pt,bY⟩ (.slice aA ar.length kA) (.slice aQ pt.length kQ) (.slice aB bY.length kB),42,false,false⟩).get H.next=some ⟨aJ ⟨15,x,y,f,nn,cap,rc,op,a,bb,nx,ln,cl,nX,nY,nF,nR,ar,pt,bY⟩ (.slice aA ar.length kA) (.slice aQ pt.length kQ) (.slice aB bY.length kB),42,false,false⟩:=by rw [aU,if_pos rfl]
  simp only [go_sem,hr,hk,hb,b7,aV,dv,nr]
  refine af.by (fG r1.rq he) ?_
  rintro _ H2 - p2
  obtain ⟨g2,dF,r2,_,_⟩:=r1.call p2
  simp only [go_sem]
  exact r2.last
 rw [if_neg SL] at he
 cases he
 have r1:=(RR.start h).push ⟨aJ ⟨kd,x,y,f,nn,cap,rc,op,a,bb,nx,ln,cl,nX,nY,nF,nR,ar,pt,bY⟩ (.slice aA ar.length kA) (.slice aQ pt.length kQ) (.slice aB bY.length kB),42,false,false⟩
 simp only [go_sem,hr,hk,hb,b7,aV,dv,nr,VC,y8,yZ,ij,Ga,Gb,SJ,SK,SL]
 exact r1.last
end
theorem Gr.mid {α:Type} {r:Rp α} {ty:TypeId} {H:ad} {v:Value} {pre post:List α} {x:α} {m g:List Nat} (h:Gr r ty H v (pre++x::post) m g):
  ∃b c1 cx c2 f1 f2 f3,v=.slice (some ⟨b,0,none⟩) (pre++x::post).length (pre++x::post).length/\m=[b]/\H.get b=some ⟨c1++(cx++c2),ty,true,false⟩/\c1.length=pre.length * r.sz/\cx.length=r.sz/\c2.length=post.length * r.sz/\g=f1++(f2++f3)/\dP r H c1 pre f1/\r.E H cx x f2/\dP r H c2 post f3/\b∉g:=by
 rcases h with ⟨_,h,_⟩ | ⟨b,cs,rfl,h2,rfl,h4,h5,h6,hb⟩
 ·simp at h
 ·obtain ⟨c1,c2',f1,f2',rfl,rfl,e1,a1,a2⟩:=h6.split
  obtain ⟨cx,c2,f2,f3,rfl,rfl,e2,a3⟩:=a2
  have e3:=r.len e2
  refine ⟨b,c1,cx,c2,f1,f2,f3,rfl,rfl,h4,e1,e3,?_,rfl,a1,e2,a3,hb⟩
  simp only [List.length_append,List.length_cons,e1,e3,Nat.add_mul,Nat.succ_mul] at h5
  omega
theorem Gr.agi {α:Type} {r:Rp α} {ty:TypeId} {H:ad} {b:Nat} {c1 cx c2:List Value} {pre post:List α} {x:α} {f1 f2 f3:List Nat} (hb:H.get b=some ⟨c1++(cx++c2),ty,true,false⟩) (h1:c1.length=pre.length * r.sz) (h2:c2.length=post.length * r.sz) (a1:dP r H c1 pre f1) (e:r.E H cx x f2) (a2:dP r H c2 post f3) (hn:b∉f1++(f2++f3)):
  Gr r ty H (.slice (some ⟨b,0,none⟩) (pre++x::post).length (pre++x::post).length) (pre++x::post) [b] (f1++(f2++f3)):=by
 have hl:(pre++x::post).length=pre.length+(post.length+1):=by simp
 refine Or.inr ⟨b,c1++(cx++c2),rfl,by simp,rfl,hb,?_,a1.join h1 ⟨cx,c2,f2,f3,rfl,rfl,e,a2⟩,hn⟩
 rw [hl,List.length_append,List.length_append,h1,h2,r.len e,Nat.add_mul,Nat.succ_mul]
 omega
theorem M9 {c1 cx c2:List Value} {n j:Nat} (h1:c1.length=n) (hj:j < cx.length):(c1++(cx++c2))[n+j]?=cx[j]?:=by
 subst h1
 rw [List.getElem?_append_right (by omega),Nat.add_sub_cancel_left,List.getElem?_append_left hj]
theorem QN {c1 cx c2:List Value} {n j:Nat} {v:Value} (h1:c1.length=n) (hj:j < cx.length):(c1++(cx++c2)).set (n+j) v=c1++(cx.set j v++c2):=by
 subst h1
 rw [List.set_append_right _ _ (by omega),Nat.add_sub_cancel_left,List.set_append_left _ _ hj]
section
variable {S:XS} {P:bC} {gP:List Nat} {H H1 H2:ad} {r:Nat} {t t1 t2:VT} {m g g1 g2 mi dz dF:List Nat}
theorem RR.app {α:Type} {rp:Rp α} {tt e:TypeId} {dZ:Nat} (ha:iM Tryz.prog tt=some (e,rp.sz,dZ)) (Iq:dZ < 1000) (h:RR S P gP H r t m g mi H1 t1 g1 dz) {vO:Value} {done:List α} {mO gO gx:List Nat} {x:α} {cs:List Value} (cw:Gr rp e H1 vO done mO gO) (hb:RQ0 S P gP H r t m g mi) (du:∀d∈mO,H.next<=d/\d < H1.next/\d∉dz/\d∉g1) (iO:∀d∈gO,d < H1.next) (hE:rp.E H1 cs x gx) (de:∀d∈gx,d < H1.next/\d∉mO) (h1:j5 cs=true) (db:done.length < 1000000) {K:Value->ad->Prop} {tg:Tag K}
  (hk:∀v8 H8 pT,Gr rp e H8 v8 (done++[x]) pT (gO++gx)->(∀d∈pT,H1.next < d/\d < H8.next)->RR S P gP H r t m g mi H8 t1 g1 dz->H1.next<=H8.next->(∀d,d < H1.next->d∉mO->H8.get d=H1.get d)->K v8 H8):
  el Tryz.prog H.fz (H1.push ⟨cs,e,false,false⟩) (iG Tryz.prog tt vO (.slice (some ⟨H1.next,0,none⟩) 1 1) (H1.push ⟨cs,e,false,false⟩)) K tg:=by
 have n1:(H1.push ⟨cs,e,false,false⟩).next=H1.next+1:=rfl
 have lo:∀d,d < H1.next->(H1.push ⟨cs,e,false,false⟩).get d=H1.get d:=fun d hd=>bS hd
 have oJ:H.next<=H1.next:=h.fr.nx
 refine jT (r:=rp) (x:=x) (g':=gx) ha (cw.ae (fun d hd=>lo d (du d hd).2.1) fun d hd=>lo d (iO d hd)) (fun d hd=>by have:=(du d hd).2.1;omega) (fun d hd=>by have:=iO d hd;omega) (fun d hd=>⟨by have:=(de d hd).1;omega,(de d hd).2⟩) (fun d hd=>h.zn d (du d hd).1) (by rw [aU,if_pos rfl]) (rp.ae hE fun d hd=>lo d (de d hd).1) h1 ?_ ?_
 ·have:(done.length+1) * dZ<=1000001 * 1000:=Nat.mul_le_mul (by omega) (by omega)
  omega
 ·intro v8 H8 kY Oe HH A8 A9
  refine hk v8 H8 _ kY (fun d hd=>?_) ((h.push _).own A8 (fun d hd=>?_) fun d hd=>?_) (by omega) fun d hd hn=>(HH d (by omega) hn).trans (lo d hd)
  ·rw [List.mem_singleton] at hd
   omega
  ·have:=du d hd
   exact ⟨this.1,by have:=hb.rl;omega,fun e=>by have:=(hb.hm d e).1;omega,this.2.2.1,this.2.2.2,fun e=>by have:=(hb.hP d e).1;omega⟩
  ·rw [A9,show (d==(H1.push ⟨cs,e,false,false⟩).next)=false from by rw [beq_eq_false_iff_ne];omega,Bool.false_or]
def Ln (r:Nat) (m:List Nat) (H:ad) (mi O:List Nat):Prop:=∀c∈O,c < H.next/\c≠r/\c∉m/\c∉mi
theorem Ln.call {O:List Nat} (h:Ln r m H1 dz O) (hf:Fr (r::(m++dz)) H1 H2) (hs:∀c∈dF,c∈dz∨H1.next<=c):Ln r m H2 dF O/\∀c∈O,H2.get c=H1.get c:=by
 have nx:=hf.nx
 refine ⟨fun c hc=>?_,fun c hc=>?_⟩
 ·obtain ⟨h1,h2,h3,h4⟩:=h c hc
  exact ⟨by omega,h2,h3,fun e=>(hs c e).elim h4 fun e=>by omega⟩
 ·obtain ⟨h1,h2,h3,h4⟩:=h c hc
  exact hf.get c h1 (by simp only [List.mem_cons,List.mem_append,not_or];exact ⟨h2,h3,h4⟩)
end
def AM (P:bC) (n:aH):List eZ->List eZ->List Int->VT->List eZ × VT
 | [],done,tags,t=>(done,t)
 | b::l,done,tags,t=>AM P n l (done++[(xz P b tags n t).1]) (tags++[(xz P b tags n t).1.tag]) (xz P b tags n t).2
def Jc (t:VT):Prop:=t.aK.length < 100000/\0<=t.aX/\t.aX < 100000
instance (t:VT):Decidable (Jc t):=inferInstanceAs (Decidable (_/\_/\_))
def D2 (n:aH):List bj->List Int->VT->Option (List Int × VT)
 | [],sl,t=>if Jc t then some (sl,t) else none
 | s::l,sl,t=>if Jc t then D2 n l (sl++[t.aX]) (eT t s n.line n.au).2 else none
def AE (n:aH) (op:List l9):List eZ->List eZ->List (List l9)->VT->Option (List eZ × List (List l9) × VT)
 | [],done,sc,t=>some (done,sc,t)
 | b::l,done,sc,t=>if b.tag= -1∨¬t.bad=0 then AE n op l (done++[b]) (sc++[op]) t
  else if b.names.length < 100000 then (D2 n b.names [] {t with aK:=op}).bind fun x=>
   AE n op l (done++[{b with aX:=x.1,Ac:=x.2.aX}]) (sc++[(eT x.2 b.kJ n.line n.au).2.aK]) (eT x.2 b.kJ n.line n.au).2
  else none
def DX (bd:Rb):List eZ->List (List l9)->VT->Option VT
 | b::l,s::sc,t=>if s.length < 1000000 then (bd b.body {t with aK:=s}).bind (DX bd l sc) else none
 | [],_,t=>some t
 | _,[],_=>none
def VD (P:bC) (bd:Rb) (k:Nat) (t:VT):Option VT:=
 if k < t.ns.length/\t.aK.length < 100000/\(t.ns.getD k {}).ak.length < 100000/\(t.ns.getD k {}).pat.length < 1000000/\(t.ns.getD k {}).ak.all (fun b=>Nat.ble b.names.length 100000)=true then
  (match qt (jf P) (t.ns.getD k {}).pat with
  | none=>some (t.fail 4 (t.ns.getD k {}).line (t.ns.getD k {}).au)
  | some p=>
   let n:=t.ns.getD k {}
   let n1:aH:={n with pat:=p}
   let a:=AM P n1 n.ak [] [] t
   (AE n1 (t.aK.filter fun x=>decide (¬x.slot=n.y)) a.1 [] [] a.2).bind fun s=>
    (DX bd s.1 s.2.1 {s.2.2 with ns:=s.2.2.ns.set k {n1 with ak:=s.1}}).map fun t2=>{t2 with aK:=t.aK,inner:=s.2.2.inner})
 else none
section
variable {S:XS} {P:bC} {gP:List Nat} {H H1 H2:ad} {r:Nat} {t t1 t2:VT} {m g g1 g2 mi dz dF:List Nat}
theorem abS (hP:y0 P) {bd:Rb} (jn:VA S P gP r m bd) (h:RQ S P gP H r t m g mi) {k:Nat} {t':VT} (he:VD P bd k t=some t'):
  aj Tryz.prog 154 #[pV r,iV (k:Nat)] H (fun w H'=>wk S P gP H r t m g mi t' H'):=by
 refine aj.told ?_
 refine qi (l:=[_,_]) _ mixed Tryz.func154 ae9 [] (show 2<=216 by decide) rfl fun hf=>?_
 simp only [Tryz.f154,Option.getD_some]
 unfold VD at he
 split at he
 case isFalse=>cases he
 rename_i hb
 obtain ⟨hk,c6,akY,jX,rv⟩:=hb
 obtain ⟨vI,b,cs,vA,vQ,vB,gA,gQ,gB,hr,hI,hm,hb,b7,aV,lG,tc⟩:=h.toRQ0.node hk
 generalize hn:t.ns.getD k {}=n at *
 have rv:∀x∈n.ak,x.names.length < 1000000:=fun x hx=>by
  have:=Nat.le_of_ble_eq_true (List.all_eq_true.1 rv x hx);omega
 obtain ⟨aA,kA,rfl⟩:=lG.a.val
 obtain ⟨aQ,kQ,rfl⟩:=lG.q.val
 obtain ⟨aB,kB,rfl⟩:=lG.b.val
 have dv:H.fz H.next=false:=hf.fresh (Nat.le_refl _)
 have nr:¬r=H.next:=by have:=h.rl;omega
 have uh:¬H.next=r:=fun e=>nr e.symm
 have DI:=h.fz
 have rI:∀c∈gA++(gQ++gB),c < H.next/\c≠r:=fun c hc=>h.hg c (tc c hc)
 have r1:=((RA.start h).push ⟨aJ n (.slice aA n.args.length kA) (.slice aQ n.pat.length kQ) (.slice aB n.ak.length kB),42,false,false⟩).told
 obtain ⟨H1,cF⟩:=r1.hp
 have iz:H1.get H.next=some ⟨aJ n (.slice aA n.args.length kA) (.slice aQ n.pat.length kQ) (.slice aB n.ak.length kB),42,false,false⟩:=by rw [cF,be,aU,if_pos rfl]
 have IU:H1.next=H.next+1:=by rw [cF];rfl
 refine lS (lS (lS (lS (lS (lS (qj 9444732965739289379824 (fun V H4=>∃p ap kp aL mL gL gp,qt (jf P) n.pat=some p/\V 4=pV H.next/\V 7=.slice aL n.ak.length n.ak.length/\
   RA S P gP H r t m g mi H4 (AM P {n with pat:=p} n.ak [] [] t).2/\H4.get H.next=some ⟨aJ {n with pat:=p} (.slice aA n.args.length kA) (.slice ap p.length kp) (.slice aB n.ak.length kB),42,false,false⟩/\
   Gr dB 52 H4 (.slice aL n.ak.length n.ak.length) (AM P {n with pat:=p} n.ak [] [] t).1 mL gL/\(∀c∈mL,H.next < c/\c < H4.next)/\(∀c∈gL,c∈gB)/\Sl fy H4 (.slice ap p.length kp) p gp/\(∀c∈gp,H.next < c/\c < H4.next/\c∉mL)/\H.next < H4.next) ?_ ?_ (by rfl)))))))
 ·simp only [go_sem,hr,hk,hb,b7,aV,dv]
  rw [<-cF] at r1 ⊢
  clear cF
  refine af.by (Qn r1.rq.toRQ0 hP.m (lG.q.ae (H':=H1) fun c hc=>r1.k (rI c (by simp [hc])).1 (rI c (by simp [hc])).2) (fun c hc=>by have:=(rI c (by simp [hc])).1;omega) jX) ?_
  rintro w H2 - ⟨qT,o2,z2⟩
  have r2:=(r1.aE o2 z2).told
  have mJ:=(o2.get H.next (by omega)).trans iz
  have ey:=o2.nx
  unfold HX at qT
  cases At:qt (jf P) n.pat with
  | none=>
   rw [At] at qT he
   subst qT
   cases he
   simp only [go_sem,mJ]
   refine af.by (iX r2.rq) ?_
   rintro _ H3 - p3
   simp only [go_sem]
   exact (r2.call p3).rr.last
  | some p=>
   rw [At] at qT
   obtain ⟨vp,gp,rfl,eu,Dp⟩:=qT
   obtain ⟨ap,kp,rfl⟩:=eu.val
   have r3:=(r2.own (M:=[H.next]) ((Fr.refl _ _).ah (b:=H.next) (.inl (by simp)) ⟨aJ {n with pat:=p} (.slice aA n.args.length kA) (.slice ap p.length kp) (.slice aB n.ak.length kB),42,false,false⟩) (by simp) fun _ _=>rfl).told
   obtain ⟨H3,dI⟩:=r3.hp
   have mN:H3.get H.next=some ⟨aJ {n with pat:=p} (.slice aA n.args.length kA) (.slice ap p.length kp) (.slice aB n.ak.length kB),42,false,false⟩:=by rw [dI,be,az,if_pos rfl]
   have k3:∀c,c≠H.next->H3.get c=H2.get c:=fun c hc=>by rw [dI,be,az,if_neg hc,be]
   have Fw:H3.next=H2.next:=by rw [dI];rfl
   simp only [go_sem,mJ,dv]
   rw [<-dI] at r3 ⊢
   clear dI
   have T5:=lG.b.ae (H':=H3) fun c hc=>r3.k (rI c (by simp [hc])).1 (rI c (by simp [hc])).2
   refine xy (r:=dB) rX T5 (by
    have:n.ak.length * 1000<=1000000 * 1000:=Nat.mul_le_mul (by omega) (Nat.le_refl _)
    omega) (fun c hc=>by have:=(rI c (by simp [hc])).1;omega) ?_
   intro vL H4 mL gL ni pL jo
   obtain ⟨aL,pO⟩:=ni.val
   subst pO
   obtain ⟨r4,fZ,k4,nB⟩:RA S P gP H r t m g mi H4 t/\(∀d∈mL,H3.next<=d/\d < H4.next)/\(∀d,d < H3.next->H4.get d=H3.get d)/\H3.next<=H4.next:=by
    rcases jo with ⟨rfl,rfl⟩ | ⟨rfl,cs,rfl⟩
    ·exact ⟨r3,by simp,fun _ _=>rfl,Nat.le_refl _⟩
    ·exact ⟨r3.push _,fun d hd=>by rw [List.mem_singleton] at hd;subst hd;exact ⟨Nat.le_refl _,Nat.lt_succ_self _⟩,fun d hd=>bS hd,Nat.le_succ _⟩
   have r4:=r4.told
   have Ap:=(k4 H.next (by omega)).trans mN
   have akZ:=eu.ae (H':=H4) fun c hc=>by
    have:=Dp c hc
    rw [k4 c (by omega),k3 c (by omega)]
   have Z2:∀c∈gp,H.next < c/\c < H4.next/\c∉mL:=fun c hc=>by
    have:=Dp c hc
    exact ⟨by omega,by omega,fun e=>by have:=(fZ c e).1;omega⟩
   simp only [go_sem]
   refine pe 9444731839839383585536 n.ak.length (fun i V H5=>V 50=iV (i:Nat)/\∃vT mT tags done t5 DL,V 8=vT/\RA S P gP H r t m g mi H5 t5/\Gr .int 3 H5 vT tags mT []/\(∀d∈mT,H4.next<=d/\d < H5.next)/\tags.length=i/\H5.get H.next=some ⟨aJ {n with pat:=p} (.slice aA n.args.length kA) (.slice ap p.length kp) (.slice aB n.ak.length kB),42,false,false⟩/\
     Gr dB 52 H5 (.slice aL n.ak.length n.ak.length) (done++n.ak.drop i) mL DL/\(∀d∈DL,d∈gB)/\done.length=i/\H4.next<=H5.next/\(∀d∈gp,H5.get d=H4.get d)/\AM P {n with pat:=p} n.ak [] [] t=AM P {n with pat:=p} (n.ak.drop i) done tags t5)
    ⟨by simp only [go_sem] <;> rfl,.slice none 0 0,[],[],[],t,gL,by simp only [go_sem] <;> rfl,r4,Gr.nil _ _ _,by simp,rfl,Ap,ni.ae (fun _ _=>rfl) (fun _ _=>rfl),pL,rfl,Nat.le_refl _,fun _ _=>rfl,rfl⟩ ?_ ?_ (by rfl)
   ·rintro i V H5 hi ⟨ei,vT,mT,tags,done,t5,DL,e8,r5,ER,l8,fO,dJ,ly,wX,db,w4,Lu,Ge⟩
    have hx:n.ak[i]?=some (n.ak[i]'hi):=List.getElem?_eq_getElem hi
    have cB:n.ak.drop i=(n.ak[i]'hi)::n.ak.drop (i+1):=(List.getElem_cons_drop hi).symm
    generalize (n.ak[i]'hi)=x at hx cB
    rw [cB] at ly Ge
    rw [AM] at Ge
    have KL:i < (done++x::n.ak.drop (i+1)).length:=by rw [List.length_append,List.length_cons];omega
    have pA:(done++x::n.ak.drop (i+1))[i]'KL=x:=by subst db;simp
    have eV:∀y:eZ,(done++x::n.ak.drop (i+1)).set i y=(done++[y])++n.ak.drop (i+1):=fun y=>by subst db;simp
    have bX:IntKind.wrap .i64 (((i:Nat):Int)+1)=((i+1:Nat):Int):=cW hi (by omega)
    obtain ⟨b5,dC,f1,f2,f3,hv,dy,iy,fE,lL,iJ,hE,oE⟩:=ly.put KL
    rw [pA] at hE
    obtain ⟨vS,vN,u1,u2,ji,rfl,Px,Jd⟩:=hE
    obtain ⟨aS,kS,rfl⟩:=Px.val
    obtain ⟨aN,kN,rfl⟩:=Jd.val
    have ji:(dC.drop (i * 7)).take 7=cC x (.slice aS x.aX.length kS) (.slice aN x.names.length kN):=ji
    have iJ:i * 7+7<=dC.length:=iJ
    simp only [Value.slice.injEq] at hv
    have iA:=hv.1
    have On:b5∈mL:=by rw [dy];simp
    have akQ:=fZ b5 On
    have i9:H.fz b5=false:=hf.fresh (by omega)
    have El:∀d∈f1++((u1++u2)++f3),d∈DL:=fun d hd=>by rw [lL];exact hd
    have Oq:∀d∈DL,d < H.next/\d≠r:=fun d hd=>rI d (by simp [wX d hd])
    obtain ⟨aT,I1⟩:=ER.val
    subst I1
    have n5:=r5.fr.nx
    simp only [go_sem,ei,hi,iA,iy,iJ,ji,e8,dJ]
    refine af.by (acw r5.told.rq hP (b:=x) (n:={n with pat:=p}) (ER.sl.ae fun _ _=>rfl) (fun c hc=>by rw [List.append_nil] at hc;have:=l8 c hc;exact ⟨this.2,by have:=h.rl;omega⟩) (by omega)) ?_
    rintro _ H6 - ⟨rfl,p6⟩
    have O2:H5.next<=H6.next:=p6.fr.nx
    have r6:=r5.told.call p6
    have kk:∀d,d < H5.next->d≠r->H6.get d=H5.get d:=fun d h1 h2=>p6.fr.get d h1 (by simp [h2])
    have FO:=(kk b5 (by omega) (by have:=h.rl;omega)).trans iy
    have dH:=(kk H.next (by omega) uh).trans dJ
    generalize hBR:xz P x tags {n with pat:=p} t5=BR at *
    have cJ:BR.1.aX=x.aX/\BR.1.names=x.names:=by
     rw [<-hBR,xz]
     (repeat' split) <;> exact ⟨rfl,rfl⟩
    have r7:=(r6.own (M:=[b5]) ((Fr.refl _ _).ah (b:=b5) (.inl (by simp)) ⟨cT dC (i * 7) (cC BR.1 (.slice aS x.aX.length kS) (.slice aN x.names.length kN)),52,true,false⟩) (by simp;omega) fun _ _=>rfl).told
    obtain ⟨H7,cS⟩:=r7.hp
    have k7:∀d,d≠b5->H7.get d=H6.get d:=fun d hd=>by rw [cS,be,az,if_neg hd]
    have xg:H7.next=H6.next:=by rw [cS];rfl
    have I9:H7.get b5=some ⟨cT dC (i * 7) (cC BR.1 (.slice aS x.aX.length kS) (.slice aN x.names.length kN)),52,true,false⟩:=by rw [cS,be,az,if_pos rfl]
    have ea:=(k7 H.next (by omega)).trans dH
    have kl:∀d∈DL,H7.get d=H5.get d:=fun d hd=>by
     have:=Oq d hd
     rw [k7 d (by omega),kk d (by omega) this.2]
    have bG:=oE H7 (cC BR.1 (.slice aS x.aX.length kS) (.slice aN x.names.length kN)) BR.1 (u1++u2) (fun z hz=>kl z (El z (by rcases hz with e | e <;> simp [e]))) I9 ⟨_,_,u1,u2,rfl,rfl,by show Sl .int H7 _ BR.1.aX u1;rw [cJ.1];exact Px.ae fun d hd=>kl d (El d (by simp [hd])),by show Sl .str H7 _ BR.1.names u2;rw [cJ.2];exact Jd.ae fun d hd=>kl d (El d (by simp [hd]))⟩ (fun e=>by have:=Oq b5 (El b5 (by simp only [List.mem_append] at e ⊢;rcases e with e | e <;> simp [e]));omega)
    rw [eV,<-dy] at bG
    have Ev:(cT dC (i * 7) (cC BR.1 (.slice aS x.aX.length kS) (.slice aN x.names.length kN)))[i * 7]?=some (iV BR.1.tag):=by
     unfold cT
     rw [List.getElem?_append_right (by rw [List.length_take];omega),List.length_take,Nat.min_eq_left (by omega),Nat.sub_self];rfl
    have hlen:(cT dC (i * 7) (cC BR.1 (.slice aS x.aX.length kS) (.slice aN x.names.length kN))).length=dC.length:=Wp (by show i * 7+7<=_;exact iJ)
    have Au:i * 7+1<=dC.length:=by omega
    simp only [go_sem,ei,hi,iA,FO,i9,iJ]
    rw [<-cS] at r7 ⊢
    clear cS
    have aix:=ER.ae (H':=H7) (fun d hd=>by have:=l8 d hd;rw [k7 d (by omega),kk d this.2 (by have:=h.rl;omega)]) (by simp)
    simp only [go_sem,ei,hi,iA,I9,Ev,hlen,Au,e8,eA q9 (by decide) (by decide)]
    refine r7.app (X:=H.fz) (rp:=.int) (cs:=[iV BR.1.tag]) (gx:=[]) q9 (by decide) aix (fun d hd=>by have:=l8 d hd;exact ⟨by omega,by omega,hf.fresh (by omega)⟩) (by simp) ⟨rfl,rfl⟩ (by simp) rfl (by omega) ?_
    intro v8 H8 mT8 kY Mr r8 Al k8
    simp only [go_sem,ei,bX]
    have kT:∀d,d < H7.next->d∉mT->H8.get d=H7.get d:=k8
    have Py:∀d,d < H4.next->d∉mT:=fun d hd e=>by have:=(l8 d e).1;omega
    refine ⟨v8,mT8,tags++[BR.1.tag],done++[BR.1],BR.2,f1++((u1++u2)++f3),rfl,r8.told,kY.ae (fun _ _=>rfl) (fun _ _=>rfl),fun d hd=>?_,by rw [List.length_append,List.length_singleton,fO],(kT H.next (by omega) (Py _ (by omega))).trans ea,?_,fun d hd=>wX d (El d hd),by rw [List.length_append,List.length_singleton,db],by show H4.next<=H8.next;omega,fun d hd=>?_,Ge⟩
    ·have:=Mr d hd
     show _/\d < H8.next
     omega
    ·exact bG.ae (fun d hd=>kT d (by have:=fZ d hd;omega) (Py d (fZ d hd).2)) fun d hd=>kT d (by have:=Oq d (El d hd);omega) (Py d (by have:=Oq d (El d hd);omega))
    ·have:=Z2 d hd
     show H8.get d=_
     rw [kT d (by omega) (Py d this.2.1),k7 d (fun e=>this.2.2 (e▸On)),kk d (by omega) (by have:=h.rl;omega),Lu d hd]
   ·rintro V H5 ⟨ei,vT,mT,tags,done,t5,DL,e8,r5,ER,l8,fO,dJ,ly,wX,db,w4,Lu,Ge⟩
    rw [List.drop_length] at ly Ge
    rw [List.append_nil] at ly
    rw [AM] at Ge
    simp only [go_sem,ei]
    refine ⟨p,ap,kp,aL,mL,DL,gp,rfl,?_⟩
    rw [Ge]
    exact ⟨rfl,r5.told,dJ,ly.ae (fun _ _=>rfl) (fun _ _=>rfl),fun c hc=>by have:=fZ c hc;show _/\c < H5.next;omega,wX,akZ.ae fun c hc=>Lu c hc,fun c hc=>by have:=Z2 c hc;exact ⟨this.1,by show c < H5.next;omega,this.2.2⟩,by omega⟩
 ·rintro V H4 ⟨p,ap,kp,aL,mL,gL,gp,At,e4,e7,r4,Ap,ni,fZ,pL,eu,xh,n4⟩
  rw [At] at he
  simp only at he
  generalize AM P {n with pat:=p} n.ak [] [] t=TG at *
  obtain ⟨qX,tB⟩:=TG
  simp only at he r4 ni
  have hlB:qX.length=n.ak.length:=by
   obtain ⟨a,e⟩:=ni.val
   simp only [Value.slice.injEq] at e
   exact e.2.1.symm
  have Gf:tB.aK=t.aK:=r4.aK
  have hnB:tB.ns=t.ns:=r4.ns
  -- all,and E6 names Y1 stay
  refine lS (lS (qj 9903510869550076459902577664 (fun V2 H5=>∃C1 aO mO,V2 10=C1/\V2 11=.slice aO (t.aK.filter fun x=>decide (¬x.slot=n.y)).length (t.aK.filter fun x=>decide (¬x.slot=n.y)).length/\jz H5 C1 t.aK mi/\RA S P gP H r t m g mi H5 tB/\Gr rH 139 H5 (.slice aO (t.aK.filter fun x=>decide (¬x.slot=n.y)).length (t.aK.filter fun x=>decide (¬x.slot=n.y)).length) (t.aK.filter fun x=>decide (¬x.slot=n.y)) mO []/\(∀c∈mO,H4.next<=c/\c < H5.next)/\H4.next<=H5.next/\(∀c,c < H4.next->H5.get c=H4.get c)) ?_ ?_ (by rfl)))
  ·obtain ⟨vN5,vI5,F2,hN5,mV⟩:=r4.rq.row
   rw [Gf] at mV
   obtain ⟨aI,cI,B6⟩:=mV.val
   subst B6
   simp only [go_sem,F2]
   refine pe 9902915851373234884605650944 t.aK.length (fun i V3 H5=>V3 79=iV (i:Nat)/\∃vO mO,V3 11=vO/\RA S P gP H r t m g mi H5 tB/\Gr rH 139 H5 vO ((t.aK.take i).filter fun x=>decide (¬x.slot=n.y)) mO []/\(∀c∈mO,H4.next<=c/\c < H5.next)/\H4.next<=H5.next/\(∀c,c < H4.next->H5.get c=H4.get c)) ⟨by simp only [go_sem] <;> rfl,.slice none 0 0,[],by simp only [go_sem] <;> rfl,r4.told,Gr.nil _ _ _,by simp,Nat.le_refl _,fun _ _=>rfl⟩ ?_ ?_ (by rfl)
   ·rintro i V3 H5 hi ⟨ei,vO,mO,qU,r5,lz,du,w4,k5⟩
    have hx:t.aK[i]?=some (t.aK[i]'hi):=List.getElem?_eq_getElem hi
    have ix:t.aK.take (i+1)=t.aK.take i++[t.aK[i]'hi]:=List.take_succ_eq_append_getElem hi
    generalize (t.aK[i]'hi)=x at hx ix
    have bX:IntKind.wrap .i64 (((i:Nat):Int)+1)=((i+1:Nat):Int):=cW hi (by omega)
    obtain ⟨b5,o5,c5,B5,dJ,jy,LY,akE,akF,KG,s0⟩:=(mV.sl.ae (H':=H5) fun c hc=>k5 c (r4.rq.hi c hc).1).at hx
    have KG:o5+i * 2+2<=B5.cells.length:=KG
    have ji:(B5.cells.drop (o5+i * 2)).take 2=[ag x.name,iV x.slot]:=s0.1
    simp only [Value.slice.injEq] at jy
    have haI:=jy.1
    have n5:=r5.fr.nx
    have Af:H.fz H5.next=false:=hf.fresh n5
    have Z3:=(k5 H.next n4).trans Ap
    have I7:¬H.next=H5.next:=by omega
    obtain ⟨aO,FG⟩:=lz.val
    subst FG
    by_cases hs:x.slot=n.y
    ·have cY:(t.aK.take (i+1)).filter (fun x=>decide (¬x.slot=n.y))=(t.aK.take i).filter (fun x=>decide (¬x.slot=n.y)):=by rw [ix,List.filter_append];simp [hs]
     have r6:=(r5.told.push ⟨[ag x.name,iV x.slot],139,false,false⟩).told
     simp only [go_sem,e4,ei,hi,haI,LY,KG,ji,Af,I7,Z3,hs,bX]
     rw [hs] at r6
     refine ⟨_,mO,qU,r6,?_,fun c hc=>by have:=du c hc;omega,by omega,fun c hc=>by rw [if_neg (by omega)];exact k5 c hc⟩
     rw [cY]
     exact lz.ae (fun c hc=>by have:=du c hc;rw [be,aU,DT,if_neg (by omega),be]) (by simp)
    ·have cY:(t.aK.take (i+1)).filter (fun x=>decide (¬x.slot=n.y))=(t.aK.take i).filter (fun x=>decide (¬x.slot=n.y))++[x]:=by rw [ix,List.filter_append];simp [hs]
     have r6:=(r5.told.push ⟨[ag x.name,iV x.slot],139,false,false⟩).told
     obtain ⟨H6,ez⟩:=r6.hp
     have k6:∀d,d < H5.next->H6.get d=H5.get d:=fun d hd=>by rw [ez,be,aU,DT,if_neg (by omega),be]
     have FV:H6.next=H5.next+1:=by rw [ez];rfl
     simp only [go_sem,e4,ei,hi,haI,LY,KG,ji,Af,I7,Z3,hs,qU,eA zs (by decide) (by decide)]
     rw [<-ez] at r6 ⊢
     have nn6:H5.next+1=H6.next:=by omega
     rw [nn6]
     clear ez
     have hlf:((t.aK.take i).filter fun x=>decide (¬x.slot=n.y)).length<=i:=by
      have:=List.length_filter_le (fun x:l9=>decide (¬x.slot=n.y)) (t.aK.take i)
      rw [List.length_take] at this
      omega
     refine r6.app (X:=H.fz) (rp:=rH) (x:=x) (cs:=[ag x.name,iV x.slot]) (gx:=[]) zs (by decide) (lz.ae (fun c hc=>k6 c (du c hc).2) (by simp)) (fun d hd=>by have:=du d hd;exact ⟨by omega,by omega,hf.fresh (by omega)⟩) (by simp) ⟨rfl,rfl⟩ (by simp) rfl (by omega) ?_
     intro v8 H8 pT kY Mr r8 n68 k8
     simp only [go_sem,ei,bX]
     refine ⟨v8,pT,rfl,r8.told,?_,fun c hc=>by have:=Mr c hc;show _/\c < H8.next;omega,by show H4.next<=H8.next;omega,fun c hc=>by rw [k8 c (by omega) (fun e=>by have:=(du c e).1;omega),k6 c (by omega),k5 c hc]⟩
     rw [cY]
     exact kY.ae (fun _ _=>rfl) (fun _ _=>rfl)
   ·rintro V3 H5 ⟨ei,vO,mO,qU,r5,lz,du,w4,k5⟩
    rw [List.take_length] at lz
    obtain ⟨aO,FG⟩:=lz.val
    subst FG
    simp only [go_sem,ei,qU]
    exact ⟨_,aO,mO,rfl,rfl,mV.ae (fun c hc=>k5 c (r4.rq.hi c hc).1),r5.told,lz.ae (fun _ _=>rfl) (fun _ _=>rfl),du,w4,k5⟩
  ·rintro V2 H5 ⟨C1,aO,mO,e10,qU,ak0,r5,lz,du,w4,k5⟩
   have avp:(t.aK.filter fun x=>decide (¬x.slot=n.y)).length<=t.aK.length:=List.length_filter_le _ _
   generalize (t.aK.filter fun x=>decide (¬x.slot=n.y))=op at *
   have dJ:=(k5 H.next n4).trans Ap
   have aiy:=ni.ae (H':=H5) (fun c hc=>k5 c (fZ c hc).2) (fun c hc=>k5 c (by have:=(rI c (by simp [pL c hc])).1;omega))
   have ak1:=eu.ae (H':=H5) fun c hc=>k5 c (xh c hc).2.1
   cases Bw:AE {n with pat:=p} op qX [] [] tB with
   | none=>rw [Bw] at he;cases he
   | some SS=>
   rw [Bw] at he
   obtain ⟨nK,tj,tC⟩:=SS
   simp only [Option.bind_some] at he
   obtain ⟨bs,hbs⟩:∃bs,bs=H5.next:=⟨_,rfl⟩
   refine lS (qj 11972621413014756705924576246091476213979200199245824 (fun V3 H7=>∃g7 vZ pY fS vs,V3 14=.slice (some ⟨bs,0,none⟩) n.ak.length n.ak.length/\RR S P gP H r t m g mi H7 tC g7 vZ/\H7.get H.next=some ⟨aJ {n with pat:=p} (.slice aA n.args.length kA) (.slice ap p.length kp) (.slice aB n.ak.length kB),42,false,false⟩/\
     Gr dB 52 H7 (.slice aL n.ak.length n.ak.length) nK mL pY/\Ln r m H7 vZ (bs::mL++pY)/\(∀c∈pY,c∈g∨H.next<=c)/\Sl fy H7 (.slice ap p.length kp) p gp/\Ln r m H7 vZ (H.next::gp)/\jz H7 C1 t.aK mi/\
     H7.get bs=some ⟨vs,134,false,false⟩/\dP (Rp.slice rH) H7 vs tj fS/\vs.length=n.ak.length/\(∀c∈fS,H.next < c/\c < H7.next/\c≠bs/\c∉mL)/\tj.length=n.ak.length/\H.next∉g7/\H.next < bs/\nK.length=n.ak.length/\∀c∈pY,c≠H.next) ?_ ?_ (by rfl))
   ·have hzS:fQ Tryz.prog 134=some [.slice none 0 0]:=by kernel_rfl
    have auB:n.ak.length < 100000:=akY
    simp only [go_sem,e7,hlB]
    rw [QH (n:=n.ak.length) (c:=n.ak.length) adU hzS (by decide) (Nat.le_refl _) (by omega) (by omega)]
    have r6:=(r5.rr.push ⟨eO [.slice none 0 0] n.ak.length,134,false,false⟩).told
    obtain ⟨H6,ez⟩:=r6.hp
    have IB:H6.get bs=some ⟨eO [.slice none 0 0] n.ak.length,134,false,false⟩:=by rw [ez,be,aU,if_pos hbs]
    have k6:∀c,c < H5.next->H6.get c=H5.get c:=fun c hc=>by rw [ez,be,bS hc]
    have FV:H6.next=H5.next+1:=by rw [ez];rfl
    simp only [go_sem,e7]
    rw [<-ez,<-hbs]
    rw [<-ez] at r6
    clear ez
    have ak2:∀q,(eO [.slice none 0 0] q:List Value).length=q:=fun q=>by
     induction q with
     | zero=>rfl
     | succ q ih=>show ([.slice none 0 0]++eO [.slice none 0 0] q:List Value).length=_;rw [List.length_append,ih];simp;omega
    have tn:∀c∈mi,c < H.next/\c≠r/\c∉m:=fun c hc=>⟨(h.hi c hc).1,(h.hi c hc).2.1,fun e=>(h.hm c e).2.2.2.2 hc⟩
    have nm:∀c,H.next<=c->c∉m/\c≠r/\c∉gP/\c∉mi/\c∉g:=fun c hc=>⟨fun e=>by have:=(h.hm c e).1;omega,by have:=h.rl;omega,fun e=>by have:=(h.hP c e).1;omega,fun e=>by have:=(h.hi c e).1;omega,fun e=>by have:=(h.hg c e).1;omega⟩
    have Pz:∀c∈gL,c∈g:=fun c hc=>tc c (by simp [pL c hc])
    have oi:∀c∈g,c < H.next/\c≠r/\c∉m/\c∉mi:=fun c hc=>⟨(h.hg c hc).1,(h.hg c hc).2,fun e=>(h.hm c e).2.2.2.1 hc,fun e=>(h.hi c e).2.2.2 hc⟩
    refine pe 11972621413014756705924269236961733439671025216421888 n.ak.length (fun i V3 H7=>V3 98=iV (i:Nat)/\∃done sc tS g7 vZ pY fS vs rest,RR S P gP H r t m g mi H7 tS g7 vZ/\H7.get H.next=some ⟨aJ {n with pat:=p} (.slice aA n.args.length kA) (.slice ap p.length kp) (.slice aB n.ak.length kB),42,false,false⟩/\
      Gr dB 52 H7 (.slice aL n.ak.length n.ak.length) (done++qX.drop i) mL pY/\Ln r m H7 vZ (H.next::bs::(mL++pY++gp++mO))/\(∀c∈pY,c∈g∨H.next < c)/\(∀c∈pY,c≠bs/\c∉mL/\c≠H.next)/\(∀c∈H.next::bs::mL,c∉g7)/\Sl fy H7 (.slice ap p.length kp) p gp/\Sl rH H7 (.slice aO op.length op.length) op mO/\jz H7 C1 t.aK mi/\
      H7.get bs=some ⟨vs++rest,134,false,false⟩/\vs.length=i/\rest.length+i=n.ak.length/\dP (Rp.slice rH) H7 vs sc fS/\(∀c∈fS,H.next < c/\c < H7.next/\c≠bs/\c∉mL)/\sc.length=i/\done.length=i/\H6.next<=H7.next/\AE {n with pat:=p} op qX [] [] tB=AE {n with pat:=p} op (qX.drop i) done sc tS)
     ⟨by simp only [go_sem] <;> rfl,[],[],tB,g,mi,gL,[],[],eO [.slice none 0 0] n.ak.length,r6,(k6 H.next (by omega)).trans dJ,aiy.ae (fun c hc=>k6 c (by have:=fZ c hc;omega)) (fun c hc=>k6 c (by have:=(oi c (Pz c hc)).1;omega)),?_,fun c hc=>.inl (Pz c hc),?_,?_,ak1.ae fun c hc=>k6 c (by have:=xh c hc;omega),by have:=lz.sl.ae (H':=H6) (fun c hc=>k6 c (by rw [List.append_nil] at hc;exact (du c hc).2));rw [List.append_nil] at this;exact this,ak0.ae fun c hc=>k6 c (by have:=(tn c hc).1;omega),IB,rfl,by rw [ak2];omega,rfl,by simp,rfl,rfl,Nat.le_refl _,rfl⟩ ?_ ?_ (by rfl)
    ·intro c hc
     simp only [List.mem_append,List.mem_cons] at hc
     have aE:c∈g->c < H6.next/\c≠r/\c∉m/\c∉mi:=fun e=>⟨by have:=(oi c e).1;omega,(oi c e).2⟩
     have new:H.next<=c->c < H6.next->c < H6.next/\c≠r/\c∉m/\c∉mi:=fun h1 h2=>⟨h2,(nm c h1).2.1,(nm c h1).1,(nm c h1).2.2.2.1⟩
     rcases hc with e | e | (((e | e) | e) | e)
     ·exact new (by omega) (by omega)
     ·exact new (by omega) (by omega)
     ·exact new (by have:=fZ c e;omega) (by have:=fZ c e;omega)
     ·exact aE (Pz c e)
     ·exact new (by have:=xh c e;omega) (by have:=xh c e;omega)
     ·exact new (by have:=du c e;omega) (by have:=du c e;omega)
    ·intro c hc
     have:=(oi c (Pz c hc)).1
     exact ⟨by omega,fun e=>by have:=fZ c e;omega,by omega⟩
    ·intro c hc
     simp only [List.mem_cons] at hc
     rcases hc with e | e | e
     ·exact (nm c (by omega)).2.2.2.2
     ·exact (nm c (by omega)).2.2.2.2
     ·exact (nm c (by have:=fZ c e;omega)).2.2.2.2
    ·rintro i V3 H7 hi ⟨ei,done,sc,tS,g7,vZ,pY,fS,vs,rest,r7,ea,bG,ym,Bc,yn,DM,Bd,KP,Em,DN,sE,pG,En,qu,Be,db,O3,mW⟩
     have Gf:i < qX.length:=by omega
     have hx:qX[i]?=some (qX[i]'Gf):=List.getElem?_eq_getElem Gf
     have cB:qX.drop i=(qX[i]'Gf)::qX.drop (i+1):=(List.getElem_cons_drop Gf).symm
     generalize (qX[i]'Gf)=x at hx cB
     rw [cB] at bG mW
     rw [AE] at mW
     have bX:IntKind.wrap .i64 (((i:Nat):Int)+1)=((i+1:Nat):Int):=cW hi (by omega)
     obtain ⟨bL,c1,cx,c2,f1,f2,f3,pO,dy,Ms,eC,Is,ic,rfl,a1,hE,a2,gI⟩:=bG.mid
     obtain ⟨vS,vN,u1,u2,rfl,rfl,Px,Jd⟩:=hE
     obtain ⟨aS,kS,rfl⟩:=Px.val
     obtain ⟨aN,kN,rfl⟩:=Jd.val
     simp only [Value.slice.injEq] at pO
     have iA:=pO.1
     have eC:c1.length=i * 7:=by rw [eC,db];rfl
     have hgc:∀j v,j < 7->(cC x (.slice aS x.aX.length kS) (.slice aN x.names.length kN))[j]?=some v->(c1++(cC x (.slice aS x.aX.length kS) (.slice aN x.names.length kN)++c2))[i * 7+j]?=some v:=fun j v hj hv=>by rw [M9 eC hj];exact hv
     obtain ⟨zd,iw⟩:∃zd,zd=c1++(cC x (.slice aS x.aX.length kS) (.slice aN x.names.length kN)++c2):=⟨_,rfl⟩
     rw [<-iw] at Ms hgc
     have g0:zd[i * 7]?=some (iV x.tag):=hgc 0 _ (by decide) rfl
     obtain ⟨Mi,Mj,kC,_,I6,_,_⟩:=r7.re
     have ak3:0 < rest.length:=by omega
     have VE:H.fz bs=false:=hf.fresh (by omega)
     have po:i < (vs++rest).length:=by rw [List.length_append];omega
     have SM:i+1<=(vs++rest).length:=po
     obtain ⟨w0,sj,rfl⟩:∃w0 sj,rest=w0::sj:=by
      cases rest with
      | nil=>simp at ak3
      | cons a l=>exact ⟨a,l,rfl⟩
     have RI:∀v,(vs++w0::sj).set i v=(vs++[v])++sj:=fun v=>by subst sE;simp
     have HY:sj.length+(i+1)=n.ak.length:=by simp only [List.length_cons] at pG;omega
     have wE:=fun c (hc:c∈H.next::bs::(mL++(f1++(u1++u2++f3))++gp++mO))=>ym c hc
     have C2:=wE bs (by simp)
     have qv:bL∈mL:=by rw [dy];simp
     have VF:H.fz bL=false:=hf.fresh (by have:=fZ bL qv;omega)
     have stop:∀{b':Bool},x.tag= -1∨¬tS.bad=0->True:=fun _=>trivial
     by_cases vz:x.tag= -1
     ·rw [if_pos (.inl vz)] at mW
      simp only [go_sem,ei,hi,e7,iA,Ms,g0,vz,qU,DN,VE,po,SM,eG po]
      have r8:=(r7.told.own (M:=[bs]) ((Fr.refl _ _).ah (b:=bs) (.inl (by simp)) ⟨(vs++[.slice aO op.length op.length])++sj,134,false,false⟩) (fun c hc=>by rw [List.mem_singleton] at hc;subst hc;exact ⟨by omega,C2.2.1,C2.2.2.1,C2.2.2.2,DM _ (by simp),(nm _ (by omega)).2.2.1⟩) fun _ _=>rfl).told
      rw [RI]
      obtain ⟨H8,fB⟩:=r8.hp
      have k8:∀c,c≠bs->H8.get c=H7.get c:=fun c hc=>by rw [fB,be,az,if_neg hc,be]
      have gs8:H8.get bs=some ⟨(vs++[.slice aO op.length op.length])++sj,134,false,false⟩:=by rw [fB,be,az,if_pos rfl]
      have Dy:H8.next=H7.next:=by rw [fB];rfl
      simp only [bX,ei,go_sem]
      rw [<-fB] at r8 ⊢
      clear fB
      have ze:∀c∈H.next::(mL++(f1++(u1++u2++f3))++gp++mO),c≠bs:=fun c hc e=>by
       simp only [List.mem_cons,List.mem_append] at hc
       rcases hc with e' | (((e' | e') | e') | e')
       ·omega
       ·have:=fZ c e';omega
       ·exact (yn c (by simp only [List.mem_append];exact e')).1 e
       ·have:=xh c e';omega
       ·have:=du c e';omega
      have kq:∀c,c≠bs->H8.get c=H7.get c:=k8
      have KQ:Sl rH H8 (.slice aO op.length op.length) op mO:=KP.ae fun c hc=>kq c (ze c (by simp [hc]))
      refine ⟨done++[x],sc++[op],tS,g7,vZ,_,fS++mO,vs++[.slice aO op.length op.length],sj,r8,by rw [if_neg (ze _ (by simp))];exact ea,?_,fun c hc=>by have:=ym c hc;exact ⟨by omega,this.2⟩,Bc,yn,DM,Bd.ae fun c hc=>kq c (ze c (by simp [hc])),KQ,Em.ae fun c hc=>kq c (by have:=(tn c hc).1;omega),rfl,by rw [List.length_append,List.length_singleton,sE],HY,(En.ae fun c hc=>kq c (qu c hc).2.2.1).join (by rw [sE,Be];show i=i * 1;omega) (dP.one ⟨_,rfl,KQ⟩),fun c hc=>?_,by rw [List.length_append,List.length_singleton,Be],by rw [List.length_append,List.length_singleton,db],by omega,mW⟩
      ·have:=bG.ae (H':=H8) (fun c hc=>kq c (ze c (by simp [hc]))) (fun c hc=>kq c (ze c (by simp only [List.mem_cons,List.mem_append] at hc ⊢;rcases hc with e | e | e <;> simp [e])))
       rw [iA] at this
       rw [List.append_assoc]
       exact this
      ·rcases List.mem_append.1 hc with e | e
       ·have:=qu c e
        exact ⟨this.1,by omega,this.2.2⟩
       ·have:=du c e
        have h2:=(wE c (by simp [e])).1
        exact ⟨by omega,by omega,by omega,fun e=>by have:=fZ c e;omega⟩
     ·by_cases CX:tS.bad=0
      ·rw [if_neg (by simp [vz,CX])] at mW
       by_cases Z4:x.names.length < 100000
       case' neg=>rw [if_neg Z4,Bw] at mW;cases mW
       rw [if_pos Z4] at mW
       have avq:=Bw
       rw [Bw] at mW
       cases pB:D2 {n with pat:=p} x.names [] {tS with aK:=op} with
       | none=>rw [pB] at mW;cases mW
       | some BN=>
       rw [pB] at mW
       obtain ⟨slF,tF⟩:=BN
       simp only [Option.bind_some] at mW
       simp only [go_sem,ei,hi,e7,iA,Ms,g0,vz,kC,CX,qU]
       refine xy (r:=rH) zs (KP.ae (H':=H7.ai H.fz) fun _ _=>rfl) (by
        have:op.length * 1000<=1000000 * 1000:=Nat.mul_le_mul (by omega) (Nat.le_refl _)
        omega) (fun c hc=>(wE c (by simp [hc])).1) ?_
       intro vB H8 mB gB8 EU _ jo
       have Br:=EU.flat
       subst Br
       obtain ⟨aB8,Mt⟩:=EU.val
       subst Mt
       obtain ⟨o8,DO⟩:bc (H7.ai H.fz) H8/\∀c∈mB,c=H7.next/\c < H8.next:=by
        rcases jo with ⟨rfl,rfl⟩ | ⟨rfl,cs,rfl⟩
        ·exact ⟨bc.refl _,by simp⟩
        ·exact ⟨bc.push _ _,fun c hc=>by rw [List.mem_singleton] at hc;subst hc;exact ⟨rfl,Nat.lt_succ_self _⟩⟩
       have Al:H7.next<=H8.next:=o8.nx
       obtain ⟨BU,r9⟩:=r7.told.aK (t2:={tS with aK:=op}) (dF:=mB) kC (o8.fr _) rfl EU.inr fun c hc=>⟨.inr (DO c hc).1,(DO c hc).2⟩
       obtain ⟨H9,jS⟩:=r9.hp
       have k9:∀c,c < H7.next->c≠r->H9.get c=H7.get c:=fun c h1 h2=>by rw [jS,be,az,if_neg h2];exact o8.get c h1
       have Ml:H9.next=H8.next:=by rw [jS];rfl
       simp only [go_sem,BU,DI]
       rw [<-jS] at r9 ⊢
       clear jS
       have C3:=wE bL (by simp [qv])
       have ak4:=(k9 bL C3.1 C3.2.1).trans Ms
       have PA:∀c,c < H7.next->c∉mB:=fun c hc e=>by have:=(DO c e).1;omega
       have mK:zd.length=i * 7+(7+c2.length):=by rw [iw,List.length_append,List.length_append,eC];rfl
       have Bu:i * 7+5 < zd.length:=by omega
       have ak5:i * 7+5+1<=zd.length:=by omega
       have YP:zd.set (i * 7+5) (.slice none 0 0)=c1++(cC {x with aX:=[]} (.slice none 0 0) (.slice aN x.names.length kN)++c2):=by rw [iw,QN eC (show 5 < 7 by decide)];rfl
       obtain ⟨EV,NO⟩:∃EV,EV=zd.set (i * 7+5) (.slice none 0 0):=⟨_,rfl⟩
       have cP:=(r9.own (M:=[bL]) ((Fr.refl _ _).ah (b:=bL) (.inl (by simp)) ⟨EV,52,true,false⟩) (fun c hc=>by rw [List.mem_singleton] at hc;subst hc;exact ⟨by have:=fZ _ qv;omega,C3.2.1,C3.2.2.1,PA _ C3.1,DM _ (by simp [qv]),(nm _ (by have:=fZ _ qv;omega)).2.2.1⟩) fun _ _=>rfl).told
       obtain ⟨dd,oG⟩:=cP.hp
       have pW:∀c,c≠bL->dd.get c=H9.get c:=fun c hc=>by rw [oG,be,az,if_neg hc]
       have Z5:dd.get bL=some ⟨EV,52,true,false⟩:=by rw [oG,be,az,if_pos rfl]
       have ZW:dd.next=H8.next:=by rw [oG,DT,om];exact Ml
       simp only [go_sem,ei,hi,e7,iA,ak4,VF,Bu,ak5,eG Bu]
       rw [<-NO,<-oG]
       rw [<-oG] at cP
       clear oG
       have kH:∀c,c < H7.next->c≠r->c≠bL->dd.get c=H7.get c:=fun c h1 h2 h3=>(pW c h3).trans (k9 c h1 h2)
       have g6n:EV[i * 7+6]?=some (.slice aN x.names.length kN):=by rw [NO,YP,M9 eC (show 6 < 7 by decide)];rfl
       have ar3:EV.length=zd.length:=by rw [NO,List.length_set]
       simp only [go_sem,ei,hi,e7,iA,Z5,g6n]
       obtain ⟨Q,hQ⟩:∃Q,Q=H.next::bs::((f1++(u1++u2++f3))++gp++mO++mi):=⟨_,rfl⟩
       have uv:∀c∈Q,c < H7.next/\c≠r/\c∉m/\c≠bL:=fun c hc=>by
        rw [hQ] at hc
        simp only [List.mem_cons,List.mem_append] at hc
        have l7:c∈H.next::bs::(mL++(f1++(u1++u2++f3))++gp++mO)->c < H7.next/\c≠r/\c∉m:=fun e=>⟨(wE c e).1,(wE c e).2.1,(wE c e).2.2.1⟩
        have avr:=fZ bL qv
        rcases hc with e | e | (((e | e) | e) | e)
        ·exact ⟨(l7 (by simp [e])).1,(l7 (by simp [e])).2.1,(l7 (by simp [e])).2.2,by omega⟩
        ·exact ⟨(l7 (by simp [e])).1,(l7 (by simp [e])).2.1,(l7 (by simp [e])).2.2,by omega⟩
        ·have e':c∈f1++(u1++u2++f3):=by simp only [List.mem_append];exact e
         have:=l7 (by simp only [List.mem_cons,List.mem_append] at e' ⊢;exact .inr (.inr (.inl (.inl (.inr e')))))
         exact ⟨this.1,this.2.1,this.2.2,fun e2=>(yn c e').2.1 (e2▸qv)⟩
        ·have:=l7 (by simp [e])
         exact ⟨this.1,this.2.1,this.2.2,fun e2=>(xh c e).2.2 (e2▸qv)⟩
        ·have:=l7 (by simp [e])
         exact ⟨this.1,this.2.1,this.2.2,fun e2=>by have:=du c e;omega⟩
        ·have:=tn c e
         exact ⟨by omega,this.2.1,this.2.2,by omega⟩
       have Bf:bL≠r/\bL∉m/\bL∉gP:=⟨C3.2.1,C3.2.2.1,(nm bL (by have:=fZ bL qv;omega)).2.2.1⟩
       have aiz:Ln r m dd mB (bL::Q):=fun c hc=>by
        rcases List.mem_cons.1 hc with e | e
        ·subst e;exact ⟨by omega,Bf.1,Bf.2.1,PA c C3.1⟩
        ·have:=uv c e;exact ⟨by omega,this.2.1,this.2.2.1,PA c this.1⟩
       have gxQ:dd.get H.next=some ⟨aJ {n with pat:=p} (.slice aA n.args.length kA) (.slice ap p.length kp) (.slice aB n.ak.length kB),42,false,false⟩:=(kH H.next (uv _ (by simp [hQ])).1 (uv _ (by simp [hQ])).2.1 (uv _ (by simp [hQ])).2.2.2).trans ea
       have ak6:Sl .str dd (.slice aN x.names.length kN) x.names u2:=(Jd.ae (H':=dd) fun c hc=>kH c (uv c (by simp [hQ,hc])).1 (uv c (by simp [hQ,hc])).2.1 (uv c (by simp [hQ,hc])).2.2.2)
       refine pe 11417970652611937578435456927608523274479337472 x.names.length (fun j V4 dS=>V4 133=iV (j:Nat)/\∃Cg sl mS t9 g9 v9 tZ,RR S P gP H r t m g mi dS t9 g9 v9/\dS.get bL=some ⟨tZ,52,true,false⟩/\tZ=c1++(cC {x with aX:=sl} Cg (.slice aN x.names.length kN)++c2)/\Gr .int 3 dS Cg sl mS []/\(∀c∈mS,dd.next<=c/\c < dS.next/\c∉v9/\c∉g9)/\Ln r m dS v9 (bL::Q)/\(∀c∈Q,dS.get c=dd.get c)/\(∀c∈H.next::bs::mL,c∉g9)/\dd.next<=dS.next/\D2 {n with pat:=p} x.names [] {tS with aK:=op}=D2 {n with pat:=p} (x.names.drop j) sl t9/\sl.length=j/\(∀c∈fS,c∉v9/\dS.get c=dd.get c)/\∀c∈v9,H7.next<=c)
        ⟨by simp only [go_sem] <;> rfl,.slice none 0 0,[],[],_,g7,mB,EV,cP.told,Z5,by rw [NO,YP],Gr.nil _ _ _,by simp,aiz,fun _ _=>rfl,DM,Nat.le_refl _,rfl,rfl,fun c hc=>⟨PA c (qu c hc).2.1,rfl⟩,fun c hc=>by have:=(DO c hc).1;omega⟩ ?_ ?_ (by rfl)
       ·rintro j V4 dS hj ⟨ej,Cg,sl,mS,t9,g9,v9,tZ,df,Ia,Eo,PB,Ch,RJ,EW,SN,YQ,ll,eF,Ka,SO⟩
        have hy:x.names[j]?=some (x.names[j]'hj):=List.getElem?_eq_getElem hj
        have tT:x.names.drop j=(x.names[j]'hj)::x.names.drop (j+1):=(List.getElem_cons_drop hj).symm
        generalize (x.names[j]'hj)=s at hy tT
        rw [tT,D2] at ll
        by_cases fX:Jc t9
        ·rw [if_pos fX] at ll
         have vK:IntKind.wrap .i64 (((j:Nat):Int)+1)=((j+1:Nat):Int):=cW hj (by omega)
         obtain ⟨bn,on,cn,Bn,yy,Lb,pB,iv⟩:=(ak6.ae (H':=dS) fun c hc=>EW c (by simp [hQ,hc])).JQ hy
         simp only [Value.slice.injEq] at yy
         have vX:=yy.1
         have CY:=(EW H.next (by simp [hQ])).trans gxQ
         have g5:tZ[i * 7+5]?=some Cg:=by rw [Eo,M9 eC (show 5 < 7 by decide)];rfl
         simp only [go_sem,ei,ej,hi,hj,e4,e7,iA,vX,Lb,iv,Ia,g5,CY]
         refine af.by (Cr (s:=s) (n:={n with pat:=p}) df.told.rq fX.1 fX.2.1 fX.2.2) ?_
         rintro _ di - ⟨rfl,dw⟩
         obtain ⟨ju,yp,dh,CG,wz⟩:=df.told.call dw
         have Yz:dS.next<=di.next:=dw.1.nx
         obtain ⟨CH,zP⟩:=(show Ln r m (dS.ai H.fz) v9 (bL::Q) from RJ).call dw.1 CG
         have zP:∀c∈bL::Q,di.get c=dS.get c:=zP
         have RK:∀c∈mS,di.get c=dS.get c:=fun c hc=>by
          have:=Ch c hc
          exact dw.1.get c this.2.1 (by simp only [List.mem_cons,List.mem_append,not_or];exact ⟨(nm c (by omega)).2.1,(nm c (by omega)).1,this.2.2.1⟩)
         have RM:∀c∈fS,di.get c=dS.get c:=fun c hc=>by
          have:=qu c hc
          exact dw.1.get c (by show c < dS.next;omega) (by simp only [List.mem_cons,List.mem_append,not_or];exact ⟨(nm c (by omega)).2.1,(nm c (by omega)).1,(Ka c hc).1⟩)
         have Ot:=(zP bL (by simp)).trans Ia
         obtain ⟨aS9,ak7⟩:=PB.val
         subst ak7
         have gu:=dh
         simp only [go_sem,iA,Ia,Ot,g5,eA q9 (by decide) (by decide)]
         refine gu.app (rp:=.int) (cs:=[iV t9.aX]) (gx:=[]) q9 (by decide) (PB.ae RK (by simp)) h.toRQ0 (fun c hc=>?_) (by simp) ⟨rfl,rfl⟩ (by simp) rfl (by omega) ?_
         ·have:=Ch c hc
          exact ⟨by omega,by omega,fun e=>(CG c e).elim this.2.2.1 fun e=>by have:dS.next<=c:=e;omega,fun e=>(wz c e).elim this.2.2.2 fun e=>by have:dS.next<=c:=e;omega⟩
         intro v13 jl ak8 YR YS gu aiA BZ
         obtain ⟨a13,ak9⟩:=YR.val
         subst ak9
         have kS:∀c,c < di.next->c∉mS->jl.get c=di.get c:=BZ
         have nS:∀c,c < dd.next->c∉mS:=fun c hc e=>by have:=(Ch c e).1;omega
         have aiB:bL < dd.next:=by omega
         have ala:=(kS bL (by omega) (nS _ aiB)).trans Ot
         have agj:tZ.length=zd.length:=by rw [Eo,mK,List.length_append,List.length_append,eC];rfl
         have Z6:i * 7+5 < tZ.length:=by omega
         have aiC:i * 7+5+1<=tZ.length:=by omega
         obtain ⟨uT,Kb⟩:∃uT,uT=tZ.set (i * 7+5) (.slice a13 (sl++[t9.aX]).length (sl++[t9.aX]).length):=⟨_,rfl⟩
         have Q3:uT=c1++(cC {x with aX:=sl++[t9.aX]} (.slice a13 (sl++[t9.aX]).length (sl++[t9.aX]).length) (.slice aN x.names.length kN)++c2):=by rw [Kb,Eo,QN eC (show 5 < 7 by decide)];rfl
         have Ib:∀c∈H.next::bs::mL,c∉ju:=fun c hc e=>by
          have aZ:c < dS.next:=by
           simp only [List.mem_cons] at hc
           rcases hc with e | e | e
           ·omega
           ·omega
           ·have:=(wE c (by simp [e])).1;omega
          have FJ:H.next<=c:=by
           simp only [List.mem_cons] at hc
           rcases hc with e | e | e
           ·omega
           ·omega
           ·have:=fZ c e;omega
          exact (wz c e).elim (SN c hc) fun e=>by have:dS.next<=c:=e;omega
         have j0:=(gu.own (M:=[bL]) ((Fr.refl _ _).ah (b:=bL) (.inl (by simp)) ⟨uT,52,true,false⟩) (fun c hc=>by rw [List.mem_singleton] at hc;subst hc;exact ⟨by have:=fZ _ qv;omega,Bf.1,Bf.2.1,(CH _ (by simp)).2.2.2,Ib _ (by simp [qv]),Bf.2.2⟩) fun _ _=>rfl).told
         obtain ⟨jv,nT⟩:=j0.hp
         have uq:∀c,c≠bL->jv.get c=jl.get c:=fun c hc=>by rw [nT,be,az,if_neg hc]
         have SP:jv.get bL=some ⟨uT,52,true,false⟩:=by rw [nT,be,az,if_pos rfl]
         have ZL:jv.next=jl.next:=by rw [nT];rfl
         simp only [go_sem,ei,hi,e7,iA,ala,VF,Z6,aiC,eG Z6]
         rw [<-Kb,<-nT]
         rw [<-nT] at j0
         clear nT
         simp only [go_sem,ej,vK]
         have kF:∀c,c < dS.next->c∉mS->c≠bL->jv.get c=di.get c:=fun c h1 h2 h3=>(uq c h3).trans (kS c (by omega) h2)
         refine ⟨_,sl++[t9.aX],ak8,_,ju,yp,uT,j0.told,SP,Q3,YR.ae (H':=jv.ai H.fz) (fun c hc=>uq c (by have:=(YS c hc).1;omega)) (by simp),fun c hc=>?_,fun c hc=>?_,fun c hc=>?_,Ib,by show dd.next<=jv.next;omega,ll,by rw [List.length_append,List.length_singleton,eF],fun c hc=>?_,fun c hc=>(CG c hc).elim (SO c) fun e=>by have:dS.next<=c:=e;omega⟩
         ·have:=YS c hc
          exact ⟨by omega,by show c < jv.next;omega,fun e=>by have:=(dh.rq.hi c e).1;omega,fun e=>by have:=(dh.rq.hg c e).1;omega⟩
         ·have:=CH c hc
          exact ⟨by show c < jv.next;omega,this.2⟩
         ·have:=uv c hc
          rw [<-EW c hc,<-zP c (by simp [hc])]
          exact kF c (by omega) (nS c (by omega)) this.2.2.2
         ·have h7:=qu c hc
          have OR:=Ka c hc
          refine ⟨fun e=>(CG c e).elim OR.1 fun e=>by have:dS.next<=c:=e;omega,?_⟩
          rw [<-OR.2,<-RM c hc]
          exact kF c (by omega) (nS c (by omega)) (fun e=>h7.2.2.2 (e▸qv))
        ·rw [if_neg fX,pB] at ll
         cases ll
       ·rintro V4 dS ⟨ej,Cg,sl,mS,t9,g9,v9,tZ,df,Ia,Eo,PB,Ch,RJ,EW,SN,YQ,ll,eF,Ka,SO⟩
        rw [List.drop_length,D2] at ll
        by_cases fX:Jc t9
        ·rw [if_pos fX,pB] at ll
         simp only [Option.some.injEq,Prod.mk.injEq] at ll
         obtain ⟨dm,jJ⟩:=ll
         have dm:=dm.symm
         have jJ:=jJ.symm
         subst dm jJ
         have CY:=(EW H.next (by simp [hQ])).trans gxQ
         have g4:tZ[i * 7+4]?=some (ag x.kJ):=by rw [Eo,M9 eC (show 4 < 7 by decide)];rfl
         simp only [go_sem,ei,ej,hi,e4,e7,iA,Ia,g4,CY]
         refine af.by (Cr (s:=x.kJ) (n:={n with pat:=p}) df.told.rq fX.1 fX.2.1 fX.2.2) ?_
         rintro _ di - ⟨rfl,dw⟩
         obtain ⟨ju,yp,dh,CG,wz⟩:=df.told.call dw
         have Yz:dS.next<=di.next:=dw.1.nx
         obtain ⟨CH,zP⟩:=(show Ln r m (dS.ai H.fz) v9 (bL::Q) from RJ).call dw.1 CG
         have zP:∀c∈bL::Q,di.get c=dS.get c:=zP
         have RK:∀c∈mS,di.get c=dS.get c:=fun c hc=>by
          have:=Ch c hc
          exact dw.1.get c this.2.1 (by simp only [List.mem_cons,List.mem_append,not_or];exact ⟨(nm c (by omega)).2.1,(nm c (by omega)).1,this.2.2.1⟩)
         have RM:∀c∈fS,di.get c=dS.get c:=fun c hc=>by
          have:=qu c hc
          exact dw.1.get c (by show c < dS.next;omega) (by simp only [List.mem_cons,List.mem_append,not_or];exact ⟨(nm c (by omega)).2.1,(nm c (by omega)).1,(Ka c hc).1⟩)
         have Ot:=(zP bL (by simp)).trans Ia
         have Ib:∀c∈H.next::bs::mL,c∉ju:=fun c hc e=>by
          have aZ:c < dS.next:=by
           simp only [List.mem_cons] at hc
           rcases hc with e | e | e
           ·omega
           ·omega
           ·have:=(wE c (by simp [e])).1;omega
          have FJ:H.next<=c:=by
           simp only [List.mem_cons] at hc
           rcases hc with e | e | e
           ·omega
           ·omega
           ·have:=fZ c e;omega
          exact (wz c e).elim (SN c hc) fun e=>by have:dS.next<=c:=e;omega
         have agj:tZ.length=zd.length:=by rw [Eo,mK,List.length_append,List.length_append,eC];rfl
         have Z7:i * 7+1 < tZ.length:=by omega
         have aiD:i * 7+1+1<=tZ.length:=by omega
         obtain ⟨uT,Kb⟩:∃uT,uT=tZ.set (i * 7+1) (iV t9.aX):=⟨_,rfl⟩
         have Q3:uT=c1++(cC {x with aX:=sl,Ac:=t9.aX} Cg (.slice aN x.names.length kN)++c2):=by rw [Kb,Eo,QN eC (show 1 < 7 by decide)];rfl
         have j0:=(dh.own (M:=[bL]) ((Fr.refl _ _).ah (b:=bL) (.inl (by simp)) ⟨uT,52,true,false⟩) (fun c hc=>by rw [List.mem_singleton] at hc;subst hc;exact ⟨by have:=fZ _ qv;omega,Bf.1,Bf.2.1,(CH _ (by simp)).2.2.2,Ib _ (by simp [qv]),Bf.2.2⟩) fun _ _=>rfl).told
         obtain ⟨jv,nT⟩:=j0.hp
         have uq:∀c,c≠bL->jv.get c=di.get c:=fun c hc=>by rw [nT,be,az,if_neg hc]
         have SP:jv.get bL=some ⟨uT,52,true,false⟩:=by rw [nT,be,az,if_pos rfl]
         have ZL:jv.next=di.next:=by rw [nT];rfl
         obtain ⟨alb,avs,Ou,_,KR,_,_⟩:=j0.re
         rw [<-nT] at Ou KR
         obtain ⟨KS,KT,aiE⟩:=KR.val
         subst aiE
         have KR:jz jv (.slice KS (eT t9 x.kJ n.line n.au).2.aK.length KT) (eT t9 x.kJ n.line n.au).2.aK yp:=KR
         have Ou:jv.get r=some ⟨rC S alb (.slice KS (eT t9 x.kJ n.line n.au).2.aK.length KT) (eT t9 x.kJ n.line n.au).2,136,false,false⟩:=Ou
         have mW:some (nK,tj,tC)=AE {n with pat:=p} op (qX.drop (i+1)) (done++[{x with aX:=sl,Ac:=t9.aX}]) (sc++[(eT t9 x.kJ n.line n.au).2.aK]) (eT t9 x.kJ n.line n.au).2:=mW
         have j0:RR S P gP H r t m g mi ((di.ah bL ⟨uT,52,true,false⟩).ai H.fz) (eT t9 x.kJ n.line n.au).2 ju yp:=j0
         have EX:bs∈Q:=by simp [hQ]
         have alc:jv.get bs=some ⟨vs++w0::sj,134,false,false⟩:=(uq bs (uv bs EX).2.2.2).trans ((zP bs (by simp [EX])).trans ((EW bs EX).trans ((kH bs (uv bs EX).1 (uv bs EX).2.1 (uv bs EX).2.2.2).trans DN)))
         have YT:bs∉yp:=(CH bs (by simp [EX])).2.2.2
         rw [<-nT] at j0
         have l3:=(j0.own (M:=[bs]) ((Fr.refl _ _).ah (b:=bs) (.inl (by simp)) ⟨(vs++[.slice KS (eT t9 x.kJ n.line n.au).2.aK.length KT])++sj,134,false,false⟩) (fun c hc=>by rw [List.mem_singleton] at hc;subst hc;exact ⟨by omega,C2.2.1,C2.2.2.1,YT,Ib _ (by simp),(nm _ (by omega)).2.2.1⟩) fun _ _=>rfl).told
         obtain ⟨jm,Ic⟩:=l3.hp
         have vV:∀c,c≠bs->jm.get c=jv.get c:=fun c hc=>by rw [Ic,be,az,if_neg hc]
         have ald:jm.get bs=some ⟨(vs++[.slice KS (eT t9 x.kJ n.line n.au).2.aK.length KT])++sj,134,false,false⟩:=by rw [Ic,be,az,if_pos rfl]
         have avt:jm.next=jv.next:=by rw [Ic];rfl
         simp only [go_sem,ei,hi,e7,iA,Ot,VF,Z7,aiD,eG Z7]
         rw [<-Kb,<-nT]
         clear nT
         have nrL:¬r=bL:=fun e=>Bf.1 e.symm
         have SQ:=(uq r nrL).symm.trans Ou
         simp only [go_sem,nrL,SQ,hi,alc,VE,po,SM,eG po]
         rw [RI,<-Ic]
         rw [<-Ic] at l3
         clear Ic
         simp only [go_sem,ei,bX]
         have EY:∀c∈Q,c≠bs->jm.get c=H7.get c:=fun c hc hn=>by
          have h7:=uv c hc
          rw [vV c hn,uq c h7.2.2.2,zP c (by simp [hc]),EW c hc,kH c h7.1 h7.2.1 h7.2.2.2]
         have xp:∀c∈f1++((u1++u2)++f3),c∈Q/\c≠bs/\c≠bL:=fun c hc=>by
          have h1:=yn c hc
          refine ⟨?_,h1.1,fun e=>h1.2.1 (e▸qv)⟩
          rw [hQ]
          simp only [List.mem_cons,List.mem_append] at hc ⊢
          exact .inr (.inr (.inl (.inl (.inl hc))))
         have SR:∀c∈gp,c∈Q/\c≠bs:=fun c hc=>⟨by simp [hQ,hc],fun e=>by have:=xh c hc;omega⟩
         have SU:∀c∈mO,c∈Q/\c≠bs:=fun c hc=>⟨by simp [hQ,hc],fun e=>by have:=du c hc;omega⟩
         have Z8:∀c∈mi,c∈Q/\c≠bs:=fun c hc=>⟨by simp [hQ,hc],fun e=>by have:=(tn c hc).1;omega⟩
         have hSx:∀c∈mS,jm.get c=dS.get c/\c≠bs/\c≠bL:=fun c hc=>by
          have:=Ch c hc
          exact ⟨by rw [vV c (by omega),uq c (by omega),RK c hc],by omega,by omega⟩
         have auC:di.next<=jm.next:=by omega
         have ale:jm.get bL=some ⟨c1++(cC {x with aX:=sl,Ac:=t9.aX} Cg (.slice aN x.names.length kN)++c2),52,true,false⟩:=by
          rw [vV bL (by have:=fZ bL qv;omega),SP,Q3]
         have aiF:Sl .int jm Cg sl mS:=by
          have:=PB.sl.ae (H':=jm) fun c hc=>by rw [List.append_nil] at hc;exact (hSx c hc).1
          rw [List.append_nil] at this
          exact this
         have aiG:Sl .str jm (.slice aN x.names.length kN) x.names u2:=Jd.ae fun c hc=>EY c (xp c (by simp [hc])).1 (xp c (by simp [hc])).2.1
         have aiH:(done++({x with aX:=sl,Ac:=t9.aX}:eZ)::qX.drop (i+1)).length=n.ak.length:=by
          rw [List.length_append,List.length_cons,List.length_drop];omega
         have Z9:Gr dB 52 jm (.slice (some ⟨bL,0,none⟩) n.ak.length n.ak.length) ((done++[{x with aX:=sl,Ac:=t9.aX}])++qX.drop (i+1)) mL (f1++((mS++u2)++f3)):=by
          have:=Gr.agi (r:=dB) (ty:=52) (pre:=done) (post:=qX.drop (i+1)) (x:={x with aX:=sl,Ac:=t9.aX}) ale (by rw [eC,db];rfl) ic (a1.ae fun c hc=>EY c (xp c (by simp [hc])).1 (xp c (by simp [hc])).2.1) ⟨Cg,_,mS,u2,rfl,rfl,aiF,aiG⟩ (a2.ae fun c hc=>EY c (xp c (by simp [hc])).1 (xp c (by simp [hc])).2.1) (fun e=>by
           simp only [List.mem_append] at e
           rcases e with e | (e | e) | e
           ·exact (xp bL (by simp [e])).2.2 rfl
           ·exact (hSx bL e).2.2 rfl
           ·exact (xp bL (by simp [e])).2.2 rfl
           ·exact (xp bL (by simp [e])).2.2 rfl)
          rw [aiH] at this
          rw [List.append_assoc,dy]
          exact this
         rw [<-iA] at Z9
         obtain ⟨gsc,aiI,aaa⟩:=KR.sl
         have agk:∀c∈yp,H7.next<=c/\c < di.next:=fun c hc=>⟨(CG c hc).elim (SO c) fun e=>by have:dS.next<=c:=e;omega,(dh.rq.hi c hc).1⟩
         have auD:∀c,c < jm.next->c∈bL::Q->c < jm.next/\c≠r/\c∉m/\c∉yp:=fun c h1 h2=>⟨h1,(CH c h2).2⟩
         have alf:∀c∈mS,c < jm.next/\c≠r/\c∉m/\c∉yp:=fun c hc=>by
          have h1:=Ch c hc
          exact ⟨by omega,(nm c (by omega)).2.1,(nm c (by omega)).1,fun e=>(CG c e).elim h1.2.2.1 fun e=>by have:dS.next<=c:=e;omega⟩
         refine ⟨done++[({x with aX:=sl,Ac:=t9.aX}:eZ)],sc++[(eT t9 x.kJ n.line n.au).2.aK],_,ju,yp,f1++((mS++u2)++f3),fS++gsc,vs++[.slice KS (eT t9 x.kJ n.line n.au).2.aK.length KT],sj,l3.told,?_,Z9.ae (fun _ _=>rfl) (fun _ _=>rfl),?_,?_,?_,Ib,Bd.ae fun c hc=>EY c (SR c hc).1 (SR c hc).2,KP.ae fun c hc=>EY c (SU c hc).1 (SU c hc).2,Em.ae fun c hc=>EY c (Z8 c hc).1 (Z8 c hc).2,ald,by rw [List.length_append,List.length_singleton,sE],HY,?_,?_,by rw [List.length_append,List.length_singleton,Be],by rw [List.length_append,List.length_singleton,db],by show H6.next<=jm.next;omega,Bw.trans mW⟩
         ·exact (EY H.next (by simp [hQ]) (by omega)).trans ea
         ·intro c hc
          have aiJ:bL < jm.next:=by omega
          have Gg:c∈Q->c < jm.next/\c≠r/\c∉m/\c∉yp:=fun e=>⟨by have:=(uv c e).1;omega,(CH c (by simp [e])).2⟩
          simp only [List.mem_cons,List.mem_append] at hc
          rcases hc with e | e | (((e | e) | e) | e)
          ·exact Gg (by simp [hQ,e])
          ·exact Gg (by simp [hQ,e])
          ·rw [dy,List.mem_singleton] at e
           subst e
           exact ⟨aiJ,(CH _ (by simp)).2⟩
          ·rcases e with e | (e | e) | e
           ·exact Gg (xp c (by simp [e])).1
           ·exact alf c e
           ·exact Gg (xp c (by simp [e])).1
           ·exact Gg (xp c (by simp [e])).1
          ·exact Gg (SR c e).1
          ·exact Gg (SU c e).1
         ·intro c hc
          simp only [List.mem_append] at hc
          rcases hc with e | (e | e) | e
          ·exact Bc c (by simp [e])
          ·exact .inr (by have:=Ch c e;omega)
          ·exact Bc c (by simp [e])
          ·exact Bc c (by simp [e])
         ·intro c hc
          simp only [List.mem_append] at hc
          rcases hc with e | (e | e) | e
          ·exact yn c (by simp [e])
          ·have:=Ch c e
           exact ⟨by omega,fun e'=>by have:=(wE c (by simp [e'])).1;omega,by omega⟩
          ·exact yn c (by simp [e])
          ·exact yn c (by simp [e])
         ·refine (En.ae fun c hc=>?_).join (by rw [sE,Be];show i=i * 1;omega) (dP.one ⟨_,rfl,aiI.ae fun c hc=>?_⟩)
          ·have h7:=qu c hc
           have nbl:c≠bL:=fun e=>h7.2.2.2 (e▸qv)
           show jm.get c=_
           rw [vV c h7.2.2.1,uq c nbl,RM c hc,(Ka c hc).2,kH c h7.2.1 (nm c (by omega)).2.1 nbl]
          ·show jm.get c=_
           exact vV c fun e=>YT (e▸aaa c hc)
         ·intro c hc
          rcases List.mem_append.1 hc with e | e
          ·have h7:=qu c e
           exact ⟨h7.1,by show c < jm.next;omega,h7.2.2⟩
          ·have h1:=agk c (aaa c e)
           exact ⟨by omega,by show c < jm.next;omega,by omega,fun e'=>by have:=(wE c (by simp [e'])).1;omega⟩
        ·rw [if_neg fX,pB] at ll
         cases ll
      ·rw [if_pos (.inr CX)] at mW
       simp only [go_sem,ei,hi,e7,iA,Ms,g0,vz,kC,CX,qU,DN,VE,po,SM,eG po]
       have r8:=(r7.told.own (M:=[bs]) ((Fr.refl _ _).ah (b:=bs) (.inl (by simp)) ⟨(vs++[.slice aO op.length op.length])++sj,134,false,false⟩) (fun c hc=>by rw [List.mem_singleton] at hc;subst hc;exact ⟨by omega,C2.2.1,C2.2.2.1,C2.2.2.2,DM _ (by simp),(nm _ (by omega)).2.2.1⟩) fun _ _=>rfl).told
       rw [RI]
       obtain ⟨H8,fB⟩:=r8.hp
       have k8:∀c,c≠bs->H8.get c=H7.get c:=fun c hc=>by rw [fB,be,az,if_neg hc,be]
       have gs8:H8.get bs=some ⟨(vs++[.slice aO op.length op.length])++sj,134,false,false⟩:=by rw [fB,be,az,if_pos rfl]
       have Dy:H8.next=H7.next:=by rw [fB];rfl
       simp only [bX,ei,go_sem]
       rw [<-fB] at r8 ⊢
       clear fB
       have ze:∀c∈H.next::(mL++(f1++(u1++u2++f3))++gp++mO),c≠bs:=fun c hc e=>by
        simp only [List.mem_cons,List.mem_append] at hc
        rcases hc with e' | (((e' | e') | e') | e')
        ·omega
        ·have:=fZ c e';omega
        ·exact (yn c (by simp only [List.mem_append];exact e')).1 e
        ·have:=xh c e';omega
        ·have:=du c e';omega
       have kq:∀c,c≠bs->H8.get c=H7.get c:=k8
       have KQ:Sl rH H8 (.slice aO op.length op.length) op mO:=KP.ae fun c hc=>kq c (ze c (by simp [hc]))
       refine ⟨done++[x],sc++[op],tS,g7,vZ,_,fS++mO,vs++[.slice aO op.length op.length],sj,r8,by rw [if_neg (ze _ (by simp))];exact ea,?_,fun c hc=>by have:=ym c hc;exact ⟨by omega,this.2⟩,Bc,yn,DM,Bd.ae fun c hc=>kq c (ze c (by simp [hc])),KQ,Em.ae fun c hc=>kq c (by have:=(tn c hc).1;omega),rfl,by rw [List.length_append,List.length_singleton,sE],HY,(En.ae fun c hc=>kq c (qu c hc).2.2.1).join (by rw [sE,Be];show i=i * 1;omega) (dP.one ⟨_,rfl,KQ⟩),fun c hc=>?_,by rw [List.length_append,List.length_singleton,Be],by rw [List.length_append,List.length_singleton,db],by omega,mW⟩
       ·have:=bG.ae (H':=H8) (fun c hc=>kq c (ze c (by simp [hc]))) (fun c hc=>kq c (ze c (by simp only [List.mem_cons,List.mem_append] at hc ⊢;rcases hc with e | e | e <;> simp [e])))
        rw [iA] at this
        rw [List.append_assoc]
        exact this
       ·rcases List.mem_append.1 hc with e | e
        ·have:=qu c e
         exact ⟨this.1,by omega,this.2.2⟩
        ·have:=du c e
         have h2:=(wE c (by simp [e])).1
         exact ⟨by omega,by omega,by omega,fun e=>by have:=fZ c e;omega⟩
    ·rintro V3 H7 ⟨ei,done,sc,tS,g7,vZ,pY,fS,vs,rest,r7,ea,bG,ym,Bc,yn,DM,Bd,KP,Em,DN,sE,pG,En,qu,Be,db,O3,mW⟩
     have FH:qX.drop n.ak.length=[]:=by rw [<-hlB];exact List.drop_length
     rw [FH,List.append_nil] at bG
     rw [FH,AE,Bw] at mW
     simp only [Option.some.injEq,Prod.mk.injEq] at mW
     obtain ⟨q1,q2,q3⟩:=mW
     subst q1 q2 q3
     have Lc:rest=[]:=by rw [<-List.length_eq_zero_iff];omega
     subst Lc
     rw [List.append_nil] at DN
     simp only [go_sem,ei]
     exact ⟨g7,vZ,pY,fS,vs,r7.told,ea,bG.ae (fun _ _=>rfl) (fun _ _=>rfl),fun c hc=>ym c (by simp only [List.mem_cons,List.mem_append] at hc ⊢;rcases hc with e | e | e <;> simp [e]),fun c hc=>(Bc c hc).imp id Nat.le_of_lt,Bd.ae fun _ _=>rfl,fun c hc=>ym c (by simp only [List.mem_cons,List.mem_append] at hc ⊢;rcases hc with e | e <;> simp [e]),Em.ae fun _ _=>rfl,DN,En.ae fun _ _=>rfl,sE,qu,Be,DM _ (by simp),by omega,db,fun c hc=>(yn c hc).2.2⟩
   ·rintro V3 H7 ⟨g7,vZ,pY,fS,vs,Vo,r7,ea,bG,ym,Bc,Bd,aab,Em,DN,En,sE,qu,Be,alg,avu,hlC,aiK⟩
    have tn:∀c∈mi,c < H.next/\c≠r/\c∉m:=fun c hc=>⟨(h.hi c hc).1,(h.hi c hc).2.1,fun e=>(h.hm c e).2.2.2.2 hc⟩
    have nm:∀c,H.next<=c->c∉m/\c≠r/\c∉gP/\c∉mi/\c∉g:=fun c hc=>⟨fun e=>by have:=(h.hm c e).1;omega,by have:=h.rl;omega,fun e=>by have:=(h.hP c e).1;omega,fun e=>by have:=(h.hi c e).1;omega,fun e=>by have:=(h.hg c e).1;omega⟩
    have oi:∀c∈g,c < H.next/\c≠r/\c∉m/\c∉mi:=fun c hc=>⟨(h.hg c hc).1,(h.hg c hc).2,fun e=>(h.hm c e).2.2.2.1 hc,fun e=>(h.hi c e).2.2.2 hc⟩
    have SV:=aab H.next (by simp)
    have r8:=(r7.own (M:=[H.next]) ((Fr.refl _ _).ah (b:=H.next) (.inl (by simp)) ⟨aJ {n with pat:=p,ak:=nK} (.slice aA n.args.length kA) (.slice ap p.length kp) (.slice aL n.ak.length n.ak.length),42,false,false⟩) (fun c hc=>by rw [List.mem_singleton] at hc;subst hc;exact ⟨Nat.le_refl _,SV.2.1,SV.2.2.1,SV.2.2.2,alg,(nm _ (Nat.le_refl _)).2.2.1⟩) fun _ _=>rfl).told
    obtain ⟨H8,fB⟩:=r8.hp
    have k8:∀c,c≠H.next->H8.get c=H7.get c:=fun c hc=>by rw [fB,be,az,if_neg hc]
    have qV:H8.get H.next=some ⟨aJ {n with pat:=p,ak:=nK} (.slice aA n.args.length kA) (.slice ap p.length kp) (.slice aL n.ak.length n.ak.length),42,false,false⟩:=by rw [fB,be,az,if_pos rfl]
    have Dy:H8.next=H7.next:=by rw [fB];rfl
    simp only [go_sem,e4,e7,ea,dv]
    rw [<-fB] at r8 ⊢
    clear fB
    have hnC:tC.ns.length=t.ns.length:=r8.le
    have nLx:∀c∈mL++pY,c≠H.next:=fun c hc e=>by
     rcases List.mem_append.1 hc with e' | e'
     ·have:=fZ c e';omega
     ·exact (aiK c e') e
    have alh:Ea H8 {n with pat:=p,ak:=nK} (.slice aA n.args.length kA) (.slice ap p.length kp) (.slice aL n.ak.length n.ak.length) gA gp (mL++pY):=⟨lG.a.ae fun c hc=>by
     have:=oi c (tc c (by simp [hc]))
     exact r8.fr.get c this.1 (by simp only [List.mem_cons,List.mem_append,not_or];exact this.2),Bd.ae fun c hc=>k8 c (by have:=(xh c hc).1;omega),bG.sl.ae fun c hc=>k8 c (nLx c hc)⟩
    obtain ⟨vI9,b9,cs9,Gc,KM,FE,Vy,g9,r9,pU⟩:=r8.SF (k:=k) (by rw [hnC];exact hk) alh fun c hc=>by
     rcases List.mem_append.1 hc with e | e
     ·have:=oi c (tc c (by simp [e]))
      exact ⟨by have:=r7.fr.nx;omega,this.2.1,this.2.2.1,fun e'=>(r7.si c e').elim this.2.2.2 fun e=>by omega,.inl (tc c (by simp [e]))⟩
     ·rcases List.mem_append.1 e with e | e
      ·have:=aab c (by simp [e])
       exact ⟨by omega,this.2.1,this.2.2.1,this.2.2.2,.inr (by have:=xh c e;omega)⟩
      ·have h2:=ym c (by simp only [List.mem_cons,List.mem_append] at e ⊢;rcases e with e | e <;> simp [e])
       refine ⟨by omega,h2.2.1,h2.2.2.1,h2.2.2.2,?_⟩
       rcases List.mem_append.1 e with e | e
       ·exact .inr (by have:=fZ c e;omega)
       ·exact Bc c e
    have An:H.fz b9=false:=h.fm b9 KM
    have ali:=(k8 r nr).symm.trans Gc
    have hkC:k < tC.ns.length:=by rw [hnC];exact hk
    simp only [go_sem,e4,nr,ali,hkC,qV,FE,An,Vy]
    have r9:=r9.told
    obtain ⟨H9,jS⟩:=r9.hp
    have k9:∀c,c≠b9->H9.get c=H8.get c:=fun c hc=>by rw [jS,be,az,if_neg hc]
    have Ml:H9.next=H8.next:=by rw [jS];rfl
    rw [<-jS]
    rw [<-jS] at r9
    clear jS
    have alj:¬r=b9:=fun e=>by have:=(h.hm b9 KM).2.1;exact this e.symm
    obtain ⟨UF,avv,alk,avw,avx,_,_⟩:=r9.re
    have nmb:∀c,c∉m->c≠b9:=fun c hc e=>hc (e▸KM)
    have PC:∀c,c∉m->c≠H.next->H9.get c=H7.get c:=fun c h1 h2=>(k9 c (nmb c h1)).trans (k8 c h2)
    have hL9:Sl dB H9 (.slice aL n.ak.length n.ak.length) nK (mL++pY):=bG.sl.ae fun c hc=>PC c (by
     have h2:=ym c (by simp only [List.mem_cons,List.mem_append] at hc ⊢;rcases hc with e | e <;> simp [e])
     exact h2.2.2.1) (nLx c hc)
    have ID:∀c∈fS,c∉m:=fun c hc=>(nm c (by have:=qu c hc;omega)).1
    have hS9:H9.get bs=some ⟨vs,134,false,false⟩/\dP (Rp.slice rH) H9 vs tj fS:=⟨(PC bs (nm bs (by omega)).1 (by omega)).trans DN,En.ae fun c hc=>PC c (ID c hc) (by have:=qu c hc;omega)⟩
    have hA9:jz H9 C1 t.aK mi:=Em.ae fun c hc=>PC c (tn c hc).2.2 (by have:=(tn c hc).1;omega)
    have nI9:H.next < H9.next:=by omega
    simp only [go_sem,e7,alj,nr,Gc,alk]
    cases jk:DX bd nK tj {tC with ns:=tC.ns.set k {n with pat:=p,ak:=nK}} with
    | none=>rw [jk] at he;cases he
    | some tE=>
    rw [jk] at he
    cases he
    have gX:∀c∈mL++pY,c < H7.next/\c≠r/\c∉m:=fun c hc=>by
     have h2:=ym c (by simp only [List.mem_cons,List.mem_append] at hc ⊢;rcases hc with e | e <;> simp [e])
     exact ⟨h2.1,h2.2.1,h2.2.2.1⟩
    have aac:=ym bs (by simp)
    refine pe 411375354692584587203646816165659725287381953613964407833362432 n.ak.length (fun i V4 dd=>V4 189=iV (i:Nat)/\∃t10 pI Ox,RR S P gP H r t m g mi dd t10 pI Ox/\H9.next<=dd.next/\Sl dB dd (.slice aL n.ak.length n.ak.length) nK (mL++pY)/\dd.get bs=some ⟨vs,134,false,false⟩/\dP (Rp.slice rH) dd vs tj fS/\jz dd C1 t.aK mi/\DX bd nK tj {tC with ns:=tC.ns.set k {n with pat:=p,ak:=nK}}=DX bd (nK.drop i) (tj.drop i) t10)
     ⟨by simp only [go_sem] <;> rfl,_,g9,vZ,r9.told,Nat.le_refl _,hL9.ae fun _ _=>rfl,hS9.1,hS9.2.ae fun _ _=>rfl,hA9.ae fun _ _=>rfl,rfl⟩ ?_ ?_ (by rfl)
    ·rintro i V4 dd hi ⟨ei,t10,pI,Ox,cP,alm,SW,SX,SY,Oy,ll⟩
     have Mu:i < nK.length:=by omega
     have Mv:i < tj.length:=by omega
     have hx:nK[i]?=some (nK[i]'Mu):=List.getElem?_eq_getElem Mu
     have hy:tj[i]?=some (tj[i]'Mv):=List.getElem?_eq_getElem Mv
     have cB:nK.drop i=(nK[i]'Mu)::nK.drop (i+1):=(List.getElem_cons_drop Mu).symm
     have tT:tj.drop i=(tj[i]'Mv)::tj.drop (i+1):=(List.getElem_cons_drop Mv).symm
     generalize (nK[i]'Mu)=x at hx cB
     generalize (tj[i]'Mv)=s at hy tT
     rw [cB,tT,DX] at ll
     have bX:IntKind.wrap .i64 (((i:Nat):Int)+1)=((i+1:Nat):Int):=cW hi (by omega)
     obtain ⟨bx,ox,cx,Bx,gx,hvx,BW,aln,avy,avz,hEx⟩:=SW.at hx
     obtain ⟨vS,vN,u1,u2,SZ,rfl,_,_⟩:=hEx
     have SZ:(Bx.cells.drop (ox+i * 7)).take 7=cC x vS vN:=SZ
     have iT:Bx.cells[ox+i * 7+2]?=some (iV x.body):=by
      have:((Bx.cells.drop (ox+i * 7)).take 7)[2]?=some (iV x.body):=by rw [SZ];rfl
      rw [List.getElem?_take,if_pos (by decide),List.getElem?_drop] at this
      exact this
     simp only [Value.slice.injEq] at hvx
     have iA:=hvx.1
     obtain ⟨s1,s2,s3,hfe,hle,EJ⟩:=SY.at hy
     obtain ⟨vsc,alo,NU⟩:=EJ
     have Dc:vs[i]?=some vsc:=by
      have:((vs.drop (i * 1)).take 1)[0]?=some vsc:=by rw [show (vs.drop (i * 1)).take 1=_ from alo];rfl
      rw [List.getElem?_take,if_pos (by decide),List.getElem?_drop,Nat.mul_one,Nat.add_zero] at this
      exact this
     by_cases eF:s.length < 1000000
     case' neg=>
      rw [if_neg eF,jk] at ll
      cases ll
     rw [if_pos eF] at ll
     cases S0:bd x.body {t10 with aK:=s} with
     | none=>rw [S0,jk] at ll;cases ll
     | some t11=>
     rw [S0] at ll
     simp only [Option.bind_some] at ll
     have n10:=cP.fr.nx
     have alp:∀c∈s2,c∈fS:=fun c hc=>by rw [hfe];simp [hc]
     have YU:∀c∈fS,c < dd.next:=fun c hc=>by have:=qu c hc;omega
     obtain ⟨Kx,aad,EZ,_,_,_,_⟩:=cP.re
     obtain ⟨asc,csc,aiL⟩:=NU.val
     subst aiL
     simp only [go_sem,ei,hi,Vo,SX,Dc]
     refine xy (r:=rH) zs (NU.ae (H':=dd.ai H.fz) fun _ _=>rfl) (by
      have:s.length * 1000<=1000000 * 1000:=Nat.mul_le_mul (by omega) (Nat.le_refl _)
      omega) (fun c hc=>YU c (alp c hc)) ?_
     intro vB dS mB avA EU _ jo
     have Br:=EU.flat
     subst Br
     obtain ⟨avB,Mt⟩:=EU.val
     subst Mt
     obtain ⟨VG,DO⟩:bc (dd.ai H.fz) dS/\∀c∈mB,c=dd.next/\c < dS.next:=by
      rcases jo with ⟨rfl,rfl⟩ | ⟨rfl,cs,rfl⟩
      ·exact ⟨bc.refl _,by simp⟩
      ·exact ⟨bc.push _ _,fun c hc=>by rw [List.mem_singleton] at hc;subst hc;exact ⟨rfl,Nat.lt_succ_self _⟩⟩
     have YQ:dd.next<=dS.next:=VG.nx
     obtain ⟨E0,dh⟩:=cP.told.aK (t2:={t10 with aK:=s}) (dF:=mB) EZ (VG.fr _) rfl EU.inr fun c hc=>⟨.inr (DO c hc).1,(DO c hc).2⟩
     obtain ⟨di,zN⟩:=dh.hp
     have sN:∀c,c < dd.next->c≠r->di.get c=dd.get c:=fun c h1 h2=>by rw [zN,be,az,if_neg h2];exact VG.get c h1
     have akN:di.next=dS.next:=by rw [zN];rfl
     simp only [go_sem,E0,DI]
     rw [<-zN] at dh ⊢
     clear zN
     have VH:di.get bx=some Bx:=by
      have h2:=gX bx aln
      exact (sN bx (by omega) h2.2.1).trans BW
     simp only [go_sem,ei,hi,e7,iA,VH,iT]
     refine af.by (jn dh.rq S0) ?_
     rintro _ jl - oK
     obtain ⟨Ur,alq,gu,auE,avC⟩:=dh.call oK
     have aiA:di.next<=jl.next:=oK.1.nx
     have kk:∀c,c < dd.next->c≠r->c∉m->jl.get c=dd.get c:=fun c h1 h2 h3=>(oK.1.get c (by show c < di.next;omega) (by simp only [List.mem_cons,List.mem_append,not_or];exact ⟨h2,h3,fun e=>by have:=(DO c e).1;omega⟩)).trans (sN c h1 h2)
     simp only [go_sem,ei,bX]
     exact ⟨t11,Ur,alq,gu.told,by show H9.next<=jl.next;omega,SW.ae fun c hc=>kk c (by have:=gX c hc;omega) (gX c hc).2.1 (gX c hc).2.2,(kk bs (by omega) aac.2.1 aac.2.2.1).trans SX,SY.ae fun c hc=>kk c (YU c hc) (nm c (by have:=qu c hc;omega)).2.1 (ID c hc),Oy.ae fun c hc=>kk c (by have:=(tn c hc).1;omega) (tn c hc).2.1 (tn c hc).2.2,ll⟩
    ·rintro V4 dd ⟨ei,t10,pI,Ox,cP,alm,SW,SX,SY,Oy,ll⟩
     have ug:nK.drop n.ak.length=[]:=by rw [<-hlC];exact List.drop_length
     rw [ug,jk,DX] at ll
     cases ll
     obtain ⟨Kx,aad,EZ,_,_,_,agl⟩:=cP.told.re
     have df:=agl {tE with aK:=t.aK,inner:=tC.inner} C1 mi rfl (Oy.ae fun _ _=>rfl) fun c hc=>⟨by have:=(tn c hc).1;have:=cP.fr.nx;show c < dd.next;omega,(tn c hc).2.1,(h.hi c hc).2.2.1,fun e=>(cP.sg c e).elim (h.hi c hc).2.2.2 fun e=>by have:=(tn c hc).1;omega,(tn c hc).2.2,.inl hc,h.fi c hc⟩
     obtain ⟨avD,avE,hvA⟩:=Oy.val
     subst hvA
     simp only [go_sem,ei,e10,EZ,DI]
     rw [JI]
     exact df.last
end
section
variable {S:XS} {P:bC} {gP:List Nat} {r:Nat} {m:List Nat}
def Je (P:bC):Nat->Rb
 | 0=>fun _ _=>none
 | k+1=>fun i t=>if t.aK.length < 1000000 then KN P (VB (Je P k) (VD P (Je P k))) t.aK.length 402 i t else none
theorem adi (hP:y0 P) (k:Nat):VA S P gP r m (Je P k):=by
 induction k with
 | zero=>exact fun _ he=>nomatch he
 | succ k ih=>
  refine fun {H t t' g mi i} h he=>?_
  unfold Je at he
  split at he
  case isFalse=>cases he
  rename_i c6
  exact abQ hP (fun hq hn=>abR ih (fun sO i4=>abS hP ih sO i4) hq hn) h c6 he
end
def Oz (P:bC):Bool:=Nat.ble P.msgs.length 90000&&Nat.ble P.bZ.length 90000&&Nat.ble P.defs.length 90000&&P.msgs.all (fun x=>Nat.ble x.types.length 90000&&x.types.all fun y=>Nat.ble y.pat.length 90000)&&P.bZ.all (fun x=>Nat.ble x.fields.length 90000&&x.fields.all fun y=>Nat.ble y.ty.pat.length 90000)&&P.defs.all (fun x=>Nat.ble x.params.length 90000&&x.params.all fun y=>Nat.ble y.ty.pat.length 90000)
theorem Yc {P:bC} (h:Oz P=true):y0 P:=by
 have le:∀{a:Nat},Nat.ble a 90000=true->a < 1000000:=fun h=>by have:=Nat.le_of_ble_eq_true h;omega
 simp only [Oz,Bool.and_eq_true] at h
 obtain ⟨⟨⟨⟨⟨h1,h2⟩,h3⟩,h4⟩,h5⟩,h6⟩:=h
 refine ⟨le h1,le h2,le h3,fun x hx=>?_,fun x hx=>?_,fun x hx=>?_⟩
 ·have:=List.all_eq_true.1 h4 x hx
  rw [Bool.and_eq_true] at this
  exact ⟨le this.1,fun y hy=>le (List.all_eq_true.1 this.2 y hy)⟩
 ·have:=List.all_eq_true.1 h5 x hx
  rw [Bool.and_eq_true] at this
  exact ⟨le this.1,fun y hy=>le (List.all_eq_true.1 this.2 y hy)⟩
 ·have:=List.all_eq_true.1 h6 x hx
  rw [Bool.and_eq_true] at this
  exact ⟨le this.1,fun y hy=>le (List.all_eq_true.1 this.2 y hy)⟩
theorem y0.defs {P:bC} (h:y0 P) {ds:List eH} (hd:ds.map (·.params)=P.defs.map (·.params)):y0 {P with defs:=ds}:=by
 refine ⟨h.m,h.r,?_,h.mt,h.rf,fun x hx=>?_⟩
 ·have:=congrArg List.length hd
  rw [List.length_map,List.length_map] at this
  show ds.length < _
  rw [this];exact h.d
 ·have:x.params∈P.defs.map (·.params):=by rw [<-hd];exact List.mem_map.2 ⟨x,hx,rfl⟩
  obtain ⟨y,hy,e⟩:=List.mem_map.1 this
  have:=h.dp y hy
  rw [e] at this
  exact this
def GF:List sJ->VT->Option VT
 | [],t=>some t
 | f::l,t=>if Jc t then GF l {t with aK:=t.aK++[⟨f.name,t.aX⟩],aX:=t.aX+1} else none
def G6 (fuel:Nat) (P:bC):List eH->List eH->VT->Option (List eH × VT)
 | done,[],t=>some (done,t)
 | done,d::l,t=>if t.bad=0 then (GF d.params {t with aK:=[],aX:=0,inner:=0}).bind fun t1=>(Je {P with defs:=done++d::l} fuel d.body t1).bind fun t2=>G6 fuel P (done++[{d with aX:=t2.aX}]) l t2
  else some (done++d::l,t)
def Qw (fuel:Nat) (P:bC):Option (Option bC):=
 if Oz P=true/\Nat.ble P.nodes.length 90000=true then
  (let d:=ou P ⟨P.nodes,[],0,0,0,0,0⟩
  let P1:bC:={P with msgs:=d.1,bZ:=d.2.1,defs:=d.2.2.1}
  if Oz P1=true then
   (G6 fuel P1 [] P1.defs (if d.2.2.2.bad=0/\sd P.defs < 0 then d.2.2.2.fail 4 0 0 else d.2.2.2)).map fun x=>if x.2.bad=0 then some {P1 with defs:=x.1,nodes:=x.2.ns} else none
  else none)
 else none
theorem Gr.own {α:Type} {r:Rp α} {ty:TypeId} {H:ad} {v:Value} {l:List α} {m g:List Nat} (h:Gr r ty H v l m g):∀b∈m,b∉g:=by
 rcases h with ⟨_,_,rfl,_⟩ | ⟨b,cs,_,_,rfl,_,_,_,h6⟩
 ·simp
 ·intro c hc
  rw [List.mem_singleton] at hc
  exact hc▸h6
structure RV (S:XS) (P:bC) (gP g0:List Nat) (n0:Nat) (H:ad) (r:Nat) (t:VT) (m g mi mD gD gx:List Nat):Prop where
 q:RQ0 S P gP H r t m g mi
 gd:Gr jh 38 H S.vD P.defs mD gD
 sm:oQ o9 H S.vM P.msgs gx
 sr:oQ qm H S.vR P.bZ gx
 md:∀d∈mD,n0<=d/\d∈gP/\d∉gx/\d∉g
 dg:∀d∈gD++gx,d∈gP
 r0:n0<=r
 m0:∀c∈m,n0<=c
 i0:∀c∈mi,n0<=c
 pz:∀c∈gP,c∈g0∨n0<=c
 gz:∀c∈g,c∈g0∨n0<=c
section
variable {S:XS} {P:bC} {gP g0:List Nat} {H H1 H2:ad} {r n0:Nat} {t t1 t2:VT} {m g g1 g2 mi dz dF mD gD gx:List Nat}
theorem RV.rq (h:RV S P gP g0 n0 H r t m g mi mD gD gx) (hz:∀c,n0<=c->H.fz c=false):RQ S P gP H r t m g mi:=
 {h.q with fz:=hz r h.r0,fm:=fun c hc=>hz c (h.m0 c hc),fi:=fun c hc=>hz c (h.i0 c hc),fn:=fun b hb=>hz b (by have:=h.q.rl;have:=h.r0;omega)}
theorem RV.ai (h:RV S P gP g0 n0 H r t m g mi mD gD gx) {fz:Nat->Bool}:RV S P gP g0 n0 (H.ai fz) r t m g mi mD gD gx:=
 {h with q:=h.q.ai,gd:=h.gd.ae (fun _ _=>rfl) (fun _ _=>rfl),sm:=h.sm.ae fun _ _=>rfl,sr:=h.sr.ae fun _ _=>rfl}
theorem RV.call (h:RV S P gP g0 n0 H r t m g mi mD gD gx) (hp:wk S P gP H r t m g mi t2 H2):∃g2 dF,RV S P gP g0 n0 H2 r t2 m g2 dF mD gD gx:=by
 obtain ⟨hf,hz,hle,g2,dF,h0,hs,iN⟩:=hp
 have k:∀c∈gP,H2.get c=H.get c:=fun c hc=>hf.get c (h.q.hP c hc).1 fun e=>by
  simp only [List.mem_cons,List.mem_append] at e
  rcases e with e | e | e
  ·exact (h.q.hP c hc).2 e
  ·exact (h.q.hm c e).2.2.1 hc
  ·exact (h.q.hi c e).2.2.1 hc
 exact ⟨g2,dF,⟨h0,h.gd.ae (fun c hc=>k c (h.md c hc).2.1) (fun c hc=>k c (h.dg c (by simp [hc]))),h.sm.ae fun c hc=>k c (h.dg c (by simp [hc])),h.sr.ae fun c hc=>k c (h.dg c (by simp [hc])),fun d hd=>⟨(h.md d hd).1,(h.md d hd).2.1,(h.md d hd).2.2.1,fun e=>(iN d e).elim (h.md d hd).2.2.2 fun e=>by have:=(h.q.hP d (h.md d hd).2.1).1;omega⟩,h.dg,h.r0,h.m0,fun c hc=>(hs c hc).elim (h.i0 c) fun e=>by have:=h.q.rl;have:=h.r0;omega,h.pz,fun c hc=>(iN c hc).elim (h.gz c) fun e=>.inr (by have:=h.q.rl;have:=h.r0;omega)⟩⟩
theorem RV.aE (h:RV S P gP g0 n0 H r t m g mi mD gD gx) (ho:bc H H2):RV S P gP g0 n0 H2 r t m g mi mD gD gx:=by
 have k:∀c∈gP,H2.get c=H.get c:=fun c hc=>ho.get c (h.q.hP c hc).1
 exact {h with q:=h.q.fr (ho.fr []) (by simp) (by simp) (by simp) (by simp) (by simp),gd:=h.gd.ae (fun c hc=>k c (h.md c hc).2.1) (fun c hc=>k c (h.dg c (by simp [hc]))),sm:=h.sm.ae fun c hc=>k c (h.dg c (by simp [hc])),sr:=h.sr.ae fun c hc=>k c (h.dg c (by simp [hc]))}
theorem yY.post (h:yY S P gP H r t m g mi t2 H2):wk S P gP H r t m g mi t2 H2:=⟨h.fr.sub fun c hc=>.inl (by rw [List.mem_singleton] at hc;simp [hc]),h.fz,by rw [h.ns],g,mi,h.rq,fun _ h=>.inl h,fun _ h=>.inl h⟩
theorem RV.i {α:Type} {rp:Rp α} {v:Value} {l:List α} {g g':List Nat} (h:oQ rp H v l g) (hg:∀c∈g,c∈g'):oQ rp H v l g':=by
 obtain ⟨gs,h1,h2⟩:=h
 exact ⟨gs,h1,fun c hc=>hg c (h2 c hc)⟩
theorem RV.aX (h:RV S P gP g0 n0 H r t m g mi mD gD gx) {i:Nat} {d:eH} (hd:P.defs[i]?=some d) {w:Int}:
  ∃b cs,S.vD=.slice (some ⟨b,0,none⟩) P.defs.length P.defs.length/\b∈mD/\b≠r/\b < H.next/\H.get b=some ⟨cs,38,true,false⟩/\i * 9+9<=cs.length/\(∃vp vq vo f5,(cs.drop (i * 9)).take 9=dK d vp vq vo/\Sl ls H vp d.params f5/\∀c∈f5,c∈gD)/\
  ∃gD',RV S {P with defs:=P.defs.set i {d with aX:=w}} gP g0 n0 (H.ah b ⟨cs.set (i * 9+2) (iV w),38,true,false⟩) r t m g mi mD gD' gx:=by
 have c6:i < P.defs.length:=(List.getElem?_eq_some_iff.1 hd).1
 have hdi:P.defs[i]=d:=(List.getElem?_eq_some_iff.1 hd).2
 obtain ⟨b,cs,f1,f2,f3,e1,e2,hb,fE,e3,b7,hE,oE⟩:=h.gd.put c6
 subst e2
 subst e3
 obtain ⟨rn,Dw,VH,OS⟩:=h.md b (by simp)
 obtain ⟨pB,cX⟩:=h.q.hP b Dw
 rw [hdi] at hE
 obtain ⟨vp,vq,vo,f5,f6,f7,aV,rfl,s5,s6,s7⟩:=hE
 have b7:i * 9+9<=cs.length:=b7
 have aV:(cs.drop (i * 9)).take 9=dK d vp vq vo:=aV
 have oJ:b∉f1++((f5++(f6++f7))++f3):=h.gd.own b (by simp)
 have kn:∀z,z≠b->(H.ah b ⟨cs.set (i * 9+2) (iV w),38,true,false⟩).get z=H.get z:=fun z hz=>by rw [az,if_neg hz]
 have aZ:i * 9+2 < cs.length:=by omega
 have eu:cs.set (i * 9+2) (iV w)=cT cs (i * 9) (dK {d with aX:=w} vp vq vo):=by
  have:=xq (vs:=[iV w]) aV (k:=2) (by show 2+1<=9;omega) b7
  rw [eG aZ] at this
  rw [this]
  have e:cT (dK d vp vq vo) 2 [iV w]=(dK d vp vq vo).set 2 (iV w):=eG (by show 2 < 9;omega)
  rw [e];rfl
 have n5:∀z∈f5++(f6++f7),z≠b:=fun z hz e=>oJ (by rw [<-e];simp only [List.mem_append] at hz ⊢;exact .inr (.inl hz))
 have fG:=oE (H.ah b ⟨cs.set (i * 9+2) (iV w),38,true,false⟩) (dK {d with aX:=w} vp vq vo) {d with aX:=w} (f5++(f6++f7)) (fun z hz=>kn z fun e=>oJ (by rw [<-e];simp only [List.mem_append];rcases hz with e | e <;> simp [e])) (by rw [az,if_pos rfl,eu];rfl)
  ⟨vp,vq,vo,f5,f6,f7,rfl,rfl,s5.ae fun z hz=>kn z (n5 z (by simp [hz])),s6.ae fun z hz=>kn z (n5 z (by simp [hz])),s7.ae fun z hz=>kn z (n5 z (by simp [hz]))⟩ (fun e=>n5 b e rfl)
 refine ⟨b,cs,e1,by simp,cX,pB,hb,b7,⟨vp,vq,vo,f5,aV,s5,fun c hc=>by simp [hc]⟩,f1++((f5++(f6++f7))++f3),?_⟩
 have kx:∀c∈gx,(H.ah b ⟨cs.set (i * 9+2) (iV w),38,true,false⟩).get c=H.get c:=fun c hc=>kn c fun e=>VH (e▸hc)
 have q:=h.q
 obtain ⟨vN,vI,hr,hN,hI⟩:=q.row
 have hxP:∀c∈gx,c∈gP:=fun c hc=>h.dg c (by simp [hc])
 exact ⟨⟨⟨vN,vI,(kn r (Ne.symm cX)).trans hr,hN.ae (fun c hc=>kn c fun e=>(q.hm c hc).2.2.1 (e▸Dw)) (fun c hc=>kn c fun e=>OS (e▸hc)),hI.ae fun c hc=>kn c fun e=>(q.hi c hc).2.2.1 (e▸Dw)⟩,RV.i (h.sm.ae kx) hxP,RV.i (h.sr.ae kx) hxP,⟨_,fG.sl,fun c hc=>by
  simp only [List.mem_append,List.mem_singleton] at hc
  rcases hc with e | e
  ·exact e▸Dw
  ·exact h.dg c (by simp only [List.mem_append];exact .inl e)⟩,q.rl,q.hm,q.hi,q.hg,q.hP⟩,fG,h.sm.ae kx,h.sr.ae kx,h.md,h.dg,h.r0,h.m0,h.i0,h.pz,h.gz⟩
end
theorem acx {a1 a2 a3 a4:Option Addr} {n1 n2 n3 n4 c1 c2 c3 c4:Nat} {h:KH}:fH Tryz.prog 136 [(0,.agg #[.slice a1 n1 c1,.slice a2 n2 c2,.slice a3 n3 c3,.slice a4 n4 c4])] h=.ok (.agg (rC ⟨.slice a1 n1 c1,.slice a2 n2 c2,.slice a3 n3 c3⟩ (.slice a4 n4 c4) (.slice none 0 0) ⟨[],[],0,0,0,0,0⟩).toArray) h:=by kernel_rfl
section
variable {H:ad} {P:bC}
theorem abT {fuel:Nat} {vM vR vD vN:Value} {gM gR gD gN:List Nat} (hM:Sl o9 H vM P.msgs gM) (hR:Sl qm H vR P.bZ gR) (hD:Sl jh H vD P.defs gD) (hN:Sl j6 H vN P.nodes gN) (aZ:∀c∈gM++(gR++(gD++gN)),c < H.next) {R:Option bC} (he:Qw fuel P=some R):
  aj Tryz.prog 61 #[.agg #[vM,vR,vD,vN]] H (fun w H'=>bc H H'/\Ya (gM++(gR++(gD++gN))) H.next R H' w):=by
 refine aj.told ?_
 refine qi (l:=[_]) _ mixed Tryz.func61 ahe [.cell 2 28,.tmp 3,.tmp 4,.tmp 5] (show 1<=143 by decide) rfl fun hf=>?_
 simp only [Tryz.f61,Option.getD_some]
 obtain ⟨aM,kM,rfl⟩:=hM.val
 obtain ⟨aR,kR,rfl⟩:=hR.val
 obtain ⟨aD,kD,rfl⟩:=hD.val
 obtain ⟨aN,kN,rfl⟩:=hN.val
 unfold Qw at he
 split at he
 case isFalse=>cases he
 rename_i hb
 obtain ⟨iD,fe⟩:=hb
 have rv:=Nat.le_of_ble_eq_true fe
 simp only at he
 split at he
 case isFalse=>cases he
 rename_i fj
 have hP:=Yc iD
 have PE:=Yc fj
 have p1:¬H.next=H.next+1:=by omega
 have p2:¬H.next=H.next+1+1:=by omega
 have p3:¬H.next+1=H.next+1+1:=by omega
 have p4:¬H.next+1+1=H.next:=by omega
 have hX:∀{n:Nat},H.next<=n->H.fz n=false:=fun h=>hf.fresh h
 have ef:H.fz (H.next+1+1)=false:=hX (by omega)
 obtain ⟨P1,Ie⟩:∃P1:bC,P1={P with msgs:=(ou P ⟨P.nodes,[],0,0,0,0,0⟩).1,bZ:=(ou P ⟨P.nodes,[],0,0,0,0,0⟩).2.1,defs:=(ou P ⟨P.nodes,[],0,0,0,0,0⟩).2.2.1}:=⟨_,rfl⟩
 rw [<-Ie] at PE
 have eM:(ou P ⟨P.nodes,[],0,0,0,0,0⟩).1=P1.msgs:=by rw [Ie]
 have eR:(ou P ⟨P.nodes,[],0,0,0,0,0⟩).2.1=P1.bZ:=by rw [Ie]
 have eD:(ou P ⟨P.nodes,[],0,0,0,0,0⟩).2.2.1=P1.defs:=by rw [Ie]
 have eP:({P with msgs:=P1.msgs,bZ:=P1.bZ,defs:=P1.defs}:bC)=P1:=by rw [Ie]
 rw [eM,eR,eD,eP] at he
 obtain ⟨tA,VI⟩:∃tA,tA=(ou P ⟨P.nodes,[],0,0,0,0,0⟩).2.2.2:=⟨_,rfl⟩
 rw [<-VI] at he
 refine lS (lS (lS (lS (qj 17179868286 (fun V H5=>V 2=pV (H.next+1)/\V 6=pV (H.next+1+1)/\∃S gP m g mi mD gE gx,RV S P1 gP (gM++(gR++(gD++gN))) (H.next+1+1) H5 (H.next+1+1) (if tA.bad=0/\sd P.defs < 0 then tA.fail 4 0 0 else tA) m g mi mD gE gx/\(∀c,H5.fz c=H.fz c)/\Fr [] H H5/\H5.get (H.next+1)=some ⟨[.slice none 0 0,.slice none 0 0,.slice none 0 0,.slice none 0 0],28,false,false⟩) ?_ ?_ (by rfl)))))
 ·simp only [go_sem,acx,p1,p2,p3,p4,ef]
  obtain ⟨H1,cF⟩:∃H1,H1=(((((H.push ⟨[.slice aM P.msgs.length kM,.slice aR P.bZ.length kR,.slice aD P.defs.length kD,.slice aN P.nodes.length kN],28,false,false⟩).push ⟨[.slice none 0 0,.slice none 0 0,.slice none 0 0,.slice none 0 0],28,false,false⟩).ai H.fz).push ⟨rC ⟨.slice aM P.msgs.length kM,.slice aR P.bZ.length kR,.slice aD P.defs.length kD⟩ (.slice aN P.nodes.length kN) (.slice none 0 0) ⟨[],[],0,0,0,0,0⟩,136,false,false⟩).ai H.fz):=⟨_,rfl⟩
  rw [<-cF]
  have f1:Fr [] H H1:=by rw [cF];exact ((((Fr.refl [] H).push _).push _).ai _ |>.push _).ai _
  have LX:H1.get H.next=some ⟨[.slice aM P.msgs.length kM,.slice aR P.bZ.length kR,.slice aD P.defs.length kD,.slice aN P.nodes.length kN],28,false,false⟩:=by rw [cF,be,bS (by simp only [DT,bH];omega),be,bS (by simp only [bH];omega),aU,if_pos rfl]
  have Jf:H1.get (H.next+1)=some ⟨[.slice none 0 0,.slice none 0 0,.slice none 0 0,.slice none 0 0],28,false,false⟩:=by rw [cF,be,bS (by simp only [DT,bH];omega),be,aU];exact if_pos rfl
  have IT:H1.get (H.next+1+1)=some ⟨rC ⟨.slice aM P.msgs.length kM,.slice aR P.bZ.length kR,.slice aD P.defs.length kD⟩ (.slice aN P.nodes.length kN) (.slice none 0 0) ⟨[],[],0,0,0,0,0⟩,136,false,false⟩:=by rw [cF,be,aU];exact if_pos rfl
  have IU:H1.next=H.next+1+1+1:=by rw [cF];rfl
  have fz1:H1.fz=H.fz:=by rw [cF];rfl
  clear cF
  obtain ⟨z,hz⟩:∃z,z=H.next+1:=⟨_,rfl⟩
  obtain ⟨r,hr⟩:∃r,r=H.next+1+1:=⟨_,rfl⟩
  rw [<-hr] at IT ef ⊢
  rw [<-hz] at Jf ⊢
  clear p1 p2 p3 p4
  refine xy (r:=j6) J0 (hN.ae (H':=H1) fun c hc=>f1.get c (aZ c (by simp [hc])) (by simp)) (by
   have:P.nodes.length * 1000<=1000000 * 1000:=Nat.mul_le_mul (by omega) (Nat.le_refl _)
   omega) (fun c hc=>by have:=aZ c (by simp [hc]);omega) ?_
  intro vN H2 m g cw qP jo
  obtain ⟨aN2,yN⟩:=cw.val
  subst yN
  obtain ⟨f12,jj⟩:Fr [] H1 H2/\∀c∈m,H1.next<=c/\c < H2.next:=by
   rcases jo with ⟨rfl,rfl⟩ | ⟨rfl,cs,rfl⟩
   ·exact ⟨.refl _ _,by simp⟩
   ·exact ⟨(Fr.refl [] _).push _,fun c hc=>by rw [List.mem_singleton] at hc;subst hc;exact ⟨Nat.le_refl _,Nat.lt_succ_self _⟩⟩
  have ey:=f12.nx
  have IV:=(f12.get r (by omega) (by simp)).trans IT
  have Ao:=(f12.get H.next (by omega) (by simp)).trans LX
  have Mw:=(f12.get z (by omega) (by simp)).trans Jf
  simp only [go_sem,IV,ef]
  obtain ⟨H3,dI⟩:∃H3,H3=(H2.ah r ⟨rC ⟨.slice aM P.msgs.length kM,.slice aR P.bZ.length kR,.slice aD P.defs.length kD⟩ (.slice aN2 P.nodes.length P.nodes.length) (.slice none 0 0) ⟨P.nodes,[],0,0,0,0,0⟩,136,false,false⟩).ai H.fz:=⟨_,rfl⟩
  rw [<-dI]
  have k3:∀c,c≠r->H3.get c=H2.get c:=fun c hc=>by rw [dI,be,az,if_neg hc]
  have Fw:H3.next=H2.next:=by rw [dI];rfl
  have LZ:∀c,H3.fz c=H.fz c:=fun c=>by rw [dI];rfl
  have gr3:H3.get r=some ⟨rC ⟨.slice aM P.msgs.length kM,.slice aR P.bZ.length kR,.slice aD P.defs.length kD⟩ (.slice aN2 P.nodes.length P.nodes.length) (.slice none 0 0) ⟨P.nodes,[],0,0,0,0,0⟩,136,false,false⟩:=by rw [dI,be,az,if_pos rfl]
  have f03:Fr [] H H3:=by rw [dI];exact ((f1.then f12).ah (.inr (by omega)) _).ai _
  clear dI
  have U9:=(k3 H.next (by omega)).trans Ao
  have IX:=(k3 z (by omega)).trans Mw
  have ko:∀c,c < H.next->H3.get c=H.get c:=fun c hc=>(k3 c (by omega)).trans ((f12.get c (by omega) (by simp)).trans (f1.get c hc (by simp)))
  have kG:∀c∈gM++(gR++(gD++gN)),H3.get c=H.get c:=fun c hc=>ko c (aZ c hc)
  have lK:∀c∈g,c < H.next:=fun c hc=>aZ c (by simp [qP c hc])
  have VJ:∀c∈gM++(gR++gD),c < H.next:=fun c hc=>aZ c (by simp only [List.mem_append] at hc ⊢;rcases hc with e | e | e <;> simp [e])
  have q3:RQ ⟨.slice aM P.msgs.length kM,.slice aR P.bZ.length kR,.slice aD P.defs.length kD⟩ P (gM++(gR++gD)) H3 r ⟨P.nodes,[],0,0,0,0,0⟩ m g []:=
   ⟨⟨⟨_,_,gr3,cw.ae (fun c hc=>k3 c (by have:=(jj c hc).1;omega)) (fun c hc=>k3 c (by have:=lK c hc;omega)),jz.nil _⟩,
    ⟨gM,hM.ae fun c hc=>kG c (by simp [hc]),fun c hc=>by simp [hc]⟩,⟨gR,hR.ae fun c hc=>kG c (by simp [hc]),fun c hc=>by simp [hc]⟩,⟨gD,hD.ae fun c hc=>kG c (by simp [hc]),fun c hc=>by simp [hc]⟩,by omega,
    fun c hc=>⟨by have:=(jj c hc).2;omega,by have:=(jj c hc).1;omega,fun e=>by have:=(jj c hc).1;have:=VJ c e;omega,fun e=>by have:=(jj c hc).1;have:=lK c e;omega,by simp⟩,by simp,
    fun c hc=>⟨by have:=lK c hc;omega,by have:=lK c hc;omega⟩,fun c hc=>⟨by have:=VJ c hc;omega,by have:=VJ c hc;omega⟩⟩,
    by rw [LZ];exact ef,fun c hc=>by rw [LZ];exact hX (by have:=(jj c hc).1;omega),by simp,fun b hb=>by rw [LZ];exact hX (by omega)⟩
  refine af.by (adh q3 hP) ?_
  rintro _ H4 - ⟨f4,gC,uc,alr,S1,gP1,mD,gD1,q4,als,aae,aaf,aag,gx,sM1,sR1,de⟩
  rw [<-Ie,<-VI] at q4
  rw [<-VI] at uc alr
  rw [eD] at aae
  rw [eM] at sM1
  rw [eR] at sR1
  have VK:RV S1 P1 gP1 (gM++(gR++(gD++gN))) r H4 r tA m g [] mD gD1 gx:=⟨q4,aae,sM1,sR1,fun d hd=>⟨by have:=aaf d hd;omega,aag d (by simp [hd]),fun e=>(de d e).2 hd,fun e=>by have:=lK d e;have:=aaf d hd;omega⟩,fun d hd=>by
   simp only [List.mem_append] at hd
   exact hd.elim (fun e=>aag d (by simp [e])) fun e=>(de d e).1,Nat.le_refl _,fun c hc=>by have:=(jj c hc).1;omega,by simp,fun c hc=>(als c hc).imp (fun e=>by simp only [List.mem_append] at e ⊢;rcases e with e | e | e <;> simp [e]) fun e=>by omega,fun c hc=>.inl (by simp [qP c hc])⟩
  have FZ:Fr [] H H4:=f03.trans f4 fun c hc=>.inr (by rw [List.mem_singleton] at hc;omega)
  have nB:=f4.nx
  have IW:=(f4.get H.next (by omega) (by simp;omega)).trans U9
  have Pc:=(f4.get z (by omega) (by simp;omega)).trans IX
  have PF:∀c,r<=c->H.fz c=false:=fun c hc=>hX (by omega)
  obtain ⟨vN4,vI4,sL,_,_⟩:=VK.q.row
  by_cases hb:tA.bad=0
  ·simp only [go_sem,sL,hb,IW]
   refine af.by (agc (l:=P.defs) (g:=gD) ((hD.ae fun c hc=>FZ.get c (aZ c (by simp [hc])) (by simp)).ae fun _ _=>rfl) hP.d (fun c hc=>by have:=aZ c (by simp [hc]);show c < H4.next;omega)) ?_
   rintro _ H5 - ⟨rfl,o5,z5⟩
   have Gh:=VK.ai.aE o5
   have B3:=(FZ.ai H.fz).then (o5.fr [])
   have w4:H4.next<=H5.next:=o5.nx
   have Mx:=(o5.get z (by show z < H4.next;omega)).trans Pc
   by_cases jj:sd P.defs < 0
   ·rw [if_pos ⟨hb,jj⟩]
    simp only [go_sem,jj]
    refine af.by (iX (Gh.ai.rq fun c hc=>PF c hc)) ?_
    rintro _ H6 - p6
    obtain ⟨g6,Cf,eK⟩:=Gh.ai.call p6.post
    simp only [go_sem]
    exact ⟨_,_,_,_,_,_,_,_,eK.ai,fun _=>trivial,((B3.ai H.fz).trans p6.fr fun c hc=>.inr (by rw [List.mem_singleton] at hc;omega)).ai _,(p6.fr.get z (by show z < H5.next;omega) (by simp;omega)).trans Mx⟩
   ·rw [if_neg fun e=>jj e.2]
    simp only [go_sem,jj]
    exact ⟨_,_,_,_,_,_,_,_,Gh.ai,fun _=>trivial,B3.ai _,Mx⟩
  ·rw [if_neg fun e=>hb e.1]
   simp only [go_sem,sL,hb]
   exact ⟨_,_,_,_,_,_,_,_,VK.ai,fun _=>trivial,FZ.ai _,Pc⟩
 ·rintro V H5 ⟨e2,e6,S,gP,m,g,mi,mD,gE,gx,Gh,z5,f5,Mx⟩
  obtain ⟨z,hz⟩:∃z,z=H.next+1:=⟨_,rfl⟩
  obtain ⟨r,hr⟩:∃r,r=H.next+1+1:=⟨_,rfl⟩
  obtain ⟨G0,hG0⟩:∃G0,G0=gM++(gR++(gD++gN)):=⟨_,rfl⟩
  rw [<-hG0] at Gh ⊢
  have hG:∀c∈G0,c < H.next:=by rw [hG0];exact aZ
  rw [<-hr] at Gh e6 ef
  rw [<-hz] at Mx e2
  clear p1 p2 p3 p4
  generalize (if tA.bad=0/\sd P.defs < 0 then tA.fail 4 0 0 else tA)=tB at *
  cases Po:G6 fuel P1 [] P1.defs tB with
  | none=>rw [Po] at he;cases he
  | some x=>
  obtain ⟨VM,tE⟩:=x
  rw [Po] at he
  simp only [Option.map_some,Option.some.injEq] at he
  subst he
  refine qj 2658455991569831745807614103380820608 (fun V6 H6=>∃g6 Cf Av,RV S {P1 with defs:=VM} gP G0 r H6 r tE m g6 Cf mD Av gx/\(∀c,H6.fz c=H.fz c)/\Fr [] H H6/\H6.get z=some ⟨[.slice none 0 0,.slice none 0 0,.slice none 0 0,.slice none 0 0],28,false,false⟩) ?_ ?_ (by rfl)
  ·simp only [go_sem]
   refine pe 2658455991569831745807614103380820608 P1.defs.length (fun i V6 H6=>V6 7=iV (i:Nat)/\∃done t6 g6 Cf Av,RV S {P1 with defs:=done++P1.defs.drop i} gP G0 r H6 r t6 m g6 Cf mD Av gx/\(∀c,H6.fz c=H.fz c)/\Fr [] H H6/\H6.get z=some ⟨[.slice none 0 0,.slice none 0 0,.slice none 0 0,.slice none 0 0],28,false,false⟩/\done.length=i/\done.map (·.params)=(P1.defs.take i).map (·.params)/\G6 fuel P1 done (P1.defs.drop i) t6=some (VM,tE))
    ⟨by simp only [go_sem] <;> rfl,[],tB,g,mi,gE,Gh.ai,fun _=>rfl,f5.ai _,Mx,rfl,rfl,Po⟩ ?_ ?_ (by rfl)
   ·rintro i V6 H6 hi ⟨ei,done,t6,g6,Cf,Av,eK,z6,f6,Gi,db,PG,qY⟩
    have hx:P1.defs[i]?=some (P1.defs[i]'hi):=List.getElem?_eq_getElem hi
    have cB:P1.defs.drop i=(P1.defs[i]'hi)::P1.defs.drop (i+1):=(List.getElem_cons_drop hi).symm
    have ix:P1.defs.take (i+1)=P1.defs.take i++[P1.defs[i]'hi]:=by rw [List.take_add_one,hx];rfl
    generalize (P1.defs[i]'hi)=x at hx cB ix
    rw [cB] at eK qY
    rw [G6] at qY
    have alu:y0 {P1 with defs:=done++x::P1.defs.drop (i+1)}:=PE.defs (by
     rw [List.map_append,PG,<-cB,<-List.map_append,List.take_append_drop])
    have hlen:(done++x::P1.defs.drop (i+1)).length=P1.defs.length:=by rw [<-cB,List.length_append,List.length_drop];omega
    have hd:(done++x::P1.defs.drop (i+1))[i]?=some x:=by rw [List.getElem?_append_right (by omega),db,Nat.sub_self];rfl
    have iK:i < (done++x::P1.defs.drop (i+1)).length:=by omega
    obtain ⟨bD,PH,eD,fP,cX,pB,hB,b7,⟨vp,vq,vo,fp,aV,eu,hfp⟩,_⟩:=eK.aX (i:=i) (d:=x) hd (w:=0)
    have eD:S.vD=.slice (some ⟨bD,0,none⟩) P1.defs.length P1.defs.length:=by rw [eD];show Value.slice _ (done++x::P1.defs.drop (i+1)).length (done++x::P1.defs.drop (i+1)).length=_;rw [hlen]
    obtain ⟨I3,I4,hZ,PI,I8⟩:=eK.q.row
    have bX:IntKind.wrap .i64 (((i:Nat):Int)+1)=((i+1:Nat):Int):=cW hi (by have:=PE.d;omega)
    by_cases hb:t6.bad=0
    ·rw [if_pos hb] at qY
     cases Dh:GF x.params {t6 with aK:=[],aX:=0,inner:=0} with
     | none=>rw [Dh] at qY;cases qY
     | some t7=>
     rw [Dh] at qY
     simp only [Option.bind_some] at qY
     cases hJ:Je {P1 with defs:=done++x::P1.defs.drop (i+1)} fuel x.body t7 with
     | none=>rw [hJ] at qY;cases qY
     | some t8=>
     rw [hJ] at qY
     simp only [Option.bind_some] at qY
     have PF:∀c,r<=c->H.fz c=false:=fun c hc=>hX (by omega)
     have q6:=eK.ai (fz:=H.fz).rq PF
     have r6:=RR.start q6
     obtain ⟨vN,vI,alv,hN7,I6,_,eV⟩:=r6.re
     have r7:=(eV {t6 with aK:=[],aX:=0,inner:=0} (.slice none 0 0) [] rfl (jz.nil _) (by simp)).ft H.fz fun _=>rfl
     have hZ:H6.get r=some ⟨rC S vN vI t6,136,false,false⟩:=alv
     obtain ⟨H7,cS⟩:=r7.hp
     have kC:H7.get r=some ⟨rC S vN (.slice none 0 0) {t6 with aK:=[],aX:=0,inner:=0},136,false,false⟩:=by rw [cS,be,az,if_pos rfl]
     have k7:∀c,c≠r->H7.get c=H6.get c:=fun c hc=>by rw [cS,be,az,if_neg hc,be]
     have xg:H7.next=H6.next:=by rw [cS];rfl
     rw [<-cS] at r7
     simp only [go_sem,ei,hi,e6,hZ,hb,eD,ef]
     simp only [rC,eD,hb] at cS
     rw [JI,JI,<-cS]
     clear cS
     have hB7:=(k7 bD cX).trans hB
     have Bd:=eu.ae (H':=H7) fun c hc=>k7 c (eK.q.hP c (eK.dg c (by simp [hfp c hc]))).2
     obtain ⟨ap,kp,yI⟩:=Bd.val
     subst yI
     have iv:PH[i * 9+1]?=some (.slice ap x.params.length kp):=by
      have:((PH.drop (i * 9)).take 9)[1]?=some (.slice ap x.params.length kp):=by rw [aV];rfl
      rw [List.getElem?_take,if_pos (by decide),List.getElem?_drop] at this
      exact this
     simp only [go_sem,cX,hB,iv]
     have jX:x.params.length < 1000000:=(PE.dp x (List.mem_of_getElem? hx)).1
     refine pe 316912648876465729656764498432 x.params.length (fun j V8 H8=>V8 70=iV (j:Nat)/\∃t9 g9 v9,RR S {P1 with defs:=done++x::P1.defs.drop (i+1)} gP (H6.ai H.fz) r t6 m g6 Cf H8 t9 g9 v9/\H7.next<=H8.next/\GF (x.params.drop j) t9=some t7)
      ⟨by simp only [go_sem] <;> rfl,_,_,_,r7.ft H.fz fun _=>rfl,Nat.le_refl _,Dh⟩ ?_ ?_ (by rfl)
     ·rintro j V8 H8 hj ⟨ej,t9,g9,v9,r9,Al,Gj⟩
      have hy:x.params[j]?=some (x.params[j]'hj):=List.getElem?_eq_getElem hj
      have My:x.params.drop j=(x.params[j]'hj)::x.params.drop (j+1):=(List.getElem_cons_drop hj).symm
      generalize (x.params[j]'hj)=y at hy My
      rw [My,GF] at Gj
      split at Gj
      case isFalse=>cases Gj
      rename_i fX
      obtain ⟨c6,nj,dm⟩:=fX
      have vK:IntKind.wrap .i64 (((j:Nat):Int)+1)=((j+1:Nat):Int):=cW hj (by omega)
      have yW:∀c∈gP,H8.get c=H6.get c:=fun c hc=>r9.fr.get c (eK.q.hP c hc).1 fun e=>by
       simp only [List.mem_cons,List.mem_append] at e
       rcases e with e | e | e
       ·exact (eK.q.hP c hc).2 e
       ·exact (eK.q.hm c e).2.2.1 hc
       ·exact (eK.q.hi c e).2.2.1 hc
      obtain ⟨b,o,c',B,gy,hv,PJ,ee,VN,alw,hE⟩:=(eu.ae (H':=H8) fun c hc=>yW c (eK.dg c (by simp [hfp c hc]))).at hy
      simp only [Value.slice.injEq] at hv
      have Gk:=hv.1
      obtain ⟨vq,S2,yP⟩:=hE
      obtain ⟨aq,kq,rfl⟩:=yP.val
      have aiM:o+j * 6+6<=B.cells.length:=alw
      have S2:(B.cells.drop (o+j * 6)).take 6=[ag y.name,iV y.ty.kind,iV y.ty.cap,iV y.ty.rc,ag y.ty.name,.slice aq y.ty.pat.length kq]:=S2
      have pG:r < H8.next:=r9.rq.rl
      have Mo:H.fz H8.next=false:=hX (by omega)
      have nr8:¬r=H8.next:=by omega
      have cP:=((r9.ft H.fz fun _=>rfl).push ⟨[ag y.name,iV y.ty.kind,iV y.ty.cap,iV y.ty.rc,ag y.ty.name,.slice aq y.ty.pat.length kq],101,false,false⟩).ft H.fz fun _=>rfl
      obtain ⟨dd,oG⟩:=cP.hp
      have Oi:dd.get H8.next=some ⟨[ag y.name,iV y.ty.kind,iV y.ty.cap,iV y.ty.rc,ag y.ty.name,.slice aq y.ty.pat.length kq],101,false,false⟩:=by rw [oG,be,aU];exact if_pos rfl
      have ZW:dd.next=H8.next+1:=by rw [oG];rfl
      rw [<-oG] at cP
      simp only [go_sem,ej,hj,Gk,PJ,aiM,S2,Mo,e6]
      rw [<-oG]
      have alx:dd.get r=H8.get r:=by rw [oG,be,bS (by show r < H8.next;omega),be]
      clear oG
      obtain ⟨Kx,aad,EZ,_,aah,_⟩:=cP.re
      obtain ⟨aI,cI,B6⟩:=aah.val
      subst B6
      have BU:H8.get r=some ⟨rC S Kx (.slice aI t9.aK.length cI) t9,136,false,false⟩:=alx▸EZ
      have avF:¬r=dd.next:=by omega
      have df:=cP.push ⟨[ag y.name,iV t9.aX],139,false,false⟩
      have E0:(dd.push ⟨[ag y.name,iV t9.aX],139,false,false⟩).get r=some ⟨rC S Kx (.slice aI t9.aK.length cI) t9,136,false,false⟩:=(bS cP.rq.rl).trans EZ
      have aly:=aah.ae (H':=dd.push ⟨[ag y.name,iV t9.aX],139,false,false⟩) fun c hc=>bS (cP.rq.hi c hc).1
      simp only [go_sem,e6,ej,vK,ef,nr8,BU,EZ,Oi,Qv,eA zs (by decide) (by decide)]
      refine Q2 (X:=H.fz) (x:=⟨y.name,t9.aX⟩) aly (fun c hc=>(df.rq.hi c hc).1) df.x (by rw [aU,if_pos rfl]) (by omega) ?_
      intro BY di yp aai alz aaj avG
      obtain ⟨SQ,dh⟩:=df.aK E0 aaj (v2:=BY) (t2:={t9 with aK:=t9.aK++[⟨y.name,t9.aX⟩]}) rfl aai alz
      obtain ⟨sn,IC⟩:=Int.eq_ofNat_of_zero_le nj
      have eX:IntKind.wrap .i64 (t9.aX+1)=t9.aX+1:=by rw [IC,show (((sn:Nat):Int)+1)=((sn+1:Nat):Int) by omega];exact uy (by omega)
      obtain ⟨a12,c12,alB⟩:=aai.val
      subst alB
      obtain ⟨w6,w7,hrx,_,_,alC,_⟩:=(dh.ft H.fz fun _=>rfl).re
      rw [be,be,az,if_pos rfl] at hrx
      cases hrx
      have avH:H8.next<=di.next:=by have:=aaj.nx;have h2:(dd.push ⟨[ag y.name,iV t9.aX],139,false,false⟩).next=dd.next+1:=rfl;omega
      simp only [go_sem,e6,SQ,ef,eX,ej,vK]
      exact ⟨_,_,_,(alC {t9 with aK:=t9.aK++[⟨y.name,t9.aX⟩],aX:=t9.aX+1} rfl rfl).ft H.fz fun _=>rfl,by show H7.next<=di.next;omega,Gj⟩
     ·rintro V8 H8 ⟨ej,t9,g9,v9,r9,Al,Gj⟩
      rw [List.drop_length,GF] at Gj
      cases Gj
      obtain ⟨UF,vI9,Gc,_⟩:=r9.re
      have yW:∀c∈gP,H8.get c=H6.get c:=fun c hc=>r9.fr.get c (eK.q.hP c hc).1 fun e=>by
       simp only [List.mem_cons,List.mem_append] at e
       rcases e with e | e | e
       ·exact (eK.q.hP c hc).2 e
       ·exact (eK.q.hm c e).2.2.1 hc
       ·exact (eK.q.hi c e).2.2.1 hc
      have PJ:=(yW bD (eK.md bD fP).2.1).trans hB
      have iT:PH[i * 9+3]?=some (iV x.body):=by
       have:((PH.drop (i * 9)).take 9)[3]?=some (iV x.body):=by rw [aV];rfl
       rw [List.getElem?_take,if_pos (by decide),List.getElem?_drop] at this
       exact this
      simp only [go_sem,ej,e6,Gc,eD,ei,hi,PJ,iT]
      refine af.by (adi alu fuel (r9.ft H.fz fun _=>rfl).rq hJ) ?_
      rintro _ dd - jZ
      obtain ⟨pI,Ox,cP,_,_⟩:=(r9.ft H.fz fun _=>rfl).call jZ
      have cP:=cP.ft H.fz fun _=>rfl
      obtain ⟨Dl,alD,aak⟩:=eK.ai.call cP.last
      have f10:Fr [] H (dd.ai H.fz):=(f6.ai H.fz).trans cP.fr fun c hc=>.inr (by
       simp only [List.mem_cons,List.mem_append] at hc
       rcases hc with e | e | e
       ·omega
       ·have:=eK.m0 c e;omega
       ·have:=eK.i0 c e;omega)
      have alE:dd.get z=H6.get z:=cP.fr.get z (by show z < H6.next;have:=eK.q.rl;omega) fun hc=>by
       simp only [List.mem_cons,List.mem_append] at hc
       rcases hc with e | e | e
       ·omega
       ·have:=eK.m0 z e;omega
       ·have:=eK.i0 z e;omega
      obtain ⟨bE,PK,eE,lF,avI,avJ,py,Sg,_,alF,aal⟩:=aak.aX (i:=i) (d:=x) hd (w:=t8.aX)
      rw [eD] at eE
      simp only [Value.slice.injEq,Option.some.injEq,Addr.mk.injEq] at eE
      obtain ⟨⟨rfl,_⟩,_⟩:=eE
      obtain ⟨alG,alH,E0,_,_⟩:=aak.q.row
      have E0:dd.get r=some ⟨rC S alG alH t8,136,false,false⟩:=E0
      have py:dd.get bD=some ⟨PK,38,true,false⟩:=py
      have fg:H.fz bD=false:=PF bD (eK.md bD fP).1
      have fU:i * 9+2+1<=PK.length:=by omega
      have cO:¬z=bD:=by have:=(eK.md bD fP).1;omega
      have hse:(done++x::P1.defs.drop (i+1)).set i {x with aX:=t8.aX}=(done++[{x with aX:=t8.aX}])++P1.defs.drop (i+1):=by
       rw [List.set_append_right _ _ (by omega),db,Nat.sub_self,List.append_assoc];rfl
      rw [show (({P1 with defs:=done++x::P1.defs.drop (i+1)}:bC).defs.set i {x with aX:=t8.aX})=(done++[{x with aX:=t8.aX}])++P1.defs.drop (i+1) from hse] at aal
      simp only [go_sem,e6,E0,eD,ei,hi,py,fg,fU,bX,cO]
      rw [show cT PK (i * 9+2) [iV t8.aX]=PK.set (i * 9+2) (iV t8.aX) from eG (by omega)]
      exact ⟨done++[{x with aX:=t8.aX}],t8,Dl,alD,alF,aal.ai,fun _=>trivial,(f10.ah (.inr (by have:=(eK.md bD fP).1;omega)) _).ai _,alE.trans Gi,by simp [db],by rw [List.map_append,PG,ix,List.map_append];rfl,qY⟩
    ·rw [if_neg hb] at qY
     cases qY
     simp only [go_sem,ei,hi,e6,hZ,hb,eD]
     exact ⟨_,_,_,eK.ai,fun _=>trivial,f6.ai _,Gi⟩
   ·rintro V6 H6 ⟨ei,done,t6,g6,Cf,Av,eK,z6,f6,Gi,db,PG,qY⟩
    rw [List.drop_length,G6] at qY
    cases qY
    rw [List.drop_length,List.append_nil] at eK
    obtain ⟨I3,I4,hZ,PI,I8⟩:=eK.q.row
    obtain ⟨aD6,L7⟩:=eK.gd.val
    simp only at L7
    simp only [go_sem,ei,e6,hZ,L7,db]
    exact ⟨_,_,_,eK.ai,fun _=>trivial,f6.ai _,Gi⟩
  ·rintro V6 H6 ⟨g6,Cf,Av,eK,z6,f6,Gi⟩
   obtain ⟨I3,I4,hZ,PI,_⟩:=eK.q.row
   obtain ⟨aN6,hv⟩:=PI.val
   subst hv
   have VO:¬z=r:=by omega
   have FX:H.fz z=false:=hX (by omega)
   have hrz:¬r=z:=fun e=>VO e.symm
   obtain ⟨vM2,vR2,vD2⟩:=S
   obtain ⟨gm,VP,oi⟩:=eK.sm
   obtain ⟨gs,VQ,jx⟩:=eK.sr
   have VS:=eK.gd.sl
   have kz:∀c∈gm++(gs++((mD++Av)++(m++g6))),c < H6.next/\(c∈G0∨r<=c):=fun c hc=>by
    have PM:∀c∈gP,c < H6.next/\(c∈G0∨r<=c):=fun c hc=>⟨(eK.q.hP c hc).1,eK.pz c hc⟩
    simp only [List.mem_append] at hc
    rcases hc with e | e | (e | e) | e | e
    ·exact PM c (eK.dg c (by simp [oi c e]))
    ·exact PM c (eK.dg c (by simp [jx c e]))
    ·exact PM c (eK.md c e).2.1
    ·exact PM c (eK.dg c (by simp [e]))
    ·exact ⟨(eK.q.hm c e).1,.inr (eK.m0 c e)⟩
    ·exact ⟨(eK.q.hg c e).1,eK.gz c e⟩
   have kzz:∀c∈gm++(gs++((mD++Av)++(m++g6))),¬c=z:=fun c hc=>(kz c hc).2.elim (fun e=>by have:=hG c e;omega) fun e=>by omega
   simp only at VP VQ VS
   obtain ⟨aM6,kM6,hv⟩:=VP.val
   subst hv
   obtain ⟨aR6,kR6,hv⟩:=VQ.val
   subst hv
   obtain ⟨aD6,kD6,hv⟩:=VS.val
   subst hv
   by_cases hb:tE.bad=0
   ·rw [if_pos hb]
    simp only [go_sem,e6,e2,hZ,hb,Gi,FX,hrz,VO]
    generalize hB:(⟨[.slice aM6 P1.msgs.length kM6,.slice aR6 P1.bZ.length kR6,.slice aD6 VM.length kD6,.slice aN6 tE.ns.length tE.ns.length],28,false,false⟩:ct)=B
    have kk:∀c∈gm++(gs++((mD++Av)++(m++g6))),(((H6.ai H.fz).ah z B).ai H.fz).get c=H6.get c:=fun c hc=>by rw [be,az,if_neg (kzz c hc),be]
    exact ⟨(((f6.ai _).ah (.inr (by omega)) B (by rw [<-hB])).ai _).aE,_,_,rfl,⟨_,_,_,_,gm,gs,mD++Av,m++g6,rfl,VP.ae fun c hc=>kk c (by simp [hc]),VQ.ae fun c hc=>kk c (by simp only [List.mem_append];exact .inr (.inl hc)),VS.ae fun c hc=>kk c (by simp only [List.mem_append] at hc ⊢;exact .inr (.inr (.inl hc))),PI.sl.ae fun c hc=>kk c (by simp only [List.mem_append] at hc ⊢;exact .inr (.inr (.inr hc))),rfl⟩,fun c hc=>⟨(kz c hc).1,(kz c hc).2.imp id fun e=>by omega⟩⟩
   ·rw [if_neg hb]
    simp only [go_sem,e6,e2,hZ,hb,q7,Gi,FX,hrz,VO]
    exact ⟨((f6.ah (.inr (by omega)) _).ai _).aE,_,_,_,rfl,hb⟩
end
def HM (fuel:Nat) (s:bj):Option (Option bC):=
 (Nm fuel s).bind fun a=>match a with
  | none=>some none
  | some P=>(Np fuel P).bind fun b=>match b with
   | none=>some none
   | some Q=>Qw fuel Q
def aiN (n:Nat) (R:Option bC) (H':ad) (w:Value):Prop:=match R with
 | some P=>∃v g,w=.tuple #[v,iV 0,iV 0,iV 0]/\ur H' v P g/\∀c∈g,n<=c/\c < H'.next
 | none=>∃v a b e,w=.tuple #[v,iV a,iV b,iV e]/\e≠0/\∃g,ur H' v {} g/\∀c∈g,n<=c/\c < H'.next
theorem ur.ae {H H':ad} {v:Value} {P:bC} {g:List Nat} (h:ur H v P g) (hk:∀c∈g,H'.get c=H.get c):ur H' v P g:=by
 obtain ⟨vM,vR,vD,vN,gM,gR,gD,gN,rfl,h1,h2,h3,h4,rfl⟩:=h
 exact ⟨vM,vR,vD,vN,gM,gR,gD,gN,rfl,h1.ae fun c hc=>hk c (by simp [hc]),h2.ae fun c hc=>hk c (by simp [hc]),h3.ae fun c hc=>hk c (by simp [hc]),h4.ae fun c hc=>hk c (by simp [hc]),rfl⟩
theorem ur.nil {H:ad}:ur H (.agg #[.slice none 0 0,.slice none 0 0,.slice none 0 0,.slice none 0 0]) {} []:=⟨_,_,_,_,[],[],[],[],rfl,.inl ⟨rfl,rfl,rfl⟩,.inl ⟨rfl,rfl,rfl⟩,.inl ⟨rfl,rfl,rfl⟩,.inl ⟨rfl,rfl,rfl⟩,rfl⟩
section
variable {H:ad}
theorem agm {s:bj} (hs:s.length < 999000) {fuel:Nat} {R:Option bC} (he:HM fuel s=some R):aj Tryz.prog 36 #[ag s] H (fun w H'=>bc H H'/\aiN H.next R H' w):=by
 refine aj.told ?_
 refine agV (Nat.le_refl _) fun hf=>?_
 simp only [Tryz.f36,Option.getD_some]
 unfold HM at he
 have hX:∀{n:Nat},H.next<=n->H.fz n=false:=fun h=>hf.fresh h
 cases VU:Nm fuel s with
 | none=>rw [VU] at he;cases he
 | some A=>
 rw [VU] at he
 simp only [Option.bind_some] at he
 simp only [go_sem,q7]
 refine af.by (ada hs VU) ?_
 rintro _ H1 - ⟨o1,k1⟩
 have n1:=o1.nx
 simp only [bH] at n1
 have gJ:H.fz H1.next=false:=hX (by omega)
 have dv:H.fz H.next=false:=hX (Nat.le_refl _)
 have Jf:H1.get H.next=some ⟨[.slice none 0 0,.slice none 0 0,.slice none 0 0,.slice none 0 0],28,false,false⟩:=(o1.get H.next (by rw [bH];omega)).trans (by rw [aU,if_pos rfl])
 have Gl:¬H.next=H1.next:=by omega
 have Jg:¬H1.next=H.next:=by omega
 have f01:Fr [] H H1:=((Fr.refl [] H).push _).then (o1.fr [])
 cases A with
 | none=>
  cases he
  obtain ⟨v,a,b,e,rfl,dk,pv⟩:=k1
  obtain ⟨vM,vR,vD,vN,gM,gR,gD,gN,rfl,h1,h2,h3,h4,im⟩:=pv
  obtain ⟨aM,kM,rfl⟩:=h1.val
  obtain ⟨aR,kR,rfl⟩:=h2.val
  obtain ⟨aD,kD,rfl⟩:=h3.val
  obtain ⟨aN,kN,rfl⟩:=h4.val
  simp only [go_sem,q7,gJ,dv,dk,Gl,Jg,Jf]
  generalize hB:(⟨[.slice aM 0 kM,.slice aR 0 kR,.slice aD 0 kD,.slice aN 0 kN],28,false,false⟩:ct)=B
  have oa:B.ro=false:=by rw [<-hB]
  refine ⟨(((f01.push B oa).ah (.inr (Nat.le_refl _)) B oa).ai _).aE,_,_,_,_,rfl,dk,_,ur.ae ⟨_,_,_,_,gM,gR,gD,gN,rfl,h1,h2,h3,h4,rfl⟩ fun c hc=>?_,fun c hc=>?_⟩
  ·obtain ⟨u1,u2⟩:=im c hc
   rw [bH] at u1
   rw [be,az,if_neg (by omega),bS u2]
  ·obtain ⟨u1,u2⟩:=im c hc
   rw [bH] at u1
   exact ⟨by omega,by show c < H1.next+1;omega⟩
 | some P=>
  simp only at he
  obtain ⟨v,rfl,vM,vR,vD,vN,gM,gR,gD,gN,rfl,h1,h2,h3,h4,im⟩:=k1
  obtain ⟨aM,kM,rfl⟩:=h1.val
  obtain ⟨aR,kR,rfl⟩:=h2.val
  obtain ⟨aD,kD,rfl⟩:=h3.val
  obtain ⟨aN,kN,rfl⟩:=h4.val
  cases jX:Np fuel P with
  | none=>rw [jX] at he;cases he
  | some B=>
  rw [jX] at he
  simp only [Option.bind_some] at he
  simp only [go_sem,q7,gJ,dv,Gl,Jg,Jf]
  generalize pr:(⟨[.slice aM P.msgs.length kM,.slice aR P.bZ.length kR,.slice aD P.defs.length kD,.slice aN P.nodes.length kN],28,false,false⟩:ct)=B1
  have alI:B1.ro=false:=by rw [<-pr]
  have kp:∀c∈gM++(gR++(gD++gN)),(H1.push B1).get c=H1.get c:=fun c hc=>bS (im c hc).2
  have f1p:Fr [] H (H1.push B1):=f01.push B1 alI
  refine af.by (adg (h1.ae fun c hc=>kp c (by simp [hc])) (h2.ae fun c hc=>kp c (by simp [hc])) (h3.ae fun c hc=>kp c (by simp [hc])) (h4.ae fun c hc=>kp c (by simp [hc])) (fun c hc=>by rw [bH];have:=(im c hc).2;omega) jX) ?_
  rintro _ H2 - ⟨o2,k2⟩
  have n2:=o2.nx
  rw [bH] at n2
  have f2:Fr [] H H2:=f1p.then (o2.fr [])
  have oR:H2.get H1.next=some B1:=(o2.get H1.next (by rw [bH];omega)).trans (by rw [aU,if_pos rfl])
  have Mw:H2.get H.next=some ⟨[.slice none 0 0,.slice none 0 0,.slice none 0 0,.slice none 0 0],28,false,false⟩:=(o2.get H.next (by rw [bH];omega)).trans ((bS (by omega)).trans Jf)
  subst pr
  have low:∀c∈gM++(gR++(gD++gN)),H.next+1<=c/\c < H1.next:=fun c hc=>by
   have:=im c hc
   rw [bH] at this
   exact this
  cases B with
  | none=>
   cases he
   obtain ⟨a,b,e,rfl,dk⟩:=k2
   simp only [go_sem,q7,gJ,dv,Gl,Jg,Mw,oR,dk]
   refine ⟨((f2.ah (.inr (by omega)) _).ah (.inr (by omega)) _ |>.ai _).aE,_,_,_,_,rfl,dk,_,ur.nil,by simp⟩
  | some Q=>
   simp only at he
   obtain ⟨v,g2,rfl,pw,i6⟩:=k2
   obtain ⟨vM,vR,vD,vN,uM,uR,uD,uN,rfl,q1,q2,q3,q4,rfl⟩:=pw
   obtain ⟨bM,lM,rfl⟩:=q1.val
   obtain ⟨bR,lR,rfl⟩:=q2.val
   obtain ⟨bD,lD,rfl⟩:=q3.val
   obtain ⟨bN,lN,rfl⟩:=q4.val
   have S3:∀c∈uM++(uR++(uD++uN)),H.next+1<=c/\c < H2.next/\¬c=H1.next:=fun c hc=>by
    obtain ⟨u1,u2⟩:=i6 c hc
    rw [bH] at u2
    rcases u2 with e | e
    ·have:=low c e;exact ⟨by omega,u1,by omega⟩
    ·exact ⟨by omega,u1,by omega⟩
   simp only [go_sem,q7,gJ,dv,Gl,Jg,Mw,oR]
   generalize py:(⟨[.slice bM Q.msgs.length lM,.slice bR Q.bZ.length lR,.slice bD Q.defs.length lD,.slice bN Q.nodes.length lN],28,false,false⟩:ct)=B2
   have alJ:B2.ro=false:=by rw [<-py]
   have PO:∀c∈uM++(uR++(uD++uN)),(H2.ah H1.next B2).get c=H2.get c:=fun c hc=>by rw [az,if_neg (S3 c hc).2.2]
   have f2p:Fr [] H (H2.ah H1.next B2):=f2.ah (.inr (by omega)) B2 alJ
   refine af.by (abT (q1.ae fun c hc=>PO c (by simp [hc])) (q2.ae fun c hc=>PO c (by simp [hc])) (q3.ae fun c hc=>PO c (by simp [hc])) (q4.ae fun c hc=>PO c (by simp [hc])) (fun c hc=>(S3 c hc).2.1) he) ?_
   rintro _ H3 - ⟨o3,k3⟩
   have n3:H2.next<=H3.next:=o3.nx
   have f3:Fr [] H H3:=f2p.then (o3.fr [])
   have yQ:H3.get H1.next=some B2:=(o3.get H1.next (by show H1.next < H2.next;omega)).trans (by rw [az,if_pos rfl])
   have IX:H3.get H.next=some ⟨[.slice none 0 0,.slice none 0 0,.slice none 0 0,.slice none 0 0],28,false,false⟩:=(o3.get H.next (by show H.next < H2.next;omega)).trans (by rw [az,if_neg Gl];exact Mw)
   subst py
   cases R with
   | none=>
    obtain ⟨a,b,e,rfl,dk⟩:=k3
    simp only [go_sem,q7,gJ,dv,Gl,Jg,IX,yQ,dk]
    exact ⟨((f3.ah (.inr (by omega)) _).ah (.inr (by omega)) _ |>.ai _).aE,_,_,_,_,rfl,dk,_,ur.nil,by simp⟩
   | some Z=>
    obtain ⟨v,g3,rfl,pw,zY⟩:=k3
    obtain ⟨vM,vR,vD,vN,wM,wR,wD,wN,rfl,y1,y2,y3,y4,rfl⟩:=pw
    have OA:∀c∈wM++(wR++(wD++wN)),H.next+1<=c/\c < H3.next/\¬c=H1.next:=fun c hc=>by
     obtain ⟨u1,u2⟩:=zY c hc
     rcases u2 with e | e
     ·have:=S3 c e;exact ⟨by omega,u1,this.2.2⟩
     ·have e:H2.next<=c:=e
      exact ⟨by omega,u1,by omega⟩
    have pw:ur H3 (.agg #[vM,vR,vD,vN]) Z (wM++(wR++(wD++wN))):=⟨_,_,_,_,wM,wR,wD,wN,rfl,y1,y2,y3,y4,rfl⟩
    obtain ⟨cM,jM,rfl⟩:=y1.val
    obtain ⟨cR,jR,rfl⟩:=y2.val
    obtain ⟨cD,jD,rfl⟩:=y3.val
    obtain ⟨cN,jN,rfl⟩:=y4.val
    simp only [go_sem,q7,gJ,dv,Gl,Jg,IX,yQ]
    exact ⟨((f3.ah (.inr (by omega)) _).ah (.inr (by omega)) _ |>.ai _).aE,_,_,rfl,pw.ae fun c hc=>by rw [be,az,if_neg (by have:=(OA c hc).1;omega),az,if_neg (OA c hc).2.2],fun c hc=>⟨by have:=(OA c hc).1;omega,(OA c hc).2.1⟩⟩
end
def Gm (v n:Int):Int:=if n < 1 then 0 else if Int.tmod v n < 0 then Int.tmod v n+n else Int.tmod v n
theorem agn (v n:Int) (h:1<=n):0<=Gm v n/\Gm v n < n:=by
 have h1:Int.tmod v n < n:=Int.tmod_lt_of_pos v (by omega)
 have h2: -n < Int.tmod v n:=by
  have:=Int.tmod_lt_of_pos (-v) (show 0 < n by omega)
  rw [Int.neg_tmod] at this
  omega
 unfold Gm
 rw [if_neg (by omega)]
 split <;> omega
theorem uz {n:Int} (h1: -9223372036854775808<=n) (h2:n < 9223372036854775808):IntKind.wrap .i64 n=n:=by
 apply Jn
 cases n with
 | ofNat a=>show Nat.blt a 9223372036854775808=true;rw [blt_eq,decide_eq_true_eq];have:(Int.ofNat a)=(a:Int):=rfl;omega
 | negSucc a=>show Nat.blt a 9223372036854775808=true;rw [blt_eq,decide_eq_true_eq];have:=Int.negSucc_eq a;omega
theorem acy {H:ad} {v n:Int} (hn:n < 4611686018427387904):aj Tryz.prog 16 #[.int .i64 v,.int .i64 n] H (fun r H'=>r=.int .i64 (Gm v n)/\H=H'):=by
 refine agO (Nat.le_refl _) fun hf=>?_
 simp only [Tryz.f16,Option.getD_some]
 by_cases h1:n < 1
 ·simp only [go_sem,h1]
  simp [Gm,h1]
 ·have rn:n≠0:=by omega
  have b1:Int.tmod v n < n:=Int.tmod_lt_of_pos v (by omega)
  have b2: -n < Int.tmod v n:=by
   have:=Int.tmod_lt_of_pos (-v) (show 0 < n by omega)
   rw [Int.neg_tmod] at this
   omega
  by_cases h2:Int.tmod v n < 0
  ·have hw:=uz (n:=Int.tmod v n+n) (by omega) (by omega)
   simp only [go_sem,h1,rn,h2,hw]
   simp [Gm,h1,h2]
  ·simp only [go_sem,h1,rn,h2]
   simp [Gm,h1,h2]
theorem Ns {H:ad}:∀{l:List Int} {cs:List Value} {f:List Nat},dP Rp.int H cs l f->f=[]
 | [],cs,f,h=>h
 | x::l,cs,f,h=>by
  obtain ⟨c,fL,f1,f2,rfl,rfl,⟨rfl,rfl⟩,h2⟩:=h
  rw [Ns h2];rfl
theorem acz {xs:List Int} {i j:Nat} {x:Int} (hi:i < xs.length):(xs.set i x).getD j 0=if j=i then x else xs.getD j 0:=by
 rw [List.getD_eq_getElem?_getD,List.getElem?_set,List.getD_eq_getElem?_getD]
 by_cases h:i=j
 ·subst h;simp [hi]
 ·rw [if_neg h,if_neg (fun e=>h e.symm)]
theorem Az {p:List Int} {i:Nat} (hi:i < p.length):p.drop i=p.getD i 0::p.drop (i+1):=by
 rw [List.getD_eq_getElem?_getD,List.getElem?_eq_getElem hi,Option.getD_some];exact (List.getElem_cons_drop hi).symm
theorem aj.fzd {P:Program} {f:FuncId} {args:Array Value} {H:ad} {K:Value->ad->Prop} (h:aj P f args H K) (hK:∀v H' fz,K v H'->K v (H'.ai fz)):aj P f args H (fun v H'=>K v H'/\∀c,H'.fz c=H.fz c):=
 aj.told (h.mono fun v H' _ hk=>⟨hK _ _ _ hk,fun _=>rfl⟩)
structure OF (H H':ad):Prop where
 aE:bc H H'
 fz:∀c,c < H.next->H'.fz c=H.fz c
theorem OF.refl (H:ad):OF H H:=⟨bc.refl H,fun _ _=>rfl⟩
theorem OF.trans {H H1 H2:ad} (h:OF H H1) (h':OF H1 H2):OF H H2:=⟨h.aE.trans h'.aE,fun c hc=>(h'.fz c (Nat.lt_of_lt_of_le hc h.aE.nx)).trans (h.fz c hc)⟩
theorem OF.push {H H1:ad} (h:OF H H1) (B:ct) (hB:B.ro=false:=by rfl):OF H (H1.push B):=h.trans ⟨bc.push H1 B hB,fun c hc=>by
 show (c==H1.next||H1.fz c)=_
 rw [show (c==H1.next)=false from by rw [beq_eq_false_iff_ne];omega,Bool.false_or]⟩
theorem OF.told {H H1:ad} (h:OF H H1):OF H (H1.ai H.fz):=⟨((h.aE.fr []).ai _).aE,fun _ _=>rfl⟩
theorem bc.of {H H':ad} (h:bc H H') (hz:∀c,H'.fz c=H.fz c):OF H H':=⟨h,fun c _=>hz c⟩
abbrev uV (s:Nat):Value:=.int .u64 (s:Int)
section
variable {P:Program} {h:KH} {t:TypeId}
theorem Nt {n:Nat} (hn:n < 18446744073709551616):oZ .u64 (Int.ofNat n)=(n:Int):=by
 show (bif Nat.blt n 18446744073709551616 then Int.ofNat n else _)=_
 rw [show Nat.blt n 18446744073709551616=true from by simp [blt_eq,hn],cond_true];rfl
theorem ago {n:Nat} (hn:n < 18446744073709551616):xI .u64 (Int.ofNat n)=n:=Nat.mod_eq_of_lt hn
end
abbrev uR:Rp Nat:=.flat 1 (by decide) (fun s=>[uV s]) fun _=>rfl
structure alK (n:aH):Prop where
 a:n.args.length < 1000000
 b:n.ak.length < 1000000
 s:∀x∈n.ak,x.aX.length < 100000
section
variable {P:Program} {h:KH} {t:TypeId}
theorem adj {a:Nat}:eB P .shr t (uV a) (.int .u64 32) h=.ok (uV (a / 4294967296)) h:=by
 have h1:mh P .shr t (uV a) (.int .u64 32)=some (.int .u64 (Int.fdiv (Int.ofNat a) (Int.ofNat 4294967296))):=rfl
 rw [show Int.fdiv (Int.ofNat a) (Int.ofNat 4294967296)=((a / 4294967296:Nat):Int) from (Int.fdiv_eq_ediv_of_nonneg _ (Int.natCast_nonneg 4294967296)).trans rfl] at h1
 simp only [eB,h1]
theorem Q4 {a:Nat} (ha:a < 18446744073709551616):eB P .and t (uV a) (.int .u64 4294967295) h=.ok (uV (a % 4294967296)) h:=by
 have h1:mh P .and t (uV a) (.int .u64 4294967295)=some (.int .u64 (oZ .u64 (Int.ofNat (Nat.land (xI .u64 (Int.ofNat a)) 4294967295)))):=rfl
 rw [ago ha,show Nat.land a 4294967295=a % 4294967296 from Nat.and_two_pow_sub_one_eq_mod a 32,Nt (by omega)] at h1
 simp only [eB,h1]
theorem Nu {a b:Nat} (ha:a * b < 18446744073709551616):eB P .mul t (uV a) (uV b) h=.ok (uV (a * b)) h:=by
 have h1:mh P .mul t (uV a) (uV b)=some (.int .u64 (oZ .u64 (Int.ofNat a * Int.ofNat b))):=rfl
 rw [show Int.ofNat a * Int.ofNat b=Int.ofNat (a * b) from rfl,Nt ha] at h1
 simp only [eB,h1]
theorem Q5 {a b:Nat} (ha:a+b < 18446744073709551616):eB P .add t (uV a) (uV b) h=.ok (uV (a+b)) h:=by
 have h1:mh P .add t (uV a) (uV b)=some (.int .u64 (oZ .u64 (Int.ofNat a+Int.ofNat b))):=rfl
 rw [show Int.ofNat a+Int.ofNat b=Int.ofNat (a+b) from rfl,Nt ha] at h1
 simp only [eB,h1]
end
theorem adk {H:ad} {a n:Nat} (ha:a < 65536) (hn:n < 4294967296):aj Tryz.prog 132 #[uV a,uV n] H (fun r H'=>r=.tuple #[uV 0,uV (a * n)]/\H=H'):=by
 refine aeD (Nat.le_refl _) fun hf=>?_
 simp only [Tryz.f132,Option.getD_some]
 have a0:a / 4294967296=0:=Nat.div_eq_of_lt (by omega)
 have n0:n / 4294967296=0:=Nat.div_eq_of_lt (by omega)
 have am:a % 4294967296=a:=Nat.mod_eq_of_lt (by omega)
 have nm:n % 4294967296=n:=Nat.mod_eq_of_lt (by omega)
 have hm:a * n < 65536 * 4294967296:=by
  rcases Nat.eq_zero_or_pos n with h | h
  ·subst h;simp
  ·exact Nat.lt_of_lt_of_le (Nat.mul_lt_mul_of_pos_right ha h) (Nat.mul_le_mul_left _ (by omega))
 obtain ⟨z,hz⟩:∃z,z=0:=⟨0,rfl⟩
 rw [<-hz] at a0 n0
 have TU:z * n=z:=by rw [hz,Nat.zero_mul]
 have IF:a * z=z:=by rw [hz,Nat.mul_zero]
 have hz3:z * z=z:=by rw [hz]
 have hz4:z < 1000:=by omega
 obtain ⟨m,vv⟩:∃m,m=a * n:=⟨_,rfl⟩
 have hzz:z+z=z:=by omega
 rw [<-vv] at hm
 have hd:(m / 4294967296 % 4294967296+z) / 4294967296=z:=by omega
 have Fj:(m / 4294967296) / 4294967296=z:=by omega
 have c1:z+m / 4294967296=m / 4294967296:=by omega
 have Bi:a < 18446744073709551616:=by omega
 have rv:n < 18446744073709551616:=by omega
 have B7:a * n < 18446744073709551616:=by omega
 have hq:m / 4294967296 < 18446744073709551616:=by omega
 have hqq:m / 4294967296 % 4294967296+z < 18446744073709551616:=by omega
 have q1:z * n < 18446744073709551616:=by omega
 have q2:a * z < 18446744073709551616:=by omega
 have q3:z * z < 18446744073709551616:=by omega
 have q4:z+z < 18446744073709551616:=by omega
 have q5:z+m / 4294967296 < 18446744073709551616:=by omega
 simp only [go_sem,Q4 Bi,adj,Q4 rv,a0,n0,am,nm,Nu B7,Nu q1,<-vv,TU,Q5 q5,c1,Q4 hq,Nu q2,IF,Q5 hqq,Nu q3,hz3,Fj,Q5 q4,hzz,hd]
 rw [hz]
theorem aiO {H:ad} {a n:Nat} (ha:a < 65536) (hn:n < 4294967296):aj Tryz.prog 97 #[uV a,uV n] H (fun r H'=>r=.tuple #[uV 0,uV (a * n)]/\H=H'):=by
 refine ahX (Nat.le_refl _) fun hf=>?_
 simp only [Tryz.f97,Option.getD_some]
 simp only [go_sem]
 refine af.by (adk ha hn) ?_
 rintro _ _ - ⟨rfl,rfl⟩
 simp only [go_sem]
theorem XN {P:Program} {H:ad} {t e:TypeId} {sz b b2 o o2 dn n c c2:Nat} {B B2:ct} (he:iL P t=some (e,sz)) (py:H.get b2=some B2) (h2:o2+min n dn * sz<=B2.cells.length) (hB:H.get b=some B) (h1:o+min n dn * sz<=B.cells.length) (oa:B.ro=false) (RN:j5 ((B2.cells.drop o2).take (min n dn * sz))=true):
  AQ P t (.slice (some ⟨b,o,none⟩) dn c) (.slice (some ⟨b2,o2,none⟩) n c2) H=.ok (iV (min n dn:Nat)) (H.ah b ⟨cT B.cells o ((B2.cells.drop o2).take (min n dn * sz)),B.elem,B.gW,false⟩):=by
 obtain ⟨hu,hs⟩:=MV he
 have hl:((B2.cells.drop o2).take (min n dn * sz)).length=min n dn * sz:=by rw [List.length_take,List.length_drop];omega
 simp only [AQ,hu,hs,py]
 rw [if_pos h2]
 simp only [qg,hB]
 rw [if_pos ⟨by rw [hl];exact h1,RN,oa⟩]
 rfl
theorem OB:∀n,eO [iV 0] n=(List.replicate n 0).map iV
 | 0=>rfl
 | n+1=>by rw [List.replicate_succ,List.map_cons,<-OB n];rfl
theorem abe {x:Int} {k n m:Nat} (h:m<=k) (h2:k+m<=n):cT ((List.replicate k x++List.replicate (n - k) 0).map iV) k (((List.replicate k x++List.replicate (n - k) 0).map iV).take m)=((List.replicate (k+m) x++List.replicate (n - (k+m)) 0).map iV):=by
 unfold cT
 simp only [List.map_append,List.map_replicate]
 rw [List.take_left' (by simp),List.take_append_of_le_length (by simp;omega),List.take_replicate,Nat.min_eq_left h,List.length_replicate,List.drop_append]
 rw [List.drop_of_length_le (by simp)]
 simp only [List.length_replicate,List.nil_append,List.drop_replicate,List.replicate_append_replicate]
 rw [show n - k - (k+m - k)=n - (k+m) by omega,<-List.append_assoc,List.replicate_append_replicate]
theorem Jr:∀l:List Int,j5 (l.map iV)=true
 | []=>rfl
 | x::l=>by rw [List.map_cons,P8,Jr l];rfl
theorem acA {H:ad} {b o c:Nat} {x:Int} {B:ct} {n:Nat} (hB:H.get b=some B) (hc:B.cells[o]?=some (iV x)) (hn:n < 100000):
  aj Tryz.prog 73 #[.slice (some ⟨b,o,none⟩) 1 c,iV (n:Nat)] H (fun v H'=>bc H H'/\v=.slice (some ⟨H.next,0,none⟩) n n/\H.next < H'.next/\H'.get H.next=some ⟨(List.replicate n x).map iV,3,false,false⟩):=by
 refine aj.told ?_
 refine ahn (Nat.le_refl _) fun hf=>?_
 simp only [Tryz.f73,Option.getD_some]
 have hx:H.fz H.next=false:=hf.fresh (Nat.le_refl _)
 have zI:fQ Tryz.prog 3=some [iV 0]:=by kernel_rfl
 have eL:iL Tryz.prog 22=some (3,1):=by kernel_rfl
 have aZ:=hf.Cw hB
 have b7:o < B.cells.length:=(List.getElem?_eq_some_iff.1 hc).1
 have ug:B.cells.drop o=iV x::B.cells.drop (o+1):=by
  rw [<-List.getElem_cons_drop b7];congr 1;exact (List.getElem?_eq_some_iff.1 hc).2
 have cu:¬((n:Nat):Int) < 0:=by omega
 have hm:=aiO (H:=H) (a:=1) (n:=n) (by decide) (by omega)
 have c1:∀{n:Nat} {H:ad},n < 100000->rV Tryz.prog 3 120 (iV (n:Nat)) H=.ok (uV n) H:=fun {n H} hn=>by
  rw [DW (ks:=.i64) (kd:=.u64) (by kernel_rfl) (by kernel_rfl)]
  show _=AO.ok (.int .u64 (n:Int)) H
  rw [show IntKind.wrap .u64 (n:Int)=(n:Int) from by rw [<-qd];exact Nt (by omega)]
 have c2:∀{n:Nat} {H:ad},n < 100000->rV Tryz.prog 120 3 (uV n) H=.ok (iV (n:Nat)) H:=fun {n H} hn=>by
  rw [DW (ks:=.u64) (kd:=.i64) (by kernel_rfl) (by kernel_rfl)]
  rw [show IntKind.wrap .i64 (n:Int)=(n:Int) from uz (by omega) (by omega)]
 simp only [go_sem,cu,c1 (show 1 < 100000 by decide),c1 hn]
 refine af.by hm ?_
 rintro _ _ - ⟨rfl,rfl⟩
 rw [Nat.one_mul]
 have nP:¬(9223372036854775807:Int) < ((n:Nat):Int):=by omega
 have Ci:¬(0:Int) < ((0:Nat):Int):=by omega
 simp only [go_sem,Ci,nP,c2 hn,QH q9 zI (by decide) (Nat.le_refl n) (by omega) (by omega)]
 have hBp:(H.push ⟨eO [iV 0] n,3,false,false⟩).get b=some B:=by rw [bS aZ];exact hB
 have rv:(eO [iV 0] n).length=n:=by rw [OB];simp
 have PJ:B.cells.length<=o+1+B.cells.length:=by omega
 have e1:AQ Tryz.prog 22 (.slice (some ⟨H.next,0,none⟩) n n) (.slice (some ⟨b,o,none⟩) 1 c) (H.push ⟨eO [iV 0] n,3,false,false⟩)=.ok (iV (min 1 n:Nat)) ((H.push ⟨eO [iV 0] n,3,false,false⟩).ah H.next ⟨(List.replicate (min 1 n) x++List.replicate (n - min 1 n) 0).map iV,3,false,false⟩):=by
  have RN:j5 ((B.cells.drop o).take (min 1 n * 1))=true:=by
   rw [ug]
   rcases Nat.eq_zero_or_pos n with h | h
   ·subst h;rfl
   ·rw [Nat.min_eq_left h];rfl
  rw [XN eL hBp (by omega) (by rw [aU,if_pos rfl]) (by show 0+min 1 n * 1<=(eO [iV 0] n).length;omega) rfl RN]
  congr 3
  rw [ug,OB]
  unfold cT
  rcases Nat.eq_zero_or_pos n with h | h
  ·subst h;rfl
  ·obtain ⟨m,rfl⟩:∃m,n=m+1:=⟨n - 1,by omega⟩
   rw [Nat.min_eq_left h];rfl
 simp only [go_sem,e1,hx]
 refine lp 140720308486400 (fun m V H1=>∃k,k+m=n/\(1<=k∨n=0)/\V 8=iV (k:Nat)/\bc H H1/\H.next < H1.next/\H1.get H.next=some ⟨(List.replicate k x++List.replicate (n - k) 0).map iV,3,false,false⟩) (n:=n - min 1 n)
  ⟨min 1 n,by omega,by omega,by simp only [go_sem] <;> rfl,bc.push _ _,Nat.lt_succ_self _,by rw [aU,if_pos rfl]⟩ ?_ (by rfl)
 rintro m V H1 ⟨k,wI,y8,ek,o1,n1,g1⟩
 by_cases PS:k < n
 ·have th:((List.replicate k x++List.replicate (n - k) 0).map iV).length=n:=by simp;omega
  have fe:min k (n - k)<=k:=Nat.min_le_left _ _
  have fj:min k (n - k)<=n - k:=Nat.min_le_right _ _
  have oh:1<=min k (n - k):=by omega
  have F3:IntKind.wrap .i64 (((k:Nat):Int)+((min k (n - k):Nat):Int))=((k+min k (n - k):Nat):Int):=uz (by omega) (by omega)
  have e2:=XN (P:=Tryz.prog) (t:=22) (b:=H.next) (o:=0+k * 1) (dn:=n - k) (c:=n - k) (n:=k) (c2:=n) (o2:=0) eL g1 (by show 0+min k (n - k) * 1<=((List.replicate k x++List.replicate (n - k) 0).map iV).length;rw [th];omega) g1 (by show 0+k * 1+min k (n - k) * 1<=((List.replicate k x++List.replicate (n - k) 0).map iV).length;rw [th];omega) rfl (by
   show j5 (List.take (min k (n - k) * 1) (List.drop 0 ((List.replicate k x++List.replicate (n - k) 0).map iV)))=true
   rw [List.drop_zero,<-List.map_take];exact Jr _)
  have gJ:H.fz H.next=false:=hx
  have eu:=abe (x:=x) (k:=k) (n:=n) (m:=min k (n - k)) fe (by omega)
  rw [<-Nat.mul_one (min k (n - k)),Nat.mul_one] at eu
  have e3:cT ((List.replicate k x++List.replicate (n - k) 0).map iV) (0+k * 1) (((List.replicate k x++List.replicate (n - k) 0).map iV).drop 0 |>.take (min k (n - k) * 1))=(List.replicate (k+min k (n - k)) x++List.replicate (n - (k+min k (n - k))) 0).map iV:=by
   rw [List.drop_zero,Nat.mul_one,Nat.mul_one,Nat.zero_add];exact eu
  simp only [] at e2
  rw [e3] at e2
  simp only [Nat.zero_add,Nat.mul_one] at e2
  simp only [go_sem,Option.map_some,Option.map_none,ek,PS,Qc (b:=H.next) (o:=0) (n:=n) (c:=n) eL (Nat.le_of_lt PS) (Nat.le_refl n) (.inl PS),MW (b:=H.next) (o:=0) (n:=n) (c:=n) eL (Nat.le_of_lt PS),e2,gJ,F3]
  exact ⟨m - min k (n - k),by omega,k+min k (n - k),by omega,.inl (by omega),rfl,o1.ah (Nat.le_refl _) _,n1,rfl⟩
 ·have alL:k=n:=by omega
  subst alL
  have vf:¬k < k:=by omega
  rw [Nat.sub_self,List.replicate_zero,List.append_nil] at g1
  simp only [go_sem,ek,vf]
  exact ⟨(o1.fr [] |>.ai _).aE,n1,g1⟩
end Go.Proofs.YtinjmfblebpnnaaGreat.Ab
