/- Lemmas for the walk, part 6. -/
import Derived.Test.YtinjmfblebpnnaaGreatC5
set_option linter.unusedVariables false
set_option linter.unusedSimpArgs false
set_option maxRecDepth 100000
set_option maxHeartbeats 16000000
namespace Go.Proofs.YtinjmfblebpnnaaGreat.Ab
open Go
section
variable {S:XS} {P:bw} {gP:List Nat} {H H1 H2:ad} {r:Nat} {t t1 t2:VT} {m g g1 g2 mi dE dJ:List Nat}
theorem RA.rr (h:RA S P gP H r t m g mi H1 t1):RR S P gP H r t m g mi H1 t1 g mi:=
 ⟨h.fr.sub fun c hc=>.inl (by rw [List.mem_singleton] at hc;simp [hc]),h.rq,by rw [h.ns],fun _ h=>.inl h,fun _ h=>.inl h,h.b0.fz,h.b0.fm,h.b0.fi,h.b0.fn⟩
theorem RR.fE (h:RR S P gP H r t m g mi H1 t1 g1 dE) (fz:Nat->Bool) (hz:∀c,fz c=H.fz c):RR S P gP H r t m g mi (H1.ai fz) t1 g1 dE:=by
 rw [show fz=H.fz from funext hz];exact h.told
structure ER (H:ad) (n:aG) (vA vP vB:Value) (gA gQ gB:List Nat):Prop where
 a:Sl jO H vA n.args gA
 q:Sl fJ H vP n.pat gQ
 b:Sl dG H vB n.au gB
theorem ER.af {n:aG} {vA vP vB:Value} {gA gQ gB:List Nat} (h:ER H n vA vP vB gA gQ gB) (hk:∀c∈gA++(gQ++gB),H1.get c=H.get c):ER H1 n vA vP vB gA gQ gB:=
 ⟨h.a.af fun c hc=>hk c (by simp [hc]),h.q.af fun c hc=>hk c (by simp [hc]),h.b.af fun c hc=>hk c (by simp [hc])⟩
theorem Kn {b:Nat} {A B:cw}:(H.ah b A).ah b B=H.ah b B:=by
 unfold ad.ah
 congr 1
 funext x
 by_cases hx:x=b <;> simp [hx]
theorem RQ0.node (h:RQ0 S P gP H r t m g mi) {k:Nat} (hk:k < t.ns.length):∃vI b cs vA vP vB gA gQ gB,H.get r=some ⟨rC S (.slice (some ⟨b,0,none⟩) t.ns.length t.ns.length) vI t,136,false,false⟩/\jJ H vI t.aK mi/\m=[b]/\H.get b=some ⟨cs,42,true,false⟩/\k * 20+20<=cs.length/\(cs.drop (k * 20)).take 20=aJ (t.ns.getD k {}) vA vP vB/\ER H (t.ns.getD k {}) vA vP vB gA gQ gB/\∀c∈gA++(gQ++gB),c∈g:=by
 obtain ⟨vN,vI,hr,cB,hI⟩:=h.row
 obtain ⟨b,cs,f1,f2,f3,rfl,rfl,hb,fk,rfl,de,hE,_⟩:=cB.put hk
 obtain ⟨wA,wP,wB,e1,e2,e3,aX,rfl,s1,s2,s3⟩:=hE
 have kX:(t.ns.getD k {})=t.ns[k]:=by rw [List.getD_eq_getElem?_getD,List.getElem?_eq_getElem hk];rfl
 rw [kX]
 exact ⟨vI,b,cs,wA,wP,wB,e1,e2,e3,hr,hI,rfl,hb,de,aX,⟨s1,s2,s3⟩,fun c hc=>by simp only [List.mem_append] at hc ⊢;rcases hc with e | e | e <;> simp [e]⟩
theorem RR.TO (h:RR S P gP H r t m g mi H1 t1 g1 dE) {k:Nat} (hk:k < t1.ns.length) {n:aG} {vA vP vB:Value} {gA gQ gB:List Nat} (hn:ER H1 n vA vP vB gA gQ gB) (hg:∀c∈gA++(gQ++gB),c < H1.next/\c≠r/\c∉m/\c∉dE/\(c∈g∨H.next<=c)):
  ∃vI b cs,H1.get r=some ⟨rC S (.slice (some ⟨b,0,none⟩) t1.ns.length t1.ns.length) vI t1,136,false,false⟩/\b∈m/\H1.get b=some ⟨cs,42,true,false⟩/\k * 20+20<=cs.length/\
  ∃g2,RR S P gP H r t m g mi (H1.ah b ⟨cW cs (k * 20) (aJ n vA vP vB),42,true,false⟩) {t1 with ns:=t1.ns.set k n} g2 dE/\∀c∈g2,c∈g1∨c∈gA++(gQ++gB):=by
 have q:=h.rq
 obtain ⟨vN,vI,hr,cB,hI⟩:=q.row
 obtain ⟨b,cs,f1,f2,f3,rfl,rfl,hb,fk,rfl,de,hE,oW⟩:=cB.put hk
 obtain ⟨ik,ft,fB,oK,iG⟩:=q.hm b (by simp)
 have kg:∀c,c≠b->(H1.ah b ⟨cW cs (k * 20) (aJ n vA vP vB),42,true,false⟩).get c=H1.get c:=fun c hc=>by rw [az,if_neg hc]
 have q8:∀c∈f1++(f2++f3),c≠b:=fun c hc e=>oK (e▸hc)
 have Wx:∀c∈gA++(gQ++gB),c≠b:=fun c hc e=>(hg c hc).2.2.1 (by simp [e])
 have iL:=hn.af (H1:=H1.ah b ⟨cW cs (k * 20) (aJ n vA vP vB),42,true,false⟩) fun c hc=>kg c (Wx c hc)
 have bH:=oW (H1.ah b ⟨cW cs (k * 20) (aJ n vA vP vB),42,true,false⟩) (aJ n vA vP vB) n (gA++(gQ++gB)) (fun z hz=>kg z (q8 z (by rcases hz with e | e <;> simp [e]))) (by rw [az,if_pos rfl];rfl) ⟨vA,vP,vB,gA,gQ,gB,rfl,rfl,iL.a,iL.q,iL.b⟩ (fun e=>Wx b e rfl)
 have kP:∀c∈gP,(H1.ah b ⟨cW cs (k * 20) (aJ n vA vP vB),42,true,false⟩).get c=H1.get c:=fun c hc=>kg c fun e=>fB (e▸hc)
 have mem:∀c∈f1++((gA++(gQ++gB))++f3),c∈f1++(f2++f3)∨c∈gA++(gQ++gB):=fun c hc=>by
  simp only [List.mem_append] at hc ⊢
  rcases hc with e | (e | e | e) | e <;> simp [e]
 refine ⟨vI,b,cs,hr,by simp,hb,de,f1++((gA++(gQ++gB))++f3),⟨h.fr.ah (.inl (by simp)) _,{row:=⟨_,vI,(kg r (Ne.symm ft)).trans hr,bH,hI.af fun c hc=>kg c fun e=>iG (e▸hc)⟩,sM:=q.sM.af kP,sR:=q.sR.af kP,sD:=q.sD.af kP,rl:=q.rl,hm:=fun c hc=>?_,hi:=fun c hc=>⟨(q.hi c hc).1,(q.hi c hc).2.1,(q.hi c hc).2.2.1,fun e=>(mem c e).elim (q.hi c hc).2.2.2 fun e=>(hg c e).2.2.2.1 hc⟩,hg:=fun c hc=>(mem c hc).elim (q.hg c) fun e=>⟨(hg c e).1,(hg c e).2.1⟩,hP:=q.hP,fz:=q.fz,fm:=q.fm,fi:=q.fi,fn:=q.fn},by rw [List.length_set];exact h.le,h.si,fun c hc=>(mem c hc).elim (h.sg c) fun e=>(hg c e).2.2.2.2,h.z0,h.zm,h.zi,h.zn⟩,mem⟩
 rw [List.mem_singleton] at hc
 subst hc
 exact ⟨ik,ft,fB,fun e=>(mem _ e).elim oK fun e=>Wx _ e rfl,iG⟩
theorem RR.sL (h:RR S P gP H r t m g mi H1 t1 g1 dE) {k j:Nat} (hk:k < t1.ns.length) (hj:j < 17) {v:Value} {n':aG} (hn:∀wA wP wB,(aJ (t1.ns.getD k {}) wA wP wB).set j v=aJ n' wA wP wB) (ha:n'.args=(t1.ns.getD k {}).args) (hp:n'.pat=(t1.ns.getD k {}).pat) (cY:n'.au=(t1.ns.getD k {}).au):
  ∃vI b cs,H1.get r=some ⟨rC S (.slice (some ⟨b,0,none⟩) t1.ns.length t1.ns.length) vI t1,136,false,false⟩/\b∈m/\H1.get b=some ⟨cs,42,true,false⟩/\k * 20+20<=cs.length/\
  ∃g2,RR S P gP H r t m g mi (H1.ah b ⟨cs.set (k * 20+j) v,42,true,false⟩) {t1 with ns:=t1.ns.set k n'} g2 dE:=by
 obtain ⟨vI,b,cs,vA,vP,vB,gA,gQ,gB,hr,hI,fZ,hb,de,aX,i6,tJ⟩:=h.rq.toRQ0.node hk
 have fZ:b∈m:=by rw [fZ];simp
 have q:=h.rq
 obtain ⟨vI',b',fW,iE,awT,dY,awU,g2,h2,_⟩:=h.TO hk (n:=n') (vA:=vA) (vP:=vP) (vB:=vB) (gA:=gA) (gQ:=gQ) (gB:=gB) ⟨ha▸i6.a,hp▸i6.q,cY▸i6.b⟩ fun c hc=>⟨(q.hg c (tJ c hc)).1,(q.hg c (tJ c hc)).2,fun e=>(q.hm c e).2.2.2.1 (tJ c hc),fun e=>(q.hi c e).2.2.2 (tJ c hc),h.sg c (tJ c hc)⟩
 rw [hr] at iE
 simp only [rC,Option.some.injEq,cw.mk.injEq,List.cons.injEq,Value.slice.injEq,Addr.mk.injEq,and_true,true_and] at iE
 obtain ⟨rfl,_⟩:=iE
 rw [hb] at dY
 simp only [Option.some.injEq,cw.mk.injEq,and_true] at dY
 subst dY
 have be:k * 20+j < cs.length:=by omega
 have eJ:cs.set (k * 20+j) v=cW cs (k * 20) (aJ n' vA vP vB):=by
  have:=xQ (vs:=[v]) aX (k:=j) (by show j+1<=20;omega) de
  rw [eW be] at this
  rw [this,<-hn vA vP vB]
  have e:cW (aJ (t1.ns.getD k {}) vA vP vB) j [v]=(aJ (t1.ns.getD k {}) vA vP vB).set j v:=eW (by show j < 20;omega)
  rw [e]
 exact ⟨vI,b,cs,hr,fZ,hb,de,g2,eJ▸h2⟩
end
theorem Yt:∀(l:List bf) (s:bf) (i:Nat),0<=findF s i l->∃k,findF s i l=((i+k:Nat):Int)/\k < l.length
 | [],s,i,h=>by simp [findF] at h
 | x::l,s,i,h=>by
  rw [findF] at h ⊢
  by_cases hx:x=s
  ·rw [if_pos hx];exact ⟨0,by simp,by simp⟩
  ·rw [if_neg hx] at h ⊢
   obtain ⟨k,h1,h2⟩:=Yt l s (i+1) h
   exact ⟨k+1,by rw [h1];congr 1;omega,by simp;omega⟩
theorem CW {l:List bf} {s:bf} (h:0<=cK l s):∃k:Nat,cK l s=(k:Int)/\k < l.length:=by
 obtain ⟨k,h1,h2⟩:=Yt l s 0 h
 exact ⟨k,by rw [cK,h1];simp,h2⟩
def Bs (b:Prop) [Decidable b] (e:Int) (n:aG) (t:VT):VT:=if b then t.fail e n.line n.aj else t
def IE (n:aG) (t:VT):Nat:=if n.kind=17 then t.inner.toNat else 0
def oj (n:aG) (t:VT):aG × VT:=if n.gu=[] then (n,t)
 else ({n with y:=kC t.aK n.gu (IE n t)},Bs (kC t.aK n.gu (IE n t) < 0) 4 n t)
def ui (n:aG) (aK:List my):List sN->List sN->VT->List sN × VT
 | [],done,t=>(done,t)
 | a::l,done,t=>if a.kind=1 then ui n aK l (done++[a]) t else ui n aK l (done++[{a with n:=kC aK a.name 0}]) (Bs (kC aK a.name 0 < 0) 4 n t)
def KC (x y:Nat) (n:aG) (t:VT):VT:=if ((x:Nat):Int)=((y:Nat):Int) then t else t.fail 6 n.line n.aj
def lj (P:bw) (n:aG) (t:VT):Option aG × VT:=
 if n.kind=9 then (if cK (jn P) n.hU < 0 then (none,t.fail 4 n.line n.aj) else (some {n with f:=cK (jn P) n.hU},KC n.args.length ((P.msgs.getD (cK (jn P) n.hU).toNat ⟨[],[],0,0⟩).types.length) n t))
 else if n.kind=10∨n.kind=13 then (if cK (sI P) n.hU < 0 then (none,t.fail 4 n.line n.aj) else (some {n with f:=cK (sI P) n.hU},KC n.args.length ((P.defs.getD (cK (sI P) n.hU).toNat ⟨[],[],0,0,0,0,false,[],[]⟩).params.length) n t))
 else if n.kind=4∨n.kind=5∨n.kind=6∨n.kind=7 then
  (if n.rc= -1 then (some n,t)
   else if cK (j0 P) n.jy < 0 then (none,t.fail 4 n.line n.aj)
   else (let rc:=cK (j0 P) n.jy
    let fs:=(P.bZ.getD rc.toNat ⟨[],[],0,0⟩).fields
    if n.kind=4 then (some {n with rc:=rc},KC n.args.length fs.length n t)
    else if cK (fs.map (·.name)) n.hU < 0 then (none,t.fail 4 n.line n.aj) else (some {n with rc:=rc,f:=cK (fs.map (·.name)) n.hU},t)))
 else (some n,t)
def OC (P:bw) (n:aG) (t:VT):Option aG × VT:=
 lj P {(oj n t).1 with args:=(ui n t.aK n.args [] (oj n t).2).1} (ui n t.aK n.args [] (oj n t).2).2
def OD (P:bw) (k:Nat) (t:VT):Option VT:=
 if k < t.ns.length/\0<=t.inner/\t.aK.length < 1000000/\(t.ns.getD k {}).args.length < 1000000 then
  some (match (OC P (t.ns.getD k {}) t).1 with
   | some n'=>{(OC P (t.ns.getD k {}) t).2 with ns:=t.ns.set k n'}
   | none=>(OC P (t.ns.getD k {}) t).2)
 else none
theorem acz (n:aG) (t:VT):(oj n t).1.args=n.args/\(oj n t).1.pat=n.pat/\(oj n t).1.au=n.au/\(oj n t).1.line=n.line/\(oj n t).1.aj=n.aj/\(oj n t).2.aK=t.aK/\(oj n t).2.ns=t.ns:=by
 unfold oj
 split
 ·exact ⟨rfl,rfl,rfl,rfl,rfl,rfl,rfl⟩
 ·unfold Bs
  split
  ·exact ⟨rfl,rfl,rfl,rfl,rfl,VT.Rl _ _ _ _,VT.RI _ _ _ _⟩
  ·exact ⟨rfl,rfl,rfl,rfl,rfl,rfl,rfl⟩
section
variable {S:XS} {P:bw} {gP:List Nat} {H H1 H2:ad} {r:Nat} {t t1 t2:VT} {m g g1 g2 mi dE dJ:List Nat}
theorem ahB (h:RQ S P gP H r t m g mi) (hP:zD P) {k:Nat} {t':VT} (he:OD P k t=some t'):ak Tryz.prog 124 #[pV r,iV (k:Nat)] H (fun w H'=>wY S P gP H r t m g mi t' H'):=by
 refine ak.told ?_
 refine qz (l:=[_,_]) _ mixed Tryz.func124 afN [] (show 2<=234 by decide) rfl fun hf=>?_
 simp only [Tryz.f124,Option.getD_some]
 unfold OD at he
 split at he
 case isFalse=>cases he
 rename_i hb
 obtain ⟨hk,i6,de,BY⟩:=hb
 obtain ⟨vI,b,cs,vA,vQ,vB,gA,gQ,gB,hr,hI,fZ,hb,cm,aX,lT,tJ⟩:=h.toRQ0.node hk
 generalize hn:t.ns.getD k {}=n at *
 obtain ⟨aA,kA,rfl⟩:=lT.a.val
 obtain ⟨aQ,kQ,rfl⟩:=lT.q.val
 obtain ⟨aB,kB,rfl⟩:=lT.b.val
 have r1:=((RA.start h).push ⟨aJ n (.slice aA n.args.length kA) (.slice aQ n.pat.length kQ) (.slice aB n.au.length kB),42,false,false⟩).told
 have sj:∀c∈gA++(gQ++gB),c < H.next/\c≠r:=fun c hc=>h.hg c (tJ c hc)
 have dz:H.fz H.next=false:=hf.fresh (Nat.le_refl _)
 have gJ:¬H.next=r:=by have:=h.rl;omega
 have nr:¬r=H.next:=fun e=>gJ e.symm
 refine l8 (qA 2199023255344 (fun V H1=>V 4=pV H.next/\RA S P gP H r t m g mi H1 (oj n t).2/\H1.get H.next=some ⟨aJ (oj n t).1 (.slice aA n.args.length kA) (.slice aQ n.pat.length kQ) (.slice aB n.au.length kB),42,false,false⟩/\H.next < H1.next) ?_ ?_ (by rfl))
 ·obtain ⟨H1,cH⟩:=r1.hp
  have iH:H1.get H.next=some ⟨aJ n (.slice aA n.args.length kA) (.slice aQ n.pat.length kQ) (.slice aB n.au.length kB),42,false,false⟩:=by rw [cH,bg,aV,if_pos rfl]
  have Jv:H1.next=H.next+1:=by rw [cH];rfl
  obtain ⟨vN1,vI1,gI,_,_⟩:=r1.rq.row
  rw [<-cH] at gI
  by_cases hy:n.gu=[]
  ·rw [oj,if_pos hy]
   simp only [go_sem,hr,hk,hb,cm,aX,dz,hy]
   rw [<-cH] at r1 ⊢
   exact ⟨r1,by omega⟩
  ·rw [oj,if_neg hy]
   obtain ⟨ti,Wy⟩:=Int.eq_ofNat_of_zero_le i6
   by_cases Pd:n.kind=17
   ·simp only [go_sem,hr,hk,hb,cm,aX,dz,hy,Pd,Wy,nr]
    rw [<-cH] at r1 ⊢
    refine ag.by (Od r1.rq.toRQ0 de (s:=n.gu) (fr:=ti)) ?_
    rintro _ _ - ⟨rfl,rfl⟩
    have Wz:IE n t=ti:=by rw [IE,if_pos Pd,Wy,Int.toNat_natCast]
    rw [Wz]
    have r2:=(r1.own (M:=[H.next]) ((Fr.refl _ _).ah (b:=H.next) (.inl (by simp)) ⟨aJ {n with y:=kC t.aK n.gu ti} (.slice aA n.args.length kA) (.slice aQ n.pat.length kQ) (.slice aB n.au.length kB),42,false,false⟩) (by simp) fun _ _=>rfl).told
    obtain ⟨H2,wo⟩:=r2.hp
    have nj:H2.get H.next=some ⟨aJ {n with y:=kC t.aK n.gu ti} (.slice aA n.args.length kA) (.slice aQ n.pat.length kQ) (.slice aB n.au.length kB),42,false,false⟩:=by rw [wo,bg,az,if_pos rfl]
    have nx2:H2.next=H1.next:=by rw [wo];rfl
    by_cases cA:kC t.aK n.gu ti < 0
    ·rw [Bs,if_pos cA]
     simp only [go_sem,iH,dz,cA]
     rw [<-wo] at r2 ⊢
     refine ag.by (jb r2.rq) ?_
     rintro _ H3 - p3
     have n3:H2.next<=H3.next:=p3.fr.nx
     simp only [go_sem]
     exact ⟨(r2.call p3).told,(p3.fr.get H.next (by omega) (by simp [gJ])).trans nj,by omega⟩
    ·rw [Bs,if_neg cA]
     simp only [go_sem,iH,dz,cA]
     rw [<-wo] at r2 ⊢
     exact ⟨r2,by omega⟩
   ·simp only [go_sem,hr,hk,hb,cm,aX,dz,hy,Pd,Wy,nr]
    rw [<-cH] at r1 ⊢
    refine ag.by (Od r1.rq.toRQ0 de (s:=n.gu) (fr:=0)) ?_
    rintro _ _ - ⟨rfl,rfl⟩
    have Wz:IE n t=0:=by rw [IE,if_neg Pd]
    rw [Wz]
    have r2:=(r1.own (M:=[H.next]) ((Fr.refl _ _).ah (b:=H.next) (.inl (by simp)) ⟨aJ {n with y:=kC t.aK n.gu 0} (.slice aA n.args.length kA) (.slice aQ n.pat.length kQ) (.slice aB n.au.length kB),42,false,false⟩) (by simp) fun _ _=>rfl).told
    obtain ⟨H2,wo⟩:=r2.hp
    have nj:H2.get H.next=some ⟨aJ {n with y:=kC t.aK n.gu 0} (.slice aA n.args.length kA) (.slice aQ n.pat.length kQ) (.slice aB n.au.length kB),42,false,false⟩:=by rw [wo,bg,az,if_pos rfl]
    have nx2:H2.next=H1.next:=by rw [wo];rfl
    by_cases cA:kC t.aK n.gu 0 < 0
    ·rw [Bs,if_pos cA]
     simp only [go_sem,iH,dz,cA]
     rw [<-wo] at r2 ⊢
     refine ag.by (jb r2.rq) ?_
     rintro _ H3 - p3
     have n3:H2.next<=H3.next:=p3.fr.nx
     simp only [go_sem]
     exact ⟨(r2.call p3).told,(p3.fr.get H.next (by omega) (by simp [gJ])).trans nj,by omega⟩
    ·rw [Bs,if_neg cA]
     simp only [go_sem,iH,dz,cA]
     rw [<-wo] at r2 ⊢
     exact ⟨r2,by omega⟩
 ·rintro V H1 ⟨e4,r2,nj,n2⟩
  obtain ⟨ka,kp,kb,kl,kc,ki,kn⟩:=acz n t
  have eU:OC P n t=lj P {(oj n t).1 with args:=(ui n t.aK n.args [] (oj n t).2).1} (ui n t.aK n.args [] (oj n t).2).2:=rfl
  rw [eU] at he
  clear eU
  generalize (oj n t).1=n1 at *
  generalize (oj n t).2=t1 at *
  have lo1:∀c,c < H.next->c≠r->H1.get c=H.get c:=fun c h1 h2=>r2.k h1 h2
  refine l8 (qA 604462909805115564097728 (fun _ H3=>∃lC mA,RA S P gP H r t m g mi H3 (ui n t.aK n.args [] t1).2/\H3.get H.next=some ⟨aJ {n1 with args:=(ui n t.aK n.args [] t1).1} (.slice lC n.args.length n.args.length) (.slice aQ n.pat.length kQ) (.slice aB n.au.length kB),42,false,false⟩/\Sl jO H3 (.slice lC n.args.length n.args.length) (ui n t.aK n.args [] t1).1 mA/\(∀d∈mA,H.next < d/\d < H3.next)/\H.next < H3.next) ?_ ?_ (by rfl))
  ·simp only [go_sem,e4,nj]
   refine xW (r:=jO) qE (lT.a.af (H':=H1) fun c hc=>lo1 c (sj c (by simp [hc])).1 (sj c (by simp [hc])).2) (by
    have:n.args.length * 1000<=1000000 * 1000:=Nat.mul_le_mul (by omega) (Nat.le_refl _)
    omega) (fun c hc=>by have:=(sj c (by simp [hc])).1;omega) ?_
   intro vL H2 mL gL cB qi iR
   have kX:=cB.flat
   subst kX
   obtain ⟨aL,qj⟩:=cB.val
   subst qj
   obtain ⟨r3,gq,k2,eQ⟩:RA S P gP H r t m g mi H2 t1/\(∀d∈mL,H1.next<=d/\d < H2.next)/\(∀d,d < H1.next->H2.get d=H1.get d)/\H1.next<=H2.next:=by
    rcases iR with ⟨rfl,rfl⟩ | ⟨rfl,cs,rfl⟩
    ·exact ⟨r2,by simp,fun _ _=>rfl,Nat.le_refl _⟩
    ·exact ⟨r2.push _,fun d hd=>by rw [List.mem_singleton] at hd;subst hd;exact ⟨Nat.le_refl _,Nat.lt_succ_self _⟩,fun d hd=>bX hd,Nat.le_succ _⟩
   have nu:=(k2 H.next n2).trans nj
   have r4:=(r3.own (M:=[H.next]) ((Fr.refl _ _).ah (b:=H.next) (.inl (by simp)) ⟨aJ n1 (.slice aL n.args.length n.args.length) (.slice aQ n.pat.length kQ) (.slice aB n.au.length kB),42,false,false⟩) (by simp) fun _ _=>rfl).told
   obtain ⟨H4,dB⟩:=r4.hp
   have AM:H4.get H.next=some ⟨aJ n1 (.slice aL n.args.length n.args.length) (.slice aQ n.pat.length kQ) (.slice aB n.au.length kB),42,false,false⟩:=by rw [dB,bg,az,if_pos rfl]
   have k4:∀d,d≠H.next->H4.get d=H2.get d:=fun d hd=>by rw [dB,bg,az,if_neg hd]
   have GL:H4.next=H2.next:=by rw [dB];rfl
   simp only [go_sem,e4,nu,dz]
   rw [<-dB] at r4 ⊢
   clear dB
   have oU:=cB.af (H':=H4) (fun d hd=>k4 d (by have:=(gq d hd).1;omega)) (by simp)
   refine qH 604462909525839610642624 n.args.length (fun i V3 H5=>V3 48=iV (i:Nat)/\∃done t5,RA S P gP H r t m g mi H5 t5/\H5.get H.next=some ⟨aJ n1 (.slice aL n.args.length n.args.length) (.slice aQ n.pat.length kQ) (.slice aB n.au.length kB),42,false,false⟩/\Gr jO 44 H5 (.slice aL n.args.length n.args.length) (done++n.args.drop i) mL []/\H4.next<=H5.next/\done.length=i/\ui n t.aK n.args [] t1=ui n t.aK (n.args.drop i) done t5)
    ⟨by simp only [go_sem] <;> rfl,[],t1,r4,AM,oU,Nat.le_refl _,rfl,rfl⟩ ?_ ?_ (by rfl)
   ·rintro i V3 H5 hi ⟨ei,done,t5,r5,dO,lL,xC,df,rv⟩
    have hx:n.args[i]?=some (n.args[i]'hi):=List.getElem?_eq_getElem hi
    have cE:n.args.drop i=(n.args[i]'hi)::n.args.drop (i+1):=(List.getElem_cons_drop hi).symm
    generalize (n.args[i]'hi)=x at hx cE
    obtain ⟨xk,xn,xs⟩:=x
    rw [cE] at lL rv
    rw [ui] at rv
    have Lw:i < (done++⟨xk,xn,xs⟩::n.args.drop (i+1)).length:=by rw [List.length_append,List.length_cons];omega
    have pZ:(done++⟨xk,xn,xs⟩::n.args.drop (i+1))[i]'Lw=⟨xk,xn,xs⟩:=by subst df;simp
    have fh:∀y:sN,(done++⟨xk,xn,xs⟩::n.args.drop (i+1)).set i y=(done++[y])++n.args.drop (i+1):=fun y=>by subst df;simp
    have ct:IntKind.wrap .i64 (((i:Nat):Int)+1)=((i+1:Nat):Int):=cZ hi (by omega)
    obtain ⟨b5,dH,f1,f2,f3,hv,dC,iG,fk,lZ,iX,hE,oW⟩:=lL.put Lw
    have lZ:=lZ.symm
    simp only [List.append_eq_nil_iff] at lZ
    obtain ⟨rfl,rfl,rfl⟩:=lZ
    rw [pZ] at hE
    have jr:(dH.drop (i * 3)).take 3=[iV xk,iV xn,ae xs]:=hE.1
    have iX:i * 3+3<=dH.length:=iX
    simp only [Value.slice.injEq] at hv
    have iI:=hv.1
    have Pe:b5∈mL:=by rw [dC];simp
    have amr:=gq b5 Pe
    have jh:H.fz b5=false:=hf.fresh (by omega)
    have AB:H.fz H5.next=false:=hf.fresh (by omega)
    have r6:=((r5.told).push ⟨[iV xk,iV xn,ae xs],44,false,false⟩).told
    have AS:i * 3+1 < dH.length:=by omega
    have TP:i * 3+1+1<=dH.length:=by omega
    have Cq:¬b5=H5.next:=by omega
    have awV:¬H5.next=b5:=by omega
    have WA:¬H.next=b5:=by omega
    have JI:¬H.next=H5.next:=by omega
    obtain ⟨H6,eT⟩:=r6.hp
    have dL:H6.get H.next=_:=(by rw [eT,bg,aV,Ey,if_neg JI,bg]:H6.get H.next=H5.get H.next).trans dO
    have Vg:H6.get H5.next=some ⟨[iV xk,iV xn,ae xs],44,false,false⟩:=by rw [eT,bg,aV];exact if_pos rfl
    have Vv:H6.get b5=_:=(by rw [eT,bg,aV,Ey,if_neg Cq,bg]:H6.get b5=H5.get b5).trans iG
    have GI:H6.next=H5.next+1:=by rw [eT];rfl
    have k6:∀d,d < H5.next->H6.get d=H5.get d:=fun d hd=>by rw [eT,bg,bX (by exact hd),bg]
    by_cases zF:xk=1
    ·subst zF
     rw [if_pos rfl] at rv
     simp only [go_sem,ei,hi,iI,iG,iX,jr,AB,ct]
     rw [<-eT]
     refine ⟨done++[⟨1,xn,xs⟩],t5,eT▸r6,by rw [if_neg JI,dO,iI],?_,by omega,by rw [List.length_append,List.length_singleton,df],rv⟩
     have:=lL.af (H':=H6) (fun d hd=>k6 d (by have:=(gq d hd).2;omega)) (by simp)
     rw [iI] at this
     rw [List.append_assoc]
     exact this
    ·rw [if_neg zF] at rv
     have JJ:=r6.rq.toRQ0
     rw [<-eT] at JJ r6
     have ny:t5.aK=t.aK:=r5.aK
     rw [<-ny] at rv
     have r7:=(r6.own (M:=[b5]) ((Fr.refl _ _).ah (b:=b5) (.inl (by simp)) ⟨dH.set (i * 3+1) (iV (kC t5.aK xs 0)),44,true,false⟩) (by simp;omega) fun _ _=>rfl).told
     obtain ⟨H7,cU⟩:=r7.hp
     have k7:∀d,d≠b5->H7.get d=H6.get d:=fun d hd=>by rw [cU,bg,az,if_neg hd]
     have xI:H7.next=H6.next:=by rw [cU];rfl
     have JK:H7.get b5=some ⟨dH.set (i * 3+1) (iV (kC t5.aK xs 0)),44,true,false⟩:=by rw [cU,bg,az,if_pos rfl]
     have en:=(k7 H.next WA).trans dL
     have eJ:dH.set (i * 3+1) (iV (kC t5.aK xs 0))=cW dH (i * jO.sz) [iV xk,iV (kC t5.aK xs 0),ae xs]:=by
      have:=xQ (vs:=[iV (kC t5.aK xs 0)]) jr (k:=1) (by decide:1+1<=3) iX
      rw [eW AS] at this
      rw [this];rfl
     have bH:=oW H7 [iV xk,iV (kC t5.aK xs 0),ae xs] ⟨xk,kC t5.aK xs 0,xs⟩ [] (by simp) (by rw [JK,eJ]) ⟨rfl,rfl⟩ (by simp)
     rw [fh,<-dC] at bH
     simp only [go_sem,e4,ei,hi,iI,iG,iX,jr,AB,zF,JI,dO]
     rw [<-eT]
     refine ag.by (Od JJ (by rw [ny];exact de) (s:=xs) (fr:=0)) ?_
     rintro _ _ - ⟨rfl,rfl⟩
     simp only [go_sem,e4,dL,iI,hi,Vv,jh,AS,TP,eW AS]
     rw [<-cU] at r7 ⊢
     have Fg:(dH.set (i * 3+1) (iV (kC t5.aK xs 0)))[i * 3+1]?=some (iV (kC t5.aK xs 0)):=List.getElem?_set_self AS
     have hlen:(dH.set (i * 3+1) (iV (kC t5.aK xs 0))).length=dH.length:=List.length_set
     have Qt:(done++[(⟨xk,kC t5.aK xs 0,xs⟩:sN)]).length=i+1:=by rw [List.length_append,List.length_singleton,df]
     rw [iI] at bH
     by_cases cA:kC t5.aK xs 0 < 0
     ·rw [Bs,if_pos cA] at rv
      simp only [go_sem,WA,e4,en,hi,JK,Fg,hlen,TP,cA,iI]
      rw [<-kl,<-kc] at rv
      refine ag.by (jb (e:=4) (l:=n1.line) (c:=n1.aj) r7.told.rq) ?_
      rintro _ H8 - p8
      have n8:H7.next<=H8.next:=p8.fr.nx
      have k8:∀d,d < H7.next->d≠r->H8.get d=H7.get d:=fun d h1 h2=>p8.fr.get d h1 (by simp [h2])
      simp only [go_sem,ei,ct]
      rw [<-iI] at bH
      rw [ny] at rv bH Qt
      exact ⟨_,_,(r7.told.call p8).told,(k8 H.next (by omega) gJ).trans en,bH.af (fun d hd=>k8 d (by have:=gq d hd;omega) (by have:=gq d hd;have:=h.rl;omega)) (by simp),by omega,Qt,rv⟩
     ·rw [Bs,if_neg cA] at rv
      simp only [go_sem,WA,e4,en,hi,JK,Fg,hlen,TP,cA,iI,ei,ct]
      rw [ny] at rv bH Qt
      exact ⟨_,t5,r7.told,bH.af (fun _ _=>rfl) (fun _ _=>rfl),by omega,Qt,rv⟩
   ·rintro V3 H5 ⟨ei,done,t5,r5,dO,lL,xC,df,rv⟩
    rw [List.drop_length] at lL rv
    rw [List.append_nil] at lL
    rw [ui] at rv
    simp only [go_sem,ei]
    rw [rv]
    have r5:=r5.told
    have fC:=lL.sl.af (H':=H5.ai H.fz) fun _ _=>rfl
    rw [List.append_nil] at fC
    exact ⟨aL,mL,r5,dO,fC,fun d hd=>by have:=gq d hd;omega,by omega⟩
  ·rintro V2 H3 ⟨lC,mA,r5,dO,WB,Qu,n3⟩
   generalize ui n t.aK n.args [] t1=UA at *
   obtain ⟨kd,x,y,f,nn,cap,rc,op,a,bb,nx,ln,cl,nX,nY,nF,nR,as0,pt,bY⟩:=n1
   obtain ⟨al,t2⟩:=UA
   simp only at ka kp kb kl kc he dO r5 WB
   have Pf:al.length=n.args.length:=by
    obtain ⟨_,_,e⟩:=WB.val
    simp only [Value.slice.injEq] at e
    exact e.2.1.symm
   refine qA 107839786668602559178668060348078522694548577085699380117099853643776 (fun _ H4=>∃n3 t3,lj P ⟨kd,x,y,f,nn,cap,rc,op,a,bb,nx,ln,cl,nX,nY,nF,nR,al,pt,bY⟩ t2=(some n3,t3)/\RA S P gP H r t m g mi H4 t3/\H4.get H.next=some ⟨aJ n3 (.slice lC n.args.length n.args.length) (.slice aQ n.pat.length kQ) (.slice aB n.au.length kB),42,false,false⟩/\n3.args=al/\n3.pat=pt/\n3.au=bY/\(∀c,c < H3.next->c≠r->c≠H.next->H4.get c=H3.get c)/\H.next < H4.next/\H3.next<=H4.next) ?_ ?_ (by rfl)
   ·by_cases WC:kd=9
    ·subst WC
     obtain ⟨Cg,El,fK,_,_⟩:=r5.rq.row
     obtain ⟨gs,rk,jH⟩:=r5.rq.sM
     simp only [go_sem,e4,dO,fK]
     refine ag.by (Oa (rk.af fun _ _=>rfl) hP.m (fun c hc=>by show c < H3.next;have:=(r5.rq.hP c (jH c hc)).1;omega)) ?_
     rintro CD H4 - ⟨⟨g4,oa,GW⟩,o4,z4⟩
     have nV:H3.next<=H4.next:=o4.nx
     have r6:=r5.told.aH o4 z4
     have k4:∀c,c < H3.next->H4.get c=H3.get c:=fun c hc=>o4.get c hc
     have dL:=(k4 H.next n3).trans dO
     have ig:=(k4 r r5.rq.rl).trans fK
     simp only [go_sem,e4,dO,dL]
     refine ag.by (qy oa (by rw [List.length_map];exact hP.m)) ?_
     rintro _ _ - ⟨rfl,rfl⟩
     have r7:=(r6.own (M:=[H.next]) ((Fr.refl _ _).ah (b:=H.next) (.inl (by simp)) ⟨aJ ⟨9,x,y,cK (jn P) nF,nn,cap,rc,op,a,bb,nx,ln,cl,nX,nY,nF,nR,al,pt,bY⟩ (.slice lC n.args.length n.args.length) (.slice aQ n.pat.length kQ) (.slice aB n.au.length kB),42,false,false⟩) (by simp) fun _ _=>rfl).told
     obtain ⟨H7,cU⟩:=r7.hp
     have en:H7.get H.next=some ⟨aJ ⟨9,x,y,cK (jn P) nF,nn,cap,rc,op,a,bb,nx,ln,cl,nX,nY,nF,nR,al,pt,bY⟩ (.slice lC n.args.length n.args.length) (.slice aQ n.pat.length kQ) (.slice aB n.au.length kB),42,false,false⟩:=by rw [cU,bg,az,if_pos rfl]
     have k7:∀c,c≠H.next->H7.get c=H4.get c:=fun c hc=>by rw [cU,bg,az,if_neg hc]
     have xI:H7.next=H4.next:=by rw [cU];rfl
     have kZ:=(k7 r nr).trans ig
     by_cases cA:cK (jn P) nF < 0
     ·rw [lj] at he
      simp only [Int.reduceEq,if_true,if_false,or_true,true_or,or_false,false_or,cA] at he
      cases he
      simp only [go_sem,e4,dL,dz,cA]
      rw [<-cU] at r7 ⊢
      refine ag.by (jb (e:=4) (l:=ln) (c:=cl) r7.rq) ?_
      rintro _ Hf - pf
      simp only [go_sem]
      exact (r7.call pf).rr.last
     ·simp only [go_sem,e4,dL,dz,cA]
      rw [<-cU] at r7 ⊢
      clear cU
      obtain ⟨fi,hY,c6⟩:=CW (Int.not_lt.1 cA)
      rw [List.length_map] at c6
      rw [hY] at en
      have ji:P.msgs[fi]?=some (P.msgs[fi]'c6):=List.getElem?_eq_getElem c6
      have fP:P.msgs.getD fi ⟨[],[],0,0⟩=P.msgs[fi]'c6:=by rw [List.getD_eq_getElem?_getD,ji];rfl
      generalize (P.msgs[fi]'c6)=xd at ji fP
      obtain ⟨bd,od,cd,BD,GX,tK,tL,FF,Aj,FG,pE⟩:=(r7.rq.sM).at ji
      obtain ⟨wv,iD,qq⟩:=pE
      obtain ⟨aw,kw,rfl⟩:=qq.val
      have iD:(BD.cells.drop (od+fi * 4)).take 4=[ae xd.name,.slice aw xd.types.length kw,iV xd.line,iV xd.aj]:=iD
      have tN:BD.cells[od+fi * 4+1]?=some (.slice aw xd.types.length kw):=by
       have:((BD.cells.drop (od+fi * 4)).take 4)[1]?=some (.slice aw xd.types.length kw):=by rw [iD];rfl
       rw [List.getElem?_take,if_pos (by decide),List.getElem?_drop] at this
       exact this
      simp only [go_sem,nr,ig,e4,en,kZ,tK,hY,c6,tL,tN]
      refine ag.by (Km (n:=⟨9,x,y,((fi:Nat):Int),nn,cap,rc,op,a,bb,nx,ln,cl,nX,nY,nF,nR,al,pt,bY⟩) r7.rq) ?_
      rintro _ H8 - p8
      have n8:H7.next<=H8.next:=p8.fr.nx
      simp only [go_sem]
      refine ⟨⟨9,x,y,((fi:Nat):Int),nn,cap,rc,op,a,bb,nx,ln,cl,nX,nY,nF,nR,al,pt,bY⟩,_,?_,(r7.call p8).told,(p8.fr.get H.next (by show H.next < H7.next;omega) (by simp [gJ])).trans en,rfl,rfl,rfl,fun c h1 h2 h3=>(p8.fr.get c (by show c < H7.next;omega) (by simp [h2])).trans ((k7 c h3).trans (k4 c h1)),by omega,by omega⟩
      rw [lj]
      simp only [Int.reduceEq,if_true,if_false,or_true,true_or,or_false,false_or,cA,hY,Int.toNat_natCast,fP]
      rw [Pf]
      rfl
    ·by_cases TQ:kd=10
     ·subst TQ
      obtain ⟨Cg,El,fK,_,_⟩:=r5.rq.row
      obtain ⟨gs,rk,jH⟩:=r5.rq.sD
      simp only [go_sem,e4,dO,fK]
      refine ag.by (R5 (rk.af fun _ _=>rfl) hP.d (fun c hc=>by show c < H3.next;have:=(r5.rq.hP c (jH c hc)).1;omega)) ?_
      rintro CD H4 - ⟨⟨g4,oa,GW⟩,o4,z4⟩
      have nV:H3.next<=H4.next:=o4.nx
      have r6:=r5.told.aH o4 z4
      have k4:∀c,c < H3.next->H4.get c=H3.get c:=fun c hc=>o4.get c hc
      have dL:=(k4 H.next n3).trans dO
      have ig:=(k4 r r5.rq.rl).trans fK
      simp only [go_sem,e4,dO,dL]
      refine ag.by (qy oa (by rw [List.length_map];exact hP.d)) ?_
      rintro _ _ - ⟨rfl,rfl⟩
      have r7:=(r6.own (M:=[H.next]) ((Fr.refl _ _).ah (b:=H.next) (.inl (by simp)) ⟨aJ ⟨10,x,y,cK (sI P) nF,nn,cap,rc,op,a,bb,nx,ln,cl,nX,nY,nF,nR,al,pt,bY⟩ (.slice lC n.args.length n.args.length) (.slice aQ n.pat.length kQ) (.slice aB n.au.length kB),42,false,false⟩) (by simp) fun _ _=>rfl).told
      obtain ⟨H7,cU⟩:=r7.hp
      have en:H7.get H.next=some ⟨aJ ⟨10,x,y,cK (sI P) nF,nn,cap,rc,op,a,bb,nx,ln,cl,nX,nY,nF,nR,al,pt,bY⟩ (.slice lC n.args.length n.args.length) (.slice aQ n.pat.length kQ) (.slice aB n.au.length kB),42,false,false⟩:=by rw [cU,bg,az,if_pos rfl]
      have k7:∀c,c≠H.next->H7.get c=H4.get c:=fun c hc=>by rw [cU,bg,az,if_neg hc]
      have xI:H7.next=H4.next:=by rw [cU];rfl
      have kZ:=(k7 r nr).trans ig
      by_cases cA:cK (sI P) nF < 0
      ·rw [lj] at he
       simp only [Int.reduceEq,if_true,if_false,or_true,true_or,or_false,false_or,cA] at he
       cases he
       simp only [go_sem,e4,dL,dz,cA]
       rw [<-cU] at r7 ⊢
       refine ag.by (jb (e:=4) (l:=ln) (c:=cl) r7.rq) ?_
       rintro _ Hf - pf
       simp only [go_sem]
       exact (r7.call pf).rr.last
      ·simp only [go_sem,e4,dL,dz,cA]
       rw [<-cU] at r7 ⊢
       clear cU
       obtain ⟨fi,hY,c6⟩:=CW (Int.not_lt.1 cA)
       rw [List.length_map] at c6
       rw [hY] at en
       have ji:P.defs[fi]?=some (P.defs[fi]'c6):=List.getElem?_eq_getElem c6
       have fP:P.defs.getD fi ⟨[],[],0,0,0,0,false,[],[]⟩=P.defs[fi]'c6:=by rw [List.getD_eq_getElem?_getD,ji];rfl
       generalize (P.defs[fi]'c6)=xd at ji fP
       obtain ⟨bd,od,cd,BD,GX,tK,tL,FF,Aj,FG,pE⟩:=(r7.rq.sD).at ji
       obtain ⟨wv,WD,WE,q1,q2,q3,iD,_,qq,_,_⟩:=pE
       obtain ⟨aw,kw,rfl⟩:=qq.val
       have iD:(BD.cells.drop (od+fi * 9)).take 9=dP xd (.slice aw xd.params.length kw) WD WE:=iD
       have tN:BD.cells[od+fi * 9+1]?=some (.slice aw xd.params.length kw):=by
        have:((BD.cells.drop (od+fi * 9)).take 9)[1]?=some (.slice aw xd.params.length kw):=by rw [iD];rfl
        rw [List.getElem?_take,if_pos (by decide),List.getElem?_drop] at this
        exact this
       simp only [go_sem,nr,ig,e4,en,kZ,tK,hY,c6,tL,tN]
       refine ag.by (Km (n:=⟨10,x,y,((fi:Nat):Int),nn,cap,rc,op,a,bb,nx,ln,cl,nX,nY,nF,nR,al,pt,bY⟩) r7.rq) ?_
       rintro _ H8 - p8
       have n8:H7.next<=H8.next:=p8.fr.nx
       simp only [go_sem]
       refine ⟨⟨10,x,y,((fi:Nat):Int),nn,cap,rc,op,a,bb,nx,ln,cl,nX,nY,nF,nR,al,pt,bY⟩,_,?_,(r7.call p8).told,(p8.fr.get H.next (by show H.next < H7.next;omega) (by simp [gJ])).trans en,rfl,rfl,rfl,fun c h1 h2 h3=>(p8.fr.get c (by show c < H7.next;omega) (by simp [h2])).trans ((k7 c h3).trans (k4 c h1)),by omega,by omega⟩
       rw [lj]
       simp only [Int.reduceEq,if_true,if_false,or_true,true_or,or_false,false_or,cA,hY,Int.toNat_natCast,fP]
       rw [Pf]
       rfl
     ·by_cases TT:kd=13
      ·subst TT
       obtain ⟨Cg,El,fK,_,_⟩:=r5.rq.row
       obtain ⟨gs,rk,jH⟩:=r5.rq.sD
       simp only [go_sem,e4,dO,fK]
       refine ag.by (R5 (rk.af fun _ _=>rfl) hP.d (fun c hc=>by show c < H3.next;have:=(r5.rq.hP c (jH c hc)).1;omega)) ?_
       rintro CD H4 - ⟨⟨g4,oa,GW⟩,o4,z4⟩
       have nV:H3.next<=H4.next:=o4.nx
       have r6:=r5.told.aH o4 z4
       have k4:∀c,c < H3.next->H4.get c=H3.get c:=fun c hc=>o4.get c hc
       have dL:=(k4 H.next n3).trans dO
       have ig:=(k4 r r5.rq.rl).trans fK
       simp only [go_sem,e4,dO,dL]
       refine ag.by (qy oa (by rw [List.length_map];exact hP.d)) ?_
       rintro _ _ - ⟨rfl,rfl⟩
       have r7:=(r6.own (M:=[H.next]) ((Fr.refl _ _).ah (b:=H.next) (.inl (by simp)) ⟨aJ ⟨13,x,y,cK (sI P) nF,nn,cap,rc,op,a,bb,nx,ln,cl,nX,nY,nF,nR,al,pt,bY⟩ (.slice lC n.args.length n.args.length) (.slice aQ n.pat.length kQ) (.slice aB n.au.length kB),42,false,false⟩) (by simp) fun _ _=>rfl).told
       obtain ⟨H7,cU⟩:=r7.hp
       have en:H7.get H.next=some ⟨aJ ⟨13,x,y,cK (sI P) nF,nn,cap,rc,op,a,bb,nx,ln,cl,nX,nY,nF,nR,al,pt,bY⟩ (.slice lC n.args.length n.args.length) (.slice aQ n.pat.length kQ) (.slice aB n.au.length kB),42,false,false⟩:=by rw [cU,bg,az,if_pos rfl]
       have k7:∀c,c≠H.next->H7.get c=H4.get c:=fun c hc=>by rw [cU,bg,az,if_neg hc]
       have xI:H7.next=H4.next:=by rw [cU];rfl
       have kZ:=(k7 r nr).trans ig
       by_cases cA:cK (sI P) nF < 0
       ·rw [lj] at he
        simp only [Int.reduceEq,if_true,if_false,or_true,true_or,or_false,false_or,cA] at he
        cases he
        simp only [go_sem,e4,dL,dz,cA]
        rw [<-cU] at r7 ⊢
        refine ag.by (jb (e:=4) (l:=ln) (c:=cl) r7.rq) ?_
        rintro _ Hf - pf
        simp only [go_sem]
        exact (r7.call pf).rr.last
       ·simp only [go_sem,e4,dL,dz,cA]
        rw [<-cU] at r7 ⊢
        clear cU
        obtain ⟨fi,hY,c6⟩:=CW (Int.not_lt.1 cA)
        rw [List.length_map] at c6
        rw [hY] at en
        have ji:P.defs[fi]?=some (P.defs[fi]'c6):=List.getElem?_eq_getElem c6
        have fP:P.defs.getD fi ⟨[],[],0,0,0,0,false,[],[]⟩=P.defs[fi]'c6:=by rw [List.getD_eq_getElem?_getD,ji];rfl
        generalize (P.defs[fi]'c6)=xd at ji fP
        obtain ⟨bd,od,cd,BD,GX,tK,tL,FF,Aj,FG,pE⟩:=(r7.rq.sD).at ji
        obtain ⟨wv,WD,WE,q1,q2,q3,iD,_,qq,_,_⟩:=pE
        obtain ⟨aw,kw,rfl⟩:=qq.val
        have iD:(BD.cells.drop (od+fi * 9)).take 9=dP xd (.slice aw xd.params.length kw) WD WE:=iD
        have tN:BD.cells[od+fi * 9+1]?=some (.slice aw xd.params.length kw):=by
         have:((BD.cells.drop (od+fi * 9)).take 9)[1]?=some (.slice aw xd.params.length kw):=by rw [iD];rfl
         rw [List.getElem?_take,if_pos (by decide),List.getElem?_drop] at this
         exact this
        simp only [go_sem,nr,ig,e4,en,kZ,tK,hY,c6,tL,tN]
        refine ag.by (Km (n:=⟨13,x,y,((fi:Nat):Int),nn,cap,rc,op,a,bb,nx,ln,cl,nX,nY,nF,nR,al,pt,bY⟩) r7.rq) ?_
        rintro _ H8 - p8
        have n8:H7.next<=H8.next:=p8.fr.nx
        simp only [go_sem]
        refine ⟨⟨13,x,y,((fi:Nat):Int),nn,cap,rc,op,a,bb,nx,ln,cl,nX,nY,nF,nR,al,pt,bY⟩,_,?_,(r7.call p8).told,(p8.fr.get H.next (by show H.next < H7.next;omega) (by simp [gJ])).trans en,rfl,rfl,rfl,fun c h1 h2 h3=>(p8.fr.get c (by show c < H7.next;omega) (by simp [h2])).trans ((k7 c h3).trans (k4 c h1)),by omega,by omega⟩
        rw [lj]
        simp only [Int.reduceEq,if_true,if_false,or_true,true_or,or_false,false_or,cA,hY,Int.toNat_natCast,fP]
        rw [Pf]
        rfl
      ·by_cases ir:kd=4
       ·subst ir
        by_cases iA:rc= -1
        ·subst iA
         simp only [go_sem,e4,dO]
         refine ⟨⟨4,x,y,f,nn,cap,(-1),op,a,bb,nx,ln,cl,nX,nY,nF,nR,al,pt,bY⟩,_,?_,r5.told,rfl,rfl,rfl,rfl,by first | exact ⟨fun _ _ _ _=>trivial,n3,Nat.le_refl _⟩ | exact ⟨fun _ _ _ _=>trivial,n3⟩⟩
         rw [lj]
         simp only [Int.reduceEq,if_true,if_false,or_true,true_or,or_false,false_or]
        ·obtain ⟨Cg,El,fK,_,_⟩:=r5.rq.row
         obtain ⟨gs,rk,jH⟩:=r5.rq.sR
         simp only [go_sem,e4,dO,fK,iA]
         refine ag.by (Ia (rk.af fun _ _=>rfl) hP.r (fun c hc=>by show c < H3.next;have:=(r5.rq.hP c (jH c hc)).1;omega)) ?_
         rintro CD H4 - ⟨⟨g4,oa,GW⟩,o4,z4⟩
         have nV:H3.next<=H4.next:=o4.nx
         have r6:=r5.told.aH o4 z4
         have k4:∀c,c < H3.next->H4.get c=H3.get c:=fun c hc=>o4.get c hc
         have dL:=(k4 H.next n3).trans dO
         have ig:=(k4 r r5.rq.rl).trans fK
         simp only [go_sem,e4,dO,dL]
         refine ag.by (qy oa (by rw [List.length_map];exact hP.r)) ?_
         rintro _ _ - ⟨rfl,rfl⟩
         have r7:=(r6.own (M:=[H.next]) ((Fr.refl _ _).ah (b:=H.next) (.inl (by simp)) ⟨aJ ⟨4,x,y,f,nn,cap,cK (j0 P) nR,op,a,bb,nx,ln,cl,nX,nY,nF,nR,al,pt,bY⟩ (.slice lC n.args.length n.args.length) (.slice aQ n.pat.length kQ) (.slice aB n.au.length kB),42,false,false⟩) (by simp) fun _ _=>rfl).told
         obtain ⟨H7,cU⟩:=r7.hp
         have en:H7.get H.next=some ⟨aJ ⟨4,x,y,f,nn,cap,cK (j0 P) nR,op,a,bb,nx,ln,cl,nX,nY,nF,nR,al,pt,bY⟩ (.slice lC n.args.length n.args.length) (.slice aQ n.pat.length kQ) (.slice aB n.au.length kB),42,false,false⟩:=by rw [cU,bg,az,if_pos rfl]
         have k7:∀c,c≠H.next->H7.get c=H4.get c:=fun c hc=>by rw [cU,bg,az,if_neg hc]
         have xI:H7.next=H4.next:=by rw [cU];rfl
         have kZ:=(k7 r nr).trans ig
         by_cases cA:cK (j0 P) nR < 0
         ·rw [lj] at he
          simp only [Int.reduceEq,if_true,if_false,or_true,true_or,or_false,false_or,cA,iA] at he
          cases he
          simp only [go_sem,e4,dL,dz,cA]
          rw [<-cU] at r7 ⊢
          refine ag.by (jb (e:=4) (l:=ln) (c:=cl) r7.rq) ?_
          rintro _ Hf - pf
          simp only [go_sem]
          exact (r7.call pf).rr.last
         ·simp only [go_sem,e4,dL,dz,cA]
          rw [<-cU] at r7 ⊢
          clear cU
          obtain ⟨fi,hY,c6⟩:=CW (Int.not_lt.1 cA)
          rw [List.length_map] at c6
          rw [hY] at en
          have ji:P.bZ[fi]?=some (P.bZ[fi]'c6):=List.getElem?_eq_getElem c6
          have fP:P.bZ.getD fi ⟨[],[],0,0⟩=P.bZ[fi]'c6:=by rw [List.getD_eq_getElem?_getD,ji];rfl
          generalize (P.bZ[fi]'c6)=xd at ji fP
          obtain ⟨bd,od,cd,BD,GX,tK,tL,FF,Aj,FG,pE⟩:=(r7.rq.sR).at ji
          obtain ⟨wv,iD,qq⟩:=pE
          obtain ⟨aw,kw,rfl⟩:=qq.val
          have iD:(BD.cells.drop (od+fi * 4)).take 4=[ae xd.name,.slice aw xd.fields.length kw,iV xd.line,iV xd.aj]:=iD
          have tN:BD.cells[od+fi * 4+1]?=some (.slice aw xd.fields.length kw):=by
           have:((BD.cells.drop (od+fi * 4)).take 4)[1]?=some (.slice aw xd.fields.length kw):=by rw [iD];rfl
           rw [List.getElem?_take,if_pos (by decide),List.getElem?_drop] at this
           exact this
          simp only [go_sem,nr,ig,e4,en,kZ,tK,hY,c6,tL,tN,iA]
          refine ag.by (Km (n:=⟨4,x,y,f,nn,cap,((fi:Nat):Int),op,a,bb,nx,ln,cl,nX,nY,nF,nR,al,pt,bY⟩) r7.rq) ?_
          rintro _ H8 - p8
          have n8:H7.next<=H8.next:=p8.fr.nx
          simp only [go_sem]
          refine ⟨⟨4,x,y,f,nn,cap,((fi:Nat):Int),op,a,bb,nx,ln,cl,nX,nY,nF,nR,al,pt,bY⟩,_,?_,(r7.call p8).told,(p8.fr.get H.next (by show H.next < H7.next;omega) (by simp [gJ])).trans en,rfl,rfl,rfl,fun c h1 h2 h3=>(p8.fr.get c (by show c < H7.next;omega) (by simp [h2])).trans ((k7 c h3).trans (k4 c h1)),by omega,by omega⟩
          rw [lj]
          simp only [Int.reduceEq,if_true,if_false,or_true,true_or,or_false,false_or,cA,hY,Int.toNat_natCast,fP,iA]
          rw [Pf]
          rfl
       ·by_cases GY:kd=5
        ·subst GY
         by_cases iA:rc= -1
         ·subst iA
          simp only [go_sem,e4,dO]
          refine ⟨⟨5,x,y,f,nn,cap,(-1),op,a,bb,nx,ln,cl,nX,nY,nF,nR,al,pt,bY⟩,_,?_,r5.told,rfl,rfl,rfl,rfl,by first | exact ⟨fun _ _ _ _=>trivial,n3,Nat.le_refl _⟩ | exact ⟨fun _ _ _ _=>trivial,n3⟩⟩
          rw [lj]
          simp only [Int.reduceEq,if_true,if_false,or_true,true_or,or_false,false_or]
         ·obtain ⟨Cg,El,fK,_,_⟩:=r5.rq.row
          obtain ⟨gs,rk,jH⟩:=r5.rq.sR
          simp only [go_sem,e4,dO,fK,iA]
          refine ag.by (Ia (rk.af fun _ _=>rfl) hP.r (fun c hc=>by show c < H3.next;have:=(r5.rq.hP c (jH c hc)).1;omega)) ?_
          rintro CD H4 - ⟨⟨g4,oa,GW⟩,o4,z4⟩
          have nV:H3.next<=H4.next:=o4.nx
          have r6:=r5.told.aH o4 z4
          have k4:∀c,c < H3.next->H4.get c=H3.get c:=fun c hc=>o4.get c hc
          have dL:=(k4 H.next n3).trans dO
          have ig:=(k4 r r5.rq.rl).trans fK
          simp only [go_sem,e4,dO,dL]
          refine ag.by (qy oa (by rw [List.length_map];exact hP.r)) ?_
          rintro _ _ - ⟨rfl,rfl⟩
          have r7:=(r6.own (M:=[H.next]) ((Fr.refl _ _).ah (b:=H.next) (.inl (by simp)) ⟨aJ ⟨5,x,y,f,nn,cap,cK (j0 P) nR,op,a,bb,nx,ln,cl,nX,nY,nF,nR,al,pt,bY⟩ (.slice lC n.args.length n.args.length) (.slice aQ n.pat.length kQ) (.slice aB n.au.length kB),42,false,false⟩) (by simp) fun _ _=>rfl).told
          obtain ⟨H7,cU⟩:=r7.hp
          have en:H7.get H.next=some ⟨aJ ⟨5,x,y,f,nn,cap,cK (j0 P) nR,op,a,bb,nx,ln,cl,nX,nY,nF,nR,al,pt,bY⟩ (.slice lC n.args.length n.args.length) (.slice aQ n.pat.length kQ) (.slice aB n.au.length kB),42,false,false⟩:=by rw [cU,bg,az,if_pos rfl]
          have k7:∀c,c≠H.next->H7.get c=H4.get c:=fun c hc=>by rw [cU,bg,az,if_neg hc]
          have xI:H7.next=H4.next:=by rw [cU];rfl
          have kZ:=(k7 r nr).trans ig
          by_cases cA:cK (j0 P) nR < 0
          ·rw [lj] at he
           simp only [Int.reduceEq,if_true,if_false,or_true,true_or,or_false,false_or,cA,iA] at he
           cases he
           simp only [go_sem,e4,dL,dz,cA]
           rw [<-cU] at r7 ⊢
           refine ag.by (jb (e:=4) (l:=ln) (c:=cl) r7.rq) ?_
           rintro _ Hf - pf
           simp only [go_sem]
           exact (r7.call pf).rr.last
          ·simp only [go_sem,e4,dL,dz,cA]
           rw [<-cU] at r7 ⊢
           clear cU
           obtain ⟨fi,hY,c6⟩:=CW (Int.not_lt.1 cA)
           rw [List.length_map] at c6
           rw [hY] at en
           have ji:P.bZ[fi]?=some (P.bZ[fi]'c6):=List.getElem?_eq_getElem c6
           have fP:P.bZ.getD fi ⟨[],[],0,0⟩=P.bZ[fi]'c6:=by rw [List.getD_eq_getElem?_getD,ji];rfl
           have DA:(P.bZ[fi]'c6)∈P.bZ:=List.getElem_mem c6
           generalize (P.bZ[fi]'c6)=xd at ji fP DA
           have DC:=(hP.rf xd DA).1
           obtain ⟨bd,od,cd,BD,GX,tK,tL,FF,Aj,FG,pE⟩:=(r7.rq.sR).at ji
           obtain ⟨wv,iD,qq⟩:=pE
           obtain ⟨aw,kw,rfl⟩:=qq.val
           have iD:(BD.cells.drop (od+fi * 4)).take 4=[ae xd.name,.slice aw xd.fields.length kw,iV xd.line,iV xd.aj]:=iD
           have tN:BD.cells[od+fi * 4+1]?=some (.slice aw xd.fields.length kw):=by
            have:((BD.cells.drop (od+fi * 4)).take 4)[1]?=some (.slice aw xd.fields.length kw):=by rw [iD];rfl
            rw [List.getElem?_take,if_pos (by decide),List.getElem?_drop] at this
            exact this
           simp only [go_sem,nr,ig,e4,en,kZ,tK,hY,c6,tL,tN]
           refine ag.by (NL (qq.af fun _ _=>rfl) DC (fun c hc=>(r7.rq.hP c (Aj c hc)).1)) ?_
           rintro vfn H8 - ⟨⟨g8,zo,JB⟩,o8,z8⟩
           have AI:H7.next<=H8.next:=o8.nx
           have r8:=r7.aH o8 z8
           have k8:∀c,c < H7.next->H8.get c=H7.get c:=fun c hc=>o8.get c hc
           have ru:=(k8 H.next (by omega)).trans en
           simp only [go_sem,e4,en,ru]
           refine ag.by (qy zo (by rw [List.length_map];exact DC)) ?_
           rintro _ _ - ⟨rfl,rfl⟩
           have r9:=(r8.own (M:=[H.next]) ((Fr.refl _ _).ah (b:=H.next) (.inl (by simp)) ⟨aJ ⟨5,x,y,cK (xd.fields.map (·.name)) nF,nn,cap,((fi:Nat):Int),op,a,bb,nx,ln,cl,nX,nY,nF,nR,al,pt,bY⟩ (.slice lC n.args.length n.args.length) (.slice aQ n.pat.length kQ) (.slice aB n.au.length kB),42,false,false⟩) (by simp) fun _ _=>rfl).told
           obtain ⟨H9,jY⟩:=r9.hp
           have xN:H9.get H.next=some ⟨aJ ⟨5,x,y,cK (xd.fields.map (·.name)) nF,nn,cap,((fi:Nat):Int),op,a,bb,nx,ln,cl,nX,nY,nF,nR,al,pt,bY⟩ (.slice lC n.args.length n.args.length) (.slice aQ n.pat.length kQ) (.slice aB n.au.length kB),42,false,false⟩:=by rw [jY,bg,az,if_pos rfl]
           have k9:∀c,c≠H.next->H9.get c=H8.get c:=fun c hc=>by rw [jY,bg,az,if_neg hc]
           have M3:H9.next=H8.next:=by rw [jY];rfl
           by_cases uj:cK (xd.fields.map (·.name)) nF < 0
           ·rw [lj] at he
            simp only [Int.reduceEq,if_true,if_false,or_true,true_or,or_false,false_or,cA,iA,hY,Int.toNat_natCast,fP,uj] at he
            cases he
            simp only [go_sem,e4,ru,dz,uj]
            rw [<-jY] at r9 ⊢
            refine ag.by (jb (e:=4) (l:=ln) (c:=cl) r9.rq) ?_
            rintro _ Hf - pf
            simp only [go_sem]
            exact (r9.call pf).rr.last
           ·simp only [go_sem,e4,ru,dz,uj]
            rw [<-jY] at r9 ⊢
            refine ⟨⟨5,x,y,cK (xd.fields.map (·.name)) nF,nn,cap,((fi:Nat):Int),op,a,bb,nx,ln,cl,nX,nY,nF,nR,al,pt,bY⟩,_,?_,r9,(by first | exact xN | rfl),rfl,rfl,rfl,fun c h1 h2 h3=>(by first | exact (k9 c h3).trans ((k8 c (by omega)).trans ((k7 c h3).trans (k4 c h1))) | (rw [if_neg h3];exact (k8 c (by omega)).trans ((k7 c h3).trans (k4 c h1)))),by omega,by omega⟩
            rw [lj]
            simp only [Int.reduceEq,if_true,if_false,or_true,true_or,or_false,false_or,cA,iA,hY,Int.toNat_natCast,fP,uj,show¬((fi:Nat):Int) < 0 from by omega]
        ·by_cases M4:kd=6
         ·subst M4
          by_cases iA:rc= -1
          ·subst iA
           simp only [go_sem,e4,dO]
           refine ⟨⟨6,x,y,f,nn,cap,(-1),op,a,bb,nx,ln,cl,nX,nY,nF,nR,al,pt,bY⟩,_,?_,r5.told,rfl,rfl,rfl,rfl,by first | exact ⟨fun _ _ _ _=>trivial,n3,Nat.le_refl _⟩ | exact ⟨fun _ _ _ _=>trivial,n3⟩⟩
           rw [lj]
           simp only [Int.reduceEq,if_true,if_false,or_true,true_or,or_false,false_or]
          ·obtain ⟨Cg,El,fK,_,_⟩:=r5.rq.row
           obtain ⟨gs,rk,jH⟩:=r5.rq.sR
           simp only [go_sem,e4,dO,fK,iA]
           refine ag.by (Ia (rk.af fun _ _=>rfl) hP.r (fun c hc=>by show c < H3.next;have:=(r5.rq.hP c (jH c hc)).1;omega)) ?_
           rintro CD H4 - ⟨⟨g4,oa,GW⟩,o4,z4⟩
           have nV:H3.next<=H4.next:=o4.nx
           have r6:=r5.told.aH o4 z4
           have k4:∀c,c < H3.next->H4.get c=H3.get c:=fun c hc=>o4.get c hc
           have dL:=(k4 H.next n3).trans dO
           have ig:=(k4 r r5.rq.rl).trans fK
           simp only [go_sem,e4,dO,dL]
           refine ag.by (qy oa (by rw [List.length_map];exact hP.r)) ?_
           rintro _ _ - ⟨rfl,rfl⟩
           have r7:=(r6.own (M:=[H.next]) ((Fr.refl _ _).ah (b:=H.next) (.inl (by simp)) ⟨aJ ⟨6,x,y,f,nn,cap,cK (j0 P) nR,op,a,bb,nx,ln,cl,nX,nY,nF,nR,al,pt,bY⟩ (.slice lC n.args.length n.args.length) (.slice aQ n.pat.length kQ) (.slice aB n.au.length kB),42,false,false⟩) (by simp) fun _ _=>rfl).told
           obtain ⟨H7,cU⟩:=r7.hp
           have en:H7.get H.next=some ⟨aJ ⟨6,x,y,f,nn,cap,cK (j0 P) nR,op,a,bb,nx,ln,cl,nX,nY,nF,nR,al,pt,bY⟩ (.slice lC n.args.length n.args.length) (.slice aQ n.pat.length kQ) (.slice aB n.au.length kB),42,false,false⟩:=by rw [cU,bg,az,if_pos rfl]
           have k7:∀c,c≠H.next->H7.get c=H4.get c:=fun c hc=>by rw [cU,bg,az,if_neg hc]
           have xI:H7.next=H4.next:=by rw [cU];rfl
           have kZ:=(k7 r nr).trans ig
           by_cases cA:cK (j0 P) nR < 0
           ·rw [lj] at he
            simp only [Int.reduceEq,if_true,if_false,or_true,true_or,or_false,false_or,cA,iA] at he
            cases he
            simp only [go_sem,e4,dL,dz,cA]
            rw [<-cU] at r7 ⊢
            refine ag.by (jb (e:=4) (l:=ln) (c:=cl) r7.rq) ?_
            rintro _ Hf - pf
            simp only [go_sem]
            exact (r7.call pf).rr.last
           ·simp only [go_sem,e4,dL,dz,cA]
            rw [<-cU] at r7 ⊢
            clear cU
            obtain ⟨fi,hY,c6⟩:=CW (Int.not_lt.1 cA)
            rw [List.length_map] at c6
            rw [hY] at en
            have ji:P.bZ[fi]?=some (P.bZ[fi]'c6):=List.getElem?_eq_getElem c6
            have fP:P.bZ.getD fi ⟨[],[],0,0⟩=P.bZ[fi]'c6:=by rw [List.getD_eq_getElem?_getD,ji];rfl
            have DA:(P.bZ[fi]'c6)∈P.bZ:=List.getElem_mem c6
            generalize (P.bZ[fi]'c6)=xd at ji fP DA
            have DC:=(hP.rf xd DA).1
            obtain ⟨bd,od,cd,BD,GX,tK,tL,FF,Aj,FG,pE⟩:=(r7.rq.sR).at ji
            obtain ⟨wv,iD,qq⟩:=pE
            obtain ⟨aw,kw,rfl⟩:=qq.val
            have iD:(BD.cells.drop (od+fi * 4)).take 4=[ae xd.name,.slice aw xd.fields.length kw,iV xd.line,iV xd.aj]:=iD
            have tN:BD.cells[od+fi * 4+1]?=some (.slice aw xd.fields.length kw):=by
             have:((BD.cells.drop (od+fi * 4)).take 4)[1]?=some (.slice aw xd.fields.length kw):=by rw [iD];rfl
             rw [List.getElem?_take,if_pos (by decide),List.getElem?_drop] at this
             exact this
            simp only [go_sem,nr,ig,e4,en,kZ,tK,hY,c6,tL,tN]
            refine ag.by (NL (qq.af fun _ _=>rfl) DC (fun c hc=>(r7.rq.hP c (Aj c hc)).1)) ?_
            rintro vfn H8 - ⟨⟨g8,zo,JB⟩,o8,z8⟩
            have AI:H7.next<=H8.next:=o8.nx
            have r8:=r7.aH o8 z8
            have k8:∀c,c < H7.next->H8.get c=H7.get c:=fun c hc=>o8.get c hc
            have ru:=(k8 H.next (by omega)).trans en
            simp only [go_sem,e4,en,ru]
            refine ag.by (qy zo (by rw [List.length_map];exact DC)) ?_
            rintro _ _ - ⟨rfl,rfl⟩
            have r9:=(r8.own (M:=[H.next]) ((Fr.refl _ _).ah (b:=H.next) (.inl (by simp)) ⟨aJ ⟨6,x,y,cK (xd.fields.map (·.name)) nF,nn,cap,((fi:Nat):Int),op,a,bb,nx,ln,cl,nX,nY,nF,nR,al,pt,bY⟩ (.slice lC n.args.length n.args.length) (.slice aQ n.pat.length kQ) (.slice aB n.au.length kB),42,false,false⟩) (by simp) fun _ _=>rfl).told
            obtain ⟨H9,jY⟩:=r9.hp
            have xN:H9.get H.next=some ⟨aJ ⟨6,x,y,cK (xd.fields.map (·.name)) nF,nn,cap,((fi:Nat):Int),op,a,bb,nx,ln,cl,nX,nY,nF,nR,al,pt,bY⟩ (.slice lC n.args.length n.args.length) (.slice aQ n.pat.length kQ) (.slice aB n.au.length kB),42,false,false⟩:=by rw [jY,bg,az,if_pos rfl]
            have k9:∀c,c≠H.next->H9.get c=H8.get c:=fun c hc=>by rw [jY,bg,az,if_neg hc]
            have M3:H9.next=H8.next:=by rw [jY];rfl
            by_cases uj:cK (xd.fields.map (·.name)) nF < 0
            ·rw [lj] at he
             simp only [Int.reduceEq,if_true,if_false,or_true,true_or,or_false,false_or,cA,iA,hY,Int.toNat_natCast,fP,uj] at he
             cases he
             simp only [go_sem,e4,ru,dz,uj]
             rw [<-jY] at r9 ⊢
             refine ag.by (jb (e:=4) (l:=ln) (c:=cl) r9.rq) ?_
             rintro _ Hf - pf
             simp only [go_sem]
             exact (r9.call pf).rr.last
            ·simp only [go_sem,e4,ru,dz,uj]
             rw [<-jY] at r9 ⊢
             refine ⟨⟨6,x,y,cK (xd.fields.map (·.name)) nF,nn,cap,((fi:Nat):Int),op,a,bb,nx,ln,cl,nX,nY,nF,nR,al,pt,bY⟩,_,?_,r9,(by first | exact xN | rfl),rfl,rfl,rfl,fun c h1 h2 h3=>(by first | exact (k9 c h3).trans ((k8 c (by omega)).trans ((k7 c h3).trans (k4 c h1))) | (rw [if_neg h3];exact (k8 c (by omega)).trans ((k7 c h3).trans (k4 c h1)))),by omega,by omega⟩
             rw [lj]
             simp only [Int.reduceEq,if_true,if_false,or_true,true_or,or_false,false_or,cA,iA,hY,Int.toNat_natCast,fP,uj,show¬((fi:Nat):Int) < 0 from by omega]
         ·by_cases GZ:kd=7
          ·subst GZ
           by_cases iA:rc= -1
           ·subst iA
            simp only [go_sem,e4,dO]
            refine ⟨⟨7,x,y,f,nn,cap,(-1),op,a,bb,nx,ln,cl,nX,nY,nF,nR,al,pt,bY⟩,_,?_,r5.told,rfl,rfl,rfl,rfl,by first | exact ⟨fun _ _ _ _=>trivial,n3,Nat.le_refl _⟩ | exact ⟨fun _ _ _ _=>trivial,n3⟩⟩
            rw [lj]
            simp only [Int.reduceEq,if_true,if_false,or_true,true_or,or_false,false_or]
           ·obtain ⟨Cg,El,fK,_,_⟩:=r5.rq.row
            obtain ⟨gs,rk,jH⟩:=r5.rq.sR
            simp only [go_sem,e4,dO,fK,iA]
            refine ag.by (Ia (rk.af fun _ _=>rfl) hP.r (fun c hc=>by show c < H3.next;have:=(r5.rq.hP c (jH c hc)).1;omega)) ?_
            rintro CD H4 - ⟨⟨g4,oa,GW⟩,o4,z4⟩
            have nV:H3.next<=H4.next:=o4.nx
            have r6:=r5.told.aH o4 z4
            have k4:∀c,c < H3.next->H4.get c=H3.get c:=fun c hc=>o4.get c hc
            have dL:=(k4 H.next n3).trans dO
            have ig:=(k4 r r5.rq.rl).trans fK
            simp only [go_sem,e4,dO,dL]
            refine ag.by (qy oa (by rw [List.length_map];exact hP.r)) ?_
            rintro _ _ - ⟨rfl,rfl⟩
            have r7:=(r6.own (M:=[H.next]) ((Fr.refl _ _).ah (b:=H.next) (.inl (by simp)) ⟨aJ ⟨7,x,y,f,nn,cap,cK (j0 P) nR,op,a,bb,nx,ln,cl,nX,nY,nF,nR,al,pt,bY⟩ (.slice lC n.args.length n.args.length) (.slice aQ n.pat.length kQ) (.slice aB n.au.length kB),42,false,false⟩) (by simp) fun _ _=>rfl).told
            obtain ⟨H7,cU⟩:=r7.hp
            have en:H7.get H.next=some ⟨aJ ⟨7,x,y,f,nn,cap,cK (j0 P) nR,op,a,bb,nx,ln,cl,nX,nY,nF,nR,al,pt,bY⟩ (.slice lC n.args.length n.args.length) (.slice aQ n.pat.length kQ) (.slice aB n.au.length kB),42,false,false⟩:=by rw [cU,bg,az,if_pos rfl]
            have k7:∀c,c≠H.next->H7.get c=H4.get c:=fun c hc=>by rw [cU,bg,az,if_neg hc]
            have xI:H7.next=H4.next:=by rw [cU];rfl
            have kZ:=(k7 r nr).trans ig
            by_cases cA:cK (j0 P) nR < 0
            ·rw [lj] at he
             simp only [Int.reduceEq,if_true,if_false,or_true,true_or,or_false,false_or,cA,iA] at he
             cases he
             simp only [go_sem,e4,dL,dz,cA]
             rw [<-cU] at r7 ⊢
             refine ag.by (jb (e:=4) (l:=ln) (c:=cl) r7.rq) ?_
             rintro _ Hf - pf
             simp only [go_sem]
             exact (r7.call pf).rr.last
            ·simp only [go_sem,e4,dL,dz,cA]
             rw [<-cU] at r7 ⊢
             clear cU
             obtain ⟨fi,hY,c6⟩:=CW (Int.not_lt.1 cA)
             rw [List.length_map] at c6
             rw [hY] at en
             have ji:P.bZ[fi]?=some (P.bZ[fi]'c6):=List.getElem?_eq_getElem c6
             have fP:P.bZ.getD fi ⟨[],[],0,0⟩=P.bZ[fi]'c6:=by rw [List.getD_eq_getElem?_getD,ji];rfl
             have DA:(P.bZ[fi]'c6)∈P.bZ:=List.getElem_mem c6
             generalize (P.bZ[fi]'c6)=xd at ji fP DA
             have DC:=(hP.rf xd DA).1
             obtain ⟨bd,od,cd,BD,GX,tK,tL,FF,Aj,FG,pE⟩:=(r7.rq.sR).at ji
             obtain ⟨wv,iD,qq⟩:=pE
             obtain ⟨aw,kw,rfl⟩:=qq.val
             have iD:(BD.cells.drop (od+fi * 4)).take 4=[ae xd.name,.slice aw xd.fields.length kw,iV xd.line,iV xd.aj]:=iD
             have tN:BD.cells[od+fi * 4+1]?=some (.slice aw xd.fields.length kw):=by
              have:((BD.cells.drop (od+fi * 4)).take 4)[1]?=some (.slice aw xd.fields.length kw):=by rw [iD];rfl
              rw [List.getElem?_take,if_pos (by decide),List.getElem?_drop] at this
              exact this
             simp only [go_sem,nr,ig,e4,en,kZ,tK,hY,c6,tL,tN]
             refine ag.by (NL (qq.af fun _ _=>rfl) DC (fun c hc=>(r7.rq.hP c (Aj c hc)).1)) ?_
             rintro vfn H8 - ⟨⟨g8,zo,JB⟩,o8,z8⟩
             have AI:H7.next<=H8.next:=o8.nx
             have r8:=r7.aH o8 z8
             have k8:∀c,c < H7.next->H8.get c=H7.get c:=fun c hc=>o8.get c hc
             have ru:=(k8 H.next (by omega)).trans en
             simp only [go_sem,e4,en,ru]
             refine ag.by (qy zo (by rw [List.length_map];exact DC)) ?_
             rintro _ _ - ⟨rfl,rfl⟩
             have r9:=(r8.own (M:=[H.next]) ((Fr.refl _ _).ah (b:=H.next) (.inl (by simp)) ⟨aJ ⟨7,x,y,cK (xd.fields.map (·.name)) nF,nn,cap,((fi:Nat):Int),op,a,bb,nx,ln,cl,nX,nY,nF,nR,al,pt,bY⟩ (.slice lC n.args.length n.args.length) (.slice aQ n.pat.length kQ) (.slice aB n.au.length kB),42,false,false⟩) (by simp) fun _ _=>rfl).told
             obtain ⟨H9,jY⟩:=r9.hp
             have xN:H9.get H.next=some ⟨aJ ⟨7,x,y,cK (xd.fields.map (·.name)) nF,nn,cap,((fi:Nat):Int),op,a,bb,nx,ln,cl,nX,nY,nF,nR,al,pt,bY⟩ (.slice lC n.args.length n.args.length) (.slice aQ n.pat.length kQ) (.slice aB n.au.length kB),42,false,false⟩:=by rw [jY,bg,az,if_pos rfl]
             have k9:∀c,c≠H.next->H9.get c=H8.get c:=fun c hc=>by rw [jY,bg,az,if_neg hc]
             have M3:H9.next=H8.next:=by rw [jY];rfl
             by_cases uj:cK (xd.fields.map (·.name)) nF < 0
             ·rw [lj] at he
              simp only [Int.reduceEq,if_true,if_false,or_true,true_or,or_false,false_or,cA,iA,hY,Int.toNat_natCast,fP,uj] at he
              cases he
              simp only [go_sem,e4,ru,dz,uj]
              rw [<-jY] at r9 ⊢
              refine ag.by (jb (e:=4) (l:=ln) (c:=cl) r9.rq) ?_
              rintro _ Hf - pf
              simp only [go_sem]
              exact (r9.call pf).rr.last
             ·simp only [go_sem,e4,ru,dz,uj]
              rw [<-jY] at r9 ⊢
              refine ⟨⟨7,x,y,cK (xd.fields.map (·.name)) nF,nn,cap,((fi:Nat):Int),op,a,bb,nx,ln,cl,nX,nY,nF,nR,al,pt,bY⟩,_,?_,r9,(by first | exact xN | rfl),rfl,rfl,rfl,fun c h1 h2 h3=>(by first | exact (k9 c h3).trans ((k8 c (by omega)).trans ((k7 c h3).trans (k4 c h1))) | (rw [if_neg h3];exact (k8 c (by omega)).trans ((k7 c h3).trans (k4 c h1)))),by omega,by omega⟩
              rw [lj]
              simp only [Int.reduceEq,if_true,if_false,or_true,true_or,or_false,false_or,cA,iA,hY,Int.toNat_natCast,fP,uj,show¬((fi:Nat):Int) < 0 from by omega]
          ·simp only [go_sem,e4,dO,WC,TQ,TT,ir,GY,M4,GZ]
           exact ⟨⟨kd,x,y,f,nn,cap,rc,op,a,bb,nx,ln,cl,nX,nY,nF,nR,al,pt,bY⟩,t2,by rw [lj];simp only [WC,TQ,TT,ir,GY,M4,GZ,if_false,or_self],r5.told,rfl,rfl,rfl,rfl,by first | exact ⟨fun _ _ _ _=>trivial,n3,Nat.le_refl _⟩ | exact ⟨fun _ _ _ _=>trivial,n3⟩⟩
   ·rintro V4 H4 ⟨n3',t3,hus,r6,dL,qa,qp,qb,k6,n4,nV⟩
    rw [hus] at he
    cases he
    have uH:t3.ns=t.ns:=r6.ns
    have ams:ER H4 n3' (.slice lC n.args.length n.args.length) (.slice aQ n.pat.length kQ) (.slice aB n.au.length kB) mA gQ gB:=⟨qa▸WB.af fun c hc=>k6 c (Qu c hc).2 (by have:=(Qu c hc).1;have:=h.rl;omega) (by have:=(Qu c hc).1;omega),(qp.trans kp)▸lT.q.af fun c hc=>r6.k (sj c (by simp [hc])).1 (sj c (by simp [hc])).2,(qb.trans kb)▸lT.b.af fun c hc=>r6.k (sj c (by simp [hc])).1 (sj c (by simp [hc])).2⟩
    obtain ⟨vI9,b9,cs9,G1,Lx,Gq,WG,g9,r9,qn⟩:=r6.rr.TO (k:=k) (by rw [uH];exact hk) ams fun c hc=>by
     rcases List.mem_append.1 hc with e | e
     ·have:=Qu c e
      exact ⟨by omega,by have:=h.rl;omega,fun e=>by have:=(h.hm c e).1;omega,fun e=>by have:=(h.hi c e).1;omega,.inr (by omega)⟩
     ·have:=tJ c (List.mem_append_right _ e)
      exact ⟨by have:=(h.hg c this).1;omega,(h.hg c this).2,fun e=>(h.hm c e).2.2.2.1 this,fun e=>(h.hi c e).2.2.2 this,.inl this⟩
    have AK:H.fz b9=false:=h.fm b9 Lx
    rw [uH] at G1 r9
    simp only [go_sem,e4,dL,G1,hk,Gq,AK,WG]
    exact r9.last
end
def sJ (b:Int->Bool) (n:aG):List Int->VT->VT
 | [],t=>t
 | x::l,t=>sJ b n l (if b x=true then t.fail 5 n.line n.aj else t)
def xX (P:bw) (b:eY) (tags:List Int) (n:aG) (t:VT):eY × VT:=
 if b.tag= -1 then (b,sJ (fun x=>decide (x= -1)) n tags t)
 else if cK (jn P) b.name < 0 then ({b with tag:=cK (jn P) b.name},(sJ (fun x=>decide (0<=cK (jn P) b.name)&&decide (x=cK (jn P) b.name)) n tags t).fail 4 n.line n.aj)
 else ({b with tag:=cK (jn P) b.name},KC b.names.length ((P.msgs.getD (cK (jn P) b.name).toNat ⟨[],[],0,0⟩).types.length) n (sJ (fun x=>decide (0<=cK (jn P) b.name)&&decide (x=cK (jn P) b.name)) n tags t))
section
variable {S:XS} {P:bw} {gP:List Nat} {H H1 H2:ad} {r:Nat} {t t1 t2:VT} {m g g1 g2 mi dE dJ:List Nat}
theorem adX (h:RQ S P gP H r t m g mi) (hP:zD P) {b:eY} {aS aN:Option Addr} {nS kS kN:Nat} {n:aG} {vA vP vB:Value} {vT:Value} {tags:List Int} {gT:List Nat} (hT:Sl .int H vT tags gT) (xL:∀c∈gT,c < H.next/\c≠r) (fY:tags.length < 1000000):
  ak Tryz.prog 167 #[pV r,.agg (cG b (.slice aS nS kS) (.slice aN b.names.length kN)).toArray,vT,.agg (aJ n vA vP vB).toArray] H (fun w H'=>w=.agg (cG (xX P b tags n t).1 (.slice aS nS kS) (.slice aN b.names.length kN)).toArray/\zA S P gP H r t m g mi (xX P b tags n t).2 H'):=by
 refine ak.told ?_
 refine agS (Nat.le_refl _) fun hf=>?_
 simp only [Tryz.f167,Option.getD_some]
 obtain ⟨tg,bs,bd,nm,an,sl,ns⟩:=b
 obtain ⟨aT,kT,rfl⟩:=hT.val
 have qe:=h.rl
 have r1:=(((RA.start h).push ⟨cG ⟨tg,bs,bd,nm,an,sl,ns⟩ (.slice aS nS kS) (.slice aN ns.length kN),52,false,false⟩).push ⟨aJ n vA vP vB,42,false,false⟩).push ⟨[iV 0,iV 0,iV 0,ae [],ae [],.slice none 0 0,.slice none 0 0],52,false,false⟩
 obtain ⟨H1,cH⟩:=r1.hp
 have p1:¬H.next=H.next+1:=by omega
 have p2:¬H.next=H.next+1+1:=by omega
 have M5:H1.get H.next=some ⟨cG ⟨tg,bs,bd,nm,an,sl,ns⟩ (.slice aS nS kS) (.slice aN ns.length kN),52,false,false⟩:=by rw [cH,aV,bJ,bJ,if_neg p2,aV,bJ,if_neg p1,aV,if_pos rfl]
 have gj:H1.get (H.next+1)=some ⟨aJ n vA vP vB,42,false,false⟩:=by rw [cH,aV,bJ,bJ,if_neg (by omega),aV];exact if_pos rfl
 have AP:H1.get (H.next+1+1)=some ⟨[iV 0,iV 0,iV 0,ae [],ae [],.slice none 0 0,.slice none 0 0],52,false,false⟩:=by rw [cH,aV];exact if_pos rfl
 have Jv:H1.next=H.next+1+1+1:=by rw [cH];rfl
 have o1:ba H H1:=by rw [cH];exact ((((Fr.refl [] H).push _).push _).push _).aH
 simp only [go_sem]
 rw [<-cH] at r1 ⊢
 clear cH
 obtain ⟨bn,qc⟩:∃bn,bn=H.next+1:=⟨_,rfl⟩
 obtain ⟨b8,AJ⟩:∃b8,b8=H.next+1+1:=⟨_,rfl⟩
 rw [<-AJ] at AP p2 ⊢
 rw [<-qc] at gj p1 ⊢
 have dz:H.fz H.next=false:=hf.fresh (Nat.le_refl _)
 have M6:H.fz b8=false:=hf.fresh (by omega)
 have M7:=hT.af (H':=H1) fun c hc=>o1.get c (xL c hc).1
 obtain ⟨P7,vI0,L0,_,_⟩:=h.row
 have gI:=(o1.get r qe).trans L0
 have kk:∀{Hx:ad},Fr [r] H1 Hx->∀c,c < H1.next->c≠r->Hx.get c=H1.get c:=fun f c h1 h2=>f.get c h1 (by simp [h2])
 by_cases wq:tg= -1
 ·subst wq
  have eR:xX P ⟨-1,bs,bd,nm,an,sl,ns⟩ tags n t=(⟨-1,bs,bd,nm,an,sl,ns⟩,sJ (fun x=>decide (x= -1)) n tags t):=by rw [xX,if_pos rfl]
  rw [eR]
  simp only [go_sem,M5,p2]
  refine iw 2147222528 tags.length (fun i V H2=>V 18=iV (i:Nat)/\∃t2,RA S P gP H r t m g mi H2 t2/\Fr [r] H1 H2/\sJ (fun x=>decide (x= -1)) n tags t=sJ (fun x=>decide (x= -1)) n (tags.drop i) t2) ⟨by simp only [go_sem] <;> rfl,t,r1,Fr.refl _ _,rfl⟩ ?_ ?_ (by rfl)
  ·rintro i V H2 hi ⟨ei,t2,r2,f2,og⟩
   have hx:tags[i]?=some (tags[i]'hi):=List.getElem?_eq_getElem hi
   have cE:tags.drop i=(tags[i]'hi)::tags.drop (i+1):=(List.getElem_cons_drop hi).symm
   generalize (tags[i]'hi)=x at hx cE
   rw [cE,sJ] at og
   have ct:IntKind.wrap .i64 (((i:Nat):Int)+1)=((i+1:Nat):Int):=cZ hi (by omega)
   obtain ⟨bb,o,c',B,gx,hv,hB,ep,dj,cm,hE⟩:=(M7.af (H':=H2) fun c hc=>kk f2 c (by have:=(xL c hc).1;omega) (xL c hc).2).at hx
   simp only [Value.slice.injEq] at hv
   have CH:=hv.1
   have iC:B.cells[o+i]?=some (iV x):=by
    have:((B.cells.drop (o+i * 1)).take 1)[0]?=some (iV x):=by rw [show (B.cells.drop (o+i * 1)).take 1=_ from hE.1];rfl
    rw [List.getElem?_take,if_pos (by decide),List.getElem?_drop,Nat.mul_one,Nat.add_zero] at this
    exact this
   have se:=(kk f2 bn (by omega) (by omega)).trans gj
   by_cases fA:x= -1
   ·subst fA
    rw [if_pos (by decide)] at og
    simp only [go_sem,ei,hi,CH,hB,iC,se]
    refine ag.by (jb r2.rq) ?_
    rintro _ H3 - p3
    simp only [go_sem,ei,ct]
    exact ⟨_,r2.call p3,f2.then p3.fr,og⟩
   ·rw [if_neg (by simp [fA])] at og
    simp only [go_sem,ei,hi,CH,hB,iC,fA,ct]
    exact ⟨_,r2,f2,og⟩
  ·rintro V H2 ⟨ei,t2,r2,f2,og⟩
   rw [List.drop_length,sJ] at og
   rw [og]
   have pr:=(kk f2 H.next (by omega) (by omega)).trans M5
   have WH:=(kk f2 b8 (by omega) (by omega)).trans AP
   simp only [go_sem,ei,pr,WH,M6,p2]
   exact (r2.own (M:=[b8]) ((Fr.refl _ _).ah (.inl (by simp)) _) (by simp;omega) fun _ _=>rfl).last
 ·obtain ⟨gs,rk,jH⟩:=r1.rq.sM
  simp only [go_sem,M5,wq,gI,p2]
  refine ag.by (Oa rk hP.m (fun c hc=>(r1.rq.hP c (jH c hc)).1)) ?_
  rintro CD H2 - ⟨⟨g2,jT,iL⟩,o2,z2⟩
  have r2:=r1.aH o2 z2
  have pr:=(o2.get H.next (by omega)).trans M5
  have se:=(o2.get bn (by omega)).trans gj
  have WH:=(o2.get b8 (by omega)).trans AP
  have dQ:=(o2.get r (by omega)).trans gI
  have eQ:=o2.nx
  simp only [go_sem,M5,pr]
  refine ag.by (qy jT (by rw [List.length_map];exact hP.m)) ?_
  rintro _ _ - ⟨rfl,rfl⟩
  have r3:=r2.own (M:=[H.next]) ((Fr.refl _ _).ah (b:=H.next) (.inl (by simp)) ⟨cG ⟨cK (jn P) nm,bs,bd,nm,an,sl,ns⟩ (.slice aS nS kS) (.slice aN ns.length kN),52,false,false⟩) (by simp) fun _ _=>rfl
  obtain ⟨H3,dN⟩:=r3.hp
  have zp:H3.get H.next=some ⟨cG ⟨cK (jn P) nm,bs,bd,nm,an,sl,ns⟩ (.slice aS nS kS) (.slice aN ns.length kN),52,false,false⟩:=by rw [dN,az,if_pos rfl]
  have k3:∀c,c≠H.next->H3.get c=H2.get c:=fun c hc=>by rw [dN,az,if_neg hc]
  have Gh:H3.next=H2.next:=by rw [dN];rfl
  have gn3:=(k3 bn (by omega)).trans se
  have AQ:=(k3 b8 (by omega)).trans WH
  have fK:=(k3 r (by omega)).trans dQ
  have hT3:=M7.af (H':=H3) fun c hc=>(k3 c (by have:=(xL c hc).1;omega)).trans (o2.get c (by have:=(xL c hc).1;omega))
  simp only [go_sem,pr,dz]
  rw [<-dN] at r3 ⊢
  clear dN
  generalize hF:cK (jn P) nm=F at *
  have eR:xX P ⟨tg,bs,bd,nm,an,sl,ns⟩ tags n t=if F < 0 then (⟨F,bs,bd,nm,an,sl,ns⟩,(sJ (fun x=>decide (0<=F)&&decide (x=F)) n tags t).fail 4 n.line n.aj) else (⟨F,bs,bd,nm,an,sl,ns⟩,KC ns.length ((P.msgs.getD F.toNat ⟨[],[],0,0⟩).types.length) n (sJ (fun x=>decide (0<=F)&&decide (x=F)) n tags t)):=by
   rw [xX,if_neg wq];simp only [hF]
  rw [eR]
  clear eR
  obtain ⟨p,hp⟩:∃p:Int->Bool,p=fun x=>decide (0<=F)&&decide (x=F):=⟨_,rfl⟩
  rw [<-hp]
  have JL:∀{Hx:ad},Fr [r] H3 Hx->∀c,c < H3.next->c≠r->Hx.get c=H3.get c:=fun f c h1 h2=>f.get c h1 (by simp [h2])
  refine iw 9223363240761757696 tags.length (fun i V H4=>V 43=iV (i:Nat)/\∃t4,RA S P gP H r t m g mi H4 t4/\Fr [r] H3 H4/\sJ p n tags t=sJ p n (tags.drop i) t4) ⟨by simp only [go_sem] <;> rfl,t,r3,Fr.refl _ _,rfl⟩ ?_ ?_ (by rfl)
  ·rintro i V H4 hi ⟨ei,t4,r4,f4,og⟩
   have hx:tags[i]?=some (tags[i]'hi):=List.getElem?_eq_getElem hi
   have cE:tags.drop i=(tags[i]'hi)::tags.drop (i+1):=(List.getElem_cons_drop hi).symm
   generalize (tags[i]'hi)=x at hx cE
   rw [cE,sJ] at og
   have ct:IntKind.wrap .i64 (((i:Nat):Int)+1)=((i+1:Nat):Int):=cZ hi (by omega)
   obtain ⟨bb,o,c',B,gx,hv,hB,ep,dj,cm,hE⟩:=(hT3.af (H':=H4) fun c hc=>JL f4 c (by have:=(xL c hc).1;omega) (xL c hc).2).at hx
   simp only [Value.slice.injEq] at hv
   have CH:=hv.1
   have iC:B.cells[o+i]?=some (iV x):=by
    have:((B.cells.drop (o+i * 1)).take 1)[0]?=some (iV x):=by rw [show (B.cells.drop (o+i * 1)).take 1=_ from hE.1];rfl
    rw [List.getElem?_take,if_pos (by decide),List.getElem?_drop,Nat.mul_one,Nat.add_zero] at this
    exact this
   have Qv:=(JL f4 bn (by omega) (by omega)).trans gn3
   have Em:=(JL f4 H.next (by omega) (by omega)).trans zp
   by_cases M8:0<=F
   ·by_cases Qw:x=F
    ·rw [if_pos (by rw [hp];simp [M8,Qw])] at og
     simp only [go_sem,ei,hi,CH,hB,iC,Qv,Em,M8,Qw]
     refine ag.by (jb r4.rq) ?_
     rintro _ H5 - p5
     simp only [go_sem,ei,ct]
     exact ⟨_,r4.call p5,f4.then p5.fr,og⟩
    ·rw [if_neg (by rw [hp];simp [Qw])] at og
     simp only [go_sem,ei,hi,CH,hB,iC,Em,M8,Qw,ct]
     exact ⟨_,r4,f4,og⟩
   ·rw [if_neg (by rw [hp];simp [M8])] at og
    simp only [go_sem,ei,hi,CH,hB,iC,Em,M8,ct]
    exact ⟨_,r4,f4,og⟩
  ·rintro V H4 ⟨ei,t4,r4,f4,og⟩
   rw [List.drop_length,sJ] at og
   rw [og]
   have nV:=f4.nx
   have Em:=(JL f4 H.next (by omega) (by omega)).trans zp
   have Qv:=(JL f4 bn (by omega) (by omega)).trans gn3
   have g84:=(JL f4 b8 (by omega) (by omega)).trans AQ
   by_cases cA:F < 0
   ·rw [if_pos cA]
    simp only [go_sem,ei,Em,cA,Qv]
    refine ag.by (jb r4.rq) ?_
    rintro _ H5 - p5
    have GA:=(p5.fr.get H.next (by omega) (by simp;omega)).trans Em
    have CE:=(p5.fr.get b8 (by omega) (by simp;omega)).trans g84
    simp only [go_sem,GA,CE,M6,p2]
    exact ((r4.call p5).own (M:=[b8]) ((Fr.refl _ _).ah (.inl (by simp)) _) (by simp;omega) fun _ _=>rfl).last
   ·rw [if_neg cA]
    obtain ⟨fi,hY,c6⟩:=CW (l:=jn P) (s:=nm) (by rw [hF];omega)
    rw [List.length_map] at c6
    rw [hF] at hY
    subst hY
    have ji:P.msgs[fi]?=some (P.msgs[fi]'c6):=List.getElem?_eq_getElem c6
    have fP:P.msgs.getD fi ⟨[],[],0,0⟩=P.msgs[fi]'c6:=by rw [List.getD_eq_getElem?_getD,ji];rfl
    generalize (P.msgs[fi]'c6)=xd at ji fP
    obtain ⟨bd',od,cd,BD,GX,tK,tL,FF,Aj,FG,pE⟩:=r4.rq.sM.at ji
    obtain ⟨wv,iD,qq⟩:=pE
    obtain ⟨aw,kw,rfl⟩:=qq.val
    have iD:(BD.cells.drop (od+fi * 4)).take 4=[ae xd.name,.slice aw xd.types.length kw,iV xd.line,iV xd.aj]:=iD
    have tN:BD.cells[od+fi * 4+1]?=some (.slice aw xd.types.length kw):=by
     have:((BD.cells.drop (od+fi * 4)).take 4)[1]?=some (.slice aw xd.types.length kw):=by rw [iD];rfl
     rw [List.getElem?_take,if_pos (by decide),List.getElem?_drop] at this
     exact this
    obtain ⟨vN4,vI4,tj,_,_⟩:=r4.rq.row
    simp only [go_sem,ei,Em,cA,Qv,tj,tK,c6,tL,tN]
    refine ag.by (Km r4.rq) ?_
    rintro _ H5 - p5
    have GA:=(p5.fr.get H.next (by omega) (by simp;omega)).trans Em
    have CE:=(p5.fr.get b8 (by omega) (by simp;omega)).trans g84
    simp only [go_sem,GA,CE,M6,p2]
    rw [fP]
    exact ((r4.call p5).own (M:=[b8]) ((Fr.refl _ _).ah (.inl (by simp)) _) (by simp;omega) fun _ _=>rfl).last
end
abbrev Rb:=Int->VT->Option VT
abbrev Rn:=Nat->VT->Option VT
def WI (S:XS) (P:bw) (gP:List Nat) (r:Nat) (m:List Nat) (bd:Rb):Prop:=∀{H:ad} {t t':VT} {g mi:List Nat} {k:Int},RQ S P gP H r t m g mi->bd k t=some t'->ak Tryz.prog 83 #[pV r,iV k] H (fun w H'=>wY S P gP H r t m g mi t' H')
def RnW (S:XS) (P:bw) (gP:List Nat) (r:Nat) (m:List Nat) (nd:Rn):Prop:=∀{H:ad} {t t':VT} {g mi:List Nat} {k:Nat},RQ S P gP H r t m g mi->nd k t=some t'->ak Tryz.prog 125 #[pV r,iV (k:Nat)] H (fun w H'=>wY S P gP H r t m g mi t' H')
def Ly (P:bw) (nd:Rn) (hv:Nat):Nat->Int->VT->Option VT
 | 0,_,_=>none
 | j+1,k,t=>if 0<=k/\t.bad=0 then
   (OD P k.toNat t).bind fun t1=>if t1.bad=0 then (nd k.toNat t1).bind fun t2=>if k.toNat < t2.ns.length then Ly P nd hv j (t2.ns.getD k.toNat {}).next t2 else none else some t1
  else if hv<=t.aK.length then some {t with aK:=t.aK.take hv} else none
section
variable {S:XS} {P:bw} {gP:List Nat} {H H1 H2:ad} {r:Nat} {t t1 t2:VT} {m g g1 g2 mi dE dJ:List Nat}
theorem adg (hP:zD P) {nd:Rn} (cQ:RnW S P gP r m nd) (h:RQ S P gP H r t m g mi) (de:t.aK.length < 1000000) {fuel:Nat} {k:Int} {t':VT} (he:Ly P nd t.aK.length fuel k t=some t'):
  ak Tryz.prog 83 #[pV r,iV k] H (fun w H'=>wY S P gP H r t m g mi t' H'):=by
 refine ak.told ?_
 refine aje (Nat.le_refl _) fun hf=>?_
 simp only [Tryz.f83,Option.getD_some]
 have r0:=RR.start h
 obtain ⟨vN,vI,hr,_,hI⟩:=h.row
 obtain ⟨aI,cI,CB⟩:=hI.val
 subst CB
 simp only [go_sem,hr]
 refine la 549755812866 (fun n V H2=>∃k2 t2 g2 dJ,V 1=iV k2/\RR S P gP H r t m g mi H2 t2 g2 dJ/\Ly P nd t.aK.length n k2 t2=some t') (n:=fuel) ⟨k,t,g,mi,by simp only [go_sem] <;> rfl,r0,he⟩ ?_ (by rfl)
 rintro n V H2 ⟨k2,t2,g2,dJ,e1,r2,bh⟩
 cases n with
 | zero=>cases bh
 | succ n=>
  rw [Ly] at bh
  obtain ⟨vN2,G2,dQ,_,hI2,aa9,Z7⟩:=r2.re
  by_cases hk:0<=k2
  ·by_cases hb:t2.bad=0
   ·rw [if_pos ⟨hk,hb⟩] at bh
    obtain ⟨kn,rfl⟩:=Int.eq_ofNat_of_zero_le hk
    rw [Int.toNat_natCast] at bh
    cases hu:OD P kn t2 with
    | none=>rw [hu] at bh;cases bh
    | some t3=>
    rw [hu] at bh
    simp only [Option.bind_some] at bh
    simp only [go_sem,e1,hk,dQ,hb]
    refine ag.by (ahB r2.rq hP hu) ?_
    rintro _ H3 - p3
    obtain ⟨g3,mi3,r3,_,_⟩:=r2.call p3
    obtain ⟨Cg,El,fK,_,_,_,_⟩:=r3.re
    by_cases fB:t3.bad=0
    ·rw [if_pos fB] at bh
     cases hn:nd kn t3 with
     | none=>rw [hn] at bh;cases bh
     | some t4=>
     rw [hn] at bh
     simp only [Option.bind_some] at bh
     simp only [go_sem,fK,fB,e1]
     refine ag.by (cQ r3.rq hn) ?_
     rintro _ H4 - p4
     obtain ⟨g4,mi4,r4,_,_⟩:=r3.call p4
     split at bh
     case isFalse=>cases bh
     rename_i nW
     obtain ⟨vI4,b4,Mx,PS,F9,Jc,xu,gQ4,PM,tj,Qk,hm4,oK,aaH,amt,_,_⟩:=r4.rq.toRQ0.node nW
     have iC:Mx[kn * 20+10]?=some (iV (t4.ns.getD kn {}).next):=by
      have:((Mx.drop (kn * 20)).take 20)[10]?=some (iV (t4.ns.getD kn {}).next):=by rw [amt];rfl
      rw [List.getElem?_take,if_pos (by decide),List.getElem?_drop] at this
      exact this
     simp only [go_sem,e1,tj,nW,oK,iC]
     exact ⟨n,by omega,_,t4,g4,mi4,rfl,r4,bh⟩
    ·rw [if_neg fB] at bh
     cases bh
     simp only [go_sem,fK,fB]
     exact r3.last
   ·rw [if_neg fun e=>hb e.2] at bh
    split at bh
    case isFalse=>cases bh
    rename_i hle
    cases bh
    obtain ⟨v5,dI,ny⟩:=hI2.cut hle
    have r5:=Z7 {t2 with aK:=t2.aK.take t.aK.length} v5 dJ rfl ny fun c hc=>⟨(r2.rq.hi c hc).1,(r2.rq.hi c hc).2.1,(r2.rq.hi c hc).2.2.1,(r2.rq.hi c hc).2.2.2,fun e=>(r2.rq.hm c e).2.2.2.2 hc,r2.si c hc,r2.rq.fi c hc⟩
    obtain ⟨a5,c5,jI⟩:=ny.val
    subst jI
    have hX:=h.fz
    simp only [go_sem,e1,hk,dQ,hb,Option.map_none,Option.map_some,dI,hX]
    exact r5.last
  ·rw [if_neg fun e=>hk e.1] at bh
   split at bh
   case isFalse=>cases bh
   rename_i hle
   cases bh
   obtain ⟨v5,dI,ny⟩:=hI2.cut hle
   have r5:=Z7 {t2 with aK:=t2.aK.take t.aK.length} v5 dJ rfl ny fun c hc=>⟨(r2.rq.hi c hc).1,(r2.rq.hi c hc).2.1,(r2.rq.hi c hc).2.2.1,(r2.rq.hi c hc).2.2.2,fun e=>(r2.rq.hm c e).2.2.2.2 hc,r2.si c hc,r2.rq.fi c hc⟩
   obtain ⟨a5,c5,jI⟩:=ny.val
   subst jI
   have hX:=h.fz
   simp only [go_sem,e1,hk,dQ,Option.map_none,Option.map_some,dI,hX]
   exact r5.last
end
def RgW (S:XS) (P:bw) (gP:List Nat) (r:Nat) (m:List Nat) (gd:Rn):Prop:=∀{H:ad} {t t':VT} {g mi:List Nat} {k:Nat},RQ S P gP H r t m g mi->gd k t=some t'->ak Tryz.prog 154 #[pV r,iV (k:Nat)] H (fun w H'=>wY S P gP H r t m g mi t' H')
def BS (t:VT) (k:Nat) (x:Int):VT:={t with ns:=t.ns.set k {t.ns.getD k {} with x:=x}}
def Yu (bd:Rb) (k:Nat) (n:aG) (t:VT):Option VT:=
 let t1:=BS (fg t n.mI n.line n.aj).2 k t.aY
 (bd n.a {t1 with aK:=t.aK,inner:=((t.aK.length:Nat):Int)}).bind fun t3=>
  if t.aK.length<=t3.aK.length/\t3.aK.length < 1000000 then some {t3 with aK:=t3.aK.take t.aK.length++[⟨n.mI,t.aY⟩],inner:=t.inner} else none
def WJ (bd:Rb) (gd:Rn) (k:Nat) (t:VT):Option VT:=
 if k < t.ns.length/\t.aK.length < 100000/\0<=t.aY/\t.aY < 100000 then
  (let n:=t.ns.getD k {}
  if n.kind=8 then Yu bd k n t
  else if n.kind=1∨n.kind=3∨n.kind=4∨n.kind=5∨n.kind=7 then some (BS (fg t n.mI n.line n.aj).2 k t.aY)
  else if n.kind=11 then bd n.a t
  else if n.kind=16 then (bd n.a t).bind (bd n.b)
  else if n.kind=15 then gd k t
  else some t)
 else none
theorem Ho (t:VT) (s:bf) (l c:Int):(fg t s l c).2.ns=t.ns/\(fg t s l c).2.aK=t.aK++[⟨s,t.aY⟩]/\(fg t s l c).2.inner=t.inner:=by
 refine ⟨?_,rfl,?_⟩
 ·show (wZ (sH t s l c) l c).ns=t.ns
  rw [(XQ _ _ _).2.2,(XP _ _ _ _).2.2]
 ·have hf:∀(t:VT) (e l c:Int),(t.fail e l c).inner=t.inner:=fun t e l c=>by unfold VT.fail;split <;> rfl
  show (wZ (sH t s l c) l c).inner=t.inner
  unfold wZ sH
  (repeat' split) <;> simp only [hf]
section
variable {S:XS} {P:bw} {gP:List Nat} {H H1 H2:ad} {r:Nat} {t t1 t2:VT} {m g g1 g2 mi dE dJ:List Nat}
theorem adh {bd:Rb} {gd:Rn} (jx:WI S P gP r m bd) (fP:RgW S P gP r m gd) (h:RQ S P gP H r t m g mi) {k:Nat} {t':VT} (he:WJ bd gd k t=some t'):
  ak Tryz.prog 125 #[pV r,iV (k:Nat)] H (fun w H'=>wY S P gP H r t m g mi t' H'):=by
 refine ak.told ?_
 refine afP (Nat.le_refl _) fun hf=>?_
 simp only [Tryz.f125,Option.getD_some]
 unfold WJ at he
 split at he
 case isFalse=>cases he
 rename_i hb
 obtain ⟨hk,de,me,dw⟩:=hb
 obtain ⟨vI,b,cs,vA,vQ,vB,gA,gQ,gB,hr,hI,hm,hb,cm,aX,lT,tJ⟩:=h.toRQ0.node hk
 simp only at he
 generalize hn:t.ns.getD k {}=n at *
 obtain ⟨aA,kA,rfl⟩:=lT.a.val
 obtain ⟨aQ,kQ,rfl⟩:=lT.q.val
 obtain ⟨aB,kB,rfl⟩:=lT.b.val
 clear lT
 obtain ⟨kd,x,y,f,nn,cap,rc,op,a,bb,nx,ln,cl,nX,nY,nF,nR,ar,pt,bY⟩:=n
 simp only at he aX
 have dz:H.fz H.next=false:=hf.fresh (Nat.le_refl _)
 have nr:¬r=H.next:=by have:=h.rl;omega
 have uP:¬H.next=r:=fun e=>nr e.symm
 have nb:¬b=H.next:=by have:=(h.hm b (by rw [hm];simp)).1;omega
 have dj:H.next∉r::(m++mi):=fun e=>by
  simp only [List.mem_cons,List.mem_append] at e
  rcases e with e | e | e
  ·omega
  ·have:=(h.hm _ e).1;omega
  ·have:=(h.hi _ e).1;omega
 have Ek:=h.fz
 by_cases WK:kd=8
 ·subst WK
  have r1:=(RR.start h).push ⟨aJ ⟨8,x,y,f,nn,cap,rc,op,a,bb,nx,ln,cl,nX,nY,nF,nR,ar,pt,bY⟩ (.slice aA ar.length kA) (.slice aQ pt.length kQ) (.slice aB bY.length kB),42,false,false⟩
  have iH:(H.push ⟨aJ ⟨8,x,y,f,nn,cap,rc,op,a,bb,nx,ln,cl,nX,nY,nF,nR,ar,pt,bY⟩ (.slice aA ar.length kA) (.slice aQ pt.length kQ) (.slice aB bY.length kB),42,false,false⟩).get H.next=some ⟨aJ ⟨8,x,y,f,nn,cap,rc,op,a,bb,nx,ln,cl,nX,nY,nF,nR,ar,pt,bY⟩ (.slice aA ar.length kA) (.slice aQ pt.length kQ) (.slice aB bY.length kB),42,false,false⟩:=by rw [aV,if_pos rfl]
  simp only [go_sem,hr,hk,hb,cm,aX,dz,nr]
  refine ag.by (C4 (s:=nX) (n:=⟨8,x,y,f,nn,cap,rc,op,a,bb,nx,ln,cl,nX,nY,nF,nR,ar,pt,bY⟩) r1.rq de me dw) ?_
  rintro _ H2 - ⟨rfl,p2⟩
  obtain ⟨g2,dJ,r2,IS,jf⟩:=r1.call p2
  obtain ⟨kN,kI,JM⟩:=Ho t nX ln cl
  have fX:k < (fg t nX ln cl).2.ns.length:=by rw [kN];exact hk
  have iL:(fg t nX ln cl).2.ns.getD k {}=⟨8,x,y,f,nn,cap,rc,op,a,bb,nx,ln,cl,nX,nY,nF,nR,ar,pt,bY⟩:=by rw [kN];exact hn
  obtain ⟨G2,b2,mC,dQ,lS,ft,tO,g3,r3⟩:=r2.sL (j:=1) (v:=iV t.aY) (n':={(fg t nX ln cl).2.ns.getD k {} with x:=t.aY}) fX (by decide) (fun _ _ _=>rfl) rfl rfl rfl
  have r3:RR S P gP H r t m g mi (H2.ah b2 ⟨mC.set (k * 20+1) (iV t.aY),42,true,false⟩) (BS (fg t nX ln cl).2 k t.aY) g3 dJ:=r3
  have zG:b2=b:=by rw [hm] at lS;simpa using lS
  subst zG
  have fx:H.fz b2=false:=h.fm b2 lS
  have dK:k * 20+1 < mC.length:=by omega
  have gh:k * 20+1+1<=mC.length:=by omega
  have nj:=(p2.1.get H.next (Nat.lt_succ_self _) dj).trans iH
  rw [kN] at dQ
  simp only [if_true] at he
  rw [Yu] at he
  simp only at he
  generalize M7:BS (fg t nX ln cl).2 k t.aY=T1 at *
  have amu:T1.aK=t.aK++[⟨nX,t.aY⟩]:=by rw [<-M7];exact kI
  have amv:T1.inner=t.inner:=by rw [<-M7];exact JM
  obtain ⟨H3,dN⟩:=r3.hp
  have nb2:¬H.next=b2:=fun e=>nb e.symm
  have nu:H3.get H.next=some ⟨aJ ⟨8,x,y,f,nn,cap,rc,op,a,bb,nx,ln,cl,nX,nY,nF,nR,ar,pt,bY⟩ (.slice aA ar.length kA) (.slice aQ pt.length kQ) (.slice aB bY.length kB),42,false,false⟩:=by rw [dN,az,if_neg nb2];exact nj
  simp only [go_sem,nj,dQ,hk,ft,fx,dK,gh,eW dK]
  rw [<-dN] at r3 ⊢
  have gJ:¬r=b2:=fun e=>by have:=(h.hm b2 (by rw [hm];simp)).2.1;exact this e.symm
  have amw:H3.get r=some ⟨rC S (.slice (some ⟨b2,0,none⟩) t.ns.length t.ns.length) G2 (fg t nX ln cl).2,136,false,false⟩:=by rw [dN,az,if_neg gJ];exact dQ
  have kV:H2.next<=H3.next:=by rw [dN];exact Nat.le_refl _
  clear dN
  obtain ⟨Cg,El,fK,_,MM,_,aj3⟩:=r3.re
  rw [if_neg gJ,<-amw]
  rw [amu] at MM
  obtain ⟨aI3,cI3,abg⟩:=MM.val
  rw [List.length_append,List.length_singleton] at abg
  subst abg
  have hwl:IntKind.wrap .i64 (((t.aK.length+1:Nat):Int) - 1)=((t.aK.length:Nat):Int):=by rw [show (((t.aK.length+1:Nat):Int) - 1)=((t.aK.length:Nat):Int) by omega];exact vf (by omega)
  obtain ⟨v5,dI,ny⟩:=MM.cut (k:=t.aK.length) (by rw [List.length_append];omega)
  rw [List.take_left] at ny
  obtain ⟨a5,c5,jI⟩:=ny.val
  subst jI
  have r5:=aj3 {T1 with aK:=t.aK,inner:=((t.aK.length:Nat):Int)} _ dJ rfl ny fun c hc=>⟨(r3.rq.hi c hc).1,(r3.rq.hi c hc).2.1,(r3.rq.hi c hc).2.2.1,(r3.rq.hi c hc).2.2.2,fun e=>(r3.rq.hm c e).2.2.2.2 hc,r3.si c hc,r3.rq.fi c hc⟩
  obtain ⟨H5,jK⟩:=r5.hp
  have dO:H5.get H.next=_:=(by rw [jK,az,if_neg (fun e=>nr e.symm)]:H5.get H.next=H3.get H.next).trans nu
  simp only [go_sem,fK,hwl,Option.map_none,Option.map_some,dI,Ek,nu,nr,uP]
  have n25:H2.next<=H5.next:=by rw [jK];show H2.next<=H3.next;exact kV
  rw [Kn,<-jK]
  rw [<-jK] at r5
  clear jK
  cases iB:bd a {T1 with aK:=t.aK,inner:=((t.aK.length:Nat):Int)} with
  | none=>rw [iB] at he;cases he
  | some t3=>
  rw [iB] at he
  simp only [Option.bind_some] at he
  split at he
  case isFalse=>cases he
  rename_i hle
  cases he
  refine ag.by (jx r5.rq iB) ?_
  rintro _ H6 - p6
  obtain ⟨g6,CK,r6,awW,_⟩:=r5.call p6
  have dL:H6.get H.next=_:=(p6.1.get H.next (by have:=p2.1.nx;rw [bJ] at this;have:H2.next<=H5.next:=n25;omega) (fun e=>by
   simp only [List.mem_cons,List.mem_append] at e
   rcases e with e | e | e
   ·omega
   ·have:=(h.hm _ e).1;omega
   ·exact (IS _ e).elim (fun e=>by have:=(h.hi _ e).1;omega) fun e=>by rw [bJ] at e;omega)).trans dO
  obtain ⟨JE,JF,ig,_,JJ,_,_⟩:=r6.re
  obtain ⟨v7,amx,JH⟩:=JJ.cut hle.1
  obtain ⟨a7,c7,xv⟩:=JH.val
  rw [List.length_take,Nat.min_eq_left hle.1] at xv
  subst xv
  simp only [go_sem,ig,Option.map_none,Option.map_some,amx,dL,Rm,eB zT (by decide) (by decide)]
  have r7:=r6.push ⟨[ae nX,iV t.aY],139,false,false⟩
  have kZ:(H6.push ⟨[ae nX,iV t.aY],139,false,false⟩).get r=some ⟨rC S JE JF t3,136,false,false⟩:=(bX r6.rq.rl).trans ig
  have amy:=JH.af (H':=H6.push ⟨[ae nX,iV t.aY],139,false,false⟩) fun c hc=>bX (r6.rq.hi c hc).1
  refine R8 (x:=⟨nX,t.aY⟩) amy (fun c hc=>(r7.rq.hi c hc).1) r7.x (by rw [aV,if_pos rfl]) (by rw [List.length_take];omega) ?_
  intro v8 H8 mi8 hI8 M9 hf8 Qf
  obtain ⟨a8,c8,MI⟩:=hI8.val
  subst MI
  obtain ⟨Ct,r8⟩:=r7.aK kZ hf8 (t2:={t3 with aK:=t3.aK.take t.aK.length++[⟨nX,t.aY⟩],inner:=t.inner}) rfl hI8 M9
  simp only [go_sem,Ct,Ek]
  rw [Kn,amv]
  exact r8.last
 rw [if_neg WK] at he
 by_cases zF:kd=1
 ·subst zF
  have r1:=(RR.start h).push ⟨aJ ⟨1,x,y,f,nn,cap,rc,op,a,bb,nx,ln,cl,nX,nY,nF,nR,ar,pt,bY⟩ (.slice aA ar.length kA) (.slice aQ pt.length kQ) (.slice aB bY.length kB),42,false,false⟩
  have iH:(H.push ⟨aJ ⟨1,x,y,f,nn,cap,rc,op,a,bb,nx,ln,cl,nX,nY,nF,nR,ar,pt,bY⟩ (.slice aA ar.length kA) (.slice aQ pt.length kQ) (.slice aB bY.length kB),42,false,false⟩).get H.next=some ⟨aJ ⟨1,x,y,f,nn,cap,rc,op,a,bb,nx,ln,cl,nX,nY,nF,nR,ar,pt,bY⟩ (.slice aA ar.length kA) (.slice aQ pt.length kQ) (.slice aB bY.length kB),42,false,false⟩:=by rw [aV,if_pos rfl]
  simp only [go_sem,hr,hk,hb,cm,aX,dz,nr]
  refine ag.by (C4 (s:=nX) (n:=⟨1,x,y,f,nn,cap,rc,op,a,bb,nx,ln,cl,nX,nY,nF,nR,ar,pt,bY⟩) r1.rq de me dw) ?_
  rintro _ H2 - ⟨rfl,p2⟩
  obtain ⟨g2,dJ,r2,IS,jf⟩:=r1.call p2
  obtain ⟨kN,kI,JM⟩:=Ho t nX ln cl
  have fX:k < (fg t nX ln cl).2.ns.length:=by rw [kN];exact hk
  have iL:(fg t nX ln cl).2.ns.getD k {}=⟨1,x,y,f,nn,cap,rc,op,a,bb,nx,ln,cl,nX,nY,nF,nR,ar,pt,bY⟩:=by rw [kN];exact hn
  obtain ⟨G2,b2,mC,dQ,lS,ft,tO,g3,r3⟩:=r2.sL (j:=1) (v:=iV t.aY) (n':={(fg t nX ln cl).2.ns.getD k {} with x:=t.aY}) fX (by decide) (fun _ _ _=>rfl) rfl rfl rfl
  have r3:RR S P gP H r t m g mi (H2.ah b2 ⟨mC.set (k * 20+1) (iV t.aY),42,true,false⟩) (BS (fg t nX ln cl).2 k t.aY) g3 dJ:=r3
  have zG:b2=b:=by rw [hm] at lS;simpa using lS
  subst zG
  have fx:H.fz b2=false:=h.fm b2 lS
  have dK:k * 20+1 < mC.length:=by omega
  have gh:k * 20+1+1<=mC.length:=by omega
  have nj:=(p2.1.get H.next (Nat.lt_succ_self _) dj).trans iH
  rw [kN] at dQ
  simp only [Int.reduceEq,if_true,if_false,or_true,true_or,or_false,false_or] at he
  cases he
  simp only [go_sem,hr,nr,dQ,hk,ft,fx,dK,gh,eW dK]
  exact r3.last
 by_cases zB:kd=3
 ·subst zB
  have r1:=(RR.start h).push ⟨aJ ⟨3,x,y,f,nn,cap,rc,op,a,bb,nx,ln,cl,nX,nY,nF,nR,ar,pt,bY⟩ (.slice aA ar.length kA) (.slice aQ pt.length kQ) (.slice aB bY.length kB),42,false,false⟩
  have iH:(H.push ⟨aJ ⟨3,x,y,f,nn,cap,rc,op,a,bb,nx,ln,cl,nX,nY,nF,nR,ar,pt,bY⟩ (.slice aA ar.length kA) (.slice aQ pt.length kQ) (.slice aB bY.length kB),42,false,false⟩).get H.next=some ⟨aJ ⟨3,x,y,f,nn,cap,rc,op,a,bb,nx,ln,cl,nX,nY,nF,nR,ar,pt,bY⟩ (.slice aA ar.length kA) (.slice aQ pt.length kQ) (.slice aB bY.length kB),42,false,false⟩:=by rw [aV,if_pos rfl]
  simp only [go_sem,hr,hk,hb,cm,aX,dz,nr]
  refine ag.by (C4 (s:=nX) (n:=⟨3,x,y,f,nn,cap,rc,op,a,bb,nx,ln,cl,nX,nY,nF,nR,ar,pt,bY⟩) r1.rq de me dw) ?_
  rintro _ H2 - ⟨rfl,p2⟩
  obtain ⟨g2,dJ,r2,IS,jf⟩:=r1.call p2
  obtain ⟨kN,kI,JM⟩:=Ho t nX ln cl
  have fX:k < (fg t nX ln cl).2.ns.length:=by rw [kN];exact hk
  have iL:(fg t nX ln cl).2.ns.getD k {}=⟨3,x,y,f,nn,cap,rc,op,a,bb,nx,ln,cl,nX,nY,nF,nR,ar,pt,bY⟩:=by rw [kN];exact hn
  obtain ⟨G2,b2,mC,dQ,lS,ft,tO,g3,r3⟩:=r2.sL (j:=1) (v:=iV t.aY) (n':={(fg t nX ln cl).2.ns.getD k {} with x:=t.aY}) fX (by decide) (fun _ _ _=>rfl) rfl rfl rfl
  have r3:RR S P gP H r t m g mi (H2.ah b2 ⟨mC.set (k * 20+1) (iV t.aY),42,true,false⟩) (BS (fg t nX ln cl).2 k t.aY) g3 dJ:=r3
  have zG:b2=b:=by rw [hm] at lS;simpa using lS
  subst zG
  have fx:H.fz b2=false:=h.fm b2 lS
  have dK:k * 20+1 < mC.length:=by omega
  have gh:k * 20+1+1<=mC.length:=by omega
  have nj:=(p2.1.get H.next (Nat.lt_succ_self _) dj).trans iH
  rw [kN] at dQ
  simp only [Int.reduceEq,if_true,if_false,or_true,true_or,or_false,false_or] at he
  cases he
  simp only [go_sem,hr,nr,dQ,hk,ft,fx,dK,gh,eW dK]
  exact r3.last
 by_cases ir:kd=4
 ·subst ir
  have r1:=(RR.start h).push ⟨aJ ⟨4,x,y,f,nn,cap,rc,op,a,bb,nx,ln,cl,nX,nY,nF,nR,ar,pt,bY⟩ (.slice aA ar.length kA) (.slice aQ pt.length kQ) (.slice aB bY.length kB),42,false,false⟩
  have iH:(H.push ⟨aJ ⟨4,x,y,f,nn,cap,rc,op,a,bb,nx,ln,cl,nX,nY,nF,nR,ar,pt,bY⟩ (.slice aA ar.length kA) (.slice aQ pt.length kQ) (.slice aB bY.length kB),42,false,false⟩).get H.next=some ⟨aJ ⟨4,x,y,f,nn,cap,rc,op,a,bb,nx,ln,cl,nX,nY,nF,nR,ar,pt,bY⟩ (.slice aA ar.length kA) (.slice aQ pt.length kQ) (.slice aB bY.length kB),42,false,false⟩:=by rw [aV,if_pos rfl]
  simp only [go_sem,hr,hk,hb,cm,aX,dz,nr]
  refine ag.by (C4 (s:=nX) (n:=⟨4,x,y,f,nn,cap,rc,op,a,bb,nx,ln,cl,nX,nY,nF,nR,ar,pt,bY⟩) r1.rq de me dw) ?_
  rintro _ H2 - ⟨rfl,p2⟩
  obtain ⟨g2,dJ,r2,IS,jf⟩:=r1.call p2
  obtain ⟨kN,kI,JM⟩:=Ho t nX ln cl
  have fX:k < (fg t nX ln cl).2.ns.length:=by rw [kN];exact hk
  have iL:(fg t nX ln cl).2.ns.getD k {}=⟨4,x,y,f,nn,cap,rc,op,a,bb,nx,ln,cl,nX,nY,nF,nR,ar,pt,bY⟩:=by rw [kN];exact hn
  obtain ⟨G2,b2,mC,dQ,lS,ft,tO,g3,r3⟩:=r2.sL (j:=1) (v:=iV t.aY) (n':={(fg t nX ln cl).2.ns.getD k {} with x:=t.aY}) fX (by decide) (fun _ _ _=>rfl) rfl rfl rfl
  have r3:RR S P gP H r t m g mi (H2.ah b2 ⟨mC.set (k * 20+1) (iV t.aY),42,true,false⟩) (BS (fg t nX ln cl).2 k t.aY) g3 dJ:=r3
  have zG:b2=b:=by rw [hm] at lS;simpa using lS
  subst zG
  have fx:H.fz b2=false:=h.fm b2 lS
  have dK:k * 20+1 < mC.length:=by omega
  have gh:k * 20+1+1<=mC.length:=by omega
  have nj:=(p2.1.get H.next (Nat.lt_succ_self _) dj).trans iH
  rw [kN] at dQ
  simp only [Int.reduceEq,if_true,if_false,or_true,true_or,or_false,false_or] at he
  cases he
  simp only [go_sem,hr,nr,dQ,hk,ft,fx,dK,gh,eW dK]
  exact r3.last
 by_cases GY:kd=5
 ·subst GY
  have r1:=(RR.start h).push ⟨aJ ⟨5,x,y,f,nn,cap,rc,op,a,bb,nx,ln,cl,nX,nY,nF,nR,ar,pt,bY⟩ (.slice aA ar.length kA) (.slice aQ pt.length kQ) (.slice aB bY.length kB),42,false,false⟩
  have iH:(H.push ⟨aJ ⟨5,x,y,f,nn,cap,rc,op,a,bb,nx,ln,cl,nX,nY,nF,nR,ar,pt,bY⟩ (.slice aA ar.length kA) (.slice aQ pt.length kQ) (.slice aB bY.length kB),42,false,false⟩).get H.next=some ⟨aJ ⟨5,x,y,f,nn,cap,rc,op,a,bb,nx,ln,cl,nX,nY,nF,nR,ar,pt,bY⟩ (.slice aA ar.length kA) (.slice aQ pt.length kQ) (.slice aB bY.length kB),42,false,false⟩:=by rw [aV,if_pos rfl]
  simp only [go_sem,hr,hk,hb,cm,aX,dz,nr]
  refine ag.by (C4 (s:=nX) (n:=⟨5,x,y,f,nn,cap,rc,op,a,bb,nx,ln,cl,nX,nY,nF,nR,ar,pt,bY⟩) r1.rq de me dw) ?_
  rintro _ H2 - ⟨rfl,p2⟩
  obtain ⟨g2,dJ,r2,IS,jf⟩:=r1.call p2
  obtain ⟨kN,kI,JM⟩:=Ho t nX ln cl
  have fX:k < (fg t nX ln cl).2.ns.length:=by rw [kN];exact hk
  have iL:(fg t nX ln cl).2.ns.getD k {}=⟨5,x,y,f,nn,cap,rc,op,a,bb,nx,ln,cl,nX,nY,nF,nR,ar,pt,bY⟩:=by rw [kN];exact hn
  obtain ⟨G2,b2,mC,dQ,lS,ft,tO,g3,r3⟩:=r2.sL (j:=1) (v:=iV t.aY) (n':={(fg t nX ln cl).2.ns.getD k {} with x:=t.aY}) fX (by decide) (fun _ _ _=>rfl) rfl rfl rfl
  have r3:RR S P gP H r t m g mi (H2.ah b2 ⟨mC.set (k * 20+1) (iV t.aY),42,true,false⟩) (BS (fg t nX ln cl).2 k t.aY) g3 dJ:=r3
  have zG:b2=b:=by rw [hm] at lS;simpa using lS
  subst zG
  have fx:H.fz b2=false:=h.fm b2 lS
  have dK:k * 20+1 < mC.length:=by omega
  have gh:k * 20+1+1<=mC.length:=by omega
  have nj:=(p2.1.get H.next (Nat.lt_succ_self _) dj).trans iH
  rw [kN] at dQ
  simp only [Int.reduceEq,if_true,if_false,or_true,true_or,or_false,false_or] at he
  cases he
  simp only [go_sem,hr,nr,dQ,hk,ft,fx,dK,gh,eW dK]
  exact r3.last
 by_cases GZ:kd=7
 ·subst GZ
  have r1:=(RR.start h).push ⟨aJ ⟨7,x,y,f,nn,cap,rc,op,a,bb,nx,ln,cl,nX,nY,nF,nR,ar,pt,bY⟩ (.slice aA ar.length kA) (.slice aQ pt.length kQ) (.slice aB bY.length kB),42,false,false⟩
  have iH:(H.push ⟨aJ ⟨7,x,y,f,nn,cap,rc,op,a,bb,nx,ln,cl,nX,nY,nF,nR,ar,pt,bY⟩ (.slice aA ar.length kA) (.slice aQ pt.length kQ) (.slice aB bY.length kB),42,false,false⟩).get H.next=some ⟨aJ ⟨7,x,y,f,nn,cap,rc,op,a,bb,nx,ln,cl,nX,nY,nF,nR,ar,pt,bY⟩ (.slice aA ar.length kA) (.slice aQ pt.length kQ) (.slice aB bY.length kB),42,false,false⟩:=by rw [aV,if_pos rfl]
  simp only [go_sem,hr,hk,hb,cm,aX,dz,nr]
  refine ag.by (C4 (s:=nX) (n:=⟨7,x,y,f,nn,cap,rc,op,a,bb,nx,ln,cl,nX,nY,nF,nR,ar,pt,bY⟩) r1.rq de me dw) ?_
  rintro _ H2 - ⟨rfl,p2⟩
  obtain ⟨g2,dJ,r2,IS,jf⟩:=r1.call p2
  obtain ⟨kN,kI,JM⟩:=Ho t nX ln cl
  have fX:k < (fg t nX ln cl).2.ns.length:=by rw [kN];exact hk
  have iL:(fg t nX ln cl).2.ns.getD k {}=⟨7,x,y,f,nn,cap,rc,op,a,bb,nx,ln,cl,nX,nY,nF,nR,ar,pt,bY⟩:=by rw [kN];exact hn
  obtain ⟨G2,b2,mC,dQ,lS,ft,tO,g3,r3⟩:=r2.sL (j:=1) (v:=iV t.aY) (n':={(fg t nX ln cl).2.ns.getD k {} with x:=t.aY}) fX (by decide) (fun _ _ _=>rfl) rfl rfl rfl
  have r3:RR S P gP H r t m g mi (H2.ah b2 ⟨mC.set (k * 20+1) (iV t.aY),42,true,false⟩) (BS (fg t nX ln cl).2 k t.aY) g3 dJ:=r3
  have zG:b2=b:=by rw [hm] at lS;simpa using lS
  subst zG
  have fx:H.fz b2=false:=h.fm b2 lS
  have dK:k * 20+1 < mC.length:=by omega
  have gh:k * 20+1+1<=mC.length:=by omega
  have nj:=(p2.1.get H.next (Nat.lt_succ_self _) dj).trans iH
  rw [kN] at dQ
  simp only [Int.reduceEq,if_true,if_false,or_true,true_or,or_false,false_or] at he
  cases he
  simp only [go_sem,hr,nr,dQ,hk,ft,fx,dK,gh,eW dK]
  exact r3.last
 rw [if_neg (by simp [zF,zB,ir,GY,GZ])] at he
 by_cases TV:kd=11
 ·subst TV
  rw [if_pos rfl] at he
  have r1:=(RR.start h).push ⟨aJ ⟨11,x,y,f,nn,cap,rc,op,a,bb,nx,ln,cl,nX,nY,nF,nR,ar,pt,bY⟩ (.slice aA ar.length kA) (.slice aQ pt.length kQ) (.slice aB bY.length kB),42,false,false⟩
  have iH:(H.push ⟨aJ ⟨11,x,y,f,nn,cap,rc,op,a,bb,nx,ln,cl,nX,nY,nF,nR,ar,pt,bY⟩ (.slice aA ar.length kA) (.slice aQ pt.length kQ) (.slice aB bY.length kB),42,false,false⟩).get H.next=some ⟨aJ ⟨11,x,y,f,nn,cap,rc,op,a,bb,nx,ln,cl,nX,nY,nF,nR,ar,pt,bY⟩ (.slice aA ar.length kA) (.slice aQ pt.length kQ) (.slice aB bY.length kB),42,false,false⟩:=by rw [aV,if_pos rfl]
  simp only [go_sem,hr,hk,hb,cm,aX,dz,nr]
  refine ag.by (jx r1.rq he) ?_
  rintro _ H2 - p2
  obtain ⟨g2,dJ,r2,_,_⟩:=r1.call p2
  simp only [go_sem]
  exact r2.last
 rw [if_neg TV] at he
 by_cases TW:kd=16
 ·subst TW
  rw [if_pos rfl] at he
  have r1:=(RR.start h).push ⟨aJ ⟨16,x,y,f,nn,cap,rc,op,a,bb,nx,ln,cl,nX,nY,nF,nR,ar,pt,bY⟩ (.slice aA ar.length kA) (.slice aQ pt.length kQ) (.slice aB bY.length kB),42,false,false⟩
  have iH:(H.push ⟨aJ ⟨16,x,y,f,nn,cap,rc,op,a,bb,nx,ln,cl,nX,nY,nF,nR,ar,pt,bY⟩ (.slice aA ar.length kA) (.slice aQ pt.length kQ) (.slice aB bY.length kB),42,false,false⟩).get H.next=some ⟨aJ ⟨16,x,y,f,nn,cap,rc,op,a,bb,nx,ln,cl,nX,nY,nF,nR,ar,pt,bY⟩ (.slice aA ar.length kA) (.slice aQ pt.length kQ) (.slice aB bY.length kB),42,false,false⟩:=by rw [aV,if_pos rfl]
  simp only [go_sem,hr,hk,hb,cm,aX,dz,nr]
  cases ik:bd a t with
  | none=>rw [ik] at he;cases he
  | some t2=>
  rw [ik] at he
  simp only [Option.bind_some] at he
  refine ag.by (jx r1.rq ik) ?_
  rintro _ H2 - p2
  obtain ⟨g2,dJ,r2,_,_⟩:=r1.call p2
  have nj:=(p2.1.get H.next (Nat.lt_succ_self _) dj).trans iH
  simp only [go_sem,nj]
  refine ag.by (jx r2.rq he) ?_
  rintro _ H3 - p3
  obtain ⟨g3,mi3,r3,_,_⟩:=r2.call p3
  simp only [go_sem]
  exact r3.last
 rw [if_neg TW] at he
 by_cases TX:kd=15
 ·subst TX
  rw [if_pos rfl] at he
  have r1:=(RR.start h).push ⟨aJ ⟨15,x,y,f,nn,cap,rc,op,a,bb,nx,ln,cl,nX,nY,nF,nR,ar,pt,bY⟩ (.slice aA ar.length kA) (.slice aQ pt.length kQ) (.slice aB bY.length kB),42,false,false⟩
  have iH:(H.push ⟨aJ ⟨15,x,y,f,nn,cap,rc,op,a,bb,nx,ln,cl,nX,nY,nF,nR,ar,pt,bY⟩ (.slice aA ar.length kA) (.slice aQ pt.length kQ) (.slice aB bY.length kB),42,false,false⟩).get H.next=some ⟨aJ ⟨15,x,y,f,nn,cap,rc,op,a,bb,nx,ln,cl,nX,nY,nF,nR,ar,pt,bY⟩ (.slice aA ar.length kA) (.slice aQ pt.length kQ) (.slice aB bY.length kB),42,false,false⟩:=by rw [aV,if_pos rfl]
  simp only [go_sem,hr,hk,hb,cm,aX,dz,nr]
  refine ag.by (fP r1.rq he) ?_
  rintro _ H2 - p2
  obtain ⟨g2,dJ,r2,_,_⟩:=r1.call p2
  simp only [go_sem]
  exact r2.last
 rw [if_neg TX] at he
 cases he
 have r1:=(RR.start h).push ⟨aJ ⟨kd,x,y,f,nn,cap,rc,op,a,bb,nx,ln,cl,nX,nY,nF,nR,ar,pt,bY⟩ (.slice aA ar.length kA) (.slice aQ pt.length kQ) (.slice aB bY.length kB),42,false,false⟩
 simp only [go_sem,hr,hk,hb,cm,aX,dz,nr,WK,zF,zB,ir,GY,GZ,TV,TW,TX]
 exact r1.last
end
theorem Gr.mid {α:Type} {r:Rp α} {ty:TypeId} {H:ad} {v:Value} {pre post:List α} {x:α} {m g:List Nat} (h:Gr r ty H v (pre++x::post) m g):
  ∃b c1 cx c2 f1 f2 f3,v=.slice (some ⟨b,0,none⟩) (pre++x::post).length (pre++x::post).length/\m=[b]/\H.get b=some ⟨c1++(cx++c2),ty,true,false⟩/\c1.length=pre.length * r.sz/\cx.length=r.sz/\c2.length=post.length * r.sz/\g=f1++(f2++f3)/\dV r H c1 pre f1/\r.E H cx x f2/\dV r H c2 post f3/\b∉g:=by
 rcases h with ⟨_,h,_⟩ | ⟨b,cs,rfl,h2,rfl,h4,h5,h6,hb⟩
 ·simp at h
 ·obtain ⟨c1,c2',f1,f2',rfl,rfl,e1,a1,a2⟩:=h6.split
  obtain ⟨cx,c2,f2,f3,rfl,rfl,e2,a3⟩:=a2
  have e3:=r.len e2
  refine ⟨b,c1,cx,c2,f1,f2,f3,rfl,rfl,h4,e1,e3,?_,rfl,a1,e2,a3,hb⟩
  simp only [List.length_append,List.length_cons,e1,e3,Nat.add_mul,Nat.succ_mul] at h5
  omega
theorem Gr.ahC {α:Type} {r:Rp α} {ty:TypeId} {H:ad} {b:Nat} {c1 cx c2:List Value} {pre post:List α} {x:α} {f1 f2 f3:List Nat} (hb:H.get b=some ⟨c1++(cx++c2),ty,true,false⟩) (h1:c1.length=pre.length * r.sz) (h2:c2.length=post.length * r.sz) (a1:dV r H c1 pre f1) (e:r.E H cx x f2) (a2:dV r H c2 post f3) (hn:b∉f1++(f2++f3)):
  Gr r ty H (.slice (some ⟨b,0,none⟩) (pre++x::post).length (pre++x::post).length) (pre++x::post) [b] (f1++(f2++f3)):=by
 have hl:(pre++x::post).length=pre.length+(post.length+1):=by simp
 refine Or.inr ⟨b,c1++(cx++c2),rfl,by simp,rfl,hb,?_,a1.join h1 ⟨cx,c2,f2,f3,rfl,rfl,e,a2⟩,hn⟩
 rw [hl,List.length_append,List.length_append,h1,h2,r.len e,Nat.add_mul,Nat.succ_mul]
 omega
theorem NY {c1 cx c2:List Value} {n j:Nat} (h1:c1.length=n) (hj:j < cx.length):(c1++(cx++c2))[n+j]?=cx[j]?:=by
 subst h1
 rw [List.getElem?_append_right (by omega),Nat.add_sub_cancel_left,List.getElem?_append_left hj]
theorem RJ {c1 cx c2:List Value} {n j:Nat} {v:Value} (h1:c1.length=n) (hj:j < cx.length):(c1++(cx++c2)).set (n+j) v=c1++(cx.set j v++c2):=by
 subst h1
 rw [List.set_append_right _ _ (by omega),Nat.add_sub_cancel_left,List.set_append_left _ _ hj]
section
variable {S:XS} {P:bw} {gP:List Nat} {H H1 H2:ad} {r:Nat} {t t1 t2:VT} {m g g1 g2 mi dE dJ:List Nat}
theorem RR.app {α:Type} {rp:Rp α} {tt e:TypeId} {el:Nat} (ha:iM Tryz.prog tt=some (e,rp.sz,el)) (I3:el < 1000) (h:RR S P gP H r t m g mi H1 t1 g1 dE) {vO:Value} {done:List α} {mO gO gx:List Nat} {x:α} {cs:List Value} (cB:Gr rp e H1 vO done mO gO) (hb:RQ0 S P gP H r t m g mi) (dy:∀d∈mO,H.next<=d/\d < H1.next/\d∉dE/\d∉g1) (i4:∀d∈gO,d < H1.next) (hE:rp.E H1 cs x gx) (dj:∀d∈gx,d < H1.next/\d∉mO) (h1:kh cs=true) (df:done.length < 1000000) {K:Value->ad->Prop} {tg:Tag K}
  (hk:∀v8 H8 qm,Gr rp e H8 v8 (done++[x]) qm (gO++gx)->(∀d∈qm,H1.next < d/\d < H8.next)->RR S P gP H r t m g mi H8 t1 g1 dE->H1.next<=H8.next->(∀d,d < H1.next->d∉mO->H8.get d=H1.get d)->K v8 H8):
  ew Tryz.prog H.fz (H1.push ⟨cs,e,false,false⟩) (iS Tryz.prog tt vO (.slice (some ⟨H1.next,0,none⟩) 1 1) (H1.push ⟨cs,e,false,false⟩)) K tg:=by
 have n1:(H1.push ⟨cs,e,false,false⟩).next=H1.next+1:=rfl
 have lo:∀d,d < H1.next->(H1.push ⟨cs,e,false,false⟩).get d=H1.get d:=fun d hd=>bX hd
 have o9:H.next<=H1.next:=h.fr.nx
 refine jZ (r:=rp) (x:=x) (g':=gx) ha (cB.af (fun d hd=>lo d (dy d hd).2.1) fun d hd=>lo d (i4 d hd)) (fun d hd=>by have:=(dy d hd).2.1;omega) (fun d hd=>by have:=i4 d hd;omega) (fun d hd=>⟨by have:=(dj d hd).1;omega,(dj d hd).2⟩) (fun d hd=>h.zn d (dy d hd).1) (by rw [aV,if_pos rfl]) (rp.af hE fun d hd=>lo d (dj d hd).1) h1 ?_ ?_
 ·have:(done.length+1) * el<=1000001 * 1000:=Nat.mul_le_mul (by omega) (by omega)
  omega
 ·intro v8 H8 ll O5 IA BK BM
  refine hk v8 H8 _ ll (fun d hd=>?_) ((h.push _).own BK (fun d hd=>?_) fun d hd=>?_) (by omega) fun d hd hn=>(IA d (by omega) hn).trans (lo d hd)
  ·rw [List.mem_singleton] at hd
   omega
  ·have:=dy d hd
   exact ⟨this.1,by have:=hb.rl;omega,fun e=>by have:=(hb.hm d e).1;omega,this.2.2.1,this.2.2.2,fun e=>by have:=(hb.hP d e).1;omega⟩
  ·rw [BM,show (d==(H1.push ⟨cs,e,false,false⟩).next)=false from by rw [beq_eq_false_iff_ne];omega,Bool.false_or]
def Ln (r:Nat) (m:List Nat) (H:ad) (mi O:List Nat):Prop:=∀c∈O,c < H.next/\c≠r/\c∉m/\c∉mi
theorem Ln.call {O:List Nat} (h:Ln r m H1 dE O) (hf:Fr (r::(m++dE)) H1 H2) (hs:∀c∈dJ,c∈dE∨H1.next<=c):Ln r m H2 dJ O/\∀c∈O,H2.get c=H1.get c:=by
 have nx:=hf.nx
 refine ⟨fun c hc=>?_,fun c hc=>?_⟩
 ·obtain ⟨h1,h2,h3,h4⟩:=h c hc
  exact ⟨by omega,h2,h3,fun e=>(hs c e).elim h4 fun e=>by omega⟩
 ·obtain ⟨h1,h2,h3,h4⟩:=h c hc
  exact hf.get c h1 (by simp only [List.mem_cons,List.mem_append,not_or];exact ⟨h2,h3,h4⟩)
end
def Bh (P:bw) (n:aG):List eY->List eY->List Int->VT->List eY × VT
 | [],done,tags,t=>(done,t)
 | b::l,done,tags,t=>Bh P n l (done++[(xX P b tags n t).1]) (tags++[(xX P b tags n t).1.tag]) (xX P b tags n t).2
def JN (t:VT):Prop:=t.aK.length < 100000/\0<=t.aY/\t.aY < 100000
instance (t:VT):Decidable (JN t):=inferInstanceAs (Decidable (_/\_/\_))
def EI (n:aG):List bf->List Int->VT->Option (List Int × VT)
 | [],sl,t=>if JN t then some (sl,t) else none
 | s::l,sl,t=>if JN t then EI n l (sl++[t.aY]) (fg t s n.line n.aj).2 else none
def A7 (n:aG) (op:List my):List eY->List eY->List (List my)->VT->Option (List eY × List (List my) × VT)
 | [],done,sc,t=>some (done,sc,t)
 | b::l,done,sc,t=>if b.tag= -1∨¬t.bad=0 then A7 n op l (done++[b]) (sc++[op]) t
  else if b.names.length < 100000 then (EI n b.names [] {t with aK:=op}).bind fun x=>
   A7 n op l (done++[{b with aY:=x.1,Ay:=x.2.aY}]) (sc++[(fg x.2 b.ld n.line n.aj).2.aK]) (fg x.2 b.ld n.line n.aj).2
  else none
def EB (bd:Rb):List eY->List (List my)->VT->Option VT
 | b::l,s::sc,t=>if s.length < 1000000 then (bd b.body {t with aK:=s}).bind (EB bd l sc) else none
 | [],_,t=>some t
 | _,[],_=>none
def WL (P:bw) (bd:Rb) (k:Nat) (t:VT):Option VT:=
 if k < t.ns.length/\t.aK.length < 100000/\(t.ns.getD k {}).au.length < 100000/\(t.ns.getD k {}).pat.length < 1000000/\(t.ns.getD k {}).au.all (fun b=>Nat.ble b.names.length 100000)=true then
  (match qK (jn P) (t.ns.getD k {}).pat with
  | none=>some (t.fail 4 (t.ns.getD k {}).line (t.ns.getD k {}).aj)
  | some p=>
   let n:=t.ns.getD k {}
   let n1:aG:={n with pat:=p}
   let a:=Bh P n1 n.au [] [] t
   (A7 n1 (t.aK.filter fun x=>decide (¬x.slot=n.y)) a.1 [] [] a.2).bind fun s=>
    (EB bd s.1 s.2.1 {s.2.2 with ns:=s.2.2.ns.set k {n1 with au:=s.1}}).map fun t2=>{t2 with aK:=t.aK,inner:=s.2.2.inner})
 else none
section
variable {S:XS} {P:bw} {gP:List Nat} {H H1 H2:ad} {r:Nat} {t t1 t2:VT} {m g g1 g2 mi dE dJ:List Nat}
theorem adi (hP:zD P) {bd:Rb} (jx:WI S P gP r m bd) (h:RQ S P gP H r t m g mi) {k:Nat} {t':VT} (he:WL P bd k t=some t'):
  ak Tryz.prog 154 #[pV r,iV (k:Nat)] H (fun w H'=>wY S P gP H r t m g mi t' H'):=by
 refine ak.told ?_
 refine qz (l:=[_,_]) _ mixed Tryz.func154 agu [] (show 2<=216 by decide) rfl fun hf=>?_
 simp only [Tryz.f154,Option.getD_some]
 unfold WL at he
 split at he
 case isFalse=>cases he
 rename_i hb
 obtain ⟨hk,de,amz,j6,rX⟩:=hb
 obtain ⟨vI,b,cs,vA,vQ,vB,gA,gQ,gB,hr,hI,hm,hb,cm,aX,lT,tJ⟩:=h.toRQ0.node hk
 generalize hn:t.ns.getD k {}=n at *
 have rX:∀x∈n.au,x.names.length < 1000000:=fun x hx=>by
  have:=Nat.le_of_ble_eq_true (List.all_eq_true.1 rX x hx);omega
 obtain ⟨aA,kA,rfl⟩:=lT.a.val
 obtain ⟨aQ,kQ,rfl⟩:=lT.q.val
 obtain ⟨aB,kB,rfl⟩:=lT.b.val
 have dz:H.fz H.next=false:=hf.fresh (Nat.le_refl _)
 have nr:¬r=H.next:=by have:=h.rl;omega
 have uP:¬H.next=r:=fun e=>nr e.symm
 have Ek:=h.fz
 have sj:∀c∈gA++(gQ++gB),c < H.next/\c≠r:=fun c hc=>h.hg c (tJ c hc)
 have r1:=((RA.start h).push ⟨aJ n (.slice aA n.args.length kA) (.slice aQ n.pat.length kQ) (.slice aB n.au.length kB),42,false,false⟩).told
 obtain ⟨H1,cH⟩:=r1.hp
 have iH:H1.get H.next=some ⟨aJ n (.slice aA n.args.length kA) (.slice aQ n.pat.length kQ) (.slice aB n.au.length kB),42,false,false⟩:=by rw [cH,bg,aV,if_pos rfl]
 have Jv:H1.next=H.next+1:=by rw [cH];rfl
 refine l8 (l8 (l8 (l8 (l8 (l8 (qA 9444732965739289379824 (fun V H4=>∃p ap kp aL mL gL gp,qK (jn P) n.pat=some p/\V 4=pV H.next/\V 7=.slice aL n.au.length n.au.length/\
   RA S P gP H r t m g mi H4 (Bh P {n with pat:=p} n.au [] [] t).2/\H4.get H.next=some ⟨aJ {n with pat:=p} (.slice aA n.args.length kA) (.slice ap p.length kp) (.slice aB n.au.length kB),42,false,false⟩/\
   Gr dG 52 H4 (.slice aL n.au.length n.au.length) (Bh P {n with pat:=p} n.au [] [] t).1 mL gL/\(∀c∈mL,H.next < c/\c < H4.next)/\(∀c∈gL,c∈gB)/\Sl fJ H4 (.slice ap p.length kp) p gp/\(∀c∈gp,H.next < c/\c < H4.next/\c∉mL)/\H.next < H4.next) ?_ ?_ (by rfl)))))))
 ·simp only [go_sem,hr,hk,hb,cm,aX,dz]
  rw [<-cH] at r1 ⊢
  clear cH
  refine ag.by (Rc r1.rq.toRQ0 hP.m (lT.q.af (H':=H1) fun c hc=>r1.k (sj c (by simp [hc])).1 (sj c (by simp [hc])).2) (fun c hc=>by have:=(sj c (by simp [hc])).1;omega) j6) ?_
  rintro w H2 - ⟨rm,o2,z2⟩
  have r2:=(r1.aH o2 z2).told
  have nj:=(o2.get H.next (by omega)).trans iH
  have eQ:=o2.nx
  unfold IP at rm
  cases AR:qK (jn P) n.pat with
  | none=>
   rw [AR] at rm he
   subst rm
   cases he
   simp only [go_sem,nj]
   refine ag.by (jb r2.rq) ?_
   rintro _ H3 - p3
   simp only [go_sem]
   exact (r2.call p3).rr.last
  | some p=>
   rw [AR] at rm
   obtain ⟨vp,gp,rfl,eJ,D3⟩:=rm
   obtain ⟨ap,kp,rfl⟩:=eJ.val
   have r3:=(r2.own (M:=[H.next]) ((Fr.refl _ _).ah (b:=H.next) (.inl (by simp)) ⟨aJ {n with pat:=p} (.slice aA n.args.length kA) (.slice ap p.length kp) (.slice aB n.au.length kB),42,false,false⟩) (by simp) fun _ _=>rfl).told
   obtain ⟨H3,dN⟩:=r3.hp
   have nu:H3.get H.next=some ⟨aJ {n with pat:=p} (.slice aA n.args.length kA) (.slice ap p.length kp) (.slice aB n.au.length kB),42,false,false⟩:=by rw [dN,bg,az,if_pos rfl]
   have k3:∀c,c≠H.next->H3.get c=H2.get c:=fun c hc=>by rw [dN,bg,az,if_neg hc,bg]
   have Gh:H3.next=H2.next:=by rw [dN];rfl
   simp only [go_sem,nj,dz]
   rw [<-dN] at r3 ⊢
   clear dN
   have U5:=lT.b.af (H':=H3) fun c hc=>r3.k (sj c (by simp [hc])).1 (sj c (by simp [hc])).2
   refine xW (r:=dG) sA U5 (by
    have:n.au.length * 1000<=1000000 * 1000:=Nat.mul_le_mul (by omega) (Nat.le_refl _)
    omega) (fun c hc=>by have:=(sj c (by simp [hc])).1;omega) ?_
   intro vL H4 mL gL nN qi iR
   obtain ⟨aL,qj⟩:=nN.val
   subst qj
   obtain ⟨r4,gq,k4,nV⟩:RA S P gP H r t m g mi H4 t/\(∀d∈mL,H3.next<=d/\d < H4.next)/\(∀d,d < H3.next->H4.get d=H3.get d)/\H3.next<=H4.next:=by
    rcases iR with ⟨rfl,rfl⟩ | ⟨rfl,cs,rfl⟩
    ·exact ⟨r3,by simp,fun _ _=>rfl,Nat.le_refl _⟩
    ·exact ⟨r3.push _,fun d hd=>by rw [List.mem_singleton] at hd;subst hd;exact ⟨Nat.le_refl _,Nat.lt_succ_self _⟩,fun d hd=>bX hd,Nat.le_succ _⟩
   have r4:=r4.told
   have AM:=(k4 H.next (by omega)).trans nu
   have amA:=eJ.af (H':=H4) fun c hc=>by
    have:=D3 c hc
    rw [k4 c (by omega),k3 c (by omega)]
   have abh:∀c∈gp,H.next < c/\c < H4.next/\c∉mL:=fun c hc=>by
    have:=D3 c hc
    exact ⟨by omega,by omega,fun e=>by have:=(gq c e).1;omega⟩
   simp only [go_sem]
   refine qH 9444731839839383585536 n.au.length (fun i V H5=>V 50=iV (i:Nat)/\∃vT mT tags done t5 En,V 8=vT/\RA S P gP H r t m g mi H5 t5/\Gr .int 3 H5 vT tags mT []/\(∀d∈mT,H4.next<=d/\d < H5.next)/\tags.length=i/\H5.get H.next=some ⟨aJ {n with pat:=p} (.slice aA n.args.length kA) (.slice ap p.length kp) (.slice aB n.au.length kB),42,false,false⟩/\
     Gr dG 52 H5 (.slice aL n.au.length n.au.length) (done++n.au.drop i) mL En/\(∀d∈En,d∈gB)/\done.length=i/\H4.next<=H5.next/\(∀d∈gp,H5.get d=H4.get d)/\Bh P {n with pat:=p} n.au [] [] t=Bh P {n with pat:=p} (n.au.drop i) done tags t5)
    ⟨by simp only [go_sem] <;> rfl,.slice none 0 0,[],[],[],t,gL,by simp only [go_sem] <;> rfl,r4,Gr.nil _ _ _,by simp,rfl,AM,nN.af (fun _ _=>rfl) (fun _ _=>rfl),qi,rfl,Nat.le_refl _,fun _ _=>rfl,rfl⟩ ?_ ?_ (by rfl)
   ·rintro i V H5 hi ⟨ei,vT,mT,tags,done,t5,En,e8,r5,FE,mw,fY,dO,lL,xz,df,xC,Mh,G3⟩
    have hx:n.au[i]?=some (n.au[i]'hi):=List.getElem?_eq_getElem hi
    have cE:n.au.drop i=(n.au[i]'hi)::n.au.drop (i+1):=(List.getElem_cons_drop hi).symm
    generalize (n.au[i]'hi)=x at hx cE
    rw [cE] at lL G3
    rw [Bh] at G3
    have Lw:i < (done++x::n.au.drop (i+1)).length:=by rw [List.length_append,List.length_cons];omega
    have pZ:(done++x::n.au.drop (i+1))[i]'Lw=x:=by subst df;simp
    have fh:∀y:eY,(done++x::n.au.drop (i+1)).set i y=(done++[y])++n.au.drop (i+1):=fun y=>by subst df;simp
    have ct:IntKind.wrap .i64 (((i:Nat):Int)+1)=((i+1:Nat):Int):=cZ hi (by omega)
    obtain ⟨b5,dH,f1,f2,f3,hv,dC,iG,fk,lZ,iX,hE,oW⟩:=lL.put Lw
    rw [pZ] at hE
    obtain ⟨vS,vN,u1,u2,jr,rfl,Qx,JO⟩:=hE
    obtain ⟨aS,kS,rfl⟩:=Qx.val
    obtain ⟨aN,kN,rfl⟩:=JO.val
    have jr:(dH.drop (i * 7)).take 7=cG x (.slice aS x.aY.length kS) (.slice aN x.names.length kN):=jr
    have iX:i * 7+7<=dH.length:=iX
    simp only [Value.slice.injEq] at hv
    have iI:=hv.1
    have Pe:b5∈mL:=by rw [dC];simp
    have amr:=gq b5 Pe
    have jh:H.fz b5=false:=hf.fresh (by omega)
    have E6:∀d∈f1++((u1++u2)++f3),d∈En:=fun d hd=>by rw [lZ];exact hd
    have Pg:∀d∈En,d < H.next/\d≠r:=fun d hd=>sj d (by simp [xz d hd])
    obtain ⟨aT,JC⟩:=FE.val
    subst JC
    have n5:=r5.fr.nx
    simp only [go_sem,ei,hi,iI,iG,iX,jr,e8,dO]
    refine ag.by (adX r5.told.rq hP (b:=x) (n:={n with pat:=p}) (FE.sl.af fun _ _=>rfl) (fun c hc=>by rw [List.append_nil] at hc;have:=mw c hc;exact ⟨this.2,by have:=h.rl;omega⟩) (by omega)) ?_
    rintro _ H6 - ⟨rfl,p6⟩
    have PY:H5.next<=H6.next:=p6.fr.nx
    have r6:=r5.told.call p6
    have kk:∀d,d < H5.next->d≠r->H6.get d=H5.get d:=fun d h1 h2=>p6.fr.get d h1 (by simp [h2])
    have GB:=(kk b5 (by omega) (by have:=h.rl;omega)).trans iG
    have dL:=(kk H.next (by omega) uP).trans dO
    generalize hBR:xX P x tags {n with pat:=p} t5=BR at *
    have cO:BR.1.aY=x.aY/\BR.1.names=x.names:=by
     rw [<-hBR,xX]
     (repeat' split) <;> exact ⟨rfl,rfl⟩
    have r7:=(r6.own (M:=[b5]) ((Fr.refl _ _).ah (b:=b5) (.inl (by simp)) ⟨cW dH (i * 7) (cG BR.1 (.slice aS x.aY.length kS) (.slice aN x.names.length kN)),52,true,false⟩) (by simp;omega) fun _ _=>rfl).told
    obtain ⟨H7,cU⟩:=r7.hp
    have k7:∀d,d≠b5->H7.get d=H6.get d:=fun d hd=>by rw [cU,bg,az,if_neg hd]
    have xI:H7.next=H6.next:=by rw [cU];rfl
    have JK:H7.get b5=some ⟨cW dH (i * 7) (cG BR.1 (.slice aS x.aY.length kS) (.slice aN x.names.length kN)),52,true,false⟩:=by rw [cU,bg,az,if_pos rfl]
    have en:=(k7 H.next (by omega)).trans dL
    have kl:∀d∈En,H7.get d=H5.get d:=fun d hd=>by
     have:=Pg d hd
     rw [k7 d (by omega),kk d (by omega) this.2]
    have bH:=oW H7 (cG BR.1 (.slice aS x.aY.length kS) (.slice aN x.names.length kN)) BR.1 (u1++u2) (fun z hz=>kl z (E6 z (by rcases hz with e | e <;> simp [e]))) JK ⟨_,_,u1,u2,rfl,rfl,by show Sl .int H7 _ BR.1.aY u1;rw [cO.1];exact Qx.af fun d hd=>kl d (E6 d (by simp [hd])),by show Sl .str H7 _ BR.1.names u2;rw [cO.2];exact JO.af fun d hd=>kl d (E6 d (by simp [hd]))⟩ (fun e=>by have:=Pg b5 (E6 b5 (by simp only [List.mem_append] at e ⊢;rcases e with e | e <;> simp [e]));omega)
    rw [fh,<-dC] at bH
    have Fg:(cW dH (i * 7) (cG BR.1 (.slice aS x.aY.length kS) (.slice aN x.names.length kN)))[i * 7]?=some (iV BR.1.tag):=by
     unfold cW
     rw [List.getElem?_append_right (by rw [List.length_take];omega),List.length_take,Nat.min_eq_left (by omega),Nat.sub_self];rfl
    have hlen:(cW dH (i * 7) (cG BR.1 (.slice aS x.aY.length kS) (.slice aN x.names.length kN))).length=dH.length:=Xt (by show i * 7+7<=_;exact iX)
    have AS:i * 7+1<=dH.length:=by omega
    simp only [go_sem,ei,hi,iI,GB,jh,iX]
    rw [<-cU] at r7 ⊢
    clear cU
    have aj4:=FE.af (H':=H7) (fun d hd=>by have:=mw d hd;rw [k7 d (by omega),kk d this.2 (by have:=h.rl;omega)]) (by simp)
    simp only [go_sem,ei,hi,iI,JK,Fg,hlen,AS,e8,eB rI (by decide) (by decide)]
    refine r7.app (X:=H.fz) (rp:=.int) (cs:=[iV BR.1.tag]) (gx:=[]) rI (by decide) aj4 (fun d hd=>by have:=mw d hd;exact ⟨by omega,by omega,hf.fresh (by omega)⟩) (by simp) ⟨rfl,rfl⟩ (by simp) rfl (by omega) ?_
    intro v8 H8 mT8 ll M9 r8 AI k8
    simp only [go_sem,ei,ct]
    have kT:∀d,d < H7.next->d∉mT->H8.get d=H7.get d:=k8
    have Qy:∀d,d < H4.next->d∉mT:=fun d hd e=>by have:=(mw d e).1;omega
    refine ⟨v8,mT8,tags++[BR.1.tag],done++[BR.1],BR.2,f1++((u1++u2)++f3),rfl,r8.told,ll.af (fun _ _=>rfl) (fun _ _=>rfl),fun d hd=>?_,by rw [List.length_append,List.length_singleton,fY],(kT H.next (by omega) (Qy _ (by omega))).trans en,?_,fun d hd=>xz d (E6 d hd),by rw [List.length_append,List.length_singleton,df],by show H4.next<=H8.next;omega,fun d hd=>?_,G3⟩
    ·have:=M9 d hd
     show _/\d < H8.next
     omega
    ·exact bH.af (fun d hd=>kT d (by have:=gq d hd;omega) (Qy d (gq d hd).2)) fun d hd=>kT d (by have:=Pg d (E6 d hd);omega) (Qy d (by have:=Pg d (E6 d hd);omega))
    ·have:=abh d hd
     show H8.get d=_
     rw [kT d (by omega) (Qy d this.2.1),k7 d (fun e=>this.2.2 (e▸Pe)),kk d (by omega) (by have:=h.rl;omega),Mh d hd]
   ·rintro V H5 ⟨ei,vT,mT,tags,done,t5,En,e8,r5,FE,mw,fY,dO,lL,xz,df,xC,Mh,G3⟩
    rw [List.drop_length] at lL G3
    rw [List.append_nil] at lL
    rw [Bh] at G3
    simp only [go_sem,ei]
    refine ⟨p,ap,kp,aL,mL,En,gp,rfl,?_⟩
    rw [G3]
    exact ⟨rfl,r5.told,dO,lL.af (fun _ _=>rfl) (fun _ _=>rfl),fun c hc=>by have:=gq c hc;show _/\c < H5.next;omega,xz,amA.af fun c hc=>Mh c hc,fun c hc=>by have:=abh c hc;exact ⟨this.1,by show c < H5.next;omega,this.2.2⟩,by omega⟩
 ·rintro V H4 ⟨p,ap,kp,aL,mL,gL,gp,AR,e4,e7,r4,AM,nN,gq,qi,eJ,xJ,n4⟩
  rw [AR] at he
  simp only at he
  generalize Bh P {n with pat:=p} n.au [] [] t=TG at *
  obtain ⟨ry,tB⟩:=TG
  simp only at he r4 nN
  have hlB:ry.length=n.au.length:=by
   obtain ⟨a,e⟩:=nN.val
   simp only [Value.slice.injEq] at e
   exact e.2.1.symm
  have G4:tB.aK=t.aK:=r4.aK
  have hnB:tB.ns=t.ns:=r4.ns
  -- all,and FV names aan stay
  refine l8 (l8 (qA 9903510869550076459902577664 (fun V2 H5=>∃DD aO mO,V2 10=DD/\V2 11=.slice aO (t.aK.filter fun x=>decide (¬x.slot=n.y)).length (t.aK.filter fun x=>decide (¬x.slot=n.y)).length/\jJ H5 DD t.aK mi/\RA S P gP H r t m g mi H5 tB/\Gr sh 139 H5 (.slice aO (t.aK.filter fun x=>decide (¬x.slot=n.y)).length (t.aK.filter fun x=>decide (¬x.slot=n.y)).length) (t.aK.filter fun x=>decide (¬x.slot=n.y)) mO []/\(∀c∈mO,H4.next<=c/\c < H5.next)/\H4.next<=H5.next/\(∀c,c < H4.next->H5.get c=H4.get c)) ?_ ?_ (by rfl)))
  ·obtain ⟨vN5,vI5,GO,hN5,ny⟩:=r4.rq.row
   rw [G4] at ny
   obtain ⟨aI,cI,CB⟩:=ny.val
   subst CB
   simp only [go_sem,GO]
   refine qH 9902915851373234884605650944 t.aK.length (fun i V3 H5=>V3 79=iV (i:Nat)/\∃vO mO,V3 11=vO/\RA S P gP H r t m g mi H5 tB/\Gr sh 139 H5 vO ((t.aK.take i).filter fun x=>decide (¬x.slot=n.y)) mO []/\(∀c∈mO,H4.next<=c/\c < H5.next)/\H4.next<=H5.next/\(∀c,c < H4.next->H5.get c=H4.get c)) ⟨by simp only [go_sem] <;> rfl,.slice none 0 0,[],by simp only [go_sem] <;> rfl,r4.told,Gr.nil _ _ _,by simp,Nat.le_refl _,fun _ _=>rfl⟩ ?_ ?_ (by rfl)
   ·rintro i V3 H5 hi ⟨ei,vO,mO,rn,r5,lO,dy,xC,k5⟩
    have hx:t.aK[i]?=some (t.aK[i]'hi):=List.getElem?_eq_getElem hi
    have iF:t.aK.take (i+1)=t.aK.take i++[t.aK[i]'hi]:=List.take_succ_eq_append_getElem hi
    generalize (t.aK[i]'hi)=x at hx iF
    have ct:IntKind.wrap .i64 (((i:Nat):Int)+1)=((i+1:Nat):Int):=cZ hi (by omega)
    obtain ⟨b5,o5,c5,B5,dO,jI,MF,amf,amg,Ls,tI⟩:=(ny.sl.af (H':=H5) fun c hc=>k5 c (r4.rq.hi c hc).1).at hx
    have Ls:o5+i * 2+2<=B5.cells.length:=Ls
    have jr:(B5.cells.drop (o5+i * 2)).take 2=[ae x.name,iV x.slot]:=tI.1
    simp only [Value.slice.injEq] at jI
    have haI:=jI.1
    have n5:=r5.fr.nx
    have AB:H.fz H5.next=false:=hf.fresh n5
    have abi:=(k5 H.next n4).trans AM
    have JI:¬H.next=H5.next:=by omega
    obtain ⟨aO,Gt⟩:=lO.val
    subst Gt
    by_cases hs:x.slot=n.y
    ·have c6:(t.aK.take (i+1)).filter (fun x=>decide (¬x.slot=n.y))=(t.aK.take i).filter (fun x=>decide (¬x.slot=n.y)):=by rw [iF,List.filter_append];simp [hs]
     have r6:=(r5.told.push ⟨[ae x.name,iV x.slot],139,false,false⟩).told
     simp only [go_sem,e4,ei,hi,haI,MF,Ls,jr,AB,JI,abi,hs,ct]
     rw [hs] at r6
     refine ⟨_,mO,rn,r6,?_,fun c hc=>by have:=dy c hc;omega,by omega,fun c hc=>by rw [if_neg (by omega)];exact k5 c hc⟩
     rw [c6]
     exact lO.af (fun c hc=>by have:=dy c hc;rw [bg,aV,Ey,if_neg (by omega),bg]) (by simp)
    ·have c6:(t.aK.take (i+1)).filter (fun x=>decide (¬x.slot=n.y))=(t.aK.take i).filter (fun x=>decide (¬x.slot=n.y))++[x]:=by rw [iF,List.filter_append];simp [hs]
     have r6:=(r5.told.push ⟨[ae x.name,iV x.slot],139,false,false⟩).told
     obtain ⟨H6,eT⟩:=r6.hp
     have k6:∀d,d < H5.next->H6.get d=H5.get d:=fun d hd=>by rw [eT,bg,aV,Ey,if_neg (by omega),bg]
     have GI:H6.next=H5.next+1:=by rw [eT];rfl
     simp only [go_sem,e4,ei,hi,haI,MF,Ls,jr,AB,JI,abi,hs,rn,eB zT (by decide) (by decide)]
     rw [<-eT] at r6 ⊢
     have nn6:H5.next+1=H6.next:=by omega
     rw [nn6]
     clear eT
     have hlf:((t.aK.take i).filter fun x=>decide (¬x.slot=n.y)).length<=i:=by
      have:=List.length_filter_le (fun x:my=>decide (¬x.slot=n.y)) (t.aK.take i)
      rw [List.length_take] at this
      omega
     refine r6.app (X:=H.fz) (rp:=sh) (x:=x) (cs:=[ae x.name,iV x.slot]) (gx:=[]) zT (by decide) (lO.af (fun c hc=>k6 c (dy c hc).2) (by simp)) (fun d hd=>by have:=dy d hd;exact ⟨by omega,by omega,hf.fresh (by omega)⟩) (by simp) ⟨rfl,rfl⟩ (by simp) rfl (by omega) ?_
     intro v8 H8 qm ll M9 r8 n68 k8
     simp only [go_sem,ei,ct]
     refine ⟨v8,qm,rfl,r8.told,?_,fun c hc=>by have:=M9 c hc;show _/\c < H8.next;omega,by show H4.next<=H8.next;omega,fun c hc=>by rw [k8 c (by omega) (fun e=>by have:=(dy c e).1;omega),k6 c (by omega),k5 c hc]⟩
     rw [c6]
     exact ll.af (fun _ _=>rfl) (fun _ _=>rfl)
   ·rintro V3 H5 ⟨ei,vO,mO,rn,r5,lO,dy,xC,k5⟩
    rw [List.take_length] at lO
    obtain ⟨aO,Gt⟩:=lO.val
    subst Gt
    simp only [go_sem,ei,rn]
    exact ⟨_,aO,mO,rfl,rfl,ny.af (fun c hc=>k5 c (r4.rq.hi c hc).1),r5.told,lO.af (fun _ _=>rfl) (fun _ _=>rfl),dy,xC,k5⟩
  ·rintro V2 H5 ⟨DD,aO,mO,e10,rn,amB,r5,lO,dy,xC,k5⟩
   have awX:(t.aK.filter fun x=>decide (¬x.slot=n.y)).length<=t.aK.length:=List.length_filter_le _ _
   generalize (t.aK.filter fun x=>decide (¬x.slot=n.y))=op at *
   have dO:=(k5 H.next n4).trans AM
   have aj5:=nN.af (H':=H5) (fun c hc=>k5 c (gq c hc).2) (fun c hc=>k5 c (by have:=(sj c (by simp [qi c hc])).1;omega))
   have amC:=eJ.af (H':=H5) fun c hc=>k5 c (xJ c hc).2.1
   cases Cf:A7 {n with pat:=p} op ry [] [] tB with
   | none=>rw [Cf] at he;cases he
   | some SS=>
   rw [Cf] at he
   obtain ⟨oh,tP,tC⟩:=SS
   simp only [Option.bind_some] at he
   obtain ⟨bs,hbs⟩:∃bs,bs=H5.next:=⟨_,rfl⟩
   refine l8 (qA 11972621413014756705924576246091476213979200199245824 (fun V3 H7=>∃g7 wI qs fS vs,V3 14=.slice (some ⟨bs,0,none⟩) n.au.length n.au.length/\RR S P gP H r t m g mi H7 tC g7 wI/\H7.get H.next=some ⟨aJ {n with pat:=p} (.slice aA n.args.length kA) (.slice ap p.length kp) (.slice aB n.au.length kB),42,false,false⟩/\
     Gr dG 52 H7 (.slice aL n.au.length n.au.length) oh mL qs/\Ln r m H7 wI (bs::mL++qs)/\(∀c∈qs,c∈g∨H.next<=c)/\Sl fJ H7 (.slice ap p.length kp) p gp/\Ln r m H7 wI (H.next::gp)/\jJ H7 DD t.aK mi/\
     H7.get bs=some ⟨vs,134,false,false⟩/\dV (Rp.slice sh) H7 vs tP fS/\vs.length=n.au.length/\(∀c∈fS,H.next < c/\c < H7.next/\c≠bs/\c∉mL)/\tP.length=n.au.length/\H.next∉g7/\H.next < bs/\oh.length=n.au.length/\∀c∈qs,c≠H.next) ?_ ?_ (by rfl))
   ·have hzS:gf Tryz.prog 134=some [.slice none 0 0]:=by kernel_rfl
    have av9:n.au.length < 100000:=amz
    simp only [go_sem,e7,hlB]
    rw [RD (n:=n.au.length) (c:=n.au.length) afd hzS (by decide) (Nat.le_refl _) (by omega) (by omega)]
    have r6:=(r5.rr.push ⟨ff [.slice none 0 0] n.au.length,134,false,false⟩).told
    obtain ⟨H6,eT⟩:=r6.hp
    have Jd:H6.get bs=some ⟨ff [.slice none 0 0] n.au.length,134,false,false⟩:=by rw [eT,bg,aV,if_pos hbs]
    have k6:∀c,c < H5.next->H6.get c=H5.get c:=fun c hc=>by rw [eT,bg,bX hc]
    have GI:H6.next=H5.next+1:=by rw [eT];rfl
    simp only [go_sem,e7]
    rw [<-eT,<-hbs]
    rw [<-eT] at r6
    clear eT
    have amD:∀q,(ff [.slice none 0 0] q:List Value).length=q:=fun q=>by
     induction q with
     | zero=>rfl
     | succ q ih=>show ([.slice none 0 0]++ff [.slice none 0 0] q:List Value).length=_;rw [List.length_append,ih];simp;omega
    have tQ:∀c∈mi,c < H.next/\c≠r/\c∉m:=fun c hc=>⟨(h.hi c hc).1,(h.hi c hc).2.1,fun e=>(h.hm c e).2.2.2.2 hc⟩
    have nm:∀c,H.next<=c->c∉m/\c≠r/\c∉gP/\c∉mi/\c∉g:=fun c hc=>⟨fun e=>by have:=(h.hm c e).1;omega,by have:=h.rl;omega,fun e=>by have:=(h.hP c e).1;omega,fun e=>by have:=(h.hi c e).1;omega,fun e=>by have:=(h.hg c e).1;omega⟩
    have Qz:∀c∈gL,c∈g:=fun c hc=>tJ c (by simp [qi c hc])
    have oM:∀c∈g,c < H.next/\c≠r/\c∉m/\c∉mi:=fun c hc=>⟨(h.hg c hc).1,(h.hg c hc).2,fun e=>(h.hm c e).2.2.2.1 hc,fun e=>(h.hi c e).2.2.2 hc⟩
    refine qH 11972621413014756705924269236961733439671025216421888 n.au.length (fun i V3 H7=>V3 98=iV (i:Nat)/\∃done sc tS g7 wI qs fS vs rest,RR S P gP H r t m g mi H7 tS g7 wI/\H7.get H.next=some ⟨aJ {n with pat:=p} (.slice aA n.args.length kA) (.slice ap p.length kp) (.slice aB n.au.length kB),42,false,false⟩/\
      Gr dG 52 H7 (.slice aL n.au.length n.au.length) (done++ry.drop i) mL qs/\Ln r m H7 wI (H.next::bs::(mL++qs++gp++mO))/\(∀c∈qs,c∈g∨H.next < c)/\(∀c∈qs,c≠bs/\c∉mL/\c≠H.next)/\(∀c∈H.next::bs::mL,c∉g7)/\Sl fJ H7 (.slice ap p.length kp) p gp/\Sl sh H7 (.slice aO op.length op.length) op mO/\jJ H7 DD t.aK mi/\
      H7.get bs=some ⟨vs++rest,134,false,false⟩/\vs.length=i/\rest.length+i=n.au.length/\dV (Rp.slice sh) H7 vs sc fS/\(∀c∈fS,H.next < c/\c < H7.next/\c≠bs/\c∉mL)/\sc.length=i/\done.length=i/\H6.next<=H7.next/\A7 {n with pat:=p} op ry [] [] tB=A7 {n with pat:=p} op (ry.drop i) done sc tS)
     ⟨by simp only [go_sem] <;> rfl,[],[],tB,g,mi,gL,[],[],ff [.slice none 0 0] n.au.length,r6,(k6 H.next (by omega)).trans dO,aj5.af (fun c hc=>k6 c (by have:=gq c hc;omega)) (fun c hc=>k6 c (by have:=(oM c (Qz c hc)).1;omega)),?_,fun c hc=>.inl (Qz c hc),?_,?_,amC.af fun c hc=>k6 c (by have:=xJ c hc;omega),by have:=lO.sl.af (H':=H6) (fun c hc=>k6 c (by rw [List.append_nil] at hc;exact (dy c hc).2));rw [List.append_nil] at this;exact this,amB.af fun c hc=>k6 c (by have:=(tQ c hc).1;omega),Jd,rfl,by rw [amD];omega,rfl,by simp,rfl,rfl,Nat.le_refl _,rfl⟩ ?_ ?_ (by rfl)
    ·intro c hc
     simp only [List.mem_append,List.mem_cons] at hc
     have aH:c∈g->c < H6.next/\c≠r/\c∉m/\c∉mi:=fun e=>⟨by have:=(oM c e).1;omega,(oM c e).2⟩
     have new:H.next<=c->c < H6.next->c < H6.next/\c≠r/\c∉m/\c∉mi:=fun h1 h2=>⟨h2,(nm c h1).2.1,(nm c h1).1,(nm c h1).2.2.2.1⟩
     rcases hc with e | e | (((e | e) | e) | e)
     ·exact new (by omega) (by omega)
     ·exact new (by omega) (by omega)
     ·exact new (by have:=gq c e;omega) (by have:=gq c e;omega)
     ·exact aH (Qz c e)
     ·exact new (by have:=xJ c e;omega) (by have:=xJ c e;omega)
     ·exact new (by have:=dy c e;omega) (by have:=dy c e;omega)
    ·intro c hc
     have:=(oM c (Qz c hc)).1
     exact ⟨by omega,fun e=>by have:=gq c e;omega,by omega⟩
    ·intro c hc
     simp only [List.mem_cons] at hc
     rcases hc with e | e | e
     ·exact (nm c (by omega)).2.2.2.2
     ·exact (nm c (by omega)).2.2.2.2
     ·exact (nm c (by have:=gq c e;omega)).2.2.2.2
    ·rintro i V3 H7 hi ⟨ei,done,sc,tS,g7,wI,qs,fS,vs,rest,r7,en,bH,yL,BT,yM,Eo,BU,Lz,E7,Ep,tc,qe,E8,qL,BV,df,PZ,nB⟩
     have G4:i < ry.length:=by omega
     have hx:ry[i]?=some (ry[i]'G4):=List.getElem?_eq_getElem G4
     have cE:ry.drop i=(ry[i]'G4)::ry.drop (i+1):=(List.getElem_cons_drop G4).symm
     generalize (ry[i]'G4)=x at hx cE
     rw [cE] at bH nB
     rw [A7] at nB
     have ct:IntKind.wrap .i64 (((i:Nat):Int)+1)=((i+1:Nat):Int):=cZ hi (by omega)
     obtain ⟨bL,c1,cx,c2,f1,f2,f3,qj,dC,Na,eA,I5,il,rfl,a1,hE,a2,gW⟩:=bH.mid
     obtain ⟨vS,vN,u1,u2,rfl,rfl,Qx,JO⟩:=hE
     obtain ⟨aS,kS,rfl⟩:=Qx.val
     obtain ⟨aN,kN,rfl⟩:=JO.val
     simp only [Value.slice.injEq] at qj
     have iI:=qj.1
     have eA:c1.length=i * 7:=by rw [eA,df];rfl
     have hgc:∀j v,j < 7->(cG x (.slice aS x.aY.length kS) (.slice aN x.names.length kN))[j]?=some v->(c1++(cG x (.slice aS x.aY.length kS) (.slice aN x.names.length kN)++c2))[i * 7+j]?=some v:=fun j v hj hv=>by rw [NY eA hj];exact hv
     obtain ⟨zH,iD⟩:∃zH,zH=c1++(cG x (.slice aS x.aY.length kS) (.slice aN x.names.length kN)++c2):=⟨_,rfl⟩
     rw [<-iD] at Na hgc
     have g0:zH[i * 7]?=some (iV x.tag):=hgc 0 _ (by decide) rfl
     obtain ⟨MZ,M0,kZ,_,JH,_,_⟩:=r7.re
     have amE:0 < rest.length:=by omega
     have WM:H.fz bs=false:=hf.fresh (by omega)
     have pU:i < (vs++rest).length:=by rw [List.length_append];omega
     have TY:i+1<=(vs++rest).length:=pU
     obtain ⟨w0,sK,rfl⟩:∃w0 sK,rest=w0::sK:=by
      cases rest with
      | nil=>simp at amE
      | cons a l=>exact ⟨a,l,rfl⟩
     have SL:∀v,(vs++w0::sK).set i v=(vs++[v])++sK:=fun v=>by subst tc;simp
     have IQ:sK.length+(i+1)=n.au.length:=by simp only [List.length_cons] at qe;omega
     have xi:=fun c (hc:c∈H.next::bs::(mL++(f1++(u1++u2++f3))++gp++mO))=>yL c hc
     have DE:=xi bs (by simp)
     have qO:bL∈mL:=by rw [dC];simp
     have WN:H.fz bL=false:=hf.fresh (by have:=gq bL qO;omega)
     have stop:∀{b':Bool},x.tag= -1∨¬tS.bad=0->True:=fun _=>trivial
     by_cases wq:x.tag= -1
     ·rw [if_pos (.inl wq)] at nB
      simp only [go_sem,ei,hi,e7,iI,Na,g0,wq,rn,Ep,WM,pU,TY,eW pU]
      have r8:=(r7.told.own (M:=[bs]) ((Fr.refl _ _).ah (b:=bs) (.inl (by simp)) ⟨(vs++[.slice aO op.length op.length])++sK,134,false,false⟩) (fun c hc=>by rw [List.mem_singleton] at hc;subst hc;exact ⟨by omega,DE.2.1,DE.2.2.1,DE.2.2.2,Eo _ (by simp),(nm _ (by omega)).2.2.1⟩) fun _ _=>rfl).told
      rw [SL]
      obtain ⟨H8,fL⟩:=r8.hp
      have k8:∀c,c≠bs->H8.get c=H7.get c:=fun c hc=>by rw [fL,bg,az,if_neg hc,bg]
      have gs8:H8.get bs=some ⟨(vs++[.slice aO op.length op.length])++sK,134,false,false⟩:=by rw [fL,bg,az,if_pos rfl]
      have Ec:H8.next=H7.next:=by rw [fL];rfl
      simp only [ct,ei,go_sem]
      rw [<-fL] at r8 ⊢
      clear fL
      have zJ:∀c∈H.next::(mL++(f1++(u1++u2++f3))++gp++mO),c≠bs:=fun c hc e=>by
       simp only [List.mem_cons,List.mem_append] at hc
       rcases hc with e' | (((e' | e') | e') | e')
       ·omega
       ·have:=gq c e';omega
       ·exact (yM c (by simp only [List.mem_append];exact e')).1 e
       ·have:=xJ c e';omega
       ·have:=dy c e';omega
      have kq:∀c,c≠bs->H8.get c=H7.get c:=k8
      have LA:Sl sh H8 (.slice aO op.length op.length) op mO:=Lz.af fun c hc=>kq c (zJ c (by simp [hc]))
      refine ⟨done++[x],sc++[op],tS,g7,wI,_,fS++mO,vs++[.slice aO op.length op.length],sK,r8,by rw [if_neg (zJ _ (by simp))];exact en,?_,fun c hc=>by have:=yL c hc;exact ⟨by omega,this.2⟩,BT,yM,Eo,BU.af fun c hc=>kq c (zJ c (by simp [hc])),LA,E7.af fun c hc=>kq c (by have:=(tQ c hc).1;omega),rfl,by rw [List.length_append,List.length_singleton,tc],IQ,(E8.af fun c hc=>kq c (qL c hc).2.2.1).join (by rw [tc,BV];show i=i * 1;omega) (dV.one ⟨_,rfl,LA⟩),fun c hc=>?_,by rw [List.length_append,List.length_singleton,BV],by rw [List.length_append,List.length_singleton,df],by omega,nB⟩
      ·have:=bH.af (H':=H8) (fun c hc=>kq c (zJ c (by simp [hc]))) (fun c hc=>kq c (zJ c (by simp only [List.mem_cons,List.mem_append] at hc ⊢;rcases hc with e | e | e <;> simp [e])))
       rw [iI] at this
       rw [List.append_assoc]
       exact this
      ·rcases List.mem_append.1 hc with e | e
       ·have:=qL c e
        exact ⟨this.1,by omega,this.2.2⟩
       ·have:=dy c e
        have h2:=(xi c (by simp [e])).1
        exact ⟨by omega,by omega,by omega,fun e=>by have:=gq c e;omega⟩
     ·by_cases Dy:tS.bad=0
      ·rw [if_neg (by simp [wq,Dy])] at nB
       by_cases abj:x.names.length < 100000
       case' neg=>rw [if_neg abj,Cf] at nB;cases nB
       rw [if_pos abj] at nB
       have awY:=Cf
       rw [Cf] at nB
       cases qc:EI {n with pat:=p} x.names [] {tS with aK:=op} with
       | none=>rw [qc] at nB;cases nB
       | some BN=>
       rw [qc] at nB
       obtain ⟨slF,tF⟩:=BN
       simp only [Option.bind_some] at nB
       simp only [go_sem,ei,hi,e7,iI,Na,g0,wq,kZ,Dy,rn]
       refine xW (r:=sh) zT (Lz.af (H':=H7.ai H.fz) fun _ _=>rfl) (by
        have:op.length * 1000<=1000000 * 1000:=Nat.mul_le_mul (by omega) (Nat.le_refl _)
        omega) (fun c hc=>(xi c (by simp [hc])).1) ?_
       intro vB H8 mB gB8 FH _ iR
       have Ca:=FH.flat
       subst Ca
       obtain ⟨aB8,Nb⟩:=FH.val
       subst Nb
       obtain ⟨o8,Er⟩:ba (H7.ai H.fz) H8/\∀c∈mB,c=H7.next/\c < H8.next:=by
        rcases iR with ⟨rfl,rfl⟩ | ⟨rfl,cs,rfl⟩
        ·exact ⟨ba.refl _,by simp⟩
        ·exact ⟨ba.push _ _,fun c hc=>by rw [List.mem_singleton] at hc;subst hc;exact ⟨rfl,Nat.lt_succ_self _⟩⟩
       have AI:H7.next<=H8.next:=o8.nx
       obtain ⟨Ct,r9⟩:=r7.told.aK (t2:={tS with aK:=op}) (dJ:=mB) kZ (o8.fr _) rfl FH.inr fun c hc=>⟨.inr (Er c hc).1,(Er c hc).2⟩
       obtain ⟨H9,jY⟩:=r9.hp
       have k9:∀c,c < H7.next->c≠r->H9.get c=H7.get c:=fun c h1 h2=>by rw [jY,bg,az,if_neg h2];exact o8.get c h1
       have M3:H9.next=H8.next:=by rw [jY];rfl
       simp only [go_sem,Ct,Ek]
       rw [<-jY] at r9 ⊢
       clear jY
       have DG:=xi bL (by simp [qO])
       have amF:=(k9 bL DG.1 DG.2.1).trans Na
       have QA:∀c,c < H7.next->c∉mB:=fun c hc e=>by have:=(Er c e).1;omega
       have nk:zH.length=i * 7+(7+c2.length):=by rw [iD,List.length_append,List.length_append,eA];rfl
       have Cd:i * 7+5 < zH.length:=by omega
       have amG:i * 7+5+1<=zH.length:=by omega
       have Z8:zH.set (i * 7+5) (.slice none 0 0)=c1++(cG {x with aY:=[]} (.slice none 0 0) (.slice aN x.names.length kN)++c2):=by rw [iD,RJ eA (show 5 < 7 by decide)];rfl
       obtain ⟨FI,OE⟩:∃FI,FI=zH.set (i * 7+5) (.slice none 0 0):=⟨_,rfl⟩
       have cT:=(r9.own (M:=[bL]) ((Fr.refl _ _).ah (b:=bL) (.inl (by simp)) ⟨FI,52,true,false⟩) (fun c hc=>by rw [List.mem_singleton] at hc;subst hc;exact ⟨by have:=gq _ qO;omega,DG.2.1,DG.2.2.1,QA _ DG.1,Eo _ (by simp [qO]),(nm _ (by have:=gq _ qO;omega)).2.2.1⟩) fun _ _=>rfl).told
       obtain ⟨dh,oY⟩:=cT.hp
       have qo:∀c,c≠bL->dh.get c=H9.get c:=fun c hc=>by rw [oY,bg,az,if_neg hc]
       have abk:dh.get bL=some ⟨FI,52,true,false⟩:=by rw [oY,bg,az,if_pos rfl]
       have abb:dh.next=H8.next:=by rw [oY,Ey,oO];exact M3
       simp only [go_sem,ei,hi,e7,iI,amF,WN,Cd,amG,eW Cd]
       rw [<-OE,<-oY]
       rw [<-oY] at cT
       clear oY
       have kH:∀c,c < H7.next->c≠r->c≠bL->dh.get c=H7.get c:=fun c h1 h2 h3=>(qo c h3).trans (k9 c h1 h2)
       have g6n:FI[i * 7+6]?=some (.slice aN x.names.length kN):=by rw [OE,Z8,NY eA (show 6 < 7 by decide)];rfl
       have atC:FI.length=zH.length:=by rw [OE,List.length_set]
       simp only [go_sem,ei,hi,e7,iI,abk,g6n]
       obtain ⟨Q,hQ⟩:∃Q,Q=H.next::bs::((f1++(u1++u2++f3))++gp++mO++mi):=⟨_,rfl⟩
       have u0:∀c∈Q,c < H7.next/\c≠r/\c∉m/\c≠bL:=fun c hc=>by
        rw [hQ] at hc
        simp only [List.mem_cons,List.mem_append] at hc
        have l7:c∈H.next::bs::(mL++(f1++(u1++u2++f3))++gp++mO)->c < H7.next/\c≠r/\c∉m:=fun e=>⟨(xi c e).1,(xi c e).2.1,(xi c e).2.2.1⟩
        have awZ:=gq bL qO
        rcases hc with e | e | (((e | e) | e) | e)
        ·exact ⟨(l7 (by simp [e])).1,(l7 (by simp [e])).2.1,(l7 (by simp [e])).2.2,by omega⟩
        ·exact ⟨(l7 (by simp [e])).1,(l7 (by simp [e])).2.1,(l7 (by simp [e])).2.2,by omega⟩
        ·have e':c∈f1++(u1++u2++f3):=by simp only [List.mem_append];exact e
         have:=l7 (by simp only [List.mem_cons,List.mem_append] at e' ⊢;exact .inr (.inr (.inl (.inl (.inr e')))))
         exact ⟨this.1,this.2.1,this.2.2,fun e2=>(yM c e').2.1 (e2▸qO)⟩
        ·have:=l7 (by simp [e])
         exact ⟨this.1,this.2.1,this.2.2,fun e2=>(xJ c e).2.2 (e2▸qO)⟩
        ·have:=l7 (by simp [e])
         exact ⟨this.1,this.2.1,this.2.2,fun e2=>by have:=dy c e;omega⟩
        ·have:=tQ c e
         exact ⟨by omega,this.2.1,this.2.2,by omega⟩
       have BW:bL≠r/\bL∉m/\bL∉gP:=⟨DG.2.1,DG.2.2.1,(nm bL (by have:=gq bL qO;omega)).2.2.1⟩
       have aj6:Ln r m dh mB (bL::Q):=fun c hc=>by
        rcases List.mem_cons.1 hc with e | e
        ·subst e;exact ⟨by omega,BW.1,BW.2.1,QA c DG.1⟩
        ·have:=u0 c e;exact ⟨by omega,this.2.1,this.2.2.1,QA c this.1⟩
       have gxQ:dh.get H.next=some ⟨aJ {n with pat:=p} (.slice aA n.args.length kA) (.slice ap p.length kp) (.slice aB n.au.length kB),42,false,false⟩:=(kH H.next (u0 _ (by simp [hQ])).1 (u0 _ (by simp [hQ])).2.1 (u0 _ (by simp [hQ])).2.2.2).trans en
       have amH:Sl .str dh (.slice aN x.names.length kN) x.names u2:=(JO.af (H':=dh) fun c hc=>kH c (u0 c (by simp [hQ,hc])).1 (u0 c (by simp [hQ,hc])).2.1 (u0 c (by simp [hQ,hc])).2.2.2)
       refine qH 11417970652611937578435456927608523274479337472 x.names.length (fun j V4 dX=>V4 133=iV (j:Nat)/\∃CL sl mS t9 g9 wJ uz,RR S P gP H r t m g mi dX t9 g9 wJ/\dX.get bL=some ⟨uz,52,true,false⟩/\uz=c1++(cG {x with aY:=sl} CL (.slice aN x.names.length kN)++c2)/\Gr .int 3 dX CL sl mS []/\(∀c∈mS,dh.next<=c/\c < dX.next/\c∉wJ/\c∉g9)/\Ln r m dX wJ (bL::Q)/\(∀c∈Q,dX.get c=dh.get c)/\(∀c∈H.next::bs::mL,c∉g9)/\dh.next<=dX.next/\EI {n with pat:=p} x.names [] {tS with aK:=op}=EI {n with pat:=p} (x.names.drop j) sl t9/\sl.length=j/\(∀c∈fS,c∉wJ/\dX.get c=dh.get c)/\∀c∈wJ,H7.next<=c)
        ⟨by simp only [go_sem] <;> rfl,.slice none 0 0,[],[],_,g7,mB,FI,cT.told,abk,by rw [OE,Z8],Gr.nil _ _ _,by simp,aj6,fun _ _=>rfl,Eo,Nat.le_refl _,rfl,rfl,fun c hc=>⟨QA c (qL c hc).2.1,rfl⟩,fun c hc=>by have:=(Er c hc).1;omega⟩ ?_ ?_ (by rfl)
       ·rintro j V4 dX hj ⟨ej,CL,sl,mS,t9,g9,wJ,uz,dk,IT,E9,QB,CM,SM,FJ,TZ,Z9,lE,eK,KW,T0⟩
        have hy:x.names[j]?=some (x.names[j]'hj):=List.getElem?_eq_getElem hj
        have ur:x.names.drop j=(x.names[j]'hj)::x.names.drop (j+1):=(List.getElem_cons_drop hj).symm
        generalize (x.names[j]'hj)=s at hy ur
        rw [ur,EI] at lE
        by_cases gi:JN t9
        ·rw [if_pos gi] at lE
         have wE:IntKind.wrap .i64 (((j:Nat):Int)+1)=((j+1:Nat):Int):=cZ hj (by omega)
         obtain ⟨bn,on,cn,Bn,yU,LZ,qc,iC⟩:=(amH.af (H':=dX) fun c hc=>FJ c (by simp [hQ,hc])).Kv hy
         simp only [Value.slice.injEq] at yU
         have wH:=yU.1
         have Dz:=(FJ H.next (by simp [hQ])).trans gxQ
         have g5:uz[i * 7+5]?=some CL:=by rw [E9,NY eA (show 5 < 7 by decide)];rfl
         simp only [go_sem,ei,ej,hi,hj,e4,e7,iI,wH,LZ,iC,IT,g5,Dz]
         refine ag.by (C4 (s:=s) (n:={n with pat:=p}) dk.told.rq gi.1 gi.2.1 gi.2.2) ?_
         rintro _ dr - ⟨rfl,dA⟩
         obtain ⟨jF,yN,dm,Dk,xh⟩:=dk.told.call dA
         have ZO:dX.next<=dr.next:=dA.1.nx
         obtain ⟨Dl,Ak⟩:=(show Ln r m (dX.ai H.fz) wJ (bL::Q) from SM).call dA.1 Dk
         have Ak:∀c∈bL::Q,dr.get c=dX.get c:=Ak
         have SN:∀c∈mS,dr.get c=dX.get c:=fun c hc=>by
          have:=CM c hc
          exact dA.1.get c this.2.1 (by simp only [List.mem_cons,List.mem_append,not_or];exact ⟨(nm c (by omega)).2.1,(nm c (by omega)).1,this.2.2.1⟩)
         have SO:∀c∈fS,dr.get c=dX.get c:=fun c hc=>by
          have:=qL c hc
          exact dA.1.get c (by show c < dX.next;omega) (by simp only [List.mem_cons,List.mem_append,not_or];exact ⟨(nm c (by omega)).2.1,(nm c (by omega)).1,(KW c hc).1⟩)
         have Ph:=(Ak bL (by simp)).trans IT
         obtain ⟨aS9,amI⟩:=QB.val
         subst amI
         have gK:=dm
         simp only [go_sem,iI,IT,Ph,g5,eB rI (by decide) (by decide)]
         refine gK.app (rp:=.int) (cs:=[iV t9.aY]) (gx:=[]) rI (by decide) (QB.af SN (by simp)) h.toRQ0 (fun c hc=>?_) (by simp) ⟨rfl,rfl⟩ (by simp) rfl (by omega) ?_
         ·have:=CM c hc
          exact ⟨by omega,by omega,fun e=>(Dk c e).elim this.2.2.1 fun e=>by have:dX.next<=c:=e;omega,fun e=>(xh c e).elim this.2.2.2 fun e=>by have:dX.next<=c:=e;omega⟩
         intro v13 ju amJ aaa aab gK aj7 Cy
         obtain ⟨a13,amK⟩:=aaa.val
         subst amK
         have kS:∀c,c < dr.next->c∉mS->ju.get c=dr.get c:=Cy
         have nS:∀c,c < dh.next->c∉mS:=fun c hc e=>by have:=(CM c e).1;omega
         have aj8:bL < dh.next:=by omega
         have amL:=(kS bL (by omega) (nS _ aj8)).trans Ph
         have ahD:uz.length=zH.length:=by rw [E9,nk,List.length_append,List.length_append,eA];rfl
         have abl:i * 7+5 < uz.length:=by omega
         have aj9:i * 7+5+1<=uz.length:=by omega
         obtain ⟨vH,KY⟩:∃vH,vH=uz.set (i * 7+5) (.slice a13 (sl++[t9.aY]).length (sl++[t9.aY]).length):=⟨_,rfl⟩
         have R9:vH=c1++(cG {x with aY:=sl++[t9.aY]} (.slice a13 (sl++[t9.aY]).length (sl++[t9.aY]).length) (.slice aN x.names.length kN)++c2):=by rw [KY,E9,RJ eA (show 5 < 7 by decide)];rfl
         have IU:∀c∈H.next::bs::mL,c∉jF:=fun c hc e=>by
          have be:c < dX.next:=by
           simp only [List.mem_cons] at hc
           rcases hc with e | e | e
           ·omega
           ·omega
           ·have:=(xi c (by simp [e])).1;omega
          have Gw:H.next<=c:=by
           simp only [List.mem_cons] at hc
           rcases hc with e | e | e
           ·omega
           ·omega
           ·have:=gq c e;omega
          exact (xh c e).elim (TZ c hc) fun e=>by have:dX.next<=c:=e;omega
         have ke:=(gK.own (M:=[bL]) ((Fr.refl _ _).ah (b:=bL) (.inl (by simp)) ⟨vH,52,true,false⟩) (fun c hc=>by rw [List.mem_singleton] at hc;subst hc;exact ⟨by have:=gq _ qO;omega,BW.1,BW.2.1,(Dl _ (by simp)).2.2.2,IU _ (by simp [qO]),BW.2.2⟩) fun _ _=>rfl).told
         obtain ⟨jG,ou⟩:=ke.hp
         have uX:∀c,c≠bL->jG.get c=ju.get c:=fun c hc=>by rw [ou,bg,az,if_neg hc]
         have T2:jG.get bL=some ⟨vH,52,true,false⟩:=by rw [ou,bg,az,if_pos rfl]
         have aa3:jG.next=ju.next:=by rw [ou];rfl
         simp only [go_sem,ei,hi,e7,iI,amL,WN,abl,aj9,eW abl]
         rw [<-KY,<-ou]
         rw [<-ou] at ke
         clear ou
         simp only [go_sem,ej,wE]
         have kF:∀c,c < dX.next->c∉mS->c≠bL->jG.get c=dr.get c:=fun c h1 h2 h3=>(uX c h3).trans (kS c (by omega) h2)
         refine ⟨_,sl++[t9.aY],amJ,_,jF,yN,vH,ke.told,T2,R9,aaa.af (H':=jG.ai H.fz) (fun c hc=>uX c (by have:=(aab c hc).1;omega)) (by simp),fun c hc=>?_,fun c hc=>?_,fun c hc=>?_,IU,by show dh.next<=jG.next;omega,lE,by rw [List.length_append,List.length_singleton,eK],fun c hc=>?_,fun c hc=>(Dk c hc).elim (T0 c) fun e=>by have:dX.next<=c:=e;omega⟩
         ·have:=aab c hc
          exact ⟨by omega,by show c < jG.next;omega,fun e=>by have:=(dm.rq.hi c e).1;omega,fun e=>by have:=(dm.rq.hg c e).1;omega⟩
         ·have:=Dl c hc
          exact ⟨by show c < jG.next;omega,this.2⟩
         ·have:=u0 c hc
          rw [<-FJ c hc,<-Ak c (by simp [hc])]
          exact kF c (by omega) (nS c (by omega)) this.2.2.2
         ·have h7:=qL c hc
          have PG:=KW c hc
          refine ⟨fun e=>(Dk c e).elim PG.1 fun e=>by have:dX.next<=c:=e;omega,?_⟩
          rw [<-PG.2,<-SO c hc]
          exact kF c (by omega) (nS c (by omega)) (fun e=>h7.2.2.2 (e▸qO))
        ·rw [if_neg gi,qc] at lE
         cases lE
       ·rintro V4 dX ⟨ej,CL,sl,mS,t9,g9,wJ,uz,dk,IT,E9,QB,CM,SM,FJ,TZ,Z9,lE,eK,KW,T0⟩
        rw [List.drop_length,EI] at lE
        by_cases gi:JN t9
        ·rw [if_pos gi,qc] at lE
         simp only [Option.some.injEq,Prod.mk.injEq] at lE
         obtain ⟨dw,jT⟩:=lE
         have dw:=dw.symm
         have jT:=jT.symm
         subst dw jT
         have Dz:=(FJ H.next (by simp [hQ])).trans gxQ
         have g4:uz[i * 7+4]?=some (ae x.ld):=by rw [E9,NY eA (show 4 < 7 by decide)];rfl
         simp only [go_sem,ei,ej,hi,e4,e7,iI,IT,g4,Dz]
         refine ag.by (C4 (s:=x.ld) (n:={n with pat:=p}) dk.told.rq gi.1 gi.2.1 gi.2.2) ?_
         rintro _ dr - ⟨rfl,dA⟩
         obtain ⟨jF,yN,dm,Dk,xh⟩:=dk.told.call dA
         have ZO:dX.next<=dr.next:=dA.1.nx
         obtain ⟨Dl,Ak⟩:=(show Ln r m (dX.ai H.fz) wJ (bL::Q) from SM).call dA.1 Dk
         have Ak:∀c∈bL::Q,dr.get c=dX.get c:=Ak
         have SN:∀c∈mS,dr.get c=dX.get c:=fun c hc=>by
          have:=CM c hc
          exact dA.1.get c this.2.1 (by simp only [List.mem_cons,List.mem_append,not_or];exact ⟨(nm c (by omega)).2.1,(nm c (by omega)).1,this.2.2.1⟩)
         have SO:∀c∈fS,dr.get c=dX.get c:=fun c hc=>by
          have:=qL c hc
          exact dA.1.get c (by show c < dX.next;omega) (by simp only [List.mem_cons,List.mem_append,not_or];exact ⟨(nm c (by omega)).2.1,(nm c (by omega)).1,(KW c hc).1⟩)
         have Ph:=(Ak bL (by simp)).trans IT
         have IU:∀c∈H.next::bs::mL,c∉jF:=fun c hc e=>by
          have be:c < dX.next:=by
           simp only [List.mem_cons] at hc
           rcases hc with e | e | e
           ·omega
           ·omega
           ·have:=(xi c (by simp [e])).1;omega
          have Gw:H.next<=c:=by
           simp only [List.mem_cons] at hc
           rcases hc with e | e | e
           ·omega
           ·omega
           ·have:=gq c e;omega
          exact (xh c e).elim (TZ c hc) fun e=>by have:dX.next<=c:=e;omega
         have ahD:uz.length=zH.length:=by rw [E9,nk,List.length_append,List.length_append,eA];rfl
         have abm:i * 7+1 < uz.length:=by omega
         have aka:i * 7+1+1<=uz.length:=by omega
         obtain ⟨vH,KY⟩:∃vH,vH=uz.set (i * 7+1) (iV t9.aY):=⟨_,rfl⟩
         have R9:vH=c1++(cG {x with aY:=sl,Ay:=t9.aY} CL (.slice aN x.names.length kN)++c2):=by rw [KY,E9,RJ eA (show 1 < 7 by decide)];rfl
         have ke:=(dm.own (M:=[bL]) ((Fr.refl _ _).ah (b:=bL) (.inl (by simp)) ⟨vH,52,true,false⟩) (fun c hc=>by rw [List.mem_singleton] at hc;subst hc;exact ⟨by have:=gq _ qO;omega,BW.1,BW.2.1,(Dl _ (by simp)).2.2.2,IU _ (by simp [qO]),BW.2.2⟩) fun _ _=>rfl).told
         obtain ⟨jG,ou⟩:=ke.hp
         have uX:∀c,c≠bL->jG.get c=dr.get c:=fun c hc=>by rw [ou,bg,az,if_neg hc]
         have T2:jG.get bL=some ⟨vH,52,true,false⟩:=by rw [ou,bg,az,if_pos rfl]
         have aa3:jG.next=dr.next:=by rw [ou];rfl
         obtain ⟨amM,aw0,Pj,_,LB,_,_⟩:=ke.re
         rw [<-ou] at Pj LB
         obtain ⟨LC,LD,akb⟩:=LB.val
         subst akb
         have LB:jJ jG (.slice LC (fg t9 x.ld n.line n.aj).2.aK.length LD) (fg t9 x.ld n.line n.aj).2.aK yN:=LB
         have Pj:jG.get r=some ⟨rC S amM (.slice LC (fg t9 x.ld n.line n.aj).2.aK.length LD) (fg t9 x.ld n.line n.aj).2,136,false,false⟩:=Pj
         have nB:some (oh,tP,tC)=A7 {n with pat:=p} op (ry.drop (i+1)) (done++[{x with aY:=sl,Ay:=t9.aY}]) (sc++[(fg t9 x.ld n.line n.aj).2.aK]) (fg t9 x.ld n.line n.aj).2:=nB
         have ke:RR S P gP H r t m g mi ((dr.ah bL ⟨vH,52,true,false⟩).ai H.fz) (fg t9 x.ld n.line n.aj).2 jF yN:=ke
         have FK:bs∈Q:=by simp [hQ]
         have amN:jG.get bs=some ⟨vs++w0::sK,134,false,false⟩:=(uX bs (u0 bs FK).2.2.2).trans ((Ak bs (by simp [FK])).trans ((FJ bs FK).trans ((kH bs (u0 bs FK).1 (u0 bs FK).2.1 (u0 bs FK).2.2.2).trans Ep)))
         have aac:bs∉yN:=(Dl bs (by simp [FK])).2.2.2
         rw [<-ou] at ke
         have mu:=(ke.own (M:=[bs]) ((Fr.refl _ _).ah (b:=bs) (.inl (by simp)) ⟨(vs++[.slice LC (fg t9 x.ld n.line n.aj).2.aK.length LD])++sK,134,false,false⟩) (fun c hc=>by rw [List.mem_singleton] at hc;subst hc;exact ⟨by omega,DE.2.1,DE.2.2.1,aac,IU _ (by simp),(nm _ (by omega)).2.2.1⟩) fun _ _=>rfl).told
         obtain ⟨jv,IV⟩:=mu.hp
         have wG:∀c,c≠bs->jv.get c=jG.get c:=fun c hc=>by rw [IV,bg,az,if_neg hc]
         have amO:jv.get bs=some ⟨(vs++[.slice LC (fg t9 x.ld n.line n.aj).2.aK.length LD])++sK,134,false,false⟩:=by rw [IV,bg,az,if_pos rfl]
         have aw1:jv.next=jG.next:=by rw [IV];rfl
         simp only [go_sem,ei,hi,e7,iI,Ph,WN,abm,aka,eW abm]
         rw [<-KY,<-ou]
         clear ou
         have nrL:¬r=bL:=fun e=>BW.1 e.symm
         have T3:=(uX r nrL).symm.trans Pj
         simp only [go_sem,nrL,T3,hi,amN,WM,pU,TY,eW pU]
         rw [SL,<-IV]
         rw [<-IV] at mu
         clear IV
         simp only [go_sem,ei,ct]
         have FL:∀c∈Q,c≠bs->jv.get c=H7.get c:=fun c hc hn=>by
          have h7:=u0 c hc
          rw [wG c hn,uX c h7.2.2.2,Ak c (by simp [hc]),FJ c hc,kH c h7.1 h7.2.1 h7.2.2.2]
         have xO:∀c∈f1++((u1++u2)++f3),c∈Q/\c≠bs/\c≠bL:=fun c hc=>by
          have h1:=yM c hc
          refine ⟨?_,h1.1,fun e=>h1.2.1 (e▸qO)⟩
          rw [hQ]
          simp only [List.mem_cons,List.mem_append] at hc ⊢
          exact .inr (.inr (.inl (.inl (.inl hc))))
         have T4:∀c∈gp,c∈Q/\c≠bs:=fun c hc=>⟨by simp [hQ,hc],fun e=>by have:=xJ c hc;omega⟩
         have T5:∀c∈mO,c∈Q/\c≠bs:=fun c hc=>⟨by simp [hQ,hc],fun e=>by have:=dy c hc;omega⟩
         have abn:∀c∈mi,c∈Q/\c≠bs:=fun c hc=>⟨by simp [hQ,hc],fun e=>by have:=(tQ c hc).1;omega⟩
         have hSx:∀c∈mS,jv.get c=dX.get c/\c≠bs/\c≠bL:=fun c hc=>by
          have:=CM c hc
          exact ⟨by rw [wG c (by omega),uX c (by omega),SN c hc],by omega,by omega⟩
         have awa:dr.next<=jv.next:=by omega
         have amP:jv.get bL=some ⟨c1++(cG {x with aY:=sl,Ay:=t9.aY} CL (.slice aN x.names.length kN)++c2),52,true,false⟩:=by
          rw [wG bL (by have:=gq bL qO;omega),T2,R9]
         have akc:Sl .int jv CL sl mS:=by
          have:=QB.sl.af (H':=jv) fun c hc=>by rw [List.append_nil] at hc;exact (hSx c hc).1
          rw [List.append_nil] at this
          exact this
         have akd:Sl .str jv (.slice aN x.names.length kN) x.names u2:=JO.af fun c hc=>FL c (xO c (by simp [hc])).1 (xO c (by simp [hc])).2.1
         have ake:(done++({x with aY:=sl,Ay:=t9.aY}:eY)::ry.drop (i+1)).length=n.au.length:=by
          rw [List.length_append,List.length_cons,List.length_drop];omega
         have abo:Gr dG 52 jv (.slice (some ⟨bL,0,none⟩) n.au.length n.au.length) ((done++[{x with aY:=sl,Ay:=t9.aY}])++ry.drop (i+1)) mL (f1++((mS++u2)++f3)):=by
          have:=Gr.ahC (r:=dG) (ty:=52) (pre:=done) (post:=ry.drop (i+1)) (x:={x with aY:=sl,Ay:=t9.aY}) amP (by rw [eA,df];rfl) il (a1.af fun c hc=>FL c (xO c (by simp [hc])).1 (xO c (by simp [hc])).2.1) ⟨CL,_,mS,u2,rfl,rfl,akc,akd⟩ (a2.af fun c hc=>FL c (xO c (by simp [hc])).1 (xO c (by simp [hc])).2.1) (fun e=>by
           simp only [List.mem_append] at e
           rcases e with e | (e | e) | e
           ·exact (xO bL (by simp [e])).2.2 rfl
           ·exact (hSx bL e).2.2 rfl
           ·exact (xO bL (by simp [e])).2.2 rfl
           ·exact (xO bL (by simp [e])).2.2 rfl)
          rw [ake] at this
          rw [List.append_assoc,dC]
          exact this
         rw [<-iI] at abo
         obtain ⟨gsc,akf,abp⟩:=LB.sl
         have ahE:∀c∈yN,H7.next<=c/\c < dr.next:=fun c hc=>⟨(Dk c hc).elim (T0 c) fun e=>by have:dX.next<=c:=e;omega,(dm.rq.hi c hc).1⟩
         have awb:∀c,c < jv.next->c∈bL::Q->c < jv.next/\c≠r/\c∉m/\c∉yN:=fun c h1 h2=>⟨h1,(Dl c h2).2⟩
         have amQ:∀c∈mS,c < jv.next/\c≠r/\c∉m/\c∉yN:=fun c hc=>by
          have h1:=CM c hc
          exact ⟨by omega,(nm c (by omega)).2.1,(nm c (by omega)).1,fun e=>(Dk c e).elim h1.2.2.1 fun e=>by have:dX.next<=c:=e;omega⟩
         refine ⟨done++[({x with aY:=sl,Ay:=t9.aY}:eY)],sc++[(fg t9 x.ld n.line n.aj).2.aK],_,jF,yN,f1++((mS++u2)++f3),fS++gsc,vs++[.slice LC (fg t9 x.ld n.line n.aj).2.aK.length LD],sK,mu.told,?_,abo.af (fun _ _=>rfl) (fun _ _=>rfl),?_,?_,?_,IU,BU.af fun c hc=>FL c (T4 c hc).1 (T4 c hc).2,Lz.af fun c hc=>FL c (T5 c hc).1 (T5 c hc).2,E7.af fun c hc=>FL c (abn c hc).1 (abn c hc).2,amO,by rw [List.length_append,List.length_singleton,tc],IQ,?_,?_,by rw [List.length_append,List.length_singleton,BV],by rw [List.length_append,List.length_singleton,df],by show H6.next<=jv.next;omega,Cf.trans nB⟩
         ·exact (FL H.next (by simp [hQ]) (by omega)).trans en
         ·intro c hc
          have akg:bL < jv.next:=by omega
          have G5:c∈Q->c < jv.next/\c≠r/\c∉m/\c∉yN:=fun e=>⟨by have:=(u0 c e).1;omega,(Dl c (by simp [e])).2⟩
          simp only [List.mem_cons,List.mem_append] at hc
          rcases hc with e | e | (((e | e) | e) | e)
          ·exact G5 (by simp [hQ,e])
          ·exact G5 (by simp [hQ,e])
          ·rw [dC,List.mem_singleton] at e
           subst e
           exact ⟨akg,(Dl _ (by simp)).2⟩
          ·rcases e with e | (e | e) | e
           ·exact G5 (xO c (by simp [e])).1
           ·exact amQ c e
           ·exact G5 (xO c (by simp [e])).1
           ·exact G5 (xO c (by simp [e])).1
          ·exact G5 (T4 c e).1
          ·exact G5 (T5 c e).1
         ·intro c hc
          simp only [List.mem_append] at hc
          rcases hc with e | (e | e) | e
          ·exact BT c (by simp [e])
          ·exact .inr (by have:=CM c e;omega)
          ·exact BT c (by simp [e])
          ·exact BT c (by simp [e])
         ·intro c hc
          simp only [List.mem_append] at hc
          rcases hc with e | (e | e) | e
          ·exact yM c (by simp [e])
          ·have:=CM c e
           exact ⟨by omega,fun e'=>by have:=(xi c (by simp [e'])).1;omega,by omega⟩
          ·exact yM c (by simp [e])
          ·exact yM c (by simp [e])
         ·refine (E8.af fun c hc=>?_).join (by rw [tc,BV];show i=i * 1;omega) (dV.one ⟨_,rfl,akf.af fun c hc=>?_⟩)
          ·have h7:=qL c hc
           have nbl:c≠bL:=fun e=>h7.2.2.2 (e▸qO)
           show jv.get c=_
           rw [wG c h7.2.2.1,uX c nbl,SO c hc,(KW c hc).2,kH c h7.2.1 (nm c (by omega)).2.1 nbl]
          ·show jv.get c=_
           exact wG c fun e=>aac (e▸abp c hc)
         ·intro c hc
          rcases List.mem_append.1 hc with e | e
          ·have h7:=qL c e
           exact ⟨h7.1,by show c < jv.next;omega,h7.2.2⟩
          ·have h1:=ahE c (abp c e)
           exact ⟨by omega,by show c < jv.next;omega,by omega,fun e'=>by have:=(xi c (by simp [e'])).1;omega⟩
        ·rw [if_neg gi,qc] at lE
         cases lE
      ·rw [if_pos (.inr Dy)] at nB
       simp only [go_sem,ei,hi,e7,iI,Na,g0,wq,kZ,Dy,rn,Ep,WM,pU,TY,eW pU]
       have r8:=(r7.told.own (M:=[bs]) ((Fr.refl _ _).ah (b:=bs) (.inl (by simp)) ⟨(vs++[.slice aO op.length op.length])++sK,134,false,false⟩) (fun c hc=>by rw [List.mem_singleton] at hc;subst hc;exact ⟨by omega,DE.2.1,DE.2.2.1,DE.2.2.2,Eo _ (by simp),(nm _ (by omega)).2.2.1⟩) fun _ _=>rfl).told
       rw [SL]
       obtain ⟨H8,fL⟩:=r8.hp
       have k8:∀c,c≠bs->H8.get c=H7.get c:=fun c hc=>by rw [fL,bg,az,if_neg hc,bg]
       have gs8:H8.get bs=some ⟨(vs++[.slice aO op.length op.length])++sK,134,false,false⟩:=by rw [fL,bg,az,if_pos rfl]
       have Ec:H8.next=H7.next:=by rw [fL];rfl
       simp only [ct,ei,go_sem]
       rw [<-fL] at r8 ⊢
       clear fL
       have zJ:∀c∈H.next::(mL++(f1++(u1++u2++f3))++gp++mO),c≠bs:=fun c hc e=>by
        simp only [List.mem_cons,List.mem_append] at hc
        rcases hc with e' | (((e' | e') | e') | e')
        ·omega
        ·have:=gq c e';omega
        ·exact (yM c (by simp only [List.mem_append];exact e')).1 e
        ·have:=xJ c e';omega
        ·have:=dy c e';omega
       have kq:∀c,c≠bs->H8.get c=H7.get c:=k8
       have LA:Sl sh H8 (.slice aO op.length op.length) op mO:=Lz.af fun c hc=>kq c (zJ c (by simp [hc]))
       refine ⟨done++[x],sc++[op],tS,g7,wI,_,fS++mO,vs++[.slice aO op.length op.length],sK,r8,by rw [if_neg (zJ _ (by simp))];exact en,?_,fun c hc=>by have:=yL c hc;exact ⟨by omega,this.2⟩,BT,yM,Eo,BU.af fun c hc=>kq c (zJ c (by simp [hc])),LA,E7.af fun c hc=>kq c (by have:=(tQ c hc).1;omega),rfl,by rw [List.length_append,List.length_singleton,tc],IQ,(E8.af fun c hc=>kq c (qL c hc).2.2.1).join (by rw [tc,BV];show i=i * 1;omega) (dV.one ⟨_,rfl,LA⟩),fun c hc=>?_,by rw [List.length_append,List.length_singleton,BV],by rw [List.length_append,List.length_singleton,df],by omega,nB⟩
       ·have:=bH.af (H':=H8) (fun c hc=>kq c (zJ c (by simp [hc]))) (fun c hc=>kq c (zJ c (by simp only [List.mem_cons,List.mem_append] at hc ⊢;rcases hc with e | e | e <;> simp [e])))
        rw [iI] at this
        rw [List.append_assoc]
        exact this
       ·rcases List.mem_append.1 hc with e | e
        ·have:=qL c e
         exact ⟨this.1,by omega,this.2.2⟩
        ·have:=dy c e
         have h2:=(xi c (by simp [e])).1
         exact ⟨by omega,by omega,by omega,fun e=>by have:=gq c e;omega⟩
    ·rintro V3 H7 ⟨ei,done,sc,tS,g7,wI,qs,fS,vs,rest,r7,en,bH,yL,BT,yM,Eo,BU,Lz,E7,Ep,tc,qe,E8,qL,BV,df,PZ,nB⟩
     have Gu:ry.drop n.au.length=[]:=by rw [<-hlB];exact List.drop_length
     rw [Gu,List.append_nil] at bH
     rw [Gu,A7,Cf] at nB
     simp only [Option.some.injEq,Prod.mk.injEq] at nB
     obtain ⟨q1,q2,q3⟩:=nB
     subst q1 q2 q3
     have L0:rest=[]:=by rw [<-List.length_eq_zero_iff];omega
     subst L0
     rw [List.append_nil] at Ep
     simp only [go_sem,ei]
     exact ⟨g7,wI,qs,fS,vs,r7.told,en,bH.af (fun _ _=>rfl) (fun _ _=>rfl),fun c hc=>yL c (by simp only [List.mem_cons,List.mem_append] at hc ⊢;rcases hc with e | e | e <;> simp [e]),fun c hc=>(BT c hc).imp id Nat.le_of_lt,BU.af fun _ _=>rfl,fun c hc=>yL c (by simp only [List.mem_cons,List.mem_append] at hc ⊢;rcases hc with e | e <;> simp [e]),E7.af fun _ _=>rfl,Ep,E8.af fun _ _=>rfl,tc,qL,BV,Eo _ (by simp),by omega,df,fun c hc=>(yM c hc).2.2⟩
   ·rintro V3 H7 ⟨g7,wI,qs,fS,vs,Wv,r7,en,bH,yL,BT,BU,abq,E7,Ep,E8,tc,qL,BV,amR,aw2,hlC,akh⟩
    have tQ:∀c∈mi,c < H.next/\c≠r/\c∉m:=fun c hc=>⟨(h.hi c hc).1,(h.hi c hc).2.1,fun e=>(h.hm c e).2.2.2.2 hc⟩
    have nm:∀c,H.next<=c->c∉m/\c≠r/\c∉gP/\c∉mi/\c∉g:=fun c hc=>⟨fun e=>by have:=(h.hm c e).1;omega,by have:=h.rl;omega,fun e=>by have:=(h.hP c e).1;omega,fun e=>by have:=(h.hi c e).1;omega,fun e=>by have:=(h.hg c e).1;omega⟩
    have oM:∀c∈g,c < H.next/\c≠r/\c∉m/\c∉mi:=fun c hc=>⟨(h.hg c hc).1,(h.hg c hc).2,fun e=>(h.hm c e).2.2.2.1 hc,fun e=>(h.hi c e).2.2.2 hc⟩
    have T6:=abq H.next (by simp)
    have r8:=(r7.own (M:=[H.next]) ((Fr.refl _ _).ah (b:=H.next) (.inl (by simp)) ⟨aJ {n with pat:=p,au:=oh} (.slice aA n.args.length kA) (.slice ap p.length kp) (.slice aL n.au.length n.au.length),42,false,false⟩) (fun c hc=>by rw [List.mem_singleton] at hc;subst hc;exact ⟨Nat.le_refl _,T6.2.1,T6.2.2.1,T6.2.2.2,amR,(nm _ (Nat.le_refl _)).2.2.1⟩) fun _ _=>rfl).told
    obtain ⟨H8,fL⟩:=r8.hp
    have k8:∀c,c≠H.next->H8.get c=H7.get c:=fun c hc=>by rw [fL,bg,az,if_neg hc]
    have ru:H8.get H.next=some ⟨aJ {n with pat:=p,au:=oh} (.slice aA n.args.length kA) (.slice ap p.length kp) (.slice aL n.au.length n.au.length),42,false,false⟩:=by rw [fL,bg,az,if_pos rfl]
    have Ec:H8.next=H7.next:=by rw [fL];rfl
    simp only [go_sem,e4,e7,en,dz]
    rw [<-fL] at r8 ⊢
    clear fL
    have hnC:tC.ns.length=t.ns.length:=r8.le
    have nLx:∀c∈mL++qs,c≠H.next:=fun c hc e=>by
     rcases List.mem_append.1 hc with e' | e'
     ·have:=gq c e';omega
     ·exact (akh c e') e
    have amS:ER H8 {n with pat:=p,au:=oh} (.slice aA n.args.length kA) (.slice ap p.length kp) (.slice aL n.au.length n.au.length) gA gp (mL++qs):=⟨lT.a.af fun c hc=>by
     have:=oM c (tJ c (by simp [hc]))
     exact r8.fr.get c this.1 (by simp only [List.mem_cons,List.mem_append,not_or];exact this.2),BU.af fun c hc=>k8 c (by have:=(xJ c hc).1;omega),bH.sl.af fun c hc=>k8 c (nLx c hc)⟩
    obtain ⟨vI9,b9,cs9,G1,Lx,Gq,WG,g9,r9,qn⟩:=r8.TO (k:=k) (by rw [hnC];exact hk) amS fun c hc=>by
     rcases List.mem_append.1 hc with e | e
     ·have:=oM c (tJ c (by simp [e]))
      exact ⟨by have:=r7.fr.nx;omega,this.2.1,this.2.2.1,fun e'=>(r7.si c e').elim this.2.2.2 fun e=>by omega,.inl (tJ c (by simp [e]))⟩
     ·rcases List.mem_append.1 e with e | e
      ·have:=abq c (by simp [e])
       exact ⟨by omega,this.2.1,this.2.2.1,this.2.2.2,.inr (by have:=xJ c e;omega)⟩
      ·have h2:=yL c (by simp only [List.mem_cons,List.mem_append] at e ⊢;rcases e with e | e <;> simp [e])
       refine ⟨by omega,h2.2.1,h2.2.2.1,h2.2.2.2,?_⟩
       rcases List.mem_append.1 e with e | e
       ·exact .inr (by have:=gq c e;omega)
       ·exact BT c e
    have AK:H.fz b9=false:=h.fm b9 Lx
    have amT:=(k8 r nr).symm.trans G1
    have hkC:k < tC.ns.length:=by rw [hnC];exact hk
    simp only [go_sem,e4,nr,amT,hkC,ru,Gq,AK,WG]
    have r9:=r9.told
    obtain ⟨H9,jY⟩:=r9.hp
    have k9:∀c,c≠b9->H9.get c=H8.get c:=fun c hc=>by rw [jY,bg,az,if_neg hc]
    have M3:H9.next=H8.next:=by rw [jY];rfl
    rw [<-jY]
    rw [<-jY] at r9
    clear jY
    have amU:¬r=b9:=fun e=>by have:=(h.hm b9 Lx).2.1;exact this e.symm
    obtain ⟨VE,aw3,amV,aw4,aw5,_,_⟩:=r9.re
    have nmb:∀c,c∉m->c≠b9:=fun c hc e=>hc (e▸Lx)
    have QC:∀c,c∉m->c≠H.next->H9.get c=H7.get c:=fun c h1 h2=>(k9 c (nmb c h1)).trans (k8 c h2)
    have hL9:Sl dG H9 (.slice aL n.au.length n.au.length) oh (mL++qs):=bH.sl.af fun c hc=>QC c (by
     have h2:=yL c (by simp only [List.mem_cons,List.mem_append] at hc ⊢;rcases hc with e | e <;> simp [e])
     exact h2.2.2.1) (nLx c hc)
    have Jf:∀c∈fS,c∉m:=fun c hc=>(nm c (by have:=qL c hc;omega)).1
    have hS9:H9.get bs=some ⟨vs,134,false,false⟩/\dV (Rp.slice sh) H9 vs tP fS:=⟨(QC bs (nm bs (by omega)).1 (by omega)).trans Ep,E8.af fun c hc=>QC c (Jf c hc) (by have:=qL c hc;omega)⟩
    have hA9:jJ H9 DD t.aK mi:=E7.af fun c hc=>QC c (tQ c hc).2.2 (by have:=(tQ c hc).1;omega)
    have nI9:H.next < H9.next:=by omega
    simp only [go_sem,e7,amU,nr,G1,amV]
    cases jt:EB bd oh tP {tC with ns:=tC.ns.set k {n with pat:=p,au:=oh}} with
    | none=>rw [jt] at he;cases he
    | some tE=>
    rw [jt] at he
    cases he
    have hW:∀c∈mL++qs,c < H7.next/\c≠r/\c∉m:=fun c hc=>by
     have h2:=yL c (by simp only [List.mem_cons,List.mem_append] at hc ⊢;rcases hc with e | e <;> simp [e])
     exact ⟨h2.1,h2.2.1,h2.2.2.1⟩
    have abr:=yL bs (by simp)
    refine qH 411375354692584587203646816165659725287381953613964407833362432 n.au.length (fun i V4 dh=>V4 189=iV (i:Nat)/\∃t10 qf Pk,RR S P gP H r t m g mi dh t10 qf Pk/\H9.next<=dh.next/\Sl dG dh (.slice aL n.au.length n.au.length) oh (mL++qs)/\dh.get bs=some ⟨vs,134,false,false⟩/\dV (Rp.slice sh) dh vs tP fS/\jJ dh DD t.aK mi/\EB bd oh tP {tC with ns:=tC.ns.set k {n with pat:=p,au:=oh}}=EB bd (oh.drop i) (tP.drop i) t10)
     ⟨by simp only [go_sem] <;> rfl,_,g9,wI,r9.told,Nat.le_refl _,hL9.af fun _ _=>rfl,hS9.1,hS9.2.af fun _ _=>rfl,hA9.af fun _ _=>rfl,rfl⟩ ?_ ?_ (by rfl)
    ·rintro i V4 dh hi ⟨ei,t10,qf,Pk,cT,amW,T7,T8,T9,Pl,lE⟩
     have Nc:i < oh.length:=by omega
     have Nd:i < tP.length:=by omega
     have hx:oh[i]?=some (oh[i]'Nc):=List.getElem?_eq_getElem Nc
     have hy:tP[i]?=some (tP[i]'Nd):=List.getElem?_eq_getElem Nd
     have cE:oh.drop i=(oh[i]'Nc)::oh.drop (i+1):=(List.getElem_cons_drop Nc).symm
     have ur:tP.drop i=(tP[i]'Nd)::tP.drop (i+1):=(List.getElem_cons_drop Nd).symm
     generalize (oh[i]'Nc)=x at hx cE
     generalize (tP[i]'Nd)=s at hy ur
     rw [cE,ur,EB] at lE
     have ct:IntKind.wrap .i64 (((i:Nat):Int)+1)=((i+1:Nat):Int):=cZ hi (by omega)
     obtain ⟨bx,ox,cx,Bx,gx,hvx,Cv,amX,aw6,aw7,hEx⟩:=T7.at hx
     obtain ⟨vS,vN,u1,u2,Ua,rfl,_,_⟩:=hEx
     have Ua:(Bx.cells.drop (ox+i * 7)).take 7=cG x vS vN:=Ua
     have i7:Bx.cells[ox+i * 7+2]?=some (iV x.body):=by
      have:((Bx.cells.drop (ox+i * 7)).take 7)[2]?=some (iV x.body):=by rw [Ua];rfl
      rw [List.getElem?_take,if_pos (by decide),List.getElem?_drop] at this
      exact this
     simp only [Value.slice.injEq] at hvx
     have iI:=hvx.1
     obtain ⟨s1,s2,s3,hfe,hle,Fx⟩:=T9.at hy
     obtain ⟨vsc,amY,OK⟩:=Fx
     have DP:vs[i]?=some vsc:=by
      have:((vs.drop (i * 1)).take 1)[0]?=some vsc:=by rw [show (vs.drop (i * 1)).take 1=_ from amY];rfl
      rw [List.getElem?_take,if_pos (by decide),List.getElem?_drop,Nat.mul_one,Nat.add_zero] at this
      exact this
     by_cases eK:s.length < 1000000
     case' neg=>
      rw [if_neg eK,jt] at lE
      cases lE
     rw [if_pos eK] at lE
     cases Ub:bd x.body {t10 with aK:=s} with
     | none=>rw [Ub,jt] at lE;cases lE
     | some t11=>
     rw [Ub] at lE
     simp only [Option.bind_some] at lE
     have Wa:=cT.fr.nx
     have amZ:∀c∈s2,c∈fS:=fun c hc=>by rw [hfe];simp [hc]
     have aad:∀c∈fS,c < dh.next:=fun c hc=>by have:=qL c hc;omega
     obtain ⟨Lj,abt,FM,_,_,_,_⟩:=cT.re
     obtain ⟨asc,csc,aki⟩:=OK.val
     subst aki
     simp only [go_sem,ei,hi,Wv,T8,DP]
     refine xW (r:=sh) zT (OK.af (H':=dh.ai H.fz) fun _ _=>rfl) (by
      have:s.length * 1000<=1000000 * 1000:=Nat.mul_le_mul (by omega) (Nat.le_refl _)
      omega) (fun c hc=>aad c (amZ c hc)) ?_
     intro vB dX mB aw8 FH _ iR
     have Ca:=FH.flat
     subst Ca
     obtain ⟨aw9,Nb⟩:=FH.val
     subst Nb
     obtain ⟨WO,Er⟩:ba (dh.ai H.fz) dX/\∀c∈mB,c=dh.next/\c < dX.next:=by
      rcases iR with ⟨rfl,rfl⟩ | ⟨rfl,cs,rfl⟩
      ·exact ⟨ba.refl _,by simp⟩
      ·exact ⟨ba.push _ _,fun c hc=>by rw [List.mem_singleton] at hc;subst hc;exact ⟨rfl,Nat.lt_succ_self _⟩⟩
     have Z9:dh.next<=dX.next:=WO.nx
     obtain ⟨FN,dm⟩:=cT.told.aK (t2:={t10 with aK:=s}) (dJ:=mB) FM (WO.fr _) rfl FH.inr fun c hc=>⟨.inr (Er c hc).1,(Er c hc).2⟩
     obtain ⟨dr,Ai⟩:=dm.hp
     have tn:∀c,c < dh.next->c≠r->dr.get c=dh.get c:=fun c h1 h2=>by rw [Ai,bg,az,if_neg h2];exact WO.get c h1
     have amo:dr.next=dX.next:=by rw [Ai];rfl
     simp only [go_sem,FN,Ek]
     rw [<-Ai] at dm ⊢
     clear Ai
     have WQ:dr.get bx=some Bx:=by
      have h2:=hW bx amX
      exact (tn bx (by omega) h2.2.1).trans Cv
     simp only [go_sem,ei,hi,e7,iI,WQ,i7]
     refine ag.by (jx dm.rq Ub) ?_
     rintro _ ju - pe
     obtain ⟨Vr,am0,gK,awc,axa⟩:=dm.call pe
     have aj7:dr.next<=ju.next:=pe.1.nx
     have kk:∀c,c < dh.next->c≠r->c∉m->ju.get c=dh.get c:=fun c h1 h2 h3=>(pe.1.get c (by show c < dr.next;omega) (by simp only [List.mem_cons,List.mem_append,not_or];exact ⟨h2,h3,fun e=>by have:=(Er c e).1;omega⟩)).trans (tn c h1 h2)
     simp only [go_sem,ei,ct]
     exact ⟨t11,Vr,am0,gK.told,by show H9.next<=ju.next;omega,T7.af fun c hc=>kk c (by have:=hW c hc;omega) (hW c hc).2.1 (hW c hc).2.2,(kk bs (by omega) abr.2.1 abr.2.2.1).trans T8,T9.af fun c hc=>kk c (aad c hc) (nm c (by have:=qL c hc;omega)).2.1 (Jf c hc),Pl.af fun c hc=>kk c (by have:=(tQ c hc).1;omega) (tQ c hc).2.1 (tQ c hc).2.2,lE⟩
    ·rintro V4 dh ⟨ei,t10,qf,Pk,cT,amW,T7,T8,T9,Pl,lE⟩
     have uO:oh.drop n.au.length=[]:=by rw [<-hlC];exact List.drop_length
     rw [uO,jt,EB] at lE
     cases lE
     obtain ⟨Lj,abt,FM,_,_,_,ahF⟩:=cT.told.re
     have dk:=ahF {tE with aK:=t.aK,inner:=tC.inner} DD mi rfl (Pl.af fun _ _=>rfl) fun c hc=>⟨by have:=(tQ c hc).1;have:=cT.fr.nx;show c < dh.next;omega,(tQ c hc).2.1,(h.hi c hc).2.2.1,fun e=>(cT.sg c e).elim (h.hi c hc).2.2.2 fun e=>by have:=(tQ c hc).1;omega,(tQ c hc).2.2,.inl hc,h.fi c hc⟩
     obtain ⟨axb,axc,hvA⟩:=Pl.val
     subst hvA
     simp only [go_sem,ei,e10,FM,Ek]
     rw [Kn]
     exact dk.last
end
section
variable {S:XS} {P:bw} {gP:List Nat} {r:Nat} {m:List Nat}
def JP (P:bw):Nat->Rb
 | 0=>fun _ _=>none
 | k+1=>fun i t=>if t.aK.length < 1000000 then Ly P (WJ (JP P k) (WL P (JP P k))) t.aK.length 402 i t else none
theorem aeG (hP:zD P) (k:Nat):WI S P gP r m (JP P k):=by
 induction k with
 | zero=>exact fun _ he=>nomatch he
 | succ k ih=>
  refine fun {H t t' g mi i} h he=>?_
  unfold JP at he
  split at he
  case isFalse=>cases he
  rename_i de
  exact adg hP (fun hq hn=>adh ih (fun tp iL=>adi hP ih tp iL) hq hn) h de he
end
def Pm (P:bw):Bool:=Nat.ble P.msgs.length 90000&&Nat.ble P.bZ.length 90000&&Nat.ble P.defs.length 90000&&P.msgs.all (fun x=>Nat.ble x.types.length 90000&&x.types.all fun y=>Nat.ble y.pat.length 90000)&&P.bZ.all (fun x=>Nat.ble x.fields.length 90000&&x.fields.all fun y=>Nat.ble y.ty.pat.length 90000)&&P.defs.all (fun x=>Nat.ble x.params.length 90000&&x.params.all fun y=>Nat.ble y.ty.pat.length 90000)
theorem Zl {P:bw} (h:Pm P=true):zD P:=by
 have le:∀{a:Nat},Nat.ble a 90000=true->a < 1000000:=fun h=>by have:=Nat.le_of_ble_eq_true h;omega
 simp only [Pm,Bool.and_eq_true] at h
 obtain ⟨⟨⟨⟨⟨h1,h2⟩,h3⟩,h4⟩,h5⟩,h6⟩:=h
 refine ⟨le h1,le h2,le h3,fun x hx=>?_,fun x hx=>?_,fun x hx=>?_⟩
 ·have:=List.all_eq_true.1 h4 x hx
  rw [Bool.and_eq_true] at this
  exact ⟨le this.1,fun y hy=>le (List.all_eq_true.1 this.2 y hy)⟩
 ·have:=List.all_eq_true.1 h5 x hx
  rw [Bool.and_eq_true] at this
  exact ⟨le this.1,fun y hy=>le (List.all_eq_true.1 this.2 y hy)⟩
 ·have:=List.all_eq_true.1 h6 x hx
  rw [Bool.and_eq_true] at this
  exact ⟨le this.1,fun y hy=>le (List.all_eq_true.1 this.2 y hy)⟩
theorem zD.defs {P:bw} (h:zD P) {ds:List eo} (hd:ds.map (·.params)=P.defs.map (·.params)):zD {P with defs:=ds}:=by
 refine ⟨h.m,h.r,?_,h.mt,h.rf,fun x hx=>?_⟩
 ·have:=congrArg List.length hd
  rw [List.length_map,List.length_map] at this
  show ds.length < _
  rw [this];exact h.d
 ·have:x.params∈P.defs.map (·.params):=by rw [<-hd];exact List.mem_map.2 ⟨x,hx,rfl⟩
  obtain ⟨y,hy,e⟩:=List.mem_map.1 this
  have:=h.dp y hy
  rw [e] at this
  exact this
def HF:List tf->VT->Option VT
 | [],t=>some t
 | f::l,t=>if JN t then HF l {t with aK:=t.aK++[⟨f.name,t.aY⟩],aY:=t.aY+1} else none
def Ic (fuel:Nat) (P:bw):List eo->List eo->VT->Option (List eo × VT)
 | done,[],t=>some (done,t)
 | done,d::l,t=>if t.bad=0 then (HF d.params {t with aK:=[],aY:=0,inner:=0}).bind fun t1=>(JP {P with defs:=done++d::l} fuel d.body t1).bind fun t2=>Ic fuel P (done++[{d with aY:=t2.aY}]) l t2
  else some (done++d::l,t)
def NM (fuel:Nat) (P:bw):Option (Option bw):=
 if Pm P=true/\Nat.ble P.nodes.length 90000=true then
  (let d:=oQ P ⟨P.nodes,[],0,0,0,0,0⟩
  let P1:bw:={P with msgs:=d.1,bZ:=d.2.1,defs:=d.2.2.1}
  if Pm P1=true then
   (Ic fuel P1 [] P1.defs (if d.2.2.2.bad=0/\pJ P.defs < 0 then d.2.2.2.fail 4 0 0 else d.2.2.2)).map fun x=>if x.2.bad=0 then some {P1 with defs:=x.1,nodes:=x.2.ns} else none
  else none)
 else none
theorem Gr.own {α:Type} {r:Rp α} {ty:TypeId} {H:ad} {v:Value} {l:List α} {m g:List Nat} (h:Gr r ty H v l m g):∀b∈m,b∉g:=by
 rcases h with ⟨_,_,rfl,_⟩ | ⟨b,cs,_,_,rfl,_,_,_,h6⟩
 ·simp
 ·intro c hc
  rw [List.mem_singleton] at hc
  exact hc▸h6
structure RV (S:XS) (P:bw) (gP g0:List Nat) (n0:Nat) (H:ad) (r:Nat) (t:VT) (m g mi mD gD gx:List Nat):Prop where
 q:RQ0 S P gP H r t m g mi
 gd:Gr jq 38 H S.vD P.defs mD gD
 sm:po pI H S.vM P.msgs gx
 sr:po qC H S.vR P.bZ gx
 md:∀d∈mD,n0<=d/\d∈gP/\d∉gx/\d∉g
 dg:∀d∈gD++gx,d∈gP
 r0:n0<=r
 m0:∀c∈m,n0<=c
 i0:∀c∈mi,n0<=c
 pz:∀c∈gP,c∈g0∨n0<=c
 gz:∀c∈g,c∈g0∨n0<=c
section
variable {S:XS} {P:bw} {gP g0:List Nat} {H H1 H2:ad} {r n0:Nat} {t t1 t2:VT} {m g g1 g2 mi dE dJ mD gD gx:List Nat}
theorem RV.rq (h:RV S P gP g0 n0 H r t m g mi mD gD gx) (hz:∀c,n0<=c->H.fz c=false):RQ S P gP H r t m g mi:=
 {h.q with fz:=hz r h.r0,fm:=fun c hc=>hz c (h.m0 c hc),fi:=fun c hc=>hz c (h.i0 c hc),fn:=fun b hb=>hz b (by have:=h.q.rl;have:=h.r0;omega)}
theorem RV.ai (h:RV S P gP g0 n0 H r t m g mi mD gD gx) {fz:Nat->Bool}:RV S P gP g0 n0 (H.ai fz) r t m g mi mD gD gx:=
 {h with q:=h.q.ai,gd:=h.gd.af (fun _ _=>rfl) (fun _ _=>rfl),sm:=h.sm.af fun _ _=>rfl,sr:=h.sr.af fun _ _=>rfl}
theorem RV.call (h:RV S P gP g0 n0 H r t m g mi mD gD gx) (hp:wY S P gP H r t m g mi t2 H2):∃g2 dJ,RV S P gP g0 n0 H2 r t2 m g2 dJ mD gD gx:=by
 obtain ⟨hf,hz,hle,g2,dJ,h0,hs,i3⟩:=hp
 have k:∀c∈gP,H2.get c=H.get c:=fun c hc=>hf.get c (h.q.hP c hc).1 fun e=>by
  simp only [List.mem_cons,List.mem_append] at e
  rcases e with e | e | e
  ·exact (h.q.hP c hc).2 e
  ·exact (h.q.hm c e).2.2.1 hc
  ·exact (h.q.hi c e).2.2.1 hc
 exact ⟨g2,dJ,⟨h0,h.gd.af (fun c hc=>k c (h.md c hc).2.1) (fun c hc=>k c (h.dg c (by simp [hc]))),h.sm.af fun c hc=>k c (h.dg c (by simp [hc])),h.sr.af fun c hc=>k c (h.dg c (by simp [hc])),fun d hd=>⟨(h.md d hd).1,(h.md d hd).2.1,(h.md d hd).2.2.1,fun e=>(i3 d e).elim (h.md d hd).2.2.2 fun e=>by have:=(h.q.hP d (h.md d hd).2.1).1;omega⟩,h.dg,h.r0,h.m0,fun c hc=>(hs c hc).elim (h.i0 c) fun e=>by have:=h.q.rl;have:=h.r0;omega,h.pz,fun c hc=>(i3 c hc).elim (h.gz c) fun e=>.inr (by have:=h.q.rl;have:=h.r0;omega)⟩⟩
theorem RV.aH (h:RV S P gP g0 n0 H r t m g mi mD gD gx) (ho:ba H H2):RV S P gP g0 n0 H2 r t m g mi mD gD gx:=by
 have k:∀c∈gP,H2.get c=H.get c:=fun c hc=>ho.get c (h.q.hP c hc).1
 exact {h with q:=h.q.fr (ho.fr []) (by simp) (by simp) (by simp) (by simp) (by simp),gd:=h.gd.af (fun c hc=>k c (h.md c hc).2.1) (fun c hc=>k c (h.dg c (by simp [hc]))),sm:=h.sm.af fun c hc=>k c (h.dg c (by simp [hc])),sr:=h.sr.af fun c hc=>k c (h.dg c (by simp [hc]))}
theorem zA.post (h:zA S P gP H r t m g mi t2 H2):wY S P gP H r t m g mi t2 H2:=⟨h.fr.sub fun c hc=>.inl (by rw [List.mem_singleton] at hc;simp [hc]),h.fz,by rw [h.ns],g,mi,h.rq,fun _ h=>.inl h,fun _ h=>.inl h⟩
theorem RV.i {α:Type} {rp:Rp α} {v:Value} {l:List α} {g g':List Nat} (h:po rp H v l g) (hg:∀c∈g,c∈g'):po rp H v l g':=by
 obtain ⟨gs,h1,h2⟩:=h
 exact ⟨gs,h1,fun c hc=>hg c (h2 c hc)⟩
theorem RV.aY (h:RV S P gP g0 n0 H r t m g mi mD gD gx) {i:Nat} {d:eo} (hd:P.defs[i]?=some d) {w:Int}:
  ∃b cs,S.vD=.slice (some ⟨b,0,none⟩) P.defs.length P.defs.length/\b∈mD/\b≠r/\b < H.next/\H.get b=some ⟨cs,38,true,false⟩/\i * 9+9<=cs.length/\(∃vp vq vo f5,(cs.drop (i * 9)).take 9=dP d vp vq vo/\Sl lH H vp d.params f5/\∀c∈f5,c∈gD)/\
  ∃gD',RV S {P with defs:=P.defs.set i {d with aY:=w}} gP g0 n0 (H.ah b ⟨cs.set (i * 9+2) (iV w),38,true,false⟩) r t m g mi mD gD' gx:=by
 have de:i < P.defs.length:=(List.getElem?_eq_some_iff.1 hd).1
 have hdi:P.defs[i]=d:=(List.getElem?_eq_some_iff.1 hd).2
 obtain ⟨b,cs,f1,f2,f3,e1,e2,hb,fk,e3,cm,hE,oW⟩:=h.gd.put de
 subst e2
 subst e3
 obtain ⟨rV,Ea,WQ,PH⟩:=h.md b (by simp)
 obtain ⟨qc,cY⟩:=h.q.hP b Ea
 rw [hdi] at hE
 obtain ⟨vp,vq,vo,f5,f6,f7,aX,rfl,s5,s6,s7⟩:=hE
 have cm:i * 9+9<=cs.length:=cm
 have aX:(cs.drop (i * 9)).take 9=dP d vp vq vo:=aX
 have o9:b∉f1++((f5++(f6++f7))++f3):=h.gd.own b (by simp)
 have kn:∀z,z≠b->(H.ah b ⟨cs.set (i * 9+2) (iV w),38,true,false⟩).get z=H.get z:=fun z hz=>by rw [az,if_neg hz]
 have be:i * 9+2 < cs.length:=by omega
 have eJ:cs.set (i * 9+2) (iV w)=cW cs (i * 9) (dP {d with aY:=w} vp vq vo):=by
  have:=xQ (vs:=[iV w]) aX (k:=2) (by show 2+1<=9;omega) cm
  rw [eW be] at this
  rw [this]
  have e:cW (dP d vp vq vo) 2 [iV w]=(dP d vp vq vo).set 2 (iV w):=eW (by show 2 < 9;omega)
  rw [e];rfl
 have n5:∀z∈f5++(f6++f7),z≠b:=fun z hz e=>o9 (by rw [<-e];simp only [List.mem_append] at hz ⊢;exact .inr (.inl hz))
 have fP:=oW (H.ah b ⟨cs.set (i * 9+2) (iV w),38,true,false⟩) (dP {d with aY:=w} vp vq vo) {d with aY:=w} (f5++(f6++f7)) (fun z hz=>kn z fun e=>o9 (by rw [<-e];simp only [List.mem_append];rcases hz with e | e <;> simp [e])) (by rw [az,if_pos rfl,eJ];rfl)
  ⟨vp,vq,vo,f5,f6,f7,rfl,rfl,s5.af fun z hz=>kn z (n5 z (by simp [hz])),s6.af fun z hz=>kn z (n5 z (by simp [hz])),s7.af fun z hz=>kn z (n5 z (by simp [hz]))⟩ (fun e=>n5 b e rfl)
 refine ⟨b,cs,e1,by simp,cY,qc,hb,cm,⟨vp,vq,vo,f5,aX,s5,fun c hc=>by simp [hc]⟩,f1++((f5++(f6++f7))++f3),?_⟩
 have kx:∀c∈gx,(H.ah b ⟨cs.set (i * 9+2) (iV w),38,true,false⟩).get c=H.get c:=fun c hc=>kn c fun e=>WQ (e▸hc)
 have q:=h.q
 obtain ⟨vN,vI,hr,hN,hI⟩:=q.row
 have hxP:∀c∈gx,c∈gP:=fun c hc=>h.dg c (by simp [hc])
 exact ⟨⟨⟨vN,vI,(kn r (Ne.symm cY)).trans hr,hN.af (fun c hc=>kn c fun e=>(q.hm c hc).2.2.1 (e▸Ea)) (fun c hc=>kn c fun e=>PH (e▸hc)),hI.af fun c hc=>kn c fun e=>(q.hi c hc).2.2.1 (e▸Ea)⟩,RV.i (h.sm.af kx) hxP,RV.i (h.sr.af kx) hxP,⟨_,fP.sl,fun c hc=>by
  simp only [List.mem_append,List.mem_singleton] at hc
  rcases hc with e | e
  ·exact e▸Ea
  ·exact h.dg c (by simp only [List.mem_append];exact .inl e)⟩,q.rl,q.hm,q.hi,q.hg,q.hP⟩,fP,h.sm.af kx,h.sr.af kx,h.md,h.dg,h.r0,h.m0,h.i0,h.pz,h.gz⟩
end
theorem adY {a1 a2 a3 a4:Option Addr} {n1 n2 n3 n4 c1 c2 c3 c4:Nat} {h:KH}:fQ Tryz.prog 136 [(0,.agg #[.slice a1 n1 c1,.slice a2 n2 c2,.slice a3 n3 c3,.slice a4 n4 c4])] h=.ok (.agg (rC ⟨.slice a1 n1 c1,.slice a2 n2 c2,.slice a3 n3 c3⟩ (.slice a4 n4 c4) (.slice none 0 0) ⟨[],[],0,0,0,0,0⟩).toArray) h:=by kernel_rfl
section
variable {H:ad} {P:bw}
theorem adj {fuel:Nat} {vM vR vD vN:Value} {gM gR gD gN:List Nat} (hM:Sl pI H vM P.msgs gM) (hR:Sl qC H vR P.bZ gR) (hD:Sl jq H vD P.defs gD) (hN:Sl kr H vN P.nodes gN) (be:∀c∈gM++(gR++(gD++gN)),c < H.next) {R:Option bw} (he:NM fuel P=some R):
  ak Tryz.prog 61 #[.agg #[vM,vR,vD,vN]] H (fun w H'=>ba H H'/\Zj (gM++(gR++(gD++gN))) H.next R H' w):=by
 refine ak.told ?_
 refine qz (l:=[_]) _ mixed Tryz.func61 aiN [.cell 2 28,.tmp 3,.tmp 4,.tmp 5] (show 1<=143 by decide) rfl fun hf=>?_
 simp only [Tryz.f61,Option.getD_some]
 obtain ⟨aM,kM,rfl⟩:=hM.val
 obtain ⟨aR,kR,rfl⟩:=hR.val
 obtain ⟨aD,kD,rfl⟩:=hD.val
 obtain ⟨aN,kN,rfl⟩:=hN.val
 unfold NM at he
 split at he
 case isFalse=>cases he
 rename_i hb
 obtain ⟨ik,ft⟩:=hb
 have rX:=Nat.le_of_ble_eq_true ft
 simp only at he
 split at he
 case isFalse=>cases he
 rename_i fB
 have hP:=Zl ik
 have QD:=Zl fB
 have p1:¬H.next=H.next+1:=by omega
 have p2:¬H.next=H.next+1+1:=by omega
 have p3:¬H.next+1=H.next+1+1:=by omega
 have p4:¬H.next+1+1=H.next:=by omega
 have hX:∀{n:Nat},H.next<=n->H.fz n=false:=fun h=>hf.fresh h
 have er:H.fz (H.next+1+1)=false:=hX (by omega)
 obtain ⟨P1,IW⟩:∃P1:bw,P1={P with msgs:=(oQ P ⟨P.nodes,[],0,0,0,0,0⟩).1,bZ:=(oQ P ⟨P.nodes,[],0,0,0,0,0⟩).2.1,defs:=(oQ P ⟨P.nodes,[],0,0,0,0,0⟩).2.2.1}:=⟨_,rfl⟩
 rw [<-IW] at QD
 have eM:(oQ P ⟨P.nodes,[],0,0,0,0,0⟩).1=P1.msgs:=by rw [IW]
 have eR:(oQ P ⟨P.nodes,[],0,0,0,0,0⟩).2.1=P1.bZ:=by rw [IW]
 have eD:(oQ P ⟨P.nodes,[],0,0,0,0,0⟩).2.2.1=P1.defs:=by rw [IW]
 have eP:({P with msgs:=P1.msgs,bZ:=P1.bZ,defs:=P1.defs}:bw)=P1:=by rw [IW]
 rw [eM,eR,eD,eP] at he
 obtain ⟨tA,WR⟩:∃tA,tA=(oQ P ⟨P.nodes,[],0,0,0,0,0⟩).2.2.2:=⟨_,rfl⟩
 rw [<-WR] at he
 refine l8 (l8 (l8 (l8 (qA 17179868286 (fun V H5=>V 2=pV (H.next+1)/\V 6=pV (H.next+1+1)/\∃S gP m g mi mD gE gx,RV S P1 gP (gM++(gR++(gD++gN))) (H.next+1+1) H5 (H.next+1+1) (if tA.bad=0/\pJ P.defs < 0 then tA.fail 4 0 0 else tA) m g mi mD gE gx/\(∀c,H5.fz c=H.fz c)/\Fr [] H H5/\H5.get (H.next+1)=some ⟨[.slice none 0 0,.slice none 0 0,.slice none 0 0,.slice none 0 0],28,false,false⟩) ?_ ?_ (by rfl)))))
 ·simp only [go_sem,adY,p1,p2,p3,p4,er]
  obtain ⟨H1,cH⟩:∃H1,H1=(((((H.push ⟨[.slice aM P.msgs.length kM,.slice aR P.bZ.length kR,.slice aD P.defs.length kD,.slice aN P.nodes.length kN],28,false,false⟩).push ⟨[.slice none 0 0,.slice none 0 0,.slice none 0 0,.slice none 0 0],28,false,false⟩).ai H.fz).push ⟨rC ⟨.slice aM P.msgs.length kM,.slice aR P.bZ.length kR,.slice aD P.defs.length kD⟩ (.slice aN P.nodes.length kN) (.slice none 0 0) ⟨[],[],0,0,0,0,0⟩,136,false,false⟩).ai H.fz):=⟨_,rfl⟩
  rw [<-cH]
  have f1:Fr [] H H1:=by rw [cH];exact ((((Fr.refl [] H).push _).push _).ai _ |>.push _).ai _
  have ME:H1.get H.next=some ⟨[.slice aM P.msgs.length kM,.slice aR P.bZ.length kR,.slice aD P.defs.length kD,.slice aN P.nodes.length kN],28,false,false⟩:=by rw [cH,bg,bX (by simp only [Ey,bJ];omega),bg,bX (by simp only [bJ];omega),aV,if_pos rfl]
  have JQ:H1.get (H.next+1)=some ⟨[.slice none 0 0,.slice none 0 0,.slice none 0 0,.slice none 0 0],28,false,false⟩:=by rw [cH,bg,bX (by simp only [Ey,bJ];omega),bg,aV];exact if_pos rfl
  have Ju:H1.get (H.next+1+1)=some ⟨rC ⟨.slice aM P.msgs.length kM,.slice aR P.bZ.length kR,.slice aD P.defs.length kD⟩ (.slice aN P.nodes.length kN) (.slice none 0 0) ⟨[],[],0,0,0,0,0⟩,136,false,false⟩:=by rw [cH,bg,aV];exact if_pos rfl
  have Jv:H1.next=H.next+1+1+1:=by rw [cH];rfl
  have fz1:H1.fz=H.fz:=by rw [cH];rfl
  clear cH
  obtain ⟨z,hz⟩:∃z,z=H.next+1:=⟨_,rfl⟩
  obtain ⟨r,hr⟩:∃r,r=H.next+1+1:=⟨_,rfl⟩
  rw [<-hr] at Ju er ⊢
  rw [<-hz] at JQ ⊢
  clear p1 p2 p3 p4
  refine xW (r:=kr) KK (hN.af (H':=H1) fun c hc=>f1.get c (be c (by simp [hc])) (by simp)) (by
   have:P.nodes.length * 1000<=1000000 * 1000:=Nat.mul_le_mul (by omega) (Nat.le_refl _)
   omega) (fun c hc=>by have:=be c (by simp [hc]);omega) ?_
  intro vN H2 m g cB ri iR
  obtain ⟨aN2,zj⟩:=cB.val
  subst zj
  obtain ⟨f12,js⟩:Fr [] H1 H2/\∀c∈m,H1.next<=c/\c < H2.next:=by
   rcases iR with ⟨rfl,rfl⟩ | ⟨rfl,cs,rfl⟩
   ·exact ⟨.refl _ _,by simp⟩
   ·exact ⟨(Fr.refl [] _).push _,fun c hc=>by rw [List.mem_singleton] at hc;subst hc;exact ⟨Nat.le_refl _,Nat.lt_succ_self _⟩⟩
  have eQ:=f12.nx
  have Jw:=(f12.get r (by omega) (by simp)).trans Ju
  have AL:=(f12.get H.next (by omega) (by simp)).trans ME
  have Nf:=(f12.get z (by omega) (by simp)).trans JQ
  simp only [go_sem,Jw,er]
  obtain ⟨H3,dN⟩:∃H3,H3=(H2.ah r ⟨rC ⟨.slice aM P.msgs.length kM,.slice aR P.bZ.length kR,.slice aD P.defs.length kD⟩ (.slice aN2 P.nodes.length P.nodes.length) (.slice none 0 0) ⟨P.nodes,[],0,0,0,0,0⟩,136,false,false⟩).ai H.fz:=⟨_,rfl⟩
  rw [<-dN]
  have k3:∀c,c≠r->H3.get c=H2.get c:=fun c hc=>by rw [dN,bg,az,if_neg hc]
  have Gh:H3.next=H2.next:=by rw [dN];rfl
  have MG:∀c,H3.fz c=H.fz c:=fun c=>by rw [dN];rfl
  have gr3:H3.get r=some ⟨rC ⟨.slice aM P.msgs.length kM,.slice aR P.bZ.length kR,.slice aD P.defs.length kD⟩ (.slice aN2 P.nodes.length P.nodes.length) (.slice none 0 0) ⟨P.nodes,[],0,0,0,0,0⟩,136,false,false⟩:=by rw [dN,bg,az,if_pos rfl]
  have f03:Fr [] H H3:=by rw [dN];exact ((f1.then f12).ah (.inr (by omega)) _).ai _
  clear dN
  have Wg:=(k3 H.next (by omega)).trans AL
  have Jy:=(k3 z (by omega)).trans Nf
  have ko:∀c,c < H.next->H3.get c=H.get c:=fun c hc=>(k3 c (by omega)).trans ((f12.get c (by omega) (by simp)).trans (f1.get c hc (by simp)))
  have kG:∀c∈gM++(gR++(gD++gN)),H3.get c=H.get c:=fun c hc=>ko c (be c hc)
  have lY:∀c∈g,c < H.next:=fun c hc=>be c (by simp [ri c hc])
  have WS:∀c∈gM++(gR++gD),c < H.next:=fun c hc=>be c (by simp only [List.mem_append] at hc ⊢;rcases hc with e | e | e <;> simp [e])
  have q3:RQ ⟨.slice aM P.msgs.length kM,.slice aR P.bZ.length kR,.slice aD P.defs.length kD⟩ P (gM++(gR++gD)) H3 r ⟨P.nodes,[],0,0,0,0,0⟩ m g []:=
   ⟨⟨⟨_,_,gr3,cB.af (fun c hc=>k3 c (by have:=(js c hc).1;omega)) (fun c hc=>k3 c (by have:=lY c hc;omega)),jJ.nil _⟩,
    ⟨gM,hM.af fun c hc=>kG c (by simp [hc]),fun c hc=>by simp [hc]⟩,⟨gR,hR.af fun c hc=>kG c (by simp [hc]),fun c hc=>by simp [hc]⟩,⟨gD,hD.af fun c hc=>kG c (by simp [hc]),fun c hc=>by simp [hc]⟩,by omega,
    fun c hc=>⟨by have:=(js c hc).2;omega,by have:=(js c hc).1;omega,fun e=>by have:=(js c hc).1;have:=WS c e;omega,fun e=>by have:=(js c hc).1;have:=lY c e;omega,by simp⟩,by simp,
    fun c hc=>⟨by have:=lY c hc;omega,by have:=lY c hc;omega⟩,fun c hc=>⟨by have:=WS c hc;omega,by have:=WS c hc;omega⟩⟩,
    by rw [MG];exact er,fun c hc=>by rw [MG];exact hX (by have:=(js c hc).1;omega),by simp,fun b hb=>by rw [MG];exact hX (by omega)⟩
  refine ag.by (aeF q3 hP) ?_
  rintro _ H4 - ⟨f4,gS,uH,am1,S1,gP1,mD,gD1,q4,am2,abu,abv,abw,gx,sM1,sR1,dj⟩
  rw [<-IW,<-WR] at q4
  rw [<-WR] at uH am1
  rw [eD] at abu
  rw [eM] at sM1
  rw [eR] at sR1
  have WT:RV S1 P1 gP1 (gM++(gR++(gD++gN))) r H4 r tA m g [] mD gD1 gx:=⟨q4,abu,sM1,sR1,fun d hd=>⟨by have:=abv d hd;omega,abw d (by simp [hd]),fun e=>(dj d e).2 hd,fun e=>by have:=lY d e;have:=abv d hd;omega⟩,fun d hd=>by
   simp only [List.mem_append] at hd
   exact hd.elim (fun e=>abw d (by simp [e])) fun e=>(dj d e).1,Nat.le_refl _,fun c hc=>by have:=(js c hc).1;omega,by simp,fun c hc=>(am2 c hc).imp (fun e=>by simp only [List.mem_append] at e ⊢;rcases e with e | e | e <;> simp [e]) fun e=>by omega,fun c hc=>.inl (by simp [ri c hc])⟩
  have GM:Fr [] H H4:=f03.trans f4 fun c hc=>.inr (by rw [List.mem_singleton] at hc;omega)
  have nV:=f4.nx
  have Jx:=(f4.get H.next (by omega) (by simp;omega)).trans Wg
  have Qd:=(f4.get z (by omega) (by simp;omega)).trans Jy
  have QE:∀c,r<=c->H.fz c=false:=fun c hc=>hX (by omega)
  obtain ⟨vN4,vI4,tj,_,_⟩:=WT.q.row
  by_cases hb:tA.bad=0
  ·simp only [go_sem,tj,hb,Jx]
   refine ag.by (ahx (l:=P.defs) (g:=gD) ((hD.af fun c hc=>GM.get c (be c (by simp [hc])) (by simp)).af fun _ _=>rfl) hP.d (fun c hc=>by have:=be c (by simp [hc]);show c < H4.next;omega)) ?_
   rintro _ H5 - ⟨rfl,o5,z5⟩
   have G6:=WT.ai.aH o5
   have Cz:=(GM.ai H.fz).then (o5.fr [])
   have xC:H4.next<=H5.next:=o5.nx
   have Ng:=(o5.get z (by show z < H4.next;omega)).trans Qd
   by_cases js:pJ P.defs < 0
   ·rw [if_pos ⟨hb,js⟩]
    simp only [go_sem,js]
    refine ag.by (jb (G6.ai.rq fun c hc=>QE c hc)) ?_
    rintro _ H6 - p6
    obtain ⟨g6,CK,fe⟩:=G6.ai.call p6.post
    simp only [go_sem]
    exact ⟨_,_,_,_,_,_,_,_,fe.ai,fun _=>trivial,((Cz.ai H.fz).trans p6.fr fun c hc=>.inr (by rw [List.mem_singleton] at hc;omega)).ai _,(p6.fr.get z (by show z < H5.next;omega) (by simp;omega)).trans Ng⟩
   ·rw [if_neg fun e=>js e.2]
    simp only [go_sem,js]
    exact ⟨_,_,_,_,_,_,_,_,G6.ai,fun _=>trivial,Cz.ai _,Ng⟩
  ·rw [if_neg fun e=>hb e.1]
   simp only [go_sem,tj,hb]
   exact ⟨_,_,_,_,_,_,_,_,WT.ai,fun _=>trivial,GM.ai _,Qd⟩
 ·rintro V H5 ⟨e2,e6,S,gP,m,g,mi,mD,gE,gx,G6,z5,f5,Ng⟩
  obtain ⟨z,hz⟩:∃z,z=H.next+1:=⟨_,rfl⟩
  obtain ⟨r,hr⟩:∃r,r=H.next+1+1:=⟨_,rfl⟩
  obtain ⟨G0,hG0⟩:∃G0,G0=gM++(gR++(gD++gN)):=⟨_,rfl⟩
  rw [<-hG0] at G6 ⊢
  have hG:∀c∈G0,c < H.next:=by rw [hG0];exact be
  rw [<-hr] at G6 e6 er
  rw [<-hz] at Ng e2
  clear p1 p2 p3 p4
  generalize (if tA.bad=0/\pJ P.defs < 0 then tA.fail 4 0 0 else tA)=tB at *
  cases Qo:Ic fuel P1 [] P1.defs tB with
  | none=>rw [Qo] at he;cases he
  | some x=>
  obtain ⟨WU,tE⟩:=x
  rw [Qo] at he
  simp only [Option.map_some,Option.some.injEq] at he
  subst he
  refine qA 2658455991569831745807614103380820608 (fun V6 H6=>∃g6 CK AT,RV S {P1 with defs:=WU} gP G0 r H6 r tE m g6 CK mD AT gx/\(∀c,H6.fz c=H.fz c)/\Fr [] H H6/\H6.get z=some ⟨[.slice none 0 0,.slice none 0 0,.slice none 0 0,.slice none 0 0],28,false,false⟩) ?_ ?_ (by rfl)
  ·simp only [go_sem]
   refine qH 2658455991569831745807614103380820608 P1.defs.length (fun i V6 H6=>V6 7=iV (i:Nat)/\∃done t6 g6 CK AT,RV S {P1 with defs:=done++P1.defs.drop i} gP G0 r H6 r t6 m g6 CK mD AT gx/\(∀c,H6.fz c=H.fz c)/\Fr [] H H6/\H6.get z=some ⟨[.slice none 0 0,.slice none 0 0,.slice none 0 0,.slice none 0 0],28,false,false⟩/\done.length=i/\done.map (·.params)=(P1.defs.take i).map (·.params)/\Ic fuel P1 done (P1.defs.drop i) t6=some (WU,tE))
    ⟨by simp only [go_sem] <;> rfl,[],tB,g,mi,gE,G6.ai,fun _=>rfl,f5.ai _,Ng,rfl,rfl,Qo⟩ ?_ ?_ (by rfl)
   ·rintro i V6 H6 hi ⟨ei,done,t6,g6,CK,AT,fe,z6,f6,G7,df,QF,rz⟩
    have hx:P1.defs[i]?=some (P1.defs[i]'hi):=List.getElem?_eq_getElem hi
    have cE:P1.defs.drop i=(P1.defs[i]'hi)::P1.defs.drop (i+1):=(List.getElem_cons_drop hi).symm
    have iF:P1.defs.take (i+1)=P1.defs.take i++[P1.defs[i]'hi]:=by rw [List.take_add_one,hx];rfl
    generalize (P1.defs[i]'hi)=x at hx cE iF
    rw [cE] at fe rz
    rw [Ic] at rz
    have am3:zD {P1 with defs:=done++x::P1.defs.drop (i+1)}:=QD.defs (by
     rw [List.map_append,QF,<-cE,<-List.map_append,List.take_append_drop])
    have hlen:(done++x::P1.defs.drop (i+1)).length=P1.defs.length:=by rw [<-cE,List.length_append,List.length_drop];omega
    have hd:(done++x::P1.defs.drop (i+1))[i]?=some x:=by rw [List.getElem?_append_right (by omega),df,Nat.sub_self];rfl
    have iY:i < (done++x::P1.defs.drop (i+1)).length:=by omega
    obtain ⟨bD,QG,eD,fZ,cY,qc,hB,cm,⟨vp,vq,vo,fp,aX,eJ,hfp⟩,_⟩:=fe.aY (i:=i) (d:=x) hd (w:=0)
    have eD:S.vD=.slice (some ⟨bD,0,none⟩) P1.defs.length P1.defs.length:=by rw [eD];show Value.slice _ (done++x::P1.defs.drop (i+1)).length (done++x::P1.defs.drop (i+1)).length=_;rw [hlen]
    obtain ⟨JE,JF,ig,QH,JJ⟩:=fe.q.row
    have ct:IntKind.wrap .i64 (((i:Nat):Int)+1)=((i+1:Nat):Int):=cZ hi (by have:=QD.d;omega)
    by_cases hb:t6.bad=0
    ·rw [if_pos hb] at rz
     cases DW:HF x.params {t6 with aK:=[],aY:=0,inner:=0} with
     | none=>rw [DW] at rz;cases rz
     | some t7=>
     rw [DW] at rz
     simp only [Option.bind_some] at rz
     cases iB:JP {P1 with defs:=done++x::P1.defs.drop (i+1)} fuel x.body t7 with
     | none=>rw [iB] at rz;cases rz
     | some t8=>
     rw [iB] at rz
     simp only [Option.bind_some] at rz
     have QE:∀c,r<=c->H.fz c=false:=fun c hc=>hX (by omega)
     have q6:=fe.ai (fz:=H.fz).rq QE
     have r6:=RR.start q6
     obtain ⟨vN,vI,am4,hN7,JH,_,fh⟩:=r6.re
     have r7:=(fh {t6 with aK:=[],aY:=0,inner:=0} (.slice none 0 0) [] rfl (jJ.nil _) (by simp)).fE H.fz fun _=>rfl
     have ig:H6.get r=some ⟨rC S vN vI t6,136,false,false⟩:=am4
     obtain ⟨H7,cU⟩:=r7.hp
     have kZ:H7.get r=some ⟨rC S vN (.slice none 0 0) {t6 with aK:=[],aY:=0,inner:=0},136,false,false⟩:=by rw [cU,bg,az,if_pos rfl]
     have k7:∀c,c≠r->H7.get c=H6.get c:=fun c hc=>by rw [cU,bg,az,if_neg hc,bg]
     have xI:H7.next=H6.next:=by rw [cU];rfl
     rw [<-cU] at r7
     simp only [go_sem,ei,hi,e6,ig,hb,eD,er]
     simp only [rC,eD,hb] at cU
     rw [Kn,Kn,<-cU]
     clear cU
     have hB7:=(k7 bD cY).trans hB
     have BU:=eJ.af (H':=H7) fun c hc=>k7 c (fe.q.hP c (fe.dg c (by simp [hfp c hc]))).2
     obtain ⟨ap,kp,zd⟩:=BU.val
     subst zd
     have iC:QG[i * 9+1]?=some (.slice ap x.params.length kp):=by
      have:((QG.drop (i * 9)).take 9)[1]?=some (.slice ap x.params.length kp):=by rw [aX];rfl
      rw [List.getElem?_take,if_pos (by decide),List.getElem?_drop] at this
      exact this
     simp only [go_sem,cY,hB,iC]
     have j6:x.params.length < 1000000:=(QD.dp x (List.mem_of_getElem? hx)).1
     refine qH 316912648876465729656764498432 x.params.length (fun j V8 H8=>V8 70=iV (j:Nat)/\∃t9 g9 wJ,RR S {P1 with defs:=done++x::P1.defs.drop (i+1)} gP (H6.ai H.fz) r t6 m g6 CK H8 t9 g9 wJ/\H7.next<=H8.next/\HF (x.params.drop j) t9=some t7)
      ⟨by simp only [go_sem] <;> rfl,_,_,_,r7.fE H.fz fun _=>rfl,Nat.le_refl _,DW⟩ ?_ ?_ (by rfl)
     ·rintro j V8 H8 hj ⟨ej,t9,g9,wJ,r9,AI,G8⟩
      have hy:x.params[j]?=some (x.params[j]'hj):=List.getElem?_eq_getElem hj
      have Nh:x.params.drop j=(x.params[j]'hj)::x.params.drop (j+1):=(List.getElem_cons_drop hj).symm
      generalize (x.params[j]'hj)=y at hy Nh
      rw [Nh,HF] at G8
      split at G8
      case isFalse=>cases G8
      rename_i gi
      obtain ⟨de,me,dw⟩:=gi
      have wE:IntKind.wrap .i64 (((j:Nat):Int)+1)=((j+1:Nat):Int):=cZ hj (by omega)
      have zx:∀c∈gP,H8.get c=H6.get c:=fun c hc=>r9.fr.get c (fe.q.hP c hc).1 fun e=>by
       simp only [List.mem_cons,List.mem_append] at e
       rcases e with e | e | e
       ·exact (fe.q.hP c hc).2 e
       ·exact (fe.q.hm c e).2.2.1 hc
       ·exact (fe.q.hi c e).2.2.1 hc
      obtain ⟨b,o,c',B,gy,hv,QI,ep,WV,am5,hE⟩:=(eJ.af (H':=H8) fun c hc=>zx c (fe.dg c (by simp [hfp c hc]))).at hy
      simp only [Value.slice.injEq] at hv
      have G9:=hv.1
      obtain ⟨vq,Uc,zo⟩:=hE
      obtain ⟨aq,kq,rfl⟩:=zo.val
      have akj:o+j * 6+6<=B.cells.length:=am5
      have Uc:(B.cells.drop (o+j * 6)).take 6=[ae y.name,iV y.ty.kind,iV y.ty.cap,iV y.ty.rc,ae y.ty.name,.slice aq y.ty.pat.length kq]:=Uc
      have qe:r < H8.next:=r9.rq.rl
      have M6:H.fz H8.next=false:=hX (by omega)
      have nr8:¬r=H8.next:=by omega
      have cT:=((r9.fE H.fz fun _=>rfl).push ⟨[ae y.name,iV y.ty.kind,iV y.ty.cap,iV y.ty.rc,ae y.ty.name,.slice aq y.ty.pat.length kq],101,false,false⟩).fE H.fz fun _=>rfl
      obtain ⟨dh,oY⟩:=cT.hp
      have O9:dh.get H8.next=some ⟨[ae y.name,iV y.ty.kind,iV y.ty.cap,iV y.ty.rc,ae y.ty.name,.slice aq y.ty.pat.length kq],101,false,false⟩:=by rw [oY,bg,aV];exact if_pos rfl
      have abb:dh.next=H8.next+1:=by rw [oY];rfl
      rw [<-oY] at cT
      simp only [go_sem,ej,hj,G9,QI,akj,Uc,M6,e6]
      rw [<-oY]
      have am6:dh.get r=H8.get r:=by rw [oY,bg,bX (by show r < H8.next;omega),bg]
      clear oY
      obtain ⟨Lj,abt,FM,_,abx,_⟩:=cT.re
      obtain ⟨aI,cI,CB⟩:=abx.val
      subst CB
      have Ct:H8.get r=some ⟨rC S Lj (.slice aI t9.aK.length cI) t9,136,false,false⟩:=am6▸FM
      have axd:¬r=dh.next:=by omega
      have dk:=cT.push ⟨[ae y.name,iV t9.aY],139,false,false⟩
      have FN:(dh.push ⟨[ae y.name,iV t9.aY],139,false,false⟩).get r=some ⟨rC S Lj (.slice aI t9.aK.length cI) t9,136,false,false⟩:=(bX cT.rq.rl).trans FM
      have am7:=abx.af (H':=dh.push ⟨[ae y.name,iV t9.aY],139,false,false⟩) fun c hc=>bX (cT.rq.hi c hc).1
      simp only [go_sem,e6,ej,wE,er,nr8,Ct,FM,O9,Rm,eB zT (by decide) (by decide)]
      refine R8 (X:=H.fz) (x:=⟨y.name,t9.aY⟩) am7 (fun c hc=>(dk.rq.hi c hc).1) dk.x (by rw [aV,if_pos rfl]) (by omega) ?_
      intro Cx dr yN aby am8 abz axe
      obtain ⟨T3,dm⟩:=dk.aK FN abz (v2:=Cx) (t2:={t9 with aK:=t9.aK++[⟨y.name,t9.aY⟩]}) rfl aby am8
      obtain ⟨sn,Je⟩:=Int.eq_ofNat_of_zero_le me
      have eV:IntKind.wrap .i64 (t9.aY+1)=t9.aY+1:=by rw [Je,show (((sn:Nat):Int)+1)=((sn+1:Nat):Int) by omega];exact vf (by omega)
      obtain ⟨a12,c12,am9⟩:=aby.val
      subst am9
      obtain ⟨w6,w7,hrx,_,_,ana,_⟩:=(dm.fE H.fz fun _=>rfl).re
      rw [bg,bg,az,if_pos rfl] at hrx
      cases hrx
      have axf:H8.next<=dr.next:=by have:=abz.nx;have h2:(dh.push ⟨[ae y.name,iV t9.aY],139,false,false⟩).next=dh.next+1:=rfl;omega
      simp only [go_sem,e6,T3,er,eV,ej,wE]
      exact ⟨_,_,_,(ana {t9 with aK:=t9.aK++[⟨y.name,t9.aY⟩],aY:=t9.aY+1} rfl rfl).fE H.fz fun _=>rfl,by show H7.next<=dr.next;omega,G8⟩
     ·rintro V8 H8 ⟨ej,t9,g9,wJ,r9,AI,G8⟩
      rw [List.drop_length,HF] at G8
      cases G8
      obtain ⟨VE,vI9,G1,_⟩:=r9.re
      have zx:∀c∈gP,H8.get c=H6.get c:=fun c hc=>r9.fr.get c (fe.q.hP c hc).1 fun e=>by
       simp only [List.mem_cons,List.mem_append] at e
       rcases e with e | e | e
       ·exact (fe.q.hP c hc).2 e
       ·exact (fe.q.hm c e).2.2.1 hc
       ·exact (fe.q.hi c e).2.2.1 hc
      have QI:=(zx bD (fe.md bD fZ).2.1).trans hB
      have i7:QG[i * 9+3]?=some (iV x.body):=by
       have:((QG.drop (i * 9)).take 9)[3]?=some (iV x.body):=by rw [aX];rfl
       rw [List.getElem?_take,if_pos (by decide),List.getElem?_drop] at this
       exact this
      simp only [go_sem,ej,e6,G1,eD,ei,hi,QI,i7]
      refine ag.by (aeG am3 fuel (r9.fE H.fz fun _=>rfl).rq iB) ?_
      rintro _ dh - j9
      obtain ⟨qf,Pk,cT,_,_⟩:=(r9.fE H.fz fun _=>rfl).call j9
      have cT:=cT.fE H.fz fun _=>rfl
      obtain ⟨D0,anb,abA⟩:=fe.ai.call cT.last
      have f10:Fr [] H (dh.ai H.fz):=(f6.ai H.fz).trans cT.fr fun c hc=>.inr (by
       simp only [List.mem_cons,List.mem_append] at hc
       rcases hc with e | e | e
       ·omega
       ·have:=fe.m0 c e;omega
       ·have:=fe.i0 c e;omega)
      have anc:dh.get z=H6.get z:=cT.fr.get z (by show z < H6.next;have:=fe.q.rl;omega) fun hc=>by
       simp only [List.mem_cons,List.mem_append] at hc
       rcases hc with e | e | e
       ·omega
       ·have:=fe.m0 z e;omega
       ·have:=fe.i0 z e;omega
      obtain ⟨bE,QJ,eE,lS,axg,axh,pX,Tj,_,ane,abB⟩:=abA.aY (i:=i) (d:=x) hd (w:=t8.aY)
      rw [eD] at eE
      simp only [Value.slice.injEq,Option.some.injEq,Addr.mk.injEq] at eE
      obtain ⟨⟨rfl,_⟩,_⟩:=eE
      obtain ⟨anf,ang,FN,_,_⟩:=abA.q.row
      have FN:dh.get r=some ⟨rC S anf ang t8,136,false,false⟩:=FN
      have pX:dh.get bD=some ⟨QJ,38,true,false⟩:=pX
      have fx:H.fz bD=false:=QE bD (fe.md bD fZ).1
      have gh:i * 9+2+1<=QJ.length:=by omega
      have cS:¬z=bD:=by have:=(fe.md bD fZ).1;omega
      have hse:(done++x::P1.defs.drop (i+1)).set i {x with aY:=t8.aY}=(done++[{x with aY:=t8.aY}])++P1.defs.drop (i+1):=by
       rw [List.set_append_right _ _ (by omega),df,Nat.sub_self,List.append_assoc];rfl
      rw [show (({P1 with defs:=done++x::P1.defs.drop (i+1)}:bw).defs.set i {x with aY:=t8.aY})=(done++[{x with aY:=t8.aY}])++P1.defs.drop (i+1) from hse] at abB
      simp only [go_sem,e6,FN,eD,ei,hi,pX,fx,gh,ct,cS]
      rw [show cW QJ (i * 9+2) [iV t8.aY]=QJ.set (i * 9+2) (iV t8.aY) from eW (by omega)]
      exact ⟨done++[{x with aY:=t8.aY}],t8,D0,anb,ane,abB.ai,fun _=>trivial,(f10.ah (.inr (by have:=(fe.md bD fZ).1;omega)) _).ai _,anc.trans G7,by simp [df],by rw [List.map_append,QF,iF,List.map_append];rfl,rz⟩
    ·rw [if_neg hb] at rz
     cases rz
     simp only [go_sem,ei,hi,e6,ig,hb,eD]
     exact ⟨_,_,_,fe.ai,fun _=>trivial,f6.ai _,G7⟩
   ·rintro V6 H6 ⟨ei,done,t6,g6,CK,AT,fe,z6,f6,G7,df,QF,rz⟩
    rw [List.drop_length,Ic] at rz
    cases rz
    rw [List.drop_length,List.append_nil] at fe
    obtain ⟨JE,JF,ig,QH,JJ⟩:=fe.q.row
    obtain ⟨aD6,MO⟩:=fe.gd.val
    simp only at MO
    simp only [go_sem,ei,e6,ig,MO,df]
    exact ⟨_,_,_,fe.ai,fun _=>trivial,f6.ai _,G7⟩
  ·rintro V6 H6 ⟨g6,CK,AT,fe,z6,f6,G7⟩
   obtain ⟨JE,JF,ig,QH,_⟩:=fe.q.row
   obtain ⟨aN6,hv⟩:=QH.val
   subst hv
   have WW:¬z=r:=by omega
   have GK:H.fz z=false:=hX (by omega)
   have hrz:¬r=z:=fun e=>WW e.symm
   obtain ⟨vM2,vR2,vD2⟩:=S
   obtain ⟨gm,WX,oM⟩:=fe.sm
   obtain ⟨gs,WY,jH⟩:=fe.sr
   have WZ:=fe.gd.sl
   have kz:∀c∈gm++(gs++((mD++AT)++(m++g6))),c < H6.next/\(c∈G0∨r<=c):=fun c hc=>by
    have QK:∀c∈gP,c < H6.next/\(c∈G0∨r<=c):=fun c hc=>⟨(fe.q.hP c hc).1,fe.pz c hc⟩
    simp only [List.mem_append] at hc
    rcases hc with e | e | (e | e) | e | e
    ·exact QK c (fe.dg c (by simp [oM c e]))
    ·exact QK c (fe.dg c (by simp [jH c e]))
    ·exact QK c (fe.md c e).2.1
    ·exact QK c (fe.dg c (by simp [e]))
    ·exact ⟨(fe.q.hm c e).1,.inr (fe.m0 c e)⟩
    ·exact ⟨(fe.q.hg c e).1,fe.gz c e⟩
   have kzz:∀c∈gm++(gs++((mD++AT)++(m++g6))),¬c=z:=fun c hc=>(kz c hc).2.elim (fun e=>by have:=hG c e;omega) fun e=>by omega
   simp only at WX WY WZ
   obtain ⟨aM6,kM6,hv⟩:=WX.val
   subst hv
   obtain ⟨aR6,kR6,hv⟩:=WY.val
   subst hv
   obtain ⟨aD6,kD6,hv⟩:=WZ.val
   subst hv
   by_cases hb:tE.bad=0
   ·rw [if_pos hb]
    simp only [go_sem,e6,e2,ig,hb,G7,GK,hrz,WW]
    generalize hB:(⟨[.slice aM6 P1.msgs.length kM6,.slice aR6 P1.bZ.length kR6,.slice aD6 WU.length kD6,.slice aN6 tE.ns.length tE.ns.length],28,false,false⟩:cw)=B
    have kk:∀c∈gm++(gs++((mD++AT)++(m++g6))),(((H6.ai H.fz).ah z B).ai H.fz).get c=H6.get c:=fun c hc=>by rw [bg,az,if_neg (kzz c hc),bg]
    exact ⟨(((f6.ai _).ah (.inr (by omega)) B (by rw [<-hB])).ai _).aH,_,_,rfl,⟨_,_,_,_,gm,gs,mD++AT,m++g6,rfl,WX.af fun c hc=>kk c (by simp [hc]),WY.af fun c hc=>kk c (by simp only [List.mem_append];exact .inr (.inl hc)),WZ.af fun c hc=>kk c (by simp only [List.mem_append] at hc ⊢;exact .inr (.inr (.inl hc))),QH.sl.af fun c hc=>kk c (by simp only [List.mem_append] at hc ⊢;exact .inr (.inr (.inr hc))),rfl⟩,fun c hc=>⟨(kz c hc).1,(kz c hc).2.imp id fun e=>by omega⟩⟩
   ·rw [if_neg hb]
    simp only [go_sem,e6,e2,ig,hb,rG,G7,GK,hrz,WW]
    exact ⟨((f6.ah (.inr (by omega)) _).ai _).aH,_,_,_,rfl,hb⟩
end
def Fa (fuel:Nat) (s:bf):Option (Option bw):=
 (Kw fuel s).bind fun a=>match a with
  | none=>some none
  | some P=>(Kz fuel P).bind fun b=>match b with
   | none=>some none
   | some Q=>NM fuel Q
def akk (n:Nat) (R:Option bw) (H':ad) (w:Value):Prop:=match R with
 | some P=>∃v g,w=.tuple #[v,iV 0,iV 0,iV 0]/\uY H' v P g/\∀c∈g,n<=c/\c < H'.next
 | none=>∃v a b e,w=.tuple #[v,iV a,iV b,iV e]/\e≠0/\∃g,uY H' v {} g/\∀c∈g,n<=c/\c < H'.next
theorem uY.af {H H':ad} {v:Value} {P:bw} {g:List Nat} (h:uY H v P g) (hk:∀c∈g,H'.get c=H.get c):uY H' v P g:=by
 obtain ⟨vM,vR,vD,vN,gM,gR,gD,gN,rfl,h1,h2,h3,h4,rfl⟩:=h
 exact ⟨vM,vR,vD,vN,gM,gR,gD,gN,rfl,h1.af fun c hc=>hk c (by simp [hc]),h2.af fun c hc=>hk c (by simp [hc]),h3.af fun c hc=>hk c (by simp [hc]),h4.af fun c hc=>hk c (by simp [hc]),rfl⟩
theorem uY.nil {H:ad}:uY H (.agg #[.slice none 0 0,.slice none 0 0,.slice none 0 0,.slice none 0 0]) {} []:=⟨_,_,_,_,[],[],[],[],rfl,.inl ⟨rfl,rfl,rfl⟩,.inl ⟨rfl,rfl,rfl⟩,.inl ⟨rfl,rfl,rfl⟩,.inl ⟨rfl,rfl,rfl⟩,rfl⟩
section
variable {H:ad}
theorem ahG {s:bf} (hs:s.length < 999000) {fuel:Nat} {R:Option bw} (he:Fa fuel s=some R):ak Tryz.prog 36 #[ae s] H (fun w H'=>ba H H'/\akk H.next R H' w):=by
 refine ak.told ?_
 refine ais (Nat.le_refl _) fun hf=>?_
 simp only [Tryz.f36,Option.getD_some]
 unfold Fa at he
 have hX:∀{n:Nat},H.next<=n->H.fz n=false:=fun h=>hf.fresh h
 cases W0:Kw fuel s with
 | none=>rw [W0] at he;cases he
 | some A=>
 rw [W0] at he
 simp only [Option.bind_some] at he
 simp only [go_sem,rG]
 refine ag.by (aeA hs W0) ?_
 rintro _ H1 - ⟨o1,k1⟩
 have n1:=o1.nx
 simp only [bJ] at n1
 have gX:H.fz H1.next=false:=hX (by omega)
 have dz:H.fz H.next=false:=hX (Nat.le_refl _)
 have JQ:H1.get H.next=some ⟨[.slice none 0 0,.slice none 0 0,.slice none 0 0,.slice none 0 0],28,false,false⟩:=(o1.get H.next (by rw [bJ];omega)).trans (by rw [aV,if_pos rfl])
 have He:¬H.next=H1.next:=by omega
 have JR:¬H1.next=H.next:=by omega
 have f01:Fr [] H H1:=((Fr.refl [] H).push _).then (o1.fr [])
 cases A with
 | none=>
  cases he
  obtain ⟨v,a,b,e,rfl,dv,pv⟩:=k1
  obtain ⟨vM,vR,vD,vN,gM,gR,gD,gN,rfl,h1,h2,h3,h4,ix⟩:=pv
  obtain ⟨aM,kM,rfl⟩:=h1.val
  obtain ⟨aR,kR,rfl⟩:=h2.val
  obtain ⟨aD,kD,rfl⟩:=h3.val
  obtain ⟨aN,kN,rfl⟩:=h4.val
  simp only [go_sem,rG,gX,dz,dv,He,JR,JQ]
  generalize hB:(⟨[.slice aM 0 kM,.slice aR 0 kR,.slice aD 0 kD,.slice aN 0 kN],28,false,false⟩:cw)=B
  have oE:B.ro=false:=by rw [<-hB]
  refine ⟨(((f01.push B oE).ah (.inr (Nat.le_refl _)) B oE).ai _).aH,_,_,_,_,rfl,dv,_,uY.af ⟨_,_,_,_,gM,gR,gD,gN,rfl,h1,h2,h3,h4,rfl⟩ fun c hc=>?_,fun c hc=>?_⟩
  ·obtain ⟨u1,u2⟩:=ix c hc
   rw [bJ] at u1
   rw [bg,az,if_neg (by omega),bX u2]
  ·obtain ⟨u1,u2⟩:=ix c hc
   rw [bJ] at u1
   exact ⟨by omega,by show c < H1.next+1;omega⟩
 | some P=>
  simp only at he
  obtain ⟨v,rfl,vM,vR,vD,vN,gM,gR,gD,gN,rfl,h1,h2,h3,h4,ix⟩:=k1
  obtain ⟨aM,kM,rfl⟩:=h1.val
  obtain ⟨aR,kR,rfl⟩:=h2.val
  obtain ⟨aD,kD,rfl⟩:=h3.val
  obtain ⟨aN,kN,rfl⟩:=h4.val
  cases j6:Kz fuel P with
  | none=>rw [j6] at he;cases he
  | some B=>
  rw [j6] at he
  simp only [Option.bind_some] at he
  simp only [go_sem,rG,gX,dz,He,JR,JQ]
  generalize pW:(⟨[.slice aM P.msgs.length kM,.slice aR P.bZ.length kR,.slice aD P.defs.length kD,.slice aN P.nodes.length kN],28,false,false⟩:cw)=B1
  have anh:B1.ro=false:=by rw [<-pW]
  have kp:∀c∈gM++(gR++(gD++gN)),(H1.push B1).get c=H1.get c:=fun c hc=>bX (ix c hc).2
  have f1p:Fr [] H (H1.push B1):=f01.push B1 anh
  refine ag.by (aeE (h1.af fun c hc=>kp c (by simp [hc])) (h2.af fun c hc=>kp c (by simp [hc])) (h3.af fun c hc=>kp c (by simp [hc])) (h4.af fun c hc=>kp c (by simp [hc])) (fun c hc=>by rw [bJ];have:=(ix c hc).2;omega) j6) ?_
  rintro _ H2 - ⟨o2,k2⟩
  have n2:=o2.nx
  rw [bJ] at n2
  have f2:Fr [] H H2:=f1p.then (o2.fr [])
  have pr:H2.get H1.next=some B1:=(o2.get H1.next (by rw [bJ];omega)).trans (by rw [aV,if_pos rfl])
  have Nf:H2.get H.next=some ⟨[.slice none 0 0,.slice none 0 0,.slice none 0 0,.slice none 0 0],28,false,false⟩:=(o2.get H.next (by rw [bJ];omega)).trans ((bX (by omega)).trans JQ)
  subst pW
  have low:∀c∈gM++(gR++(gD++gN)),H.next+1<=c/\c < H1.next:=fun c hc=>by
   have:=ix c hc
   rw [bJ] at this
   exact this
  cases B with
  | none=>
   cases he
   obtain ⟨a,b,e,rfl,dv⟩:=k2
   simp only [go_sem,rG,gX,dz,He,JR,Nf,pr,dv]
   refine ⟨((f2.ah (.inr (by omega)) _).ah (.inr (by omega)) _ |>.ai _).aH,_,_,_,_,rfl,dv,_,uY.nil,by simp⟩
  | some Q=>
   simp only at he
   obtain ⟨v,g2,rfl,pw,jf⟩:=k2
   obtain ⟨vM,vR,vD,vN,uM,uR,uD,uN,rfl,q1,q2,q3,q4,rfl⟩:=pw
   obtain ⟨bM,lM,rfl⟩:=q1.val
   obtain ⟨bR,lR,rfl⟩:=q2.val
   obtain ⟨bD,lD,rfl⟩:=q3.val
   obtain ⟨bN,lN,rfl⟩:=q4.val
   have Ud:∀c∈uM++(uR++(uD++uN)),H.next+1<=c/\c < H2.next/\¬c=H1.next:=fun c hc=>by
    obtain ⟨u1,u2⟩:=jf c hc
    rw [bJ] at u2
    rcases u2 with e | e
    ·have:=low c e;exact ⟨by omega,u1,by omega⟩
    ·exact ⟨by omega,u1,by omega⟩
   simp only [go_sem,rG,gX,dz,He,JR,Nf,pr]
   generalize pX:(⟨[.slice bM Q.msgs.length lM,.slice bR Q.bZ.length lR,.slice bD Q.defs.length lD,.slice bN Q.nodes.length lN],28,false,false⟩:cw)=B2
   have ani:B2.ro=false:=by rw [<-pX]
   have QL:∀c∈uM++(uR++(uD++uN)),(H2.ah H1.next B2).get c=H2.get c:=fun c hc=>by rw [az,if_neg (Ud c hc).2.2]
   have f2p:Fr [] H (H2.ah H1.next B2):=f2.ah (.inr (by omega)) B2 ani
   refine ag.by (adj (q1.af fun c hc=>QL c (by simp [hc])) (q2.af fun c hc=>QL c (by simp [hc])) (q3.af fun c hc=>QL c (by simp [hc])) (q4.af fun c hc=>QL c (by simp [hc])) (fun c hc=>(Ud c hc).2.1) he) ?_
   rintro _ H3 - ⟨o3,k3⟩
   have n3:H2.next<=H3.next:=o3.nx
   have f3:Fr [] H H3:=f2p.then (o3.fr [])
   have zp:H3.get H1.next=some B2:=(o3.get H1.next (by show H1.next < H2.next;omega)).trans (by rw [az,if_pos rfl])
   have Jy:H3.get H.next=some ⟨[.slice none 0 0,.slice none 0 0,.slice none 0 0,.slice none 0 0],28,false,false⟩:=(o3.get H.next (by show H.next < H2.next;omega)).trans (by rw [az,if_neg He];exact Nf)
   subst pX
   cases R with
   | none=>
    obtain ⟨a,b,e,rfl,dv⟩:=k3
    simp only [go_sem,rG,gX,dz,He,JR,Jy,zp,dv]
    exact ⟨((f3.ah (.inr (by omega)) _).ah (.inr (by omega)) _ |>.ai _).aH,_,_,_,_,rfl,dv,_,uY.nil,by simp⟩
   | some Z=>
    obtain ⟨v,g3,rfl,pw,Av⟩:=k3
    obtain ⟨vM,vR,vD,vN,wM,wR,wD,wN,rfl,y1,y2,y3,y4,rfl⟩:=pw
    have Pn:∀c∈wM++(wR++(wD++wN)),H.next+1<=c/\c < H3.next/\¬c=H1.next:=fun c hc=>by
     obtain ⟨u1,u2⟩:=Av c hc
     rcases u2 with e | e
     ·have:=Ud c e;exact ⟨by omega,u1,this.2.2⟩
     ·have e:H2.next<=c:=e
      exact ⟨by omega,u1,by omega⟩
    have pw:uY H3 (.agg #[vM,vR,vD,vN]) Z (wM++(wR++(wD++wN))):=⟨_,_,_,_,wM,wR,wD,wN,rfl,y1,y2,y3,y4,rfl⟩
    obtain ⟨cM,jM,rfl⟩:=y1.val
    obtain ⟨cR,jR,rfl⟩:=y2.val
    obtain ⟨cD,jD,rfl⟩:=y3.val
    obtain ⟨cN,jN,rfl⟩:=y4.val
    simp only [go_sem,rG,gX,dz,He,JR,Jy,zp]
    exact ⟨((f3.ah (.inr (by omega)) _).ah (.inr (by omega)) _ |>.ai _).aH,_,_,rfl,pw.af fun c hc=>by rw [bg,az,if_neg (by have:=(Pn c hc).1;omega),az,if_neg (Pn c hc).2.2],fun c hc=>⟨by have:=(Pn c hc).1;omega,(Pn c hc).2.1⟩⟩
end
def CN (v n:Int):Int:=if n < 1 then 0 else if Int.tmod v n < 0 then Int.tmod v n+n else Int.tmod v n
theorem Sa (v n:Int) (h:1<=n):0<=CN v n/\CN v n < n:=by
 have h1:Int.tmod v n < n:=Int.tmod_lt_of_pos v (by omega)
 have h2: -n < Int.tmod v n:=by
  have:=Int.tmod_lt_of_pos (-v) (show 0 < n by omega)
  rw [Int.neg_tmod] at this
  omega
 unfold CN
 rw [if_neg (by omega)]
 split <;> omega
theorem lF {n:Int} (h1: -9223372036854775808<=n) (h2:n < 9223372036854775808):IntKind.wrap .i64 n=n:=by
 apply J2
 cases n with
 | ofNat a=>show Nat.blt a 9223372036854775808=true;rw [blt_eq,decide_eq_true_eq];have:(Int.ofNat a)=(a:Int):=rfl;omega
 | negSucc a=>show Nat.blt a 9223372036854775808=true;rw [blt_eq,decide_eq_true_eq];have:=Int.negSucc_eq a;omega
theorem NN {H:ad} {v n:Int} (hn:n < 4611686018427387904):ak Tryz.prog 16 #[.int .i64 v,.int .i64 n] H (fun r H'=>r=.int .i64 (CN v n)/\H=H'):=by
 refine aij (Nat.le_refl _) fun hf=>?_
 simp only [Tryz.f16,Option.getD_some]
 by_cases h1:n < 1
 ·simp only [go_sem,h1]
  simp [CN,h1]
 ·have rV:n≠0:=by omega
  have b1:Int.tmod v n < n:=Int.tmod_lt_of_pos v (by omega)
  have b2: -n < Int.tmod v n:=by
   have:=Int.tmod_lt_of_pos (-v) (show 0 < n by omega)
   rw [Int.neg_tmod] at this
   omega
  by_cases h2:Int.tmod v n < 0
  ·have hw:=lF (n:=Int.tmod v n+n) (by omega) (by omega)
   simp only [go_sem,h1,rV,h2,hw]
   simp [CN,h1,h2]
  ·simp only [go_sem,h1,rV,h2]
   simp [CN,h1,h2]
theorem Oe {H:ad}:∀{l:List Int} {cs:List Value} {f:List Nat},dV Rp.int H cs l f->f=[]
 | [],cs,f,h=>h
 | x::l,cs,f,h=>by
  obtain ⟨c,fW,f1,f2,rfl,rfl,⟨rfl,rfl⟩,h2⟩:=h
  rw [Oe h2];rfl
theorem adZ {xs:List Int} {i j:Nat} {x:Int} (hi:i < xs.length):(xs.set i x).getD j 0=if j=i then x else xs.getD j 0:=by
 rw [List.getD_eq_getElem?_getD,List.getElem?_set,List.getD_eq_getElem?_getD]
 by_cases h:i=j
 ·subst h;simp [hi]
 ·rw [if_neg h,if_neg (fun e=>h e.symm)]
theorem AY {p:List Int} {i:Nat} (hi:i < p.length):p.drop i=p.getD i 0::p.drop (i+1):=by
 rw [List.getD_eq_getElem?_getD,List.getElem?_eq_getElem hi,Option.getD_some];exact (List.getElem_cons_drop hi).symm
theorem ak.fzd {P:Program} {f:FuncId} {args:Array Value} {H:ad} {K:Value->ad->Prop} (h:ak P f args H K) (hK:∀v H' fz,K v H'->K v (H'.ai fz)):ak P f args H (fun v H'=>K v H'/\∀c,H'.fz c=H.fz c):=
 ak.told (h.mono fun v H' _ hk=>⟨hK _ _ _ hk,fun _=>rfl⟩)
structure OF (H H':ad):Prop where
 aH:ba H H'
 fz:∀c,c < H.next->H'.fz c=H.fz c
theorem OF.refl (H:ad):OF H H:=⟨ba.refl H,fun _ _=>rfl⟩
theorem OF.trans {H H1 H2:ad} (h:OF H H1) (h':OF H1 H2):OF H H2:=⟨h.aH.trans h'.aH,fun c hc=>(h'.fz c (Nat.lt_of_lt_of_le hc h.aH.nx)).trans (h.fz c hc)⟩
theorem OF.push {H H1:ad} (h:OF H H1) (B:cw) (hB:B.ro=false:=by rfl):OF H (H1.push B):=h.trans ⟨ba.push H1 B hB,fun c hc=>by
 show (c==H1.next||H1.fz c)=_
 rw [show (c==H1.next)=false from by rw [beq_eq_false_iff_ne];omega,Bool.false_or]⟩
theorem OF.told {H H1:ad} (h:OF H H1):OF H (H1.ai H.fz):=⟨((h.aH.fr []).ai _).aH,fun _ _=>rfl⟩
theorem ba.of {H H':ad} (h:ba H H') (hz:∀c,H'.fz c=H.fz c):OF H H':=⟨h,fun c _=>hz c⟩
abbrev uV (s:Nat):Value:=.int .u64 (s:Int)
section
variable {P:Program} {h:KH} {t:TypeId}
theorem Of {n:Nat} (hn:n < 18446744073709551616):pH .u64 (Int.ofNat n)=(n:Int):=by
 show (bif Nat.blt n 18446744073709551616 then Int.ofNat n else _)=_
 rw [show Nat.blt n 18446744073709551616=true from by simp [blt_eq,hn],cond_true];rfl
theorem ahH {n:Nat} (hn:n < 18446744073709551616):x8 .u64 (Int.ofNat n)=n:=Nat.mod_eq_of_lt hn
end
abbrev uR:Rp Nat:=.flat 1 (by decide) (fun s=>[uV s]) fun _=>rfl
structure anj (n:aG):Prop where
 a:n.args.length < 1000000
 b:n.au.length < 1000000
 s:∀x∈n.au,x.aY.length < 100000
section
variable {P:Program} {h:KH} {t:TypeId}
theorem aeH {a:Nat}:eC P .shr t (uV a) (.int .u64 32) h=.ok (uV (a / 4294967296)) h:=by
 have h1:nI P .shr t (uV a) (.int .u64 32)=some (.int .u64 (Int.fdiv (Int.ofNat a) (Int.ofNat 4294967296))):=rfl
 rw [show Int.fdiv (Int.ofNat a) (Int.ofNat 4294967296)=((a / 4294967296:Nat):Int) from (Int.fdiv_eq_ediv_of_nonneg _ (Int.natCast_nonneg 4294967296)).trans rfl] at h1
 simp only [eC,h1]
theorem Sb {a:Nat} (ha:a < 18446744073709551616):eC P .and t (uV a) (.int .u64 4294967295) h=.ok (uV (a % 4294967296)) h:=by
 have h1:nI P .and t (uV a) (.int .u64 4294967295)=some (.int .u64 (pH .u64 (Int.ofNat (Nat.land (x8 .u64 (Int.ofNat a)) 4294967295)))):=rfl
 rw [ahH ha,show Nat.land a 4294967295=a % 4294967296 from Nat.and_two_pow_sub_one_eq_mod a 32,Of (by omega)] at h1
 simp only [eC,h1]
theorem Og {a b:Nat} (ha:a * b < 18446744073709551616):eC P .mul t (uV a) (uV b) h=.ok (uV (a * b)) h:=by
 have h1:nI P .mul t (uV a) (uV b)=some (.int .u64 (pH .u64 (Int.ofNat a * Int.ofNat b))):=rfl
 rw [show Int.ofNat a * Int.ofNat b=Int.ofNat (a * b) from rfl,Of ha] at h1
 simp only [eC,h1]
theorem Sc {a b:Nat} (ha:a+b < 18446744073709551616):eC P .add t (uV a) (uV b) h=.ok (uV (a+b)) h:=by
 have h1:nI P .add t (uV a) (uV b)=some (.int .u64 (pH .u64 (Int.ofNat a+Int.ofNat b))):=rfl
 rw [show Int.ofNat a+Int.ofNat b=Int.ofNat (a+b) from rfl,Of ha] at h1
 simp only [eC,h1]
end
theorem aeI {H:ad} {a n:Nat} (ha:a < 65536) (hn:n < 4294967296):ak Tryz.prog 132 #[uV a,uV n] H (fun r H'=>r=.tuple #[uV 0,uV (a * n)]/\H=H'):=by
 refine afX (Nat.le_refl _) fun hf=>?_
 simp only [Tryz.f132,Option.getD_some]
 have a0:a / 4294967296=0:=Nat.div_eq_of_lt (by omega)
 have n0:n / 4294967296=0:=Nat.div_eq_of_lt (by omega)
 have am:a % 4294967296=a:=Nat.mod_eq_of_lt (by omega)
 have nm:n % 4294967296=n:=Nat.mod_eq_of_lt (by omega)
 have hm:a * n < 65536 * 4294967296:=by
  rcases Nat.eq_zero_or_pos n with h | h
  ·subst h;simp
  ·exact Nat.lt_of_lt_of_le (Nat.mul_lt_mul_of_pos_right ha h) (Nat.mul_le_mul_left _ (by omega))
 obtain ⟨z,hz⟩:∃z,z=0:=⟨0,rfl⟩
 rw [<-hz] at a0 n0
 have UU:z * n=z:=by rw [hz,Nat.zero_mul]
 have Jh:a * z=z:=by rw [hz,Nat.mul_zero]
 have hz3:z * z=z:=by rw [hz]
 have hz4:z < 1000:=by omega
 obtain ⟨m,wk⟩:∃m,m=a * n:=⟨_,rfl⟩
 have hzz:z+z=z:=by omega
 rw [<-wk] at hm
 have hd:(m / 4294967296 % 4294967296+z) / 4294967296=z:=by omega
 have DR:(m / 4294967296) / 4294967296=z:=by omega
 have c1:z+m / 4294967296=m / 4294967296:=by omega
 have BY:a < 18446744073709551616:=by omega
 have rX:n < 18446744073709551616:=by omega
 have CC:a * n < 18446744073709551616:=by omega
 have hq:m / 4294967296 < 18446744073709551616:=by omega
 have hqq:m / 4294967296 % 4294967296+z < 18446744073709551616:=by omega
 have q1:z * n < 18446744073709551616:=by omega
 have q2:a * z < 18446744073709551616:=by omega
 have q3:z * z < 18446744073709551616:=by omega
 have q4:z+z < 18446744073709551616:=by omega
 have q5:z+m / 4294967296 < 18446744073709551616:=by omega
 simp only [go_sem,Sb BY,aeH,Sb rX,a0,n0,am,nm,Og CC,Og q1,<-wk,UU,Sc q5,c1,Sb hq,Og q2,Jh,Sc hqq,Og q3,hz3,DR,Sc q4,hzz,hd]
 rw [hz]
theorem akl {H:ad} {a n:Nat} (ha:a < 65536) (hn:n < 4294967296):ak Tryz.prog 97 #[uV a,uV n] H (fun r H'=>r=.tuple #[uV 0,uV (a * n)]/\H=H'):=by
 refine ajw (Nat.le_refl _) fun hf=>?_
 simp only [Tryz.f97,Option.getD_some]
 simp only [go_sem]
 refine ag.by (aeI ha hn) ?_
 rintro _ _ - ⟨rfl,rfl⟩
 simp only [go_sem]
theorem YS {P:Program} {H:ad} {t e:TypeId} {sz b b2 o o2 dn n c c2:Nat} {B B2:cw} (he:iZ P t=some (e,sz)) (pX:H.get b2=some B2) (h2:o2+min n dn * sz<=B2.cells.length) (hB:H.get b=some B) (h1:o+min n dn * sz<=B.cells.length) (oE:B.ro=false) (SP:kh ((B2.cells.drop o2).take (min n dn * sz))=true):
  Bk P t (.slice (some ⟨b,o,none⟩) dn c) (.slice (some ⟨b2,o2,none⟩) n c2) H=.ok (iV (min n dn:Nat)) (H.ah b ⟨cW B.cells o ((B2.cells.drop o2).take (min n dn * sz)),B.elem,B.hV,false⟩):=by
 obtain ⟨hu,hs⟩:=NG he
 have hl:((B2.cells.drop o2).take (min n dn * sz)).length=min n dn * sz:=by rw [List.length_take,List.length_drop];omega
 simp only [Bk,hu,hs,pX]
 rw [if_pos h2]
 simp only [qx,hB]
 rw [if_pos ⟨by rw [hl];exact h1,SP,oE⟩]
 rfl
theorem Po:∀n,ff [iV 0] n=(List.replicate n 0).map iV
 | 0=>rfl
 | n+1=>by rw [List.replicate_succ,List.map_cons,<-Po n];rfl
theorem acA {x:Int} {k n m:Nat} (h:m<=k) (h2:k+m<=n):cW ((List.replicate k x++List.replicate (n - k) 0).map iV) k (((List.replicate k x++List.replicate (n - k) 0).map iV).take m)=((List.replicate (k+m) x++List.replicate (n - (k+m)) 0).map iV):=by
 unfold cW
 simp only [List.map_append,List.map_replicate]
 rw [List.take_left' (by simp),List.take_append_of_le_length (by simp;omega),List.take_replicate,Nat.min_eq_left h,List.length_replicate,List.drop_append]
 rw [List.drop_of_length_le (by simp)]
 simp only [List.length_replicate,List.nil_append,List.drop_replicate,List.replicate_append_replicate]
 rw [show n - k - (k+m - k)=n - (k+m) by omega,<-List.append_assoc,List.replicate_append_replicate]
theorem J5:∀l:List Int,kh (l.map iV)=true
 | []=>rfl
 | x::l=>by rw [List.map_cons,QW,J5 l];rfl
theorem ad0 {H:ad} {b o c:Nat} {x:Int} {B:cw} {n:Nat} (hB:H.get b=some B) (hc:B.cells[o]?=some (iV x)) (hn:n < 100000):
  ak Tryz.prog 73 #[.slice (some ⟨b,o,none⟩) 1 c,iV (n:Nat)] H (fun v H'=>ba H H'/\v=.slice (some ⟨H.next,0,none⟩) n n/\H.next < H'.next/\H'.get H.next=some ⟨(List.replicate n x).map iV,3,false,false⟩):=by
 refine ak.told ?_
 refine aiW (Nat.le_refl _) fun hf=>?_
 simp only [Tryz.f73,Option.getD_some]
 have hx:H.fz H.next=false:=hf.fresh (Nat.le_refl _)
 have zI:gf Tryz.prog 3=some [iV 0]:=by kernel_rfl
 have eL:iZ Tryz.prog 22=some (3,1):=by kernel_rfl
 have be:=hf.Da hB
 have cm:o < B.cells.length:=(List.getElem?_eq_some_iff.1 hc).1
 have uO:B.cells.drop o=iV x::B.cells.drop (o+1):=by
  rw [<-List.getElem_cons_drop cm];congr 1;exact (List.getElem?_eq_some_iff.1 hc).2
 have cA:¬((n:Nat):Int) < 0:=by omega
 have hm:=akl (H:=H) (a:=1) (n:=n) (by decide) (by omega)
 have c1:∀{n:Nat} {H:ad},n < 100000->oR Tryz.prog 3 120 (iV (n:Nat)) H=.ok (uV n) H:=fun {n H} hn=>by
  rw [CV (ks:=.i64) (kd:=.u64) (by kernel_rfl) (by kernel_rfl)]
  show _=AO.ok (.int .u64 (n:Int)) H
  rw [show IntKind.wrap .u64 (n:Int)=(n:Int) from by rw [<-qu];exact Of (by omega)]
 have c2:∀{n:Nat} {H:ad},n < 100000->oR Tryz.prog 120 3 (uV n) H=.ok (iV (n:Nat)) H:=fun {n H} hn=>by
  rw [CV (ks:=.u64) (kd:=.i64) (by kernel_rfl) (by kernel_rfl)]
  rw [show IntKind.wrap .i64 (n:Int)=(n:Int) from lF (by omega) (by omega)]
 simp only [go_sem,cA,c1 (show 1 < 100000 by decide),c1 hn]
 refine ag.by hm ?_
 rintro _ _ - ⟨rfl,rfl⟩
 rw [Nat.one_mul]
 have oq:¬(9223372036854775807:Int) < ((n:Nat):Int):=by omega
 have CO:¬(0:Int) < ((0:Nat):Int):=by omega
 simp only [go_sem,CO,oq,c2 hn,RD rI zI (by decide) (Nat.le_refl n) (by omega) (by omega)]
 have hBp:(H.push ⟨ff [iV 0] n,3,false,false⟩).get b=some B:=by rw [bX be];exact hB
 have rX:(ff [iV 0] n).length=n:=by rw [Po];simp
 have QI:B.cells.length<=o+1+B.cells.length:=by omega
 have e1:Bk Tryz.prog 22 (.slice (some ⟨H.next,0,none⟩) n n) (.slice (some ⟨b,o,none⟩) 1 c) (H.push ⟨ff [iV 0] n,3,false,false⟩)=.ok (iV (min 1 n:Nat)) ((H.push ⟨ff [iV 0] n,3,false,false⟩).ah H.next ⟨(List.replicate (min 1 n) x++List.replicate (n - min 1 n) 0).map iV,3,false,false⟩):=by
  have SP:kh ((B.cells.drop o).take (min 1 n * 1))=true:=by
   rw [uO]
   rcases Nat.eq_zero_or_pos n with h | h
   ·subst h;rfl
   ·rw [Nat.min_eq_left h];rfl
  rw [YS eL hBp (by omega) (by rw [aV,if_pos rfl]) (by show 0+min 1 n * 1<=(ff [iV 0] n).length;omega) rfl SP]
  congr 3
  rw [uO,Po]
  unfold cW
  rcases Nat.eq_zero_or_pos n with h | h
  ·subst h;rfl
  ·obtain ⟨m,rfl⟩:∃m,n=m+1:=⟨n - 1,by omega⟩
   rw [Nat.min_eq_left h];rfl
 simp only [go_sem,e1,hx]
 refine la 140720308486400 (fun m V H1=>∃k,k+m=n/\(1<=k∨n=0)/\V 8=iV (k:Nat)/\ba H H1/\H.next < H1.next/\H1.get H.next=some ⟨(List.replicate k x++List.replicate (n - k) 0).map iV,3,false,false⟩) (n:=n - min 1 n)
  ⟨min 1 n,by omega,by omega,by simp only [go_sem] <;> rfl,ba.push _ _,Nat.lt_succ_self _,by rw [aV,if_pos rfl]⟩ ?_ (by rfl)
 rintro m V H1 ⟨k,xl,zF,ek,o1,n1,g1⟩
 by_cases QM:k < n
 ·have tO:((List.replicate k x++List.replicate (n - k) 0).map iV).length=n:=by simp;omega
  have ft:min k (n - k)<=k:=Nat.min_le_left _ _
  have fB:min k (n - k)<=n - k:=Nat.min_le_right _ _
  have oK:1<=min k (n - k):=by omega
  have GQ:IntKind.wrap .i64 (((k:Nat):Int)+((min k (n - k):Nat):Int))=((k+min k (n - k):Nat):Int):=lF (by omega) (by omega)
  have e2:=YS (P:=Tryz.prog) (t:=22) (b:=H.next) (o:=0+k * 1) (dn:=n - k) (c:=n - k) (n:=k) (c2:=n) (o2:=0) eL g1 (by show 0+min k (n - k) * 1<=((List.replicate k x++List.replicate (n - k) 0).map iV).length;rw [tO];omega) g1 (by show 0+k * 1+min k (n - k) * 1<=((List.replicate k x++List.replicate (n - k) 0).map iV).length;rw [tO];omega) rfl (by
   show kh (List.take (min k (n - k) * 1) (List.drop 0 ((List.replicate k x++List.replicate (n - k) 0).map iV)))=true
   rw [List.drop_zero,<-List.map_take];exact J5 _)
  have gX:H.fz H.next=false:=hx
  have eJ:=acA (x:=x) (k:=k) (n:=n) (m:=min k (n - k)) ft (by omega)
  rw [<-Nat.mul_one (min k (n - k)),Nat.mul_one] at eJ
  have e3:cW ((List.replicate k x++List.replicate (n - k) 0).map iV) (0+k * 1) (((List.replicate k x++List.replicate (n - k) 0).map iV).drop 0 |>.take (min k (n - k) * 1))=(List.replicate (k+min k (n - k)) x++List.replicate (n - (k+min k (n - k))) 0).map iV:=by
   rw [List.drop_zero,Nat.mul_one,Nat.mul_one,Nat.zero_add];exact eJ
  simp only [] at e2
  rw [e3] at e2
  simp only [Nat.zero_add,Nat.mul_one] at e2
  simp only [go_sem,Option.map_some,Option.map_none,ek,QM,Q0 (b:=H.next) (o:=0) (n:=n) (c:=n) eL (Nat.le_of_lt QM) (Nat.le_refl n) (.inl QM),NH (b:=H.next) (o:=0) (n:=n) (c:=n) eL (Nat.le_of_lt QM),e2,gX,GQ]
  exact ⟨m - min k (n - k),by omega,k+min k (n - k),by omega,.inl (by omega),rfl,o1.ah (Nat.le_refl _) _,n1,rfl⟩
 ·have ank:k=n:=by omega
  subst ank
  have wa:¬k < k:=by omega
  rw [Nat.sub_self,List.replicate_zero,List.append_nil] at g1
  simp only [go_sem,ek,wa]
  exact ⟨(o1.fr [] |>.ai _).aH,n1,g1⟩
end Go.Proofs.YtinjmfblebpnnaaGreat.Ab
