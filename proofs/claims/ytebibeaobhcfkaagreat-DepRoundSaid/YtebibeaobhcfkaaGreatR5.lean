/- Lemmas for the walk, part 5. -/
import Derived.Test.YtebibeaobhcfkaaGreatR4
set_option linter.unusedVariables false
set_option linter.unusedSimpArgs false
set_option maxRecDepth 100000
namespace Go.Proofs.YtebibeaobhcfkaaGreat.Ab
open Go
section
variable {S:ZS} {src:List aJ} {gP:List Nat} {H H1 H2:ad} {z:Nat} {ns bZ cB:List aJ} {m m1 m2 g g1 g2:List Nat}
theorem ZR.own (h:ZR S src gP H z ns m g H1 bZ m1 g1) {M:List Nat} (bk:Fr M H1 H2) (hM:∀c∈M,H.next<=c/\c≠z/\c∉m1/\c∉g1/\c∉gP) (mW:∀c,c < H1.next∨H2.next<=c->H2.fz c=H1.fz c):ZR S src gP H z ns m g H2 bZ m1 g1:=
 ⟨h.fr.trans bk fun c hc=>.inr (hM c hc).1,{h.zq.toZQ0.fr bk (fun e=>(hM z e).2.1 rfl) (fun c hc e=>(hM c e).2.2.1 hc) (fun c hc e=>(hM c e).2.2.2.1 hc) (fun c hc e=>(hM c e).2.2.2.2 hc) with
  fz:=by rw [mW _ (.inl h.zq.zl)];exact h.zq.fz,fm:=fun c hc=>by rw [mW _ (.inl (h.zq.hm c hc).1)];exact h.zq.fm c hc,fn:=fun b hb=>by rw [mW _ (.inr hb)];exact h.zq.fn b (Nat.le_trans bk.nx hb)},h.le,h.sm,h.sg⟩
theorem ZR.Vb (h:ZR S src gP H z ns m g H1 bZ m1 g1) {l:Nat} (hl:l < bZ.length) {v:Value} {bs:List fu} {gB:List Nat} (hs:Sl eQ H1 v bs gB) (hg:∀c∈gB,c < H1.next/\c≠z/\c∉m1/\(c∈gP∨H.next<=c)):
  ∃b cs,H1.get z=some ⟨zC S (.slice (some ⟨b,0,none⟩) bZ.length bZ.length),127,false,false⟩/\b∈m1/\H1.get b=some ⟨cs,59,true,false⟩/\l * 20+20<=cs.length/\
  ∃g2,ZR S src gP H z ns m g (H1.ai b ⟨cs.set (l * 20+19) v,59,true,false⟩) (bZ.set l {bZ.getD l {} with ak:=bs}) m1 g2:=by
 obtain ⟨vN,hq,cw⟩:=h.zq.row
 obtain ⟨b,cs,f1,f2,f3,rfl,rfl,hb,gJ,rfl,bX,hE,jk⟩:=cw.put hl
 obtain ⟨wA,wP,wB,e1,e2,e3,bg,rfl,s1,s2,s3⟩:=hE
 have gX:ku.sz=20:=rfl
 rw [gX] at bX bg
 obtain ⟨fB,eo,fU,qY⟩:=h.zq.hm b (by simp)
 have bf:l * 20+19 < cs.length:=by omega
 have gu:(bZ.getD l {})=bZ[l]:=by rw [List.getD_eq_getElem?_getD,List.getElem?_eq_getElem hl];rfl
 have fR:cs.set (l * 20+19) v=cY cs (l * ku.sz) (aU {bZ[l] with ak:=bs} wA wP v):=by
  have:=AE (vs:=[v]) bg (k:=19) (by decide:19+1<=20) bX
  rw [fL bf] at this
  rw [this];rfl
 have bk:Fr [b] H1 (H1.ai b ⟨cs.set (l * 20+19) v,59,true,false⟩):=(Fr.refl _ _).ai (.inl (by simp)) _
 have kg:∀c,c≠b->(H1.ai b ⟨cs.set (l * 20+19) v,59,true,false⟩).get c=H1.get c:=fun c hc=>by rw [aH,if_neg hc]
 have so:∀c∈f1++(e1++(e2++e3)++f3),c≠b:=fun c hc e=>qY (e▸hc)
 have Yu:∀c∈gB,c≠b:=fun c hc e=>(hg c hc).2.2.1 (by simp [e])
 have cA:=jk (H1.ai b ⟨cs.set (l * 20+19) v,59,true,false⟩) (aU {bZ[l] with ak:=bs} wA wP v) {bZ[l] with ak:=bs} (e1++(e2++gB))
  (fun z hz=>kg z (so z (by rcases hz with e | e <;> simp [e]))) (by rw [aH,if_pos rfl,fR]) ⟨wA,wP,v,e1,e2,gB,rfl,rfl,s1.ae fun c hc=>kg c (so c (by simp [hc])),s2.ae fun c hc=>kg c (so c (by simp [hc])),hs.ae fun c hc=>kg c (Yu c hc)⟩
  (fun e=>by
   simp only [List.mem_append] at e
   rcases e with e | e | e
   ·exact so b (by simp [e]) rfl
   ·exact so b (by simp [e]) rfl
   ·exact Yu b e rfl)
 have pI:∀c∈f1++((e1++(e2++gB))++f3),c∈f1++(e1++(e2++e3)++f3)∨c∈gB:=fun c hc=>by
  simp only [List.mem_append] at hc ⊢
  rcases hc with e | (e | e | e) | e <;> simp [e]
 refine ⟨b,cs,hq,by simp,hb,bX,f1++((e1++(e2++gB))++f3),⟨h.fr.trans bk fun c hc=>?_,{row:=⟨_,(kg z (Ne.symm eo)).trans hq,?_⟩,src:=h.zq.src.ae fun c hc=>kg c (fun e=>fU (e▸hc)),zl:=h.zq.zl,hm:=fun c hc=>?_,hg:=fun c hc=>?_,hP:=h.zq.hP,fz:=h.zq.fz,fm:=h.zq.fm,fn:=h.zq.fn},by rw [List.length_set];exact h.le,h.sm,fun c hc=>?_⟩⟩
 ·rw [List.mem_singleton] at hc
  subst hc
  exact (h.sm c (by simp)).imp (fun e=>by simp [e]) id
 ·rw [gu];exact cA
 ·rw [List.mem_singleton] at hc
  subst hc
  exact ⟨fB,eo,fU,fun e=>(pI _ e).elim qY fun e=>Yu _ e rfl⟩
 ·exact (pI c hc).elim (h.zq.hg c) fun e=>⟨(hg c e).1,(hg c e).2.1⟩
 ·exact (pI c hc).elim (h.sg c) fun e=>.inr (hg c e).2.2.2
def CG (bd:Zb) (a:Int) (f:aJ->Int->aJ) (k:Nat) (ns:List aJ):Option (List aJ):=if 0<=a then (bd a ns).map fun x=>x.2.set k (f (x.2.getD k {}) x.1) else some ns
def zF (bd:Zb):List fu->List fu->List aJ->Option (List fu × List aJ)
 | [],done,ns=>some (done,ns)
 | b::l,done,ns=>(bd b.body ns).bind fun x=>zF bd l (done++[{b with body:=x.1}]) x.2
abbrev z1 (n:aJ):aJ:={kind:=1,oe:=n.oe,a:= -1,b:= -1,line:=n.line,az:=n.az,next:= -1}
abbrev z2 (n:aJ):aJ:={kind:=10,ik:=n.ik,args:=⟨2,0,n.oe⟩::n.args,a:= -1,b:= -1,line:=n.line,az:=n.az,next:= -1}
def UJ (bd:Zb) (self:bC):Zn:=fun n ns=>
 if 90000 < ns.length∨90000 < n.args.length∨90000 < n.ak.length∨(¬0<=n.a/\0<=n.b) then none
 else if n.kind=2 then some (ns.length,ns.length+1,lF (ns++[z1 n]++[z2 n]) ns.length (ns.length+1))
 else if n.kind=14 then some (ns.length,ns.length,ns++[{kind:=13,ik:=self,args:=⟨2,0,[115,101,108,102]⟩::n.args,a:= -1,b:= -1,line:=n.line,az:=n.az,next:= -1}])
 else (CG bd n.a (fun d i=>{d with a:=i}) ns.length (ns++[{n with line:=n.line,az:=n.az,next:= -1}])).bind fun bZ=>(CG bd n.b (fun d i=>{d with b:=i}) ns.length bZ).bind fun cB=>
  (zF bd n.ak [] cB).map fun x=>(ns.length,ns.length,x.2.set ns.length {x.2.getD ns.length {} with ak:=x.1})
theorem agi {s:bC} {h:KH}:iA Tryz.prog 59 [(0,iV 1),(13,ah s),(8,iV (-1)),(9,iV (-1))] h=.ok (.agg #[iV 1,iV 0,iV 0,iV 0,iV 0,iV 0,iV 0,iV 0,iV (-1),iV (-1),iV 0,iV 0,iV 0,ah s,ah [],ah [],ah [],.slice none 0 0,.slice none 0 0,.slice none 0 0]) h:=by kernel_rfl
theorem aaq {k:Int} {s:bC} {a:Option Addr} {n c:Nat} {h:KH}:iA Tryz.prog 59 [(0,iV k),(15,ah s),(17,.slice a n c),(8,iV (-1)),(9,iV (-1))] h=.ok (.agg #[iV k,iV 0,iV 0,iV 0,iV 0,iV 0,iV 0,iV 0,iV (-1),iV (-1),iV 0,iV 0,iV 0,ah [],ah [],ah s,ah [],.slice a n c,.slice none 0 0,.slice none 0 0]) h:=by kernel_rfl
theorem agj {bd:Zb} (oE:ZbW S src gP z bd) (h:ZQ S src gP H z ns m g) {n:aJ} {vA vP vB:Value} {gA gQ gB:List Nat} (hA:Sl jy H vA n.args gA) (hQ:Sl gU H vP n.pat gQ) (hB:Sl eQ H vB n.ak gB) (fk:∀c∈gA++(gQ++gB),c∈gP) {R:Nat × Nat × List aJ} (he:UJ bd S.self n ns=some R):
  aj Tryz.prog 102 #[pV z,.agg (aU n vA vP vB).toArray] H (fun w H'=>w=.tuple #[iV (R.1:Nat),iV (R.2.1:Nat)]/\JM S src gP H z ns m g R.2.2 H'):=by
 refine aj.told ?_
 refine aiS (Nat.le_refl _) fun hf=>?_
 simp only [Tryz.f102,Option.getD_some]
 obtain ⟨aA,kA,rfl⟩:=hA.val
 obtain ⟨aP,kP,rfl⟩:=hQ.val
 obtain ⟨aB,kB,rfl⟩:=hB.val
 have r0:=ZR.start h
 have r1:=r0.push ⟨aU n (.slice aA n.args.length kA) (.slice aP n.pat.length kP) (.slice aB n.ak.length kB),59,false,false⟩
 have g1:(H.push ⟨aU n (.slice aA n.args.length kA) (.slice aP n.pat.length kP) (.slice aB n.ak.length kB),59,false,false⟩).get H.next=some ⟨aU n (.slice aA n.args.length kA) (.slice aP n.pat.length kP) (.slice aB n.ak.length kB),59,false,false⟩:=by rw [aZ,if_pos rfl]
 have o1:aG H (H.push ⟨aU n (.slice aA n.args.length kA) (.slice aP n.pat.length kP) (.slice aB n.ak.length kB),59,false,false⟩):=aG.push H _
 have n1:(H.push ⟨aU n (.slice aA n.args.length kA) (.slice aP n.pat.length kP) (.slice aB n.ak.length kB),59,false,false⟩).next=H.next+1:=rfl
 have SE:∀{c:Nat},H.next<=c->c∉z::m:=fun {c} hc e=>by
  rcases List.mem_cons.1 e with e | e
  ·have:=h.zl;omega
  ·have:=(h.hm c e).1;omega
 unfold UJ at he
 by_cases ue:90000 < ns.length∨90000 < n.args.length∨90000 < n.ak.length∨(¬0<=n.a/\0<=n.b)
 ·rw [if_pos ue] at he;cases he
 rw [if_neg ue] at he
 simp only [not_or] at ue
 obtain ⟨fB,eo,fU,an9⟩:=ue
 have VQ:∀{H:ad},Sl jy H (.slice none 0 0) [] []/\Sl gU H (.slice none 0 0) [] []/\Sl eQ H (.slice none 0 0) [] []:=fun {H}=>⟨.inl ⟨rfl,rfl,rfl⟩,.inl ⟨rfl,rfl,rfl⟩,.inl ⟨rfl,rfl,rfl⟩⟩
 by_cases fQ:n.kind=2
 ·rw [if_pos fQ] at he
  cases he
  simp only [go_sem,fQ,agi]
  obtain ⟨n1A,n1P,n1B⟩:=VQ (H:=(H.push ⟨aU n (.slice aA n.args.length kA) (.slice aP n.pat.length kP) (.slice aB n.ak.length kB),59,false,false⟩))
  refine ag.by (r1.add (n:={kind:=1,oe:=n.oe,a:= -1,b:= -1}) (line:=n.line) (az:=n.az) (by omega) n1A n1P n1B (by simp)) ?_
  rintro _ H2 - ⟨rfl,f2,m2,r2,s2⟩
  have r2:ZR S src gP H z ns m g H2 (ns++[z1 n]) m2 (g++([]++([]++[]))):=r2
  have sx:=(f2.get H.next (Nat.lt_succ_self _) (SE (Nat.le_refl _))).trans g1
  have eC:H.next+1<=H2.next:=f2.nx
  simp only [go_sem,sx]
  refine ag.by acb ?_
  rintro _ H3 - ⟨rfl,o3,z3⟩
  have r3:=r2.own (o3.fr []) (by simp) (fun c _=>z3 c)
  have Ao:=(o3.get H.next (by omega)).trans sx
  have lK:=o3.nx
  have Oz:¬H.next=H3.next:=by omega
  simp only [go_sem,sx,Ao,Oz,eX rz (by decide) (by decide)]
  have r4:=r3.push ⟨[iV 2,iV 0,ah n.oe],145,false,false⟩
  have kA4:∀c∈gP,c < H.next->(H3.push ⟨[iV 2,iV 0,ah n.oe],145,false,false⟩).get c=H.get c:=fun c hc hl=>by
   rw [bO (by omega),o3.get c (by omega),f2.get c (by show c < H.next+1;omega) (fun e=>by
    rcases List.mem_cons.1 e with e | e
    ·exact (h.hP c hc).2 e
    ·exact (h.hm c e).2.2.1 hc),o1.get c hl]
  have Yv:=hA.ae (H':=(H3.push ⟨[iV 2,iV 0,ah n.oe],145,false,false⟩)) fun c hc=>kA4 c (fk c (by simp [hc])) (h.hP c (fk c (by simp [hc]))).1
  refine aaY (x:=⟨2,0,n.oe⟩) (by rw [aZ,if_pos rfl]) (Nat.lt_succ_self _) Yv (by omega) (hf.fresh (by omega)) ?_
  intro v5 H5 c5 gG nP
  obtain ⟨a5,k5,rfl⟩:=gG.val
  have Ck:∀c,H3.next<=c->H.next<=c/\c≠z/\c∉m2/\c∉(g++([]++([]++[])))/\c∉gP:=fun c hc=>⟨by omega,by have:=h.zl;omega,fun e=>by have:=(r3.zq.hm c e).1;omega,fun e=>by have:=(r3.zq.hg c e).1;omega,fun e=>by have:=(h.hP c e).1;omega⟩
  obtain ⟨r5,HM,n35,Ap⟩:ZR S src gP H z ns m g H5 (ns++[z1 n]) m2 (g++([]++([]++[])))/\H5.get H.next=H3.get H.next/\H3.next < H5.next/\(H3.next<=c5/\c5 < H5.next):=by
   rcases nP with ⟨rfl,rfl⟩ | ⟨rfl,cs,rfl⟩
   ·exact ⟨r4.own (M:=[H3.next]) ((Fr.refl _ _).ai (b:=H3.next) (.inl (by simp)) _) (fun c hc=>by rw [List.mem_singleton] at hc;subst hc;exact Ck _ (Nat.le_refl _)) (fun _ _=>rfl),by rw [aH,if_neg Oz,bO (by omega)],Nat.lt_succ_self _,Nat.le_refl _,Nat.lt_succ_self _⟩
   ·exact ⟨r4.push _,by rw [bO (by rw [bI];omega),bO (by omega)],by rw [bI,bI];omega,by rw [bI];omega,by rw [bI (H:=H3.push _)];omega⟩
  have VS:=HM.trans Ao
  obtain ⟨n5A,Yw,Yx⟩:=VQ (H:=H5)
  simp only [go_sem,VS,aaq]
  refine ag.by (r5.add (n:={kind:=10,ik:=n.ik,args:=⟨2,0,n.oe⟩::n.args,a:= -1,b:= -1}) (line:=n.line) (az:=n.az) (by rw [List.length_append,List.length_singleton];omega) gG Yw Yx (fun c hc=>by
   have hc:c=c5:=by simpa using hc
   subst hc
   exact ⟨Ap.2,(Ck _ Ap.1).2.1,(Ck _ Ap.1).2.2.1,.inr (Ck _ Ap.1).1⟩)) ?_
  rintro _ H6 - ⟨rfl,f6,m6,r6,s6⟩
  have r6:ZR S src gP H z ns m g H6 (ns++[z1 n]++[z2 n]) m6 (g++([]++([]++[]))++([c5]++([]++[]))):=r6
  have qT:(ns++[z1 n]).length=ns.length+1:=by rw [List.length_append];rfl
  obtain ⟨b,cs,EH,jr,qt,ap9,r7⟩:=r6.oT (l:=ns.length) (by rw [List.length_append,qT];omega) (show 10 < 17 by decide) (v:=iV ((ns.length+1:Nat):Int)) (n':={(ns++[z1 n]++[z2 n])[ns.length]'(by rw [List.length_append,qT];omega) with next:=((ns.length+1:Nat):Int)}) (fun _ _ _=>rfl) rfl rfl rfl
  have gC:=ZR.x h hf r6 b jr
  have dE:ns.length * 20+10 < cs.length:=by omega
  have hV:ns.length * 20+10+1<=cs.length:=by omega
  rw [qT]
  have fK:ns.length < (ns++[z1 n]++[z2 n]).length:=by rw [List.length_append,qT];omega
  simp only [go_sem,EH,qt,gC,fK,dE,hV,ap9,fL dE]
  have gu:((ns++[z1 n]++[z2 n]).getD ns.length {})=(ns++[z1 n]++[z2 n])[ns.length]:=by rw [List.getD_eq_getElem?_getD,List.getElem?_eq_getElem fK];rfl
  rw [lF,gu]
  exact r7.last
 rw [if_neg fQ] at he
 by_cases zG:n.kind=14
 ·rw [if_pos zG] at he
  cases he
  simp only [go_sem,fQ,zG]
  refine ag.by acb ?_
  rintro _ H3 - ⟨rfl,o3,z3⟩
  have r3:=r1.own (o3.fr []) (by simp) (fun c _=>z3 c)
  have lK:H.next+1<=H3.next:=o3.nx
  have Ao:=(o3.get H.next (Nat.lt_succ_self _)).trans g1
  have Oz:¬H.next=H3.next:=by omega
  simp only [go_sem,Ao,Oz,eX rz (by decide) (by decide)]
  have r4:=r3.push ⟨[iV 2,iV 0,ah [115,101,108,102]],145,false,false⟩
  have Yv:=hA.ae (H':=(H3.push ⟨[iV 2,iV 0,ah [115,101,108,102]],145,false,false⟩)) fun c hc=>by
   have:=(h.hP c (fk c (by simp [hc]))).1
   rw [bO (by omega),o3.get c (by show c < H.next+1;omega),o1.get c this]
  refine aaY (x:=⟨2,0,[115,101,108,102]⟩) (by rw [aZ,if_pos rfl]) (Nat.lt_succ_self _) Yv (by omega) (hf.fresh (by omega)) ?_
  intro v5 H5 c5 gG nP
  obtain ⟨a5,k5,rfl⟩:=gG.val
  have Ck:∀c,H3.next<=c->H.next<=c/\c≠z/\c∉m/\c∉g/\c∉gP:=fun c hc=>⟨by omega,by have:=h.zl;omega,fun e=>by have:=(h.hm c e).1;omega,fun e=>by have:=(h.hg c e).1;omega,fun e=>by have:=(h.hP c e).1;omega⟩
  obtain ⟨r5,HM,n35,Ap⟩:ZR S src gP H z ns m g H5 ns m g/\H5.get H.next=H3.get H.next/\H3.next < H5.next/\(H3.next<=c5/\c5 < H5.next):=by
   rcases nP with ⟨rfl,rfl⟩ | ⟨rfl,cs,rfl⟩
   ·exact ⟨r4.own (M:=[H3.next]) ((Fr.refl _ _).ai (b:=H3.next) (.inl (by simp)) _) (fun c hc=>by rw [List.mem_singleton] at hc;subst hc;exact Ck _ (Nat.le_refl _)) (fun _ _=>rfl),by rw [aH,if_neg Oz,bO (by omega)],Nat.lt_succ_self _,Nat.le_refl _,Nat.lt_succ_self _⟩
   ·exact ⟨r4.push _,by rw [bO (by rw [bI];omega),bO (by omega)],by rw [bI,bI];omega,by rw [bI];omega,by rw [bI (H:=H3.push _)];omega⟩
  have VS:=HM.trans Ao
  obtain ⟨n5A,Yw,Yx⟩:=VQ (H:=H5)
  obtain ⟨qN5,KU,_⟩:=r5.zq.row
  simp only [go_sem,VS,KU,aaq]
  refine ag.by (r5.add (n:={kind:=13,ik:=S.self,args:=⟨2,0,[115,101,108,102]⟩::n.args,a:= -1,b:= -1}) (line:=n.line) (az:=n.az) (by omega) gG Yw Yx (fun c hc=>by
   have hc:c=c5:=by simpa using hc
   subst hc
   exact ⟨Ap.2,(Ck _ Ap.1).2.1,(Ck _ Ap.1).2.2.1,.inr (Ck _ Ap.1).1⟩)) ?_
  rintro _ H6 - ⟨rfl,f6,m6,r6,s6⟩
  simp only [go_sem]
  exact r6.last
 rw [if_neg zG] at he
 have hA1:=hA.ae (H':=(H.push ⟨aU n (.slice aA n.args.length kA) (.slice aP n.pat.length kP) (.slice aB n.ak.length kB),59,false,false⟩)) fun c hc=>o1.get c (h.hP c (fk c (by simp [hc]))).1
 have hQ1:=hQ.ae (H':=(H.push ⟨aU n (.slice aA n.args.length kA) (.slice aP n.pat.length kP) (.slice aB n.ak.length kB),59,false,false⟩)) fun c hc=>o1.get c (h.hP c (fk c (by simp [hc]))).1
 have th:=hB.ae (H':=(H.push ⟨aU n (.slice aA n.args.length kA) (.slice aP n.pat.length kP) (.slice aB n.ak.length kB),59,false,false⟩)) fun c hc=>o1.get c (h.hP c (fk c (by simp [hc]))).1
 simp only [go_sem,fQ,zG,g1]
 refine ag.by (r1.add (n:=n) (line:=n.line) (az:=n.az) (by omega) hA1 hQ1 th (fun c hc=>⟨by have:=(h.hP c (fk c hc)).1;omega,(h.hP c (fk c hc)).2,fun e=>(h.hm c e).2.2.1 (fk c hc),.inl (fk c hc)⟩)) ?_
 rintro _ H2 - ⟨rfl,f2,m2,r2,s2⟩
 have sx:=(f2.get H.next (Nat.lt_succ_self _) (SE (Nat.le_refl _))).trans g1
 have r2:ZR S src gP H z ns m g H2 (ns++[{n with line:=n.line,az:=n.az,next:= -1}]) m2 (g++(gA++(gQ++gB))):=r2
 have aqa:∀c∈m2,c≠H.next:=fun c hc e=>by
  rcases s2 c hc with e' | e'
  ·have:=(h.hm c e').1;omega
  ·have:H.next+1<=c:=e'
   omega
 simp only [go_sem,sx]
 have Vc:H.next < H2.next:=f2.nx
 have ac5:=aqa
 have qT:ns.length < (ns++[({n with line:=n.line,az:=n.az,next:= -1}:aJ)]).length:=by rw [List.length_append,List.length_singleton];omega
 by_cases kh:0<=n.a
 ·cases EW:bd n.a (ns++[{n with line:=n.line,az:=n.az,next:= -1}]) with
  | none=>rw [CG,if_pos kh,EW] at he;cases he
  | some BP=>
  obtain ⟨iP,yF⟩:=BP
  rw [CG,if_pos kh,EW] at he
  simp only [Option.map_some,Option.bind_some] at he
  simp only [go_sem,kh,sx]
  refine ag.by (oE r2.zq EW) ?_
  rintro _ HP - ⟨rfl,pP⟩
  have lP:ns.length < yF.length:=Nat.lt_of_lt_of_le qT pP.2.2.1
  have SF:=(pP.1.get H.next (by have:=r2.fr.nx;have:=Vc;omega) (by
   simp only [List.mem_cons,not_or]
   exact ⟨by have:=h.zl;omega,fun e=>ac5 _ e rfl⟩)).trans sx
  have aqb:H.next < HP.next:=by have:=pP.1.nx;have:=Vc;omega
  obtain ⟨mP,tx,rP,sP,_⟩:=r2.call pP
  have ac6:∀c∈mP,c≠H.next:=fun c hc e=>(sP c hc).elim (fun e'=>ac5 c e' e) fun e'=>by have:=Vc;omega
  obtain ⟨bP,KV,hzP,aea,aqc,aqd,BC⟩:=rP.oT lP (show 8 < 17 by decide) (v:=iV iP) (n':={yF[ns.length] with a:=iP}) (fun _ _ _=>rfl) rfl rfl rfl
  have aqe:=ZR.x h hf rP bP aea
  have aeb:ns.length * 20+8 < KV.length:=by omega
  have aqf:ns.length * 20+8+1<=KV.length:=by omega
  have Rj:¬H.next=bP:=fun e=>ac6 _ aea e.symm
  have aqg:(yF.getD ns.length {})=yF[ns.length]:=by rw [List.getD_eq_getElem?_getD,List.getElem?_eq_getElem lP];rfl
  rw [aqg] at he
  simp only [go_sem,hzP,aqc,aqe,lP,aeb,aqf,aqd,Rj,SF,fL aeb]
  have llP:ns.length < (yF.set ns.length {yF[ns.length] with a:=iP}).length:=by rw [List.length_set];exact lP
  have gbX:(HP.ai bP ⟨KV.set (ns.length * 20+8) (iV iP),59,true,false⟩).get H.next=some ⟨aU n (.slice aA n.args.length kA) (.slice aP n.pat.length kP) (.slice aB n.ak.length kB),59,false,false⟩:=by rw [aH,if_neg Rj];exact SF
  have VU:H.next < (HP.ai bP ⟨KV.set (ns.length * 20+8) (iV iP),59,true,false⟩).next:=aqb
  have aec:=ac6
  by_cases iu:0<=n.b
  ·cases Yy:bd n.b (yF.set ns.length {yF[ns.length] with a:=iP}) with
   | none=>rw [CG,if_pos iu,Yy] at he;cases he
   | some BQ=>
   obtain ⟨iQ,BE⟩:=BQ
   rw [CG,if_pos iu,Yy] at he
   simp only [Option.map_some,Option.bind_some] at he
   simp only [go_sem,iu,SF,Rj]
   refine ag.by (oE BC.zq Yy) ?_
   rintro _ HQ - ⟨rfl,pQ⟩
   have lQ:ns.length < BE.length:=Nat.lt_of_lt_of_le llP pQ.2.2.1
   have gbQ:=(pQ.1.get H.next (by have:=BC.fr.nx;have:=VU;omega) (by
    simp only [List.mem_cons,not_or]
    exact ⟨by have:=h.zl;omega,fun e=>aec _ e rfl⟩)).trans gbX
   have aBy:H.next < HQ.next:=by have:=pQ.1.nx;have:=VU;omega
   obtain ⟨mQ,gQ',rQ,sQ,_⟩:=BC.call pQ
   have aoa:∀c∈mQ,c≠H.next:=fun c hc e=>(sQ c hc).elim (fun e'=>aec c e' e) fun e'=>by have:=VU;omega
   obtain ⟨bQ,SG,hzQ,aed,aqh,aqi,HO⟩:=rQ.oT lQ (show 9 < 17 by decide) (v:=iV iQ) (n':={BE[ns.length] with b:=iQ}) (fun _ _ _=>rfl) rfl rfl rfl
   have aqj:=ZR.x h hf rQ bQ aed
   have aee:ns.length * 20+9 < SG.length:=by omega
   have aqk:ns.length * 20+9+1<=SG.length:=by omega
   have aql:¬H.next=bQ:=fun e=>aoa _ aed e.symm
   have aqm:(BE.getD ns.length {})=BE[ns.length]:=by rw [List.getD_eq_getElem?_getD,List.getElem?_eq_getElem lQ];rfl
   rw [aqm] at he
   simp only [go_sem,hzQ,aqh,aqj,lQ,aee,aqk,aqi,aql,gbQ,fL aee]
   have llQ:ns.length < (BE.set ns.length {BE[ns.length] with b:=iQ}).length:=by rw [List.length_set];exact lQ
   have py:∀c∈gP,c∉z::m:=fun c hc e=>by
    rcases List.mem_cons.1 e with e | e
    ·exact (h.hP c hc).2 e
    ·exact (h.hm c e).2.2.1 hc
   have HR:=hB.ae (H':=(HQ.ai bQ ⟨SG.set (ns.length * 20+9) (iV iQ),59,true,false⟩)) fun c hc=>HO.fr.get c (h.hP c (fk c (by simp [hc]))).1 (py c (fk c (by simp [hc])))
   refine AP (r:=eQ) A3 HR (by omega) (fun b hb=>Nat.lt_of_lt_of_le (h.hP b (fk b (by simp [hb]))).1 HO.fr.nx) ?_
   intro vL H6 mL gL ui uE nP
   obtain ⟨r6,Bv⟩:ZR S src gP H z ns m g H6 (BE.set ns.length {BE[ns.length] with b:=iQ}) mQ gQ'/\∀c∈mL,(HQ.ai bQ ⟨SG.set (ns.length * 20+9) (iV iQ),59,true,false⟩).next<=c/\c < H6.next:=by
    rcases nP with ⟨rfl,rfl⟩ | ⟨rfl,cs,rfl⟩
    ·exact ⟨HO,by simp⟩
    ·exact ⟨HO.push _,fun c hc=>by rw [List.mem_singleton] at hc;subst hc;exact ⟨Nat.le_refl _,Nat.lt_succ_self _⟩⟩
   obtain ⟨aL,wh⟩:=ui.val
   subst wh
   cases cX:zF bd n.ak [] (BE.set ns.length {BE[ns.length] with b:=iQ}) with
   | none=>rw [cX] at he;cases he
   | some ZB=>
   rw [cX] at he
   cases he
   have qT:=llQ
   have n62:=HO.fr.nx
   simp only [go_sem]
   refine ft 174219254951537353629756183776824202919936 n.ak.length (fun i V H7=>V 122=iV (i:Nat)/\∃me m7 g7 done,ZR S src gP H z ns m g H7 me m7 g7/\Gr eQ 109 H7 (.slice aL n.ak.length n.ak.length) (done++n.ak.drop i) mL gL/\(∀c∈mL,H.next<=c/\c < H7.next/\c∉m7/\c∉g7)/\done.length=i/\zF bd (n.ak.drop i) done me=some ZB/\ns.length < me.length)
    ⟨by simp only [go_sem] <;> rfl,_,mQ,_,[],r6,ui,fun c hc=>?_,rfl,cX,qT⟩ ?_ ?_ (by rfl)
   ·have:=Bv c hc
    exact ⟨by omega,this.2,fun e=>by have:=(HO.zq.hm c e).1;omega,fun e=>by have:=(HO.zq.hg c e).1;omega⟩
   ·rintro i V H7 hi ⟨ei,me,m7,g7,done,r7,cA,zH,dK,jl,sy⟩
    have hx:n.ak[i]?=some (n.ak[i]'hi):=List.getElem?_eq_getElem hi
    have cT:n.ak.drop i=(n.ak[i]'hi)::n.ak.drop (i+1):=(List.getElem_cons_drop hi).symm
    generalize (n.ak[i]'hi)=x at hx cT
    rw [cT] at cA jl
    rw [zF] at jl
    have bX:i < (done++x::n.ak.drop (i+1)).length:=by rw [List.length_append,List.length_cons];omega
    have tj:(done++x::n.ak.drop (i+1))[i]'bX=x:=by subst dK;simp
    have gI:∀y:fu,(done++x::n.ak.drop (i+1)).set i y=(done++[y])++n.ak.drop (i+1):=fun y=>by subst dK;simp
    obtain ⟨b5,eH,f1,f2,f3,ji,rfl,fj,aef,rfl,jC,tz,MB⟩:=cA.put bX
    rw [tj] at tz
    obtain ⟨vS,vN,u1,u2,jW,rfl,t5,t6⟩:=tz
    simp only [Value.slice.injEq] at ji
    obtain ⟨rfl,iW,_⟩:=ji
    have gX:eQ.sz=7:=rfl
    rw [gX] at jC jW
    have dN:eH[i * 7+2]?=some (iV x.body):=by
     have:((eH.drop (i * 7)).take 7)[2]?=some (iV x.body):=by rw [jW];rfl
     rw [List.getElem?_take,if_pos (by decide),List.getElem?_drop] at this
     exact this
    cases lk:bd x.body me with
    | none=>rw [lk] at jl;cases jl
    | some BB=>
    obtain ⟨bi,OA⟩:=BB
    rw [lk] at jl
    simp only [Option.bind_some] at jl
    have cH:IntKind.wrap .i64 (((i:Nat):Int)+1)=((i+1:Nat):Int):=cG hi (by omega)
    have eT:=zH b5 (by simp)
    have jg:H.fz b5=false:=hf.fresh eT.1
    have EX:i * 7+7<=eH.length:=jC
    have gY:i * 7+2 < eH.length:=by omega
    have EY:i * 7+2+1<=eH.length:=by omega
    simp only [go_sem,ei,hi,fj,dN,gY,EY,EX]
    refine ag.by (oE r7.zq lk) ?_
    rintro _ H8 - ⟨rfl,p8⟩
    obtain ⟨m8,g8,r8,s8,t8⟩:=r7.call p8
    have q1:=p8.1
    have q3:=p8.2.2.1
    have KW:=q1.nx
    have G5:=h.zl
    have OB:b5∉z::m7:=fun e=>by
     rcases List.mem_cons.1 e with e | e
     ·omega
     ·exact eT.2.2.1 e
    have EZ:=(q1.get b5 eT.2.1 OB).trans fj
    have wi:b5∉gP:=fun e=>by have:=(h.hP b5 e).1;have:=eT.1;omega
    have fR:eH.set (i * 7+2) (iV bi)=cY eH (i * eQ.sz) (cJ {x with body:=bi} vS vN):=by
     have:=AE (vs:=[iV bi]) jW (k:=2) (by decide:2+1<=7) jC
     rw [fL gY] at this
     rw [this];rfl
    have kg:∀c∈gP,(H8.ai b5 ⟨eH.set (i * 7+2) (iV bi),109,true,false⟩).get c=H7.get c:=fun c hc=>by
     have oY:c≠b5:=fun e=>wi (by rw [<-e];exact hc)
     rw [aH,if_neg oY]
     refine q1.get c (by have:=(h.hP c hc).1;have:=r7.fr.nx;omega) fun e=>?_
     rcases List.mem_cons.1 e with e | e
     ·exact (h.hP c hc).2 e
     ·exact (r7.zq.hm c e).2.2.1 hc
    have wj:∀c∈f1++(u1++u2++f3),c∈gP:=fun c hc=>fk c (by simp [uE c hc])
    have qc:=MB (H8.ai b5 ⟨eH.set (i * 7+2) (iV bi),109,true,false⟩) (cJ {x with body:=bi} vS vN) {x with body:=bi} (u1++u2) (fun y hy=>kg y (wj y (by rcases hy with e | e <;> simp [e]))) (by rw [aH,if_pos rfl,fR]) ⟨vS,vN,u1,u2,rfl,rfl,t5.ae fun c hc=>kg c (wj c (by simp [hc])),t6.ae fun c hc=>kg c (wj c (by simp [hc]))⟩ (fun e=>wi (wj b5 (by simp only [List.mem_append] at e ⊢;rcases e with e | e <;> simp [e])))
    rw [gI] at qc
    simp only [go_sem,ei,hi,cH,EZ,jg,gY,EY,EX,fL gY]
    have E0:b5∉m8:=fun e=>(s8 b5 e).elim eT.2.2.1 fun e=>by have:=eT.2.1;omega
    have E3:b5∉g8:=fun e=>(t8 b5 e).elim eT.2.2.2 fun e=>e.elim wi fun e=>by have:=eT.2.1;omega
    have r9:=r8.own (M:=[b5]) ((Fr.refl _ _).ai (b:=b5) (.inl (by simp)) ⟨eH.set (i * 7+2) (iV bi),109,true,false⟩) (fun c hc=>by
     rw [List.mem_singleton] at hc
     subst hc
     exact ⟨eT.1,by have:=eT.1;omega,E0,E3,wi⟩) (fun _ _=>rfl)
    refine ⟨OA,m8,g8,done++[{x with body:=bi}],r9,qc,fun c hc=>?_,by rw [List.length_append,List.length_singleton,dK],jl,Nat.lt_of_lt_of_le sy q3⟩
    rw [List.mem_singleton] at hc
    subst hc
    exact ⟨eT.1,by have:=eT.2.1;omega,E0,E3⟩
   ·rintro V H7 ⟨ei,me,m7,g7,done,r7,cA,zH,dK,jl,sy⟩
    rw [List.drop_length] at cA jl
    cases jl
    have MC:∀c∈mL++gL,c < H7.next/\c≠z/\c∉m7/\(c∈gP∨H.next<=c):=fun c hc=>by
     rcases List.mem_append.1 hc with e | e
     ·have:=zH c e
      exact ⟨this.2.1,by have:=h.zl;omega,this.2.2.1,.inr this.1⟩
     ·have hp:=fk c (by simp [uE c e])
      exact ⟨by have:=(h.hP c hp).1;have:=r7.fr.nx;omega,(h.hP c hp).2,fun e=>(r7.zq.hm c e).2.2.1 hp,.inl hp⟩
    obtain ⟨b,cs,An,jr,OC,Nh,g8,r8⟩:=r7.Vb sy cA.sl MC
    have gC:=ZR.x h hf r7 b jr
    have dE:ns.length * 20+19 < cs.length:=by omega
    have hV:ns.length * 20+19+1<=cs.length:=by omega
    simp only [go_sem,ei,An,OC,gC,sy,dE,hV,Nh,fL dE]
    rw [List.append_nil] at r8
    exact r8.last
  ·rw [CG,if_neg iu] at he
   simp only [Option.bind_some] at he
   simp only [go_sem,iu,Rj,SF]
   have py:∀c∈gP,c∉z::m:=fun c hc e=>by
    rcases List.mem_cons.1 e with e | e
    ·exact (h.hP c hc).2 e
    ·exact (h.hm c e).2.2.1 hc
   have HR:=hB.ae (H':=(HP.ai bP ⟨KV.set (ns.length * 20+8) (iV iP),59,true,false⟩)) fun c hc=>BC.fr.get c (h.hP c (fk c (by simp [hc]))).1 (py c (fk c (by simp [hc])))
   refine AP (r:=eQ) A3 HR (by omega) (fun b hb=>Nat.lt_of_lt_of_le (h.hP b (fk b (by simp [hb]))).1 BC.fr.nx) ?_
   intro vL H6 mL gL ui uE nP
   obtain ⟨r6,Bv⟩:ZR S src gP H z ns m g H6 (yF.set ns.length {yF[ns.length] with a:=iP}) mP tx/\∀c∈mL,(HP.ai bP ⟨KV.set (ns.length * 20+8) (iV iP),59,true,false⟩).next<=c/\c < H6.next:=by
    rcases nP with ⟨rfl,rfl⟩ | ⟨rfl,cs,rfl⟩
    ·exact ⟨BC,by simp⟩
    ·exact ⟨BC.push _,fun c hc=>by rw [List.mem_singleton] at hc;subst hc;exact ⟨Nat.le_refl _,Nat.lt_succ_self _⟩⟩
   obtain ⟨aL,wh⟩:=ui.val
   subst wh
   cases cX:zF bd n.ak [] (yF.set ns.length {yF[ns.length] with a:=iP}) with
   | none=>rw [cX] at he;cases he
   | some ZB=>
   rw [cX] at he
   cases he
   have qT:=llP
   have n62:=BC.fr.nx
   simp only [go_sem]
   refine ft 174219254951537353629756183776824202919936 n.ak.length (fun i V H7=>V 122=iV (i:Nat)/\∃me m7 g7 done,ZR S src gP H z ns m g H7 me m7 g7/\Gr eQ 109 H7 (.slice aL n.ak.length n.ak.length) (done++n.ak.drop i) mL gL/\(∀c∈mL,H.next<=c/\c < H7.next/\c∉m7/\c∉g7)/\done.length=i/\zF bd (n.ak.drop i) done me=some ZB/\ns.length < me.length)
    ⟨by simp only [go_sem] <;> rfl,_,mP,_,[],r6,ui,fun c hc=>?_,rfl,cX,qT⟩ ?_ ?_ (by rfl)
   ·have:=Bv c hc
    exact ⟨by omega,this.2,fun e=>by have:=(BC.zq.hm c e).1;omega,fun e=>by have:=(BC.zq.hg c e).1;omega⟩
   ·rintro i V H7 hi ⟨ei,me,m7,g7,done,r7,cA,zH,dK,jl,sy⟩
    have hx:n.ak[i]?=some (n.ak[i]'hi):=List.getElem?_eq_getElem hi
    have cT:n.ak.drop i=(n.ak[i]'hi)::n.ak.drop (i+1):=(List.getElem_cons_drop hi).symm
    generalize (n.ak[i]'hi)=x at hx cT
    rw [cT] at cA jl
    rw [zF] at jl
    have bX:i < (done++x::n.ak.drop (i+1)).length:=by rw [List.length_append,List.length_cons];omega
    have tj:(done++x::n.ak.drop (i+1))[i]'bX=x:=by subst dK;simp
    have gI:∀y:fu,(done++x::n.ak.drop (i+1)).set i y=(done++[y])++n.ak.drop (i+1):=fun y=>by subst dK;simp
    obtain ⟨b5,eH,f1,f2,f3,ji,rfl,fj,aef,rfl,jC,tz,MB⟩:=cA.put bX
    rw [tj] at tz
    obtain ⟨vS,vN,u1,u2,jW,rfl,t5,t6⟩:=tz
    simp only [Value.slice.injEq] at ji
    obtain ⟨rfl,iW,_⟩:=ji
    have gX:eQ.sz=7:=rfl
    rw [gX] at jC jW
    have dN:eH[i * 7+2]?=some (iV x.body):=by
     have:((eH.drop (i * 7)).take 7)[2]?=some (iV x.body):=by rw [jW];rfl
     rw [List.getElem?_take,if_pos (by decide),List.getElem?_drop] at this
     exact this
    cases lk:bd x.body me with
    | none=>rw [lk] at jl;cases jl
    | some BB=>
    obtain ⟨bi,OA⟩:=BB
    rw [lk] at jl
    simp only [Option.bind_some] at jl
    have cH:IntKind.wrap .i64 (((i:Nat):Int)+1)=((i+1:Nat):Int):=cG hi (by omega)
    have eT:=zH b5 (by simp)
    have jg:H.fz b5=false:=hf.fresh eT.1
    have EX:i * 7+7<=eH.length:=jC
    have gY:i * 7+2 < eH.length:=by omega
    have EY:i * 7+2+1<=eH.length:=by omega
    simp only [go_sem,ei,hi,fj,dN,gY,EY,EX]
    refine ag.by (oE r7.zq lk) ?_
    rintro _ H8 - ⟨rfl,p8⟩
    obtain ⟨m8,g8,r8,s8,t8⟩:=r7.call p8
    have q1:=p8.1
    have q3:=p8.2.2.1
    have KW:=q1.nx
    have G5:=h.zl
    have OB:b5∉z::m7:=fun e=>by
     rcases List.mem_cons.1 e with e | e
     ·omega
     ·exact eT.2.2.1 e
    have EZ:=(q1.get b5 eT.2.1 OB).trans fj
    have wi:b5∉gP:=fun e=>by have:=(h.hP b5 e).1;have:=eT.1;omega
    have fR:eH.set (i * 7+2) (iV bi)=cY eH (i * eQ.sz) (cJ {x with body:=bi} vS vN):=by
     have:=AE (vs:=[iV bi]) jW (k:=2) (by decide:2+1<=7) jC
     rw [fL gY] at this
     rw [this];rfl
    have kg:∀c∈gP,(H8.ai b5 ⟨eH.set (i * 7+2) (iV bi),109,true,false⟩).get c=H7.get c:=fun c hc=>by
     have oY:c≠b5:=fun e=>wi (by rw [<-e];exact hc)
     rw [aH,if_neg oY]
     refine q1.get c (by have:=(h.hP c hc).1;have:=r7.fr.nx;omega) fun e=>?_
     rcases List.mem_cons.1 e with e | e
     ·exact (h.hP c hc).2 e
     ·exact (r7.zq.hm c e).2.2.1 hc
    have wj:∀c∈f1++(u1++u2++f3),c∈gP:=fun c hc=>fk c (by simp [uE c hc])
    have qc:=MB (H8.ai b5 ⟨eH.set (i * 7+2) (iV bi),109,true,false⟩) (cJ {x with body:=bi} vS vN) {x with body:=bi} (u1++u2) (fun y hy=>kg y (wj y (by rcases hy with e | e <;> simp [e]))) (by rw [aH,if_pos rfl,fR]) ⟨vS,vN,u1,u2,rfl,rfl,t5.ae fun c hc=>kg c (wj c (by simp [hc])),t6.ae fun c hc=>kg c (wj c (by simp [hc]))⟩ (fun e=>wi (wj b5 (by simp only [List.mem_append] at e ⊢;rcases e with e | e <;> simp [e])))
    rw [gI] at qc
    simp only [go_sem,ei,hi,cH,EZ,jg,gY,EY,EX,fL gY]
    have E0:b5∉m8:=fun e=>(s8 b5 e).elim eT.2.2.1 fun e=>by have:=eT.2.1;omega
    have E3:b5∉g8:=fun e=>(t8 b5 e).elim eT.2.2.2 fun e=>e.elim wi fun e=>by have:=eT.2.1;omega
    have r9:=r8.own (M:=[b5]) ((Fr.refl _ _).ai (b:=b5) (.inl (by simp)) ⟨eH.set (i * 7+2) (iV bi),109,true,false⟩) (fun c hc=>by
     rw [List.mem_singleton] at hc
     subst hc
     exact ⟨eT.1,by have:=eT.1;omega,E0,E3,wi⟩) (fun _ _=>rfl)
    refine ⟨OA,m8,g8,done++[{x with body:=bi}],r9,qc,fun c hc=>?_,by rw [List.length_append,List.length_singleton,dK],jl,Nat.lt_of_lt_of_le sy q3⟩
    rw [List.mem_singleton] at hc
    subst hc
    exact ⟨eT.1,by have:=eT.2.1;omega,E0,E3⟩
   ·rintro V H7 ⟨ei,me,m7,g7,done,r7,cA,zH,dK,jl,sy⟩
    rw [List.drop_length] at cA jl
    cases jl
    have MC:∀c∈mL++gL,c < H7.next/\c≠z/\c∉m7/\(c∈gP∨H.next<=c):=fun c hc=>by
     rcases List.mem_append.1 hc with e | e
     ·have:=zH c e
      exact ⟨this.2.1,by have:=h.zl;omega,this.2.2.1,.inr this.1⟩
     ·have hp:=fk c (by simp [uE c e])
      exact ⟨by have:=(h.hP c hp).1;have:=r7.fr.nx;omega,(h.hP c hp).2,fun e=>(r7.zq.hm c e).2.2.1 hp,.inl hp⟩
    obtain ⟨b,cs,An,jr,OC,Nh,g8,r8⟩:=r7.Vb sy cA.sl MC
    have gC:=ZR.x h hf r7 b jr
    have dE:ns.length * 20+19 < cs.length:=by omega
    have hV:ns.length * 20+19+1<=cs.length:=by omega
    simp only [go_sem,ei,An,OC,gC,sy,dE,hV,Nh,fL dE]
    rw [List.append_nil] at r8
    exact r8.last
 ·rw [CG,if_neg kh] at he
  simp only [Option.bind_some] at he
  simp only [go_sem,kh,sx]
  by_cases iu:0<=n.b
  ·exact absurd ⟨kh,iu⟩ an9
  ·rw [CG,if_neg iu] at he
   simp only [Option.bind_some] at he
   simp only [go_sem,iu,sx]
   have py:∀c∈gP,c∉z::m:=fun c hc e=>by
    rcases List.mem_cons.1 e with e | e
    ·exact (h.hP c hc).2 e
    ·exact (h.hm c e).2.2.1 hc
   have HR:=hB.ae (H':=H2) fun c hc=>r2.fr.get c (h.hP c (fk c (by simp [hc]))).1 (py c (fk c (by simp [hc])))
   refine AP (r:=eQ) A3 HR (by omega) (fun b hb=>Nat.lt_of_lt_of_le (h.hP b (fk b (by simp [hb]))).1 r2.fr.nx) ?_
   intro vL H6 mL gL ui uE nP
   obtain ⟨r6,Bv⟩:ZR S src gP H z ns m g H6 (ns++[{n with line:=n.line,az:=n.az,next:= -1}]) m2 (g++(gA++(gQ++gB)))/\∀c∈mL,H2.next<=c/\c < H6.next:=by
    rcases nP with ⟨rfl,rfl⟩ | ⟨rfl,cs,rfl⟩
    ·exact ⟨r2,by simp⟩
    ·exact ⟨r2.push _,fun c hc=>by rw [List.mem_singleton] at hc;subst hc;exact ⟨Nat.le_refl _,Nat.lt_succ_self _⟩⟩
   obtain ⟨aL,wh⟩:=ui.val
   subst wh
   cases cX:zF bd n.ak [] (ns++[{n with line:=n.line,az:=n.az,next:= -1}]) with
   | none=>rw [cX] at he;cases he
   | some ZB=>
   rw [cX] at he
   cases he
   have qT:ns.length < (ns++[({n with line:=n.line,az:=n.az,next:= -1}:aJ)]).length:=by rw [List.length_append,List.length_singleton];omega
   have n62:=r2.fr.nx
   simp only [go_sem]
   refine ft 174219254951537353629756183776824202919936 n.ak.length (fun i V H7=>V 122=iV (i:Nat)/\∃me m7 g7 done,ZR S src gP H z ns m g H7 me m7 g7/\Gr eQ 109 H7 (.slice aL n.ak.length n.ak.length) (done++n.ak.drop i) mL gL/\(∀c∈mL,H.next<=c/\c < H7.next/\c∉m7/\c∉g7)/\done.length=i/\zF bd (n.ak.drop i) done me=some ZB/\ns.length < me.length)
    ⟨by simp only [go_sem] <;> rfl,_,m2,_,[],r6,ui,fun c hc=>?_,rfl,cX,qT⟩ ?_ ?_ (by rfl)
   ·have:=Bv c hc
    exact ⟨by omega,this.2,fun e=>by have:=(r2.zq.hm c e).1;omega,fun e=>by have:=(r2.zq.hg c e).1;omega⟩
   ·rintro i V H7 hi ⟨ei,me,m7,g7,done,r7,cA,zH,dK,jl,sy⟩
    have hx:n.ak[i]?=some (n.ak[i]'hi):=List.getElem?_eq_getElem hi
    have cT:n.ak.drop i=(n.ak[i]'hi)::n.ak.drop (i+1):=(List.getElem_cons_drop hi).symm
    generalize (n.ak[i]'hi)=x at hx cT
    rw [cT] at cA jl
    rw [zF] at jl
    have bX:i < (done++x::n.ak.drop (i+1)).length:=by rw [List.length_append,List.length_cons];omega
    have tj:(done++x::n.ak.drop (i+1))[i]'bX=x:=by subst dK;simp
    have gI:∀y:fu,(done++x::n.ak.drop (i+1)).set i y=(done++[y])++n.ak.drop (i+1):=fun y=>by subst dK;simp
    obtain ⟨b5,eH,f1,f2,f3,ji,rfl,fj,aef,rfl,jC,tz,MB⟩:=cA.put bX
    rw [tj] at tz
    obtain ⟨vS,vN,u1,u2,jW,rfl,t5,t6⟩:=tz
    simp only [Value.slice.injEq] at ji
    obtain ⟨rfl,iW,_⟩:=ji
    have gX:eQ.sz=7:=rfl
    rw [gX] at jC jW
    have dN:eH[i * 7+2]?=some (iV x.body):=by
     have:((eH.drop (i * 7)).take 7)[2]?=some (iV x.body):=by rw [jW];rfl
     rw [List.getElem?_take,if_pos (by decide),List.getElem?_drop] at this
     exact this
    cases lk:bd x.body me with
    | none=>rw [lk] at jl;cases jl
    | some BB=>
    obtain ⟨bi,OA⟩:=BB
    rw [lk] at jl
    simp only [Option.bind_some] at jl
    have cH:IntKind.wrap .i64 (((i:Nat):Int)+1)=((i+1:Nat):Int):=cG hi (by omega)
    have eT:=zH b5 (by simp)
    have jg:H.fz b5=false:=hf.fresh eT.1
    have EX:i * 7+7<=eH.length:=jC
    have gY:i * 7+2 < eH.length:=by omega
    have EY:i * 7+2+1<=eH.length:=by omega
    simp only [go_sem,ei,hi,fj,dN,gY,EY,EX]
    refine ag.by (oE r7.zq lk) ?_
    rintro _ H8 - ⟨rfl,p8⟩
    obtain ⟨m8,g8,r8,s8,t8⟩:=r7.call p8
    have q1:=p8.1
    have q3:=p8.2.2.1
    have KW:=q1.nx
    have G5:=h.zl
    have OB:b5∉z::m7:=fun e=>by
     rcases List.mem_cons.1 e with e | e
     ·omega
     ·exact eT.2.2.1 e
    have EZ:=(q1.get b5 eT.2.1 OB).trans fj
    have wi:b5∉gP:=fun e=>by have:=(h.hP b5 e).1;have:=eT.1;omega
    have fR:eH.set (i * 7+2) (iV bi)=cY eH (i * eQ.sz) (cJ {x with body:=bi} vS vN):=by
     have:=AE (vs:=[iV bi]) jW (k:=2) (by decide:2+1<=7) jC
     rw [fL gY] at this
     rw [this];rfl
    have kg:∀c∈gP,(H8.ai b5 ⟨eH.set (i * 7+2) (iV bi),109,true,false⟩).get c=H7.get c:=fun c hc=>by
     have oY:c≠b5:=fun e=>wi (by rw [<-e];exact hc)
     rw [aH,if_neg oY]
     refine q1.get c (by have:=(h.hP c hc).1;have:=r7.fr.nx;omega) fun e=>?_
     rcases List.mem_cons.1 e with e | e
     ·exact (h.hP c hc).2 e
     ·exact (r7.zq.hm c e).2.2.1 hc
    have wj:∀c∈f1++(u1++u2++f3),c∈gP:=fun c hc=>fk c (by simp [uE c hc])
    have qc:=MB (H8.ai b5 ⟨eH.set (i * 7+2) (iV bi),109,true,false⟩) (cJ {x with body:=bi} vS vN) {x with body:=bi} (u1++u2) (fun y hy=>kg y (wj y (by rcases hy with e | e <;> simp [e]))) (by rw [aH,if_pos rfl,fR]) ⟨vS,vN,u1,u2,rfl,rfl,t5.ae fun c hc=>kg c (wj c (by simp [hc])),t6.ae fun c hc=>kg c (wj c (by simp [hc]))⟩ (fun e=>wi (wj b5 (by simp only [List.mem_append] at e ⊢;rcases e with e | e <;> simp [e])))
    rw [gI] at qc
    simp only [go_sem,ei,hi,cH,EZ,jg,gY,EY,EX,fL gY]
    have E0:b5∉m8:=fun e=>(s8 b5 e).elim eT.2.2.1 fun e=>by have:=eT.2.1;omega
    have E3:b5∉g8:=fun e=>(t8 b5 e).elim eT.2.2.2 fun e=>e.elim wi fun e=>by have:=eT.2.1;omega
    have r9:=r8.own (M:=[b5]) ((Fr.refl _ _).ai (b:=b5) (.inl (by simp)) ⟨eH.set (i * 7+2) (iV bi),109,true,false⟩) (fun c hc=>by
     rw [List.mem_singleton] at hc
     subst hc
     exact ⟨eT.1,by have:=eT.1;omega,E0,E3,wi⟩) (fun _ _=>rfl)
    refine ⟨OA,m8,g8,done++[{x with body:=bi}],r9,qc,fun c hc=>?_,by rw [List.length_append,List.length_singleton,dK],jl,Nat.lt_of_lt_of_le sy q3⟩
    rw [List.mem_singleton] at hc
    subst hc
    exact ⟨eT.1,by have:=eT.2.1;omega,E0,E3⟩
   ·rintro V H7 ⟨ei,me,m7,g7,done,r7,cA,zH,dK,jl,sy⟩
    rw [List.drop_length] at cA jl
    cases jl
    have MC:∀c∈mL++gL,c < H7.next/\c≠z/\c∉m7/\(c∈gP∨H.next<=c):=fun c hc=>by
     rcases List.mem_append.1 hc with e | e
     ·have:=zH c e
      exact ⟨this.2.1,by have:=h.zl;omega,this.2.2.1,.inr this.1⟩
     ·have hp:=fk c (by simp [uE c e])
      exact ⟨by have:=(h.hP c hp).1;have:=r7.fr.nx;omega,(h.hP c hp).2,fun e=>(r7.zq.hm c e).2.2.1 hp,.inl hp⟩
    obtain ⟨b,cs,An,jr,OC,Nh,g8,r8⟩:=r7.Vb sy cA.sl MC
    have gC:=ZR.x h hf r7 b jr
    have dE:ns.length * 20+19 < cs.length:=by omega
    have hV:ns.length * 20+19+1<=cs.length:=by omega
    simp only [go_sem,ei,An,OC,gC,sy,dE,hV,Nh,fL dE]
    rw [List.append_nil] at r8
    exact r8.last
end
section
variable {S:ZS} {src:List aJ} {gP:List Nat} {z:Nat}
def SH (src:List aJ) (self:bC):Nat->Zb
 | 0=>fun _ _=>none
 | k+1=>fun i ns=>Ng src (UJ (SH src self k) self) 402 none i ns
theorem aby (ea:src.length < 100000):∀k,ZbW S src gP z (SH src S.self k)
 | 0=>by
  intro _ he
  cases he
 | k+1=>by
  rename_i H ns iG m g kk i
  intro h he
  exact agh (fun hq hA hQ hB hg hn=>agj (aby ea k) hq hA hQ hB hg hn) h ea he
end
section
variable {S:ZS} {src:List aJ} {gP:List Nat} {H H1 H2:ad} {z:Nat} {ns bZ cB:List aJ} {m m1 m2 g g1 g2:List Nat}
theorem ZR.re (h:ZR S src gP H z ns m g H1 bZ m1 g1):∃qN,H1.get z=some ⟨zC S qN,127,false,false⟩/\∀S':ZS,S'.pN=S.pN->ZR S' src gP H z ns m g (H1.ai z ⟨zC S' qN,127,false,false⟩) bZ m1 g1:=by
 obtain ⟨qN,hz,cw⟩:=h.zq.row
 refine ⟨qN,hz,fun S' hp=>?_⟩
 have kg:∀c,c≠z->(H1.ai z ⟨zC S' qN,127,false,false⟩).get c=H1.get c:=fun c hc=>by rw [aH,if_neg hc]
 exact ⟨h.fr.ai (.inl (by simp)) _,{row:=⟨qN,by rw [aH,if_pos rfl],cw.ae (fun c hc=>kg c (h.zq.hm c hc).2.1) (fun c hc=>kg c (h.zq.hg c hc).2)⟩,src:=by rw [hp];exact h.zq.src.ae fun c hc=>kg c (h.zq.hP c hc).2,zl:=h.zq.zl,hm:=h.zq.hm,hg:=h.zq.hg,hP:=h.zq.hP,fz:=h.zq.fz,fm:=h.zq.fm,fn:=h.zq.fn},h.le,h.sm,h.sg⟩
theorem ZR.hp (h:ZR S src gP H z ns m g H1 bZ m1 g1):∃Hp,Hp=H1:=⟨_,rfl⟩
abbrev aob:bC:=[115,101,108,102]
abbrev z3 (d:gh):aJ:={kind:=15,ie:=aob,pat:=d.pat,a:= -1,b:= -1,line:=d.line,az:=d.az,next:= -1}
abbrev z4 (d:gh):aJ:={kind:=12,a:= -1,b:= -1,line:=d.line,az:=d.az,next:= -1}
end
def IT (ds:List gh):Nat->List aJ->Option Bool
 | _,[]=>some false
 | i,n::l=>if n.kind=14 then
   (if 0<=Mg ds (i:Nat) then (match ds[(Mg ds (i:Nat)).toNat]? with
    | some d=>if d.lX=true then IT ds (i+1) l else some true
    | none=>none) else none)
  else IT ds (i+1) l
def MD (src:List aJ) (fuel:Nat):List gh->List gh->List aJ->Option (List gh × List aJ)
 | [],done,ns=>some (done,ns)
 | d::l,done,ns=>if d.lX=true then none
  else (SH src [] fuel d.body ns).bind fun x=>MD src fuel l (done++[{d with body:=x.1}]) x.2
def Qx (fuel:Nat) (P:cC):Option (Option cC):=
 if 90000 < P.nodes.length∨90000 < P.defs.length∨¬P.defs.all (fun d=>Nat.ble d.on.length 90000)=true then none
 else (IT P.defs 0 P.nodes).bind fun e=>if e=true then some none
 else (MD P.nodes fuel P.defs [] []).bind fun x=>
  if 90000 < x.2.length then none
  else if 400 < x.2.length then some none
  else if P.defs.any (fun d=>d.lX&&Nat.ble 6 d.params.length)=true then some none
  else if P.nodes.any (fun n=>(decide (n.kind=2)||decide (n.kind=14))&&Nat.ble 6 n.args.length)=true then some none
  else some (some {P with defs:=x.1,nodes:=x.2})
def wk (H':ad) (w:Value) (P:cC) (g:List Nat):Prop:=∃vM vR vD vN gM gR gD gN,w=.agg #[vM,vR,vD,vN]/\Sl qF H' vM P.msgs gM/\Sl u9 H' vR P.dk gR/\Sl kV H' vD P.defs gD/\Sl ku H' vN P.nodes gN/\g=gM++(gR++(gD++gN))
def acd (gs:List Nat) (n:Nat) (R:Option cC) (H':ad) (w:Value):Prop:=match R with
 | some P=>∃v g,w=.tuple #[v,iV 0,iV 0,iV 0]/\wk H' v P g/\∀c∈g,c < H'.next/\(c∈gs∨n<=c)
 | none=>∃a b e,w=.tuple #[.agg #[.slice none 0 0,.slice none 0 0,.slice none 0 0,.slice none 0 0],iV a,iV b,iV e]/\e≠0
abbrev zS (vM vR vD vN vQ:Value) (self:bC):ZS:=⟨vM,vR,vD,vN,vM,vR,vQ,self⟩
theorem ag2 {a1 a2 a3 a4:Option Addr} {n1 n2 n3 n4 c1 c2 c3 c4:Nat} {h:KH}:iA Tryz.prog 127 [(0,.agg #[.slice a1 n1 c1,.slice a2 n2 c2,.slice a3 n3 c3,.slice a4 n4 c4])] h=.ok (.agg (zC ⟨.slice a1 n1 c1,.slice a2 n2 c2,.slice a3 n3 c3,.slice a4 n4 c4,.slice none 0 0,.slice none 0 0,.slice none 0 0,[]⟩ (.slice none 0 0)).toArray) h:=by kernel_rfl
section
variable {H:ad} {P:cC}
theorem ahW {fuel:Nat} {vM vR vD vN:Value} {gM gR gD gN:List Nat} (hM:Sl qF H vM P.msgs gM) (hR:Sl u9 H vR P.dk gR) (hD:Sl kV H vD P.defs gD) (hN:Sl ku H vN P.nodes gN) (bf:∀c∈gM++(gR++(gD++gN)),c < H.next) {R:Option cC} (he:Qx fuel P=some R):
  aj Tryz.prog 55 #[.agg #[vM,vR,vD,vN]] H (fun w H'=>aG H H'/\acd (gM++(gR++(gD++gN))) H.next R H' w):=by
 refine aj.told ?_
 obtain ⟨c,hb,hc⟩:=LP amM Tryz.func55
 refine QG (l:=[.agg #[vM,vR,vD,vN]]) Tryz.func55 hb (show 1<=159 by decide) fun hf=>?_
 have oE:c=Tryz.f55.body.getD .skip:=by rw [hb];rfl
 subst oE
 simp only [Tryz.f55,Option.getD_some] at hc ⊢
 obtain ⟨aM,kM,rfl⟩:=hM.val
 obtain ⟨aR,kR,rfl⟩:=hR.val
 obtain ⟨aD,kD,rfl⟩:=hD.val
 obtain ⟨aN,kN,rfl⟩:=hN.val
 unfold Qx at he
 by_cases ue:90000 < P.nodes.length∨90000 < P.defs.length∨¬P.defs.all (fun d=>Nat.ble d.on.length 90000)=true
 ·rw [if_pos ue] at he;cases he
 rw [if_neg ue] at he
 simp only [not_or,Classical.not_not] at ue
 obtain ⟨fB,eo,fU⟩:=ue
 have fU:∀d∈P.defs,d.on.length < 1000000:=fun d hd=>by
  have:=List.all_eq_true.1 fU d hd
  have:=Nat.le_of_ble_eq_true this
  omega
 cases VV:IT P.defs 0 P.nodes with
 | none=>rw [VV] at he;cases he
 | some e=>
 rw [VV] at he
 simp only [Option.bind_some] at he
 obtain ⟨ke,hc⟩:=FC hc
 refine wS.seq (wS.of mixed ke ?_)
 have p1:¬H.next=H.next+1:=by omega
 simp only [go_sem]
 have ey:H.fz (H.next+1)=false:=hf.fresh (by omega)
 obtain ⟨fg,hc⟩:=FC hc
 obtain ⟨jI,hc⟩:=FC hc
 obtain ⟨H1,cu⟩:∃H1,H1=((H.push ⟨[.slice aM P.msgs.length kM,.slice aR P.dk.length kR,.slice aD P.defs.length kD,.slice aN P.nodes.length kN],31,false,false⟩).push ⟨[.slice none 0 0,.slice none 0 0,.slice none 0 0,.slice none 0 0],31,false,false⟩):=⟨_,rfl⟩
 rw [<-cu]
 have f1:Fr [] H H1:=by rw [cu];exact ((Fr.refl [] H).push _).push _
 have HS:H1.get H.next=some ⟨[.slice aM P.msgs.length kM,.slice aR P.dk.length kR,.slice aD P.defs.length kD,.slice aN P.nodes.length kN],31,false,false⟩:=by rw [cu,aZ,bI,if_neg p1,aZ,if_pos rfl]
 have KY:H1.get (H.next+1)=some ⟨[.slice none 0 0,.slice none 0 0,.slice none 0 0,.slice none 0 0],31,false,false⟩:=by rw [cu,aZ];exact if_pos rfl
 have KZ:H1.next=H.next+1+1:=by rw [cu];rfl
 clear cu
 obtain ⟨br,di⟩:∃br,br=H.next+1:=⟨_,rfl⟩
 rw [<-di] at KY ey p1 KZ ⊢
 refine wS.seq (wS.of mixed fg ?_)
 simp only [go_sem,HS]
 have kG:∀{Hx},Fr [] H Hx->∀c∈gM++(gR++(gD++gN)),Hx.get c=H.get c:=fun f c hc=>f.get c (bf c hc) (by simp)
 have Yz:∀{Hx},Fr [] H Hx->Sl kV Hx (.slice aD P.defs.length kD) P.defs gD:=fun f=>hD.ae fun c hc=>kG f c (by simp [hc])
 have YA:∀{Hx},Fr [] H Hx->Sl ku Hx (.slice aN P.nodes.length kN) P.nodes gN:=fun f=>hN.ae fun c hc=>kG f c (by simp [hc])
 refine ft 8796092760312 P.nodes.length (fun i V H2=>V 18=iV (i:Nat)/\Fr [] H1 H2/\IT P.defs i (P.nodes.drop i)=some e) ⟨by simp only [go_sem] <;> rfl,Fr.refl _ _,VV⟩ ?_ ?_ (by rfl)
 ·rintro i V H2 hi ⟨ei,f2,l6⟩
  have hx:P.nodes[i]?=some (P.nodes[i]'hi):=List.getElem?_eq_getElem hi
  have cT:P.nodes.drop i=(P.nodes[i]'hi)::P.nodes.drop (i+1):=(List.getElem_cons_drop hi).symm
  generalize (P.nodes[i]'hi)=x at hx cT
  rw [cT,IT] at l6
  have YB:=f1.then f2
  obtain ⟨b,o,c',B,gx,hv,hB,dI,df,cb,hE⟩:=(YA YB).at hx
  cases hv
  obtain ⟨vA,vQ,vB,u1,u2,u3,bg,rfl,t1,t2,t3⟩:=hE
  obtain ⟨a1,k1,rfl⟩:=t1.val
  obtain ⟨a2,k2,rfl⟩:=t2.val
  obtain ⟨a3,k3,rfl⟩:=t3.val
  have ef:o+i * 20+20<=B.cells.length:=cb
  have bg:(B.cells.drop (o+i * 20)).take 20=aU x (.slice a1 x.args.length k1) (.slice a2 x.pat.length k2) (.slice a3 x.ak.length k3):=bg
  have cH:IntKind.wrap .i64 (((i:Nat):Int)+1)=((i+1:Nat):Int):=cG hi (by omega)
  have eC:=f2.nx
  have dw:H.fz H2.next=false:=hf.fresh (by omega)
  have uF:=(f2.get H.next (by omega) (by simp)).trans HS
  have K0:=(f2.get br (by omega) (by simp)).trans KY
  have YC:¬H.next=H2.next:=by omega
  have sk:¬br=H2.next:=by omega
  have n2r:¬H2.next=br:=by omega
  by_cases hk:x.kind=14
  ·rw [if_pos hk] at l6
   by_cases ho:0<=Mg P.defs (i:Nat)
   ·rw [if_pos ho] at l6
    have f3:=f2.push ⟨aU x (.slice a1 x.args.length k1) (.slice a2 x.pat.length k2) (.slice a3 x.ak.length k3),59,false,false⟩
    have ml:(H2.push ⟨aU x (.slice a1 x.args.length k1) (.slice a2 x.pat.length k2) (.slice a3 x.ak.length k3),59,false,false⟩).get H2.next=some ⟨aU x (.slice a1 x.args.length k1) (.slice a2 x.pat.length k2) (.slice a3 x.ak.length k3),59,false,false⟩:=by rw [aZ,if_pos rfl]
    have hD3:=Yz (f1.then f3)
    simp only [go_sem,ei,hi,hB,ef,bg,dw,hk,uF,YC]
    refine ag.by (ahV hD3 (by omega) fU (fun c hc=>by have:=bf c (by simp [hc]);rw [bI];omega)) ?_
    rintro _ H4 - ⟨rfl,o4,z4⟩
    have f4:=f3.then (o4.fr [])
    have K1:=(o4.get H.next (by rw [bI];omega)).trans ((bO (by omega)).trans uF)
    have tG:=(o4.get H2.next (by rw [bI];omega)).trans ml
    have Hh:=(o4.get br (by rw [bI];omega)).trans ((bO (by omega)).trans K0)
    obtain ⟨ow,en⟩:=Int.eq_ofNat_of_zero_le ho
    rw [en,Int.toNat_natCast] at l6
    cases hd:P.defs[ow]? with
    | none=>rw [hd] at l6;cases l6
    | some d=>
    rw [hd] at l6
    simp only at l6
    have Bl:ow < P.defs.length:=(List.getElem?_eq_some_iff.1 hd).1
    obtain ⟨b5,o5,c5,B5,eJ,ji,wm,Rk,GA,GB,tz⟩:=(Yz (f1.then f4)).at hd
    cases ji
    obtain ⟨XR,vQ5,XT,w1,w2,w3,jW,rfl,_⟩:=tz
    have jW:(B5.cells.drop (o5+ow * 9)).take 9=ff d XR vQ5 XT:=jW
    have DL:B5.cells[o5+ow * 9+6]?=some (.bool d.lX):=by
     have:((B5.cells.drop (o5+ow * 9)).take 9)[6]?=some (.bool d.lX):=by rw [jW];rfl
     rw [List.getElem?_take,if_pos (by decide),List.getElem?_drop] at this
     exact this
    cases xC:d.lX with
    | true=>
     rw [xC] at l6 DL
     simp only [go_sem,K1,uF,YC,en,Bl,wm,DL,ei,cH]
     exact ⟨f4,l6⟩
    | false=>
     rw [xC] at l6 DL
     cases l6
     cases he
     simp only [go_sem,K1,uF,YC,en,Bl,wm,DL,cH,tG,Hh,sO,ey,n2r]
     exact ⟨(((f1.then f4).ai (.inr (by omega)) _).af _).au,_,_,_,rfl,by decide⟩
   ·rw [if_neg ho] at l6;cases l6
  ·rw [if_neg hk] at l6
   simp only [go_sem,ei,hi,hB,ef,bg,dw,hk,cH]
   exact ⟨f2.push _,l6⟩
 ·rintro V H2 ⟨ei,f2,l6⟩
  rw [List.drop_length] at l6
  cases l6
  simp only [go_sem,ei]
  have eC:=f2.nx
  have uF:=(f2.get H.next (by omega) (by simp)).trans HS
  have K0:=(f2.get br (by omega) (by simp)).trans KY
  have YB:=f1.then f2
  simp only [Bool.false_eq_true,if_false] at he
  refine wS.seq (wS.told (wS.of mixed jI ?_))
  simp only [go_sem,uF,ag2]
  refine ⟨H.fz,fun _ h=>h,fun b hb=>by have:=hf.fz b hb;omega,?_⟩
  have ym:∀b,H.next<=b->H.fz b=false:=fun b hb=>hf.fresh hb
  obtain ⟨z,hz⟩:∃z,z=H2.next:=⟨_,rfl⟩
  obtain ⟨H3,dv⟩:∃H3,H3=((H2.push ⟨zC ⟨.slice aM P.msgs.length kM,.slice aR P.dk.length kR,.slice aD P.defs.length kD,.slice aN P.nodes.length kN,.slice none 0 0,.slice none 0 0,.slice none 0 0,[]⟩ (.slice none 0 0),127,false,false⟩).af H.fz):=⟨_,rfl⟩
  rw [<-hz,<-dv]
  have K2:H3.get z=some ⟨zC ⟨.slice aM P.msgs.length kM,.slice aR P.dk.length kR,.slice aD P.defs.length kD,.slice aN P.nodes.length kN,.slice none 0 0,.slice none 0 0,.slice none 0 0,[]⟩ (.slice none 0 0),127,false,false⟩:=by rw [dv,bG,hz,aZ,if_pos rfl]
  have f3:Fr [] H2 H3:=by rw [dv];exact ((Fr.refl [] H2).push _).af _
  have Oe:H3.next=H2.next+1:=by rw [dv];rfl
  have OD:H3.fz=H.fz:=by rw [dv];rfl
  clear dv
  have YD:=(f3.get H.next (by omega) (by simp)).trans uF
  have gr3:=(f3.get br (by omega) (by simp)).trans K0
  have K3:H.fz z=false:=ym z (by omega)
  have nz:¬z=H.next:=by omega
  have SD:¬H.next=z:=fun e=>nz e.symm
  refine wS.of mixed hc ?_
  simp only [go_sem,YD,K2,K3,nz,SD]
  have i9:∀A B c,((H3.ai z A).ai z B).fz c=H.fz c:=fun A B c=>by rw [<-OD];rfl
  obtain ⟨H4,jK⟩:∃H4,H4=(H3.ai z ⟨zC ⟨.slice aM P.msgs.length kM,.slice aR P.dk.length kR,.slice aD P.defs.length kD,.slice aN P.nodes.length kN,.slice aM P.msgs.length kM,.slice none 0 0,.slice none 0 0,[]⟩ (.slice none 0 0),127,false,false⟩).ai z ⟨zC (zS (.slice aM P.msgs.length kM) (.slice aR P.dk.length kR) (.slice aD P.defs.length kD) (.slice aN P.nodes.length kN) (.slice none 0 0) []) (.slice none 0 0),127,false,false⟩:=⟨_,rfl⟩
  have SI:H4.get z=some ⟨zC (zS (.slice aM P.msgs.length kM) (.slice aR P.dk.length kR) (.slice aD P.defs.length kD) (.slice aN P.nodes.length kN) (.slice none 0 0) []) (.slice none 0 0),127,false,false⟩:=by rw [jK,aH,if_pos rfl]
  have f4:Fr [] H2 H4:=by rw [jK];exact (f3.ai (.inr (by omega)) _).ai (.inr (by omega)) _
  have HT:H4.next=H3.next:=by rw [jK];rfl
  have i9:∀c,H4.fz c=H.fz c:=fun c=>by rw [jK];exact i9 _ _ c
  rw [<-jK]
  clear jK
  have K1:=(f4.get H.next (by omega) (by simp)).trans uF
  have Hh:=(f4.get br (by omega) (by simp)).trans K0
  have HU:=YB.then f4
  have hzq:ZQ (zS (.slice aM P.msgs.length kM) (.slice aR P.dk.length kR) (.slice aD P.defs.length kD) (.slice aN P.nodes.length kN) (.slice none 0 0) []) P.nodes (gM++(gR++(gD++gN))) H4 z [] [] []:=⟨⟨⟨_,SI,Gr.nil _ _ _⟩,(YA HU).i fun c hc=>by simp [hc],by omega,by simp,by simp,fun c hc=>by have:=bf c hc;omega⟩,by rw [i9];exact K3,by simp,fun b hb=>by rw [i9];exact ym b (by omega)⟩
  cases q9:MD P.nodes fuel P.defs [] [] with
  | none=>rw [q9] at he;cases he
  | some X=>
  rw [q9] at he
  simp only [Option.bind_some] at he
  refine ft 633825300111808857739137909760 P.defs.length (fun i V H5=>V 61=iV (i:Nat)/\∃vQ ns m g mD gE done,ZR (zS (.slice aM P.msgs.length kM) (.slice aR P.dk.length kR) (.slice aD P.defs.length kD) (.slice aN P.nodes.length kN) vQ []) P.nodes (gM++(gR++(gD++gN))) H4 z [] [] [] H5 ns m g/\Gr kV 47 H5 vQ done mD gE/\(∀c∈mD,H4.next<=c/\c < H5.next/\c≠z/\c∉m/\c∉g/\c∉(gM++(gR++(gD++gN))))/\(∀c∈gE,c < H5.next/\c≠z/\c∉m/\c∉mD/\(c∈(gM++(gR++(gD++gN)))∨H4.next<=c))/\done.length=i/\MD P.nodes fuel (P.defs.drop i) done ns=some X)
   ⟨by simp only [go_sem] <;> rfl,.slice none 0 0,[],[],[],[],[],[],ZR.start hzq,Gr.nil _ _ _,by simp,by simp,rfl,q9⟩ ?_ ?_ (by rfl)
  ·rintro i V H5 hi ⟨ei,vQ,ns,m,g,mD,gE,done,r5,lH,Bd,Ek,dK,q9⟩
   have hx:P.defs[i]?=some (P.defs[i]'hi):=List.getElem?_eq_getElem hi
   have cT:P.defs.drop i=(P.defs[i]'hi)::P.defs.drop (i+1):=(List.getElem_cons_drop hi).symm
   generalize (P.defs[i]'hi)=d at hx cT
   rw [cT,MD] at q9
   have kP:∀{S nsx mx gx Hx},ZR S P.nodes (gM++(gR++(gD++gN))) H4 z [] [] [] Hx nsx mx gx->∀c∈gM++(gR++(gD++gN)),Hx.get c=H.get c:=fun r c hc=>by
    rw [r.fr.get c (by have:=bf c hc;omega) (by simp;have:=bf c hc;omega),kG HU c hc]
   have hD5:=hD.ae (H':=H5) fun c hc=>kP r5 c (by simp [hc])
   obtain ⟨b,o,c',B,gx,hv,hB,dI,df,cb,hE⟩:=hD5.at hx
   simp only [Value.slice.injEq] at hv
   have OE:=hv.1
   obtain ⟨vA,vP,vB,u1,u2,u3,bg,rfl,t1,t2,t3⟩:=hE
   obtain ⟨a1,k1,rfl⟩:=t1.val
   obtain ⟨a2,k2,rfl⟩:=t2.val
   obtain ⟨a3,k3,rfl⟩:=t3.val
   have ef:o+i * 9+9<=B.cells.length:=cb
   have bg:(B.cells.drop (o+i * 9)).take 9=ff d (.slice a1 d.params.length k1) (.slice a2 d.pat.length k2) (.slice a3 d.on.length k3):=bg
   have cH:IntKind.wrap .i64 (((i:Nat):Int)+1)=((i+1:Nat):Int):=cG hi (by omega)
   have xz:=r5.fr.nx
   have jg:H.fz H5.next=false:=ym _ (by omega)
   have r6:=r5.push ⟨ff d (.slice a1 d.params.length k1) (.slice a2 d.pat.length k2) (.slice a3 d.on.length k3),47,false,false⟩
   obtain ⟨H6,fo⟩:=r6.hp
   have iy:H6.get H5.next=some ⟨ff d (.slice a1 d.params.length k1) (.slice a2 d.pat.length k2) (.slice a3 d.on.length k3),47,false,false⟩:=by rw [fo,aZ,if_pos rfl]
   have k6:∀c,c < H5.next->H6.get c=H5.get c:=fun c hc=>by rw [fo,bO hc]
   have E4:H6.next=H5.next+1:=by rw [fo];rfl
   simp only [go_sem,ei,hi,OE,hB,ef,bg,jg]
   rw [<-fo] at r6 ⊢
   clear fo
   obtain ⟨qN6,EH,aAP⟩:=r6.zq.row
   have OG:∀c∈u1++(u2++u3),c∈gM++(gR++(gD++gN)):=fun c hc=>by
    have:=df c hc
    simp [this]
   have ks:∀c∈u1++(u2++u3),H6.get c=H5.get c:=fun c hc=>by rw [kP r6 c (OG c hc),kP r5 c (OG c hc)]
   obtain ⟨aQ,YE⟩:=lH.val
   subst YE
   cases xC:d.lX with
   | true=>
    rw [xC,if_pos rfl] at q9
    cases q9
   | false=>
    rw [if_neg (by rw [xC];decide)] at q9
    cases lk:SH P.nodes [] fuel d.body ns with
    | none=>rw [lk] at q9;cases q9
    | some RB=>
    obtain ⟨bi,cB⟩:=RB
    rw [lk] at q9
    simp only [Option.bind_some] at q9
    simp only [go_sem,iy,xC,EH]
    refine ag.by ((aby (S:=zS (.slice aM P.msgs.length kM) (.slice aR P.dk.length kR) (.slice aD P.defs.length kD) (.slice aN P.nodes.length kN) (.slice aQ done.length done.length) []) (by omega) fuel) r6.zq lk) ?_
    rintro _ Hc - ⟨rfl,pc⟩
    obtain ⟨m9,g9,rc,YF,csg⟩:=r6.call pc
    have cf:=pc.1
    have ncf:=cf.nx
    have fj:H4.next<=H5.next/\H5.next≠z/\H5.next∉m9/\H5.next∉g9/\H5.next∉(gM++(gR++(gD++gN))):=⟨xz,by omega,fun e=>(YF _ e).elim (fun e=>by have:=(r5.zq.hm _ e).1;omega) fun e=>by omega,fun e=>(csg _ e).elim (fun e=>by have:=(r5.zq.hg _ e).1;omega) fun e=>e.elim (fun e=>by have:=(r5.zq.hP _ e).1;omega) fun e=>by omega,fun e=>by have:=(r5.zq.hP _ e).1;omega⟩
    have gxc:=(cf.get H5.next (by omega) (by simp only [List.mem_cons,not_or];exact ⟨fj.2.1,fun e=>by have:=(r5.zq.hm _ e).1;omega⟩)).trans iy
    have VW:∀c∈mD,Hc.get c=H6.get c/\c∉m9/\c∉g9:=fun c hc=>by
     have h5:=Bd c hc
     exact ⟨cf.get c (by omega) (by simp only [List.mem_cons,not_or];exact ⟨h5.2.2.1,h5.2.2.2.1⟩),fun e=>(YF c e).elim h5.2.2.2.1 fun e=>by omega,fun e=>(csg c e).elim h5.2.2.2.2.1 fun e=>e.elim h5.2.2.2.2.2 fun e=>by omega⟩
    have aeg:∀c∈gE,Hc.get c=H6.get c/\c∉m9:=fun c hc=>by
     have h5:=Ek c hc
     exact ⟨cf.get c (by omega) (by simp only [List.mem_cons,not_or];exact ⟨h5.2.1,h5.2.2.1⟩),fun e=>(YF c e).elim h5.2.2.1 fun e=>by omega⟩
    have r7:=(rc.own (M:=[H5.next]) ((Fr.refl _ _).ai (b:=H5.next) (.inl (by simp)) ⟨ff {d with body:=bi} (.slice a1 d.params.length k1) (.slice a2 d.pat.length k2) (.slice a3 d.on.length k3),47,false,false⟩) (fun c hc=>by rw [List.mem_singleton] at hc;rw [hc];exact fj) (fun _ _=>rfl)).push ⟨ff {d with body:=bi} (.slice a1 d.params.length k1) (.slice a2 d.pat.length k2) (.slice a3 d.on.length k3),47,false,false⟩
    obtain ⟨H7,eW⟩:=r7.hp
    have js:H7.get Hc.next=some ⟨ff {d with body:=bi} (.slice a1 d.params.length k1) (.slice a2 d.pat.length k2) (.slice a3 d.on.length k3),47,false,false⟩:=by rw [eW,aZ];exact if_pos rfl
    have k7:∀c,c < Hc.next->c≠H5.next->H7.get c=Hc.get c:=fun c hc h5=>by rw [eW,bO (by rw [uT];exact hc),aH,if_neg h5]
    have E5:H7.next=Hc.next+1:=by rw [eW];rfl
    obtain ⟨qNc,hzc,_⟩:=rc.zq.row
    have nz5:¬z=H5.next:=fun e=>fj.2.1 e.symm
    simp only [go_sem,gxc,jg,hzc,nz5,eX xU (by decide) (by decide)]
    rw [<-eW] at r7 ⊢
    clear eW
    have cA:=lH.ae (H':=H7) (fun c hc=>by have:=(Bd c hc).2.1;rw [k7 c (by omega) (by omega),(VW c hc).1,k6 c this]) (fun c hc=>by have:=(Ek c hc).1;rw [k7 c (by omega) (by omega),(aeg c hc).1,k6 c this])
    have VX:∀c∈mD,H4.next<=c/\c < H7.next/\c≠z/\c∉m9/\c∉g9/\c∉(gM++(gR++(gD++gN))):=fun c hc=>⟨(Bd c hc).1,by have:=(Bd c hc).2.1;omega,(Bd c hc).2.2.1,(VW c hc).2.1,(VW c hc).2.2,(Bd c hc).2.2.2.2.2⟩
    have VY:∀c∈gE,c < H7.next/\c≠z/\c∉m9/\c∉mD/\(c∈(gM++(gR++(gD++gN)))∨H4.next<=c):=fun c hc=>⟨by have:=(Ek c hc).1;omega,(Ek c hc).2.1,(aeg c hc).2,(Ek c hc).2.2.2⟩
    have Rl:∀c∈u1++(u2++u3),c < H7.next/\c≠z/\c∉m9/\c∉mD/\(c∈(gM++(gR++(gD++gN)))∨H4.next<=c):=fun c hc=>by
     have hp:=OG c hc
     exact ⟨(r7.zq.hP c hp).1,(r7.zq.hP c hp).2,fun e=>(r7.zq.hm c e).2.2.1 hp,fun e=>(Bd c e).2.2.2.2.2 hp,.inl hp⟩
    have YG:∀c∈u1++(u2++u3),H7.get c=H5.get c:=fun c hc=>by rw [kP r7 c (OG c hc),kP r5 c (OG c hc)]
    have Aq:kV.E H7 (ff {d with body:=bi} (.slice a1 d.params.length k1) (.slice a2 d.pat.length k2) (.slice a3 d.on.length k3)) {d with body:=bi} (u1++(u2++u3)):=⟨_,_,_,u1,u2,u3,rfl,rfl,t1.ae fun c hc=>YG c (by simp [hc]),t2.ae fun c hc=>YG c (by simp [hc]),t3.ae fun c hc=>YG c (by simp [hc])⟩
    refine lA (r:=kV) (x:={d with body:=bi}) (g':=u1++(u2++u3)) xU cA (fun c hc=>(VX c hc).2.1) (fun c hc=>(VY c hc).1) (fun c hc=>⟨(Rl c hc).1,(Rl c hc).2.2.2.1⟩) (fun c hc=>ym c (by have:=(VX c hc).1;omega)) js Aq rfl (by omega) ?_
    intro v8 H8 l4 VZ ME GC GD
    have r8:=r7.own GC (fun c hc=>by have:=VX c hc;exact ⟨this.1,this.2.2⟩) (fun c hc=>by rw [GD,show (c==H7.next)=false from by rw [beq_eq_false_iff_ne];omega,Bool.false_or])
    obtain ⟨qN8,hz8,aqn⟩:=r8.re
    obtain ⟨a8,rh⟩:=l4.val
    subst rh
    have r9:=aqn (zS (.slice aM P.msgs.length kM) (.slice aR P.dk.length kR) (.slice aD P.defs.length kD) (.slice aN P.nodes.length kN) (.slice a8 (done++[{d with body:=bi}]).length (done++[{d with body:=bi}]).length) []) rfl
    obtain ⟨qN7,An,_⟩:=r7.zq.row
    simp only [go_sem,EH,An,hz8,K3,ei,cH]
    refine ⟨_,_,m9,g9,_,_,_,r9,l4.ae (fun c hc=>?_) (fun c hc=>?_),fun c hc=>?_,fun c hc=>?_,by rw [List.length_append,List.length_singleton,dK],q9⟩
    ·rw [List.mem_singleton] at hc
     rw [aH,if_neg (by omega)]
    ·rw [aH,if_neg]
     exact (List.mem_append.1 hc).elim (fun e=>(VY c e).2.1) fun e=>(Rl c e).2.1
    ·rw [List.mem_singleton] at hc
     subst hc
     show _/\_ < H8.next/\_
     exact ⟨by omega,by omega,by omega,fun e=>by have:=(r7.zq.hm _ e).1;omega,fun e=>by have:=(r7.zq.hg _ e).1;omega,fun e=>by have:=(r7.zq.hP _ e).1;omega⟩
    ·show c < H8.next/\_
     have V0:c < H7.next/\c≠z/\c∉m9/\c∉mD/\(c∈(gM++(gR++(gD++gN)))∨H4.next<=c):=(List.mem_append.1 hc).elim (VY c) (Rl c)
     exact ⟨by omega,V0.2.1,V0.2.2.1,fun e=>by rw [List.mem_singleton] at e;omega,V0.2.2.2.2⟩
  ·rintro V H5 ⟨ei,vQ,ns,m,g,mD,gE,done,r5,lH,Bd,Ek,dK,q9⟩
   rw [List.drop_length] at q9
   cases q9
   simp only at he
   by_cases lO:90000 < ns.length
   ·rw [if_pos lO] at he;cases he
   rw [if_neg lO] at he
   have xz:=r5.fr.nx
   obtain ⟨qN5,KU,ac7⟩:=r5.zq.row
   obtain ⟨aQN,aqo⟩:=ac7.val
   subst aqo
   have k5:∀c,c < H4.next->c≠z->H5.get c=H4.get c:=fun c h1 h2=>r5.fr.get c h1 (by simp [h2])
   have gp5:=(k5 H.next (by omega) SD).trans K1
   have SJ:=(k5 br (by omega) (by omega)).trans Hh
   have Df:Fr [] H H5:=HU.trans r5.fr fun c hc=>.inr (by simp at hc;omega)
   by_cases aeh:400 < ns.length
   ·rw [if_pos aeh] at he
    cases he
    have Vd:(400:Int) < (ns.length:Nat):=by omega
    simp only [go_sem,ei,KU,Vd,SJ,ey,sO]
    exact ⟨((Df.ai (.inr (by omega)) _).af _).au,_,_,_,rfl,by decide⟩
   ·rw [if_neg aeh] at he
    have Vd:¬(400:Int) < (ns.length:Nat):=by omega
    simp only [go_sem,ei,KU,Vd,gp5]
    refine ft 340281068846723829756467474807685910584 P.defs.length (fun i V H6=>V 110=iV (i:Nat)/\Fr [] H5 H6/\P.defs.any (fun d=>d.lX&&Nat.ble 6 d.params.length)=(P.defs.drop i).any (fun d=>d.lX&&Nat.ble 6 d.params.length)) ⟨by simp only [go_sem] <;> rfl,Fr.refl _ _,rfl⟩ ?_ ?_ (by rfl)
    ·rintro i V H6 hi ⟨ei,f6,oj⟩
     have hx:P.defs[i]?=some (P.defs[i]'hi):=List.getElem?_eq_getElem hi
     have cT:P.defs.drop i=(P.defs[i]'hi)::P.defs.drop (i+1):=(List.getElem_cons_drop hi).symm
     generalize (P.defs[i]'hi)=d at hx cT
     rw [cT,List.any_cons] at oj
     have SK:=Df.then f6
     obtain ⟨b,o,c',B,gx,hv,hB,dI,df,cb,hE⟩:=(Yz SK).at hx
     simp only [Value.slice.injEq] at hv
     have OE:=hv.1
     obtain ⟨vA,vP,vB,u1,u2,u3,bg,rfl,t1,t2,t3⟩:=hE
     obtain ⟨a1,k1,rfl⟩:=t1.val
     obtain ⟨a2,k2,rfl⟩:=t2.val
     obtain ⟨a3,k3,rfl⟩:=t3.val
     have ef:o+i * 9+9<=B.cells.length:=cb
     have bg:(B.cells.drop (o+i * 9)).take 9=ff d (.slice a1 d.params.length k1) (.slice a2 d.pat.length k2) (.slice a3 d.on.length k3):=bg
     have cH:IntKind.wrap .i64 (((i:Nat):Int)+1)=((i+1:Nat):Int):=cG hi (by omega)
     have St:=f6.nx
     have tH:H.fz H6.next=false:=ym _ (by omega)
     have gr6:=(f6.get br (by omega) (by simp)).trans SJ
     have nr6:¬H6.next=br:=by omega
     have aqp:¬br=H6.next:=by omega
     cases xC:d.lX with
     | true=>
      by_cases OH:6<=d.params.length
      ·have CH:(6:Int)<=(d.params.length:Nat):=by omega
       rw [xC,Bool.true_and,Nat.ble_eq_true_of_le OH,Bool.true_or] at oj
       rw [if_pos oj] at he
       cases he
       simp only [go_sem,ei,hi,OE,hB,ef,bg,tH,xC,CH,sO,gr6,nr6,aqp,ey]
       exact ⟨(((SK.push _).ai (.inr (by omega)) _).af _).au,_,_,_,rfl,by decide⟩
      ·have CH:¬(6:Int)<=(d.params.length:Nat):=by omega
       have Wa:Nat.ble 6 d.params.length=false:=by rw [<-Bool.not_eq_true,Nat.ble_eq];exact OH
       rw [xC,Bool.true_and,Wa,Bool.false_or] at oj
       simp only [go_sem,ei,hi,OE,hB,ef,bg,tH,xC,CH,cH]
       exact ⟨f6.push _,oj⟩
     | false=>
      rw [xC,Bool.false_and,Bool.false_or] at oj
      simp only [go_sem,ei,hi,OE,hB,ef,bg,tH,xC,cH]
      exact ⟨f6.push _,oj⟩
    ·rintro V H6 ⟨ei,f6,oj⟩
     rw [List.drop_length,List.any_nil] at oj
     rw [oj,if_neg (by decide)] at he
     have St:=f6.nx
     have YH:=(f6.get H.next (by omega) (by simp)).trans gp5
     have SK:=Df.then f6
     simp only [go_sem,ei,YH]
     refine ft 45671923444331780826357443315386984910102216760 P.nodes.length (fun i V H7=>V 131=iV (i:Nat)/\Fr [] H6 H7/\P.nodes.any (fun n=>(decide (n.kind=2)||decide (n.kind=14))&&Nat.ble 6 n.args.length)=(P.nodes.drop i).any (fun n=>(decide (n.kind=2)||decide (n.kind=14))&&Nat.ble 6 n.args.length)) ⟨by simp only [go_sem] <;> rfl,Fr.refl _ _,rfl⟩ ?_ ?_ (by rfl)
     ·rintro i V H7 hi ⟨ei,f7,oj⟩
      have hx:P.nodes[i]?=some (P.nodes[i]'hi):=List.getElem?_eq_getElem hi
      have cT:P.nodes.drop i=(P.nodes[i]'hi)::P.nodes.drop (i+1):=(List.getElem_cons_drop hi).symm
      generalize (P.nodes[i]'hi)=x at hx cT
      rw [cT,List.any_cons] at oj
      have f07:=SK.then f7
      obtain ⟨b,o,c',B,gx,hv,hB,dI,df,cb,hE⟩:=(YA f07).at hx
      simp only [Value.slice.injEq] at hv
      have HV:=hv.1
      obtain ⟨vA,vQ',vB,u1,u2,u3,bg,rfl,t1,t2,t3⟩:=hE
      obtain ⟨a1,k1,rfl⟩:=t1.val
      obtain ⟨a2,k2,rfl⟩:=t2.val
      obtain ⟨a3,k3,rfl⟩:=t3.val
      have ef:o+i * 20+20<=B.cells.length:=cb
      have bg:(B.cells.drop (o+i * 20)).take 20=aU x (.slice a1 x.args.length k1) (.slice a2 x.pat.length k2) (.slice a3 x.ak.length k3):=bg
      have cH:IntKind.wrap .i64 (((i:Nat):Int)+1)=((i+1:Nat):Int):=cG hi (by omega)
      have Su:=f7.nx
      have OI:H.fz H7.next=false:=ym _ (by omega)
      have SL:=(f7.get br (by omega) (by simp)).trans ((f6.get br (by omega) (by simp)).trans SJ)
      have XY:¬H7.next=br:=by omega
      have aei:¬br=H7.next:=by omega
      by_cases hk:x.kind=2∨x.kind=14
      ·have mK:(decide (x.kind=2)||decide (x.kind=14))=true:=by simpa using hk
       by_cases OH:6<=x.args.length
       ·have CH:(6:Int)<=(x.args.length:Nat):=by omega
        rw [mK,Bool.true_and,Nat.ble_eq_true_of_le OH,Bool.true_or] at oj
        rw [if_pos oj] at he
        cases he
        have fin:aG H (((H7.push ⟨aU x (.slice a1 x.args.length k1) (.slice a2 x.pat.length k2) (.slice a3 x.ak.length k3),59,false,false⟩).ai br ⟨[.slice none 0 0,.slice none 0 0,.slice none 0 0,.slice none 0 0],31,false,false⟩).af H.fz):=(((f07.push _).ai (.inr (by omega)) _).af _).au
        by_cases fQ:x.kind=2
        ·simp only [go_sem,ei,hi,HV,hB,ef,bg,OI,fQ,CH,sO,SL,XY,aei,ey]
         exact ⟨fin,_,_,_,rfl,by decide⟩
        ·have zG:x.kind=14:=hk.resolve_left fQ
         simp only [go_sem,ei,hi,HV,hB,ef,bg,OI,fQ,zG,CH,sO,SL,XY,aei,ey]
         exact ⟨fin,_,_,_,rfl,by decide⟩
       ·have CH:¬(6:Int)<=(x.args.length:Nat):=by omega
        have Wa:Nat.ble 6 x.args.length=false:=by rw [<-Bool.not_eq_true,Nat.ble_eq];exact OH
        rw [mK,Bool.true_and,Wa,Bool.false_or] at oj
        by_cases fQ:x.kind=2
        ·simp only [go_sem,ei,hi,HV,hB,ef,bg,OI,fQ,CH,cH]
         exact ⟨f7.push _,oj⟩
        ·have zG:x.kind=14:=hk.resolve_left fQ
         simp only [go_sem,ei,hi,HV,hB,ef,bg,OI,fQ,zG,CH,cH]
         exact ⟨f7.push _,oj⟩
      ·have fQ:¬x.kind=2:=fun e=>hk (.inl e)
       have zG:¬x.kind=14:=fun e=>hk (.inr e)
       have mK:(decide (x.kind=2)||decide (x.kind=14))=false:=by simp [fQ,zG]
       rw [mK,Bool.false_and,Bool.false_or] at oj
       simp only [go_sem,ei,hi,HV,hB,ef,bg,OI,fQ,zG,cH]
       exact ⟨f7.push _,oj⟩
     ·rintro V H7 ⟨ei,f7,oj⟩
      rw [List.drop_length,List.any_nil] at oj
      rw [oj,if_neg (by decide)] at he
      cases he
      have Su:=f7.nx
      have f57:=f6.then f7
      have n57:=f57.nx
      have An:=(f57.get z (by omega) (by simp)).trans KU
      have SL:=(f57.get br (by omega) (by simp)).trans SJ
      obtain ⟨aQ,YE⟩:=lH.val
      subst YE
      have nzb:¬z=br:=by omega
      simp only [go_sem,ei,An,SL,ey,nzb]
      have f08:=(Df.then f57).ai (b:=br) (.inr (by omega)) ⟨[.slice aM P.msgs.length kM,.slice aR P.dk.length kR,.slice aQ done.length done.length,.slice aQN ns.length ns.length],31,false,false⟩
      have key:∀c,c < H5.next->(c∈(gM++(gR++(gD++gN)))∨H4.next<=c)->((H7.ai br ⟨[.slice aM P.msgs.length kM,.slice aR P.dk.length kR,.slice aQ done.length done.length,.slice aQN ns.length ns.length],31,false,false⟩).af H.fz).get c=H5.get c:=fun c h1 h2=>by
       rw [bG,aH,if_neg (by rcases h2 with e | e;have:=bf c e;omega;omega)]
       exact f57.get c h1 (by simp)
      have YI:∀c∈mD++gE,c < H5.next/\(c∈(gM++(gR++(gD++gN)))∨H4.next<=c):=fun c hc=>(List.mem_append.1 hc).elim (fun e=>⟨(Bd c e).2.1,.inr (Bd c e).1⟩) fun e=>⟨(Ek c e).1,(Ek c e).2.2.2.2⟩
      have YJ:∀c∈m++g,c < H5.next/\(c∈(gM++(gR++(gD++gN)))∨H4.next<=c):=fun c hc=>(List.mem_append.1 hc).elim (fun e=>⟨(r5.zq.hm c e).1,(r5.sm c e).elim (fun e=>by simp at e) .inr⟩) fun e=>⟨(r5.zq.hg c e).1,(r5.sg c e).elim (fun e=>by simp at e) id⟩
      have BF:∀c,c∈gM∨c∈gR->c < H.next/\c∈(gM++(gR++(gD++gN))):=fun c hc=>by
       have:c∈(gM++(gR++(gD++gN))):=by rcases hc with e | e <;> simp [e]
       exact ⟨bf c this,this⟩
      refine ⟨(f08.af _).au,_,_,rfl,⟨_,_,_,_,gM,gR,mD++gE,m++g,rfl,hM.ae fun c hc=>?_,hR.ae fun c hc=>?_,lH.sl.ae fun c hc=>key c (YI c hc).1 (YI c hc).2,ac7.sl.ae fun c hc=>key c (YJ c hc).1 (YJ c hc).2,rfl⟩,fun c hc=>?_⟩
      ·rw [key c (by have:=(BF c (.inl hc)).1;omega) (.inl (BF c (.inl hc)).2),Df.get c (BF c (.inl hc)).1 (by simp)]
      ·rw [key c (by have:=(BF c (.inr hc)).1;omega) (.inl (BF c (.inr hc)).2),Df.get c (BF c (.inr hc)).1 (by simp)]
      ·show c < H7.next/\_
       rcases List.mem_append.1 hc with e | e
       ·exact ⟨by have:=(BF c (.inl e)).1;omega,.inl (BF c (.inl e)).2⟩
       ·rcases List.mem_append.1 e with e | e
        ·exact ⟨by have:=(BF c (.inr e)).1;omega,.inl (BF c (.inr e)).2⟩
        ·have:∀c,c < H5.next/\(c∈(gM++(gR++(gD++gN)))∨H4.next<=c)->c < H7.next/\(c∈(gM++(gR++(gD++gN)))∨H.next<=c):=fun c h=>⟨by have:=h.1;omega,h.2.imp id fun e=>by omega⟩
         rcases List.mem_append.1 e with e | e
         ·exact this c (YI c e)
         ·exact this c (YJ c e)
end
end Go.Proofs.YtebibeaobhcfkaaGreat.Ab
namespace Go.Proofs.YtebibeaobhcfkaaGreat.Ab
open Go Classical
section
variable {P:Program} {X:Nat->Bool} {T:pE} {E:Env} {H:ad} {Q:Exit->Env->ad->Prop}
@[go_sem] theorem as9 {a b:Nat->Bool}:(H.af a).af b=H.af b:=nr rfl
@[go_sem] theorem arX {fz:Nat->Bool} {B C:cO}:((H.af fz).push B).ai H.next C=(H.af fz).push C:=aaM (H:=H.af fz)
def uC (P:Program) (X:Nat->Bool) (T:pE):Code->Env->ad->(Exit->Env->ad->Prop)->Prop
 | .skip,E,H,Q=>Q .normal E H
 | .label _,E,H,Q=>Q .normal E H
 | .exit id,E,H,Q=>Q (.exit id) E H
 | .ret,E,H,Q=>Q .ret E H
 | .seq a b,E,H,Q=>uC P X T a E H (pX (fun E H=>uC P X T b E H Q) Q)
 | .cond c a b,E,H,Q=>Cz (kf E c) (uC P X T a E H Q) (uC P X T b E H Q)
 | .block id a,E,H,Q=>uC P X T a E H (wO id Q)
 | .loop a,E,H,Q=>∃n,qQ (uC P X T a) n E H Q
 | .region _ ops false,E,H,Q=>lZ P X (ops.toList.map (·.dst)) ops.toList E H (fun E' H'=>Q .normal E' (H'.af X))
 | .region id ops true,E,H,Q=>ju P X (Bm T id) (ops.toList.map (·.dst)) ops.toList 0 [] E H (fun E' H'=>Q .normal E' (H'.af X))
 | _,_,_,_=>False
@[go_sem ↓] theorem ayg:uC P X T .skip E H Q=Q .normal E H:=nr rfl
@[go_sem ↓] theorem ayh {i:Nat}:uC P X T (.exit i) E H Q=Q (.exit i) E H:=nr rfl
@[go_sem ↓] theorem aAQ:uC P X T .ret E H Q=Q .ret E H:=nr rfl
@[go_sem ↓] theorem MF {a b:Code}:uC P X T (.seq a b) E H Q=uC P X T a E H (pX (fun E H=>uC P X T b E H Q) Q):=nr rfl
@[go_sem ↓] theorem I8 {id:Nat} {a:Code}:uC P X T (.block id a) E H Q=uC P X T a E H (wO id Q):=nr rfl
@[go_sem ↓] theorem ayi {c:Operand} {a b:Code}:uC P X T (.cond c a b) E H Q=MW (kf E c) (uC P X T a E H Q) (uC P X T b E H Q) .mk .mk:=nr rfl
@[go_sem ↓] theorem auQ {id:Nat} {l:List Oper}:uC P X T (.region id (List.toArray l) false) E H Q=lZ P X (l.map (·.dst)) l E H (fun E' H'=>Q .normal E' (H'.af X)):=nr rfl
@[go_sem ↓] theorem ayj {id:Nat} {l:List Oper}:uC P X T (.region id (List.toArray l) true) E H Q=JE P X (Bm T id) l E H (fun E' H'=>Q .normal E' (H'.af X)):=nr rfl
theorem Qc:∀{c:Code} {E:Env} {H:ad} {Q Q':Exit->Env->ad->Prop},(∀e E H,Q e E H->Q' e E H)->uC P X T c E H Q->uC P X T c E H Q':=by
 intro c
 induction c with
 | skip=>intro E H Q Q' hq h;exact hq _ _ _ h
 | label l=>intro E H Q Q' hq h;exact hq _ _ _ h
 | exit id=>intro E H Q Q' hq h;exact hq _ _ _ h
 | ret=>intro E H Q Q' hq h;exact hq _ _ _ h
 | region id ops draw=>
  intro E H Q Q' hq h
  cases draw
  ·exact PC (fun E H h=>hq .normal E (H.af X) h) h
  ·exact Py (fun E H h=>hq .normal E (H.af X) h) h
 | seq a b fJ nH=>
  intro E H Q Q' hq h
  rw [uC] at h ⊢
  refine fJ (fun e E H h=>?_) h
  cases e with
  | normal=>exact nH hq h
  | _=>exact hq _ _ _ h
 | cond x a b fJ nH=>
  intro E H Q Q' hq h
  rw [uC] at h ⊢
  unfold Cz at h ⊢
  split
  ·rename_i v hv
   rw [hv] at h
   simp only at h
   split
   ·rename_i hb;rw [if_pos hb] at h;exact fJ hq h
   ·rename_i hb;rw [if_neg hb] at h;exact nH hq h
  ·rename_i hv
   split at h
   ·rename_i v jm;exact (hv _ jm).elim
   ·exact h
 | block id a fJ=>
  intro E H Q Q' hq h
  rw [uC] at h ⊢
  refine fJ (fun e E H h=>?_) h
  cases e with
  | exit i=>
   simp only [wO] at h ⊢
   split
   ·rename_i he;rw [if_pos he] at h;exact hq _ _ _ h
   ·rename_i he;rw [if_neg he] at h;exact hq _ _ _ h
  | _=>exact hq _ _ _ h
 | loop a fJ=>
  intro E H Q Q' hq h
  rw [uC] at h ⊢
  obtain ⟨n,h⟩:=h
  exact ⟨n,Ud (step:=uC P X T a) (fun E H Q Q'=>fJ) hq h⟩
 | rangeFunc f ps x y=>intro E H Q Q' hq h;cases h
 | scope b=>intro E H Q Q' hq h;cases h
 | goto l=>intro E H Q Q' hq h;cases h
 | refuse w=>intro E H Q Q' hq h;cases h
theorem alk {a:Code} (I:Nat->Env->ad->Prop) {n:Nat} (h0:I n E H) (hr:∀n E H,I n E H->uC P X T a E H (pX (fun E' H'=>∃m,m < n/\I m E' H') Q)):uC P X T (.loop a) E H Q:=by
 rw [uC]
 refine ⟨n+1,?_⟩
 have key:∀k n E H,n < k->I n E H->qQ (uC P X T a) k E H Q:=by
  intro k
  induction k with
  | zero=>intro n E H hn;omega
  | succ k ih=>
   intro n E H hn hI
   rw [qQ]
   refine Qc (fun e E' H' h=>?_) (hr n E H hI)
   cases e with
   | normal=>
    obtain ⟨m,hm,h⟩:=h
    exact ih m E' H' (by omega) h
   | _=>exact h
 exact key (n+1) n E H (by omega) h0
theorem ace {m:Nat}:∀{c:Code} {E:Env} {H:ad} {Q Q':Exit->Env->ad->Prop},rX m c=true->(∀e E' H',ou m E E'->Q e E' H'->Q' e E' H')->uC P X T c E H Q->uC P X T c E H Q':=by
 intro c
 induction c with
 | skip=>intro E H Q Q' hc hq h;exact hq _ _ _ (.refl m E) h
 | label l=>intro E H Q Q' hc hq h;exact hq _ _ _ (.refl m E) h
 | exit id=>intro E H Q Q' hc hq h;exact hq _ _ _ (.refl m E) h
 | ret=>intro E H Q Q' hc hq h;exact hq _ _ _ (.refl m E) h
 | region id ops draw=>
  intro E H Q Q' hc hq h
  cases draw
  ·exact PV hc (fun E' H' ho h=>hq .normal E' (H'.af X) ho h) h
  ·exact PE hc (fun E' H' ho h=>hq .normal E' (H'.af X) ho h) h
 | seq a b fJ nH=>
  intro E H Q Q' hc hq h
  rw [rX,Bool.and_eq_true] at hc
  rw [uC] at h ⊢
  refine fJ hc.1 (fun e E1 H1 ho h=>?_) h
  cases e with
  | normal=>exact nH hc.2 (fun e E2 H2 dh h=>hq _ _ _ (ho.trans dh) h) h
  | _=>exact hq _ _ _ ho h
 | cond x a b fJ nH=>
  intro E H Q Q' hc hq h
  rw [rX,Bool.and_eq_true] at hc
  rw [uC] at h ⊢
  unfold Cz at h ⊢
  split
  ·rename_i v hv
   rw [hv] at h
   simp only at h
   split
   ·rename_i hb;rw [if_pos hb] at h;exact fJ hc.1 hq h
   ·rename_i hb;rw [if_neg hb] at h;exact nH hc.2 hq h
  ·rename_i hv
   split at h
   ·rename_i v jm;exact (hv _ jm).elim
   ·exact h
 | block id a fJ=>
  intro E H Q Q' hc hq h
  rw [uC] at h ⊢
  refine fJ hc (fun e E1 H1 ho h=>?_) h
  cases e with
  | exit i=>
   simp only [wO] at h ⊢
   split
   ·rename_i he;rw [if_pos he] at h;exact hq _ _ _ ho h
   ·rename_i he;rw [if_neg he] at h;exact hq _ _ _ ho h
  | _=>exact hq _ _ _ ho h
 | loop a fJ=>
  intro E H Q Q' hc hq h
  rw [uC] at h ⊢
  obtain ⟨n,h⟩:=h
  refine ⟨n,?_⟩
  have key:∀n E1 H1,ou m E E1->qQ (uC P X T a) n E1 H1 Q->qQ (uC P X T a) n E1 H1 Q':=by
   intro n
   induction n with
   | zero=>intro E1 H1 ho h;exact h
   | succ n ih=>
    intro E1 H1 ho h
    rw [qQ] at h ⊢
    refine fJ hc (fun e E2 H2 dh h=>?_) h
    cases e with
    | normal=>exact ih E2 H2 (ho.trans dh) h
    | _=>exact hq _ _ _ (ho.trans dh) h
  exact key n E H (.refl m E) h
 | rangeFunc f ps x y=>intro E H Q Q' hc hq h;cases h
 | scope b=>intro E H Q Q' hc hq h;cases h
 | goto l=>intro E H Q Q' hc hq h;cases h
 | refuse w=>intro E H Q Q' hc hq h;cases h
theorem L3 {a:Code} (m:Nat) (I:Nat->Env->ad->Prop) {n:Nat} (h0:I n E H) (hr:∀n V H1,I n V H1->uC P X T a (xi m V E) H1 (pX (fun E' H'=>∃k,k < n/\I k E' H') Q)) (hc:rX m a=true):uC P X T (.loop a) E H Q:=by
 refine alk (fun n E' H'=>I n E' H'/\ou m E E') ⟨h0,.refl m E⟩ fun n E1 H1 ⟨hI,ho⟩=>?_
 have:=hr n E1 H1 hI
 rw [<-ho.xi] at this
 refine ace hc (fun e E2 H2 dh h=>?_) this
 cases e with
 | normal=>
  obtain ⟨k,hk,h⟩:=h
  exact ⟨k,hk,h,ho.trans dh⟩
 | _=>exact h
theorem kC {a:Code} (m n:Nat) (I:Nat->Env->ad->Prop) (h0:I 0 E H) (hr:∀i V H1,i < n->I i V H1->uC P X T a (xi m V E) H1 (pX (fun E' H'=>I (i+1) E' H') Q))
  (he:∀V H1,I n V H1->uC P X T a (xi m V E) H1 (pX (fun _ _=>False) Q)) (hc:rX m a=true):uC P X T (.loop a) E H Q:=by
 refine L3 m (fun k E' H'=>∃i,i+k=n/\I i E' H') (n:=n) ⟨0,by omega,h0⟩ (fun k V H1 ⟨i,hi,hI⟩=>?_) hc
 cases k with
 | zero=>
  obtain rfl:i=n:=by omega
  refine Qc (fun e E2 H2 h=>?_) (he V H1 hI)
  cases e with
  | normal=>exact h.elim
  | _=>exact h
 | succ k=>
  refine Qc (fun e E2 H2 h=>?_) (hr i V H1 (by omega) hI)
  cases e with
  | normal=>exact ⟨k,by omega,i+1,by omega,h⟩
  | _=>exact h
end
section
variable {P:Program} {X:Nat->Bool}
theorem ag3 (hm:P.follows .mixedOrders=true) {T:pE} {n:Nat}:∀(c:Code) (t:Act) (E:Env) (H:ad) (Q:Exit->Env->ad->Prop),oc P T n c=true->TE n t E->zj X H->uC P X T c E H Q->RC P c t H (Gl X n H Q):=by
 intro c
 induction c with
 | skip=>intro t E H Q _ ht hi h;exact abg hi.iI.wf ⟨E,ht,.refl hi,h⟩
 | label l=>intro t E H Q _ ht hi h;exact aaw hi.iI.wf ⟨E,ht,.refl hi,h⟩
 | exit id=>intro t E H Q _ ht hi h;exact abh hi.iI.wf ⟨E,ht,.refl hi,h⟩
 | ret=>intro t E H Q _ ht hi h;exact ab1 hi.iI.wf ⟨E,ht,.refl hi,h⟩
 | region id ops draw=>
  intro t E H Q hc ht hi h
  have h':wC P X T (.region id ops draw) E H (fun e E' H'=>Q e E' (H'.af X)):=by cases draw <;> exact h
  obtain ⟨e,t',H',h1,h2,E',h3,h4,h5⟩:=aaH hm hc ht hi h'
  exact ⟨e,t',H'.af X,⟨h1.next,h1.wf,h1.same⟩,h2.af X,E',h3,⟨h4.nx,h4.get,fun _ h=>h,⟨h4.iI.wf,fun b hb=>h4.iI.fz b (h4.fz b hb)⟩⟩,h5⟩
 | seq a b fJ nH=>
  intro t E H Q hc ht hi h
  simp only [oc,Bool.and_eq_true] at hc
  rw [uC] at h
  refine Ux ((fJ t E H _ hc.1 ht hi h).mono fun e t' H' _ hf=>?_)
  obtain ⟨E',h1,h2,h3⟩:=hf
  cases e with
  | normal=>exact (nH t' E' H' Q hc.2 h1 h2.inv h3).mono fun e2 t2 H2 _ pF=>pF.after h2
  | _=>exact ⟨E',h1,h2,h3⟩
 | cond x a b fJ nH=>
  intro t E H Q hc ht hi h
  simp only [oc,Bool.and_eq_true] at hc
  rw [uC] at h
  unfold Cz at h
  split at h
  ·rename_i v hx
   rw [ht.ev] at hx
   refine abk hx hc.1.1 ?_
   cases v
   ·exact nH t E H Q hc.2 ht hi h
   ·exact fJ t E H Q hc.1.2 ht hi h
  ·exact h.elim
 | block id a fJ=>
  intro t E H Q hc ht hi h
  rw [uC] at h
  refine aax ((fJ t E H _ hc ht hi h).mono fun e t' H' _ hf=>?_)
  obtain ⟨E',h1,h2,h3⟩:=hf
  cases e with
  | exit i=>
   simp only [wO] at h3
   simp only
   split
   ·rename_i he;rw [if_pos he] at h3;exact ⟨E',h1,h2,h3⟩
   ·rename_i he;rw [if_neg he] at h3;exact ⟨E',h1,h2,h3⟩
  | _=>exact ⟨E',h1,h2,h3⟩
 | loop a fJ=>
  intro t E H Q hc ht hi h
  rw [uC] at h
  obtain ⟨m,h⟩:=h
  refine abj ?_
  induction m generalizing t E H with
  | zero=>exact h.elim
  | succ m ih=>
   rw [qQ] at h
   refine abi ((fJ t E H _ hc ht hi h).mono fun e t' H' _ hf=>?_)
   obtain ⟨E',h1,h2,h3⟩:=hf
   cases e with
   | normal=>exact (ih t' E' H' h1 h2.inv h3).mono fun e2 t2 H2 _ pF=>pF.after h2
   | _=>exact ⟨E',h1,h2,h3⟩
 | rangeFunc f ps x y=>intro t E H Q hc;cases hc
 | scope b=>intro t E H Q hc;cases hc
 | goto l=>intro t E H Q hc;cases hc
 | refuse w=>intro t E H Q hc;cases hc
theorem ni {f:FuncId} {fn:Func} {l:List Value} {H:ad} {K:Value->ad->Prop} (T:pE) (hm:P.follows .mixedOrders=true) (hf:P.funcs[f]?=some fn) (hc:bK P T f=true) (rs:List ResultVar) (hl:l.length<=fn.ntmps) (hr:fn.results.toList=rs)
  (h:bY H->uC P H.fz T (fn.body.getD .skip) (cj l) H (cm P rs K)):aj P f l.toArray H K:=by
 obtain ⟨c,hb,hc⟩:=LP hc hf
 rw [hb] at h
 subst hr
 refine QG hf hb hl fun A1 t ht hi=>ag3 hm c t (cj l) H _ hc ht hi (h A1)
section
variable {T:pE} {E:Env} {H:ad} {Q:Exit->Env->ad->Prop}
theorem lB {a b:Code} (m:Nat) (J:Env->ad->Prop) (ha:uC P X T a E H (pX J Q)) (hb:∀V H1,J V H1->uC P X T b (xi m V E) H1 Q) (hc:rX m a=true):uC P X T (.seq a b) E H Q:=by
 rw [uC]
 refine ace hc (fun e E1 H1 ho h=>?_) ha
 cases e with
 | normal=>
  have:=hb E1 H1 h
  rw [<-ho.xi] at this
  exact this
 | _=>exact h
theorem ja {a b c:Code} (h:uC P X T (.seq (.seq a b) c) E H Q):uC P X T (.seq a (.seq b c)) E H Q:=by
 rw [uC,uC] at h
 rw [uC]
 refine Qc (fun e E1 H1 h=>?_) h
 cases e with
 | normal=>
  show uC P X T (.seq b c) E1 H1 Q
  rw [uC]
  exact h
 | _=>exact h
end
end
structure nT where
 name:bC
 slot:Int
deriving DecidableEq
abbrev tI:Rp nT:=.flat 2 (by decide) (fun t=>[ah t.name,iV t.slot]) fun _=>rfl
def qd:List nT->List Value
 | []=>[]
 | x::l=>ah x.name::iV x.slot::qd l
theorem Cb:∀l:List nT,(qd l).length=l.length * 2
 | []=>rfl
 | x::l=>by rw [qd,List.length_cons,List.length_cons,List.length_cons,Cb l];omega
theorem IU:∀l k:List nT,qd (l++k)=qd l++qd k
 | [],k=>rfl
 | x::l,k=>by rw [List.cons_append,qd,IU l k];rfl
theorem aaZ (H:ad) (ds:List Value):∀l:List nT,dT tI H (qd l++ds) l []
 | []=>rfl
 | x::l=>⟨[ah x.name,iV x.slot],qd l++ds,[],[],rfl,rfl,⟨rfl,rfl⟩,aaZ H ds l⟩
def kr (H:ad) (v:Value) (l:List nT) (mi:List Nat):Prop:=
 (v=.slice none 0 0/\l=[]/\mi=[])∨∃b c ds,v=.slice (some ⟨b,0,none⟩) l.length c/\mi=[b]/\H.get b=some ⟨qd l++ds,137,true,false⟩/\(qd l++ds).length=c * 2
theorem kr.nil (H:ad):kr H (.slice none 0 0) [] []:=.inl ⟨rfl,rfl,rfl⟩
theorem kr.ae {H H':ad} {v:Value} {l:List nT} {mi:List Nat} (h:kr H v l mi) (hk:∀c∈mi,H'.get c=H.get c):kr H' v l mi:=by
 rcases h with h | ⟨b,c,ds,h1,rfl,h3,h4⟩
 ·exact .inl h
 ·exact .inr ⟨b,c,ds,h1,rfl,by rw [hk b (by simp)];exact h3,h4⟩
theorem kr.sl {H:ad} {v:Value} {l:List nT} {mi:List Nat} (h:kr H v l mi):qs tI H v l mi:=by
 rcases h with ⟨rfl,rfl,rfl⟩ | ⟨b,c,ds,rfl,rfl,h3,h4⟩
 ·exact ⟨[],.inl ⟨rfl,rfl,rfl⟩,by simp⟩
 ·by_cases hl:l=[]
  ·subst hl
   exact ⟨[],.inr (.inl ⟨_,c,rfl,rfl,rfl⟩),by simp⟩
  ·rw [List.length_append,Cb] at h4
   exact ⟨[b],.inr (.inr ⟨b,0,c,_,[],rfl,hl,by omega,rfl,h3,aaZ H ds l⟩),by simp⟩
theorem kr.val {H:ad} {v:Value} {l:List nT} {mi:List Nat} (h:kr H v l mi):∃a c,v=.slice a l.length c:=h.sl.val
theorem kr.cut {H:ad} {v:Value} {l:List nT} {mi:List Nat} {k:Nat} (h:kr H v l mi) (hk:k<=l.length):
  ∃v',pk Tryz.prog 131 v none (some (.int .i64 (k:Nat))) none h0=.ok v' h0/\kr H v' (l.take k) mi:=by
 rcases h with ⟨rfl,rfl,rfl⟩ | ⟨b,c,ds,rfl,rfl,h3,h4⟩
 ·have:k=0:=by simpa using hk
  subst this
  exact ⟨.slice none 0 0,by kernel_rfl,.inl ⟨rfl,rfl,rfl⟩⟩
 ·have hu:(Tryz.prog).underlying 131=some (.slice 137):=by kernel_rfl
  have hs:dm Tryz.prog 137=some 2:=by kernel_rfl
  have e:l=l.take k++l.drop k:=(List.take_append_drop k l).symm
  have hle:=h4
  rw [List.length_append,Cb] at hle
  refine ⟨.slice (some ⟨b,0,none⟩) k c,?_,.inr ⟨b,c,qd (l.drop k)++ds,by rw [List.length_take,Nat.min_eq_left hk],rfl,?_,?_⟩⟩
  ·simp only [pk,hu,hs,oQ]
   show (bif Nat.ble 0 k&&Nat.ble k c then (bif Nat.blt 0 c||Nat.beq 0 0 then KO.ok _ _ else _) else .no)=_
   have h1:(Nat.ble 0 k&&Nat.ble k c)=true:=by simp [ble_eq];omega
   have h2:(Nat.blt 0 c||Nat.beq 0 0)=true:=by simp [beq_eq]
   rw [h1,cond_true,h2,cond_true];simp
  ·rw [h3,<-List.append_assoc,<-IU,<-e]
  ·rw [<-List.append_assoc,<-IU,<-e];exact h4
theorem Gr.inr {H:ad} {v:Value} {l:List nT} {m:List Nat} (h:Gr tI 137 H v l m []):kr H v l m:=by
 have key:∀(l:List nT) (cs:List Value) (f:List Nat),dT tI H cs l f->cs.length=l.length * 2->cs=qd l:=by
  intro l
  induction l with
  | nil=>intro cs f _ h;rw [List.length_nil,Nat.zero_mul,List.length_eq_zero_iff] at h;exact h
  | cons x l ih=>
   intro cs f h hl
   obtain ⟨c1,c2,f1,f2,rfl,rfl,h1,h2⟩:=h
   rw [h1.1]
   have:c2.length=l.length * 2:=by rw [h1.1,List.length_append,List.length_cons] at hl;simp only [List.length_cons,List.length_nil] at hl;omega
   rw [ih c2 f2 h2 this];rfl
 rcases h with ⟨rfl,rfl,rfl,_⟩ | ⟨b,cs,rfl,h2,rfl,h3,h4,h5,_⟩
 ·exact .inl ⟨rfl,rfl,rfl⟩
 ·have:=key l cs [] h5 h4
  subst this
  exact .inr ⟨b,l.length,[],rfl,rfl,by rw [List.append_nil];exact h3,by rw [List.append_nil];exact h4⟩
theorem UK {X:Nat->Bool} {H:ad} {v:Value} {l:List nT} {x:nT} {mi:List Nat} {b':Nat} {e':TypeId} {K:Value->ad->Prop} {tg:Tag K} (h:kr H v l mi) (hm:∀c∈mi,c < H.next) (hX:∀c∈mi,X c=false) (hB:H.get b'=some ⟨[ah x.name,iV x.slot],e',false,false⟩) (hl:l.length < 1000000)
  (hk:∀v' H' OJ,kr H' v' (l++[x]) OJ->(∀c∈OJ,(c∈mi∨c=H.next)/\c < H'.next)->Fr mi H H'->(∀c,c < H.next∨H'.next<=c->H'.fz c=H.fz c)->K v' H'):fe Tryz.prog X H (iZ Tryz.prog 131 v (.slice (some ⟨b',0,none⟩) 1 1) H) K tg:=by
 have hs:=FI (c:=1) (sz:=2) hB rfl
 have hp:∀c,c < H.next∨H.next+1<=c->(c==H.next||H.fz c)=H.fz c:=fun c hc=>by
  rw [show (c==H.next)=false from by rw [beq_eq_false_iff_ne];omega,Bool.false_or]
 rcases h with ⟨rfl,rfl,rfl⟩ | ⟨b,c,ds,rfl,rfl,h3,h4⟩
 ·rw [LY (sz:=2) AS hs (by decide) (by decide),AI]
  exact hk _ _ [H.next] (.inr ⟨H.next,1,[],rfl,rfl,by rw [aZ,if_pos rfl];rfl,rfl⟩) (fun c hc=>by rw [List.mem_singleton] at hc;subst hc;exact ⟨.inr rfl,Nat.lt_succ_self _⟩) ((Fr.refl _ _).push _) hp
 ·have hle:=h4
  rw [List.length_append,Cb] at hle
  have hb:=hm b (by simp)
  have gC:=hX b (by simp)
  by_cases hc:l.length+1<=c
  ·match ds,hle,h3,h4 with
   | d1::d2::ds,hle,h3,h4=>
    have fR:cY (qd l++d1::d2::ds) (0+l.length * 2) [ah x.name,iV x.slot]=qd (l++[x])++ds:=by
     unfold cY
     rw [IU,Nat.zero_add,List.take_append_of_le_length (by rw [Cb];exact Nat.le_refl _),List.take_of_length_le (by rw [Cb];exact Nat.le_refl _)]
     rw [show l.length * 2+[ah x.name,iV x.slot].length=(qd l).length+2 by rw [Cb];rfl,<-List.drop_drop,List.drop_left]
     simp [qd]
    rw [Mc (n:=1) (sz:=2) (o:=0) AS hs rfl h3 rfl (by show 0+c * 2<=(qd l++d1::d2::ds).length;omega) (by decide) hc rfl,Qa gC]
    simp only
    rw [fR]
    refine hk _ _ [b] (.inr ⟨b,c,ds,by simp,rfl,by rw [aH,if_pos rfl],?_⟩) (fun c hc=>by rw [List.mem_singleton] at hc;subst hc;exact ⟨.inl (by simp),hb⟩) ((Fr.refl _ _).ai (.inl (by simp)) _) (fun _ _=>rfl)
    rw [<-h4,IU];simp [qd]
   | [],hle,_,_=>simp at hle;omega
   | [_],hle,_,_=>simp at hle;omega
  ·have q7:ds=[]:=by rw [<-List.length_eq_zero_iff];omega
   subst q7
   rw [List.append_nil] at h3 h4
   have gJ:c=l.length:=by simp at hle;omega
   subst gJ
   rw [T0 (n:=1) (sz:=2) AS hs h3 (Cb l) (by
    have:(l.length+1) * 1000<=1000000 * 1000:=Nat.mul_le_mul (by omega) (Nat.le_refl _)
    omega) (by decide) rfl,PO gC]
   refine hk _ _ [H.next] (.inr ⟨H.next,l.length+1,[],by simp,rfl,by rw [xO,if_pos rfl,IU,List.append_nil];rfl,by rw [List.append_nil,Cb];simp⟩) (fun c hc=>by rw [List.mem_singleton] at hc;subst hc;exact ⟨.inr rfl,Nat.lt_succ_self _⟩) ⟨Nat.le_succ _,fun c hc C0=>by rw [xO,if_neg (by omega),if_neg (fun e=>C0 (by simp [e]))],fun c C hC hr=>by
    rw [xO] at hC
    (repeat' split at hC)
    ·cases hC;cases hr
    ·cases hC
    ·exact hC⟩ hp
structure XS where
 vM:Value
 vR:Value
 vD:Value
structure VT where
 ns:List aJ
 be:List nT
 aY:Int
 inner:Int
 line:Int
 az:Int
 bad:Int
abbrev rC (S:XS) (vN vI:Value) (t:VT):List Value:=[S.vM,S.vR,S.vD,vN,vI,iV t.aY,iV t.inner,iV t.line,iV t.az,iV t.bad]
structure RQ0 (S:XS) (P:cC) (gP:List Nat) (H:ad) (r:Nat) (t:VT) (m g mi:List Nat):Prop where
 row:∃vN vI,H.get r=some ⟨rC S vN vI t,133,false,false⟩/\Gr ku 59 H vN t.ns m g/\kr H vI t.be mi
 sM:qs qF H S.vM P.msgs gP
 sR:qs u9 H S.vR P.dk gP
 sD:qs kV H S.vD P.defs gP
 rl:r < H.next
 hm:∀c∈m,c < H.next/\c≠r/\c∉gP/\c∉g/\c∉mi
 hi:∀c∈mi,c < H.next/\c≠r/\c∉gP/\c∉g
 hg:∀c∈g,c < H.next/\c≠r
 hP:∀c∈gP,c < H.next/\c≠r
structure RQ (S:XS) (P:cC) (gP:List Nat) (H:ad) (r:Nat) (t:VT) (m g mi:List Nat):Prop extends RQ0 S P gP H r t m g mi where
 fz:H.fz r=false
 fm:∀c∈m,H.fz c=false
 fi:∀c∈mi,H.fz c=false
 fn:∀b,H.next<=b->H.fz b=false
def xX (S:XS) (P:cC) (gP:List Nat) (H:ad) (r:Nat) (t:VT) (m g mi:List Nat) (t':VT) (H':ad):Prop:=
 Fr (r::(m++mi)) H H'/\(∀c,H'.fz c=H.fz c)/\t'.ns.length=t.ns.length/\∃g' OJ,RQ0 S P gP H' r t' m g' OJ/\(∀c∈OJ,c∈mi∨H.next<=c)/\∀c∈g',c∈g∨H.next<=c
structure RR (S:XS) (P:cC) (gP:List Nat) (H:ad) (r:Nat) (t:VT) (m g mi:List Nat) (H1:ad) (t1:VT) (g1 dL:List Nat):Prop where
 fr:Fr (r::(m++mi)) H H1
 rq:RQ S P gP H1 r t1 m g1 dL
 le:t1.ns.length=t.ns.length
 si:∀c∈dL,c∈mi∨H.next<=c
 sg:∀c∈g1,c∈g∨H.next<=c
 z0:H.fz r=false
 zm:∀c∈m,H.fz c=false
 zi:∀c∈mi,H.fz c=false
 zn:∀b,H.next<=b->H.fz b=false
section
variable {S:XS} {P:cC} {gP:List Nat} {H H1 H2:ad} {r:Nat} {t t1 t2:VT} {m g g1 g2 mi dL dQ:List Nat}
theorem RQ0.fr (h:RQ0 S P gP H r t m g mi) {M:List Nat} (bk:Fr M H H1) (mr:r∉M) (mm:∀c∈m,c∉M) (mii:∀c∈mi,c∉M) (mg:∀c∈g,c∉M) (mP:∀c∈gP,c∉M):RQ0 S P gP H1 r t m g mi:=by
 obtain ⟨⟨vN,vI,h1,h2,h3⟩,sM,sR,sD,rl,hm,hi,hg,hP⟩:=h
 have kP:∀c∈gP,H1.get c=H.get c:=fun c hc=>bk.get c (hP c hc).1 (mP c hc)
 exact ⟨⟨vN,vI,(bk.get r rl mr).trans h1,h2.ae (fun c hc=>bk.get c (hm c hc).1 (mm c hc)) (fun c hc=>bk.get c (hg c hc).1 (mg c hc)),h3.ae fun c hc=>bk.get c (hi c hc).1 (mii c hc)⟩,sM.ae kP,sR.ae kP,sD.ae kP,Nat.lt_of_lt_of_le rl bk.nx,fun c hc=>⟨Nat.lt_of_lt_of_le (hm c hc).1 bk.nx,(hm c hc).2⟩,fun c hc=>⟨Nat.lt_of_lt_of_le (hi c hc).1 bk.nx,(hi c hc).2⟩,fun c hc=>⟨Nat.lt_of_lt_of_le (hg c hc).1 bk.nx,(hg c hc).2⟩,fun c hc=>⟨Nat.lt_of_lt_of_le (hP c hc).1 bk.nx,(hP c hc).2⟩⟩
theorem RQ0.af {fz:Nat->Bool} (h:RQ0 S P gP H r t m g mi):RQ0 S P gP (H.af fz) r t m g mi:=h.fr ((Fr.refl [] H).af _) (by simp) (by simp) (by simp) (by simp) (by simp)
theorem RR.start (h:RQ S P gP H r t m g mi):RR S P gP H r t m g mi H t g mi:=⟨.refl _ _,h,rfl,fun _ h=>.inl h,fun _ h=>.inl h,h.fz,h.fm,h.fi,h.fn⟩
theorem RR.own (h:RR S P gP H r t m g mi H1 t1 g1 dL) {M:List Nat} (bk:Fr M H1 H2) (hM:∀c∈M,H.next<=c/\c≠r/\c∉m/\c∉dL/\c∉g1/\c∉gP) (mW:∀c,c < H1.next∨H2.next<=c->H2.fz c=H1.fz c):RR S P gP H r t m g mi H2 t1 g1 dL:=
 ⟨h.fr.trans bk fun c hc=>.inr (hM c hc).1,{h.rq.toRQ0.fr bk (fun e=>(hM r e).2.1 rfl) (fun c hc e=>(hM c e).2.2.1 hc) (fun c hc e=>(hM c e).2.2.2.1 hc) (fun c hc e=>(hM c e).2.2.2.2.1 hc) (fun c hc e=>(hM c e).2.2.2.2.2 hc) with
  fz:=by rw [mW _ (.inl h.rq.rl)];exact h.rq.fz,fm:=fun c hc=>by rw [mW _ (.inl (h.rq.hm c hc).1)];exact h.rq.fm c hc,fi:=fun c hc=>by rw [mW _ (.inl (h.rq.hi c hc).1)];exact h.rq.fi c hc,fn:=fun b hb=>by rw [mW _ (.inr hb)];exact h.rq.fn b (Nat.le_trans bk.nx hb)},h.le,h.si,h.sg,h.z0,h.zm,h.zi,h.zn⟩
theorem RR.push (h:RR S P gP H r t m g mi H1 t1 g1 dL) (B:cO) (hB:B.ro=false:=by rfl):RR S P gP H r t m g mi (H1.push B) t1 g1 dL:=
 h.own (M:=[]) ((aG.push H1 B hB).fr []) (by simp) fun c hc=>by
  rw [rv,show (c==H1.next)=false from by rw [beq_eq_false_iff_ne];rw [bI] at hc;omega,Bool.false_or]
theorem RR.call (h:RR S P gP H r t m g mi H1 t1 g1 dL) (hp:xX S P gP H1 r t1 m g1 dL t2 H2):∃g2 dQ,RR S P gP H r t m g mi H2 t2 g2 dQ/\(∀c∈dQ,c∈dL∨H1.next<=c)/\∀c∈g2,c∈g1∨H1.next<=c:=by
 obtain ⟨hf,hz,hle,g2,dQ,h0,hs,jf⟩:=hp
 have dH:=h.fr.nx
 have oZ:∀c∈dQ,H2.fz c=false:=fun c hc=>by
  rw [hz]
  exact (hs c hc).elim (h.rq.fi c) (h.rq.fn c)
 refine ⟨g2,dQ,⟨h.fr.trans hf fun c hc=>?_,{h0 with fz:=by rw [hz];exact h.rq.fz,fm:=fun c hc=>by rw [hz];exact h.rq.fm c hc,fi:=oZ,fn:=fun b hb=>by rw [hz];exact h.rq.fn b (Nat.le_trans hf.nx hb)},hle.trans h.le,fun c hc=>(hs c hc).elim (h.si c) fun e=>.inr (Nat.le_trans dH e),fun c hc=>(jf c hc).elim (h.sg c) fun e=>.inr (Nat.le_trans dH e),h.z0,h.zm,h.zi,h.zn⟩,hs,jf⟩
 simp only [List.mem_cons,List.mem_append] at hc ⊢
 rcases hc with e | e | e
 ·exact .inl (.inl e)
 ·exact .inl (.inr (.inl e))
 ·exact (h.si c e).imp (fun e=>.inr (.inr e)) id
theorem RR.last (h:RR S P gP H r t m g mi H1 t1 g1 dL):xX S P gP H r t m g mi t1 (H1.af H.fz):=⟨h.fr.af _,fun _=>rfl,h.le,g1,dL,h.rq.toRQ0.af,h.si,h.sg⟩
theorem RR.ig (h:RR S P gP H r t m g mi H1 t1 g1 dL) {c:Nat} (hc:H1.next<=c):H.next<=c/\c≠r/\c∉m/\c∉dL/\c∉g1/\c∉gP:=⟨Nat.le_trans h.fr.nx hc,by have:=h.rq.rl;omega,fun e=>by have:=(h.rq.hm c e).1;omega,fun e=>by have:=(h.rq.hi c e).1;omega,fun e=>by have:=(h.rq.hg c e).1;omega,fun e=>by have:=(h.rq.hP c e).1;omega⟩
theorem RR.x (h:RR S P gP H r t m g mi H1 t1 g1 dL):∀b∈dL,H.fz b=false:=fun b hb=>(h.si b hb).elim (h.zi b) (h.zn b)
theorem RR.told (h:RR S P gP H r t m g mi H1 t1 g1 dL):RR S P gP H r t m g mi (H1.af H.fz) t1 g1 dL:=
 ⟨h.fr.af _,{h.rq.toRQ0.af with fz:=h.z0,fm:=h.zm,fi:=h.x,fn:=fun b hb=>h.zn b (Nat.le_trans h.fr.nx hb)},h.le,h.si,h.sg,h.z0,h.zm,h.zi,h.zn⟩
theorem RR.be (h:RR S P gP H r t m g mi H1 t1 g1 dL) {vN vI v2:Value} {t2:VT} {dQ:List Nat} (hr:H1.get r=some ⟨rC S vN vI t1,133,false,false⟩) (hf:Fr dL H1 H2) (e1:t2.ns=t1.ns) (fH:kr H2 v2 t2.be dQ) (Ar:∀c∈dQ,(c∈dL∨c=H1.next)/\c < H2.next):
  H2.get r=some ⟨rC S vN vI t1,133,false,false⟩/\RR S P gP H r t m g mi ((H2.ai r ⟨rC S vN v2 t2,133,false,false⟩).af H.fz) t2 g1 dQ:=by
 have q:=h.rq
 have nr:r∉dL:=fun e=>(q.hi r e).2.1 rfl
 obtain ⟨Sx,vI',iU,h2,h3⟩:=q.row
 rw [hr] at iU
 have evN:vN=Sx:=by
  simp only [rC,Option.some.injEq,cO.mk.injEq,List.cons.injEq] at iU
  exact iU.1.2.2.2.1
 subst evN
 have kg:∀c,c < H1.next->c≠r->c∉dL->((H2.ai r ⟨rC S vN v2 t2,133,false,false⟩).af H.fz).get c=H1.get c:=fun c h1 h2 h3=>by rw [bG,aH,if_neg h2];exact hf.get c h1 h3
 have kP:∀c∈gP,((H2.ai r ⟨rC S vN v2 t2,133,false,false⟩).af H.fz).get c=H1.get c:=fun c hc=>kg c (q.hP c hc).1 (q.hP c hc).2 fun e=>(q.hi c e).2.2.1 hc
 have low:∀c∈dQ,c≠r/\c∉gP/\c∉g1/\c∉m/\(c∈mi∨H.next<=c):=fun c hc=>by
  rcases (Ar c hc).1 with e | e
  ·exact ⟨(q.hi c e).2.1,(q.hi c e).2.2.1,(q.hi c e).2.2.2,fun e'=>(q.hm c e').2.2.2.2 e,h.si c e⟩
  ·have:=h.ig (c:=c) (by omega)
   exact ⟨this.2.1,this.2.2.2.2.2,this.2.2.2.2.1,this.2.2.1,.inr this.1⟩
 refine ⟨(hf.get r q.rl nr).trans hr,?_⟩
 have nx:=hf.nx
 refine ⟨((h.fr.trans hf fun c hc=>?_).ai (.inl (by simp)) _).af _,{row:=⟨vN,v2,by rw [bG,aH,if_pos rfl],e1▸h2.ae (fun c hc=>kg c (q.hm c hc).1 (q.hm c hc).2.1 (q.hm c hc).2.2.2.2) (fun c hc=>kg c (q.hg c hc).1 (q.hg c hc).2 fun e=>(q.hi c e).2.2.2 hc),fH.ae fun c hc=>by rw [bG,aH,if_neg (low c hc).1]⟩,sM:=q.sM.ae kP,sR:=q.sR.ae kP,sD:=q.sD.ae kP,rl:=Nat.lt_of_lt_of_le q.rl nx,hm:=fun c hc=>⟨Nat.lt_of_lt_of_le (q.hm c hc).1 nx,(q.hm c hc).2.1,(q.hm c hc).2.2.1,(q.hm c hc).2.2.2.1,fun e=>(low c e).2.2.2.1 hc⟩,hi:=fun c hc=>⟨(Ar c hc).2,(low c hc).1,(low c hc).2.1,(low c hc).2.2.1⟩,hg:=fun c hc=>⟨Nat.lt_of_lt_of_le (q.hg c hc).1 nx,(q.hg c hc).2⟩,hP:=fun c hc=>⟨Nat.lt_of_lt_of_le (q.hP c hc).1 nx,(q.hP c hc).2⟩,fz:=h.z0,fm:=h.zm,fi:=fun c hc=>(low c hc).2.2.2.2.elim (h.zi c) (h.zn c),fn:=fun b hb=>h.zn b (Nat.le_trans h.fr.nx (Nat.le_trans nx hb))},e1▸h.le,fun c hc=>(low c hc).2.2.2.2,h.sg,h.z0,h.zm,h.zi,h.zn⟩
 exact (h.si c hc).imp (fun e=>by simp [e]) id
theorem RR.hp (h:RR S P gP H r t m g mi H1 t1 g1 dL):∃Hp,Hp=H1:=⟨_,rfl⟩
theorem RR.re (h:RR S P gP H r t m g mi H1 t1 g1 dL):∃vN vI,H1.get r=some ⟨rC S vN vI t1,133,false,false⟩/\Gr ku 59 H1 vN t1.ns m g1/\kr H1 vI t1.be dL/\
  (∀t2:VT,t2.ns=t1.ns->t2.be=t1.be->RR S P gP H r t m g mi (H1.ai r ⟨rC S vN vI t2,133,false,false⟩) t2 g1 dL)/\
  ∀(t2:VT) (v2:Value) (dQ:List Nat),t2.ns=t1.ns->kr H1 v2 t2.be dQ->(∀c∈dQ,c < H1.next/\c≠r/\c∉gP/\c∉g1/\c∉m/\(c∈mi∨H.next<=c)/\H1.fz c=false)->RR S P gP H r t m g mi (H1.ai r ⟨rC S vN v2 t2,133,false,false⟩) t2 g1 dQ:=by
 obtain ⟨vN,vI,h1,h2,h3⟩:=h.rq.row
 have q:=h.rq
 have key:∀(t2:VT) (v2:Value) (dQ:List Nat),t2.ns=t1.ns->kr H1 v2 t2.be dQ->(∀c∈dQ,c < H1.next/\c≠r/\c∉gP/\c∉g1/\c∉m/\(c∈mi∨H.next<=c)/\H1.fz c=false)->RR S P gP H r t m g mi (H1.ai r ⟨rC S vN v2 t2,133,false,false⟩) t2 g1 dQ:=fun t2 v2 dQ e1 fH Ar=>by
  have kg:∀c,c≠r->(H1.ai r ⟨rC S vN v2 t2,133,false,false⟩).get c=H1.get c:=fun c hc=>by rw [aH,if_neg hc]
  have kP:∀c∈gP,(H1.ai r ⟨rC S vN v2 t2,133,false,false⟩).get c=H1.get c:=fun c hc=>kg c (q.hP c hc).2
  exact ⟨h.fr.ai (.inl (by simp)) _,{row:=⟨vN,v2,by rw [aH,if_pos rfl],e1▸h2.ae (fun c hc=>kg c (q.hm c hc).2.1) (fun c hc=>kg c (q.hg c hc).2),fH.ae fun c hc=>kg c (Ar c hc).2.1⟩,sM:=q.sM.ae kP,sR:=q.sR.ae kP,sD:=q.sD.ae kP,rl:=q.rl,hm:=fun c hc=>⟨(q.hm c hc).1,(q.hm c hc).2.1,(q.hm c hc).2.2.1,(q.hm c hc).2.2.2.1,fun e=>(Ar c e).2.2.2.2.1 hc⟩,hi:=fun c hc=>⟨(Ar c hc).1,(Ar c hc).2.1,(Ar c hc).2.2.1,(Ar c hc).2.2.2.1⟩,hg:=q.hg,hP:=q.hP,fz:=q.fz,fm:=q.fm,fi:=fun c hc=>(Ar c hc).2.2.2.2.2.2,fn:=q.fn},e1▸h.le,fun c hc=>(Ar c hc).2.2.2.2.2.1,h.sg,h.z0,h.zm,h.zi,h.zn⟩
 exact ⟨vN,vI,h1,h2,h3,fun t2 e1 e2=>key t2 vI dL e1 (e2▸h3) fun c hc=>⟨(q.hi c hc).1,(q.hi c hc).2.1,(q.hi c hc).2.2.1,(q.hi c hc).2.2.2,fun e=>(q.hm c e).2.2.2.2 hc,h.si c hc,q.fi c hc⟩,key⟩
def VT.fail (t:VT) (e l c:Int):VT:=if t.bad=0 then {t with bad:=e,line:=l,az:=c} else t
theorem VT.Us (t:VT) (e l c:Int):(t.fail e l c).ns=t.ns:=by unfold VT.fail;split <;> rfl
theorem VT.Uj (t:VT) (e l c:Int):(t.fail e l c).be=t.be:=by unfold VT.fail;split <;> rfl
theorem VT.Z7 (t:VT) (e l c:Int):(t.fail e l c).aY=t.aY:=by unfold VT.fail;split <;> rfl
structure As (S:XS) (P:cC) (gP:List Nat) (H:ad) (r:Nat) (t:VT) (m g mi:List Nat) (t':VT) (H':ad):Prop where
 fr:Fr [r] H H'
 fz:∀c,H'.fz c=H.fz c
 rq:RQ0 S P gP H' r t' m g mi
 ns:t'.ns=t.ns
 be:t'.be=t.be
theorem RR.ac8 (h:RR S P gP H r t m g mi H1 t1 g1 dL) (hp:As S P gP H1 r t1 m g1 dL t2 H2):RR S P gP H r t m g mi H2 t2 g1 dL:=
 ⟨h.fr.trans hp.fr fun c hc=>.inl (by rw [List.mem_singleton] at hc;simp [hc]),{hp.rq with fz:=by rw [hp.fz];exact h.rq.fz,fm:=fun c hc=>by rw [hp.fz];exact h.rq.fm c hc,fi:=fun c hc=>by rw [hp.fz];exact h.rq.fi c hc,fn:=fun b hb=>by rw [hp.fz];exact h.rq.fn b (Nat.le_trans hp.fr.nx hb)},by rw [hp.ns];exact h.le,h.si,h.sg,h.z0,h.zm,h.zi,h.zn⟩
structure RA (S:XS) (P:cC) (gP:List Nat) (H:ad) (r:Nat) (t:VT) (m g mi:List Nat) (H1:ad) (t1:VT):Prop where
 fr:Fr [r] H H1
 rq:RQ S P gP H1 r t1 m g mi
 ns:t1.ns=t.ns
 be:t1.be=t.be
 b0:RQ S P gP H r t m g mi
theorem RA.start (h:RQ S P gP H r t m g mi):RA S P gP H r t m g mi H t:=⟨.refl _ _,h,rfl,rfl,h⟩
theorem RA.own (h:RA S P gP H r t m g mi H1 t1) {M:List Nat} (bk:Fr M H1 H2) (hM:∀c∈M,H.next<=c) (mW:∀c,c < H1.next∨H2.next<=c->H2.fz c=H1.fz c):RA S P gP H r t m g mi H2 t1:=by
 have lo:∀c,c < H.next->c∉M:=fun c hc e=>by have:=hM c e;omega
 have q:=h.b0
 exact ⟨h.fr.trans bk fun c hc=>.inr (hM c hc),{h.rq.toRQ0.fr bk (lo r q.rl) (fun c hc=>lo c (q.hm c hc).1) (fun c hc=>lo c (q.hi c hc).1) (fun c hc=>lo c (q.hg c hc).1) (fun c hc=>lo c (q.hP c hc).1) with
  fz:=by rw [mW _ (.inl h.rq.rl)];exact h.rq.fz,fm:=fun c hc=>by rw [mW _ (.inl (h.rq.hm c hc).1)];exact h.rq.fm c hc,fi:=fun c hc=>by rw [mW _ (.inl (h.rq.hi c hc).1)];exact h.rq.fi c hc,fn:=fun b hb=>by rw [mW _ (.inr hb)];exact h.rq.fn b (Nat.le_trans bk.nx hb)},h.ns,h.be,q⟩
theorem RA.push (h:RA S P gP H r t m g mi H1 t1) (B:cO) (hB:B.ro=false:=by rfl):RA S P gP H r t m g mi (H1.push B) t1:=
 h.own (M:=[]) ((aG.push H1 B hB).fr []) (by simp) fun c hc=>by
  rw [rv,show (c==H1.next)=false from by rw [beq_eq_false_iff_ne];rw [bI] at hc;omega,Bool.false_or]
theorem RA.au (h:RA S P gP H r t m g mi H1 t1) (ho:aG H1 H2) (hz:∀c,H2.fz c=H1.fz c):RA S P gP H r t m g mi H2 t1:=h.own (ho.fr []) (by simp) fun c _=>hz c
theorem RA.told (h:RA S P gP H r t m g mi H1 t1):RA S P gP H r t m g mi (H1.af H.fz) t1:=
 ⟨h.fr.af _,{h.rq.toRQ0.af with fz:=h.b0.fz,fm:=h.b0.fm,fi:=h.b0.fi,fn:=fun b hb=>h.b0.fn b (Nat.le_trans h.fr.nx hb)},h.ns,h.be,h.b0⟩
theorem RA.call (h:RA S P gP H r t m g mi H1 t1) (hp:As S P gP H1 r t1 m g mi t2 H2):RA S P gP H r t m g mi H2 t2:=
 ⟨h.fr.then hp.fr,{hp.rq with fz:=by rw [hp.fz];exact h.rq.fz,fm:=fun c hc=>by rw [hp.fz];exact h.rq.fm c hc,fi:=fun c hc=>by rw [hp.fz];exact h.rq.fi c hc,fn:=fun b hb=>by rw [hp.fz];exact h.rq.fn b (Nat.le_trans hp.fr.nx hb)},hp.ns.trans h.ns,hp.be.trans h.be,h.b0⟩
theorem RA.last (h:RA S P gP H r t m g mi H1 t1):As S P gP H r t m g mi t1 (H1.af H.fz):=⟨h.fr.af _,fun _=>rfl,h.rq.toRQ0.af,h.ns,h.be⟩
theorem RA.hp (h:RA S P gP H r t m g mi H1 t1):∃Hp,Hp=H1:=⟨_,rfl⟩
theorem RA.k (h:RA S P gP H r t m g mi H1 t1) {c:Nat} (hc:c < H.next) (hr:c≠r):H1.get c=H.get c:=h.fr.get c hc (by simp [hr])
theorem nh (h:RQ S P gP H r t m g mi) {e l c:Int}:aj Tryz.prog 81 #[pV r,iV e,iV l,iV c] H (fun w H'=>As S P gP H r t m g mi (t.fail e l c) H'):=by
 refine aj.told ?_
 refine ano (Nat.le_refl _) fun hf=>?_
 simp only [Tryz.f81,Option.getD_some]
 have r0:=RR.start h
 obtain ⟨vN,vI,hr,hN,hI,hre,_⟩:=r0.re
 have hz:=h.fz
 by_cases hb:t.bad=0
 ·simp only [go_sem,hr,hb,hz]
  have e1:t.fail e l c={t with bad:=e,line:=l,az:=c}:=by rw [VT.fail,if_pos hb]
  rw [e1]
  obtain ⟨v1,v2,dY,_,_,aqq,_⟩:=(hre {t with bad:=e} rfl rfl).re
  obtain ⟨v3,v4,dP,_,_,aej,_⟩:=(aqq {t with bad:=e,line:=l} rfl rfl).re
  rw [aH,if_pos rfl] at dY dP
  cases dY
  cases dP
  have q:=(aej {t with bad:=e,line:=l,az:=c} rfl rfl).rq.toRQ0.af (fz:=H.fz)
  exact ⟨((((Fr.refl [r] H).ai (.inl (by simp)) _).ai (.inl (by simp)) _).ai (.inl (by simp)) _).af _,fun _=>rfl,q,rfl,rfl⟩
 ·simp only [go_sem,hr,hb]
  rw [VT.fail,if_neg hb]
  exact ⟨(Fr.refl _ _).af _,fun _=>rfl,h.toRQ0.af,rfl,rfl⟩
end
theorem aar {k:Nat} (h:k < 1000000):IntKind.wrap .i64 (((k:Nat):Int) - 1)=((k:Nat):Int) - 1:=by
 cases k with
 | zero=>decide
 | succ k=>rw [show (((k+1:Nat):Int) - 1)=((k:Nat):Int) by omega];exact tT (by omega)
def QP (l:List nT) (s:bC) (fr:Nat):Nat->Int
 | 0=> -1
 | i+1=>if i < fr then -1 else if (l.getD i ⟨[],0⟩).name=s then (l.getD i ⟨[],0⟩).slot else QP l s fr i
def lG (l:List nT) (s:bC) (fr:Nat):Int:=QP l s fr l.length
section
variable {S:XS} {P:cC} {gP:List Nat} {H H1 H2:ad} {r:Nat} {t t1 t2:VT} {m g g1 g2 mi dL dQ:List Nat}
theorem Qy (h:RQ0 S P gP H r t m g mi) (hl:t.be.length < 1000000) {s:bC} {fr:Nat}:aj Tryz.prog 134 #[pV r,ah s,iV (fr:Nat)] H (fun w H'=>w=iV (lG t.be s fr)/\H=H'):=by
 refine ajR (Nat.le_refl _) fun hf=>?_
 simp only [Tryz.f134,Option.getD_some]
 obtain ⟨vN,vI,hr,hN,hI⟩:=h.row
 obtain ⟨aI,cI,Dg⟩:=hI.val
 subst Dg
 simp only [go_sem,hr,aar hl]
 refine qA 137438937280 (fun n V H1=>V 7=iV (((n:Nat):Int) - 1)/\H=H1/\lG t.be s fr=QP t.be s fr n/\n<=t.be.length) (n:=t.be.length) ⟨by simp only [go_sem] <;> rfl,rfl,rfl,Nat.le_refl _⟩ ?_ (by rfl)
 rintro n V H1 ⟨e7,rfl,hg,hn⟩
 cases n with
 | zero=>
  have bf:¬((fr:Nat):Int)<=((0:Nat):Int) - 1:=by omega
  simp only [go_sem,e7,bf]
  rw [hg];rfl
 | succ k=>
  have e1:(((k+1:Nat):Int) - 1)=((k:Nat):Int):=by omega
  rw [e1] at e7
  rw [QP] at hg
  by_cases hk:k < fr
  ·rw [if_pos hk] at hg
   have bf:¬((fr:Nat):Int)<=((k:Nat):Int):=by omega
   simp only [go_sem,e7,bf]
   rw [hg]
  ·rw [if_neg hk] at hg
   have bf:((fr:Nat):Int)<=((k:Nat):Int):=by omega
   have jZ:k < t.be.length:=by omega
   have hx:t.be[k]?=some (t.be[k]'jZ):=List.getElem?_eq_getElem jZ
   rw [show t.be.getD k ⟨[],0⟩=t.be[k]'jZ from by rw [List.getD_eq_getElem?_getD,hx];rfl] at hg
   generalize (t.be[k]'jZ)=x at hx hg
   obtain ⟨b,o,c',B,gx,hv,hB,dI,df,cb,hE⟩:=hI.sl.at hx
   have ef:o+k * 2+2<=B.cells.length:=cb
   have bg:(B.cells.drop (o+k * 2)).take 2=[ah x.name,iV x.slot]:=hE.1
   have ke:B.cells[o+k * 2]?=some (ah x.name):=by
    have:((B.cells.drop (o+k * 2)).take 2)[0]?=some (ah x.name):=by rw [bg];rfl
    rw [List.getElem?_take,if_pos (by decide),List.getElem?_drop] at this
    exact this
   have fg:B.cells[o+k * 2+1]?=some (iV x.slot):=by
    have:((B.cells.drop (o+k * 2)).take 2)[1]?=some (iV x.slot):=by rw [bg];rfl
    rw [List.getElem?_take,if_pos (by decide),List.getElem?_drop] at this
    exact this
   cases hv
   by_cases zV:x.name=s
   ·rw [if_pos zV] at hg
    simp only [go_sem,e7,bf,hr,jZ,hB,ke,fg,zV]
    rw [hg]
   ·rw [if_neg zV] at hg
    simp only [go_sem,e7,bf,hr,jZ,hB,ke,fg,zV,aar (show k < 1000000 by omega)]
    exact ⟨k,by omega,rfl,hg,by omega⟩
theorem Qd (h:RQ S P gP H r t m g mi) {x y:Int} {n:aJ} {vA vP vB:Value}:aj Tryz.prog 135 #[pV r,iV x,iV y,.agg (aU n vA vP vB).toArray] H (fun w H'=>As S P gP H r t m g mi (if x=y then t else t.fail 6 n.line n.az) H'):=by
 refine aj.told ?_
 refine ajT (Nat.le_refl _) fun hf=>?_
 simp only [Tryz.f135,Option.getD_some]
 have r1:=(RA.start h).push ⟨aU n vA vP vB,59,false,false⟩
 by_cases YK:x=y
 ·simp only [go_sem,YK]
  exact r1.last
 ·rw [if_neg YK]
  simp only [go_sem,YK]
  refine ag.by (nh r1.rq) ?_
  rintro _ H2 - p2
  simp only [go_sem]
  exact (r1.call p2).last
def tZ (t:VT) (s:bC) (l c:Int):VT:=if 0<=lG t.be s 0 then t.fail 5 l c else t
def xY (t:VT) (l c:Int):VT:=if 40<=t.aY then t.fail 3 l c else t
def fE (t:VT) (s:bC) (l c:Int):Int × VT:=(t.aY,{xY (tZ t s l c) l c with be:=t.be++[⟨s,t.aY⟩],aY:=t.aY+1})
theorem aas (t:VT) (s:bC) (l c:Int):(tZ t s l c).be=t.be/\(tZ t s l c).aY=t.aY/\(tZ t s l c).ns=t.ns:=by
 unfold tZ;split
 ·exact ⟨VT.Uj _ _ _ _,VT.Z7 _ _ _ _,VT.Us _ _ _ _⟩
 ·exact ⟨rfl,rfl,rfl⟩
theorem aat (t:VT) (l c:Int):(xY t l c).be=t.be/\(xY t l c).aY=t.aY/\(xY t l c).ns=t.ns:=by
 unfold xY;split
 ·exact ⟨VT.Uj _ _ _ _,VT.Z7 _ _ _ _,VT.Us _ _ _ _⟩
 ·exact ⟨rfl,rfl,rfl⟩
theorem Uk {s:bC} {n:Int} {h:KH}:iA Tryz.prog 137 [(0,ah s),(1,iV n)] h=.ok (.agg #[ah s,iV n]) h:=by kernel_rfl
theorem DM (h:RQ S P gP H r t m g mi) (hl:t.be.length < 100000) (nu:0<=t.aY) (cZ:t.aY < 100000) {s:bC} {n:aJ} {vA vP vB:Value}:aj Tryz.prog 136 #[pV r,ah s,.agg (aU n vA vP vB).toArray] H (fun w H'=>w=iV t.aY/\xX S P gP H r t m g mi (fE t s n.line n.az).2 H'):=by
 refine aj.told ?_
 refine ni (l:=[_,_,_]) _ mixed Tryz.func136 ajU [.tmp 6] (show 3<=55 by decide) rfl fun hf=>?_
 simp only [Tryz.f136,Option.getD_some]
 have hX:=h.fz
 have r1:=((RR.start h).push ⟨aU n vA vP vB,59,false,false⟩).told
 have ib:((H.push ⟨aU n vA vP vB,59,false,false⟩).af H.fz).get H.next=some ⟨aU n vA vP vB,59,false,false⟩:=by rw [bG,aZ,if_pos rfl]
 have iu:H.next∉r::(m++mi):=fun e=>by
  simp only [List.mem_cons,List.mem_append] at e
  rcases e with e | e | e
  ·have:=h.rl;omega
  ·have:=(h.hm _ e).1;omega
  ·have:=(h.hi _ e).1;omega
 -- R0,then GZ first test
 refine ja (lB 36028797018963960 (fun V H1=>V 5=pV H.next/\∃g1 dL,RR S P gP H r t m g mi H1 (tZ t s n.line n.az) g1 dL/\H1.get H.next=some ⟨aU n vA vP vB,59,false,false⟩) ?_ ?_ (by rfl))
 ·simp only [go_sem]
  refine ag.by (Qy r1.rq.toRQ0 (by omega) (s:=s) (fr:=0)) ?_
  rintro _ _ - ⟨rfl,rfl⟩
  by_cases ea:0<=lG t.be s 0
  ·rw [tZ,if_pos ea]
   simp only [go_sem,ea,ib]
   refine ag.by (nh r1.told.rq) ?_
   rintro _ H2 - p2
   have r2:=r1.told.ac8 p2
   simp only [go_sem]
   exact ⟨g,mi,r2.told,(p2.fr.get H.next (Nat.lt_succ_self _) fun e=>iu (by rw [List.mem_singleton] at e;simp [e])).trans ib⟩
  ·rw [tZ,if_neg ea]
   simp only [go_sem,ea]
   exact ⟨g,mi,r1.told⟩
 ·rintro V H1 ⟨e5,g1,dL,r2,oF⟩
  obtain ⟨eI,eS,eN⟩:=aas t s n.line n.az
  refine lB 36028797018963960 (fun V H1=>∃g1 dL,RR S P gP H r t m g mi H1 (xY (tZ t s n.line n.az) n.line n.az) g1 dL) ?_ ?_ (by rfl)
  ·obtain ⟨vN,vI,dP,_⟩:=r2.re
   by_cases SM:40<=(tZ t s n.line n.az).aY
   ·rw [xY,if_pos SM]
    simp only [go_sem,e5,dP,SM,oF]
    refine ag.by (nh r2.told.rq) ?_
    rintro _ H2 - p2
    have r3:=r2.told.ac8 p2
    simp only [go_sem]
    exact ⟨g1,dL,r3.told⟩
   ·rw [xY,if_neg SM]
    simp only [go_sem,e5,dP,SM]
    exact ⟨g1,dL,r2.told⟩
  ·rintro V2 H2 ⟨g2,dQ,r3⟩
   obtain ⟨fI,fS,fN⟩:=aat (tZ t s n.line n.az) n.line n.az
   rw [eS] at fS
   rw [eI] at fI
   rw [fE]
   generalize xY (tZ t s n.line n.az) n.line n.az=T at *
   have r4:=r3.push ⟨[ah s,iV t.aY],137,false,false⟩
   obtain ⟨vN,vI,je,_,OK,_⟩:=r3.re
   have yB:¬r=H2.next:=by have:=r3.rq.rl;omega
   have hJ:(H2.push ⟨[ah s,iV t.aY],137,false,false⟩).get r=some ⟨rC S vN vI T,133,false,false⟩:=(bO r3.rq.rl).trans je
   have SN:=OK.ae (H':=H2.push ⟨[ah s,iV t.aY],137,false,false⟩) fun c hc=>bO (r3.rq.hi c hc).1
   rw [fI] at SN
   obtain ⟨aI,cI,Dg⟩:=SN.val
   subst Dg
   rw [rC,fS] at je
   simp only [go_sem,je,yB,Uk,eX AS (by decide) (by decide)]
   refine UK (x:=⟨s,t.aY⟩) SN (fun c hc=>(r4.rq.hi c hc).1) r4.x (by rw [aZ,if_pos rfl]) (by omega) ?_
   intro v5 H5 mi5 oG hm5 K4 KU
   obtain ⟨HW,r5⟩:=r4.be hJ K4 (v2:=v5) (t2:={T with be:=t.be++[⟨s,t.aY⟩],aY:=t.aY}) rfl oG hm5
   rw [rC,fS] at HW
   obtain ⟨sn,KJ⟩:=Int.eq_ofNat_of_zero_le nu
   have fP:IntKind.wrap .i64 (t.aY+1)=t.aY+1:=by rw [KJ,show (((sn:Nat):Int)+1)=((sn+1:Nat):Int) by omega];exact tT (by omega)
   have qP:IntKind.wrap .i64 (t.aY+1 - 1)=t.aY:=by rw [KJ,show (((sn:Nat):Int)+1 - 1)=((sn:Nat):Int) by omega];exact tT (by omega)
   obtain ⟨a5,c5,ji⟩:=oG.val
   subst ji
   obtain ⟨v6,v7,lS,_,_,aqr,_⟩:=r5.re
   rw [bG,aH,if_pos rfl] at lS
   cases lS
   simp only [go_sem,HW,hX,fP,qP]
   exact (aqr {T with be:=t.be++[⟨s,t.aY⟩],aY:=t.aY+1} rfl rfl).last
end
theorem aa0 {α:Type} {n:Nat} {hn:0 < n} {rZ:α->List Value} {hl:∀x,(rZ x).length=n} {H:ad}:∀{cs:List Value} {l:List α} {f:List Nat},dT (.flat n hn rZ hl) H cs l f->f=[]
 | cs,[],f,h=>h
 | cs,x::l,f,h=>by
  obtain ⟨c1,c2,f1,f2,rfl,rfl,h1,h2⟩:=h
  rw [h1.2,aa0 h2];rfl
theorem Gr.flat {α:Type} {n:Nat} {hn:0 < n} {rZ:α->List Value} {hl:∀x,(rZ x).length=n} {ty:TypeId} {H:ad} {v:Value} {l:List α} {m g:List Nat} (h:Gr (.flat n hn rZ hl) ty H v l m g):g=[]:=by
 rcases h with ⟨_,_,_,h⟩ | ⟨b,cs,_,_,_,_,_,h,_⟩
 ·exact h
 ·exact aa0 h
def rJ (ms:List bC):List PN->Option (List PN)
 | []=>some []
 | x::l=>if x.kind=3 then (if dG ms x.name < 0 then none else (rJ ms l).map ({x with n:=dG ms x.name}::·)) else (rJ ms l).map (x::·)
section
variable {S:XS} {P:cC} {gP:List Nat} {H H1 H2:ad} {r:Nat} {t t1 t2:VT} {m g g1 g2 mi dL dQ:List Nat}
def Kb (ms:List bC) (p:List PN) (H H':ad) (w:Value):Prop:=match rJ ms p with
 | some p'=>∃v g',w=.tuple #[v,.bool true]/\Sl gU H' v p' g'/\im H H' g'
 | none=>w=.tuple #[.slice none 0 0,.bool false]
theorem T5 (h:RQ0 S P gP H r t m g mi) (xE:P.msgs.length < 1000000) {vp:Value} {p:List PN} {gp:List Nat} (hp:Sl gU H vp p gp) (yG:∀c∈gp,c < H.next) (dZ:p.length < 1000000):
  aj Tryz.prog 132 #[pV r,vp] H (fun w H'=>Kb (P.msgs.map (·.name)) p H H' w/\aG H H'/\∀c,H'.fz c=H.fz c):=by
 refine aj.told ?_
 refine ajN (Nat.le_refl _) fun hf=>?_
 simp only [Tryz.f132,Option.getD_some]
 simp only [go_sem]
 refine AP (r:=gU) U2 hp (by
  have:p.length * 1000<=1000000 * 1000:=Nat.mul_le_mul (by omega) (Nat.le_refl _)
  omega) yG ?_
 intro vL H2 mL gL cw uE nP
 have gu:=cw.flat
 subst gu
 obtain ⟨o2,hU⟩:aG H H2/\∀c∈mL,H.next<=c/\c < H2.next:=by
  rcases nP with ⟨rfl,rfl⟩ | ⟨rfl,cs,rfl⟩
  ·exact ⟨aG.refl _,by simp⟩
  ·exact ⟨aG.push H _,fun c hc=>by rw [List.mem_singleton] at hc;subst hc;exact ⟨Nat.le_refl _,Nat.lt_succ_self _⟩⟩
 obtain ⟨aL,wh⟩:=cw.val
 subst wh
 obtain ⟨vN,vI,hr,hN,hI⟩:=h.row
 obtain ⟨gs,Dh,mj⟩:=h.sM
 have dP:=(o2.get r h.rl).trans hr
 simp only [go_sem,dP]
 refine ag.by (Qv (Dh.ae fun c hc=>o2.get c (h.hP c (mj c hc)).1) xE (fun c hc=>Nat.lt_of_lt_of_le (h.hP c (mj c hc)).1 o2.nx)) ?_
 rintro OL H3 - ⟨⟨g3,fZ,Af⟩,o3,z3⟩
 have o03:=o2.trans o3
 have qH:=cw.ae (H':=H3) (fun c hc=>o3.get c (hU c hc).2) (by simp)
 simp only [go_sem]
 refine ft 8796092498736 p.length (fun i V H4=>V 19=iV (i:Nat)/\Fr mL H3 H4/\∃done,Gr gU 192 H4 (.slice aL p.length p.length) (done++p.drop i) mL []/\done.length=i/\rJ (P.msgs.map (·.name)) p=(rJ (P.msgs.map (·.name)) (p.drop i)).map (done++·)) ⟨by simp only [go_sem] <;> rfl,Fr.refl _ _,[],qH,rfl,by rw [List.drop_zero];cases rJ (P.msgs.map (·.name)) p <;> rfl⟩ ?_ ?_ (by rfl)
 ·rintro i V H4 hi ⟨ei,f4,done,j5,dK,yH⟩
  have hx:p[i]?=some (p[i]'hi):=List.getElem?_eq_getElem hi
  have cT:p.drop i=(p[i]'hi)::p.drop (i+1):=(List.getElem_cons_drop hi).symm
  generalize (p[i]'hi)=x at hx cT
  rw [cT] at j5 yH
  rw [rJ] at yH
  have bX:i < (done++x::p.drop (i+1)).length:=by rw [List.length_append,List.length_cons];omega
  have tj:(done++x::p.drop (i+1))[i]'bX=x:=by subst dK;simp
  have gI:∀y:PN,(done++x::p.drop (i+1)).set i y=(done++[y])++p.drop (i+1):=fun y=>by subst dK;simp
  have cH:IntKind.wrap .i64 (((i:Nat):Int)+1)=((i+1:Nat):Int):=cG hi (by omega)
  obtain ⟨b,cs,f1,f2,f3,hv,rfl,hb,gJ,kZ,jC,hE,jk⟩:=j5.put bX
  have kZ:=kZ.symm
  simp only [List.append_eq_nil_iff] at kZ
  obtain ⟨rfl,rfl,rfl⟩:=kZ
  rw [tj] at hE
  have bg:(cs.drop (i * 5)).take 5=[iV x.kind,iV x.a,iV x.b,iV x.n,ah x.name]:=hE.1
  have jC:i * 5+5<=cs.length:=jC
  have hcj:∀j v,j < 5->[iV x.kind,iV x.a,iV x.b,iV x.n,ah x.name][j]?=some v->cs[i * 5+j]?=some v:=fun j v hj hv=>by
   rw [<-bg,List.getElem?_take,if_pos hj,List.getElem?_drop] at hv
   exact hv
  have ke:cs[i * 5]?=some (iV x.kind):=hcj 0 _ (by decide) rfl
  have tK:=hcj 4 _ (by decide) rfl
  simp only [Value.slice.injEq] at hv
  have iY:=hv.1
  have hX:H.fz b=false:=hf.fresh (hU b (by simp)).1
  have N9:i * 5+3 < cs.length:=by omega
  have aqs:i * 5+3+1<=cs.length:=by omega
  have uq:i * 5 < cs.length:=by omega
  by_cases hk:x.kind=3
  ·rw [if_pos hk] at yH
   have jt:=fZ.ae (H':=H4) fun c hc=>f4.get c (Af c hc).2 fun e=>by have:=(hU c e).2;have:=(Af c hc).1;omega
   simp only [go_sem,ei,hi,iY,hb,ke,tK,hk,jC]
   refine ag.by (Cj jt (by rw [List.length_map];exact xE)) ?_
   rintro _ _ - ⟨rfl,rfl⟩
   by_cases de:dG (P.msgs.map (·.name)) x.name < 0
   ·rw [if_pos de] at yH
    simp only [go_sem,de]
    rw [Kb,yH]
    exact ⟨rfl,(((o03.fr []).trans f4 fun c hc=>.inr (hU c hc).1).af _).au,fun _=>trivial⟩
   ·rw [if_neg de] at yH
    simp only [go_sem,ei,hi,iY,de,hb,hX,N9,aqs,cH,fL N9]
    have fR:cs.set (i * 5+3) (iV (dG (P.msgs.map (·.name)) x.name))=cY cs (i * gU.sz) [iV x.kind,iV x.a,iV x.b,iV (dG (P.msgs.map (·.name)) x.name),ah x.name]:=by
     have:=AE (vs:=[iV (dG (P.msgs.map (·.name)) x.name)]) bg (k:=3) (by decide:3+1<=5) jC
     rw [fL N9] at this
     rw [this];rfl
    have lH:=jk (H4.ai b ⟨cs.set (i * 5+3) (iV (dG (P.msgs.map (·.name)) x.name)),192,true,false⟩) [iV x.kind,iV x.a,iV x.b,iV (dG (P.msgs.map (·.name)) x.name),ah x.name] {x with n:=dG (P.msgs.map (·.name)) x.name} [] (by simp) (by rw [aH,if_pos rfl,fR]) ⟨rfl,rfl⟩ (by simp)
    rw [gI,iY] at lH
    refine ⟨f4.ai (.inl (by simp)) _,_,lH,by rw [List.length_append,List.length_singleton,dK],?_⟩
    rw [yH]
    cases rJ (P.msgs.map (·.name)) (p.drop (i+1)) <;> simp
  ·rw [if_neg hk] at yH
   simp only [go_sem,ei,hi,iY,hb,ke,hk,jC,cH]
   rw [iY,show done++x::p.drop (i+1)=(done++[x])++p.drop (i+1) by simp] at j5
   refine ⟨f4,done++[x],j5,by rw [List.length_append,List.length_singleton,dK],?_⟩
   rw [yH]
   cases rJ (P.msgs.map (·.name)) (p.drop (i+1)) <;> simp
 ·rintro V H4 ⟨ei,f4,done,j5,dK,yH⟩
  simp only [go_sem,ei]
  rw [List.drop_length] at j5 yH
  rw [List.append_nil] at j5
  have e1:rJ (P.msgs.map (·.name)) p=some done:=by rw [yH,rJ];simp
  have n4:=f4.nx
  have n3:=o3.nx
  rw [Kb,e1]
  refine ⟨⟨_,mL++[],rfl,j5.sl.ae fun _ _=>rfl,fun c hc=>?_⟩,(((o03.fr []).trans f4 fun c hc=>.inr (hU c hc).1).af _).au,fun _=>trivial⟩
  rw [List.append_nil] at hc
  have:=hU c hc
  exact ⟨this.1,by show c < H4.next;omega⟩
end
abbrev lx (t:Ty) (v:Value):List Value:=[iV t.kind,iV t.cap,iV t.rc,ah t.name,v]
abbrev jV (P:cC):List bC:=P.msgs.map (·.name)
abbrev xZ (P:cC):List bC:=P.dk.map (·.name)
def xQ (P:cC) (t:Ty) (l c:Int) (st:VT):Ty × VT:=
 if t.kind=2 then (if t.rc= -1 then (t,st) else ({t with rc:=dG (xZ P) t.name},if dG (xZ P) t.name < 0 then st.fail 4 l c else st))
 else if t.kind=3∨t.kind=4 then (match rJ (jV P) t.pat with
  | some p=>({t with pat:=p},st)
  | none=>({t with pat:=[]},st.fail 4 l c))
 else (t,st)
section
variable {S:XS} {P:cC} {gP:List Nat} {H H1 H2:ad} {r:Nat} {t t1 t2:VT} {m g g1 g2 mi dL dQ:List Nat}
theorem abz (h:RQ S P gP H r t m g mi) (xE:P.msgs.length < 1000000) (qk:P.dk.length < 1000000) {ty:Ty} {l c:Int} {v:Value} {gv:List Nat} (hv:Sl gU H v ty.pat gv) (pe:∀d∈gv,d < H.next/\d≠r) (dZ:ty.pat.length < 1000000):
  aj Tryz.prog 107 #[pV r,.agg (lx ty v).toArray,iV l,iV c] H (fun w H'=>∃v' g',w=.agg (lx (xQ P ty l c t).1 v').toArray/\Sl gU H' v' (xQ P ty l c t).1.pat g'/\(∀d∈g',d∈gv∨(H.next<=d/\d < H'.next))/\As S P gP H r t m g mi (xQ P ty l c t).2 H'):=by
 refine aj.told ?_
 refine ai2 (Nat.le_refl _) fun hf=>?_
 simp only [Tryz.f107,Option.getD_some]
 obtain ⟨kd,cp,rc,nm,pt⟩:=ty
 simp only at hv dZ ⊢
 obtain ⟨a,k,rfl⟩:=hv.val
 have r1:=((RA.start h).push ⟨lx ⟨kd,cp,rc,nm,pt⟩ (.slice a pt.length k),102,false,false⟩).push ⟨[iV 0,iV 0,iV 0,ah [],.slice none 0 0],102,false,false⟩
 obtain ⟨H1,cu⟩:=r1.hp
 have p1:¬H.next=H.next+1:=by omega
 have ib:H1.get H.next=some ⟨lx ⟨kd,cp,rc,nm,pt⟩ (.slice a pt.length k),102,false,false⟩:=by rw [cu,aZ,bI,if_neg p1,aZ,if_pos rfl]
 have BG:H1.get (H.next+1)=some ⟨[iV 0,iV 0,iV 0,ah [],.slice none 0 0],102,false,false⟩:=by rw [cu,aZ];exact if_pos rfl
 have KZ:H1.next=H.next+1+1:=by rw [cu];rfl
 have o1:aG H H1:=by rw [cu];exact (((Fr.refl [] H).push _).push _).au
 have eV:H.fz H.next=false:=hf.fresh (Nat.le_refl _)
 have ey:H.fz (H.next+1)=false:=hf.fresh (by omega)
 have K5:¬H.next+1=H.next:=by omega
 have Kc:=h.rl
 have nr:¬r=H.next:=by omega
 have nr1:¬r=H.next+1:=by omega
 have vZ:¬H.next=r:=by omega
 simp only [go_sem]
 rw [<-cu] at r1 ⊢
 clear cu
 -- eK is ayk out
 have fin:∀{H2:ad} {t2:VT} {mZ:Ty} {a2:Option Addr} {k2:Nat} {g2:List Nat},RA S P gP H r t m g mi H2 t2->Sl gU H2 (.slice a2 mZ.pat.length k2) mZ.pat g2->(∀d∈g2,d∈gv∨(H.next+1+1<=d/\d < H2.next))->
   ∃v' g',(Value.agg #[iV mZ.kind,iV mZ.cap,iV mZ.rc,ah mZ.name,.slice a2 mZ.pat.length k2])=.agg (lx mZ v').toArray/\Sl gU ((H2.ai (H.next+1) ⟨lx mZ (.slice a2 mZ.pat.length k2),102,false,false⟩).af H.fz) v' mZ.pat g'/\(∀d∈g',d∈gv∨(H.next<=d/\d < ((H2.ai (H.next+1) ⟨lx mZ (.slice a2 mZ.pat.length k2),102,false,false⟩).af H.fz).next))/\As S P gP H r t m g mi t2 ((H2.ai (H.next+1) ⟨lx mZ (.slice a2 mZ.pat.length k2),102,false,false⟩).af H.fz):=fun {H2 t2 mZ a2 k2 g2} r2 hs hg=>by
  refine ⟨_,g2,rfl,hs.ae fun d hd=>?_,fun d hd=>(hg d hd).imp id fun e=>⟨by omega,e.2⟩,(r2.own (M:=[H.next+1]) ((Fr.refl _ _).ai (.inl (by simp)) _) (by simp) fun _ _=>rfl).last⟩
  rw [bG,aH,if_neg]
  rintro rfl
  rcases hg _ hd with e | e
  ·have:=(pe _ e).1;omega
  ·omega
 have nC:=hv.ae (H':=H1) fun d hd=>o1.get d (pe d hd).1
 obtain ⟨vN,vI,hr,hN,hI⟩:=h.row
 have dY:=(o1.get r Kc).trans hr
 unfold xQ
 by_cases fQ:kd=2
 ·subst fQ
  by_cases yn:rc= -1
  ·subst yn
   simp only [go_sem,ib,BG,ey,p1]
   exact fin (mZ:=⟨2,cp, -1,nm,pt⟩) r1 nC fun d hd=>.inl hd
  ·obtain ⟨gs,hsR,mj⟩:=r1.rq.sR
   simp only [go_sem,ib,BG,yn,eV,dY]
   refine ag.by (aca hsR qk (fun d hd=>(r1.rq.hP d (mj d hd)).1)) ?_
   rintro OL H3 - ⟨⟨g3,fZ,Af⟩,o3,z3⟩
   have r3:=r1.au o3 z3
   have ml:=(o3.get H.next (by omega)).trans ib
   have BH:=(o3.get (H.next+1) (by omega)).trans BG
   have n3:=o3.nx
   simp only [go_sem,ib,ml]
   refine ag.by (Cj fZ (by rw [List.length_map];exact qk)) ?_
   rintro _ _ - ⟨rfl,rfl⟩
   have r4:=r3.own (M:=[H.next]) ((Fr.refl _ _).ai (b:=H.next) (.inl (by simp)) ⟨lx ⟨2,cp,dG (xZ P) nm,nm,pt⟩ (.slice a pt.length k),102,false,false⟩) (by simp) fun _ _=>rfl
   have sC:=nC.ae (H':=H3.ai H.next ⟨lx ⟨2,cp,dG (xZ P) nm,nm,pt⟩ (.slice a pt.length k),102,false,false⟩) fun d hd=>by
    have:=(pe d hd).1
    rw [aH,if_neg (by omega)];exact o3.get d (by omega)
   by_cases de:dG (xZ P) nm < 0
   ·simp only [go_sem,ml,eV,de]
    refine ag.by (nh r4.rq) ?_
    rintro _ H5 - p5
    have r5:=r4.call p5
    have eJ:=(p5.fr.get H.next (by show H.next < H3.next;omega) (by simp [vZ])).trans (by rw [aH,if_pos rfl])
    have Di:=(p5.fr.get (H.next+1) (by show H.next+1 < H3.next;omega) (by simp;omega)).trans ((aH.trans (if_neg K5)).trans BH)
    have ji:=sC.ae (H':=H5) fun d hd=>p5.fr.get d (by show d < H3.next;have:=(pe d hd).1;omega) (by simp [(pe d hd).2])
    simp only [go_sem,eJ,Di,ey,p1]
    rw [if_neg yn,if_pos de]
    exact fin (mZ:=⟨2,cp,dG (xZ P) nm,nm,pt⟩) r5 ji fun d hd=>.inl hd
   ·simp only [go_sem,ml,eV,de,BH,ey,p1,K5]
    rw [if_neg yn]
    exact fin (mZ:=⟨2,cp,dG (xZ P) nm,nm,pt⟩) r4 sC fun d hd=>.inl hd
 ·by_cases Wb:kd=3∨kd=4
  ·have g0:∀d∈gv,d < H1.next:=fun d hd=>by have:=(pe d hd).1;omega
   rcases Wb with rfl | rfl
   ·simp only [go_sem,ib]
    refine ag.by (T5 r1.rq.toRQ0 xE nC g0 dZ) ?_
    rintro w H3 - ⟨sE,o3,z3⟩
    have r3:=r1.au o3 z3
    have ml:=(o3.get H.next (by omega)).trans ib
    have BH:=(o3.get (H.next+1) (by omega)).trans BG
    have n3:=o3.nx
    unfold Kb at sE
    cases BI:rJ (jV P) pt with
    | some p'=>
     rw [BI] at sE
     obtain ⟨v',g',rfl,dz,Ac⟩:=sE
     obtain ⟨a',k',rfl⟩:=dz.val
     simp only [go_sem,ml,eV,BH,p1,K5,ey]
     exact fin (mZ:=⟨3,cp,rc,nm,p'⟩) (r3.own (M:=[H.next]) ((Fr.refl _ _).ai (b:=H.next) (.inl (by simp)) ⟨lx ⟨3,cp,rc,nm,p'⟩ (.slice a' p'.length k'),102,false,false⟩) (by simp) fun _ _=>rfl) (dz.ae fun d hd=>by rw [aH,if_neg (by have:=(Ac d hd).1;omega)]) fun d hd=>.inr ⟨by have:=(Ac d hd).1;omega,(Ac d hd).2⟩
    | none=>
     rw [BI] at sE
     subst sE
     simp only [go_sem,ml]
     refine ag.by (nh r3.rq) ?_
     rintro _ H5 - p5
     have r5:=r3.call p5
     have eJ:=(p5.fr.get H.next (by omega) (by simp [vZ])).trans ml
     have Di:=(p5.fr.get (H.next+1) (by omega) (by simp;omega)).trans BH
     simp only [go_sem,eJ,eV,Di,p1,K5,ey]
     exact fin (mZ:=⟨3,cp,rc,nm,[]⟩) (a2:=none) (k2:=0) (g2:=[]) (r5.own (M:=[H.next]) ((Fr.refl _ _).ai (b:=H.next) (.inl (by simp)) ⟨lx ⟨3,cp,rc,nm,[]⟩ (.slice none 0 0),102,false,false⟩) (by simp) fun _ _=>rfl) (.inl ⟨rfl,rfl,rfl⟩) (by simp)
   ·simp only [go_sem,ib]
    refine ag.by (T5 r1.rq.toRQ0 xE nC g0 dZ) ?_
    rintro w H3 - ⟨sE,o3,z3⟩
    have r3:=r1.au o3 z3
    have ml:=(o3.get H.next (by omega)).trans ib
    have BH:=(o3.get (H.next+1) (by omega)).trans BG
    have n3:=o3.nx
    unfold Kb at sE
    cases BI:rJ (jV P) pt with
    | some p'=>
     rw [BI] at sE
     obtain ⟨v',g',rfl,dz,Ac⟩:=sE
     obtain ⟨a',k',rfl⟩:=dz.val
     simp only [go_sem,ml,eV,BH,p1,K5,ey]
     exact fin (mZ:=⟨4,cp,rc,nm,p'⟩) (r3.own (M:=[H.next]) ((Fr.refl _ _).ai (b:=H.next) (.inl (by simp)) ⟨lx ⟨4,cp,rc,nm,p'⟩ (.slice a' p'.length k'),102,false,false⟩) (by simp) fun _ _=>rfl) (dz.ae fun d hd=>by rw [aH,if_neg (by have:=(Ac d hd).1;omega)]) fun d hd=>.inr ⟨by have:=(Ac d hd).1;omega,(Ac d hd).2⟩
    | none=>
     rw [BI] at sE
     subst sE
     simp only [go_sem,ml]
     refine ag.by (nh r3.rq) ?_
     rintro _ H5 - p5
     have r5:=r3.call p5
     have eJ:=(p5.fr.get H.next (by omega) (by simp [vZ])).trans ml
     have Di:=(p5.fr.get (H.next+1) (by omega) (by simp;omega)).trans BH
     simp only [go_sem,eJ,eV,Di,p1,K5,ey]
     exact fin (mZ:=⟨4,cp,rc,nm,[]⟩) (a2:=none) (k2:=0) (g2:=[]) (r5.own (M:=[H.next]) ((Fr.refl _ _).ai (b:=H.next) (.inl (by simp)) ⟨lx ⟨4,cp,rc,nm,[]⟩ (.slice none 0 0),102,false,false⟩) (by simp) fun _ _=>rfl) (.inl ⟨rfl,rfl,rfl⟩) (by simp)
  ·have Au:¬kd=3:=fun e=>Wb (.inl e)
   have iO:¬kd=4:=fun e=>Wb (.inr e)
   simp only [go_sem,ib,fQ,Au,iO,BG,ey,p1]
   exact fin (mZ:=⟨kd,cp,rc,nm,pt⟩) r1 nC fun d hd=>.inl hd
end
abbrev ya (f:tn) (v:Value):List Value:=[ah f.name,iV f.ty.kind,iV f.ty.cap,iV f.ty.rc,ah f.ty.name,v]
def Mh (rec:Bool) (k:Int):Bool:=rec&&(decide (k=3)||decide (k=4))
def FK (P:cC) (rec:Bool) (l c:Int):List tn->List tn->VT->List tn × VT
 | [],done,st=>(done,st)
 | f::fs,done,st=>FK P rec l c fs (done++[⟨f.name,(xQ P f.ty l c st).1⟩]) (if Mh rec (xQ P f.ty l c st).1.kind=true then (xQ P f.ty l c st).2.fail 2 l c else (xQ P f.ty l c st).2)
def Ji (l c:Int):List bC->List bC->VT->VT
 | _,[],st=>st
 | pre,s::r,st=>Ji l c (pre++[s]) r (if 0<=dG pre s then st.fail 5 l c else st)
def Cc (P:cC) (rec:Bool) (l c:Int) (fs:List tn) (st:VT):List tn × VT:=((FK P rec l c fs [] st).1,Ji l c [] (fs.map (·.name)) (FK P rec l c fs [] st).2)
section
variable {S:XS} {P:cC} {gP:List Nat} {H H1 H2:ad} {r:Nat} {t t1 t2:VT} {m g g1 g2 mi dL dQ:List Nat}
theorem agk (h:RQ S P gP H r t m g mi) (xE:P.msgs.length < 1000000) (qk:P.dk.length < 1000000) {fs:List tn} {rec:Bool} {l c:Int} {v:Value} {gv:List Nat} (hv:Sl oV H v fs gv) (pe:∀d∈gv,d < H.next/\d≠r) (dC:fs.length < 1000000) (dZ:∀f∈fs,f.ty.pat.length < 1000000):
  aj Tryz.prog 108 #[pV r,v,.bool rec,iV l,iV c] H (fun w H'=>(∃g',Sl oV H' w (Cc P rec l c fs t).1 g'/\∀d∈g',d∈gv∨(H.next<=d/\d < H'.next))/\As S P gP H r t m g mi (Cc P rec l c fs t).2 H'):=by
 refine aj.told ?_
 refine ai4 (Nat.le_refl _) fun hf=>?_
 simp only [Tryz.f108,Option.getD_some]
 obtain ⟨a,k,rfl⟩:=hv.val
 have Kc:=h.rl
 simp only [go_sem]
 refine ft 2251799813433344 fs.length (fun i V H2=>V 18=iV (i:Nat)/\∃vO mO gO done t2,V 11=vO/\RA S P gP H r t m g mi H2 t2/\Gr oV 104 H2 vO done mO gO/\(∀d∈mO,H.next<=d/\d < H2.next)/\(∀d∈gO,(d∈gv∨H.next<=d)/\d < H2.next)/\done.length=i/\FK P rec l c fs [] t=FK P rec l c (fs.drop i) done t2)
  ⟨by simp only [go_sem] <;> rfl,.slice none 0 0,[],[],[],t,by simp only [go_sem] <;> rfl,RA.start h,Gr.nil _ _ _,by simp,by simp,rfl,rfl⟩ ?_ ?_ (by rfl)
 ·rintro i V H2 hi ⟨ei,vO,mO,gO,done,t2,nf,r2,cw,ee,ly,dK,bk⟩
  have hx:fs[i]?=some (fs[i]'hi):=List.getElem?_eq_getElem hi
  have Am:(fs[i]'hi)∈fs:=List.getElem_mem hi
  have cT:fs.drop i=(fs[i]'hi)::fs.drop (i+1):=(List.getElem_cons_drop hi).symm
  generalize (fs[i]'hi)=x at hx cT Am
  have HX:=dZ x Am
  rw [cT,FK] at bk
  have jm:=hv.ae (H':=H2) fun d hd=>r2.k (pe d hd).1 (pe d hd).2
  obtain ⟨b,o,c',B,gx,yk,hB,dI,df,cb,hE⟩:=jm.at hx
  cases yk
  obtain ⟨v5,bg,gG⟩:=hE
  obtain ⟨a5,k5,rfl⟩:=gG.val
  have ef:o+i * 6+6<=B.cells.length:=cb
  have bg:(B.cells.drop (o+i * 6)).take 6=ya x (.slice a5 x.ty.pat.length k5):=bg
  have cH:IntKind.wrap .i64 (((i:Nat):Int)+1)=((i+1:Nat):Int):=cG hi (by omega)
  have n2:=r2.fr.nx
  have dw:H.fz H2.next=false:=hf.fresh n2
  have r3:=r2.push ⟨ya x (.slice a5 x.ty.pat.length k5),104,false,false⟩
  obtain ⟨H3,dv⟩:=r3.hp
  have ml:H3.get H2.next=some ⟨ya x (.slice a5 x.ty.pat.length k5),104,false,false⟩:=by rw [dv,aZ,if_pos rfl]
  have k3:∀d,d < H2.next->H3.get d=H2.get d:=fun d hd=>by rw [dv,bO hd]
  have Oe:H3.next=H2.next+1:=by rw [dv];rfl
  simp only [go_sem,ei,hi,hB,ef,bg,dw]
  rw [<-dv] at r3 ⊢
  clear dv
  refine ag.by (abz r3.rq xE qk (ty:=x.ty) (gG.ae fun d hd=>k3 d (by have:=(pe d (df d hd)).1;omega)) (fun d hd=>⟨by have:=(pe d (df d hd)).1;omega,(pe d (df d hd)).2⟩) HX) ?_
  rintro w H4 - ⟨v4,g4,rfl,jt,nJ,p4⟩
  obtain ⟨a4,k4,rfl⟩:=jt.val
  have r4:=r3.call p4
  have n4:=p4.fr.nx
  have wo:¬H2.next=r:=by omega
  have tG:=(p4.fr.get H2.next (by omega) (by simp [wo])).trans ml
  generalize hA:xQ P x.ty l c t2=A at *
  have r5:=r4.own (M:=[H2.next]) ((Fr.refl _ _).ai (b:=H2.next) (.inl (by simp)) ⟨ya ⟨x.name,A.1⟩ (.slice a4 A.1.pat.length k4),104,false,false⟩) (by simp;omega) fun _ _=>rfl
  obtain ⟨H5,ri⟩:=r5.hp
  have eJ:H5.get H2.next=some ⟨ya ⟨x.name,A.1⟩ (.slice a4 A.1.pat.length k4),104,false,false⟩:=by rw [ri,aH,if_pos rfl]
  have k5':∀d,d≠H2.next->H5.get d=H4.get d:=fun d hd=>by rw [ri,aH,if_neg hd]
  have nx5:H5.next=H4.next:=by rw [ri];rfl
  have yI:∀d∈gO++g4,(d∈gv∨H.next<=d)/\d < H5.next:=fun d hd=>(List.mem_append.1 hd).elim (fun e=>⟨(ly d e).1,by have:=(ly d e).2;omega⟩) fun e=>(nJ d e).elim (fun e=>⟨.inl (df d e),by have:=(pe d (df d e)).1;omega⟩) fun e=>⟨.inr (by omega),by omega⟩
  have tH:∀{n:Nat},H5.next<=n->H.fz n=false:=fun hn=>hf.fresh (by omega)
  -- GZ field auR
  have app:∀{H6:ad} {eZ:VT} {K:Value->ad->Prop} {tg:Tag K},RA S P gP H r t m g mi H6 eZ->H6.get H2.next=some ⟨ya ⟨x.name,A.1⟩ (.slice a4 A.1.pat.length k4),104,false,false⟩->(∀d,d < H5.next/\d≠r->H6.get d=H5.get d)->H5.next<=H6.next->
    (∀v8 H8 rj,(∀d∈rj,H.next<=d/\d < H8.next)->Gr oV 104 H8 v8 (done++[⟨x.name,A.1⟩]) rj (gO++g4)->RA S P gP H r t m g mi H8 eZ->H5.next<=H8.next->K v8 H8)->
    fe Tryz.prog H.fz (H6.push ⟨ya ⟨x.name,A.1⟩ (.slice a4 A.1.pat.length k4),104,false,false⟩) (iZ Tryz.prog 42 vO (.slice (some ⟨H6.next,0,none⟩) 1 1) (H6.push ⟨ya ⟨x.name,A.1⟩ (.slice a4 A.1.pat.length k4),104,false,false⟩)) K tg:=by
   intro H6 eZ K tg r6 iy k6 St hk
   have lo:∀d,d < H5.next->d≠r->(H6.push ⟨ya ⟨x.name,A.1⟩ (.slice a4 A.1.pat.length k4),104,false,false⟩).get d=H5.get d:=fun d h1 h2=>by rw [bO (by omega),k6 d ⟨h1,h2⟩]
   have lo2:∀d,d < H2.next->d≠r->(H6.push ⟨ya ⟨x.name,A.1⟩ (.slice a4 A.1.pat.length k4),104,false,false⟩).get d=H2.get d:=fun d h1 h2=>by rw [lo d (by omega) h2,k5' d (by omega),p4.fr.get d (by omega) (by simp [h2]),k3 d h1]
   have YL:∀d,(d∈gv∨H.next<=d)->d≠r:=fun d hd=>hd.elim (fun e=>(pe d e).2) fun e=>by omega
   refine lA (r:=oV) (x:=⟨x.name,A.1⟩) (g':=g4) F4 (cw.ae (fun d hd=>lo2 d (ee d hd).2 (by have:=(ee d hd).1;omega)) fun d hd=>lo2 d (ly d hd).2 (YL d (ly d hd).1)) (fun d hd=>by have:=(ee d hd).2;rw [bI];omega) (fun d hd=>by have:=(ly d hd).2;rw [bI];omega) (fun d hd=>?_) (fun d hd=>hf.fresh (ee d hd).1) (by rw [aZ,if_pos rfl]) ⟨_,rfl,jt.ae fun d hd=>?_⟩ rfl (by omega) ?_
   ·rw [bI]
    refine ⟨by rcases nJ d hd with e | e;have:=(pe d (df d e)).1;omega;omega,fun e=>?_⟩
    have h1:=ee d e
    rcases nJ d hd with e' | e'
    ·have:=(pe d (df d e')).1;omega
    ·omega
   ·have h1:d≠H2.next/\d < H4.next/\d≠r:=by
     rcases nJ d hd with e | e
     ·have:=pe d (df d e);exact ⟨by omega,by omega,this.2⟩
     ·exact ⟨by omega,e.2,by omega⟩
    rw [lo d (by omega) h1.2.2,k5' d h1.1]
   ·intro v8 H8 l4 VZ ME GC GD
    have n6:(H6.push ⟨ya ⟨x.name,A.1⟩ (.slice a4 A.1.pat.length k4),104,false,false⟩).next=H6.next+1:=rfl
    refine hk v8 H8 _ (fun d hd=>?_) l4 ((r6.push _).own GC (fun d hd=>(ee d hd).1) fun d hd=>?_) (by omega)
    ·rw [List.mem_singleton] at hd
     subst hd
     exact ⟨by omega,by omega⟩
    ·rw [GD,show (d==(H6.push ⟨ya ⟨x.name,A.1⟩ (.slice a4 A.1.pat.length k4),104,false,false⟩).next)=false from by rw [beq_eq_false_iff_ne];omega,Bool.false_or]
  simp only [go_sem,tG,dw]
  rw [<-ri] at r5 ⊢
  clear ri
  cases rec with
  | false=>
   rw [if_neg (by simp [Mh])] at bk
   simp only [go_sem,eJ,tH,nf,eX F4 (by decide) (by decide)]
   refine app r5 eJ (fun d _=>rfl) (Nat.le_refl _) ?_
   intro v8 H8 rj GF l4 r8 SO
   simp only [go_sem,ei,cH]
   exact ⟨v8,rj,_,_,_,rfl,r8,l4,GF,fun d hd=>⟨(yI d hd).1,by have:=(yI d hd).2;omega⟩,by rw [List.length_append,List.length_singleton,dK],bk⟩
  | true=>
   by_cases Au:A.1.kind=3
   ·rw [if_pos (by simp [Mh,Au])] at bk
    simp only [go_sem,eJ,dw,Au]
    refine ag.by (nh r5.rq) ?_
    rintro _ H6 - p6
    simp only [go_sem,nf,(p6.fr.get H2.next (by omega) (by simp [wo])).trans eJ,tH p6.fr.nx,eX F4 (by decide) (by decide)]
    refine app (r5.call p6) ((p6.fr.get H2.next (by omega) (by simp [wo])).trans eJ) (fun d hd=>p6.fr.get d hd.1 (by simp [hd.2])) p6.fr.nx ?_
    intro v8 H8 rj GF l4 r8 SO
    simp only [go_sem,ei,cH]
    exact ⟨v8,rj,_,_,_,rfl,r8,l4,GF,fun d hd=>⟨(yI d hd).1,by have:=(yI d hd).2;omega⟩,by rw [List.length_append,List.length_singleton,dK],bk⟩
   ·by_cases iO:A.1.kind=4
    ·rw [if_pos (by simp [Mh,iO])] at bk
     simp only [go_sem,eJ,dw,Au,iO]
     refine ag.by (nh r5.rq) ?_
     rintro _ H6 - p6
     simp only [go_sem,nf,(p6.fr.get H2.next (by omega) (by simp [wo])).trans eJ,tH p6.fr.nx,eX F4 (by decide) (by decide)]
     refine app (r5.call p6) ((p6.fr.get H2.next (by omega) (by simp [wo])).trans eJ) (fun d hd=>p6.fr.get d hd.1 (by simp [hd.2])) p6.fr.nx ?_
     intro v8 H8 rj GF l4 r8 SO
     simp only [go_sem,ei,cH]
     exact ⟨v8,rj,_,_,_,rfl,r8,l4,GF,fun d hd=>⟨(yI d hd).1,by have:=(yI d hd).2;omega⟩,by rw [List.length_append,List.length_singleton,dK],bk⟩
    ·rw [if_neg (by simp [Mh,Au,iO])] at bk
     simp only [go_sem,eJ,dw,Au,iO,nf,eX F4 (by decide) (by decide)]
     refine app r5 eJ (fun d _=>rfl) (Nat.le_refl _) ?_
     intro v8 H8 rj GF l4 r8 SO
     simp only [go_sem,ei,cH]
     exact ⟨v8,rj,_,_,_,rfl,r8,l4,GF,fun d hd=>⟨(yI d hd).1,by have:=(yI d hd).2;omega⟩,by rw [List.length_append,List.length_singleton,dK],bk⟩
 ·rintro V H2 ⟨ei,vO,mO,gO,done,t2,nf,r2,cw,ee,ly,dK,bk⟩
  rw [List.drop_length,FK] at bk
  obtain ⟨aO,HH⟩:=cw.val
  subst HH
  have n2:=r2.fr.nx
  have jm:=hv.ae (H':=H2) fun d hd=>r2.k (pe d hd).1 (pe d hd).2
  simp only [go_sem,ei]
  refine ag.by (ag1 jm dC fun d hd=>by have:=(pe d hd).1;omega) ?_
  rintro vn H3 - ⟨⟨g3,fZ,Af⟩,o3,z3⟩
  have r3:=r2.au o3 z3
  have n3:=o3.nx
  obtain ⟨an,kn,zX⟩:=fZ.val
  rw [List.length_map] at zX
  subst zX
  have hsO:=cw.sl.ae (H':=H3) fun d hd=>o3.get d ((List.mem_append.1 hd).elim (fun e=>(ee d e).2) fun e=>(ly d e).2)
  have Rm:∀d∈mO++gO,(d∈gv∨H.next<=d)/\d < H3.next:=fun d hd=>(List.mem_append.1 hd).elim (fun e=>⟨.inr (ee d e).1,by have:=(ee d e).2;omega⟩) fun e=>⟨(ly d e).1,by have:=(ly d e).2;omega⟩
  have YL:∀d,(d∈gv∨H.next<=d)->d≠r:=fun d hd=>hd.elim (fun e=>(pe d e).2) fun e=>by omega
  simp only [go_sem]
  refine ft 4722330454072626282496 fs.length (fun i V2 H4=>V2 55=iV (i:Nat)/\∃t4,RA S P gP H r t m g mi H4 t4/\Fr [r] H3 H4/\Ji l c [] (fs.map (·.name)) t2=Ji l c ((fs.map (·.name)).take i) ((fs.map (·.name)).drop i) t4) ⟨by simp only [go_sem] <;> rfl,t2,r3,Fr.refl _ _,by simp⟩ ?_ ?_ (by rfl)
  ·rintro i V2 H4 hi ⟨HY,t4,r4,f4,vU⟩
   have bX:i < (fs.map (·.name)).length:=by rw [List.length_map];exact hi
   have hx:(fs.map (·.name))[i]?=some ((fs.map (·.name))[i]'bX):=List.getElem?_eq_getElem bX
   have cT:(fs.map (·.name)).drop i=((fs.map (·.name))[i]'bX)::(fs.map (·.name)).drop (i+1):=(List.getElem_cons_drop bX).symm
   have iX:(fs.map (·.name)).take (i+1)=(fs.map (·.name)).take i++[(fs.map (·.name))[i]'bX]:=List.take_succ_eq_append_getElem bX
   generalize ((fs.map (·.name))[i]'bX)=x at hx cT iX
   rw [cT,Ji,<-iX] at vU
   have jt:=fZ.ae (H':=H4) fun d hd=>f4.get d (Af d hd).2 (by have:=(Af d hd).1;simp;omega)
   obtain ⟨vt,gt,dB,Cy,uG⟩:=jt.to (t:=25) (e:=9) (k:=i) U1 (by omega)
   obtain ⟨b,o,c',B,yk,hB,dI,dN⟩:=jt.Me hx
   have cH:IntKind.wrap .i64 (((i:Nat):Int)+1)=((i+1:Nat):Int):=cG hi (by omega)
   simp only [Value.slice.injEq] at yk
   have han:=yk.1
   rw [han] at dB
   have n4:=f4.nx
   simp only [go_sem,HY,hi,han,Option.map_none,Option.map_some,dB,hB,dN]
   refine ag.by (Cj Cy (by rw [List.length_take,List.length_map];omega)) ?_
   rintro _ _ - ⟨rfl,rfl⟩
   by_cases h0:0<=dG ((fs.map (·.name)).take i) x
   ·rw [if_pos h0] at vU
    simp only [go_sem,h0]
    refine ag.by (nh r4.rq) ?_
    rintro _ H6 - p6
    simp only [go_sem,HY,cH]
    exact ⟨_,r4.call p6,f4.then p6.fr,vU⟩
   ·rw [if_neg h0] at vU
    simp only [go_sem,h0,HY,cH]
    exact ⟨_,r4,f4,vU⟩
  ·rintro V2 H4 ⟨HY,t4,r4,f4,vU⟩
   have e1:(fs.map (·.name)).length=fs.length:=List.length_map _
   rw [<-e1,List.drop_length,Ji] at vU
   have n4:=f4.nx
   simp only [go_sem,HY,nf]
   refine ⟨⟨mO++gO,?_,fun d hd=>(Rm d hd).1.imp id fun e=>⟨e,by show d < H4.next;have:=(Rm d hd).2;omega⟩⟩,?_⟩
   ·rw [Cc,bk]
    exact hsO.ae fun d hd=>f4.get d (Rm d hd).2 (by simp;exact YL d (Rm d hd).1)
   ·rw [Cc,bk]
    simp only
    rw [vU]
    exact r4.last
end
section
variable {S:XS} {P:cC} {gP:List Nat} {H H1 H2:ad} {r:Nat} {t t1 t2:VT} {m g g1 g2 mi dL dQ:List Nat}
theorem RA.iB (h:RA S P gP H r t m g mi H1 t1) (fz:Nat->Bool) (hz:∀c,fz c=H.fz c):RA S P gP H r t m g mi (H1.af fz) t1:=by
 rw [show fz=H.fz from funext hz];exact h.told
theorem RA.trans (h:RA S P gP H r t m g mi H1 t1) (h2:RA S P gP H1 r t1 m g mi H2 t2):RA S P gP H r t m g mi H2 t2:=⟨h.fr.then h2.fr,h2.rq,h2.ns.trans h.ns,h2.be.trans h.be,h.b0⟩
theorem RA.app {α:Type} {rp:Rp α} {tt e:TypeId} {dW:Nat} {X:Nat->Bool} (ha:iL Tryz.prog tt=some (e,rp.sz,dW)) (NZ:dW < 1000) (h:RA S P gP H r t m g mi H1 t1) {vO:Value} {done:List α} {mO gO gx:List Nat} {x:α} {cs:List Value} (cw:Gr rp e H1 vO done mO gO) (ee:∀d∈mO,H.next<=d/\d < H1.next/\X d=false) (ly:∀d∈gO,d < H1.next) (hE:rp.E H1 cs x gx) (df:∀d∈gx,d < H1.next/\d∉mO) (h1:lC cs=true) (dK:done.length < 1000000) {K:Value->ad->Prop} {tg:Tag K}
  (hk:∀v8 H8 rj,Gr rp e H8 v8 (done++[x]) rj (gO++gx)->(∀d∈rj,H1.next<=d/\d < H8.next)->RA S P gP H r t m g mi H8 t1->H1.next<=H8.next->(∀d,d < H1.next->d∉mO->H8.get d=H1.get d)->K v8 H8):
  fe Tryz.prog X (H1.push ⟨cs,e,false,false⟩) (iZ Tryz.prog tt vO (.slice (some ⟨H1.next,0,none⟩) 1 1) (H1.push ⟨cs,e,false,false⟩)) K tg:=by
 have n1:(H1.push ⟨cs,e,false,false⟩).next=H1.next+1:=rfl
 have lo:∀d,d < H1.next->(H1.push ⟨cs,e,false,false⟩).get d=H1.get d:=fun d hd=>bO hd
 refine lA (r:=rp) (x:=x) (g':=gx) ha (cw.ae (fun d hd=>lo d (ee d hd).2.1) fun d hd=>lo d (ly d hd)) (fun d hd=>by have:=(ee d hd).2.1;omega) (fun d hd=>by have:=ly d hd;omega) (fun d hd=>⟨by have:=(df d hd).1;omega,(df d hd).2⟩) (fun d hd=>(ee d hd).2.2) (by rw [aZ,if_pos rfl]) (rp.ae hE fun d hd=>lo d (df d hd).1) h1 ?_ ?_
 ·have:(done.length+1) * dW<=1000001 * 1000:=Nat.mul_le_mul (by omega) (by omega)
  omega
 ·intro v8 H8 l4 VZ ME GC GD
  refine hk v8 H8 _ l4 (fun d hd=>?_) ((h.push _).own GC (fun d hd=>(ee d hd).1) fun d hd=>?_) (by omega) fun d hd hn=>(ME d (by omega) hn).trans (lo d hd)
  ·rw [List.mem_singleton] at hd
   omega
  ·rw [GD,show (d==(H1.push ⟨cs,e,false,false⟩).next)=false from by rw [beq_eq_false_iff_ne];omega,Bool.false_or]
structure Av (P:cC):Prop where
 m:P.msgs.length < 1000000
 r:P.dk.length < 1000000
 d:P.defs.length < 1000000
 mt:∀x∈P.msgs,x.types.length < 1000000/\∀y∈x.types,y.pat.length < 1000000
 rf:∀x∈P.dk,x.fields.length < 1000000/\∀y∈x.fields,y.ty.pat.length < 1000000
 dp:∀x∈P.defs,x.params.length < 1000000/\∀y∈x.params,y.ty.pat.length < 1000000
 r0:P.dk=[]
abbrev ua (P:cC):List bC:=P.defs.map (·.name)
def qE (b:Prop) [Decidable b] (e l c:Int) (st:VT):VT:=if b then st.fail e l c else st
def FY (P:cC) (l c:Int):List Ty->List Ty->VT->List Ty × VT
 | [],done,st=>(done,st)
 | y::ts,done,st=>FY P l c ts (done++[(xQ P y l c st).1]) (qE (y.kind=2/\y.cap=3) 2 l c (xQ P y l c st).2)
def JN (P:cC):Nat->List x8->List x8->VT->List x8 × VT
 | _,[],done,st=>(done,st)
 | i,x::l,done,st=>JN P (i+1) l (done++[{x with types:=(FY P x.line x.az x.types [] (qE (0<=dG ((jV P).take i) x.name) 5 x.line x.az st)).1}]) (FY P x.line x.az x.types [] (qE (0<=dG ((jV P).take i) x.name) 5 x.line x.az st)).2
def MG (P:cC):Nat->List CB->List CB->VT->List CB × VT
 | _,[],done,st=>(done,st)
 | i,x::l,done,st=>MG P (i+1) l (done++[{x with fields:=(Cc P true x.line x.az x.fields (qE (0<=dG ((xZ P).take i) x.name) 5 x.line x.az st)).1}]) (Cc P true x.line x.az x.fields (qE (0<=dG ((xZ P).take i) x.name) 5 x.line x.az st)).2
def JO (P:cC):Nat->List gh->List gh->VT->List gh × VT
 | _,[],done,st=>(done,st)
 | i,x::l,done,st=>JO P (i+1) l (done++[{x with params:=(Cc P false x.line x.az x.params (qE (0<=dG ((ua P).take i) x.name) 5 x.line x.az st)).1}]) (Cc P false x.line x.az x.params (qE (0<=dG ((ua P).take i) x.name) 5 x.line x.az st)).2
def pT (P:cC) (st:VT):List x8 × List CB × List gh × VT:=
 let a:=JN P 0 P.msgs [] st
 let b:=MG P 0 P.dk [] a.2
 let c:=JO P 0 P.defs [] b.2
 (a.1,b.1,c.1,c.2)
theorem ahX (h:RQ S P gP H r t m g mi) (hP:Av P):aj Tryz.prog 79 #[pV r] H (fun w H'=>Fr [r] H H'/\(∀c,H'.fz c=H.fz c)/\(pT P t).2.2.2.ns=t.ns/\(pT P t).2.2.2.be=t.be/\∃S' tx mD gD,RQ0 S' {P with msgs:=(pT P t).1,dk:=(pT P t).2.1,defs:=(pT P t).2.2.1} tx H' r (pT P t).2.2.2 m g mi/\(∀d∈tx,d∈gP∨H.next<=d)/\Gr kV 47 H' S'.vD (pT P t).2.2.1 mD gD/\(∀d∈mD,H.next<=d)/\(∀d∈mD++gD,d∈tx)/\∃gx,qs qF H' S'.vM (pT P t).1 gx/\qs u9 H' S'.vR (pT P t).2.1 gx/\∀d∈gx,d∈tx/\d∉mD):=by
 refine aj.told ?_
 refine ni (l:=[_]) _ mixed Tryz.func79 ank [] (show 1<=184 by decide) rfl fun hf=>?_
 simp only [Tryz.f79,Option.getD_some]
 obtain ⟨vN,vI,hr,hN,hI⟩:=h.row
 obtain ⟨gm,hM,pI⟩:=h.sM
 obtain ⟨gr,hR,cw⟩:=h.sR
 obtain ⟨gd,hD,iH⟩:=h.sD
 obtain ⟨aM,kM,hvM⟩:=hM.val
 obtain ⟨aR,kR,hvR⟩:=hR.val
 obtain ⟨aD,kD,OM⟩:=hD.val
 have pJ:=h.hP
 have r0:=(RA.start h).told
 simp only [go_sem,hr]
 refine ag.by (Qv (hM.ae fun _ _=>rfl) hP.m (fun d hd=>(pJ d (pI d hd)).1)) ?_
 rintro vm H1 - ⟨⟨g1,cZ,rV⟩,o1,z1⟩
 have r1:=r0.au o1 z1
 have dY:=(o1.get r h.rl).trans hr
 have n1:H.next<=H1.next:=o1.nx
 simp only [go_sem,hr,dY]
 refine ag.by (aca (hR.ae fun d hd=>r1.k (pJ d (cw d hd)).1 (pJ d (cw d hd)).2) hP.r (fun d hd=>by have:=(pJ d (cw d hd)).1;omega)) ?_
 rintro vr H2 - ⟨⟨g2,fh,jF⟩,o2,z2⟩
 have r2:=r1.au o2 z2
 have n2:=o2.nx
 have dP:=(o2.get r (by have:=h.rl;omega)).trans dY
 simp only [go_sem,hr,dY,dP]
 refine ag.by (UI (hD.ae fun d hd=>r2.k (pJ d (iH d hd)).1 (pJ d (iH d hd)).2) hP.d (fun d hd=>by have:=(pJ d (iH d hd)).1;omega)) ?_
 rintro vd H3 - ⟨⟨g3,fZ,Af⟩,o3,z3⟩
 have r3:=(r2.au o3 z3).told
 have n3:=o3.nx
 have je:=(o3.get r (by have:=h.rl;omega)).trans dP
 simp only [go_sem,dY,dP,je,hvM]
 obtain ⟨H4,jK⟩:=r3.hp
 have s1:Sl .str H4 vm (jV P) g1:=cZ.ae fun d hd=>by rw [jK,bG,o3.get d (by have:=(rV d hd).2;omega),o2.get d (rV d hd).2]
 have s2:Sl .str H4 vr (xZ P) g2:=fh.ae fun d hd=>by rw [jK,bG,o3.get d (jF d hd).2]
 have s3:Sl .str H4 vd (ua P) g3:=fZ.ae fun d hd=>by rw [jK,bG]
 have w1:∀d∈g1,d < H4.next/\d≠r:=fun d hd=>by rw [jK];show d < H3.next/\_;have:H.next<=d/\d < H1.next:=rV d hd;have:=h.rl;exact ⟨by omega,by omega⟩
 have w2:∀d∈g2,d < H4.next/\d≠r:=fun d hd=>by rw [jK];show d < H3.next/\_;have:H1.next<=d/\d < H2.next:=jF d hd;have:=h.rl;exact ⟨by omega,by omega⟩
 have w3:∀d∈g3,d < H4.next/\d≠r:=fun d hd=>by rw [jK];show d < H3.next/\_;have:H2.next<=d/\d < H3.next:=Af d hd;have:=h.rl;exact ⟨by omega,by omega⟩
 have hM4:=hM.ae (H':=H4) fun d hd=>by rw [jK];exact r3.k (pJ d (pI d hd)).1 (pJ d (pI d hd)).2
 have SP:=hR.ae (H':=H4) fun d hd=>by rw [jK];exact r3.k (pJ d (cw d hd)).1 (pJ d (cw d hd)).2
 have hD4:=hD.ae (H':=H4) fun d hd=>by rw [jK];exact r3.k (pJ d (iH d hd)).1 (pJ d (iH d hd)).2
 have n4:H.next<=H4.next:=by rw [jK];show H.next<=H3.next;omega
 have hJ:H4.get r=some ⟨rC S vN vI t,133,false,false⟩:=by rw [jK];exact je
 have wM:∀d∈gm,d < H4.next/\d≠r:=fun d hd=>⟨by have:=(pJ d (pI d hd)).1;omega,(pJ d (pI d hd)).2⟩
 have wR:∀d∈gr,d < H4.next/\d≠r:=fun d hd=>⟨by have:=(pJ d (cw d hd)).1;omega,(pJ d (cw d hd)).2⟩
 have wD:∀d∈gd,d < H4.next/\d≠r:=fun d hd=>⟨by have:=(pJ d (iH d hd)).1;omega,(pJ d (iH d hd)).2⟩
 have i9:∀c,H.fz c=H4.fz c:=fun c=>by rw [jK];rfl
 rw [<-jK] at r3 ⊢
 clear jK
 rw [hvM] at hM4
 have rb:RA S P gP H4 r t m g mi H4 t:=RA.start r3.rq
 have E6:∀{n:Nat},H4.next<=n->H.fz n=false:=fun hn=>hf.fresh (by omega)
 obtain ⟨am,km,hvm⟩:=s1.val
 rw [List.length_map] at hvm
 refine kC 316912650057057350236736849856 P.msgs.length (fun i V H5=>V 37=iV (i:Nat)/\∃vO mO gO done t2,V 6=vO/\RA S P gP H4 r t m g mi H5 t2/\Gr qF 114 H5 vO done mO gO/\(∀d∈mO,H4.next<=d/\d < H5.next)/\(∀d∈gO,(d∈gm∨H4.next<=d)/\d < H5.next/\d∉mO)/\done.length=i/\JN P 0 P.msgs [] t=JN P i (P.msgs.drop i) done t2)
  ⟨by simp only [go_sem] <;> rfl,.slice none 0 0,[],[],[],t,by simp only [go_sem] <;> rfl,rb,Gr.nil _ _ _,by simp,by simp,rfl,rfl⟩ ?_ ?_ (by rfl)
 ·rintro i V H5 hi ⟨ei,vO,mO,gO,done,t2,e6,r5,qe,ee,ly,dK,bk⟩
  have hx:P.msgs[i]?=some (P.msgs[i]'hi):=List.getElem?_eq_getElem hi
  have Am:(P.msgs[i]'hi)∈P.msgs:=List.getElem_mem hi
  have cT:P.msgs.drop i=(P.msgs[i]'hi)::P.msgs.drop (i+1):=(List.getElem_cons_drop hi).symm
  generalize (P.msgs[i]'hi)=x at hx cT Am
  obtain ⟨hxt,YM⟩:=hP.mt x Am
  rw [cT,JN] at bk
  have cH:IntKind.wrap .i64 (((i:Nat):Int)+1)=((i+1:Nat):Int):=cG hi (by have:=hP.m;omega)
  have n5:=r5.fr.nx
  have jg:H.fz H5.next=false:=E6 n5
  obtain ⟨b,o,c',B,gx,yk,hB,dI,df,cb,hE⟩:=(hM4.ae (H':=H5) fun d hd=>r5.k (wM d hd).1 (wM d hd).2).at hx
  simp only [Value.slice.injEq] at yk
  have YN:=yk.1
  obtain ⟨v5,bg,gG⟩:=hE
  obtain ⟨a5,k5,rfl⟩:=gG.val
  have ef:o+i * 4+4<=B.cells.length:=cb
  have bg:(B.cells.drop (o+i * 4)).take 4=[ah x.name,.slice a5 x.types.length k5,iV x.line,iV x.az]:=bg
  refine ja (lB 274877906944 (fun _ H1=>H1=H5.af H.fz) (by simp only [go_sem,ei,hi]) ?_ (by rfl))
  rintro V1 Hx xF
  have r5:=r5.iB H.fz i9
  have qe:Gr qF 114 (H5.af H.fz) vO done mO gO:=qe.ae (fun _ _=>rfl) fun _ _=>rfl
  have hB:(H5.af H.fz).get b=some B:=hB
  have gG:Sl sb (H5.af H.fz) (.slice a5 x.types.length k5) x.types gx:=gG.ae fun _ _=>rfl
  obtain ⟨YO,GG⟩:=r5.hp
  have dH:H5.next=YO.next:=by rw [GG];rfl
  rw [dH] at n5 jg ee ly
  rw [<-GG] at r5 qe hB gG xF
  subst xF
  clear GG dH
  rw [MF,I8]
  refine ja (lB 36028247263150464 (fun V2 H6=>V2 7=iV (i:Nat)/\V2 8=pV Hx.next/\RA S P gP H4 r t m g mi H6 (qE (0<=dG ((jV P).take i) x.name) 5 x.line x.az t2)/\H6.get Hx.next=some ⟨[ah x.name,.slice a5 x.types.length k5,iV x.line,iV x.az],114,false,false⟩/\Hx.next < H6.next/\∀d,d < Hx.next->d≠r->H6.get d=Hx.get d) ?_ ?_ (by rfl))
  ·have r6:=(r5.push ⟨[ah x.name,.slice a5 x.types.length k5,iV x.line,iV x.az],114,false,false⟩).iB H.fz i9
   obtain ⟨H6,fo⟩:=r6.hp
   have iy:H6.get Hx.next=some ⟨[ah x.name,.slice a5 x.types.length k5,iV x.line,iV x.az],114,false,false⟩:=by rw [fo,bG,aZ,if_pos rfl]
   have E4:H6.next=Hx.next+1:=by rw [fo];rfl
   have k6:∀d,d < Hx.next->H6.get d=Hx.get d:=fun d hd=>by rw [fo,bG,bO hd]
   have s6:=s1.ae (H':=H6) fun d hd=>by rw [k6 d (by have:=(w1 d hd).1;omega),r5.k (w1 d hd).1 (w1 d hd).2]
   obtain ⟨vt,gt,dB,Cy,uG⟩:=s6.to (t:=25) (e:=9) (k:=i) U1 (by rw [List.length_map];omega)
   have wo:¬Hx.next=r:=by have:=r5.rq.rl;omega
   simp only [go_sem,ei,hi,YN,hB,ef,bg,jg,Option.map_none,Option.map_some,dB]
   rw [<-fo] at r6 ⊢
   clear fo
   refine ag.by (Cj Cy (by rw [List.length_take,List.length_map];have:=hP.m;omega)) ?_
   rintro _ _ - ⟨rfl,rfl⟩
   by_cases zZ:0<=dG ((jV P).take i) x.name
   ·rw [qE,if_pos zZ]
    simp only [go_sem,zZ,iy]
    refine ag.by (nh (r6.iB H.fz i9).rq) ?_
    rintro _ H7 - p7
    simp only [go_sem]
    refine ⟨((r6.iB H.fz i9).call p7).iB H.fz i9,(p7.fr.get Hx.next (by show Hx.next < H6.next;omega) (by simp [wo])).trans iy,by have:H6.next<=H7.next:=p7.fr.nx;omega,fun d hd hn=>(p7.fr.get d (by show d < H6.next;omega) (by simp [hn])).trans (k6 d hd)⟩
   ·rw [qE,if_neg zZ]
    simp only [go_sem,zZ]
    exact ⟨r6.iB H.fz i9,iy,by omega,fun d hd _=>k6 d hd⟩
  ·rintro V2 H6 ⟨e7,e8,r6,iy,n6,k6⟩
   generalize qE (0<=dG ((jV P).take i) x.name) 5 x.line x.az t2=bu at *
   have qJ:∀d∈gx,d < H4.next/\d≠r:=fun d hd=>wM d (df d hd)
   simp only [go_sem,e7,e8,iy]
   refine AP (r:=sb) Md (gG.ae (H':=H6) fun d hd=>k6 d (by have:=(qJ d hd).1;omega) (qJ d hd).2) (by
    have:x.types.length * 1000<=1000000 * 1000:=Nat.mul_le_mul (by omega) (Nat.le_refl _)
    omega) (fun d hd=>by have:=(qJ d hd).1;omega) ?_
   intro vT H7 mT gT GH yJ nP
   obtain ⟨r7,nO,k7,n7⟩:RA S P gP H4 r t m g mi H7 bu/\(∀d∈mT,H6.next<=d/\d < H7.next)/\(∀d,d < H6.next->H7.get d=H6.get d)/\H6.next<=H7.next:=by
    rcases nP with ⟨rfl,rfl⟩ | ⟨rfl,cs,rfl⟩
    ·exact ⟨r6,by simp,fun _ _=>rfl,Nat.le_refl _⟩
    ·exact ⟨r6.push _,fun d hd=>by rw [List.mem_singleton] at hd;subst hd;exact ⟨Nat.le_refl _,Nat.lt_succ_self _⟩,fun d hd=>bO hd,Nat.le_succ _⟩
   obtain ⟨aT,K6⟩:=GH.val
   subst K6
   have nxl:=r5.rq.rl
   have HT:H4.next<=Hx.next:=r5.fr.nx
   have js:=(k7 Hx.next n6).trans iy
   have ON:H.fz Hx.next=false:=E6 HT
   have r8:=(r7.own (M:=[Hx.next]) ((Fr.refl _ _).ai (b:=Hx.next) (.inl (by simp)) ⟨[ah x.name,.slice aT x.types.length x.types.length,iV x.line,iV x.az],114,false,false⟩) (by simp;omega) fun _ _=>rfl).iB H.fz i9
   obtain ⟨H8,jo⟩:=r8.hp
   have SQ:H8.get Hx.next=some ⟨[ah x.name,.slice aT x.types.length x.types.length,iV x.line,iV x.az],114,false,false⟩:=by rw [jo,bG,aH,if_pos rfl]
   have k8:∀d,d≠Hx.next->H8.get d=H7.get d:=fun d hd=>by rw [jo,bG,aH,if_neg hd]
   have OO:H8.next=H7.next:=by rw [jo];rfl
   simp only [go_sem,e8,js,ON]
   rw [<-jo] at r8 ⊢
   clear jo
   have aoc:=GH.ae (H':=H8) (fun d hd=>k8 d (by have:=(nO d hd).1;omega)) (fun d hd=>k8 d (by have:=(qJ d (yJ d hd)).1;omega))
   have G1:∀d,(d∈gm∨H4.next<=d)->d≠r:=fun d hd=>hd.elim (fun e=>(wM d e).2) fun e=>by have:=rb.rq.rl;omega
   have Wc:∀d,(d∈gm∨Hx.next<=d)->d≠r:=fun d hd=>G1 d (hd.imp id fun e=>by omega)
   refine kC 9903520309671356180765607424 x.types.length (fun k V3 H9=>V3 62=iV (k:Nat)/\∃Dj zc OP,RA S P gP H4 r t m g mi H9 OP/\Gr sb 102 H9 (.slice aT x.types.length x.types.length) (zc++x.types.drop k) mT Dj/\(∀d∈Dj,(d∈gm∨Hx.next<=d)/\d < H9.next/\d∉mT)/\zc.length=k/\FY P x.line x.az x.types [] bu=FY P x.line x.az (x.types.drop k) zc OP/\H9.get Hx.next=some ⟨[ah x.name,.slice aT x.types.length x.types.length,iV x.line,iV x.az],114,false,false⟩/\H8.next<=H9.next/\∀d,d < Hx.next->d≠r->H9.get d=Hx.get d)
    ⟨by simp only [go_sem] <;> rfl,gT,[],bu,r8,aoc,fun d hd=>⟨.inl (df d (yJ d hd)),by have:=(qJ d (yJ d hd)).1;omega,fun e=>by have:=(qJ d (yJ d hd)).1;have:=(nO d e).1;omega⟩,rfl,rfl,SQ,Nat.le_refl _,fun d h1 h2=>by rw [k8 d (by omega),k7 d (by omega),k6 d h1 h2]⟩ ?_ ?_ (by rfl)
   ·rintro k V3 H9 hk ⟨ek,Dj,zc,OP,r9,qc,nU,mK,Dk,K7,n9,k9⟩
    have hy:x.types[k]?=some (x.types[k]'hk):=List.getElem?_eq_getElem hk
    have OQ:(x.types[k]'hk)∈x.types:=List.getElem_mem hk
    have vk:x.types.drop k=(x.types[k]'hk)::x.types.drop (k+1):=(List.getElem_cons_drop hk).symm
    generalize (x.types[k]'hk)=y at hy vk OQ
    have hyp:=YM y OQ
    rw [vk] at qc Dk
    rw [FY] at Dk
    have bX:k < (zc++y::x.types.drop (k+1)).length:=by rw [List.length_append,List.length_cons];omega
    have tj:(zc++y::x.types.drop (k+1))[k]'bX=y:=by subst mK;simp
    have gI:∀y':Ty,(zc++y::x.types.drop (k+1)).set k y'=(zc++[y'])++x.types.drop (k+1):=fun y'=>by subst mK;simp
    have jj:IntKind.wrap .i64 (((k:Nat):Int)+1)=((k+1:Nat):Int):=cG hk (by omega)
    obtain ⟨bT,K8,f1,f2,f3,K6,aek,OR,aBz,kZ,Ro,hET,_⟩:=qc.put bX
    rw [tj] at hET
    obtain ⟨vy,Wd,HZ⟩:=hET
    obtain ⟨ay,ky,rfl⟩:=HZ.val
    have Wd:(K8.drop (k * 5)).take 5=lx y (.slice ay y.pat.length ky):=Wd
    have Ro:k * 5+5<=K8.length:=Ro
    simp only [Value.slice.injEq] at K6
    have rk:=K6.1
    have Rq:bT∈mT:=by rw [aek];simp
    have aBA:=nO bT Rq
    have pF:∀d∈f2,d∈Dj:=fun d hd=>by rw [kZ];simp [hd]
    have YP:H4.next<=H9.next:=r9.fr.nx
    have Ia:H.fz H9.next=false:=E6 YP
    refine ja (lB 9223372036854775808 (fun _ H1=>H1=H9.af H.fz) (by simp only [go_sem,ek,hk]) ?_ (by rfl))
    rintro V4 Hy E7
    have r9:=r9.iB H.fz i9
    have qc:Gr sb 102 (H9.af H.fz) (.slice aT x.types.length x.types.length) (zc++y::x.types.drop (k+1)) mT Dj:=qc.ae (fun _ _=>rfl) fun _ _=>rfl
    have OR:(H9.af H.fz).get bT=_:=OR
    have HZ:Sl gU (H9.af H.fz) (.slice ay y.pat.length ky) y.pat f2:=HZ.ae fun _ _=>rfl
    have K7:(H9.af H.fz).get Hx.next=_:=K7
    have k9:∀d,d < Hx.next->d≠r->(H9.af H.fz).get d=Hx.get d:=k9
    have dH:(H9.af H.fz).next=H9.next:=rfl
    rw [<-dH] at n9 YP Ia nU
    rw [<-E7] at r9 qc OR HZ K7 k9 n9 YP Ia nU
    clear E7 dH
    have cS:=(r9.push ⟨lx y (.slice ay y.pat.length ky),102,false,false⟩).iB H.fz i9
    obtain ⟨du,qf⟩:=cS.hp
    have Kd:du.get Hy.next=some ⟨lx y (.slice ay y.pat.length ky),102,false,false⟩:=by rw [qf,bG,aZ,if_pos rfl]
    have xG:∀d,d < Hy.next->du.get d=Hy.get d:=fun d hd=>by rw [qf,bG,bO hd]
    have ael:du.next=Hy.next+1:=by rw [qf];rfl
    simp only [go_sem,ek,hk,rk,OR,Ro,Wd,Ia]
    rw [<-qf] at cS ⊢
    clear qf
    have We:=(xG Hx.next (by omega)).trans K7
    simp only [go_sem,e8,We,Kd]
    refine ag.by (abz cS.rq hP.m hP.r (ty:=y) (l:=x.line) (c:=x.az) (HZ.ae fun d hd=>xG d (nU d (pF d hd)).2.1) (fun d hd=>⟨by have:=(nU d (pF d hd)).2.1;omega,Wc d (nU d (pF d hd)).1⟩) hyp) ?_
    rintro w eA - ⟨v11,EL,rfl,Ni,aqt,sj⟩
    obtain ⟨OS,Rr,rfl⟩:=Ni.val
    have dV:=cS.call sj
    have Sp:=sj.fr.nx
    have kk:∀d,d < du.next->d≠r->eA.get d=du.get d:=fun d h1 h2=>sj.fr.get d h1 (by simp [h2])
    have wo:Hx.next≠r:=by omega
    have nry:Hy.next≠r:=by omega
    have Ke:=(kk Hx.next (by omega) wo).trans We
    have Rs:=(kk Hy.next (by omega) nry).trans Kd
    have di:bT≠r:=by omega
    have ac9:=(kk bT (by omega) di).trans ((xG bT (by omega)).trans OR)
    generalize hA:xQ P y x.line x.az OP=A at *
    have gC:H.fz bT=false:=E6 (by omega)
    have fR:cY K8 (k * 5) (lx A.1 (.slice OS A.1.pat.length Rr))=cY K8 (k * sb.sz) (lx A.1 (.slice OS A.1.pat.length Rr)):=rfl
    have aod:=qc.ae (H':=eA) (fun d hd=>by
     have:=nO d hd
     rw [kk d (by omega) (by omega),xG d (by omega)]) (fun d hd=>by
     have:=nU d hd
     rw [kk d (by omega) (Wc d this.1),xG d this.2.1])
    obtain ⟨Ib,aBB,f1',f2',f3',aBC,Ve,Wf,aAR,aqu,aAS,aBD,jk⟩:=aod.put bX
    have lk:Ib=bT:=by rw [aek] at Ve;simpa using Ve.symm
    subst lk
    rw [ac9] at Wf
    simp only [Option.some.injEq,cO.mk.injEq,true_and,and_true] at Wf
    subst Wf
    have dF:=(dV.own (M:=[Ib]) ((Fr.refl _ _).ai (b:=Ib) (.inl (by simp)) ⟨cY K8 (k * 5) (lx A.1 (.slice OS A.1.pat.length Rr)),102,true,false⟩) (by simp;omega) fun _ _=>rfl).iB H.fz i9
    obtain ⟨dx,Be⟩:=dF.hp
    have oA:∀d,d≠Ib->dx.get d=eA.get d:=fun d hd=>by rw [Be,bG,aH,if_neg hd]
    have aqv:dx.next=eA.next:=by rw [Be];rfl
    have fk:∀d∈EL,(d∈gm∨Hx.next<=d)/\d < dx.next/\d∉mT:=fun d hd=>(aqt d hd).elim (fun e=>⟨(nU d (pF d e)).1,by have:=(nU d (pF d e)).2.1;omega,(nU d (pF d e)).2.2⟩) fun e=>⟨.inr (by omega),by omega,fun e'=>by have:=(nO d e').2;omega⟩
    have CZ:∀d,d∈f1'∨d∈f3'->d∈Dj:=fun d hd=>by rw [aqu];rcases hd with e | e <;> simp [e]
    have D1:=jk dx (lx A.1 (.slice OS A.1.pat.length Rr)) A.1 EL (fun d hd=>oA d fun e=>(nU d (CZ d hd)).2.2 (e▸Rq)) (by rw [Be,bG,aH,if_pos rfl];rfl) ⟨_,rfl,Ni.ae fun d hd=>oA d fun e=>(fk d hd).2.2 (e▸Rq)⟩ (fun e=>(fk Ib e).2.2 Rq)
    rw [gI,<-Ve] at D1
    have Rt:=(oA Hx.next (by omega)).trans Ke
    have Wg:=(oA Hy.next (by omega)).trans Rs
    have Wh:∀d,d < Hx.next->d≠r->dx.get d=Hx.get d:=fun d h1 h2=>by rw [oA d (by omega),kk d (by omega) h2,xG d (by omega),k9 d h1 h2]
    have yc:∀d∈f1'++(EL++f3'),(d∈gm∨Hx.next<=d)/\d < dx.next/\d∉mT:=fun d hd=>by
     have au:d∈Dj->(d∈gm∨Hx.next<=d)/\d < dx.next/\d∉mT:=fun e=>⟨(nU d e).1,by have:=(nU d e).2.1;omega,(nU d e).2.2⟩
     simp only [List.mem_append] at hd
     rcases hd with e | e | e
     ·exact au (CZ d (.inl e))
     ·exact fk d e
     ·exact au (CZ d (.inr e))
    have EF:k * 5+5<=K8.length:=Ro
    have YQ:¬Hy.next=Ib:=by omega
    have nxb:¬Hx.next=Ib:=by omega
    simp only [go_sem,We,Ke,hk,rk,ac9,gC,EF]
    rw [<-Be] at dF ⊢
    clear Be
    by_cases fQ:y.kind=2
    ·by_cases nE:y.cap=3
     ·simp only [go_sem,e8,YQ,Rs,Wg,Rt,fQ,nE]
      refine ag.by (nh (dF.iB H.fz i9).rq) ?_
      rintro _ ux - qj
      have n13:dx.next<=ux.next:=qj.fr.nx
      have Aw:∀d,d < dx.next->d≠r->ux.get d=dx.get d:=fun d h1 h2=>qj.fr.get d h1 (by simp [h2])
      simp only [go_sem,ek,jj]
      refine ⟨_,_,_,(((dF.iB H.fz i9).call qj).iB H.fz i9),D1.ae (fun d hd=>Aw d (by have:=(nO d hd).2;omega) (by have:=(nO d hd).1;omega)) fun d hd=>Aw d (yc d hd).2.1 (Wc d (yc d hd).1),fun d hd=>⟨(yc d hd).1,by have:=(yc d hd).2.1;show d < ux.next;omega,(yc d hd).2.2⟩,by rw [List.length_append,List.length_singleton,mK],by rw [Dk,qE,if_pos ⟨fQ,nE⟩],(Aw Hx.next (by omega) wo).trans Rt,by show H8.next<=ux.next;omega,fun d h1 h2=>(Aw d (by omega) h2).trans (Wh d h1 h2)⟩
     ·simp only [go_sem,YQ,Rs,Wg,fQ,nE,ek,jj]
      exact ⟨_,_,_,dF.iB H.fz i9,D1.ae (fun _ _=>rfl) (fun _ _=>rfl),yc,by rw [List.length_append,List.length_singleton,mK],by rw [Dk,qE,if_neg (by simp [fQ,nE])],Rt,by omega,Wh⟩
    ·simp only [go_sem,YQ,Rs,Wg,fQ,ek,jj]
     exact ⟨_,_,_,dF.iB H.fz i9,D1.ae (fun _ _=>rfl) (fun _ _=>rfl),yc,by rw [List.length_append,List.length_singleton,mK],by rw [Dk,qE,if_neg (by simp [fQ])],Rt,by omega,Wh⟩
   ·rintro V3 H9 ⟨ek,Dj,zc,OP,r9,qc,nU,mK,Dk,K7,n9,k9⟩
    rw [List.drop_length] at qc Dk
    rw [List.append_nil] at qc
    rw [FY] at Dk
    rw [Dk] at bk
    have r9:=r9.iB H.fz i9
    have nxx:(H9.af H.fz).next=H9.next:=rfl
    have aoe:=qe.ae (H':=H9.af H.fz) (fun d hd=>by rw [bG];have:=ee d hd;exact k9 d this.2 (G1 d (.inr this.1))) (fun d hd=>by rw [bG];exact k9 d (ly d hd).2.1 (G1 d (ly d hd).1))
    have YR:qF.E (H9.af H.fz) [ah x.name,.slice aT x.types.length x.types.length,iV x.line,iV x.az] {x with types:=zc} (mT++Dj):=by
     have ea:=qc.sl.ae (H':=H9.af H.fz) fun _ _=>rfl
     exact ⟨_,rfl,ea⟩
    have n79:H7.next<=H9.next:=by omega
    simp only [go_sem,ek,e6,e8,K7,eX QI (by decide) (by decide)]
    refine r9.app (rp:=qF) QI (by decide) aoe (fun d hd=>⟨(ee d hd).1,by have:=(ee d hd).2;omega,E6 (ee d hd).1⟩) (fun d hd=>by have:=(ly d hd).2.1;omega) YR (fun d hd=>?_) rfl (by have:=hP.m;omega) ?_
    ·rcases List.mem_append.1 hd with e | e
     ·have:=nO d e
      exact ⟨by omega,fun e'=>by have:=(ee d e').2;omega⟩
     ·have:=nU d e
      exact ⟨this.2.1,fun e'=>this.1.elim (fun e=>by have:=(wM d e).1;have:=(ee d e').1;omega) fun e=>by have:=(ee d e').2;omega⟩
    ·intro OT dx Wi D1 MH dF eC oA
     simp only [go_sem,ei,cH]
     refine ⟨OT,Wi,_,_,_,rfl,dF.iB H.fz i9,D1.ae (fun _ _=>rfl) (fun _ _=>rfl),fun d hd=>?_,fun d hd=>?_,by rw [List.length_append,List.length_singleton,dK],bk⟩
     ·have:=MH d hd
      show _/\d < dx.next
      exact ⟨by omega,this.2⟩
     ·have lo:(d∈gm∨H4.next<=d)/\d < (H9.af H.fz).next:=by
       rcases List.mem_append.1 hd with e | e
       ·have:=ly d e;exact ⟨this.1,by omega⟩
       ·rcases List.mem_append.1 e with e | e
        ·have:=nO d e;exact ⟨.inr (by omega),by omega⟩
        ·have:=nU d e;exact ⟨this.1.imp id fun e=>by omega,this.2.1⟩
      exact ⟨lo.1,by show d < dx.next;omega,fun e=>by have:=(MH d e).1;omega⟩
 ·rintro V H6 ⟨ei,vM,mM,gM,dM,tM,e6,rM,aqw,Ic,Ie,aBE,aem⟩
  rw [List.drop_length,JN] at aem
  obtain ⟨YS,vI5,HW,_,_⟩:=rM.rq.row
  have rS:=rM.iB H.fz i9
  obtain ⟨Hs,OU⟩:=rS.hp
  have SR:Hs.get r=some ⟨rC S YS vI5 tM,133,false,false⟩:=by rw [OU];exact HW
  have ada:Gr qF 114 Hs vM dM mM gM:=by rw [OU];exact aqw.ae (fun _ _=>rfl) fun _ _=>rfl
  have Xl:Hs.next=H6.next:=by rw [OU];rfl
  have n4s:H4.next<=Hs.next:=by have:=rM.fr.nx;omega
  simp only [go_sem,ei,HW,hvR]
  rw [<-OU] at rS ⊢
  clear OU
  rw [hvR] at SP
  rw [OM] at hD4
  refine kC 43556142955738918521486114539292705437696 P.dk.length (fun i V H6=>V 103=iV (i:Nat)/\∃vOR YT gOR Vf t3,V 11=vOR/\RA S P gP H4 r t m g mi H6 t3/\Gr u9 153 H6 vOR Vf YT gOR/\(∀d∈YT,Hs.next<=d/\d < H6.next)/\(∀d∈gOR,(d∈gr∨Hs.next<=d)/\d < H6.next/\d∉YT)/\Vf.length=i/\MG P 0 P.dk [] tM=MG P i (P.dk.drop i) Vf t3/\Hs.next<=H6.next/\∀d,d < Hs.next->d≠r->H6.get d=Hs.get d)
   ⟨by simp only [go_sem] <;> rfl,.slice none 0 0,[],[],[],tM,by simp only [go_sem] <;> rfl,rS,Gr.nil _ _ _,by simp,by simp,rfl,rfl,Nat.le_refl _,fun _ _ _=>rfl⟩ ?_ ?_ (by rfl)
  ·rintro i V H5 hi -
   rw [hP.r0] at hi
   exact absurd hi (Nat.not_lt_zero i)
  ·rintro V2 H6 ⟨HY,vR,mR,gR,dR,tR,nf,rR,aqx,OW,OX,aBF,aen,nS6,kS6⟩
   rw [List.drop_length,MG] at aen
   obtain ⟨K9,La,lS,_,_⟩:=rR.rq.row
   have rU:=rR.iB H.fz i9
   obtain ⟨Hu,Lb⟩:=rU.hp
   have hru:Hu.get r=some ⟨rC S K9 La tR,133,false,false⟩:=by rw [Lb];exact lS
   have adb:Gr u9 153 Hu vR dR mR gR:=by rw [Lb];exact aqx.ae (fun _ _=>rfl) fun _ _=>rfl
   have kSu:∀d,d < Hs.next->d≠r->Hu.get d=Hs.get d:=by rw [Lb];exact kS6
   have nxu:Hu.next=H6.next:=by rw [Lb];rfl
   have n4u:H4.next<=Hu.next:=by omega
   simp only [go_sem,HY,lS,OM]
   rw [<-Lb] at rU ⊢
   clear Lb
   refine kC 5986310705113581778054129128459912856470177102020608 P.defs.length (fun i V H6=>V 140=iV (i:Nat)/\∃vOD YU gOD Vg t3,V 14=vOD/\RA S P gP H4 r t m g mi H6 t3/\Gr kV 47 H6 vOD Vg YU gOD/\(∀d∈YU,Hu.next<=d/\d < H6.next)/\(∀d∈gOD,(d∈gd∨Hu.next<=d)/\d < H6.next/\d∉YU)/\Vg.length=i/\JO P 0 P.defs [] tR=JO P i (P.defs.drop i) Vg t3/\Hu.next<=H6.next/\∀d,d < Hu.next->d≠r->H6.get d=Hu.get d)
    ⟨by simp only [go_sem] <;> rfl,.slice none 0 0,[],[],[],tR,by simp only [go_sem] <;> rfl,rU,Gr.nil _ _ _,by simp,by simp,rfl,rfl,Nat.le_refl _,fun _ _ _=>rfl⟩ ?_ ?_ (by rfl)
   ·rintro i V H5 hi ⟨ei,vO,mO,gO,done,t2,e6,r5,qe,ee,ly,dK,bk,nS5,SU⟩
    have hx:P.defs[i]?=some (P.defs[i]'hi):=List.getElem?_eq_getElem hi
    have Am:(P.defs[i]'hi)∈P.defs:=List.getElem_mem hi
    have cT:P.defs.drop i=(P.defs[i]'hi)::P.defs.drop (i+1):=(List.getElem_cons_drop hi).symm
    generalize (P.defs[i]'hi)=x at hx cT Am
    obtain ⟨hxt,YM⟩:=hP.dp x Am
    rw [cT,JO] at bk
    have cH:IntKind.wrap .i64 (((i:Nat):Int)+1)=((i+1:Nat):Int):=cG hi (by have:=hP.d;omega)
    have n5:=r5.fr.nx
    have jg:H.fz H5.next=false:=E6 n5
    obtain ⟨b,o,c',B,gx,yk,hB,dI,df,cb,hE⟩:=(hD4.ae (H':=H5) fun d hd=>r5.k (wD d hd).1 (wD d hd).2).at hx
    simp only [Value.slice.injEq] at yk
    have YN:=yk.1
    obtain ⟨v5,v6,v7,u5,u6,u7,bg,rfl,gG,i7,Nj⟩:=hE
    obtain ⟨a5,k5,rfl⟩:=gG.val
    obtain ⟨a6,E8,rfl⟩:=i7.val
    obtain ⟨E9,Fa,rfl⟩:=Nj.val
    have zJ:∀d∈u5++(u6++u7),d∈u5++(u6++u7):=fun _ h=>h
    have ef:o+i * 9+9<=B.cells.length:=cb
    have bg:(B.cells.drop (o+i * 9)).take 9=ff x (.slice a5 x.params.length k5) (.slice a6 x.pat.length E8) (.slice E9 x.on.length Fa):=bg
    refine ja (lB 2787593149816327892691964784081045188247552 (fun _ H1=>H1=H5.af H.fz) (by simp only [go_sem,ei,hi]) ?_ (by rfl))
    rintro V1 Hx xF
    have r5:=r5.iB H.fz i9
    have qe:Gr kV 47 (H5.af H.fz) vO done mO gO:=qe.ae (fun _ _=>rfl) fun _ _=>rfl
    have hB:(H5.af H.fz).get b=some B:=hB
    have gG:Sl oV (H5.af H.fz) (.slice a5 x.params.length k5) x.params u5:=gG.ae fun _ _=>rfl
    have i7:Sl gU (H5.af H.fz) (.slice a6 x.pat.length E8) x.pat u6:=i7.ae fun _ _=>rfl
    have Nj:Sl eQ (H5.af H.fz) (.slice E9 x.on.length Fa) x.on u7:=Nj.ae fun _ _=>rfl
    have SU:∀d,d < Hu.next->d≠r->(H5.af H.fz).get d=Hu.get d:=SU
    obtain ⟨YO,GG⟩:=r5.hp
    have dH:H5.next=YO.next:=by rw [GG];rfl
    rw [dH] at n5 jg ee ly nS5
    rw [<-GG] at r5 qe hB gG i7 Nj SU xF
    subst xF
    clear GG dH
    rw [MF,I8]
    refine ja (lB 365369834146426096895135824249502592823606738944 (fun V2 H6=>V2 15=iV (i:Nat)/\V2 16=pV Hx.next/\RA S P gP H4 r t m g mi H6 (qE (0<=dG ((ua P).take i) x.name) 5 x.line x.az t2)/\H6.get Hx.next=some ⟨ff x (.slice a5 x.params.length k5) (.slice a6 x.pat.length E8) (.slice E9 x.on.length Fa),47,false,false⟩/\Hx.next < H6.next/\∀d,d < Hx.next->d≠r->H6.get d=Hx.get d) ?_ ?_ (by rfl))
    ·have r6:=(r5.push ⟨ff x (.slice a5 x.params.length k5) (.slice a6 x.pat.length E8) (.slice E9 x.on.length Fa),47,false,false⟩).iB H.fz i9
     obtain ⟨H6,fo⟩:=r6.hp
     have iy:H6.get Hx.next=some ⟨ff x (.slice a5 x.params.length k5) (.slice a6 x.pat.length E8) (.slice E9 x.on.length Fa),47,false,false⟩:=by rw [fo,bG,aZ,if_pos rfl]
     have E4:H6.next=Hx.next+1:=by rw [fo];rfl
     have k6:∀d,d < Hx.next->H6.get d=Hx.get d:=fun d hd=>by rw [fo,bG,bO hd]
     have s6:=s3.ae (H':=H6) fun d hd=>by rw [k6 d (by have:=(w3 d hd).1;omega),r5.k (w3 d hd).1 (w3 d hd).2]
     obtain ⟨vt,gt,dB,Cy,uG⟩:=s6.to (t:=25) (e:=9) (k:=i) U1 (by rw [List.length_map];omega)
     have wo:¬Hx.next=r:=by have:=r5.rq.rl;omega
     simp only [go_sem,ei,hi,YN,hB,ef,bg,jg,Option.map_none,Option.map_some,dB]
     rw [<-fo] at r6 ⊢
     clear fo
     refine ag.by (Cj Cy (by rw [List.length_take,List.length_map];have:=hP.d;omega)) ?_
     rintro _ _ - ⟨rfl,rfl⟩
     by_cases zZ:0<=dG ((ua P).take i) x.name
     ·rw [qE,if_pos zZ]
      simp only [go_sem,zZ,iy]
      refine ag.by (nh (r6.iB H.fz i9).rq) ?_
      rintro _ H7 - p7
      simp only [go_sem]
      refine ⟨((r6.iB H.fz i9).call p7).iB H.fz i9,(p7.fr.get Hx.next (by show Hx.next < H6.next;omega) (by simp [wo])).trans iy,by have:H6.next<=H7.next:=p7.fr.nx;omega,fun d hd hn=>(p7.fr.get d (by show d < H6.next;omega) (by simp [hn])).trans (k6 d hd)⟩
     ·rw [qE,if_neg zZ]
      simp only [go_sem,zZ]
      exact ⟨r6.iB H.fz i9,iy,by omega,fun d hd _=>k6 d hd⟩
    ·rintro V2 H6 ⟨e7,e8,r6,iy,n6,k6⟩
     generalize qE (0<=dG ((ua P).take i) x.name) 5 x.line x.az t2=bu at *
     have qJ:∀d∈(u5++(u6++u7)),d < H4.next/\d≠r:=fun d hd=>wD d (df d hd)
     have HT:H4.next<=Hx.next:=r5.fr.nx
     have ON:H.fz Hx.next=false:=E6 HT
     have nxl:=r5.rq.rl
     have wo:Hx.next≠r:=by omega
     have G1:∀d,(d∈gd∨H4.next<=d)->d≠r:=fun d hd=>hd.elim (fun e=>(wD d e).2) fun e=>by have:=rb.rq.rl;omega
     simp only [go_sem,e8,iy]
     refine ag.by (agk r6.rq hP.m hP.r (fs:=x.params) (rec:=false) (l:=x.line) (c:=x.az) (gG.ae (H':=H6) fun d hd=>k6 d (by have:=(qJ d (zJ d (by simp [hd]))).1;omega) (qJ d (zJ d (by simp [hd]))).2) (fun d hd=>⟨by have:=(qJ d (zJ d (by simp [hd]))).1;omega,(qJ d (zJ d (by simp [hd]))).2⟩) hxt YM) ?_
     rintro w H7 - ⟨⟨g7,jO,hg7⟩,p7⟩
     obtain ⟨a7,YV,rfl⟩:=jO.val
     have r7:=r6.call p7
     have n7:=p7.fr.nx
     have kk:∀d,d < H6.next->d≠r->H7.get d=H6.get d:=fun d h1 h2=>p7.fr.get d h1 (by simp [h2])
     have js:=(kk Hx.next n6 wo).trans iy
     generalize hF:Cc P false x.line x.az x.params bu=F at *
     have r8:=(r7.own (M:=[Hx.next]) ((Fr.refl _ _).ai (b:=Hx.next) (.inl (by simp)) ⟨ff {x with params:=F.1} (.slice a7 F.1.length YV) (.slice a6 x.pat.length E8) (.slice E9 x.on.length Fa),47,false,false⟩) (by simp;omega) fun _ _=>rfl).iB H.fz i9
     obtain ⟨H8,jo⟩:=r8.hp
     have SQ:H8.get Hx.next=some ⟨ff {x with params:=F.1} (.slice a7 F.1.length YV) (.slice a6 x.pat.length E8) (.slice E9 x.on.length Fa),47,false,false⟩:=by rw [jo,bG,aH,if_pos rfl]
     have k8:∀d,d≠Hx.next->H8.get d=H7.get d:=fun d hd=>by rw [jo,bG,aH,if_neg hd]
     have OO:H8.next=H7.next:=by rw [jo];rfl
     have OY:∀d,d < Hx.next->d≠r->H8.get d=Hx.get d:=fun d h1 h2=>by rw [k8 d (by omega),kk d (by omega) h2,k6 d h1 h2]
     have aof:=qe.ae (H':=H8) (fun d hd=>OY d (ee d hd).2 (G1 d (.inr (by have:=(ee d hd).1;omega)))) (fun d hd=>OY d (ly d hd).2.1 (G1 d ((ly d hd).1.imp id fun e=>by omega)))
     have Nk:∀d∈g7,d < H8.next/\d≠Hx.next/\(d∈(u5++(u6++u7))∨Hx.next<=d):=fun d hd=>(hg7 d hd).elim (fun e=>⟨by have:=(qJ d (by exact zJ d (by simp [e]))).1;omega,by have:=(qJ d (by exact zJ d (by simp [e]))).1;omega,.inl (by exact zJ d (by simp [e]))⟩) fun e=>⟨by omega,by omega,.inr (by omega)⟩
     have OZ:kV.E H8 (ff {x with params:=F.1} (.slice a7 F.1.length YV) (.slice a6 x.pat.length E8) (.slice E9 x.on.length Fa)) {x with params:=F.1} (g7++(u6++u7)):=⟨_,_,_,g7,u6,u7,rfl,rfl,jO.ae fun d hd=>k8 d (Nk d hd).2.1,i7.ae fun d hd=>by have:=qJ d (zJ d (by simp [hd]));exact OY d (by omega) this.2,Nj.ae fun d hd=>by have:=qJ d (zJ d (by simp [hd]));exact OY d (by omega) this.2⟩
     simp only [go_sem,e8,js,ON,e6,eX xU (by decide) (by decide)]
     rw [<-jo,<-OO]
     rw [<-jo] at r8
     clear jo
     refine r8.app (X:=H.fz) (rp:=kV) xU (by decide) aof (fun d hd=>⟨by have:=(ee d hd).1;omega,by have:=(ee d hd).2;omega,E6 (by have:=(ee d hd).1;omega)⟩) (fun d hd=>by have:=(ly d hd).2.1;omega) OZ (fun d hd=>?_) rfl (by have:=hP.d;omega) ?_
     ·have au:d∈(u5++(u6++u7))->d < H8.next/\d∉mO:=fun e=>⟨by have:=(qJ d e).1;omega,fun e'=>by have:=(qJ d e).1;have:=(ee d e').1;omega⟩
      rcases List.mem_append.1 hd with e0 | e0
      ·exact (Nk d e0).2.2.elim au fun e=>⟨(Nk d e0).1,fun e'=>by have:=(ee d e').2;omega⟩
      ·exact au (zJ d (by simp only [List.mem_append] at e0 ⊢;rcases e0 with e | e <;> simp [e]))
     ·intro OT dx Wi D1 MH dF eC oA
      simp only [go_sem,ei,cH]
      refine ⟨OT,Wi,_,_,_,rfl,dF.iB H.fz i9,D1.ae (fun _ _=>rfl) (fun _ _=>rfl),fun d hd=>?_,fun d hd=>?_,by rw [List.length_append,List.length_singleton,dK],bk,?_,fun d h1 h2=>?_⟩
      ·have:=MH d hd
       show _/\d < dx.next
       exact ⟨by omega,this.2⟩
      ·have lo:(d∈gd∨Hu.next<=d)/\d < H8.next:=by
        rcases List.mem_append.1 hd with e | e
        ·have:=ly d e;exact ⟨this.1,by omega⟩
        ·have au:d∈(u5++(u6++u7))->(d∈gd∨Hu.next<=d)/\d < H8.next:=fun e=>⟨.inl (df d e),by have:=(qJ d e).1;omega⟩
         rcases List.mem_append.1 e with e0 | e0
         ·exact (Nk d e0).2.2.elim au fun e2=>⟨.inr (by omega),(Nk d e0).1⟩
         ·exact au (zJ d (by simp only [List.mem_append] at e0 ⊢;rcases e0 with e | e <;> simp [e]))
       exact ⟨lo.1,by show d < dx.next;omega,fun e=>by have:=(MH d e).1;omega⟩
      ·show _<=dx.next
       omega
      ·show dx.get d=_
       rw [oA d (by omega) (fun e=>by have:=(ee d e).1;omega),OY d (by omega) h2,SU d h1 h2]
   ·rintro V3 H6 ⟨ei3,vD,mD,gD,dD,tD,YW,rD,Wj,SV,Lc,aBG,aeo,nU6,SW⟩
    rw [List.drop_length,JO] at aeo
    obtain ⟨Fb,O0,q8,SX,Ld⟩:=rD.rq.row
    obtain ⟨SY,Dl⟩:=ada.val
    subst Dl
    obtain ⟨YX,Dl⟩:=adb.val
    subst Dl
    obtain ⟨aD9,Dl⟩:=Wj.val
    subst Dl
    have Fc:=h.fz
    have eP:pT P t=(dM,dR,dD,tD):=by rw [pT,aem,aen,aeo]
    rw [eP]
    simp only [go_sem,ei3,e6,nf,YW,q8,Fc]
    have rr:=(r3.au (aG.refl _) (fun _=>rfl)).trans rD
    have ade:=(ada.ae (H':=Hu) (fun d hd=>kSu d (by have:=(Ic d hd).2;omega) (by have:=(Ic d hd).1;have:=rb.rq.rl;omega)) (fun d hd=>kSu d (by have:=(Ie d hd).2.1;omega) ((Ie d hd).1.elim (fun e=>(wM d e).2) fun e=>by have:=rb.rq.rl;omega))).ae (H':=H6) (fun d hd=>SW d (by have:=(Ic d hd).2;omega) (by have:=(Ic d hd).1;have:=rb.rq.rl;omega)) (fun d hd=>SW d (by have:=(Ie d hd).2.1;omega) ((Ie d hd).1.elim (fun e=>(wM d e).2) fun e=>by have:=rb.rq.rl;omega))
    have adf:=adb.ae (H':=H6) (fun d hd=>SW d (by have:=(OW d hd).2;omega) (by have:=(OW d hd).1;have:=rb.rq.rl;omega)) (fun d hd=>SW d (by have:=(OX d hd).2.1;omega) ((OX d hd).1.elim (fun e=>(wR d e).2) fun e=>by have:=rb.rq.rl;omega))
    have zK:∀d∈(mM++gM)++((mR++gR)++(mD++gD)),(d∈gP∨H4.next<=d)/\d < H6.next/\d≠r:=fun d hd=>by
     have key:(d∈gP∨H4.next<=d)/\d < H6.next:=by
      simp only [List.mem_append] at hd
      rcases hd with (e | e) | (e | e) | (e | e)
      ·exact ⟨.inr (Ic d e).1,by have:=(Ic d e).2;omega⟩
      ·exact ⟨(Ie d e).1.imp (pI d) id,by have:=(Ie d e).2.1;omega⟩
      ·exact ⟨.inr (by have:=(OW d e).1;omega),by have:=(OW d e).2;omega⟩
      ·exact ⟨(OX d e).1.imp (cw d) fun e=>by omega,by have:=(OX d e).2.1;omega⟩
      ·exact ⟨.inr (by have:=(SV d e).1;omega),(SV d e).2⟩
      ·exact ⟨(Lc d e).1.imp (iH d) fun e=>by omega,(Lc d e).2.1⟩
     exact ⟨key.1,key.2,key.1.elim (fun e=>(pJ d e).2) fun e=>by have:=rb.rq.rl;omega⟩
    have kF:∀d,d≠r->((((((H6.af H.fz).ai r ⟨rC ⟨.slice SY dM.length dM.length,S.vR,S.vD⟩ Fb O0 tD,133,false,false⟩).ai r ⟨rC ⟨.slice SY dM.length dM.length,.slice YX dR.length dR.length,S.vD⟩ Fb O0 tD,133,false,false⟩).ai r ⟨rC ⟨.slice SY dM.length dM.length,.slice YX dR.length dR.length,.slice aD9 dD.length dD.length⟩ Fb O0 tD,133,false,false⟩)).af H.fz).get d=H6.get d:=fun d hd=>by rw [bG,aH,if_neg hd,aH,if_neg hd,aH,if_neg hd,bG]
    refine ⟨(((rr.fr.af _).ai (.inl (by simp)) _).ai (.inl (by simp)) _ |>.ai (.inl (by simp)) _).af _,fun _=>trivial,rr.ns,rr.be,⟨.slice SY dM.length dM.length,.slice YX dR.length dR.length,.slice aD9 dD.length dD.length⟩,(mM++gM)++((mR++gR)++(mD++gD)),mD,gD,?_,fun d hd=>(zK d hd).1.imp id fun e=>by omega,?_,fun d hd=>by have:=(SV d hd).1;omega,fun d hd=>by simp only [List.mem_append] at hd ⊢;rcases hd with e | e <;> simp [e],(mM++gM)++(mR++gR),?_,?_,fun d hd=>⟨by simp only [List.mem_append] at hd ⊢;rcases hd with (e | e) | (e | e) <;> simp [e],fun e=>?_⟩⟩
    ·have q:=rD.rq
     exact ⟨⟨Fb,O0,by rw [bG,aH,if_pos rfl],SX.ae (fun d hd=>kF d (q.hm d hd).2.1) (fun d hd=>kF d (q.hg d hd).2),Ld.ae fun d hd=>kF d (q.hi d hd).2.1⟩,(ade.sl.ae fun d hd=>kF d (zK d (by simp only [List.mem_append] at hd ⊢;rcases hd with e | e <;> simp [e])).2.2).i (fun d hd=>by simp only [List.mem_append] at hd ⊢;rcases hd with e | e <;> simp [e]),(adf.sl.ae fun d hd=>kF d (zK d (by simp only [List.mem_append] at hd ⊢;rcases hd with e | e <;> simp [e])).2.2).i (fun d hd=>by simp only [List.mem_append] at hd ⊢;rcases hd with e | e <;> simp [e]),(Wj.sl.ae fun d hd=>kF d (zK d (by simp only [List.mem_append] at hd ⊢;rcases hd with e | e <;> simp [e])).2.2).i (fun d hd=>by simp only [List.mem_append] at hd ⊢;rcases hd with e | e <;> simp [e]),q.rl,fun d hd=>⟨(q.hm d hd).1,(q.hm d hd).2.1,fun e=>(zK d e).1.elim (h.hm d hd).2.2.1 fun e=>by have:=(h.hm d hd).1;omega,(q.hm d hd).2.2.2⟩,fun d hd=>⟨(q.hi d hd).1,(q.hi d hd).2.1,fun e=>(zK d e).1.elim (h.hi d hd).2.2.1 fun e=>by have:=(h.hi d hd).1;omega,(q.hi d hd).2.2.2⟩,q.hg,fun d hd=>(zK d hd).2⟩
    ·exact Wj.ae (fun d hd=>by rw [bG,aH,if_neg,aH,if_neg,aH,if_neg,bG] <;> exact (zK d (by simp [hd])).2.2) (fun d hd=>by rw [bG,aH,if_neg,aH,if_neg,aH,if_neg,bG] <;> exact (zK d (by simp [hd])).2.2)
    ·exact (ade.sl.ae fun d hd=>kF d (zK d (by simp only [List.mem_append] at hd ⊢;rcases hd with e | e <;> simp [e])).2.2).i (fun d hd=>by simp only [List.mem_append] at hd ⊢;rcases hd with e | e <;> simp [e])
    ·exact (adf.sl.ae fun d hd=>kF d (zK d (by simp only [List.mem_append] at hd ⊢;rcases hd with e | e <;> simp [e])).2.2).i (fun d hd=>by simp only [List.mem_append] at hd ⊢;rcases hd with e | e <;> simp [e])
    ·have h1:=(SV d e).1
     simp only [List.mem_append] at hd
     rcases hd with (e | e) | (e | e)
     ·have:=(Ic d e).2;omega
     ·have:=(Ie d e).2.1;omega
     ·have:=(OW d e).2;omega
     ·have:=(OX d e).2.1;omega
end
section
variable {S:XS} {P:cC} {gP:List Nat} {H H1 H2:ad} {r:Nat} {t t1 t2:VT} {m g g1 g2 mi dL dQ:List Nat}
theorem RA.rr (h:RA S P gP H r t m g mi H1 t1):RR S P gP H r t m g mi H1 t1 g mi:=
 ⟨h.fr.sub fun c hc=>.inl (by rw [List.mem_singleton] at hc;simp [hc]),h.rq,by rw [h.ns],fun _ h=>.inl h,fun _ h=>.inl h,h.b0.fz,h.b0.fm,h.b0.fi,h.b0.fn⟩
theorem RR.iB (h:RR S P gP H r t m g mi H1 t1 g1 dL) (fz:Nat->Bool) (hz:∀c,fz c=H.fz c):RR S P gP H r t m g mi (H1.af fz) t1 g1 dL:=by
 rw [show fz=H.fz from funext hz];exact h.told
structure FZ (H:ad) (n:aJ) (vA vP vB:Value) (gA gQ gB:List Nat):Prop where
 a:Sl jy H vA n.args gA
 q:Sl gU H vP n.pat gQ
 b:Sl eQ H vB n.ak gB
theorem FZ.ae {n:aJ} {vA vP vB:Value} {gA gQ gB:List Nat} (h:FZ H n vA vP vB gA gQ gB) (hk:∀c∈gA++(gQ++gB),H1.get c=H.get c):FZ H1 n vA vP vB gA gQ gB:=
 ⟨h.a.ae fun c hc=>hk c (by simp [hc]),h.q.ae fun c hc=>hk c (by simp [hc]),h.b.ae fun c hc=>hk c (by simp [hc])⟩
theorem L4 {b:Nat} {A B:cO}:(H.ai b A).ai b B=H.ai b B:=by
 unfold ad.ai
 congr 1
 funext x
 by_cases hx:x=b <;> simp [hx]
theorem RQ0.node (h:RQ0 S P gP H r t m g mi) {k:Nat} (hk:k < t.ns.length):∃vI b cs vA vP vB gA gQ gB,H.get r=some ⟨rC S (.slice (some ⟨b,0,none⟩) t.ns.length t.ns.length) vI t,133,false,false⟩/\kr H vI t.be mi/\m=[b]/\H.get b=some ⟨cs,59,true,false⟩/\k * 20+20<=cs.length/\(cs.drop (k * 20)).take 20=aU (t.ns.getD k {}) vA vP vB/\FZ H (t.ns.getD k {}) vA vP vB gA gQ gB/\∀c∈gA++(gQ++gB),c∈g:=by
 obtain ⟨vN,vI,hr,cw,hI⟩:=h.row
 obtain ⟨b,cs,f1,f2,f3,rfl,rfl,hb,gJ,rfl,bX,hE,_⟩:=cw.put hk
 obtain ⟨wA,wP,wB,e1,e2,e3,bg,rfl,s1,s2,s3⟩:=hE
 have gu:(t.ns.getD k {})=t.ns[k]:=by rw [List.getD_eq_getElem?_getD,List.getElem?_eq_getElem hk];rfl
 rw [gu]
 exact ⟨vI,b,cs,wA,wP,wB,e1,e2,e3,hr,hI,rfl,hb,bX,bg,⟨s1,s2,s3⟩,fun c hc=>by simp only [List.mem_append] at hc ⊢;rcases hc with e | e | e <;> simp [e]⟩
theorem RR.Wk (h:RR S P gP H r t m g mi H1 t1 g1 dL) {k:Nat} (hk:k < t1.ns.length) {n:aJ} {vA vP vB:Value} {gA gQ gB:List Nat} (hn:FZ H1 n vA vP vB gA gQ gB) (hg:∀c∈gA++(gQ++gB),c < H1.next/\c≠r/\c∉m/\c∉dL/\(c∈g∨H.next<=c)):
  ∃vI b cs,H1.get r=some ⟨rC S (.slice (some ⟨b,0,none⟩) t1.ns.length t1.ns.length) vI t1,133,false,false⟩/\b∈m/\H1.get b=some ⟨cs,59,true,false⟩/\k * 20+20<=cs.length/\
  ∃g2,RR S P gP H r t m g mi (H1.ai b ⟨cY cs (k * 20) (aU n vA vP vB),59,true,false⟩) {t1 with ns:=t1.ns.set k n} g2 dL/\∀c∈g2,c∈g1∨c∈gA++(gQ++gB):=by
 have q:=h.rq
 obtain ⟨vN,vI,hr,cw,hI⟩:=q.row
 obtain ⟨b,cs,f1,f2,f3,rfl,rfl,hb,gJ,rfl,bX,hE,jk⟩:=cw.put hk
 obtain ⟨fB,eo,fU,qY,fj⟩:=q.hm b (by simp)
 have kg:∀c,c≠b->(H1.ai b ⟨cY cs (k * 20) (aU n vA vP vB),59,true,false⟩).get c=H1.get c:=fun c hc=>by rw [aH,if_neg hc]
 have so:∀c∈f1++(f2++f3),c≠b:=fun c hc e=>qY (e▸hc)
 have YY:∀c∈gA++(gQ++gB),c≠b:=fun c hc e=>(hg c hc).2.2.1 (by simp [e])
 have jF:=hn.ae (H1:=H1.ai b ⟨cY cs (k * 20) (aU n vA vP vB),59,true,false⟩) fun c hc=>kg c (YY c hc)
 have cA:=jk (H1.ai b ⟨cY cs (k * 20) (aU n vA vP vB),59,true,false⟩) (aU n vA vP vB) n (gA++(gQ++gB)) (fun z hz=>kg z (so z (by rcases hz with e | e <;> simp [e]))) (by rw [aH,if_pos rfl];rfl) ⟨vA,vP,vB,gA,gQ,gB,rfl,rfl,jF.a,jF.q,jF.b⟩ (fun e=>YY b e rfl)
 have kP:∀c∈gP,(H1.ai b ⟨cY cs (k * 20) (aU n vA vP vB),59,true,false⟩).get c=H1.get c:=fun c hc=>kg c fun e=>fU (e▸hc)
 have mem:∀c∈f1++((gA++(gQ++gB))++f3),c∈f1++(f2++f3)∨c∈gA++(gQ++gB):=fun c hc=>by
  simp only [List.mem_append] at hc ⊢
  rcases hc with e | (e | e | e) | e <;> simp [e]
 refine ⟨vI,b,cs,hr,by simp,hb,bX,f1++((gA++(gQ++gB))++f3),⟨h.fr.ai (.inl (by simp)) _,{row:=⟨_,vI,(kg r (Ne.symm eo)).trans hr,cA,hI.ae fun c hc=>kg c fun e=>fj (e▸hc)⟩,sM:=q.sM.ae kP,sR:=q.sR.ae kP,sD:=q.sD.ae kP,rl:=q.rl,hm:=fun c hc=>?_,hi:=fun c hc=>⟨(q.hi c hc).1,(q.hi c hc).2.1,(q.hi c hc).2.2.1,fun e=>(mem c e).elim (q.hi c hc).2.2.2 fun e=>(hg c e).2.2.2.1 hc⟩,hg:=fun c hc=>(mem c hc).elim (q.hg c) fun e=>⟨(hg c e).1,(hg c e).2.1⟩,hP:=q.hP,fz:=q.fz,fm:=q.fm,fi:=q.fi,fn:=q.fn},by rw [List.length_set];exact h.le,h.si,fun c hc=>(mem c hc).elim (h.sg c) fun e=>(hg c e).2.2.2.2,h.z0,h.zm,h.zi,h.zn⟩,mem⟩
 rw [List.mem_singleton] at hc
 subst hc
 exact ⟨fB,eo,fU,fun e=>(mem _ e).elim qY fun e=>YY _ e rfl,fj⟩
theorem RR.oT (h:RR S P gP H r t m g mi H1 t1 g1 dL) {k j:Nat} (hk:k < t1.ns.length) (hj:j < 17) {v:Value} {n':aJ} (hn:∀wA wP wB,(aU (t1.ns.getD k {}) wA wP wB).set j v=aU n' wA wP wB) (ha:n'.args=(t1.ns.getD k {}).args) (hp:n'.pat=(t1.ns.getD k {}).pat) (di:n'.ak=(t1.ns.getD k {}).ak):
  ∃vI b cs,H1.get r=some ⟨rC S (.slice (some ⟨b,0,none⟩) t1.ns.length t1.ns.length) vI t1,133,false,false⟩/\b∈m/\H1.get b=some ⟨cs,59,true,false⟩/\k * 20+20<=cs.length/\
  ∃g2,RR S P gP H r t m g mi (H1.ai b ⟨cs.set (k * 20+j) v,59,true,false⟩) {t1 with ns:=t1.ns.set k n'} g2 dL:=by
 obtain ⟨vI,b,cs,vA,vP,vB,gA,gQ,gB,hr,hI,jr,hb,bX,bg,fH,uH⟩:=h.rq.toRQ0.node hk
 have jr:b∈m:=by rw [jr];simp
 have q:=h.rq
 obtain ⟨vI',b',gi,iU,aBH,dX,aBI,g2,h2,_⟩:=h.Wk hk (n:=n') (vA:=vA) (vP:=vP) (vB:=vB) (gA:=gA) (gQ:=gQ) (gB:=gB) ⟨ha▸fH.a,hp▸fH.q,di▸fH.b⟩ fun c hc=>⟨(q.hg c (uH c hc)).1,(q.hg c (uH c hc)).2,fun e=>(q.hm c e).2.2.2.1 (uH c hc),fun e=>(q.hi c e).2.2.2 (uH c hc),h.sg c (uH c hc)⟩
 rw [hr] at iU
 simp only [rC,Option.some.injEq,cO.mk.injEq,List.cons.injEq,Value.slice.injEq,Addr.mk.injEq,and_true,true_and] at iU
 obtain ⟨rfl,_⟩:=iU
 rw [hb] at dX
 simp only [Option.some.injEq,cO.mk.injEq,and_true] at dX
 subst dX
 have bf:k * 20+j < cs.length:=by omega
 have fR:cs.set (k * 20+j) v=cY cs (k * 20) (aU n' vA vP vB):=by
  have:=AE (vs:=[v]) bg (k:=j) (by show j+1<=20;omega) bX
  rw [fL bf] at this
  rw [this,<-hn vA vP vB]
  have e:cY (aU (t1.ns.getD k {}) vA vP vB) j [v]=(aU (t1.ns.getD k {}) vA vP vB).set j v:=fL (by show j < 20;omega)
  rw [e]
 exact ⟨vI,b,cs,hr,jr,hb,bX,g2,fR▸h2⟩
end
theorem aa1:∀(l:List bC) (s:bC) (i:Nat),0<=findF s i l->∃k,findF s i l=((i+k:Nat):Int)/\k < l.length
 | [],s,i,h=>by simp [findF] at h
 | x::l,s,i,h=>by
  rw [findF] at h ⊢
  by_cases hx:x=s
  ·rw [if_pos hx];exact ⟨0,by simp,by simp⟩
  ·rw [if_neg hx] at h ⊢
   obtain ⟨k,h1,h2⟩:=aa1 l s (i+1) h
   exact ⟨k+1,by rw [h1];congr 1;omega,by simp;omega⟩
theorem PZ {l:List bC} {s:bC} (h:0<=dG l s):∃k:Nat,dG l s=(k:Int)/\k < l.length:=by
 obtain ⟨k,h1,h2⟩:=aa1 l s 0 h
 exact ⟨k,by rw [dG,h1];simp,h2⟩
def Cv (b:Prop) [Decidable b] (e:Int) (n:aJ) (t:VT):VT:=if b then t.fail e n.line n.az else t
def JP (n:aJ) (t:VT):Nat:=if n.kind=17 then t.inner.toNat else 0
def mw (n:aJ) (t:VT):aJ × VT:=if n.ie=[] then (n,t)
 else ({n with y:=lG t.be n.ie (JP n t)},Cv (lG t.be n.ie (JP n t) < 0) 4 n t)
def vf (n:aJ) (be:List nT):List oU->List oU->VT->List oU × VT
 | [],done,t=>(done,t)
 | a::l,done,t=>if a.kind=1 then vf n be l (done++[a]) t else vf n be l (done++[{a with n:=lG be a.name 0}]) (Cv (lG be a.name 0 < 0) 4 n t)
def Mi (x y:Nat) (n:aJ) (t:VT):VT:=if ((x:Nat):Int)=((y:Nat):Int) then t else t.fail 6 n.line n.az
def A7 (P:cC) (n:aJ) (t:VT):Option aJ × VT:=
 if n.kind=9 then (if dG (jV P) n.ik < 0 then (none,t.fail 4 n.line n.az) else (some {n with f:=dG (jV P) n.ik},Mi n.args.length ((P.msgs.getD (dG (jV P) n.ik).toNat ⟨[],[],0,0⟩).types.length) n t))
 else if n.kind=10∨n.kind=13 then (if dG (ua P) n.ik < 0 then (none,t.fail 4 n.line n.az) else (some {n with f:=dG (ua P) n.ik},Mi n.args.length ((P.defs.getD (dG (ua P) n.ik).toNat ⟨[],[],0,0,0,0,false,[],[]⟩).params.length) n t))
 else if n.kind=4∨n.kind=5∨n.kind=6∨n.kind=7 then
  (if n.rc= -1 then (some n,t)
   else if dG (xZ P) n.j4 < 0 then (none,t.fail 4 n.line n.az)
   else (let rc:=dG (xZ P) n.j4
    let fs:=(P.dk.getD rc.toNat ⟨[],[],0,0⟩).fields
    if n.kind=4 then (some {n with rc:=rc},Mi n.args.length fs.length n t)
    else if dG (fs.map (·.name)) n.ik < 0 then (none,t.fail 4 n.line n.az) else (some {n with rc:=rc,f:=dG (fs.map (·.name)) n.ik},t)))
 else (some n,t)
def QQ (P:cC) (n:aJ) (t:VT):Option aJ × VT:=
 A7 P {(mw n t).1 with args:=(vf n t.be n.args [] (mw n t).2).1} (vf n t.be n.args [] (mw n t).2).2
def QS (P:cC) (k:Nat) (t:VT):Option VT:=
 if k < t.ns.length/\0<=t.inner/\t.be.length < 1000000/\(t.ns.getD k {}).args.length < 1000000/\((mw (t.ns.getD k {}) t).1.kind≠4/\(mw (t.ns.getD k {}) t).1.kind≠5/\(mw (t.ns.getD k {}) t).1.kind≠6/\(mw (t.ns.getD k {}) t).1.kind≠7) then
  some (match (QQ P (t.ns.getD k {}) t).1 with
   | some n'=>{(QQ P (t.ns.getD k {}) t).2 with ns:=t.ns.set k n'}
   | none=>(QQ P (t.ns.getD k {}) t).2)
 else none
theorem afI (n:aJ) (t:VT):(mw n t).1.args=n.args/\(mw n t).1.pat=n.pat/\(mw n t).1.ak=n.ak/\(mw n t).1.line=n.line/\(mw n t).1.az=n.az/\(mw n t).2.be=t.be/\(mw n t).2.ns=t.ns:=by
 unfold mw
 split
 ·exact ⟨rfl,rfl,rfl,rfl,rfl,rfl,rfl⟩
 ·unfold Cv
  split
  ·exact ⟨rfl,rfl,rfl,rfl,rfl,VT.Uj _ _ _ _,VT.Us _ _ _ _⟩
  ·exact ⟨rfl,rfl,rfl,rfl,rfl,rfl,rfl⟩
section
variable {S:XS} {P:cC} {gP:List Nat} {H H1 H2:ad} {r:Nat} {t t1 t2:VT} {m g g1 g2 mi dL dQ:List Nat}
theorem alm (h:RQ S P gP H r t m g mi) (hP:Av P) {k:Nat} {t':VT} (he:QS P k t=some t'):aj Tryz.prog 109 #[pV r,iV (k:Nat)] H (fun w H'=>xX S P gP H r t m g mi t' H'):=by
 refine aj.told ?_
 refine ni (l:=[_,_]) _ mixed Tryz.func109 ai5 [] (show 2<=234 by decide) rfl fun hf=>?_
 simp only [Tryz.f109,Option.getD_some]
 unfold QS at he
 split at he
 case isFalse=>cases he
 rename_i hb
 obtain ⟨hk,fH,bX,iT,SZ⟩:=hb
 obtain ⟨vI,b,cs,vA,vQ,vB,gA,gQ,gB,hr,hI,jr,hb,cb,bg,mJ,uH⟩:=h.toRQ0.node hk
 generalize hn:t.ns.getD k {}=n at *
 obtain ⟨aA,kA,rfl⟩:=mJ.a.val
 obtain ⟨aQ,kQ,rfl⟩:=mJ.q.val
 obtain ⟨aB,kB,rfl⟩:=mJ.b.val
 have r1:=((RA.start h).push ⟨aU n (.slice aA n.args.length kA) (.slice aQ n.pat.length kQ) (.slice aB n.ak.length kB),59,false,false⟩).told
 have tL:∀c∈gA++(gQ++gB),c < H.next/\c≠r:=fun c hc=>h.hg c (uH c hc)
 have eV:H.fz H.next=false:=hf.fresh (Nat.le_refl _)
 have ij:¬H.next=r:=by have:=h.rl;omega
 have nr:¬r=H.next:=fun e=>ij e.symm
 refine ja (lB 2199023255344 (fun V H1=>V 4=pV H.next/\RA S P gP H r t m g mi H1 (mw n t).2/\H1.get H.next=some ⟨aU (mw n t).1 (.slice aA n.args.length kA) (.slice aQ n.pat.length kQ) (.slice aB n.ak.length kB),59,false,false⟩/\H.next < H1.next) ?_ ?_ (by rfl))
 ·obtain ⟨H1,cu⟩:=r1.hp
  have ib:H1.get H.next=some ⟨aU n (.slice aA n.args.length kA) (.slice aQ n.pat.length kQ) (.slice aB n.ak.length kB),59,false,false⟩:=by rw [cu,bG,aZ,if_pos rfl]
  have KZ:H1.next=H.next+1:=by rw [cu];rfl
  obtain ⟨vN1,vI1,dY,_,_⟩:=r1.rq.row
  rw [<-cu] at dY
  by_cases hy:n.ie=[]
  ·rw [mw,if_pos hy]
   simp only [go_sem,hr,hk,hb,cb,bg,eV,hy]
   rw [<-cu] at r1 ⊢
   exact ⟨r1,by omega⟩
  ·rw [mw,if_neg hy]
   obtain ⟨ti,YZ⟩:=Int.eq_ofNat_of_zero_le fH
   by_cases Ru:n.kind=17
   ·simp only [go_sem,hr,hk,hb,cb,bg,eV,hy,Ru,YZ,nr]
    rw [<-cu] at r1 ⊢
    refine ag.by (Qy r1.rq.toRQ0 bX (s:=n.ie) (fr:=ti)) ?_
    rintro _ _ - ⟨rfl,rfl⟩
    have Y0:JP n t=ti:=by rw [JP,if_pos Ru,YZ,Int.toNat_natCast]
    rw [Y0]
    have r2:=(r1.own (M:=[H.next]) ((Fr.refl _ _).ai (b:=H.next) (.inl (by simp)) ⟨aU {n with y:=lG t.be n.ie ti} (.slice aA n.args.length kA) (.slice aQ n.pat.length kQ) (.slice aB n.ak.length kB),59,false,false⟩) (by simp) fun _ _=>rfl).told
    obtain ⟨H2,xu⟩:=r2.hp
    have oF:H2.get H.next=some ⟨aU {n with y:=lG t.be n.ie ti} (.slice aA n.args.length kA) (.slice aQ n.pat.length kQ) (.slice aB n.ak.length kB),59,false,false⟩:=by rw [xu,bG,aH,if_pos rfl]
    have nx2:H2.next=H1.next:=by rw [xu];rfl
    by_cases de:lG t.be n.ie ti < 0
    ·rw [Cv,if_pos de]
     simp only [go_sem,ib,eV,de]
     rw [<-xu] at r2 ⊢
     refine ag.by (nh r2.rq) ?_
     rintro _ H3 - p3
     have n3:H2.next<=H3.next:=p3.fr.nx
     simp only [go_sem]
     exact ⟨(r2.call p3).told,(p3.fr.get H.next (by omega) (by simp [ij])).trans oF,by omega⟩
    ·rw [Cv,if_neg de]
     simp only [go_sem,ib,eV,de]
     rw [<-xu] at r2 ⊢
     exact ⟨r2,by omega⟩
   ·simp only [go_sem,hr,hk,hb,cb,bg,eV,hy,Ru,YZ,nr]
    rw [<-cu] at r1 ⊢
    refine ag.by (Qy r1.rq.toRQ0 bX (s:=n.ie) (fr:=0)) ?_
    rintro _ _ - ⟨rfl,rfl⟩
    have Y0:JP n t=0:=by rw [JP,if_neg Ru]
    rw [Y0]
    have r2:=(r1.own (M:=[H.next]) ((Fr.refl _ _).ai (b:=H.next) (.inl (by simp)) ⟨aU {n with y:=lG t.be n.ie 0} (.slice aA n.args.length kA) (.slice aQ n.pat.length kQ) (.slice aB n.ak.length kB),59,false,false⟩) (by simp) fun _ _=>rfl).told
    obtain ⟨H2,xu⟩:=r2.hp
    have oF:H2.get H.next=some ⟨aU {n with y:=lG t.be n.ie 0} (.slice aA n.args.length kA) (.slice aQ n.pat.length kQ) (.slice aB n.ak.length kB),59,false,false⟩:=by rw [xu,bG,aH,if_pos rfl]
    have nx2:H2.next=H1.next:=by rw [xu];rfl
    by_cases de:lG t.be n.ie 0 < 0
    ·rw [Cv,if_pos de]
     simp only [go_sem,ib,eV,de]
     rw [<-xu] at r2 ⊢
     refine ag.by (nh r2.rq) ?_
     rintro _ H3 - p3
     have n3:H2.next<=H3.next:=p3.fr.nx
     simp only [go_sem]
     exact ⟨(r2.call p3).told,(p3.fr.get H.next (by omega) (by simp [ij])).trans oF,by omega⟩
    ·rw [Cv,if_neg de]
     simp only [go_sem,ib,eV,de]
     rw [<-xu] at r2 ⊢
     exact ⟨r2,by omega⟩
 ·rintro V H1 ⟨e4,r2,oF,n2⟩
  obtain ⟨ka,kp,kb,kl,kc,ki,kn⟩:=afI n t
  have eU:QQ P n t=A7 P {(mw n t).1 with args:=(vf n t.be n.args [] (mw n t).2).1} (vf n t.be n.args [] (mw n t).2).2:=rfl
  rw [eU] at he
  clear eU
  generalize (mw n t).1=n1 at *
  generalize (mw n t).2=t1 at *
  have lo1:∀c,c < H.next->c≠r->H1.get c=H.get c:=fun c h1 h2=>r2.k h1 h2
  refine ja (lB 604462909805115564097728 (fun _ H3=>∃Ax mA,RA S P gP H r t m g mi H3 (vf n t.be n.args [] t1).2/\H3.get H.next=some ⟨aU {n1 with args:=(vf n t.be n.args [] t1).1} (.slice Ax n.args.length n.args.length) (.slice aQ n.pat.length kQ) (.slice aB n.ak.length kB),59,false,false⟩/\Sl jy H3 (.slice Ax n.args.length n.args.length) (vf n t.be n.args [] t1).1 mA/\(∀d∈mA,H.next < d/\d < H3.next)/\H.next < H3.next) ?_ ?_ (by rfl))
  ·simp only [go_sem,e4,oF]
   refine AP (r:=jy) rz (mJ.a.ae (H':=H1) fun c hc=>lo1 c (tL c (by simp [hc])).1 (tL c (by simp [hc])).2) (by
    have:n.args.length * 1000<=1000000 * 1000:=Nat.mul_le_mul (by omega) (Nat.le_refl _)
    omega) (fun c hc=>by have:=(tL c (by simp [hc])).1;omega) ?_
   intro vL H2 mL gL cw uE nP
   have gu:=cw.flat
   subst gu
   obtain ⟨aL,wh⟩:=cw.val
   subst wh
   obtain ⟨r3,hU,k2,eC⟩:RA S P gP H r t m g mi H2 t1/\(∀d∈mL,H1.next<=d/\d < H2.next)/\(∀d,d < H1.next->H2.get d=H1.get d)/\H1.next<=H2.next:=by
    rcases nP with ⟨rfl,rfl⟩ | ⟨rfl,cs,rfl⟩
    ·exact ⟨r2,by simp,fun _ _=>rfl,Nat.le_refl _⟩
    ·exact ⟨r2.push _,fun d hd=>by rw [List.mem_singleton] at hd;subst hd;exact ⟨Nat.le_refl _,Nat.lt_succ_self _⟩,fun d hd=>bO hd,Nat.le_succ _⟩
   have ml:=(k2 H.next n2).trans oF
   have r4:=(r3.own (M:=[H.next]) ((Fr.refl _ _).ai (b:=H.next) (.inl (by simp)) ⟨aU n1 (.slice aL n.args.length n.args.length) (.slice aQ n.pat.length kQ) (.slice aB n.ak.length kB),59,false,false⟩) (by simp) fun _ _=>rfl).told
   obtain ⟨H4,jK⟩:=r4.hp
   have tG:H4.get H.next=some ⟨aU n1 (.slice aL n.args.length n.args.length) (.slice aQ n.pat.length kQ) (.slice aB n.ak.length kB),59,false,false⟩:=by rw [jK,bG,aH,if_pos rfl]
   have k4:∀d,d≠H.next->H4.get d=H2.get d:=fun d hd=>by rw [jK,bG,aH,if_neg hd]
   have HT:H4.next=H2.next:=by rw [jK];rfl
   simp only [go_sem,e4,ml,eV]
   rw [<-jK] at r4 ⊢
   clear jK
   have j5:=cw.ae (H':=H4) (fun d hd=>k4 d (by have:=(hU d hd).1;omega)) (by simp)
   refine kC 604462909525839610642624 n.args.length (fun i V3 H5=>V3 48=iV (i:Nat)/\∃done t5,RA S P gP H r t m g mi H5 t5/\H5.get H.next=some ⟨aU n1 (.slice aL n.args.length n.args.length) (.slice aQ n.pat.length kQ) (.slice aB n.ak.length kB),59,false,false⟩/\Gr jy 145 H5 (.slice aL n.args.length n.args.length) (done++n.args.drop i) mL []/\H4.next<=H5.next/\done.length=i/\vf n t.be n.args [] t1=vf n t.be (n.args.drop i) done t5)
    ⟨by simp only [go_sem] <;> rfl,[],t1,r4,tG,j5,Nat.le_refl _,rfl,rfl⟩ ?_ ?_ (by rfl)
   ·rintro i V3 H5 hi ⟨ei,done,t5,r5,eJ,lH,xz,dK,sG⟩
    have hx:n.args[i]?=some (n.args[i]'hi):=List.getElem?_eq_getElem hi
    have cT:n.args.drop i=(n.args[i]'hi)::n.args.drop (i+1):=(List.getElem_cons_drop hi).symm
    generalize (n.args[i]'hi)=x at hx cT
    obtain ⟨xk,xn,xs⟩:=x
    rw [cT] at lH sG
    rw [vf] at sG
    have CI:i < (done++⟨xk,xn,xs⟩::n.args.drop (i+1)).length:=by rw [List.length_append,List.length_cons];omega
    have tj:(done++⟨xk,xn,xs⟩::n.args.drop (i+1))[i]'CI=⟨xk,xn,xs⟩:=by subst dK;simp
    have gI:∀y:oU,(done++⟨xk,xn,xs⟩::n.args.drop (i+1)).set i y=(done++[y])++n.args.drop (i+1):=fun y=>by subst dK;simp
    have cH:IntKind.wrap .i64 (((i:Nat):Int)+1)=((i+1:Nat):Int):=cG hi (by omega)
    obtain ⟨b5,eH,f1,f2,f3,hv,eT,fj,gJ,kZ,jC,hE,jk⟩:=lH.put CI
    have kZ:=kZ.symm
    simp only [List.append_eq_nil_iff] at kZ
    obtain ⟨rfl,rfl,rfl⟩:=kZ
    rw [tj] at hE
    have jW:(eH.drop (i * 3)).take 3=[iV xk,iV xn,ah xs]:=hE.1
    have jC:i * 3+3<=eH.length:=jC
    simp only [Value.slice.injEq] at hv
    have iY:=hv.1
    have Rv:b5∈mL:=by rw [eT];simp
    have Wl:=hU b5 Rv
    have jg:H.fz b5=false:=hf.fresh (by omega)
    have Br:H.fz H5.next=false:=hf.fresh (by omega)
    have r6:=((r5.told).push ⟨[iV xk,iV xn,ah xs],145,false,false⟩).told
    have Le:i * 3+1 < eH.length:=by omega
    have Wm:i * 3+1+1<=eH.length:=by omega
    have Dc:¬b5=H5.next:=by omega
    have aBJ:¬H5.next=b5:=by omega
    have Y1:¬H.next=b5:=by omega
    have Lf:¬H.next=H5.next:=by omega
    obtain ⟨H6,fo⟩:=r6.hp
    have iy:H6.get H.next=_:=(by rw [fo,bG,aZ,BZ,if_neg Lf,bG]:H6.get H.next=H5.get H.next).trans eJ
    have XV:H6.get H5.next=some ⟨[iV xk,iV xn,ah xs],145,false,false⟩:=by rw [fo,bG,aZ];exact if_pos rfl
    have X9:H6.get b5=_:=(by rw [fo,bG,aZ,BZ,if_neg Dc,bG]:H6.get b5=H5.get b5).trans fj
    have E4:H6.next=H5.next+1:=by rw [fo];rfl
    have k6:∀d,d < H5.next->H6.get d=H5.get d:=fun d hd=>by rw [fo,bG,bO (by exact hd),bG]
    by_cases Fe:xk=1
    ·subst Fe
     rw [if_pos rfl] at sG
     simp only [go_sem,ei,hi,iY,fj,jC,jW,Br,cH]
     rw [<-fo]
     refine ⟨done++[⟨1,xn,xs⟩],t5,fo▸r6,by rw [if_neg Lf,eJ,iY],?_,by omega,by rw [List.length_append,List.length_singleton,dK],sG⟩
     have:=lH.ae (H':=H6) (fun d hd=>k6 d (by have:=(hU d hd).2;omega)) (by simp)
     rw [iY] at this
     rw [List.append_assoc]
     exact this
    ·rw [if_neg Fe] at sG
     have Lh:=r6.rq.toRQ0
     rw [<-fo] at Lh r6
     have oG:t5.be=t.be:=r5.be
     rw [<-oG] at sG
     have r7:=(r6.own (M:=[b5]) ((Fr.refl _ _).ai (b:=b5) (.inl (by simp)) ⟨eH.set (i * 3+1) (iV (lG t5.be xs 0)),145,true,false⟩) (by simp;omega) fun _ _=>rfl).told
     obtain ⟨H7,eW⟩:=r7.hp
     have k7:∀d,d≠b5->H7.get d=H6.get d:=fun d hd=>by rw [eW,bG,aH,if_neg hd]
     have E5:H7.next=H6.next:=by rw [eW];rfl
     have Li:H7.get b5=some ⟨eH.set (i * 3+1) (iV (lG t5.be xs 0)),145,true,false⟩:=by rw [eW,bG,aH,if_pos rfl]
     have js:=(k7 H.next Y1).trans iy
     have fR:eH.set (i * 3+1) (iV (lG t5.be xs 0))=cY eH (i * jy.sz) [iV xk,iV (lG t5.be xs 0),ah xs]:=by
      have:=AE (vs:=[iV (lG t5.be xs 0)]) jW (k:=1) (by decide:1+1<=3) jC
      rw [fL Le] at this
      rw [this];rfl
     have cA:=jk H7 [iV xk,iV (lG t5.be xs 0),ah xs] ⟨xk,lG t5.be xs 0,xs⟩ [] (by simp) (by rw [Li,fR]) ⟨rfl,rfl⟩ (by simp)
     rw [gI,<-eT] at cA
     simp only [go_sem,e4,ei,hi,iY,fj,jC,jW,Br,Fe,Lf,eJ]
     rw [<-fo]
     refine ag.by (Qy Lh (by rw [oG];exact bX) (s:=xs) (fr:=0)) ?_
     rintro _ _ - ⟨rfl,rfl⟩
     simp only [go_sem,e4,iy,iY,hi,X9,jg,Le,Wm,fL Le]
     rw [<-eW] at r7 ⊢
     have Gj:(eH.set (i * 3+1) (iV (lG t5.be xs 0)))[i * 3+1]?=some (iV (lG t5.be xs 0)):=List.getElem?_set_self Le
     have hlen:(eH.set (i * 3+1) (iV (lG t5.be xs 0))).length=eH.length:=List.length_set
     have S0:(done++[(⟨xk,lG t5.be xs 0,xs⟩:oU)]).length=i+1:=by rw [List.length_append,List.length_singleton,dK]
     rw [iY] at cA
     by_cases de:lG t5.be xs 0 < 0
     ·rw [Cv,if_pos de] at sG
      simp only [go_sem,Y1,e4,js,hi,Li,Gj,hlen,Wm,de,iY]
      rw [<-kl,<-kc] at sG
      refine ag.by (nh (e:=4) (l:=n1.line) (c:=n1.az) r7.told.rq) ?_
      rintro _ H8 - p8
      have n8:H7.next<=H8.next:=p8.fr.nx
      have k8:∀d,d < H7.next->d≠r->H8.get d=H7.get d:=fun d h1 h2=>p8.fr.get d h1 (by simp [h2])
      simp only [go_sem,ei,cH]
      rw [<-iY] at cA
      rw [oG] at sG cA S0
      exact ⟨_,_,(r7.told.call p8).told,(k8 H.next (by omega) ij).trans js,cA.ae (fun d hd=>k8 d (by have:=hU d hd;omega) (by have:=hU d hd;have:=h.rl;omega)) (by simp),by omega,S0,sG⟩
     ·rw [Cv,if_neg de] at sG
      simp only [go_sem,Y1,e4,js,hi,Li,Gj,hlen,Wm,de,iY,ei,cH]
      rw [oG] at sG cA S0
      exact ⟨_,t5,r7.told,cA.ae (fun _ _=>rfl) (fun _ _=>rfl),by omega,S0,sG⟩
   ·rintro V3 H5 ⟨ei,done,t5,r5,eJ,lH,xz,dK,sG⟩
    rw [List.drop_length] at lH sG
    rw [List.append_nil] at lH
    rw [vf] at sG
    simp only [go_sem,ei]
    rw [sG]
    have r5:=r5.told
    have gG:=lH.sl.ae (H':=H5.af H.fz) fun _ _=>rfl
    rw [List.append_nil] at gG
    exact ⟨aL,mL,r5,eJ,gG,fun d hd=>by have:=hU d hd;omega,by omega⟩
  ·rintro V2 H3 ⟨Ax,mA,r5,eJ,O1,S2,n3⟩
   generalize vf n t.be n.args [] t1=UA at *
   obtain ⟨kd,x,y,f,nn,cap,rc,op,a,bb,nx,ln,cl,nX,nY,nF,nR,as0,pt,cU⟩:=n1
   obtain ⟨al,t2⟩:=UA
   simp only at ka kp kb kl kc he eJ r5 O1
   have Wn:al.length=n.args.length:=by
    obtain ⟨_,_,e⟩:=O1.val
    simp only [Value.slice.injEq] at e
    exact e.2.1.symm
   refine lB 107839786668602559178668060348078522694548577085699380117099853643776 (fun _ H4=>∃n3 t3,A7 P ⟨kd,x,y,f,nn,cap,rc,op,a,bb,nx,ln,cl,nX,nY,nF,nR,al,pt,cU⟩ t2=(some n3,t3)/\RA S P gP H r t m g mi H4 t3/\H4.get H.next=some ⟨aU n3 (.slice Ax n.args.length n.args.length) (.slice aQ n.pat.length kQ) (.slice aB n.ak.length kB),59,false,false⟩/\n3.args=al/\n3.pat=pt/\n3.ak=cU/\(∀c,c < H3.next->c≠r->c≠H.next->H4.get c=H3.get c)/\H.next < H4.next/\H3.next<=H4.next) ?_ ?_ (by rfl)
   ·by_cases Y2:kd=9
    ·subst Y2
     obtain ⟨Od,S3,je,_,_⟩:=r5.rq.row
     obtain ⟨gs,Dh,mj⟩:=r5.rq.sM
     simp only [go_sem,e4,eJ,je]
     refine ag.by (Qv (Dh.ae fun _ _=>rfl) hP.m (fun c hc=>by show c < H3.next;have:=(r5.rq.hP c (mj c hc)).1;omega)) ?_
     rintro OL H4 - ⟨⟨g4,jt,hn4⟩,o4,z4⟩
     have qU:H3.next<=H4.next:=o4.nx
     have r6:=r5.told.au o4 z4
     have k4:∀c,c < H3.next->H4.get c=H3.get c:=fun c hc=>o4.get c hc
     have iy:=(k4 H.next n3).trans eJ
     have lS:=(k4 r r5.rq.rl).trans je
     simp only [go_sem,e4,eJ,iy]
     refine ag.by (Cj jt (by rw [List.length_map];exact hP.m)) ?_
     rintro _ _ - ⟨rfl,rfl⟩
     have r7:=(r6.own (M:=[H.next]) ((Fr.refl _ _).ai (b:=H.next) (.inl (by simp)) ⟨aU ⟨9,x,y,dG (jV P) nF,nn,cap,rc,op,a,bb,nx,ln,cl,nX,nY,nF,nR,al,pt,cU⟩ (.slice Ax n.args.length n.args.length) (.slice aQ n.pat.length kQ) (.slice aB n.ak.length kB),59,false,false⟩) (by simp) fun _ _=>rfl).told
     obtain ⟨H7,eW⟩:=r7.hp
     have js:H7.get H.next=some ⟨aU ⟨9,x,y,dG (jV P) nF,nn,cap,rc,op,a,bb,nx,ln,cl,nX,nY,nF,nR,al,pt,cU⟩ (.slice Ax n.args.length n.args.length) (.slice aQ n.pat.length kQ) (.slice aB n.ak.length kB),59,false,false⟩:=by rw [eW,bG,aH,if_pos rfl]
     have k7:∀c,c≠H.next->H7.get c=H4.get c:=fun c hc=>by rw [eW,bG,aH,if_neg hc]
     have E5:H7.next=H4.next:=by rw [eW];rfl
     have q8:=(k7 r nr).trans lS
     by_cases de:dG (jV P) nF < 0
     ·rw [A7] at he
      simp only [Int.reduceEq,if_true,if_false,or_true,true_or,or_false,false_or,de] at he
      cases he
      simp only [go_sem,e4,iy,eV,de]
      rw [<-eW] at r7 ⊢
      refine ag.by (nh (e:=4) (l:=ln) (c:=cl) r7.rq) ?_
      rintro _ Hf - pf
      simp only [go_sem]
      exact (r7.call pf).rr.last
     ·simp only [go_sem,e4,iy,eV,de]
      rw [<-eW] at r7 ⊢
      clear eW
      obtain ⟨fi,oZ,dC⟩:=PZ (Int.not_lt.1 de)
      rw [List.length_map] at dC
      rw [oZ] at js
      have uI:P.msgs[fi]?=some (P.msgs[fi]'dC):=List.getElem?_eq_getElem dC
      have iH:P.msgs.getD fi ⟨[],[],0,0⟩=P.msgs[fi]'dC:=by rw [List.getD_eq_getElem?_getD,uI];rfl
      generalize (P.msgs[fi]'dC)=xd at uI iH
      obtain ⟨bd,od,cd,BD,Y3,If,Ig,Wp,Wq,Wr,Aq⟩:=(r7.rq.sM).at uI
      obtain ⟨wv,nk,Ih⟩:=Aq
      obtain ⟨aw,kw,rfl⟩:=Ih.val
      have nk:(BD.cells.drop (od+fi * 4)).take 4=[ah xd.name,.slice aw xd.types.length kw,iV xd.line,iV xd.az]:=nk
      have BJ:BD.cells[od+fi * 4+1]?=some (.slice aw xd.types.length kw):=by
       have:((BD.cells.drop (od+fi * 4)).take 4)[1]?=some (.slice aw xd.types.length kw):=by rw [nk];rfl
       rw [List.getElem?_take,if_pos (by decide),List.getElem?_drop] at this
       exact this
      simp only [go_sem,nr,lS,e4,js,q8,If,oZ,dC,Ig,BJ]
      refine ag.by (Qd (n:=⟨9,x,y,((fi:Nat):Int),nn,cap,rc,op,a,bb,nx,ln,cl,nX,nY,nF,nR,al,pt,cU⟩) r7.rq) ?_
      rintro _ H8 - p8
      have n8:H7.next<=H8.next:=p8.fr.nx
      simp only [go_sem]
      refine ⟨⟨9,x,y,((fi:Nat):Int),nn,cap,rc,op,a,bb,nx,ln,cl,nX,nY,nF,nR,al,pt,cU⟩,_,?_,(r7.call p8).told,(p8.fr.get H.next (by show H.next < H7.next;omega) (by simp [ij])).trans js,rfl,rfl,rfl,fun c h1 h2 h3=>(p8.fr.get c (by show c < H7.next;omega) (by simp [h2])).trans ((k7 c h3).trans (k4 c h1)),by omega,by omega⟩
      rw [A7]
      simp only [Int.reduceEq,if_true,if_false,or_true,true_or,or_false,false_or,de,oZ,Int.toNat_natCast,iH]
      rw [Wn]
      rfl
    ·by_cases Ws:kd=10
     ·subst Ws
      obtain ⟨Od,S3,je,_,_⟩:=r5.rq.row
      obtain ⟨gs,Dh,mj⟩:=r5.rq.sD
      simp only [go_sem,e4,eJ,je]
      refine ag.by (UI (Dh.ae fun _ _=>rfl) hP.d (fun c hc=>by show c < H3.next;have:=(r5.rq.hP c (mj c hc)).1;omega)) ?_
      rintro OL H4 - ⟨⟨g4,jt,hn4⟩,o4,z4⟩
      have qU:H3.next<=H4.next:=o4.nx
      have r6:=r5.told.au o4 z4
      have k4:∀c,c < H3.next->H4.get c=H3.get c:=fun c hc=>o4.get c hc
      have iy:=(k4 H.next n3).trans eJ
      have lS:=(k4 r r5.rq.rl).trans je
      simp only [go_sem,e4,eJ,iy]
      refine ag.by (Cj jt (by rw [List.length_map];exact hP.d)) ?_
      rintro _ _ - ⟨rfl,rfl⟩
      have r7:=(r6.own (M:=[H.next]) ((Fr.refl _ _).ai (b:=H.next) (.inl (by simp)) ⟨aU ⟨10,x,y,dG (ua P) nF,nn,cap,rc,op,a,bb,nx,ln,cl,nX,nY,nF,nR,al,pt,cU⟩ (.slice Ax n.args.length n.args.length) (.slice aQ n.pat.length kQ) (.slice aB n.ak.length kB),59,false,false⟩) (by simp) fun _ _=>rfl).told
      obtain ⟨H7,eW⟩:=r7.hp
      have js:H7.get H.next=some ⟨aU ⟨10,x,y,dG (ua P) nF,nn,cap,rc,op,a,bb,nx,ln,cl,nX,nY,nF,nR,al,pt,cU⟩ (.slice Ax n.args.length n.args.length) (.slice aQ n.pat.length kQ) (.slice aB n.ak.length kB),59,false,false⟩:=by rw [eW,bG,aH,if_pos rfl]
      have k7:∀c,c≠H.next->H7.get c=H4.get c:=fun c hc=>by rw [eW,bG,aH,if_neg hc]
      have E5:H7.next=H4.next:=by rw [eW];rfl
      have q8:=(k7 r nr).trans lS
      by_cases de:dG (ua P) nF < 0
      ·rw [A7] at he
       simp only [Int.reduceEq,if_true,if_false,or_true,true_or,or_false,false_or,de] at he
       cases he
       simp only [go_sem,e4,iy,eV,de]
       rw [<-eW] at r7 ⊢
       refine ag.by (nh (e:=4) (l:=ln) (c:=cl) r7.rq) ?_
       rintro _ Hf - pf
       simp only [go_sem]
       exact (r7.call pf).rr.last
      ·simp only [go_sem,e4,iy,eV,de]
       rw [<-eW] at r7 ⊢
       clear eW
       obtain ⟨fi,oZ,dC⟩:=PZ (Int.not_lt.1 de)
       rw [List.length_map] at dC
       rw [oZ] at js
       have uI:P.defs[fi]?=some (P.defs[fi]'dC):=List.getElem?_eq_getElem dC
       have iH:P.defs.getD fi ⟨[],[],0,0,0,0,false,[],[]⟩=P.defs[fi]'dC:=by rw [List.getD_eq_getElem?_getD,uI];rfl
       generalize (P.defs[fi]'dC)=xd at uI iH
       obtain ⟨bd,od,cd,BD,Y3,If,Ig,Wp,Wq,Wr,Aq⟩:=(r7.rq.sD).at uI
       obtain ⟨wv,Y4,Y5,q1,q2,q3,nk,_,Ih,_,_⟩:=Aq
       obtain ⟨aw,kw,rfl⟩:=Ih.val
       have nk:(BD.cells.drop (od+fi * 9)).take 9=ff xd (.slice aw xd.params.length kw) Y4 Y5:=nk
       have BJ:BD.cells[od+fi * 9+1]?=some (.slice aw xd.params.length kw):=by
        have:((BD.cells.drop (od+fi * 9)).take 9)[1]?=some (.slice aw xd.params.length kw):=by rw [nk];rfl
        rw [List.getElem?_take,if_pos (by decide),List.getElem?_drop] at this
        exact this
       simp only [go_sem,nr,lS,e4,js,q8,If,oZ,dC,Ig,BJ]
       refine ag.by (Qd (n:=⟨10,x,y,((fi:Nat):Int),nn,cap,rc,op,a,bb,nx,ln,cl,nX,nY,nF,nR,al,pt,cU⟩) r7.rq) ?_
       rintro _ H8 - p8
       have n8:H7.next<=H8.next:=p8.fr.nx
       simp only [go_sem]
       refine ⟨⟨10,x,y,((fi:Nat):Int),nn,cap,rc,op,a,bb,nx,ln,cl,nX,nY,nF,nR,al,pt,cU⟩,_,?_,(r7.call p8).told,(p8.fr.get H.next (by show H.next < H7.next;omega) (by simp [ij])).trans js,rfl,rfl,rfl,fun c h1 h2 h3=>(p8.fr.get c (by show c < H7.next;omega) (by simp [h2])).trans ((k7 c h3).trans (k4 c h1)),by omega,by omega⟩
       rw [A7]
       simp only [Int.reduceEq,if_true,if_false,or_true,true_or,or_false,false_or,de,oZ,Int.toNat_natCast,iH]
       rw [Wn]
       rfl
     ·by_cases Wt:kd=13
      ·subst Wt
       obtain ⟨Od,S3,je,_,_⟩:=r5.rq.row
       obtain ⟨gs,Dh,mj⟩:=r5.rq.sD
       simp only [go_sem,e4,eJ,je]
       refine ag.by (UI (Dh.ae fun _ _=>rfl) hP.d (fun c hc=>by show c < H3.next;have:=(r5.rq.hP c (mj c hc)).1;omega)) ?_
       rintro OL H4 - ⟨⟨g4,jt,hn4⟩,o4,z4⟩
       have qU:H3.next<=H4.next:=o4.nx
       have r6:=r5.told.au o4 z4
       have k4:∀c,c < H3.next->H4.get c=H3.get c:=fun c hc=>o4.get c hc
       have iy:=(k4 H.next n3).trans eJ
       have lS:=(k4 r r5.rq.rl).trans je
       simp only [go_sem,e4,eJ,iy]
       refine ag.by (Cj jt (by rw [List.length_map];exact hP.d)) ?_
       rintro _ _ - ⟨rfl,rfl⟩
       have r7:=(r6.own (M:=[H.next]) ((Fr.refl _ _).ai (b:=H.next) (.inl (by simp)) ⟨aU ⟨13,x,y,dG (ua P) nF,nn,cap,rc,op,a,bb,nx,ln,cl,nX,nY,nF,nR,al,pt,cU⟩ (.slice Ax n.args.length n.args.length) (.slice aQ n.pat.length kQ) (.slice aB n.ak.length kB),59,false,false⟩) (by simp) fun _ _=>rfl).told
       obtain ⟨H7,eW⟩:=r7.hp
       have js:H7.get H.next=some ⟨aU ⟨13,x,y,dG (ua P) nF,nn,cap,rc,op,a,bb,nx,ln,cl,nX,nY,nF,nR,al,pt,cU⟩ (.slice Ax n.args.length n.args.length) (.slice aQ n.pat.length kQ) (.slice aB n.ak.length kB),59,false,false⟩:=by rw [eW,bG,aH,if_pos rfl]
       have k7:∀c,c≠H.next->H7.get c=H4.get c:=fun c hc=>by rw [eW,bG,aH,if_neg hc]
       have E5:H7.next=H4.next:=by rw [eW];rfl
       have q8:=(k7 r nr).trans lS
       by_cases de:dG (ua P) nF < 0
       ·rw [A7] at he
        simp only [Int.reduceEq,if_true,if_false,or_true,true_or,or_false,false_or,de] at he
        cases he
        simp only [go_sem,e4,iy,eV,de]
        rw [<-eW] at r7 ⊢
        refine ag.by (nh (e:=4) (l:=ln) (c:=cl) r7.rq) ?_
        rintro _ Hf - pf
        simp only [go_sem]
        exact (r7.call pf).rr.last
       ·simp only [go_sem,e4,iy,eV,de]
        rw [<-eW] at r7 ⊢
        clear eW
        obtain ⟨fi,oZ,dC⟩:=PZ (Int.not_lt.1 de)
        rw [List.length_map] at dC
        rw [oZ] at js
        have uI:P.defs[fi]?=some (P.defs[fi]'dC):=List.getElem?_eq_getElem dC
        have iH:P.defs.getD fi ⟨[],[],0,0,0,0,false,[],[]⟩=P.defs[fi]'dC:=by rw [List.getD_eq_getElem?_getD,uI];rfl
        generalize (P.defs[fi]'dC)=xd at uI iH
        obtain ⟨bd,od,cd,BD,Y3,If,Ig,Wp,Wq,Wr,Aq⟩:=(r7.rq.sD).at uI
        obtain ⟨wv,Y4,Y5,q1,q2,q3,nk,_,Ih,_,_⟩:=Aq
        obtain ⟨aw,kw,rfl⟩:=Ih.val
        have nk:(BD.cells.drop (od+fi * 9)).take 9=ff xd (.slice aw xd.params.length kw) Y4 Y5:=nk
        have BJ:BD.cells[od+fi * 9+1]?=some (.slice aw xd.params.length kw):=by
         have:((BD.cells.drop (od+fi * 9)).take 9)[1]?=some (.slice aw xd.params.length kw):=by rw [nk];rfl
         rw [List.getElem?_take,if_pos (by decide),List.getElem?_drop] at this
         exact this
        simp only [go_sem,nr,lS,e4,js,q8,If,oZ,dC,Ig,BJ]
        refine ag.by (Qd (n:=⟨13,x,y,((fi:Nat):Int),nn,cap,rc,op,a,bb,nx,ln,cl,nX,nY,nF,nR,al,pt,cU⟩) r7.rq) ?_
        rintro _ H8 - p8
        have n8:H7.next<=H8.next:=p8.fr.nx
        simp only [go_sem]
        refine ⟨⟨13,x,y,((fi:Nat):Int),nn,cap,rc,op,a,bb,nx,ln,cl,nX,nY,nF,nR,al,pt,cU⟩,_,?_,(r7.call p8).told,(p8.fr.get H.next (by show H.next < H7.next;omega) (by simp [ij])).trans js,rfl,rfl,rfl,fun c h1 h2 h3=>(p8.fr.get c (by show c < H7.next;omega) (by simp [h2])).trans ((k7 c h3).trans (k4 c h1)),by omega,by omega⟩
        rw [A7]
        simp only [Int.reduceEq,if_true,if_false,or_true,true_or,or_false,false_or,de,oZ,Int.toNat_natCast,iH]
        rw [Wn]
        rfl
      ·by_cases iO:kd=4
       ·exact absurd iO SZ.1
       ·by_cases Ii:kd=5
        ·exact absurd Ii SZ.2.1
        ·by_cases Y6:kd=6
         ·exact absurd Y6 SZ.2.2.1
         ·by_cases Ij:kd=7
          ·exact absurd Ij SZ.2.2.2
          ·simp only [go_sem,e4,eJ,Y2,Ws,Wt,iO,Ii,Y6,Ij]
           exact ⟨⟨kd,x,y,f,nn,cap,rc,op,a,bb,nx,ln,cl,nX,nY,nF,nR,al,pt,cU⟩,t2,by rw [A7];simp only [Y2,Ws,Wt,iO,Ii,Y6,Ij,if_false,or_self],r5.told,rfl,rfl,rfl,rfl,by first | exact ⟨fun _ _ _ _=>trivial,n3,Nat.le_refl _⟩ | exact ⟨fun _ _ _ _=>trivial,n3⟩⟩
   ·rintro V4 H4 ⟨n3',t3,hus,r6,iy,qa,qp,qb,k6,n4,qU⟩
    rw [hus] at he
    cases he
    have yh:t3.ns=t.ns:=r6.ns
    have aqy:FZ H4 n3' (.slice Ax n.args.length n.args.length) (.slice aQ n.pat.length kQ) (.slice aB n.ak.length kB) mA gQ gB:=⟨qa▸O1.ae fun c hc=>k6 c (S2 c hc).2 (by have:=(S2 c hc).1;have:=h.rl;omega) (by have:=(S2 c hc).1;omega),(qp.trans kp)▸mJ.q.ae fun c hc=>r6.k (tL c (by simp [hc])).1 (tL c (by simp [hc])).2,(qb.trans kb)▸mJ.b.ae fun c hc=>r6.k (tL c (by simp [hc])).1 (tL c (by simp [hc])).2⟩
    obtain ⟨vI9,b9,cs9,Ik,Nl,Sz,Y7,g9,r9,nU⟩:=r6.rr.Wk (k:=k) (by rw [yh];exact hk) aqy fun c hc=>by
     rcases List.mem_append.1 hc with e | e
     ·have:=S2 c e
      exact ⟨by omega,by have:=h.rl;omega,fun e=>by have:=(h.hm c e).1;omega,fun e=>by have:=(h.hi c e).1;omega,.inr (by omega)⟩
     ·have:=uH c (List.mem_append_right _ e)
      exact ⟨by have:=(h.hg c this).1;omega,(h.hg c this).2,fun e=>(h.hm c e).2.2.2.1 this,fun e=>(h.hi c e).2.2.2 this,.inl this⟩
    have Ia:H.fz b9=false:=h.fm b9 Nl
    rw [yh] at Ik r9
    simp only [go_sem,e4,iy,Ik,hk,Sz,Ia,Y7]
    exact r9.last
end
def ub (b:Int->Bool) (n:aJ):List Int->VT->VT
 | [],t=>t
 | x::l,t=>ub b n l (if b x=true then t.fail 5 n.line n.az else t)
def yT (P:cC) (b:fu) (tags:List Int) (n:aJ) (t:VT):fu × VT:=
 if b.tag= -1 then (b,ub (fun x=>decide (x= -1)) n tags t)
 else if dG (jV P) b.name < 0 then ({b with tag:=dG (jV P) b.name},(ub (fun x=>decide (0<=dG (jV P) b.name)&&decide (x=dG (jV P) b.name)) n tags t).fail 4 n.line n.az)
 else ({b with tag:=dG (jV P) b.name},Mi b.names.length ((P.msgs.getD (dG (jV P) b.name).toNat ⟨[],[],0,0⟩).types.length) n (ub (fun x=>decide (0<=dG (jV P) b.name)&&decide (x=dG (jV P) b.name)) n tags t))
section
variable {S:XS} {P:cC} {gP:List Nat} {H H1 H2:ad} {r:Nat} {t t1 t2:VT} {m g g1 g2 mi dL dQ:List Nat}
theorem ag4 (h:RQ S P gP H r t m g mi) (hP:Av P) {b:fu} {aS aN:Option Addr} {nS kS kN:Nat} {n:aJ} {vA vP vB:Value} {vT:Value} {tags:List Int} {gT:List Nat} (hT:Sl .int H vT tags gT) (yJ:∀c∈gT,c < H.next/\c≠r) (eF:tags.length < 1000000):
  aj Tryz.prog 157 #[pV r,.agg (cJ b (.slice aS nS kS) (.slice aN b.names.length kN)).toArray,vT,.agg (aU n vA vP vB).toArray] H (fun w H'=>w=.agg (cJ (yT P b tags n t).1 (.slice aS nS kS) (.slice aN b.names.length kN)).toArray/\As S P gP H r t m g mi (yT P b tags n t).2 H'):=by
 refine aj.told ?_
 refine aku (Nat.le_refl _) fun hf=>?_
 simp only [Tryz.f157,Option.getD_some]
 obtain ⟨tg,bs,bd,nm,an,sl,ns⟩:=b
 obtain ⟨aT,kT,rfl⟩:=hT.val
 have qk:=h.rl
 have r1:=(((RA.start h).push ⟨cJ ⟨tg,bs,bd,nm,an,sl,ns⟩ (.slice aS nS kS) (.slice aN ns.length kN),109,false,false⟩).push ⟨aU n vA vP vB,59,false,false⟩).push ⟨[iV 0,iV 0,iV 0,ah [],ah [],.slice none 0 0,.slice none 0 0],109,false,false⟩
 obtain ⟨H1,cu⟩:=r1.hp
 have p1:¬H.next=H.next+1:=by omega
 have p2:¬H.next=H.next+1+1:=by omega
 have O2:H1.get H.next=some ⟨cJ ⟨tg,bs,bd,nm,an,sl,ns⟩ (.slice aS nS kS) (.slice aN ns.length kN),109,false,false⟩:=by rw [cu,aZ,bI,bI,if_neg p2,aZ,bI,if_neg p1,aZ,if_pos rfl]
 have hO:H1.get (H.next+1)=some ⟨aU n vA vP vB,59,false,false⟩:=by rw [cu,aZ,bI,bI,if_neg (by omega),aZ];exact if_pos rfl
 have BG:H1.get (H.next+1+1)=some ⟨[iV 0,iV 0,iV 0,ah [],ah [],.slice none 0 0,.slice none 0 0],109,false,false⟩:=by rw [cu,aZ];exact if_pos rfl
 have KZ:H1.next=H.next+1+1+1:=by rw [cu];rfl
 have o1:aG H H1:=by rw [cu];exact ((((Fr.refl [] H).push _).push _).push _).au
 simp only [go_sem]
 rw [<-cu] at r1 ⊢
 clear cu
 obtain ⟨bn,lO⟩:∃bn,bn=H.next+1:=⟨_,rfl⟩
 obtain ⟨b8,EZ⟩:∃b8,b8=H.next+1+1:=⟨_,rfl⟩
 rw [<-EZ] at BG p2 ⊢
 rw [<-lO] at hO p1 ⊢
 have eV:H.fz H.next=false:=hf.fresh (Nat.le_refl _)
 have Il:H.fz b8=false:=hf.fresh (by omega)
 have O3:=hT.ae (H':=H1) fun c hc=>o1.get c (yJ c hc).1
 obtain ⟨SB,vI0,N1,_,_⟩:=h.row
 have dY:=(o1.get r qk).trans N1
 have kk:∀{Hx:ad},Fr [r] H1 Hx->∀c,c < H1.next->c≠r->Hx.get c=H1.get c:=fun f c h1 h2=>f.get c h1 (by simp [h2])
 by_cases qW:tg= -1
 ·subst qW
  have eR:yT P ⟨-1,bs,bd,nm,an,sl,ns⟩ tags n t=(⟨-1,bs,bd,nm,an,sl,ns⟩,ub (fun x=>decide (x= -1)) n tags t):=by rw [yT,if_pos rfl]
  rw [eR]
  simp only [go_sem,O2,p2]
  refine ft 2147222528 tags.length (fun i V H2=>V 18=iV (i:Nat)/\∃t2,RA S P gP H r t m g mi H2 t2/\Fr [r] H1 H2/\ub (fun x=>decide (x= -1)) n tags t=ub (fun x=>decide (x= -1)) n (tags.drop i) t2) ⟨by simp only [go_sem] <;> rfl,t,r1,Fr.refl _ _,rfl⟩ ?_ ?_ (by rfl)
  ·rintro i V H2 hi ⟨ei,t2,r2,f2,pK⟩
   have hx:tags[i]?=some (tags[i]'hi):=List.getElem?_eq_getElem hi
   have cT:tags.drop i=(tags[i]'hi)::tags.drop (i+1):=(List.getElem_cons_drop hi).symm
   generalize (tags[i]'hi)=x at hx cT
   rw [cT,ub] at pK
   have cH:IntKind.wrap .i64 (((i:Nat):Int)+1)=((i+1:Nat):Int):=cG hi (by omega)
   obtain ⟨bb,o,c',B,gx,hv,hB,dI,df,cb,hE⟩:=(O3.ae (H':=H2) fun c hc=>kk f2 c (by have:=(yJ c hc).1;omega) (yJ c hc).2).at hx
   simp only [Value.slice.injEq] at hv
   have rk:=hv.1
   have dN:B.cells[o+i]?=some (iV x):=by
    have:((B.cells.drop (o+i * 1)).take 1)[0]?=some (iV x):=by rw [show (B.cells.drop (o+i * 1)).take 1=_ from hE.1];rfl
    rw [List.getElem?_take,if_pos (by decide),List.getElem?_drop,Nat.mul_one,Nat.add_zero] at this
    exact this
   have tp:=(kk f2 bn (by omega) (by omega)).trans hO
   by_cases hZ:x= -1
   ·subst hZ
    rw [if_pos (by decide)] at pK
    simp only [go_sem,ei,hi,rk,hB,dN,tp]
    refine ag.by (nh r2.rq) ?_
    rintro _ H3 - p3
    simp only [go_sem,ei,cH]
    exact ⟨_,r2.call p3,f2.then p3.fr,pK⟩
   ·rw [if_neg (by simp [hZ])] at pK
    simp only [go_sem,ei,hi,rk,hB,dN,hZ,cH]
    exact ⟨_,r2,f2,pK⟩
  ·rintro V H2 ⟨ei,t2,r2,f2,pK⟩
   rw [List.drop_length,ub] at pK
   rw [pK]
   have sx:=(kk f2 H.next (by omega) (by omega)).trans O2
   have Y8:=(kk f2 b8 (by omega) (by omega)).trans BG
   simp only [go_sem,ei,sx,Y8,Il,p2]
   exact (r2.own (M:=[b8]) ((Fr.refl _ _).ai (.inl (by simp)) _) (by simp;omega) fun _ _=>rfl).last
 ·obtain ⟨gs,Dh,mj⟩:=r1.rq.sM
  simp only [go_sem,O2,qW,dY,p2]
  refine ag.by (Qv Dh hP.m (fun c hc=>(r1.rq.hP c (mj c hc)).1)) ?_
  rintro OL H2 - ⟨⟨g2,fh,jF⟩,o2,z2⟩
  have r2:=r1.au o2 z2
  have sx:=(o2.get H.next (by omega)).trans O2
  have tp:=(o2.get bn (by omega)).trans hO
  have Y8:=(o2.get b8 (by omega)).trans BG
  have dP:=(o2.get r (by omega)).trans dY
  have eC:=o2.nx
  simp only [go_sem,O2,sx]
  refine ag.by (Cj fh (by rw [List.length_map];exact hP.m)) ?_
  rintro _ _ - ⟨rfl,rfl⟩
  have r3:=r2.own (M:=[H.next]) ((Fr.refl _ _).ai (b:=H.next) (.inl (by simp)) ⟨cJ ⟨dG (jV P) nm,bs,bd,nm,an,sl,ns⟩ (.slice aS nS kS) (.slice aN ns.length kN),109,false,false⟩) (by simp) fun _ _=>rfl
  obtain ⟨H3,dv⟩:=r3.hp
  have Ao:H3.get H.next=some ⟨cJ ⟨dG (jV P) nm,bs,bd,nm,an,sl,ns⟩ (.slice aS nS kS) (.slice aN ns.length kN),109,false,false⟩:=by rw [dv,aH,if_pos rfl]
  have k3:∀c,c≠H.next->H3.get c=H2.get c:=fun c hc=>by rw [dv,aH,if_neg hc]
  have Oe:H3.next=H2.next:=by rw [dv];rfl
  have gn3:=(k3 bn (by omega)).trans tp
  have BH:=(k3 b8 (by omega)).trans Y8
  have je:=(k3 r (by omega)).trans dP
  have hT3:=O3.ae (H':=H3) fun c hc=>(k3 c (by have:=(yJ c hc).1;omega)).trans (o2.get c (by have:=(yJ c hc).1;omega))
  simp only [go_sem,sx,eV]
  rw [<-dv] at r3 ⊢
  clear dv
  generalize hF:dG (jV P) nm=F at *
  have eR:yT P ⟨tg,bs,bd,nm,an,sl,ns⟩ tags n t=if F < 0 then (⟨F,bs,bd,nm,an,sl,ns⟩,(ub (fun x=>decide (0<=F)&&decide (x=F)) n tags t).fail 4 n.line n.az) else (⟨F,bs,bd,nm,an,sl,ns⟩,Mi ns.length ((P.msgs.getD F.toNat ⟨[],[],0,0⟩).types.length) n (ub (fun x=>decide (0<=F)&&decide (x=F)) n tags t)):=by
   rw [yT,if_neg qW];simp only [hF]
  rw [eR]
  clear eR
  obtain ⟨p,hp⟩:∃p:Int->Bool,p=fun x=>decide (0<=F)&&decide (x=F):=⟨_,rfl⟩
  rw [<-hp]
  have Lj:∀{Hx:ad},Fr [r] H3 Hx->∀c,c < H3.next->c≠r->Hx.get c=H3.get c:=fun f c h1 h2=>f.get c h1 (by simp [h2])
  refine ft 9223363240761757696 tags.length (fun i V H4=>V 43=iV (i:Nat)/\∃t4,RA S P gP H r t m g mi H4 t4/\Fr [r] H3 H4/\ub p n tags t=ub p n (tags.drop i) t4) ⟨by simp only [go_sem] <;> rfl,t,r3,Fr.refl _ _,rfl⟩ ?_ ?_ (by rfl)
  ·rintro i V H4 hi ⟨ei,t4,r4,f4,pK⟩
   have hx:tags[i]?=some (tags[i]'hi):=List.getElem?_eq_getElem hi
   have cT:tags.drop i=(tags[i]'hi)::tags.drop (i+1):=(List.getElem_cons_drop hi).symm
   generalize (tags[i]'hi)=x at hx cT
   rw [cT,ub] at pK
   have cH:IntKind.wrap .i64 (((i:Nat):Int)+1)=((i+1:Nat):Int):=cG hi (by omega)
   obtain ⟨bb,o,c',B,gx,hv,hB,dI,df,cb,hE⟩:=(hT3.ae (H':=H4) fun c hc=>Lj f4 c (by have:=(yJ c hc).1;omega) (yJ c hc).2).at hx
   simp only [Value.slice.injEq] at hv
   have rk:=hv.1
   have dN:B.cells[o+i]?=some (iV x):=by
    have:((B.cells.drop (o+i * 1)).take 1)[0]?=some (iV x):=by rw [show (B.cells.drop (o+i * 1)).take 1=_ from hE.1];rfl
    rw [List.getElem?_take,if_pos (by decide),List.getElem?_drop,Nat.mul_one,Nat.add_zero] at this
    exact this
   have S4:=(Lj f4 bn (by omega) (by omega)).trans gn3
   have Ff:=(Lj f4 H.next (by omega) (by omega)).trans Ao
   by_cases O4:0<=F
   ·by_cases S5:x=F
    ·rw [if_pos (by rw [hp];simp [O4,S5])] at pK
     simp only [go_sem,ei,hi,rk,hB,dN,S4,Ff,O4,S5]
     refine ag.by (nh r4.rq) ?_
     rintro _ H5 - p5
     simp only [go_sem,ei,cH]
     exact ⟨_,r4.call p5,f4.then p5.fr,pK⟩
    ·rw [if_neg (by rw [hp];simp [S5])] at pK
     simp only [go_sem,ei,hi,rk,hB,dN,Ff,O4,S5,cH]
     exact ⟨_,r4,f4,pK⟩
   ·rw [if_neg (by rw [hp];simp [O4])] at pK
    simp only [go_sem,ei,hi,rk,hB,dN,Ff,O4,cH]
    exact ⟨_,r4,f4,pK⟩
  ·rintro V H4 ⟨ei,t4,r4,f4,pK⟩
   rw [List.drop_length,ub] at pK
   rw [pK]
   have qU:=f4.nx
   have Ff:=(Lj f4 H.next (by omega) (by omega)).trans Ao
   have S4:=(Lj f4 bn (by omega) (by omega)).trans gn3
   have g84:=(Lj f4 b8 (by omega) (by omega)).trans BH
   by_cases de:F < 0
   ·rw [if_pos de]
    simp only [go_sem,ei,Ff,de,S4]
    refine ag.by (nh r4.rq) ?_
    rintro _ H5 - p5
    have HM:=(p5.fr.get H.next (by omega) (by simp;omega)).trans Ff
    have Di:=(p5.fr.get b8 (by omega) (by simp;omega)).trans g84
    simp only [go_sem,HM,Di,Il,p2]
    exact ((r4.call p5).own (M:=[b8]) ((Fr.refl _ _).ai (.inl (by simp)) _) (by simp;omega) fun _ _=>rfl).last
   ·rw [if_neg de]
    obtain ⟨fi,oZ,dC⟩:=PZ (l:=jV P) (s:=nm) (by rw [hF];omega)
    rw [List.length_map] at dC
    rw [hF] at oZ
    subst oZ
    have uI:P.msgs[fi]?=some (P.msgs[fi]'dC):=List.getElem?_eq_getElem dC
    have iH:P.msgs.getD fi ⟨[],[],0,0⟩=P.msgs[fi]'dC:=by rw [List.getD_eq_getElem?_getD,uI];rfl
    generalize (P.msgs[fi]'dC)=xd at uI iH
    obtain ⟨bd',od,cd,BD,Y3,If,Ig,Wp,Wq,Wr,Aq⟩:=r4.rq.sM.at uI
    obtain ⟨wv,nk,Ih⟩:=Aq
    obtain ⟨aw,kw,rfl⟩:=Ih.val
    have nk:(BD.cells.drop (od+fi * 4)).take 4=[ah xd.name,.slice aw xd.types.length kw,iV xd.line,iV xd.az]:=nk
    have BJ:BD.cells[od+fi * 4+1]?=some (.slice aw xd.types.length kw):=by
     have:((BD.cells.drop (od+fi * 4)).take 4)[1]?=some (.slice aw xd.types.length kw):=by rw [nk];rfl
     rw [List.getElem?_take,if_pos (by decide),List.getElem?_drop] at this
     exact this
    obtain ⟨vN4,vI4,hJ,_,_⟩:=r4.rq.row
    simp only [go_sem,ei,Ff,de,S4,hJ,If,dC,Ig,BJ]
    refine ag.by (Qd r4.rq) ?_
    rintro _ H5 - p5
    have HM:=(p5.fr.get H.next (by omega) (by simp;omega)).trans Ff
    have Di:=(p5.fr.get b8 (by omega) (by simp;omega)).trans g84
    simp only [go_sem,HM,Di,Il,p2]
    rw [iH]
    exact ((r4.call p5).own (M:=[b8]) ((Fr.refl _ _).ai (.inl (by simp)) _) (by simp;omega) fun _ _=>rfl).last
end
abbrev Rb:=Int->VT->Option VT
abbrev Rn:=Nat->VT->Option VT
def Y9 (S:XS) (P:cC) (gP:List Nat) (r:Nat) (m:List Nat) (bd:Rb):Prop:=∀{H:ad} {t t':VT} {g mi:List Nat} {k:Int},RQ S P gP H r t m g mi->bd k t=some t'->aj Tryz.prog 82 #[pV r,iV k] H (fun w H'=>xX S P gP H r t m g mi t' H')
def RnW (S:XS) (P:cC) (gP:List Nat) (r:Nat) (m:List Nat) (nd:Rn):Prop:=∀{H:ad} {t t':VT} {g mi:List Nat} {k:Nat},RQ S P gP H r t m g mi->nd k t=some t'->aj Tryz.prog 110 #[pV r,iV (k:Nat)] H (fun w H'=>xX S P gP H r t m g mi t' H')
def Nm (P:cC) (nd:Rn) (hv:Nat):Nat->Int->VT->Option VT
 | 0,_,_=>none
 | j+1,k,t=>if 0<=k/\t.bad=0 then
   (QS P k.toNat t).bind fun t1=>if t1.bad=0 then (nd k.toNat t1).bind fun t2=>if k.toNat < t2.ns.length then Nm P nd hv j (t2.ns.getD k.toNat {}).next t2 else none else some t1
  else if hv<=t.be.length then some {t with be:=t.be.take hv} else none
section
variable {S:XS} {P:cC} {gP:List Nat} {H H1 H2:ad} {r:Nat} {t t1 t2:VT} {m g g1 g2 mi dL dQ:List Nat}
theorem agl (hP:Av P) {nd:Rn} (cP:RnW S P gP r m nd) (h:RQ S P gP H r t m g mi) (bX:t.be.length < 1000000) {fuel:Nat} {k:Int} {t':VT} (he:Nm P nd t.be.length fuel k t=some t'):
  aj Tryz.prog 82 #[pV r,iV k] H (fun w H'=>xX S P gP H r t m g mi t' H'):=by
 refine aj.told ?_
 refine anq (Nat.le_refl _) fun hf=>?_
 simp only [Tryz.f82,Option.getD_some]
 have r0:=RR.start h
 obtain ⟨vN,vI,hr,_,hI⟩:=h.row
 obtain ⟨aI,cI,Dg⟩:=hI.val
 subst Dg
 simp only [go_sem,hr]
 refine qA 549755812866 (fun n V H2=>∃k2 t2 g2 dQ,V 1=iV k2/\RR S P gP H r t m g mi H2 t2 g2 dQ/\Nm P nd t.be.length n k2 t2=some t') (n:=fuel) ⟨k,t,g,mi,by simp only [go_sem] <;> rfl,r0,he⟩ ?_ (by rfl)
 rintro n V H2 ⟨k2,t2,g2,dQ,e1,r2,bw⟩
 cases n with
 | zero=>cases bw
 | succ n=>
  rw [Nm] at bw
  obtain ⟨vN2,Im,dP,_,hI2,aej,adg⟩:=r2.re
  by_cases hk:0<=k2
  ·by_cases hb:t2.bad=0
   ·rw [if_pos ⟨hk,hb⟩] at bw
    obtain ⟨kn,rfl⟩:=Int.eq_ofNat_of_zero_le hk
    rw [Int.toNat_natCast] at bw
    cases hu:QS P kn t2 with
    | none=>rw [hu] at bw;cases bw
    | some t3=>
    rw [hu] at bw
    simp only [Option.bind_some] at bw
    simp only [go_sem,e1,hk,dP,hb]
    refine ag.by (alm r2.rq hP hu) ?_
    rintro _ H3 - p3
    obtain ⟨g3,mi3,r3,_,_⟩:=r2.call p3
    obtain ⟨Od,S3,je,_,_,_,_⟩:=r3.re
    by_cases fU:t3.bad=0
    ·rw [if_pos fU] at bw
     cases hn:nd kn t3 with
     | none=>rw [hn] at bw;cases bw
     | some t4=>
     rw [hn] at bw
     simp only [Option.bind_some] at bw
     simp only [go_sem,je,fU,e1]
     refine ag.by (cP r3.rq hn) ?_
     rintro _ H4 - p4
     obtain ⟨g4,mi4,r4,_,_⟩:=r3.call p4
     split at bw
     case isFalse=>cases bw
     rename_i jZ
     obtain ⟨vI4,b4,Oy,Sm,Hj,Hq,yx,gQ4,Sh,hJ,SN,tN,qY,adU,aqz,_,_⟩:=r4.rq.toRQ0.node jZ
     have dN:Oy[kn * 20+10]?=some (iV (t4.ns.getD kn {}).next):=by
      have:((Oy.drop (kn * 20)).take 20)[10]?=some (iV (t4.ns.getD kn {}).next):=by rw [aqz];rfl
      rw [List.getElem?_take,if_pos (by decide),List.getElem?_drop] at this
      exact this
     simp only [go_sem,e1,hJ,jZ,qY,dN]
     exact ⟨n,by omega,_,t4,g4,mi4,rfl,r4,bw⟩
    ·rw [if_neg fU] at bw
     cases bw
     simp only [go_sem,je,fU]
     exact r3.last
   ·rw [if_neg fun e=>hb e.2] at bw
    split at bw
    case isFalse=>cases bw
    rename_i hle
    cases bw
    obtain ⟨v5,dB,oG⟩:=hI2.cut hle
    have r5:=adg {t2 with be:=t2.be.take t.be.length} v5 dQ rfl oG fun c hc=>⟨(r2.rq.hi c hc).1,(r2.rq.hi c hc).2.1,(r2.rq.hi c hc).2.2.1,(r2.rq.hi c hc).2.2.2,fun e=>(r2.rq.hm c e).2.2.2.2 hc,r2.si c hc,r2.rq.fi c hc⟩
    obtain ⟨a5,c5,ji⟩:=oG.val
    subst ji
    have hX:=h.fz
    simp only [go_sem,e1,hk,dP,hb,Option.map_none,Option.map_some,dB,hX]
    exact r5.last
  ·rw [if_neg fun e=>hk e.1] at bw
   split at bw
   case isFalse=>cases bw
   rename_i hle
   cases bw
   obtain ⟨v5,dB,oG⟩:=hI2.cut hle
   have r5:=adg {t2 with be:=t2.be.take t.be.length} v5 dQ rfl oG fun c hc=>⟨(r2.rq.hi c hc).1,(r2.rq.hi c hc).2.1,(r2.rq.hi c hc).2.2.1,(r2.rq.hi c hc).2.2.2,fun e=>(r2.rq.hm c e).2.2.2.2 hc,r2.si c hc,r2.rq.fi c hc⟩
   obtain ⟨a5,c5,ji⟩:=oG.val
   subst ji
   have hX:=h.fz
   simp only [go_sem,e1,hk,dP,Option.map_none,Option.map_some,dB,hX]
   exact r5.last
end
end Go.Proofs.YtebibeaobhcfkaaGreat.Ab
