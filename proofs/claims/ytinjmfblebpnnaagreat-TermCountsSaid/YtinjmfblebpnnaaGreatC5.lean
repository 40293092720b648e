/- Lemmas for the walk, part 5. -/
import Derived.Test.YtinjmfblebpnnaaGreatC4
set_option linter.unusedVariables false
set_option linter.unusedSimpArgs false
set_option maxRecDepth 100000
set_option maxHeartbeats 16000000
namespace Go.Proofs.YtinjmfblebpnnaaGreat.Ab
open Go
section
variable {S:ZS} {src:List aG} {gP:List Nat} {H H1 H2:ad} {z:Nat} {ns bk bO:List aG} {m m1 m2 g g1 g2:List Nat}
theorem ZR.own (h:ZR S src gP H z ns m g H1 bk m1 g1) {M:List Nat} (bj:Fr M H1 H2) (hM:∀c∈M,H.next<=c/\c≠z/\c∉m1/\c∉g1/\c∉gP) (mZ:∀c,c < H1.next∨H2.next<=c->H2.fz c=H1.fz c):ZR S src gP H z ns m g H2 bk m1 g1:=
 ⟨h.fr.trans bj fun c hc=>.inr (hM c hc).1,{h.zq.toZQ0.fr bj (fun e=>(hM z e).2.1 rfl) (fun c hc e=>(hM c e).2.2.1 hc) (fun c hc e=>(hM c e).2.2.2.1 hc) (fun c hc e=>(hM c e).2.2.2.2 hc) with
  fz:=by rw [mZ _ (.inl h.zq.zl)];exact h.zq.fz,fm:=fun c hc=>by rw [mZ _ (.inl (h.zq.hm c hc).1)];exact h.zq.fm c hc,fn:=fun b hb=>by rw [mZ _ (.inr hb)];exact h.zq.fn b (Nat.le_trans bj.nx hb)},h.le,h.sm,h.sg⟩
theorem ZR.KV (h:ZR S src gP H z ns m g H1 bk m1 g1) {l:Nat} (hl:l < bk.length) {v:Value} {bs:List eY} {gB:List Nat} (hs:Sl dG H1 v bs gB) (hg:∀c∈gB,c < H1.next/\c≠z/\c∉m1/\(c∈gP∨H.next<=c)):
  ∃b cs,H1.get z=some ⟨zC S (.slice (some ⟨b,0,none⟩) bk.length bk.length),131,false,false⟩/\b∈m1/\H1.get b=some ⟨cs,42,true,false⟩/\l * 20+20<=cs.length/\
  ∃g2,ZR S src gP H z ns m g (H1.ah b ⟨cs.set (l * 20+19) v,42,true,false⟩) (bk.set l {bk.getD l {} with au:=bs}) m1 g2:=by
 obtain ⟨vN,hq,cB⟩:=h.zq.row
 obtain ⟨b,cs,f1,f2,f3,rfl,rfl,hb,fk,rfl,de,hE,oW⟩:=cB.put hl
 obtain ⟨wA,wP,wB,e1,e2,e3,aX,rfl,s1,s2,s3⟩:=hE
 have fM:kr.sz=20:=rfl
 rw [fM] at de aX
 obtain ⟨ik,ft,fB,oK⟩:=h.zq.hm b (by simp)
 have be:l * 20+19 < cs.length:=by omega
 have kX:(bk.getD l {})=bk[l]:=by rw [List.getD_eq_getElem?_getD,List.getElem?_eq_getElem hl];rfl
 have eJ:cs.set (l * 20+19) v=cW cs (l * kr.sz) (aJ {bk[l] with au:=bs} wA wP v):=by
  have:=xQ (vs:=[v]) aX (k:=19) (by decide:19+1<=20) de
  rw [eW be] at this
  rw [this];rfl
 have bj:Fr [b] H1 (H1.ah b ⟨cs.set (l * 20+19) v,42,true,false⟩):=(Fr.refl _ _).ah (.inl (by simp)) _
 have kg:∀c,c≠b->(H1.ah b ⟨cs.set (l * 20+19) v,42,true,false⟩).get c=H1.get c:=fun c hc=>by rw [az,if_neg hc]
 have q8:∀c∈f1++(e1++(e2++e3)++f3),c≠b:=fun c hc e=>oK (e▸hc)
 have VU:∀c∈gB,c≠b:=fun c hc e=>(hg c hc).2.2.1 (by simp [e])
 have bH:=oW (H1.ah b ⟨cs.set (l * 20+19) v,42,true,false⟩) (aJ {bk[l] with au:=bs} wA wP v) {bk[l] with au:=bs} (e1++(e2++gB))
  (fun z hz=>kg z (q8 z (by rcases hz with e | e <;> simp [e]))) (by rw [az,if_pos rfl,eJ]) ⟨wA,wP,v,e1,e2,gB,rfl,rfl,s1.af fun c hc=>kg c (q8 c (by simp [hc])),s2.af fun c hc=>kg c (q8 c (by simp [hc])),hs.af fun c hc=>kg c (VU c hc)⟩
  (fun e=>by
   simp only [List.mem_append] at e
   rcases e with e | e | e
   ·exact q8 b (by simp [e]) rfl
   ·exact q8 b (by simp [e]) rfl
   ·exact VU b e rfl)
 have oM:∀c∈f1++((e1++(e2++gB))++f3),c∈f1++(e1++(e2++e3)++f3)∨c∈gB:=fun c hc=>by
  simp only [List.mem_append] at hc ⊢
  rcases hc with e | (e | e | e) | e <;> simp [e]
 refine ⟨b,cs,hq,by simp,hb,de,f1++((e1++(e2++gB))++f3),⟨h.fr.trans bj fun c hc=>?_,{row:=⟨_,(kg z (Ne.symm ft)).trans hq,?_⟩,src:=h.zq.src.af fun c hc=>kg c (fun e=>fB (e▸hc)),zl:=h.zq.zl,hm:=fun c hc=>?_,hg:=fun c hc=>?_,hP:=h.zq.hP,fz:=h.zq.fz,fm:=h.zq.fm,fn:=h.zq.fn},by rw [List.length_set];exact h.le,h.sm,fun c hc=>?_⟩⟩
 ·rw [List.mem_singleton] at hc
  subst hc
  exact (h.sm c (by simp)).imp (fun e=>by simp [e]) id
 ·rw [kX];exact bH
 ·rw [List.mem_singleton] at hc
  subst hc
  exact ⟨ik,ft,fB,fun e=>(oM _ e).elim oK fun e=>VU _ e rfl⟩
 ·exact (oM c hc).elim (h.zq.hg c) fun e=>⟨(hg c e).1,(hg c e).2.1⟩
 ·exact (oM c hc).elim (h.sg c) fun e=>.inr (hg c e).2.2.2
def yF (bd:Zb) (a:Int) (f:aG->Int->aG) (k:Nat) (ns:List aG):Option (List aG):=if 0<=a then (bd a ns).map fun x=>x.2.set k (f (x.2.getD k {}) x.1) else some ns
def ux (bd:Zb):List eY->List eY->List aG->Option (List eY × List aG)
 | [],done,ns=>some (done,ns)
 | b::l,done,ns=>(bd b.body ns).bind fun x=>ux bd l (done++[{b with body:=x.1}]) x.2
abbrev z1 (n:aG):aG:={kind:=1,mI:=n.mI,a:= -1,b:= -1,line:=n.line,aj:=n.aj,next:= -1}
abbrev z2 (n:aG):aG:={kind:=10,hU:=n.hU,args:=⟨2,0,n.mI⟩::n.args,a:= -1,b:= -1,line:=n.line,aj:=n.aj,next:= -1}
def R6 (bd:Zb) (self:bf):Zn:=fun n ns=>
 if 90000 < ns.length∨90000 < n.args.length∨90000 < n.au.length then none
 else if n.kind=2 then some (ns.length,ns.length+1,ku (ns++[z1 n]++[z2 n]) ns.length (ns.length+1))
 else if n.kind=14 then some (ns.length,ns.length,ns++[{kind:=13,hU:=self,args:=⟨2,0,[115,101,108,102]⟩::n.args,a:= -1,b:= -1,line:=n.line,aj:=n.aj,next:= -1}])
 else (yF bd n.a (fun d i=>{d with a:=i}) ns.length (ns++[{n with line:=n.line,aj:=n.aj,next:= -1}])).bind fun bk=>(yF bd n.b (fun d i=>{d with b:=i}) ns.length bk).bind fun bO=>
  (ux bd n.au [] bO).map fun x=>(ns.length,ns.length,x.2.set ns.length {x.2.getD ns.length {} with au:=x.1})
theorem ada {s:bf} {h:KH}:fQ Tryz.prog 42 [(0,iV 1),(13,ae s),(8,iV (-1)),(9,iV (-1))] h=.ok (.agg #[iV 1,iV 0,iV 0,iV 0,iV 0,iV 0,iV 0,iV 0,iV (-1),iV (-1),iV 0,iV 0,iV 0,ae s,ae [],ae [],ae [],.slice none 0 0,.slice none 0 0,.slice none 0 0]) h:=by kernel_rfl
theorem XN {k:Int} {s:bf} {a:Option Addr} {n c:Nat} {h:KH}:fQ Tryz.prog 42 [(0,iV k),(15,ae s),(17,.slice a n c),(8,iV (-1)),(9,iV (-1))] h=.ok (.agg #[iV k,iV 0,iV 0,iV 0,iV 0,iV 0,iV 0,iV 0,iV (-1),iV (-1),iV 0,iV 0,iV 0,ae [],ae [],ae s,ae [],.slice a n c,.slice none 0 0,.slice none 0 0]) h:=by kernel_rfl
theorem adb {bd:Zb} (jx:ZbW S src gP z bd) (h:ZQ S src gP H z ns m g) {n:aG} {vA vP vB:Value} {gA gQ gB:List Nat} (hA:Sl jO H vA n.args gA) (hQ:Sl fJ H vP n.pat gQ) (hB:Sl dG H vB n.au gB) (dW:∀c∈gA++(gQ++gB),c∈gP) {R:Nat × Nat × List aG} (he:R6 bd S.self n ns=some R):
  ak Tryz.prog 117 #[pV z,.agg (aJ n vA vP vB).toArray] H (fun w H'=>w=.tuple #[iV (R.1:Nat),iV (R.2.1:Nat)]/\Ix S src gP H z ns m g R.2.2 H'):=by
 refine ak.told ?_
 refine afA (Nat.le_refl _) fun hf=>?_
 simp only [Tryz.f117,Option.getD_some]
 obtain ⟨aA,kA,rfl⟩:=hA.val
 obtain ⟨aP,kP,rfl⟩:=hQ.val
 obtain ⟨aB,kB,rfl⟩:=hB.val
 have r0:=ZR.start h
 have r1:=r0.push ⟨aJ n (.slice aA n.args.length kA) (.slice aP n.pat.length kP) (.slice aB n.au.length kB),42,false,false⟩
 have g1:(H.push ⟨aJ n (.slice aA n.args.length kA) (.slice aP n.pat.length kP) (.slice aB n.au.length kB),42,false,false⟩).get H.next=some ⟨aJ n (.slice aA n.args.length kA) (.slice aP n.pat.length kP) (.slice aB n.au.length kB),42,false,false⟩:=by rw [aV,if_pos rfl]
 have o1:ba H (H.push ⟨aJ n (.slice aA n.args.length kA) (.slice aP n.pat.length kP) (.slice aB n.au.length kB),42,false,false⟩):=ba.push H _
 have n1:(H.push ⟨aJ n (.slice aA n.args.length kA) (.slice aP n.pat.length kP) (.slice aB n.au.length kB),42,false,false⟩).next=H.next+1:=rfl
 have P9:∀{c:Nat},H.next<=c->c∉z::m:=fun {c} hc e=>by
  rcases List.mem_cons.1 e with e | e
  ·have:=h.zl;omega
  ·have:=(h.hm c e).1;omega
 unfold R6 at he
 by_cases oq:90000 < ns.length∨90000 < n.args.length∨90000 < n.au.length
 ·rw [if_pos oq] at he;cases he
 rw [if_neg oq] at he
 simp only [not_or] at oq
 obtain ⟨ik,ft,fB⟩:=oq
 have BI:∀{H:ad},Sl jO H (.slice none 0 0) [] []/\Sl fJ H (.slice none 0 0) [] []/\Sl dG H (.slice none 0 0) [] []:=fun {H}=>⟨.inl ⟨rfl,rfl,rfl⟩,.inl ⟨rfl,rfl,rfl⟩,.inl ⟨rfl,rfl,rfl⟩⟩
 by_cases fX:n.kind=2
 ·rw [if_pos fX] at he
  cases he
  simp only [go_sem,fX,ada]
  obtain ⟨n1A,n1P,n1B⟩:=BI (H:=(H.push ⟨aJ n (.slice aA n.args.length kA) (.slice aP n.pat.length kP) (.slice aB n.au.length kB),42,false,false⟩))
  refine ag.by (r1.add (n:={kind:=1,mI:=n.mI,a:= -1,b:= -1}) (line:=n.line) (aj:=n.aj) (by omega) n1A n1P n1B (by simp)) ?_
  rintro _ H2 - ⟨rfl,f2,m2,r2,s2⟩
  have r2:ZR S src gP H z ns m g H2 (ns++[z1 n]) m2 (g++([]++([]++[]))):=r2
  have pr:=(f2.get H.next (Nat.lt_succ_self _) (P9 (Nat.le_refl _))).trans g1
  have eQ:H.next+1<=H2.next:=f2.nx
  simp only [go_sem,pr]
  refine ag.by Zi ?_
  rintro _ H3 - ⟨rfl,o3,z3⟩
  have r3:=r2.own (o3.fr []) (by simp) (fun c _=>z3 c)
  have zp:=(o3.get H.next (by omega)).trans pr
  have kV:=o3.nx
  have My:¬H.next=H3.next:=by omega
  simp only [go_sem,pr,zp,My,eB qE (by decide) (by decide)]
  have r4:=r3.push ⟨[iV 2,iV 0,ae n.mI],44,false,false⟩
  have kA4:∀c∈gP,c < H.next->(H3.push ⟨[iV 2,iV 0,ae n.mI],44,false,false⟩).get c=H.get c:=fun c hc hl=>by
   rw [bX (by omega),o3.get c (by omega),f2.get c (by show c < H.next+1;omega) (fun e=>by
    rcases List.mem_cons.1 e with e | e
    ·exact (h.hP c hc).2 e
    ·exact (h.hm c e).2.2.1 hc),o1.get c hl]
  have Jo:=hA.af (H':=(H3.push ⟨[iV 2,iV 0,ae n.mI],44,false,false⟩)) fun c hc=>kA4 c (dW c (by simp [hc])) (h.hP c (dW c (by simp [hc]))).1
  refine Yq (x:=⟨2,0,n.mI⟩) (by rw [aV,if_pos rfl]) (Nat.lt_succ_self _) Jo (by omega) (hf.fresh (by omega)) ?_
  intro v5 H5 c5 fC iR
  obtain ⟨a5,k5,rfl⟩:=fC.val
  have Bg:∀c,H3.next<=c->H.next<=c/\c≠z/\c∉m2/\c∉(g++([]++([]++[])))/\c∉gP:=fun c hc=>⟨by omega,by have:=h.zl;omega,fun e=>by have:=(r3.zq.hm c e).1;omega,fun e=>by have:=(r3.zq.hg c e).1;omega,fun e=>by have:=(h.hP c e).1;omega⟩
  obtain ⟨r5,GA,Qa,tz⟩:ZR S src gP H z ns m g H5 (ns++[z1 n]) m2 (g++([]++([]++[])))/\H5.get H.next=H3.get H.next/\H3.next < H5.next/\(H3.next<=c5/\c5 < H5.next):=by
   rcases iR with ⟨rfl,rfl⟩ | ⟨rfl,cs,rfl⟩
   ·exact ⟨r4.own (M:=[H3.next]) ((Fr.refl _ _).ah (b:=H3.next) (.inl (by simp)) _) (fun c hc=>by rw [List.mem_singleton] at hc;subst hc;exact Bg _ (Nat.le_refl _)) (fun _ _=>rfl),by rw [az,if_neg My,bX (by omega)],Nat.lt_succ_self _,Nat.le_refl _,Nat.lt_succ_self _⟩
   ·exact ⟨r4.push _,by rw [bX (by rw [bJ];omega),bX (by omega)],by rw [bJ,bJ];omega,by rw [bJ];omega,by rw [bJ (H:=H3.push _)];omega⟩
  have Tk:=GA.trans zp
  obtain ⟨n5A,VV,VW⟩:=BI (H:=H5)
  simp only [go_sem,Tk,XN]
  refine ag.by (r5.add (n:={kind:=10,hU:=n.hU,args:=⟨2,0,n.mI⟩::n.args,a:= -1,b:= -1}) (line:=n.line) (aj:=n.aj) (by rw [List.length_append,List.length_singleton];omega) fC VV VW (fun c hc=>by
   have hc:c=c5:=by simpa using hc
   subst hc
   exact ⟨tz.2,(Bg _ tz.1).2.1,(Bg _ tz.1).2.2.1,.inr (Bg _ tz.1).1⟩)) ?_
  rintro _ H6 - ⟨rfl,f6,m6,r6,s6⟩
  have r6:ZR S src gP H z ns m g H6 (ns++[z1 n]++[z2 n]) m6 (g++([]++([]++[]))++([c5]++([]++[]))):=r6
  have pg:(ns++[z1 n]).length=ns.length+1:=by rw [List.length_append];rfl
  obtain ⟨b,cs,zh,fZ,GB,alR,r7⟩:=r6.sL (l:=ns.length) (by rw [List.length_append,pg];omega) (show 10 < 17 by decide) (v:=iV ((ns.length+1:Nat):Int)) (n':={(ns++[z1 n]++[z2 n])[ns.length]'(by rw [List.length_append,pg];omega) with next:=((ns.length+1:Nat):Int)}) (fun _ _ _=>rfl) rfl rfl rfl
  have fx:=ZR.x h hf r6 b fZ
  have dK:ns.length * 20+10 < cs.length:=by omega
  have gh:ns.length * 20+10+1<=cs.length:=by omega
  rw [pg]
  have jE:ns.length < (ns++[z1 n]++[z2 n]).length:=by rw [List.length_append,pg];omega
  simp only [go_sem,zh,GB,fx,jE,dK,gh,alR,eW dK]
  have kX:((ns++[z1 n]++[z2 n]).getD ns.length {})=(ns++[z1 n]++[z2 n])[ns.length]:=by rw [List.getD_eq_getElem?_getD,List.getElem?_eq_getElem jE];rfl
  rw [ku,kX]
  exact r7.last
 rw [if_neg fX] at he
 by_cases yG:n.kind=14
 ·rw [if_pos yG] at he
  cases he
  simp only [go_sem,fX,yG]
  refine ag.by Zi ?_
  rintro _ H3 - ⟨rfl,o3,z3⟩
  have r3:=r1.own (o3.fr []) (by simp) (fun c _=>z3 c)
  have kV:H.next+1<=H3.next:=o3.nx
  have zp:=(o3.get H.next (Nat.lt_succ_self _)).trans g1
  have My:¬H.next=H3.next:=by omega
  simp only [go_sem,zp,My,eB qE (by decide) (by decide)]
  have r4:=r3.push ⟨[iV 2,iV 0,ae [115,101,108,102]],44,false,false⟩
  have Jo:=hA.af (H':=(H3.push ⟨[iV 2,iV 0,ae [115,101,108,102]],44,false,false⟩)) fun c hc=>by
   have:=(h.hP c (dW c (by simp [hc]))).1
   rw [bX (by omega),o3.get c (by show c < H.next+1;omega),o1.get c this]
  refine Yq (x:=⟨2,0,[115,101,108,102]⟩) (by rw [aV,if_pos rfl]) (Nat.lt_succ_self _) Jo (by omega) (hf.fresh (by omega)) ?_
  intro v5 H5 c5 fC iR
  obtain ⟨a5,k5,rfl⟩:=fC.val
  have Bg:∀c,H3.next<=c->H.next<=c/\c≠z/\c∉m/\c∉g/\c∉gP:=fun c hc=>⟨by omega,by have:=h.zl;omega,fun e=>by have:=(h.hm c e).1;omega,fun e=>by have:=(h.hg c e).1;omega,fun e=>by have:=(h.hP c e).1;omega⟩
  obtain ⟨r5,GA,Qa,tz⟩:ZR S src gP H z ns m g H5 ns m g/\H5.get H.next=H3.get H.next/\H3.next < H5.next/\(H3.next<=c5/\c5 < H5.next):=by
   rcases iR with ⟨rfl,rfl⟩ | ⟨rfl,cs,rfl⟩
   ·exact ⟨r4.own (M:=[H3.next]) ((Fr.refl _ _).ah (b:=H3.next) (.inl (by simp)) _) (fun c hc=>by rw [List.mem_singleton] at hc;subst hc;exact Bg _ (Nat.le_refl _)) (fun _ _=>rfl),by rw [az,if_neg My,bX (by omega)],Nat.lt_succ_self _,Nat.le_refl _,Nat.lt_succ_self _⟩
   ·exact ⟨r4.push _,by rw [bX (by rw [bJ];omega),bX (by omega)],by rw [bJ,bJ];omega,by rw [bJ];omega,by rw [bJ (H:=H3.push _)];omega⟩
  have Tk:=GA.trans zp
  obtain ⟨n5A,VV,VW⟩:=BI (H:=H5)
  obtain ⟨qN5,Jp,_⟩:=r5.zq.row
  simp only [go_sem,Tk,Jp,XN]
  refine ag.by (r5.add (n:={kind:=13,hU:=S.self,args:=⟨2,0,[115,101,108,102]⟩::n.args,a:= -1,b:= -1}) (line:=n.line) (aj:=n.aj) (by omega) fC VV VW (fun c hc=>by
   have hc:c=c5:=by simpa using hc
   subst hc
   exact ⟨tz.2,(Bg _ tz.1).2.1,(Bg _ tz.1).2.2.1,.inr (Bg _ tz.1).1⟩)) ?_
  rintro _ H6 - ⟨rfl,f6,m6,r6,s6⟩
  simp only [go_sem]
  exact r6.last
 rw [if_neg yG] at he
 have Qb:=hA.af (H':=(H.push ⟨aJ n (.slice aA n.args.length kA) (.slice aP n.pat.length kP) (.slice aB n.au.length kB),42,false,false⟩)) fun c hc=>o1.get c (h.hP c (dW c (by simp [hc]))).1
 have hQ1:=hQ.af (H':=(H.push ⟨aJ n (.slice aA n.args.length kA) (.slice aP n.pat.length kP) (.slice aB n.au.length kB),42,false,false⟩)) fun c hc=>o1.get c (h.hP c (dW c (by simp [hc]))).1
 have pW:=hB.af (H':=(H.push ⟨aJ n (.slice aA n.args.length kA) (.slice aP n.pat.length kP) (.slice aB n.au.length kB),42,false,false⟩)) fun c hc=>o1.get c (h.hP c (dW c (by simp [hc]))).1
 simp only [go_sem,fX,yG,g1]
 refine ag.by (r1.add (n:=n) (line:=n.line) (aj:=n.aj) (by omega) Qb hQ1 pW (fun c hc=>⟨by have:=(h.hP c (dW c hc)).1;omega,(h.hP c (dW c hc)).2,fun e=>(h.hm c e).2.2.1 (dW c hc),.inl (dW c hc)⟩)) ?_
 rintro _ H2 - ⟨rfl,f2,m2,r2,s2⟩
 have pr:=(f2.get H.next (Nat.lt_succ_self _) (P9 (Nat.le_refl _))).trans g1
 have r2:ZR S src gP H z ns m g H2 (ns++[{n with line:=n.line,aj:=n.aj,next:= -1}]) m2 (g++(gA++(gQ++gB))):=r2
 have alS:∀c∈m2,c≠H.next:=fun c hc e=>by
  rcases s2 c hc with e' | e'
  ·have:=(h.hm c e').1;omega
  ·have:H.next+1<=c:=e'
   omega
 simp only [go_sem,pr]
 have Iy:H.next < H2.next:=f2.nx
 have OA:=alS
 have pg:ns.length < (ns++[({n with line:=n.line,aj:=n.aj,next:= -1}:aG)]).length:=by rw [List.length_append,List.length_singleton];omega
 by_cases jU:0<=n.a
 ·cases Ea:bd n.a (ns++[{n with line:=n.line,aj:=n.aj,next:= -1}]) with
  | none=>rw [yF,if_pos jU,Ea] at he;cases he
  | some BP=>
  obtain ⟨iP,xH⟩:=BP
  rw [yF,if_pos jU,Ea] at he
  simp only [Option.map_some,Option.bind_some] at he
  simp only [go_sem,jU,pr]
  refine ag.by (jx r2.zq Ea) ?_
  rintro _ HP - ⟨rfl,pP⟩
  have lP:ns.length < xH.length:=Nat.lt_of_lt_of_le pg pP.2.2.1
  have Qc:=(pP.1.get H.next (by have:=r2.fr.nx;have:=Iy;omega) (by
   simp only [List.mem_cons,not_or]
   exact ⟨by have:=h.zl;omega,fun e=>OA _ e rfl⟩)).trans pr
  have alT:H.next < HP.next:=by have:=pP.1.nx;have:=Iy;omega
  obtain ⟨mP,sf,rP,sP,_⟩:=r2.call pP
  have ZY:∀c∈mP,c≠H.next:=fun c hc e=>(sP c hc).elim (fun e'=>OA c e' e) fun e'=>by have:=Iy;omega
  obtain ⟨bP,Jq,hzP,aaW,alU,alV,AH⟩:=rP.sL lP (show 8 < 17 by decide) (v:=iV iP) (n':={xH[ns.length] with a:=iP}) (fun _ _ _=>rfl) rfl rfl rfl
  have alW:=ZR.x h hf rP bP aaW
  have aaX:ns.length * 20+8 < Jq.length:=by omega
  have alX:ns.length * 20+8+1<=Jq.length:=by omega
  have O1:¬H.next=bP:=fun e=>ZY _ aaW e.symm
  have alY:(xH.getD ns.length {})=xH[ns.length]:=by rw [List.getD_eq_getElem?_getD,List.getElem?_eq_getElem lP];rfl
  rw [alY] at he
  simp only [go_sem,hzP,alU,alW,lP,aaX,alX,alV,O1,Qc,eW aaX]
  have llP:ns.length < (xH.set ns.length {xH[ns.length] with a:=iP}).length:=by rw [List.length_set];exact lP
  have gbX:(HP.ah bP ⟨Jq.set (ns.length * 20+8) (iV iP),42,true,false⟩).get H.next=some ⟨aJ n (.slice aA n.args.length kA) (.slice aP n.pat.length kP) (.slice aB n.au.length kB),42,false,false⟩:=by rw [az,if_neg O1];exact Qc
  have Tl:H.next < (HP.ah bP ⟨Jq.set (ns.length * 20+8) (iV iP),42,true,false⟩).next:=alT
  have aaY:=ZY
  by_cases gW:0<=n.b
  ·cases GC:bd n.b (xH.set ns.length {xH[ns.length] with a:=iP}) with
   | none=>rw [yF,if_pos gW,GC] at he;cases he
   | some BQ=>
   obtain ⟨iQ,nZ⟩:=BQ
   rw [yF,if_pos gW,GC] at he
   simp only [Option.map_some,Option.bind_some] at he
   simp only [go_sem,gW,Qc,O1]
   refine ag.by (jx AH.zq GC) ?_
   rintro _ HQ - ⟨rfl,pQ⟩
   have lQ:ns.length < nZ.length:=Nat.lt_of_lt_of_le llP pQ.2.2.1
   have VX:=(pQ.1.get H.next (by have:=AH.fr.nx;have:=Tl;omega) (by
    simp only [List.mem_cons,not_or]
    exact ⟨by have:=h.zl;omega,fun e=>aaY _ e rfl⟩)).trans gbX
   have alZ:H.next < HQ.next:=by have:=pQ.1.nx;have:=Tl;omega
   obtain ⟨mQ,tG,rQ,sQ,_⟩:=AH.call pQ
   have SC:∀c∈mQ,c≠H.next:=fun c hc e=>(sQ c hc).elim (fun e'=>aaY c e' e) fun e'=>by have:=Tl;omega
   obtain ⟨bQ,Cu,VY,Lo,Tm,Tn,tH⟩:=rQ.sL lQ (show 9 < 17 by decide) (v:=iV iQ) (n':={nZ[ns.length] with b:=iQ}) (fun _ _ _=>rfl) rfl rfl rfl
   have To:=ZR.x h hf rQ bQ Lo
   have Lp:ns.length * 20+9 < Cu.length:=by omega
   have Tp:ns.length * 20+9+1<=Cu.length:=by omega
   have Tq:¬H.next=bQ:=fun e=>SC _ Lo e.symm
   have Ts:(nZ.getD ns.length {})=nZ[ns.length]:=by rw [List.getD_eq_getElem?_getD,List.getElem?_eq_getElem lQ];rfl
   rw [Ts] at he
   simp only [go_sem,VY,Tm,To,lQ,Lp,Tp,Tn,Tq,VX,eW Lp]
   have VZ:ns.length < (nZ.set ns.length {nZ[ns.length] with b:=iQ}).length:=by rw [List.length_set];exact lQ
   have vv:∀c∈gP,c∉z::m:=fun c hc e=>by
    rcases List.mem_cons.1 e with e | e
    ·exact (h.hP c hc).2 e
    ·exact (h.hm c e).2.2.1 hc
   have Cv:=hB.af (H':=(HQ.ah bQ ⟨Cu.set (ns.length * 20+9) (iV iQ),42,true,false⟩)) fun c hc=>tH.fr.get c (h.hP c (dW c (by simp [hc]))).1 (vv c (dW c (by simp [hc])))
   refine xW (r:=dG) sA Cv (by omega) (fun b hb=>Nat.lt_of_lt_of_le (h.hP b (dW b (by simp [hb]))).1 tH.fr.nx) ?_
   intro vL H6 mL gL nN qi iR
   obtain ⟨r6,Cp⟩:ZR S src gP H z ns m g H6 (nZ.set ns.length {nZ[ns.length] with b:=iQ}) mQ tG/\∀c∈mL,(HQ.ah bQ ⟨Cu.set (ns.length * 20+9) (iV iQ),42,true,false⟩).next<=c/\c < H6.next:=by
    rcases iR with ⟨rfl,rfl⟩ | ⟨rfl,cs,rfl⟩
    ·exact ⟨tH,by simp⟩
    ·exact ⟨tH.push _,fun c hc=>by rw [List.mem_singleton] at hc;subst hc;exact ⟨Nat.le_refl _,Nat.lt_succ_self _⟩⟩
   obtain ⟨aL,qj⟩:=nN.val
   subst qj
   cases cS:ux bd n.au [] (nZ.set ns.length {nZ[ns.length] with b:=iQ}) with
   | none=>rw [cS] at he;cases he
   | some ZB=>
   rw [cS] at he
   cases he
   have pg:=VZ
   have V0:=tH.fr.nx
   simp only [go_sem]
   refine iw 174219254951537353629756183776824202919936 n.au.length (fun i V H7=>V 122=iV (i:Nat)/\∃ja m7 g7 done,ZR S src gP H z ns m g H7 ja m7 g7/\Gr dG 52 H7 (.slice aL n.au.length n.au.length) (done++n.au.drop i) mL gL/\(∀c∈mL,H.next<=c/\c < H7.next/\c∉m7/\c∉g7)/\done.length=i/\ux bd (n.au.drop i) done ja=some ZB/\ns.length < ja.length)
    ⟨by simp only [go_sem] <;> rfl,_,mQ,_,[],r6,nN,fun c hc=>?_,rfl,cS,pg⟩ ?_ ?_ (by rfl)
   ·have:=Cp c hc
    exact ⟨by omega,this.2,fun e=>by have:=(tH.zq.hm c e).1;omega,fun e=>by have:=(tH.zq.hg c e).1;omega⟩
   ·rintro i V H7 hi ⟨ei,ja,m7,g7,done,r7,bH,sU,df,fU,nk⟩
    have hx:n.au[i]?=some (n.au[i]'hi):=List.getElem?_eq_getElem hi
    have cE:n.au.drop i=(n.au[i]'hi)::n.au.drop (i+1):=(List.getElem_cons_drop hi).symm
    generalize (n.au[i]'hi)=x at hx cE
    rw [cE] at bH fU
    rw [ux] at fU
    have de:i < (done++x::n.au.drop (i+1)).length:=by rw [List.length_append,List.length_cons];omega
    have pZ:(done++x::n.au.drop (i+1))[i]'de=x:=by subst df;simp
    have fh:∀y:eY,(done++x::n.au.drop (i+1)).set i y=(done++[y])++n.au.drop (i+1):=fun y=>by subst df;simp
    obtain ⟨b5,dH,f1,f2,f3,jI,rfl,iG,Tt,rfl,iX,tI,E5⟩:=bH.put de
    rw [pZ] at tI
    obtain ⟨vS,vN,u1,u2,jr,rfl,t5,t6⟩:=tI
    simp only [Value.slice.injEq] at jI
    obtain ⟨rfl,iq,_⟩:=jI
    have fM:dG.sz=7:=rfl
    rw [fM] at iX jr
    have iC:dH[i * 7+2]?=some (iV x.body):=by
     have:((dH.drop (i * 7)).take 7)[2]?=some (iV x.body):=by rw [jr];rfl
     rw [List.getElem?_take,if_pos (by decide),List.getElem?_drop] at this
     exact this
    cases iB:bd x.body ja with
    | none=>rw [iB] at fU;cases fU
    | some BB=>
    obtain ⟨bi,GD⟩:=BB
    rw [iB] at fU
    simp only [Option.bind_some] at fU
    have ct:IntKind.wrap .i64 (((i:Nat):Int)+1)=((i+1:Nat):Int):=cZ hi (by omega)
    have dC:=sU b5 (by simp)
    have jh:H.fz b5=false:=hf.fresh dC.1
    have zr:i * 7+7<=dH.length:=iX
    have iY:i * 7+2 < dH.length:=by omega
    have zs:i * 7+2+1<=dH.length:=by omega
    simp only [go_sem,ei,hi,iG,iC,iY,zs,zr]
    refine ag.by (jx r7.zq iB) ?_
    rintro _ H8 - ⟨rfl,p8⟩
    obtain ⟨m8,g8,r8,s8,t8⟩:=r7.call p8
    have q1:=p8.1
    have q3:=p8.2.2.1
    have AI:=q1.nx
    have I2:=h.zl
    have GF:b5∉z::m7:=fun e=>by
     rcases List.mem_cons.1 e with e | e
     ·omega
     ·exact dC.2.2.1 e
    have AJ:=(q1.get b5 dC.2.1 GF).trans iG
    have py:b5∉gP:=fun e=>by have:=(h.hP b5 e).1;have:=dC.1;omega
    have eJ:dH.set (i * 7+2) (iV bi)=cW dH (i * dG.sz) (cG {x with body:=bi} vS vN):=by
     have:=xQ (vs:=[iV bi]) jr (k:=2) (by decide:2+1<=7) iX
     rw [eW iY] at this
     rw [this];rfl
    have kg:∀c∈gP,(H8.ah b5 ⟨dH.set (i * 7+2) (iV bi),52,true,false⟩).get c=H7.get c:=fun c hc=>by
     have i7:c≠b5:=fun e=>py (by rw [<-e];exact hc)
     rw [az,if_neg i7]
     refine q1.get c (by have:=(h.hP c hc).1;have:=r7.fr.nx;omega) fun e=>?_
     rcases List.mem_cons.1 e with e | e
     ·exact (h.hP c hc).2 e
     ·exact (r7.zq.hm c e).2.2.1 hc
    have pA:∀c∈f1++(u1++u2++f3),c∈gP:=fun c hc=>dW c (by simp [qi c hc])
    have kJ:=E5 (H8.ah b5 ⟨dH.set (i * 7+2) (iV bi),52,true,false⟩) (cG {x with body:=bi} vS vN) {x with body:=bi} (u1++u2) (fun y hy=>kg y (pA y (by rcases hy with e | e <;> simp [e]))) (by rw [az,if_pos rfl,eJ]) ⟨vS,vN,u1,u2,rfl,rfl,t5.af fun c hc=>kg c (pA c (by simp [hc])),t6.af fun c hc=>kg c (pA c (by simp [hc]))⟩ (fun e=>py (pA b5 (by simp only [List.mem_append] at e ⊢;rcases e with e | e <;> simp [e])))
    rw [fh] at kJ
    simp only [go_sem,ei,hi,ct,AJ,jh,iY,zs,zr,eW iY]
    have zt:b5∉m8:=fun e=>(s8 b5 e).elim dC.2.2.1 fun e=>by have:=dC.2.1;omega
    have zu:b5∉g8:=fun e=>(t8 b5 e).elim dC.2.2.2 fun e=>e.elim py fun e=>by have:=dC.2.1;omega
    have r9:=r8.own (M:=[b5]) ((Fr.refl _ _).ah (b:=b5) (.inl (by simp)) ⟨dH.set (i * 7+2) (iV bi),52,true,false⟩) (fun c hc=>by
     rw [List.mem_singleton] at hc
     subst hc
     exact ⟨dC.1,by have:=dC.1;omega,zt,zu,py⟩) (fun _ _=>rfl)
    refine ⟨GD,m8,g8,done++[{x with body:=bi}],r9,kJ,fun c hc=>?_,by rw [List.length_append,List.length_singleton,df],fU,Nat.lt_of_lt_of_le nk q3⟩
    rw [List.mem_singleton] at hc
    subst hc
    exact ⟨dC.1,by have:=dC.2.1;omega,zt,zu⟩
   ·rintro V H7 ⟨ei,ja,m7,g7,done,r7,bH,sU,df,fU,nk⟩
    rw [List.drop_length] at bH fU
    cases fU
    have Br:∀c∈mL++gL,c < H7.next/\c≠z/\c∉m7/\(c∈gP∨H.next<=c):=fun c hc=>by
     rcases List.mem_append.1 hc with e | e
     ·have:=sU c e
      exact ⟨this.2.1,by have:=h.zl;omega,this.2.2.1,.inr this.1⟩
     ·have hp:=dW c (by simp [qi c e])
      exact ⟨by have:=(h.hP c hp).1;have:=r7.fr.nx;omega,(h.hP c hp).2,fun e=>(r7.zq.hm c e).2.2.1 hp,.inl hp⟩
    obtain ⟨b,cs,tx,fZ,GG,Fy,g8,r8⟩:=r7.KV nk bH.sl Br
    have fx:=ZR.x h hf r7 b fZ
    have dK:ns.length * 20+19 < cs.length:=by omega
    have gh:ns.length * 20+19+1<=cs.length:=by omega
    simp only [go_sem,ei,tx,GG,fx,nk,dK,gh,Fy,eW dK]
    rw [List.append_nil] at r8
    exact r8.last
  ·rw [yF,if_neg gW] at he
   simp only [Option.bind_some] at he
   simp only [go_sem,gW,O1,Qc]
   have vv:∀c∈gP,c∉z::m:=fun c hc e=>by
    rcases List.mem_cons.1 e with e | e
    ·exact (h.hP c hc).2 e
    ·exact (h.hm c e).2.2.1 hc
   have Cv:=hB.af (H':=(HP.ah bP ⟨Jq.set (ns.length * 20+8) (iV iP),42,true,false⟩)) fun c hc=>AH.fr.get c (h.hP c (dW c (by simp [hc]))).1 (vv c (dW c (by simp [hc])))
   refine xW (r:=dG) sA Cv (by omega) (fun b hb=>Nat.lt_of_lt_of_le (h.hP b (dW b (by simp [hb]))).1 AH.fr.nx) ?_
   intro vL H6 mL gL nN qi iR
   obtain ⟨r6,Cp⟩:ZR S src gP H z ns m g H6 (xH.set ns.length {xH[ns.length] with a:=iP}) mP sf/\∀c∈mL,(HP.ah bP ⟨Jq.set (ns.length * 20+8) (iV iP),42,true,false⟩).next<=c/\c < H6.next:=by
    rcases iR with ⟨rfl,rfl⟩ | ⟨rfl,cs,rfl⟩
    ·exact ⟨AH,by simp⟩
    ·exact ⟨AH.push _,fun c hc=>by rw [List.mem_singleton] at hc;subst hc;exact ⟨Nat.le_refl _,Nat.lt_succ_self _⟩⟩
   obtain ⟨aL,qj⟩:=nN.val
   subst qj
   cases cS:ux bd n.au [] (xH.set ns.length {xH[ns.length] with a:=iP}) with
   | none=>rw [cS] at he;cases he
   | some ZB=>
   rw [cS] at he
   cases he
   have pg:=llP
   have V0:=AH.fr.nx
   simp only [go_sem]
   refine iw 174219254951537353629756183776824202919936 n.au.length (fun i V H7=>V 122=iV (i:Nat)/\∃ja m7 g7 done,ZR S src gP H z ns m g H7 ja m7 g7/\Gr dG 52 H7 (.slice aL n.au.length n.au.length) (done++n.au.drop i) mL gL/\(∀c∈mL,H.next<=c/\c < H7.next/\c∉m7/\c∉g7)/\done.length=i/\ux bd (n.au.drop i) done ja=some ZB/\ns.length < ja.length)
    ⟨by simp only [go_sem] <;> rfl,_,mP,_,[],r6,nN,fun c hc=>?_,rfl,cS,pg⟩ ?_ ?_ (by rfl)
   ·have:=Cp c hc
    exact ⟨by omega,this.2,fun e=>by have:=(AH.zq.hm c e).1;omega,fun e=>by have:=(AH.zq.hg c e).1;omega⟩
   ·rintro i V H7 hi ⟨ei,ja,m7,g7,done,r7,bH,sU,df,fU,nk⟩
    have hx:n.au[i]?=some (n.au[i]'hi):=List.getElem?_eq_getElem hi
    have cE:n.au.drop i=(n.au[i]'hi)::n.au.drop (i+1):=(List.getElem_cons_drop hi).symm
    generalize (n.au[i]'hi)=x at hx cE
    rw [cE] at bH fU
    rw [ux] at fU
    have de:i < (done++x::n.au.drop (i+1)).length:=by rw [List.length_append,List.length_cons];omega
    have pZ:(done++x::n.au.drop (i+1))[i]'de=x:=by subst df;simp
    have fh:∀y:eY,(done++x::n.au.drop (i+1)).set i y=(done++[y])++n.au.drop (i+1):=fun y=>by subst df;simp
    obtain ⟨b5,dH,f1,f2,f3,jI,rfl,iG,Tt,rfl,iX,tI,E5⟩:=bH.put de
    rw [pZ] at tI
    obtain ⟨vS,vN,u1,u2,jr,rfl,t5,t6⟩:=tI
    simp only [Value.slice.injEq] at jI
    obtain ⟨rfl,iq,_⟩:=jI
    have fM:dG.sz=7:=rfl
    rw [fM] at iX jr
    have iC:dH[i * 7+2]?=some (iV x.body):=by
     have:((dH.drop (i * 7)).take 7)[2]?=some (iV x.body):=by rw [jr];rfl
     rw [List.getElem?_take,if_pos (by decide),List.getElem?_drop] at this
     exact this
    cases iB:bd x.body ja with
    | none=>rw [iB] at fU;cases fU
    | some BB=>
    obtain ⟨bi,GD⟩:=BB
    rw [iB] at fU
    simp only [Option.bind_some] at fU
    have ct:IntKind.wrap .i64 (((i:Nat):Int)+1)=((i+1:Nat):Int):=cZ hi (by omega)
    have dC:=sU b5 (by simp)
    have jh:H.fz b5=false:=hf.fresh dC.1
    have zr:i * 7+7<=dH.length:=iX
    have iY:i * 7+2 < dH.length:=by omega
    have zs:i * 7+2+1<=dH.length:=by omega
    simp only [go_sem,ei,hi,iG,iC,iY,zs,zr]
    refine ag.by (jx r7.zq iB) ?_
    rintro _ H8 - ⟨rfl,p8⟩
    obtain ⟨m8,g8,r8,s8,t8⟩:=r7.call p8
    have q1:=p8.1
    have q3:=p8.2.2.1
    have AI:=q1.nx
    have I2:=h.zl
    have GF:b5∉z::m7:=fun e=>by
     rcases List.mem_cons.1 e with e | e
     ·omega
     ·exact dC.2.2.1 e
    have AJ:=(q1.get b5 dC.2.1 GF).trans iG
    have py:b5∉gP:=fun e=>by have:=(h.hP b5 e).1;have:=dC.1;omega
    have eJ:dH.set (i * 7+2) (iV bi)=cW dH (i * dG.sz) (cG {x with body:=bi} vS vN):=by
     have:=xQ (vs:=[iV bi]) jr (k:=2) (by decide:2+1<=7) iX
     rw [eW iY] at this
     rw [this];rfl
    have kg:∀c∈gP,(H8.ah b5 ⟨dH.set (i * 7+2) (iV bi),52,true,false⟩).get c=H7.get c:=fun c hc=>by
     have i7:c≠b5:=fun e=>py (by rw [<-e];exact hc)
     rw [az,if_neg i7]
     refine q1.get c (by have:=(h.hP c hc).1;have:=r7.fr.nx;omega) fun e=>?_
     rcases List.mem_cons.1 e with e | e
     ·exact (h.hP c hc).2 e
     ·exact (r7.zq.hm c e).2.2.1 hc
    have pA:∀c∈f1++(u1++u2++f3),c∈gP:=fun c hc=>dW c (by simp [qi c hc])
    have kJ:=E5 (H8.ah b5 ⟨dH.set (i * 7+2) (iV bi),52,true,false⟩) (cG {x with body:=bi} vS vN) {x with body:=bi} (u1++u2) (fun y hy=>kg y (pA y (by rcases hy with e | e <;> simp [e]))) (by rw [az,if_pos rfl,eJ]) ⟨vS,vN,u1,u2,rfl,rfl,t5.af fun c hc=>kg c (pA c (by simp [hc])),t6.af fun c hc=>kg c (pA c (by simp [hc]))⟩ (fun e=>py (pA b5 (by simp only [List.mem_append] at e ⊢;rcases e with e | e <;> simp [e])))
    rw [fh] at kJ
    simp only [go_sem,ei,hi,ct,AJ,jh,iY,zs,zr,eW iY]
    have zt:b5∉m8:=fun e=>(s8 b5 e).elim dC.2.2.1 fun e=>by have:=dC.2.1;omega
    have zu:b5∉g8:=fun e=>(t8 b5 e).elim dC.2.2.2 fun e=>e.elim py fun e=>by have:=dC.2.1;omega
    have r9:=r8.own (M:=[b5]) ((Fr.refl _ _).ah (b:=b5) (.inl (by simp)) ⟨dH.set (i * 7+2) (iV bi),52,true,false⟩) (fun c hc=>by
     rw [List.mem_singleton] at hc
     subst hc
     exact ⟨dC.1,by have:=dC.1;omega,zt,zu,py⟩) (fun _ _=>rfl)
    refine ⟨GD,m8,g8,done++[{x with body:=bi}],r9,kJ,fun c hc=>?_,by rw [List.length_append,List.length_singleton,df],fU,Nat.lt_of_lt_of_le nk q3⟩
    rw [List.mem_singleton] at hc
    subst hc
    exact ⟨dC.1,by have:=dC.2.1;omega,zt,zu⟩
   ·rintro V H7 ⟨ei,ja,m7,g7,done,r7,bH,sU,df,fU,nk⟩
    rw [List.drop_length] at bH fU
    cases fU
    have Br:∀c∈mL++gL,c < H7.next/\c≠z/\c∉m7/\(c∈gP∨H.next<=c):=fun c hc=>by
     rcases List.mem_append.1 hc with e | e
     ·have:=sU c e
      exact ⟨this.2.1,by have:=h.zl;omega,this.2.2.1,.inr this.1⟩
     ·have hp:=dW c (by simp [qi c e])
      exact ⟨by have:=(h.hP c hp).1;have:=r7.fr.nx;omega,(h.hP c hp).2,fun e=>(r7.zq.hm c e).2.2.1 hp,.inl hp⟩
    obtain ⟨b,cs,tx,fZ,GG,Fy,g8,r8⟩:=r7.KV nk bH.sl Br
    have fx:=ZR.x h hf r7 b fZ
    have dK:ns.length * 20+19 < cs.length:=by omega
    have gh:ns.length * 20+19+1<=cs.length:=by omega
    simp only [go_sem,ei,tx,GG,fx,nk,dK,gh,Fy,eW dK]
    rw [List.append_nil] at r8
    exact r8.last
 ·rw [yF,if_neg jU] at he
  simp only [Option.bind_some] at he
  simp only [go_sem,jU,pr]
  by_cases gW:0<=n.b
  ·cases GC:bd n.b (ns++[{n with line:=n.line,aj:=n.aj,next:= -1}]) with
   | none=>rw [yF,if_pos gW,GC] at he;cases he
   | some BQ=>
   obtain ⟨iQ,nZ⟩:=BQ
   rw [yF,if_pos gW,GC] at he
   simp only [Option.map_some,Option.bind_some] at he
   simp only [go_sem,gW,pr]
   refine ag.by (jx r2.zq GC) ?_
   rintro _ HQ - ⟨rfl,pQ⟩
   have lQ:ns.length < nZ.length:=Nat.lt_of_lt_of_le pg pQ.2.2.1
   have VX:=(pQ.1.get H.next (by have:=r2.fr.nx;have:=Iy;omega) (by
    simp only [List.mem_cons,not_or]
    exact ⟨by have:=h.zl;omega,fun e=>OA _ e rfl⟩)).trans pr
   have alZ:H.next < HQ.next:=by have:=pQ.1.nx;have:=Iy;omega
   obtain ⟨mQ,tG,rQ,sQ,_⟩:=r2.call pQ
   have SC:∀c∈mQ,c≠H.next:=fun c hc e=>(sQ c hc).elim (fun e'=>OA c e' e) fun e'=>by have:=Iy;omega
   obtain ⟨bQ,Cu,VY,Lo,Tm,Tn,tH⟩:=rQ.sL lQ (show 9 < 17 by decide) (v:=iV iQ) (n':={nZ[ns.length] with b:=iQ}) (fun _ _ _=>rfl) rfl rfl rfl
   have To:=ZR.x h hf rQ bQ Lo
   have Lp:ns.length * 20+9 < Cu.length:=by omega
   have Tp:ns.length * 20+9+1<=Cu.length:=by omega
   have Tq:¬H.next=bQ:=fun e=>SC _ Lo e.symm
   have Ts:(nZ.getD ns.length {})=nZ[ns.length]:=by rw [List.getD_eq_getElem?_getD,List.getElem?_eq_getElem lQ];rfl
   rw [Ts] at he
   simp only [go_sem,VY,Tm,To,lQ,Lp,Tp,Tn,Tq,VX,eW Lp]
   have VZ:ns.length < (nZ.set ns.length {nZ[ns.length] with b:=iQ}).length:=by rw [List.length_set];exact lQ
   have vv:∀c∈gP,c∉z::m:=fun c hc e=>by
    rcases List.mem_cons.1 e with e | e
    ·exact (h.hP c hc).2 e
    ·exact (h.hm c e).2.2.1 hc
   have Cv:=hB.af (H':=(HQ.ah bQ ⟨Cu.set (ns.length * 20+9) (iV iQ),42,true,false⟩)) fun c hc=>tH.fr.get c (h.hP c (dW c (by simp [hc]))).1 (vv c (dW c (by simp [hc])))
   refine xW (r:=dG) sA Cv (by omega) (fun b hb=>Nat.lt_of_lt_of_le (h.hP b (dW b (by simp [hb]))).1 tH.fr.nx) ?_
   intro vL H6 mL gL nN qi iR
   obtain ⟨r6,Cp⟩:ZR S src gP H z ns m g H6 (nZ.set ns.length {nZ[ns.length] with b:=iQ}) mQ tG/\∀c∈mL,(HQ.ah bQ ⟨Cu.set (ns.length * 20+9) (iV iQ),42,true,false⟩).next<=c/\c < H6.next:=by
    rcases iR with ⟨rfl,rfl⟩ | ⟨rfl,cs,rfl⟩
    ·exact ⟨tH,by simp⟩
    ·exact ⟨tH.push _,fun c hc=>by rw [List.mem_singleton] at hc;subst hc;exact ⟨Nat.le_refl _,Nat.lt_succ_self _⟩⟩
   obtain ⟨aL,qj⟩:=nN.val
   subst qj
   cases cS:ux bd n.au [] (nZ.set ns.length {nZ[ns.length] with b:=iQ}) with
   | none=>rw [cS] at he;cases he
   | some ZB=>
   rw [cS] at he
   cases he
   have pg:=VZ
   have V0:=tH.fr.nx
   simp only [go_sem]
   refine iw 174219254951537353629756183776824202919936 n.au.length (fun i V H7=>V 122=iV (i:Nat)/\∃ja m7 g7 done,ZR S src gP H z ns m g H7 ja m7 g7/\Gr dG 52 H7 (.slice aL n.au.length n.au.length) (done++n.au.drop i) mL gL/\(∀c∈mL,H.next<=c/\c < H7.next/\c∉m7/\c∉g7)/\done.length=i/\ux bd (n.au.drop i) done ja=some ZB/\ns.length < ja.length)
    ⟨by simp only [go_sem] <;> rfl,_,mQ,_,[],r6,nN,fun c hc=>?_,rfl,cS,pg⟩ ?_ ?_ (by rfl)
   ·have:=Cp c hc
    exact ⟨by omega,this.2,fun e=>by have:=(tH.zq.hm c e).1;omega,fun e=>by have:=(tH.zq.hg c e).1;omega⟩
   ·rintro i V H7 hi ⟨ei,ja,m7,g7,done,r7,bH,sU,df,fU,nk⟩
    have hx:n.au[i]?=some (n.au[i]'hi):=List.getElem?_eq_getElem hi
    have cE:n.au.drop i=(n.au[i]'hi)::n.au.drop (i+1):=(List.getElem_cons_drop hi).symm
    generalize (n.au[i]'hi)=x at hx cE
    rw [cE] at bH fU
    rw [ux] at fU
    have de:i < (done++x::n.au.drop (i+1)).length:=by rw [List.length_append,List.length_cons];omega
    have pZ:(done++x::n.au.drop (i+1))[i]'de=x:=by subst df;simp
    have fh:∀y:eY,(done++x::n.au.drop (i+1)).set i y=(done++[y])++n.au.drop (i+1):=fun y=>by subst df;simp
    obtain ⟨b5,dH,f1,f2,f3,jI,rfl,iG,Tt,rfl,iX,tI,E5⟩:=bH.put de
    rw [pZ] at tI
    obtain ⟨vS,vN,u1,u2,jr,rfl,t5,t6⟩:=tI
    simp only [Value.slice.injEq] at jI
    obtain ⟨rfl,iq,_⟩:=jI
    have fM:dG.sz=7:=rfl
    rw [fM] at iX jr
    have iC:dH[i * 7+2]?=some (iV x.body):=by
     have:((dH.drop (i * 7)).take 7)[2]?=some (iV x.body):=by rw [jr];rfl
     rw [List.getElem?_take,if_pos (by decide),List.getElem?_drop] at this
     exact this
    cases iB:bd x.body ja with
    | none=>rw [iB] at fU;cases fU
    | some BB=>
    obtain ⟨bi,GD⟩:=BB
    rw [iB] at fU
    simp only [Option.bind_some] at fU
    have ct:IntKind.wrap .i64 (((i:Nat):Int)+1)=((i+1:Nat):Int):=cZ hi (by omega)
    have dC:=sU b5 (by simp)
    have jh:H.fz b5=false:=hf.fresh dC.1
    have zr:i * 7+7<=dH.length:=iX
    have iY:i * 7+2 < dH.length:=by omega
    have zs:i * 7+2+1<=dH.length:=by omega
    simp only [go_sem,ei,hi,iG,iC,iY,zs,zr]
    refine ag.by (jx r7.zq iB) ?_
    rintro _ H8 - ⟨rfl,p8⟩
    obtain ⟨m8,g8,r8,s8,t8⟩:=r7.call p8
    have q1:=p8.1
    have q3:=p8.2.2.1
    have AI:=q1.nx
    have I2:=h.zl
    have GF:b5∉z::m7:=fun e=>by
     rcases List.mem_cons.1 e with e | e
     ·omega
     ·exact dC.2.2.1 e
    have AJ:=(q1.get b5 dC.2.1 GF).trans iG
    have py:b5∉gP:=fun e=>by have:=(h.hP b5 e).1;have:=dC.1;omega
    have eJ:dH.set (i * 7+2) (iV bi)=cW dH (i * dG.sz) (cG {x with body:=bi} vS vN):=by
     have:=xQ (vs:=[iV bi]) jr (k:=2) (by decide:2+1<=7) iX
     rw [eW iY] at this
     rw [this];rfl
    have kg:∀c∈gP,(H8.ah b5 ⟨dH.set (i * 7+2) (iV bi),52,true,false⟩).get c=H7.get c:=fun c hc=>by
     have i7:c≠b5:=fun e=>py (by rw [<-e];exact hc)
     rw [az,if_neg i7]
     refine q1.get c (by have:=(h.hP c hc).1;have:=r7.fr.nx;omega) fun e=>?_
     rcases List.mem_cons.1 e with e | e
     ·exact (h.hP c hc).2 e
     ·exact (r7.zq.hm c e).2.2.1 hc
    have pA:∀c∈f1++(u1++u2++f3),c∈gP:=fun c hc=>dW c (by simp [qi c hc])
    have kJ:=E5 (H8.ah b5 ⟨dH.set (i * 7+2) (iV bi),52,true,false⟩) (cG {x with body:=bi} vS vN) {x with body:=bi} (u1++u2) (fun y hy=>kg y (pA y (by rcases hy with e | e <;> simp [e]))) (by rw [az,if_pos rfl,eJ]) ⟨vS,vN,u1,u2,rfl,rfl,t5.af fun c hc=>kg c (pA c (by simp [hc])),t6.af fun c hc=>kg c (pA c (by simp [hc]))⟩ (fun e=>py (pA b5 (by simp only [List.mem_append] at e ⊢;rcases e with e | e <;> simp [e])))
    rw [fh] at kJ
    simp only [go_sem,ei,hi,ct,AJ,jh,iY,zs,zr,eW iY]
    have zt:b5∉m8:=fun e=>(s8 b5 e).elim dC.2.2.1 fun e=>by have:=dC.2.1;omega
    have zu:b5∉g8:=fun e=>(t8 b5 e).elim dC.2.2.2 fun e=>e.elim py fun e=>by have:=dC.2.1;omega
    have r9:=r8.own (M:=[b5]) ((Fr.refl _ _).ah (b:=b5) (.inl (by simp)) ⟨dH.set (i * 7+2) (iV bi),52,true,false⟩) (fun c hc=>by
     rw [List.mem_singleton] at hc
     subst hc
     exact ⟨dC.1,by have:=dC.1;omega,zt,zu,py⟩) (fun _ _=>rfl)
    refine ⟨GD,m8,g8,done++[{x with body:=bi}],r9,kJ,fun c hc=>?_,by rw [List.length_append,List.length_singleton,df],fU,Nat.lt_of_lt_of_le nk q3⟩
    rw [List.mem_singleton] at hc
    subst hc
    exact ⟨dC.1,by have:=dC.2.1;omega,zt,zu⟩
   ·rintro V H7 ⟨ei,ja,m7,g7,done,r7,bH,sU,df,fU,nk⟩
    rw [List.drop_length] at bH fU
    cases fU
    have Br:∀c∈mL++gL,c < H7.next/\c≠z/\c∉m7/\(c∈gP∨H.next<=c):=fun c hc=>by
     rcases List.mem_append.1 hc with e | e
     ·have:=sU c e
      exact ⟨this.2.1,by have:=h.zl;omega,this.2.2.1,.inr this.1⟩
     ·have hp:=dW c (by simp [qi c e])
      exact ⟨by have:=(h.hP c hp).1;have:=r7.fr.nx;omega,(h.hP c hp).2,fun e=>(r7.zq.hm c e).2.2.1 hp,.inl hp⟩
    obtain ⟨b,cs,tx,fZ,GG,Fy,g8,r8⟩:=r7.KV nk bH.sl Br
    have fx:=ZR.x h hf r7 b fZ
    have dK:ns.length * 20+19 < cs.length:=by omega
    have gh:ns.length * 20+19+1<=cs.length:=by omega
    simp only [go_sem,ei,tx,GG,fx,nk,dK,gh,Fy,eW dK]
    rw [List.append_nil] at r8
    exact r8.last
  ·rw [yF,if_neg gW] at he
   simp only [Option.bind_some] at he
   simp only [go_sem,gW,pr]
   have vv:∀c∈gP,c∉z::m:=fun c hc e=>by
    rcases List.mem_cons.1 e with e | e
    ·exact (h.hP c hc).2 e
    ·exact (h.hm c e).2.2.1 hc
   have Cv:=hB.af (H':=H2) fun c hc=>r2.fr.get c (h.hP c (dW c (by simp [hc]))).1 (vv c (dW c (by simp [hc])))
   refine xW (r:=dG) sA Cv (by omega) (fun b hb=>Nat.lt_of_lt_of_le (h.hP b (dW b (by simp [hb]))).1 r2.fr.nx) ?_
   intro vL H6 mL gL nN qi iR
   obtain ⟨r6,Cp⟩:ZR S src gP H z ns m g H6 (ns++[{n with line:=n.line,aj:=n.aj,next:= -1}]) m2 (g++(gA++(gQ++gB)))/\∀c∈mL,H2.next<=c/\c < H6.next:=by
    rcases iR with ⟨rfl,rfl⟩ | ⟨rfl,cs,rfl⟩
    ·exact ⟨r2,by simp⟩
    ·exact ⟨r2.push _,fun c hc=>by rw [List.mem_singleton] at hc;subst hc;exact ⟨Nat.le_refl _,Nat.lt_succ_self _⟩⟩
   obtain ⟨aL,qj⟩:=nN.val
   subst qj
   cases cS:ux bd n.au [] (ns++[{n with line:=n.line,aj:=n.aj,next:= -1}]) with
   | none=>rw [cS] at he;cases he
   | some ZB=>
   rw [cS] at he
   cases he
   have pg:ns.length < (ns++[({n with line:=n.line,aj:=n.aj,next:= -1}:aG)]).length:=by rw [List.length_append,List.length_singleton];omega
   have V0:=r2.fr.nx
   simp only [go_sem]
   refine iw 174219254951537353629756183776824202919936 n.au.length (fun i V H7=>V 122=iV (i:Nat)/\∃ja m7 g7 done,ZR S src gP H z ns m g H7 ja m7 g7/\Gr dG 52 H7 (.slice aL n.au.length n.au.length) (done++n.au.drop i) mL gL/\(∀c∈mL,H.next<=c/\c < H7.next/\c∉m7/\c∉g7)/\done.length=i/\ux bd (n.au.drop i) done ja=some ZB/\ns.length < ja.length)
    ⟨by simp only [go_sem] <;> rfl,_,m2,_,[],r6,nN,fun c hc=>?_,rfl,cS,pg⟩ ?_ ?_ (by rfl)
   ·have:=Cp c hc
    exact ⟨by omega,this.2,fun e=>by have:=(r2.zq.hm c e).1;omega,fun e=>by have:=(r2.zq.hg c e).1;omega⟩
   ·rintro i V H7 hi ⟨ei,ja,m7,g7,done,r7,bH,sU,df,fU,nk⟩
    have hx:n.au[i]?=some (n.au[i]'hi):=List.getElem?_eq_getElem hi
    have cE:n.au.drop i=(n.au[i]'hi)::n.au.drop (i+1):=(List.getElem_cons_drop hi).symm
    generalize (n.au[i]'hi)=x at hx cE
    rw [cE] at bH fU
    rw [ux] at fU
    have de:i < (done++x::n.au.drop (i+1)).length:=by rw [List.length_append,List.length_cons];omega
    have pZ:(done++x::n.au.drop (i+1))[i]'de=x:=by subst df;simp
    have fh:∀y:eY,(done++x::n.au.drop (i+1)).set i y=(done++[y])++n.au.drop (i+1):=fun y=>by subst df;simp
    obtain ⟨b5,dH,f1,f2,f3,jI,rfl,iG,Tt,rfl,iX,tI,E5⟩:=bH.put de
    rw [pZ] at tI
    obtain ⟨vS,vN,u1,u2,jr,rfl,t5,t6⟩:=tI
    simp only [Value.slice.injEq] at jI
    obtain ⟨rfl,iq,_⟩:=jI
    have fM:dG.sz=7:=rfl
    rw [fM] at iX jr
    have iC:dH[i * 7+2]?=some (iV x.body):=by
     have:((dH.drop (i * 7)).take 7)[2]?=some (iV x.body):=by rw [jr];rfl
     rw [List.getElem?_take,if_pos (by decide),List.getElem?_drop] at this
     exact this
    cases iB:bd x.body ja with
    | none=>rw [iB] at fU;cases fU
    | some BB=>
    obtain ⟨bi,GD⟩:=BB
    rw [iB] at fU
    simp only [Option.bind_some] at fU
    have ct:IntKind.wrap .i64 (((i:Nat):Int)+1)=((i+1:Nat):Int):=cZ hi (by omega)
    have dC:=sU b5 (by simp)
    have jh:H.fz b5=false:=hf.fresh dC.1
    have zr:i * 7+7<=dH.length:=iX
    have iY:i * 7+2 < dH.length:=by omega
    have zs:i * 7+2+1<=dH.length:=by omega
    simp only [go_sem,ei,hi,iG,iC,iY,zs,zr]
    refine ag.by (jx r7.zq iB) ?_
    rintro _ H8 - ⟨rfl,p8⟩
    obtain ⟨m8,g8,r8,s8,t8⟩:=r7.call p8
    have q1:=p8.1
    have q3:=p8.2.2.1
    have AI:=q1.nx
    have I2:=h.zl
    have GF:b5∉z::m7:=fun e=>by
     rcases List.mem_cons.1 e with e | e
     ·omega
     ·exact dC.2.2.1 e
    have AJ:=(q1.get b5 dC.2.1 GF).trans iG
    have py:b5∉gP:=fun e=>by have:=(h.hP b5 e).1;have:=dC.1;omega
    have eJ:dH.set (i * 7+2) (iV bi)=cW dH (i * dG.sz) (cG {x with body:=bi} vS vN):=by
     have:=xQ (vs:=[iV bi]) jr (k:=2) (by decide:2+1<=7) iX
     rw [eW iY] at this
     rw [this];rfl
    have kg:∀c∈gP,(H8.ah b5 ⟨dH.set (i * 7+2) (iV bi),52,true,false⟩).get c=H7.get c:=fun c hc=>by
     have i7:c≠b5:=fun e=>py (by rw [<-e];exact hc)
     rw [az,if_neg i7]
     refine q1.get c (by have:=(h.hP c hc).1;have:=r7.fr.nx;omega) fun e=>?_
     rcases List.mem_cons.1 e with e | e
     ·exact (h.hP c hc).2 e
     ·exact (r7.zq.hm c e).2.2.1 hc
    have pA:∀c∈f1++(u1++u2++f3),c∈gP:=fun c hc=>dW c (by simp [qi c hc])
    have kJ:=E5 (H8.ah b5 ⟨dH.set (i * 7+2) (iV bi),52,true,false⟩) (cG {x with body:=bi} vS vN) {x with body:=bi} (u1++u2) (fun y hy=>kg y (pA y (by rcases hy with e | e <;> simp [e]))) (by rw [az,if_pos rfl,eJ]) ⟨vS,vN,u1,u2,rfl,rfl,t5.af fun c hc=>kg c (pA c (by simp [hc])),t6.af fun c hc=>kg c (pA c (by simp [hc]))⟩ (fun e=>py (pA b5 (by simp only [List.mem_append] at e ⊢;rcases e with e | e <;> simp [e])))
    rw [fh] at kJ
    simp only [go_sem,ei,hi,ct,AJ,jh,iY,zs,zr,eW iY]
    have zt:b5∉m8:=fun e=>(s8 b5 e).elim dC.2.2.1 fun e=>by have:=dC.2.1;omega
    have zu:b5∉g8:=fun e=>(t8 b5 e).elim dC.2.2.2 fun e=>e.elim py fun e=>by have:=dC.2.1;omega
    have r9:=r8.own (M:=[b5]) ((Fr.refl _ _).ah (b:=b5) (.inl (by simp)) ⟨dH.set (i * 7+2) (iV bi),52,true,false⟩) (fun c hc=>by
     rw [List.mem_singleton] at hc
     subst hc
     exact ⟨dC.1,by have:=dC.1;omega,zt,zu,py⟩) (fun _ _=>rfl)
    refine ⟨GD,m8,g8,done++[{x with body:=bi}],r9,kJ,fun c hc=>?_,by rw [List.length_append,List.length_singleton,df],fU,Nat.lt_of_lt_of_le nk q3⟩
    rw [List.mem_singleton] at hc
    subst hc
    exact ⟨dC.1,by have:=dC.2.1;omega,zt,zu⟩
   ·rintro V H7 ⟨ei,ja,m7,g7,done,r7,bH,sU,df,fU,nk⟩
    rw [List.drop_length] at bH fU
    cases fU
    have Br:∀c∈mL++gL,c < H7.next/\c≠z/\c∉m7/\(c∈gP∨H.next<=c):=fun c hc=>by
     rcases List.mem_append.1 hc with e | e
     ·have:=sU c e
      exact ⟨this.2.1,by have:=h.zl;omega,this.2.2.1,.inr this.1⟩
     ·have hp:=dW c (by simp [qi c e])
      exact ⟨by have:=(h.hP c hp).1;have:=r7.fr.nx;omega,(h.hP c hp).2,fun e=>(r7.zq.hm c e).2.2.1 hp,.inl hp⟩
    obtain ⟨b,cs,tx,fZ,GG,Fy,g8,r8⟩:=r7.KV nk bH.sl Br
    have fx:=ZR.x h hf r7 b fZ
    have dK:ns.length * 20+19 < cs.length:=by omega
    have gh:ns.length * 20+19+1<=cs.length:=by omega
    simp only [go_sem,ei,tx,GG,fx,nk,dK,gh,Fy,eW dK]
    rw [List.append_nil] at r8
    exact r8.last
end
section
variable {S:ZS} {src:List aG} {gP:List Nat} {z:Nat}
def zw (src:List aG) (self:bf):Nat->Zb
 | 0=>fun _ _=>none
 | k+1=>fun i ns=>Lm src (R6 (zw src self k) self) 402 none i ns
theorem RF (eK:src.length < 100000):∀k,ZbW S src gP z (zw src S.self k)
 | 0=>by
  intro _ he
  cases he
 | k+1=>by
  rename_i H ns iv m g kk i
  intro h he
  exact ac9 (fun hq hA hQ hB hg hn=>adb (RF eK k) hq hA hQ hB hg hn) h eK he
end
theorem aeC {P:Program} {X:Nat->Bool} {H:ad} {α:Type} {r:Rp α} {t e:TypeId} {el b:Nat} {x:α} {v:Value} {l:List α} {g g0:List Nat} {wF:List Value} {K:Value->ad->Prop} {tg:Tag K} (ha:iM P t=some (e,r.sz,el)) (I3:el < 1000) (hb:H.get b=some ⟨wF,e,false,false⟩) (hE:r.E H wF x g0) (cm:b < H.next) (h:Sl r H v l g) (hn:l.length < 1000000) (hX:X b=false) (hg0:∀c∈g0,c < H.next/\c≠b) (hg:∀c∈g,c < H.next)
  (hk:∀v' H' c g',Sl r H' v' (x::l) (c::(g0++g'))->(∀d∈g',d∈g)->(c=b/\H'=H.ah b ⟨wF,e,false,false⟩∨c=H.next/\∃cs,H'=H.push ⟨cs,e,true,false⟩)->K v' H'):ew P X H (iS P t (.slice (some ⟨b,0,none⟩) 1 1) v H) K tg:=by
 obtain ⟨cs,g',hs,fk,pL,jH⟩:=h.src (size:=r.sz) rfl
 have hlen:=r.len hE
 cases l with
 | nil=>
  have aX:cs=[]:=by simpa using fk
  have fj:g'=[]:=pL
  subst aX fj
  have eJ:cW wF (0+1 * r.sz) []=wF:=by simp [cW,hlen]
  rw [Ku (n:=0) (sl:=1) (sc:=1) ha hs (by simp) hb rfl (by show 0+1 * r.sz<=wF.length;omega) (by omega) (Nat.le_refl 1) rfl,ED hX,eJ]
  exact hk _ _ b [] (.inr (.inr ⟨b,0,1,_,g0,rfl,by simp,Nat.le_refl _,by simp,by rw [az];exact if_pos rfl,dV.one (r.af hE fun c hc=>by rw [az,if_neg (hg0 c hc).2])⟩)) (by simp) (.inl ⟨rfl,rfl⟩)
 | cons y l=>
  have hm:(1+(y::l).length) * el < 140737488355328:=by
   have:(1+(y::l).length) * el<=1000001 * 1000:=Nat.mul_le_mul (by omega) (by omega)
   omega
  rw [Kc (n:=(y::l).length) (o:=0) (sl:=1) (sc:=1) ha hs hb (by show wF.length=0+1 * r.sz;omega) (Nat.le_refl 1) hm (by simp)]
  rw [wK]
  have e0:(wF.drop 0).take (1 * r.sz)=wF:=by rw [List.drop_zero,List.take_of_length_le (by omega)]
  rw [e0]
  have k:∀c,c < H.next->(H.push ⟨wF++cs,e,true,false⟩).get c=H.get c:=fun c hc=>bX hc
  refine hk _ _ H.next g' (.inr (.inr ⟨H.next,0,_,_,g0++g',?_,by simp,Nat.le_refl _,rfl,by rw [aV];exact if_pos rfl,?_⟩)) jH (.inr ⟨rfl,_,rfl⟩)
  ·rw [show 1+(y::l).length=(x::y::l).length by simp only [List.length_cons];omega]
  ·exact ⟨wF,cs,g0,g',by simp,rfl,r.af hE fun c hc=>k c (hg0 c hc).1,pL.af fun c hc=>k c (hg c (jH c hc))⟩
section
variable {S:ZS} {src:List aG} {gP:List Nat} {H H1 H2:ad} {z:Nat} {ns bk bO:List aG} {m m1 m2 g g1 g2:List Nat}
theorem ZR.re (h:ZR S src gP H z ns m g H1 bk m1 g1):∃qN,H1.get z=some ⟨zC S qN,131,false,false⟩/\∀S':ZS,S'.pN=S.pN->ZR S' src gP H z ns m g (H1.ah z ⟨zC S' qN,131,false,false⟩) bk m1 g1:=by
 obtain ⟨qN,hz,cB⟩:=h.zq.row
 refine ⟨qN,hz,fun S' hp=>?_⟩
 have kg:∀c,c≠z->(H1.ah z ⟨zC S' qN,131,false,false⟩).get c=H1.get c:=fun c hc=>by rw [az,if_neg hc]
 exact ⟨h.fr.ah (.inl (by simp)) _,{row:=⟨qN,by rw [az,if_pos rfl],cB.af (fun c hc=>kg c (h.zq.hm c hc).2.1) (fun c hc=>kg c (h.zq.hg c hc).2)⟩,src:=by rw [hp];exact h.zq.src.af fun c hc=>kg c (h.zq.hP c hc).2,zl:=h.zq.zl,hm:=h.zq.hm,hg:=h.zq.hg,hP:=h.zq.hP,fz:=h.zq.fz,fm:=h.zq.fm,fn:=h.zq.fn},h.le,h.sm,h.sg⟩
theorem ZR.x2 {S':ZS} (h0:ZQ S src gP H z ns m g) (hf:bV H) (h:ZR S' src gP H z ns m g H1 bk m1 g1):∀b∈m1,H.fz b=false:=fun b hb=>(h.sm b hb).elim (h0.fm b) (fun e=>hf.fresh e)
theorem ZR.trans {S':ZS} (h:ZR S src gP H z ns m g H1 bk m1 g1) (h2:ZR S' src gP H1 z bk m1 g1 H2 bO m2 g2):ZR S' src gP H z ns m g H2 bO m2 g2:=by
 have n:=h.fr.nx
 refine ⟨h.fr.trans h2.fr fun c hc=>?_,h2.zq,Nat.le_trans h.le h2.le,fun c hc=>(h2.sm c hc).elim (h.sm c) fun e=>.inr (Nat.le_trans n e),fun c hc=>(h2.sg c hc).elim (h.sg c) fun e=>.inr (e.imp id (Nat.le_trans n))⟩
 rcases List.mem_cons.1 hc with e | e
 ·exact .inl (by simp [e])
 ·exact (h.sm c e).imp (fun e=>by simp [e]) id
theorem ZR.hp (h:ZR S src gP H z ns m g H1 bk m1 g1):∃Hp,Hp=H1:=⟨_,rfl⟩
abbrev uh:bf:=[115,101,108,102]
def Jr (bd:Zb):List eY->List eY->List aG->Option (List eY × List aG)
 | [],done,ns=>some (done,ns)
 | b::l,done,ns=>(bd b.body ns).bind fun x=>Jr bd l (done++[{b with ld:=uh,body:=x.1}]) x.2
abbrev z3 (d:eo):aG:={kind:=15,gu:=uh,pat:=d.pat,a:= -1,b:= -1,line:=d.line,aj:=d.aj,next:= -1}
abbrev z4 (d:eo):aG:={kind:=12,a:= -1,b:= -1,line:=d.line,aj:=d.aj,next:= -1}
def Ky (bd:Zb) (d:eo) (ns:List aG):Option (eo × List aG):=
 if 90000 < ns.length∨90000 < d.on.length∨90000 < d.params.length then none
 else (Jr bd d.on [] (ns++[z3 d])).bind fun x=>if 90000 < x.2.length then none else
  some (⟨d.name,⟨uh,⟨4,0,0,[],d.pat⟩⟩::d.params,0,((ns.length:Nat):Int),d.line,d.aj,false,[],[]⟩,(x.2++[z4 d]).set ns.length {(x.2++[z4 d]).getD ns.length {} with au:=x.1++[⟨-1,0,((x.2.length:Nat):Int),[],[],[],[]⟩]})
theorem ab4 {s:bf} {l c:Int} {h:KH}:fQ Tryz.prog 38 [(0,ae s),(4,iV l),(5,iV c)] h=.ok (.agg #[ae s,.slice none 0 0,iV 0,iV 0,iV l,iV c,.bool false,.slice none 0 0,.slice none 0 0]) h:=by kernel_rfl
theorem acw {a:Option Addr} {n c:Nat} {h:KH}:fQ Tryz.prog 99 [(0,iV 4),(4,.slice a n c)] h=.ok (.agg #[iV 4,iV 0,iV 0,ae [],.slice a n c]) h:=by kernel_rfl
theorem acx {s:bf} {a:Option Addr} {n c:Nat} {h:KH}:fQ Tryz.prog 101 [(0,ae s),(1,.agg #[iV 4,iV 0,iV 0,ae [],.slice a n c])] h=.ok (.agg #[ae s,iV 4,iV 0,iV 0,ae [],.slice a n c]) h:=by kernel_rfl
theorem ade {s:bf} {a:Option Addr} {n c:Nat} {h:KH}:fQ Tryz.prog 42 [(0,iV 15),(14,ae s),(18,.slice a n c),(8,iV (-1)),(9,iV (-1))] h=.ok (.agg #[iV 15,iV 0,iV 0,iV 0,iV 0,iV 0,iV 0,iV 0,iV (-1),iV (-1),iV 0,iV 0,iV 0,ae [],ae s,ae [],ae [],.slice none 0 0,.slice a n c,.slice none 0 0]) h:=by kernel_rfl
theorem adf {h:KH}:fQ Tryz.prog 42 [(0,iV 12),(8,iV (-1)),(9,iV (-1))] h=.ok (.agg #[iV 12,iV 0,iV 0,iV 0,iV 0,iV 0,iV 0,iV 0,iV (-1),iV (-1),iV 0,iV 0,iV 0,ae [],ae [],ae [],ae [],.slice none 0 0,.slice none 0 0,.slice none 0 0]) h:=by kernel_rfl
theorem acy {b:Int} {h:KH}:fQ Tryz.prog 52 [(0,iV (-1)),(2,iV b)] h=.ok (.agg #[iV (-1),iV 0,iV b,ae [],ae [],.slice none 0 0,.slice none 0 0]) h:=by kernel_rfl
theorem aeD {fuel:Nat} (eK:src.length < 100000) (h:ZQ S src gP H z ns m g) {d:eo} {vP vQ vO:Value} {gA gQ gO:List Nat} (hA:Sl lH H vP d.params gA) (hQ:Sl fJ H vQ d.pat gQ) (hO:Sl dG H vO d.on gO) (dW:∀c∈gA++(gQ++gO),c∈gP) {R:eo × List aG} (he:Ky (zw src d.name fuel) d ns=some R):
  ak Tryz.prog 79 #[pV z,.agg (dP d vP vQ vO).toArray] H (fun w H'=>Fr (z::m) H H'/\(∀c,H'.fz c=H.fz c)/\ns.length<=R.2.length/\∃v5 g5 m' g',w=.agg (dP R.1 v5 (.slice none 0 0) (.slice none 0 0)).toArray/\Sl lH H' v5 R.1.params g5/\(∀c∈g5,c∉m'/\(c∈gP∨H.next<=c)/\c < H'.next/\c≠z)/\ZQ0 {S with self:=[]} src gP H' z R.2 m' g'/\(∀c∈m',c∈m∨H.next<=c)/\∀c∈g',c∈g∨c∈gP∨H.next<=c):=by
 refine ak.told ?_
 refine ai7 (Nat.le_refl _) fun hf=>?_
 simp only [Tryz.f79,Option.getD_some]
 obtain ⟨aP,kP,rfl⟩:=hA.val
 obtain ⟨aQ,kQ,rfl⟩:=hQ.val
 obtain ⟨aO,kO,rfl⟩:=hO.val
 unfold Ky at he
 by_cases oq:90000 < ns.length∨90000 < d.on.length∨90000 < d.params.length
 ·rw [if_pos oq] at he;cases he
 rw [if_neg oq] at he
 simp only [not_or] at oq
 obtain ⟨ik,ft,fB⟩:=oq
 have r0:=((ZR.start h).push ⟨dP d (.slice aP d.params.length kP) (.slice aQ d.pat.length kQ) (.slice aO d.on.length kO),38,false,false⟩).push ⟨[ae [],.slice none 0 0,iV 0,iV 0,iV 0,iV 0,.bool false,.slice none 0 0,.slice none 0 0],38,false,false⟩
 obtain ⟨qN,B8,V5⟩:=r0.re
 have r1:=V5 {S with self:=d.name} rfl
 have r2:=r1.push ⟨[ae [],.slice none 0 0,iV 0,iV 0,iV 0,iV 0,.bool false,.slice none 0 0,.slice none 0 0],38,false,false⟩
 have gC:∀c,H.next<=c->H.next<=c/\c≠z/\c∉m/\c∉g/\c∉gP:=fun c hc=>⟨hc,by have:=h.zl;omega,fun e=>by have:=(h.hm c e).1;omega,fun e=>by have:=(h.hg c e).1;omega,fun e=>by have:=(h.hP c e).1;omega⟩
 have r3:=(r2.own (M:=[H.next+1+1]) ((Fr.refl _ _).ah (b:=H.next+1+1) (.inl (by simp)) ⟨[ae d.name,.slice none 0 0,iV 0,iV 0,iV d.line,iV d.aj,.bool false,.slice none 0 0,.slice none 0 0],38,false,false⟩) (fun c hc=>by rw [List.mem_singleton] at hc;subst hc;exact gC _ (by omega)) (fun _ _=>rfl)).push ⟨[ae uh,iV 4,iV 0,iV 0,ae [],.slice aQ d.pat.length kQ],101,false,false⟩
 have er:H.fz (H.next+1+1)=false:=hf.fresh (by omega)
 have hX:=h.fz
 have zl:=h.zl
 have nz0:¬z=H.next:=by omega
 have aaZ:¬H.next=z:=fun e=>nz0 e.symm
 have Tu:¬H.next+1+1=z:=by omega
 have p2:¬H.next=H.next+1+1:=by omega
 have p3:¬H.next=H.next+1+1+1:=by omega
 have q1:¬H.next+1=z:=by omega
 have q2:¬H.next+1=H.next+1+1:=by omega
 have q3:¬H.next+1=H.next+1+1+1:=by omega
 simp only [go_sem,B8,hX,er,aaZ,Tu,p2,p3,ab4,acw,acx,eB Bo (by decide) (by decide)]
 obtain ⟨Hp,D9⟩:=r3.hp
 rw [<-D9] at r3 ⊢
 have gd3:Hp.get H.next=some ⟨dP d (.slice aP d.params.length kP) (.slice aQ d.pat.length kQ) (.slice aO d.on.length kO),38,false,false⟩:=by rw [D9];simp only [aV,az,bJ,oO,p2,p3,aaZ,ite_true,ite_false,Nat.left_eq_add,Nat.reduceEqDiff]
 have go3:Hp.get (H.next+1+1)=some ⟨[ae d.name,.slice none 0 0,iV 0,iV 0,iV d.line,iV d.aj,.bool false,.slice none 0 0,.slice none 0 0],38,false,false⟩:=by rw [D9];simp only [aV,az,bJ,oO,ite_true,ite_false,Nat.left_eq_add,Nat.reduceEqDiff]
 have gl3:Hp.get (H.next+1+1+1)=some ⟨[ae uh,iV 4,iV 0,iV 0,ae [],.slice aQ d.pat.length kQ],101,false,false⟩:=by rw [D9];simp only [aV,az,bJ,oO,ite_true]
 have g43:Hp.get (H.next+1)=some ⟨[ae [],.slice none 0 0,iV 0,iV 0,iV 0,iV 0,.bool false,.slice none 0 0,.slice none 0 0],38,false,false⟩:=by rw [D9];simp only [aV,az,bJ,oO,q1,ite_true,ite_false,Nat.left_eq_add,Nat.reduceEqDiff,q2,q3]
 have Gh:Hp.next=H.next+1+1+1+1:=by rw [D9];rfl
 clear D9
 obtain ⟨bo,jt⟩:∃bo,bo=H.next+1+1:=⟨_,rfl⟩
 rw [<-jt] at go3 gl3 Gh er Tu p2 p3 ⊢
 obtain ⟨b4,oK⟩:∃b4,b4=H.next+1:=⟨_,rfl⟩
 rw [<-oK] at g43 ⊢
 have Eb:∀c∈gP,c < H.next/\c≠z/\c∉m:=fun c hc=>⟨(h.hP c hc).1,(h.hP c hc).2,fun e=>(h.hm c e).2.2.1 hc⟩
 have kP:∀{Hx Mz mx gx},ZR {S with self:=d.name} src gP H z ns m g Hx Mz mx gx->∀c∈gP,Hx.get c=H.get c:=fun r c hc=>r.fr.get c (Eb c hc).1 (by simp only [List.mem_cons,not_or];exact ⟨(Eb c hc).2.1,(Eb c hc).2.2⟩)
 have GH:∀c∈gA,c∈gP:=fun c hc=>dW c (by simp [hc])
 have tG:∀c∈gQ,c∈gP:=fun c hc=>dW c (by simp [hc])
 have V7:∀c∈gO,c∈gP:=fun c hc=>dW c (by simp [hc])
 refine aeC (r:=lH) (x:=⟨uh,⟨4,0,0,[],d.pat⟩⟩) (g0:=gQ) Bo (by decide) gl3 ⟨_,rfl,hQ.af fun c hc=>kP r3 c (tG c hc)⟩ (by omega) (hA.af fun c hc=>kP r3 c (GH c hc)) (by omega) (hf.fresh (by omega)) (fun c hc=>by have:=(Eb c (tG c hc)).1;omega) (fun c hc=>by have:=(Eb c (GH c hc)).1;omega) ?_
 intro v5 H5 c5 g5 fC xz iR
 obtain ⟨a5,k5,jI⟩:=fC.val
 rw [List.length_cons] at jI
 subst jI
 obtain ⟨r5,V9,g45,go5,Qa,tz⟩:ZR {S with self:=d.name} src gP H z ns m g H5 ns m g/\H5.get H.next=Hp.get H.next/\H5.get b4=Hp.get b4/\H5.get bo=Hp.get bo/\Hp.next<=H5.next/\(bo < c5/\c5 < H5.next):=by
  rcases iR with ⟨rfl,rfl⟩ | ⟨rfl,cs,rfl⟩
  ·exact ⟨r3.own (M:=[bo+1]) ((Fr.refl _ _).ah (b:=bo+1) (.inl (by simp)) _) (fun c hc=>by rw [List.mem_singleton] at hc;subst hc;exact gC _ (by omega)) (fun _ _=>rfl),by rw [az,if_neg (by omega)],by rw [az,if_neg (by omega)],by rw [az,if_neg (by omega)],Nat.le_refl _,by omega,by show bo+1 < Hp.next;omega⟩
  ·exact ⟨r3.push _,by rw [bX (by omega)],by rw [bX (by omega)],by rw [bX (by omega)],Nat.le_succ _,by omega,Nat.lt_succ_self _⟩
 rw [gd3] at V9
 rw [g43] at g45
 rw [go3] at go5
 have r6:=r5.own (M:=[bo]) ((Fr.refl _ _).ah (b:=bo) (.inl (by simp)) ⟨[ae d.name,.slice a5 (d.params.length+1) k5,iV 0,iV 0,iV d.line,iV d.aj,.bool false,.slice none 0 0,.slice none 0 0],38,false,false⟩) (fun c hc=>by rw [List.mem_singleton] at hc;subst hc;exact gC _ (by omega)) (fun _ _=>rfl)
 obtain ⟨H6,eT⟩:=r6.hp
 have go6:H6.get bo=some ⟨[ae d.name,.slice a5 (d.params.length+1) k5,iV 0,iV 0,iV d.line,iV d.aj,.bool false,.slice none 0 0,.slice none 0 0],38,false,false⟩:=by rw [eT,az,if_pos rfl]
 have k6:∀c,c≠bo->H6.get c=H5.get c:=fun c hc=>by rw [eT,az,if_neg hc]
 have GI:H6.next=H5.next:=by rw [eT];rfl
 have p2':¬bo=H.next:=fun e=>p2 e.symm
 simp only [go_sem,go5,V9,er,p2,p2',ade]
 rw [<-eT] at r6 ⊢
 clear eT
 have gd6:=(k6 H.next p2).trans V9
 have g46:=(k6 b4 (by omega)).trans g45
 have BI:∀{H:ad},Sl jO H (.slice none 0 0) [] []/\Sl fJ H (.slice none 0 0) [] []/\Sl dG H (.slice none 0 0) [] []:=fun {H}=>⟨.inl ⟨rfl,rfl,rfl⟩,.inl ⟨rfl,rfl,rfl⟩,.inl ⟨rfl,rfl,rfl⟩⟩
 refine ag.by (r6.add (n:={kind:=15,gu:=uh,pat:=d.pat,a:= -1,b:= -1}) (line:=d.line) (aj:=d.aj) (by omega) (BI).1 (hQ.af fun c hc=>kP r6 c (tG c hc)) (BI).2.2 (fun c hc=>by
  have hc:c∈gP:=tG c (by simpa using hc)
  have:=Eb c hc
  exact ⟨by omega,this.2.1,this.2.2,.inl hc⟩)) ?_
 rintro _ H7 - ⟨rfl,f7,m7,r7,s7⟩
 have r7:ZR {S with self:=d.name} src gP H z ns m g H7 (ns++[z3 d]) m7 (g++gQ):=by
  rw [List.append_nil,List.nil_append] at r7
  exact r7
 have xI:=f7.nx
 have k7:∀c,H.next<=c->c < H6.next->H7.get c=H6.get c:=fun c h1 h2=>f7.get c h2 (by simp only [List.mem_cons,not_or];exact (gC c h1).2.imp_right (·.1))
 have go7:=(k7 bo (by omega) (by omega)).trans go6
 have gd7:=(k7 H.next (by omega) (by omega)).trans gd6
 have g47:=(k7 b4 (by omega) (by omega)).trans g46
 have DZ:∀c,H.next<=c->c < H6.next->c∉m7:=fun c h1 h2 e=>(s7 c e).elim (gC c h1).2.2.1 fun e=>by omega
 have r8:=r7.own (M:=[bo]) ((Fr.refl _ _).ah (b:=bo) (.inl (by simp)) ⟨[ae d.name,.slice a5 (d.params.length+1) k5,iV 0,iV (ns.length:Nat),iV d.line,iV d.aj,.bool false,.slice none 0 0,.slice none 0 0],38,false,false⟩) (fun c hc=>by rw [List.mem_singleton] at hc;subst hc;exact ⟨by omega,(gC _ (by omega)).2.1,DZ _ (by omega) (by omega),fun e=>by
  exact (List.mem_append.1 e).elim (gC _ (by omega)).2.2.2.1 fun e=>(gC _ (by omega)).2.2.2.2 (tG _ e),(gC _ (by omega)).2.2.2.2⟩) (fun _ _=>rfl)
 obtain ⟨H8,fL⟩:=r8.hp
 have go8:H8.get bo=some ⟨[ae d.name,.slice a5 (d.params.length+1) k5,iV 0,iV (ns.length:Nat),iV d.line,iV d.aj,.bool false,.slice none 0 0,.slice none 0 0],38,false,false⟩:=by rw [fL,az,if_pos rfl]
 have k8:∀c,c≠bo->H8.get c=H7.get c:=fun c hc=>by rw [fL,az,if_neg hc]
 have Ec:H8.next=H7.next:=by rw [fL];rfl
 simp only [go_sem,go7,gd7,er,p2,p2']
 rw [<-fL] at r8 ⊢
 clear fL
 have gd8:=(k8 H.next p2).trans gd7
 have g48:=(k8 b4 (by omega)).trans g47
 have zo:=fC.af (H':=H8) fun c hc=>by
  rcases List.mem_cons.1 hc with e | e
  ·rw [e,k8 c5 (by omega),k7 c5 (by omega) (by omega),k6 c5 (by omega)]
  ·have:c∈gP:=(List.mem_append.1 e).elim (tG c) fun e=>GH c (xz c e)
   rw [kP r8 c this,kP r5 c this]
 cases Js:Jr (zw src d.name fuel) d.on [] (ns++[z3 d]) with
 | none=>rw [Js] at he;cases he
 | some X=>
 rw [Js] at he
 simp only [Option.bind_some] at he
 have hP8:∀c∈gP,c < H8.next/\c∉z::m7:=fun c hc=>⟨(r8.zq.hP c hc).1,by simp only [List.mem_cons,not_or];exact ⟨(Eb c hc).2.1,fun e=>(r8.zq.hm c e).2.2.1 hc⟩⟩
 have EO:∀c,H8.next<=c->H8.next<=c/\c≠z/\c∉m7/\c∉(g++gQ)/\c∉gP:=fun c hc=>⟨hc,by have:=r8.zq.zl;omega,fun e=>by have:=(r8.zq.hm c e).1;omega,fun e=>by have:=(r8.zq.hg c e).1;omega,fun e=>by have:=(r8.zq.hP c e).1;omega⟩
 have hO8:=hO.af (H':=H8) fun c hc=>kP r8 c (V7 c hc)
 have hl8:ns.length < (ns++[z3 d]).length:=by rw [List.length_append,List.length_singleton];omega
 refine iw 576443160117379392 d.on.length (fun i V H9=>V 44=iV (i:Nat)/\∃vL uW m9 g9 mL gL done,V 6=vL/\ZR {S with self:=d.name} src gP H8 z (ns++[z3 d]) m7 (g++gQ) H9 uW m9 g9/\Gr dG 52 H9 vL done mL gL/\(∀c∈mL,H8.next<=c/\c < H9.next/\c∉m9/\c∉g9)/\(∀c∈gL,c∈gP)/\done.length=i/\Jr (zw src d.name fuel) (d.on.drop i) done uW=some X)
  ⟨by simp only [go_sem] <;> rfl,.slice none 0 0,_,m7,_,[],[],[],by simp only [go_sem] <;> rfl,ZR.start r8.zq,Gr.nil _ _ _,by simp,by simp,rfl,Js⟩ ?_ ?_ (by rfl)
 ·rintro i V H9 hi ⟨ei,vL,uW,m9,g9,mL,gL,done,e6,r9,kJ,Ag,Ah,df,Cw⟩
  have hx:d.on[i]?=some (d.on[i]'hi):=List.getElem?_eq_getElem hi
  have cE:d.on.drop i=(d.on[i]'hi)::d.on.drop (i+1):=(List.getElem_cons_drop hi).symm
  generalize (d.on[i]'hi)=x at hx cE
  rw [cE,Jr] at Cw
  have zx:∀{Hx Mz mx gx},ZR {S with self:=d.name} src gP H8 z (ns++[z3 d]) m7 (g++gQ) Hx Mz mx gx->∀c∈gP,Hx.get c=H8.get c:=fun r c hc=>r.fr.get c (hP8 c hc).1 (hP8 c hc).2
  have hO9:=hO8.af (H':=H9) fun c hc=>zx r9 c (V7 c hc)
  obtain ⟨b,o,c',B,gx,hv,hB,ep,dj,cm,hE⟩:=hO9.at hx
  cases hv
  obtain ⟨vS,vN,u1,u2,aX,rfl,t5,t6⟩:=hE
  obtain ⟨aS,kS,rfl⟩:=t5.val
  obtain ⟨aN,kN,rfl⟩:=t6.val
  have ez:o+i * 7+7<=B.cells.length:=cm
  have aX:(B.cells.drop (o+i * 7)).take 7=cG x (.slice aS x.aY.length kS) (.slice aN x.names.length kN):=aX
  have ct:IntKind.wrap .i64 (((i:Nat):Int)+1)=((i+1:Nat):Int):=cZ hi (by omega)
  cases iB:zw src d.name fuel x.body uW with
  | none=>rw [iB] at Cw;cases Cw
  | some BB=>
  obtain ⟨bi,al0⟩:=BB
  rw [iB] at Cw
  simp only [Option.bind_some] at Cw
  have n89:=r9.fr.nx
  have AK:H.fz H9.next=false:=hf.fresh (by omega)
  have R7:∀c,H9.next<=c->H8.next<=c/\c≠z/\c∉m9/\c∉g9/\c∉gP:=fun c hc=>⟨by omega,by have:=r9.zq.zl;omega,fun e=>by have:=(r9.zq.hm c e).1;omega,fun e=>by have:=(r9.zq.hg c e).1;omega,fun e=>by have:=(r9.zq.hP c e).1;omega⟩
  have rq:=r9.push ⟨cG {x with ld:=uh} (.slice aS x.aY.length kS) (.slice aN x.names.length kN),52,false,false⟩
  obtain ⟨Hq,MA⟩:=rq.hp
  have gxq:Hq.get H9.next=some ⟨cG {x with ld:=uh} (.slice aS x.aY.length kS) (.slice aN x.names.length kN),52,false,false⟩:=by rw [MA,aV,if_pos rfl]
  have kq:∀c,c < H9.next->Hq.get c=H9.get c:=fun c hc=>by rw [MA,bX hc]
  have nxq:Hq.next=H9.next+1:=by rw [MA];rfl
  simp only [go_sem,ei,hi,hB,ez,aX,AK]
  rw [<-MA] at rq ⊢
  clear MA
  refine ag.by ((RF (S:={S with self:=d.name}) eK fuel) rq.zq iB) ?_
  rintro _ dh - ⟨rfl,j9⟩
  obtain ⟨AF,qf,cT,Vz,t10⟩:=rq.call j9
  have Wa:=j9.1.nx
  have kx:∀c,c < Hq.next->c≠z->c∉m9->dh.get c=Hq.get c:=fun c h1 h2 h3=>j9.1.get c h1 (by simp only [List.mem_cons,not_or];exact ⟨h2,h3⟩)
  have Lq:=(kx H9.next (by omega) (R7 _ (Nat.le_refl _)).2.1 (R7 _ (Nat.le_refl _)).2.2.1).trans gxq
  have aa0:∀c,H8.next<=c->c < Hq.next->c∉m9->c∉AF:=fun c h1 h2 h3 e=>(Vz c e).elim h3 fun e=>by omega
  have aa1:∀c,H8.next<=c->c < Hq.next->c∉g9->c∉qf:=fun c h1 h2 h3 e=>(t10 c e).elim h3 fun e=>e.elim (EO c h1).2.2.2.2 fun e=>by omega
  have dk:=(cT.own (M:=[H9.next]) ((Fr.refl _ _).ah (b:=H9.next) (.inl (by simp)) ⟨cG {x with ld:=uh,body:=bi} (.slice aS x.aY.length kS) (.slice aN x.names.length kN),52,false,false⟩) (fun c hc=>by rw [List.mem_singleton] at hc;subst hc;have:=R7 _ (Nat.le_refl _);exact ⟨this.1,this.2.1,aa0 _ this.1 (by omega) this.2.2.1,aa1 _ this.1 (by omega) this.2.2.2.1,this.2.2.2.2⟩) (fun _ _=>rfl)).push ⟨cG {x with ld:=uh,body:=bi} (.slice aS x.aY.length kS) (.slice aN x.names.length kN),52,false,false⟩
  obtain ⟨dX,Lr⟩:=dk.hp
  have Dz:dX.get dh.next=some ⟨cG {x with ld:=uh,body:=bi} (.slice aS x.aY.length kS) (.slice aN x.names.length kN),52,false,false⟩:=by rw [Lr,aV];exact if_pos rfl
  have Jt:∀c,c < dh.next->c≠H9.next->dX.get c=dh.get c:=fun c hc h1=>by rw [Lr,bX (by rw [oO];exact hc),az,if_neg h1]
  have awJ:dX.next=dh.next+1:=by rw [Lr];rfl
  simp only [go_sem,Lq,AK,e6,eB sA (by decide) (by decide)]
  rw [<-Lr] at dk ⊢
  clear Lr
  have SD:=kJ.af (H':=dX) (fun c hc=>by
   have:=Ag c hc
   rw [Jt c (by omega) (by omega),kx c (by omega) (by have:=(EO c this.1).2.1;exact this) this.2.2.1,kq c this.2.1]) (fun c hc=>by rw [zx dk c (Ah c hc),zx r9 c (Ah c hc)])
  have GJ:∀c∈u1++u2,c∈gP:=fun c hc=>V7 c (dj c hc)
  refine jZ (r:=dG) (x:={x with ld:=uh,body:=bi}) (g':=u1++u2) sA SD (fun c hc=>by have:=(Ag c hc).2.1;omega) (fun c hc=>(dk.zq.hP c (Ah c hc)).1) (fun c hc=>⟨(dk.zq.hP c (GJ c hc)).1,fun e=>(EO c (Ag c e).1).2.2.2.2 (GJ c hc)⟩) (fun c hc=>hf.fresh (by have:=(Ag c hc).1;omega)) Dz ⟨_,_,u1,u2,rfl,rfl,t5.af fun c hc=>by rw [zx dk c (GJ c (by simp [hc])),zx r9 c (GJ c (by simp [hc]))],t6.af fun c hc=>by rw [zx dk c (GJ c (by simp [hc])),zx r9 c (GJ c (by simp [hc]))]⟩ rfl (by omega) ?_
  intro Cx dr wX av3 atw ajU ajV
  simp only [go_sem,ei,ct]
  have dm:=dk.own ajU (fun c hc=>by
   have:=Ag c hc
   exact ⟨this.1,(EO c this.1).2.1,aa0 _ this.1 (by omega) this.2.2.1,aa1 _ this.1 (by omega) this.2.2.2,(EO c this.1).2.2.2.2⟩) (fun c hc=>by rw [ajV,show (c==dX.next)=false from by rw [beq_eq_false_iff_ne];omega,Bool.false_or])
  refine ⟨Cx,al0,AF,qf,[dX.next],gL++(u1++u2),done++[{x with ld:=uh,body:=bi}],rfl,dm,wX,fun c hc=>?_,fun c hc=>(List.mem_append.1 hc).elim (Ah c) (GJ c),by rw [List.length_append,List.length_singleton,df],Cw⟩
  rw [List.mem_singleton] at hc
  subst hc
  exact ⟨by omega,by omega,fun e=>by have:=(dk.zq.hm _ e).1;omega,fun e=>by have:=(dk.zq.hg _ e).1;omega⟩
 ·rintro V H9 ⟨ei,vL,uW,m9,g9,mL,gL,done,e6,r9,kJ,Ag,Ah,df,Cw⟩
  rw [List.drop_length] at Cw
  cases Cw
  simp only at he
  by_cases Gq:90000 < uW.length
  ·rw [if_pos Gq] at he;cases he
  rw [if_neg Gq] at he
  cases he
  have n89:=r9.fr.nx
  have k9:∀c,H.next<=c->c < H6.next->H9.get c=H8.get c:=fun c h1 h2=>r9.fr.get c (by omega) (by simp only [List.mem_cons,not_or];exact ⟨(gC c h1).2.1,DZ c h1 h2⟩)
  have go9:=(k9 bo (by omega) (by omega)).trans go8
  have gd9:=(k9 H.next (by omega) (by omega)).trans gd8
  have g49:=(k9 b4 (by omega) (by omega)).trans g48
  have Wb:=r8.trans r9
  have MB:∀c,H.next<=c->c < H6.next->c∉m9:=fun c h1 h2 e=>(r9.sm c e).elim (DZ c h1 h2) fun e=>by omega
  have hs9:=zo.af (H':=H9) fun c hc=>by
   rcases List.mem_cons.1 hc with e | e
   ·rw [e,k9 c5 (by omega) (by omega)]
   ·have:c∈gP:=(List.mem_append.1 e).elim (tG c) fun e=>GH c (xz c e)
    rw [kP Wb c this,kP r8 c this]
  simp only [go_sem,ei,gd9,adf]
  refine ag.by (r9.add (n:={kind:=12,a:= -1,b:= -1}) (line:=d.line) (aj:=d.aj) (by omega) (BI).1 (BI).2.1 (BI).2.2 (fun c hc=>by simp at hc)) ?_
  rintro _ ju - ⟨rfl,f13,Cm,gK,MC⟩
  have aa2:ZR {S with self:=d.name} src gP H8 z (ns++[z3 d]) m7 (g++gQ) ju (uW++[z4 d]) Cm g9:=by
   rw [List.append_nil,List.append_nil,List.append_nil] at gK
   exact gK
  have gK:=r8.trans aa2
  have Vt:=f13.nx
  have Cy:∀c,c < H9.next->c≠z->c∉m9->ju.get c=H9.get c:=fun c h1 h2 h3=>f13.get c h1 (by simp only [List.mem_cons,not_or];exact ⟨h2,h3⟩)
  have kO:∀c,H.next<=c->c < H6.next->ju.get c=H9.get c:=fun c h1 h2=>Cy c (by omega) (gC c h1).2.1 (MB c h1 h2)
  have O2:=(kO bo (by omega) (by omega)).trans go9
  have al1:=(kO H.next (by omega) (by omega)).trans gd9
  have al2:=(kO b4 (by omega) (by omega)).trans g49
  have al3:=hs9.af (H':=ju) fun c hc=>by
   rcases List.mem_cons.1 hc with e | e
   ·rw [e,kO c5 (by omega) (by omega)]
   ·have:c∈gP:=(List.mem_append.1 e).elim (tG c) fun e=>GH c (xz c e)
    rw [kP gK c this,kP Wb c this]
  have jE:ns.length < (uW++[z4 d]).length:=by
   have:(ns++[z3 d]).length<=uW.length:=r9.le
   rw [List.length_append,List.length_singleton] at this ⊢;omega
  obtain ⟨awK,O3,ajW⟩:=gK.zq.row
  obtain ⟨aN,zj⟩:=ajW.val
  subst zj
  have nN:=kJ.af (H':=ju) (fun c hc=>by
   have:=Ag c hc
   exact Cy c this.2.1 (EO c this.1).2.1 this.2.2.1) (fun c hc=>by rw [kP gK c (Ah c hc),kP Wb c (Ah c hc)])
  obtain ⟨aL,qj⟩:=nN.val
  subst qj
  simp only [go_sem,O3,O2,al1,e6,acy,eB sA (by decide) (by decide)]
  have wk:∀c∈mL,H.next<=c/\c < ju.next/\c≠z/\c∉Cm/\c∉g9/\c∉gP:=fun c hc=>by
   have:=Ag c hc
   have h8:=EO c this.1
   exact ⟨by omega,by omega,h8.2.1,fun e=>(MC c e).elim this.2.2.1 fun e=>by omega,this.2.2.2,h8.2.2.2.2⟩
  have ke:=aa2.push ⟨[iV (-1),iV 0,iV (uW.length:Nat),ae [],ae [],.slice none 0 0,.slice none 0 0],52,false,false⟩
  obtain ⟨jG,ou⟩:=ke.hp
  have al4:jG.get ju.next=some ⟨cG ⟨-1,0,((uW.length:Nat):Int),[],[],[],[]⟩ (.slice none 0 0) (.slice none 0 0),52,false,false⟩:=by rw [ou,aV,if_pos rfl]
  have uX:∀c,c < ju.next->jG.get c=ju.get c:=fun c hc=>by rw [ou,bX hc]
  have aa3:jG.next=ju.next+1:=by rw [ou];rfl
  rw [<-ou] at ke ⊢
  clear ou
  refine jZ (r:=dG) (x:=⟨-1,0,((uW.length:Nat):Int),[],[],[],[]⟩) (g':=[]) sA (nN.af (H':=jG) (fun c hc=>uX c (wk c hc).2.1) (fun c hc=>uX c (gK.zq.hP c (Ah c hc)).1)) (fun c hc=>by have:=(wk c hc).2.1;omega) (fun c hc=>by have:=(gK.zq.hP c (Ah c hc)).1;omega) (by simp) (fun c hc=>hf.fresh (wk c hc).1) al4 ⟨_,_,[],[],rfl,rfl,.inl ⟨rfl,rfl,rfl⟩,.inl ⟨rfl,rfl,rfl⟩⟩ rfl (by omega) ?_
  intro v15 jv ZZ av4 ahz ajX ajY
  have aa4:=ke.own ajX (fun c hc=>by have:=wk c hc;exact ⟨(Ag c hc).1,this.2.2⟩) (fun c hc=>by rw [ajY,show (c==jG.next)=false from by rw [beq_eq_false_iff_ne];omega,Bool.false_or])
  have mu:=r8.trans aa4
  have wG:∀c,c < ju.next->c∉mL->jv.get c=ju.get c:=fun c h1 h2=>(ahz c (by omega) h2).trans (uX c h1)
  have O4:∀c,c < H8.next->jv.get c=ju.get c:=fun c h1=>wG c (by omega) fun e=>by have:=(Ag c e).1;omega
  have al5:=(O4 bo (by omega)).trans O2
  have al6:=(O4 b4 (by omega)).trans al2
  have Tv:=(O4 z (by omega)).trans O3
  have al7:=al3.af (H':=jv) fun c hc=>by
   rcases List.mem_cons.1 hc with e | e
   ·rw [e,O4 c5 (by omega)]
   ·have:c∈gP:=(List.mem_append.1 e).elim (tG c) fun e=>GH c (xz c e)
    rw [kP mu c this,kP gK c this]
  have Br:∀c∈[jG.next]++(gL++[]),c < jv.next/\c≠z/\c∉Cm/\(c∈gP∨H8.next<=c):=fun c hc=>by
   rcases List.mem_append.1 hc with e | e
   ·rw [List.mem_singleton] at e
    subst e
    exact ⟨by omega,by omega,fun e=>by have:=(gK.zq.hm _ e).1;omega,.inr (by omega)⟩
   ·rw [List.append_nil] at e
    have hp:=Ah c e
    exact ⟨(mu.zq.hP c hp).1,(mu.zq.hP c hp).2,fun e=>(mu.zq.hm c e).2.2.1 hp,.inl hp⟩
  obtain ⟨b,cs,Tw,fZ,aa5,ajZ,PX,aa6⟩:=aa4.KV jE ZZ.sl Br
  have AE:=r8.trans aa6
  have al8:∀c,H.next<=c->c < H8.next->c∉PX:=fun c h1 h2 e=>(aa6.sg c e).elim (fun e=>(List.mem_append.1 e).elim (gC c h1).2.2.2.1 fun e=>(gC c h1).2.2.2.2 (tG c e)) fun e=>e.elim (gC c h1).2.2.2.2 fun e=>by omega
  have al9:ju.get b=some ⟨cs,42,true,false⟩:=(wG b (gK.zq.hm b fZ).1 fun e=>(wk b e).2.2.2.1 fZ).symm.trans aa5
  rw [Tv] at Tw
  have fx:=ZR.x2 h hf mu b fZ
  have dK:ns.length * 20+19 < cs.length:=by omega
  have gh:ns.length * 20+19+1<=cs.length:=by omega
  have wH:aN=some ⟨b,0,none⟩:=by
   simp only [zC,Option.some.injEq,cw.mk.injEq,List.cons.injEq,Value.slice.injEq] at Tw
   exact Tw.1.2.2.2.2.2.2.2.1.1
  subst wH
  have nbo:¬bo=b:=fun e=>by have:=MB bo (by omega) (by omega);exact (MC b fZ).elim (fun e'=>this (e▸e')) fun e'=>by omega
  have I8:¬b4=b:=fun e=>by have:=MB b4 (by omega) (by omega);exact (MC b fZ).elim (fun e'=>this (e▸e')) fun e'=>by omega
  have MD:¬z=b:=fun e=>(gK.zq.hm b fZ).2.1 e.symm
  have Gy:H.fz b4=false:=hf.fresh (by omega)
  have no4:¬bo=b4:=by omega
  obtain ⟨a15,ama⟩:=ZZ.val
  subst ama
  have amb:=(uX z (by omega)).trans O3
  have amc:=(uX bo (by omega)).trans O2
  obtain ⟨amd,Tx,aj0⟩:=AE.re
  have SE:H.next<=b4/\b4≠z/\b4∉Cm/\b4∉PX/\b4∉gP:=⟨by omega,by omega,fun e=>(MC b4 e).elim (MB b4 (by omega) (by omega)) fun e=>by omega,al8 b4 (by omega) (by omega),(gC b4 (by omega)).2.2.2.2⟩
  have wy:=(aj0 {S with self:=[]} rfl).own (M:=[b4]) ((Fr.refl _ _).ah (b:=b4) (.inl (by simp)) ⟨[ae d.name,.slice a5 (d.params.length+1) k5,iV 0,iV (ns.length:Nat),iV d.line,iV d.aj,.bool false,.slice none 0 0,.slice none 0 0],38,false,false⟩) (fun c hc=>by
   rw [List.mem_singleton] at hc
   rw [hc];exact SE) (fun _ _=>rfl)
  have Mv:amd=.slice (some ⟨b,0,none⟩) (uW++[z4 d]).length (uW++[z4 d]).length:=by
   rw [az,if_neg MD,Tv] at Tx
   simp only [zC,Option.some.injEq,cw.mk.injEq,List.cons.injEq] at Tx
   exact Tx.1.2.2.2.2.2.2.2.1.symm
  subst Mv
  have ame:¬b4=z:=SE.2.1
  have nbz:¬b=z:=fun e=>MD e.symm
  simp only [go_sem,amb,amc,Tv,al5,O2,O3,aa5,al9,fx,jE,dK,gh,ajZ,nbo,MD,eW dK,hX,al6,I8,Tu,Gy,no4,ame,nbz]
  have iU:∀c∈c5::(gQ++g5),c∉Cm/\(c∈gP∨H.next<=c)/\c < jv.next/\c≠z/\c≠b/\c≠b4:=fun c hc=>by
   rcases List.mem_cons.1 hc with e | e
   ·subst e
    have h1:c∉Cm:=fun e=>(MC c e).elim (MB c (by omega) (by omega)) fun e=>by omega
    exact ⟨h1,.inr (by omega),by omega,by omega,fun e=>h1 (e▸fZ),by omega⟩
   ·have hp:c∈gP:=(List.mem_append.1 e).elim (tG c) fun e=>GH c (xz c e)
    have h1:c∉Cm:=fun e=>(AE.zq.hm c e).2.2.1 hp
    exact ⟨h1,.inl hp,(mu.zq.hP c hp).1,(Eb c hp).2.1,fun e=>h1 (e▸fZ),fun e=>SE.2.2.2.2 (e▸hp)⟩
  exact ⟨wy.fr.ai _,fun _=>trivial,wy.le,.slice a5 (d.params.length+1) k5,c5::(gQ++g5),Cm,PX,rfl,al7.af fun c hc=>by
   have:=iU c hc
   rw [bg,az,if_neg this.2.2.2.2.2,az,if_neg this.2.2.2.1,az,if_neg this.2.2.2.2.1],fun c hc=>by have:=iU c hc;exact ⟨this.1,this.2.1,this.2.2.1,this.2.2.2.1⟩,wy.zq.toZQ0.ai,wy.sm,wy.sg⟩
end
def HD (ds:List eo):Nat->List aG->Option Bool
 | _,[]=>some false
 | i,n::l=>if n.kind=14 then
   (if 0<=Kx ds (i:Nat) then (match ds[(Kx ds (i:Nat)).toNat]? with
    | some d=>if d.sy=true then HD ds (i+1) l else some true
    | none=>none) else none)
  else HD ds (i+1) l
def Iz (src:List aG) (fuel:Nat):List eo->List eo->List aG->Option (List eo × List aG)
 | [],done,ns=>some (done,ns)
 | d::l,done,ns=>if d.sy=true then (Ky (zw src d.name fuel) d ns).bind fun x=>Iz src fuel l (done++[x.1]) x.2
  else (zw src [] fuel d.body ns).bind fun x=>Iz src fuel l (done++[{d with body:=x.1}]) x.2
def Kz (fuel:Nat) (P:bw):Option (Option bw):=
 if 90000 < P.nodes.length∨90000 < P.defs.length∨¬P.defs.all (fun d=>Nat.ble d.on.length 90000)=true then none
 else (HD P.defs 0 P.nodes).bind fun e=>if e=true then some none
 else (Iz P.nodes fuel P.defs [] []).bind fun x=>
  if 90000 < x.2.length then none
  else if 400 < x.2.length then some none
  else if P.defs.any (fun d=>d.sy&&Nat.ble 6 d.params.length)=true then some none
  else if P.nodes.any (fun n=>(decide (n.kind=2)||decide (n.kind=14))&&Nat.ble 6 n.args.length)=true then some none
  else some (some {P with defs:=x.1,nodes:=x.2})
def uY (H':ad) (w:Value) (P:bw) (g:List Nat):Prop:=∃vM vR vD vN gM gR gD gN,w=.agg #[vM,vR,vD,vN]/\Sl pI H' vM P.msgs gM/\Sl qC H' vR P.bZ gR/\Sl jq H' vD P.defs gD/\Sl kr H' vN P.nodes gN/\g=gM++(gR++(gD++gN))
def Zj (gs:List Nat) (n:Nat) (R:Option bw) (H':ad) (w:Value):Prop:=match R with
 | some P=>∃v g,w=.tuple #[v,iV 0,iV 0,iV 0]/\uY H' v P g/\∀c∈g,c < H'.next/\(c∈gs∨n<=c)
 | none=>∃a b e,w=.tuple #[.agg #[.slice none 0 0,.slice none 0 0,.slice none 0 0,.slice none 0 0],iV a,iV b,iV e]/\e≠0
abbrev zS (vM vR vD vN vQ:Value) (self:bf):ZS:=⟨vM,vR,vD,vN,vM,vR,vQ,self⟩
theorem adV {a1 a2 a3 a4:Option Addr} {n1 n2 n3 n4 c1 c2 c3 c4:Nat} {h:KH}:fQ Tryz.prog 131 [(0,.agg #[.slice a1 n1 c1,.slice a2 n2 c2,.slice a3 n3 c3,.slice a4 n4 c4])] h=.ok (.agg (zC ⟨.slice a1 n1 c1,.slice a2 n2 c2,.slice a3 n3 c3,.slice a4 n4 c4,.slice none 0 0,.slice none 0 0,.slice none 0 0,[]⟩ (.slice none 0 0)).toArray) h:=by kernel_rfl
section
variable {H:ad} {P:bw}
theorem aeE {fuel:Nat} {vM vR vD vN:Value} {gM gR gD gN:List Nat} (hM:Sl pI H vM P.msgs gM) (hR:Sl qC H vR P.bZ gR) (hD:Sl jq H vD P.defs gD) (hN:Sl kr H vN P.nodes gN) (be:∀c∈gM++(gR++(gD++gN)),c < H.next) {R:Option bw} (he:Kz fuel P=some R):
  ak Tryz.prog 60 #[.agg #[vM,vR,vD,vN]] H (fun w H'=>ba H H'/\Zj (gM++(gR++(gD++gN))) H.next R H' w):=by
 refine ak.told ?_
 obtain ⟨c,hb,hc⟩:=Ka aiM Tryz.func60
 refine Ol (l:=[.agg #[vM,vR,vD,vN]]) Tryz.func60 hb (show 1<=159 by decide) fun hf=>?_
 have jx:c=Tryz.f60.body.getD .skip:=by rw [hb];rfl
 subst jx
 simp only [Tryz.f60,Option.getD_some] at hc ⊢
 obtain ⟨aM,kM,rfl⟩:=hM.val
 obtain ⟨aR,kR,rfl⟩:=hR.val
 obtain ⟨aD,kD,rfl⟩:=hD.val
 obtain ⟨aN,kN,rfl⟩:=hN.val
 unfold Kz at he
 by_cases oq:90000 < P.nodes.length∨90000 < P.defs.length∨¬P.defs.all (fun d=>Nat.ble d.on.length 90000)=true
 ·rw [if_pos oq] at he;cases he
 rw [if_neg oq] at he
 simp only [not_or,Classical.not_not] at oq
 obtain ⟨ik,ft,fB⟩:=oq
 have fB:∀d∈P.defs,d.on.length < 1000000:=fun d hd=>by
  have:=List.all_eq_true.1 fB d hd
  have:=Nat.le_of_ble_eq_true this
  omega
 cases Tz:HD P.defs 0 P.nodes with
 | none=>rw [Tz] at he;cases he
 | some e=>
 rw [Tz] at he
 simp only [Option.bind_some] at he
 obtain ⟨j5,hc⟩:=Ez hc
 refine wS.seq (wS.of mixed j5 ?_)
 have p1:¬H.next=H.next+1:=by omega
 simp only [go_sem]
 have gX:H.fz (H.next+1)=false:=hf.fresh (by omega)
 obtain ⟨eA,hc⟩:=Ez hc
 obtain ⟨il,hc⟩:=Ez hc
 obtain ⟨H1,cH⟩:∃H1,H1=((H.push ⟨[.slice aM P.msgs.length kM,.slice aR P.bZ.length kR,.slice aD P.defs.length kD,.slice aN P.nodes.length kN],28,false,false⟩).push ⟨[.slice none 0 0,.slice none 0 0,.slice none 0 0,.slice none 0 0],28,false,false⟩):=⟨_,rfl⟩
 rw [<-cH]
 have f1:Fr [] H H1:=by rw [cH];exact ((Fr.refl [] H).push _).push _
 have ME:H1.get H.next=some ⟨[.slice aM P.msgs.length kM,.slice aR P.bZ.length kR,.slice aD P.defs.length kD,.slice aN P.nodes.length kN],28,false,false⟩:=by rw [cH,aV,bJ,if_neg p1,aV,if_pos rfl]
 have Ju:H1.get (H.next+1)=some ⟨[.slice none 0 0,.slice none 0 0,.slice none 0 0,.slice none 0 0],28,false,false⟩:=by rw [cH,aV];exact if_pos rfl
 have Jv:H1.next=H.next+1+1:=by rw [cH];rfl
 clear cH
 obtain ⟨br,cY⟩:∃br,br=H.next+1:=⟨_,rfl⟩
 rw [<-cY] at Ju gX p1 Jv ⊢
 refine wS.seq (wS.of mixed eA ?_)
 simp only [go_sem,ME]
 have kG:∀{Hx},Fr [] H Hx->∀c∈gM++(gR++(gD++gN)),Hx.get c=H.get c:=fun f c hc=>f.get c (be c hc) (by simp)
 have Wc:∀{Hx},Fr [] H Hx->Sl jq Hx (.slice aD P.defs.length kD) P.defs gD:=fun f=>hD.af fun c hc=>kG f c (by simp [hc])
 have Wd:∀{Hx},Fr [] H Hx->Sl kr Hx (.slice aN P.nodes.length kN) P.nodes gN:=fun f=>hN.af fun c hc=>kG f c (by simp [hc])
 refine iw 8796092760312 P.nodes.length (fun i V H2=>V 18=iV (i:Nat)/\Fr [] H1 H2/\HD P.defs i (P.nodes.drop i)=some e) ⟨by simp only [go_sem] <;> rfl,Fr.refl _ _,Tz⟩ ?_ ?_ (by rfl)
 ·rintro i V H2 hi ⟨ei,f2,ls⟩
  have hx:P.nodes[i]?=some (P.nodes[i]'hi):=List.getElem?_eq_getElem hi
  have cE:P.nodes.drop i=(P.nodes[i]'hi)::P.nodes.drop (i+1):=(List.getElem_cons_drop hi).symm
  generalize (P.nodes[i]'hi)=x at hx cE
  rw [cE,HD] at ls
  have We:=f1.then f2
  obtain ⟨b,o,c',B,gx,hv,hB,ep,dj,cm,hE⟩:=(Wd We).at hx
  cases hv
  obtain ⟨vA,vQ,vB,u1,u2,u3,aX,rfl,t1,t2,t3⟩:=hE
  obtain ⟨a1,k1,rfl⟩:=t1.val
  obtain ⟨a2,k2,rfl⟩:=t2.val
  obtain ⟨a3,k3,rfl⟩:=t3.val
  have ez:o+i * 20+20<=B.cells.length:=cm
  have aX:(B.cells.drop (o+i * 20)).take 20=aJ x (.slice a1 x.args.length k1) (.slice a2 x.pat.length k2) (.slice a3 x.au.length k3):=aX
  have ct:IntKind.wrap .i64 (((i:Nat):Int)+1)=((i+1:Nat):Int):=cZ hi (by omega)
  have eQ:=f2.nx
  have er:H.fz H2.next=false:=hf.fresh (by omega)
  have AL:=(f2.get H.next (by omega) (by simp)).trans ME
  have Jw:=(f2.get br (by omega) (by simp)).trans Ju
  have Wf:¬H.next=H2.next:=by omega
  have q7:¬br=H2.next:=by omega
  have n2r:¬H2.next=br:=by omega
  by_cases hk:x.kind=14
  ·rw [if_pos hk] at ls
   by_cases ho:0<=Kx P.defs (i:Nat)
   ·rw [if_pos ho] at ls
    have f3:=f2.push ⟨aJ x (.slice a1 x.args.length k1) (.slice a2 x.pat.length k2) (.slice a3 x.au.length k3),42,false,false⟩
    have nu:(H2.push ⟨aJ x (.slice a1 x.args.length k1) (.slice a2 x.pat.length k2) (.slice a3 x.au.length k3),42,false,false⟩).get H2.next=some ⟨aJ x (.slice a1 x.args.length k1) (.slice a2 x.pat.length k2) (.slice a3 x.au.length k3),42,false,false⟩:=by rw [aV,if_pos rfl]
    have hD3:=Wc (f1.then f3)
    simp only [go_sem,ei,hi,hB,ez,aX,er,hk,AL,Wf]
    refine ag.by (aeB hD3 (by omega) fB (fun c hc=>by have:=be c (by simp [hc]);rw [bJ];omega)) ?_
    rintro _ H4 - ⟨rfl,o4,z4⟩
    have f4:=f3.then (o4.fr [])
    have Jx:=(o4.get H.next (by rw [bJ];omega)).trans ((bX (by omega)).trans AL)
    have AM:=(o4.get H2.next (by rw [bJ];omega)).trans nu
    have F8:=(o4.get br (by rw [bJ];omega)).trans ((bX (by omega)).trans Jw)
    obtain ⟨ow,jC⟩:=Int.eq_ofNat_of_zero_le ho
    rw [jC,Int.toNat_natCast] at ls
    cases hd:P.defs[ow]? with
    | none=>rw [hd] at ls;cases ls
    | some d=>
    rw [hd] at ls
    simp only at ls
    have oD:ow < P.defs.length:=(List.getElem?_eq_some_iff.1 hd).1
    obtain ⟨b5,o5,c5,B5,dO,jI,MF,amf,amg,Ls,tI⟩:=(Wc (f1.then f4)).at hd
    cases jI
    obtain ⟨Vd,vQ5,Ve,w1,w2,w3,jr,rfl,_⟩:=tI
    have jr:(B5.cells.drop (o5+ow * 9)).take 9=dP d Vd vQ5 Ve:=jr
    have Oc:B5.cells[o5+ow * 9+6]?=some (.bool d.sy):=by
     have:((B5.cells.drop (o5+ow * 9)).take 9)[6]?=some (.bool d.sy):=by rw [jr];rfl
     rw [List.getElem?_take,if_pos (by decide),List.getElem?_drop] at this
     exact this
    cases uZ:d.sy with
    | true=>
     rw [uZ] at ls Oc
     simp only [go_sem,Jx,AL,Wf,jC,oD,MF,Oc,ei,ct]
     exact ⟨f4,ls⟩
    | false=>
     rw [uZ] at ls Oc
     cases ls
     cases he
     simp only [go_sem,Jx,AL,Wf,jC,oD,MF,Oc,ct,AM,F8,rG,gX,n2r]
     exact ⟨(((f1.then f4).ah (.inr (by omega)) _).ai _).aH,_,_,_,rfl,by decide⟩
   ·rw [if_neg ho] at ls;cases ls
  ·rw [if_neg hk] at ls
   simp only [go_sem,ei,hi,hB,ez,aX,er,hk,ct]
   exact ⟨f2.push _,ls⟩
 ·rintro V H2 ⟨ei,f2,ls⟩
  rw [List.drop_length] at ls
  cases ls
  simp only [go_sem,ei]
  have eQ:=f2.nx
  have AL:=(f2.get H.next (by omega) (by simp)).trans ME
  have Jw:=(f2.get br (by omega) (by simp)).trans Ju
  have We:=f1.then f2
  simp only [Bool.false_eq_true,if_false] at he
  refine wS.seq (wS.told (wS.of mixed il ?_))
  simp only [go_sem,AL,adV]
  refine ⟨H.fz,fun _ h=>h,fun b hb=>by have:=hf.fz b hb;omega,?_⟩
  have vZ:∀b,H.next<=b->H.fz b=false:=fun b hb=>hf.fresh hb
  obtain ⟨z,hz⟩:∃z,z=H2.next:=⟨_,rfl⟩
  obtain ⟨H3,dN⟩:∃H3,H3=((H2.push ⟨zC ⟨.slice aM P.msgs.length kM,.slice aR P.bZ.length kR,.slice aD P.defs.length kD,.slice aN P.nodes.length kN,.slice none 0 0,.slice none 0 0,.slice none 0 0,[]⟩ (.slice none 0 0),131,false,false⟩).ai H.fz):=⟨_,rfl⟩
  rw [<-hz,<-dN]
  have Jy:H3.get z=some ⟨zC ⟨.slice aM P.msgs.length kM,.slice aR P.bZ.length kR,.slice aD P.defs.length kD,.slice aN P.nodes.length kN,.slice none 0 0,.slice none 0 0,.slice none 0 0,[]⟩ (.slice none 0 0),131,false,false⟩:=by rw [dN,bg,hz,aV,if_pos rfl]
  have f3:Fr [] H2 H3:=by rw [dN];exact ((Fr.refl [] H2).push _).ai _
  have Gh:H3.next=H2.next+1:=by rw [dN];rfl
  have MG:H3.fz=H.fz:=by rw [dN];rfl
  clear dN
  have Wg:=(f3.get H.next (by omega) (by simp)).trans AL
  have gr3:=(f3.get br (by omega) (by simp)).trans Jw
  have GK:H.fz z=false:=vZ z (by omega)
  have nz:¬z=H.next:=by omega
  have P8:¬H.next=z:=fun e=>nz e.symm
  refine wS.of mixed hc ?_
  simp only [go_sem,Wg,Jy,GK,nz,P8]
  have gS:∀A B c,((H3.ah z A).ah z B).fz c=H.fz c:=fun A B c=>by rw [<-MG];rfl
  obtain ⟨H4,dB⟩:∃H4,H4=(H3.ah z ⟨zC ⟨.slice aM P.msgs.length kM,.slice aR P.bZ.length kR,.slice aD P.defs.length kD,.slice aN P.nodes.length kN,.slice aM P.msgs.length kM,.slice none 0 0,.slice none 0 0,[]⟩ (.slice none 0 0),131,false,false⟩).ah z ⟨zC (zS (.slice aM P.msgs.length kM) (.slice aR P.bZ.length kR) (.slice aD P.defs.length kD) (.slice aN P.nodes.length kN) (.slice none 0 0) []) (.slice none 0 0),131,false,false⟩:=⟨_,rfl⟩
  have Qd:H4.get z=some ⟨zC (zS (.slice aM P.msgs.length kM) (.slice aR P.bZ.length kR) (.slice aD P.defs.length kD) (.slice aN P.nodes.length kN) (.slice none 0 0) []) (.slice none 0 0),131,false,false⟩:=by rw [dB,az,if_pos rfl]
  have f4:Fr [] H2 H4:=by rw [dB];exact (f3.ah (.inr (by omega)) _).ah (.inr (by omega)) _
  have GL:H4.next=H3.next:=by rw [dB];rfl
  have gS:∀c,H4.fz c=H.fz c:=fun c=>by rw [dB];exact gS _ _ c
  rw [<-dB]
  clear dB
  have Jx:=(f4.get H.next (by omega) (by simp)).trans AL
  have F8:=(f4.get br (by omega) (by simp)).trans Jw
  have GM:=We.then f4
  have hzq:ZQ (zS (.slice aM P.msgs.length kM) (.slice aR P.bZ.length kR) (.slice aD P.defs.length kD) (.slice aN P.nodes.length kN) (.slice none 0 0) []) P.nodes (gM++(gR++(gD++gN))) H4 z [] [] []:=⟨⟨⟨_,Qd,Gr.nil _ _ _⟩,(Wd GM).i fun c hc=>by simp [hc],by omega,by simp,by simp,fun c hc=>by have:=be c hc;omega⟩,by rw [gS];exact GK,by simp,fun b hb=>by rw [gS];exact vZ b (by omega)⟩
  cases nv:Iz P.nodes fuel P.defs [] [] with
  | none=>rw [nv] at he;cases he
  | some X=>
  rw [nv] at he
  simp only [Option.bind_some] at he
  refine iw 633825300111808857739137909760 P.defs.length (fun i V H5=>V 61=iV (i:Nat)/\∃vQ ns m g mD gE done,ZR (zS (.slice aM P.msgs.length kM) (.slice aR P.bZ.length kR) (.slice aD P.defs.length kD) (.slice aN P.nodes.length kN) vQ []) P.nodes (gM++(gR++(gD++gN))) H4 z [] [] [] H5 ns m g/\Gr jq 38 H5 vQ done mD gE/\(∀c∈mD,H4.next<=c/\c < H5.next/\c≠z/\c∉m/\c∉g/\c∉(gM++(gR++(gD++gN))))/\(∀c∈gE,c < H5.next/\c≠z/\c∉m/\c∉mD/\(c∈(gM++(gR++(gD++gN)))∨H4.next<=c))/\done.length=i/\Iz P.nodes fuel (P.defs.drop i) done ns=some X)
   ⟨by simp only [go_sem] <;> rfl,.slice none 0 0,[],[],[],[],[],[],ZR.start hzq,Gr.nil _ _ _,by simp,by simp,rfl,nv⟩ ?_ ?_ (by rfl)
  ·rintro i V H5 hi ⟨ei,vQ,ns,m,g,mD,gE,done,r5,lL,oA,uy,df,nv⟩
   have hx:P.defs[i]?=some (P.defs[i]'hi):=List.getElem?_eq_getElem hi
   have cE:P.defs.drop i=(P.defs[i]'hi)::P.defs.drop (i+1):=(List.getElem_cons_drop hi).symm
   generalize (P.defs[i]'hi)=d at hx cE
   rw [cE,Iz] at nv
   have kP:∀{S Mz mx gx Hx},ZR S P.nodes (gM++(gR++(gD++gN))) H4 z [] [] [] Hx Mz mx gx->∀c∈gM++(gR++(gD++gN)),Hx.get c=H.get c:=fun r c hc=>by
    rw [r.fr.get c (by have:=be c hc;omega) (by simp;have:=be c hc;omega),kG GM c hc]
   have hD5:=hD.af (H':=H5) fun c hc=>kP r5 c (by simp [hc])
   obtain ⟨b,o,c',B,gx,hv,hB,ep,dj,cm,hE⟩:=hD5.at hx
   simp only [Value.slice.injEq] at hv
   have GN:=hv.1
   obtain ⟨vA,vP,vB,u1,u2,u3,aX,rfl,t1,t2,t3⟩:=hE
   obtain ⟨a1,k1,rfl⟩:=t1.val
   obtain ⟨a2,k2,rfl⟩:=t2.val
   obtain ⟨a3,k3,rfl⟩:=t3.val
   have ez:o+i * 9+9<=B.cells.length:=cm
   have aX:(B.cells.drop (o+i * 9)).take 9=dP d (.slice a1 d.params.length k1) (.slice a2 d.pat.length k2) (.slice a3 d.on.length k3):=aX
   have ct:IntKind.wrap .i64 (((i:Nat):Int)+1)=((i+1:Nat):Int):=cZ hi (by omega)
   have xC:=r5.fr.nx
   have jh:H.fz H5.next=false:=vZ _ (by omega)
   have r6:=r5.push ⟨dP d (.slice a1 d.params.length k1) (.slice a2 d.pat.length k2) (.slice a3 d.on.length k3),38,false,false⟩
   obtain ⟨H6,eT⟩:=r6.hp
   have dL:H6.get H5.next=some ⟨dP d (.slice a1 d.params.length k1) (.slice a2 d.pat.length k2) (.slice a3 d.on.length k3),38,false,false⟩:=by rw [eT,aV,if_pos rfl]
   have k6:∀c,c < H5.next->H6.get c=H5.get c:=fun c hc=>by rw [eT,bX hc]
   have GI:H6.next=H5.next+1:=by rw [eT];rfl
   simp only [go_sem,ei,hi,GN,hB,ez,aX,jh]
   rw [<-eT] at r6 ⊢
   clear eT
   obtain ⟨qN6,zh,av5⟩:=r6.zq.row
   have Jz:∀c∈u1++(u2++u3),c∈gM++(gR++(gD++gN)):=fun c hc=>by
    have:=dj c hc
    simp [this]
   have ks:∀c∈u1++(u2++u3),H6.get c=H5.get c:=fun c hc=>by rw [kP r6 c (Jz c hc),kP r5 c (Jz c hc)]
   obtain ⟨aQ,Wh⟩:=lL.val
   subst Wh
   cases uZ:d.sy with
   | true=>
    rw [uZ,if_pos rfl] at nv
    cases vG:Ky (zw P.nodes d.name fuel) d ns with
    | none=>rw [vG] at nv;cases nv
    | some RA=>
    obtain ⟨d2,bO⟩:=RA
    rw [vG] at nv
    simp only [Option.bind_some] at nv
    simp only [go_sem,dL,uZ,zh]
    have kz:z∉m/\z∉mD:=⟨fun e=>(r6.zq.hm z e).2.1 rfl,fun e=>(oA z e).2.2.1 rfl⟩
    refine ag.by (aeD (d:={d with sy:=true}) (by omega) r6.zq (t1.af fun c hc=>ks c (by simp [hc])) (t2.af fun c hc=>ks c (by simp [hc])) (t3.af fun c hc=>ks c (by simp [hc])) Jz vG) ?_
    rintro _ Hc - ⟨cf,Wi,cle,v5,g5,m9,g9,rfl,cs,cg5,c0,Ed,MH⟩
    obtain ⟨a5,k5,rfl⟩:=cs.val
    have rc:ZR (zS (.slice aM P.msgs.length kM) (.slice aR P.bZ.length kR) (.slice aD P.defs.length kD) (.slice aN P.nodes.length kN) (.slice aQ done.length done.length) []) P.nodes (gM++(gR++(gD++gN))) H4 z [] [] [] Hc bO m9 g9:=by
     have Jf:∀c∈m9,Hc.fz c=false:=fun c hc=>by
      rw [Wi]
      exact (Ed c hc).elim (r6.zq.fm c) (r6.zq.fn c)
     refine ⟨r6.fr.trans cf fun c hc=>?_,{c0 with fz:=by rw [Wi];exact r6.zq.fz,fm:=Jf,fn:=fun b hb=>by rw [Wi];exact r6.zq.fn b (Nat.le_trans cf.nx hb)},Nat.zero_le _,fun c hc=>.inr ?_,fun c hc=>?_⟩
     ·rcases List.mem_cons.1 hc with e | e
      ·exact .inl (by simp [e])
      ·exact .inr ((r6.sm c e).elim (fun e=>by simp at e) id)
     ·exact (Ed c hc).elim (fun e=>(r6.sm c e).elim (fun e=>by simp at e) id) fun e=>by omega
     ·exact (MH c hc).elim (fun e=>r6.sg c e) fun e=>e.elim (fun e=>.inr (.inl e)) fun e=>.inr (.inr (by omega))
    have ncf:=cf.nx
    have Fz:∀c∈mD,Hc.get c=H6.get c/\c∉m9/\c∉g9:=fun c hc=>by
     have h5:=oA c hc
     exact ⟨cf.get c (by omega) (by simp only [List.mem_cons,not_or];exact ⟨h5.2.2.1,h5.2.2.2.1⟩),fun e=>(Ed c e).elim h5.2.2.2.1 fun e=>by omega,fun e=>(MH c e).elim h5.2.2.2.2.1 fun e=>e.elim h5.2.2.2.2.2 fun e=>by omega⟩
    have Lt:∀c∈gE,Hc.get c=H6.get c/\c∉m9:=fun c hc=>by
     have h5:=uy c hc
     exact ⟨cf.get c (by omega) (by simp only [List.mem_cons,not_or];exact ⟨h5.2.1,h5.2.2.1⟩),fun e=>(Ed c e).elim h5.2.2.1 fun e=>by omega⟩
    have r7:=rc.push ⟨dP d2 (.slice a5 d2.params.length k5) (.slice none 0 0) (.slice none 0 0),38,false,false⟩
    obtain ⟨H7,cU⟩:=r7.hp
    have en:H7.get Hc.next=some ⟨dP d2 (.slice a5 d2.params.length k5) (.slice none 0 0) (.slice none 0 0),38,false,false⟩:=by rw [cU,aV,if_pos rfl]
    have k7:∀c,c < Hc.next->H7.get c=Hc.get c:=fun c hc=>by rw [cU,bX hc]
    have xI:H7.next=Hc.next+1:=by rw [cU];rfl
    obtain ⟨qNc,Qe,_⟩:=rc.zq.row
    simp only [go_sem,zh,Qe,eB ue (by decide) (by decide)]
    rw [<-cU] at r7 ⊢
    clear cU
    have hdp:d2.pat=[]/\d2.on=[]:=by
     unfold Ky at vG
     split at vG
     ·cases vG
     ·cases Js:Jr (zw P.nodes d.name fuel) d.on [] (ns++[z3 d]) with
      | none=>rw [Js] at vG;cases vG
      | some y=>
       rw [Js] at vG
       simp only [Option.bind_some] at vG
       split at vG
       ·cases vG
       ·cases vG
        exact ⟨rfl,rfl⟩
    have bH:=lL.af (H':=H7) (fun c hc=>by rw [k7 c (by have:=(oA c hc).2.1;omega),(Fz c hc).1,k6 c (oA c hc).2.1]) (fun c hc=>by rw [k7 c (by have:=(uy c hc).1;omega),(Lt c hc).1,k6 c (uy c hc).1])
    have FA:∀c∈mD,H4.next<=c/\c < H7.next/\c≠z/\c∉m9/\c∉g9/\c∉(gM++(gR++(gD++gN))):=fun c hc=>⟨(oA c hc).1,by have:=(oA c hc).2.1;omega,(oA c hc).2.2.1,(Fz c hc).2.1,(Fz c hc).2.2,(oA c hc).2.2.2.2.2⟩
    have FB:∀c∈gE,c < H7.next/\c≠z/\c∉m9/\c∉mD/\(c∈(gM++(gR++(gD++gN)))∨H4.next<=c):=fun c hc=>⟨by have:=(uy c hc).1;omega,(uy c hc).2.1,(Lt c hc).2,(uy c hc).2.2.2⟩
    have BJ:∀c∈g5,c < H7.next/\c≠z/\c∉m9/\c∉mD/\(c∈(gM++(gR++(gD++gN)))∨H4.next<=c):=fun c hc=>by
     have:=cg5 c hc
     exact ⟨by omega,this.2.2.2,this.1,fun e=>this.2.1.elim (oA c e).2.2.2.2.2 fun e'=>by have:=(oA c e).2.1;omega,this.2.1.imp id fun e=>by omega⟩
    have pE:jq.E H7 (dP d2 (.slice a5 d2.params.length k5) (.slice none 0 0) (.slice none 0 0)) d2 g5:=⟨_,_,_,g5,[],[],rfl,by simp,cs.af fun c hc=>k7 c (cg5 c hc).2.2.1,.inl ⟨rfl,hdp.1,rfl⟩,.inl ⟨rfl,hdp.2,rfl⟩⟩
    refine jZ (r:=jq) (x:=d2) (g':=g5) ue bH (fun c hc=>(FA c hc).2.1) (fun c hc=>(FB c hc).1) (fun c hc=>⟨(BJ c hc).1,(BJ c hc).2.2.2.1⟩) (fun c hc=>vZ c (by have:=(FA c hc).1;omega)) en pE rfl (by omega) ?_
    intro v8 H8 ll O5 IA BK BM
    have r8:=r7.own BK (fun c hc=>by have:=FA c hc;exact ⟨this.1,this.2.2⟩) (fun c hc=>by rw [BM,show (c==H7.next)=false from by rw [beq_eq_false_iff_ne];omega,Bool.false_or])
    obtain ⟨qN8,Qf,TA⟩:=r8.re
    obtain ⟨a8,MI⟩:=ll.val
    subst MI
    have r9:=TA (zS (.slice aM P.msgs.length kM) (.slice aR P.bZ.length kR) (.slice aD P.defs.length kD) (.slice aN P.nodes.length kN) (.slice a8 (done++[d2]).length (done++[d2]).length) []) rfl
    obtain ⟨qN7,tx,_⟩:=r7.zq.row
    simp only [go_sem,Qe,zh,tx,Qf,GK,ei,ct]
    refine ⟨_,_,m9,g9,_,_,_,r9,ll.af (fun c hc=>?_) (fun c hc=>?_),fun c hc=>?_,fun c hc=>?_,by rw [List.length_append,List.length_singleton,df],nv⟩
    ·rw [List.mem_singleton] at hc
     rw [az,if_neg (by omega)]
    ·rw [az,if_neg]
     exact (List.mem_append.1 hc).elim (fun e=>(FB c e).2.1) fun e=>(BJ c e).2.1
    ·rw [List.mem_singleton] at hc
     subst hc
     show _/\_ < H8.next/\_
     exact ⟨by omega,by omega,by omega,fun e=>by have:=(r7.zq.hm _ e).1;omega,fun e=>by have:=(r7.zq.hg _ e).1;omega,fun e=>by have:=(r7.zq.hP _ e).1;omega⟩
    ·show c < H8.next/\_
     have FC:c < H7.next/\c≠z/\c∉m9/\c∉mD/\(c∈(gM++(gR++(gD++gN)))∨H4.next<=c):=(List.mem_append.1 hc).elim (FB c) (BJ c)
     exact ⟨by omega,FC.2.1,FC.2.2.1,fun e=>by rw [List.mem_singleton] at e;omega,FC.2.2.2.2⟩
   | false=>
    rw [if_neg (by rw [uZ];decide)] at nv
    cases iB:zw P.nodes [] fuel d.body ns with
    | none=>rw [iB] at nv;cases nv
    | some RB=>
    obtain ⟨bi,bO⟩:=RB
    rw [iB] at nv
    simp only [Option.bind_some] at nv
    simp only [go_sem,dL,uZ,zh]
    refine ag.by ((RF (S:=zS (.slice aM P.msgs.length kM) (.slice aR P.bZ.length kR) (.slice aD P.defs.length kD) (.slice aN P.nodes.length kN) (.slice aQ done.length done.length) []) (by omega) fuel) r6.zq iB) ?_
    rintro _ Hc - ⟨rfl,pc⟩
    obtain ⟨m9,g9,rc,Ed,MH⟩:=r6.call pc
    have cf:=pc.1
    have ncf:=cf.nx
    have iG:H4.next<=H5.next/\H5.next≠z/\H5.next∉m9/\H5.next∉g9/\H5.next∉(gM++(gR++(gD++gN))):=⟨xC,by omega,fun e=>(Ed _ e).elim (fun e=>by have:=(r5.zq.hm _ e).1;omega) fun e=>by omega,fun e=>(MH _ e).elim (fun e=>by have:=(r5.zq.hg _ e).1;omega) fun e=>e.elim (fun e=>by have:=(r5.zq.hP _ e).1;omega) fun e=>by omega,fun e=>by have:=(r5.zq.hP _ e).1;omega⟩
    have gxc:=(cf.get H5.next (by omega) (by simp only [List.mem_cons,not_or];exact ⟨iG.2.1,fun e=>by have:=(r5.zq.hm _ e).1;omega⟩)).trans dL
    have Fz:∀c∈mD,Hc.get c=H6.get c/\c∉m9/\c∉g9:=fun c hc=>by
     have h5:=oA c hc
     exact ⟨cf.get c (by omega) (by simp only [List.mem_cons,not_or];exact ⟨h5.2.2.1,h5.2.2.2.1⟩),fun e=>(Ed c e).elim h5.2.2.2.1 fun e=>by omega,fun e=>(MH c e).elim h5.2.2.2.2.1 fun e=>e.elim h5.2.2.2.2.2 fun e=>by omega⟩
    have Lt:∀c∈gE,Hc.get c=H6.get c/\c∉m9:=fun c hc=>by
     have h5:=uy c hc
     exact ⟨cf.get c (by omega) (by simp only [List.mem_cons,not_or];exact ⟨h5.2.1,h5.2.2.1⟩),fun e=>(Ed c e).elim h5.2.2.1 fun e=>by omega⟩
    have r7:=(rc.own (M:=[H5.next]) ((Fr.refl _ _).ah (b:=H5.next) (.inl (by simp)) ⟨dP {d with body:=bi} (.slice a1 d.params.length k1) (.slice a2 d.pat.length k2) (.slice a3 d.on.length k3),38,false,false⟩) (fun c hc=>by rw [List.mem_singleton] at hc;rw [hc];exact iG) (fun _ _=>rfl)).push ⟨dP {d with body:=bi} (.slice a1 d.params.length k1) (.slice a2 d.pat.length k2) (.slice a3 d.on.length k3),38,false,false⟩
    obtain ⟨H7,cU⟩:=r7.hp
    have en:H7.get Hc.next=some ⟨dP {d with body:=bi} (.slice a1 d.params.length k1) (.slice a2 d.pat.length k2) (.slice a3 d.on.length k3),38,false,false⟩:=by rw [cU,aV];exact if_pos rfl
    have k7:∀c,c < Hc.next->c≠H5.next->H7.get c=Hc.get c:=fun c hc h5=>by rw [cU,bX (by rw [oO];exact hc),az,if_neg h5]
    have xI:H7.next=Hc.next+1:=by rw [cU];rfl
    obtain ⟨qNc,Qe,_⟩:=rc.zq.row
    have nz5:¬z=H5.next:=fun e=>iG.2.1 e.symm
    simp only [go_sem,gxc,jh,Qe,nz5,eB ue (by decide) (by decide)]
    rw [<-cU] at r7 ⊢
    clear cU
    have bH:=lL.af (H':=H7) (fun c hc=>by have:=(oA c hc).2.1;rw [k7 c (by omega) (by omega),(Fz c hc).1,k6 c this]) (fun c hc=>by have:=(uy c hc).1;rw [k7 c (by omega) (by omega),(Lt c hc).1,k6 c this])
    have FA:∀c∈mD,H4.next<=c/\c < H7.next/\c≠z/\c∉m9/\c∉g9/\c∉(gM++(gR++(gD++gN))):=fun c hc=>⟨(oA c hc).1,by have:=(oA c hc).2.1;omega,(oA c hc).2.2.1,(Fz c hc).2.1,(Fz c hc).2.2,(oA c hc).2.2.2.2.2⟩
    have FB:∀c∈gE,c < H7.next/\c≠z/\c∉m9/\c∉mD/\(c∈(gM++(gR++(gD++gN)))∨H4.next<=c):=fun c hc=>⟨by have:=(uy c hc).1;omega,(uy c hc).2.1,(Lt c hc).2,(uy c hc).2.2.2⟩
    have BJ:∀c∈u1++(u2++u3),c < H7.next/\c≠z/\c∉m9/\c∉mD/\(c∈(gM++(gR++(gD++gN)))∨H4.next<=c):=fun c hc=>by
     have hp:=Jz c hc
     exact ⟨(r7.zq.hP c hp).1,(r7.zq.hP c hp).2,fun e=>(r7.zq.hm c e).2.2.1 hp,fun e=>(oA c e).2.2.2.2.2 hp,.inl hp⟩
    have Wj:∀c∈u1++(u2++u3),H7.get c=H5.get c:=fun c hc=>by rw [kP r7 c (Jz c hc),kP r5 c (Jz c hc)]
    have pE:jq.E H7 (dP {d with body:=bi} (.slice a1 d.params.length k1) (.slice a2 d.pat.length k2) (.slice a3 d.on.length k3)) {d with body:=bi} (u1++(u2++u3)):=⟨_,_,_,u1,u2,u3,rfl,rfl,t1.af fun c hc=>Wj c (by simp [hc]),t2.af fun c hc=>Wj c (by simp [hc]),t3.af fun c hc=>Wj c (by simp [hc])⟩
    refine jZ (r:=jq) (x:={d with body:=bi}) (g':=u1++(u2++u3)) ue bH (fun c hc=>(FA c hc).2.1) (fun c hc=>(FB c hc).1) (fun c hc=>⟨(BJ c hc).1,(BJ c hc).2.2.2.1⟩) (fun c hc=>vZ c (by have:=(FA c hc).1;omega)) en pE rfl (by omega) ?_
    intro v8 H8 ll O5 IA BK BM
    have r8:=r7.own BK (fun c hc=>by have:=FA c hc;exact ⟨this.1,this.2.2⟩) (fun c hc=>by rw [BM,show (c==H7.next)=false from by rw [beq_eq_false_iff_ne];omega,Bool.false_or])
    obtain ⟨qN8,Qf,TA⟩:=r8.re
    obtain ⟨a8,MI⟩:=ll.val
    subst MI
    have r9:=TA (zS (.slice aM P.msgs.length kM) (.slice aR P.bZ.length kR) (.slice aD P.defs.length kD) (.slice aN P.nodes.length kN) (.slice a8 (done++[{d with body:=bi}]).length (done++[{d with body:=bi}]).length) []) rfl
    obtain ⟨qN7,tx,_⟩:=r7.zq.row
    simp only [go_sem,zh,tx,Qf,GK,ei,ct]
    refine ⟨_,_,m9,g9,_,_,_,r9,ll.af (fun c hc=>?_) (fun c hc=>?_),fun c hc=>?_,fun c hc=>?_,by rw [List.length_append,List.length_singleton,df],nv⟩
    ·rw [List.mem_singleton] at hc
     rw [az,if_neg (by omega)]
    ·rw [az,if_neg]
     exact (List.mem_append.1 hc).elim (fun e=>(FB c e).2.1) fun e=>(BJ c e).2.1
    ·rw [List.mem_singleton] at hc
     subst hc
     show _/\_ < H8.next/\_
     exact ⟨by omega,by omega,by omega,fun e=>by have:=(r7.zq.hm _ e).1;omega,fun e=>by have:=(r7.zq.hg _ e).1;omega,fun e=>by have:=(r7.zq.hP _ e).1;omega⟩
    ·show c < H8.next/\_
     have FC:c < H7.next/\c≠z/\c∉m9/\c∉mD/\(c∈(gM++(gR++(gD++gN)))∨H4.next<=c):=(List.mem_append.1 hc).elim (FB c) (BJ c)
     exact ⟨by omega,FC.2.1,FC.2.2.1,fun e=>by rw [List.mem_singleton] at e;omega,FC.2.2.2.2⟩
  ·rintro V H5 ⟨ei,vQ,ns,m,g,mD,gE,done,r5,lL,oA,uy,df,nv⟩
   rw [List.drop_length] at nv
   cases nv
   simp only at he
   by_cases qc:90000 < ns.length
   ·rw [if_pos qc] at he;cases he
   rw [if_neg qc] at he
   have xC:=r5.fr.nx
   obtain ⟨qN5,Jp,Z0⟩:=r5.zq.row
   obtain ⟨aQN,amh⟩:=Z0.val
   subst amh
   have k5:∀c,c < H4.next->c≠z->H5.get c=H4.get c:=fun c h1 h2=>r5.fr.get c h1 (by simp [h2])
   have gp5:=(k5 H.next (by omega) P8).trans Jx
   have Qg:=(k5 br (by omega) (by omega)).trans F8
   have Cz:Fr [] H H5:=GM.trans r5.fr fun c hc=>.inr (by simp at hc;omega)
   by_cases aa7:400 < ns.length
   ·rw [if_pos aa7] at he
    cases he
    have SF:(400:Int) < (ns.length:Nat):=by omega
    simp only [go_sem,ei,Jp,SF,Qg,gX,rG]
    exact ⟨((Cz.ah (.inr (by omega)) _).ai _).aH,_,_,_,rfl,by decide⟩
   ·rw [if_neg aa7] at he
    have SF:¬(400:Int) < (ns.length:Nat):=by omega
    simp only [go_sem,ei,Jp,SF,gp5]
    refine iw 340281068846723829756467474807685910584 P.defs.length (fun i V H6=>V 110=iV (i:Nat)/\Fr [] H5 H6/\P.defs.any (fun d=>d.sy&&Nat.ble 6 d.params.length)=(P.defs.drop i).any (fun d=>d.sy&&Nat.ble 6 d.params.length)) ⟨by simp only [go_sem] <;> rfl,Fr.refl _ _,rfl⟩ ?_ ?_ (by rfl)
    ·rintro i V H6 hi ⟨ei,f6,mU⟩
     have hx:P.defs[i]?=some (P.defs[i]'hi):=List.getElem?_eq_getElem hi
     have cE:P.defs.drop i=(P.defs[i]'hi)::P.defs.drop (i+1):=(List.getElem_cons_drop hi).symm
     generalize (P.defs[i]'hi)=d at hx cE
     rw [cE,List.any_cons] at mU
     have Qh:=Cz.then f6
     obtain ⟨b,o,c',B,gx,hv,hB,ep,dj,cm,hE⟩:=(Wc Qh).at hx
     simp only [Value.slice.injEq] at hv
     have GN:=hv.1
     obtain ⟨vA,vP,vB,u1,u2,u3,aX,rfl,t1,t2,t3⟩:=hE
     obtain ⟨a1,k1,rfl⟩:=t1.val
     obtain ⟨a2,k2,rfl⟩:=t2.val
     obtain ⟨a3,k3,rfl⟩:=t3.val
     have ez:o+i * 9+9<=B.cells.length:=cm
     have aX:(B.cells.drop (o+i * 9)).take 9=dP d (.slice a1 d.params.length k1) (.slice a2 d.pat.length k2) (.slice a3 d.on.length k3):=aX
     have ct:IntKind.wrap .i64 (((i:Nat):Int)+1)=((i+1:Nat):Int):=cZ hi (by omega)
     have PY:=f6.nx
     have CA:H.fz H6.next=false:=vZ _ (by omega)
     have gr6:=(f6.get br (by omega) (by simp)).trans Qg
     have nr6:¬H6.next=br:=by omega
     have ami:¬br=H6.next:=by omega
     cases uZ:d.sy with
     | true=>
      by_cases MJ:6<=d.params.length
      ·have BO:(6:Int)<=(d.params.length:Nat):=by omega
       rw [uZ,Bool.true_and,Nat.ble_eq_true_of_le MJ,Bool.true_or] at mU
       rw [if_pos mU] at he
       cases he
       simp only [go_sem,ei,hi,GN,hB,ez,aX,CA,uZ,BO,rG,gr6,nr6,ami,gX]
       exact ⟨(((Qh.push _).ah (.inr (by omega)) _).ai _).aH,_,_,_,rfl,by decide⟩
      ·have BO:¬(6:Int)<=(d.params.length:Nat):=by omega
       have TC:Nat.ble 6 d.params.length=false:=by rw [<-Bool.not_eq_true,Nat.ble_eq];exact MJ
       rw [uZ,Bool.true_and,TC,Bool.false_or] at mU
       simp only [go_sem,ei,hi,GN,hB,ez,aX,CA,uZ,BO,ct]
       exact ⟨f6.push _,mU⟩
     | false=>
      rw [uZ,Bool.false_and,Bool.false_or] at mU
      simp only [go_sem,ei,hi,GN,hB,ez,aX,CA,uZ,ct]
      exact ⟨f6.push _,mU⟩
    ·rintro V H6 ⟨ei,f6,mU⟩
     rw [List.drop_length,List.any_nil] at mU
     rw [mU,if_neg (by decide)] at he
     have PY:=f6.nx
     have gp6:=(f6.get H.next (by omega) (by simp)).trans gp5
     have Qh:=Cz.then f6
     simp only [go_sem,ei,gp6]
     refine iw 45671923444331780826357443315386984910102216760 P.nodes.length (fun i V H7=>V 131=iV (i:Nat)/\Fr [] H6 H7/\P.nodes.any (fun n=>(decide (n.kind=2)||decide (n.kind=14))&&Nat.ble 6 n.args.length)=(P.nodes.drop i).any (fun n=>(decide (n.kind=2)||decide (n.kind=14))&&Nat.ble 6 n.args.length)) ⟨by simp only [go_sem] <;> rfl,Fr.refl _ _,rfl⟩ ?_ ?_ (by rfl)
     ·rintro i V H7 hi ⟨ei,f7,mU⟩
      have hx:P.nodes[i]?=some (P.nodes[i]'hi):=List.getElem?_eq_getElem hi
      have cE:P.nodes.drop i=(P.nodes[i]'hi)::P.nodes.drop (i+1):=(List.getElem_cons_drop hi).symm
      generalize (P.nodes[i]'hi)=x at hx cE
      rw [cE,List.any_cons] at mU
      have f07:=Qh.then f7
      obtain ⟨b,o,c',B,gx,hv,hB,ep,dj,cm,hE⟩:=(Wd f07).at hx
      simp only [Value.slice.injEq] at hv
      have wH:=hv.1
      obtain ⟨vA,vQ',vB,u1,u2,u3,aX,rfl,t1,t2,t3⟩:=hE
      obtain ⟨a1,k1,rfl⟩:=t1.val
      obtain ⟨a2,k2,rfl⟩:=t2.val
      obtain ⟨a3,k3,rfl⟩:=t3.val
      have ez:o+i * 20+20<=B.cells.length:=cm
      have aX:(B.cells.drop (o+i * 20)).take 20=aJ x (.slice a1 x.args.length k1) (.slice a2 x.pat.length k2) (.slice a3 x.au.length k3):=aX
      have ct:IntKind.wrap .i64 (((i:Nat):Int)+1)=((i+1:Nat):Int):=cZ hi (by omega)
      have PZ:=f7.nx
      have MK:H.fz H7.next=false:=vZ _ (by omega)
      have Qi:=(f7.get br (by omega) (by simp)).trans ((f6.get br (by omega) (by simp)).trans Qg)
      have Vj:¬H7.next=br:=by omega
      have aa8:¬br=H7.next:=by omega
      by_cases hk:x.kind=2∨x.kind=14
      ·have lW:(decide (x.kind=2)||decide (x.kind=14))=true:=by simpa using hk
       by_cases MJ:6<=x.args.length
       ·have BO:(6:Int)<=(x.args.length:Nat):=by omega
        rw [lW,Bool.true_and,Nat.ble_eq_true_of_le MJ,Bool.true_or] at mU
        rw [if_pos mU] at he
        cases he
        have fin:ba H (((H7.push ⟨aJ x (.slice a1 x.args.length k1) (.slice a2 x.pat.length k2) (.slice a3 x.au.length k3),42,false,false⟩).ah br ⟨[.slice none 0 0,.slice none 0 0,.slice none 0 0,.slice none 0 0],28,false,false⟩).ai H.fz):=(((f07.push _).ah (.inr (by omega)) _).ai _).aH
        by_cases fX:x.kind=2
        ·simp only [go_sem,ei,hi,wH,hB,ez,aX,MK,fX,BO,rG,Qi,Vj,aa8,gX]
         exact ⟨fin,_,_,_,rfl,by decide⟩
        ·have yG:x.kind=14:=hk.resolve_left fX
         simp only [go_sem,ei,hi,wH,hB,ez,aX,MK,fX,yG,BO,rG,Qi,Vj,aa8,gX]
         exact ⟨fin,_,_,_,rfl,by decide⟩
       ·have BO:¬(6:Int)<=(x.args.length:Nat):=by omega
        have TC:Nat.ble 6 x.args.length=false:=by rw [<-Bool.not_eq_true,Nat.ble_eq];exact MJ
        rw [lW,Bool.true_and,TC,Bool.false_or] at mU
        by_cases fX:x.kind=2
        ·simp only [go_sem,ei,hi,wH,hB,ez,aX,MK,fX,BO,ct]
         exact ⟨f7.push _,mU⟩
        ·have yG:x.kind=14:=hk.resolve_left fX
         simp only [go_sem,ei,hi,wH,hB,ez,aX,MK,fX,yG,BO,ct]
         exact ⟨f7.push _,mU⟩
      ·have fX:¬x.kind=2:=fun e=>hk (.inl e)
       have yG:¬x.kind=14:=fun e=>hk (.inr e)
       have lW:(decide (x.kind=2)||decide (x.kind=14))=false:=by simp [fX,yG]
       rw [lW,Bool.false_and,Bool.false_or] at mU
       simp only [go_sem,ei,hi,wH,hB,ez,aX,MK,fX,yG,ct]
       exact ⟨f7.push _,mU⟩
     ·rintro V H7 ⟨ei,f7,mU⟩
      rw [List.drop_length,List.any_nil] at mU
      rw [mU,if_neg (by decide)] at he
      cases he
      have PZ:=f7.nx
      have f57:=f6.then f7
      have n57:=f57.nx
      have tx:=(f57.get z (by omega) (by simp)).trans Jp
      have Qi:=(f57.get br (by omega) (by simp)).trans Qg
      obtain ⟨aQ,Wh⟩:=lL.val
      subst Wh
      have MD:¬z=br:=by omega
      simp only [go_sem,ei,tx,Qi,gX,MD]
      have f08:=(Cz.then f57).ah (b:=br) (.inr (by omega)) ⟨[.slice aM P.msgs.length kM,.slice aR P.bZ.length kR,.slice aQ done.length done.length,.slice aQN ns.length ns.length],28,false,false⟩
      have key:∀c,c < H5.next->(c∈(gM++(gR++(gD++gN)))∨H4.next<=c)->((H7.ah br ⟨[.slice aM P.msgs.length kM,.slice aR P.bZ.length kR,.slice aQ done.length done.length,.slice aQN ns.length ns.length],28,false,false⟩).ai H.fz).get c=H5.get c:=fun c h1 h2=>by
       rw [bg,az,if_neg (by rcases h2 with e | e;have:=be c e;omega;omega)]
       exact f57.get c h1 (by simp)
      have Wk:∀c∈mD++gE,c < H5.next/\(c∈(gM++(gR++(gD++gN)))∨H4.next<=c):=fun c hc=>(List.mem_append.1 hc).elim (fun e=>⟨(oA c e).2.1,.inr (oA c e).1⟩) fun e=>⟨(uy c e).1,(uy c e).2.2.2.2⟩
      have Wl:∀c∈m++g,c < H5.next/\(c∈(gM++(gR++(gD++gN)))∨H4.next<=c):=fun c hc=>(List.mem_append.1 hc).elim (fun e=>⟨(r5.zq.hm c e).1,(r5.sm c e).elim (fun e=>by simp at e) .inr⟩) fun e=>⟨(r5.zq.hg c e).1,(r5.sg c e).elim (fun e=>by simp at e) id⟩
      have AN:∀c,c∈gM∨c∈gR->c < H.next/\c∈(gM++(gR++(gD++gN))):=fun c hc=>by
       have:c∈(gM++(gR++(gD++gN))):=by rcases hc with e | e <;> simp [e]
       exact ⟨be c this,this⟩
      refine ⟨(f08.ai _).aH,_,_,rfl,⟨_,_,_,_,gM,gR,mD++gE,m++g,rfl,hM.af fun c hc=>?_,hR.af fun c hc=>?_,lL.sl.af fun c hc=>key c (Wk c hc).1 (Wk c hc).2,Z0.sl.af fun c hc=>key c (Wl c hc).1 (Wl c hc).2,rfl⟩,fun c hc=>?_⟩
      ·rw [key c (by have:=(AN c (.inl hc)).1;omega) (.inl (AN c (.inl hc)).2),Cz.get c (AN c (.inl hc)).1 (by simp)]
      ·rw [key c (by have:=(AN c (.inr hc)).1;omega) (.inl (AN c (.inr hc)).2),Cz.get c (AN c (.inr hc)).1 (by simp)]
      ·show c < H7.next/\_
       rcases List.mem_append.1 hc with e | e
       ·exact ⟨by have:=(AN c (.inl e)).1;omega,.inl (AN c (.inl e)).2⟩
       ·rcases List.mem_append.1 e with e | e
        ·exact ⟨by have:=(AN c (.inr e)).1;omega,.inl (AN c (.inr e)).2⟩
        ·have:∀c,c < H5.next/\(c∈(gM++(gR++(gD++gN)))∨H4.next<=c)->c < H7.next/\(c∈(gM++(gR++(gD++gN)))∨H.next<=c):=fun c h=>⟨by have:=h.1;omega,h.2.imp id fun e=>by omega⟩
         rcases List.mem_append.1 e with e | e
         ·exact this c (Wk c e)
         ·exact this c (Wl c e)
end
end Go.Proofs.YtinjmfblebpnnaaGreat.Ab
namespace Go.Proofs.YtinjmfblebpnnaaGreat.Ab
open Go Classical
section
variable {P:Program} {X:Nat->Bool} {T:oF} {E:Env} {H:ad} {Q:Exit->Env->ad->Prop}
@[go_sem] theorem aoI {a b:Nat->Bool}:(H.ai a).ai b=H.ai b:=nr rfl
@[go_sem] theorem anA {fz:Nat->Bool} {B C:cw}:((H.ai fz).push B).ah H.next C=(H.ai fz).push C:=Yf (H:=H.ai fz)
def uC (P:Program) (X:Nat->Bool) (T:oF):Code->Env->ad->(Exit->Env->ad->Prop)->Prop
 | .skip,E,H,Q=>Q .normal E H
 | .label _,E,H,Q=>Q .normal E H
 | .exit id,E,H,Q=>Q (.exit id) E H
 | .ret,E,H,Q=>Q .ret E H
 | .seq a b,E,H,Q=>uC P X T a E H (oT (fun E H=>uC P X T b E H Q) Q)
 | .cond c a b,E,H,Q=>Bw (jz E c) (uC P X T a E H Q) (uC P X T b E H Q)
 | .block id a,E,H,Q=>uC P X T a E H (vx id Q)
 | .loop a,E,H,Q=>∃n,qd (uC P X T a) n E H Q
 | .region _ ops false,E,H,Q=>lk P X (ops.toList.map (·.dst)) ops.toList E H (fun E' H'=>Q .normal E' (H'.ai X))
 | .region id ops true,E,H,Q=>jc P X (Aw T id) (ops.toList.map (·.dst)) ops.toList 0 [] E H (fun E' H'=>Q .normal E' (H'.ai X))
 | _,_,_,_=>False
@[go_sem ↓] theorem atx:uC P X T .skip E H Q=Q .normal E H:=nr rfl
@[go_sem ↓] theorem aty {i:Nat}:uC P X T (.exit i) E H Q=Q (.exit i) E H:=nr rfl
@[go_sem ↓] theorem av6:uC P X T .ret E H Q=Q .ret E H:=nr rfl
@[go_sem ↓] theorem SG {a b:Code}:uC P X T (.seq a b) E H Q=uC P X T a E H (oT (fun E H=>uC P X T b E H Q) Q):=nr rfl
@[go_sem ↓] theorem RG {id:Nat} {a:Code}:uC P X T (.block id a) E H Q=uC P X T a E H (vx id Q):=nr rfl
@[go_sem ↓] theorem atz {c:Operand} {a b:Code}:uC P X T (.cond c a b) E H Q=K4 (jz E c) (uC P X T a E H Q) (uC P X T b E H Q) .mk .mk:=nr rfl
@[go_sem ↓] theorem aqc {id:Nat} {l:List Oper}:uC P X T (.region id (List.toArray l) false) E H Q=lk P X (l.map (·.dst)) l E H (fun E' H'=>Q .normal E' (H'.ai X)):=nr rfl
@[go_sem ↓] theorem atA {id:Nat} {l:List Oper}:uC P X T (.region id (List.toArray l) true) E H Q=Iq P X (Aw T id) l E H (fun E' H'=>Q .normal E' (H'.ai X)):=nr rfl
theorem NX:∀{c:Code} {E:Env} {H:ad} {Q Q':Exit->Env->ad->Prop},(∀e E H,Q e E H->Q' e E H)->uC P X T c E H Q->uC P X T c E H Q':=by
 intro c
 induction c with
 | skip=>intro E H Q Q' hq h;exact hq _ _ _ h
 | label l=>intro E H Q Q' hq h;exact hq _ _ _ h
 | exit id=>intro E H Q Q' hq h;exact hq _ _ _ h
 | ret=>intro E H Q Q' hq h;exact hq _ _ _ h
 | region id ops draw=>
  intro E H Q Q' hq h
  cases draw
  ·exact Nt (fun E H h=>hq .normal E (H.ai X) h) h
  ·exact Nr (fun E H h=>hq .normal E (H.ai X) h) h
 | seq a b fo mj=>
  intro E H Q Q' hq h
  rw [uC] at h ⊢
  refine fo (fun e E H h=>?_) h
  cases e with
  | normal=>exact mj hq h
  | _=>exact hq _ _ _ h
 | cond x a b fo mj=>
  intro E H Q Q' hq h
  rw [uC] at h ⊢
  unfold Bw at h ⊢
  split
  ·rename_i v hv
   rw [hv] at h
   simp only at h
   split
   ·rename_i hb;rw [if_pos hb] at h;exact fo hq h
   ·rename_i hb;rw [if_neg hb] at h;exact mj hq h
  ·rename_i hv
   split at h
   ·rename_i v nT;exact (hv _ nT).elim
   ·exact h
 | block id a fo=>
  intro E H Q Q' hq h
  rw [uC] at h ⊢
  refine fo (fun e E H h=>?_) h
  cases e with
  | exit i=>
   simp only [vx] at h ⊢
   split
   ·rename_i he;rw [if_pos he] at h;exact hq _ _ _ h
   ·rename_i he;rw [if_neg he] at h;exact hq _ _ _ h
  | _=>exact hq _ _ _ h
 | loop a fo=>
  intro E H Q Q' hq h
  rw [uC] at h ⊢
  obtain ⟨n,h⟩:=h
  exact ⟨n,Ri (step:=uC P X T a) (fun E H Q Q'=>fo) hq h⟩
 | rangeFunc f ps x y=>intro E H Q Q' hq h;cases h
 | scope b=>intro E H Q Q' hq h;cases h
 | goto l=>intro E H Q Q' hq h;cases h
 | refuse w=>intro E H Q Q' hq h;cases h
theorem ahA {a:Code} (I:Nat->Env->ad->Prop) {n:Nat} (h0:I n E H) (hr:∀n E H,I n E H->uC P X T a E H (oT (fun E' H'=>∃m,m < n/\I m E' H') Q)):uC P X T (.loop a) E H Q:=by
 rw [uC]
 refine ⟨n+1,?_⟩
 have key:∀k n E H,n < k->I n E H->qd (uC P X T a) k E H Q:=by
  intro k
  induction k with
  | zero=>intro n E H hn;omega
  | succ k ih=>
   intro n E H hn hI
   rw [qd]
   refine NX (fun e E' H' h=>?_) (hr n E H hI)
   cases e with
   | normal=>
    obtain ⟨m,hm,h⟩:=h
    exact ih m E' H' (by omega) h
   | _=>exact h
 exact key (n+1) n E H (by omega) h0
theorem Zk {m:Nat}:∀{c:Code} {E:Env} {H:ad} {Q Q':Exit->Env->ad->Prop},qT m c=true->(∀e E' H',nh m E E'->Q e E' H'->Q' e E' H')->uC P X T c E H Q->uC P X T c E H Q':=by
 intro c
 induction c with
 | skip=>intro E H Q Q' hc hq h;exact hq _ _ _ (.refl m E) h
 | label l=>intro E H Q Q' hc hq h;exact hq _ _ _ (.refl m E) h
 | exit id=>intro E H Q Q' hc hq h;exact hq _ _ _ (.refl m E) h
 | ret=>intro E H Q Q' hc hq h;exact hq _ _ _ (.refl m E) h
 | region id ops draw=>
  intro E H Q Q' hc hq h
  cases draw
  ·exact NF hc (fun E' H' ho h=>hq .normal E' (H'.ai X) ho h) h
  ·exact Nu hc (fun E' H' ho h=>hq .normal E' (H'.ai X) ho h) h
 | seq a b fo mj=>
  intro E H Q Q' hc hq h
  rw [qT,Bool.and_eq_true] at hc
  rw [uC] at h ⊢
  refine fo hc.1 (fun e E1 H1 ho h=>?_) h
  cases e with
  | normal=>exact mj hc.2 (fun e E2 H2 fO h=>hq _ _ _ (ho.trans fO) h) h
  | _=>exact hq _ _ _ ho h
 | cond x a b fo mj=>
  intro E H Q Q' hc hq h
  rw [qT,Bool.and_eq_true] at hc
  rw [uC] at h ⊢
  unfold Bw at h ⊢
  split
  ·rename_i v hv
   rw [hv] at h
   simp only at h
   split
   ·rename_i hb;rw [if_pos hb] at h;exact fo hc.1 hq h
   ·rename_i hb;rw [if_neg hb] at h;exact mj hc.2 hq h
  ·rename_i hv
   split at h
   ·rename_i v nT;exact (hv _ nT).elim
   ·exact h
 | block id a fo=>
  intro E H Q Q' hc hq h
  rw [uC] at h ⊢
  refine fo hc (fun e E1 H1 ho h=>?_) h
  cases e with
  | exit i=>
   simp only [vx] at h ⊢
   split
   ·rename_i he;rw [if_pos he] at h;exact hq _ _ _ ho h
   ·rename_i he;rw [if_neg he] at h;exact hq _ _ _ ho h
  | _=>exact hq _ _ _ ho h
 | loop a fo=>
  intro E H Q Q' hc hq h
  rw [uC] at h ⊢
  obtain ⟨n,h⟩:=h
  refine ⟨n,?_⟩
  have key:∀n E1 H1,nh m E E1->qd (uC P X T a) n E1 H1 Q->qd (uC P X T a) n E1 H1 Q':=by
   intro n
   induction n with
   | zero=>intro E1 H1 ho h;exact h
   | succ n ih=>
    intro E1 H1 ho h
    rw [qd] at h ⊢
    refine fo hc (fun e E2 H2 fO h=>?_) h
    cases e with
    | normal=>exact ih E2 H2 (ho.trans fO) h
    | _=>exact hq _ _ _ (ho.trans fO) h
  exact key n E H (.refl m E) h
 | rangeFunc f ps x y=>intro E H Q Q' hc hq h;cases h
 | scope b=>intro E H Q Q' hc hq h;cases h
 | goto l=>intro E H Q Q' hc hq h;cases h
 | refuse w=>intro E H Q Q' hc hq h;cases h
theorem RH {a:Code} (m:Nat) (I:Nat->Env->ad->Prop) {n:Nat} (h0:I n E H) (hr:∀n V H1,I n V H1->uC P X T a (wb m V E) H1 (oT (fun E' H'=>∃k,k < n/\I k E' H') Q)) (hc:qT m a=true):uC P X T (.loop a) E H Q:=by
 refine ahA (fun n E' H'=>I n E' H'/\nh m E E') ⟨h0,.refl m E⟩ fun n E1 H1 ⟨hI,ho⟩=>?_
 have:=hr n E1 H1 hI
 rw [<-ho.wb] at this
 refine Zk hc (fun e E2 H2 fO h=>?_) this
 cases e with
 | normal=>
  obtain ⟨k,hk,h⟩:=h
  exact ⟨k,hk,h,ho.trans fO⟩
 | _=>exact h
theorem qH {a:Code} (m n:Nat) (I:Nat->Env->ad->Prop) (h0:I 0 E H) (hr:∀i V H1,i < n->I i V H1->uC P X T a (wb m V E) H1 (oT (fun E' H'=>I (i+1) E' H') Q))
  (he:∀V H1,I n V H1->uC P X T a (wb m V E) H1 (oT (fun _ _=>False) Q)) (hc:qT m a=true):uC P X T (.loop a) E H Q:=by
 refine RH m (fun k E' H'=>∃i,i+k=n/\I i E' H') (n:=n) ⟨0,by omega,h0⟩ (fun k V H1 ⟨i,hi,hI⟩=>?_) hc
 cases k with
 | zero=>
  obtain rfl:i=n:=by omega
  refine NX (fun e E2 H2 h=>?_) (he V H1 hI)
  cases e with
  | normal=>exact h.elim
  | _=>exact h
 | succ k=>
  refine NX (fun e E2 H2 h=>?_) (hr i V H1 (by omega) hI)
  cases e with
  | normal=>exact ⟨k,by omega,i+1,by omega,h⟩
  | _=>exact h
end
section
variable {P:Program} {X:Nat->Bool}
theorem adW (hm:P.follows .mixedOrders=true) {T:oF} {n:Nat}:∀(c:Code) (t:Act) (E:Env) (H:ad) (Q:Exit->Env->ad->Prop),mH P T n c=true->TE n t E->yn X H->uC P X T c E H Q->RC P c t H (Fk X n H Q):=by
 intro c
 induction c with
 | skip=>intro t E H Q _ ht hi h;exact YA hi.iy.wf ⟨E,ht,.refl hi,h⟩
 | label l=>intro t E H Q _ ht hi h;exact XW hi.iy.wf ⟨E,ht,.refl hi,h⟩
 | exit id=>intro t E H Q _ ht hi h;exact YB hi.iy.wf ⟨E,ht,.refl hi,h⟩
 | ret=>intro t E H Q _ ht hi h;exact Y7 hi.iy.wf ⟨E,ht,.refl hi,h⟩
 | region id ops draw=>
  intro t E H Q hc ht hi h
  have h':wC P X T (.region id ops draw) E H (fun e E' H'=>Q e E' (H'.ai X)):=by cases draw <;> exact h
  obtain ⟨e,t',H',h1,h2,E',h3,h4,h5⟩:=Ya hm hc ht hi h'
  exact ⟨e,t',H'.ai X,⟨h1.next,h1.wf,h1.same⟩,h2.ai X,E',h3,⟨h4.nx,h4.get,fun _ h=>h,⟨h4.iy.wf,fun b hb=>h4.iy.fz b (h4.fz b hb)⟩⟩,h5⟩
 | seq a b fo mj=>
  intro t E H Q hc ht hi h
  simp only [mH,Bool.and_eq_true] at hc
  rw [uC] at h
  refine RU ((fo t E H _ hc.1 ht hi h).mono fun e t' H' _ hf=>?_)
  obtain ⟨E',h1,h2,h3⟩:=hf
  cases e with
  | normal=>exact (mj t' E' H' Q hc.2 h1 h2.inv h3).mono fun e2 t2 H2 _ rY=>rY.after h2
  | _=>exact ⟨E',h1,h2,h3⟩
 | cond x a b fo mj=>
  intro t E H Q hc ht hi h
  simp only [mH,Bool.and_eq_true] at hc
  rw [uC] at h
  unfold Bw at h
  split at h
  ·rename_i v hx
   rw [ht.ev] at hx
   refine YE hx hc.1.1 ?_
   cases v
   ·exact mj t E H Q hc.2 ht hi h
   ·exact fo t E H Q hc.1.2 ht hi h
  ·exact h.elim
 | block id a fo=>
  intro t E H Q hc ht hi h
  rw [uC] at h
  refine XX ((fo t E H _ hc ht hi h).mono fun e t' H' _ hf=>?_)
  obtain ⟨E',h1,h2,h3⟩:=hf
  cases e with
  | exit i=>
   simp only [vx] at h3
   simp only
   split
   ·rename_i he;rw [if_pos he] at h3;exact ⟨E',h1,h2,h3⟩
   ·rename_i he;rw [if_neg he] at h3;exact ⟨E',h1,h2,h3⟩
  | _=>exact ⟨E',h1,h2,h3⟩
 | loop a fo=>
  intro t E H Q hc ht hi h
  rw [uC] at h
  obtain ⟨m,h⟩:=h
  refine YD ?_
  induction m generalizing t E H with
  | zero=>exact h.elim
  | succ m ih=>
   rw [qd] at h
   refine YC ((fo t E H _ hc ht hi h).mono fun e t' H' _ hf=>?_)
   obtain ⟨E',h1,h2,h3⟩:=hf
   cases e with
   | normal=>exact (ih t' E' H' h1 h2.inv h3).mono fun e2 t2 H2 _ rY=>rY.after h2
   | _=>exact ⟨E',h1,h2,h3⟩
 | rangeFunc f ps x y=>intro t E H Q hc;cases hc
 | scope b=>intro t E H Q hc;cases hc
 | goto l=>intro t E H Q hc;cases hc
 | refuse w=>intro t E H Q hc;cases hc
theorem qz {f:FuncId} {fn:Func} {l:List Value} {H:ad} {K:Value->ad->Prop} (T:oF) (hm:P.follows .mixedOrders=true) (hf:P.funcs[f]?=some fn) (hc:bI P T f=true) (rs:List ResultVar) (hl:l.length<=fn.ntmps) (hr:fn.results.toList=rs)
  (h:bV H->uC P H.fz T (fn.body.getD .skip) (b7 l) H (cj P rs K)):ak P f l.toArray H K:=by
 obtain ⟨c,hb,hc⟩:=Ka hc hf
 rw [hb] at h
 subst hr
 refine Ol hf hb hl fun zZ t ht hi=>adW hm c t (b7 l) H _ hc ht hi (h zZ)
section
variable {T:oF} {E:Env} {H:ad} {Q:Exit->Env->ad->Prop}
theorem qA {a b:Code} (m:Nat) (J:Env->ad->Prop) (ha:uC P X T a E H (oT J Q)) (hb:∀V H1,J V H1->uC P X T b (wb m V E) H1 Q) (hc:qT m a=true):uC P X T (.seq a b) E H Q:=by
 rw [uC]
 refine Zk hc (fun e E1 H1 ho h=>?_) ha
 cases e with
 | normal=>
  have:=hb E1 H1 h
  rw [<-ho.wb] at this
  exact this
 | _=>exact h
theorem l8 {a b c:Code} (h:uC P X T (.seq (.seq a b) c) E H Q):uC P X T (.seq a (.seq b c)) E H Q:=by
 rw [uC,uC] at h
 rw [uC]
 refine NX (fun e E1 H1 h=>?_) h
 cases e with
 | normal=>
  show uC P X T (.seq b c) E1 H1 Q
  rw [uC]
  exact h
 | _=>exact h
end
end
structure my where
 name:bf
 slot:Int
deriving DecidableEq
abbrev sh:Rp my:=.flat 2 (by decide) (fun t=>[ae t.name,iV t.slot]) fun _=>rfl
def oX:List my->List Value
 | []=>[]
 | x::l=>ae x.name::iV x.slot::oX l
theorem A6:∀l:List my,(oX l).length=l.length * 2
 | []=>rfl
 | x::l=>by rw [oX,List.length_cons,List.length_cons,List.length_cons,A6 l];omega
theorem HE:∀l k:List my,oX (l++k)=oX l++oX k
 | [],k=>rfl
 | x::l,k=>by rw [List.cons_append,oX,HE l k];rfl
theorem Yr (H:ad) (ds:List Value):∀l:List my,dV sh H (oX l++ds) l []
 | []=>rfl
 | x::l=>⟨[ae x.name,iV x.slot],oX l++ds,[],[],rfl,rfl,⟨rfl,rfl⟩,Yr H ds l⟩
def jJ (H:ad) (v:Value) (l:List my) (mi:List Nat):Prop:=
 (v=.slice none 0 0/\l=[]/\mi=[])∨∃b c ds,v=.slice (some ⟨b,0,none⟩) l.length c/\mi=[b]/\H.get b=some ⟨oX l++ds,139,true,false⟩/\(oX l++ds).length=c * 2
theorem jJ.nil (H:ad):jJ H (.slice none 0 0) [] []:=.inl ⟨rfl,rfl,rfl⟩
theorem jJ.af {H H':ad} {v:Value} {l:List my} {mi:List Nat} (h:jJ H v l mi) (hk:∀c∈mi,H'.get c=H.get c):jJ H' v l mi:=by
 rcases h with h | ⟨b,c,ds,h1,rfl,h3,h4⟩
 ·exact .inl h
 ·exact .inr ⟨b,c,ds,h1,rfl,by rw [hk b (by simp)];exact h3,h4⟩
theorem jJ.sl {H:ad} {v:Value} {l:List my} {mi:List Nat} (h:jJ H v l mi):po sh H v l mi:=by
 rcases h with ⟨rfl,rfl,rfl⟩ | ⟨b,c,ds,rfl,rfl,h3,h4⟩
 ·exact ⟨[],.inl ⟨rfl,rfl,rfl⟩,by simp⟩
 ·by_cases hl:l=[]
  ·subst hl
   exact ⟨[],.inr (.inl ⟨_,c,rfl,rfl,rfl⟩),by simp⟩
  ·rw [List.length_append,A6] at h4
   exact ⟨[b],.inr (.inr ⟨b,0,c,_,[],rfl,hl,by omega,rfl,h3,Yr H ds l⟩),by simp⟩
theorem jJ.val {H:ad} {v:Value} {l:List my} {mi:List Nat} (h:jJ H v l mi):∃a c,v=.slice a l.length c:=h.sl.val
theorem jJ.cut {H:ad} {v:Value} {l:List my} {mi:List Nat} {k:Nat} (h:jJ H v l mi) (hk:k<=l.length):
  ∃v',l9 Tryz.prog 134 v none (some (.int .i64 (k:Nat))) none h0=.ok v' h0/\jJ H v' (l.take k) mi:=by
 rcases h with ⟨rfl,rfl,rfl⟩ | ⟨b,c,ds,rfl,rfl,h3,h4⟩
 ·have:k=0:=by simpa using hk
  subst this
  exact ⟨.slice none 0 0,by kernel_rfl,.inl ⟨rfl,rfl,rfl⟩⟩
 ·have hu:(Tryz.prog).underlying 134=some (.slice 139):=by kernel_rfl
  have hs:du Tryz.prog 139=some 2:=by kernel_rfl
  have e:l=l.take k++l.drop k:=(List.take_append_drop k l).symm
  have hle:=h4
  rw [List.length_append,A6] at hle
  refine ⟨.slice (some ⟨b,0,none⟩) k c,?_,.inr ⟨b,c,oX (l.drop k)++ds,by rw [List.length_take,Nat.min_eq_left hk],rfl,?_,?_⟩⟩
  ·simp only [l9,hu,hs,nJ]
   show (bif Nat.ble 0 k&&Nat.ble k c then (bif Nat.blt 0 c||Nat.beq 0 0 then KO.ok _ _ else _) else .no)=_
   have h1:(Nat.ble 0 k&&Nat.ble k c)=true:=by simp [ble_eq];omega
   have h2:(Nat.blt 0 c||Nat.beq 0 0)=true:=by simp [beq_eq]
   rw [h1,cond_true,h2,cond_true];simp
  ·rw [h3,<-List.append_assoc,<-HE,<-e]
  ·rw [<-List.append_assoc,<-HE,<-e];exact h4
theorem Gr.inr {H:ad} {v:Value} {l:List my} {m:List Nat} (h:Gr sh 139 H v l m []):jJ H v l m:=by
 have key:∀(l:List my) (cs:List Value) (f:List Nat),dV sh H cs l f->cs.length=l.length * 2->cs=oX l:=by
  intro l
  induction l with
  | nil=>intro cs f _ h;rw [List.length_nil,Nat.zero_mul,List.length_eq_zero_iff] at h;exact h
  | cons x l ih=>
   intro cs f h hl
   obtain ⟨c1,c2,f1,f2,rfl,rfl,h1,h2⟩:=h
   rw [h1.1]
   have:c2.length=l.length * 2:=by rw [h1.1,List.length_append,List.length_cons] at hl;simp only [List.length_cons,List.length_nil] at hl;omega
   rw [ih c2 f2 h2 this];rfl
 rcases h with ⟨rfl,rfl,rfl,_⟩ | ⟨b,cs,rfl,h2,rfl,h3,h4,h5,_⟩
 ·exact .inl ⟨rfl,rfl,rfl⟩
 ·have:=key l cs [] h5 h4
  subst this
  exact .inr ⟨b,l.length,[],rfl,rfl,by rw [List.append_nil];exact h3,by rw [List.append_nil];exact h4⟩
theorem R8 {X:Nat->Bool} {H:ad} {v:Value} {l:List my} {x:my} {mi:List Nat} {b':Nat} {e':TypeId} {K:Value->ad->Prop} {tg:Tag K} (h:jJ H v l mi) (hm:∀c∈mi,c < H.next) (hX:∀c∈mi,X c=false) (hB:H.get b'=some ⟨[ae x.name,iV x.slot],e',false,false⟩) (hl:l.length < 1000000)
  (hk:∀v' H' ML,jJ H' v' (l++[x]) ML->(∀c∈ML,(c∈mi∨c=H.next)/\c < H'.next)->Fr mi H H'->(∀c,c < H.next∨H'.next<=c->H'.fz c=H.fz c)->K v' H'):ew Tryz.prog X H (iS Tryz.prog 134 v (.slice (some ⟨b',0,none⟩) 1 1) H) K tg:=by
 have hs:=EE (c:=1) (sz:=2) hB rfl
 have hp:∀c,c < H.next∨H.next+1<=c->(c==H.next||H.fz c)=H.fz c:=fun c hc=>by
  rw [show (c==H.next)=false from by rw [beq_eq_false_iff_ne];omega,Bool.false_or]
 rcases h with ⟨rfl,rfl,rfl⟩ | ⟨b,c,ds,rfl,rfl,h3,h4⟩
 ·rw [HL (sz:=2) zT hs (by decide) (by decide),wK]
  exact hk _ _ [H.next] (.inr ⟨H.next,1,[],rfl,rfl,by rw [aV,if_pos rfl];rfl,rfl⟩) (fun c hc=>by rw [List.mem_singleton] at hc;subst hc;exact ⟨.inr rfl,Nat.lt_succ_self _⟩) ((Fr.refl _ _).push _) hp
 ·have hle:=h4
  rw [List.length_append,A6] at hle
  have hb:=hm b (by simp)
  have fx:=hX b (by simp)
  by_cases hc:l.length+1<=c
  ·match ds,hle,h3,h4 with
   | d1::d2::ds,hle,h3,h4=>
    have eJ:cW (oX l++d1::d2::ds) (0+l.length * 2) [ae x.name,iV x.slot]=oX (l++[x])++ds:=by
     unfold cW
     rw [HE,Nat.zero_add,List.take_append_of_le_length (by rw [A6];exact Nat.le_refl _),List.take_of_length_le (by rw [A6];exact Nat.le_refl _)]
     rw [show l.length * 2+[ae x.name,iV x.slot].length=(oX l).length+2 by rw [A6];rfl,<-List.drop_drop,List.drop_left]
     simp [oX]
    rw [Ku (n:=1) (sz:=2) (o:=0) zT hs rfl h3 rfl (by show 0+c * 2<=(oX l++d1::d2::ds).length;omega) (by decide) hc rfl,ED fx]
    simp only
    rw [eJ]
    refine hk _ _ [b] (.inr ⟨b,c,ds,by simp,rfl,by rw [az,if_pos rfl],?_⟩) (fun c hc=>by rw [List.mem_singleton] at hc;subst hc;exact ⟨.inl (by simp),hb⟩) ((Fr.refl _ _).ah (.inl (by simp)) _) (fun _ _=>rfl)
    rw [<-h4,HE];simp [oX]
   | [],hle,_,_=>simp at hle;omega
   | [_],hle,_,_=>simp at hle;omega
  ·have qh:ds=[]:=by rw [<-List.length_eq_zero_iff];omega
   subst qh
   rw [List.append_nil] at h3 h4
   have fk:c=l.length:=by simp at hle;omega
   subst fk
   rw [Q8 (n:=1) (sz:=2) zT hs h3 (A6 l) (by
    have:(l.length+1) * 1000<=1000000 * 1000:=Nat.mul_le_mul (by omega) (Nat.le_refl _)
    omega) (by decide) rfl,Kb fx]
   refine hk _ _ [H.next] (.inr ⟨H.next,l.length+1,[],by simp,rfl,by rw [ve,if_pos rfl,HE,List.append_nil];rfl,by rw [List.append_nil,A6];simp⟩) (fun c hc=>by rw [List.mem_singleton] at hc;subst hc;exact ⟨.inr rfl,Nat.lt_succ_self _⟩) ⟨Nat.le_succ _,fun c hc yY=>by rw [ve,if_neg (by omega),if_neg (fun e=>yY (by simp [e]))],fun c C hC hr=>by
    rw [ve] at hC
    (repeat' split at hC)
    ·cases hC;cases hr
    ·cases hC
    ·exact hC⟩ hp
structure XS where
 vM:Value
 vR:Value
 vD:Value
structure VT where
 ns:List aG
 aK:List my
 aY:Int
 inner:Int
 line:Int
 aj:Int
 bad:Int
abbrev rC (S:XS) (vN vI:Value) (t:VT):List Value:=[S.vM,S.vR,S.vD,vN,vI,iV t.aY,iV t.inner,iV t.line,iV t.aj,iV t.bad]
structure RQ0 (S:XS) (P:bw) (gP:List Nat) (H:ad) (r:Nat) (t:VT) (m g mi:List Nat):Prop where
 row:∃vN vI,H.get r=some ⟨rC S vN vI t,136,false,false⟩/\Gr kr 42 H vN t.ns m g/\jJ H vI t.aK mi
 sM:po pI H S.vM P.msgs gP
 sR:po qC H S.vR P.bZ gP
 sD:po jq H S.vD P.defs gP
 rl:r < H.next
 hm:∀c∈m,c < H.next/\c≠r/\c∉gP/\c∉g/\c∉mi
 hi:∀c∈mi,c < H.next/\c≠r/\c∉gP/\c∉g
 hg:∀c∈g,c < H.next/\c≠r
 hP:∀c∈gP,c < H.next/\c≠r
structure RQ (S:XS) (P:bw) (gP:List Nat) (H:ad) (r:Nat) (t:VT) (m g mi:List Nat):Prop extends RQ0 S P gP H r t m g mi where
 fz:H.fz r=false
 fm:∀c∈m,H.fz c=false
 fi:∀c∈mi,H.fz c=false
 fn:∀b,H.next<=b->H.fz b=false
def wY (S:XS) (P:bw) (gP:List Nat) (H:ad) (r:Nat) (t:VT) (m g mi:List Nat) (t':VT) (H':ad):Prop:=
 Fr (r::(m++mi)) H H'/\(∀c,H'.fz c=H.fz c)/\t'.ns.length=t.ns.length/\∃g' ML,RQ0 S P gP H' r t' m g' ML/\(∀c∈ML,c∈mi∨H.next<=c)/\∀c∈g',c∈g∨H.next<=c
structure RR (S:XS) (P:bw) (gP:List Nat) (H:ad) (r:Nat) (t:VT) (m g mi:List Nat) (H1:ad) (t1:VT) (g1 dE:List Nat):Prop where
 fr:Fr (r::(m++mi)) H H1
 rq:RQ S P gP H1 r t1 m g1 dE
 le:t1.ns.length=t.ns.length
 si:∀c∈dE,c∈mi∨H.next<=c
 sg:∀c∈g1,c∈g∨H.next<=c
 z0:H.fz r=false
 zm:∀c∈m,H.fz c=false
 zi:∀c∈mi,H.fz c=false
 zn:∀b,H.next<=b->H.fz b=false
section
variable {S:XS} {P:bw} {gP:List Nat} {H H1 H2:ad} {r:Nat} {t t1 t2:VT} {m g g1 g2 mi dE dJ:List Nat}
theorem RQ0.fr (h:RQ0 S P gP H r t m g mi) {M:List Nat} (bj:Fr M H H1) (mr:r∉M) (mm:∀c∈m,c∉M) (mii:∀c∈mi,c∉M) (mg:∀c∈g,c∉M) (mP:∀c∈gP,c∉M):RQ0 S P gP H1 r t m g mi:=by
 obtain ⟨⟨vN,vI,h1,h2,h3⟩,sM,sR,sD,rl,hm,hi,hg,hP⟩:=h
 have kP:∀c∈gP,H1.get c=H.get c:=fun c hc=>bj.get c (hP c hc).1 (mP c hc)
 exact ⟨⟨vN,vI,(bj.get r rl mr).trans h1,h2.af (fun c hc=>bj.get c (hm c hc).1 (mm c hc)) (fun c hc=>bj.get c (hg c hc).1 (mg c hc)),h3.af fun c hc=>bj.get c (hi c hc).1 (mii c hc)⟩,sM.af kP,sR.af kP,sD.af kP,Nat.lt_of_lt_of_le rl bj.nx,fun c hc=>⟨Nat.lt_of_lt_of_le (hm c hc).1 bj.nx,(hm c hc).2⟩,fun c hc=>⟨Nat.lt_of_lt_of_le (hi c hc).1 bj.nx,(hi c hc).2⟩,fun c hc=>⟨Nat.lt_of_lt_of_le (hg c hc).1 bj.nx,(hg c hc).2⟩,fun c hc=>⟨Nat.lt_of_lt_of_le (hP c hc).1 bj.nx,(hP c hc).2⟩⟩
theorem RQ0.ai {fz:Nat->Bool} (h:RQ0 S P gP H r t m g mi):RQ0 S P gP (H.ai fz) r t m g mi:=h.fr ((Fr.refl [] H).ai _) (by simp) (by simp) (by simp) (by simp) (by simp)
theorem RR.start (h:RQ S P gP H r t m g mi):RR S P gP H r t m g mi H t g mi:=⟨.refl _ _,h,rfl,fun _ h=>.inl h,fun _ h=>.inl h,h.fz,h.fm,h.fi,h.fn⟩
theorem RR.own (h:RR S P gP H r t m g mi H1 t1 g1 dE) {M:List Nat} (bj:Fr M H1 H2) (hM:∀c∈M,H.next<=c/\c≠r/\c∉m/\c∉dE/\c∉g1/\c∉gP) (mZ:∀c,c < H1.next∨H2.next<=c->H2.fz c=H1.fz c):RR S P gP H r t m g mi H2 t1 g1 dE:=
 ⟨h.fr.trans bj fun c hc=>.inr (hM c hc).1,{h.rq.toRQ0.fr bj (fun e=>(hM r e).2.1 rfl) (fun c hc e=>(hM c e).2.2.1 hc) (fun c hc e=>(hM c e).2.2.2.1 hc) (fun c hc e=>(hM c e).2.2.2.2.1 hc) (fun c hc e=>(hM c e).2.2.2.2.2 hc) with
  fz:=by rw [mZ _ (.inl h.rq.rl)];exact h.rq.fz,fm:=fun c hc=>by rw [mZ _ (.inl (h.rq.hm c hc).1)];exact h.rq.fm c hc,fi:=fun c hc=>by rw [mZ _ (.inl (h.rq.hi c hc).1)];exact h.rq.fi c hc,fn:=fun b hb=>by rw [mZ _ (.inr hb)];exact h.rq.fn b (Nat.le_trans bj.nx hb)},h.le,h.si,h.sg,h.z0,h.zm,h.zi,h.zn⟩
theorem RR.push (h:RR S P gP H r t m g mi H1 t1 g1 dE) (B:cw) (hB:B.ro=false:=by rfl):RR S P gP H r t m g mi (H1.push B) t1 g1 dE:=
 h.own (M:=[]) ((ba.push H1 B hB).fr []) (by simp) fun c hc=>by
  rw [qw,show (c==H1.next)=false from by rw [beq_eq_false_iff_ne];rw [bJ] at hc;omega,Bool.false_or]
theorem RR.call (h:RR S P gP H r t m g mi H1 t1 g1 dE) (hp:wY S P gP H1 r t1 m g1 dE t2 H2):∃g2 dJ,RR S P gP H r t m g mi H2 t2 g2 dJ/\(∀c∈dJ,c∈dE∨H1.next<=c)/\∀c∈g2,c∈g1∨H1.next<=c:=by
 obtain ⟨hf,hz,hle,g2,dJ,h0,hs,i3⟩:=hp
 have dU:=h.fr.nx
 have hY:∀c∈dJ,H2.fz c=false:=fun c hc=>by
  rw [hz]
  exact (hs c hc).elim (h.rq.fi c) (h.rq.fn c)
 refine ⟨g2,dJ,⟨h.fr.trans hf fun c hc=>?_,{h0 with fz:=by rw [hz];exact h.rq.fz,fm:=fun c hc=>by rw [hz];exact h.rq.fm c hc,fi:=hY,fn:=fun b hb=>by rw [hz];exact h.rq.fn b (Nat.le_trans hf.nx hb)},hle.trans h.le,fun c hc=>(hs c hc).elim (h.si c) fun e=>.inr (Nat.le_trans dU e),fun c hc=>(i3 c hc).elim (h.sg c) fun e=>.inr (Nat.le_trans dU e),h.z0,h.zm,h.zi,h.zn⟩,hs,i3⟩
 simp only [List.mem_cons,List.mem_append] at hc ⊢
 rcases hc with e | e | e
 ·exact .inl (.inl e)
 ·exact .inl (.inr (.inl e))
 ·exact (h.si c e).imp (fun e=>.inr (.inr e)) id
theorem RR.last (h:RR S P gP H r t m g mi H1 t1 g1 dE):wY S P gP H r t m g mi t1 (H1.ai H.fz):=⟨h.fr.ai _,fun _=>rfl,h.le,g1,dE,h.rq.toRQ0.ai,h.si,h.sg⟩
theorem RR.gV (h:RR S P gP H r t m g mi H1 t1 g1 dE) {c:Nat} (hc:H1.next<=c):H.next<=c/\c≠r/\c∉m/\c∉dE/\c∉g1/\c∉gP:=⟨Nat.le_trans h.fr.nx hc,by have:=h.rq.rl;omega,fun e=>by have:=(h.rq.hm c e).1;omega,fun e=>by have:=(h.rq.hi c e).1;omega,fun e=>by have:=(h.rq.hg c e).1;omega,fun e=>by have:=(h.rq.hP c e).1;omega⟩
theorem RR.x (h:RR S P gP H r t m g mi H1 t1 g1 dE):∀b∈dE,H.fz b=false:=fun b hb=>(h.si b hb).elim (h.zi b) (h.zn b)
theorem RR.told (h:RR S P gP H r t m g mi H1 t1 g1 dE):RR S P gP H r t m g mi (H1.ai H.fz) t1 g1 dE:=
 ⟨h.fr.ai _,{h.rq.toRQ0.ai with fz:=h.z0,fm:=h.zm,fi:=h.x,fn:=fun b hb=>h.zn b (Nat.le_trans h.fr.nx hb)},h.le,h.si,h.sg,h.z0,h.zm,h.zi,h.zn⟩
theorem RR.aK (h:RR S P gP H r t m g mi H1 t1 g1 dE) {vN vI v2:Value} {t2:VT} {dJ:List Nat} (hr:H1.get r=some ⟨rC S vN vI t1,136,false,false⟩) (hf:Fr dE H1 H2) (e1:t2.ns=t1.ns) (i6:jJ H2 v2 t2.aK dJ) (zy:∀c∈dJ,(c∈dE∨c=H1.next)/\c < H2.next):
  H2.get r=some ⟨rC S vN vI t1,136,false,false⟩/\RR S P gP H r t m g mi ((H2.ah r ⟨rC S vN v2 t2,136,false,false⟩).ai H.fz) t2 g1 dJ:=by
 have q:=h.rq
 have nr:r∉dE:=fun e=>(q.hi r e).2.1 rfl
 obtain ⟨P5,vI',iE,h2,h3⟩:=q.row
 rw [hr] at iE
 have evN:vN=P5:=by
  simp only [rC,Option.some.injEq,cw.mk.injEq,List.cons.injEq] at iE
  exact iE.1.2.2.2.1
 subst evN
 have kg:∀c,c < H1.next->c≠r->c∉dE->((H2.ah r ⟨rC S vN v2 t2,136,false,false⟩).ai H.fz).get c=H1.get c:=fun c h1 h2 h3=>by rw [bg,az,if_neg h2];exact hf.get c h1 h3
 have kP:∀c∈gP,((H2.ah r ⟨rC S vN v2 t2,136,false,false⟩).ai H.fz).get c=H1.get c:=fun c hc=>kg c (q.hP c hc).1 (q.hP c hc).2 fun e=>(q.hi c e).2.2.1 hc
 have low:∀c∈dJ,c≠r/\c∉gP/\c∉g1/\c∉m/\(c∈mi∨H.next<=c):=fun c hc=>by
  rcases (zy c hc).1 with e | e
  ·exact ⟨(q.hi c e).2.1,(q.hi c e).2.2.1,(q.hi c e).2.2.2,fun e'=>(q.hm c e').2.2.2.2 e,h.si c e⟩
  ·have:=h.gV (c:=c) (by omega)
   exact ⟨this.2.1,this.2.2.2.2.2,this.2.2.2.2.1,this.2.2.1,.inr this.1⟩
 refine ⟨(hf.get r q.rl nr).trans hr,?_⟩
 have nx:=hf.nx
 refine ⟨((h.fr.trans hf fun c hc=>?_).ah (.inl (by simp)) _).ai _,{row:=⟨vN,v2,by rw [bg,az,if_pos rfl],e1▸h2.af (fun c hc=>kg c (q.hm c hc).1 (q.hm c hc).2.1 (q.hm c hc).2.2.2.2) (fun c hc=>kg c (q.hg c hc).1 (q.hg c hc).2 fun e=>(q.hi c e).2.2.2 hc),i6.af fun c hc=>by rw [bg,az,if_neg (low c hc).1]⟩,sM:=q.sM.af kP,sR:=q.sR.af kP,sD:=q.sD.af kP,rl:=Nat.lt_of_lt_of_le q.rl nx,hm:=fun c hc=>⟨Nat.lt_of_lt_of_le (q.hm c hc).1 nx,(q.hm c hc).2.1,(q.hm c hc).2.2.1,(q.hm c hc).2.2.2.1,fun e=>(low c e).2.2.2.1 hc⟩,hi:=fun c hc=>⟨(zy c hc).2,(low c hc).1,(low c hc).2.1,(low c hc).2.2.1⟩,hg:=fun c hc=>⟨Nat.lt_of_lt_of_le (q.hg c hc).1 nx,(q.hg c hc).2⟩,hP:=fun c hc=>⟨Nat.lt_of_lt_of_le (q.hP c hc).1 nx,(q.hP c hc).2⟩,fz:=h.z0,fm:=h.zm,fi:=fun c hc=>(low c hc).2.2.2.2.elim (h.zi c) (h.zn c),fn:=fun b hb=>h.zn b (Nat.le_trans h.fr.nx (Nat.le_trans nx hb))},e1▸h.le,fun c hc=>(low c hc).2.2.2.2,h.sg,h.z0,h.zm,h.zi,h.zn⟩
 exact (h.si c hc).imp (fun e=>by simp [e]) id
theorem RR.hp (h:RR S P gP H r t m g mi H1 t1 g1 dE):∃Hp,Hp=H1:=⟨_,rfl⟩
theorem RR.re (h:RR S P gP H r t m g mi H1 t1 g1 dE):∃vN vI,H1.get r=some ⟨rC S vN vI t1,136,false,false⟩/\Gr kr 42 H1 vN t1.ns m g1/\jJ H1 vI t1.aK dE/\
  (∀t2:VT,t2.ns=t1.ns->t2.aK=t1.aK->RR S P gP H r t m g mi (H1.ah r ⟨rC S vN vI t2,136,false,false⟩) t2 g1 dE)/\
  ∀(t2:VT) (v2:Value) (dJ:List Nat),t2.ns=t1.ns->jJ H1 v2 t2.aK dJ->(∀c∈dJ,c < H1.next/\c≠r/\c∉gP/\c∉g1/\c∉m/\(c∈mi∨H.next<=c)/\H1.fz c=false)->RR S P gP H r t m g mi (H1.ah r ⟨rC S vN v2 t2,136,false,false⟩) t2 g1 dJ:=by
 obtain ⟨vN,vI,h1,h2,h3⟩:=h.rq.row
 have q:=h.rq
 have key:∀(t2:VT) (v2:Value) (dJ:List Nat),t2.ns=t1.ns->jJ H1 v2 t2.aK dJ->(∀c∈dJ,c < H1.next/\c≠r/\c∉gP/\c∉g1/\c∉m/\(c∈mi∨H.next<=c)/\H1.fz c=false)->RR S P gP H r t m g mi (H1.ah r ⟨rC S vN v2 t2,136,false,false⟩) t2 g1 dJ:=fun t2 v2 dJ e1 i6 zy=>by
  have kg:∀c,c≠r->(H1.ah r ⟨rC S vN v2 t2,136,false,false⟩).get c=H1.get c:=fun c hc=>by rw [az,if_neg hc]
  have kP:∀c∈gP,(H1.ah r ⟨rC S vN v2 t2,136,false,false⟩).get c=H1.get c:=fun c hc=>kg c (q.hP c hc).2
  exact ⟨h.fr.ah (.inl (by simp)) _,{row:=⟨vN,v2,by rw [az,if_pos rfl],e1▸h2.af (fun c hc=>kg c (q.hm c hc).2.1) (fun c hc=>kg c (q.hg c hc).2),i6.af fun c hc=>kg c (zy c hc).2.1⟩,sM:=q.sM.af kP,sR:=q.sR.af kP,sD:=q.sD.af kP,rl:=q.rl,hm:=fun c hc=>⟨(q.hm c hc).1,(q.hm c hc).2.1,(q.hm c hc).2.2.1,(q.hm c hc).2.2.2.1,fun e=>(zy c e).2.2.2.2.1 hc⟩,hi:=fun c hc=>⟨(zy c hc).1,(zy c hc).2.1,(zy c hc).2.2.1,(zy c hc).2.2.2.1⟩,hg:=q.hg,hP:=q.hP,fz:=q.fz,fm:=q.fm,fi:=fun c hc=>(zy c hc).2.2.2.2.2.2,fn:=q.fn},e1▸h.le,fun c hc=>(zy c hc).2.2.2.2.2.1,h.sg,h.z0,h.zm,h.zi,h.zn⟩
 exact ⟨vN,vI,h1,h2,h3,fun t2 e1 e2=>key t2 vI dE e1 (e2▸h3) fun c hc=>⟨(q.hi c hc).1,(q.hi c hc).2.1,(q.hi c hc).2.2.1,(q.hi c hc).2.2.2,fun e=>(q.hm c e).2.2.2.2 hc,h.si c hc,q.fi c hc⟩,key⟩
def VT.fail (t:VT) (e l c:Int):VT:=if t.bad=0 then {t with bad:=e,line:=l,aj:=c} else t
theorem VT.RI (t:VT) (e l c:Int):(t.fail e l c).ns=t.ns:=by unfold VT.fail;split <;> rfl
theorem VT.Rl (t:VT) (e l c:Int):(t.fail e l c).aK=t.aK:=by unfold VT.fail;split <;> rfl
theorem VT.Xw (t:VT) (e l c:Int):(t.fail e l c).aY=t.aY:=by unfold VT.fail;split <;> rfl
structure zA (S:XS) (P:bw) (gP:List Nat) (H:ad) (r:Nat) (t:VT) (m g mi:List Nat) (t':VT) (H':ad):Prop where
 fr:Fr [r] H H'
 fz:∀c,H'.fz c=H.fz c
 rq:RQ0 S P gP H' r t' m g mi
 ns:t'.ns=t.ns
 aK:t'.aK=t.aK
theorem RR.Z1 (h:RR S P gP H r t m g mi H1 t1 g1 dE) (hp:zA S P gP H1 r t1 m g1 dE t2 H2):RR S P gP H r t m g mi H2 t2 g1 dE:=
 ⟨h.fr.trans hp.fr fun c hc=>.inl (by rw [List.mem_singleton] at hc;simp [hc]),{hp.rq with fz:=by rw [hp.fz];exact h.rq.fz,fm:=fun c hc=>by rw [hp.fz];exact h.rq.fm c hc,fi:=fun c hc=>by rw [hp.fz];exact h.rq.fi c hc,fn:=fun b hb=>by rw [hp.fz];exact h.rq.fn b (Nat.le_trans hp.fr.nx hb)},by rw [hp.ns];exact h.le,h.si,h.sg,h.z0,h.zm,h.zi,h.zn⟩
structure RA (S:XS) (P:bw) (gP:List Nat) (H:ad) (r:Nat) (t:VT) (m g mi:List Nat) (H1:ad) (t1:VT):Prop where
 fr:Fr [r] H H1
 rq:RQ S P gP H1 r t1 m g mi
 ns:t1.ns=t.ns
 aK:t1.aK=t.aK
 b0:RQ S P gP H r t m g mi
theorem RA.start (h:RQ S P gP H r t m g mi):RA S P gP H r t m g mi H t:=⟨.refl _ _,h,rfl,rfl,h⟩
theorem RA.own (h:RA S P gP H r t m g mi H1 t1) {M:List Nat} (bj:Fr M H1 H2) (hM:∀c∈M,H.next<=c) (mZ:∀c,c < H1.next∨H2.next<=c->H2.fz c=H1.fz c):RA S P gP H r t m g mi H2 t1:=by
 have lo:∀c,c < H.next->c∉M:=fun c hc e=>by have:=hM c e;omega
 have q:=h.b0
 exact ⟨h.fr.trans bj fun c hc=>.inr (hM c hc),{h.rq.toRQ0.fr bj (lo r q.rl) (fun c hc=>lo c (q.hm c hc).1) (fun c hc=>lo c (q.hi c hc).1) (fun c hc=>lo c (q.hg c hc).1) (fun c hc=>lo c (q.hP c hc).1) with
  fz:=by rw [mZ _ (.inl h.rq.rl)];exact h.rq.fz,fm:=fun c hc=>by rw [mZ _ (.inl (h.rq.hm c hc).1)];exact h.rq.fm c hc,fi:=fun c hc=>by rw [mZ _ (.inl (h.rq.hi c hc).1)];exact h.rq.fi c hc,fn:=fun b hb=>by rw [mZ _ (.inr hb)];exact h.rq.fn b (Nat.le_trans bj.nx hb)},h.ns,h.aK,q⟩
theorem RA.push (h:RA S P gP H r t m g mi H1 t1) (B:cw) (hB:B.ro=false:=by rfl):RA S P gP H r t m g mi (H1.push B) t1:=
 h.own (M:=[]) ((ba.push H1 B hB).fr []) (by simp) fun c hc=>by
  rw [qw,show (c==H1.next)=false from by rw [beq_eq_false_iff_ne];rw [bJ] at hc;omega,Bool.false_or]
theorem RA.aH (h:RA S P gP H r t m g mi H1 t1) (ho:ba H1 H2) (hz:∀c,H2.fz c=H1.fz c):RA S P gP H r t m g mi H2 t1:=h.own (ho.fr []) (by simp) fun c _=>hz c
theorem RA.told (h:RA S P gP H r t m g mi H1 t1):RA S P gP H r t m g mi (H1.ai H.fz) t1:=
 ⟨h.fr.ai _,{h.rq.toRQ0.ai with fz:=h.b0.fz,fm:=h.b0.fm,fi:=h.b0.fi,fn:=fun b hb=>h.b0.fn b (Nat.le_trans h.fr.nx hb)},h.ns,h.aK,h.b0⟩
theorem RA.call (h:RA S P gP H r t m g mi H1 t1) (hp:zA S P gP H1 r t1 m g mi t2 H2):RA S P gP H r t m g mi H2 t2:=
 ⟨h.fr.then hp.fr,{hp.rq with fz:=by rw [hp.fz];exact h.rq.fz,fm:=fun c hc=>by rw [hp.fz];exact h.rq.fm c hc,fi:=fun c hc=>by rw [hp.fz];exact h.rq.fi c hc,fn:=fun b hb=>by rw [hp.fz];exact h.rq.fn b (Nat.le_trans hp.fr.nx hb)},hp.ns.trans h.ns,hp.aK.trans h.aK,h.b0⟩
theorem RA.last (h:RA S P gP H r t m g mi H1 t1):zA S P gP H r t m g mi t1 (H1.ai H.fz):=⟨h.fr.ai _,fun _=>rfl,h.rq.toRQ0.ai,h.ns,h.aK⟩
theorem RA.hp (h:RA S P gP H r t m g mi H1 t1):∃Hp,Hp=H1:=⟨_,rfl⟩
theorem RA.k (h:RA S P gP H r t m g mi H1 t1) {c:Nat} (hc:c < H.next) (hr:c≠r):H1.get c=H.get c:=h.fr.get c hc (by simp [hr])
theorem jb (h:RQ S P gP H r t m g mi) {e l c:Int}:ak Tryz.prog 82 #[pV r,iV e,iV l,iV c] H (fun w H'=>zA S P gP H r t m g mi (t.fail e l c) H'):=by
 refine ak.told ?_
 refine ajc (Nat.le_refl _) fun hf=>?_
 simp only [Tryz.f82,Option.getD_some]
 have r0:=RR.start h
 obtain ⟨vN,vI,hr,hN,hI,V5,_⟩:=r0.re
 have hz:=h.fz
 by_cases hb:t.bad=0
 ·simp only [go_sem,hr,hb,hz]
  have e1:t.fail e l c={t with bad:=e,line:=l,aj:=c}:=by rw [VT.fail,if_pos hb]
  rw [e1]
  obtain ⟨v1,v2,gI,_,_,amj,_⟩:=(V5 {t with bad:=e} rfl rfl).re
  obtain ⟨v3,v4,dQ,_,_,aa9,_⟩:=(amj {t with bad:=e,line:=l} rfl rfl).re
  rw [az,if_pos rfl] at gI dQ
  cases gI
  cases dQ
  have q:=(aa9 {t with bad:=e,line:=l,aj:=c} rfl rfl).rq.toRQ0.ai (fz:=H.fz)
  exact ⟨((((Fr.refl [r] H).ah (.inl (by simp)) _).ah (.inl (by simp)) _).ah (.inl (by simp)) _).ai _,fun _=>rfl,q,rfl,rfl⟩
 ·simp only [go_sem,hr,hb]
  rw [VT.fail,if_neg hb]
  exact ⟨(Fr.refl _ _).ai _,fun _=>rfl,h.toRQ0.ai,rfl,rfl⟩
end
theorem XO {k:Nat} (h:k < 1000000):IntKind.wrap .i64 (((k:Nat):Int) - 1)=((k:Nat):Int) - 1:=by
 cases k with
 | zero=>decide
 | succ k=>rw [show (((k+1:Nat):Int) - 1)=((k:Nat):Int) by omega];exact vf (by omega)
def OB (l:List my) (s:bf) (fr:Nat):Nat->Int
 | 0=> -1
 | i+1=>if i < fr then -1 else if (l.getD i ⟨[],0⟩).name=s then (l.getD i ⟨[],0⟩).slot else OB l s fr i
def kC (l:List my) (s:bf) (fr:Nat):Int:=OB l s fr l.length
section
variable {S:XS} {P:bw} {gP:List Nat} {H H1 H2:ad} {r:Nat} {t t1 t2:VT} {m g g1 g2 mi dE dJ:List Nat}
theorem Od (h:RQ0 S P gP H r t m g mi) (hl:t.aK.length < 1000000) {s:bf} {fr:Nat}:ak Tryz.prog 151 #[pV r,ae s,iV (fr:Nat)] H (fun w H'=>w=iV (kC t.aK s fr)/\H=H'):=by
 refine agq (Nat.le_refl _) fun hf=>?_
 simp only [Tryz.f151,Option.getD_some]
 obtain ⟨vN,vI,hr,hN,hI⟩:=h.row
 obtain ⟨aI,cI,CB⟩:=hI.val
 subst CB
 simp only [go_sem,hr,XO hl]
 refine la 137438937280 (fun n V H1=>V 7=iV (((n:Nat):Int) - 1)/\H=H1/\kC t.aK s fr=OB t.aK s fr n/\n<=t.aK.length) (n:=t.aK.length) ⟨by simp only [go_sem] <;> rfl,rfl,rfl,Nat.le_refl _⟩ ?_ (by rfl)
 rintro n V H1 ⟨e7,rfl,hg,hn⟩
 cases n with
 | zero=>
  have be:¬((fr:Nat):Int)<=((0:Nat):Int) - 1:=by omega
  simp only [go_sem,e7,be]
  rw [hg];rfl
 | succ k=>
  have e1:(((k+1:Nat):Int) - 1)=((k:Nat):Int):=by omega
  rw [e1] at e7
  rw [OB] at hg
  by_cases hk:k < fr
  ·rw [if_pos hk] at hg
   have be:¬((fr:Nat):Int)<=((k:Nat):Int):=by omega
   simp only [go_sem,e7,be]
   rw [hg]
  ·rw [if_neg hk] at hg
   have be:((fr:Nat):Int)<=((k:Nat):Int):=by omega
   have nW:k < t.aK.length:=by omega
   have hx:t.aK[k]?=some (t.aK[k]'nW):=List.getElem?_eq_getElem nW
   rw [show t.aK.getD k ⟨[],0⟩=t.aK[k]'nW from by rw [List.getD_eq_getElem?_getD,hx];rfl] at hg
   generalize (t.aK[k]'nW)=x at hx hg
   obtain ⟨b,o,c',B,gx,hv,hB,ep,dj,cm,hE⟩:=hI.sl.at hx
   have ez:o+k * 2+2<=B.cells.length:=cm
   have aX:(B.cells.drop (o+k * 2)).take 2=[ae x.name,iV x.slot]:=hE.1
   have j5:B.cells[o+k * 2]?=some (ae x.name):=by
    have:((B.cells.drop (o+k * 2)).take 2)[0]?=some (ae x.name):=by rw [aX];rfl
    rw [List.getElem?_take,if_pos (by decide),List.getElem?_drop] at this
    exact this
   have eA:B.cells[o+k * 2+1]?=some (iV x.slot):=by
    have:((B.cells.drop (o+k * 2)).take 2)[1]?=some (iV x.slot):=by rw [aX];rfl
    rw [List.getElem?_take,if_pos (by decide),List.getElem?_drop] at this
    exact this
   cases hv
   by_cases yS:x.name=s
   ·rw [if_pos yS] at hg
    simp only [go_sem,e7,be,hr,nW,hB,j5,eA,yS]
    rw [hg]
   ·rw [if_neg yS] at hg
    simp only [go_sem,e7,be,hr,nW,hB,j5,eA,yS,XO (show k < 1000000 by omega)]
    exact ⟨k,by omega,rfl,hg,by omega⟩
theorem Km (h:RQ S P gP H r t m g mi) {x y:Int} {n:aG} {vA vP vB:Value}:ak Tryz.prog 152 #[pV r,iV x,iV y,.agg (aJ n vA vP vB).toArray] H (fun w H'=>zA S P gP H r t m g mi (if x=y then t else t.fail 6 n.line n.aj) H'):=by
 refine ak.told ?_
 refine ags (Nat.le_refl _) fun hf=>?_
 simp only [Tryz.f152,Option.getD_some]
 have r1:=(RA.start h).push ⟨aJ n vA vP vB,42,false,false⟩
 by_cases Ee:x=y
 ·simp only [go_sem,Ee]
  exact r1.last
 ·rw [if_neg Ee]
  simp only [go_sem,Ee]
  refine ag.by (jb r1.rq) ?_
  rintro _ H2 - p2
  simp only [go_sem]
  exact (r1.call p2).last
def sH (t:VT) (s:bf) (l c:Int):VT:=if 0<=kC t.aK s 0 then t.fail 5 l c else t
def wZ (t:VT) (l c:Int):VT:=if 40<=t.aY then t.fail 3 l c else t
def fg (t:VT) (s:bf) (l c:Int):Int × VT:=(t.aY,{wZ (sH t s l c) l c with aK:=t.aK++[⟨s,t.aY⟩],aY:=t.aY+1})
theorem XP (t:VT) (s:bf) (l c:Int):(sH t s l c).aK=t.aK/\(sH t s l c).aY=t.aY/\(sH t s l c).ns=t.ns:=by
 unfold sH;split
 ·exact ⟨VT.Rl _ _ _ _,VT.Xw _ _ _ _,VT.RI _ _ _ _⟩
 ·exact ⟨rfl,rfl,rfl⟩
theorem XQ (t:VT) (l c:Int):(wZ t l c).aK=t.aK/\(wZ t l c).aY=t.aY/\(wZ t l c).ns=t.ns:=by
 unfold wZ;split
 ·exact ⟨VT.Rl _ _ _ _,VT.Xw _ _ _ _,VT.RI _ _ _ _⟩
 ·exact ⟨rfl,rfl,rfl⟩
theorem Rm {s:bf} {n:Int} {h:KH}:fQ Tryz.prog 139 [(0,ae s),(1,iV n)] h=.ok (.agg #[ae s,iV n]) h:=by kernel_rfl
theorem C4 (h:RQ S P gP H r t m g mi) (hl:t.aK.length < 100000) (me:0<=t.aY) (dw:t.aY < 100000) {s:bf} {n:aG} {vA vP vB:Value}:ak Tryz.prog 153 #[pV r,ae s,.agg (aJ n vA vP vB).toArray] H (fun w H'=>w=iV t.aY/\wY S P gP H r t m g mi (fg t s n.line n.aj).2 H'):=by
 refine ak.told ?_
 refine qz (l:=[_,_,_]) _ mixed Tryz.func153 agt [.tmp 6] (show 3<=55 by decide) rfl fun hf=>?_
 simp only [Tryz.f153,Option.getD_some]
 have hX:=h.fz
 have r1:=((RR.start h).push ⟨aJ n vA vP vB,42,false,false⟩).told
 have iH:((H.push ⟨aJ n vA vP vB,42,false,false⟩).ai H.fz).get H.next=some ⟨aJ n vA vP vB,42,false,false⟩:=by rw [bg,aV,if_pos rfl]
 have gW:H.next∉r::(m++mi):=fun e=>by
  simp only [List.mem_cons,List.mem_append] at e
  rcases e with e | e | e
  ·have:=h.rl;omega
  ·have:=(h.hm _ e).1;omega
  ·have:=(h.hi _ e).1;omega
 -- R0,then FV first test
 refine l8 (qA 36028797018963960 (fun V H1=>V 5=pV H.next/\∃g1 dE,RR S P gP H r t m g mi H1 (sH t s n.line n.aj) g1 dE/\H1.get H.next=some ⟨aJ n vA vP vB,42,false,false⟩) ?_ ?_ (by rfl))
 ·simp only [go_sem]
  refine ag.by (Od r1.rq.toRQ0 (by omega) (s:=s) (fr:=0)) ?_
  rintro _ _ - ⟨rfl,rfl⟩
  by_cases eK:0<=kC t.aK s 0
  ·rw [sH,if_pos eK]
   simp only [go_sem,eK,iH]
   refine ag.by (jb r1.told.rq) ?_
   rintro _ H2 - p2
   have r2:=r1.told.Z1 p2
   simp only [go_sem]
   exact ⟨g,mi,r2.told,(p2.fr.get H.next (Nat.lt_succ_self _) fun e=>gW (by rw [List.mem_singleton] at e;simp [e])).trans iH⟩
  ·rw [sH,if_neg eK]
   simp only [go_sem,eK]
   exact ⟨g,mi,r1.told⟩
 ·rintro V H1 ⟨e5,g1,dE,r2,nj⟩
  obtain ⟨eI,eS,eN⟩:=XP t s n.line n.aj
  refine qA 36028797018963960 (fun V H1=>∃g1 dE,RR S P gP H r t m g mi H1 (wZ (sH t s n.line n.aj) n.line n.aj) g1 dE) ?_ ?_ (by rfl)
  ·obtain ⟨vN,vI,dQ,_⟩:=r2.re
   by_cases Qj:40<=(sH t s n.line n.aj).aY
   ·rw [wZ,if_pos Qj]
    simp only [go_sem,e5,dQ,Qj,nj]
    refine ag.by (jb r2.told.rq) ?_
    rintro _ H2 - p2
    have r3:=r2.told.Z1 p2
    simp only [go_sem]
    exact ⟨g1,dE,r3.told⟩
   ·rw [wZ,if_neg Qj]
    simp only [go_sem,e5,dQ,Qj]
    exact ⟨g1,dE,r2.told⟩
  ·rintro V2 H2 ⟨g2,dJ,r3⟩
   obtain ⟨fI,fS,fN⟩:=XQ (sH t s n.line n.aj) n.line n.aj
   rw [eS] at fS
   rw [eI] at fI
   rw [fg]
   generalize wZ (sH t s n.line n.aj) n.line n.aj=T at *
   have r4:=r3.push ⟨[ae s,iV t.aY],139,false,false⟩
   obtain ⟨vN,vI,fK,_,MM,_⟩:=r3.re
   have xA:¬r=H2.next:=by have:=r3.rq.rl;omega
   have tj:(H2.push ⟨[ae s,iV t.aY],139,false,false⟩).get r=some ⟨rC S vN vI T,136,false,false⟩:=(bX r3.rq.rl).trans fK
   have Qk:=MM.af (H':=H2.push ⟨[ae s,iV t.aY],139,false,false⟩) fun c hc=>bX (r3.rq.hi c hc).1
   rw [fI] at Qk
   obtain ⟨aI,cI,CB⟩:=Qk.val
   subst CB
   rw [rC,fS] at fK
   simp only [go_sem,fK,xA,Rm,eB zT (by decide) (by decide)]
   refine R8 (x:=⟨s,t.aY⟩) Qk (fun c hc=>(r4.rq.hi c hc).1) r4.x (by rw [aV,if_pos rfl]) (by omega) ?_
   intro v5 H5 mi5 ny hm5 hf5 Jp
   obtain ⟨GO,r5⟩:=r4.aK tj hf5 (v2:=v5) (t2:={T with aK:=t.aK++[⟨s,t.aY⟩],aY:=t.aY}) rfl ny hm5
   rw [rC,fS] at GO
   obtain ⟨sn,Je⟩:=Int.eq_ofNat_of_zero_le me
   have eV:IntKind.wrap .i64 (t.aY+1)=t.aY+1:=by rw [Je,show (((sn:Nat):Int)+1)=((sn+1:Nat):Int) by omega];exact vf (by omega)
   have mY:IntKind.wrap .i64 (t.aY+1 - 1)=t.aY:=by rw [Je,show (((sn:Nat):Int)+1 - 1)=((sn:Nat):Int) by omega];exact vf (by omega)
   obtain ⟨a5,c5,jI⟩:=ny.val
   subst jI
   obtain ⟨v6,v7,ig,_,_,amk,_⟩:=r5.re
   rw [bg,az,if_pos rfl] at ig
   cases ig
   simp only [go_sem,GO,hX,eV,mY]
   exact (amk {T with aK:=t.aK++[⟨s,t.aY⟩],aY:=t.aY+1} rfl rfl).last
end
theorem Ys {α:Type} {n:Nat} {hn:0 < n} {qU:α->List Value} {hl:∀x,(qU x).length=n} {H:ad}:∀{cs:List Value} {l:List α} {f:List Nat},dV (.flat n hn qU hl) H cs l f->f=[]
 | cs,[],f,h=>h
 | cs,x::l,f,h=>by
  obtain ⟨c1,c2,f1,f2,rfl,rfl,h1,h2⟩:=h
  rw [h1.2,Ys h2];rfl
theorem Gr.flat {α:Type} {n:Nat} {hn:0 < n} {qU:α->List Value} {hl:∀x,(qU x).length=n} {ty:TypeId} {H:ad} {v:Value} {l:List α} {m g:List Nat} (h:Gr (.flat n hn qU hl) ty H v l m g):g=[]:=by
 rcases h with ⟨_,_,_,h⟩ | ⟨b,cs,_,_,_,_,_,h,_⟩
 ·exact h
 ·exact Ys h
def qK (ms:List bf):List PN->Option (List PN)
 | []=>some []
 | x::l=>if x.kind=3 then (if cK ms x.name < 0 then none else (qK ms l).map ({x with n:=cK ms x.name}::·)) else (qK ms l).map (x::·)
section
variable {S:XS} {P:bw} {gP:List Nat} {H H1 H2:ad} {r:Nat} {t t1 t2:VT} {m g g1 g2 mi dE dJ:List Nat}
def IP (ms:List bf) (p:List PN) (H H':ad) (w:Value):Prop:=match qK ms p with
 | some p'=>∃v g',w=.tuple #[v,.bool true]/\Sl fJ H' v p' g'/\hZ H H' g'
 | none=>w=.tuple #[.slice none 0 0,.bool false]
theorem Rc (h:RQ0 S P gP H r t m g mi) (CC:P.msgs.length < 1000000) {vp:Value} {p:List PN} {gp:List Nat} (hp:Sl fJ H vp p gp) (xJ:∀c∈gp,c < H.next) (j6:p.length < 1000000):
  ak Tryz.prog 149 #[pV r,vp] H (fun w H'=>IP (P.msgs.map (·.name)) p H H' w/\ba H H'/\∀c,H'.fz c=H.fz c):=by
 refine ak.told ?_
 refine agm (Nat.le_refl _) fun hf=>?_
 simp only [Tryz.f149,Option.getD_some]
 simp only [go_sem]
 refine xW (r:=fJ) Sv hp (by
  have:p.length * 1000<=1000000 * 1000:=Nat.mul_le_mul (by omega) (Nat.le_refl _)
  omega) xJ ?_
 intro vL H2 mL gL cB qi iR
 have kX:=cB.flat
 subst kX
 obtain ⟨o2,gq⟩:ba H H2/\∀c∈mL,H.next<=c/\c < H2.next:=by
  rcases iR with ⟨rfl,rfl⟩ | ⟨rfl,cs,rfl⟩
  ·exact ⟨ba.refl _,by simp⟩
  ·exact ⟨ba.push H _,fun c hc=>by rw [List.mem_singleton] at hc;subst hc;exact ⟨Nat.le_refl _,Nat.lt_succ_self _⟩⟩
 obtain ⟨aL,qj⟩:=cB.val
 subst qj
 obtain ⟨vN,vI,hr,hN,hI⟩:=h.row
 obtain ⟨gs,rk,jH⟩:=h.sM
 have dQ:=(o2.get r h.rl).trans hr
 simp only [go_sem,dQ]
 refine ag.by (Oa (rk.af fun c hc=>o2.get c (h.hP c (jH c hc)).1) CC (fun c hc=>Nat.lt_of_lt_of_le (h.hP c (jH c hc)).1 o2.nx)) ?_
 rintro CD H3 - ⟨⟨g3,sd,za⟩,o3,z3⟩
 have o03:=o2.trans o3
 have sS:=cB.af (H':=H3) (fun c hc=>o3.get c (gq c hc).2) (by simp)
 simp only [go_sem]
 refine iw 8796092498736 p.length (fun i V H4=>V 19=iV (i:Nat)/\Fr mL H3 H4/\∃done,Gr fJ 199 H4 (.slice aL p.length p.length) (done++p.drop i) mL []/\done.length=i/\qK (P.msgs.map (·.name)) p=(qK (P.msgs.map (·.name)) (p.drop i)).map (done++·)) ⟨by simp only [go_sem] <;> rfl,Fr.refl _ _,[],sS,rfl,by rw [List.drop_zero];cases qK (P.msgs.map (·.name)) p <;> rfl⟩ ?_ ?_ (by rfl)
 ·rintro i V H4 hi ⟨ei,f4,done,oU,df,xK⟩
  have hx:p[i]?=some (p[i]'hi):=List.getElem?_eq_getElem hi
  have cE:p.drop i=(p[i]'hi)::p.drop (i+1):=(List.getElem_cons_drop hi).symm
  generalize (p[i]'hi)=x at hx cE
  rw [cE] at oU xK
  rw [qK] at xK
  have de:i < (done++x::p.drop (i+1)).length:=by rw [List.length_append,List.length_cons];omega
  have pZ:(done++x::p.drop (i+1))[i]'de=x:=by subst df;simp
  have fh:∀y:PN,(done++x::p.drop (i+1)).set i y=(done++[y])++p.drop (i+1):=fun y=>by subst df;simp
  have ct:IntKind.wrap .i64 (((i:Nat):Int)+1)=((i+1:Nat):Int):=cZ hi (by omega)
  obtain ⟨b,cs,f1,f2,f3,hv,rfl,hb,fk,lZ,iX,hE,oW⟩:=oU.put de
  have lZ:=lZ.symm
  simp only [List.append_eq_nil_iff] at lZ
  obtain ⟨rfl,rfl,rfl⟩:=lZ
  rw [pZ] at hE
  have aX:(cs.drop (i * 5)).take 5=[iV x.kind,iV x.a,iV x.b,iV x.n,ae x.name]:=hE.1
  have iX:i * 5+5<=cs.length:=iX
  have hcj:∀j v,j < 5->[iV x.kind,iV x.a,iV x.b,iV x.n,ae x.name][j]?=some v->cs[i * 5+j]?=some v:=fun j v hj hv=>by
   rw [<-aX,List.getElem?_take,if_pos hj,List.getElem?_drop] at hv
   exact hv
  have j5:cs[i * 5]?=some (iV x.kind):=hcj 0 _ (by decide) rfl
  have Ql:=hcj 4 _ (by decide) rfl
  simp only [Value.slice.injEq] at hv
  have iI:=hv.1
  have hX:H.fz b=false:=hf.fresh (gq b (by simp)).1
  have Mg:i * 5+3 < cs.length:=by omega
  have aml:i * 5+3+1<=cs.length:=by omega
  have B4:i * 5 < cs.length:=by omega
  by_cases hk:x.kind=3
  ·rw [if_pos hk] at xK
   have oa:=sd.af (H':=H4) fun c hc=>f4.get c (za c hc).2 fun e=>by have:=(gq c e).2;have:=(za c hc).1;omega
   simp only [go_sem,ei,hi,iI,hb,j5,Ql,hk,iX]
   refine ag.by (qy oa (by rw [List.length_map];exact CC)) ?_
   rintro _ _ - ⟨rfl,rfl⟩
   by_cases cA:cK (P.msgs.map (·.name)) x.name < 0
   ·rw [if_pos cA] at xK
    simp only [go_sem,cA]
    rw [IP,xK]
    exact ⟨rfl,(((o03.fr []).trans f4 fun c hc=>.inr (gq c hc).1).ai _).aH,fun _=>trivial⟩
   ·rw [if_neg cA] at xK
    simp only [go_sem,ei,hi,iI,cA,hb,hX,Mg,aml,ct,eW Mg]
    have eJ:cs.set (i * 5+3) (iV (cK (P.msgs.map (·.name)) x.name))=cW cs (i * fJ.sz) [iV x.kind,iV x.a,iV x.b,iV (cK (P.msgs.map (·.name)) x.name),ae x.name]:=by
     have:=xQ (vs:=[iV (cK (P.msgs.map (·.name)) x.name)]) aX (k:=3) (by decide:3+1<=5) iX
     rw [eW Mg] at this
     rw [this];rfl
    have lL:=oW (H4.ah b ⟨cs.set (i * 5+3) (iV (cK (P.msgs.map (·.name)) x.name)),199,true,false⟩) [iV x.kind,iV x.a,iV x.b,iV (cK (P.msgs.map (·.name)) x.name),ae x.name] {x with n:=cK (P.msgs.map (·.name)) x.name} [] (by simp) (by rw [az,if_pos rfl,eJ]) ⟨rfl,rfl⟩ (by simp)
    rw [fh,iI] at lL
    refine ⟨f4.ah (.inl (by simp)) _,_,lL,by rw [List.length_append,List.length_singleton,df],?_⟩
    rw [xK]
    cases qK (P.msgs.map (·.name)) (p.drop (i+1)) <;> simp
  ·rw [if_neg hk] at xK
   simp only [go_sem,ei,hi,iI,hb,j5,hk,iX,ct]
   rw [iI,show done++x::p.drop (i+1)=(done++[x])++p.drop (i+1) by simp] at oU
   refine ⟨f4,done++[x],oU,by rw [List.length_append,List.length_singleton,df],?_⟩
   rw [xK]
   cases qK (P.msgs.map (·.name)) (p.drop (i+1)) <;> simp
 ·rintro V H4 ⟨ei,f4,done,oU,df,xK⟩
  simp only [go_sem,ei]
  rw [List.drop_length] at oU xK
  rw [List.append_nil] at oU
  have e1:qK (P.msgs.map (·.name)) p=some done:=by rw [xK,qK];simp
  have n4:=f4.nx
  have n3:=o3.nx
  rw [IP,e1]
  refine ⟨⟨_,mL++[],rfl,oU.sl.af fun _ _=>rfl,fun c hc=>?_⟩,(((o03.fr []).trans f4 fun c hc=>.inr (gq c hc).1).ai _).aH,fun _=>trivial⟩
  rw [List.append_nil] at hc
  have:=gq c hc
  exact ⟨this.1,by show c < H4.next;omega⟩
end
abbrev oc (t:Ty) (v:Value):List Value:=[iV t.kind,iV t.cap,iV t.rc,ae t.name,v]
abbrev jn (P:bw):List bf:=P.msgs.map (·.name)
abbrev j0 (P:bw):List bf:=P.bZ.map (·.name)
def wT (P:bw) (t:Ty) (l c:Int) (st:VT):Ty × VT:=
 if t.kind=2 then (if t.rc= -1 then (t,st) else ({t with rc:=cK (j0 P) t.name},if cK (j0 P) t.name < 0 then st.fail 4 l c else st))
 else if t.kind=3∨t.kind=4 then (match qK (jn P) t.pat with
  | some p=>({t with pat:=p},st)
  | none=>({t with pat:=[]},st.fail 4 l c))
 else (t,st)
section
variable {S:XS} {P:bw} {gP:List Nat} {H H1 H2:ad} {r:Nat} {t t1 t2:VT} {m g g1 g2 mi dE dJ:List Nat}
theorem YR (h:RQ S P gP H r t m g mi) (CC:P.msgs.length < 1000000) (qe:P.bZ.length < 1000000) {ty:Ty} {l c:Int} {v:Value} {gv:List Nat} (hv:Sl fJ H v ty.pat gv) (oe:∀d∈gv,d < H.next/\d≠r) (j6:ty.pat.length < 1000000):
  ak Tryz.prog 122 #[pV r,.agg (oc ty v).toArray,iV l,iV c] H (fun w H'=>∃v' g',w=.agg (oc (wT P ty l c t).1 v').toArray/\Sl fJ H' v' (wT P ty l c t).1.pat g'/\(∀d∈g',d∈gv∨(H.next<=d/\d < H'.next))/\zA S P gP H r t m g mi (wT P ty l c t).2 H'):=by
 refine ak.told ?_
 refine afK (Nat.le_refl _) fun hf=>?_
 simp only [Tryz.f122,Option.getD_some]
 obtain ⟨kd,cp,rc,nm,pt⟩:=ty
 simp only at hv j6 ⊢
 obtain ⟨a,k,rfl⟩:=hv.val
 have r1:=((RA.start h).push ⟨oc ⟨kd,cp,rc,nm,pt⟩ (.slice a pt.length k),99,false,false⟩).push ⟨[iV 0,iV 0,iV 0,ae [],.slice none 0 0],99,false,false⟩
 obtain ⟨H1,cH⟩:=r1.hp
 have p1:¬H.next=H.next+1:=by omega
 have iH:H1.get H.next=some ⟨oc ⟨kd,cp,rc,nm,pt⟩ (.slice a pt.length k),99,false,false⟩:=by rw [cH,aV,bJ,if_neg p1,aV,if_pos rfl]
 have AP:H1.get (H.next+1)=some ⟨[iV 0,iV 0,iV 0,ae [],.slice none 0 0],99,false,false⟩:=by rw [cH,aV];exact if_pos rfl
 have Jv:H1.next=H.next+1+1:=by rw [cH];rfl
 have o1:ba H H1:=by rw [cH];exact (((Fr.refl [] H).push _).push _).aH
 have dz:H.fz H.next=false:=hf.fresh (Nat.le_refl _)
 have gX:H.fz (H.next+1)=false:=hf.fresh (by omega)
 have JA:¬H.next+1=H.next:=by omega
 have IQ:=h.rl
 have nr:¬r=H.next:=by omega
 have nr1:¬r=H.next+1:=by omega
 have uP:¬H.next=r:=by omega
 simp only [go_sem]
 rw [<-cH] at r1 ⊢
 clear cH
 -- eF is atB out
 have fin:∀{H2:ad} {t2:VT} {l6:Ty} {a2:Option Addr} {k2:Nat} {g2:List Nat},RA S P gP H r t m g mi H2 t2->Sl fJ H2 (.slice a2 l6.pat.length k2) l6.pat g2->(∀d∈g2,d∈gv∨(H.next+1+1<=d/\d < H2.next))->
   ∃v' g',(Value.agg #[iV l6.kind,iV l6.cap,iV l6.rc,ae l6.name,.slice a2 l6.pat.length k2])=.agg (oc l6 v').toArray/\Sl fJ ((H2.ah (H.next+1) ⟨oc l6 (.slice a2 l6.pat.length k2),99,false,false⟩).ai H.fz) v' l6.pat g'/\(∀d∈g',d∈gv∨(H.next<=d/\d < ((H2.ah (H.next+1) ⟨oc l6 (.slice a2 l6.pat.length k2),99,false,false⟩).ai H.fz).next))/\zA S P gP H r t m g mi t2 ((H2.ah (H.next+1) ⟨oc l6 (.slice a2 l6.pat.length k2),99,false,false⟩).ai H.fz):=fun {H2 t2 l6 a2 k2 g2} r2 hs hg=>by
  refine ⟨_,g2,rfl,hs.af fun d hd=>?_,fun d hd=>(hg d hd).imp id fun e=>⟨by omega,e.2⟩,(r2.own (M:=[H.next+1]) ((Fr.refl _ _).ah (.inl (by simp)) _) (by simp) fun _ _=>rfl).last⟩
  rw [bg,az,if_neg]
  rintro rfl
  rcases hg _ hd with e | e
  ·have:=(oe _ e).1;omega
  ·omega
 have sZ:=hv.af (H':=H1) fun d hd=>o1.get d (oe d hd).1
 obtain ⟨vN,vI,hr,hN,hI⟩:=h.row
 have gI:=(o1.get r IQ).trans hr
 unfold wT
 by_cases fX:kd=2
 ·subst fX
  by_cases iA:rc= -1
  ·subst iA
   simp only [go_sem,iH,AP,gX,p1]
   exact fin (l6:=⟨2,cp, -1,nm,pt⟩) r1 sZ fun d hd=>.inl hd
  ·obtain ⟨gs,hsR,jH⟩:=r1.rq.sR
   simp only [go_sem,iH,AP,iA,dz,gI]
   refine ag.by (Ia hsR qe (fun d hd=>(r1.rq.hP d (jH d hd)).1)) ?_
   rintro CD H3 - ⟨⟨g3,sd,za⟩,o3,z3⟩
   have r3:=r1.aH o3 z3
   have nu:=(o3.get H.next (by omega)).trans iH
   have AQ:=(o3.get (H.next+1) (by omega)).trans AP
   have n3:=o3.nx
   simp only [go_sem,iH,nu]
   refine ag.by (qy sd (by rw [List.length_map];exact qe)) ?_
   rintro _ _ - ⟨rfl,rfl⟩
   have r4:=r3.own (M:=[H.next]) ((Fr.refl _ _).ah (b:=H.next) (.inl (by simp)) ⟨oc ⟨2,cp,cK (j0 P) nm,nm,pt⟩ (.slice a pt.length k),99,false,false⟩) (by simp) fun _ _=>rfl
   have MN:=sZ.af (H':=H3.ah H.next ⟨oc ⟨2,cp,cK (j0 P) nm,nm,pt⟩ (.slice a pt.length k),99,false,false⟩) fun d hd=>by
    have:=(oe d hd).1
    rw [az,if_neg (by omega)];exact o3.get d (by omega)
   by_cases cA:cK (j0 P) nm < 0
   ·simp only [go_sem,nu,dz,cA]
    refine ag.by (jb r4.rq) ?_
    rintro _ H5 - p5
    have r5:=r4.call p5
    have dO:=(p5.fr.get H.next (by show H.next < H3.next;omega) (by simp [uP])).trans (by rw [az,if_pos rfl])
    have CE:=(p5.fr.get (H.next+1) (by show H.next+1 < H3.next;omega) (by simp;omega)).trans ((az.trans (if_neg JA)).trans AQ)
    have jI:=MN.af (H':=H5) fun d hd=>p5.fr.get d (by show d < H3.next;have:=(oe d hd).1;omega) (by simp [(oe d hd).2])
    simp only [go_sem,dO,CE,gX,p1]
    rw [if_neg iA,if_pos cA]
    exact fin (l6:=⟨2,cp,cK (j0 P) nm,nm,pt⟩) r5 jI fun d hd=>.inl hd
   ·simp only [go_sem,nu,dz,cA,AQ,gX,p1,JA]
    rw [if_neg iA]
    exact fin (l6:=⟨2,cp,cK (j0 P) nm,nm,pt⟩) r4 MN fun d hd=>.inl hd
 ·by_cases TF:kd=3∨kd=4
  ·have g0:∀d∈gv,d < H1.next:=fun d hd=>by have:=(oe d hd).1;omega
   rcases TF with rfl | rfl
   ·simp only [go_sem,iH]
    refine ag.by (Rc r1.rq.toRQ0 CC sZ g0 j6) ?_
    rintro w H3 - ⟨rm,o3,z3⟩
    have r3:=r1.aH o3 z3
    have nu:=(o3.get H.next (by omega)).trans iH
    have AQ:=(o3.get (H.next+1) (by omega)).trans AP
    have n3:=o3.nx
    unfold IP at rm
    cases AR:qK (jn P) pt with
    | some p'=>
     rw [AR] at rm
     obtain ⟨v',g',rfl,dd,y0⟩:=rm
     obtain ⟨a',k',rfl⟩:=dd.val
     simp only [go_sem,nu,dz,AQ,p1,JA,gX]
     exact fin (l6:=⟨3,cp,rc,nm,p'⟩) (r3.own (M:=[H.next]) ((Fr.refl _ _).ah (b:=H.next) (.inl (by simp)) ⟨oc ⟨3,cp,rc,nm,p'⟩ (.slice a' p'.length k'),99,false,false⟩) (by simp) fun _ _=>rfl) (dd.af fun d hd=>by rw [az,if_neg (by have:=(y0 d hd).1;omega)]) fun d hd=>.inr ⟨by have:=(y0 d hd).1;omega,(y0 d hd).2⟩
    | none=>
     rw [AR] at rm
     subst rm
     simp only [go_sem,nu]
     refine ag.by (jb r3.rq) ?_
     rintro _ H5 - p5
     have r5:=r3.call p5
     have dO:=(p5.fr.get H.next (by omega) (by simp [uP])).trans nu
     have CE:=(p5.fr.get (H.next+1) (by omega) (by simp;omega)).trans AQ
     simp only [go_sem,dO,dz,CE,p1,JA,gX]
     exact fin (l6:=⟨3,cp,rc,nm,[]⟩) (a2:=none) (k2:=0) (g2:=[]) (r5.own (M:=[H.next]) ((Fr.refl _ _).ah (b:=H.next) (.inl (by simp)) ⟨oc ⟨3,cp,rc,nm,[]⟩ (.slice none 0 0),99,false,false⟩) (by simp) fun _ _=>rfl) (.inl ⟨rfl,rfl,rfl⟩) (by simp)
   ·simp only [go_sem,iH]
    refine ag.by (Rc r1.rq.toRQ0 CC sZ g0 j6) ?_
    rintro w H3 - ⟨rm,o3,z3⟩
    have r3:=r1.aH o3 z3
    have nu:=(o3.get H.next (by omega)).trans iH
    have AQ:=(o3.get (H.next+1) (by omega)).trans AP
    have n3:=o3.nx
    unfold IP at rm
    cases AR:qK (jn P) pt with
    | some p'=>
     rw [AR] at rm
     obtain ⟨v',g',rfl,dd,y0⟩:=rm
     obtain ⟨a',k',rfl⟩:=dd.val
     simp only [go_sem,nu,dz,AQ,p1,JA,gX]
     exact fin (l6:=⟨4,cp,rc,nm,p'⟩) (r3.own (M:=[H.next]) ((Fr.refl _ _).ah (b:=H.next) (.inl (by simp)) ⟨oc ⟨4,cp,rc,nm,p'⟩ (.slice a' p'.length k'),99,false,false⟩) (by simp) fun _ _=>rfl) (dd.af fun d hd=>by rw [az,if_neg (by have:=(y0 d hd).1;omega)]) fun d hd=>.inr ⟨by have:=(y0 d hd).1;omega,(y0 d hd).2⟩
    | none=>
     rw [AR] at rm
     subst rm
     simp only [go_sem,nu]
     refine ag.by (jb r3.rq) ?_
     rintro _ H5 - p5
     have r5:=r3.call p5
     have dO:=(p5.fr.get H.next (by omega) (by simp [uP])).trans nu
     have CE:=(p5.fr.get (H.next+1) (by omega) (by simp;omega)).trans AQ
     simp only [go_sem,dO,dz,CE,p1,JA,gX]
     exact fin (l6:=⟨4,cp,rc,nm,[]⟩) (a2:=none) (k2:=0) (g2:=[]) (r5.own (M:=[H.next]) ((Fr.refl _ _).ah (b:=H.next) (.inl (by simp)) ⟨oc ⟨4,cp,rc,nm,[]⟩ (.slice none 0 0),99,false,false⟩) (by simp) fun _ _=>rfl) (.inl ⟨rfl,rfl,rfl⟩) (by simp)
  ·have zB:¬kd=3:=fun e=>TF (.inl e)
   have ir:¬kd=4:=fun e=>TF (.inr e)
   simp only [go_sem,iH,fX,zB,ir,AP,gX,p1]
   exact fin (l6:=⟨kd,cp,rc,nm,pt⟩) r1 sZ fun d hd=>.inl hd
end
abbrev xg (f:tf) (v:Value):List Value:=[ae f.name,iV f.ty.kind,iV f.ty.cap,iV f.ty.rc,ae f.ty.name,v]
def KA (rec:Bool) (k:Int):Bool:=rec&&(decide (k=3)||decide (k=4))
def EH (P:bw) (rec:Bool) (l c:Int):List tf->List tf->VT->List tf × VT
 | [],done,st=>(done,st)
 | f::fs,done,st=>EH P rec l c fs (done++[⟨f.name,(wT P f.ty l c st).1⟩]) (if KA rec (wT P f.ty l c st).1.kind=true then (wT P f.ty l c st).2.fail 2 l c else (wT P f.ty l c st).2)
def Ib (l c:Int):List bf->List bf->VT->VT
 | _,[],st=>st
 | pre,s::r,st=>Ib l c (pre++[s]) r (if 0<=cK pre s then st.fail 5 l c else st)
def zN (P:bw) (rec:Bool) (l c:Int) (fs:List tf) (st:VT):List tf × VT:=((EH P rec l c fs [] st).1,Ib l c [] (fs.map (·.name)) (EH P rec l c fs [] st).2)
section
variable {S:XS} {P:bw} {gP:List Nat} {H H1 H2:ad} {r:Nat} {t t1 t2:VT} {m g g1 g2 mi dE dJ:List Nat}
theorem XR (h:RQ S P gP H r t m g mi) (CC:P.msgs.length < 1000000) (qe:P.bZ.length < 1000000) {fs:List tf} {rec:Bool} {l c:Int} {v:Value} {gv:List Nat} (hv:Sl lH H v fs gv) (oe:∀d∈gv,d < H.next/\d≠r) (c6:fs.length < 1000000) (j6:∀f∈fs,f.ty.pat.length < 1000000):
  ak Tryz.prog 123 #[pV r,v,.bool rec,iV l,iV c] H (fun w H'=>(∃g',Sl lH H' w (zN P rec l c fs t).1 g'/\∀d∈g',d∈gv∨(H.next<=d/\d < H'.next))/\zA S P gP H r t m g mi (zN P rec l c fs t).2 H'):=by
 refine ak.told ?_
 refine afM (Nat.le_refl _) fun hf=>?_
 simp only [Tryz.f123,Option.getD_some]
 obtain ⟨a,k,rfl⟩:=hv.val
 have IQ:=h.rl
 simp only [go_sem]
 refine iw 2251799813433344 fs.length (fun i V H2=>V 18=iV (i:Nat)/\∃vO mO gO done t2,V 11=vO/\RA S P gP H r t m g mi H2 t2/\Gr lH 101 H2 vO done mO gO/\(∀d∈mO,H.next<=d/\d < H2.next)/\(∀d∈gO,(d∈gv∨H.next<=d)/\d < H2.next)/\done.length=i/\EH P rec l c fs [] t=EH P rec l c (fs.drop i) done t2)
  ⟨by simp only [go_sem] <;> rfl,.slice none 0 0,[],[],[],t,by simp only [go_sem] <;> rfl,RA.start h,Gr.nil _ _ _,by simp,by simp,rfl,rfl⟩ ?_ ?_ (by rfl)
 ·rintro i V H2 hi ⟨ei,vO,mO,gO,done,t2,rn,r2,cB,dy,i4,df,bj⟩
  have hx:fs[i]?=some (fs[i]'hi):=List.getElem?_eq_getElem hi
  have uU:(fs[i]'hi)∈fs:=List.getElem_mem hi
  have cE:fs.drop i=(fs[i]'hi)::fs.drop (i+1):=(List.getElem_cons_drop hi).symm
  generalize (fs[i]'hi)=x at hx cE uU
  have hpx:=j6 x uU
  rw [cE,EH] at bj
  have nT:=hv.af (H':=H2) fun d hd=>r2.k (oe d hd).1 (oe d hd).2
  obtain ⟨b,o,c',B,gx,s0,hB,ep,dj,cm,hE⟩:=nT.at hx
  cases s0
  obtain ⟨v5,aX,fC⟩:=hE
  obtain ⟨a5,k5,rfl⟩:=fC.val
  have ez:o+i * 6+6<=B.cells.length:=cm
  have aX:(B.cells.drop (o+i * 6)).take 6=xg x (.slice a5 x.ty.pat.length k5):=aX
  have ct:IntKind.wrap .i64 (((i:Nat):Int)+1)=((i+1:Nat):Int):=cZ hi (by omega)
  have n2:=r2.fr.nx
  have er:H.fz H2.next=false:=hf.fresh n2
  have r3:=r2.push ⟨xg x (.slice a5 x.ty.pat.length k5),101,false,false⟩
  obtain ⟨H3,dN⟩:=r3.hp
  have nu:H3.get H2.next=some ⟨xg x (.slice a5 x.ty.pat.length k5),101,false,false⟩:=by rw [dN,aV,if_pos rfl]
  have k3:∀d,d < H2.next->H3.get d=H2.get d:=fun d hd=>by rw [dN,bX hd]
  have Gh:H3.next=H2.next+1:=by rw [dN];rfl
  simp only [go_sem,ei,hi,hB,ez,aX,er]
  rw [<-dN] at r3 ⊢
  clear dN
  refine ag.by (YR r3.rq CC qe (ty:=x.ty) (fC.af fun d hd=>k3 d (by have:=(oe d (dj d hd)).1;omega)) (fun d hd=>⟨by have:=(oe d (dj d hd)).1;omega,(oe d (dj d hd)).2⟩) hpx) ?_
  rintro w H4 - ⟨v4,g4,rfl,oa,Md,p4⟩
  obtain ⟨a4,k4,rfl⟩:=oa.val
  have r4:=r3.call p4
  have n4:=p4.fr.nx
  have qk:¬H2.next=r:=by omega
  have AM:=(p4.fr.get H2.next (by omega) (by simp [qk])).trans nu
  generalize hA:wT P x.ty l c t2=A at *
  have r5:=r4.own (M:=[H2.next]) ((Fr.refl _ _).ah (b:=H2.next) (.inl (by simp)) ⟨xg ⟨x.name,A.1⟩ (.slice a4 A.1.pat.length k4),101,false,false⟩) (by simp;omega) fun _ _=>rfl
  obtain ⟨H5,jK⟩:=r5.hp
  have dO:H5.get H2.next=some ⟨xg ⟨x.name,A.1⟩ (.slice a4 A.1.pat.length k4),101,false,false⟩:=by rw [jK,az,if_pos rfl]
  have k5':∀d,d≠H2.next->H5.get d=H4.get d:=fun d hd=>by rw [jK,az,if_neg hd]
  have nx5:H5.next=H4.next:=by rw [jK];rfl
  have Ef:∀d∈gO++g4,(d∈gv∨H.next<=d)/\d < H5.next:=fun d hd=>(List.mem_append.1 hd).elim (fun e=>⟨(i4 d e).1,by have:=(i4 d e).2;omega⟩) fun e=>(Md d e).elim (fun e=>⟨.inl (dj d e),by have:=(oe d (dj d e)).1;omega⟩) fun e=>⟨.inr (by omega),by omega⟩
  have CA:∀{n:Nat},H5.next<=n->H.fz n=false:=fun hn=>hf.fresh (by omega)
  -- FV field aqd
  have app:∀{H6:ad} {eO:VT} {K:Value->ad->Prop} {tg:Tag K},RA S P gP H r t m g mi H6 eO->H6.get H2.next=some ⟨xg ⟨x.name,A.1⟩ (.slice a4 A.1.pat.length k4),101,false,false⟩->(∀d,d < H5.next/\d≠r->H6.get d=H5.get d)->H5.next<=H6.next->
    (∀v8 H8 qm,(∀d∈qm,H.next<=d/\d < H8.next)->Gr lH 101 H8 v8 (done++[⟨x.name,A.1⟩]) qm (gO++g4)->RA S P gP H r t m g mi H8 eO->H5.next<=H8.next->K v8 H8)->
    ew Tryz.prog H.fz (H6.push ⟨xg ⟨x.name,A.1⟩ (.slice a4 A.1.pat.length k4),101,false,false⟩) (iS Tryz.prog 33 vO (.slice (some ⟨H6.next,0,none⟩) 1 1) (H6.push ⟨xg ⟨x.name,A.1⟩ (.slice a4 A.1.pat.length k4),101,false,false⟩)) K tg:=by
   intro H6 eO K tg r6 dL k6 PY hk
   have lo:∀d,d < H5.next->d≠r->(H6.push ⟨xg ⟨x.name,A.1⟩ (.slice a4 A.1.pat.length k4),101,false,false⟩).get d=H5.get d:=fun d h1 h2=>by rw [bX (by omega),k6 d ⟨h1,h2⟩]
   have lo2:∀d,d < H2.next->d≠r->(H6.push ⟨xg ⟨x.name,A.1⟩ (.slice a4 A.1.pat.length k4),101,false,false⟩).get d=H2.get d:=fun d h1 h2=>by rw [lo d (by omega) h2,k5' d (by omega),p4.fr.get d (by omega) (by simp [h2]),k3 d h1]
   have Wm:∀d,(d∈gv∨H.next<=d)->d≠r:=fun d hd=>hd.elim (fun e=>(oe d e).2) fun e=>by omega
   refine jZ (r:=lH) (x:=⟨x.name,A.1⟩) (g':=g4) Bo (cB.af (fun d hd=>lo2 d (dy d hd).2 (by have:=(dy d hd).1;omega)) fun d hd=>lo2 d (i4 d hd).2 (Wm d (i4 d hd).1)) (fun d hd=>by have:=(dy d hd).2;rw [bJ];omega) (fun d hd=>by have:=(i4 d hd).2;rw [bJ];omega) (fun d hd=>?_) (fun d hd=>hf.fresh (dy d hd).1) (by rw [aV,if_pos rfl]) ⟨_,rfl,oa.af fun d hd=>?_⟩ rfl (by omega) ?_
   ·rw [bJ]
    refine ⟨by rcases Md d hd with e | e;have:=(oe d (dj d e)).1;omega;omega,fun e=>?_⟩
    have h1:=dy d e
    rcases Md d hd with e' | e'
    ·have:=(oe d (dj d e')).1;omega
    ·omega
   ·have h1:d≠H2.next/\d < H4.next/\d≠r:=by
     rcases Md d hd with e | e
     ·have:=oe d (dj d e);exact ⟨by omega,by omega,this.2⟩
     ·exact ⟨by omega,e.2,by omega⟩
    rw [lo d (by omega) h1.2.2,k5' d h1.1]
   ·intro v8 H8 ll O5 IA BK BM
    have n6:(H6.push ⟨xg ⟨x.name,A.1⟩ (.slice a4 A.1.pat.length k4),101,false,false⟩).next=H6.next+1:=rfl
    refine hk v8 H8 _ (fun d hd=>?_) ll ((r6.push _).own BK (fun d hd=>(dy d hd).1) fun d hd=>?_) (by omega)
    ·rw [List.mem_singleton] at hd
     subst hd
     exact ⟨by omega,by omega⟩
    ·rw [BM,show (d==(H6.push ⟨xg ⟨x.name,A.1⟩ (.slice a4 A.1.pat.length k4),101,false,false⟩).next)=false from by rw [beq_eq_false_iff_ne];omega,Bool.false_or]
  simp only [go_sem,AM,er]
  rw [<-jK] at r5 ⊢
  clear jK
  cases rec with
  | false=>
   rw [if_neg (by simp [KA])] at bj
   simp only [go_sem,dO,CA,rn,eB Bo (by decide) (by decide)]
   refine app r5 dO (fun d _=>rfl) (Nat.le_refl _) ?_
   intro v8 H8 qm FD ll r8 JB
   simp only [go_sem,ei,ct]
   exact ⟨v8,qm,_,_,_,rfl,r8,ll,FD,fun d hd=>⟨(Ef d hd).1,by have:=(Ef d hd).2;omega⟩,by rw [List.length_append,List.length_singleton,df],bj⟩
  | true=>
   by_cases zB:A.1.kind=3
   ·rw [if_pos (by simp [KA,zB])] at bj
    simp only [go_sem,dO,er,zB]
    refine ag.by (jb r5.rq) ?_
    rintro _ H6 - p6
    simp only [go_sem,rn,(p6.fr.get H2.next (by omega) (by simp [qk])).trans dO,CA p6.fr.nx,eB Bo (by decide) (by decide)]
    refine app (r5.call p6) ((p6.fr.get H2.next (by omega) (by simp [qk])).trans dO) (fun d hd=>p6.fr.get d hd.1 (by simp [hd.2])) p6.fr.nx ?_
    intro v8 H8 qm FD ll r8 JB
    simp only [go_sem,ei,ct]
    exact ⟨v8,qm,_,_,_,rfl,r8,ll,FD,fun d hd=>⟨(Ef d hd).1,by have:=(Ef d hd).2;omega⟩,by rw [List.length_append,List.length_singleton,df],bj⟩
   ·by_cases ir:A.1.kind=4
    ·rw [if_pos (by simp [KA,ir])] at bj
     simp only [go_sem,dO,er,zB,ir]
     refine ag.by (jb r5.rq) ?_
     rintro _ H6 - p6
     simp only [go_sem,rn,(p6.fr.get H2.next (by omega) (by simp [qk])).trans dO,CA p6.fr.nx,eB Bo (by decide) (by decide)]
     refine app (r5.call p6) ((p6.fr.get H2.next (by omega) (by simp [qk])).trans dO) (fun d hd=>p6.fr.get d hd.1 (by simp [hd.2])) p6.fr.nx ?_
     intro v8 H8 qm FD ll r8 JB
     simp only [go_sem,ei,ct]
     exact ⟨v8,qm,_,_,_,rfl,r8,ll,FD,fun d hd=>⟨(Ef d hd).1,by have:=(Ef d hd).2;omega⟩,by rw [List.length_append,List.length_singleton,df],bj⟩
    ·rw [if_neg (by simp [KA,zB,ir])] at bj
     simp only [go_sem,dO,er,zB,ir,rn,eB Bo (by decide) (by decide)]
     refine app r5 dO (fun d _=>rfl) (Nat.le_refl _) ?_
     intro v8 H8 qm FD ll r8 JB
     simp only [go_sem,ei,ct]
     exact ⟨v8,qm,_,_,_,rfl,r8,ll,FD,fun d hd=>⟨(Ef d hd).1,by have:=(Ef d hd).2;omega⟩,by rw [List.length_append,List.length_singleton,df],bj⟩
 ·rintro V H2 ⟨ei,vO,mO,gO,done,t2,rn,r2,cB,dy,i4,df,bj⟩
  rw [List.drop_length,EH] at bj
  obtain ⟨aO,Gt⟩:=cB.val
  subst Gt
  have n2:=r2.fr.nx
  have nT:=hv.af (H':=H2) fun d hd=>r2.k (oe d hd).1 (oe d hd).2
  simp only [go_sem,ei]
  refine ag.by (NL nT c6 fun d hd=>by have:=(oe d hd).1;omega) ?_
  rintro vn H3 - ⟨⟨g3,sd,za⟩,o3,z3⟩
  have r3:=r2.aH o3 z3
  have n3:=o3.nx
  obtain ⟨an,kn,yU⟩:=sd.val
  rw [List.length_map] at yU
  subst yU
  have hsO:=cB.sl.af (H':=H3) fun d hd=>o3.get d ((List.mem_append.1 hd).elim (fun e=>(dy d e).2) fun e=>(i4 d e).2)
  have O6:∀d∈mO++gO,(d∈gv∨H.next<=d)/\d < H3.next:=fun d hd=>(List.mem_append.1 hd).elim (fun e=>⟨.inr (dy d e).1,by have:=(dy d e).2;omega⟩) fun e=>⟨(i4 d e).1,by have:=(i4 d e).2;omega⟩
  have Wm:∀d,(d∈gv∨H.next<=d)->d≠r:=fun d hd=>hd.elim (fun e=>(oe d e).2) fun e=>by omega
  simp only [go_sem]
  refine iw 4722330454072626282496 fs.length (fun i V2 H4=>V2 55=iV (i:Nat)/\∃t4,RA S P gP H r t m g mi H4 t4/\Fr [r] H3 H4/\Ib l c [] (fs.map (·.name)) t2=Ib l c ((fs.map (·.name)).take i) ((fs.map (·.name)).drop i) t4) ⟨by simp only [go_sem] <;> rfl,t2,r3,Fr.refl _ _,by simp⟩ ?_ ?_ (by rfl)
  ·rintro i V2 H4 hi ⟨GP,t4,r4,f4,uJ⟩
   have de:i < (fs.map (·.name)).length:=by rw [List.length_map];exact hi
   have hx:(fs.map (·.name))[i]?=some ((fs.map (·.name))[i]'de):=List.getElem?_eq_getElem de
   have cE:(fs.map (·.name)).drop i=((fs.map (·.name))[i]'de)::(fs.map (·.name)).drop (i+1):=(List.getElem_cons_drop de).symm
   have iF:(fs.map (·.name)).take (i+1)=(fs.map (·.name)).take i++[(fs.map (·.name))[i]'de]:=List.take_succ_eq_append_getElem de
   generalize ((fs.map (·.name))[i]'de)=x at hx cE iF
   rw [cE,Ib,<-iF] at uJ
   have oa:=sd.af (H':=H4) fun d hd=>f4.get d (za d hd).2 (by have:=(za d hd).1;simp;omega)
   obtain ⟨vt,gt,dI,yl,Wn⟩:=oa.to (t:=50) (e:=9) (k:=i) On (by omega)
   obtain ⟨b,o,c',B,s0,hB,ep,iC⟩:=oa.Kv hx
   have ct:IntKind.wrap .i64 (((i:Nat):Int)+1)=((i+1:Nat):Int):=cZ hi (by omega)
   simp only [Value.slice.injEq] at s0
   have han:=s0.1
   rw [han] at dI
   have n4:=f4.nx
   simp only [go_sem,GP,hi,han,Option.map_none,Option.map_some,dI,hB,iC]
   refine ag.by (qy yl (by rw [List.length_take,List.length_map];omega)) ?_
   rintro _ _ - ⟨rfl,rfl⟩
   by_cases h0:0<=cK ((fs.map (·.name)).take i) x
   ·rw [if_pos h0] at uJ
    simp only [go_sem,h0]
    refine ag.by (jb r4.rq) ?_
    rintro _ H6 - p6
    simp only [go_sem,GP,ct]
    exact ⟨_,r4.call p6,f4.then p6.fr,uJ⟩
   ·rw [if_neg h0] at uJ
    simp only [go_sem,h0,GP,ct]
    exact ⟨_,r4,f4,uJ⟩
  ·rintro V2 H4 ⟨GP,t4,r4,f4,uJ⟩
   have e1:(fs.map (·.name)).length=fs.length:=List.length_map _
   rw [<-e1,List.drop_length,Ib] at uJ
   have n4:=f4.nx
   simp only [go_sem,GP,rn]
   refine ⟨⟨mO++gO,?_,fun d hd=>(O6 d hd).1.imp id fun e=>⟨e,by show d < H4.next;have:=(O6 d hd).2;omega⟩⟩,?_⟩
   ·rw [zN,bj]
    exact hsO.af fun d hd=>f4.get d (O6 d hd).2 (by simp;exact Wm d (O6 d hd).1)
   ·rw [zN,bj]
    simp only
    rw [uJ]
    exact r4.last
end
section
variable {S:XS} {P:bw} {gP:List Nat} {H H1 H2:ad} {r:Nat} {t t1 t2:VT} {m g g1 g2 mi dE dJ:List Nat}
theorem RA.fE (h:RA S P gP H r t m g mi H1 t1) (fz:Nat->Bool) (hz:∀c,fz c=H.fz c):RA S P gP H r t m g mi (H1.ai fz) t1:=by
 rw [show fz=H.fz from funext hz];exact h.told
theorem RA.trans (h:RA S P gP H r t m g mi H1 t1) (h2:RA S P gP H1 r t1 m g mi H2 t2):RA S P gP H r t m g mi H2 t2:=⟨h.fr.then h2.fr,h2.rq,h2.ns.trans h.ns,h2.aK.trans h.aK,h.b0⟩
theorem RA.app {α:Type} {rp:Rp α} {tt e:TypeId} {el:Nat} {X:Nat->Bool} (ha:iM Tryz.prog tt=some (e,rp.sz,el)) (I3:el < 1000) (h:RA S P gP H r t m g mi H1 t1) {vO:Value} {done:List α} {mO gO gx:List Nat} {x:α} {cs:List Value} (cB:Gr rp e H1 vO done mO gO) (dy:∀d∈mO,H.next<=d/\d < H1.next/\X d=false) (i4:∀d∈gO,d < H1.next) (hE:rp.E H1 cs x gx) (dj:∀d∈gx,d < H1.next/\d∉mO) (h1:kh cs=true) (df:done.length < 1000000) {K:Value->ad->Prop} {tg:Tag K}
  (hk:∀v8 H8 qm,Gr rp e H8 v8 (done++[x]) qm (gO++gx)->(∀d∈qm,H1.next<=d/\d < H8.next)->RA S P gP H r t m g mi H8 t1->H1.next<=H8.next->(∀d,d < H1.next->d∉mO->H8.get d=H1.get d)->K v8 H8):
  ew Tryz.prog X (H1.push ⟨cs,e,false,false⟩) (iS Tryz.prog tt vO (.slice (some ⟨H1.next,0,none⟩) 1 1) (H1.push ⟨cs,e,false,false⟩)) K tg:=by
 have n1:(H1.push ⟨cs,e,false,false⟩).next=H1.next+1:=rfl
 have lo:∀d,d < H1.next->(H1.push ⟨cs,e,false,false⟩).get d=H1.get d:=fun d hd=>bX hd
 refine jZ (r:=rp) (x:=x) (g':=gx) ha (cB.af (fun d hd=>lo d (dy d hd).2.1) fun d hd=>lo d (i4 d hd)) (fun d hd=>by have:=(dy d hd).2.1;omega) (fun d hd=>by have:=i4 d hd;omega) (fun d hd=>⟨by have:=(dj d hd).1;omega,(dj d hd).2⟩) (fun d hd=>(dy d hd).2.2) (by rw [aV,if_pos rfl]) (rp.af hE fun d hd=>lo d (dj d hd).1) h1 ?_ ?_
 ·have:(done.length+1) * el<=1000001 * 1000:=Nat.mul_le_mul (by omega) (by omega)
  omega
 ·intro v8 H8 ll O5 IA BK BM
  refine hk v8 H8 _ ll (fun d hd=>?_) ((h.push _).own BK (fun d hd=>(dy d hd).1) fun d hd=>?_) (by omega) fun d hd hn=>(IA d (by omega) hn).trans (lo d hd)
  ·rw [List.mem_singleton] at hd
   omega
  ·rw [BM,show (d==(H1.push ⟨cs,e,false,false⟩).next)=false from by rw [beq_eq_false_iff_ne];omega,Bool.false_or]
structure zD (P:bw):Prop where
 m:P.msgs.length < 1000000
 r:P.bZ.length < 1000000
 d:P.defs.length < 1000000
 mt:∀x∈P.msgs,x.types.length < 1000000/\∀y∈x.types,y.pat.length < 1000000
 rf:∀x∈P.bZ,x.fields.length < 1000000/\∀y∈x.fields,y.ty.pat.length < 1000000
 dp:∀x∈P.defs,x.params.length < 1000000/\∀y∈x.params,y.ty.pat.length < 1000000
abbrev sI (P:bw):List bf:=P.defs.map (·.name)
def mG (b:Prop) [Decidable b] (e l c:Int) (st:VT):VT:=if b then st.fail e l c else st
def EP (P:bw) (l c:Int):List Ty->List Ty->VT->List Ty × VT
 | [],done,st=>(done,st)
 | y::ts,done,st=>EP P l c ts (done++[(wT P y l c st).1]) (mG (y.kind=2/\y.cap=3) 2 l c (wT P y l c st).2)
def IB (P:bw):Nat->List BC->List BC->VT->List BC × VT
 | _,[],done,st=>(done,st)
 | i,x::l,done,st=>IB P (i+1) l (done++[{x with types:=(EP P x.line x.aj x.types [] (mG (0<=cK ((jn P).take i) x.name) 5 x.line x.aj st)).1}]) (EP P x.line x.aj x.types [] (mG (0<=cK ((jn P).take i) x.name) 5 x.line x.aj st)).2
def IC (P:bw):Nat->List BE->List BE->VT->List BE × VT
 | _,[],done,st=>(done,st)
 | i,x::l,done,st=>IC P (i+1) l (done++[{x with fields:=(zN P true x.line x.aj x.fields (mG (0<=cK ((j0 P).take i) x.name) 5 x.line x.aj st)).1}]) (zN P true x.line x.aj x.fields (mG (0<=cK ((j0 P).take i) x.name) 5 x.line x.aj st)).2
def ID (P:bw):Nat->List eo->List eo->VT->List eo × VT
 | _,[],done,st=>(done,st)
 | i,x::l,done,st=>ID P (i+1) l (done++[{x with params:=(zN P false x.line x.aj x.params (mG (0<=cK ((sI P).take i) x.name) 5 x.line x.aj st)).1}]) (zN P false x.line x.aj x.params (mG (0<=cK ((sI P).take i) x.name) 5 x.line x.aj st)).2
def oQ (P:bw) (st:VT):List BC × List BE × List eo × VT:=
 let a:=IB P 0 P.msgs [] st
 let b:=IC P 0 P.bZ [] a.2
 let c:=ID P 0 P.defs [] b.2
 (a.1,b.1,c.1,c.2)
theorem aeF (h:RQ S P gP H r t m g mi) (hP:zD P):ak Tryz.prog 81 #[pV r] H (fun w H'=>Fr [r] H H'/\(∀c,H'.fz c=H.fz c)/\(oQ P t).2.2.2.ns=t.ns/\(oQ P t).2.2.2.aK=t.aK/\∃S' sf mD gD,RQ0 S' {P with msgs:=(oQ P t).1,bZ:=(oQ P t).2.1,defs:=(oQ P t).2.2.1} sf H' r (oQ P t).2.2.2 m g mi/\(∀d∈sf,d∈gP∨H.next<=d)/\Gr jq 38 H' S'.vD (oQ P t).2.2.1 mD gD/\(∀d∈mD,H.next<=d)/\(∀d∈mD++gD,d∈sf)/\∃gx,po pI H' S'.vM (oQ P t).1 gx/\po qC H' S'.vR (oQ P t).2.1 gx/\∀d∈gx,d∈sf/\d∉mD):=by
 refine ak.told ?_
 refine qz (l:=[_]) _ mixed Tryz.func81 aja [] (show 1<=184 by decide) rfl fun hf=>?_
 simp only [Tryz.f81,Option.getD_some]
 obtain ⟨vN,vI,hr,hN,hI⟩:=h.row
 obtain ⟨gm,hM,oM⟩:=h.sM
 obtain ⟨gr,hR,cB⟩:=h.sR
 obtain ⟨gd,hD,fP⟩:=h.sD
 obtain ⟨aM,kM,hvM⟩:=hM.val
 obtain ⟨aR,kR,hvR⟩:=hR.val
 obtain ⟨aD,kD,MO⟩:=hD.val
 have oN:=h.hP
 have r0:=(RA.start h).told
 simp only [go_sem,hr]
 refine ag.by (Oa (hM.af fun _ _=>rfl) hP.m (fun d hd=>(oN d (oM d hd)).1)) ?_
 rintro vm H1 - ⟨⟨g1,dw,BZ⟩,o1,z1⟩
 have r1:=r0.aH o1 z1
 have gI:=(o1.get r h.rl).trans hr
 have n1:H.next<=H1.next:=o1.nx
 simp only [go_sem,hr,gI]
 refine ag.by (Ia (hR.af fun d hd=>r1.k (oN d (cB d hd)).1 (oN d (cB d hd)).2) hP.r (fun d hd=>by have:=(oN d (cB d hd)).1;omega)) ?_
 rintro vr H2 - ⟨⟨g2,jT,iL⟩,o2,z2⟩
 have r2:=r1.aH o2 z2
 have n2:=o2.nx
 have dQ:=(o2.get r (by have:=h.rl;omega)).trans gI
 simp only [go_sem,hr,gI,dQ]
 refine ag.by (R5 (hD.af fun d hd=>r2.k (oN d (fP d hd)).1 (oN d (fP d hd)).2) hP.d (fun d hd=>by have:=(oN d (fP d hd)).1;omega)) ?_
 rintro vd H3 - ⟨⟨g3,sd,za⟩,o3,z3⟩
 have r3:=(r2.aH o3 z3).told
 have n3:=o3.nx
 have fK:=(o3.get r (by have:=h.rl;omega)).trans dQ
 simp only [go_sem,gI,dQ,fK,hvM]
 obtain ⟨H4,dB⟩:=r3.hp
 have s1:Sl .str H4 vm (jn P) g1:=dw.af fun d hd=>by rw [dB,bg,o3.get d (by have:=(BZ d hd).2;omega),o2.get d (BZ d hd).2]
 have s2:Sl .str H4 vr (j0 P) g2:=jT.af fun d hd=>by rw [dB,bg,o3.get d (iL d hd).2]
 have s3:Sl .str H4 vd (sI P) g3:=sd.af fun d hd=>by rw [dB,bg]
 have w1:∀d∈g1,d < H4.next/\d≠r:=fun d hd=>by rw [dB];show d < H3.next/\_;have:H.next<=d/\d < H1.next:=BZ d hd;have:=h.rl;exact ⟨by omega,by omega⟩
 have w2:∀d∈g2,d < H4.next/\d≠r:=fun d hd=>by rw [dB];show d < H3.next/\_;have:H1.next<=d/\d < H2.next:=iL d hd;have:=h.rl;exact ⟨by omega,by omega⟩
 have w3:∀d∈g3,d < H4.next/\d≠r:=fun d hd=>by rw [dB];show d < H3.next/\_;have:H2.next<=d/\d < H3.next:=za d hd;have:=h.rl;exact ⟨by omega,by omega⟩
 have hM4:=hM.af (H':=H4) fun d hd=>by rw [dB];exact r3.k (oN d (oM d hd)).1 (oN d (oM d hd)).2
 have hR4:=hR.af (H':=H4) fun d hd=>by rw [dB];exact r3.k (oN d (cB d hd)).1 (oN d (cB d hd)).2
 have hD4:=hD.af (H':=H4) fun d hd=>by rw [dB];exact r3.k (oN d (fP d hd)).1 (oN d (fP d hd)).2
 have n4:H.next<=H4.next:=by rw [dB];show H.next<=H3.next;omega
 have tj:H4.get r=some ⟨rC S vN vI t,136,false,false⟩:=by rw [dB];exact fK
 have wM:∀d∈gm,d < H4.next/\d≠r:=fun d hd=>⟨by have:=(oN d (oM d hd)).1;omega,(oN d (oM d hd)).2⟩
 have wR:∀d∈gr,d < H4.next/\d≠r:=fun d hd=>⟨by have:=(oN d (cB d hd)).1;omega,(oN d (cB d hd)).2⟩
 have wD:∀d∈gd,d < H4.next/\d≠r:=fun d hd=>⟨by have:=(oN d (fP d hd)).1;omega,(oN d (fP d hd)).2⟩
 have gS:∀c,H.fz c=H4.fz c:=fun c=>by rw [dB];rfl
 rw [<-dB] at r3 ⊢
 clear dB
 rw [hvM] at hM4
 have rb:RA S P gP H4 r t m g mi H4 t:=RA.start r3.rq
 have zE:∀{n:Nat},H4.next<=n->H.fz n=false:=fun hn=>hf.fresh (by omega)
 obtain ⟨am,km,hvm⟩:=s1.val
 rw [List.length_map] at hvm
 refine qH 316912650057057350236736849856 P.msgs.length (fun i V H5=>V 37=iV (i:Nat)/\∃vO mO gO done t2,V 6=vO/\RA S P gP H4 r t m g mi H5 t2/\Gr pI 107 H5 vO done mO gO/\(∀d∈mO,H4.next<=d/\d < H5.next)/\(∀d∈gO,(d∈gm∨H4.next<=d)/\d < H5.next/\d∉mO)/\done.length=i/\IB P 0 P.msgs [] t=IB P i (P.msgs.drop i) done t2)
  ⟨by simp only [go_sem] <;> rfl,.slice none 0 0,[],[],[],t,by simp only [go_sem] <;> rfl,rb,Gr.nil _ _ _,by simp,by simp,rfl,rfl⟩ ?_ ?_ (by rfl)
 ·rintro i V H5 hi ⟨ei,vO,mO,gO,done,t2,e6,r5,lO,dy,i4,df,bj⟩
  have hx:P.msgs[i]?=some (P.msgs[i]'hi):=List.getElem?_eq_getElem hi
  have uU:(P.msgs[i]'hi)∈P.msgs:=List.getElem_mem hi
  have cE:P.msgs.drop i=(P.msgs[i]'hi)::P.msgs.drop (i+1):=(List.getElem_cons_drop hi).symm
  generalize (P.msgs[i]'hi)=x at hx cE uU
  obtain ⟨Qm,MP⟩:=hP.mt x uU
  rw [cE,IB] at bj
  have ct:IntKind.wrap .i64 (((i:Nat):Int)+1)=((i+1:Nat):Int):=cZ hi (by have:=hP.m;omega)
  have n5:=r5.fr.nx
  have jh:H.fz H5.next=false:=zE n5
  obtain ⟨b,o,c',B,gx,s0,hB,ep,dj,cm,hE⟩:=(hM4.af (H':=H5) fun d hd=>r5.k (wM d hd).1 (wM d hd).2).at hx
  simp only [Value.slice.injEq] at s0
  have MQ:=s0.1
  obtain ⟨v5,aX,fC⟩:=hE
  obtain ⟨a5,k5,rfl⟩:=fC.val
  have ez:o+i * 4+4<=B.cells.length:=cm
  have aX:(B.cells.drop (o+i * 4)).take 4=[ae x.name,.slice a5 x.types.length k5,iV x.line,iV x.aj]:=aX
  refine l8 (qA 274877906944 (fun _ H1=>H1=H5.ai H.fz) (by simp only [go_sem,ei,hi]) ?_ (by rfl))
  rintro V1 Hx Eg
  have r5:=r5.fE H.fz gS
  have lO:Gr pI 107 (H5.ai H.fz) vO done mO gO:=lO.af (fun _ _=>rfl) fun _ _=>rfl
  have hB:(H5.ai H.fz).get b=some B:=hB
  have fC:Sl xr (H5.ai H.fz) (.slice a5 x.types.length k5) x.types gx:=fC.af fun _ _=>rfl
  obtain ⟨MR,yH⟩:=r5.hp
  have dU:H5.next=MR.next:=by rw [yH];rfl
  rw [dU] at n5 jh dy i4
  rw [<-yH] at r5 lO hB fC Eg
  subst Eg
  clear yH dU
  rw [SG,RG]
  refine l8 (qA 36028247263150464 (fun V2 H6=>V2 7=iV (i:Nat)/\V2 8=pV Hx.next/\RA S P gP H4 r t m g mi H6 (mG (0<=cK ((jn P).take i) x.name) 5 x.line x.aj t2)/\H6.get Hx.next=some ⟨[ae x.name,.slice a5 x.types.length k5,iV x.line,iV x.aj],107,false,false⟩/\Hx.next < H6.next/\∀d,d < Hx.next->d≠r->H6.get d=Hx.get d) ?_ ?_ (by rfl))
  ·have r6:=(r5.push ⟨[ae x.name,.slice a5 x.types.length k5,iV x.line,iV x.aj],107,false,false⟩).fE H.fz gS
   obtain ⟨H6,eT⟩:=r6.hp
   have dL:H6.get Hx.next=some ⟨[ae x.name,.slice a5 x.types.length k5,iV x.line,iV x.aj],107,false,false⟩:=by rw [eT,bg,aV,if_pos rfl]
   have GI:H6.next=Hx.next+1:=by rw [eT];rfl
   have k6:∀d,d < Hx.next->H6.get d=Hx.get d:=fun d hd=>by rw [eT,bg,bX hd]
   have s6:=s1.af (H':=H6) fun d hd=>by rw [k6 d (by have:=(w1 d hd).1;omega),r5.k (w1 d hd).1 (w1 d hd).2]
   obtain ⟨vt,gt,dI,yl,Wn⟩:=s6.to (t:=50) (e:=9) (k:=i) On (by rw [List.length_map];omega)
   have qk:¬Hx.next=r:=by have:=r5.rq.rl;omega
   simp only [go_sem,ei,hi,MQ,hB,ez,aX,jh,Option.map_none,Option.map_some,dI]
   rw [<-eT] at r6 ⊢
   clear eT
   refine ag.by (qy yl (by rw [List.length_take,List.length_map];have:=hP.m;omega)) ?_
   rintro _ _ - ⟨rfl,rfl⟩
   by_cases rZ:0<=cK ((jn P).take i) x.name
   ·rw [mG,if_pos rZ]
    simp only [go_sem,rZ,dL]
    refine ag.by (jb (r6.fE H.fz gS).rq) ?_
    rintro _ H7 - p7
    simp only [go_sem]
    refine ⟨((r6.fE H.fz gS).call p7).fE H.fz gS,(p7.fr.get Hx.next (by show Hx.next < H6.next;omega) (by simp [qk])).trans dL,by have:H6.next<=H7.next:=p7.fr.nx;omega,fun d hd hn=>(p7.fr.get d (by show d < H6.next;omega) (by simp [hn])).trans (k6 d hd)⟩
   ·rw [mG,if_neg rZ]
    simp only [go_sem,rZ]
    exact ⟨r6.fE H.fz gS,dL,by omega,fun d hd _=>k6 d hd⟩
  ·rintro V2 H6 ⟨e7,e8,r6,dL,n6,k6⟩
   generalize mG (0<=cK ((jn P).take i) x.name) 5 x.line x.aj t2=cC at *
   have jS:∀d∈gx,d < H4.next/\d≠r:=fun d hd=>wM d (dj d hd)
   simp only [go_sem,e7,e8,dL]
   refine xW (r:=xr) RY (fC.af (H':=H6) fun d hd=>k6 d (by have:=(jS d hd).1;omega) (jS d hd).2) (by
    have:x.types.length * 1000<=1000000 * 1000:=Nat.mul_le_mul (by omega) (Nat.le_refl _)
    omega) (fun d hd=>by have:=(jS d hd).1;omega) ?_
   intro vT H7 mT gT FE xL iR
   obtain ⟨r7,mw,k7,n7⟩:RA S P gP H4 r t m g mi H7 cC/\(∀d∈mT,H6.next<=d/\d < H7.next)/\(∀d,d < H6.next->H7.get d=H6.get d)/\H6.next<=H7.next:=by
    rcases iR with ⟨rfl,rfl⟩ | ⟨rfl,cs,rfl⟩
    ·exact ⟨r6,by simp,fun _ _=>rfl,Nat.le_refl _⟩
    ·exact ⟨r6.push _,fun d hd=>by rw [List.mem_singleton] at hd;subst hd;exact ⟨Nat.le_refl _,Nat.lt_succ_self _⟩,fun d hd=>bX hd,Nat.le_succ _⟩
   obtain ⟨aT,JC⟩:=FE.val
   subst JC
   have nxl:=r5.rq.rl
   have GL:H4.next<=Hx.next:=r5.fr.nx
   have en:=(k7 Hx.next n6).trans dL
   have MS:H.fz Hx.next=false:=zE GL
   have r8:=(r7.own (M:=[Hx.next]) ((Fr.refl _ _).ah (b:=Hx.next) (.inl (by simp)) ⟨[ae x.name,.slice aT x.types.length x.types.length,iV x.line,iV x.aj],107,false,false⟩) (by simp;omega) fun _ _=>rfl).fE H.fz gS
   obtain ⟨H8,fL⟩:=r8.hp
   have ru:H8.get Hx.next=some ⟨[ae x.name,.slice aT x.types.length x.types.length,iV x.line,iV x.aj],107,false,false⟩:=by rw [fL,bg,az,if_pos rfl]
   have k8:∀d,d≠Hx.next->H8.get d=H7.get d:=fun d hd=>by rw [fL,bg,az,if_neg hd]
   have Ec:H8.next=H7.next:=by rw [fL];rfl
   simp only [go_sem,e8,en,MS]
   rw [<-fL] at r8 ⊢
   clear fL
   have aj1:=FE.af (H':=H8) (fun d hd=>k8 d (by have:=(mw d hd).1;omega)) (fun d hd=>k8 d (by have:=(jS d (xL d hd)).1;omega))
   have Ap:∀d,(d∈gm∨H4.next<=d)->d≠r:=fun d hd=>hd.elim (fun e=>(wM d e).2) fun e=>by have:=rb.rq.rl;omega
   have TH:∀d,(d∈gm∨Hx.next<=d)->d≠r:=fun d hd=>Ap d (hd.imp id fun e=>by omega)
   refine qH 9903520309671356180765607424 x.types.length (fun k V3 H9=>V3 62=iV (k:Nat)/\∃CF yg MT,RA S P gP H4 r t m g mi H9 MT/\Gr xr 99 H9 (.slice aT x.types.length x.types.length) (yg++x.types.drop k) mT CF/\(∀d∈CF,(d∈gm∨Hx.next<=d)/\d < H9.next/\d∉mT)/\yg.length=k/\EP P x.line x.aj x.types [] cC=EP P x.line x.aj (x.types.drop k) yg MT/\H9.get Hx.next=some ⟨[ae x.name,.slice aT x.types.length x.types.length,iV x.line,iV x.aj],107,false,false⟩/\H8.next<=H9.next/\∀d,d < Hx.next->d≠r->H9.get d=Hx.get d)
    ⟨by simp only [go_sem] <;> rfl,gT,[],cC,r8,aj1,fun d hd=>⟨.inl (dj d (xL d hd)),by have:=(jS d (xL d hd)).1;omega,fun e=>by have:=(jS d (xL d hd)).1;have:=(mw d e).1;omega⟩,rfl,rfl,ru,Nat.le_refl _,fun d h1 h2=>by rw [k8 d (by omega),k7 d (by omega),k6 d h1 h2]⟩ ?_ ?_ (by rfl)
   ·rintro k V3 H9 hk ⟨ek,CF,yg,MT,r9,kJ,qn,lW,CG,xN,n9,k9⟩
    have hy:x.types[k]?=some (x.types[k]'hk):=List.getElem?_eq_getElem hk
    have hym:(x.types[k]'hk)∈x.types:=List.getElem_mem hk
    have ur:x.types.drop k=(x.types[k]'hk)::x.types.drop (k+1):=(List.getElem_cons_drop hk).symm
    generalize (x.types[k]'hk)=y at hy ur hym
    have hyp:=MP y hym
    rw [ur] at kJ CG
    rw [EP] at CG
    have de:k < (yg++y::x.types.drop (k+1)).length:=by rw [List.length_append,List.length_cons];omega
    have pZ:(yg++y::x.types.drop (k+1))[k]'de=y:=by subst lW;simp
    have fh:∀y':Ty,(yg++y::x.types.drop (k+1)).set k y'=(yg++[y'])++x.types.drop (k+1):=fun y'=>by subst lW;simp
    have GQ:IntKind.wrap .i64 (((k:Nat):Int)+1)=((k+1:Nat):Int):=cZ hk (by omega)
    obtain ⟨bT,JD,f1,f2,f3,JC,aba,MU,awL,lZ,O7,hET,_⟩:=kJ.put de
    rw [pZ] at hET
    obtain ⟨vy,TI,MV⟩:=hET
    obtain ⟨ay,ky,rfl⟩:=MV.val
    have TI:(JD.drop (k * 5)).take 5=oc y (.slice ay y.pat.length ky):=TI
    have O7:k * 5+5<=JD.length:=O7
    simp only [Value.slice.injEq] at JC
    have CH:=JC.1
    have O8:bT∈mT:=by rw [aba];simp
    have awM:=mw bT O8
    have rY:∀d∈f2,d∈CF:=fun d hd=>by rw [lZ];simp [hd]
    have Wo:H4.next<=H9.next:=r9.fr.nx
    have AK:H.fz H9.next=false:=zE Wo
    refine l8 (qA 9223372036854775808 (fun _ H1=>H1=H9.ai H.fz) (by simp only [go_sem,ek,hk]) ?_ (by rfl))
    rintro V4 Hy hHy
    have r9:=r9.fE H.fz gS
    have kJ:Gr xr 99 (H9.ai H.fz) (.slice aT x.types.length x.types.length) (yg++y::x.types.drop (k+1)) mT CF:=kJ.af (fun _ _=>rfl) fun _ _=>rfl
    have MU:(H9.ai H.fz).get bT=_:=MU
    have MV:Sl fJ (H9.ai H.fz) (.slice ay y.pat.length ky) y.pat f2:=MV.af fun _ _=>rfl
    have xN:(H9.ai H.fz).get Hx.next=_:=xN
    have k9:∀d,d < Hx.next->d≠r->(H9.ai H.fz).get d=Hx.get d:=k9
    have dU:(H9.ai H.fz).next=H9.next:=rfl
    rw [<-dU] at n9 Wo AK qn
    rw [<-hHy] at r9 kJ MU MV xN k9 n9 Wo AK qn
    clear hHy dU
    have cT:=(r9.push ⟨oc y (.slice ay y.pat.length ky),99,false,false⟩).fE H.fz gS
    obtain ⟨dh,oY⟩:=cT.hp
    have O9:dh.get Hy.next=some ⟨oc y (.slice ay y.pat.length ky),99,false,false⟩:=by rw [oY,bg,aV,if_pos rfl]
    have qo:∀d,d < Hy.next->dh.get d=Hy.get d:=fun d hd=>by rw [oY,bg,bX hd]
    have abb:dh.next=Hy.next+1:=by rw [oY];rfl
    simp only [go_sem,ek,hk,CH,MU,O7,TI,AK]
    rw [<-oY] at cT ⊢
    clear oY
    have Lq:=(qo Hx.next (by omega)).trans xN
    simp only [go_sem,e8,Lq,O9]
    refine ag.by (YR cT.rq hP.m hP.r (ty:=y) (l:=x.line) (c:=x.aj) (MV.af fun d hd=>qo d (qn d (rY d hd)).2.1) (fun d hd=>⟨by have:=(qn d (rY d hd)).2.1;omega,TH d (qn d (rY d hd)).1⟩) hyp) ?_
    rintro w dX - ⟨v11,D0,rfl,abc,amm,qZ⟩
    obtain ⟨Qn,Pa,rfl⟩:=abc.val
    have dk:=cT.call qZ
    have n11:=qZ.fr.nx
    have kk:∀d,d < dh.next->d≠r->dX.get d=dh.get d:=fun d h1 h2=>qZ.fr.get d h1 (by simp [h2])
    have qk:Hx.next≠r:=by omega
    have nry:Hy.next≠r:=by omega
    have Dz:=(kk Hx.next (by omega) qk).trans Lq
    have Pb:=(kk Hy.next (by omega) nry).trans O9
    have cY:bT≠r:=by omega
    have Z2:=(kk bT (by omega) cY).trans ((qo bT (by omega)).trans MU)
    generalize hA:wT P y x.line x.aj MT=A at *
    have fx:H.fz bT=false:=zE (by omega)
    have eJ:cW JD (k * 5) (oc A.1 (.slice Qn A.1.pat.length Pa))=cW JD (k * xr.sz) (oc A.1 (.slice Qn A.1.pat.length Pa)):=rfl
    have SD:=kJ.af (H':=dX) (fun d hd=>by
     have:=mw d hd
     rw [kk d (by omega) (by omega),qo d (by omega)]) (fun d hd=>by
     have:=qn d hd
     rw [kk d (by omega) (TH d this.1),qo d this.2.1])
    obtain ⟨GR,awN,f1',f2',f3',awO,SH,TJ,av7,amn,av8,awP,oW⟩:=SD.put de
    have iB:GR=bT:=by rw [aba] at SH;simpa using SH.symm
    subst iB
    rw [Z2] at TJ
    simp only [Option.some.injEq,cw.mk.injEq,true_and,and_true] at TJ
    subst TJ
    have dm:=(dk.own (M:=[GR]) ((Fr.refl _ _).ah (b:=GR) (.inl (by simp)) ⟨cW JD (k * 5) (oc A.1 (.slice Qn A.1.pat.length Pa)),99,true,false⟩) (by simp;omega) fun _ _=>rfl).fE H.fz gS
    obtain ⟨dr,Ai⟩:=dm.hp
    have tn:∀d,d≠GR->dr.get d=dX.get d:=fun d hd=>by rw [Ai,bg,az,if_neg hd]
    have amo:dr.next=dX.next:=by rw [Ai];rfl
    have dW:∀d∈D0,(d∈gm∨Hx.next<=d)/\d < dr.next/\d∉mT:=fun d hd=>(amm d hd).elim (fun e=>⟨(qn d (rY d e)).1,by have:=(qn d (rY d e)).2.1;omega,(qn d (rY d e)).2.2⟩) fun e=>⟨.inr (by omega),by omega,fun e'=>by have:=(mw d e').2;omega⟩
    have Ca:∀d,d∈f1'∨d∈f3'->d∈CF:=fun d hd=>by rw [amn];rcases hd with e | e <;> simp [e]
    have wX:=oW dr (oc A.1 (.slice Qn A.1.pat.length Pa)) A.1 D0 (fun d hd=>tn d fun e=>(qn d (Ca d hd)).2.2 (e▸O8)) (by rw [Ai,bg,az,if_pos rfl];rfl) ⟨_,rfl,abc.af fun d hd=>tn d fun e=>(dW d hd).2.2 (e▸O8)⟩ (fun e=>(dW GR e).2.2 O8)
    rw [fh,<-SH] at wX
    have Pc:=(tn Hx.next (by omega)).trans Dz
    have TL:=(tn Hy.next (by omega)).trans Pb
    have TM:∀d,d < Hx.next->d≠r->dr.get d=Hx.get d:=fun d h1 h2=>by rw [tn d (by omega),kk d (by omega) h2,qo d (by omega),k9 d h1 h2]
    have xh:∀d∈f1'++(D0++f3'),(d∈gm∨Hx.next<=d)/\d < dr.next/\d∉mT:=fun d hd=>by
     have aH:d∈CF->(d∈gm∨Hx.next<=d)/\d < dr.next/\d∉mT:=fun e=>⟨(qn d e).1,by have:=(qn d e).2.1;omega,(qn d e).2.2⟩
     simp only [List.mem_append] at hd
     rcases hd with e | e | e
     ·exact aH (Ca d (.inl e))
     ·exact dW d e
     ·exact aH (Ca d (.inr e))
    have Cd:k * 5+5<=JD.length:=O7
    have Wp:¬Hy.next=GR:=by omega
    have nxb:¬Hx.next=GR:=by omega
    simp only [go_sem,Lq,Dz,hk,CH,Z2,fx,Cd]
    rw [<-Ai] at dm ⊢
    clear Ai
    by_cases fX:y.kind=2
    ·by_cases At:y.cap=3
     ·simp only [go_sem,e8,Wp,Pb,TL,Pc,fX,At]
      refine ag.by (jb (dm.fE H.fz gS).rq) ?_
      rintro _ ju - pe
      have Vt:dr.next<=ju.next:=pe.fr.nx
      have Cy:∀d,d < dr.next->d≠r->ju.get d=dr.get d:=fun d h1 h2=>pe.fr.get d h1 (by simp [h2])
      simp only [go_sem,ek,GQ]
      refine ⟨_,_,_,(((dm.fE H.fz gS).call pe).fE H.fz gS),wX.af (fun d hd=>Cy d (by have:=(mw d hd).2;omega) (by have:=(mw d hd).1;omega)) fun d hd=>Cy d (xh d hd).2.1 (TH d (xh d hd).1),fun d hd=>⟨(xh d hd).1,by have:=(xh d hd).2.1;show d < ju.next;omega,(xh d hd).2.2⟩,by rw [List.length_append,List.length_singleton,lW],by rw [CG,mG,if_pos ⟨fX,At⟩],(Cy Hx.next (by omega) qk).trans Pc,by show H8.next<=ju.next;omega,fun d h1 h2=>(Cy d (by omega) h2).trans (TM d h1 h2)⟩
     ·simp only [go_sem,Wp,Pb,TL,fX,At,ek,GQ]
      exact ⟨_,_,_,dm.fE H.fz gS,wX.af (fun _ _=>rfl) (fun _ _=>rfl),xh,by rw [List.length_append,List.length_singleton,lW],by rw [CG,mG,if_neg (by simp [fX,At])],Pc,by omega,TM⟩
    ·simp only [go_sem,Wp,Pb,TL,fX,ek,GQ]
     exact ⟨_,_,_,dm.fE H.fz gS,wX.af (fun _ _=>rfl) (fun _ _=>rfl),xh,by rw [List.length_append,List.length_singleton,lW],by rw [CG,mG,if_neg (by simp [fX])],Pc,by omega,TM⟩
   ·rintro V3 H9 ⟨ek,CF,yg,MT,r9,kJ,qn,lW,CG,xN,n9,k9⟩
    rw [List.drop_length] at kJ CG
    rw [List.append_nil] at kJ
    rw [EP] at CG
    rw [CG] at bj
    have r9:=r9.fE H.fz gS
    have nxx:(H9.ai H.fz).next=H9.next:=rfl
    have aj2:=lO.af (H':=H9.ai H.fz) (fun d hd=>by rw [bg];have:=dy d hd;exact k9 d this.2 (Ap d (.inr this.1))) (fun d hd=>by rw [bg];exact k9 d (i4 d hd).2.1 (Ap d (i4 d hd).1))
    have hE9:pI.E (H9.ai H.fz) [ae x.name,.slice aT x.types.length x.types.length,iV x.line,iV x.aj] {x with types:=yg} (mT++CF):=by
     have eK:=kJ.sl.af (H':=H9.ai H.fz) fun _ _=>rfl
     exact ⟨_,rfl,eK⟩
    have n79:H7.next<=H9.next:=by omega
    simp only [go_sem,ek,e6,e8,xN,eB Oo (by decide) (by decide)]
    refine r9.app (rp:=pI) Oo (by decide) aj2 (fun d hd=>⟨(dy d hd).1,by have:=(dy d hd).2;omega,zE (dy d hd).1⟩) (fun d hd=>by have:=(i4 d hd).2.1;omega) hE9 (fun d hd=>?_) rfl (by have:=hP.m;omega) ?_
    ·rcases List.mem_append.1 hd with e | e
     ·have:=mw d e
      exact ⟨by omega,fun e'=>by have:=(dy d e').2;omega⟩
     ·have:=qn d e
      exact ⟨this.2.1,fun e'=>this.1.elim (fun e=>by have:=(wM d e).1;have:=(dy d e').1;omega) fun e=>by have:=(dy d e').2;omega⟩
    ·intro Cx dr Lu wX Dj dm eQ tn
     simp only [go_sem,ei,ct]
     refine ⟨Cx,Lu,_,_,_,rfl,dm.fE H.fz gS,wX.af (fun _ _=>rfl) (fun _ _=>rfl),fun d hd=>?_,fun d hd=>?_,by rw [List.length_append,List.length_singleton,df],bj⟩
     ·have:=Dj d hd
      show _/\d < dr.next
      exact ⟨by omega,this.2⟩
     ·have lo:(d∈gm∨H4.next<=d)/\d < (H9.ai H.fz).next:=by
       rcases List.mem_append.1 hd with e | e
       ·have:=i4 d e;exact ⟨this.1,by omega⟩
       ·rcases List.mem_append.1 e with e | e
        ·have:=mw d e;exact ⟨.inr (by omega),by omega⟩
        ·have:=qn d e;exact ⟨this.1.imp id fun e=>by omega,this.2.1⟩
      exact ⟨lo.1,by show d < dr.next;omega,fun e=>by have:=(Dj d e).1;omega⟩
 ·rintro V H6 ⟨ei,vM,mM,gM,dM,tM,e6,rM,amp,GS,GU,awQ,abd⟩
  rw [List.drop_length,IB] at abd
  obtain ⟨vN5,vI5,GO,_,_⟩:=rM.rq.row
  have rS:=rM.fE H.fz gS
  obtain ⟨Hs,MW⟩:=rS.hp
  have Qo:Hs.get r=some ⟨rC S vN5 vI5 tM,136,false,false⟩:=by rw [MW];exact GO
  have Z3:Gr pI 107 Hs vM dM mM gM:=by rw [MW];exact amp.af (fun _ _=>rfl) fun _ _=>rfl
  have UF:Hs.next=H6.next:=by rw [MW];rfl
  have n4s:H4.next<=Hs.next:=by have:=rM.fr.nx;omega
  simp only [go_sem,ei,GO,hvR]
  rw [<-MW] at rS ⊢
  clear MW
  rw [hvR] at hR4
  rw [MO] at hD4
  refine qH 43556142955738918521486114539292705437696 P.bZ.length (fun i V H6=>V 103=iV (i:Nat)/\∃vOR Wq gOR SI t3,V 11=vOR/\RA S P gP H4 r t m g mi H6 t3/\Gr qC 164 H6 vOR SI Wq gOR/\(∀d∈Wq,Hs.next<=d/\d < H6.next)/\(∀d∈gOR,(d∈gr∨Hs.next<=d)/\d < H6.next/\d∉Wq)/\SI.length=i/\IC P 0 P.bZ [] tM=IC P i (P.bZ.drop i) SI t3/\Hs.next<=H6.next/\∀d,d < Hs.next->d≠r->H6.get d=Hs.get d)
   ⟨by simp only [go_sem] <;> rfl,.slice none 0 0,[],[],[],tM,by simp only [go_sem] <;> rfl,rS,Gr.nil _ _ _,by simp,by simp,rfl,rfl,Nat.le_refl _,fun _ _ _=>rfl⟩ ?_ ?_ (by rfl)
  ·rintro i V H5 hi ⟨ei,vO,mO,gO,done,t2,e6,r5,lO,dy,i4,df,bj,Wr,CI⟩
   have hx:P.bZ[i]?=some (P.bZ[i]'hi):=List.getElem?_eq_getElem hi
   have uU:(P.bZ[i]'hi)∈P.bZ:=List.getElem_mem hi
   have cE:P.bZ.drop i=(P.bZ[i]'hi)::P.bZ.drop (i+1):=(List.getElem_cons_drop hi).symm
   generalize (P.bZ[i]'hi)=x at hx cE uU
   obtain ⟨Qm,MP⟩:=hP.rf x uU
   rw [cE,IC] at bj
   have ct:IntKind.wrap .i64 (((i:Nat):Int)+1)=((i+1:Nat):Int):=cZ hi (by have:=hP.r;omega)
   have n5:=r5.fr.nx
   have jh:H.fz H5.next=false:=zE n5
   obtain ⟨b,o,c',B,gx,s0,hB,ep,dj,cm,hE⟩:=(hR4.af (H':=H5) fun d hd=>r5.k (wR d hd).1 (wR d hd).2).at hx
   simp only [Value.slice.injEq] at s0
   have MQ:=s0.1
   obtain ⟨v5,aX,fC⟩:=hE
   obtain ⟨a5,k5,rfl⟩:=fC.val
   have ez:o+i * 4+4<=B.cells.length:=cm
   have aX:(B.cells.drop (o+i * 4)).take 4=[ae x.name,.slice a5 x.fields.length k5,iV x.line,iV x.aj]:=aX
   refine l8 (qA 20282409603651670423947251286016 (fun _ H1=>H1=H5.ai H.fz) (by simp only [go_sem,ei,hi]) ?_ (by rfl))
   rintro V1 Hx Eg
   have r5:=r5.fE H.fz gS
   have lO:Gr qC 164 (H5.ai H.fz) vO done mO gO:=lO.af (fun _ _=>rfl) fun _ _=>rfl
   have hB:(H5.ai H.fz).get b=some B:=hB
   have fC:Sl lH (H5.ai H.fz) (.slice a5 x.fields.length k5) x.fields gx:=fC.af fun _ _=>rfl
   have CI:∀d,d < Hs.next->d≠r->(H5.ai H.fz).get d=Hs.get d:=CI
   obtain ⟨MR,yH⟩:=r5.hp
   have dU:H5.next=MR.next:=by rw [yH];rfl
   rw [dU] at n5 jh dy i4 Wr
   rw [<-yH] at r5 lO hB fC CI Eg
   subst Eg
   clear yH dU
   rw [SG,RG]
   refine l8 (qA 2658415426750624442466766226058129408 (fun V2 H6=>V2 12=iV (i:Nat)/\V2 13=pV Hx.next/\RA S P gP H4 r t m g mi H6 (mG (0<=cK ((j0 P).take i) x.name) 5 x.line x.aj t2)/\H6.get Hx.next=some ⟨[ae x.name,.slice a5 x.fields.length k5,iV x.line,iV x.aj],164,false,false⟩/\Hx.next < H6.next/\∀d,d < Hx.next->d≠r->H6.get d=Hx.get d) ?_ ?_ (by rfl))
   ·have r6:=(r5.push ⟨[ae x.name,.slice a5 x.fields.length k5,iV x.line,iV x.aj],164,false,false⟩).fE H.fz gS
    obtain ⟨H6,eT⟩:=r6.hp
    have dL:H6.get Hx.next=some ⟨[ae x.name,.slice a5 x.fields.length k5,iV x.line,iV x.aj],164,false,false⟩:=by rw [eT,bg,aV,if_pos rfl]
    have GI:H6.next=Hx.next+1:=by rw [eT];rfl
    have k6:∀d,d < Hx.next->H6.get d=Hx.get d:=fun d hd=>by rw [eT,bg,bX hd]
    have s6:=s2.af (H':=H6) fun d hd=>by rw [k6 d (by have:=(w2 d hd).1;omega),r5.k (w2 d hd).1 (w2 d hd).2]
    obtain ⟨vt,gt,dI,yl,Wn⟩:=s6.to (t:=50) (e:=9) (k:=i) On (by rw [List.length_map];omega)
    have qk:¬Hx.next=r:=by have:=r5.rq.rl;omega
    simp only [go_sem,ei,hi,MQ,hB,ez,aX,jh,Option.map_none,Option.map_some,dI]
    rw [<-eT] at r6 ⊢
    clear eT
    refine ag.by (qy yl (by rw [List.length_take,List.length_map];have:=hP.r;omega)) ?_
    rintro _ _ - ⟨rfl,rfl⟩
    by_cases rZ:0<=cK ((j0 P).take i) x.name
    ·rw [mG,if_pos rZ]
     simp only [go_sem,rZ,dL]
     refine ag.by (jb (r6.fE H.fz gS).rq) ?_
     rintro _ H7 - p7
     simp only [go_sem]
     refine ⟨((r6.fE H.fz gS).call p7).fE H.fz gS,(p7.fr.get Hx.next (by show Hx.next < H6.next;omega) (by simp [qk])).trans dL,by have:H6.next<=H7.next:=p7.fr.nx;omega,fun d hd hn=>(p7.fr.get d (by show d < H6.next;omega) (by simp [hn])).trans (k6 d hd)⟩
    ·rw [mG,if_neg rZ]
     simp only [go_sem,rZ]
     exact ⟨r6.fE H.fz gS,dL,by omega,fun d hd _=>k6 d hd⟩
   ·rintro V2 H6 ⟨e7,e8,r6,dL,n6,k6⟩
    generalize mG (0<=cK ((j0 P).take i) x.name) 5 x.line x.aj t2=cC at *
    have jS:∀d∈gx,d < H4.next/\d≠r:=fun d hd=>wR d (dj d hd)
    have GL:H4.next<=Hx.next:=r5.fr.nx
    have MS:H.fz Hx.next=false:=zE GL
    have nxl:=r5.rq.rl
    have qk:Hx.next≠r:=by omega
    have Ap:∀d,(d∈gr∨H4.next<=d)->d≠r:=fun d hd=>hd.elim (fun e=>(wR d e).2) fun e=>by have:=rb.rq.rl;omega
    simp only [go_sem,e8,dL]
    refine ag.by (XR r6.rq hP.m hP.r (fs:=x.fields) (rec:=true) (l:=x.line) (c:=x.aj) (fC.af (H':=H6) fun d hd=>k6 d (by have:=(jS d hd).1;omega) (jS d hd).2) (fun d hd=>⟨by have:=(jS d hd).1;omega,(jS d hd).2⟩) Qm MP) ?_
    rintro w H7 - ⟨⟨g7,uT,Ws⟩,p7⟩
    obtain ⟨a7,GV,rfl⟩:=uT.val
    have r7:=r6.call p7
    have n7:=p7.fr.nx
    have kk:∀d,d < H6.next->d≠r->H7.get d=H6.get d:=fun d h1 h2=>p7.fr.get d h1 (by simp [h2])
    have en:=(kk Hx.next n6 qk).trans dL
    generalize hF:zN P true x.line x.aj x.fields cC=F at *
    have r8:=(r7.own (M:=[Hx.next]) ((Fr.refl _ _).ah (b:=Hx.next) (.inl (by simp)) ⟨[ae x.name,.slice a7 F.1.length GV,iV x.line,iV x.aj],164,false,false⟩) (by simp;omega) fun _ _=>rfl).fE H.fz gS
    obtain ⟨H8,fL⟩:=r8.hp
    have ru:H8.get Hx.next=some ⟨[ae x.name,.slice a7 F.1.length GV,iV x.line,iV x.aj],164,false,false⟩:=by rw [fL,bg,az,if_pos rfl]
    have k8:∀d,d≠Hx.next->H8.get d=H7.get d:=fun d hd=>by rw [fL,bg,az,if_neg hd]
    have Ec:H8.next=H7.next:=by rw [fL];rfl
    have CJ:∀d,d < Hx.next->d≠r->H8.get d=Hx.get d:=fun d h1 h2=>by rw [k8 d (by omega),kk d (by omega) h2,k6 d h1 h2]
    have SJ:=lO.af (H':=H8) (fun d hd=>CJ d (dy d hd).2 (Ap d (.inr (by have:=(dy d hd).1;omega)))) (fun d hd=>CJ d (i4 d hd).2.1 (Ap d ((i4 d hd).1.imp id fun e=>by omega)))
    have yI:∀d∈g7,d < H8.next/\d≠Hx.next/\(d∈gx∨Hx.next<=d):=fun d hd=>(Ws d hd).elim (fun e=>⟨by have:=(jS d (by exact e)).1;omega,by have:=(jS d (by exact e)).1;omega,.inl (by exact e)⟩) fun e=>⟨by omega,by omega,.inr (by omega)⟩
    have Wt:qC.E H8 [ae x.name,.slice a7 F.1.length GV,iV x.line,iV x.aj] {x with fields:=F.1} (g7):=⟨_,rfl,uT.af fun d hd=>k8 d (yI d hd).2.1⟩
    simp only [go_sem,e8,en,MS,e6,eB Oq (by decide) (by decide)]
    rw [<-fL,<-Ec]
    rw [<-fL] at r8
    clear fL
    refine r8.app (X:=H.fz) (rp:=qC) Oq (by decide) SJ (fun d hd=>⟨by have:=(dy d hd).1;omega,by have:=(dy d hd).2;omega,zE (by have:=(dy d hd).1;omega)⟩) (fun d hd=>by have:=(i4 d hd).2.1;omega) Wt (fun d hd=>?_) rfl (by have:=hP.r;omega) ?_
    ·have aH:d∈gx->d < H8.next/\d∉mO:=fun e=>⟨by have:=(jS d e).1;omega,fun e'=>by have:=(jS d e).1;have:=(dy d e').1;omega⟩
     exact (yI d hd).2.2.elim aH fun e=>⟨(yI d hd).1,fun e'=>by have:=(dy d e').2;omega⟩
    ·intro Cx dr Lu wX Dj dm eQ tn
     simp only [go_sem,ei,ct]
     refine ⟨Cx,Lu,_,_,_,rfl,dm.fE H.fz gS,wX.af (fun _ _=>rfl) (fun _ _=>rfl),fun d hd=>?_,fun d hd=>?_,by rw [List.length_append,List.length_singleton,df],bj,?_,fun d h1 h2=>?_⟩
     ·have:=Dj d hd
      show _/\d < dr.next
      exact ⟨by omega,this.2⟩
     ·have lo:(d∈gr∨Hs.next<=d)/\d < H8.next:=by
       rcases List.mem_append.1 hd with e | e
       ·have:=i4 d e;exact ⟨this.1,by omega⟩
       ·have aH:d∈gx->(d∈gr∨Hs.next<=d)/\d < H8.next:=fun e=>⟨.inl (dj d e),by have:=(jS d e).1;omega⟩
        exact (yI d e).2.2.elim aH fun e2=>⟨.inr (by omega),(yI d e).1⟩
      exact ⟨lo.1,by show d < dr.next;omega,fun e=>by have:=(Dj d e).1;omega⟩
     ·show _<=dr.next
      omega
     ·show dr.get d=_
      rw [tn d (by omega) (fun e=>by have:=(dy d e).1;omega),CJ d (by omega) h2,CI d h1 h2]
  ·rintro V2 H6 ⟨GP,vR,mR,gR,dR,tR,rn,rR,amq,MX,MY,awR,abe,nS6,kS6⟩
   rw [List.drop_length,IC] at abe
   obtain ⟨JE,JF,ig,_,_⟩:=rR.rq.row
   have rU:=rR.fE H.fz gS
   obtain ⟨Hu,JG⟩:=rU.hp
   have hru:Hu.get r=some ⟨rC S JE JF tR,136,false,false⟩:=by rw [JG];exact ig
   have Z4:Gr qC 164 Hu vR dR mR gR:=by rw [JG];exact amq.af (fun _ _=>rfl) fun _ _=>rfl
   have kSu:∀d,d < Hs.next->d≠r->Hu.get d=Hs.get d:=by rw [JG];exact kS6
   have nxu:Hu.next=H6.next:=by rw [JG];rfl
   have n4u:H4.next<=Hu.next:=by omega
   simp only [go_sem,GP,ig,MO]
   rw [<-JG] at rU ⊢
   clear JG
   refine qH 5986310705113581778054129128459912856470177102020608 P.defs.length (fun i V H6=>V 140=iV (i:Nat)/\∃vOD Wu gOD SK t3,V 14=vOD/\RA S P gP H4 r t m g mi H6 t3/\Gr jq 38 H6 vOD SK Wu gOD/\(∀d∈Wu,Hu.next<=d/\d < H6.next)/\(∀d∈gOD,(d∈gd∨Hu.next<=d)/\d < H6.next/\d∉Wu)/\SK.length=i/\ID P 0 P.defs [] tR=ID P i (P.defs.drop i) SK t3/\Hu.next<=H6.next/\∀d,d < Hu.next->d≠r->H6.get d=Hu.get d)
    ⟨by simp only [go_sem] <;> rfl,.slice none 0 0,[],[],[],tR,by simp only [go_sem] <;> rfl,rU,Gr.nil _ _ _,by simp,by simp,rfl,rfl,Nat.le_refl _,fun _ _ _=>rfl⟩ ?_ ?_ (by rfl)
   ·rintro i V H5 hi ⟨ei,vO,mO,gO,done,t2,e6,r5,lO,dy,i4,df,bj,Wr,CI⟩
    have hx:P.defs[i]?=some (P.defs[i]'hi):=List.getElem?_eq_getElem hi
    have uU:(P.defs[i]'hi)∈P.defs:=List.getElem_mem hi
    have cE:P.defs.drop i=(P.defs[i]'hi)::P.defs.drop (i+1):=(List.getElem_cons_drop hi).symm
    generalize (P.defs[i]'hi)=x at hx cE uU
    obtain ⟨Qm,MP⟩:=hP.dp x uU
    rw [cE,ID] at bj
    have ct:IntKind.wrap .i64 (((i:Nat):Int)+1)=((i+1:Nat):Int):=cZ hi (by have:=hP.d;omega)
    have n5:=r5.fr.nx
    have jh:H.fz H5.next=false:=zE n5
    obtain ⟨b,o,c',B,gx,s0,hB,ep,dj,cm,hE⟩:=(hD4.af (H':=H5) fun d hd=>r5.k (wD d hd).1 (wD d hd).2).at hx
    simp only [Value.slice.injEq] at s0
    have MQ:=s0.1
    obtain ⟨v5,v6,v7,u5,u6,u7,aX,rfl,fC,wz,Lv⟩:=hE
    obtain ⟨a5,k5,rfl⟩:=fC.val
    obtain ⟨a6,Eh,rfl⟩:=wz.val
    obtain ⟨Ei,Ej,rfl⟩:=Lv.val
    have yJ:∀d∈u5++(u6++u7),d∈u5++(u6++u7):=fun _ h=>h
    have ez:o+i * 9+9<=B.cells.length:=cm
    have aX:(B.cells.drop (o+i * 9)).take 9=dP x (.slice a5 x.params.length k5) (.slice a6 x.pat.length Eh) (.slice Ei x.on.length Ej):=aX
    refine l8 (qA 2787593149816327892691964784081045188247552 (fun _ H1=>H1=H5.ai H.fz) (by simp only [go_sem,ei,hi]) ?_ (by rfl))
    rintro V1 Hx Eg
    have r5:=r5.fE H.fz gS
    have lO:Gr jq 38 (H5.ai H.fz) vO done mO gO:=lO.af (fun _ _=>rfl) fun _ _=>rfl
    have hB:(H5.ai H.fz).get b=some B:=hB
    have fC:Sl lH (H5.ai H.fz) (.slice a5 x.params.length k5) x.params u5:=fC.af fun _ _=>rfl
    have wz:Sl fJ (H5.ai H.fz) (.slice a6 x.pat.length Eh) x.pat u6:=wz.af fun _ _=>rfl
    have Lv:Sl dG (H5.ai H.fz) (.slice Ei x.on.length Ej) x.on u7:=Lv.af fun _ _=>rfl
    have CI:∀d,d < Hu.next->d≠r->(H5.ai H.fz).get d=Hu.get d:=CI
    obtain ⟨MR,yH⟩:=r5.hp
    have dU:H5.next=MR.next:=by rw [yH];rfl
    rw [dU] at n5 jh dy i4 Wr
    rw [<-yH] at r5 lO hB fC wz Lv CI Eg
    subst Eg
    clear yH dU
    rw [SG,RG]
    refine l8 (qA 365369834146426096895135824249502592823606738944 (fun V2 H6=>V2 15=iV (i:Nat)/\V2 16=pV Hx.next/\RA S P gP H4 r t m g mi H6 (mG (0<=cK ((sI P).take i) x.name) 5 x.line x.aj t2)/\H6.get Hx.next=some ⟨dP x (.slice a5 x.params.length k5) (.slice a6 x.pat.length Eh) (.slice Ei x.on.length Ej),38,false,false⟩/\Hx.next < H6.next/\∀d,d < Hx.next->d≠r->H6.get d=Hx.get d) ?_ ?_ (by rfl))
    ·have r6:=(r5.push ⟨dP x (.slice a5 x.params.length k5) (.slice a6 x.pat.length Eh) (.slice Ei x.on.length Ej),38,false,false⟩).fE H.fz gS
     obtain ⟨H6,eT⟩:=r6.hp
     have dL:H6.get Hx.next=some ⟨dP x (.slice a5 x.params.length k5) (.slice a6 x.pat.length Eh) (.slice Ei x.on.length Ej),38,false,false⟩:=by rw [eT,bg,aV,if_pos rfl]
     have GI:H6.next=Hx.next+1:=by rw [eT];rfl
     have k6:∀d,d < Hx.next->H6.get d=Hx.get d:=fun d hd=>by rw [eT,bg,bX hd]
     have s6:=s3.af (H':=H6) fun d hd=>by rw [k6 d (by have:=(w3 d hd).1;omega),r5.k (w3 d hd).1 (w3 d hd).2]
     obtain ⟨vt,gt,dI,yl,Wn⟩:=s6.to (t:=50) (e:=9) (k:=i) On (by rw [List.length_map];omega)
     have qk:¬Hx.next=r:=by have:=r5.rq.rl;omega
     simp only [go_sem,ei,hi,MQ,hB,ez,aX,jh,Option.map_none,Option.map_some,dI]
     rw [<-eT] at r6 ⊢
     clear eT
     refine ag.by (qy yl (by rw [List.length_take,List.length_map];have:=hP.d;omega)) ?_
     rintro _ _ - ⟨rfl,rfl⟩
     by_cases rZ:0<=cK ((sI P).take i) x.name
     ·rw [mG,if_pos rZ]
      simp only [go_sem,rZ,dL]
      refine ag.by (jb (r6.fE H.fz gS).rq) ?_
      rintro _ H7 - p7
      simp only [go_sem]
      refine ⟨((r6.fE H.fz gS).call p7).fE H.fz gS,(p7.fr.get Hx.next (by show Hx.next < H6.next;omega) (by simp [qk])).trans dL,by have:H6.next<=H7.next:=p7.fr.nx;omega,fun d hd hn=>(p7.fr.get d (by show d < H6.next;omega) (by simp [hn])).trans (k6 d hd)⟩
     ·rw [mG,if_neg rZ]
      simp only [go_sem,rZ]
      exact ⟨r6.fE H.fz gS,dL,by omega,fun d hd _=>k6 d hd⟩
    ·rintro V2 H6 ⟨e7,e8,r6,dL,n6,k6⟩
     generalize mG (0<=cK ((sI P).take i) x.name) 5 x.line x.aj t2=cC at *
     have jS:∀d∈(u5++(u6++u7)),d < H4.next/\d≠r:=fun d hd=>wD d (dj d hd)
     have GL:H4.next<=Hx.next:=r5.fr.nx
     have MS:H.fz Hx.next=false:=zE GL
     have nxl:=r5.rq.rl
     have qk:Hx.next≠r:=by omega
     have Ap:∀d,(d∈gd∨H4.next<=d)->d≠r:=fun d hd=>hd.elim (fun e=>(wD d e).2) fun e=>by have:=rb.rq.rl;omega
     simp only [go_sem,e8,dL]
     refine ag.by (XR r6.rq hP.m hP.r (fs:=x.params) (rec:=false) (l:=x.line) (c:=x.aj) (fC.af (H':=H6) fun d hd=>k6 d (by have:=(jS d (yJ d (by simp [hd]))).1;omega) (jS d (yJ d (by simp [hd]))).2) (fun d hd=>⟨by have:=(jS d (yJ d (by simp [hd]))).1;omega,(jS d (yJ d (by simp [hd]))).2⟩) Qm MP) ?_
     rintro w H7 - ⟨⟨g7,uT,Ws⟩,p7⟩
     obtain ⟨a7,GV,rfl⟩:=uT.val
     have r7:=r6.call p7
     have n7:=p7.fr.nx
     have kk:∀d,d < H6.next->d≠r->H7.get d=H6.get d:=fun d h1 h2=>p7.fr.get d h1 (by simp [h2])
     have en:=(kk Hx.next n6 qk).trans dL
     generalize hF:zN P false x.line x.aj x.params cC=F at *
     have r8:=(r7.own (M:=[Hx.next]) ((Fr.refl _ _).ah (b:=Hx.next) (.inl (by simp)) ⟨dP {x with params:=F.1} (.slice a7 F.1.length GV) (.slice a6 x.pat.length Eh) (.slice Ei x.on.length Ej),38,false,false⟩) (by simp;omega) fun _ _=>rfl).fE H.fz gS
     obtain ⟨H8,fL⟩:=r8.hp
     have ru:H8.get Hx.next=some ⟨dP {x with params:=F.1} (.slice a7 F.1.length GV) (.slice a6 x.pat.length Eh) (.slice Ei x.on.length Ej),38,false,false⟩:=by rw [fL,bg,az,if_pos rfl]
     have k8:∀d,d≠Hx.next->H8.get d=H7.get d:=fun d hd=>by rw [fL,bg,az,if_neg hd]
     have Ec:H8.next=H7.next:=by rw [fL];rfl
     have CJ:∀d,d < Hx.next->d≠r->H8.get d=Hx.get d:=fun d h1 h2=>by rw [k8 d (by omega),kk d (by omega) h2,k6 d h1 h2]
     have SJ:=lO.af (H':=H8) (fun d hd=>CJ d (dy d hd).2 (Ap d (.inr (by have:=(dy d hd).1;omega)))) (fun d hd=>CJ d (i4 d hd).2.1 (Ap d ((i4 d hd).1.imp id fun e=>by omega)))
     have yI:∀d∈g7,d < H8.next/\d≠Hx.next/\(d∈(u5++(u6++u7))∨Hx.next<=d):=fun d hd=>(Ws d hd).elim (fun e=>⟨by have:=(jS d (by exact yJ d (by simp [e]))).1;omega,by have:=(jS d (by exact yJ d (by simp [e]))).1;omega,.inl (by exact yJ d (by simp [e]))⟩) fun e=>⟨by omega,by omega,.inr (by omega)⟩
     have Wt:jq.E H8 (dP {x with params:=F.1} (.slice a7 F.1.length GV) (.slice a6 x.pat.length Eh) (.slice Ei x.on.length Ej)) {x with params:=F.1} (g7++(u6++u7)):=⟨_,_,_,g7,u6,u7,rfl,rfl,uT.af fun d hd=>k8 d (yI d hd).2.1,wz.af fun d hd=>by have:=jS d (yJ d (by simp [hd]));exact CJ d (by omega) this.2,Lv.af fun d hd=>by have:=jS d (yJ d (by simp [hd]));exact CJ d (by omega) this.2⟩
     simp only [go_sem,e8,en,MS,e6,eB ue (by decide) (by decide)]
     rw [<-fL,<-Ec]
     rw [<-fL] at r8
     clear fL
     refine r8.app (X:=H.fz) (rp:=jq) ue (by decide) SJ (fun d hd=>⟨by have:=(dy d hd).1;omega,by have:=(dy d hd).2;omega,zE (by have:=(dy d hd).1;omega)⟩) (fun d hd=>by have:=(i4 d hd).2.1;omega) Wt (fun d hd=>?_) rfl (by have:=hP.d;omega) ?_
     ·have aH:d∈(u5++(u6++u7))->d < H8.next/\d∉mO:=fun e=>⟨by have:=(jS d e).1;omega,fun e'=>by have:=(jS d e).1;have:=(dy d e').1;omega⟩
      rcases List.mem_append.1 hd with e0 | e0
      ·exact (yI d e0).2.2.elim aH fun e=>⟨(yI d e0).1,fun e'=>by have:=(dy d e').2;omega⟩
      ·exact aH (yJ d (by simp only [List.mem_append] at e0 ⊢;rcases e0 with e | e <;> simp [e]))
     ·intro Cx dr Lu wX Dj dm eQ tn
      simp only [go_sem,ei,ct]
      refine ⟨Cx,Lu,_,_,_,rfl,dm.fE H.fz gS,wX.af (fun _ _=>rfl) (fun _ _=>rfl),fun d hd=>?_,fun d hd=>?_,by rw [List.length_append,List.length_singleton,df],bj,?_,fun d h1 h2=>?_⟩
      ·have:=Dj d hd
       show _/\d < dr.next
       exact ⟨by omega,this.2⟩
      ·have lo:(d∈gd∨Hu.next<=d)/\d < H8.next:=by
        rcases List.mem_append.1 hd with e | e
        ·have:=i4 d e;exact ⟨this.1,by omega⟩
        ·have aH:d∈(u5++(u6++u7))->(d∈gd∨Hu.next<=d)/\d < H8.next:=fun e=>⟨.inl (dj d e),by have:=(jS d e).1;omega⟩
         rcases List.mem_append.1 e with e0 | e0
         ·exact (yI d e0).2.2.elim aH fun e2=>⟨.inr (by omega),(yI d e0).1⟩
         ·exact aH (yJ d (by simp only [List.mem_append] at e0 ⊢;rcases e0 with e | e <;> simp [e]))
       exact ⟨lo.1,by show d < dr.next;omega,fun e=>by have:=(Dj d e).1;omega⟩
      ·show _<=dr.next
       omega
      ·show dr.get d=_
       rw [tn d (by omega) (fun e=>by have:=(dy d e).1;omega),CJ d (by omega) h2,CI d h1 h2]
   ·rintro V3 H6 ⟨ei3,vD,mD,gD,dD,tD,Wv,rD,TN,Qp,Qq,awS,abf,nU6,Qr⟩
    rw [List.drop_length,ID] at abf
    obtain ⟨MZ,M0,kZ,hN7,JH⟩:=rD.rq.row
    obtain ⟨Qs,M2⟩:=Z3.val
    subst M2
    obtain ⟨Ww,M2⟩:=Z4.val
    subst M2
    obtain ⟨aD9,M2⟩:=TN.val
    subst M2
    have Ek:=h.fz
    have eP:oQ P t=(dM,dR,dD,tD):=by rw [oQ,abd,abe,abf]
    rw [eP]
    simp only [go_sem,ei3,e6,rn,Wv,kZ,Ek]
    have rr:=(r3.aH (ba.refl _) (fun _=>rfl)).trans rD
    have Z5:=(Z3.af (H':=Hu) (fun d hd=>kSu d (by have:=(GS d hd).2;omega) (by have:=(GS d hd).1;have:=rb.rq.rl;omega)) (fun d hd=>kSu d (by have:=(GU d hd).2.1;omega) ((GU d hd).1.elim (fun e=>(wM d e).2) fun e=>by have:=rb.rq.rl;omega))).af (H':=H6) (fun d hd=>Qr d (by have:=(GS d hd).2;omega) (by have:=(GS d hd).1;have:=rb.rq.rl;omega)) (fun d hd=>Qr d (by have:=(GU d hd).2.1;omega) ((GU d hd).1.elim (fun e=>(wM d e).2) fun e=>by have:=rb.rq.rl;omega))
    have Z6:=Z4.af (H':=H6) (fun d hd=>Qr d (by have:=(MX d hd).2;omega) (by have:=(MX d hd).1;have:=rb.rq.rl;omega)) (fun d hd=>Qr d (by have:=(MY d hd).2.1;omega) ((MY d hd).1.elim (fun e=>(wR d e).2) fun e=>by have:=rb.rq.rl;omega))
    have yK:∀d∈(mM++gM)++((mR++gR)++(mD++gD)),(d∈gP∨H4.next<=d)/\d < H6.next/\d≠r:=fun d hd=>by
     have key:(d∈gP∨H4.next<=d)/\d < H6.next:=by
      simp only [List.mem_append] at hd
      rcases hd with (e | e) | (e | e) | (e | e)
      ·exact ⟨.inr (GS d e).1,by have:=(GS d e).2;omega⟩
      ·exact ⟨(GU d e).1.imp (oM d) id,by have:=(GU d e).2.1;omega⟩
      ·exact ⟨.inr (by have:=(MX d e).1;omega),by have:=(MX d e).2;omega⟩
      ·exact ⟨(MY d e).1.imp (cB d) fun e=>by omega,by have:=(MY d e).2.1;omega⟩
      ·exact ⟨.inr (by have:=(Qp d e).1;omega),(Qp d e).2⟩
      ·exact ⟨(Qq d e).1.imp (fP d) fun e=>by omega,(Qq d e).2.1⟩
     exact ⟨key.1,key.2,key.1.elim (fun e=>(oN d e).2) fun e=>by have:=rb.rq.rl;omega⟩
    have kF:∀d,d≠r->((((((H6.ai H.fz).ah r ⟨rC ⟨.slice Qs dM.length dM.length,S.vR,S.vD⟩ MZ M0 tD,136,false,false⟩).ah r ⟨rC ⟨.slice Qs dM.length dM.length,.slice Ww dR.length dR.length,S.vD⟩ MZ M0 tD,136,false,false⟩).ah r ⟨rC ⟨.slice Qs dM.length dM.length,.slice Ww dR.length dR.length,.slice aD9 dD.length dD.length⟩ MZ M0 tD,136,false,false⟩)).ai H.fz).get d=H6.get d:=fun d hd=>by rw [bg,az,if_neg hd,az,if_neg hd,az,if_neg hd,bg]
    refine ⟨(((rr.fr.ai _).ah (.inl (by simp)) _).ah (.inl (by simp)) _ |>.ah (.inl (by simp)) _).ai _,fun _=>trivial,rr.ns,rr.aK,⟨.slice Qs dM.length dM.length,.slice Ww dR.length dR.length,.slice aD9 dD.length dD.length⟩,(mM++gM)++((mR++gR)++(mD++gD)),mD,gD,?_,fun d hd=>(yK d hd).1.imp id fun e=>by omega,?_,fun d hd=>by have:=(Qp d hd).1;omega,fun d hd=>by simp only [List.mem_append] at hd ⊢;rcases hd with e | e <;> simp [e],(mM++gM)++(mR++gR),?_,?_,fun d hd=>⟨by simp only [List.mem_append] at hd ⊢;rcases hd with (e | e) | (e | e) <;> simp [e],fun e=>?_⟩⟩
    ·have q:=rD.rq
     exact ⟨⟨MZ,M0,by rw [bg,az,if_pos rfl],hN7.af (fun d hd=>kF d (q.hm d hd).2.1) (fun d hd=>kF d (q.hg d hd).2),JH.af fun d hd=>kF d (q.hi d hd).2.1⟩,(Z5.sl.af fun d hd=>kF d (yK d (by simp only [List.mem_append] at hd ⊢;rcases hd with e | e <;> simp [e])).2.2).i (fun d hd=>by simp only [List.mem_append] at hd ⊢;rcases hd with e | e <;> simp [e]),(Z6.sl.af fun d hd=>kF d (yK d (by simp only [List.mem_append] at hd ⊢;rcases hd with e | e <;> simp [e])).2.2).i (fun d hd=>by simp only [List.mem_append] at hd ⊢;rcases hd with e | e <;> simp [e]),(TN.sl.af fun d hd=>kF d (yK d (by simp only [List.mem_append] at hd ⊢;rcases hd with e | e <;> simp [e])).2.2).i (fun d hd=>by simp only [List.mem_append] at hd ⊢;rcases hd with e | e <;> simp [e]),q.rl,fun d hd=>⟨(q.hm d hd).1,(q.hm d hd).2.1,fun e=>(yK d e).1.elim (h.hm d hd).2.2.1 fun e=>by have:=(h.hm d hd).1;omega,(q.hm d hd).2.2.2⟩,fun d hd=>⟨(q.hi d hd).1,(q.hi d hd).2.1,fun e=>(yK d e).1.elim (h.hi d hd).2.2.1 fun e=>by have:=(h.hi d hd).1;omega,(q.hi d hd).2.2.2⟩,q.hg,fun d hd=>(yK d hd).2⟩
    ·exact TN.af (fun d hd=>by rw [bg,az,if_neg,az,if_neg,az,if_neg,bg] <;> exact (yK d (by simp [hd])).2.2) (fun d hd=>by rw [bg,az,if_neg,az,if_neg,az,if_neg,bg] <;> exact (yK d (by simp [hd])).2.2)
    ·exact (Z5.sl.af fun d hd=>kF d (yK d (by simp only [List.mem_append] at hd ⊢;rcases hd with e | e <;> simp [e])).2.2).i (fun d hd=>by simp only [List.mem_append] at hd ⊢;rcases hd with e | e <;> simp [e])
    ·exact (Z6.sl.af fun d hd=>kF d (yK d (by simp only [List.mem_append] at hd ⊢;rcases hd with e | e <;> simp [e])).2.2).i (fun d hd=>by simp only [List.mem_append] at hd ⊢;rcases hd with e | e <;> simp [e])
    ·have h1:=(Qp d e).1
     simp only [List.mem_append] at hd
     rcases hd with (e | e) | (e | e)
     ·have:=(GS d e).2;omega
     ·have:=(GU d e).2.1;omega
     ·have:=(MX d e).2;omega
     ·have:=(MY d e).2.1;omega
end
end Go.Proofs.YtinjmfblebpnnaaGreat.Ab
