/- Lemmas for the walk, part 5. -/
import Derived.Test.YtinjmfblebpnnaaGreatF4
set_option linter.unusedVariables false
set_option linter.unusedSimpArgs false
set_option maxRecDepth 100000
set_option maxHeartbeats 16000000
namespace Go.Proofs.YtinjmfblebpnnaaGreat.Ab
open Go
section
variable {S:ZS} {src:List aH} {gP:List Nat} {H H1 H2:ad} {z:Nat} {ns bk bK:List aH} {m m1 m2 g g1 g2:List Nat}
theorem ZR.own (h:ZR S src gP H z ns m g H1 bk m1 g1) {M:List Nat} (bg:Fr M H1 H2) (hM:∀c∈M,H.next<=c/\c≠z/\c∉m1/\c∉g1/\c∉gP) (mG:∀c,c < H1.next∨H2.next<=c->H2.fz c=H1.fz c):ZR S src gP H z ns m g H2 bk m1 g1:=
 ⟨h.fr.trans bg fun c hc=>.inr (hM c hc).1,{h.zq.toZQ0.fr bg (fun e=>(hM z e).2.1 rfl) (fun c hc e=>(hM c e).2.2.1 hc) (fun c hc e=>(hM c e).2.2.2.1 hc) (fun c hc e=>(hM c e).2.2.2.2 hc) with
  fz:=by rw [mG _ (.inl h.zq.zl)];exact h.zq.fz,fm:=fun c hc=>by rw [mG _ (.inl (h.zq.hm c hc).1)];exact h.zq.fm c hc,fn:=fun b hb=>by rw [mG _ (.inr hb)];exact h.zq.fn b (Nat.le_trans bg.nx hb)},h.le,h.sm,h.sg⟩
theorem ZR.J9 (h:ZR S src gP H z ns m g H1 bk m1 g1) {l:Nat} (hl:l < bk.length) {v:Value} {bs:List eZ} {gB:List Nat} (hs:Sl dB H1 v bs gB) (hg:∀c∈gB,c < H1.next/\c≠z/\c∉m1/\(c∈gP∨H.next<=c)):
  ∃b cs,H1.get z=some ⟨zC S (.slice (some ⟨b,0,none⟩) bk.length bk.length),131,false,false⟩/\b∈m1/\H1.get b=some ⟨cs,42,true,false⟩/\l * 20+20<=cs.length/\
  ∃g2,ZR S src gP H z ns m g (H1.ah b ⟨cs.set (l * 20+19) v,42,true,false⟩) (bk.set l {bk.getD l {} with ak:=bs}) m1 g2:=by
 obtain ⟨vN,hq,cw⟩:=h.zq.row
 obtain ⟨b,cs,f1,f2,f3,rfl,rfl,hb,fE,rfl,c6,hE,oE⟩:=cw.put hl
 obtain ⟨wA,wP,wB,e1,e2,e3,aV,rfl,s1,s2,s3⟩:=hE
 have fC:j6.sz=20:=rfl
 rw [fC] at c6 aV
 obtain ⟨iD,fe,fj,oh⟩:=h.zq.hm b (by simp)
 have aZ:l * 20+19 < cs.length:=by omega
 have kt:(bk.getD l {})=bk[l]:=by rw [List.getD_eq_getElem?_getD,List.getElem?_eq_getElem hl];rfl
 have eu:cs.set (l * 20+19) v=cT cs (l * j6.sz) (aJ {bk[l] with ak:=bs} wA wP v):=by
  have:=xq (vs:=[v]) aV (k:=19) (by decide:19+1<=20) c6
  rw [eG aZ] at this
  rw [this];rfl
 have bg:Fr [b] H1 (H1.ah b ⟨cs.set (l * 20+19) v,42,true,false⟩):=(Fr.refl _ _).ah (.inl (by simp)) _
 have kg:∀c,c≠b->(H1.ah b ⟨cs.set (l * 20+19) v,42,true,false⟩).get c=H1.get c:=fun c hc=>by rw [az,if_neg hc]
 have qK:∀c∈f1++(e1++(e2++e3)++f3),c≠b:=fun c hc e=>oh (e▸hc)
 have US:∀c∈gB,c≠b:=fun c hc e=>(hg c hc).2.2.1 (by simp [e])
 have bG:=oE (H1.ah b ⟨cs.set (l * 20+19) v,42,true,false⟩) (aJ {bk[l] with ak:=bs} wA wP v) {bk[l] with ak:=bs} (e1++(e2++gB))
  (fun z hz=>kg z (qK z (by rcases hz with e | e <;> simp [e]))) (by rw [az,if_pos rfl,eu]) ⟨wA,wP,v,e1,e2,gB,rfl,rfl,s1.ae fun c hc=>kg c (qK c (by simp [hc])),s2.ae fun c hc=>kg c (qK c (by simp [hc])),hs.ae fun c hc=>kg c (US c hc)⟩
  (fun e=>by
   simp only [List.mem_append] at e
   rcases e with e | e | e
   ·exact qK b (by simp [e]) rfl
   ·exact qK b (by simp [e]) rfl
   ·exact US b e rfl)
 have oi:∀c∈f1++((e1++(e2++gB))++f3),c∈f1++(e1++(e2++e3)++f3)∨c∈gB:=fun c hc=>by
  simp only [List.mem_append] at hc ⊢
  rcases hc with e | (e | e | e) | e <;> simp [e]
 refine ⟨b,cs,hq,by simp,hb,c6,f1++((e1++(e2++gB))++f3),⟨h.fr.trans bg fun c hc=>?_,{row:=⟨_,(kg z (Ne.symm fe)).trans hq,?_⟩,src:=h.zq.src.ae fun c hc=>kg c (fun e=>fj (e▸hc)),zl:=h.zq.zl,hm:=fun c hc=>?_,hg:=fun c hc=>?_,hP:=h.zq.hP,fz:=h.zq.fz,fm:=h.zq.fm,fn:=h.zq.fn},by rw [List.length_set];exact h.le,h.sm,fun c hc=>?_⟩⟩
 ·rw [List.mem_singleton] at hc
  subst hc
  exact (h.sm c (by simp)).imp (fun e=>by simp [e]) id
 ·rw [kt];exact bG
 ·rw [List.mem_singleton] at hc
  subst hc
  exact ⟨iD,fe,fj,fun e=>(oi _ e).elim oh fun e=>US _ e rfl⟩
 ·exact (oi c hc).elim (h.zq.hg c) fun e=>⟨(hg c e).1,(hg c e).2.1⟩
 ·exact (oi c hc).elim (h.sg c) fun e=>.inr (hg c e).2.2.2
def yg (bd:Zb) (a:Int) (f:aH->Int->aH) (k:Nat) (ns:List aH):Option (List aH):=if 0<=a then (bd a ns).map fun x=>x.2.set k (f (x.2.getD k {}) x.1) else some ns
def tX (bd:Zb):List eZ->List eZ->List aH->Option (List eZ × List aH)
 | [],done,ns=>some (done,ns)
 | b::l,done,ns=>(bd b.body ns).bind fun x=>tX bd l (done++[{b with body:=x.1}]) x.2
abbrev z1 (n:aH):aH:={kind:=1,mf:=n.mf,a:= -1,b:= -1,line:=n.line,au:=n.au,next:= -1}
abbrev z2 (n:aH):aH:={kind:=10,gV:=n.gV,args:=⟨2,0,n.mf⟩::n.args,a:= -1,b:= -1,line:=n.line,au:=n.au,next:= -1}
def Q0 (bd:Zb) (self:bj):Zn:=fun n ns=>
 if 90000 < ns.length∨90000 < n.args.length∨90000 < n.ak.length then none
 else if n.kind=2 then some (ns.length,ns.length+1,j9 (ns++[z1 n]++[z2 n]) ns.length (ns.length+1))
 else if n.kind=14 then some (ns.length,ns.length,ns++[{kind:=13,gV:=self,args:=⟨2,0,[115,101,108,102]⟩::n.args,a:= -1,b:= -1,line:=n.line,au:=n.au,next:= -1}])
 else (yg bd n.a (fun d i=>{d with a:=i}) ns.length (ns++[{n with line:=n.line,au:=n.au,next:= -1}])).bind fun bk=>(yg bd n.b (fun d i=>{d with b:=i}) ns.length bk).bind fun bK=>
  (tX bd n.ak [] bK).map fun x=>(ns.length,ns.length,x.2.set ns.length {x.2.getD ns.length {} with ak:=x.1})
theorem abM {s:bj} {h:KH}:fH Tryz.prog 42 [(0,iV 1),(13,ag s),(8,iV (-1)),(9,iV (-1))] h=.ok (.agg #[iV 1,iV 0,iV 0,iV 0,iV 0,iV 0,iV 0,iV 0,iV (-1),iV (-1),iV 0,iV 0,iV 0,ag s,ag [],ag [],ag [],.slice none 0 0,.slice none 0 0,.slice none 0 0]) h:=by kernel_rfl
theorem WI {k:Int} {s:bj} {a:Option Addr} {n c:Nat} {h:KH}:fH Tryz.prog 42 [(0,iV k),(15,ag s),(17,.slice a n c),(8,iV (-1)),(9,iV (-1))] h=.ok (.agg #[iV k,iV 0,iV 0,iV 0,iV 0,iV 0,iV 0,iV 0,iV (-1),iV (-1),iV 0,iV 0,iV 0,ag [],ag [],ag s,ag [],.slice a n c,.slice none 0 0,.slice none 0 0]) h:=by kernel_rfl
theorem abN {bd:Zb} (jn:ZbW S src gP z bd) (h:ZQ S src gP H z ns m g) {n:aH} {vA vP vB:Value} {gA gQ gB:List Nat} (hA:Sl jG H vA n.args gA) (hQ:Sl fy H vP n.pat gQ) (hB:Sl dB H vB n.ak gB) (dQ:∀c∈gA++(gQ++gB),c∈gP) {R:Nat × Nat × List aH} (he:Q0 bd S.self n ns=some R):
  aj Tryz.prog 117 #[pV z,.agg (aJ n vA vP vB).toArray] H (fun w H'=>w=.tuple #[iV (R.1:Nat),iV (R.2.1:Nat)]/\HE S src gP H z ns m g R.2.2 H'):=by
 refine aj.told ?_
 refine aeg (Nat.le_refl _) fun hf=>?_
 simp only [Tryz.f117,Option.getD_some]
 obtain ⟨aA,kA,rfl⟩:=hA.val
 obtain ⟨aP,kP,rfl⟩:=hQ.val
 obtain ⟨aB,kB,rfl⟩:=hB.val
 have r0:=ZR.start h
 have r1:=r0.push ⟨aJ n (.slice aA n.args.length kA) (.slice aP n.pat.length kP) (.slice aB n.ak.length kB),42,false,false⟩
 have g1:(H.push ⟨aJ n (.slice aA n.args.length kA) (.slice aP n.pat.length kP) (.slice aB n.ak.length kB),42,false,false⟩).get H.next=some ⟨aJ n (.slice aA n.args.length kA) (.slice aP n.pat.length kP) (.slice aB n.ak.length kB),42,false,false⟩:=by rw [aU,if_pos rfl]
 have o1:bc H (H.push ⟨aJ n (.slice aA n.args.length kA) (.slice aP n.pat.length kP) (.slice aB n.ak.length kB),42,false,false⟩):=bc.push H _
 have n1:(H.push ⟨aJ n (.slice aA n.args.length kA) (.slice aP n.pat.length kP) (.slice aB n.ak.length kB),42,false,false⟩).next=H.next+1:=rfl
 have Pa:∀{c:Nat},H.next<=c->c∉z::m:=fun {c} hc e=>by
  rcases List.mem_cons.1 e with e | e
  ·have:=h.zl;omega
  ·have:=(h.hm c e).1;omega
 unfold Q0 at he
 by_cases nP:90000 < ns.length∨90000 < n.args.length∨90000 < n.ak.length
 ·rw [if_pos nP] at he;cases he
 rw [if_neg nP] at he
 simp only [not_or] at nP
 obtain ⟨iD,fe,fj⟩:=nP
 have A6:∀{H:ad},Sl jG H (.slice none 0 0) [] []/\Sl fy H (.slice none 0 0) [] []/\Sl dB H (.slice none 0 0) [] []:=fun {H}=>⟨.inl ⟨rfl,rfl,rfl⟩,.inl ⟨rfl,rfl,rfl⟩,.inl ⟨rfl,rfl,rfl⟩⟩
 by_cases fM:n.kind=2
 ·rw [if_pos fM] at he
  cases he
  simp only [go_sem,fM,abM]
  obtain ⟨n1A,n1P,n1B⟩:=A6 (H:=(H.push ⟨aJ n (.slice aA n.args.length kA) (.slice aP n.pat.length kP) (.slice aB n.ak.length kB),42,false,false⟩))
  refine af.by (r1.add (n:={kind:=1,mf:=n.mf,a:= -1,b:= -1}) (line:=n.line) (au:=n.au) (by omega) n1A n1P n1B (by simp)) ?_
  rintro _ H2 - ⟨rfl,f2,m2,r2,s2⟩
  have r2:ZR S src gP H z ns m g H2 (ns++[z1 n]) m2 (g++([]++([]++[]))):=r2
  have oR:=(f2.get H.next (Nat.lt_succ_self _) (Pa (Nat.le_refl _))).trans g1
  have ey:H.next+1<=H2.next:=f2.nx
  simp only [go_sem,oR]
  refine af.by X9 ?_
  rintro _ H3 - ⟨rfl,o3,z3⟩
  have r3:=r2.own (o3.fr []) (by simp) (fun c _=>z3 c)
  have yQ:=(o3.get H.next (by omega)).trans oR
  have kr:=o3.nx
  have LP:¬H.next=H3.next:=by omega
  simp only [go_sem,oR,yQ,LP,eA qn (by decide) (by decide)]
  have r4:=r3.push ⟨[iV 2,iV 0,ag n.mf],44,false,false⟩
  have kA4:∀c∈gP,c < H.next->(H3.push ⟨[iV 2,iV 0,ag n.mf],44,false,false⟩).get c=H.get c:=fun c hc hl=>by
   rw [bS (by omega),o3.get c (by omega),f2.get c (by show c < H.next+1;omega) (fun e=>by
    rcases List.mem_cons.1 e with e | e
    ·exact (h.hP c hc).2 e
    ·exact (h.hm c e).2.2.1 hc),o1.get c hl]
  have UT:=hA.ae (H':=(H3.push ⟨[iV 2,iV 0,ag n.mf],44,false,false⟩)) fun c hc=>kA4 c (dQ c (by simp [hc])) (h.hP c (dQ c (by simp [hc]))).1
  refine Xl (x:=⟨2,0,n.mf⟩) (by rw [aU,if_pos rfl]) (Nat.lt_succ_self _) UT (by omega) (hf.fresh (by omega)) ?_
  intro v5 H5 c5 fk jo
  obtain ⟨a5,k5,rfl⟩:=fk.val
  have AL:∀c,H3.next<=c->H.next<=c/\c≠z/\c∉m2/\c∉(g++([]++([]++[])))/\c∉gP:=fun c hc=>⟨by omega,by have:=h.zl;omega,fun e=>by have:=(r3.zq.hm c e).1;omega,fun e=>by have:=(r3.zq.hg c e).1;omega,fun e=>by have:=(h.hP c e).1;omega⟩
  obtain ⟨r5,FN,n35,sX⟩:ZR S src gP H z ns m g H5 (ns++[z1 n]) m2 (g++([]++([]++[])))/\H5.get H.next=H3.get H.next/\H3.next < H5.next/\(H3.next<=c5/\c5 < H5.next):=by
   rcases jo with ⟨rfl,rfl⟩ | ⟨rfl,cs,rfl⟩
   ·exact ⟨r4.own (M:=[H3.next]) ((Fr.refl _ _).ah (b:=H3.next) (.inl (by simp)) _) (fun c hc=>by rw [List.mem_singleton] at hc;subst hc;exact AL _ (Nat.le_refl _)) (fun _ _=>rfl),by rw [az,if_neg LP,bS (by omega)],Nat.lt_succ_self _,Nat.le_refl _,Nat.lt_succ_self _⟩
   ·exact ⟨r4.push _,by rw [bS (by rw [bH];omega),bS (by omega)],by rw [bH,bH];omega,by rw [bH];omega,by rw [bH (H:=H3.push _)];omega⟩
  have Sh:=FN.trans yQ
  obtain ⟨n5A,UU,UW⟩:=A6 (H:=H5)
  simp only [go_sem,Sh,WI]
  refine af.by (r5.add (n:={kind:=10,gV:=n.gV,args:=⟨2,0,n.mf⟩::n.args,a:= -1,b:= -1}) (line:=n.line) (au:=n.au) (by rw [List.length_append,List.length_singleton];omega) fk UU UW (fun c hc=>by
   have hc:c=c5:=by simpa using hc
   subst hc
   exact ⟨sX.2,(AL _ sX.1).2.1,(AL _ sX.1).2.2.1,.inr (AL _ sX.1).1⟩)) ?_
  rintro _ H6 - ⟨rfl,f6,m6,r6,s6⟩
  have r6:ZR S src gP H z ns m g H6 (ns++[z1 n]++[z2 n]) m6 (g++([]++([]++[]))++([c5]++([]++[]))):=r6
  have oM:(ns++[z1 n]).length=ns.length+1:=by rw [List.length_append];rfl
  obtain ⟨b,cs,yM,fP,FO,akg,r7⟩:=r6.sk (l:=ns.length) (by rw [List.length_append,oM];omega) (show 10 < 17 by decide) (v:=iV ((ns.length+1:Nat):Int)) (n':={(ns++[z1 n]++[z2 n])[ns.length]'(by rw [List.length_append,oM];omega) with next:=((ns.length+1:Nat):Int)}) (fun _ _ _=>rfl) rfl rfl rfl
  have fg:=ZR.x h hf r6 b fP
  have dG:ns.length * 20+10 < cs.length:=by omega
  have fU:ns.length * 20+10+1<=cs.length:=by omega
  rw [oM]
  have jt:ns.length < (ns++[z1 n]++[z2 n]).length:=by rw [List.length_append,oM];omega
  simp only [go_sem,yM,FO,fg,jt,dG,fU,akg,eG dG]
  have kt:((ns++[z1 n]++[z2 n]).getD ns.length {})=(ns++[z1 n]++[z2 n])[ns.length]:=by rw [List.getD_eq_getElem?_getD,List.getElem?_eq_getElem jt];rfl
  rw [j9,kt]
  exact r7.last
 rw [if_neg fM] at he
 by_cases yh:n.kind=14
 ·rw [if_pos yh] at he
  cases he
  simp only [go_sem,fM,yh]
  refine af.by X9 ?_
  rintro _ H3 - ⟨rfl,o3,z3⟩
  have r3:=r1.own (o3.fr []) (by simp) (fun c _=>z3 c)
  have kr:H.next+1<=H3.next:=o3.nx
  have yQ:=(o3.get H.next (Nat.lt_succ_self _)).trans g1
  have LP:¬H.next=H3.next:=by omega
  simp only [go_sem,yQ,LP,eA qn (by decide) (by decide)]
  have r4:=r3.push ⟨[iV 2,iV 0,ag [115,101,108,102]],44,false,false⟩
  have UT:=hA.ae (H':=(H3.push ⟨[iV 2,iV 0,ag [115,101,108,102]],44,false,false⟩)) fun c hc=>by
   have:=(h.hP c (dQ c (by simp [hc]))).1
   rw [bS (by omega),o3.get c (by show c < H.next+1;omega),o1.get c this]
  refine Xl (x:=⟨2,0,[115,101,108,102]⟩) (by rw [aU,if_pos rfl]) (Nat.lt_succ_self _) UT (by omega) (hf.fresh (by omega)) ?_
  intro v5 H5 c5 fk jo
  obtain ⟨a5,k5,rfl⟩:=fk.val
  have AL:∀c,H3.next<=c->H.next<=c/\c≠z/\c∉m/\c∉g/\c∉gP:=fun c hc=>⟨by omega,by have:=h.zl;omega,fun e=>by have:=(h.hm c e).1;omega,fun e=>by have:=(h.hg c e).1;omega,fun e=>by have:=(h.hP c e).1;omega⟩
  obtain ⟨r5,FN,n35,sX⟩:ZR S src gP H z ns m g H5 ns m g/\H5.get H.next=H3.get H.next/\H3.next < H5.next/\(H3.next<=c5/\c5 < H5.next):=by
   rcases jo with ⟨rfl,rfl⟩ | ⟨rfl,cs,rfl⟩
   ·exact ⟨r4.own (M:=[H3.next]) ((Fr.refl _ _).ah (b:=H3.next) (.inl (by simp)) _) (fun c hc=>by rw [List.mem_singleton] at hc;subst hc;exact AL _ (Nat.le_refl _)) (fun _ _=>rfl),by rw [az,if_neg LP,bS (by omega)],Nat.lt_succ_self _,Nat.le_refl _,Nat.lt_succ_self _⟩
   ·exact ⟨r4.push _,by rw [bS (by rw [bH];omega),bS (by omega)],by rw [bH,bH];omega,by rw [bH];omega,by rw [bH (H:=H3.push _)];omega⟩
  have Sh:=FN.trans yQ
  obtain ⟨n5A,UU,UW⟩:=A6 (H:=H5)
  obtain ⟨qN5,IM,_⟩:=r5.zq.row
  simp only [go_sem,Sh,IM,WI]
  refine af.by (r5.add (n:={kind:=13,gV:=S.self,args:=⟨2,0,[115,101,108,102]⟩::n.args,a:= -1,b:= -1}) (line:=n.line) (au:=n.au) (by omega) fk UU UW (fun c hc=>by
   have hc:c=c5:=by simpa using hc
   subst hc
   exact ⟨sX.2,(AL _ sX.1).2.1,(AL _ sX.1).2.2.1,.inr (AL _ sX.1).1⟩)) ?_
  rintro _ H6 - ⟨rfl,f6,m6,r6,s6⟩
  simp only [go_sem]
  exact r6.last
 rw [if_neg yh] at he
 have hA1:=hA.ae (H':=(H.push ⟨aJ n (.slice aA n.args.length kA) (.slice aP n.pat.length kP) (.slice aB n.ak.length kB),42,false,false⟩)) fun c hc=>o1.get c (h.hP c (dQ c (by simp [hc]))).1
 have hQ1:=hQ.ae (H':=(H.push ⟨aJ n (.slice aA n.args.length kA) (.slice aP n.pat.length kP) (.slice aB n.ak.length kB),42,false,false⟩)) fun c hc=>o1.get c (h.hP c (dQ c (by simp [hc]))).1
 have pr:=hB.ae (H':=(H.push ⟨aJ n (.slice aA n.args.length kA) (.slice aP n.pat.length kP) (.slice aB n.ak.length kB),42,false,false⟩)) fun c hc=>o1.get c (h.hP c (dQ c (by simp [hc]))).1
 simp only [go_sem,fM,yh,g1]
 refine af.by (r1.add (n:=n) (line:=n.line) (au:=n.au) (by omega) hA1 hQ1 pr (fun c hc=>⟨by have:=(h.hP c (dQ c hc)).1;omega,(h.hP c (dQ c hc)).2,fun e=>(h.hm c e).2.2.1 (dQ c hc),.inl (dQ c hc)⟩)) ?_
 rintro _ H2 - ⟨rfl,f2,m2,r2,s2⟩
 have oR:=(f2.get H.next (Nat.lt_succ_self _) (Pa (Nat.le_refl _))).trans g1
 have r2:ZR S src gP H z ns m g H2 (ns++[{n with line:=n.line,au:=n.au,next:= -1}]) m2 (g++(gA++(gQ++gB))):=r2
 have akh:∀c∈m2,c≠H.next:=fun c hc e=>by
  rcases s2 c hc with e' | e'
  ·have:=(h.hm c e').1;omega
  ·have:H.next+1<=c:=e'
   omega
 simp only [go_sem,oR]
 have HF:H.next < H2.next:=f2.nx
 have NK:=akh
 have oM:ns.length < (ns++[({n with line:=n.line,au:=n.au,next:= -1}:aH)]).length:=by rw [List.length_append,List.length_singleton];omega
 by_cases jK:0<=n.a
 ·cases Dw:bd n.a (ns++[{n with line:=n.line,au:=n.au,next:= -1}]) with
  | none=>rw [yg,if_pos jK,Dw] at he;cases he
  | some BP=>
  obtain ⟨iP,xf⟩:=BP
  rw [yg,if_pos jK,Dw] at he
  simp only [Option.map_some,Option.bind_some] at he
  simp only [go_sem,jK,oR]
  refine af.by (jn r2.zq Dw) ?_
  rintro _ HP - ⟨rfl,pP⟩
  have lP:ns.length < xf.length:=Nat.lt_of_lt_of_le oM pP.2.2.1
  have Pb:=(pP.1.get H.next (by have:=r2.fr.nx;have:=HF;omega) (by
   simp only [List.mem_cons,not_or]
   exact ⟨by have:=h.zl;omega,fun e=>NK _ e rfl⟩)).trans oR
  have aki:H.next < HP.next:=by have:=pP.1.nx;have:=HF;omega
  obtain ⟨mP,rG,rP,sP,_⟩:=r2.call pP
  have YF:∀c∈mP,c≠H.next:=fun c hc e=>(sP c hc).elim (fun e'=>NK c e' e) fun e'=>by have:=HF;omega
  obtain ⟨bP,IN,hzP,ZE,akj,akk,Ak⟩:=rP.sk lP (show 8 < 17 by decide) (v:=iV iP) (n':={xf[ns.length] with a:=iP}) (fun _ _ _=>rfl) rfl rfl rfl
  have akl:=ZR.x h hf rP bP ZE
  have ZF:ns.length * 20+8 < IN.length:=by omega
  have akm:ns.length * 20+8+1<=IN.length:=by omega
  have Oa:¬H.next=bP:=fun e=>YF _ ZE e.symm
  have akn:(xf.getD ns.length {})=xf[ns.length]:=by rw [List.getD_eq_getElem?_getD,List.getElem?_eq_getElem lP];rfl
  rw [akn] at he
  simp only [go_sem,hzP,akj,akl,lP,ZF,akm,akk,Oa,Pb,eG ZF]
  have llP:ns.length < (xf.set ns.length {xf[ns.length] with a:=iP}).length:=by rw [List.length_set];exact lP
  have gbX:(HP.ah bP ⟨IN.set (ns.length * 20+8) (iV iP),42,true,false⟩).get H.next=some ⟨aJ n (.slice aA n.args.length kA) (.slice aP n.pat.length kP) (.slice aB n.ak.length kB),42,false,false⟩:=by rw [az,if_neg Oa];exact Pb
  have Si:H.next < (HP.ah bP ⟨IN.set (ns.length * 20+8) (iV iP),42,true,false⟩).next:=aki
  have ZG:=YF
  by_cases gI:0<=n.b
  ·cases FP:bd n.b (xf.set ns.length {xf[ns.length] with a:=iP}) with
   | none=>rw [yg,if_pos gI,FP] at he;cases he
   | some BQ=>
   obtain ⟨iQ,nD⟩:=BQ
   rw [yg,if_pos gI,FP] at he
   simp only [Option.map_some,Option.bind_some] at he
   simp only [go_sem,gI,Pb,Oa]
   refine af.by (jn Ak.zq FP) ?_
   rintro _ HQ - ⟨rfl,pQ⟩
   have lQ:ns.length < nD.length:=Nat.lt_of_lt_of_le llP pQ.2.2.1
   have UX:=(pQ.1.get H.next (by have:=Ak.fr.nx;have:=Si;omega) (by
    simp only [List.mem_cons,not_or]
    exact ⟨by have:=h.zl;omega,fun e=>ZG _ e rfl⟩)).trans gbX
   have ako:H.next < HQ.next:=by have:=pQ.1.nx;have:=Si;omega
   obtain ⟨mQ,sY,rQ,sQ,_⟩:=Ak.call pQ
   have Rw:∀c∈mQ,c≠H.next:=fun c hc e=>(sQ c hc).elim (fun e'=>ZG c e' e) fun e'=>by have:=Si;omega
   obtain ⟨bQ,BV,UY,KC,Sj,Sk,sZ⟩:=rQ.sk lQ (show 9 < 17 by decide) (v:=iV iQ) (n':={nD[ns.length] with b:=iQ}) (fun _ _ _=>rfl) rfl rfl rfl
   have Sm:=ZR.x h hf rQ bQ KC
   have KD:ns.length * 20+9 < BV.length:=by omega
   have Sn:ns.length * 20+9+1<=BV.length:=by omega
   have So:¬H.next=bQ:=fun e=>Rw _ KC e.symm
   have Sp:(nD.getD ns.length {})=nD[ns.length]:=by rw [List.getD_eq_getElem?_getD,List.getElem?_eq_getElem lQ];rfl
   rw [Sp] at he
   simp only [go_sem,UY,Sj,Sm,lQ,KD,Sn,Sk,So,UX,eG KD]
   have UZ:ns.length < (nD.set ns.length {nD[ns.length] with b:=iQ}).length:=by rw [List.length_set];exact lQ
   have uI:∀c∈gP,c∉z::m:=fun c hc e=>by
    rcases List.mem_cons.1 e with e | e
    ·exact (h.hP c hc).2 e
    ·exact (h.hm c e).2.2.1 hc
   have BW:=hB.ae (H':=(HQ.ah bQ ⟨BV.set (ns.length * 20+9) (iV iQ),42,true,false⟩)) fun c hc=>sZ.fr.get c (h.hP c (dQ c (by simp [hc]))).1 (uI c (dQ c (by simp [hc])))
   refine xy (r:=dB) rX BW (by omega) (fun b hb=>Nat.lt_of_lt_of_le (h.hP b (dQ b (by simp [hb]))).1 sZ.fr.nx) ?_
   intro vL H6 mL gL ni pL jo
   obtain ⟨r6,BM⟩:ZR S src gP H z ns m g H6 (nD.set ns.length {nD[ns.length] with b:=iQ}) mQ sY/\∀c∈mL,(HQ.ah bQ ⟨BV.set (ns.length * 20+9) (iV iQ),42,true,false⟩).next<=c/\c < H6.next:=by
    rcases jo with ⟨rfl,rfl⟩ | ⟨rfl,cs,rfl⟩
    ·exact ⟨sZ,by simp⟩
    ·exact ⟨sZ.push _,fun c hc=>by rw [List.mem_singleton] at hc;subst hc;exact ⟨Nat.le_refl _,Nat.lt_succ_self _⟩⟩
   obtain ⟨aL,pO⟩:=ni.val
   subst pO
   cases cO:tX bd n.ak [] (nD.set ns.length {nD[ns.length] with b:=iQ}) with
   | none=>rw [cO] at he;cases he
   | some ZB=>
   rw [cO] at he
   cases he
   have oM:=UZ
   have U0:=sZ.fr.nx
   simp only [go_sem]
   refine il 174219254951537353629756183776824202919936 n.ak.length (fun i V H7=>V 122=iV (i:Nat)/\∃iW m7 g7 done,ZR S src gP H z ns m g H7 iW m7 g7/\Gr dB 52 H7 (.slice aL n.ak.length n.ak.length) (done++n.ak.drop i) mL gL/\(∀c∈mL,H.next<=c/\c < H7.next/\c∉m7/\c∉g7)/\done.length=i/\tX bd (n.ak.drop i) done iW=some ZB/\ns.length < iW.length)
    ⟨by simp only [go_sem] <;> rfl,_,mQ,_,[],r6,ni,fun c hc=>?_,rfl,cO,oM⟩ ?_ ?_ (by rfl)
   ·have:=BM c hc
    exact ⟨by omega,this.2,fun e=>by have:=(sZ.zq.hm c e).1;omega,fun e=>by have:=(sZ.zq.hg c e).1;omega⟩
   ·rintro i V H7 hi ⟨ei,iW,m7,g7,done,r7,bG,sv,db,fK,mK⟩
    have hx:n.ak[i]?=some (n.ak[i]'hi):=List.getElem?_eq_getElem hi
    have cB:n.ak.drop i=(n.ak[i]'hi)::n.ak.drop (i+1):=(List.getElem_cons_drop hi).symm
    generalize (n.ak[i]'hi)=x at hx cB
    rw [cB] at bG fK
    rw [tX] at fK
    have c6:i < (done++x::n.ak.drop (i+1)).length:=by rw [List.length_append,List.length_cons];omega
    have pA:(done++x::n.ak.drop (i+1))[i]'c6=x:=by subst db;simp
    have eV:∀y:eZ,(done++x::n.ak.drop (i+1)).set i y=(done++[y])++n.ak.drop (i+1):=fun y=>by subst db;simp
    obtain ⟨b5,dC,f1,f2,f3,jy,rfl,iy,Sq,rfl,iJ,s0,Ek⟩:=bG.put c6
    rw [pA] at s0
    obtain ⟨vS,vN,u1,u2,ji,rfl,t5,t6⟩:=s0
    simp only [Value.slice.injEq] at jy
    obtain ⟨rfl,ig,_⟩:=jy
    have fC:dB.sz=7:=rfl
    rw [fC] at iJ ji
    have iv:dC[i * 7+2]?=some (iV x.body):=by
     have:((dC.drop (i * 7)).take 7)[2]?=some (iV x.body):=by rw [ji];rfl
     rw [List.getElem?_take,if_pos (by decide),List.getElem?_drop] at this
     exact this
    cases hJ:bd x.body iW with
    | none=>rw [hJ] at fK;cases fK
    | some BB=>
    obtain ⟨bi,FQ⟩:=BB
    rw [hJ] at fK
    simp only [Option.bind_some] at fK
    have bX:IntKind.wrap .i64 (((i:Nat):Int)+1)=((i+1:Nat):Int):=cW hi (by omega)
    have dy:=sv b5 (by simp)
    have i9:H.fz b5=false:=hf.fresh dy.1
    have yR:i * 7+7<=dC.length:=iJ
    have iK:i * 7+2 < dC.length:=by omega
    have yS:i * 7+2+1<=dC.length:=by omega
    simp only [go_sem,ei,hi,iy,iv,iK,yS,yR]
    refine af.by (jn r7.zq hJ) ?_
    rintro _ H8 - ⟨rfl,p8⟩
    obtain ⟨m8,g8,r8,s8,t8⟩:=r7.call p8
    have q1:=p8.1
    have q3:=p8.2.2.1
    have Al:=q1.nx
    have Ip:=h.zl
    have FR:b5∉z::m7:=fun e=>by
     rcases List.mem_cons.1 e with e | e
     ·omega
     ·exact dy.2.2.1 e
    have Am:=(q1.get b5 dy.2.1 FR).trans iy
    have oS:b5∉gP:=fun e=>by have:=(h.hP b5 e).1;have:=dy.1;omega
    have eu:dC.set (i * 7+2) (iV bi)=cT dC (i * dB.sz) (cC {x with body:=bi} vS vN):=by
     have:=xq (vs:=[iV bi]) ji (k:=2) (by decide:2+1<=7) iJ
     rw [eG iK] at this
     rw [this];rfl
    have kg:∀c∈gP,(H8.ah b5 ⟨dC.set (i * 7+2) (iV bi),52,true,false⟩).get c=H7.get c:=fun c hc=>by
     have iT:c≠b5:=fun e=>oS (by rw [<-e];exact hc)
     rw [az,if_neg iT]
     refine q1.get c (by have:=(h.hP c hc).1;have:=r7.fr.nx;omega) fun e=>?_
     rcases List.mem_cons.1 e with e | e
     ·exact (h.hP c hc).2 e
     ·exact (r7.zq.hm c e).2.2.1 hc
    have oT:∀c∈f1++(u1++u2++f3),c∈gP:=fun c hc=>dQ c (by simp [pL c hc])
    have kf:=Ek (H8.ah b5 ⟨dC.set (i * 7+2) (iV bi),52,true,false⟩) (cC {x with body:=bi} vS vN) {x with body:=bi} (u1++u2) (fun y hy=>kg y (oT y (by rcases hy with e | e <;> simp [e]))) (by rw [az,if_pos rfl,eu]) ⟨vS,vN,u1,u2,rfl,rfl,t5.ae fun c hc=>kg c (oT c (by simp [hc])),t6.ae fun c hc=>kg c (oT c (by simp [hc]))⟩ (fun e=>oS (oT b5 (by simp only [List.mem_append] at e ⊢;rcases e with e | e <;> simp [e])))
    rw [eV] at kf
    simp only [go_sem,ei,hi,bX,Am,i9,iK,yS,yR,eG iK]
    have yT:b5∉m8:=fun e=>(s8 b5 e).elim dy.2.2.1 fun e=>by have:=dy.2.1;omega
    have yU:b5∉g8:=fun e=>(t8 b5 e).elim dy.2.2.2 fun e=>e.elim oS fun e=>by have:=dy.2.1;omega
    have r9:=r8.own (M:=[b5]) ((Fr.refl _ _).ah (b:=b5) (.inl (by simp)) ⟨dC.set (i * 7+2) (iV bi),52,true,false⟩) (fun c hc=>by
     rw [List.mem_singleton] at hc
     subst hc
     exact ⟨dy.1,by have:=dy.1;omega,yT,yU,oS⟩) (fun _ _=>rfl)
    refine ⟨FQ,m8,g8,done++[{x with body:=bi}],r9,kf,fun c hc=>?_,by rw [List.length_append,List.length_singleton,db],fK,Nat.lt_of_lt_of_le mK q3⟩
    rw [List.mem_singleton] at hc
    subst hc
    exact ⟨dy.1,by have:=dy.2.1;omega,yT,yU⟩
   ·rintro V H7 ⟨ei,iW,m7,g7,done,r7,bG,sv,db,fK,mK⟩
    rw [List.drop_length] at bG fK
    cases fK
    have AW:∀c∈mL++gL,c < H7.next/\c≠z/\c∉m7/\(c∈gP∨H.next<=c):=fun c hc=>by
     rcases List.mem_append.1 hc with e | e
     ·have:=sv c e
      exact ⟨this.2.1,by have:=h.zl;omega,this.2.2.1,.inr this.1⟩
     ·have hp:=dQ c (by simp [pL c e])
      exact ⟨by have:=(h.hP c hp).1;have:=r7.fr.nx;omega,(h.hP c hp).2,fun e=>(r7.zq.hm c e).2.2.1 hp,.inl hp⟩
    obtain ⟨b,cs,sW,fP,FT,EK,g8,r8⟩:=r7.J9 mK bG.sl AW
    have fg:=ZR.x h hf r7 b fP
    have dG:ns.length * 20+19 < cs.length:=by omega
    have fU:ns.length * 20+19+1<=cs.length:=by omega
    simp only [go_sem,ei,sW,FT,fg,mK,dG,fU,EK,eG dG]
    rw [List.append_nil] at r8
    exact r8.last
  ·rw [yg,if_neg gI] at he
   simp only [Option.bind_some] at he
   simp only [go_sem,gI,Oa,Pb]
   have uI:∀c∈gP,c∉z::m:=fun c hc e=>by
    rcases List.mem_cons.1 e with e | e
    ·exact (h.hP c hc).2 e
    ·exact (h.hm c e).2.2.1 hc
   have BW:=hB.ae (H':=(HP.ah bP ⟨IN.set (ns.length * 20+8) (iV iP),42,true,false⟩)) fun c hc=>Ak.fr.get c (h.hP c (dQ c (by simp [hc]))).1 (uI c (dQ c (by simp [hc])))
   refine xy (r:=dB) rX BW (by omega) (fun b hb=>Nat.lt_of_lt_of_le (h.hP b (dQ b (by simp [hb]))).1 Ak.fr.nx) ?_
   intro vL H6 mL gL ni pL jo
   obtain ⟨r6,BM⟩:ZR S src gP H z ns m g H6 (xf.set ns.length {xf[ns.length] with a:=iP}) mP rG/\∀c∈mL,(HP.ah bP ⟨IN.set (ns.length * 20+8) (iV iP),42,true,false⟩).next<=c/\c < H6.next:=by
    rcases jo with ⟨rfl,rfl⟩ | ⟨rfl,cs,rfl⟩
    ·exact ⟨Ak,by simp⟩
    ·exact ⟨Ak.push _,fun c hc=>by rw [List.mem_singleton] at hc;subst hc;exact ⟨Nat.le_refl _,Nat.lt_succ_self _⟩⟩
   obtain ⟨aL,pO⟩:=ni.val
   subst pO
   cases cO:tX bd n.ak [] (xf.set ns.length {xf[ns.length] with a:=iP}) with
   | none=>rw [cO] at he;cases he
   | some ZB=>
   rw [cO] at he
   cases he
   have oM:=llP
   have U0:=Ak.fr.nx
   simp only [go_sem]
   refine il 174219254951537353629756183776824202919936 n.ak.length (fun i V H7=>V 122=iV (i:Nat)/\∃iW m7 g7 done,ZR S src gP H z ns m g H7 iW m7 g7/\Gr dB 52 H7 (.slice aL n.ak.length n.ak.length) (done++n.ak.drop i) mL gL/\(∀c∈mL,H.next<=c/\c < H7.next/\c∉m7/\c∉g7)/\done.length=i/\tX bd (n.ak.drop i) done iW=some ZB/\ns.length < iW.length)
    ⟨by simp only [go_sem] <;> rfl,_,mP,_,[],r6,ni,fun c hc=>?_,rfl,cO,oM⟩ ?_ ?_ (by rfl)
   ·have:=BM c hc
    exact ⟨by omega,this.2,fun e=>by have:=(Ak.zq.hm c e).1;omega,fun e=>by have:=(Ak.zq.hg c e).1;omega⟩
   ·rintro i V H7 hi ⟨ei,iW,m7,g7,done,r7,bG,sv,db,fK,mK⟩
    have hx:n.ak[i]?=some (n.ak[i]'hi):=List.getElem?_eq_getElem hi
    have cB:n.ak.drop i=(n.ak[i]'hi)::n.ak.drop (i+1):=(List.getElem_cons_drop hi).symm
    generalize (n.ak[i]'hi)=x at hx cB
    rw [cB] at bG fK
    rw [tX] at fK
    have c6:i < (done++x::n.ak.drop (i+1)).length:=by rw [List.length_append,List.length_cons];omega
    have pA:(done++x::n.ak.drop (i+1))[i]'c6=x:=by subst db;simp
    have eV:∀y:eZ,(done++x::n.ak.drop (i+1)).set i y=(done++[y])++n.ak.drop (i+1):=fun y=>by subst db;simp
    obtain ⟨b5,dC,f1,f2,f3,jy,rfl,iy,Sq,rfl,iJ,s0,Ek⟩:=bG.put c6
    rw [pA] at s0
    obtain ⟨vS,vN,u1,u2,ji,rfl,t5,t6⟩:=s0
    simp only [Value.slice.injEq] at jy
    obtain ⟨rfl,ig,_⟩:=jy
    have fC:dB.sz=7:=rfl
    rw [fC] at iJ ji
    have iv:dC[i * 7+2]?=some (iV x.body):=by
     have:((dC.drop (i * 7)).take 7)[2]?=some (iV x.body):=by rw [ji];rfl
     rw [List.getElem?_take,if_pos (by decide),List.getElem?_drop] at this
     exact this
    cases hJ:bd x.body iW with
    | none=>rw [hJ] at fK;cases fK
    | some BB=>
    obtain ⟨bi,FQ⟩:=BB
    rw [hJ] at fK
    simp only [Option.bind_some] at fK
    have bX:IntKind.wrap .i64 (((i:Nat):Int)+1)=((i+1:Nat):Int):=cW hi (by omega)
    have dy:=sv b5 (by simp)
    have i9:H.fz b5=false:=hf.fresh dy.1
    have yR:i * 7+7<=dC.length:=iJ
    have iK:i * 7+2 < dC.length:=by omega
    have yS:i * 7+2+1<=dC.length:=by omega
    simp only [go_sem,ei,hi,iy,iv,iK,yS,yR]
    refine af.by (jn r7.zq hJ) ?_
    rintro _ H8 - ⟨rfl,p8⟩
    obtain ⟨m8,g8,r8,s8,t8⟩:=r7.call p8
    have q1:=p8.1
    have q3:=p8.2.2.1
    have Al:=q1.nx
    have Ip:=h.zl
    have FR:b5∉z::m7:=fun e=>by
     rcases List.mem_cons.1 e with e | e
     ·omega
     ·exact dy.2.2.1 e
    have Am:=(q1.get b5 dy.2.1 FR).trans iy
    have oS:b5∉gP:=fun e=>by have:=(h.hP b5 e).1;have:=dy.1;omega
    have eu:dC.set (i * 7+2) (iV bi)=cT dC (i * dB.sz) (cC {x with body:=bi} vS vN):=by
     have:=xq (vs:=[iV bi]) ji (k:=2) (by decide:2+1<=7) iJ
     rw [eG iK] at this
     rw [this];rfl
    have kg:∀c∈gP,(H8.ah b5 ⟨dC.set (i * 7+2) (iV bi),52,true,false⟩).get c=H7.get c:=fun c hc=>by
     have iT:c≠b5:=fun e=>oS (by rw [<-e];exact hc)
     rw [az,if_neg iT]
     refine q1.get c (by have:=(h.hP c hc).1;have:=r7.fr.nx;omega) fun e=>?_
     rcases List.mem_cons.1 e with e | e
     ·exact (h.hP c hc).2 e
     ·exact (r7.zq.hm c e).2.2.1 hc
    have oT:∀c∈f1++(u1++u2++f3),c∈gP:=fun c hc=>dQ c (by simp [pL c hc])
    have kf:=Ek (H8.ah b5 ⟨dC.set (i * 7+2) (iV bi),52,true,false⟩) (cC {x with body:=bi} vS vN) {x with body:=bi} (u1++u2) (fun y hy=>kg y (oT y (by rcases hy with e | e <;> simp [e]))) (by rw [az,if_pos rfl,eu]) ⟨vS,vN,u1,u2,rfl,rfl,t5.ae fun c hc=>kg c (oT c (by simp [hc])),t6.ae fun c hc=>kg c (oT c (by simp [hc]))⟩ (fun e=>oS (oT b5 (by simp only [List.mem_append] at e ⊢;rcases e with e | e <;> simp [e])))
    rw [eV] at kf
    simp only [go_sem,ei,hi,bX,Am,i9,iK,yS,yR,eG iK]
    have yT:b5∉m8:=fun e=>(s8 b5 e).elim dy.2.2.1 fun e=>by have:=dy.2.1;omega
    have yU:b5∉g8:=fun e=>(t8 b5 e).elim dy.2.2.2 fun e=>e.elim oS fun e=>by have:=dy.2.1;omega
    have r9:=r8.own (M:=[b5]) ((Fr.refl _ _).ah (b:=b5) (.inl (by simp)) ⟨dC.set (i * 7+2) (iV bi),52,true,false⟩) (fun c hc=>by
     rw [List.mem_singleton] at hc
     subst hc
     exact ⟨dy.1,by have:=dy.1;omega,yT,yU,oS⟩) (fun _ _=>rfl)
    refine ⟨FQ,m8,g8,done++[{x with body:=bi}],r9,kf,fun c hc=>?_,by rw [List.length_append,List.length_singleton,db],fK,Nat.lt_of_lt_of_le mK q3⟩
    rw [List.mem_singleton] at hc
    subst hc
    exact ⟨dy.1,by have:=dy.2.1;omega,yT,yU⟩
   ·rintro V H7 ⟨ei,iW,m7,g7,done,r7,bG,sv,db,fK,mK⟩
    rw [List.drop_length] at bG fK
    cases fK
    have AW:∀c∈mL++gL,c < H7.next/\c≠z/\c∉m7/\(c∈gP∨H.next<=c):=fun c hc=>by
     rcases List.mem_append.1 hc with e | e
     ·have:=sv c e
      exact ⟨this.2.1,by have:=h.zl;omega,this.2.2.1,.inr this.1⟩
     ·have hp:=dQ c (by simp [pL c e])
      exact ⟨by have:=(h.hP c hp).1;have:=r7.fr.nx;omega,(h.hP c hp).2,fun e=>(r7.zq.hm c e).2.2.1 hp,.inl hp⟩
    obtain ⟨b,cs,sW,fP,FT,EK,g8,r8⟩:=r7.J9 mK bG.sl AW
    have fg:=ZR.x h hf r7 b fP
    have dG:ns.length * 20+19 < cs.length:=by omega
    have fU:ns.length * 20+19+1<=cs.length:=by omega
    simp only [go_sem,ei,sW,FT,fg,mK,dG,fU,EK,eG dG]
    rw [List.append_nil] at r8
    exact r8.last
 ·rw [yg,if_neg jK] at he
  simp only [Option.bind_some] at he
  simp only [go_sem,jK,oR]
  by_cases gI:0<=n.b
  ·cases FP:bd n.b (ns++[{n with line:=n.line,au:=n.au,next:= -1}]) with
   | none=>rw [yg,if_pos gI,FP] at he;cases he
   | some BQ=>
   obtain ⟨iQ,nD⟩:=BQ
   rw [yg,if_pos gI,FP] at he
   simp only [Option.map_some,Option.bind_some] at he
   simp only [go_sem,gI,oR]
   refine af.by (jn r2.zq FP) ?_
   rintro _ HQ - ⟨rfl,pQ⟩
   have lQ:ns.length < nD.length:=Nat.lt_of_lt_of_le oM pQ.2.2.1
   have UX:=(pQ.1.get H.next (by have:=r2.fr.nx;have:=HF;omega) (by
    simp only [List.mem_cons,not_or]
    exact ⟨by have:=h.zl;omega,fun e=>NK _ e rfl⟩)).trans oR
   have ako:H.next < HQ.next:=by have:=pQ.1.nx;have:=HF;omega
   obtain ⟨mQ,sY,rQ,sQ,_⟩:=r2.call pQ
   have Rw:∀c∈mQ,c≠H.next:=fun c hc e=>(sQ c hc).elim (fun e'=>NK c e' e) fun e'=>by have:=HF;omega
   obtain ⟨bQ,BV,UY,KC,Sj,Sk,sZ⟩:=rQ.sk lQ (show 9 < 17 by decide) (v:=iV iQ) (n':={nD[ns.length] with b:=iQ}) (fun _ _ _=>rfl) rfl rfl rfl
   have Sm:=ZR.x h hf rQ bQ KC
   have KD:ns.length * 20+9 < BV.length:=by omega
   have Sn:ns.length * 20+9+1<=BV.length:=by omega
   have So:¬H.next=bQ:=fun e=>Rw _ KC e.symm
   have Sp:(nD.getD ns.length {})=nD[ns.length]:=by rw [List.getD_eq_getElem?_getD,List.getElem?_eq_getElem lQ];rfl
   rw [Sp] at he
   simp only [go_sem,UY,Sj,Sm,lQ,KD,Sn,Sk,So,UX,eG KD]
   have UZ:ns.length < (nD.set ns.length {nD[ns.length] with b:=iQ}).length:=by rw [List.length_set];exact lQ
   have uI:∀c∈gP,c∉z::m:=fun c hc e=>by
    rcases List.mem_cons.1 e with e | e
    ·exact (h.hP c hc).2 e
    ·exact (h.hm c e).2.2.1 hc
   have BW:=hB.ae (H':=(HQ.ah bQ ⟨BV.set (ns.length * 20+9) (iV iQ),42,true,false⟩)) fun c hc=>sZ.fr.get c (h.hP c (dQ c (by simp [hc]))).1 (uI c (dQ c (by simp [hc])))
   refine xy (r:=dB) rX BW (by omega) (fun b hb=>Nat.lt_of_lt_of_le (h.hP b (dQ b (by simp [hb]))).1 sZ.fr.nx) ?_
   intro vL H6 mL gL ni pL jo
   obtain ⟨r6,BM⟩:ZR S src gP H z ns m g H6 (nD.set ns.length {nD[ns.length] with b:=iQ}) mQ sY/\∀c∈mL,(HQ.ah bQ ⟨BV.set (ns.length * 20+9) (iV iQ),42,true,false⟩).next<=c/\c < H6.next:=by
    rcases jo with ⟨rfl,rfl⟩ | ⟨rfl,cs,rfl⟩
    ·exact ⟨sZ,by simp⟩
    ·exact ⟨sZ.push _,fun c hc=>by rw [List.mem_singleton] at hc;subst hc;exact ⟨Nat.le_refl _,Nat.lt_succ_self _⟩⟩
   obtain ⟨aL,pO⟩:=ni.val
   subst pO
   cases cO:tX bd n.ak [] (nD.set ns.length {nD[ns.length] with b:=iQ}) with
   | none=>rw [cO] at he;cases he
   | some ZB=>
   rw [cO] at he
   cases he
   have oM:=UZ
   have U0:=sZ.fr.nx
   simp only [go_sem]
   refine il 174219254951537353629756183776824202919936 n.ak.length (fun i V H7=>V 122=iV (i:Nat)/\∃iW m7 g7 done,ZR S src gP H z ns m g H7 iW m7 g7/\Gr dB 52 H7 (.slice aL n.ak.length n.ak.length) (done++n.ak.drop i) mL gL/\(∀c∈mL,H.next<=c/\c < H7.next/\c∉m7/\c∉g7)/\done.length=i/\tX bd (n.ak.drop i) done iW=some ZB/\ns.length < iW.length)
    ⟨by simp only [go_sem] <;> rfl,_,mQ,_,[],r6,ni,fun c hc=>?_,rfl,cO,oM⟩ ?_ ?_ (by rfl)
   ·have:=BM c hc
    exact ⟨by omega,this.2,fun e=>by have:=(sZ.zq.hm c e).1;omega,fun e=>by have:=(sZ.zq.hg c e).1;omega⟩
   ·rintro i V H7 hi ⟨ei,iW,m7,g7,done,r7,bG,sv,db,fK,mK⟩
    have hx:n.ak[i]?=some (n.ak[i]'hi):=List.getElem?_eq_getElem hi
    have cB:n.ak.drop i=(n.ak[i]'hi)::n.ak.drop (i+1):=(List.getElem_cons_drop hi).symm
    generalize (n.ak[i]'hi)=x at hx cB
    rw [cB] at bG fK
    rw [tX] at fK
    have c6:i < (done++x::n.ak.drop (i+1)).length:=by rw [List.length_append,List.length_cons];omega
    have pA:(done++x::n.ak.drop (i+1))[i]'c6=x:=by subst db;simp
    have eV:∀y:eZ,(done++x::n.ak.drop (i+1)).set i y=(done++[y])++n.ak.drop (i+1):=fun y=>by subst db;simp
    obtain ⟨b5,dC,f1,f2,f3,jy,rfl,iy,Sq,rfl,iJ,s0,Ek⟩:=bG.put c6
    rw [pA] at s0
    obtain ⟨vS,vN,u1,u2,ji,rfl,t5,t6⟩:=s0
    simp only [Value.slice.injEq] at jy
    obtain ⟨rfl,ig,_⟩:=jy
    have fC:dB.sz=7:=rfl
    rw [fC] at iJ ji
    have iv:dC[i * 7+2]?=some (iV x.body):=by
     have:((dC.drop (i * 7)).take 7)[2]?=some (iV x.body):=by rw [ji];rfl
     rw [List.getElem?_take,if_pos (by decide),List.getElem?_drop] at this
     exact this
    cases hJ:bd x.body iW with
    | none=>rw [hJ] at fK;cases fK
    | some BB=>
    obtain ⟨bi,FQ⟩:=BB
    rw [hJ] at fK
    simp only [Option.bind_some] at fK
    have bX:IntKind.wrap .i64 (((i:Nat):Int)+1)=((i+1:Nat):Int):=cW hi (by omega)
    have dy:=sv b5 (by simp)
    have i9:H.fz b5=false:=hf.fresh dy.1
    have yR:i * 7+7<=dC.length:=iJ
    have iK:i * 7+2 < dC.length:=by omega
    have yS:i * 7+2+1<=dC.length:=by omega
    simp only [go_sem,ei,hi,iy,iv,iK,yS,yR]
    refine af.by (jn r7.zq hJ) ?_
    rintro _ H8 - ⟨rfl,p8⟩
    obtain ⟨m8,g8,r8,s8,t8⟩:=r7.call p8
    have q1:=p8.1
    have q3:=p8.2.2.1
    have Al:=q1.nx
    have Ip:=h.zl
    have FR:b5∉z::m7:=fun e=>by
     rcases List.mem_cons.1 e with e | e
     ·omega
     ·exact dy.2.2.1 e
    have Am:=(q1.get b5 dy.2.1 FR).trans iy
    have oS:b5∉gP:=fun e=>by have:=(h.hP b5 e).1;have:=dy.1;omega
    have eu:dC.set (i * 7+2) (iV bi)=cT dC (i * dB.sz) (cC {x with body:=bi} vS vN):=by
     have:=xq (vs:=[iV bi]) ji (k:=2) (by decide:2+1<=7) iJ
     rw [eG iK] at this
     rw [this];rfl
    have kg:∀c∈gP,(H8.ah b5 ⟨dC.set (i * 7+2) (iV bi),52,true,false⟩).get c=H7.get c:=fun c hc=>by
     have iT:c≠b5:=fun e=>oS (by rw [<-e];exact hc)
     rw [az,if_neg iT]
     refine q1.get c (by have:=(h.hP c hc).1;have:=r7.fr.nx;omega) fun e=>?_
     rcases List.mem_cons.1 e with e | e
     ·exact (h.hP c hc).2 e
     ·exact (r7.zq.hm c e).2.2.1 hc
    have oT:∀c∈f1++(u1++u2++f3),c∈gP:=fun c hc=>dQ c (by simp [pL c hc])
    have kf:=Ek (H8.ah b5 ⟨dC.set (i * 7+2) (iV bi),52,true,false⟩) (cC {x with body:=bi} vS vN) {x with body:=bi} (u1++u2) (fun y hy=>kg y (oT y (by rcases hy with e | e <;> simp [e]))) (by rw [az,if_pos rfl,eu]) ⟨vS,vN,u1,u2,rfl,rfl,t5.ae fun c hc=>kg c (oT c (by simp [hc])),t6.ae fun c hc=>kg c (oT c (by simp [hc]))⟩ (fun e=>oS (oT b5 (by simp only [List.mem_append] at e ⊢;rcases e with e | e <;> simp [e])))
    rw [eV] at kf
    simp only [go_sem,ei,hi,bX,Am,i9,iK,yS,yR,eG iK]
    have yT:b5∉m8:=fun e=>(s8 b5 e).elim dy.2.2.1 fun e=>by have:=dy.2.1;omega
    have yU:b5∉g8:=fun e=>(t8 b5 e).elim dy.2.2.2 fun e=>e.elim oS fun e=>by have:=dy.2.1;omega
    have r9:=r8.own (M:=[b5]) ((Fr.refl _ _).ah (b:=b5) (.inl (by simp)) ⟨dC.set (i * 7+2) (iV bi),52,true,false⟩) (fun c hc=>by
     rw [List.mem_singleton] at hc
     subst hc
     exact ⟨dy.1,by have:=dy.1;omega,yT,yU,oS⟩) (fun _ _=>rfl)
    refine ⟨FQ,m8,g8,done++[{x with body:=bi}],r9,kf,fun c hc=>?_,by rw [List.length_append,List.length_singleton,db],fK,Nat.lt_of_lt_of_le mK q3⟩
    rw [List.mem_singleton] at hc
    subst hc
    exact ⟨dy.1,by have:=dy.2.1;omega,yT,yU⟩
   ·rintro V H7 ⟨ei,iW,m7,g7,done,r7,bG,sv,db,fK,mK⟩
    rw [List.drop_length] at bG fK
    cases fK
    have AW:∀c∈mL++gL,c < H7.next/\c≠z/\c∉m7/\(c∈gP∨H.next<=c):=fun c hc=>by
     rcases List.mem_append.1 hc with e | e
     ·have:=sv c e
      exact ⟨this.2.1,by have:=h.zl;omega,this.2.2.1,.inr this.1⟩
     ·have hp:=dQ c (by simp [pL c e])
      exact ⟨by have:=(h.hP c hp).1;have:=r7.fr.nx;omega,(h.hP c hp).2,fun e=>(r7.zq.hm c e).2.2.1 hp,.inl hp⟩
    obtain ⟨b,cs,sW,fP,FT,EK,g8,r8⟩:=r7.J9 mK bG.sl AW
    have fg:=ZR.x h hf r7 b fP
    have dG:ns.length * 20+19 < cs.length:=by omega
    have fU:ns.length * 20+19+1<=cs.length:=by omega
    simp only [go_sem,ei,sW,FT,fg,mK,dG,fU,EK,eG dG]
    rw [List.append_nil] at r8
    exact r8.last
  ·rw [yg,if_neg gI] at he
   simp only [Option.bind_some] at he
   simp only [go_sem,gI,oR]
   have uI:∀c∈gP,c∉z::m:=fun c hc e=>by
    rcases List.mem_cons.1 e with e | e
    ·exact (h.hP c hc).2 e
    ·exact (h.hm c e).2.2.1 hc
   have BW:=hB.ae (H':=H2) fun c hc=>r2.fr.get c (h.hP c (dQ c (by simp [hc]))).1 (uI c (dQ c (by simp [hc])))
   refine xy (r:=dB) rX BW (by omega) (fun b hb=>Nat.lt_of_lt_of_le (h.hP b (dQ b (by simp [hb]))).1 r2.fr.nx) ?_
   intro vL H6 mL gL ni pL jo
   obtain ⟨r6,BM⟩:ZR S src gP H z ns m g H6 (ns++[{n with line:=n.line,au:=n.au,next:= -1}]) m2 (g++(gA++(gQ++gB)))/\∀c∈mL,H2.next<=c/\c < H6.next:=by
    rcases jo with ⟨rfl,rfl⟩ | ⟨rfl,cs,rfl⟩
    ·exact ⟨r2,by simp⟩
    ·exact ⟨r2.push _,fun c hc=>by rw [List.mem_singleton] at hc;subst hc;exact ⟨Nat.le_refl _,Nat.lt_succ_self _⟩⟩
   obtain ⟨aL,pO⟩:=ni.val
   subst pO
   cases cO:tX bd n.ak [] (ns++[{n with line:=n.line,au:=n.au,next:= -1}]) with
   | none=>rw [cO] at he;cases he
   | some ZB=>
   rw [cO] at he
   cases he
   have oM:ns.length < (ns++[({n with line:=n.line,au:=n.au,next:= -1}:aH)]).length:=by rw [List.length_append,List.length_singleton];omega
   have U0:=r2.fr.nx
   simp only [go_sem]
   refine il 174219254951537353629756183776824202919936 n.ak.length (fun i V H7=>V 122=iV (i:Nat)/\∃iW m7 g7 done,ZR S src gP H z ns m g H7 iW m7 g7/\Gr dB 52 H7 (.slice aL n.ak.length n.ak.length) (done++n.ak.drop i) mL gL/\(∀c∈mL,H.next<=c/\c < H7.next/\c∉m7/\c∉g7)/\done.length=i/\tX bd (n.ak.drop i) done iW=some ZB/\ns.length < iW.length)
    ⟨by simp only [go_sem] <;> rfl,_,m2,_,[],r6,ni,fun c hc=>?_,rfl,cO,oM⟩ ?_ ?_ (by rfl)
   ·have:=BM c hc
    exact ⟨by omega,this.2,fun e=>by have:=(r2.zq.hm c e).1;omega,fun e=>by have:=(r2.zq.hg c e).1;omega⟩
   ·rintro i V H7 hi ⟨ei,iW,m7,g7,done,r7,bG,sv,db,fK,mK⟩
    have hx:n.ak[i]?=some (n.ak[i]'hi):=List.getElem?_eq_getElem hi
    have cB:n.ak.drop i=(n.ak[i]'hi)::n.ak.drop (i+1):=(List.getElem_cons_drop hi).symm
    generalize (n.ak[i]'hi)=x at hx cB
    rw [cB] at bG fK
    rw [tX] at fK
    have c6:i < (done++x::n.ak.drop (i+1)).length:=by rw [List.length_append,List.length_cons];omega
    have pA:(done++x::n.ak.drop (i+1))[i]'c6=x:=by subst db;simp
    have eV:∀y:eZ,(done++x::n.ak.drop (i+1)).set i y=(done++[y])++n.ak.drop (i+1):=fun y=>by subst db;simp
    obtain ⟨b5,dC,f1,f2,f3,jy,rfl,iy,Sq,rfl,iJ,s0,Ek⟩:=bG.put c6
    rw [pA] at s0
    obtain ⟨vS,vN,u1,u2,ji,rfl,t5,t6⟩:=s0
    simp only [Value.slice.injEq] at jy
    obtain ⟨rfl,ig,_⟩:=jy
    have fC:dB.sz=7:=rfl
    rw [fC] at iJ ji
    have iv:dC[i * 7+2]?=some (iV x.body):=by
     have:((dC.drop (i * 7)).take 7)[2]?=some (iV x.body):=by rw [ji];rfl
     rw [List.getElem?_take,if_pos (by decide),List.getElem?_drop] at this
     exact this
    cases hJ:bd x.body iW with
    | none=>rw [hJ] at fK;cases fK
    | some BB=>
    obtain ⟨bi,FQ⟩:=BB
    rw [hJ] at fK
    simp only [Option.bind_some] at fK
    have bX:IntKind.wrap .i64 (((i:Nat):Int)+1)=((i+1:Nat):Int):=cW hi (by omega)
    have dy:=sv b5 (by simp)
    have i9:H.fz b5=false:=hf.fresh dy.1
    have yR:i * 7+7<=dC.length:=iJ
    have iK:i * 7+2 < dC.length:=by omega
    have yS:i * 7+2+1<=dC.length:=by omega
    simp only [go_sem,ei,hi,iy,iv,iK,yS,yR]
    refine af.by (jn r7.zq hJ) ?_
    rintro _ H8 - ⟨rfl,p8⟩
    obtain ⟨m8,g8,r8,s8,t8⟩:=r7.call p8
    have q1:=p8.1
    have q3:=p8.2.2.1
    have Al:=q1.nx
    have Ip:=h.zl
    have FR:b5∉z::m7:=fun e=>by
     rcases List.mem_cons.1 e with e | e
     ·omega
     ·exact dy.2.2.1 e
    have Am:=(q1.get b5 dy.2.1 FR).trans iy
    have oS:b5∉gP:=fun e=>by have:=(h.hP b5 e).1;have:=dy.1;omega
    have eu:dC.set (i * 7+2) (iV bi)=cT dC (i * dB.sz) (cC {x with body:=bi} vS vN):=by
     have:=xq (vs:=[iV bi]) ji (k:=2) (by decide:2+1<=7) iJ
     rw [eG iK] at this
     rw [this];rfl
    have kg:∀c∈gP,(H8.ah b5 ⟨dC.set (i * 7+2) (iV bi),52,true,false⟩).get c=H7.get c:=fun c hc=>by
     have iT:c≠b5:=fun e=>oS (by rw [<-e];exact hc)
     rw [az,if_neg iT]
     refine q1.get c (by have:=(h.hP c hc).1;have:=r7.fr.nx;omega) fun e=>?_
     rcases List.mem_cons.1 e with e | e
     ·exact (h.hP c hc).2 e
     ·exact (r7.zq.hm c e).2.2.1 hc
    have oT:∀c∈f1++(u1++u2++f3),c∈gP:=fun c hc=>dQ c (by simp [pL c hc])
    have kf:=Ek (H8.ah b5 ⟨dC.set (i * 7+2) (iV bi),52,true,false⟩) (cC {x with body:=bi} vS vN) {x with body:=bi} (u1++u2) (fun y hy=>kg y (oT y (by rcases hy with e | e <;> simp [e]))) (by rw [az,if_pos rfl,eu]) ⟨vS,vN,u1,u2,rfl,rfl,t5.ae fun c hc=>kg c (oT c (by simp [hc])),t6.ae fun c hc=>kg c (oT c (by simp [hc]))⟩ (fun e=>oS (oT b5 (by simp only [List.mem_append] at e ⊢;rcases e with e | e <;> simp [e])))
    rw [eV] at kf
    simp only [go_sem,ei,hi,bX,Am,i9,iK,yS,yR,eG iK]
    have yT:b5∉m8:=fun e=>(s8 b5 e).elim dy.2.2.1 fun e=>by have:=dy.2.1;omega
    have yU:b5∉g8:=fun e=>(t8 b5 e).elim dy.2.2.2 fun e=>e.elim oS fun e=>by have:=dy.2.1;omega
    have r9:=r8.own (M:=[b5]) ((Fr.refl _ _).ah (b:=b5) (.inl (by simp)) ⟨dC.set (i * 7+2) (iV bi),52,true,false⟩) (fun c hc=>by
     rw [List.mem_singleton] at hc
     subst hc
     exact ⟨dy.1,by have:=dy.1;omega,yT,yU,oS⟩) (fun _ _=>rfl)
    refine ⟨FQ,m8,g8,done++[{x with body:=bi}],r9,kf,fun c hc=>?_,by rw [List.length_append,List.length_singleton,db],fK,Nat.lt_of_lt_of_le mK q3⟩
    rw [List.mem_singleton] at hc
    subst hc
    exact ⟨dy.1,by have:=dy.2.1;omega,yT,yU⟩
   ·rintro V H7 ⟨ei,iW,m7,g7,done,r7,bG,sv,db,fK,mK⟩
    rw [List.drop_length] at bG fK
    cases fK
    have AW:∀c∈mL++gL,c < H7.next/\c≠z/\c∉m7/\(c∈gP∨H.next<=c):=fun c hc=>by
     rcases List.mem_append.1 hc with e | e
     ·have:=sv c e
      exact ⟨this.2.1,by have:=h.zl;omega,this.2.2.1,.inr this.1⟩
     ·have hp:=dQ c (by simp [pL c e])
      exact ⟨by have:=(h.hP c hp).1;have:=r7.fr.nx;omega,(h.hP c hp).2,fun e=>(r7.zq.hm c e).2.2.1 hp,.inl hp⟩
    obtain ⟨b,cs,sW,fP,FT,EK,g8,r8⟩:=r7.J9 mK bG.sl AW
    have fg:=ZR.x h hf r7 b fP
    have dG:ns.length * 20+19 < cs.length:=by omega
    have fU:ns.length * 20+19+1<=cs.length:=by omega
    simp only [go_sem,ei,sW,FT,fg,mK,dG,fU,EK,eG dG]
    rw [List.append_nil] at r8
    exact r8.last
end
section
variable {S:ZS} {src:List aH} {gP:List Nat} {z:Nat}
def yV (src:List aH) (self:bj):Nat->Zb
 | 0=>fun _ _=>none
 | k+1=>fun i ns=>KA src (Q0 (yV src self k) self) 402 none i ns
theorem QJ (eF:src.length < 100000):∀k,ZbW S src gP z (yV src S.self k)
 | 0=>by
  intro _ he
  cases he
 | k+1=>by
  rename_i H ns ik m g kk i
  intro h he
  exact abL (fun hq hA hQ hB hg hn=>abN (QJ eF k) hq hA hQ hB hg hn) h eF he
end
theorem ade {P:Program} {X:Nat->Bool} {H:ad} {α:Type} {r:Rp α} {t e:TypeId} {dZ b:Nat} {x:α} {v:Value} {l:List α} {g g0:List Nat} {vU:List Value} {K:Value->ad->Prop} {tg:Tag K} (ha:iM P t=some (e,r.sz,dZ)) (Iq:dZ < 1000) (hb:H.get b=some ⟨vU,e,false,false⟩) (hE:r.E H vU x g0) (b7:b < H.next) (h:Sl r H v l g) (hn:l.length < 1000000) (hX:X b=false) (hg0:∀c∈g0,c < H.next/\c≠b) (hg:∀c∈g,c < H.next)
  (hk:∀v' H' c g',Sl r H' v' (x::l) (c::(g0++g'))->(∀d∈g',d∈g)->(c=b/\H'=H.ah b ⟨vU,e,false,false⟩∨c=H.next/\∃cs,H'=H.push ⟨cs,e,true,false⟩)->K v' H'):el P X H (iG P t (.slice (some ⟨b,0,none⟩) 1 1) v H) K tg:=by
 obtain ⟨cs,g',hs,fE,ph,jx⟩:=h.src (size:=r.sz) rfl
 have hlen:=r.len hE
 cases l with
 | nil=>
  have aV:cs=[]:=by simpa using fE
  have eW:g'=[]:=ph
  subst aV eW
  have eu:cT vU (0+1 * r.sz) []=vU:=by simp [cT,hlen]
  rw [JP (n:=0) (sl:=1) (sc:=1) ha hs (by simp) hb rfl (by show 0+1 * r.sz<=vU.length;omega) (by omega) (Nat.le_refl 1) rfl,DZ hX,eu]
  exact hk _ _ b [] (.inr (.inr ⟨b,0,1,_,g0,rfl,by simp,Nat.le_refl _,by simp,by rw [az];exact if_pos rfl,dP.one (r.ae hE fun c hc=>by rw [az,if_neg (hg0 c hc).2])⟩)) (by simp) (.inl ⟨rfl,rfl⟩)
 | cons y l=>
  have hm:(1+(y::l).length) * dZ < 140737488355328:=by
   have:(1+(y::l).length) * dZ<=1000001 * 1000:=Nat.mul_le_mul (by omega) (by omega)
   omega
  rw [Jw (n:=(y::l).length) (o:=0) (sl:=1) (sc:=1) ha hs hb (by show vU.length=0+1 * r.sz;omega) (Nat.le_refl 1) hm (by simp)]
  rw [wa]
  have e0:(vU.drop 0).take (1 * r.sz)=vU:=by rw [List.drop_zero,List.take_of_length_le (by omega)]
  rw [e0]
  have k:∀c,c < H.next->(H.push ⟨vU++cs,e,true,false⟩).get c=H.get c:=fun c hc=>bS hc
  refine hk _ _ H.next g' (.inr (.inr ⟨H.next,0,_,_,g0++g',?_,by simp,Nat.le_refl _,rfl,by rw [aU];exact if_pos rfl,?_⟩)) jx (.inr ⟨rfl,_,rfl⟩)
  ·rw [show 1+(y::l).length=(x::y::l).length by simp only [List.length_cons];omega]
  ·exact ⟨vU,cs,g0,g',by simp,rfl,r.ae hE fun c hc=>k c (hg0 c hc).1,ph.ae fun c hc=>k c (hg c (jx c hc))⟩
section
variable {S:ZS} {src:List aH} {gP:List Nat} {H H1 H2:ad} {z:Nat} {ns bk bK:List aH} {m m1 m2 g g1 g2:List Nat}
theorem ZR.re (h:ZR S src gP H z ns m g H1 bk m1 g1):∃qN,H1.get z=some ⟨zC S qN,131,false,false⟩/\∀S':ZS,S'.pN=S.pN->ZR S' src gP H z ns m g (H1.ah z ⟨zC S' qN,131,false,false⟩) bk m1 g1:=by
 obtain ⟨qN,hz,cw⟩:=h.zq.row
 refine ⟨qN,hz,fun S' hp=>?_⟩
 have kg:∀c,c≠z->(H1.ah z ⟨zC S' qN,131,false,false⟩).get c=H1.get c:=fun c hc=>by rw [az,if_neg hc]
 exact ⟨h.fr.ah (.inl (by simp)) _,{row:=⟨qN,by rw [az,if_pos rfl],cw.ae (fun c hc=>kg c (h.zq.hm c hc).2.1) (fun c hc=>kg c (h.zq.hg c hc).2)⟩,src:=by rw [hp];exact h.zq.src.ae fun c hc=>kg c (h.zq.hP c hc).2,zl:=h.zq.zl,hm:=h.zq.hm,hg:=h.zq.hg,hP:=h.zq.hP,fz:=h.zq.fz,fm:=h.zq.fm,fn:=h.zq.fn},h.le,h.sm,h.sg⟩
theorem ZR.x2 {S':ZS} (h0:ZQ S src gP H z ns m g) (hf:bW H) (h:ZR S' src gP H z ns m g H1 bk m1 g1):∀b∈m1,H.fz b=false:=fun b hb=>(h.sm b hb).elim (h0.fm b) (fun e=>hf.fresh e)
theorem ZR.trans {S':ZS} (h:ZR S src gP H z ns m g H1 bk m1 g1) (h2:ZR S' src gP H1 z bk m1 g1 H2 bK m2 g2):ZR S' src gP H z ns m g H2 bK m2 g2:=by
 have n:=h.fr.nx
 refine ⟨h.fr.trans h2.fr fun c hc=>?_,h2.zq,Nat.le_trans h.le h2.le,fun c hc=>(h2.sm c hc).elim (h.sm c) fun e=>.inr (Nat.le_trans n e),fun c hc=>(h2.sg c hc).elim (h.sg c) fun e=>.inr (e.imp id (Nat.le_trans n))⟩
 rcases List.mem_cons.1 hc with e | e
 ·exact .inl (by simp [e])
 ·exact (h.sm c e).imp (fun e=>by simp [e]) id
theorem ZR.hp (h:ZR S src gP H z ns m g H1 bk m1 g1):∃Hp,Hp=H1:=⟨_,rfl⟩
abbrev tI:bj:=[115,101,108,102]
def IP (bd:Zb):List eZ->List eZ->List aH->Option (List eZ × List aH)
 | [],done,ns=>some (done,ns)
 | b::l,done,ns=>(bd b.body ns).bind fun x=>IP bd l (done++[{b with kJ:=tI,body:=x.1}]) x.2
abbrev z3 (d:eH):aH:={kind:=15,gf:=tI,pat:=d.pat,a:= -1,b:= -1,line:=d.line,au:=d.au,next:= -1}
abbrev z4 (d:eH):aH:={kind:=12,a:= -1,b:= -1,line:=d.line,au:=d.au,next:= -1}
def JT (bd:Zb) (d:eH) (ns:List aH):Option (eH × List aH):=
 if 90000 < ns.length∨90000 < d.on.length∨90000 < d.params.length then none
 else (IP bd d.on [] (ns++[z3 d])).bind fun x=>if 90000 < x.2.length then none else
  some (⟨d.name,⟨tI,⟨4,0,0,[],d.pat⟩⟩::d.params,0,((ns.length:Nat):Int),d.line,d.au,false,[],[]⟩,(x.2++[z4 d]).set ns.length {(x.2++[z4 d]).getD ns.length {} with ak:=x.1++[⟨-1,0,((x.2.length:Nat):Int),[],[],[],[]⟩]})
theorem aaM {s:bj} {l c:Int} {h:KH}:fH Tryz.prog 38 [(0,ag s),(4,iV l),(5,iV c)] h=.ok (.agg #[ag s,.slice none 0 0,iV 0,iV 0,iV l,iV c,.bool false,.slice none 0 0,.slice none 0 0]) h:=by kernel_rfl
theorem aba {a:Option Addr} {n c:Nat} {h:KH}:fH Tryz.prog 99 [(0,iV 4),(4,.slice a n c)] h=.ok (.agg #[iV 4,iV 0,iV 0,ag [],.slice a n c]) h:=by kernel_rfl
theorem abb {s:bj} {a:Option Addr} {n c:Nat} {h:KH}:fH Tryz.prog 101 [(0,ag s),(1,.agg #[iV 4,iV 0,iV 0,ag [],.slice a n c])] h=.ok (.agg #[ag s,iV 4,iV 0,iV 0,ag [],.slice a n c]) h:=by kernel_rfl
theorem abO {s:bj} {a:Option Addr} {n c:Nat} {h:KH}:fH Tryz.prog 42 [(0,iV 15),(14,ag s),(18,.slice a n c),(8,iV (-1)),(9,iV (-1))] h=.ok (.agg #[iV 15,iV 0,iV 0,iV 0,iV 0,iV 0,iV 0,iV 0,iV (-1),iV (-1),iV 0,iV 0,iV 0,ag [],ag s,ag [],ag [],.slice none 0 0,.slice a n c,.slice none 0 0]) h:=by kernel_rfl
theorem abP {h:KH}:fH Tryz.prog 42 [(0,iV 12),(8,iV (-1)),(9,iV (-1))] h=.ok (.agg #[iV 12,iV 0,iV 0,iV 0,iV 0,iV 0,iV 0,iV 0,iV (-1),iV (-1),iV 0,iV 0,iV 0,ag [],ag [],ag [],ag [],.slice none 0 0,.slice none 0 0,.slice none 0 0]) h:=by kernel_rfl
theorem abc {b:Int} {h:KH}:fH Tryz.prog 52 [(0,iV (-1)),(2,iV b)] h=.ok (.agg #[iV (-1),iV 0,iV b,ag [],ag [],.slice none 0 0,.slice none 0 0]) h:=by kernel_rfl
theorem adf {fuel:Nat} (eF:src.length < 100000) (h:ZQ S src gP H z ns m g) {d:eH} {vP vQ vO:Value} {gA gQ gO:List Nat} (hA:Sl ls H vP d.params gA) (hQ:Sl fy H vQ d.pat gQ) (hO:Sl dB H vO d.on gO) (dQ:∀c∈gA++(gQ++gO),c∈gP) {R:eH × List aH} (he:JT (yV src d.name fuel) d ns=some R):
  aj Tryz.prog 79 #[pV z,.agg (dK d vP vQ vO).toArray] H (fun w H'=>Fr (z::m) H H'/\(∀c,H'.fz c=H.fz c)/\ns.length<=R.2.length/\∃v5 g5 m' g',w=.agg (dK R.1 v5 (.slice none 0 0) (.slice none 0 0)).toArray/\Sl ls H' v5 R.1.params g5/\(∀c∈g5,c∉m'/\(c∈gP∨H.next<=c)/\c < H'.next/\c≠z)/\ZQ0 {S with self:=[]} src gP H' z R.2 m' g'/\(∀c∈m',c∈m∨H.next<=c)/\∀c∈g',c∈g∨c∈gP∨H.next<=c):=by
 refine aj.told ?_
 refine ahy (Nat.le_refl _) fun hf=>?_
 simp only [Tryz.f79,Option.getD_some]
 obtain ⟨aP,kP,rfl⟩:=hA.val
 obtain ⟨aQ,kQ,rfl⟩:=hQ.val
 obtain ⟨aO,kO,rfl⟩:=hO.val
 unfold JT at he
 by_cases nP:90000 < ns.length∨90000 < d.on.length∨90000 < d.params.length
 ·rw [if_pos nP] at he;cases he
 rw [if_neg nP] at he
 simp only [not_or] at nP
 obtain ⟨iD,fe,fj⟩:=nP
 have r0:=((ZR.start h).push ⟨dK d (.slice aP d.params.length kP) (.slice aQ d.pat.length kQ) (.slice aO d.on.length kO),38,false,false⟩).push ⟨[ag [],.slice none 0 0,iV 0,iV 0,iV 0,iV 0,.bool false,.slice none 0 0,.slice none 0 0],38,false,false⟩
 obtain ⟨qN,Bp,U1⟩:=r0.re
 have r1:=U1 {S with self:=d.name} rfl
 have r2:=r1.push ⟨[ag [],.slice none 0 0,iV 0,iV 0,iV 0,iV 0,.bool false,.slice none 0 0,.slice none 0 0],38,false,false⟩
 have gg:∀c,H.next<=c->H.next<=c/\c≠z/\c∉m/\c∉g/\c∉gP:=fun c hc=>⟨hc,by have:=h.zl;omega,fun e=>by have:=(h.hm c e).1;omega,fun e=>by have:=(h.hg c e).1;omega,fun e=>by have:=(h.hP c e).1;omega⟩
 have r3:=(r2.own (M:=[H.next+1+1]) ((Fr.refl _ _).ah (b:=H.next+1+1) (.inl (by simp)) ⟨[ag d.name,.slice none 0 0,iV 0,iV 0,iV d.line,iV d.au,.bool false,.slice none 0 0,.slice none 0 0],38,false,false⟩) (fun c hc=>by rw [List.mem_singleton] at hc;subst hc;exact gg _ (by omega)) (fun _ _=>rfl)).push ⟨[ag tI,iV 4,iV 0,iV 0,ag [],.slice aQ d.pat.length kQ],101,false,false⟩
 have ef:H.fz (H.next+1+1)=false:=hf.fresh (by omega)
 have hX:=h.fz
 have zl:=h.zl
 have nz0:¬z=H.next:=by omega
 have ZH:¬H.next=z:=fun e=>nz0 e.symm
 have Sr:¬H.next+1+1=z:=by omega
 have p2:¬H.next=H.next+1+1:=by omega
 have p3:¬H.next=H.next+1+1+1:=by omega
 have q1:¬H.next+1=z:=by omega
 have q2:¬H.next+1=H.next+1+1:=by omega
 have q3:¬H.next+1=H.next+1+1+1:=by omega
 simp only [go_sem,Bp,hX,ef,ZH,Sr,p2,p3,aaM,aba,abb,eA AT (by decide) (by decide)]
 obtain ⟨Hp,Dv⟩:=r3.hp
 rw [<-Dv] at r3 ⊢
 have gd3:Hp.get H.next=some ⟨dK d (.slice aP d.params.length kP) (.slice aQ d.pat.length kQ) (.slice aO d.on.length kO),38,false,false⟩:=by rw [Dv];simp only [aU,az,bH,om,p2,p3,ZH,ite_true,ite_false,Nat.left_eq_add,Nat.reduceEqDiff]
 have go3:Hp.get (H.next+1+1)=some ⟨[ag d.name,.slice none 0 0,iV 0,iV 0,iV d.line,iV d.au,.bool false,.slice none 0 0,.slice none 0 0],38,false,false⟩:=by rw [Dv];simp only [aU,az,bH,om,ite_true,ite_false,Nat.left_eq_add,Nat.reduceEqDiff]
 have gl3:Hp.get (H.next+1+1+1)=some ⟨[ag tI,iV 4,iV 0,iV 0,ag [],.slice aQ d.pat.length kQ],101,false,false⟩:=by rw [Dv];simp only [aU,az,bH,om,ite_true]
 have g43:Hp.get (H.next+1)=some ⟨[ag [],.slice none 0 0,iV 0,iV 0,iV 0,iV 0,.bool false,.slice none 0 0,.slice none 0 0],38,false,false⟩:=by rw [Dv];simp only [aU,az,bH,om,q1,ite_true,ite_false,Nat.left_eq_add,Nat.reduceEqDiff,q2,q3]
 have Fw:Hp.next=H.next+1+1+1+1:=by rw [Dv];rfl
 clear Dv
 obtain ⟨bo,jk⟩:∃bo,bo=H.next+1+1:=⟨_,rfl⟩
 rw [<-jk] at go3 gl3 Fw ef Sr p2 p3 ⊢
 obtain ⟨b4,oh⟩:∃b4,b4=H.next+1:=⟨_,rfl⟩
 rw [<-oh] at g43 ⊢
 have Dx:∀c∈gP,c < H.next/\c≠z/\c∉m:=fun c hc=>⟨(h.hP c hc).1,(h.hP c hc).2,fun e=>(h.hm c e).2.2.1 hc⟩
 have kP:∀{Hx LQ mx gx},ZR {S with self:=d.name} src gP H z ns m g Hx LQ mx gx->∀c∈gP,Hx.get c=H.get c:=fun r c hc=>r.fr.get c (Dx c hc).1 (by simp only [List.mem_cons,not_or];exact ⟨(Dx c hc).2.1,(Dx c hc).2.2⟩)
 have FU:∀c∈gA,c∈gP:=fun c hc=>dQ c (by simp [hc])
 have sY:∀c∈gQ,c∈gP:=fun c hc=>dQ c (by simp [hc])
 have U2:∀c∈gO,c∈gP:=fun c hc=>dQ c (by simp [hc])
 refine ade (r:=ls) (x:=⟨tI,⟨4,0,0,[],d.pat⟩⟩) (g0:=gQ) AT (by decide) gl3 ⟨_,rfl,hQ.ae fun c hc=>kP r3 c (sY c hc)⟩ (by omega) (hA.ae fun c hc=>kP r3 c (FU c hc)) (by omega) (hf.fresh (by omega)) (fun c hc=>by have:=(Dx c (sY c hc)).1;omega) (fun c hc=>by have:=(Dx c (FU c hc)).1;omega) ?_
 intro v5 H5 c5 g5 fk wX jo
 obtain ⟨a5,k5,jy⟩:=fk.val
 rw [List.length_cons] at jy
 subst jy
 obtain ⟨r5,U3,g45,go5,n35,sX⟩:ZR {S with self:=d.name} src gP H z ns m g H5 ns m g/\H5.get H.next=Hp.get H.next/\H5.get b4=Hp.get b4/\H5.get bo=Hp.get bo/\Hp.next<=H5.next/\(bo < c5/\c5 < H5.next):=by
  rcases jo with ⟨rfl,rfl⟩ | ⟨rfl,cs,rfl⟩
  ·exact ⟨r3.own (M:=[bo+1]) ((Fr.refl _ _).ah (b:=bo+1) (.inl (by simp)) _) (fun c hc=>by rw [List.mem_singleton] at hc;subst hc;exact gg _ (by omega)) (fun _ _=>rfl),by rw [az,if_neg (by omega)],by rw [az,if_neg (by omega)],by rw [az,if_neg (by omega)],Nat.le_refl _,by omega,by show bo+1 < Hp.next;omega⟩
  ·exact ⟨r3.push _,by rw [bS (by omega)],by rw [bS (by omega)],by rw [bS (by omega)],Nat.le_succ _,by omega,Nat.lt_succ_self _⟩
 rw [gd3] at U3
 rw [g43] at g45
 rw [go3] at go5
 have r6:=r5.own (M:=[bo]) ((Fr.refl _ _).ah (b:=bo) (.inl (by simp)) ⟨[ag d.name,.slice a5 (d.params.length+1) k5,iV 0,iV 0,iV d.line,iV d.au,.bool false,.slice none 0 0,.slice none 0 0],38,false,false⟩) (fun c hc=>by rw [List.mem_singleton] at hc;subst hc;exact gg _ (by omega)) (fun _ _=>rfl)
 obtain ⟨H6,ez⟩:=r6.hp
 have go6:H6.get bo=some ⟨[ag d.name,.slice a5 (d.params.length+1) k5,iV 0,iV 0,iV d.line,iV d.au,.bool false,.slice none 0 0,.slice none 0 0],38,false,false⟩:=by rw [ez,az,if_pos rfl]
 have k6:∀c,c≠bo->H6.get c=H5.get c:=fun c hc=>by rw [ez,az,if_neg hc]
 have FV:H6.next=H5.next:=by rw [ez];rfl
 have p2':¬bo=H.next:=fun e=>p2 e.symm
 simp only [go_sem,go5,U3,ef,p2,p2',abO]
 rw [<-ez] at r6 ⊢
 clear ez
 have gd6:=(k6 H.next p2).trans U3
 have g46:=(k6 b4 (by omega)).trans g45
 have A6:∀{H:ad},Sl jG H (.slice none 0 0) [] []/\Sl fy H (.slice none 0 0) [] []/\Sl dB H (.slice none 0 0) [] []:=fun {H}=>⟨.inl ⟨rfl,rfl,rfl⟩,.inl ⟨rfl,rfl,rfl⟩,.inl ⟨rfl,rfl,rfl⟩⟩
 refine af.by (r6.add (n:={kind:=15,gf:=tI,pat:=d.pat,a:= -1,b:= -1}) (line:=d.line) (au:=d.au) (by omega) (A6).1 (hQ.ae fun c hc=>kP r6 c (sY c hc)) (A6).2.2 (fun c hc=>by
  have hc:c∈gP:=sY c (by simpa using hc)
  have:=Dx c hc
  exact ⟨by omega,this.2.1,this.2.2,.inl hc⟩)) ?_
 rintro _ H7 - ⟨rfl,f7,m7,r7,s7⟩
 have r7:ZR {S with self:=d.name} src gP H z ns m g H7 (ns++[z3 d]) m7 (g++gQ):=by
  rw [List.append_nil,List.nil_append] at r7
  exact r7
 have xg:=f7.nx
 have k7:∀c,H.next<=c->c < H6.next->H7.get c=H6.get c:=fun c h1 h2=>f7.get c h2 (by simp only [List.mem_cons,not_or];exact (gg c h1).2.imp_right (·.1))
 have go7:=(k7 bo (by omega) (by omega)).trans go6
 have gd7:=(k7 H.next (by omega) (by omega)).trans gd6
 have g47:=(k7 b4 (by omega) (by omega)).trans g46
 have Dk:∀c,H.next<=c->c < H6.next->c∉m7:=fun c h1 h2 e=>(s7 c e).elim (gg c h1).2.2.1 fun e=>by omega
 have r8:=r7.own (M:=[bo]) ((Fr.refl _ _).ah (b:=bo) (.inl (by simp)) ⟨[ag d.name,.slice a5 (d.params.length+1) k5,iV 0,iV (ns.length:Nat),iV d.line,iV d.au,.bool false,.slice none 0 0,.slice none 0 0],38,false,false⟩) (fun c hc=>by rw [List.mem_singleton] at hc;subst hc;exact ⟨by omega,(gg _ (by omega)).2.1,Dk _ (by omega) (by omega),fun e=>by
  exact (List.mem_append.1 e).elim (gg _ (by omega)).2.2.2.1 fun e=>(gg _ (by omega)).2.2.2.2 (sY _ e),(gg _ (by omega)).2.2.2.2⟩) (fun _ _=>rfl)
 obtain ⟨H8,fB⟩:=r8.hp
 have go8:H8.get bo=some ⟨[ag d.name,.slice a5 (d.params.length+1) k5,iV 0,iV (ns.length:Nat),iV d.line,iV d.au,.bool false,.slice none 0 0,.slice none 0 0],38,false,false⟩:=by rw [fB,az,if_pos rfl]
 have k8:∀c,c≠bo->H8.get c=H7.get c:=fun c hc=>by rw [fB,az,if_neg hc]
 have Dy:H8.next=H7.next:=by rw [fB];rfl
 simp only [go_sem,go7,gd7,ef,p2,p2']
 rw [<-fB] at r8 ⊢
 clear fB
 have gd8:=(k8 H.next p2).trans gd7
 have g48:=(k8 b4 (by omega)).trans g47
 have yP:=fk.ae (H':=H8) fun c hc=>by
  rcases List.mem_cons.1 hc with e | e
  ·rw [e,k8 c5 (by omega),k7 c5 (by omega) (by omega),k6 c5 (by omega)]
  ·have:c∈gP:=(List.mem_append.1 e).elim (sY c) fun e=>FU c (wX c e)
   rw [kP r8 c this,kP r5 c this]
 cases IQ:IP (yV src d.name fuel) d.on [] (ns++[z3 d]) with
 | none=>rw [IQ] at he;cases he
 | some X=>
 rw [IQ] at he
 simp only [Option.bind_some] at he
 have hP8:∀c∈gP,c < H8.next/\c∉z::m7:=fun c hc=>⟨(r8.zq.hP c hc).1,by simp only [List.mem_cons,not_or];exact ⟨(Dx c hc).2.1,fun e=>(r8.zq.hm c e).2.2.1 hc⟩⟩
 have D8:∀c,H8.next<=c->H8.next<=c/\c≠z/\c∉m7/\c∉(g++gQ)/\c∉gP:=fun c hc=>⟨hc,by have:=r8.zq.zl;omega,fun e=>by have:=(r8.zq.hm c e).1;omega,fun e=>by have:=(r8.zq.hg c e).1;omega,fun e=>by have:=(r8.zq.hP c e).1;omega⟩
 have hO8:=hO.ae (H':=H8) fun c hc=>kP r8 c (U2 c hc)
 have hl8:ns.length < (ns++[z3 d]).length:=by rw [List.length_append,List.length_singleton];omega
 refine il 576443160117379392 d.on.length (fun i V H9=>V 44=iV (i:Nat)/\∃vL uo m9 g9 mL gL done,V 6=vL/\ZR {S with self:=d.name} src gP H8 z (ns++[z3 d]) m7 (g++gQ) H9 uo m9 g9/\Gr dB 52 H9 vL done mL gL/\(∀c∈mL,H8.next<=c/\c < H9.next/\c∉m9/\c∉g9)/\(∀c∈gL,c∈gP)/\done.length=i/\IP (yV src d.name fuel) (d.on.drop i) done uo=some X)
  ⟨by simp only [go_sem] <;> rfl,.slice none 0 0,_,m7,_,[],[],[],by simp only [go_sem] <;> rfl,ZR.start r8.zq,Gr.nil _ _ _,by simp,by simp,rfl,IQ⟩ ?_ ?_ (by rfl)
 ·rintro i V H9 hi ⟨ei,vL,uo,m9,g9,mL,gL,done,e6,r9,kf,zL,zM,db,BX⟩
  have hx:d.on[i]?=some (d.on[i]'hi):=List.getElem?_eq_getElem hi
  have cB:d.on.drop i=(d.on[i]'hi)::d.on.drop (i+1):=(List.getElem_cons_drop hi).symm
  generalize (d.on[i]'hi)=x at hx cB
  rw [cB,IP] at BX
  have yW:∀{Hx LQ mx gx},ZR {S with self:=d.name} src gP H8 z (ns++[z3 d]) m7 (g++gQ) Hx LQ mx gx->∀c∈gP,Hx.get c=H8.get c:=fun r c hc=>r.fr.get c (hP8 c hc).1 (hP8 c hc).2
  have hO9:=hO8.ae (H':=H9) fun c hc=>yW r9 c (U2 c hc)
  obtain ⟨b,o,c',B,gx,hv,hB,ee,de,b7,hE⟩:=hO9.at hx
  cases hv
  obtain ⟨vS,vN,u1,u2,aV,rfl,t5,t6⟩:=hE
  obtain ⟨aS,kS,rfl⟩:=t5.val
  obtain ⟨aN,kN,rfl⟩:=t6.val
  have en:o+i * 7+7<=B.cells.length:=b7
  have aV:(B.cells.drop (o+i * 7)).take 7=cC x (.slice aS x.aX.length kS) (.slice aN x.names.length kN):=aV
  have bX:IntKind.wrap .i64 (((i:Nat):Int)+1)=((i+1:Nat):Int):=cW hi (by omega)
  cases hJ:yV src d.name fuel x.body uo with
  | none=>rw [hJ] at BX;cases BX
  | some BB=>
  obtain ⟨bi,akp⟩:=BB
  rw [hJ] at BX
  simp only [Option.bind_some] at BX
  have n89:=r9.fr.nx
  have An:H.fz H9.next=false:=hf.fresh (by omega)
  have Q1:∀c,H9.next<=c->H8.next<=c/\c≠z/\c∉m9/\c∉g9/\c∉gP:=fun c hc=>⟨by omega,by have:=r9.zq.zl;omega,fun e=>by have:=(r9.zq.hm c e).1;omega,fun e=>by have:=(r9.zq.hg c e).1;omega,fun e=>by have:=(r9.zq.hP c e).1;omega⟩
  have rq:=r9.push ⟨cC {x with kJ:=tI} (.slice aS x.aX.length kS) (.slice aN x.names.length kN),52,false,false⟩
  obtain ⟨Hq,LS⟩:=rq.hp
  have gxq:Hq.get H9.next=some ⟨cC {x with kJ:=tI} (.slice aS x.aX.length kS) (.slice aN x.names.length kN),52,false,false⟩:=by rw [LS,aU,if_pos rfl]
  have kq:∀c,c < H9.next->Hq.get c=H9.get c:=fun c hc=>by rw [LS,bS hc]
  have nxq:Hq.next=H9.next+1:=by rw [LS];rfl
  simp only [go_sem,ei,hi,hB,en,aV,An]
  rw [<-LS] at rq ⊢
  clear LS
  refine af.by ((QJ (S:={S with self:=d.name}) eF fuel) rq.zq hJ) ?_
  rintro _ dd - ⟨rfl,jZ⟩
  obtain ⟨Ai,pI,cP,Uz,t10⟩:=rq.call jZ
  have n10:=jZ.1.nx
  have kx:∀c,c < Hq.next->c≠z->c∉m9->dd.get c=Hq.get c:=fun c h1 h2 h3=>jZ.1.get c h1 (by simp only [List.mem_cons,not_or];exact ⟨h2,h3⟩)
  have KE:=(kx H9.next (by omega) (Q1 _ (Nat.le_refl _)).2.1 (Q1 _ (Nat.le_refl _)).2.2.1).trans gxq
  have ZI:∀c,H8.next<=c->c < Hq.next->c∉m9->c∉Ai:=fun c h1 h2 h3 e=>(Uz c e).elim h3 fun e=>by omega
  have ZJ:∀c,H8.next<=c->c < Hq.next->c∉g9->c∉pI:=fun c h1 h2 h3 e=>(t10 c e).elim h3 fun e=>e.elim (D8 c h1).2.2.2.2 fun e=>by omega
  have df:=(cP.own (M:=[H9.next]) ((Fr.refl _ _).ah (b:=H9.next) (.inl (by simp)) ⟨cC {x with kJ:=tI,body:=bi} (.slice aS x.aX.length kS) (.slice aN x.names.length kN),52,false,false⟩) (fun c hc=>by rw [List.mem_singleton] at hc;subst hc;have:=Q1 _ (Nat.le_refl _);exact ⟨this.1,this.2.1,ZI _ this.1 (by omega) this.2.2.1,ZJ _ this.1 (by omega) this.2.2.2.1,this.2.2.2.2⟩) (fun _ _=>rfl)).push ⟨cC {x with kJ:=tI,body:=bi} (.slice aS x.aX.length kS) (.slice aN x.names.length kN),52,false,false⟩
  obtain ⟨dS,KF⟩:=df.hp
  have CY:dS.get dd.next=some ⟨cC {x with kJ:=tI,body:=bi} (.slice aS x.aX.length kS) (.slice aN x.names.length kN),52,false,false⟩:=by rw [KF,aU];exact if_pos rfl
  have IS:∀c,c < dd.next->c≠H9.next->dS.get c=dd.get c:=fun c hc h1=>by rw [KF,bS (by rw [om];exact hc),az,if_neg h1]
  have avb:dS.next=dd.next+1:=by rw [KF];rfl
  simp only [go_sem,KE,An,e6,eA rX (by decide) (by decide)]
  rw [<-KF] at df ⊢
  clear KF
  have Rx:=kf.ae (H':=dS) (fun c hc=>by
   have:=zL c hc
   rw [IS c (by omega) (by omega),kx c (by omega) (by have:=(D8 c this.1).2.1;exact this) this.2.2.1,kq c this.2.1]) (fun c hc=>by rw [yW df c (zM c hc),yW r9 c (zM c hc)])
  have FW:∀c∈u1++u2,c∈gP:=fun c hc=>U2 c (de c hc)
  refine jT (r:=dB) (x:={x with kJ:=tI,body:=bi}) (g':=u1++u2) rX Rx (fun c hc=>by have:=(zL c hc).2.1;omega) (fun c hc=>(df.zq.hP c (zM c hc)).1) (fun c hc=>⟨(df.zq.hP c (FW c hc)).1,fun e=>(D8 c (zL c e).1).2.2.2.2 (FW c hc)⟩) (fun c hc=>hf.fresh (by have:=(zL c hc).1;omega)) CY ⟨_,_,u1,u2,rfl,rfl,t5.ae fun c hc=>by rw [yW df c (FW c (by simp [hc])),yW r9 c (FW c (by simp [hc]))],t6.ae fun c hc=>by rw [yW df c (FW c (by simp [hc])),yW r9 c (FW c (by simp [hc]))]⟩ rfl (by omega) ?_
  intro BY di wj auu arX ain aio
  simp only [go_sem,ei,bX]
  have dh:=df.own ain (fun c hc=>by
   have:=zL c hc
   exact ⟨this.1,(D8 c this.1).2.1,ZI _ this.1 (by omega) this.2.2.1,ZJ _ this.1 (by omega) this.2.2.2,(D8 c this.1).2.2.2.2⟩) (fun c hc=>by rw [aio,show (c==dS.next)=false from by rw [beq_eq_false_iff_ne];omega,Bool.false_or])
  refine ⟨BY,akp,Ai,pI,[dS.next],gL++(u1++u2),done++[{x with kJ:=tI,body:=bi}],rfl,dh,wj,fun c hc=>?_,fun c hc=>(List.mem_append.1 hc).elim (zM c) (FW c),by rw [List.length_append,List.length_singleton,db],BX⟩
  rw [List.mem_singleton] at hc
  subst hc
  exact ⟨by omega,by omega,fun e=>by have:=(df.zq.hm _ e).1;omega,fun e=>by have:=(df.zq.hg _ e).1;omega⟩
 ·rintro V H9 ⟨ei,vL,uo,m9,g9,mL,gL,done,e6,r9,kf,zL,zM,db,BX⟩
  rw [List.drop_length] at BX
  cases BX
  simp only at he
  by_cases FE:90000 < uo.length
  ·rw [if_pos FE] at he;cases he
  rw [if_neg FE] at he
  cases he
  have n89:=r9.fr.nx
  have k9:∀c,H.next<=c->c < H6.next->H9.get c=H8.get c:=fun c h1 h2=>r9.fr.get c (by omega) (by simp only [List.mem_cons,not_or];exact ⟨(gg c h1).2.1,Dk c h1 h2⟩)
  have go9:=(k9 bo (by omega) (by omega)).trans go8
  have gd9:=(k9 H.next (by omega) (by omega)).trans gd8
  have g49:=(k9 b4 (by omega) (by omega)).trans g48
  have U4:=r8.trans r9
  have LU:∀c,H.next<=c->c < H6.next->c∉m9:=fun c h1 h2 e=>(r9.sm c e).elim (Dk c h1 h2) fun e=>by omega
  have hs9:=yP.ae (H':=H9) fun c hc=>by
   rcases List.mem_cons.1 hc with e | e
   ·rw [e,k9 c5 (by omega) (by omega)]
   ·have:c∈gP:=(List.mem_append.1 e).elim (sY c) fun e=>FU c (wX c e)
    rw [kP U4 c this,kP r8 c this]
  simp only [go_sem,ei,gd9,abP]
  refine af.by (r9.add (n:={kind:=12,a:= -1,b:= -1}) (line:=d.line) (au:=d.au) (by omega) (A6).1 (A6).2.1 (A6).2.2 (fun c hc=>by simp at hc)) ?_
  rintro _ jl - ⟨rfl,f13,BI,gu,LV⟩
  have ZK:ZR {S with self:=d.name} src gP H8 z (ns++[z3 d]) m7 (g++gQ) jl (uo++[z4 d]) BI g9:=by
   rw [List.append_nil,List.append_nil,List.append_nil] at gu
   exact gu
  have gu:=r8.trans ZK
  have Ut:=f13.nx
  have BZ:∀c,c < H9.next->c≠z->c∉m9->jl.get c=H9.get c:=fun c h1 h2 h3=>f13.get c h1 (by simp only [List.mem_cons,not_or];exact ⟨h2,h3⟩)
  have kO:∀c,H.next<=c->c < H6.next->jl.get c=H9.get c:=fun c h1 h2=>BZ c (by omega) (gg c h1).2.1 (LU c h1 h2)
  have Ob:=(kO bo (by omega) (by omega)).trans go9
  have akq:=(kO H.next (by omega) (by omega)).trans gd9
  have akr:=(kO b4 (by omega) (by omega)).trans g49
  have aks:=hs9.ae (H':=jl) fun c hc=>by
   rcases List.mem_cons.1 hc with e | e
   ·rw [e,kO c5 (by omega) (by omega)]
   ·have:c∈gP:=(List.mem_append.1 e).elim (sY c) fun e=>FU c (wX c e)
    rw [kP gu c this,kP U4 c this]
  have jt:ns.length < (uo++[z4 d]).length:=by
   have:(ns++[z3 d]).length<=uo.length:=r9.le
   rw [List.length_append,List.length_singleton] at this ⊢;omega
  obtain ⟨avc,Oc,aip⟩:=gu.zq.row
  obtain ⟨aN,yN⟩:=aip.val
  subst yN
  have ni:=kf.ae (H':=jl) (fun c hc=>by
   have:=zL c hc
   exact BZ c this.2.1 (D8 c this.1).2.1 this.2.2.1) (fun c hc=>by rw [kP gu c (zM c hc),kP U4 c (zM c hc)])
  obtain ⟨aL,pO⟩:=ni.val
  subst pO
  simp only [go_sem,Oc,Ob,akq,e6,abc,eA rX (by decide) (by decide)]
  have vv:∀c∈mL,H.next<=c/\c < jl.next/\c≠z/\c∉BI/\c∉g9/\c∉gP:=fun c hc=>by
   have:=zL c hc
   have h8:=D8 c this.1
   exact ⟨by omega,by omega,h8.2.1,fun e=>(LV c e).elim this.2.2.1 fun e=>by omega,this.2.2.2,h8.2.2.2.2⟩
  have j0:=ZK.push ⟨[iV (-1),iV 0,iV (uo.length:Nat),ag [],ag [],.slice none 0 0,.slice none 0 0],52,false,false⟩
  obtain ⟨jv,nT⟩:=j0.hp
  have akt:jv.get jl.next=some ⟨cC ⟨-1,0,((uo.length:Nat):Int),[],[],[],[]⟩ (.slice none 0 0) (.slice none 0 0),52,false,false⟩:=by rw [nT,aU,if_pos rfl]
  have uq:∀c,c < jl.next->jv.get c=jl.get c:=fun c hc=>by rw [nT,bS hc]
  have ZL:jv.next=jl.next+1:=by rw [nT];rfl
  rw [<-nT] at j0 ⊢
  clear nT
  refine jT (r:=dB) (x:=⟨-1,0,((uo.length:Nat):Int),[],[],[],[]⟩) (g':=[]) rX (ni.ae (H':=jv) (fun c hc=>uq c (vv c hc).2.1) (fun c hc=>uq c (gu.zq.hP c (zM c hc)).1)) (fun c hc=>by have:=(vv c hc).2.1;omega) (fun c hc=>by have:=(gu.zq.hP c (zM c hc)).1;omega) (by simp) (fun c hc=>hf.fresh (vv c hc).1) akt ⟨_,_,[],[],rfl,rfl,.inl ⟨rfl,rfl,rfl⟩,.inl ⟨rfl,rfl,rfl⟩⟩ rfl (by omega) ?_
  intro v15 jm YG auv age aiq air
  have ZM:=j0.own aiq (fun c hc=>by have:=vv c hc;exact ⟨(zL c hc).1,this.2.2⟩) (fun c hc=>by rw [air,show (c==jv.next)=false from by rw [beq_eq_false_iff_ne];omega,Bool.false_or])
  have l3:=r8.trans ZM
  have vV:∀c,c < jl.next->c∉mL->jm.get c=jl.get c:=fun c h1 h2=>(age c (by omega) h2).trans (uq c h1)
  have Od:∀c,c < H8.next->jm.get c=jl.get c:=fun c h1=>vV c (by omega) fun e=>by have:=(zL c e).1;omega
  have aku:=(Od bo (by omega)).trans Ob
  have akv:=(Od b4 (by omega)).trans akr
  have Ss:=(Od z (by omega)).trans Oc
  have akw:=aks.ae (H':=jm) fun c hc=>by
   rcases List.mem_cons.1 hc with e | e
   ·rw [e,Od c5 (by omega)]
   ·have:c∈gP:=(List.mem_append.1 e).elim (sY c) fun e=>FU c (wX c e)
    rw [kP l3 c this,kP gu c this]
  have AW:∀c∈[jv.next]++(gL++[]),c < jm.next/\c≠z/\c∉BI/\(c∈gP∨H8.next<=c):=fun c hc=>by
   rcases List.mem_append.1 hc with e | e
   ·rw [List.mem_singleton] at e
    subst e
    exact ⟨by omega,by omega,fun e=>by have:=(gu.zq.hm _ e).1;omega,.inr (by omega)⟩
   ·rw [List.append_nil] at e
    have hp:=zM c e
    exact ⟨(l3.zq.hP c hp).1,(l3.zq.hP c hp).2,fun e=>(l3.zq.hm c e).2.2.1 hp,.inl hp⟩
  obtain ⟨b,cs,St,fP,ZN,ais,O1,ZO⟩:=ZM.J9 jt YG.sl AW
  have Ah:=r8.trans ZO
  have akx:∀c,H.next<=c->c < H8.next->c∉O1:=fun c h1 h2 e=>(ZO.sg c e).elim (fun e=>(List.mem_append.1 e).elim (gg c h1).2.2.2.1 fun e=>(gg c h1).2.2.2.2 (sY c e)) fun e=>e.elim (gg c h1).2.2.2.2 fun e=>by omega
  have aky:jl.get b=some ⟨cs,42,true,false⟩:=(vV b (gu.zq.hm b fP).1 fun e=>(vv b e).2.2.2.1 fP).symm.trans ZN
  rw [Ss] at St
  have fg:=ZR.x2 h hf l3 b fP
  have dG:ns.length * 20+19 < cs.length:=by omega
  have fU:ns.length * 20+19+1<=cs.length:=by omega
  have vX:aN=some ⟨b,0,none⟩:=by
   simp only [zC,Option.some.injEq,ct.mk.injEq,List.cons.injEq,Value.slice.injEq] at St
   exact St.1.2.2.2.2.2.2.2.1.1
  subst vX
  have nbo:¬bo=b:=fun e=>by have:=LU bo (by omega) (by omega);exact (LV b fP).elim (fun e'=>this (e▸e')) fun e'=>by omega
  have Iw:¬b4=b:=fun e=>by have:=LU b4 (by omega) (by omega);exact (LV b fP).elim (fun e'=>this (e▸e')) fun e'=>by omega
  have LW:¬z=b:=fun e=>(gu.zq.hm b fP).2.1 e.symm
  have FL:H.fz b4=false:=hf.fresh (by omega)
  have no4:¬bo=b4:=by omega
  obtain ⟨a15,akz⟩:=YG.val
  subst akz
  have akA:=(uq z (by omega)).trans Oc
  have akB:=(uq bo (by omega)).trans Ob
  obtain ⟨akC,Su,ait⟩:=Ah.re
  have Ry:H.next<=b4/\b4≠z/\b4∉BI/\b4∉O1/\b4∉gP:=⟨by omega,by omega,fun e=>(LV b4 e).elim (LU b4 (by omega) (by omega)) fun e=>by omega,akx b4 (by omega) (by omega),(gg b4 (by omega)).2.2.2.2⟩
  have vH:=(ait {S with self:=[]} rfl).own (M:=[b4]) ((Fr.refl _ _).ah (b:=b4) (.inl (by simp)) ⟨[ag d.name,.slice a5 (d.params.length+1) k5,iV 0,iV (ns.length:Nat),iV d.line,iV d.au,.bool false,.slice none 0 0,.slice none 0 0],38,false,false⟩) (fun c hc=>by
   rw [List.mem_singleton] at hc
   rw [hc];exact Ry) (fun _ _=>rfl)
  have LL:akC=.slice (some ⟨b,0,none⟩) (uo++[z4 d]).length (uo++[z4 d]).length:=by
   rw [az,if_neg LW,Ss] at Su
   simp only [zC,Option.some.injEq,ct.mk.injEq,List.cons.injEq] at Su
   exact Su.1.2.2.2.2.2.2.2.1.symm
  subst LL
  have akD:¬b4=z:=Ry.2.1
  have nbz:¬b=z:=fun e=>LW e.symm
  simp only [go_sem,akA,akB,Ss,aku,Ob,Oc,ZN,aky,fg,jt,dG,fU,ais,nbo,LW,eG dG,hX,akv,Iw,Sr,FL,no4,akD,nbz]
  have iH:∀c∈c5::(gQ++g5),c∉BI/\(c∈gP∨H.next<=c)/\c < jm.next/\c≠z/\c≠b/\c≠b4:=fun c hc=>by
   rcases List.mem_cons.1 hc with e | e
   ·subst e
    have h1:c∉BI:=fun e=>(LV c e).elim (LU c (by omega) (by omega)) fun e=>by omega
    exact ⟨h1,.inr (by omega),by omega,by omega,fun e=>h1 (e▸fP),by omega⟩
   ·have hp:c∈gP:=(List.mem_append.1 e).elim (sY c) fun e=>FU c (wX c e)
    have h1:c∉BI:=fun e=>(Ah.zq.hm c e).2.2.1 hp
    exact ⟨h1,.inl hp,(l3.zq.hP c hp).1,(Dx c hp).2.1,fun e=>h1 (e▸fP),fun e=>Ry.2.2.2.2 (e▸hp)⟩
  exact ⟨vH.fr.ai _,fun _=>trivial,vH.le,.slice a5 (d.params.length+1) k5,c5::(gQ++g5),BI,O1,rfl,akw.ae fun c hc=>by
   have:=iH c hc
   rw [be,az,if_neg this.2.2.2.2.2,az,if_neg this.2.2.2.1,az,if_neg this.2.2.2.2.1],fun c hc=>by have:=iH c hc;exact ⟨this.1,this.2.1,this.2.2.1,this.2.2.2.1⟩,vH.zq.toZQ0.ai,vH.sm,vH.sg⟩
end
def GC (ds:List eH):Nat->List aH->Option Bool
 | _,[]=>some false
 | i,n::l=>if n.kind=14 then
   (if 0<=JS ds (i:Nat) then (match ds[(JS ds (i:Nat)).toNat]? with
    | some d=>if d.rW=true then GC ds (i+1) l else some true
    | none=>none) else none)
  else GC ds (i+1) l
def HG (src:List aH) (fuel:Nat):List eH->List eH->List aH->Option (List eH × List aH)
 | [],done,ns=>some (done,ns)
 | d::l,done,ns=>if d.rW=true then (JT (yV src d.name fuel) d ns).bind fun x=>HG src fuel l (done++[x.1]) x.2
  else (yV src [] fuel d.body ns).bind fun x=>HG src fuel l (done++[{d with body:=x.1}]) x.2
def Np (fuel:Nat) (P:bC):Option (Option bC):=
 if 90000 < P.nodes.length∨90000 < P.defs.length∨¬P.defs.all (fun d=>Nat.ble d.on.length 90000)=true then none
 else (GC P.defs 0 P.nodes).bind fun e=>if e=true then some none
 else (HG P.nodes fuel P.defs [] []).bind fun x=>
  if 90000 < x.2.length then none
  else if 400 < x.2.length then some none
  else if P.defs.any (fun d=>d.rW&&Nat.ble 6 d.params.length)=true then some none
  else if P.nodes.any (fun n=>(decide (n.kind=2)||decide (n.kind=14))&&Nat.ble 6 n.args.length)=true then some none
  else some (some {P with defs:=x.1,nodes:=x.2})
def ur (H':ad) (w:Value) (P:bC) (g:List Nat):Prop:=∃vM vR vD vN gM gR gD gN,w=.agg #[vM,vR,vD,vN]/\Sl o9 H' vM P.msgs gM/\Sl qm H' vR P.bZ gR/\Sl jh H' vD P.defs gD/\Sl j6 H' vN P.nodes gN/\g=gM++(gR++(gD++gN))
def Ya (gs:List Nat) (n:Nat) (R:Option bC) (H':ad) (w:Value):Prop:=match R with
 | some P=>∃v g,w=.tuple #[v,iV 0,iV 0,iV 0]/\ur H' v P g/\∀c∈g,c < H'.next/\(c∈gs∨n<=c)
 | none=>∃a b e,w=.tuple #[.agg #[.slice none 0 0,.slice none 0 0,.slice none 0 0,.slice none 0 0],iV a,iV b,iV e]/\e≠0
abbrev zS (vM vR vD vN vQ:Value) (self:bj):ZS:=⟨vM,vR,vD,vN,vM,vR,vQ,self⟩
theorem acu {a1 a2 a3 a4:Option Addr} {n1 n2 n3 n4 c1 c2 c3 c4:Nat} {h:KH}:fH Tryz.prog 131 [(0,.agg #[.slice a1 n1 c1,.slice a2 n2 c2,.slice a3 n3 c3,.slice a4 n4 c4])] h=.ok (.agg (zC ⟨.slice a1 n1 c1,.slice a2 n2 c2,.slice a3 n3 c3,.slice a4 n4 c4,.slice none 0 0,.slice none 0 0,.slice none 0 0,[]⟩ (.slice none 0 0)).toArray) h:=by kernel_rfl
section
variable {H:ad} {P:bC}
theorem adg {fuel:Nat} {vM vR vD vN:Value} {gM gR gD gN:List Nat} (hM:Sl o9 H vM P.msgs gM) (hR:Sl qm H vR P.bZ gR) (hD:Sl jh H vD P.defs gD) (hN:Sl j6 H vN P.nodes gN) (aZ:∀c∈gM++(gR++(gD++gN)),c < H.next) {R:Option bC} (he:Np fuel P=some R):
  aj Tryz.prog 60 #[.agg #[vM,vR,vD,vN]] H (fun w H'=>bc H H'/\Ya (gM++(gR++(gD++gN))) H.next R H' w):=by
 refine aj.told ?_
 obtain ⟨c,hb,hc⟩:=Ju ahd Tryz.func60
 refine Nz (l:=[.agg #[vM,vR,vD,vN]]) Tryz.func60 hb (show 1<=159 by decide) fun hf=>?_
 have jn:c=Tryz.f60.body.getD .skip:=by rw [hb];rfl
 subst jn
 simp only [Tryz.f60,Option.getD_some] at hc ⊢
 obtain ⟨aM,kM,rfl⟩:=hM.val
 obtain ⟨aR,kR,rfl⟩:=hR.val
 obtain ⟨aD,kD,rfl⟩:=hD.val
 obtain ⟨aN,kN,rfl⟩:=hN.val
 unfold Np at he
 by_cases nP:90000 < P.nodes.length∨90000 < P.defs.length∨¬P.defs.all (fun d=>Nat.ble d.on.length 90000)=true
 ·rw [if_pos nP] at he;cases he
 rw [if_neg nP] at he
 simp only [not_or,Classical.not_not] at nP
 obtain ⟨iD,fe,fj⟩:=nP
 have fj:∀d∈P.defs,d.on.length < 1000000:=fun d hd=>by
  have:=List.all_eq_true.1 fj d hd
  have:=Nat.le_of_ble_eq_true this
  omega
 cases Sv:GC P.defs 0 P.nodes with
 | none=>rw [Sv] at he;cases he
 | some e=>
 rw [Sv] at he
 simp only [Option.bind_some] at he
 obtain ⟨jW,hc⟩:=DU hc
 refine wS.seq (wS.of mixed jW ?_)
 have p1:¬H.next=H.next+1:=by omega
 simp only [go_sem]
 have gJ:H.fz (H.next+1)=false:=hf.fresh (by omega)
 obtain ⟨eC,hc⟩:=DU hc
 obtain ⟨ic,hc⟩:=DU hc
 obtain ⟨H1,cF⟩:∃H1,H1=((H.push ⟨[.slice aM P.msgs.length kM,.slice aR P.bZ.length kR,.slice aD P.defs.length kD,.slice aN P.nodes.length kN],28,false,false⟩).push ⟨[.slice none 0 0,.slice none 0 0,.slice none 0 0,.slice none 0 0],28,false,false⟩):=⟨_,rfl⟩
 rw [<-cF]
 have f1:Fr [] H H1:=by rw [cF];exact ((Fr.refl [] H).push _).push _
 have LX:H1.get H.next=some ⟨[.slice aM P.msgs.length kM,.slice aR P.bZ.length kR,.slice aD P.defs.length kD,.slice aN P.nodes.length kN],28,false,false⟩:=by rw [cF,aU,bH,if_neg p1,aU,if_pos rfl]
 have IT:H1.get (H.next+1)=some ⟨[.slice none 0 0,.slice none 0 0,.slice none 0 0,.slice none 0 0],28,false,false⟩:=by rw [cF,aU];exact if_pos rfl
 have IU:H1.next=H.next+1+1:=by rw [cF];rfl
 clear cF
 obtain ⟨br,cX⟩:∃br,br=H.next+1:=⟨_,rfl⟩
 rw [<-cX] at IT gJ p1 IU ⊢
 refine wS.seq (wS.of mixed eC ?_)
 simp only [go_sem,LX]
 have kG:∀{Hx},Fr [] H Hx->∀c∈gM++(gR++(gD++gN)),Hx.get c=H.get c:=fun f c hc=>f.get c (aZ c hc) (by simp)
 have U5:∀{Hx},Fr [] H Hx->Sl jh Hx (.slice aD P.defs.length kD) P.defs gD:=fun f=>hD.ae fun c hc=>kG f c (by simp [hc])
 have U6:∀{Hx},Fr [] H Hx->Sl j6 Hx (.slice aN P.nodes.length kN) P.nodes gN:=fun f=>hN.ae fun c hc=>kG f c (by simp [hc])
 refine il 8796092760312 P.nodes.length (fun i V H2=>V 18=iV (i:Nat)/\Fr [] H1 H2/\GC P.defs i (P.nodes.drop i)=some e) ⟨by simp only [go_sem] <;> rfl,Fr.refl _ _,Sv⟩ ?_ ?_ (by rfl)
 ·rintro i V H2 hi ⟨ei,f2,ld⟩
  have hx:P.nodes[i]?=some (P.nodes[i]'hi):=List.getElem?_eq_getElem hi
  have cB:P.nodes.drop i=(P.nodes[i]'hi)::P.nodes.drop (i+1):=(List.getElem_cons_drop hi).symm
  generalize (P.nodes[i]'hi)=x at hx cB
  rw [cB,GC] at ld
  have U7:=f1.then f2
  obtain ⟨b,o,c',B,gx,hv,hB,ee,de,b7,hE⟩:=(U6 U7).at hx
  cases hv
  obtain ⟨vA,vQ,vB,u1,u2,u3,aV,rfl,t1,t2,t3⟩:=hE
  obtain ⟨a1,k1,rfl⟩:=t1.val
  obtain ⟨a2,k2,rfl⟩:=t2.val
  obtain ⟨a3,k3,rfl⟩:=t3.val
  have en:o+i * 20+20<=B.cells.length:=b7
  have aV:(B.cells.drop (o+i * 20)).take 20=aJ x (.slice a1 x.args.length k1) (.slice a2 x.pat.length k2) (.slice a3 x.ak.length k3):=aV
  have bX:IntKind.wrap .i64 (((i:Nat):Int)+1)=((i+1:Nat):Int):=cW hi (by omega)
  have ey:=f2.nx
  have ef:H.fz H2.next=false:=hf.fresh (by omega)
  have Ao:=(f2.get H.next (by omega) (by simp)).trans LX
  have IV:=(f2.get br (by omega) (by simp)).trans IT
  have U8:¬H.next=H2.next:=by omega
  have qJ:¬br=H2.next:=by omega
  have n2r:¬H2.next=br:=by omega
  by_cases hk:x.kind=14
  ·rw [if_pos hk] at ld
   by_cases ho:0<=JS P.defs (i:Nat)
   ·rw [if_pos ho] at ld
    have f3:=f2.push ⟨aJ x (.slice a1 x.args.length k1) (.slice a2 x.pat.length k2) (.slice a3 x.ak.length k3),42,false,false⟩
    have mN:(H2.push ⟨aJ x (.slice a1 x.args.length k1) (.slice a2 x.pat.length k2) (.slice a3 x.ak.length k3),42,false,false⟩).get H2.next=some ⟨aJ x (.slice a1 x.args.length k1) (.slice a2 x.pat.length k2) (.slice a3 x.ak.length k3),42,false,false⟩:=by rw [aU,if_pos rfl]
    have hD3:=U5 (f1.then f3)
    simp only [go_sem,ei,hi,hB,en,aV,ef,hk,Ao,U8]
    refine af.by (adb hD3 (by omega) fj (fun c hc=>by have:=aZ c (by simp [hc]);rw [bH];omega)) ?_
    rintro _ H4 - ⟨rfl,o4,z4⟩
    have f4:=f3.then (o4.fr [])
    have IW:=(o4.get H.next (by rw [bH];omega)).trans ((bS (by omega)).trans Ao)
    have Ap:=(o4.get H2.next (by rw [bH];omega)).trans mN
    have Fl:=(o4.get br (by rw [bH];omega)).trans ((bS (by omega)).trans IV)
    obtain ⟨ow,js⟩:=Int.eq_ofNat_of_zero_le ho
    rw [js,Int.toNat_natCast] at ld
    cases hd:P.defs[ow]? with
    | none=>rw [hd] at ld;cases ld
    | some d=>
    rw [hd] at ld
    simp only at ld
    have nZ:ow < P.defs.length:=(List.getElem?_eq_some_iff.1 hd).1
    obtain ⟨b5,o5,c5,B5,dJ,jy,LY,akE,akF,KG,s0⟩:=(U5 (f1.then f4)).at hd
    cases jy
    obtain ⟨Ud,vQ5,Ue,w1,w2,w3,ji,rfl,_⟩:=s0
    have ji:(B5.cells.drop (o5+ow * 9)).take 9=dK d Ud vQ5 Ue:=ji
    have Nq:B5.cells[o5+ow * 9+6]?=some (.bool d.rW):=by
     have:((B5.cells.drop (o5+ow * 9)).take 9)[6]?=some (.bool d.rW):=by rw [ji];rfl
     rw [List.getElem?_take,if_pos (by decide),List.getElem?_drop] at this
     exact this
    cases uu:d.rW with
    | true=>
     rw [uu] at ld Nq
     simp only [go_sem,IW,Ao,U8,js,nZ,LY,Nq,ei,bX]
     exact ⟨f4,ld⟩
    | false=>
     rw [uu] at ld Nq
     cases ld
     cases he
     simp only [go_sem,IW,Ao,U8,js,nZ,LY,Nq,bX,Ap,Fl,q7,gJ,n2r]
     exact ⟨(((f1.then f4).ah (.inr (by omega)) _).ai _).aE,_,_,_,rfl,by decide⟩
   ·rw [if_neg ho] at ld;cases ld
  ·rw [if_neg hk] at ld
   simp only [go_sem,ei,hi,hB,en,aV,ef,hk,bX]
   exact ⟨f2.push _,ld⟩
 ·rintro V H2 ⟨ei,f2,ld⟩
  rw [List.drop_length] at ld
  cases ld
  simp only [go_sem,ei]
  have ey:=f2.nx
  have Ao:=(f2.get H.next (by omega) (by simp)).trans LX
  have IV:=(f2.get br (by omega) (by simp)).trans IT
  have U7:=f1.then f2
  simp only [Bool.false_eq_true,if_false] at he
  refine wS.seq (wS.told (wS.of mixed ic ?_))
  simp only [go_sem,Ao,acu]
  refine ⟨H.fz,fun _ h=>h,fun b hb=>by have:=hf.fz b hb;omega,?_⟩
  have vc:∀b,H.next<=b->H.fz b=false:=fun b hb=>hf.fresh hb
  obtain ⟨z,hz⟩:∃z,z=H2.next:=⟨_,rfl⟩
  obtain ⟨H3,dI⟩:∃H3,H3=((H2.push ⟨zC ⟨.slice aM P.msgs.length kM,.slice aR P.bZ.length kR,.slice aD P.defs.length kD,.slice aN P.nodes.length kN,.slice none 0 0,.slice none 0 0,.slice none 0 0,[]⟩ (.slice none 0 0),131,false,false⟩).ai H.fz):=⟨_,rfl⟩
  rw [<-hz,<-dI]
  have IX:H3.get z=some ⟨zC ⟨.slice aM P.msgs.length kM,.slice aR P.bZ.length kR,.slice aD P.defs.length kD,.slice aN P.nodes.length kN,.slice none 0 0,.slice none 0 0,.slice none 0 0,[]⟩ (.slice none 0 0),131,false,false⟩:=by rw [dI,be,hz,aU,if_pos rfl]
  have f3:Fr [] H2 H3:=by rw [dI];exact ((Fr.refl [] H2).push _).ai _
  have Fw:H3.next=H2.next+1:=by rw [dI];rfl
  have LZ:H3.fz=H.fz:=by rw [dI];rfl
  clear dI
  have U9:=(f3.get H.next (by omega) (by simp)).trans Ao
  have gr3:=(f3.get br (by omega) (by simp)).trans IV
  have FX:H.fz z=false:=vc z (by omega)
  have nz:¬z=H.next:=by omega
  have O9:¬H.next=z:=fun e=>nz e.symm
  refine wS.of mixed hc ?_
  simp only [go_sem,U9,IX,FX,nz,O9]
  have gC:∀A B c,((H3.ah z A).ah z B).fz c=H.fz c:=fun A B c=>by rw [<-LZ];rfl
  obtain ⟨H4,dx⟩:∃H4,H4=(H3.ah z ⟨zC ⟨.slice aM P.msgs.length kM,.slice aR P.bZ.length kR,.slice aD P.defs.length kD,.slice aN P.nodes.length kN,.slice aM P.msgs.length kM,.slice none 0 0,.slice none 0 0,[]⟩ (.slice none 0 0),131,false,false⟩).ah z ⟨zC (zS (.slice aM P.msgs.length kM) (.slice aR P.bZ.length kR) (.slice aD P.defs.length kD) (.slice aN P.nodes.length kN) (.slice none 0 0) []) (.slice none 0 0),131,false,false⟩:=⟨_,rfl⟩
  have Pc:H4.get z=some ⟨zC (zS (.slice aM P.msgs.length kM) (.slice aR P.bZ.length kR) (.slice aD P.defs.length kD) (.slice aN P.nodes.length kN) (.slice none 0 0) []) (.slice none 0 0),131,false,false⟩:=by rw [dx,az,if_pos rfl]
  have f4:Fr [] H2 H4:=by rw [dx];exact (f3.ah (.inr (by omega)) _).ah (.inr (by omega)) _
  have FY:H4.next=H3.next:=by rw [dx];rfl
  have gC:∀c,H4.fz c=H.fz c:=fun c=>by rw [dx];exact gC _ _ c
  rw [<-dx]
  clear dx
  have IW:=(f4.get H.next (by omega) (by simp)).trans Ao
  have Fl:=(f4.get br (by omega) (by simp)).trans IV
  have FZ:=U7.then f4
  have hzq:ZQ (zS (.slice aM P.msgs.length kM) (.slice aR P.bZ.length kR) (.slice aD P.defs.length kD) (.slice aN P.nodes.length kN) (.slice none 0 0) []) P.nodes (gM++(gR++(gD++gN))) H4 z [] [] []:=⟨⟨⟨_,Pc,Gr.nil _ _ _⟩,(U6 FZ).i fun c hc=>by simp [hc],by omega,by simp,by simp,fun c hc=>by have:=aZ c hc;omega⟩,by rw [gC];exact FX,by simp,fun b hb=>by rw [gC];exact vc b (by omega)⟩
  cases mU:HG P.nodes fuel P.defs [] [] with
  | none=>rw [mU] at he;cases he
  | some X=>
  rw [mU] at he
  simp only [Option.bind_some] at he
  refine il 633825300111808857739137909760 P.defs.length (fun i V H5=>V 61=iV (i:Nat)/\∃vQ ns m g mD gE done,ZR (zS (.slice aM P.msgs.length kM) (.slice aR P.bZ.length kR) (.slice aD P.defs.length kD) (.slice aN P.nodes.length kN) vQ []) P.nodes (gM++(gR++(gD++gN))) H4 z [] [] [] H5 ns m g/\Gr jh 38 H5 vQ done mD gE/\(∀c∈mD,H4.next<=c/\c < H5.next/\c≠z/\c∉m/\c∉g/\c∉(gM++(gR++(gD++gN))))/\(∀c∈gE,c < H5.next/\c≠z/\c∉m/\c∉mD/\(c∈(gM++(gR++(gD++gN)))∨H4.next<=c))/\done.length=i/\HG P.nodes fuel (P.defs.drop i) done ns=some X)
   ⟨by simp only [go_sem] <;> rfl,.slice none 0 0,[],[],[],[],[],[],ZR.start hzq,Gr.nil _ _ _,by simp,by simp,rfl,mU⟩ ?_ ?_ (by rfl)
  ·rintro i V H5 hi ⟨ei,vQ,ns,m,g,mD,gE,done,r5,ly,nU,tY,db,mU⟩
   have hx:P.defs[i]?=some (P.defs[i]'hi):=List.getElem?_eq_getElem hi
   have cB:P.defs.drop i=(P.defs[i]'hi)::P.defs.drop (i+1):=(List.getElem_cons_drop hi).symm
   generalize (P.defs[i]'hi)=d at hx cB
   rw [cB,HG] at mU
   have kP:∀{S LQ mx gx Hx},ZR S P.nodes (gM++(gR++(gD++gN))) H4 z [] [] [] Hx LQ mx gx->∀c∈gM++(gR++(gD++gN)),Hx.get c=H.get c:=fun r c hc=>by
    rw [r.fr.get c (by have:=aZ c hc;omega) (by simp;have:=aZ c hc;omega),kG FZ c hc]
   have hD5:=hD.ae (H':=H5) fun c hc=>kP r5 c (by simp [hc])
   obtain ⟨b,o,c',B,gx,hv,hB,ee,de,b7,hE⟩:=hD5.at hx
   simp only [Value.slice.injEq] at hv
   have F0:=hv.1
   obtain ⟨vA,vP,vB,u1,u2,u3,aV,rfl,t1,t2,t3⟩:=hE
   obtain ⟨a1,k1,rfl⟩:=t1.val
   obtain ⟨a2,k2,rfl⟩:=t2.val
   obtain ⟨a3,k3,rfl⟩:=t3.val
   have en:o+i * 9+9<=B.cells.length:=b7
   have aV:(B.cells.drop (o+i * 9)).take 9=dK d (.slice a1 d.params.length k1) (.slice a2 d.pat.length k2) (.slice a3 d.on.length k3):=aV
   have bX:IntKind.wrap .i64 (((i:Nat):Int)+1)=((i+1:Nat):Int):=cW hi (by omega)
   have w4:=r5.fr.nx
   have i9:H.fz H5.next=false:=vc _ (by omega)
   have r6:=r5.push ⟨dK d (.slice a1 d.params.length k1) (.slice a2 d.pat.length k2) (.slice a3 d.on.length k3),38,false,false⟩
   obtain ⟨H6,ez⟩:=r6.hp
   have dH:H6.get H5.next=some ⟨dK d (.slice a1 d.params.length k1) (.slice a2 d.pat.length k2) (.slice a3 d.on.length k3),38,false,false⟩:=by rw [ez,aU,if_pos rfl]
   have k6:∀c,c < H5.next->H6.get c=H5.get c:=fun c hc=>by rw [ez,bS hc]
   have FV:H6.next=H5.next+1:=by rw [ez];rfl
   simp only [go_sem,ei,hi,F0,hB,en,aV,i9]
   rw [<-ez] at r6 ⊢
   clear ez
   obtain ⟨qN6,yM,auw⟩:=r6.zq.row
   have IY:∀c∈u1++(u2++u3),c∈gM++(gR++(gD++gN)):=fun c hc=>by
    have:=de c hc
    simp [this]
   have ks:∀c∈u1++(u2++u3),H6.get c=H5.get c:=fun c hc=>by rw [kP r6 c (IY c hc),kP r5 c (IY c hc)]
   obtain ⟨aQ,Va⟩:=ly.val
   subst Va
   cases uu:d.rW with
   | true=>
    rw [uu,if_pos rfl] at mU
    cases uS:JT (yV P.nodes d.name fuel) d ns with
    | none=>rw [uS] at mU;cases mU
    | some RA=>
    obtain ⟨d2,bK⟩:=RA
    rw [uS] at mU
    simp only [Option.bind_some] at mU
    simp only [go_sem,dH,uu,yM]
    have kz:z∉m/\z∉mD:=⟨fun e=>(r6.zq.hm z e).2.1 rfl,fun e=>(nU z e).2.2.1 rfl⟩
    refine af.by (adf (d:={d with rW:=true}) (by omega) r6.zq (t1.ae fun c hc=>ks c (by simp [hc])) (t2.ae fun c hc=>ks c (by simp [hc])) (t3.ae fun c hc=>ks c (by simp [hc])) IY uS) ?_
    rintro _ Hc - ⟨cf,Vb,cle,v5,g5,m9,g9,rfl,cs,cg5,c0,Dz,L0⟩
    obtain ⟨a5,k5,rfl⟩:=cs.val
    have rc:ZR (zS (.slice aM P.msgs.length kM) (.slice aR P.bZ.length kR) (.slice aD P.defs.length kD) (.slice aN P.nodes.length kN) (.slice aQ done.length done.length) []) P.nodes (gM++(gR++(gD++gN))) H4 z [] [] [] Hc bK m9 g9:=by
     have ID:∀c∈m9,Hc.fz c=false:=fun c hc=>by
      rw [Vb]
      exact (Dz c hc).elim (r6.zq.fm c) (r6.zq.fn c)
     refine ⟨r6.fr.trans cf fun c hc=>?_,{c0 with fz:=by rw [Vb];exact r6.zq.fz,fm:=ID,fn:=fun b hb=>by rw [Vb];exact r6.zq.fn b (Nat.le_trans cf.nx hb)},Nat.zero_le _,fun c hc=>.inr ?_,fun c hc=>?_⟩
     ·rcases List.mem_cons.1 hc with e | e
      ·exact .inl (by simp [e])
      ·exact .inr ((r6.sm c e).elim (fun e=>by simp at e) id)
     ·exact (Dz c hc).elim (fun e=>(r6.sm c e).elim (fun e=>by simp at e) id) fun e=>by omega
     ·exact (L0 c hc).elim (fun e=>r6.sg c e) fun e=>e.elim (fun e=>.inr (.inl e)) fun e=>.inr (.inr (by omega))
    have ncf:=cf.nx
    have EL:∀c∈mD,Hc.get c=H6.get c/\c∉m9/\c∉g9:=fun c hc=>by
     have h5:=nU c hc
     exact ⟨cf.get c (by omega) (by simp only [List.mem_cons,not_or];exact ⟨h5.2.2.1,h5.2.2.2.1⟩),fun e=>(Dz c e).elim h5.2.2.2.1 fun e=>by omega,fun e=>(L0 c e).elim h5.2.2.2.2.1 fun e=>e.elim h5.2.2.2.2.2 fun e=>by omega⟩
    have KI:∀c∈gE,Hc.get c=H6.get c/\c∉m9:=fun c hc=>by
     have h5:=tY c hc
     exact ⟨cf.get c (by omega) (by simp only [List.mem_cons,not_or];exact ⟨h5.2.1,h5.2.2.1⟩),fun e=>(Dz c e).elim h5.2.2.1 fun e=>by omega⟩
    have r7:=rc.push ⟨dK d2 (.slice a5 d2.params.length k5) (.slice none 0 0) (.slice none 0 0),38,false,false⟩
    obtain ⟨H7,cS⟩:=r7.hp
    have ea:H7.get Hc.next=some ⟨dK d2 (.slice a5 d2.params.length k5) (.slice none 0 0) (.slice none 0 0),38,false,false⟩:=by rw [cS,aU,if_pos rfl]
    have k7:∀c,c < Hc.next->H7.get c=Hc.get c:=fun c hc=>by rw [cS,bS hc]
    have xg:H7.next=Hc.next+1:=by rw [cS];rfl
    obtain ⟨qNc,Pd,_⟩:=rc.zq.row
    simp only [go_sem,yM,Pd,eA tz (by decide) (by decide)]
    rw [<-cS] at r7 ⊢
    clear cS
    have hdp:d2.pat=[]/\d2.on=[]:=by
     unfold JT at uS
     split at uS
     ·cases uS
     ·cases IQ:IP (yV P.nodes d.name fuel) d.on [] (ns++[z3 d]) with
      | none=>rw [IQ] at uS;cases uS
      | some y=>
       rw [IQ] at uS
       simp only [Option.bind_some] at uS
       split at uS
       ·cases uS
       ·cases uS
        exact ⟨rfl,rfl⟩
    have bG:=ly.ae (H':=H7) (fun c hc=>by rw [k7 c (by have:=(nU c hc).2.1;omega),(EL c hc).1,k6 c (nU c hc).2.1]) (fun c hc=>by rw [k7 c (by have:=(tY c hc).1;omega),(KI c hc).1,k6 c (tY c hc).1])
    have EM:∀c∈mD,H4.next<=c/\c < H7.next/\c≠z/\c∉m9/\c∉g9/\c∉(gM++(gR++(gD++gN))):=fun c hc=>⟨(nU c hc).1,by have:=(nU c hc).2.1;omega,(nU c hc).2.2.1,(EL c hc).2.1,(EL c hc).2.2,(nU c hc).2.2.2.2.2⟩
    have EN:∀c∈gE,c < H7.next/\c≠z/\c∉m9/\c∉mD/\(c∈(gM++(gR++(gD++gN)))∨H4.next<=c):=fun c hc=>⟨by have:=(tY c hc).1;omega,(tY c hc).2.1,(KI c hc).2,(tY c hc).2.2.2⟩
    have A7:∀c∈g5,c < H7.next/\c≠z/\c∉m9/\c∉mD/\(c∈(gM++(gR++(gD++gN)))∨H4.next<=c):=fun c hc=>by
     have:=cg5 c hc
     exact ⟨by omega,this.2.2.2,this.1,fun e=>this.2.1.elim (nU c e).2.2.2.2.2 fun e'=>by have:=(nU c e).2.1;omega,this.2.1.imp id fun e=>by omega⟩
    have oU:jh.E H7 (dK d2 (.slice a5 d2.params.length k5) (.slice none 0 0) (.slice none 0 0)) d2 g5:=⟨_,_,_,g5,[],[],rfl,by simp,cs.ae fun c hc=>k7 c (cg5 c hc).2.2.1,.inl ⟨rfl,hdp.1,rfl⟩,.inl ⟨rfl,hdp.2,rfl⟩⟩
    refine jT (r:=jh) (x:=d2) (g':=g5) tz bG (fun c hc=>(EM c hc).2.1) (fun c hc=>(EN c hc).1) (fun c hc=>⟨(A7 c hc).1,(A7 c hc).2.2.2.1⟩) (fun c hc=>vc c (by have:=(EM c hc).1;omega)) ea oU rfl (by omega) ?_
    intro v8 H8 kY Oe HH A8 A9
    have r8:=r7.own A8 (fun c hc=>by have:=EM c hc;exact ⟨this.1,this.2.2⟩) (fun c hc=>by rw [A9,show (c==H7.next)=false from by rw [beq_eq_false_iff_ne];omega,Bool.false_or])
    obtain ⟨qN8,Pe,Sw⟩:=r8.re
    obtain ⟨a8,L1⟩:=kY.val
    subst L1
    have r9:=Sw (zS (.slice aM P.msgs.length kM) (.slice aR P.bZ.length kR) (.slice aD P.defs.length kD) (.slice aN P.nodes.length kN) (.slice a8 (done++[d2]).length (done++[d2]).length) []) rfl
    obtain ⟨qN7,sW,_⟩:=r7.zq.row
    simp only [go_sem,Pd,yM,sW,Pe,FX,ei,bX]
    refine ⟨_,_,m9,g9,_,_,_,r9,kY.ae (fun c hc=>?_) (fun c hc=>?_),fun c hc=>?_,fun c hc=>?_,by rw [List.length_append,List.length_singleton,db],mU⟩
    ·rw [List.mem_singleton] at hc
     rw [az,if_neg (by omega)]
    ·rw [az,if_neg]
     exact (List.mem_append.1 hc).elim (fun e=>(EN c e).2.1) fun e=>(A7 c e).2.1
    ·rw [List.mem_singleton] at hc
     subst hc
     show _/\_ < H8.next/\_
     exact ⟨by omega,by omega,by omega,fun e=>by have:=(r7.zq.hm _ e).1;omega,fun e=>by have:=(r7.zq.hg _ e).1;omega,fun e=>by have:=(r7.zq.hP _ e).1;omega⟩
    ·show c < H8.next/\_
     have EO:c < H7.next/\c≠z/\c∉m9/\c∉mD/\(c∈(gM++(gR++(gD++gN)))∨H4.next<=c):=(List.mem_append.1 hc).elim (EN c) (A7 c)
     exact ⟨by omega,EO.2.1,EO.2.2.1,fun e=>by rw [List.mem_singleton] at e;omega,EO.2.2.2.2⟩
   | false=>
    rw [if_neg (by rw [uu];decide)] at mU
    cases hJ:yV P.nodes [] fuel d.body ns with
    | none=>rw [hJ] at mU;cases mU
    | some RB=>
    obtain ⟨bi,bK⟩:=RB
    rw [hJ] at mU
    simp only [Option.bind_some] at mU
    simp only [go_sem,dH,uu,yM]
    refine af.by ((QJ (S:=zS (.slice aM P.msgs.length kM) (.slice aR P.bZ.length kR) (.slice aD P.defs.length kD) (.slice aN P.nodes.length kN) (.slice aQ done.length done.length) []) (by omega) fuel) r6.zq hJ) ?_
    rintro _ Hc - ⟨rfl,pc⟩
    obtain ⟨m9,g9,rc,Dz,L0⟩:=r6.call pc
    have cf:=pc.1
    have ncf:=cf.nx
    have iy:H4.next<=H5.next/\H5.next≠z/\H5.next∉m9/\H5.next∉g9/\H5.next∉(gM++(gR++(gD++gN))):=⟨w4,by omega,fun e=>(Dz _ e).elim (fun e=>by have:=(r5.zq.hm _ e).1;omega) fun e=>by omega,fun e=>(L0 _ e).elim (fun e=>by have:=(r5.zq.hg _ e).1;omega) fun e=>e.elim (fun e=>by have:=(r5.zq.hP _ e).1;omega) fun e=>by omega,fun e=>by have:=(r5.zq.hP _ e).1;omega⟩
    have gxc:=(cf.get H5.next (by omega) (by simp only [List.mem_cons,not_or];exact ⟨iy.2.1,fun e=>by have:=(r5.zq.hm _ e).1;omega⟩)).trans dH
    have EL:∀c∈mD,Hc.get c=H6.get c/\c∉m9/\c∉g9:=fun c hc=>by
     have h5:=nU c hc
     exact ⟨cf.get c (by omega) (by simp only [List.mem_cons,not_or];exact ⟨h5.2.2.1,h5.2.2.2.1⟩),fun e=>(Dz c e).elim h5.2.2.2.1 fun e=>by omega,fun e=>(L0 c e).elim h5.2.2.2.2.1 fun e=>e.elim h5.2.2.2.2.2 fun e=>by omega⟩
    have KI:∀c∈gE,Hc.get c=H6.get c/\c∉m9:=fun c hc=>by
     have h5:=tY c hc
     exact ⟨cf.get c (by omega) (by simp only [List.mem_cons,not_or];exact ⟨h5.2.1,h5.2.2.1⟩),fun e=>(Dz c e).elim h5.2.2.1 fun e=>by omega⟩
    have r7:=(rc.own (M:=[H5.next]) ((Fr.refl _ _).ah (b:=H5.next) (.inl (by simp)) ⟨dK {d with body:=bi} (.slice a1 d.params.length k1) (.slice a2 d.pat.length k2) (.slice a3 d.on.length k3),38,false,false⟩) (fun c hc=>by rw [List.mem_singleton] at hc;rw [hc];exact iy) (fun _ _=>rfl)).push ⟨dK {d with body:=bi} (.slice a1 d.params.length k1) (.slice a2 d.pat.length k2) (.slice a3 d.on.length k3),38,false,false⟩
    obtain ⟨H7,cS⟩:=r7.hp
    have ea:H7.get Hc.next=some ⟨dK {d with body:=bi} (.slice a1 d.params.length k1) (.slice a2 d.pat.length k2) (.slice a3 d.on.length k3),38,false,false⟩:=by rw [cS,aU];exact if_pos rfl
    have k7:∀c,c < Hc.next->c≠H5.next->H7.get c=Hc.get c:=fun c hc h5=>by rw [cS,bS (by rw [om];exact hc),az,if_neg h5]
    have xg:H7.next=Hc.next+1:=by rw [cS];rfl
    obtain ⟨qNc,Pd,_⟩:=rc.zq.row
    have nz5:¬z=H5.next:=fun e=>iy.2.1 e.symm
    simp only [go_sem,gxc,i9,Pd,nz5,eA tz (by decide) (by decide)]
    rw [<-cS] at r7 ⊢
    clear cS
    have bG:=ly.ae (H':=H7) (fun c hc=>by have:=(nU c hc).2.1;rw [k7 c (by omega) (by omega),(EL c hc).1,k6 c this]) (fun c hc=>by have:=(tY c hc).1;rw [k7 c (by omega) (by omega),(KI c hc).1,k6 c this])
    have EM:∀c∈mD,H4.next<=c/\c < H7.next/\c≠z/\c∉m9/\c∉g9/\c∉(gM++(gR++(gD++gN))):=fun c hc=>⟨(nU c hc).1,by have:=(nU c hc).2.1;omega,(nU c hc).2.2.1,(EL c hc).2.1,(EL c hc).2.2,(nU c hc).2.2.2.2.2⟩
    have EN:∀c∈gE,c < H7.next/\c≠z/\c∉m9/\c∉mD/\(c∈(gM++(gR++(gD++gN)))∨H4.next<=c):=fun c hc=>⟨by have:=(tY c hc).1;omega,(tY c hc).2.1,(KI c hc).2,(tY c hc).2.2.2⟩
    have A7:∀c∈u1++(u2++u3),c < H7.next/\c≠z/\c∉m9/\c∉mD/\(c∈(gM++(gR++(gD++gN)))∨H4.next<=c):=fun c hc=>by
     have hp:=IY c hc
     exact ⟨(r7.zq.hP c hp).1,(r7.zq.hP c hp).2,fun e=>(r7.zq.hm c e).2.2.1 hp,fun e=>(nU c e).2.2.2.2.2 hp,.inl hp⟩
    have Vc:∀c∈u1++(u2++u3),H7.get c=H5.get c:=fun c hc=>by rw [kP r7 c (IY c hc),kP r5 c (IY c hc)]
    have oU:jh.E H7 (dK {d with body:=bi} (.slice a1 d.params.length k1) (.slice a2 d.pat.length k2) (.slice a3 d.on.length k3)) {d with body:=bi} (u1++(u2++u3)):=⟨_,_,_,u1,u2,u3,rfl,rfl,t1.ae fun c hc=>Vc c (by simp [hc]),t2.ae fun c hc=>Vc c (by simp [hc]),t3.ae fun c hc=>Vc c (by simp [hc])⟩
    refine jT (r:=jh) (x:={d with body:=bi}) (g':=u1++(u2++u3)) tz bG (fun c hc=>(EM c hc).2.1) (fun c hc=>(EN c hc).1) (fun c hc=>⟨(A7 c hc).1,(A7 c hc).2.2.2.1⟩) (fun c hc=>vc c (by have:=(EM c hc).1;omega)) ea oU rfl (by omega) ?_
    intro v8 H8 kY Oe HH A8 A9
    have r8:=r7.own A8 (fun c hc=>by have:=EM c hc;exact ⟨this.1,this.2.2⟩) (fun c hc=>by rw [A9,show (c==H7.next)=false from by rw [beq_eq_false_iff_ne];omega,Bool.false_or])
    obtain ⟨qN8,Pe,Sw⟩:=r8.re
    obtain ⟨a8,L1⟩:=kY.val
    subst L1
    have r9:=Sw (zS (.slice aM P.msgs.length kM) (.slice aR P.bZ.length kR) (.slice aD P.defs.length kD) (.slice aN P.nodes.length kN) (.slice a8 (done++[{d with body:=bi}]).length (done++[{d with body:=bi}]).length) []) rfl
    obtain ⟨qN7,sW,_⟩:=r7.zq.row
    simp only [go_sem,yM,sW,Pe,FX,ei,bX]
    refine ⟨_,_,m9,g9,_,_,_,r9,kY.ae (fun c hc=>?_) (fun c hc=>?_),fun c hc=>?_,fun c hc=>?_,by rw [List.length_append,List.length_singleton,db],mU⟩
    ·rw [List.mem_singleton] at hc
     rw [az,if_neg (by omega)]
    ·rw [az,if_neg]
     exact (List.mem_append.1 hc).elim (fun e=>(EN c e).2.1) fun e=>(A7 c e).2.1
    ·rw [List.mem_singleton] at hc
     subst hc
     show _/\_ < H8.next/\_
     exact ⟨by omega,by omega,by omega,fun e=>by have:=(r7.zq.hm _ e).1;omega,fun e=>by have:=(r7.zq.hg _ e).1;omega,fun e=>by have:=(r7.zq.hP _ e).1;omega⟩
    ·show c < H8.next/\_
     have EO:c < H7.next/\c≠z/\c∉m9/\c∉mD/\(c∈(gM++(gR++(gD++gN)))∨H4.next<=c):=(List.mem_append.1 hc).elim (EN c) (A7 c)
     exact ⟨by omega,EO.2.1,EO.2.2.1,fun e=>by rw [List.mem_singleton] at e;omega,EO.2.2.2.2⟩
  ·rintro V H5 ⟨ei,vQ,ns,m,g,mD,gE,done,r5,ly,nU,tY,db,mU⟩
   rw [List.drop_length] at mU
   cases mU
   simp only at he
   by_cases pB:90000 < ns.length
   ·rw [if_pos pB] at he;cases he
   rw [if_neg pB] at he
   have w4:=r5.fr.nx
   obtain ⟨qN5,IM,YH⟩:=r5.zq.row
   obtain ⟨aQN,akG⟩:=YH.val
   subst akG
   have k5:∀c,c < H4.next->c≠z->H5.get c=H4.get c:=fun c h1 h2=>r5.fr.get c h1 (by simp [h2])
   have gp5:=(k5 H.next (by omega) O9).trans IW
   have Pf:=(k5 br (by omega) (by omega)).trans Fl
   have B3:Fr [] H H5:=FZ.trans r5.fr fun c hc=>.inr (by simp at hc;omega)
   by_cases ZP:400 < ns.length
   ·rw [if_pos ZP] at he
    cases he
    have Rz:(400:Int) < (ns.length:Nat):=by omega
    simp only [go_sem,ei,IM,Rz,Pf,gJ,q7]
    exact ⟨((B3.ah (.inr (by omega)) _).ai _).aE,_,_,_,rfl,by decide⟩
   ·rw [if_neg ZP] at he
    have Rz:¬(400:Int) < (ns.length:Nat):=by omega
    simp only [go_sem,ei,IM,Rz,gp5]
    refine il 340281068846723829756467474807685910584 P.defs.length (fun i V H6=>V 110=iV (i:Nat)/\Fr [] H5 H6/\P.defs.any (fun d=>d.rW&&Nat.ble 6 d.params.length)=(P.defs.drop i).any (fun d=>d.rW&&Nat.ble 6 d.params.length)) ⟨by simp only [go_sem] <;> rfl,Fr.refl _ _,rfl⟩ ?_ ?_ (by rfl)
    ·rintro i V H6 hi ⟨ei,f6,mv⟩
     have hx:P.defs[i]?=some (P.defs[i]'hi):=List.getElem?_eq_getElem hi
     have cB:P.defs.drop i=(P.defs[i]'hi)::P.defs.drop (i+1):=(List.getElem_cons_drop hi).symm
     generalize (P.defs[i]'hi)=d at hx cB
     rw [cB,List.any_cons] at mv
     have Pg:=B3.then f6
     obtain ⟨b,o,c',B,gx,hv,hB,ee,de,b7,hE⟩:=(U5 Pg).at hx
     simp only [Value.slice.injEq] at hv
     have F0:=hv.1
     obtain ⟨vA,vP,vB,u1,u2,u3,aV,rfl,t1,t2,t3⟩:=hE
     obtain ⟨a1,k1,rfl⟩:=t1.val
     obtain ⟨a2,k2,rfl⟩:=t2.val
     obtain ⟨a3,k3,rfl⟩:=t3.val
     have en:o+i * 9+9<=B.cells.length:=b7
     have aV:(B.cells.drop (o+i * 9)).take 9=dK d (.slice a1 d.params.length k1) (.slice a2 d.pat.length k2) (.slice a3 d.on.length k3):=aV
     have bX:IntKind.wrap .i64 (((i:Nat):Int)+1)=((i+1:Nat):Int):=cW hi (by omega)
     have O2:=f6.nx
     have B4:H.fz H6.next=false:=vc _ (by omega)
     have gr6:=(f6.get br (by omega) (by simp)).trans Pf
     have nr6:¬H6.next=br:=by omega
     have akH:¬br=H6.next:=by omega
     cases uu:d.rW with
     | true=>
      by_cases F1:6<=d.params.length
      ·have Ba:(6:Int)<=(d.params.length:Nat):=by omega
       rw [uu,Bool.true_and,Nat.ble_eq_true_of_le F1,Bool.true_or] at mv
       rw [if_pos mv] at he
       cases he
       simp only [go_sem,ei,hi,F0,hB,en,aV,B4,uu,Ba,q7,gr6,nr6,akH,gJ]
       exact ⟨(((Pg.push _).ah (.inr (by omega)) _).ai _).aE,_,_,_,rfl,by decide⟩
      ·have Ba:¬(6:Int)<=(d.params.length:Nat):=by omega
       have Sx:Nat.ble 6 d.params.length=false:=by rw [<-Bool.not_eq_true,Nat.ble_eq];exact F1
       rw [uu,Bool.true_and,Sx,Bool.false_or] at mv
       simp only [go_sem,ei,hi,F0,hB,en,aV,B4,uu,Ba,bX]
       exact ⟨f6.push _,mv⟩
     | false=>
      rw [uu,Bool.false_and,Bool.false_or] at mv
      simp only [go_sem,ei,hi,F0,hB,en,aV,B4,uu,bX]
      exact ⟨f6.push _,mv⟩
    ·rintro V H6 ⟨ei,f6,mv⟩
     rw [List.drop_length,List.any_nil] at mv
     rw [mv,if_neg (by decide)] at he
     have O2:=f6.nx
     have gp6:=(f6.get H.next (by omega) (by simp)).trans gp5
     have Pg:=B3.then f6
     simp only [go_sem,ei,gp6]
     refine il 45671923444331780826357443315386984910102216760 P.nodes.length (fun i V H7=>V 131=iV (i:Nat)/\Fr [] H6 H7/\P.nodes.any (fun n=>(decide (n.kind=2)||decide (n.kind=14))&&Nat.ble 6 n.args.length)=(P.nodes.drop i).any (fun n=>(decide (n.kind=2)||decide (n.kind=14))&&Nat.ble 6 n.args.length)) ⟨by simp only [go_sem] <;> rfl,Fr.refl _ _,rfl⟩ ?_ ?_ (by rfl)
     ·rintro i V H7 hi ⟨ei,f7,mv⟩
      have hx:P.nodes[i]?=some (P.nodes[i]'hi):=List.getElem?_eq_getElem hi
      have cB:P.nodes.drop i=(P.nodes[i]'hi)::P.nodes.drop (i+1):=(List.getElem_cons_drop hi).symm
      generalize (P.nodes[i]'hi)=x at hx cB
      rw [cB,List.any_cons] at mv
      have f07:=Pg.then f7
      obtain ⟨b,o,c',B,gx,hv,hB,ee,de,b7,hE⟩:=(U6 f07).at hx
      simp only [Value.slice.injEq] at hv
      have vX:=hv.1
      obtain ⟨vA,vQ',vB,u1,u2,u3,aV,rfl,t1,t2,t3⟩:=hE
      obtain ⟨a1,k1,rfl⟩:=t1.val
      obtain ⟨a2,k2,rfl⟩:=t2.val
      obtain ⟨a3,k3,rfl⟩:=t3.val
      have en:o+i * 20+20<=B.cells.length:=b7
      have aV:(B.cells.drop (o+i * 20)).take 20=aJ x (.slice a1 x.args.length k1) (.slice a2 x.pat.length k2) (.slice a3 x.ak.length k3):=aV
      have bX:IntKind.wrap .i64 (((i:Nat):Int)+1)=((i+1:Nat):Int):=cW hi (by omega)
      have O3:=f7.nx
      have L3:H.fz H7.next=false:=vc _ (by omega)
      have Ph:=(f7.get br (by omega) (by simp)).trans ((f6.get br (by omega) (by simp)).trans Pf)
      have Uj:¬H7.next=br:=by omega
      have ZT:¬br=H7.next:=by omega
      by_cases hk:x.kind=2∨x.kind=14
      ·have lI:(decide (x.kind=2)||decide (x.kind=14))=true:=by simpa using hk
       by_cases F1:6<=x.args.length
       ·have Ba:(6:Int)<=(x.args.length:Nat):=by omega
        rw [lI,Bool.true_and,Nat.ble_eq_true_of_le F1,Bool.true_or] at mv
        rw [if_pos mv] at he
        cases he
        have fin:bc H (((H7.push ⟨aJ x (.slice a1 x.args.length k1) (.slice a2 x.pat.length k2) (.slice a3 x.ak.length k3),42,false,false⟩).ah br ⟨[.slice none 0 0,.slice none 0 0,.slice none 0 0,.slice none 0 0],28,false,false⟩).ai H.fz):=(((f07.push _).ah (.inr (by omega)) _).ai _).aE
        by_cases fM:x.kind=2
        ·simp only [go_sem,ei,hi,vX,hB,en,aV,L3,fM,Ba,q7,Ph,Uj,ZT,gJ]
         exact ⟨fin,_,_,_,rfl,by decide⟩
        ·have yh:x.kind=14:=hk.resolve_left fM
         simp only [go_sem,ei,hi,vX,hB,en,aV,L3,fM,yh,Ba,q7,Ph,Uj,ZT,gJ]
         exact ⟨fin,_,_,_,rfl,by decide⟩
       ·have Ba:¬(6:Int)<=(x.args.length:Nat):=by omega
        have Sx:Nat.ble 6 x.args.length=false:=by rw [<-Bool.not_eq_true,Nat.ble_eq];exact F1
        rw [lI,Bool.true_and,Sx,Bool.false_or] at mv
        by_cases fM:x.kind=2
        ·simp only [go_sem,ei,hi,vX,hB,en,aV,L3,fM,Ba,bX]
         exact ⟨f7.push _,mv⟩
        ·have yh:x.kind=14:=hk.resolve_left fM
         simp only [go_sem,ei,hi,vX,hB,en,aV,L3,fM,yh,Ba,bX]
         exact ⟨f7.push _,mv⟩
      ·have fM:¬x.kind=2:=fun e=>hk (.inl e)
       have yh:¬x.kind=14:=fun e=>hk (.inr e)
       have lI:(decide (x.kind=2)||decide (x.kind=14))=false:=by simp [fM,yh]
       rw [lI,Bool.false_and,Bool.false_or] at mv
       simp only [go_sem,ei,hi,vX,hB,en,aV,L3,fM,yh,bX]
       exact ⟨f7.push _,mv⟩
     ·rintro V H7 ⟨ei,f7,mv⟩
      rw [List.drop_length,List.any_nil] at mv
      rw [mv,if_neg (by decide)] at he
      cases he
      have O3:=f7.nx
      have f57:=f6.then f7
      have n57:=f57.nx
      have sW:=(f57.get z (by omega) (by simp)).trans IM
      have Ph:=(f57.get br (by omega) (by simp)).trans Pf
      obtain ⟨aQ,Va⟩:=ly.val
      subst Va
      have LW:¬z=br:=by omega
      simp only [go_sem,ei,sW,Ph,gJ,LW]
      have f08:=(B3.then f57).ah (b:=br) (.inr (by omega)) ⟨[.slice aM P.msgs.length kM,.slice aR P.bZ.length kR,.slice aQ done.length done.length,.slice aQN ns.length ns.length],28,false,false⟩
      have key:∀c,c < H5.next->(c∈(gM++(gR++(gD++gN)))∨H4.next<=c)->((H7.ah br ⟨[.slice aM P.msgs.length kM,.slice aR P.bZ.length kR,.slice aQ done.length done.length,.slice aQN ns.length ns.length],28,false,false⟩).ai H.fz).get c=H5.get c:=fun c h1 h2=>by
       rw [be,az,if_neg (by rcases h2 with e | e;have:=aZ c e;omega;omega)]
       exact f57.get c h1 (by simp)
      have Vd:∀c∈mD++gE,c < H5.next/\(c∈(gM++(gR++(gD++gN)))∨H4.next<=c):=fun c hc=>(List.mem_append.1 hc).elim (fun e=>⟨(nU c e).2.1,.inr (nU c e).1⟩) fun e=>⟨(tY c e).1,(tY c e).2.2.2.2⟩
      have Ve:∀c∈m++g,c < H5.next/\(c∈(gM++(gR++(gD++gN)))∨H4.next<=c):=fun c hc=>(List.mem_append.1 hc).elim (fun e=>⟨(r5.zq.hm c e).1,(r5.sm c e).elim (fun e=>by simp at e) .inr⟩) fun e=>⟨(r5.zq.hg c e).1,(r5.sg c e).elim (fun e=>by simp at e) id⟩
      have Aq:∀c,c∈gM∨c∈gR->c < H.next/\c∈(gM++(gR++(gD++gN))):=fun c hc=>by
       have:c∈(gM++(gR++(gD++gN))):=by rcases hc with e | e <;> simp [e]
       exact ⟨aZ c this,this⟩
      refine ⟨(f08.ai _).aE,_,_,rfl,⟨_,_,_,_,gM,gR,mD++gE,m++g,rfl,hM.ae fun c hc=>?_,hR.ae fun c hc=>?_,ly.sl.ae fun c hc=>key c (Vd c hc).1 (Vd c hc).2,YH.sl.ae fun c hc=>key c (Ve c hc).1 (Ve c hc).2,rfl⟩,fun c hc=>?_⟩
      ·rw [key c (by have:=(Aq c (.inl hc)).1;omega) (.inl (Aq c (.inl hc)).2),B3.get c (Aq c (.inl hc)).1 (by simp)]
      ·rw [key c (by have:=(Aq c (.inr hc)).1;omega) (.inl (Aq c (.inr hc)).2),B3.get c (Aq c (.inr hc)).1 (by simp)]
      ·show c < H7.next/\_
       rcases List.mem_append.1 hc with e | e
       ·exact ⟨by have:=(Aq c (.inl e)).1;omega,.inl (Aq c (.inl e)).2⟩
       ·rcases List.mem_append.1 e with e | e
        ·exact ⟨by have:=(Aq c (.inr e)).1;omega,.inl (Aq c (.inr e)).2⟩
        ·have:∀c,c < H5.next/\(c∈(gM++(gR++(gD++gN)))∨H4.next<=c)->c < H7.next/\(c∈(gM++(gR++(gD++gN)))∨H.next<=c):=fun c h=>⟨by have:=h.1;omega,h.2.imp id fun e=>by omega⟩
         rcases List.mem_append.1 e with e | e
         ·exact this c (Vd c e)
         ·exact this c (Ve c e)
end
end Go.Proofs.YtinjmfblebpnnaaGreat.Ab
namespace Go.Proofs.YtinjmfblebpnnaaGreat.Ab
open Go Classical
section
variable {P:Program} {X:Nat->Bool} {T:oc} {E:Env} {H:ad} {Q:Exit->Env->ad->Prop}
@[go_sem] theorem ana {a b:Nat->Bool}:(H.ai a).ai b=H.ai b:=nr rfl
@[go_sem] theorem al1 {fz:Nat->Bool} {B C:ct}:((H.ai fz).push B).ah H.next C=(H.ai fz).push C:=Xa (H:=H.ai fz)
def uC (P:Program) (X:Nat->Bool) (T:oc):Code->Env->ad->(Exit->Env->ad->Prop)->Prop
 | .skip,E,H,Q=>Q .normal E H
 | .label _,E,H,Q=>Q .normal E H
 | .exit id,E,H,Q=>Q (.exit id) E H
 | .ret,E,H,Q=>Q .ret E H
 | .seq a b,E,H,Q=>uC P X T a E H (oB (fun E H=>uC P X T b E H Q) Q)
 | .cond c a b,E,H,Q=>AZ (jr E c) (uC P X T a E H Q) (uC P X T b E H Q)
 | .block id a,E,H,Q=>uC P X T a E H (uK id Q)
 | .loop a,E,H,Q=>∃n,pC (uC P X T a) n E H Q
 | .region _ ops false,E,H,Q=>kX P X (ops.toList.map (·.dst)) ops.toList E H (fun E' H'=>Q .normal E' (H'.ai X))
 | .region id ops true,E,H,Q=>iY P X (zZ T id) (ops.toList.map (·.dst)) ops.toList 0 [] E H (fun E' H'=>Q .normal E' (H'.ai X))
 | _,_,_,_=>False
@[go_sem ↓] theorem arY:uC P X T .skip E H Q=Q .normal E H:=nr rfl
@[go_sem ↓] theorem arZ {i:Nat}:uC P X T (.exit i) E H Q=Q (.exit i) E H:=nr rfl
@[go_sem ↓] theorem auy:uC P X T .ret E H Q=Q .ret E H:=nr rfl
@[go_sem ↓] theorem RD {a b:Code}:uC P X T (.seq a b) E H Q=uC P X T a E H (oB (fun E H=>uC P X T b E H Q) Q):=nr rfl
@[go_sem ↓] theorem QK {id:Nat} {a:Code}:uC P X T (.block id a) E H Q=uC P X T a E H (uK id Q):=nr rfl
@[go_sem ↓] theorem ar0 {c:Operand} {a b:Code}:uC P X T (.cond c a b) E H Q=Kj (jr E c) (uC P X T a E H Q) (uC P X T b E H Q) .mk .mk:=nr rfl
@[go_sem ↓] theorem aoE {id:Nat} {l:List Oper}:uC P X T (.region id (List.toArray l) false) E H Q=kX P X (l.map (·.dst)) l E H (fun E' H'=>Q .normal E' (H'.ai X)):=nr rfl
@[go_sem ↓] theorem ar1 {id:Nat} {l:List Oper}:uC P X T (.region id (List.toArray l) true) E H Q=Hw P X (zZ T id) l E H (fun E' H'=>Q .normal E' (H'.ai X)):=nr rfl
theorem M8:∀{c:Code} {E:Env} {H:ad} {Q Q':Exit->Env->ad->Prop},(∀e E H,Q e E H->Q' e E H)->uC P X T c E H Q->uC P X T c E H Q':=by
 intro c
 induction c with
 | skip=>intro E H Q Q' hq h;exact hq _ _ _ h
 | label l=>intro E H Q Q' hq h;exact hq _ _ _ h
 | exit id=>intro E H Q Q' hq h;exact hq _ _ _ h
 | ret=>intro E H Q Q' hq h;exact hq _ _ _ h
 | region id ops draw=>
  intro E H Q Q' hq h
  cases draw
  ·exact MI (fun E H h=>hq .normal E (H.ai X) h) h
  ·exact MF (fun E H h=>hq .normal E (H.ai X) h) h
 | seq a b eY lY=>
  intro E H Q Q' hq h
  rw [uC] at h ⊢
  refine eY (fun e E H h=>?_) h
  cases e with
  | normal=>exact lY hq h
  | _=>exact hq _ _ _ h
 | cond x a b eY lY=>
  intro E H Q Q' hq h
  rw [uC] at h ⊢
  unfold AZ at h ⊢
  split
  ·rename_i v hv
   rw [hv] at h
   simp only at h
   split
   ·rename_i hb;rw [if_pos hb] at h;exact eY hq h
   ·rename_i hb;rw [if_neg hb] at h;exact lY hq h
  ·rename_i hv
   split at h
   ·rename_i v nv;exact (hv _ nv).elim
   ·exact h
 | block id a eY=>
  intro E H Q Q' hq h
  rw [uC] at h ⊢
  refine eY (fun e E H h=>?_) h
  cases e with
  | exit i=>
   simp only [uK] at h ⊢
   split
   ·rename_i he;rw [if_pos he] at h;exact hq _ _ _ h
   ·rename_i he;rw [if_neg he] at h;exact hq _ _ _ h
  | _=>exact hq _ _ _ h
 | loop a eY=>
  intro E H Q Q' hq h
  rw [uC] at h ⊢
  obtain ⟨n,h⟩:=h
  exact ⟨n,Qr (step:=uC P X T a) (fun E H Q Q'=>eY) hq h⟩
 | rangeFunc f ps x y=>intro E H Q Q' hq h;cases h
 | scope b=>intro E H Q Q' hq h;cases h
 | goto l=>intro E H Q Q' hq h;cases h
 | refuse w=>intro E H Q Q' hq h;cases h
theorem agf {a:Code} (I:Nat->Env->ad->Prop) {n:Nat} (h0:I n E H) (hr:∀n E H,I n E H->uC P X T a E H (oB (fun E' H'=>∃m,m < n/\I m E' H') Q)):uC P X T (.loop a) E H Q:=by
 rw [uC]
 refine ⟨n+1,?_⟩
 have key:∀k n E H,n < k->I n E H->pC (uC P X T a) k E H Q:=by
  intro k
  induction k with
  | zero=>intro n E H hn;omega
  | succ k ih=>
   intro n E H hn hI
   rw [pC]
   refine M8 (fun e E' H' h=>?_) (hr n E H hI)
   cases e with
   | normal=>
    obtain ⟨m,hm,h⟩:=h
    exact ih m E' H' (by omega) h
   | _=>exact h
 exact key (n+1) n E H (by omega) h0
theorem Yb {m:Nat}:∀{c:Code} {E:Env} {H:ad} {Q Q':Exit->Env->ad->Prop},qB m c=true->(∀e E' H',mH m E E'->Q e E' H'->Q' e E' H')->uC P X T c E H Q->uC P X T c E H Q':=by
 intro c
 induction c with
 | skip=>intro E H Q Q' hc hq h;exact hq _ _ _ (.refl m E) h
 | label l=>intro E H Q Q' hc hq h;exact hq _ _ _ (.refl m E) h
 | exit id=>intro E H Q Q' hc hq h;exact hq _ _ _ (.refl m E) h
 | ret=>intro E H Q Q' hc hq h;exact hq _ _ _ (.refl m E) h
 | region id ops draw=>
  intro E H Q Q' hc hq h
  cases draw
  ·exact MU hc (fun E' H' ho h=>hq .normal E' (H'.ai X) ho h) h
  ·exact MJ hc (fun E' H' ho h=>hq .normal E' (H'.ai X) ho h) h
 | seq a b eY lY=>
  intro E H Q Q' hc hq h
  rw [qB,Bool.and_eq_true] at hc
  rw [uC] at h ⊢
  refine eY hc.1 (fun e E1 H1 ho h=>?_) h
  cases e with
  | normal=>exact lY hc.2 (fun e E2 H2 fD h=>hq _ _ _ (ho.trans fD) h) h
  | _=>exact hq _ _ _ ho h
 | cond x a b eY lY=>
  intro E H Q Q' hc hq h
  rw [qB,Bool.and_eq_true] at hc
  rw [uC] at h ⊢
  unfold AZ at h ⊢
  split
  ·rename_i v hv
   rw [hv] at h
   simp only at h
   split
   ·rename_i hb;rw [if_pos hb] at h;exact eY hc.1 hq h
   ·rename_i hb;rw [if_neg hb] at h;exact lY hc.2 hq h
  ·rename_i hv
   split at h
   ·rename_i v nv;exact (hv _ nv).elim
   ·exact h
 | block id a eY=>
  intro E H Q Q' hc hq h
  rw [uC] at h ⊢
  refine eY hc (fun e E1 H1 ho h=>?_) h
  cases e with
  | exit i=>
   simp only [uK] at h ⊢
   split
   ·rename_i he;rw [if_pos he] at h;exact hq _ _ _ ho h
   ·rename_i he;rw [if_neg he] at h;exact hq _ _ _ ho h
  | _=>exact hq _ _ _ ho h
 | loop a eY=>
  intro E H Q Q' hc hq h
  rw [uC] at h ⊢
  obtain ⟨n,h⟩:=h
  refine ⟨n,?_⟩
  have key:∀n E1 H1,mH m E E1->pC (uC P X T a) n E1 H1 Q->pC (uC P X T a) n E1 H1 Q':=by
   intro n
   induction n with
   | zero=>intro E1 H1 ho h;exact h
   | succ n ih=>
    intro E1 H1 ho h
    rw [pC] at h ⊢
    refine eY hc (fun e E2 H2 fD h=>?_) h
    cases e with
    | normal=>exact ih E2 H2 (ho.trans fD) h
    | _=>exact hq _ _ _ (ho.trans fD) h
  exact key n E H (.refl m E) h
 | rangeFunc f ps x y=>intro E H Q Q' hc hq h;cases h
 | scope b=>intro E H Q Q' hc hq h;cases h
 | goto l=>intro E H Q Q' hc hq h;cases h
 | refuse w=>intro E H Q Q' hc hq h;cases h
theorem QL {a:Code} (m:Nat) (I:Nat->Env->ad->Prop) {n:Nat} (h0:I n E H) (hr:∀n V H1,I n V H1->uC P X T a (vh m V E) H1 (oB (fun E' H'=>∃k,k < n/\I k E' H') Q)) (hc:qB m a=true):uC P X T (.loop a) E H Q:=by
 refine agf (fun n E' H'=>I n E' H'/\mH m E E') ⟨h0,.refl m E⟩ fun n E1 H1 ⟨hI,ho⟩=>?_
 have:=hr n E1 H1 hI
 rw [<-ho.vh] at this
 refine Yb hc (fun e E2 H2 fD h=>?_) this
 cases e with
 | normal=>
  obtain ⟨k,hk,h⟩:=h
  exact ⟨k,hk,h,ho.trans fD⟩
 | _=>exact h
theorem pe {a:Code} (m n:Nat) (I:Nat->Env->ad->Prop) (h0:I 0 E H) (hr:∀i V H1,i < n->I i V H1->uC P X T a (vh m V E) H1 (oB (fun E' H'=>I (i+1) E' H') Q))
  (he:∀V H1,I n V H1->uC P X T a (vh m V E) H1 (oB (fun _ _=>False) Q)) (hc:qB m a=true):uC P X T (.loop a) E H Q:=by
 refine QL m (fun k E' H'=>∃i,i+k=n/\I i E' H') (n:=n) ⟨0,by omega,h0⟩ (fun k V H1 ⟨i,hi,hI⟩=>?_) hc
 cases k with
 | zero=>
  obtain rfl:i=n:=by omega
  refine M8 (fun e E2 H2 h=>?_) (he V H1 hI)
  cases e with
  | normal=>exact h.elim
  | _=>exact h
 | succ k=>
  refine M8 (fun e E2 H2 h=>?_) (hr i V H1 (by omega) hI)
  cases e with
  | normal=>exact ⟨k,by omega,i+1,by omega,h⟩
  | _=>exact h
end
section
variable {P:Program} {X:Nat->Bool}
theorem acv (hm:P.follows .mixedOrders=true) {T:oc} {n:Nat}:∀(c:Code) (t:Act) (E:Env) (H:ad) (Q:Exit->Env->ad->Prop),me P T n c=true->TE n t E->xX X H->uC P X T c E H Q->RC P c t H (Ey X n H Q):=by
 intro c
 induction c with
 | skip=>intro t E H Q _ ht hi h;exact Xv hi.iq.wf ⟨E,ht,.refl hi,h⟩
 | label l=>intro t E H Q _ ht hi h;exact WR hi.iq.wf ⟨E,ht,.refl hi,h⟩
 | exit id=>intro t E H Q _ ht hi h;exact Xw hi.iq.wf ⟨E,ht,.refl hi,h⟩
 | ret=>intro t E H Q _ ht hi h;exact X0 hi.iq.wf ⟨E,ht,.refl hi,h⟩
 | region id ops draw=>
  intro t E H Q hc ht hi h
  have h':wC P X T (.region id ops draw) E H (fun e E' H'=>Q e E' (H'.ai X)):=by cases draw <;> exact h
  obtain ⟨e,t',H',h1,h2,E',h3,h4,h5⟩:=W5 hm hc ht hi h'
  exact ⟨e,t',H'.ai X,⟨h1.next,h1.wf,h1.same⟩,h2.ai X,E',h3,⟨h4.nx,h4.get,fun _ h=>h,⟨h4.iq.wf,fun b hb=>h4.iq.fz b (h4.fz b hb)⟩⟩,h5⟩
 | seq a b eY lY=>
  intro t E H Q hc ht hi h
  simp only [me,Bool.and_eq_true] at hc
  rw [uC] at h
  refine QP ((eY t E H _ hc.1 ht hi h).mono fun e t' H' _ hf=>?_)
  obtain ⟨E',h1,h2,h3⟩:=hf
  cases e with
  | normal=>exact (lY t' E' H' Q hc.2 h1 h2.inv h3).mono fun e2 t2 H2 _ ry=>ry.after h2
  | _=>exact ⟨E',h1,h2,h3⟩
 | cond x a b eY lY=>
  intro t E H Q hc ht hi h
  simp only [me,Bool.and_eq_true] at hc
  rw [uC] at h
  unfold AZ at h
  split at h
  ·rename_i v hx
   rw [ht.ev] at hx
   refine Xz hx hc.1.1 ?_
   cases v
   ·exact lY t E H Q hc.2 ht hi h
   ·exact eY t E H Q hc.1.2 ht hi h
  ·exact h.elim
 | block id a eY=>
  intro t E H Q hc ht hi h
  rw [uC] at h
  refine WS ((eY t E H _ hc ht hi h).mono fun e t' H' _ hf=>?_)
  obtain ⟨E',h1,h2,h3⟩:=hf
  cases e with
  | exit i=>
   simp only [uK] at h3
   simp only
   split
   ·rename_i he;rw [if_pos he] at h3;exact ⟨E',h1,h2,h3⟩
   ·rename_i he;rw [if_neg he] at h3;exact ⟨E',h1,h2,h3⟩
  | _=>exact ⟨E',h1,h2,h3⟩
 | loop a eY=>
  intro t E H Q hc ht hi h
  rw [uC] at h
  obtain ⟨m,h⟩:=h
  refine Xy ?_
  induction m generalizing t E H with
  | zero=>exact h.elim
  | succ m ih=>
   rw [pC] at h
   refine Xx ((eY t E H _ hc ht hi h).mono fun e t' H' _ hf=>?_)
   obtain ⟨E',h1,h2,h3⟩:=hf
   cases e with
   | normal=>exact (ih t' E' H' h1 h2.inv h3).mono fun e2 t2 H2 _ ry=>ry.after h2
   | _=>exact ⟨E',h1,h2,h3⟩
 | rangeFunc f ps x y=>intro t E H Q hc;cases hc
 | scope b=>intro t E H Q hc;cases hc
 | goto l=>intro t E H Q hc;cases hc
 | refuse w=>intro t E H Q hc;cases hc
theorem qi {f:FuncId} {fn:Func} {l:List Value} {H:ad} {K:Value->ad->Prop} (T:oc) (hm:P.follows .mixedOrders=true) (hf:P.funcs[f]?=some fn) (hc:bI P T f=true) (rs:List ResultVar) (hl:l.length<=fn.ntmps) (hr:fn.results.toList=rs)
  (h:bW H->uC P H.fz T (fn.body.getD .skip) (cb l) H (cm P rs K)):aj P f l.toArray H K:=by
 obtain ⟨c,hb,hc⟩:=Ju hc hf
 rw [hb] at h
 subst hr
 refine Nz hf hb hl fun zB t ht hi=>acv hm c t (cb l) H _ hc ht hi (h zB)
section
variable {T:oc} {E:Env} {H:ad} {Q:Exit->Env->ad->Prop}
theorem qj {a b:Code} (m:Nat) (J:Env->ad->Prop) (ha:uC P X T a E H (oB J Q)) (hb:∀V H1,J V H1->uC P X T b (vh m V E) H1 Q) (hc:qB m a=true):uC P X T (.seq a b) E H Q:=by
 rw [uC]
 refine Yb hc (fun e E1 H1 ho h=>?_) ha
 cases e with
 | normal=>
  have:=hb E1 H1 h
  rw [<-ho.vh] at this
  exact this
 | _=>exact h
theorem lS {a b c:Code} (h:uC P X T (.seq (.seq a b) c) E H Q):uC P X T (.seq a (.seq b c)) E H Q:=by
 rw [uC,uC] at h
 rw [uC]
 refine M8 (fun e E1 H1 h=>?_) h
 cases e with
 | normal=>
  show uC P X T (.seq b c) E1 H1 Q
  rw [uC]
  exact h
 | _=>exact h
end
end
structure l9 where
 name:bj
 slot:Int
deriving DecidableEq
abbrev rH:Rp l9:=.flat 2 (by decide) (fun t=>[ag t.name,iV t.slot]) fun _=>rfl
def oF:List l9->List Value
 | []=>[]
 | x::l=>ag x.name::iV x.slot::oF l
theorem AD:∀l:List l9,(oF l).length=l.length * 2
 | []=>rfl
 | x::l=>by rw [oF,List.length_cons,List.length_cons,List.length_cons,AD l];omega
theorem GD:∀l k:List l9,oF (l++k)=oF l++oF k
 | [],k=>rfl
 | x::l,k=>by rw [List.cons_append,oF,GD l k];rfl
theorem Xm (H:ad) (ds:List Value):∀l:List l9,dP rH H (oF l++ds) l []
 | []=>rfl
 | x::l=>⟨[ag x.name,iV x.slot],oF l++ds,[],[],rfl,rfl,⟨rfl,rfl⟩,Xm H ds l⟩
def jz (H:ad) (v:Value) (l:List l9) (mi:List Nat):Prop:=
 (v=.slice none 0 0/\l=[]/\mi=[])∨∃b c ds,v=.slice (some ⟨b,0,none⟩) l.length c/\mi=[b]/\H.get b=some ⟨oF l++ds,139,true,false⟩/\(oF l++ds).length=c * 2
theorem jz.nil (H:ad):jz H (.slice none 0 0) [] []:=.inl ⟨rfl,rfl,rfl⟩
theorem jz.ae {H H':ad} {v:Value} {l:List l9} {mi:List Nat} (h:jz H v l mi) (hk:∀c∈mi,H'.get c=H.get c):jz H' v l mi:=by
 rcases h with h | ⟨b,c,ds,h1,rfl,h3,h4⟩
 ·exact .inl h
 ·exact .inr ⟨b,c,ds,h1,rfl,by rw [hk b (by simp)];exact h3,h4⟩
theorem jz.sl {H:ad} {v:Value} {l:List l9} {mi:List Nat} (h:jz H v l mi):oQ rH H v l mi:=by
 rcases h with ⟨rfl,rfl,rfl⟩ | ⟨b,c,ds,rfl,rfl,h3,h4⟩
 ·exact ⟨[],.inl ⟨rfl,rfl,rfl⟩,by simp⟩
 ·by_cases hl:l=[]
  ·subst hl
   exact ⟨[],.inr (.inl ⟨_,c,rfl,rfl,rfl⟩),by simp⟩
  ·rw [List.length_append,AD] at h4
   exact ⟨[b],.inr (.inr ⟨b,0,c,_,[],rfl,hl,by omega,rfl,h3,Xm H ds l⟩),by simp⟩
theorem jz.val {H:ad} {v:Value} {l:List l9} {mi:List Nat} (h:jz H v l mi):∃a c,v=.slice a l.length c:=h.sl.val
theorem jz.cut {H:ad} {v:Value} {l:List l9} {mi:List Nat} {k:Nat} (h:jz H v l mi) (hk:k<=l.length):
  ∃v',lT Tryz.prog 134 v none (some (.int .i64 (k:Nat))) none h0=.ok v' h0/\jz H v' (l.take k) mi:=by
 rcases h with ⟨rfl,rfl,rfl⟩ | ⟨b,c,ds,rfl,rfl,h3,h4⟩
 ·have:k=0:=by simpa using hk
  subst this
  exact ⟨.slice none 0 0,by kernel_rfl,.inl ⟨rfl,rfl,rfl⟩⟩
 ·have hu:(Tryz.prog).underlying 134=some (.slice 139):=by kernel_rfl
  have hs:dj Tryz.prog 139=some 2:=by kernel_rfl
  have e:l=l.take k++l.drop k:=(List.take_append_drop k l).symm
  have hle:=h4
  rw [List.length_append,AD] at hle
  refine ⟨.slice (some ⟨b,0,none⟩) k c,?_,.inr ⟨b,c,oF (l.drop k)++ds,by rw [List.length_take,Nat.min_eq_left hk],rfl,?_,?_⟩⟩
  ·simp only [lT,hu,hs,nf]
   show (bif Nat.ble 0 k&&Nat.ble k c then (bif Nat.blt 0 c||Nat.beq 0 0 then KO.ok _ _ else _) else .no)=_
   have h1:(Nat.ble 0 k&&Nat.ble k c)=true:=by simp [ble_eq];omega
   have h2:(Nat.blt 0 c||Nat.beq 0 0)=true:=by simp [beq_eq]
   rw [h1,cond_true,h2,cond_true];simp
  ·rw [h3,<-List.append_assoc,<-GD,<-e]
  ·rw [<-List.append_assoc,<-GD,<-e];exact h4
theorem Gr.inr {H:ad} {v:Value} {l:List l9} {m:List Nat} (h:Gr rH 139 H v l m []):jz H v l m:=by
 have key:∀(l:List l9) (cs:List Value) (f:List Nat),dP rH H cs l f->cs.length=l.length * 2->cs=oF l:=by
  intro l
  induction l with
  | nil=>intro cs f _ h;rw [List.length_nil,Nat.zero_mul,List.length_eq_zero_iff] at h;exact h
  | cons x l ih=>
   intro cs f h hl
   obtain ⟨c1,c2,f1,f2,rfl,rfl,h1,h2⟩:=h
   rw [h1.1]
   have:c2.length=l.length * 2:=by rw [h1.1,List.length_append,List.length_cons] at hl;simp only [List.length_cons,List.length_nil] at hl;omega
   rw [ih c2 f2 h2 this];rfl
 rcases h with ⟨rfl,rfl,rfl,_⟩ | ⟨b,cs,rfl,h2,rfl,h3,h4,h5,_⟩
 ·exact .inl ⟨rfl,rfl,rfl⟩
 ·have:=key l cs [] h5 h4
  subst this
  exact .inr ⟨b,l.length,[],rfl,rfl,by rw [List.append_nil];exact h3,by rw [List.append_nil];exact h4⟩
theorem Q2 {X:Nat->Bool} {H:ad} {v:Value} {l:List l9} {x:l9} {mi:List Nat} {b':Nat} {e':TypeId} {K:Value->ad->Prop} {tg:Tag K} (h:jz H v l mi) (hm:∀c∈mi,c < H.next) (hX:∀c∈mi,X c=false) (hB:H.get b'=some ⟨[ag x.name,iV x.slot],e',false,false⟩) (hl:l.length < 1000000)
  (hk:∀v' H' L4,jz H' v' (l++[x]) L4->(∀c∈L4,(c∈mi∨c=H.next)/\c < H'.next)->Fr mi H H'->(∀c,c < H.next∨H'.next<=c->H'.fz c=H.fz c)->K v' H'):el Tryz.prog X H (iG Tryz.prog 134 v (.slice (some ⟨b',0,none⟩) 1 1) H) K tg:=by
 have hs:=GM (c:=1) (sz:=2) hB rfl
 have hp:∀c,c < H.next∨H.next+1<=c->(c==H.next||H.fz c)=H.fz c:=fun c hc=>by
  rw [show (c==H.next)=false from by rw [beq_eq_false_iff_ne];omega,Bool.false_or]
 rcases h with ⟨rfl,rfl,rfl⟩ | ⟨b,c,ds,rfl,rfl,h3,h4⟩
 ·rw [GL (sz:=2) zs hs (by decide) (by decide),wa]
  exact hk _ _ [H.next] (.inr ⟨H.next,1,[],rfl,rfl,by rw [aU,if_pos rfl];rfl,rfl⟩) (fun c hc=>by rw [List.mem_singleton] at hc;subst hc;exact ⟨.inr rfl,Nat.lt_succ_self _⟩) ((Fr.refl _ _).push _) hp
 ·have hle:=h4
  rw [List.length_append,AD] at hle
  have hb:=hm b (by simp)
  have fg:=hX b (by simp)
  by_cases hc:l.length+1<=c
  ·match ds,hle,h3,h4 with
   | d1::d2::ds,hle,h3,h4=>
    have eu:cT (oF l++d1::d2::ds) (0+l.length * 2) [ag x.name,iV x.slot]=oF (l++[x])++ds:=by
     unfold cT
     rw [GD,Nat.zero_add,List.take_append_of_le_length (by rw [AD];exact Nat.le_refl _),List.take_of_length_le (by rw [AD];exact Nat.le_refl _)]
     rw [show l.length * 2+[ag x.name,iV x.slot].length=(oF l).length+2 by rw [AD];rfl,<-List.drop_drop,List.drop_left]
     simp [oF]
    rw [JP (n:=1) (sz:=2) (o:=0) zs hs rfl h3 rfl (by show 0+c * 2<=(oF l++d1::d2::ds).length;omega) (by decide) hc rfl,DZ fg]
    simp only
    rw [eu]
    refine hk _ _ [b] (.inr ⟨b,c,ds,by simp,rfl,by rw [az,if_pos rfl],?_⟩) (fun c hc=>by rw [List.mem_singleton] at hc;subst hc;exact ⟨.inl (by simp),hb⟩) ((Fr.refl _ _).ah (.inl (by simp)) _) (fun _ _=>rfl)
    rw [<-h4,GD];simp [oF]
   | [],hle,_,_=>simp at hle;omega
   | [_],hle,_,_=>simp at hle;omega
  ·have pK:ds=[]:=by rw [<-List.length_eq_zero_iff];omega
   subst pK
   rw [List.append_nil] at h3 h4
   have fE:c=l.length:=by simp at hle;omega
   subst fE
   rw [Qk (n:=1) (sz:=2) zs hs h3 (AD l) (by
    have:(l.length+1) * 1000<=1000000 * 1000:=Nat.mul_le_mul (by omega) (Nat.le_refl _)
    omega) (by decide) rfl,Jv fg]
   refine hk _ _ [H.next] (.inr ⟨H.next,l.length+1,[],by simp,rfl,by rw [ux,if_pos rfl,GD,List.append_nil];rfl,by rw [List.append_nil,AD];simp⟩) (fun c hc=>by rw [List.mem_singleton] at hc;subst hc;exact ⟨.inr rfl,Nat.lt_succ_self _⟩) ⟨Nat.le_succ _,fun c hc yC=>by rw [ux,if_neg (by omega),if_neg (fun e=>yC (by simp [e]))],fun c C hC hr=>by
    rw [ux] at hC
    (repeat' split at hC)
    ·cases hC;cases hr
    ·cases hC
    ·exact hC⟩ hp
structure XS where
 vM:Value
 vR:Value
 vD:Value
structure VT where
 ns:List aH
 aK:List l9
 aX:Int
 inner:Int
 line:Int
 au:Int
 bad:Int
abbrev rC (S:XS) (vN vI:Value) (t:VT):List Value:=[S.vM,S.vR,S.vD,vN,vI,iV t.aX,iV t.inner,iV t.line,iV t.au,iV t.bad]
structure RQ0 (S:XS) (P:bC) (gP:List Nat) (H:ad) (r:Nat) (t:VT) (m g mi:List Nat):Prop where
 row:∃vN vI,H.get r=some ⟨rC S vN vI t,136,false,false⟩/\Gr j6 42 H vN t.ns m g/\jz H vI t.aK mi
 sM:oQ o9 H S.vM P.msgs gP
 sR:oQ qm H S.vR P.bZ gP
 sD:oQ jh H S.vD P.defs gP
 rl:r < H.next
 hm:∀c∈m,c < H.next/\c≠r/\c∉gP/\c∉g/\c∉mi
 hi:∀c∈mi,c < H.next/\c≠r/\c∉gP/\c∉g
 hg:∀c∈g,c < H.next/\c≠r
 hP:∀c∈gP,c < H.next/\c≠r
structure RQ (S:XS) (P:bC) (gP:List Nat) (H:ad) (r:Nat) (t:VT) (m g mi:List Nat):Prop extends RQ0 S P gP H r t m g mi where
 fz:H.fz r=false
 fm:∀c∈m,H.fz c=false
 fi:∀c∈mi,H.fz c=false
 fn:∀b,H.next<=b->H.fz b=false
def wk (S:XS) (P:bC) (gP:List Nat) (H:ad) (r:Nat) (t:VT) (m g mi:List Nat) (t':VT) (H':ad):Prop:=
 Fr (r::(m++mi)) H H'/\(∀c,H'.fz c=H.fz c)/\t'.ns.length=t.ns.length/\∃g' L4,RQ0 S P gP H' r t' m g' L4/\(∀c∈L4,c∈mi∨H.next<=c)/\∀c∈g',c∈g∨H.next<=c
structure RR (S:XS) (P:bC) (gP:List Nat) (H:ad) (r:Nat) (t:VT) (m g mi:List Nat) (H1:ad) (t1:VT) (g1 dz:List Nat):Prop where
 fr:Fr (r::(m++mi)) H H1
 rq:RQ S P gP H1 r t1 m g1 dz
 le:t1.ns.length=t.ns.length
 si:∀c∈dz,c∈mi∨H.next<=c
 sg:∀c∈g1,c∈g∨H.next<=c
 z0:H.fz r=false
 zm:∀c∈m,H.fz c=false
 zi:∀c∈mi,H.fz c=false
 zn:∀b,H.next<=b->H.fz b=false
section
variable {S:XS} {P:bC} {gP:List Nat} {H H1 H2:ad} {r:Nat} {t t1 t2:VT} {m g g1 g2 mi dz dF:List Nat}
theorem RQ0.fr (h:RQ0 S P gP H r t m g mi) {M:List Nat} (bg:Fr M H H1) (mr:r∉M) (mm:∀c∈m,c∉M) (mii:∀c∈mi,c∉M) (mg:∀c∈g,c∉M) (mP:∀c∈gP,c∉M):RQ0 S P gP H1 r t m g mi:=by
 obtain ⟨⟨vN,vI,h1,h2,h3⟩,sM,sR,sD,rl,hm,hi,hg,hP⟩:=h
 have kP:∀c∈gP,H1.get c=H.get c:=fun c hc=>bg.get c (hP c hc).1 (mP c hc)
 exact ⟨⟨vN,vI,(bg.get r rl mr).trans h1,h2.ae (fun c hc=>bg.get c (hm c hc).1 (mm c hc)) (fun c hc=>bg.get c (hg c hc).1 (mg c hc)),h3.ae fun c hc=>bg.get c (hi c hc).1 (mii c hc)⟩,sM.ae kP,sR.ae kP,sD.ae kP,Nat.lt_of_lt_of_le rl bg.nx,fun c hc=>⟨Nat.lt_of_lt_of_le (hm c hc).1 bg.nx,(hm c hc).2⟩,fun c hc=>⟨Nat.lt_of_lt_of_le (hi c hc).1 bg.nx,(hi c hc).2⟩,fun c hc=>⟨Nat.lt_of_lt_of_le (hg c hc).1 bg.nx,(hg c hc).2⟩,fun c hc=>⟨Nat.lt_of_lt_of_le (hP c hc).1 bg.nx,(hP c hc).2⟩⟩
theorem RQ0.ai {fz:Nat->Bool} (h:RQ0 S P gP H r t m g mi):RQ0 S P gP (H.ai fz) r t m g mi:=h.fr ((Fr.refl [] H).ai _) (by simp) (by simp) (by simp) (by simp) (by simp)
theorem RR.start (h:RQ S P gP H r t m g mi):RR S P gP H r t m g mi H t g mi:=⟨.refl _ _,h,rfl,fun _ h=>.inl h,fun _ h=>.inl h,h.fz,h.fm,h.fi,h.fn⟩
theorem RR.own (h:RR S P gP H r t m g mi H1 t1 g1 dz) {M:List Nat} (bg:Fr M H1 H2) (hM:∀c∈M,H.next<=c/\c≠r/\c∉m/\c∉dz/\c∉g1/\c∉gP) (mG:∀c,c < H1.next∨H2.next<=c->H2.fz c=H1.fz c):RR S P gP H r t m g mi H2 t1 g1 dz:=
 ⟨h.fr.trans bg fun c hc=>.inr (hM c hc).1,{h.rq.toRQ0.fr bg (fun e=>(hM r e).2.1 rfl) (fun c hc e=>(hM c e).2.2.1 hc) (fun c hc e=>(hM c e).2.2.2.1 hc) (fun c hc e=>(hM c e).2.2.2.2.1 hc) (fun c hc e=>(hM c e).2.2.2.2.2 hc) with
  fz:=by rw [mG _ (.inl h.rq.rl)];exact h.rq.fz,fm:=fun c hc=>by rw [mG _ (.inl (h.rq.hm c hc).1)];exact h.rq.fm c hc,fi:=fun c hc=>by rw [mG _ (.inl (h.rq.hi c hc).1)];exact h.rq.fi c hc,fn:=fun b hb=>by rw [mG _ (.inr hb)];exact h.rq.fn b (Nat.le_trans bg.nx hb)},h.le,h.si,h.sg,h.z0,h.zm,h.zi,h.zn⟩
theorem RR.push (h:RR S P gP H r t m g mi H1 t1 g1 dz) (B:ct) (hB:B.ro=false:=by rfl):RR S P gP H r t m g mi (H1.push B) t1 g1 dz:=
 h.own (M:=[]) ((bc.push H1 B hB).fr []) (by simp) fun c hc=>by
  rw [qf,show (c==H1.next)=false from by rw [beq_eq_false_iff_ne];rw [bH] at hc;omega,Bool.false_or]
theorem RR.call (h:RR S P gP H r t m g mi H1 t1 g1 dz) (hp:wk S P gP H1 r t1 m g1 dz t2 H2):∃g2 dF,RR S P gP H r t m g mi H2 t2 g2 dF/\(∀c∈dF,c∈dz∨H1.next<=c)/\∀c∈g2,c∈g1∨H1.next<=c:=by
 obtain ⟨hf,hz,hle,g2,dF,h0,hs,iN⟩:=hp
 have dO:=h.fr.nx
 have gY:∀c∈dF,H2.fz c=false:=fun c hc=>by
  rw [hz]
  exact (hs c hc).elim (h.rq.fi c) (h.rq.fn c)
 refine ⟨g2,dF,⟨h.fr.trans hf fun c hc=>?_,{h0 with fz:=by rw [hz];exact h.rq.fz,fm:=fun c hc=>by rw [hz];exact h.rq.fm c hc,fi:=gY,fn:=fun b hb=>by rw [hz];exact h.rq.fn b (Nat.le_trans hf.nx hb)},hle.trans h.le,fun c hc=>(hs c hc).elim (h.si c) fun e=>.inr (Nat.le_trans dO e),fun c hc=>(iN c hc).elim (h.sg c) fun e=>.inr (Nat.le_trans dO e),h.z0,h.zm,h.zi,h.zn⟩,hs,iN⟩
 simp only [List.mem_cons,List.mem_append] at hc ⊢
 rcases hc with e | e | e
 ·exact .inl (.inl e)
 ·exact .inl (.inr (.inl e))
 ·exact (h.si c e).imp (fun e=>.inr (.inr e)) id
theorem RR.last (h:RR S P gP H r t m g mi H1 t1 g1 dz):wk S P gP H r t m g mi t1 (H1.ai H.fz):=⟨h.fr.ai _,fun _=>rfl,h.le,g1,dz,h.rq.toRQ0.ai,h.si,h.sg⟩
theorem RR.gH (h:RR S P gP H r t m g mi H1 t1 g1 dz) {c:Nat} (hc:H1.next<=c):H.next<=c/\c≠r/\c∉m/\c∉dz/\c∉g1/\c∉gP:=⟨Nat.le_trans h.fr.nx hc,by have:=h.rq.rl;omega,fun e=>by have:=(h.rq.hm c e).1;omega,fun e=>by have:=(h.rq.hi c e).1;omega,fun e=>by have:=(h.rq.hg c e).1;omega,fun e=>by have:=(h.rq.hP c e).1;omega⟩
theorem RR.x (h:RR S P gP H r t m g mi H1 t1 g1 dz):∀b∈dz,H.fz b=false:=fun b hb=>(h.si b hb).elim (h.zi b) (h.zn b)
theorem RR.told (h:RR S P gP H r t m g mi H1 t1 g1 dz):RR S P gP H r t m g mi (H1.ai H.fz) t1 g1 dz:=
 ⟨h.fr.ai _,{h.rq.toRQ0.ai with fz:=h.z0,fm:=h.zm,fi:=h.x,fn:=fun b hb=>h.zn b (Nat.le_trans h.fr.nx hb)},h.le,h.si,h.sg,h.z0,h.zm,h.zi,h.zn⟩
theorem RR.aK (h:RR S P gP H r t m g mi H1 t1 g1 dz) {vN vI v2:Value} {t2:VT} {dF:List Nat} (hr:H1.get r=some ⟨rC S vN vI t1,136,false,false⟩) (hf:Fr dz H1 H2) (e1:t2.ns=t1.ns) (iS:jz H2 v2 t2.aK dF) (yX:∀c∈dF,(c∈dz∨c=H1.next)/\c < H2.next):
  H2.get r=some ⟨rC S vN vI t1,136,false,false⟩/\RR S P gP H r t m g mi ((H2.ah r ⟨rC S vN v2 t2,136,false,false⟩).ai H.fz) t2 g1 dF:=by
 have q:=h.rq
 have nr:r∉dz:=fun e=>(q.hi r e).2.1 rfl
 obtain ⟨O6,vI',ib,h2,h3⟩:=q.row
 rw [hr] at ib
 have evN:vN=O6:=by
  simp only [rC,Option.some.injEq,ct.mk.injEq,List.cons.injEq] at ib
  exact ib.1.2.2.2.1
 subst evN
 have kg:∀c,c < H1.next->c≠r->c∉dz->((H2.ah r ⟨rC S vN v2 t2,136,false,false⟩).ai H.fz).get c=H1.get c:=fun c h1 h2 h3=>by rw [be,az,if_neg h2];exact hf.get c h1 h3
 have kP:∀c∈gP,((H2.ah r ⟨rC S vN v2 t2,136,false,false⟩).ai H.fz).get c=H1.get c:=fun c hc=>kg c (q.hP c hc).1 (q.hP c hc).2 fun e=>(q.hi c e).2.2.1 hc
 have low:∀c∈dF,c≠r/\c∉gP/\c∉g1/\c∉m/\(c∈mi∨H.next<=c):=fun c hc=>by
  rcases (yX c hc).1 with e | e
  ·exact ⟨(q.hi c e).2.1,(q.hi c e).2.2.1,(q.hi c e).2.2.2,fun e'=>(q.hm c e').2.2.2.2 e,h.si c e⟩
  ·have:=h.gH (c:=c) (by omega)
   exact ⟨this.2.1,this.2.2.2.2.2,this.2.2.2.2.1,this.2.2.1,.inr this.1⟩
 refine ⟨(hf.get r q.rl nr).trans hr,?_⟩
 have nx:=hf.nx
 refine ⟨((h.fr.trans hf fun c hc=>?_).ah (.inl (by simp)) _).ai _,{row:=⟨vN,v2,by rw [be,az,if_pos rfl],e1▸h2.ae (fun c hc=>kg c (q.hm c hc).1 (q.hm c hc).2.1 (q.hm c hc).2.2.2.2) (fun c hc=>kg c (q.hg c hc).1 (q.hg c hc).2 fun e=>(q.hi c e).2.2.2 hc),iS.ae fun c hc=>by rw [be,az,if_neg (low c hc).1]⟩,sM:=q.sM.ae kP,sR:=q.sR.ae kP,sD:=q.sD.ae kP,rl:=Nat.lt_of_lt_of_le q.rl nx,hm:=fun c hc=>⟨Nat.lt_of_lt_of_le (q.hm c hc).1 nx,(q.hm c hc).2.1,(q.hm c hc).2.2.1,(q.hm c hc).2.2.2.1,fun e=>(low c e).2.2.2.1 hc⟩,hi:=fun c hc=>⟨(yX c hc).2,(low c hc).1,(low c hc).2.1,(low c hc).2.2.1⟩,hg:=fun c hc=>⟨Nat.lt_of_lt_of_le (q.hg c hc).1 nx,(q.hg c hc).2⟩,hP:=fun c hc=>⟨Nat.lt_of_lt_of_le (q.hP c hc).1 nx,(q.hP c hc).2⟩,fz:=h.z0,fm:=h.zm,fi:=fun c hc=>(low c hc).2.2.2.2.elim (h.zi c) (h.zn c),fn:=fun b hb=>h.zn b (Nat.le_trans h.fr.nx (Nat.le_trans nx hb))},e1▸h.le,fun c hc=>(low c hc).2.2.2.2,h.sg,h.z0,h.zm,h.zi,h.zn⟩
 exact (h.si c hc).imp (fun e=>by simp [e]) id
theorem RR.hp (h:RR S P gP H r t m g mi H1 t1 g1 dz):∃Hp,Hp=H1:=⟨_,rfl⟩
theorem RR.re (h:RR S P gP H r t m g mi H1 t1 g1 dz):∃vN vI,H1.get r=some ⟨rC S vN vI t1,136,false,false⟩/\Gr j6 42 H1 vN t1.ns m g1/\jz H1 vI t1.aK dz/\
  (∀t2:VT,t2.ns=t1.ns->t2.aK=t1.aK->RR S P gP H r t m g mi (H1.ah r ⟨rC S vN vI t2,136,false,false⟩) t2 g1 dz)/\
  ∀(t2:VT) (v2:Value) (dF:List Nat),t2.ns=t1.ns->jz H1 v2 t2.aK dF->(∀c∈dF,c < H1.next/\c≠r/\c∉gP/\c∉g1/\c∉m/\(c∈mi∨H.next<=c)/\H1.fz c=false)->RR S P gP H r t m g mi (H1.ah r ⟨rC S vN v2 t2,136,false,false⟩) t2 g1 dF:=by
 obtain ⟨vN,vI,h1,h2,h3⟩:=h.rq.row
 have q:=h.rq
 have key:∀(t2:VT) (v2:Value) (dF:List Nat),t2.ns=t1.ns->jz H1 v2 t2.aK dF->(∀c∈dF,c < H1.next/\c≠r/\c∉gP/\c∉g1/\c∉m/\(c∈mi∨H.next<=c)/\H1.fz c=false)->RR S P gP H r t m g mi (H1.ah r ⟨rC S vN v2 t2,136,false,false⟩) t2 g1 dF:=fun t2 v2 dF e1 iS yX=>by
  have kg:∀c,c≠r->(H1.ah r ⟨rC S vN v2 t2,136,false,false⟩).get c=H1.get c:=fun c hc=>by rw [az,if_neg hc]
  have kP:∀c∈gP,(H1.ah r ⟨rC S vN v2 t2,136,false,false⟩).get c=H1.get c:=fun c hc=>kg c (q.hP c hc).2
  exact ⟨h.fr.ah (.inl (by simp)) _,{row:=⟨vN,v2,by rw [az,if_pos rfl],e1▸h2.ae (fun c hc=>kg c (q.hm c hc).2.1) (fun c hc=>kg c (q.hg c hc).2),iS.ae fun c hc=>kg c (yX c hc).2.1⟩,sM:=q.sM.ae kP,sR:=q.sR.ae kP,sD:=q.sD.ae kP,rl:=q.rl,hm:=fun c hc=>⟨(q.hm c hc).1,(q.hm c hc).2.1,(q.hm c hc).2.2.1,(q.hm c hc).2.2.2.1,fun e=>(yX c e).2.2.2.2.1 hc⟩,hi:=fun c hc=>⟨(yX c hc).1,(yX c hc).2.1,(yX c hc).2.2.1,(yX c hc).2.2.2.1⟩,hg:=q.hg,hP:=q.hP,fz:=q.fz,fm:=q.fm,fi:=fun c hc=>(yX c hc).2.2.2.2.2.2,fn:=q.fn},e1▸h.le,fun c hc=>(yX c hc).2.2.2.2.2.1,h.sg,h.z0,h.zm,h.zi,h.zn⟩
 exact ⟨vN,vI,h1,h2,h3,fun t2 e1 e2=>key t2 vI dz e1 (e2▸h3) fun c hc=>⟨(q.hi c hc).1,(q.hi c hc).2.1,(q.hi c hc).2.2.1,(q.hi c hc).2.2.2,fun e=>(q.hm c e).2.2.2.2 hc,h.si c hc,q.fi c hc⟩,key⟩
def VT.fail (t:VT) (e l c:Int):VT:=if t.bad=0 then {t with bad:=e,line:=l,au:=c} else t
theorem VT.QM (t:VT) (e l c:Int):(t.fail e l c).ns=t.ns:=by unfold VT.fail;split <;> rfl
theorem VT.Qu (t:VT) (e l c:Int):(t.fail e l c).aK=t.aK:=by unfold VT.fail;split <;> rfl
theorem VT.Ws (t:VT) (e l c:Int):(t.fail e l c).aX=t.aX:=by unfold VT.fail;split <;> rfl
structure yY (S:XS) (P:bC) (gP:List Nat) (H:ad) (r:Nat) (t:VT) (m g mi:List Nat) (t':VT) (H':ad):Prop where
 fr:Fr [r] H H'
 fz:∀c,H'.fz c=H.fz c
 rq:RQ0 S P gP H' r t' m g mi
 ns:t'.ns=t.ns
 aK:t'.aK=t.aK
theorem RR.YI (h:RR S P gP H r t m g mi H1 t1 g1 dz) (hp:yY S P gP H1 r t1 m g1 dz t2 H2):RR S P gP H r t m g mi H2 t2 g1 dz:=
 ⟨h.fr.trans hp.fr fun c hc=>.inl (by rw [List.mem_singleton] at hc;simp [hc]),{hp.rq with fz:=by rw [hp.fz];exact h.rq.fz,fm:=fun c hc=>by rw [hp.fz];exact h.rq.fm c hc,fi:=fun c hc=>by rw [hp.fz];exact h.rq.fi c hc,fn:=fun b hb=>by rw [hp.fz];exact h.rq.fn b (Nat.le_trans hp.fr.nx hb)},by rw [hp.ns];exact h.le,h.si,h.sg,h.z0,h.zm,h.zi,h.zn⟩
structure RA (S:XS) (P:bC) (gP:List Nat) (H:ad) (r:Nat) (t:VT) (m g mi:List Nat) (H1:ad) (t1:VT):Prop where
 fr:Fr [r] H H1
 rq:RQ S P gP H1 r t1 m g mi
 ns:t1.ns=t.ns
 aK:t1.aK=t.aK
 b0:RQ S P gP H r t m g mi
theorem RA.start (h:RQ S P gP H r t m g mi):RA S P gP H r t m g mi H t:=⟨.refl _ _,h,rfl,rfl,h⟩
theorem RA.own (h:RA S P gP H r t m g mi H1 t1) {M:List Nat} (bg:Fr M H1 H2) (hM:∀c∈M,H.next<=c) (mG:∀c,c < H1.next∨H2.next<=c->H2.fz c=H1.fz c):RA S P gP H r t m g mi H2 t1:=by
 have lo:∀c,c < H.next->c∉M:=fun c hc e=>by have:=hM c e;omega
 have q:=h.b0
 exact ⟨h.fr.trans bg fun c hc=>.inr (hM c hc),{h.rq.toRQ0.fr bg (lo r q.rl) (fun c hc=>lo c (q.hm c hc).1) (fun c hc=>lo c (q.hi c hc).1) (fun c hc=>lo c (q.hg c hc).1) (fun c hc=>lo c (q.hP c hc).1) with
  fz:=by rw [mG _ (.inl h.rq.rl)];exact h.rq.fz,fm:=fun c hc=>by rw [mG _ (.inl (h.rq.hm c hc).1)];exact h.rq.fm c hc,fi:=fun c hc=>by rw [mG _ (.inl (h.rq.hi c hc).1)];exact h.rq.fi c hc,fn:=fun b hb=>by rw [mG _ (.inr hb)];exact h.rq.fn b (Nat.le_trans bg.nx hb)},h.ns,h.aK,q⟩
theorem RA.push (h:RA S P gP H r t m g mi H1 t1) (B:ct) (hB:B.ro=false:=by rfl):RA S P gP H r t m g mi (H1.push B) t1:=
 h.own (M:=[]) ((bc.push H1 B hB).fr []) (by simp) fun c hc=>by
  rw [qf,show (c==H1.next)=false from by rw [beq_eq_false_iff_ne];rw [bH] at hc;omega,Bool.false_or]
theorem RA.aE (h:RA S P gP H r t m g mi H1 t1) (ho:bc H1 H2) (hz:∀c,H2.fz c=H1.fz c):RA S P gP H r t m g mi H2 t1:=h.own (ho.fr []) (by simp) fun c _=>hz c
theorem RA.told (h:RA S P gP H r t m g mi H1 t1):RA S P gP H r t m g mi (H1.ai H.fz) t1:=
 ⟨h.fr.ai _,{h.rq.toRQ0.ai with fz:=h.b0.fz,fm:=h.b0.fm,fi:=h.b0.fi,fn:=fun b hb=>h.b0.fn b (Nat.le_trans h.fr.nx hb)},h.ns,h.aK,h.b0⟩
theorem RA.call (h:RA S P gP H r t m g mi H1 t1) (hp:yY S P gP H1 r t1 m g mi t2 H2):RA S P gP H r t m g mi H2 t2:=
 ⟨h.fr.then hp.fr,{hp.rq with fz:=by rw [hp.fz];exact h.rq.fz,fm:=fun c hc=>by rw [hp.fz];exact h.rq.fm c hc,fi:=fun c hc=>by rw [hp.fz];exact h.rq.fi c hc,fn:=fun b hb=>by rw [hp.fz];exact h.rq.fn b (Nat.le_trans hp.fr.nx hb)},hp.ns.trans h.ns,hp.aK.trans h.aK,h.b0⟩
theorem RA.last (h:RA S P gP H r t m g mi H1 t1):yY S P gP H r t m g mi t1 (H1.ai H.fz):=⟨h.fr.ai _,fun _=>rfl,h.rq.toRQ0.ai,h.ns,h.aK⟩
theorem RA.hp (h:RA S P gP H r t m g mi H1 t1):∃Hp,Hp=H1:=⟨_,rfl⟩
theorem RA.k (h:RA S P gP H r t m g mi H1 t1) {c:Nat} (hc:c < H.next) (hr:c≠r):H1.get c=H.get c:=h.fr.get c hc (by simp [hr])
theorem iX (h:RQ S P gP H r t m g mi) {e l c:Int}:aj Tryz.prog 82 #[pV r,iV e,iV l,iV c] H (fun w H'=>yY S P gP H r t m g mi (t.fail e l c) H'):=by
 refine aj.told ?_
 refine ahD (Nat.le_refl _) fun hf=>?_
 simp only [Tryz.f82,Option.getD_some]
 have r0:=RR.start h
 obtain ⟨vN,vI,hr,hN,hI,U1,_⟩:=r0.re
 have hz:=h.fz
 by_cases hb:t.bad=0
 ·simp only [go_sem,hr,hb,hz]
  have e1:t.fail e l c={t with bad:=e,line:=l,au:=c}:=by rw [VT.fail,if_pos hb]
  rw [e1]
  obtain ⟨v1,v2,gj,_,_,akI,_⟩:=(U1 {t with bad:=e} rfl rfl).re
  obtain ⟨v3,v4,dL,_,_,ZU,_⟩:=(akI {t with bad:=e,line:=l} rfl rfl).re
  rw [az,if_pos rfl] at gj dL
  cases gj
  cases dL
  have q:=(ZU {t with bad:=e,line:=l,au:=c} rfl rfl).rq.toRQ0.ai (fz:=H.fz)
  exact ⟨((((Fr.refl [r] H).ah (.inl (by simp)) _).ah (.inl (by simp)) _).ah (.inl (by simp)) _).ai _,fun _=>rfl,q,rfl,rfl⟩
 ·simp only [go_sem,hr,hb]
  rw [VT.fail,if_neg hb]
  exact ⟨(Fr.refl _ _).ai _,fun _=>rfl,h.toRQ0.ai,rfl,rfl⟩
end
theorem WJ {k:Nat} (h:k < 1000000):IntKind.wrap .i64 (((k:Nat):Int) - 1)=((k:Nat):Int) - 1:=by
 cases k with
 | zero=>decide
 | succ k=>rw [show (((k+1:Nat):Int) - 1)=((k:Nat):Int) by omega];exact uy (by omega)
def NL (l:List l9) (s:bj) (fr:Nat):Nat->Int
 | 0=> -1
 | i+1=>if i < fr then -1 else if (l.getD i ⟨[],0⟩).name=s then (l.getD i ⟨[],0⟩).slot else NL l s fr i
def ke (l:List l9) (s:bj) (fr:Nat):Int:=NL l s fr l.length
section
variable {S:XS} {P:bC} {gP:List Nat} {H H1 H2:ad} {r:Nat} {t t1 t2:VT} {m g g1 g2 mi dz dF:List Nat}
theorem Nr (h:RQ0 S P gP H r t m g mi) (hl:t.aK.length < 1000000) {s:bj} {fr:Nat}:aj Tryz.prog 151 #[pV r,ag s,iV (fr:Nat)] H (fun w H'=>w=iV (ke t.aK s fr)/\H=H'):=by
 refine ae5 (Nat.le_refl _) fun hf=>?_
 simp only [Tryz.f151,Option.getD_some]
 obtain ⟨vN,vI,hr,hN,hI⟩:=h.row
 obtain ⟨aI,cI,B6⟩:=hI.val
 subst B6
 simp only [go_sem,hr,WJ hl]
 refine lp 137438937280 (fun n V H1=>V 7=iV (((n:Nat):Int) - 1)/\H=H1/\ke t.aK s fr=NL t.aK s fr n/\n<=t.aK.length) (n:=t.aK.length) ⟨by simp only [go_sem] <;> rfl,rfl,rfl,Nat.le_refl _⟩ ?_ (by rfl)
 rintro n V H1 ⟨e7,rfl,hg,hn⟩
 cases n with
 | zero=>
  have aZ:¬((fr:Nat):Int)<=((0:Nat):Int) - 1:=by omega
  simp only [go_sem,e7,aZ]
  rw [hg];rfl
 | succ k=>
  have e1:(((k+1:Nat):Int) - 1)=((k:Nat):Int):=by omega
  rw [e1] at e7
  rw [NL] at hg
  by_cases hk:k < fr
  ·rw [if_pos hk] at hg
   have aZ:¬((fr:Nat):Int)<=((k:Nat):Int):=by omega
   simp only [go_sem,e7,aZ]
   rw [hg]
  ·rw [if_neg hk] at hg
   have aZ:((fr:Nat):Int)<=((k:Nat):Int):=by omega
   have nC:k < t.aK.length:=by omega
   have hx:t.aK[k]?=some (t.aK[k]'nC):=List.getElem?_eq_getElem nC
   rw [show t.aK.getD k ⟨[],0⟩=t.aK[k]'nC from by rw [List.getD_eq_getElem?_getD,hx];rfl] at hg
   generalize (t.aK[k]'nC)=x at hx hg
   obtain ⟨b,o,c',B,gx,hv,hB,ee,de,b7,hE⟩:=hI.sl.at hx
   have en:o+k * 2+2<=B.cells.length:=b7
   have aV:(B.cells.drop (o+k * 2)).take 2=[ag x.name,iV x.slot]:=hE.1
   have jW:B.cells[o+k * 2]?=some (ag x.name):=by
    have:((B.cells.drop (o+k * 2)).take 2)[0]?=some (ag x.name):=by rw [aV];rfl
    rw [List.getElem?_take,if_pos (by decide),List.getElem?_drop] at this
    exact this
   have eC:B.cells[o+k * 2+1]?=some (iV x.slot):=by
    have:((B.cells.drop (o+k * 2)).take 2)[1]?=some (iV x.slot):=by rw [aV];rfl
    rw [List.getElem?_take,if_pos (by decide),List.getElem?_drop] at this
    exact this
   cases hv
   by_cases yw:x.name=s
   ·rw [if_pos yw] at hg
    simp only [go_sem,e7,aZ,hr,nC,hB,jW,eC,yw]
    rw [hg]
   ·rw [if_neg yw] at hg
    simp only [go_sem,e7,aZ,hr,nC,hB,jW,eC,yw,WJ (show k < 1000000 by omega)]
    exact ⟨k,by omega,rfl,hg,by omega⟩
theorem JH (h:RQ S P gP H r t m g mi) {x y:Int} {n:aH} {vA vP vB:Value}:aj Tryz.prog 152 #[pV r,iV x,iV y,.agg (aJ n vA vP vB).toArray] H (fun w H'=>yY S P gP H r t m g mi (if x=y then t else t.fail 6 n.line n.au) H'):=by
 refine aj.told ?_
 refine ae7 (Nat.le_refl _) fun hf=>?_
 simp only [Tryz.f152,Option.getD_some]
 have r1:=(RA.start h).push ⟨aJ n vA vP vB,42,false,false⟩
 by_cases DA:x=y
 ·simp only [go_sem,DA]
  exact r1.last
 ·rw [if_neg DA]
  simp only [go_sem,DA]
  refine af.by (iX r1.rq) ?_
  rintro _ H2 - p2
  simp only [go_sem]
  exact (r1.call p2).last
def se (t:VT) (s:bj) (l c:Int):VT:=if 0<=ke t.aK s 0 then t.fail 5 l c else t
def wm (t:VT) (l c:Int):VT:=if 40<=t.aX then t.fail 3 l c else t
def eT (t:VT) (s:bj) (l c:Int):Int × VT:=(t.aX,{wm (se t s l c) l c with aK:=t.aK++[⟨s,t.aX⟩],aX:=t.aX+1})
theorem WK (t:VT) (s:bj) (l c:Int):(se t s l c).aK=t.aK/\(se t s l c).aX=t.aX/\(se t s l c).ns=t.ns:=by
 unfold se;split
 ·exact ⟨VT.Qu _ _ _ _,VT.Ws _ _ _ _,VT.QM _ _ _ _⟩
 ·exact ⟨rfl,rfl,rfl⟩
theorem WL (t:VT) (l c:Int):(wm t l c).aK=t.aK/\(wm t l c).aX=t.aX/\(wm t l c).ns=t.ns:=by
 unfold wm;split
 ·exact ⟨VT.Qu _ _ _ _,VT.Ws _ _ _ _,VT.QM _ _ _ _⟩
 ·exact ⟨rfl,rfl,rfl⟩
theorem Qv {s:bj} {n:Int} {h:KH}:fH Tryz.prog 139 [(0,ag s),(1,iV n)] h=.ok (.agg #[ag s,iV n]) h:=by kernel_rfl
theorem Cr (h:RQ S P gP H r t m g mi) (hl:t.aK.length < 100000) (nj:0<=t.aX) (dm:t.aX < 100000) {s:bj} {n:aH} {vA vP vB:Value}:aj Tryz.prog 153 #[pV r,ag s,.agg (aJ n vA vP vB).toArray] H (fun w H'=>w=iV t.aX/\wk S P gP H r t m g mi (eT t s n.line n.au).2 H'):=by
 refine aj.told ?_
 refine qi (l:=[_,_,_]) _ mixed Tryz.func153 ae8 [.tmp 6] (show 3<=55 by decide) rfl fun hf=>?_
 simp only [Tryz.f153,Option.getD_some]
 have hX:=h.fz
 have r1:=((RR.start h).push ⟨aJ n vA vP vB,42,false,false⟩).told
 have iz:((H.push ⟨aJ n vA vP vB,42,false,false⟩).ai H.fz).get H.next=some ⟨aJ n vA vP vB,42,false,false⟩:=by rw [be,aU,if_pos rfl]
 have gI:H.next∉r::(m++mi):=fun e=>by
  simp only [List.mem_cons,List.mem_append] at e
  rcases e with e | e | e
  ·have:=h.rl;omega
  ·have:=(h.hm _ e).1;omega
  ·have:=(h.hi _ e).1;omega
 -- R0,then E6 first test
 refine lS (qj 36028797018963960 (fun V H1=>V 5=pV H.next/\∃g1 dz,RR S P gP H r t m g mi H1 (se t s n.line n.au) g1 dz/\H1.get H.next=some ⟨aJ n vA vP vB,42,false,false⟩) ?_ ?_ (by rfl))
 ·simp only [go_sem]
  refine af.by (Nr r1.rq.toRQ0 (by omega) (s:=s) (fr:=0)) ?_
  rintro _ _ - ⟨rfl,rfl⟩
  by_cases eF:0<=ke t.aK s 0
  ·rw [se,if_pos eF]
   simp only [go_sem,eF,iz]
   refine af.by (iX r1.told.rq) ?_
   rintro _ H2 - p2
   have r2:=r1.told.YI p2
   simp only [go_sem]
   exact ⟨g,mi,r2.told,(p2.fr.get H.next (Nat.lt_succ_self _) fun e=>gI (by rw [List.mem_singleton] at e;simp [e])).trans iz⟩
  ·rw [se,if_neg eF]
   simp only [go_sem,eF]
   exact ⟨g,mi,r1.told⟩
 ·rintro V H1 ⟨e5,g1,dz,r2,mJ⟩
  obtain ⟨eI,eS,eN⟩:=WK t s n.line n.au
  refine qj 36028797018963960 (fun V H1=>∃g1 dz,RR S P gP H r t m g mi H1 (wm (se t s n.line n.au) n.line n.au) g1 dz) ?_ ?_ (by rfl)
  ·obtain ⟨vN,vI,dL,_⟩:=r2.re
   by_cases Pj:40<=(se t s n.line n.au).aX
   ·rw [wm,if_pos Pj]
    simp only [go_sem,e5,dL,Pj,mJ]
    refine af.by (iX r2.told.rq) ?_
    rintro _ H2 - p2
    have r3:=r2.told.YI p2
    simp only [go_sem]
    exact ⟨g1,dz,r3.told⟩
   ·rw [wm,if_neg Pj]
    simp only [go_sem,e5,dL,Pj]
    exact ⟨g1,dz,r2.told⟩
  ·rintro V2 H2 ⟨g2,dF,r3⟩
   obtain ⟨fI,fS,fN⟩:=WL (se t s n.line n.au) n.line n.au
   rw [eS] at fS
   rw [eI] at fI
   rw [eT]
   generalize wm (se t s n.line n.au) n.line n.au=T at *
   have r4:=r3.push ⟨[ag s,iV t.aX],139,false,false⟩
   obtain ⟨vN,vI,fA,_,L5,_⟩:=r3.re
   have wY:¬r=H2.next:=by have:=r3.rq.rl;omega
   have sL:(H2.push ⟨[ag s,iV t.aX],139,false,false⟩).get r=some ⟨rC S vN vI T,136,false,false⟩:=(bS r3.rq.rl).trans fA
   have Pk:=L5.ae (H':=H2.push ⟨[ag s,iV t.aX],139,false,false⟩) fun c hc=>bS (r3.rq.hi c hc).1
   rw [fI] at Pk
   obtain ⟨aI,cI,B6⟩:=Pk.val
   subst B6
   rw [rC,fS] at fA
   simp only [go_sem,fA,wY,Qv,eA zs (by decide) (by decide)]
   refine Q2 (x:=⟨s,t.aX⟩) Pk (fun c hc=>(r4.rq.hi c hc).1) r4.x (by rw [aU,if_pos rfl]) (by omega) ?_
   intro v5 H5 mi5 mV hm5 hf5 IM
   obtain ⟨F2,r5⟩:=r4.aK sL hf5 (v2:=v5) (t2:={T with aK:=t.aK++[⟨s,t.aX⟩],aX:=t.aX}) rfl mV hm5
   rw [rC,fS] at F2
   obtain ⟨sn,IC⟩:=Int.eq_ofNat_of_zero_le nj
   have eX:IntKind.wrap .i64 (t.aX+1)=t.aX+1:=by rw [IC,show (((sn:Nat):Int)+1)=((sn+1:Nat):Int) by omega];exact uy (by omega)
   have mE:IntKind.wrap .i64 (t.aX+1 - 1)=t.aX:=by rw [IC,show (((sn:Nat):Int)+1 - 1)=((sn:Nat):Int) by omega];exact uy (by omega)
   obtain ⟨a5,c5,jy⟩:=mV.val
   subst jy
   obtain ⟨v6,v7,hZ,_,_,akJ,_⟩:=r5.re
   rw [be,az,if_pos rfl] at hZ
   cases hZ
   simp only [go_sem,F2,hX,eX,mE]
   exact (akJ {T with aK:=t.aK++[⟨s,t.aX⟩],aX:=t.aX+1} rfl rfl).last
end
theorem Xn {α:Type} {n:Nat} {hn:0 < n} {qC:α->List Value} {hl:∀x,(qC x).length=n} {H:ad}:∀{cs:List Value} {l:List α} {f:List Nat},dP (.flat n hn qC hl) H cs l f->f=[]
 | cs,[],f,h=>h
 | cs,x::l,f,h=>by
  obtain ⟨c1,c2,f1,f2,rfl,rfl,h1,h2⟩:=h
  rw [h1.2,Xn h2];rfl
theorem Gr.flat {α:Type} {n:Nat} {hn:0 < n} {qC:α->List Value} {hl:∀x,(qC x).length=n} {ty:TypeId} {H:ad} {v:Value} {l:List α} {m g:List Nat} (h:Gr (.flat n hn qC hl) ty H v l m g):g=[]:=by
 rcases h with ⟨_,_,_,h⟩ | ⟨b,cs,_,_,_,_,_,h,_⟩
 ·exact h
 ·exact Xn h
def qt (ms:List bj):List PN->Option (List PN)
 | []=>some []
 | x::l=>if x.kind=3 then (if cH ms x.name < 0 then none else (qt ms l).map ({x with n:=cH ms x.name}::·)) else (qt ms l).map (x::·)
section
variable {S:XS} {P:bC} {gP:List Nat} {H H1 H2:ad} {r:Nat} {t t1 t2:VT} {m g g1 g2 mi dz dF:List Nat}
def HX (ms:List bj) (p:List PN) (H H':ad) (w:Value):Prop:=match qt ms p with
 | some p'=>∃v g',w=.tuple #[v,.bool true]/\Sl fy H' v p' g'/\gZ H H' g'
 | none=>w=.tuple #[.slice none 0 0,.bool false]
theorem Qn (h:RQ0 S P gP H r t m g mi) (B7:P.msgs.length < 1000000) {vp:Value} {p:List PN} {gp:List Nat} (hp:Sl fy H vp p gp) (xh:∀c∈gp,c < H.next) (jX:p.length < 1000000):
  aj Tryz.prog 149 #[pV r,vp] H (fun w H'=>HX (P.msgs.map (·.name)) p H H' w/\bc H H'/\∀c,H'.fz c=H.fz c):=by
 refine aj.told ?_
 refine ae1 (Nat.le_refl _) fun hf=>?_
 simp only [Tryz.f149,Option.getD_some]
 simp only [go_sem]
 refine xy (r:=fy) Rl hp (by
  have:p.length * 1000<=1000000 * 1000:=Nat.mul_le_mul (by omega) (Nat.le_refl _)
  omega) xh ?_
 intro vL H2 mL gL cw pL jo
 have kt:=cw.flat
 subst kt
 obtain ⟨o2,fZ⟩:bc H H2/\∀c∈mL,H.next<=c/\c < H2.next:=by
  rcases jo with ⟨rfl,rfl⟩ | ⟨rfl,cs,rfl⟩
  ·exact ⟨bc.refl _,by simp⟩
  ·exact ⟨bc.push H _,fun c hc=>by rw [List.mem_singleton] at hc;subst hc;exact ⟨Nat.le_refl _,Nat.lt_succ_self _⟩⟩
 obtain ⟨aL,pO⟩:=cw.val
 subst pO
 obtain ⟨vN,vI,hr,hN,hI⟩:=h.row
 obtain ⟨gs,qS,jx⟩:=h.sM
 have dL:=(o2.get r h.rl).trans hr
 simp only [go_sem,dL]
 refine af.by (Nn (qS.ae fun c hc=>o2.get c (h.hP c (jx c hc)).1) B7 (fun c hc=>Nat.lt_of_lt_of_le (h.hP c (jx c hc)).1 o2.nx)) ?_
 rintro B8 H3 - ⟨⟨g3,rB,yH⟩,o3,z3⟩
 have o03:=o2.trans o3
 have ss:=cw.ae (H':=H3) (fun c hc=>o3.get c (fZ c hc).2) (by simp)
 simp only [go_sem]
 refine il 8796092498736 p.length (fun i V H4=>V 19=iV (i:Nat)/\Fr mL H3 H4/\∃done,Gr fy 199 H4 (.slice aL p.length p.length) (done++p.drop i) mL []/\done.length=i/\qt (P.msgs.map (·.name)) p=(qt (P.msgs.map (·.name)) (p.drop i)).map (done++·)) ⟨by simp only [go_sem] <;> rfl,Fr.refl _ _,[],ss,rfl,by rw [List.drop_zero];cases qt (P.msgs.map (·.name)) p <;> rfl⟩ ?_ ?_ (by rfl)
 ·rintro i V H4 hi ⟨ei,f4,done,oD,db,xi⟩
  have hx:p[i]?=some (p[i]'hi):=List.getElem?_eq_getElem hi
  have cB:p.drop i=(p[i]'hi)::p.drop (i+1):=(List.getElem_cons_drop hi).symm
  generalize (p[i]'hi)=x at hx cB
  rw [cB] at oD xi
  rw [qt] at xi
  have c6:i < (done++x::p.drop (i+1)).length:=by rw [List.length_append,List.length_cons];omega
  have pA:(done++x::p.drop (i+1))[i]'c6=x:=by subst db;simp
  have eV:∀y:PN,(done++x::p.drop (i+1)).set i y=(done++[y])++p.drop (i+1):=fun y=>by subst db;simp
  have bX:IntKind.wrap .i64 (((i:Nat):Int)+1)=((i+1:Nat):Int):=cW hi (by omega)
  obtain ⟨b,cs,f1,f2,f3,hv,rfl,hb,fE,lL,iJ,hE,oE⟩:=oD.put c6
  have lL:=lL.symm
  simp only [List.append_eq_nil_iff] at lL
  obtain ⟨rfl,rfl,rfl⟩:=lL
  rw [pA] at hE
  have aV:(cs.drop (i * 5)).take 5=[iV x.kind,iV x.a,iV x.b,iV x.n,ag x.name]:=hE.1
  have iJ:i * 5+5<=cs.length:=iJ
  have hcj:∀j v,j < 5->[iV x.kind,iV x.a,iV x.b,iV x.n,ag x.name][j]?=some v->cs[i * 5+j]?=some v:=fun j v hj hv=>by
   rw [<-aV,List.getElem?_take,if_pos hj,List.getElem?_drop] at hv
   exact hv
  have jW:cs[i * 5]?=some (iV x.kind):=hcj 0 _ (by decide) rfl
  have Pl:=hcj 4 _ (by decide) rfl
  simp only [Value.slice.injEq] at hv
  have iA:=hv.1
  have hX:H.fz b=false:=hf.fresh (fZ b (by simp)).1
  have Lt:i * 5+3 < cs.length:=by omega
  have akK:i * 5+3+1<=cs.length:=by omega
  have Bl:i * 5 < cs.length:=by omega
  by_cases hk:x.kind=3
  ·rw [if_pos hk] at xi
   have nE:=rB.ae (H':=H4) fun c hc=>f4.get c (yH c hc).2 fun e=>by have:=(fZ c e).2;have:=(yH c hc).1;omega
   simp only [go_sem,ei,hi,iA,hb,jW,Pl,hk,iJ]
   refine af.by (qh nE (by rw [List.length_map];exact B7)) ?_
   rintro _ _ - ⟨rfl,rfl⟩
   by_cases cu:cH (P.msgs.map (·.name)) x.name < 0
   ·rw [if_pos cu] at xi
    simp only [go_sem,cu]
    rw [HX,xi]
    exact ⟨rfl,(((o03.fr []).trans f4 fun c hc=>.inr (fZ c hc).1).ai _).aE,fun _=>trivial⟩
   ·rw [if_neg cu] at xi
    simp only [go_sem,ei,hi,iA,cu,hb,hX,Lt,akK,bX,eG Lt]
    have eu:cs.set (i * 5+3) (iV (cH (P.msgs.map (·.name)) x.name))=cT cs (i * fy.sz) [iV x.kind,iV x.a,iV x.b,iV (cH (P.msgs.map (·.name)) x.name),ag x.name]:=by
     have:=xq (vs:=[iV (cH (P.msgs.map (·.name)) x.name)]) aV (k:=3) (by decide:3+1<=5) iJ
     rw [eG Lt] at this
     rw [this];rfl
    have ly:=oE (H4.ah b ⟨cs.set (i * 5+3) (iV (cH (P.msgs.map (·.name)) x.name)),199,true,false⟩) [iV x.kind,iV x.a,iV x.b,iV (cH (P.msgs.map (·.name)) x.name),ag x.name] {x with n:=cH (P.msgs.map (·.name)) x.name} [] (by simp) (by rw [az,if_pos rfl,eu]) ⟨rfl,rfl⟩ (by simp)
    rw [eV,iA] at ly
    refine ⟨f4.ah (.inl (by simp)) _,_,ly,by rw [List.length_append,List.length_singleton,db],?_⟩
    rw [xi]
    cases qt (P.msgs.map (·.name)) (p.drop (i+1)) <;> simp
  ·rw [if_neg hk] at xi
   simp only [go_sem,ei,hi,iA,hb,jW,hk,iJ,bX]
   rw [iA,show done++x::p.drop (i+1)=(done++[x])++p.drop (i+1) by simp] at oD
   refine ⟨f4,done++[x],oD,by rw [List.length_append,List.length_singleton,db],?_⟩
   rw [xi]
   cases qt (P.msgs.map (·.name)) (p.drop (i+1)) <;> simp
 ·rintro V H4 ⟨ei,f4,done,oD,db,xi⟩
  simp only [go_sem,ei]
  rw [List.drop_length] at oD xi
  rw [List.append_nil] at oD
  have e1:qt (P.msgs.map (·.name)) p=some done:=by rw [xi,qt];simp
  have n4:=f4.nx
  have n3:=o3.nx
  rw [HX,e1]
  refine ⟨⟨_,mL++[],rfl,oD.sl.ae fun _ _=>rfl,fun c hc=>?_⟩,(((o03.fr []).trans f4 fun c hc=>.inr (fZ c hc).1).ai _).aE,fun _=>trivial⟩
  rw [List.append_nil] at hc
  have:=fZ c hc
  exact ⟨this.1,by show c < H4.next;omega⟩
end
abbrev nG (t:Ty) (v:Value):List Value:=[iV t.kind,iV t.cap,iV t.rc,ag t.name,v]
abbrev jf (P:bC):List bj:=P.msgs.map (·.name)
abbrev jU (P:bC):List bj:=P.bZ.map (·.name)
def we (P:bC) (t:Ty) (l c:Int) (st:VT):Ty × VT:=
 if t.kind=2 then (if t.rc= -1 then (t,st) else ({t with rc:=cH (jU P) t.name},if cH (jU P) t.name < 0 then st.fail 4 l c else st))
 else if t.kind=3∨t.kind=4 then (match qt (jf P) t.pat with
  | some p=>({t with pat:=p},st)
  | none=>({t with pat:=[]},st.fail 4 l c))
 else (t,st)
section
variable {S:XS} {P:bC} {gP:List Nat} {H H1 H2:ad} {r:Nat} {t t1 t2:VT} {m g g1 g2 mi dz dF:List Nat}
theorem XM (h:RQ S P gP H r t m g mi) (B7:P.msgs.length < 1000000) (pG:P.bZ.length < 1000000) {ty:Ty} {l c:Int} {v:Value} {gv:List Nat} (hv:Sl fy H v ty.pat gv) (nI:∀d∈gv,d < H.next/\d≠r) (jX:ty.pat.length < 1000000):
  aj Tryz.prog 122 #[pV r,.agg (nG ty v).toArray,iV l,iV c] H (fun w H'=>∃v' g',w=.agg (nG (we P ty l c t).1 v').toArray/\Sl fy H' v' (we P ty l c t).1.pat g'/\(∀d∈g',d∈gv∨(H.next<=d/\d < H'.next))/\yY S P gP H r t m g mi (we P ty l c t).2 H'):=by
 refine aj.told ?_
 refine aeq (Nat.le_refl _) fun hf=>?_
 simp only [Tryz.f122,Option.getD_some]
 obtain ⟨kd,cp,rc,nm,pt⟩:=ty
 simp only at hv jX ⊢
 obtain ⟨a,k,rfl⟩:=hv.val
 have r1:=((RA.start h).push ⟨nG ⟨kd,cp,rc,nm,pt⟩ (.slice a pt.length k),99,false,false⟩).push ⟨[iV 0,iV 0,iV 0,ag [],.slice none 0 0],99,false,false⟩
 obtain ⟨H1,cF⟩:=r1.hp
 have p1:¬H.next=H.next+1:=by omega
 have iz:H1.get H.next=some ⟨nG ⟨kd,cp,rc,nm,pt⟩ (.slice a pt.length k),99,false,false⟩:=by rw [cF,aU,bH,if_neg p1,aU,if_pos rfl]
 have Ar:H1.get (H.next+1)=some ⟨[iV 0,iV 0,iV 0,ag [],.slice none 0 0],99,false,false⟩:=by rw [cF,aU];exact if_pos rfl
 have IU:H1.next=H.next+1+1:=by rw [cF];rfl
 have o1:bc H H1:=by rw [cF];exact (((Fr.refl [] H).push _).push _).aE
 have dv:H.fz H.next=false:=hf.fresh (Nat.le_refl _)
 have gJ:H.fz (H.next+1)=false:=hf.fresh (by omega)
 have IZ:¬H.next+1=H.next:=by omega
 have HY:=h.rl
 have nr:¬r=H.next:=by omega
 have nr1:¬r=H.next+1:=by omega
 have uh:¬H.next=r:=by omega
 simp only [go_sem]
 rw [<-cF] at r1 ⊢
 clear cF
 -- eo is ar2 out
 have fin:∀{H2:ad} {t2:VT} {lO:Ty} {a2:Option Addr} {k2:Nat} {g2:List Nat},RA S P gP H r t m g mi H2 t2->Sl fy H2 (.slice a2 lO.pat.length k2) lO.pat g2->(∀d∈g2,d∈gv∨(H.next+1+1<=d/\d < H2.next))->
   ∃v' g',(Value.agg #[iV lO.kind,iV lO.cap,iV lO.rc,ag lO.name,.slice a2 lO.pat.length k2])=.agg (nG lO v').toArray/\Sl fy ((H2.ah (H.next+1) ⟨nG lO (.slice a2 lO.pat.length k2),99,false,false⟩).ai H.fz) v' lO.pat g'/\(∀d∈g',d∈gv∨(H.next<=d/\d < ((H2.ah (H.next+1) ⟨nG lO (.slice a2 lO.pat.length k2),99,false,false⟩).ai H.fz).next))/\yY S P gP H r t m g mi t2 ((H2.ah (H.next+1) ⟨nG lO (.slice a2 lO.pat.length k2),99,false,false⟩).ai H.fz):=fun {H2 t2 lO a2 k2 g2} r2 hs hg=>by
  refine ⟨_,g2,rfl,hs.ae fun d hd=>?_,fun d hd=>(hg d hd).imp id fun e=>⟨by omega,e.2⟩,(r2.own (M:=[H.next+1]) ((Fr.refl _ _).ah (.inl (by simp)) _) (by simp) fun _ _=>rfl).last⟩
  rw [be,az,if_neg]
  rintro rfl
  rcases hg _ hd with e | e
  ·have:=(nI _ e).1;omega
  ·omega
 have sB:=hv.ae (H':=H1) fun d hd=>o1.get d (nI d hd).1
 obtain ⟨vN,vI,hr,hN,hI⟩:=h.row
 have gj:=(o1.get r HY).trans hr
 unfold we
 by_cases fM:kd=2
 ·subst fM
  by_cases iu:rc= -1
  ·subst iu
   simp only [go_sem,iz,Ar,gJ,p1]
   exact fin (lO:=⟨2,cp, -1,nm,pt⟩) r1 sB fun d hd=>.inl hd
  ·obtain ⟨gs,hsR,jx⟩:=r1.rq.sR
   simp only [go_sem,iz,Ar,iu,dv,gj]
   refine af.by (G4 hsR pG (fun d hd=>(r1.rq.hP d (jx d hd)).1)) ?_
   rintro B8 H3 - ⟨⟨g3,rB,yH⟩,o3,z3⟩
   have r3:=r1.aE o3 z3
   have mN:=(o3.get H.next (by omega)).trans iz
   have As:=(o3.get (H.next+1) (by omega)).trans Ar
   have n3:=o3.nx
   simp only [go_sem,iz,mN]
   refine af.by (qh rB (by rw [List.length_map];exact pG)) ?_
   rintro _ _ - ⟨rfl,rfl⟩
   have r4:=r3.own (M:=[H.next]) ((Fr.refl _ _).ah (b:=H.next) (.inl (by simp)) ⟨nG ⟨2,cp,cH (jU P) nm,nm,pt⟩ (.slice a pt.length k),99,false,false⟩) (by simp) fun _ _=>rfl
   have L6:=sB.ae (H':=H3.ah H.next ⟨nG ⟨2,cp,cH (jU P) nm,nm,pt⟩ (.slice a pt.length k),99,false,false⟩) fun d hd=>by
    have:=(nI d hd).1
    rw [az,if_neg (by omega)];exact o3.get d (by omega)
   by_cases cu:cH (jU P) nm < 0
   ·simp only [go_sem,mN,dv,cu]
    refine af.by (iX r4.rq) ?_
    rintro _ H5 - p5
    have r5:=r4.call p5
    have dJ:=(p5.fr.get H.next (by show H.next < H3.next;omega) (by simp [uh])).trans (by rw [az,if_pos rfl])
    have B9:=(p5.fr.get (H.next+1) (by show H.next+1 < H3.next;omega) (by simp;omega)).trans ((az.trans (if_neg IZ)).trans As)
    have jy:=L6.ae (H':=H5) fun d hd=>p5.fr.get d (by show d < H3.next;have:=(nI d hd).1;omega) (by simp [(nI d hd).2])
    simp only [go_sem,dJ,B9,gJ,p1]
    rw [if_neg iu,if_pos cu]
    exact fin (lO:=⟨2,cp,cH (jU P) nm,nm,pt⟩) r5 jy fun d hd=>.inl hd
   ·simp only [go_sem,mN,dv,cu,As,gJ,p1,IZ]
    rw [if_neg iu]
    exact fin (lO:=⟨2,cp,cH (jU P) nm,nm,pt⟩) r4 L6 fun d hd=>.inl hd
 ·by_cases Sy:kd=3∨kd=4
  ·have g0:∀d∈gv,d < H1.next:=fun d hd=>by have:=(nI d hd).1;omega
   rcases Sy with rfl | rfl
   ·simp only [go_sem,iz]
    refine af.by (Qn r1.rq.toRQ0 B7 sB g0 jX) ?_
    rintro w H3 - ⟨qT,o3,z3⟩
    have r3:=r1.aE o3 z3
    have mN:=(o3.get H.next (by omega)).trans iz
    have As:=(o3.get (H.next+1) (by omega)).trans Ar
    have n3:=o3.nx
    unfold HX at qT
    cases At:qt (jf P) pt with
    | some p'=>
     rw [At] at qT
     obtain ⟨v',g',rfl,cZ,yE⟩:=qT
     obtain ⟨a',k',rfl⟩:=cZ.val
     simp only [go_sem,mN,dv,As,p1,IZ,gJ]
     exact fin (lO:=⟨3,cp,rc,nm,p'⟩) (r3.own (M:=[H.next]) ((Fr.refl _ _).ah (b:=H.next) (.inl (by simp)) ⟨nG ⟨3,cp,rc,nm,p'⟩ (.slice a' p'.length k'),99,false,false⟩) (by simp) fun _ _=>rfl) (cZ.ae fun d hd=>by rw [az,if_neg (by have:=(yE d hd).1;omega)]) fun d hd=>.inr ⟨by have:=(yE d hd).1;omega,(yE d hd).2⟩
    | none=>
     rw [At] at qT
     subst qT
     simp only [go_sem,mN]
     refine af.by (iX r3.rq) ?_
     rintro _ H5 - p5
     have r5:=r3.call p5
     have dJ:=(p5.fr.get H.next (by omega) (by simp [uh])).trans mN
     have B9:=(p5.fr.get (H.next+1) (by omega) (by simp;omega)).trans As
     simp only [go_sem,dJ,dv,B9,p1,IZ,gJ]
     exact fin (lO:=⟨3,cp,rc,nm,[]⟩) (a2:=none) (k2:=0) (g2:=[]) (r5.own (M:=[H.next]) ((Fr.refl _ _).ah (b:=H.next) (.inl (by simp)) ⟨nG ⟨3,cp,rc,nm,[]⟩ (.slice none 0 0),99,false,false⟩) (by simp) fun _ _=>rfl) (.inl ⟨rfl,rfl,rfl⟩) (by simp)
   ·simp only [go_sem,iz]
    refine af.by (Qn r1.rq.toRQ0 B7 sB g0 jX) ?_
    rintro w H3 - ⟨qT,o3,z3⟩
    have r3:=r1.aE o3 z3
    have mN:=(o3.get H.next (by omega)).trans iz
    have As:=(o3.get (H.next+1) (by omega)).trans Ar
    have n3:=o3.nx
    unfold HX at qT
    cases At:qt (jf P) pt with
    | some p'=>
     rw [At] at qT
     obtain ⟨v',g',rfl,cZ,yE⟩:=qT
     obtain ⟨a',k',rfl⟩:=cZ.val
     simp only [go_sem,mN,dv,As,p1,IZ,gJ]
     exact fin (lO:=⟨4,cp,rc,nm,p'⟩) (r3.own (M:=[H.next]) ((Fr.refl _ _).ah (b:=H.next) (.inl (by simp)) ⟨nG ⟨4,cp,rc,nm,p'⟩ (.slice a' p'.length k'),99,false,false⟩) (by simp) fun _ _=>rfl) (cZ.ae fun d hd=>by rw [az,if_neg (by have:=(yE d hd).1;omega)]) fun d hd=>.inr ⟨by have:=(yE d hd).1;omega,(yE d hd).2⟩
    | none=>
     rw [At] at qT
     subst qT
     simp only [go_sem,mN]
     refine af.by (iX r3.rq) ?_
     rintro _ H5 - p5
     have r5:=r3.call p5
     have dJ:=(p5.fr.get H.next (by omega) (by simp [uh])).trans mN
     have B9:=(p5.fr.get (H.next+1) (by omega) (by simp;omega)).trans As
     simp only [go_sem,dJ,dv,B9,p1,IZ,gJ]
     exact fin (lO:=⟨4,cp,rc,nm,[]⟩) (a2:=none) (k2:=0) (g2:=[]) (r5.own (M:=[H.next]) ((Fr.refl _ _).ah (b:=H.next) (.inl (by simp)) ⟨nG ⟨4,cp,rc,nm,[]⟩ (.slice none 0 0),99,false,false⟩) (by simp) fun _ _=>rfl) (.inl ⟨rfl,rfl,rfl⟩) (by simp)
  ·have yZ:¬kd=3:=fun e=>Sy (.inl e)
   have ij:¬kd=4:=fun e=>Sy (.inr e)
   simp only [go_sem,iz,fM,yZ,ij,Ar,gJ,p1]
   exact fin (lO:=⟨kd,cp,rc,nm,pt⟩) r1 sB fun d hd=>.inl hd
end
abbrev wy (f:sJ) (v:Value):List Value:=[ag f.name,iV f.ty.kind,iV f.ty.cap,iV f.ty.rc,ag f.ty.name,v]
def JU (rec:Bool) (k:Int):Bool:=rec&&(decide (k=3)||decide (k=4))
def D1 (P:bC) (rec:Bool) (l c:Int):List sJ->List sJ->VT->List sJ × VT
 | [],done,st=>(done,st)
 | f::fs,done,st=>D1 P rec l c fs (done++[⟨f.name,(we P f.ty l c st).1⟩]) (if JU rec (we P f.ty l c st).1.kind=true then (we P f.ty l c st).2.fail 2 l c else (we P f.ty l c st).2)
def G5 (l c:Int):List bj->List bj->VT->VT
 | _,[],st=>st
 | pre,s::r,st=>G5 l c (pre++[s]) r (if 0<=cH pre s then st.fail 5 l c else st)
def zk (P:bC) (rec:Bool) (l c:Int) (fs:List sJ) (st:VT):List sJ × VT:=((D1 P rec l c fs [] st).1,G5 l c [] (fs.map (·.name)) (D1 P rec l c fs [] st).2)
section
variable {S:XS} {P:bC} {gP:List Nat} {H H1 H2:ad} {r:Nat} {t t1 t2:VT} {m g g1 g2 mi dz dF:List Nat}
theorem WM (h:RQ S P gP H r t m g mi) (B7:P.msgs.length < 1000000) (pG:P.bZ.length < 1000000) {fs:List sJ} {rec:Bool} {l c:Int} {v:Value} {gv:List Nat} (hv:Sl ls H v fs gv) (nI:∀d∈gv,d < H.next/\d≠r) (cY:fs.length < 1000000) (jX:∀f∈fs,f.ty.pat.length < 1000000):
  aj Tryz.prog 123 #[pV r,v,.bool rec,iV l,iV c] H (fun w H'=>(∃g',Sl ls H' w (zk P rec l c fs t).1 g'/\∀d∈g',d∈gv∨(H.next<=d/\d < H'.next))/\yY S P gP H r t m g mi (zk P rec l c fs t).2 H'):=by
 refine aj.told ?_
 refine aes (Nat.le_refl _) fun hf=>?_
 simp only [Tryz.f123,Option.getD_some]
 obtain ⟨a,k,rfl⟩:=hv.val
 have HY:=h.rl
 simp only [go_sem]
 refine il 2251799813433344 fs.length (fun i V H2=>V 18=iV (i:Nat)/\∃vO mO gO done t2,V 11=vO/\RA S P gP H r t m g mi H2 t2/\Gr ls 101 H2 vO done mO gO/\(∀d∈mO,H.next<=d/\d < H2.next)/\(∀d∈gO,(d∈gv∨H.next<=d)/\d < H2.next)/\done.length=i/\D1 P rec l c fs [] t=D1 P rec l c (fs.drop i) done t2)
  ⟨by simp only [go_sem] <;> rfl,.slice none 0 0,[],[],[],t,by simp only [go_sem] <;> rfl,RA.start h,Gr.nil _ _ _,by simp,by simp,rfl,rfl⟩ ?_ ?_ (by rfl)
 ·rintro i V H2 hi ⟨ei,vO,mO,gO,done,t2,qU,r2,cw,du,iO,db,bg⟩
  have hx:fs[i]?=some (fs[i]'hi):=List.getElem?_eq_getElem hi
  have um:(fs[i]'hi)∈fs:=List.getElem_mem hi
  have cB:fs.drop i=(fs[i]'hi)::fs.drop (i+1):=(List.getElem_cons_drop hi).symm
  generalize (fs[i]'hi)=x at hx cB um
  have hpx:=jX x um
  rw [cB,D1] at bg
  have nv:=hv.ae (H':=H2) fun d hd=>r2.k (nI d hd).1 (nI d hd).2
  obtain ⟨b,o,c',B,gx,sC,hB,ee,de,b7,hE⟩:=nv.at hx
  cases sC
  obtain ⟨v5,aV,fk⟩:=hE
  obtain ⟨a5,k5,rfl⟩:=fk.val
  have en:o+i * 6+6<=B.cells.length:=b7
  have aV:(B.cells.drop (o+i * 6)).take 6=wy x (.slice a5 x.ty.pat.length k5):=aV
  have bX:IntKind.wrap .i64 (((i:Nat):Int)+1)=((i+1:Nat):Int):=cW hi (by omega)
  have n2:=r2.fr.nx
  have ef:H.fz H2.next=false:=hf.fresh n2
  have r3:=r2.push ⟨wy x (.slice a5 x.ty.pat.length k5),101,false,false⟩
  obtain ⟨H3,dI⟩:=r3.hp
  have mN:H3.get H2.next=some ⟨wy x (.slice a5 x.ty.pat.length k5),101,false,false⟩:=by rw [dI,aU,if_pos rfl]
  have k3:∀d,d < H2.next->H3.get d=H2.get d:=fun d hd=>by rw [dI,bS hd]
  have Fw:H3.next=H2.next+1:=by rw [dI];rfl
  simp only [go_sem,ei,hi,hB,en,aV,ef]
  rw [<-dI] at r3 ⊢
  clear dI
  refine af.by (XM r3.rq B7 pG (ty:=x.ty) (fk.ae fun d hd=>k3 d (by have:=(nI d (de d hd)).1;omega)) (fun d hd=>⟨by have:=(nI d (de d hd)).1;omega,(nI d (de d hd)).2⟩) hpx) ?_
  rintro w H4 - ⟨v4,g4,rfl,nE,Lq,p4⟩
  obtain ⟨a4,k4,rfl⟩:=nE.val
  have r4:=r3.call p4
  have n4:=p4.fr.nx
  have pS:¬H2.next=r:=by omega
  have Ap:=(p4.fr.get H2.next (by omega) (by simp [pS])).trans mN
  generalize hA:we P x.ty l c t2=A at *
  have r5:=r4.own (M:=[H2.next]) ((Fr.refl _ _).ah (b:=H2.next) (.inl (by simp)) ⟨wy ⟨x.name,A.1⟩ (.slice a4 A.1.pat.length k4),101,false,false⟩) (by simp;omega) fun _ _=>rfl
  obtain ⟨H5,jC⟩:=r5.hp
  have dJ:H5.get H2.next=some ⟨wy ⟨x.name,A.1⟩ (.slice a4 A.1.pat.length k4),101,false,false⟩:=by rw [jC,az,if_pos rfl]
  have k5':∀d,d≠H2.next->H5.get d=H4.get d:=fun d hd=>by rw [jC,az,if_neg hd]
  have nx5:H5.next=H4.next:=by rw [jC];rfl
  have DC:∀d∈gO++g4,(d∈gv∨H.next<=d)/\d < H5.next:=fun d hd=>(List.mem_append.1 hd).elim (fun e=>⟨(iO d e).1,by have:=(iO d e).2;omega⟩) fun e=>(Lq d e).elim (fun e=>⟨.inl (de d e),by have:=(nI d (de d e)).1;omega⟩) fun e=>⟨.inr (by omega),by omega⟩
  have B4:∀{n:Nat},H5.next<=n->H.fz n=false:=fun hn=>hf.fresh (by omega)
  -- E6 field aoF
  have app:∀{H6:ad} {ew:VT} {K:Value->ad->Prop} {tg:Tag K},RA S P gP H r t m g mi H6 ew->H6.get H2.next=some ⟨wy ⟨x.name,A.1⟩ (.slice a4 A.1.pat.length k4),101,false,false⟩->(∀d,d < H5.next/\d≠r->H6.get d=H5.get d)->H5.next<=H6.next->
    (∀v8 H8 pT,(∀d∈pT,H.next<=d/\d < H8.next)->Gr ls 101 H8 v8 (done++[⟨x.name,A.1⟩]) pT (gO++g4)->RA S P gP H r t m g mi H8 ew->H5.next<=H8.next->K v8 H8)->
    el Tryz.prog H.fz (H6.push ⟨wy ⟨x.name,A.1⟩ (.slice a4 A.1.pat.length k4),101,false,false⟩) (iG Tryz.prog 33 vO (.slice (some ⟨H6.next,0,none⟩) 1 1) (H6.push ⟨wy ⟨x.name,A.1⟩ (.slice a4 A.1.pat.length k4),101,false,false⟩)) K tg:=by
   intro H6 ew K tg r6 dH k6 O2 hk
   have lo:∀d,d < H5.next->d≠r->(H6.push ⟨wy ⟨x.name,A.1⟩ (.slice a4 A.1.pat.length k4),101,false,false⟩).get d=H5.get d:=fun d h1 h2=>by rw [bS (by omega),k6 d ⟨h1,h2⟩]
   have lo2:∀d,d < H2.next->d≠r->(H6.push ⟨wy ⟨x.name,A.1⟩ (.slice a4 A.1.pat.length k4),101,false,false⟩).get d=H2.get d:=fun d h1 h2=>by rw [lo d (by omega) h2,k5' d (by omega),p4.fr.get d (by omega) (by simp [h2]),k3 d h1]
   have Vf:∀d,(d∈gv∨H.next<=d)->d≠r:=fun d hd=>hd.elim (fun e=>(nI d e).2) fun e=>by omega
   refine jT (r:=ls) (x:=⟨x.name,A.1⟩) (g':=g4) AT (cw.ae (fun d hd=>lo2 d (du d hd).2 (by have:=(du d hd).1;omega)) fun d hd=>lo2 d (iO d hd).2 (Vf d (iO d hd).1)) (fun d hd=>by have:=(du d hd).2;rw [bH];omega) (fun d hd=>by have:=(iO d hd).2;rw [bH];omega) (fun d hd=>?_) (fun d hd=>hf.fresh (du d hd).1) (by rw [aU,if_pos rfl]) ⟨_,rfl,nE.ae fun d hd=>?_⟩ rfl (by omega) ?_
   ·rw [bH]
    refine ⟨by rcases Lq d hd with e | e;have:=(nI d (de d e)).1;omega;omega,fun e=>?_⟩
    have h1:=du d e
    rcases Lq d hd with e' | e'
    ·have:=(nI d (de d e')).1;omega
    ·omega
   ·have h1:d≠H2.next/\d < H4.next/\d≠r:=by
     rcases Lq d hd with e | e
     ·have:=nI d (de d e);exact ⟨by omega,by omega,this.2⟩
     ·exact ⟨by omega,e.2,by omega⟩
    rw [lo d (by omega) h1.2.2,k5' d h1.1]
   ·intro v8 H8 kY Oe HH A8 A9
    have n6:(H6.push ⟨wy ⟨x.name,A.1⟩ (.slice a4 A.1.pat.length k4),101,false,false⟩).next=H6.next+1:=rfl
    refine hk v8 H8 _ (fun d hd=>?_) kY ((r6.push _).own A8 (fun d hd=>(du d hd).1) fun d hd=>?_) (by omega)
    ·rw [List.mem_singleton] at hd
     subst hd
     exact ⟨by omega,by omega⟩
    ·rw [A9,show (d==(H6.push ⟨wy ⟨x.name,A.1⟩ (.slice a4 A.1.pat.length k4),101,false,false⟩).next)=false from by rw [beq_eq_false_iff_ne];omega,Bool.false_or]
  simp only [go_sem,Ap,ef]
  rw [<-jC] at r5 ⊢
  clear jC
  cases rec with
  | false=>
   rw [if_neg (by simp [JU])] at bg
   simp only [go_sem,dJ,B4,qU,eA AT (by decide) (by decide)]
   refine app r5 dJ (fun d _=>rfl) (Nat.le_refl _) ?_
   intro v8 H8 pT EP kY r8 I0
   simp only [go_sem,ei,bX]
   exact ⟨v8,pT,_,_,_,rfl,r8,kY,EP,fun d hd=>⟨(DC d hd).1,by have:=(DC d hd).2;omega⟩,by rw [List.length_append,List.length_singleton,db],bg⟩
  | true=>
   by_cases yZ:A.1.kind=3
   ·rw [if_pos (by simp [JU,yZ])] at bg
    simp only [go_sem,dJ,ef,yZ]
    refine af.by (iX r5.rq) ?_
    rintro _ H6 - p6
    simp only [go_sem,qU,(p6.fr.get H2.next (by omega) (by simp [pS])).trans dJ,B4 p6.fr.nx,eA AT (by decide) (by decide)]
    refine app (r5.call p6) ((p6.fr.get H2.next (by omega) (by simp [pS])).trans dJ) (fun d hd=>p6.fr.get d hd.1 (by simp [hd.2])) p6.fr.nx ?_
    intro v8 H8 pT EP kY r8 I0
    simp only [go_sem,ei,bX]
    exact ⟨v8,pT,_,_,_,rfl,r8,kY,EP,fun d hd=>⟨(DC d hd).1,by have:=(DC d hd).2;omega⟩,by rw [List.length_append,List.length_singleton,db],bg⟩
   ·by_cases ij:A.1.kind=4
    ·rw [if_pos (by simp [JU,ij])] at bg
     simp only [go_sem,dJ,ef,yZ,ij]
     refine af.by (iX r5.rq) ?_
     rintro _ H6 - p6
     simp only [go_sem,qU,(p6.fr.get H2.next (by omega) (by simp [pS])).trans dJ,B4 p6.fr.nx,eA AT (by decide) (by decide)]
     refine app (r5.call p6) ((p6.fr.get H2.next (by omega) (by simp [pS])).trans dJ) (fun d hd=>p6.fr.get d hd.1 (by simp [hd.2])) p6.fr.nx ?_
     intro v8 H8 pT EP kY r8 I0
     simp only [go_sem,ei,bX]
     exact ⟨v8,pT,_,_,_,rfl,r8,kY,EP,fun d hd=>⟨(DC d hd).1,by have:=(DC d hd).2;omega⟩,by rw [List.length_append,List.length_singleton,db],bg⟩
    ·rw [if_neg (by simp [JU,yZ,ij])] at bg
     simp only [go_sem,dJ,ef,yZ,ij,qU,eA AT (by decide) (by decide)]
     refine app r5 dJ (fun d _=>rfl) (Nat.le_refl _) ?_
     intro v8 H8 pT EP kY r8 I0
     simp only [go_sem,ei,bX]
     exact ⟨v8,pT,_,_,_,rfl,r8,kY,EP,fun d hd=>⟨(DC d hd).1,by have:=(DC d hd).2;omega⟩,by rw [List.length_append,List.length_singleton,db],bg⟩
 ·rintro V H2 ⟨ei,vO,mO,gO,done,t2,qU,r2,cw,du,iO,db,bg⟩
  rw [List.drop_length,D1] at bg
  obtain ⟨aO,FG⟩:=cw.val
  subst FG
  have n2:=r2.fr.nx
  have nv:=hv.ae (H':=H2) fun d hd=>r2.k (nI d hd).1 (nI d hd).2
  simp only [go_sem,ei]
  refine af.by (MZ nv cY fun d hd=>by have:=(nI d hd).1;omega) ?_
  rintro vn H3 - ⟨⟨g3,rB,yH⟩,o3,z3⟩
  have r3:=r2.aE o3 z3
  have n3:=o3.nx
  obtain ⟨an,kn,yy⟩:=rB.val
  rw [List.length_map] at yy
  subst yy
  have hsO:=cw.sl.ae (H':=H3) fun d hd=>o3.get d ((List.mem_append.1 hd).elim (fun e=>(du d e).2) fun e=>(iO d e).2)
  have Of:∀d∈mO++gO,(d∈gv∨H.next<=d)/\d < H3.next:=fun d hd=>(List.mem_append.1 hd).elim (fun e=>⟨.inr (du d e).1,by have:=(du d e).2;omega⟩) fun e=>⟨(iO d e).1,by have:=(iO d e).2;omega⟩
  have Vf:∀d,(d∈gv∨H.next<=d)->d≠r:=fun d hd=>hd.elim (fun e=>(nI d e).2) fun e=>by omega
  simp only [go_sem]
  refine il 4722330454072626282496 fs.length (fun i V2 H4=>V2 55=iV (i:Nat)/\∃t4,RA S P gP H r t m g mi H4 t4/\Fr [r] H3 H4/\G5 l c [] (fs.map (·.name)) t2=G5 l c ((fs.map (·.name)).take i) ((fs.map (·.name)).drop i) t4) ⟨by simp only [go_sem] <;> rfl,t2,r3,Fr.refl _ _,by simp⟩ ?_ ?_ (by rfl)
  ·rintro i V2 H4 hi ⟨vY,t4,r4,f4,ue⟩
   have c6:i < (fs.map (·.name)).length:=by rw [List.length_map];exact hi
   have hx:(fs.map (·.name))[i]?=some ((fs.map (·.name))[i]'c6):=List.getElem?_eq_getElem c6
   have cB:(fs.map (·.name)).drop i=((fs.map (·.name))[i]'c6)::(fs.map (·.name)).drop (i+1):=(List.getElem_cons_drop c6).symm
   have ix:(fs.map (·.name)).take (i+1)=(fs.map (·.name)).take i++[(fs.map (·.name))[i]'c6]:=List.take_succ_eq_append_getElem c6
   generalize ((fs.map (·.name))[i]'c6)=x at hx cB ix
   rw [cB,G5,<-ix] at ue
   have nE:=rB.ae (H':=H4) fun d hd=>f4.get d (yH d hd).2 (by have:=(yH d hd).1;simp;omega)
   obtain ⟨vt,gt,dE,xV,Vg⟩:=nE.to (t:=50) (e:=9) (k:=i) NB (by omega)
   obtain ⟨b,o,c',B,sC,hB,ee,iv⟩:=nE.JQ hx
   have bX:IntKind.wrap .i64 (((i:Nat):Int)+1)=((i+1:Nat):Int):=cW hi (by omega)
   simp only [Value.slice.injEq] at sC
   have han:=sC.1
   rw [han] at dE
   have n4:=f4.nx
   simp only [go_sem,vY,hi,han,Option.map_none,Option.map_some,dE,hB,iv]
   refine af.by (qh xV (by rw [List.length_take,List.length_map];omega)) ?_
   rintro _ _ - ⟨rfl,rfl⟩
   by_cases h0:0<=cH ((fs.map (·.name)).take i) x
   ·rw [if_pos h0] at ue
    simp only [go_sem,h0]
    refine af.by (iX r4.rq) ?_
    rintro _ H6 - p6
    simp only [go_sem,vY,bX]
    exact ⟨_,r4.call p6,f4.then p6.fr,ue⟩
   ·rw [if_neg h0] at ue
    simp only [go_sem,h0,vY,bX]
    exact ⟨_,r4,f4,ue⟩
  ·rintro V2 H4 ⟨vY,t4,r4,f4,ue⟩
   have e1:(fs.map (·.name)).length=fs.length:=List.length_map _
   rw [<-e1,List.drop_length,G5] at ue
   have n4:=f4.nx
   simp only [go_sem,vY,qU]
   refine ⟨⟨mO++gO,?_,fun d hd=>(Of d hd).1.imp id fun e=>⟨e,by show d < H4.next;have:=(Of d hd).2;omega⟩⟩,?_⟩
   ·rw [zk,bg]
    exact hsO.ae fun d hd=>f4.get d (Of d hd).2 (by simp;exact Vf d (Of d hd).1)
   ·rw [zk,bg]
    simp only
    rw [ue]
    exact r4.last
end
section
variable {S:XS} {P:bC} {gP:List Nat} {H H1 H2:ad} {r:Nat} {t t1 t2:VT} {m g g1 g2 mi dz dF:List Nat}
theorem RA.ft (h:RA S P gP H r t m g mi H1 t1) (fz:Nat->Bool) (hz:∀c,fz c=H.fz c):RA S P gP H r t m g mi (H1.ai fz) t1:=by
 rw [show fz=H.fz from funext hz];exact h.told
theorem RA.trans (h:RA S P gP H r t m g mi H1 t1) (h2:RA S P gP H1 r t1 m g mi H2 t2):RA S P gP H r t m g mi H2 t2:=⟨h.fr.then h2.fr,h2.rq,h2.ns.trans h.ns,h2.aK.trans h.aK,h.b0⟩
theorem RA.app {α:Type} {rp:Rp α} {tt e:TypeId} {dZ:Nat} {X:Nat->Bool} (ha:iM Tryz.prog tt=some (e,rp.sz,dZ)) (Iq:dZ < 1000) (h:RA S P gP H r t m g mi H1 t1) {vO:Value} {done:List α} {mO gO gx:List Nat} {x:α} {cs:List Value} (cw:Gr rp e H1 vO done mO gO) (du:∀d∈mO,H.next<=d/\d < H1.next/\X d=false) (iO:∀d∈gO,d < H1.next) (hE:rp.E H1 cs x gx) (de:∀d∈gx,d < H1.next/\d∉mO) (h1:j5 cs=true) (db:done.length < 1000000) {K:Value->ad->Prop} {tg:Tag K}
  (hk:∀v8 H8 pT,Gr rp e H8 v8 (done++[x]) pT (gO++gx)->(∀d∈pT,H1.next<=d/\d < H8.next)->RA S P gP H r t m g mi H8 t1->H1.next<=H8.next->(∀d,d < H1.next->d∉mO->H8.get d=H1.get d)->K v8 H8):
  el Tryz.prog X (H1.push ⟨cs,e,false,false⟩) (iG Tryz.prog tt vO (.slice (some ⟨H1.next,0,none⟩) 1 1) (H1.push ⟨cs,e,false,false⟩)) K tg:=by
 have n1:(H1.push ⟨cs,e,false,false⟩).next=H1.next+1:=rfl
 have lo:∀d,d < H1.next->(H1.push ⟨cs,e,false,false⟩).get d=H1.get d:=fun d hd=>bS hd
 refine jT (r:=rp) (x:=x) (g':=gx) ha (cw.ae (fun d hd=>lo d (du d hd).2.1) fun d hd=>lo d (iO d hd)) (fun d hd=>by have:=(du d hd).2.1;omega) (fun d hd=>by have:=iO d hd;omega) (fun d hd=>⟨by have:=(de d hd).1;omega,(de d hd).2⟩) (fun d hd=>(du d hd).2.2) (by rw [aU,if_pos rfl]) (rp.ae hE fun d hd=>lo d (de d hd).1) h1 ?_ ?_
 ·have:(done.length+1) * dZ<=1000001 * 1000:=Nat.mul_le_mul (by omega) (by omega)
  omega
 ·intro v8 H8 kY Oe HH A8 A9
  refine hk v8 H8 _ kY (fun d hd=>?_) ((h.push _).own A8 (fun d hd=>(du d hd).1) fun d hd=>?_) (by omega) fun d hd hn=>(HH d (by omega) hn).trans (lo d hd)
  ·rw [List.mem_singleton] at hd
   omega
  ·rw [A9,show (d==(H1.push ⟨cs,e,false,false⟩).next)=false from by rw [beq_eq_false_iff_ne];omega,Bool.false_or]
structure y0 (P:bC):Prop where
 m:P.msgs.length < 1000000
 r:P.bZ.length < 1000000
 d:P.defs.length < 1000000
 mt:∀x∈P.msgs,x.types.length < 1000000/\∀y∈x.types,y.pat.length < 1000000
 rf:∀x∈P.bZ,x.fields.length < 1000000/\∀y∈x.fields,y.ty.pat.length < 1000000
 dp:∀x∈P.defs,x.params.length < 1000000/\∀y∈x.params,y.ty.pat.length < 1000000
abbrev sf (P:bC):List bj:=P.defs.map (·.name)
def mc (b:Prop) [Decidable b] (e l c:Int) (st:VT):VT:=if b then st.fail e l c else st
def D9 (P:bC) (l c:Int):List Ty->List Ty->VT->List Ty × VT
 | [],done,st=>(done,st)
 | y::ts,done,st=>D9 P l c ts (done++[(we P y l c st).1]) (mc (y.kind=2/\y.cap=3) 2 l c (we P y l c st).2)
def HI (P:bC):Nat->List A1->List A1->VT->List A1 × VT
 | _,[],done,st=>(done,st)
 | i,x::l,done,st=>HI P (i+1) l (done++[{x with types:=(D9 P x.line x.au x.types [] (mc (0<=cH ((jf P).take i) x.name) 5 x.line x.au st)).1}]) (D9 P x.line x.au x.types [] (mc (0<=cH ((jf P).take i) x.name) 5 x.line x.au st)).2
def HJ (P:bC):Nat->List A2->List A2->VT->List A2 × VT
 | _,[],done,st=>(done,st)
 | i,x::l,done,st=>HJ P (i+1) l (done++[{x with fields:=(zk P true x.line x.au x.fields (mc (0<=cH ((jU P).take i) x.name) 5 x.line x.au st)).1}]) (zk P true x.line x.au x.fields (mc (0<=cH ((jU P).take i) x.name) 5 x.line x.au st)).2
def HK (P:bC):Nat->List eH->List eH->VT->List eH × VT
 | _,[],done,st=>(done,st)
 | i,x::l,done,st=>HK P (i+1) l (done++[{x with params:=(zk P false x.line x.au x.params (mc (0<=cH ((sf P).take i) x.name) 5 x.line x.au st)).1}]) (zk P false x.line x.au x.params (mc (0<=cH ((sf P).take i) x.name) 5 x.line x.au st)).2
def ou (P:bC) (st:VT):List A1 × List A2 × List eH × VT:=
 let a:=HI P 0 P.msgs [] st
 let b:=HJ P 0 P.bZ [] a.2
 let c:=HK P 0 P.defs [] b.2
 (a.1,b.1,c.1,c.2)
theorem adh (h:RQ S P gP H r t m g mi) (hP:y0 P):aj Tryz.prog 81 #[pV r] H (fun w H'=>Fr [r] H H'/\(∀c,H'.fz c=H.fz c)/\(ou P t).2.2.2.ns=t.ns/\(ou P t).2.2.2.aK=t.aK/\∃S' rG mD gD,RQ0 S' {P with msgs:=(ou P t).1,bZ:=(ou P t).2.1,defs:=(ou P t).2.2.1} rG H' r (ou P t).2.2.2 m g mi/\(∀d∈rG,d∈gP∨H.next<=d)/\Gr jh 38 H' S'.vD (ou P t).2.2.1 mD gD/\(∀d∈mD,H.next<=d)/\(∀d∈mD++gD,d∈rG)/\∃gx,oQ o9 H' S'.vM (ou P t).1 gx/\oQ qm H' S'.vR (ou P t).2.1 gx/\∀d∈gx,d∈rG/\d∉mD):=by
 refine aj.told ?_
 refine qi (l:=[_]) _ mixed Tryz.func81 ahB [] (show 1<=184 by decide) rfl fun hf=>?_
 simp only [Tryz.f81,Option.getD_some]
 obtain ⟨vN,vI,hr,hN,hI⟩:=h.row
 obtain ⟨gm,hM,oi⟩:=h.sM
 obtain ⟨gr,hR,cw⟩:=h.sR
 obtain ⟨gd,hD,fG⟩:=h.sD
 obtain ⟨aM,kM,hvM⟩:=hM.val
 obtain ⟨aR,kR,hvR⟩:=hR.val
 obtain ⟨aD,kD,L7⟩:=hD.val
 have oj:=h.hP
 have r0:=(RA.start h).told
 simp only [go_sem,hr]
 refine af.by (Nn (hM.ae fun _ _=>rfl) hP.m (fun d hd=>(oj d (oi d hd)).1)) ?_
 rintro vm H1 - ⟨⟨g1,dm,Bj⟩,o1,z1⟩
 have r1:=r0.aE o1 z1
 have gj:=(o1.get r h.rl).trans hr
 have n1:H.next<=H1.next:=o1.nx
 simp only [go_sem,hr,gj]
 refine af.by (G4 (hR.ae fun d hd=>r1.k (oj d (cw d hd)).1 (oj d (cw d hd)).2) hP.r (fun d hd=>by have:=(oj d (cw d hd)).1;omega)) ?_
 rintro vr H2 - ⟨⟨g2,jJ,i4⟩,o2,z2⟩
 have r2:=r1.aE o2 z2
 have n2:=o2.nx
 have dL:=(o2.get r (by have:=h.rl;omega)).trans gj
 simp only [go_sem,hr,gj,dL]
 refine af.by (QZ (hD.ae fun d hd=>r2.k (oj d (fG d hd)).1 (oj d (fG d hd)).2) hP.d (fun d hd=>by have:=(oj d (fG d hd)).1;omega)) ?_
 rintro vd H3 - ⟨⟨g3,rB,yH⟩,o3,z3⟩
 have r3:=(r2.aE o3 z3).told
 have n3:=o3.nx
 have fA:=(o3.get r (by have:=h.rl;omega)).trans dL
 simp only [go_sem,gj,dL,fA,hvM]
 obtain ⟨H4,dx⟩:=r3.hp
 have s1:Sl .str H4 vm (jf P) g1:=dm.ae fun d hd=>by rw [dx,be,o3.get d (by have:=(Bj d hd).2;omega),o2.get d (Bj d hd).2]
 have s2:Sl .str H4 vr (jU P) g2:=jJ.ae fun d hd=>by rw [dx,be,o3.get d (i4 d hd).2]
 have s3:Sl .str H4 vd (sf P) g3:=rB.ae fun d hd=>by rw [dx,be]
 have w1:∀d∈g1,d < H4.next/\d≠r:=fun d hd=>by rw [dx];show d < H3.next/\_;have:H.next<=d/\d < H1.next:=Bj d hd;have:=h.rl;exact ⟨by omega,by omega⟩
 have w2:∀d∈g2,d < H4.next/\d≠r:=fun d hd=>by rw [dx];show d < H3.next/\_;have:H1.next<=d/\d < H2.next:=i4 d hd;have:=h.rl;exact ⟨by omega,by omega⟩
 have w3:∀d∈g3,d < H4.next/\d≠r:=fun d hd=>by rw [dx];show d < H3.next/\_;have:H2.next<=d/\d < H3.next:=yH d hd;have:=h.rl;exact ⟨by omega,by omega⟩
 have hM4:=hM.ae (H':=H4) fun d hd=>by rw [dx];exact r3.k (oj d (oi d hd)).1 (oj d (oi d hd)).2
 have hR4:=hR.ae (H':=H4) fun d hd=>by rw [dx];exact r3.k (oj d (cw d hd)).1 (oj d (cw d hd)).2
 have hD4:=hD.ae (H':=H4) fun d hd=>by rw [dx];exact r3.k (oj d (fG d hd)).1 (oj d (fG d hd)).2
 have n4:H.next<=H4.next:=by rw [dx];show H.next<=H3.next;omega
 have sL:H4.get r=some ⟨rC S vN vI t,136,false,false⟩:=by rw [dx];exact fA
 have wM:∀d∈gm,d < H4.next/\d≠r:=fun d hd=>⟨by have:=(oj d (oi d hd)).1;omega,(oj d (oi d hd)).2⟩
 have wR:∀d∈gr,d < H4.next/\d≠r:=fun d hd=>⟨by have:=(oj d (cw d hd)).1;omega,(oj d (cw d hd)).2⟩
 have wD:∀d∈gd,d < H4.next/\d≠r:=fun d hd=>⟨by have:=(oj d (fG d hd)).1;omega,(oj d (fG d hd)).2⟩
 have gC:∀c,H.fz c=H4.fz c:=fun c=>by rw [dx];rfl
 rw [<-dx] at r3 ⊢
 clear dx
 rw [hvM] at hM4
 have rb:RA S P gP H4 r t m g mi H4 t:=RA.start r3.rq
 have y7:∀{n:Nat},H4.next<=n->H.fz n=false:=fun hn=>hf.fresh (by omega)
 obtain ⟨am,km,hvm⟩:=s1.val
 rw [List.length_map] at hvm
 refine pe 316912650057057350236736849856 P.msgs.length (fun i V H5=>V 37=iV (i:Nat)/\∃vO mO gO done t2,V 6=vO/\RA S P gP H4 r t m g mi H5 t2/\Gr o9 107 H5 vO done mO gO/\(∀d∈mO,H4.next<=d/\d < H5.next)/\(∀d∈gO,(d∈gm∨H4.next<=d)/\d < H5.next/\d∉mO)/\done.length=i/\HI P 0 P.msgs [] t=HI P i (P.msgs.drop i) done t2)
  ⟨by simp only [go_sem] <;> rfl,.slice none 0 0,[],[],[],t,by simp only [go_sem] <;> rfl,rb,Gr.nil _ _ _,by simp,by simp,rfl,rfl⟩ ?_ ?_ (by rfl)
 ·rintro i V H5 hi ⟨ei,vO,mO,gO,done,t2,e6,r5,lz,du,iO,db,bg⟩
  have hx:P.msgs[i]?=some (P.msgs[i]'hi):=List.getElem?_eq_getElem hi
  have um:(P.msgs[i]'hi)∈P.msgs:=List.getElem_mem hi
  have cB:P.msgs.drop i=(P.msgs[i]'hi)::P.msgs.drop (i+1):=(List.getElem_cons_drop hi).symm
  generalize (P.msgs[i]'hi)=x at hx cB um
  obtain ⟨Pm,L8⟩:=hP.mt x um
  rw [cB,HI] at bg
  have bX:IntKind.wrap .i64 (((i:Nat):Int)+1)=((i+1:Nat):Int):=cW hi (by have:=hP.m;omega)
  have n5:=r5.fr.nx
  have i9:H.fz H5.next=false:=y7 n5
  obtain ⟨b,o,c',B,gx,sC,hB,ee,de,b7,hE⟩:=(hM4.ae (H':=H5) fun d hd=>r5.k (wM d hd).1 (wM d hd).2).at hx
  simp only [Value.slice.injEq] at sC
  have L9:=sC.1
  obtain ⟨v5,aV,fk⟩:=hE
  obtain ⟨a5,k5,rfl⟩:=fk.val
  have en:o+i * 4+4<=B.cells.length:=b7
  have aV:(B.cells.drop (o+i * 4)).take 4=[ag x.name,.slice a5 x.types.length k5,iV x.line,iV x.au]:=aV
  refine lS (qj 274877906944 (fun _ H1=>H1=H5.ai H.fz) (by simp only [go_sem,ei,hi]) ?_ (by rfl))
  rintro V1 Hx DD
  have r5:=r5.ft H.fz gC
  have lz:Gr o9 107 (H5.ai H.fz) vO done mO gO:=lz.ae (fun _ _=>rfl) fun _ _=>rfl
  have hB:(H5.ai H.fz).get b=some B:=hB
  have fk:Sl wL (H5.ai H.fz) (.slice a5 x.types.length k5) x.types gx:=fk.ae fun _ _=>rfl
  obtain ⟨Ma,yi⟩:=r5.hp
  have dO:H5.next=Ma.next:=by rw [yi];rfl
  rw [dO] at n5 i9 du iO
  rw [<-yi] at r5 lz hB fk DD
  subst DD
  clear yi dO
  rw [RD,QK]
  refine lS (qj 36028247263150464 (fun V2 H6=>V2 7=iV (i:Nat)/\V2 8=pV Hx.next/\RA S P gP H4 r t m g mi H6 (mc (0<=cH ((jf P).take i) x.name) 5 x.line x.au t2)/\H6.get Hx.next=some ⟨[ag x.name,.slice a5 x.types.length k5,iV x.line,iV x.au],107,false,false⟩/\Hx.next < H6.next/\∀d,d < Hx.next->d≠r->H6.get d=Hx.get d) ?_ ?_ (by rfl))
  ·have r6:=(r5.push ⟨[ag x.name,.slice a5 x.types.length k5,iV x.line,iV x.au],107,false,false⟩).ft H.fz gC
   obtain ⟨H6,ez⟩:=r6.hp
   have dH:H6.get Hx.next=some ⟨[ag x.name,.slice a5 x.types.length k5,iV x.line,iV x.au],107,false,false⟩:=by rw [ez,be,aU,if_pos rfl]
   have FV:H6.next=Hx.next+1:=by rw [ez];rfl
   have k6:∀d,d < Hx.next->H6.get d=Hx.get d:=fun d hd=>by rw [ez,be,bS hd]
   have s6:=s1.ae (H':=H6) fun d hd=>by rw [k6 d (by have:=(w1 d hd).1;omega),r5.k (w1 d hd).1 (w1 d hd).2]
   obtain ⟨vt,gt,dE,xV,Vg⟩:=s6.to (t:=50) (e:=9) (k:=i) NB (by rw [List.length_map];omega)
   have pS:¬Hx.next=r:=by have:=r5.rq.rl;omega
   simp only [go_sem,ei,hi,L9,hB,en,aV,i9,Option.map_none,Option.map_some,dE]
   rw [<-ez] at r6 ⊢
   clear ez
   refine af.by (qh xV (by rw [List.length_take,List.length_map];have:=hP.m;omega)) ?_
   rintro _ _ - ⟨rfl,rfl⟩
   by_cases rz:0<=cH ((jf P).take i) x.name
   ·rw [mc,if_pos rz]
    simp only [go_sem,rz,dH]
    refine af.by (iX (r6.ft H.fz gC).rq) ?_
    rintro _ H7 - p7
    simp only [go_sem]
    refine ⟨((r6.ft H.fz gC).call p7).ft H.fz gC,(p7.fr.get Hx.next (by show Hx.next < H6.next;omega) (by simp [pS])).trans dH,by have:H6.next<=H7.next:=p7.fr.nx;omega,fun d hd hn=>(p7.fr.get d (by show d < H6.next;omega) (by simp [hn])).trans (k6 d hd)⟩
   ·rw [mc,if_neg rz]
    simp only [go_sem,rz]
    exact ⟨r6.ft H.fz gC,dH,by omega,fun d hd _=>k6 d hd⟩
  ·rintro V2 H6 ⟨e7,e8,r6,dH,n6,k6⟩
   generalize mc (0<=cH ((jf P).take i) x.name) 5 x.line x.au t2=cA at *
   have jI:∀d∈gx,d < H4.next/\d≠r:=fun d hd=>wM d (de d hd)
   simp only [go_sem,e7,e8,dH]
   refine xy (r:=wL) QT (fk.ae (H':=H6) fun d hd=>k6 d (by have:=(jI d hd).1;omega) (jI d hd).2) (by
    have:x.types.length * 1000<=1000000 * 1000:=Nat.mul_le_mul (by omega) (Nat.le_refl _)
    omega) (fun d hd=>by have:=(jI d hd).1;omega) ?_
   intro vT H7 mT gT ER xj jo
   obtain ⟨r7,l8,k7,n7⟩:RA S P gP H4 r t m g mi H7 cA/\(∀d∈mT,H6.next<=d/\d < H7.next)/\(∀d,d < H6.next->H7.get d=H6.get d)/\H6.next<=H7.next:=by
    rcases jo with ⟨rfl,rfl⟩ | ⟨rfl,cs,rfl⟩
    ·exact ⟨r6,by simp,fun _ _=>rfl,Nat.le_refl _⟩
    ·exact ⟨r6.push _,fun d hd=>by rw [List.mem_singleton] at hd;subst hd;exact ⟨Nat.le_refl _,Nat.lt_succ_self _⟩,fun d hd=>bS hd,Nat.le_succ _⟩
   obtain ⟨aT,I1⟩:=ER.val
   subst I1
   have nxl:=r5.rq.rl
   have FY:H4.next<=Hx.next:=r5.fr.nx
   have ea:=(k7 Hx.next n6).trans dH
   have Mb:H.fz Hx.next=false:=y7 FY
   have r8:=(r7.own (M:=[Hx.next]) ((Fr.refl _ _).ah (b:=Hx.next) (.inl (by simp)) ⟨[ag x.name,.slice aT x.types.length x.types.length,iV x.line,iV x.au],107,false,false⟩) (by simp;omega) fun _ _=>rfl).ft H.fz gC
   obtain ⟨H8,fB⟩:=r8.hp
   have qV:H8.get Hx.next=some ⟨[ag x.name,.slice aT x.types.length x.types.length,iV x.line,iV x.au],107,false,false⟩:=by rw [fB,be,az,if_pos rfl]
   have k8:∀d,d≠Hx.next->H8.get d=H7.get d:=fun d hd=>by rw [fB,be,az,if_neg hd]
   have Dy:H8.next=H7.next:=by rw [fB];rfl
   simp only [go_sem,e8,ea,Mb]
   rw [<-fB] at r8 ⊢
   clear fB
   have aiu:=ER.ae (H':=H8) (fun d hd=>k8 d (by have:=(l8 d hd).1;omega)) (fun d hd=>k8 d (by have:=(jI d (xj d hd)).1;omega))
   have zR:∀d,(d∈gm∨H4.next<=d)->d≠r:=fun d hd=>hd.elim (fun e=>(wM d e).2) fun e=>by have:=rb.rq.rl;omega
   have Sz:∀d,(d∈gm∨Hx.next<=d)->d≠r:=fun d hd=>zR d (hd.imp id fun e=>by omega)
   refine pe 9903520309671356180765607424 x.types.length (fun k V3 H9=>V3 62=iV (k:Nat)/\∃Ca xP Mc,RA S P gP H4 r t m g mi H9 Mc/\Gr wL 99 H9 (.slice aT x.types.length x.types.length) (xP++x.types.drop k) mT Ca/\(∀d∈Ca,(d∈gm∨Hx.next<=d)/\d < H9.next/\d∉mT)/\xP.length=k/\D9 P x.line x.au x.types [] cA=D9 P x.line x.au (x.types.drop k) xP Mc/\H9.get Hx.next=some ⟨[ag x.name,.slice aT x.types.length x.types.length,iV x.line,iV x.au],107,false,false⟩/\H8.next<=H9.next/\∀d,d < Hx.next->d≠r->H9.get d=Hx.get d)
    ⟨by simp only [go_sem] <;> rfl,gT,[],cA,r8,aiu,fun d hd=>⟨.inl (de d (xj d hd)),by have:=(jI d (xj d hd)).1;omega,fun e=>by have:=(jI d (xj d hd)).1;have:=(l8 d e).1;omega⟩,rfl,rfl,qV,Nat.le_refl _,fun d h1 h2=>by rw [k8 d (by omega),k7 d (by omega),k6 d h1 h2]⟩ ?_ ?_ (by rfl)
   ·rintro k V3 H9 hk ⟨ek,Ca,xP,Mc,r9,kf,pU,lI,Cb,xl,n9,k9⟩
    have hy:x.types[k]?=some (x.types[k]'hk):=List.getElem?_eq_getElem hk
    have hym:(x.types[k]'hk)∈x.types:=List.getElem_mem hk
    have tT:x.types.drop k=(x.types[k]'hk)::x.types.drop (k+1):=(List.getElem_cons_drop hk).symm
    generalize (x.types[k]'hk)=y at hy tT hym
    have hyp:=L8 y hym
    rw [tT] at kf Cb
    rw [D9] at Cb
    have c6:k < (xP++y::x.types.drop (k+1)).length:=by rw [List.length_append,List.length_cons];omega
    have pA:(xP++y::x.types.drop (k+1))[k]'c6=y:=by subst lI;simp
    have eV:∀y':Ty,(xP++y::x.types.drop (k+1)).set k y'=(xP++[y'])++x.types.drop (k+1):=fun y'=>by subst lI;simp
    have F3:IntKind.wrap .i64 (((k:Nat):Int)+1)=((k+1:Nat):Int):=cW hk (by omega)
    obtain ⟨bT,I2,f1,f2,f3,I1,ZV,Md,avd,lL,Og,hET,_⟩:=kf.put c6
    rw [pA] at hET
    obtain ⟨vy,SA,Me⟩:=hET
    obtain ⟨ay,ky,rfl⟩:=Me.val
    have SA:(I2.drop (k * 5)).take 5=nG y (.slice ay y.pat.length ky):=SA
    have Og:k * 5+5<=I2.length:=Og
    simp only [Value.slice.injEq] at I1
    have Cc:=I1.1
    have Oh:bT∈mT:=by rw [ZV];simp
    have ave:=l8 bT Oh
    have ry:∀d∈f2,d∈Ca:=fun d hd=>by rw [lL];simp [hd]
    have Vh:H4.next<=H9.next:=r9.fr.nx
    have An:H.fz H9.next=false:=y7 Vh
    refine lS (qj 9223372036854775808 (fun _ H1=>H1=H9.ai H.fz) (by simp only [go_sem,ek,hk]) ?_ (by rfl))
    rintro V4 Hy hHy
    have r9:=r9.ft H.fz gC
    have kf:Gr wL 99 (H9.ai H.fz) (.slice aT x.types.length x.types.length) (xP++y::x.types.drop (k+1)) mT Ca:=kf.ae (fun _ _=>rfl) fun _ _=>rfl
    have Md:(H9.ai H.fz).get bT=_:=Md
    have Me:Sl fy (H9.ai H.fz) (.slice ay y.pat.length ky) y.pat f2:=Me.ae fun _ _=>rfl
    have xl:(H9.ai H.fz).get Hx.next=_:=xl
    have k9:∀d,d < Hx.next->d≠r->(H9.ai H.fz).get d=Hx.get d:=k9
    have dO:(H9.ai H.fz).next=H9.next:=rfl
    rw [<-dO] at n9 Vh An pU
    rw [<-hHy] at r9 kf Md Me xl k9 n9 Vh An pU
    clear hHy dO
    have cP:=(r9.push ⟨nG y (.slice ay y.pat.length ky),99,false,false⟩).ft H.fz gC
    obtain ⟨dd,oG⟩:=cP.hp
    have Oi:dd.get Hy.next=some ⟨nG y (.slice ay y.pat.length ky),99,false,false⟩:=by rw [oG,be,aU,if_pos rfl]
    have pW:∀d,d < Hy.next->dd.get d=Hy.get d:=fun d hd=>by rw [oG,be,bS hd]
    have ZW:dd.next=Hy.next+1:=by rw [oG];rfl
    simp only [go_sem,ek,hk,Cc,Md,Og,SA,An]
    rw [<-oG] at cP ⊢
    clear oG
    have KE:=(pW Hx.next (by omega)).trans xl
    simp only [go_sem,e8,KE,Oi]
    refine af.by (XM cP.rq hP.m hP.r (ty:=y) (l:=x.line) (c:=x.au) (Me.ae fun d hd=>pW d (pU d (ry d hd)).2.1) (fun d hd=>⟨by have:=(pU d (ry d hd)).2.1;omega,Sz d (pU d (ry d hd)).1⟩) hyp) ?_
    rintro w dS - ⟨v11,Dl,rfl,ZX,akL,qI⟩
    obtain ⟨Pn,Oj,rfl⟩:=ZX.val
    have df:=cP.call qI
    have n11:=qI.fr.nx
    have kk:∀d,d < dd.next->d≠r->dS.get d=dd.get d:=fun d h1 h2=>qI.fr.get d h1 (by simp [h2])
    have pS:Hx.next≠r:=by omega
    have nry:Hy.next≠r:=by omega
    have CY:=(kk Hx.next (by omega) pS).trans KE
    have Ok:=(kk Hy.next (by omega) nry).trans Oi
    have cX:bT≠r:=by omega
    have YJ:=(kk bT (by omega) cX).trans ((pW bT (by omega)).trans Md)
    generalize hA:we P y x.line x.au Mc=A at *
    have fg:H.fz bT=false:=y7 (by omega)
    have eu:cT I2 (k * 5) (nG A.1 (.slice Pn A.1.pat.length Oj))=cT I2 (k * wL.sz) (nG A.1 (.slice Pn A.1.pat.length Oj)):=rfl
    have Rx:=kf.ae (H':=dS) (fun d hd=>by
     have:=l8 d hd
     rw [kk d (by omega) (by omega),pW d (by omega)]) (fun d hd=>by
     have:=pU d hd
     rw [kk d (by omega) (Sz d this.1),pW d this.2.1])
    obtain ⟨F4,avf,f1',f2',f3',avg,RE,SB,auz,akM,auA,avh,oE⟩:=Rx.put c6
    have hJ:F4=bT:=by rw [ZV] at RE;simpa using RE.symm
    subst hJ
    rw [YJ] at SB
    simp only [Option.some.injEq,ct.mk.injEq,true_and,and_true] at SB
    subst SB
    have dh:=(df.own (M:=[F4]) ((Fr.refl _ _).ah (b:=F4) (.inl (by simp)) ⟨cT I2 (k * 5) (nG A.1 (.slice Pn A.1.pat.length Oj)),99,true,false⟩) (by simp;omega) fun _ _=>rfl).ft H.fz gC
    obtain ⟨di,zN⟩:=dh.hp
    have sN:∀d,d≠F4->di.get d=dS.get d:=fun d hd=>by rw [zN,be,az,if_neg hd]
    have akN:di.next=dS.next:=by rw [zN];rfl
    have dQ:∀d∈Dl,(d∈gm∨Hx.next<=d)/\d < di.next/\d∉mT:=fun d hd=>(akL d hd).elim (fun e=>⟨(pU d (ry d e)).1,by have:=(pU d (ry d e)).2.1;omega,(pU d (ry d e)).2.2⟩) fun e=>⟨.inr (by omega),by omega,fun e'=>by have:=(l8 d e').2;omega⟩
    have Br:∀d,d∈f1'∨d∈f3'->d∈Ca:=fun d hd=>by rw [akM];rcases hd with e | e <;> simp [e]
    have wj:=oE di (nG A.1 (.slice Pn A.1.pat.length Oj)) A.1 Dl (fun d hd=>sN d fun e=>(pU d (Br d hd)).2.2 (e▸Oh)) (by rw [zN,be,az,if_pos rfl];rfl) ⟨_,rfl,ZX.ae fun d hd=>sN d fun e=>(dQ d hd).2.2 (e▸Oh)⟩ (fun e=>(dQ F4 e).2.2 Oh)
    rw [eV,<-RE] at wj
    have Ol:=(sN Hx.next (by omega)).trans CY
    have SC:=(sN Hy.next (by omega)).trans Ok
    have SD:∀d,d < Hx.next->d≠r->di.get d=Hx.get d:=fun d h1 h2=>by rw [sN d (by omega),kk d (by omega) h2,pW d (by omega),k9 d h1 h2]
    have wz:∀d∈f1'++(Dl++f3'),(d∈gm∨Hx.next<=d)/\d < di.next/\d∉mT:=fun d hd=>by
     have aE:d∈Ca->(d∈gm∨Hx.next<=d)/\d < di.next/\d∉mT:=fun e=>⟨(pU d e).1,by have:=(pU d e).2.1;omega,(pU d e).2.2⟩
     simp only [List.mem_append] at hd
     rcases hd with e | e | e
     ·exact aE (Br d (.inl e))
     ·exact dQ d e
     ·exact aE (Br d (.inr e))
    have Bu:k * 5+5<=I2.length:=Og
    have Vi:¬Hy.next=F4:=by omega
    have nxb:¬Hx.next=F4:=by omega
    simp only [go_sem,KE,CY,hk,Cc,YJ,fg,Bu]
    rw [<-zN] at dh ⊢
    clear zN
    by_cases fM:y.kind=2
    ·by_cases zW:y.cap=3
     ·simp only [go_sem,e8,Vi,Ok,SC,Ol,fM,zW]
      refine af.by (iX (dh.ft H.fz gC).rq) ?_
      rintro _ jl - oK
      have Ut:di.next<=jl.next:=oK.fr.nx
      have BZ:∀d,d < di.next->d≠r->jl.get d=di.get d:=fun d h1 h2=>oK.fr.get d h1 (by simp [h2])
      simp only [go_sem,ek,F3]
      refine ⟨_,_,_,(((dh.ft H.fz gC).call oK).ft H.fz gC),wj.ae (fun d hd=>BZ d (by have:=(l8 d hd).2;omega) (by have:=(l8 d hd).1;omega)) fun d hd=>BZ d (wz d hd).2.1 (Sz d (wz d hd).1),fun d hd=>⟨(wz d hd).1,by have:=(wz d hd).2.1;show d < jl.next;omega,(wz d hd).2.2⟩,by rw [List.length_append,List.length_singleton,lI],by rw [Cb,mc,if_pos ⟨fM,zW⟩],(BZ Hx.next (by omega) pS).trans Ol,by show H8.next<=jl.next;omega,fun d h1 h2=>(BZ d (by omega) h2).trans (SD d h1 h2)⟩
     ·simp only [go_sem,Vi,Ok,SC,fM,zW,ek,F3]
      exact ⟨_,_,_,dh.ft H.fz gC,wj.ae (fun _ _=>rfl) (fun _ _=>rfl),wz,by rw [List.length_append,List.length_singleton,lI],by rw [Cb,mc,if_neg (by simp [fM,zW])],Ol,by omega,SD⟩
    ·simp only [go_sem,Vi,Ok,SC,fM,ek,F3]
     exact ⟨_,_,_,dh.ft H.fz gC,wj.ae (fun _ _=>rfl) (fun _ _=>rfl),wz,by rw [List.length_append,List.length_singleton,lI],by rw [Cb,mc,if_neg (by simp [fM])],Ol,by omega,SD⟩
   ·rintro V3 H9 ⟨ek,Ca,xP,Mc,r9,kf,pU,lI,Cb,xl,n9,k9⟩
    rw [List.drop_length] at kf Cb
    rw [List.append_nil] at kf
    rw [D9] at Cb
    rw [Cb] at bg
    have r9:=r9.ft H.fz gC
    have nxx:(H9.ai H.fz).next=H9.next:=rfl
    have aiv:=lz.ae (H':=H9.ai H.fz) (fun d hd=>by rw [be];have:=du d hd;exact k9 d this.2 (zR d (.inr this.1))) (fun d hd=>by rw [be];exact k9 d (iO d hd).2.1 (zR d (iO d hd).1))
    have hE9:o9.E (H9.ai H.fz) [ag x.name,.slice aT x.types.length x.types.length,iV x.line,iV x.au] {x with types:=xP} (mT++Ca):=by
     have eF:=kf.sl.ae (H':=H9.ai H.fz) fun _ _=>rfl
     exact ⟨_,rfl,eF⟩
    have n79:H7.next<=H9.next:=by omega
    simp only [go_sem,ek,e6,e8,xl,eA NC (by decide) (by decide)]
    refine r9.app (rp:=o9) NC (by decide) aiv (fun d hd=>⟨(du d hd).1,by have:=(du d hd).2;omega,y7 (du d hd).1⟩) (fun d hd=>by have:=(iO d hd).2.1;omega) hE9 (fun d hd=>?_) rfl (by have:=hP.m;omega) ?_
    ·rcases List.mem_append.1 hd with e | e
     ·have:=l8 d e
      exact ⟨by omega,fun e'=>by have:=(du d e').2;omega⟩
     ·have:=pU d e
      exact ⟨this.2.1,fun e'=>this.1.elim (fun e=>by have:=(wM d e).1;have:=(du d e').1;omega) fun e=>by have:=(du d e').2;omega⟩
    ·intro BY di KJ wj CF dh ey sN
     simp only [go_sem,ei,bX]
     refine ⟨BY,KJ,_,_,_,rfl,dh.ft H.fz gC,wj.ae (fun _ _=>rfl) (fun _ _=>rfl),fun d hd=>?_,fun d hd=>?_,by rw [List.length_append,List.length_singleton,db],bg⟩
     ·have:=CF d hd
      show _/\d < di.next
      exact ⟨by omega,this.2⟩
     ·have lo:(d∈gm∨H4.next<=d)/\d < (H9.ai H.fz).next:=by
       rcases List.mem_append.1 hd with e | e
       ·have:=iO d e;exact ⟨this.1,by omega⟩
       ·rcases List.mem_append.1 e with e | e
        ·have:=l8 d e;exact ⟨.inr (by omega),by omega⟩
        ·have:=pU d e;exact ⟨this.1.imp id fun e=>by omega,this.2.1⟩
      exact ⟨lo.1,by show d < di.next;omega,fun e=>by have:=(CF d e).1;omega⟩
 ·rintro V H6 ⟨ei,vM,mM,gM,dM,tM,e6,rM,akO,F5,F6,avi,ZY⟩
  rw [List.drop_length,HI] at ZY
  obtain ⟨vN5,vI5,F2,_,_⟩:=rM.rq.row
  have rS:=rM.ft H.fz gC
  obtain ⟨Hs,Mf⟩:=rS.hp
  have Po:Hs.get r=some ⟨rC S vN5 vI5 tM,136,false,false⟩:=by rw [Mf];exact F2
  have YK:Gr o9 107 Hs vM dM mM gM:=by rw [Mf];exact akO.ae (fun _ _=>rfl) fun _ _=>rfl
  have Tx:Hs.next=H6.next:=by rw [Mf];rfl
  have n4s:H4.next<=Hs.next:=by have:=rM.fr.nx;omega
  simp only [go_sem,ei,F2,hvR]
  rw [<-Mf] at rS ⊢
  clear Mf
  rw [hvR] at hR4
  rw [L7] at hD4
  refine pe 43556142955738918521486114539292705437696 P.bZ.length (fun i V H6=>V 103=iV (i:Nat)/\∃vOR Vj gOR RF t3,V 11=vOR/\RA S P gP H4 r t m g mi H6 t3/\Gr qm 164 H6 vOR RF Vj gOR/\(∀d∈Vj,Hs.next<=d/\d < H6.next)/\(∀d∈gOR,(d∈gr∨Hs.next<=d)/\d < H6.next/\d∉Vj)/\RF.length=i/\HJ P 0 P.bZ [] tM=HJ P i (P.bZ.drop i) RF t3/\Hs.next<=H6.next/\∀d,d < Hs.next->d≠r->H6.get d=Hs.get d)
   ⟨by simp only [go_sem] <;> rfl,.slice none 0 0,[],[],[],tM,by simp only [go_sem] <;> rfl,rS,Gr.nil _ _ _,by simp,by simp,rfl,rfl,Nat.le_refl _,fun _ _ _=>rfl⟩ ?_ ?_ (by rfl)
  ·rintro i V H5 hi ⟨ei,vO,mO,gO,done,t2,e6,r5,lz,du,iO,db,bg,Vk,Cd⟩
   have hx:P.bZ[i]?=some (P.bZ[i]'hi):=List.getElem?_eq_getElem hi
   have um:(P.bZ[i]'hi)∈P.bZ:=List.getElem_mem hi
   have cB:P.bZ.drop i=(P.bZ[i]'hi)::P.bZ.drop (i+1):=(List.getElem_cons_drop hi).symm
   generalize (P.bZ[i]'hi)=x at hx cB um
   obtain ⟨Pm,L8⟩:=hP.rf x um
   rw [cB,HJ] at bg
   have bX:IntKind.wrap .i64 (((i:Nat):Int)+1)=((i+1:Nat):Int):=cW hi (by have:=hP.r;omega)
   have n5:=r5.fr.nx
   have i9:H.fz H5.next=false:=y7 n5
   obtain ⟨b,o,c',B,gx,sC,hB,ee,de,b7,hE⟩:=(hR4.ae (H':=H5) fun d hd=>r5.k (wR d hd).1 (wR d hd).2).at hx
   simp only [Value.slice.injEq] at sC
   have L9:=sC.1
   obtain ⟨v5,aV,fk⟩:=hE
   obtain ⟨a5,k5,rfl⟩:=fk.val
   have en:o+i * 4+4<=B.cells.length:=b7
   have aV:(B.cells.drop (o+i * 4)).take 4=[ag x.name,.slice a5 x.fields.length k5,iV x.line,iV x.au]:=aV
   refine lS (qj 20282409603651670423947251286016 (fun _ H1=>H1=H5.ai H.fz) (by simp only [go_sem,ei,hi]) ?_ (by rfl))
   rintro V1 Hx DD
   have r5:=r5.ft H.fz gC
   have lz:Gr qm 164 (H5.ai H.fz) vO done mO gO:=lz.ae (fun _ _=>rfl) fun _ _=>rfl
   have hB:(H5.ai H.fz).get b=some B:=hB
   have fk:Sl ls (H5.ai H.fz) (.slice a5 x.fields.length k5) x.fields gx:=fk.ae fun _ _=>rfl
   have Cd:∀d,d < Hs.next->d≠r->(H5.ai H.fz).get d=Hs.get d:=Cd
   obtain ⟨Ma,yi⟩:=r5.hp
   have dO:H5.next=Ma.next:=by rw [yi];rfl
   rw [dO] at n5 i9 du iO Vk
   rw [<-yi] at r5 lz hB fk Cd DD
   subst DD
   clear yi dO
   rw [RD,QK]
   refine lS (qj 2658415426750624442466766226058129408 (fun V2 H6=>V2 12=iV (i:Nat)/\V2 13=pV Hx.next/\RA S P gP H4 r t m g mi H6 (mc (0<=cH ((jU P).take i) x.name) 5 x.line x.au t2)/\H6.get Hx.next=some ⟨[ag x.name,.slice a5 x.fields.length k5,iV x.line,iV x.au],164,false,false⟩/\Hx.next < H6.next/\∀d,d < Hx.next->d≠r->H6.get d=Hx.get d) ?_ ?_ (by rfl))
   ·have r6:=(r5.push ⟨[ag x.name,.slice a5 x.fields.length k5,iV x.line,iV x.au],164,false,false⟩).ft H.fz gC
    obtain ⟨H6,ez⟩:=r6.hp
    have dH:H6.get Hx.next=some ⟨[ag x.name,.slice a5 x.fields.length k5,iV x.line,iV x.au],164,false,false⟩:=by rw [ez,be,aU,if_pos rfl]
    have FV:H6.next=Hx.next+1:=by rw [ez];rfl
    have k6:∀d,d < Hx.next->H6.get d=Hx.get d:=fun d hd=>by rw [ez,be,bS hd]
    have s6:=s2.ae (H':=H6) fun d hd=>by rw [k6 d (by have:=(w2 d hd).1;omega),r5.k (w2 d hd).1 (w2 d hd).2]
    obtain ⟨vt,gt,dE,xV,Vg⟩:=s6.to (t:=50) (e:=9) (k:=i) NB (by rw [List.length_map];omega)
    have pS:¬Hx.next=r:=by have:=r5.rq.rl;omega
    simp only [go_sem,ei,hi,L9,hB,en,aV,i9,Option.map_none,Option.map_some,dE]
    rw [<-ez] at r6 ⊢
    clear ez
    refine af.by (qh xV (by rw [List.length_take,List.length_map];have:=hP.r;omega)) ?_
    rintro _ _ - ⟨rfl,rfl⟩
    by_cases rz:0<=cH ((jU P).take i) x.name
    ·rw [mc,if_pos rz]
     simp only [go_sem,rz,dH]
     refine af.by (iX (r6.ft H.fz gC).rq) ?_
     rintro _ H7 - p7
     simp only [go_sem]
     refine ⟨((r6.ft H.fz gC).call p7).ft H.fz gC,(p7.fr.get Hx.next (by show Hx.next < H6.next;omega) (by simp [pS])).trans dH,by have:H6.next<=H7.next:=p7.fr.nx;omega,fun d hd hn=>(p7.fr.get d (by show d < H6.next;omega) (by simp [hn])).trans (k6 d hd)⟩
    ·rw [mc,if_neg rz]
     simp only [go_sem,rz]
     exact ⟨r6.ft H.fz gC,dH,by omega,fun d hd _=>k6 d hd⟩
   ·rintro V2 H6 ⟨e7,e8,r6,dH,n6,k6⟩
    generalize mc (0<=cH ((jU P).take i) x.name) 5 x.line x.au t2=cA at *
    have jI:∀d∈gx,d < H4.next/\d≠r:=fun d hd=>wR d (de d hd)
    have FY:H4.next<=Hx.next:=r5.fr.nx
    have Mb:H.fz Hx.next=false:=y7 FY
    have nxl:=r5.rq.rl
    have pS:Hx.next≠r:=by omega
    have zR:∀d,(d∈gr∨H4.next<=d)->d≠r:=fun d hd=>hd.elim (fun e=>(wR d e).2) fun e=>by have:=rb.rq.rl;omega
    simp only [go_sem,e8,dH]
    refine af.by (WM r6.rq hP.m hP.r (fs:=x.fields) (rec:=true) (l:=x.line) (c:=x.au) (fk.ae (H':=H6) fun d hd=>k6 d (by have:=(jI d hd).1;omega) (jI d hd).2) (fun d hd=>⟨by have:=(jI d hd).1;omega,(jI d hd).2⟩) Pm L8) ?_
    rintro w H7 - ⟨⟨g7,uk,Vl⟩,p7⟩
    obtain ⟨a7,F7,rfl⟩:=uk.val
    have r7:=r6.call p7
    have n7:=p7.fr.nx
    have kk:∀d,d < H6.next->d≠r->H7.get d=H6.get d:=fun d h1 h2=>p7.fr.get d h1 (by simp [h2])
    have ea:=(kk Hx.next n6 pS).trans dH
    generalize hF:zk P true x.line x.au x.fields cA=F at *
    have r8:=(r7.own (M:=[Hx.next]) ((Fr.refl _ _).ah (b:=Hx.next) (.inl (by simp)) ⟨[ag x.name,.slice a7 F.1.length F7,iV x.line,iV x.au],164,false,false⟩) (by simp;omega) fun _ _=>rfl).ft H.fz gC
    obtain ⟨H8,fB⟩:=r8.hp
    have qV:H8.get Hx.next=some ⟨[ag x.name,.slice a7 F.1.length F7,iV x.line,iV x.au],164,false,false⟩:=by rw [fB,be,az,if_pos rfl]
    have k8:∀d,d≠Hx.next->H8.get d=H7.get d:=fun d hd=>by rw [fB,be,az,if_neg hd]
    have Dy:H8.next=H7.next:=by rw [fB];rfl
    have Ce:∀d,d < Hx.next->d≠r->H8.get d=Hx.get d:=fun d h1 h2=>by rw [k8 d (by omega),kk d (by omega) h2,k6 d h1 h2]
    have RG:=lz.ae (H':=H8) (fun d hd=>Ce d (du d hd).2 (zR d (.inr (by have:=(du d hd).1;omega)))) (fun d hd=>Ce d (iO d hd).2.1 (zR d ((iO d hd).1.imp id fun e=>by omega)))
    have yj:∀d∈g7,d < H8.next/\d≠Hx.next/\(d∈gx∨Hx.next<=d):=fun d hd=>(Vl d hd).elim (fun e=>⟨by have:=(jI d (by exact e)).1;omega,by have:=(jI d (by exact e)).1;omega,.inl (by exact e)⟩) fun e=>⟨by omega,by omega,.inr (by omega)⟩
    have Vm:qm.E H8 [ag x.name,.slice a7 F.1.length F7,iV x.line,iV x.au] {x with fields:=F.1} (g7):=⟨_,rfl,uk.ae fun d hd=>k8 d (yj d hd).2.1⟩
    simp only [go_sem,e8,ea,Mb,e6,eA ND (by decide) (by decide)]
    rw [<-fB,<-Dy]
    rw [<-fB] at r8
    clear fB
    refine r8.app (X:=H.fz) (rp:=qm) ND (by decide) RG (fun d hd=>⟨by have:=(du d hd).1;omega,by have:=(du d hd).2;omega,y7 (by have:=(du d hd).1;omega)⟩) (fun d hd=>by have:=(iO d hd).2.1;omega) Vm (fun d hd=>?_) rfl (by have:=hP.r;omega) ?_
    ·have aE:d∈gx->d < H8.next/\d∉mO:=fun e=>⟨by have:=(jI d e).1;omega,fun e'=>by have:=(jI d e).1;have:=(du d e').1;omega⟩
     exact (yj d hd).2.2.elim aE fun e=>⟨(yj d hd).1,fun e'=>by have:=(du d e').2;omega⟩
    ·intro BY di KJ wj CF dh ey sN
     simp only [go_sem,ei,bX]
     refine ⟨BY,KJ,_,_,_,rfl,dh.ft H.fz gC,wj.ae (fun _ _=>rfl) (fun _ _=>rfl),fun d hd=>?_,fun d hd=>?_,by rw [List.length_append,List.length_singleton,db],bg,?_,fun d h1 h2=>?_⟩
     ·have:=CF d hd
      show _/\d < di.next
      exact ⟨by omega,this.2⟩
     ·have lo:(d∈gr∨Hs.next<=d)/\d < H8.next:=by
       rcases List.mem_append.1 hd with e | e
       ·have:=iO d e;exact ⟨this.1,by omega⟩
       ·have aE:d∈gx->(d∈gr∨Hs.next<=d)/\d < H8.next:=fun e=>⟨.inl (de d e),by have:=(jI d e).1;omega⟩
        exact (yj d e).2.2.elim aE fun e2=>⟨.inr (by omega),(yj d e).1⟩
      exact ⟨lo.1,by show d < di.next;omega,fun e=>by have:=(CF d e).1;omega⟩
     ·show _<=di.next
      omega
     ·show di.get d=_
      rw [sN d (by omega) (fun e=>by have:=(du d e).1;omega),Ce d (by omega) h2,Cd d h1 h2]
  ·rintro V2 H6 ⟨vY,vR,mR,gR,dR,tR,qU,rR,akP,Mg,Mh,avj,ZZ,nS6,kS6⟩
   rw [List.drop_length,HJ] at ZZ
   obtain ⟨I3,I4,hZ,_,_⟩:=rR.rq.row
   have rU:=rR.ft H.fz gC
   obtain ⟨Hu,I5⟩:=rU.hp
   have hru:Hu.get r=some ⟨rC S I3 I4 tR,136,false,false⟩:=by rw [I5];exact hZ
   have YL:Gr qm 164 Hu vR dR mR gR:=by rw [I5];exact akP.ae (fun _ _=>rfl) fun _ _=>rfl
   have kSu:∀d,d < Hs.next->d≠r->Hu.get d=Hs.get d:=by rw [I5];exact kS6
   have nxu:Hu.next=H6.next:=by rw [I5];rfl
   have n4u:H4.next<=Hu.next:=by omega
   simp only [go_sem,vY,hZ,L7]
   rw [<-I5] at rU ⊢
   clear I5
   refine pe 5986310705113581778054129128459912856470177102020608 P.defs.length (fun i V H6=>V 140=iV (i:Nat)/\∃vOD Vn gOD RH t3,V 14=vOD/\RA S P gP H4 r t m g mi H6 t3/\Gr jh 38 H6 vOD RH Vn gOD/\(∀d∈Vn,Hu.next<=d/\d < H6.next)/\(∀d∈gOD,(d∈gd∨Hu.next<=d)/\d < H6.next/\d∉Vn)/\RH.length=i/\HK P 0 P.defs [] tR=HK P i (P.defs.drop i) RH t3/\Hu.next<=H6.next/\∀d,d < Hu.next->d≠r->H6.get d=Hu.get d)
    ⟨by simp only [go_sem] <;> rfl,.slice none 0 0,[],[],[],tR,by simp only [go_sem] <;> rfl,rU,Gr.nil _ _ _,by simp,by simp,rfl,rfl,Nat.le_refl _,fun _ _ _=>rfl⟩ ?_ ?_ (by rfl)
   ·rintro i V H5 hi ⟨ei,vO,mO,gO,done,t2,e6,r5,lz,du,iO,db,bg,Vk,Cd⟩
    have hx:P.defs[i]?=some (P.defs[i]'hi):=List.getElem?_eq_getElem hi
    have um:(P.defs[i]'hi)∈P.defs:=List.getElem_mem hi
    have cB:P.defs.drop i=(P.defs[i]'hi)::P.defs.drop (i+1):=(List.getElem_cons_drop hi).symm
    generalize (P.defs[i]'hi)=x at hx cB um
    obtain ⟨Pm,L8⟩:=hP.dp x um
    rw [cB,HK] at bg
    have bX:IntKind.wrap .i64 (((i:Nat):Int)+1)=((i+1:Nat):Int):=cW hi (by have:=hP.d;omega)
    have n5:=r5.fr.nx
    have i9:H.fz H5.next=false:=y7 n5
    obtain ⟨b,o,c',B,gx,sC,hB,ee,de,b7,hE⟩:=(hD4.ae (H':=H5) fun d hd=>r5.k (wD d hd).1 (wD d hd).2).at hx
    simp only [Value.slice.injEq] at sC
    have L9:=sC.1
    obtain ⟨v5,v6,v7,u5,u6,u7,aV,rfl,fk,vJ,KK⟩:=hE
    obtain ⟨a5,k5,rfl⟩:=fk.val
    obtain ⟨a6,DE,rfl⟩:=vJ.val
    obtain ⟨DG,DH,rfl⟩:=KK.val
    have yk:∀d∈u5++(u6++u7),d∈u5++(u6++u7):=fun _ h=>h
    have en:o+i * 9+9<=B.cells.length:=b7
    have aV:(B.cells.drop (o+i * 9)).take 9=dK x (.slice a5 x.params.length k5) (.slice a6 x.pat.length DE) (.slice DG x.on.length DH):=aV
    refine lS (qj 2787593149816327892691964784081045188247552 (fun _ H1=>H1=H5.ai H.fz) (by simp only [go_sem,ei,hi]) ?_ (by rfl))
    rintro V1 Hx DD
    have r5:=r5.ft H.fz gC
    have lz:Gr jh 38 (H5.ai H.fz) vO done mO gO:=lz.ae (fun _ _=>rfl) fun _ _=>rfl
    have hB:(H5.ai H.fz).get b=some B:=hB
    have fk:Sl ls (H5.ai H.fz) (.slice a5 x.params.length k5) x.params u5:=fk.ae fun _ _=>rfl
    have vJ:Sl fy (H5.ai H.fz) (.slice a6 x.pat.length DE) x.pat u6:=vJ.ae fun _ _=>rfl
    have KK:Sl dB (H5.ai H.fz) (.slice DG x.on.length DH) x.on u7:=KK.ae fun _ _=>rfl
    have Cd:∀d,d < Hu.next->d≠r->(H5.ai H.fz).get d=Hu.get d:=Cd
    obtain ⟨Ma,yi⟩:=r5.hp
    have dO:H5.next=Ma.next:=by rw [yi];rfl
    rw [dO] at n5 i9 du iO Vk
    rw [<-yi] at r5 lz hB fk vJ KK Cd DD
    subst DD
    clear yi dO
    rw [RD,QK]
    refine lS (qj 365369834146426096895135824249502592823606738944 (fun V2 H6=>V2 15=iV (i:Nat)/\V2 16=pV Hx.next/\RA S P gP H4 r t m g mi H6 (mc (0<=cH ((sf P).take i) x.name) 5 x.line x.au t2)/\H6.get Hx.next=some ⟨dK x (.slice a5 x.params.length k5) (.slice a6 x.pat.length DE) (.slice DG x.on.length DH),38,false,false⟩/\Hx.next < H6.next/\∀d,d < Hx.next->d≠r->H6.get d=Hx.get d) ?_ ?_ (by rfl))
    ·have r6:=(r5.push ⟨dK x (.slice a5 x.params.length k5) (.slice a6 x.pat.length DE) (.slice DG x.on.length DH),38,false,false⟩).ft H.fz gC
     obtain ⟨H6,ez⟩:=r6.hp
     have dH:H6.get Hx.next=some ⟨dK x (.slice a5 x.params.length k5) (.slice a6 x.pat.length DE) (.slice DG x.on.length DH),38,false,false⟩:=by rw [ez,be,aU,if_pos rfl]
     have FV:H6.next=Hx.next+1:=by rw [ez];rfl
     have k6:∀d,d < Hx.next->H6.get d=Hx.get d:=fun d hd=>by rw [ez,be,bS hd]
     have s6:=s3.ae (H':=H6) fun d hd=>by rw [k6 d (by have:=(w3 d hd).1;omega),r5.k (w3 d hd).1 (w3 d hd).2]
     obtain ⟨vt,gt,dE,xV,Vg⟩:=s6.to (t:=50) (e:=9) (k:=i) NB (by rw [List.length_map];omega)
     have pS:¬Hx.next=r:=by have:=r5.rq.rl;omega
     simp only [go_sem,ei,hi,L9,hB,en,aV,i9,Option.map_none,Option.map_some,dE]
     rw [<-ez] at r6 ⊢
     clear ez
     refine af.by (qh xV (by rw [List.length_take,List.length_map];have:=hP.d;omega)) ?_
     rintro _ _ - ⟨rfl,rfl⟩
     by_cases rz:0<=cH ((sf P).take i) x.name
     ·rw [mc,if_pos rz]
      simp only [go_sem,rz,dH]
      refine af.by (iX (r6.ft H.fz gC).rq) ?_
      rintro _ H7 - p7
      simp only [go_sem]
      refine ⟨((r6.ft H.fz gC).call p7).ft H.fz gC,(p7.fr.get Hx.next (by show Hx.next < H6.next;omega) (by simp [pS])).trans dH,by have:H6.next<=H7.next:=p7.fr.nx;omega,fun d hd hn=>(p7.fr.get d (by show d < H6.next;omega) (by simp [hn])).trans (k6 d hd)⟩
     ·rw [mc,if_neg rz]
      simp only [go_sem,rz]
      exact ⟨r6.ft H.fz gC,dH,by omega,fun d hd _=>k6 d hd⟩
    ·rintro V2 H6 ⟨e7,e8,r6,dH,n6,k6⟩
     generalize mc (0<=cH ((sf P).take i) x.name) 5 x.line x.au t2=cA at *
     have jI:∀d∈(u5++(u6++u7)),d < H4.next/\d≠r:=fun d hd=>wD d (de d hd)
     have FY:H4.next<=Hx.next:=r5.fr.nx
     have Mb:H.fz Hx.next=false:=y7 FY
     have nxl:=r5.rq.rl
     have pS:Hx.next≠r:=by omega
     have zR:∀d,(d∈gd∨H4.next<=d)->d≠r:=fun d hd=>hd.elim (fun e=>(wD d e).2) fun e=>by have:=rb.rq.rl;omega
     simp only [go_sem,e8,dH]
     refine af.by (WM r6.rq hP.m hP.r (fs:=x.params) (rec:=false) (l:=x.line) (c:=x.au) (fk.ae (H':=H6) fun d hd=>k6 d (by have:=(jI d (yk d (by simp [hd]))).1;omega) (jI d (yk d (by simp [hd]))).2) (fun d hd=>⟨by have:=(jI d (yk d (by simp [hd]))).1;omega,(jI d (yk d (by simp [hd]))).2⟩) Pm L8) ?_
     rintro w H7 - ⟨⟨g7,uk,Vl⟩,p7⟩
     obtain ⟨a7,F7,rfl⟩:=uk.val
     have r7:=r6.call p7
     have n7:=p7.fr.nx
     have kk:∀d,d < H6.next->d≠r->H7.get d=H6.get d:=fun d h1 h2=>p7.fr.get d h1 (by simp [h2])
     have ea:=(kk Hx.next n6 pS).trans dH
     generalize hF:zk P false x.line x.au x.params cA=F at *
     have r8:=(r7.own (M:=[Hx.next]) ((Fr.refl _ _).ah (b:=Hx.next) (.inl (by simp)) ⟨dK {x with params:=F.1} (.slice a7 F.1.length F7) (.slice a6 x.pat.length DE) (.slice DG x.on.length DH),38,false,false⟩) (by simp;omega) fun _ _=>rfl).ft H.fz gC
     obtain ⟨H8,fB⟩:=r8.hp
     have qV:H8.get Hx.next=some ⟨dK {x with params:=F.1} (.slice a7 F.1.length F7) (.slice a6 x.pat.length DE) (.slice DG x.on.length DH),38,false,false⟩:=by rw [fB,be,az,if_pos rfl]
     have k8:∀d,d≠Hx.next->H8.get d=H7.get d:=fun d hd=>by rw [fB,be,az,if_neg hd]
     have Dy:H8.next=H7.next:=by rw [fB];rfl
     have Ce:∀d,d < Hx.next->d≠r->H8.get d=Hx.get d:=fun d h1 h2=>by rw [k8 d (by omega),kk d (by omega) h2,k6 d h1 h2]
     have RG:=lz.ae (H':=H8) (fun d hd=>Ce d (du d hd).2 (zR d (.inr (by have:=(du d hd).1;omega)))) (fun d hd=>Ce d (iO d hd).2.1 (zR d ((iO d hd).1.imp id fun e=>by omega)))
     have yj:∀d∈g7,d < H8.next/\d≠Hx.next/\(d∈(u5++(u6++u7))∨Hx.next<=d):=fun d hd=>(Vl d hd).elim (fun e=>⟨by have:=(jI d (by exact yk d (by simp [e]))).1;omega,by have:=(jI d (by exact yk d (by simp [e]))).1;omega,.inl (by exact yk d (by simp [e]))⟩) fun e=>⟨by omega,by omega,.inr (by omega)⟩
     have Vm:jh.E H8 (dK {x with params:=F.1} (.slice a7 F.1.length F7) (.slice a6 x.pat.length DE) (.slice DG x.on.length DH)) {x with params:=F.1} (g7++(u6++u7)):=⟨_,_,_,g7,u6,u7,rfl,rfl,uk.ae fun d hd=>k8 d (yj d hd).2.1,vJ.ae fun d hd=>by have:=jI d (yk d (by simp [hd]));exact Ce d (by omega) this.2,KK.ae fun d hd=>by have:=jI d (yk d (by simp [hd]));exact Ce d (by omega) this.2⟩
     simp only [go_sem,e8,ea,Mb,e6,eA tz (by decide) (by decide)]
     rw [<-fB,<-Dy]
     rw [<-fB] at r8
     clear fB
     refine r8.app (X:=H.fz) (rp:=jh) tz (by decide) RG (fun d hd=>⟨by have:=(du d hd).1;omega,by have:=(du d hd).2;omega,y7 (by have:=(du d hd).1;omega)⟩) (fun d hd=>by have:=(iO d hd).2.1;omega) Vm (fun d hd=>?_) rfl (by have:=hP.d;omega) ?_
     ·have aE:d∈(u5++(u6++u7))->d < H8.next/\d∉mO:=fun e=>⟨by have:=(jI d e).1;omega,fun e'=>by have:=(jI d e).1;have:=(du d e').1;omega⟩
      rcases List.mem_append.1 hd with e0 | e0
      ·exact (yj d e0).2.2.elim aE fun e=>⟨(yj d e0).1,fun e'=>by have:=(du d e').2;omega⟩
      ·exact aE (yk d (by simp only [List.mem_append] at e0 ⊢;rcases e0 with e | e <;> simp [e]))
     ·intro BY di KJ wj CF dh ey sN
      simp only [go_sem,ei,bX]
      refine ⟨BY,KJ,_,_,_,rfl,dh.ft H.fz gC,wj.ae (fun _ _=>rfl) (fun _ _=>rfl),fun d hd=>?_,fun d hd=>?_,by rw [List.length_append,List.length_singleton,db],bg,?_,fun d h1 h2=>?_⟩
      ·have:=CF d hd
       show _/\d < di.next
       exact ⟨by omega,this.2⟩
      ·have lo:(d∈gd∨Hu.next<=d)/\d < H8.next:=by
        rcases List.mem_append.1 hd with e | e
        ·have:=iO d e;exact ⟨this.1,by omega⟩
        ·have aE:d∈(u5++(u6++u7))->(d∈gd∨Hu.next<=d)/\d < H8.next:=fun e=>⟨.inl (de d e),by have:=(jI d e).1;omega⟩
         rcases List.mem_append.1 e with e0 | e0
         ·exact (yj d e0).2.2.elim aE fun e2=>⟨.inr (by omega),(yj d e0).1⟩
         ·exact aE (yk d (by simp only [List.mem_append] at e0 ⊢;rcases e0 with e | e <;> simp [e]))
       exact ⟨lo.1,by show d < di.next;omega,fun e=>by have:=(CF d e).1;omega⟩
      ·show _<=di.next
       omega
      ·show di.get d=_
       rw [sN d (by omega) (fun e=>by have:=(du d e).1;omega),Ce d (by omega) h2,Cd d h1 h2]
   ·rintro V3 H6 ⟨ei3,vD,mD,gD,dD,tD,Vo,rD,SE,Pp,Pq,avk,Z0,nU6,Pr⟩
    rw [List.drop_length,HK] at Z0
    obtain ⟨Mi,Mj,kC,hN7,I6⟩:=rD.rq.row
    obtain ⟨Ps,Mk⟩:=YK.val
    subst Mk
    obtain ⟨Vp,Mk⟩:=YL.val
    subst Mk
    obtain ⟨aD9,Mk⟩:=SE.val
    subst Mk
    have DI:=h.fz
    have eP:ou P t=(dM,dR,dD,tD):=by rw [ou,ZY,ZZ,Z0]
    rw [eP]
    simp only [go_sem,ei3,e6,qU,Vo,kC,DI]
    have rr:=(r3.aE (bc.refl _) (fun _=>rfl)).trans rD
    have YM:=(YK.ae (H':=Hu) (fun d hd=>kSu d (by have:=(F5 d hd).2;omega) (by have:=(F5 d hd).1;have:=rb.rq.rl;omega)) (fun d hd=>kSu d (by have:=(F6 d hd).2.1;omega) ((F6 d hd).1.elim (fun e=>(wM d e).2) fun e=>by have:=rb.rq.rl;omega))).ae (H':=H6) (fun d hd=>Pr d (by have:=(F5 d hd).2;omega) (by have:=(F5 d hd).1;have:=rb.rq.rl;omega)) (fun d hd=>Pr d (by have:=(F6 d hd).2.1;omega) ((F6 d hd).1.elim (fun e=>(wM d e).2) fun e=>by have:=rb.rq.rl;omega))
    have YN:=YL.ae (H':=H6) (fun d hd=>Pr d (by have:=(Mg d hd).2;omega) (by have:=(Mg d hd).1;have:=rb.rq.rl;omega)) (fun d hd=>Pr d (by have:=(Mh d hd).2.1;omega) ((Mh d hd).1.elim (fun e=>(wR d e).2) fun e=>by have:=rb.rq.rl;omega))
    have yl:∀d∈(mM++gM)++((mR++gR)++(mD++gD)),(d∈gP∨H4.next<=d)/\d < H6.next/\d≠r:=fun d hd=>by
     have key:(d∈gP∨H4.next<=d)/\d < H6.next:=by
      simp only [List.mem_append] at hd
      rcases hd with (e | e) | (e | e) | (e | e)
      ·exact ⟨.inr (F5 d e).1,by have:=(F5 d e).2;omega⟩
      ·exact ⟨(F6 d e).1.imp (oi d) id,by have:=(F6 d e).2.1;omega⟩
      ·exact ⟨.inr (by have:=(Mg d e).1;omega),by have:=(Mg d e).2;omega⟩
      ·exact ⟨(Mh d e).1.imp (cw d) fun e=>by omega,by have:=(Mh d e).2.1;omega⟩
      ·exact ⟨.inr (by have:=(Pp d e).1;omega),(Pp d e).2⟩
      ·exact ⟨(Pq d e).1.imp (fG d) fun e=>by omega,(Pq d e).2.1⟩
     exact ⟨key.1,key.2,key.1.elim (fun e=>(oj d e).2) fun e=>by have:=rb.rq.rl;omega⟩
    have kF:∀d,d≠r->((((((H6.ai H.fz).ah r ⟨rC ⟨.slice Ps dM.length dM.length,S.vR,S.vD⟩ Mi Mj tD,136,false,false⟩).ah r ⟨rC ⟨.slice Ps dM.length dM.length,.slice Vp dR.length dR.length,S.vD⟩ Mi Mj tD,136,false,false⟩).ah r ⟨rC ⟨.slice Ps dM.length dM.length,.slice Vp dR.length dR.length,.slice aD9 dD.length dD.length⟩ Mi Mj tD,136,false,false⟩)).ai H.fz).get d=H6.get d:=fun d hd=>by rw [be,az,if_neg hd,az,if_neg hd,az,if_neg hd,be]
    refine ⟨(((rr.fr.ai _).ah (.inl (by simp)) _).ah (.inl (by simp)) _ |>.ah (.inl (by simp)) _).ai _,fun _=>trivial,rr.ns,rr.aK,⟨.slice Ps dM.length dM.length,.slice Vp dR.length dR.length,.slice aD9 dD.length dD.length⟩,(mM++gM)++((mR++gR)++(mD++gD)),mD,gD,?_,fun d hd=>(yl d hd).1.imp id fun e=>by omega,?_,fun d hd=>by have:=(Pp d hd).1;omega,fun d hd=>by simp only [List.mem_append] at hd ⊢;rcases hd with e | e <;> simp [e],(mM++gM)++(mR++gR),?_,?_,fun d hd=>⟨by simp only [List.mem_append] at hd ⊢;rcases hd with (e | e) | (e | e) <;> simp [e],fun e=>?_⟩⟩
    ·have q:=rD.rq
     exact ⟨⟨Mi,Mj,by rw [be,az,if_pos rfl],hN7.ae (fun d hd=>kF d (q.hm d hd).2.1) (fun d hd=>kF d (q.hg d hd).2),I6.ae fun d hd=>kF d (q.hi d hd).2.1⟩,(YM.sl.ae fun d hd=>kF d (yl d (by simp only [List.mem_append] at hd ⊢;rcases hd with e | e <;> simp [e])).2.2).i (fun d hd=>by simp only [List.mem_append] at hd ⊢;rcases hd with e | e <;> simp [e]),(YN.sl.ae fun d hd=>kF d (yl d (by simp only [List.mem_append] at hd ⊢;rcases hd with e | e <;> simp [e])).2.2).i (fun d hd=>by simp only [List.mem_append] at hd ⊢;rcases hd with e | e <;> simp [e]),(SE.sl.ae fun d hd=>kF d (yl d (by simp only [List.mem_append] at hd ⊢;rcases hd with e | e <;> simp [e])).2.2).i (fun d hd=>by simp only [List.mem_append] at hd ⊢;rcases hd with e | e <;> simp [e]),q.rl,fun d hd=>⟨(q.hm d hd).1,(q.hm d hd).2.1,fun e=>(yl d e).1.elim (h.hm d hd).2.2.1 fun e=>by have:=(h.hm d hd).1;omega,(q.hm d hd).2.2.2⟩,fun d hd=>⟨(q.hi d hd).1,(q.hi d hd).2.1,fun e=>(yl d e).1.elim (h.hi d hd).2.2.1 fun e=>by have:=(h.hi d hd).1;omega,(q.hi d hd).2.2.2⟩,q.hg,fun d hd=>(yl d hd).2⟩
    ·exact SE.ae (fun d hd=>by rw [be,az,if_neg,az,if_neg,az,if_neg,be] <;> exact (yl d (by simp [hd])).2.2) (fun d hd=>by rw [be,az,if_neg,az,if_neg,az,if_neg,be] <;> exact (yl d (by simp [hd])).2.2)
    ·exact (YM.sl.ae fun d hd=>kF d (yl d (by simp only [List.mem_append] at hd ⊢;rcases hd with e | e <;> simp [e])).2.2).i (fun d hd=>by simp only [List.mem_append] at hd ⊢;rcases hd with e | e <;> simp [e])
    ·exact (YN.sl.ae fun d hd=>kF d (yl d (by simp only [List.mem_append] at hd ⊢;rcases hd with e | e <;> simp [e])).2.2).i (fun d hd=>by simp only [List.mem_append] at hd ⊢;rcases hd with e | e <;> simp [e])
    ·have h1:=(Pp d e).1
     simp only [List.mem_append] at hd
     rcases hd with (e | e) | (e | e)
     ·have:=(F5 d e).2;omega
     ·have:=(F6 d e).2.1;omega
     ·have:=(Mg d e).2;omega
     ·have:=(Mh d e).2.1;omega
end
end Go.Proofs.YtinjmfblebpnnaaGreat.Ab
