/- Lemmas for the walk, part 4. -/
import Derived.Test.YtinjmfblebpnnaaGreatF3
set_option linter.unusedVariables false
set_option linter.unusedSimpArgs false
set_option maxRecDepth 100000
namespace Go.Proofs.YtinjmfblebpnnaaGreat.Ab
open Go
section
variable {zb:Bool} {L:List bh} {F:List Nat} {c1 c2 c3:Value} {H H1 H2:ad} {q rb nb:Nat} {st cA bu:aG} {ns bk bK:List aH} {m m1 m2 g g1 g2 gn fY rF:List Nat} {n n1 n2:aH}
theorem Ag.fresh (h:NQ0 L F c1 c2 c3 H1 q rb cA bk m1 g1) {nb:Nat} (gI:nb=H1.next) {n:aH} (ha:n.args=[]) (hp:n.pat=[]) (hb:n.ak=[]):
  Ag L F c1 c2 c3 (H1.push ⟨aJ n (.slice none 0 0) (.slice none 0 0) (.slice none 0 0),42,false,false⟩) q rb cA bk m1 g1 nb n []:=by
 subst gI
 obtain ⟨e1,e2,e3⟩:=h.pp.fresh (Nat.le_refl H1.next)
 have ho:=bc.push H1 ⟨aJ n (.slice none 0 0) (.slice none 0 0) (.slice none 0 0),42,false,false⟩
 exact ⟨h.fr (ho.fr []) (h.pp.aE ho) (by simp) (by simp) (by simp),⟨h.pp.aE ho,⟨_,_,_,[],[],[],by rw [aU,if_pos rfl],.inl ⟨rfl,ha,rfl⟩,.inl ⟨rfl,hp,rfl⟩,.inl ⟨rfl,hb,rfl⟩,rfl⟩,Nat.lt_succ_self _,e2,e1,e3,by simp⟩,
  fun e=>by have:=(h.hm _ e).1;omega,fun e=>by have:=(h.hg _ e).1;omega,by simp⟩
theorem QR.fresh (h:NR L F c1 c2 c3 H q rb ns m g H1 cA bk m1 g1) {nb:Nat} (gI:nb=H1.next) (n:aH) (ha:n.args=[]) (hp:n.pat=[]) (hb:n.ak=[]):
  QR true L F c1 c2 c3 H q rb ns m g nb [] (H1.push ⟨aJ n (.slice none 0 0) (.slice none 0 0) (.slice none 0 0),42,false,false⟩) cA bk m1 g1 n []:=by
 have r:=h.push ⟨aJ n (.slice none 0 0) (.slice none 0 0) (.slice none 0 0),42,false,false⟩
 refine ⟨r.fr.sub fun c hc=>.inl (by simp only [List.mem_cons] at hc ⊢;rcases hc with e | e | e <;> simp [e]),Ag.fresh h.nq.toNQ0 gI ha hp hb,h.le,h.sm,h.sg,by simp,r.nq.fz,r.nq.fq,?_,r.nq.fm,r.nq.fn⟩
 subst gI
 rw [qf];simp
theorem QR.done (h:QR zb L F c1 c2 c3 H q rb ns m g nb [] H1 cA bk m1 g1 n1 fY) (gI:H.next<=nb) {k:Nat} (hk:k < bk.length):∃aA kA aP kP aB kB,H1.get nb=some ⟨aJ n1 (.slice aA n1.args.length kA) (.slice aP n1.pat.length kP) (.slice aB n1.ak.length kB),42,false,false⟩/\
  aj Tryz.prog 172 #[pV q,iV (k:Nat),.agg (aJ n1 (.slice aA n1.args.length kA) (.slice aP n1.pat.length kP) (.slice aB n1.ak.length kB)).toArray] H1 fun w H2=>xG L F c1 c2 c3 H q rb ns m g cA (pj bk k n1) (H2.ai H.fz):=by
 obtain ⟨vA,vP,vB,gA,gP,gB,cK,hA,hP,hB,rfl⟩:=h.lq.ln.nd
 obtain ⟨aA,kA,rfl⟩:=hA.val
 obtain ⟨aP,kP,rfl⟩:=hP.val
 obtain ⟨aB,kB,rfl⟩:=hB.val
 refine ⟨aA,kA,aP,kP,aB,kB,cK,(ah8 h.nq hk hA hP hB fun c hc=>⟨(h.lq.ln.hg c hc).1,(h.lq.ln.hg c hc).2.1,(h.lq.ln.hg c hc).2.2.2,h.lq.gm c hc⟩).mono fun w H2 _ ⟨hf,hz,g',h0,hs⟩=>?_⟩
 refine ⟨((h.fr.sub fun c hc=>?_).trans hf h.sm').ai _,fun _=>rfl,by rw [pj,List.length_set];exact h.le,m1,g',h0.ai,h.sm,fun c hc=>?_⟩
 ·simp only [List.mem_cons] at hc ⊢
  rcases hc with e | e | e | e
  ·exact .inl (.inl e)
  ·exact .inl (.inr (.inl e))
  ·exact .inr (e▸gI)
  ·exact .inl (.inr (.inr e))
 ·rcases hs c hc with e | e
  ·exact h.sg c e
  ·exact (h.sn c e).elim (fun e=>by cases e) .inr
def zw (L:List bh) (s:aG):aG:=if (tk L s).kind≠2 then eQ 2 s else if 99 < (tk L s).n then eQ 3 s else s
def J4 (L:List bh) (s:aG):aG:=if c9 (zw L s)=true then aC (zw L s) else zw L s
def NJ (L:List bh) (s:aG):Int:=if c9 (zw L s)=true then (tk L s).n else 0
def Rr (L:List bh) (ba:pH) (st:aG) (ns:List aH) (k:Nat):Option (aG × List aH):=
 (ba 1 (J4 L (aC st),ns)).map fun x=>(x.2.1,pj x.2.2 k {kind:=11,n:=NJ L (aC st),a:=x.1,b:= -1})
theorem aa7 {h:KH}:fH Tryz.prog 42 [(0,iV 11),(8,iV (-1)),(9,iV (-1))] h=.ok (.agg #[iV 11,iV 0,iV 0,iV 0,iV 0,iV 0,iV 0,iV 0,iV (-1),iV (-1),iV 0,iV 0,iV 0,ag [],ag [],ag [],ag [],.slice none 0 0,.slice none 0 0,.slice none 0 0]) h:=by kernel_rfl
theorem af9 (hL:LG L) {ba:pH} (iI:A5 L F c1 c2 c3 q rb ba) (h:NQ L F c1 c2 c3 H q rb st ns m g) {k:Nat} (hk:k < ns.length) (ij:(tk L st).kind≠4) {R:aG × List aH} (he:Rr L ba st ns k=some R):
  aj Tryz.prog 175 #[pV q,iV (k:Nat)] H (fun w H'=>xG L F c1 c2 c3 H q rb ns m g R.1 R.2 H'):=by
 refine aj.told ?_
 refine afN (Nat.le_refl _) fun hf=>?_
 simp only [Tryz.f175,Option.getD_some]
 have r0:=NR.start h
 have hz:=h.fz
 have jt:=hL.len
 have cO:H.fz H.next=false:=hf.fresh (Nat.le_refl _)
 obtain ⟨d1,d2,d3,d4,bL,oL,cL,a,j,c,hq,hr,cU,pa⟩:=h.bJ.iE hL ij
 have ra:=r0.aY pa
 have nr:¬rb=H.next:=by have:=h.pp.rl;omega
 have nq:¬q=H.next:=by have:=h.pp.ql;omega
 have rq:=QR.fresh ra (nb:=H.next) rfl {kind:=11,a:= -1,b:= -1} rfl rfl rfl
 simp only [go_sem,hq,hr,hz,cU,nr,nq,aa7,cO]
 refine af.by (rh rq.pp) ?_
 rintro _ H2 - ⟨rfl,p2⟩
 have r2:=rq.aY p2
 have r3:=r2.push ⟨ia (tk L (aC st)),82,false,false⟩
 obtain ⟨vA,vP,vB,cK⟩:=r2.nd
 have nn:¬H.next=H2.next:=by have:=r2.lq.ln.nl;omega
 have qJ:¬H.next=rb:=fun e=>nr e.symm
 have wY:¬rb=H2.next:=by have:=r2.pp.rl;omega
 have yG:¬H2.next=rb:=fun e=>wY e.symm
 have wZ:¬q=H2.next:=by have:=r2.pp.ql;omega
 have IF:H.fz H2.next=false:=hf.fresh (by have:=r2.fr.nx;omega)
 rw [Rr] at he
 generalize aC st=sa at *
 cases ff:ba 1 (J4 L sa,ns) with
 | none=>rw [ff] at he;cases he
 | some B=>
  obtain ⟨bi,bs,bn⟩:=B
  rw [ff] at he
  cases he
  by_cases h1:(tk L sa).kind=2
  ·rw [show ia (tk L sa)=[iV 2,iV (tk L sa).n,iV (tk L sa).line,iV (tk L sa).au,ag (tk L sa).text] by simp only [ia,h1]] at r3
   by_cases h2:99 < (tk L sa).n
   ·have e1:zw L sa=eQ 3 sa:=by rw [zw,if_neg (fun e=>e h1),if_pos h2]
    rw [NJ,e1,if_neg (by rw [AG (by decide)];exact Bool.false_ne_true)]
    rw [J4,e1,if_neg (by rw [AG (by decide)];exact Bool.false_ne_true)] at ff
    simp only [go_sem,h1,h2,nn,qJ,wY,yG,wZ,IF]
    refine af.by (kK r3.pp) ?_
    rintro _ H4 - p4
    have r4:=r3.aY p4
    simp only [go_sem]
    refine af.by (eJ r4.pp) ?_
    rintro _ _ - ⟨rfl,rfl⟩
    simp only [go_sem,AG (show (3:Int)≠0 by decide)]
    refine af.by (iI r4.nq ff) ?_
    rintro _ ku - ⟨rfl,jL⟩
    obtain ⟨jO,jQ,iU⟩:=r4.wi jL
    obtain ⟨CS,CU,CV,j8⟩:=iU.nd
    have BE:=iU.gh j8 {kind:=11,n:=0,a:=bi,b:= -1} rfl rfl rfl
    obtain ⟨aA,kA,aP,kP,aB,kB,xL,eV⟩:=BE.done (Nat.le_refl _) (Nat.lt_of_lt_of_le hk iU.le)
    rw [az,if_pos rfl] at xL
    cases xL
    simp only [go_sem,j8,cO]
    refine af.by eV ?_
    rintro _ vE - Fy
    simp only [go_sem]
    exact Fy
   ·have e1:zw L sa=sa:=by rw [zw,if_neg (fun e=>e h1),if_neg h2]
    rw [NJ,e1]
    rw [J4,e1] at ff
    simp only [go_sem,h1,h2,nn,qJ,wY,yG,wZ,IF]
    refine af.by (eJ r3.pp) ?_
    rintro _ _ - ⟨rfl,rfl⟩
    by_cases h3:c9 sa=true
    ·rw [if_pos h3]
     rw [if_pos h3] at ff
     obtain ⟨d1,d2,d3,d4,bL,oL,cL,a,j,c,hq,hr,cU,pa⟩:=r3.pp.iE hL (by rw [h1];decide)
     have Di:=r3.aY pa
     have lZ:=hq
     have ib:=hr
     rw [aU,if_neg wZ] at lZ
     rw [aU,if_neg wY] at ib
     obtain ⟨OY,Fm,IA,tW⟩:=Di.nd
     have Rs:=tW
     rw [az,if_neg qJ,aU,if_neg nn] at Rs
     rw [cK] at Rs
     cases Rs
     have r5:=Di.gh tW {kind:=11,n:=(tk L sa).n,a:= -1,b:= -1} rfl rfl rfl
     simp only [go_sem,h3,nn,qJ,wY,yG,wZ,hz,cO,IF,lZ,ib,cU,cK]
     refine af.by (iI r5.nq ff) ?_
     rintro _ ku - ⟨rfl,jL⟩
     obtain ⟨jO,jQ,iU⟩:=r5.wi jL
     obtain ⟨CS,CU,CV,j8⟩:=iU.nd
     have BE:=iU.gh j8 {kind:=11,n:=(tk L sa).n,a:=bi,b:= -1} rfl rfl rfl
     obtain ⟨aA,kA,aP,kP,aB,kB,xL,eV⟩:=BE.done (Nat.le_refl _) (Nat.lt_of_lt_of_le hk iU.le)
     rw [az,if_pos rfl] at xL
     cases xL
     simp only [go_sem,j8,cO]
     refine af.by eV ?_
     rintro _ vE - Fy
     simp only [go_sem]
     exact Fy
    ·rw [if_neg h3]
     rw [if_neg h3] at ff
     simp only [go_sem,h3]
     refine af.by (iI r3.nq ff) ?_
     rintro _ ku - ⟨rfl,jL⟩
     obtain ⟨jO,jQ,iU⟩:=r3.wi jL
     obtain ⟨CS,CU,CV,j8⟩:=iU.nd
     have BE:=iU.gh j8 {kind:=11,n:=0,a:=bi,b:= -1} rfl rfl rfl
     obtain ⟨aA,kA,aP,kP,aB,kB,xL,eV⟩:=BE.done (Nat.le_refl _) (Nat.lt_of_lt_of_le hk iU.le)
     rw [az,if_pos rfl] at xL
     cases xL
     simp only [go_sem,j8,cO]
     refine af.by eV ?_
     rintro _ vE - Fy
     simp only [go_sem]
     exact Fy
  ·have e1:zw L sa=eQ 2 sa:=by rw [zw,if_pos h1]
   rw [NJ,e1,if_neg (by rw [AG (by decide)];exact Bool.false_ne_true)]
   rw [J4,e1,if_neg (by rw [AG (by decide)];exact Bool.false_ne_true)] at ff
   simp only [go_sem,h1,nn,qJ,wY,yG,wZ,IF]
   refine af.by (kK r3.pp) ?_
   rintro _ H4 - p4
   have r4:=r3.aY p4
   simp only [go_sem]
   refine af.by (eJ r4.pp) ?_
   rintro _ _ - ⟨rfl,rfl⟩
   simp only [go_sem,AG (show (2:Int)≠0 by decide)]
   refine af.by (iI r4.nq ff) ?_
   rintro _ ku - ⟨rfl,jL⟩
   obtain ⟨jO,jQ,iU⟩:=r4.wi jL
   obtain ⟨CS,CU,CV,j8⟩:=iU.nd
   have BE:=iU.gh j8 {kind:=11,n:=0,a:=bi,b:= -1} rfl rfl rfl
   obtain ⟨aA,kA,aP,kP,aB,kB,xL,eV⟩:=BE.done (Nat.le_refl _) (Nat.lt_of_lt_of_le hk iU.le)
   rw [az,if_pos rfl] at xL
   cases xL
   simp only [go_sem,j8,cO]
   refine af.by eV ?_
   rintro _ vE - Fy
   simp only [go_sem]
   exact Fy
end
section
variable {zb:Bool} {L:List bh} {F:List Nat} {c1 c2 c3:Value} {H H1 H2:ad} {q rb nb:Nat} {st cA bu:aG} {ns bk bK:List aH} {m m1 m2 g g1 g2 gn fY rF:List Nat} {n n1 n2:aH}
def dY (H H1:ad) (m1 g1:List Nat) (c:Nat):Prop:=H.next<=c/\c < H1.next/\c∉m1/\c∉g1
theorem dY.next {c:Nat} (h:dY H H1 m1 g1 c) (hn:H1.next<=H2.next) (hm:∀c∈m2,c∈m1∨H1.next<=c) (hg:∀c∈g2,c∈g1∨H1.next<=c):dY H H2 m2 g2 c:=
 ⟨h.1,Nat.lt_of_lt_of_le h.2.1 hn,fun e=>(hm c e).elim h.2.2.1 fun e=>by have:=h.2.1;omega,fun e=>(hg c e).elim h.2.2.2 fun e=>by have:=h.2.1;omega⟩
theorem dY.mono {c:Nat} (h:dY H H1 m1 g1 c) (hn:H1.next<=H2.next):dY H H2 m1 g1 c:=⟨h.1,Nat.lt_of_lt_of_le h.2.1 hn,h.2.2⟩
theorem NR.other (h0:NQ L F c1 c2 c3 H q rb st ns m g) (h:NR L F c1 c2 c3 H q rb ns m g H1 cA bk m1 g1) {M:List Nat} (bg:Fr M H1 H2) (hM:∀c∈M,dY H H1 m1 g1 c) (mG:∀c,c < H1.next∨H2.next<=c->H2.fz c=H1.fz c):NR L F c1 c2 c3 H q rb ns m g H2 cA bk m1 g1:=by
 have mq:q∉M:=fun e=>(h0.pp.fresh (hM q e).1).1 rfl
 have mr:rb∉M:=fun e=>(h0.pp.fresh (hM rb e).1).2.1 rfl
 have mF:∀b∈F,b∉M:=fun b hb e=>(h0.pp.fresh (hM b e).1).2.2 hb
 exact ⟨h.fr.trans bg fun c hc=>.inr (hM c hc).1,{h.nq.toNQ0.fr bg (h.nq.pp.fr bg mq mr mF) mq (fun c hc e=>(hM c e).2.2.1 hc) (fun c hc e=>(hM c e).2.2.2 hc) with
  fz:=by rw [mG _ (.inl h.nq.pp.rl)];exact h.nq.fz,fq:=by rw [mG _ (.inl h.nq.pp.ql)];exact h.nq.fq,fm:=fun c hc=>by rw [mG _ (.inl (h.nq.hm c hc).1)];exact h.nq.fm c hc,fn:=fun b hb=>by rw [mG _ (.inr hb)];exact h.nq.fn b (Nat.le_trans bg.nx hb)},h.le,h.sm,h.sg⟩
def G2 (L:List bh) (s:aG):aG × eZ:=
 if cQ L [102,114,101,101] s=true then (aC s,⟨-1,0,0,[],[],[],[]⟩)
 else ((cj L (dA L [97,115] (zt L (cj L s).2).2)).2,⟨0,0,0,(cj L s).1,(cj L (dA L [97,115] (zt L (cj L s).2).2)).1,[],(zt L (cj L s).2).1⟩)
def Gv (L:List bh) (ba:pH):Nat->aG->List aH->List eZ->Option (aG × List aH × List eZ)
 | 0,_,_,_=>none
 | k+1,s,ns,l=>
  if c9 s=true/\(cQ L [102,114,101,101] s=true∨tx L s=true) then
   (if 12 < l.length then some (eQ 3 s,ns,l)
   else (ba 0 ((G2 L s).1,ns)).bind fun x=>Gv L ba k x.2.1 x.2.2 (l++[{(G2 L s).2 with body:=x.1}]))
  else some (s,ns,l)
def QY (L:List bh) (F:List Nat) (c1 c2 c3:Value) (H:ad) (q rb:Nat) (ns:List aH) (m g:List Nat) (bO:aG) (ik:List aH) (l:List eZ) (w:Value) (H':ad):Prop:=
 Fr (rb::q::m) H H'/\(∀c,H'.fz c=H.fz c)/\ns.length<=ik.length/\∃m' g' gl,NQ0 L F c1 c2 c3 H' q rb bO ik m' g'/\(∀c∈m',c∈m∨H.next<=c)/\(∀c∈g',c∈g∨H.next<=c)/\Sl dB H' w l gl/\gZ H H' gl/\∀c∈gl,c∉m'
abbrev cC (b:eZ) (vS vN:Value):List Value:=[iV b.tag,iV b.Ac,iV b.body,ag b.name,ag b.kJ,vS,vN]
theorem QI {HN ku:ad} {stN Kq:aG} {Kr:List aH} {mB gB gN:List Nat} {l:List eZ} {v vN:Value} {bb:Nat} {b:eZ} (h:NQ L F c1 c2 c3 H q rb st ns m g) (rN:NR L F c1 c2 c3 H q rb ns m g HN stN bK m2 g2) (cw:Gr dB 52 HN v l mB gB) (gg:∀c∈mB++gB,dY H HN m2 g2 c/\c≠bb) (Fz:dY H HN m2 g2 bb)
  (LA:HN.get bb=some ⟨cC b (.slice none 0 0) vN,52,false,false⟩) (eF:b.aX=[]) (BF:Sl .str HN vN b.names gN) (lK:∀c∈gN,dY H HN m2 g2 c/\c≠bb) (jL:xG L F c1 c2 c3 HN q rb bK m2 g2 Kq Kr ku):
  ∃jO jQ,ku.get bb=some ⟨cC b (.slice none 0 0) vN,52,false,false⟩/\(¬bb=ku.next)/\(∀c∈jO,c∈m2∨HN.next<=c)/\(∀c∈jQ,c∈g2∨HN.next<=c)/\∀bi,NR L F c1 c2 c3 H q rb ns m g ((ku.ah bb ⟨cC {b with body:=bi} (.slice none 0 0) vN,52,false,false⟩).push ⟨cC {b with body:=bi} (.slice none 0 0) vN,52,false,false⟩) Kq Kr jO jQ/\
   Gr dB 52 ((ku.ah bb ⟨cC {b with body:=bi} (.slice none 0 0) vN,52,false,false⟩).push ⟨cC {b with body:=bi} (.slice none 0 0) vN,52,false,false⟩) v l mB gB/\
   (∀c∈mB++gB,dY H ((ku.ah bb ⟨cC {b with body:=bi} (.slice none 0 0) vN,52,false,false⟩).push ⟨cC {b with body:=bi} (.slice none 0 0) vN,52,false,false⟩) jO jQ c)/\
   (∀c∈gN,dY H ((ku.ah bb ⟨cC {b with body:=bi} (.slice none 0 0) vN,52,false,false⟩).push ⟨cC {b with body:=bi} (.slice none 0 0) vN,52,false,false⟩) jO jQ c)/\
   dB.E ((ku.ah bb ⟨cC {b with body:=bi} (.slice none 0 0) vN,52,false,false⟩).push ⟨cC {b with body:=bi} (.slice none 0 0) vN,52,false,false⟩) (cC {b with body:=bi} (.slice none 0 0) vN) {b with body:=bi} gN:=by
 obtain ⟨jO,jQ,iU,IG,t20⟩:=rN.call jL
 have n20:=jL.1.nx
 have k20:∀{c:Nat},dY H HN m2 g2 c->ku.get c=HN.get c:=fun hc=>jL.1.get _ hc.2.1 (by
  obtain ⟨e1,e2,e3⟩:=h.pp.fresh hc.1
  simp only [List.mem_cons,not_or]
  exact ⟨e2,e1,hc.2.2.1⟩)
 refine ⟨jO,jQ,(k20 Fz).trans LA,fun e=>by have:=Fz.2.1;omega,IG,t20,fun bi=>?_⟩
 have BE:=iU.other h (M:=[bb]) ((Fr.refl _ _).ah (b:=bb) (.inl (by simp)) ⟨cC {b with body:=bi} (.slice none 0 0) vN,52,false,false⟩) (fun c hc=>by rw [List.mem_singleton] at hc;subst hc;exact Fz.next n20 IG t20) (fun _ _=>rfl)
 have sT:=BE.push ⟨cC {b with body:=bi} (.slice none 0 0) vN,52,false,false⟩
 have n22:HN.next<=((ku.ah bb ⟨cC {b with body:=bi} (.slice none 0 0) vN,52,false,false⟩).push ⟨cC {b with body:=bi} (.slice none 0 0) vN,52,false,false⟩).next:=Nat.le_trans n20 (Nat.le_succ _)
 have Um:∀{c:Nat},dY H HN m2 g2 c/\c≠bb->((ku.ah bb ⟨cC {b with body:=bi} (.slice none 0 0) vN,52,false,false⟩).push ⟨cC {b with body:=bi} (.slice none 0 0) vN,52,false,false⟩).get c=HN.get c:=fun {c} hc=>by
  rw [bS (by show c < ku.next;have:=hc.1.2.1;omega),az,if_neg hc.2];exact k20 hc.1
 refine ⟨sT,cw.ae (fun c hc=>Um (gg c (by simp [hc]))) (fun c hc=>Um (gg c (by simp [hc]))),fun c hc=>(gg c hc).1.next n22 IG t20,fun c hc=>(lK c hc).1.next n22 IG t20,.slice none 0 0,vN,[],gN,rfl,rfl,?_,?_⟩
 ·show Sl .int _ _ b.aX []
  rw [eF];exact .inl ⟨rfl,rfl,rfl⟩
 ·exact BF.ae fun c hc=>Um (lK c hc)
theorem Qs {vE H7:ad} {Kq:aG} {Kr:List aH} {jO jQ mB gB gN:List Nat} (h:NQ L F c1 c2 c3 H q rb st ns m g) (sT:NR L F c1 c2 c3 H q rb ns m g vE Kq Kr jO jQ) (su:∀c∈mB++gB,dY H vE jO jQ c) (x6:∀c∈gN,dY H vE jO jQ c) (dr:Fr mB vE H7) (dX:H7.next=vE.next+1) (jH:∀c,H7.fz c=(c==vE.next||vE.fz c)):
  NR L F c1 c2 c3 H q rb ns m g H7 Kq Kr jO jQ/\∀c∈[vE.next]++(gB++gN),dY H H7 jO jQ c:=by
 refine ⟨sT.other h dr (fun c hc=>su c (by simp [hc])) (fun c hc=>by
  rw [jH,show (c==vE.next)=false from by rw [beq_eq_false_iff_ne];omega,Bool.false_or]),fun c hc=>?_⟩
 rcases List.mem_append.1 hc with e | e
 ·rw [List.mem_singleton] at e
  have:=sT.fr.nx
  subst e
  exact ⟨by omega,by omega,fun e=>by have:=(sT.nq.hm _ e).1;omega,fun e=>by have:=(sT.nq.hg _ e).1;omega⟩
 ·rcases List.mem_append.1 e with e | e
  ·exact (su c (by simp [e])).mono (by omega)
  ·exact (x6 c e).mono (by omega)
theorem WH {h:KH}:fH Tryz.prog 52 [] h=.ok (.agg #[iV 0,iV 0,iV 0,ag [],ag [],.slice none 0 0,.slice none 0 0]) h:=by kernel_rfl
theorem aa8 (hL:LG L) {ba:pH} (iI:A5 L F c1 c2 c3 q rb ba) (h:NQ L F c1 c2 c3 H q rb st ns m g) {fuel:Nat} {R:aG × List aH × List eZ} (he:Gv L ba fuel st ns []=some R):
  aj Tryz.prog 171 #[pV q] H (fun w H'=>QY L F c1 c2 c3 H q rb ns m g R.1 R.2.1 R.2.2 w H'):=by
 refine aj.told ?_
 refine afF (Nat.le_refl _) fun hf=>?_
 simp only [Tryz.f171,Option.getD_some]
 have r0:=NR.start h
 have hz:=h.fz
 have jt:=hL.len
 simp only [go_sem]
 refine lp 4503599627370488 (fun n V H2=>∃bu bK m2 g2 l v mB gB,V 3=v/\Gr dB 52 H2 v l mB gB/\NR L F c1 c2 c3 H q rb ns m g H2 bu bK m2 g2/\(∀c∈mB++gB,dY H H2 m2 g2 c)/\l.length<=13/\Gv L ba n bu bK l=some R) (n:=fuel)
  ⟨st,ns,m,g,[],.slice none 0 0,[],[],by simp only [go_sem] <;> rfl,Gr.nil _ _ _,r0,by simp,by simp,he⟩ ?_ (by rfl)
 rintro n V H2 ⟨bu,bK,m2,g2,l,v,mB,gB,e3,cw,r2,gg,ajP,cX⟩
 cases n with
 | zero=>cases cX
 | succ n=>
  rw [Gv] at cX
  obtain ⟨a,hv⟩:=cw.val
  have CD:∀{H3:ad} {c:Nat},Fr [rb] H2 H3->dY H H2 m2 g2 c->H3.get c=H2.get c:=fun f hc=>f.get _ hc.2.1 (by have:=(h.pp.fresh hc.1).2.1;simpa using this)
  have fin:∀{H7:ad} {Fu:aG} {iW:List aH} {m7 g7 mB7 T0:List Nat} {l7:List eZ} {v7:Value},NR L F c1 c2 c3 H q rb ns m g H7 Fu iW m7 g7->Gr dB 52 H7 v7 l7 mB7 T0->(∀c∈mB7++T0,dY H H7 m7 g7 c)->QY L F c1 c2 c3 H q rb ns m g Fu iW l7 v7 (H7.ai H.fz):=fun r hg hm=>
   ⟨r.fr.ai _,fun _=>rfl,r.le,_,_,_,r.nq.toNQ0.ai,r.sm,r.sg,hg.sl.ae fun _ _=>rfl,fun c hc=>⟨(hm c hc).1,(hm c hc).2.1⟩,fun c hc=>(hm c hc).2.2.1⟩
  simp only [go_sem,e3,hv]
  refine af.by (eJ r2.nq.bJ) ?_
  rintro _ _ - ⟨rfl,rfl⟩
  by_cases hb:c9 bu=true
  ·simp only [go_sem,hb]
   refine af.by (fJ r2.nq.bJ) ?_
   rintro _ H3 - ⟨rfl,p3⟩
   have r3:=r2.aY p3
   have kr:=p3.1.nx
   by_cases bg:cQ L [102,114,101,101] bu=true
   ·rw [if_pos ⟨hb,.inl bg⟩] at cX
    simp only [go_sem,bg,e3,hv]
    by_cases pE:12 < l.length
    ·have x7:(12:Int) < ((l.length:Nat):Int):=by omega
     rw [if_pos pE] at cX
     cases cX
     simp only [go_sem,x7,bg,e3,hv]
     refine af.by (kK r3.nq.bJ) ?_
     rintro _ H4 - p4
     have r4:=r3.aY p4
     simp only [go_sem,e3,hv]
     have f4:=p3.1.then p4.1
     rw [<-hv]
     exact fin r4 (cw.ae (fun c hc=>CD f4 (gg c (by simp [hc]))) (fun c hc=>CD f4 (gg c (by simp [hc])))) fun c hc=>(gg c hc).mono f4.nx
    have x7:¬(12:Int) < ((l.length:Nat):Int):=by omega
    rw [if_neg pE] at cX
    cases ff:ba 0 ((G2 L bu).1,bK) with
    | none=>rw [ff] at cX;cases cX
    | some B=>
     obtain ⟨bi,bs,bn⟩:=B
     rw [ff] at cX
     simp only [Option.bind_some] at cX
     rw [G2,if_pos bg] at ff cX
     have vG:H.fz H3.next=false:=hf.fresh (Nat.le_trans r2.fr.nx kr)
     simp only [go_sem,x7,WH,vG]
     have r4:=r3.push ⟨[iV 0,iV 0,iV 0,ag [],ag [],.slice none 0 0,.slice none 0 0],52,false,false⟩
     refine af.by (fJ r4.nq.bJ) ?_
     rintro _ H5 - ⟨rfl,p5⟩
     have r5:=r4.aY p5
     obtain ⟨d1,d2,d3,d4,bL,oL,cL,a',k,c0,hq,hr,cU,pa⟩:=r5.nq.bJ.iE hL (jd bg)
     have ra:=r5.aY pa
     have w4:H3.next+1<=H5.next:=p5.1.nx
     have Un:H5.get H3.next=some ⟨[iV 0,iV 0,iV 0,ag [],ag [],.slice none 0 0,.slice none 0 0],52,false,false⟩:=(p5.1.get _ (Nat.lt_succ_self _) (by have:=r3.nq.pp.rl;simp;omega)).trans (by rw [aU,if_pos rfl])
     have Dj:¬H3.next=rb:=by have:=r3.nq.pp.rl;omega
     have gq:¬rb=H3.next:=fun e=>Dj e.symm
     have Zu:dY H H5 m2 g2 H3.next:=⟨Nat.le_trans r2.fr.nx kr,by omega,fun e=>by have:=(r3.nq.hm _ e).1;omega,fun e=>by have:=(r3.nq.hg _ e).1;omega⟩
     have rN:=ra.other h (M:=[H3.next]) ((Fr.refl _ _).ah (b:=H3.next) (.inl (by simp)) ⟨cC ⟨-1,0,0,[],[],[],[]⟩ (.slice none 0 0) (.slice none 0 0),52,false,false⟩) (fun c hc=>by rw [List.mem_singleton] at hc;subst hc;exact Zu) (fun _ _=>rfl)
     have aic:∀{c:Nat},dY H H2 m2 g2 c->H5.get c=H2.get c:=fun {c} hc=>by
      have Uo:c∉[rb]:=by have:=(h.pp.fresh hc.1).2.1;simpa using this
      rw [p5.1.get c (by show c < H3.next+1;have:=hc.2.1;omega) Uo,bS (by have:=hc.2.1;omega)]
      exact CD p3.1 hc
     have Yy:∀{c:Nat} {B C:ct},dY H H2 m2 g2 c->((H5.ah rb B).ah H3.next C).get c=H2.get c:=fun {c B C} hc=>by
      rw [az,if_neg (by have:=hc.2.1;omega),az,if_neg ((h.pp.fresh hc.1).2.1)];exact aic hc
     have R9:=cw.ae (fun c hc=>Yy (B:=⟨[.slice (some ⟨bL,oL,none⟩) L.length cL,iV ((bu.at_+1:Nat):Int),.slice none 0 0,.bool true,iV bu.depth,iV bu.bad,.slice a' k c0],125,false,false⟩) (C:=⟨cC ⟨-1,0,0,[],[],[],[]⟩ (.slice none 0 0) (.slice none 0 0),52,false,false⟩) (gg c (by simp [hc]))) (fun c hc=>Yy (gg c (by simp [hc])))
     have Up:∀c∈mB++gB,dY H ((H5.ah rb ⟨[.slice (some ⟨bL,oL,none⟩) L.length cL,iV ((bu.at_+1:Nat):Int),.slice none 0 0,.bool true,iV bu.depth,iV bu.bad,.slice a' k c0],125,false,false⟩).ah H3.next ⟨cC ⟨-1,0,0,[],[],[],[]⟩ (.slice none 0 0) (.slice none 0 0),52,false,false⟩) m2 g2 c/\c≠H3.next:=fun c hc=>⟨(gg c hc).mono (by show H2.next<=H5.next;omega),by have:=(gg c hc).2.1;omega⟩
     have Fz:dY H ((H5.ah rb ⟨[.slice (some ⟨bL,oL,none⟩) L.length cL,iV ((bu.at_+1:Nat):Int),.slice none 0 0,.bool true,iV bu.depth,iV bu.bad,.slice a' k c0],125,false,false⟩).ah H3.next ⟨cC ⟨-1,0,0,[],[],[],[]⟩ (.slice none 0 0) (.slice none 0 0),52,false,false⟩) m2 g2 H3.next:=Zu
     have LA:((H5.ah rb ⟨[.slice (some ⟨bL,oL,none⟩) L.length cL,iV ((bu.at_+1:Nat):Int),.slice none 0 0,.bool true,iV bu.depth,iV bu.bad,.slice a' k c0],125,false,false⟩).ah H3.next ⟨cC ⟨-1,0,0,[],[],[],[]⟩ (.slice none 0 0) (.slice none 0 0),52,false,false⟩).get H3.next=some ⟨cC ⟨-1,0,0,[],[],[],[]⟩ (.slice none 0 0) (.slice none 0 0),52,false,false⟩:=by rw [az,if_pos rfl]
     have BF:Sl .str ((H5.ah rb ⟨[.slice (some ⟨bL,oL,none⟩) L.length cL,iV ((bu.at_+1:Nat):Int),.slice none 0 0,.bool true,iV bu.depth,iV bu.bad,.slice a' k c0],125,false,false⟩).ah H3.next ⟨cC ⟨-1,0,0,[],[],[],[]⟩ (.slice none 0 0) (.slice none 0 0),52,false,false⟩) (.slice none 0 0) (⟨-1,0,0,[],[],[],[]⟩:eZ).names []:=.inl ⟨rfl,rfl,rfl⟩
     have lK:∀c∈([]:List Nat),dY H ((H5.ah rb ⟨[.slice (some ⟨bL,oL,none⟩) L.length cL,iV ((bu.at_+1:Nat):Int),.slice none 0 0,.bool true,iV bu.depth,iV bu.bad,.slice a' k c0],125,false,false⟩).ah H3.next ⟨cC ⟨-1,0,0,[],[],[],[]⟩ (.slice none 0 0) (.slice none 0 0),52,false,false⟩) m2 g2 c/\c≠H3.next:=by simp
     have IH:∀c∈([]:List Nat),c∉mB:=by simp
     simp only [go_sem,bg,hq,hr,hz,cU,Un,vG,Dj,gq]
     refine af.by (iI rN.nq ff) ?_
     rintro _ ku - ⟨rfl,jL⟩
     obtain ⟨jO,jQ,J5,Ks,_,_,J6⟩:=QI h rN R9 Up Fz LA rfl BF lK jL
     obtain ⟨sT,Eg,su,x6,Kt⟩:=J6 bi
     obtain ⟨aN,kN,yN⟩:=BF.val
     try subst yN
     simp only [go_sem,J5,vG,Ks,e3,hv,eA rX (by decide) (by decide)]
     rw [hv] at Eg
     refine jT (r:=dB) rX Eg (fun c hc=>(su c (by simp [hc])).2.1) (fun c hc=>(su c (by simp [hc])).2.1) (fun c hc=>⟨(x6 c hc).2.1,IH c hc⟩) (fun c hc=>hf.fresh (gg c (by simp [hc])).1) (by rw [aU];exact if_pos rfl) Kt rfl (by omega) ?_
     intro v7 H7 bG dX je dr jH
     obtain ⟨r7,Dk⟩:=Qs h sT su x6 dr dX jH
     simp only [go_sem]
     exact ⟨n,by omega,bs,bn,jO,jQ,_,v7,_,_,rfl,bG,r7,Dk,by rw [List.length_append,List.length_singleton];omega,cX⟩
   ·have ajQ:=cX
    simp only [go_sem,bg]
    refine af.by (JF hL r3.nq.bJ) ?_
    rintro _ H4 - ⟨rfl,p4⟩
    have r4:=r3.aY p4
    have nB:=p4.1.nx
    clear ajQ
    by_cases cJ:tx L bu=true
    ·rw [if_pos ⟨hb,.inr cJ⟩] at cX
     simp only [go_sem,cJ,e3,hv]
     by_cases pE:12 < l.length
     ·have x7:(12:Int) < ((l.length:Nat):Int):=by omega
      rw [if_pos pE] at cX
      cases cX
      simp only [go_sem,x7,bg,cJ,e3,hv]
      refine af.by (kK r4.nq.bJ) ?_
      rintro _ H5 - p45
      have r45:=r4.aY p45
      simp only [go_sem,e3,hv]
      have f5:=(p3.1.then p4.1).then p45.1
      rw [<-hv]
      exact fin r45 (cw.ae (fun c hc=>CD f5 (gg c (by simp [hc]))) (fun c hc=>CD f5 (gg c (by simp [hc])))) fun c hc=>(gg c hc).mono f5.nx
     have x7:¬(12:Int) < ((l.length:Nat):Int):=by omega
     rw [if_neg pE] at cX
     cases ff:ba 0 ((G2 L bu).1,bK) with
     | none=>rw [ff] at cX;cases cX
     | some B=>
      obtain ⟨bi,bs,bn⟩:=B
      rw [ff] at cX
      simp only [Option.bind_some] at cX
      rw [G2,if_neg bg] at ff cX
      have vG:H.fz H4.next=false:=hf.fresh (Nat.le_trans r2.fr.nx (Nat.le_trans kr nB))
      simp only [go_sem,x7,WH,vG]
      have r5:=r4.push ⟨cC ⟨0,0,0,[],[],[],[]⟩ (.slice none 0 0) (.slice none 0 0),52,false,false⟩
      have g5:(H4.push ⟨cC ⟨0,0,0,[],[],[],[]⟩ (.slice none 0 0) (.slice none 0 0),52,false,false⟩).get H4.next=some ⟨cC ⟨0,0,0,[],[],[],[]⟩ (.slice none 0 0) (.slice none 0 0),52,false,false⟩:=by rw [aU,if_pos rfl]
      have Dj:H4.next∉[rb]:=by have:=r4.nq.pp.rl;simp;omega
      refine af.by (fJ r5.nq.bJ) ?_
      rintro _ H6 - ⟨rfl,p6⟩
      have r6:=r5.aY p6
      have O2:H4.next+1<=H6.next:=p6.1.nx
      have g6:=(p6.1.get _ (Nat.lt_succ_self _) Dj).trans g5
      simp only [go_sem,bg]
      refine af.by (jc hL r6.nq.bJ) ?_
      rintro _ H7 - ⟨rfl,p7⟩
      have r7:=r6.aY p7
      have O3:=p7.1.nx
      have g7:=(p7.1.get _ (by omega) Dj).trans g6
      have hM7:dY H H7 m2 g2 H4.next:=⟨Nat.le_trans r2.fr.nx (Nat.le_trans kr nB),by omega,fun e=>by have:=(r4.nq.hm _ e).1;omega,fun e=>by have:=(r4.nq.hg _ e).1;omega⟩
      generalize cj L bu=y at p7 r7 ff cX
      have r8:=r7.other h (M:=[H4.next]) ((Fr.refl _ _).ah (b:=H4.next) (.inl (by simp)) ⟨cC ⟨0,0,0,y.1,[],[],[]⟩ (.slice none 0 0) (.slice none 0 0),52,false,false⟩) (fun c hc=>by rw [List.mem_singleton] at hc;subst hc;exact hM7) (fun _ _=>rfl)
      have g8:(H7.ah H4.next ⟨cC ⟨0,0,0,y.1,[],[],[]⟩ (.slice none 0 0) (.slice none 0 0),52,false,false⟩).get H4.next=some ⟨cC ⟨0,0,0,y.1,[],[],[]⟩ (.slice none 0 0) (.slice none 0 0),52,false,false⟩:=by rw [az,if_pos rfl]
      simp only [go_sem,g7,vG]
      refine af.by (XK hL r8.nq.bJ) ?_
      rintro vN H9 - ⟨⟨gN,EF,Uq⟩,p9⟩
      have r9:=r8.aY p9
      have n79:H7.next<=H9.next:=p9.1.nx
      have g9:=(p9.1.get _ (by show H4.next < H7.next;omega) Dj).trans g8
      obtain ⟨aN,kN,rfl⟩:=EF.val
      generalize zt L y.2=z at p9 r9 EF ff cX
      have hM9:dY H H9 m2 g2 H4.next:=hM7.mono n79
      have cP:=r9.other h (M:=[H4.next]) ((Fr.refl _ _).ah (b:=H4.next) (.inl (by simp)) ⟨cC ⟨0,0,0,y.1,[],[],z.1⟩ (.slice none 0 0) (.slice aN z.1.length kN),52,false,false⟩) (fun c hc=>by rw [List.mem_singleton] at hc;subst hc;exact hM9) (fun _ _=>rfl)
      have pI:(H9.ah H4.next ⟨cC ⟨0,0,0,y.1,[],[],z.1⟩ (.slice none 0 0) (.slice aN z.1.length kN),52,false,false⟩).get H4.next=some ⟨cC ⟨0,0,0,y.1,[],[],z.1⟩ (.slice none 0 0) (.slice aN z.1.length kN),52,false,false⟩:=by rw [az,if_pos rfl]
      simp only [go_sem,g9,vG]
      refine af.by (iB hL cP.nq.bJ) ?_
      rintro _ dS - qI
      have df:=cP.aY qI
      have au1:H9.next<=dS.next:=qI.1.nx
      have Dl:=(qI.1.get _ (by show H4.next < H9.next;omega) Dj).trans pI
      simp only [go_sem]
      refine af.by (jc hL df.nq.bJ) ?_
      rintro _ di - ⟨rfl,dw⟩
      have dh:=df.aY dw
      have Yz:=dw.1.nx
      have ju:=(dw.1.get _ (by omega) Dj).trans Dl
      generalize cj L (dA L [97,115] z.2)=w at dw dh ff cX
      have Zv:dY H di m2 g2 H4.next:=hM9.mono (by omega)
      have rN:=dh.other h (M:=[H4.next]) ((Fr.refl _ _).ah (b:=H4.next) (.inl (by simp)) ⟨cC ⟨0,0,0,y.1,w.1,[],z.1⟩ (.slice none 0 0) (.slice aN z.1.length kN),52,false,false⟩) (fun c hc=>by rw [List.mem_singleton] at hc;subst hc;exact Zv) (fun _ _=>rfl)
      have LA:(di.ah H4.next ⟨cC ⟨0,0,0,y.1,w.1,[],z.1⟩ (.slice none 0 0) (.slice aN z.1.length kN),52,false,false⟩).get H4.next=some ⟨cC ⟨0,0,0,y.1,w.1,[],z.1⟩ (.slice none 0 0) (.slice aN z.1.length kN),52,false,false⟩:=by rw [az,if_pos rfl]
      have iF:∀{c:Nat},H.next<=c->c∉[rb]:=fun hc=>by have:=(h.pp.fresh hc).2.1;simpa using this
      have X7:∀{c:Nat} {C:ct},dY H H2 m2 g2 c->(di.ah H4.next C).get c=H2.get c:=fun {c C} hc=>by
       have c2:=hc.2.1
       have cr:=iF hc.1
       rw [az,if_neg (by omega),dw.1.get c (by omega) cr,qI.1.get c (by show c < H9.next;omega) cr,az,if_neg (by omega),p9.1.get c (by show c < H7.next;omega) cr,az,if_neg (by omega),p7.1.get c (by omega) cr,p6.1.get c (by show c < H4.next+1;omega) cr,bS (by omega),p4.1.get c (by omega) cr]
       exact CD p3.1 hc
      have R9:=cw.ae (fun c hc=>X7 (C:=⟨cC ⟨0,0,0,y.1,w.1,[],z.1⟩ (.slice none 0 0) (.slice aN z.1.length kN),52,false,false⟩) (gg c (by simp [hc]))) (fun c hc=>X7 (gg c (by simp [hc])))
      have Up:∀c∈mB++gB,dY H (di.ah H4.next ⟨cC ⟨0,0,0,y.1,w.1,[],z.1⟩ (.slice none 0 0) (.slice aN z.1.length kN),52,false,false⟩) m2 g2 c/\c≠H4.next:=fun c hc=>⟨(gg c hc).mono (by show H2.next<=di.next;omega),by have:=(gg c hc).2.1;omega⟩
      have Fz:dY H (di.ah H4.next ⟨cC ⟨0,0,0,y.1,w.1,[],z.1⟩ (.slice none 0 0) (.slice aN z.1.length kN),52,false,false⟩) m2 g2 H4.next:=Zv
      have FA:∀c∈gN,H7.next<=c/\c < H9.next:=Uq
      have BF:Sl .str (di.ah H4.next ⟨cC ⟨0,0,0,y.1,w.1,[],z.1⟩ (.slice none 0 0) (.slice aN z.1.length kN),52,false,false⟩) (.slice aN z.1.length kN) (⟨0,0,0,y.1,w.1,[],z.1⟩:eZ).names gN:=EF.ae fun c hc=>by
       have:=FA c hc
       have:=r2.fr.nx
       have cr:=iF (c:=c) (by omega)
       rw [az,if_neg (by omega),dw.1.get c (by omega) cr,qI.1.get c (by show c < H9.next;omega) cr,az,if_neg (by omega)]
      have lK:∀c∈gN,dY H (di.ah H4.next ⟨cC ⟨0,0,0,y.1,w.1,[],z.1⟩ (.slice none 0 0) (.slice aN z.1.length kN),52,false,false⟩) m2 g2 c/\c≠H4.next:=fun c hc=>by
       have:=FA c hc
       have:=r2.fr.nx
       exact ⟨⟨by omega,by show c < di.next;omega,fun e=>by have:=(r4.nq.hm _ e).1;omega,fun e=>by have:=(r4.nq.hg _ e).1;omega⟩,by omega⟩
      have IH:∀c∈gN,c∉mB:=fun c hc e=>by have:=FA c hc;have:=(gg c (by simp [e])).2.1;omega
      simp only [go_sem,ju,vG]
      refine af.by (iI rN.nq ff) ?_
      rintro _ ku - ⟨rfl,jL⟩
      obtain ⟨jO,jQ,J5,Ks,_,_,J6⟩:=QI h rN R9 Up Fz LA rfl BF lK jL
      obtain ⟨sT,Eg,su,x6,Kt⟩:=J6 bi
      obtain ⟨aN,kN,yN⟩:=BF.val
      try subst yN
      simp only [go_sem,J5,vG,Ks,e3,hv,eA rX (by decide) (by decide)]
      rw [hv] at Eg
      refine jT (r:=dB) rX Eg (fun c hc=>(su c (by simp [hc])).2.1) (fun c hc=>(su c (by simp [hc])).2.1) (fun c hc=>⟨(x6 c hc).2.1,IH c hc⟩) (fun c hc=>hf.fresh (gg c (by simp [hc])).1) (by rw [aU];exact if_pos rfl) Kt rfl (by omega) ?_
      intro v7 H7 bG dX je dr jH
      obtain ⟨r7,Dk⟩:=Qs h sT su x6 dr dX jH
      simp only [go_sem]
      exact ⟨n,by omega,bs,bn,jO,jQ,_,v7,_,_,rfl,bG,r7,Dk,by rw [List.length_append,List.length_singleton];omega,cX⟩
    ·rw [if_neg (fun e=>e.2.elim bg cJ)] at cX
     cases cX
     simp only [go_sem,cJ,e3,hv]
     have f4:=p3.1.then p4.1
     rw [<-hv]
     exact fin r4 (cw.ae (fun c hc=>CD f4 (gg c (by simp [hc]))) (fun c hc=>CD f4 (gg c (by simp [hc])))) fun c hc=>(gg c hc).mono f4.nx
  ·rw [if_neg (fun e=>hb e.1)] at cX
   cases cX
   simp only [go_sem,hb,e3,hv]
   rw [<-hv]
   exact fin r2 cw gg
end
section
variable {zb:Bool} {L:List bh} {F:List Nat} {c1 c2 c3:Value} {H H1 H2:ad} {q rb nb:Nat} {st cA bu:aG} {ns bk bK:List aH} {m m1 m2 g g1 g2 gn fY rF:List Nat} {n n1 n2:aH}
theorem QR.aid {l:List eZ} {w:Value} (h:QR zb L F c1 c2 c3 H q rb ns m g nb gn H1 cA bk m1 g1 n1 fY) {bO:aG} {ik:List aH} (hp:QY L F c1 c2 c3 H1 q rb bk m1 g1 bO ik l w H2):∃m2 g2 gl,QR zb L F c1 c2 c3 H q rb ns m g nb gn H2 bO ik m2 g2 n1 fY/\Sl dB H2 w l gl/\∀c∈gl,c < H2.next/\(H.next<=c/\c≠rb/\c≠nb/\c≠q/\c∉m2):=by
 obtain ⟨hf,hz,hle,m2,g2,gl,h0,hs,iN,eF,hn,kt⟩:=hp
 have hl:=h.lq.ln
 have rv:=hl.nl
 have dO:=h.fr.nx
 refine ⟨m2,g2,gl,⟨h.fr.trans hf fun c hc=>?_,⟨h0,hl.fr hf h0.pp (by simp;exact ⟨hl.nr,hl.nq,h.lq.nm⟩) (fun c hc=>by simp;exact ⟨(hl.hg c hc).2.1,(hl.hg c hc).2.2.2,h.lq.gm c hc⟩),fun e=>(hs _ e).elim h.lq.nm fun e=>by omega,fun e=>(iN _ e).elim h.lq.ng fun e=>by omega,fun c hc e=>(hs c e).elim (h.lq.gm c hc) fun e=>by have:=(hl.hg c hc).1;omega⟩,
  Nat.le_trans h.le hle,fun c hc=>(hs c hc).elim (h.sm c) fun e=>.inr (Nat.le_trans dO e),fun c hc=>(iN c hc).elim (h.sg c) fun e=>.inr (Nat.le_trans dO e),h.sn,by rw [hz];exact h.fz,by rw [hz];exact h.fq,by rw [hz];exact h.fb,fun c hc=>?_,fun b hb=>by rw [hz];exact h.fn b (Nat.le_trans hf.nx hb)⟩,eF,fun c hc=>?_⟩
 ·simp only [List.mem_cons] at hc ⊢
  rcases hc with e | e | e
  ·exact .inl (.inl e)
  ·exact .inl (.inr (.inl e))
  ·exact (h.sm c e).imp (fun e=>.inr (.inr (.inr e))) id
 ·rw [hz]
  rcases hs c hc with e | e
  ·exact h.fm c e
  ·exact h.fn c e
 ·obtain ⟨e1,e2,e3,e4,_⟩:=h.new (hn c hc).1
  exact ⟨(hn c hc).2,e1,e2,e3,e4,kt c hc⟩
def zG (L:List bh) (ba:pH) (fuel:Nat) (st:aG) (ns:List aH) (k:Nat):Option (aG × List aH):=
 if cQ L [100,111,110,101] st=true then some (aC st,pj ns k {kind:=12,a:= -1,b:= -1})
 else if cQ L [103,105,118,101] st=true then some ((cj L (aC st)).2,pj ns k {kind:=17,a:= -1,b:= -1,gf:=(cj L (aC st)).1})
 else if cQ L [99,97,108,108] st=true then
  (let y:=cj L (aC st);let z:=qo L y.2;some (z.2,pj ns k {kind:=13,a:= -1,b:= -1,gV:=y.1,args:=z.1}))
 else if cQ L [97,103,97,105,110] st=true then some ((qo L (aC st)).2,pj ns k {kind:=14,a:= -1,b:= -1,args:=(qo L (aC st)).1})
 else if cQ L [105,102] st=true then
  (ba 0 ((hV L (aC st)).2,ns)).bind fun x=>(ba 0 (dA L [101,108,115,101] x.2.1,x.2.2)).map fun y=>(y.2.1,pj y.2.2 k {kind:=16,a:=x.1,b:=y.1,args:=[(hV L (aC st)).1]})
 else (A3 L fuel (dA L [58] (cj L (aC st)).2)).bind fun p=>(Gv L ba fuel (uG L p.2) ns []).map fun B=>(GP L B.1,pj B.2.1 k {kind:=15,a:= -1,b:= -1,gf:=(cj L (aC st)).1,pat:=p.1,ak:=B.2.2})
theorem Wr {h:KH}:fH Tryz.prog 42 [(8,iV (-1)),(9,iV (-1))] h=.ok (.agg #[iV 0,iV 0,iV 0,iV 0,iV 0,iV 0,iV 0,iV 0,iV (-1),iV (-1),iV 0,iV 0,iV 0,ag [],ag [],ag [],ag [],.slice none 0 0,.slice none 0 0,.slice none 0 0]) h:=by kernel_rfl
theorem X8 (hL:LG L) {ba:pH} (iI:A5 L F c1 c2 c3 q rb ba) (h:NQ L F c1 c2 c3 H q rb st ns m g) {k:Nat} (hk:k < ns.length) (ij:(tk L st).kind≠4) {fuel:Nat} {R:aG × List aH} (he:zG L ba fuel st ns k=some R):
  aj Tryz.prog 164 #[pV q,iV (k:Nat)] H (fun w H'=>xG L F c1 c2 c3 H q rb ns m g R.1 R.2 H'):=by
 refine aj.told ?_
 refine afr (Nat.le_refl _) fun hf=>?_
 simp only [Tryz.f164,Option.getD_some]
 have r0:=QR.fresh (NR.start h) (nb:=H.next) rfl {a:= -1,b:= -1} rfl rfl rfl
 have hz:=h.fz
 have jt:=hL.len
 have cO:H.fz H.next=false:=hf.fresh (Nat.le_refl _)
 have nr:¬rb=H.next:=by have:=h.pp.rl;omega
 have qJ:¬H.next=rb:=fun e=>nr e.symm
 have nq:¬q=H.next:=by have:=h.pp.ql;omega
 simp only [go_sem,Wr,cO]
 refine af.by (fJ r0.pp) ?_
 rintro _ H1 - ⟨rfl,O4⟩
 have r1:=r0.aY O4
 by_cases h1:cQ L [100,111,110,101] st=true
 ·rw [zG,if_pos h1] at he
  cases he
  obtain ⟨d1,d2,d3,d4,bL,oL,cL,a,j,c,hq,hr,cU,pa⟩:=r1.pp.iE hL (jd h1)
  have ra:=r1.aY pa
  obtain ⟨vA,vP,vB,cK⟩:=ra.nd
  have x5:=cK
  rw [az,if_neg qJ] at x5
  have rE:=ra.gh cK {kind:=12,a:= -1,b:= -1} rfl rfl rfl
  obtain ⟨aA,kA,aP,kP,aB,kB,lx,eV⟩:=rE.done (Nat.le_refl _) hk
  rw [az,if_pos rfl] at lx
  cases lx
  simp only [go_sem,h1,hq,hr,hz,cU,nr,qJ,nq,x5,cO]
  refine af.by eV ?_
  rintro _ BG - oO
  simp only [go_sem]
  exact oO
 simp only [go_sem,h1]
 refine af.by (fJ r1.pp) ?_
 rintro _ H2 - ⟨rfl,FB⟩
 have r2:=r1.aY FB
 by_cases h2:cQ L [103,105,118,101] st=true
 ·rw [zG,if_neg h1,if_pos h2] at he
  cases he
  obtain ⟨d1,d2,d3,d4,bL,oL,cL,a,j,c,hq,hr,cU,pa⟩:=r2.pp.iE hL (jd h2)
  have ra:=r2.aY pa
  simp only [go_sem,h2,hq,hr,hz,cU]
  refine af.by (jc hL ra.pp) ?_
  rintro _ H3 - ⟨rfl,BH⟩
  have r3:=ra.aY BH
  obtain ⟨vA,vP,vB,cK⟩:=r3.nd
  have rE:=r3.gh cK {kind:=17,a:= -1,b:= -1,gf:=(cj L (aC st)).1} rfl rfl rfl
  obtain ⟨aA,kA,aP,kP,aB,kB,lx,eV⟩:=rE.done (Nat.le_refl _) hk
  rw [az,if_pos rfl] at lx
  cases lx
  simp only [go_sem,cK,cO]
  rw [q8]
  refine af.by eV ?_
  rintro _ BG - oO
  simp only [go_sem]
  exact oO
 simp only [go_sem,h2]
 refine af.by (fJ r2.pp) ?_
 rintro _ H3 - ⟨rfl,BH⟩
 have r3:=r2.aY BH
 by_cases h3:cQ L [99,97,108,108] st=true
 ·rw [zG,if_neg h1,if_neg h2,if_pos h3] at he
  dsimp only at he
  cases he
  obtain ⟨d1,d2,d3,d4,bL,oL,cL,a,j,c,hq,hr,cU,pa⟩:=r3.pp.iE hL (jd h3)
  have ra:=r3.aY pa
  simp only [go_sem,h3,hq,hr,hz,cU]
  refine af.by (jc hL ra.pp) ?_
  rintro _ H4 - ⟨rfl,Dm⟩
  have r4:=ra.aY Dm
  obtain ⟨vA,vP,vB,cK⟩:=r4.nd
  have r5:=r4.gh cK {kind:=13,a:= -1,b:= -1,gV:=(cj L (aC st)).1} rfl rfl rfl
  simp only [go_sem,cK,cO]
  rw [q8]
  refine af.by (GX hL r5.pp) ?_
  rintro va H6 - ⟨⟨ga,hW,jK⟩,Dn⟩
  have r6:=r5.aY Dn
  obtain ⟨aa,ca,yK⟩:=hW.val
  subst yK
  obtain ⟨Fs,qF,qG,kZ⟩:=r6.nd
  obtain ⟨g7,rE⟩:=r6.args kZ {kind:=13,a:= -1,b:= -1,gV:=(cj L (aC st)).1,args:=(qo L (cj L (aC st)).2).1} hW (fun b hb=>⟨(jK b hb).2,r5.new (jK b hb).1⟩) rfl rfl
  obtain ⟨aA,kA,aP,kP,aB,kB,lx,eV⟩:=rE.done (Nat.le_refl _) hk
  rw [az,if_pos rfl] at lx
  cases lx
  simp only [go_sem,kZ,cO]
  refine af.by eV ?_
  rintro _ BG - oO
  simp only [go_sem]
  exact oO
 simp only [go_sem,h3]
 refine af.by (fJ r3.pp) ?_
 rintro _ H4 - ⟨rfl,Dm⟩
 have r4:=r3.aY Dm
 by_cases h4:cQ L [97,103,97,105,110] st=true
 ·rw [zG,if_neg h1,if_neg h2,if_neg h3,if_pos h4] at he
  cases he
  obtain ⟨d1,d2,d3,d4,bL,oL,cL,a,j,c,hq,hr,cU,pa⟩:=r4.pp.iE hL (jd h4)
  have ra:=r4.aY pa
  obtain ⟨vA,vP,vB,cK⟩:=ra.nd
  have x5:=cK
  rw [az,if_neg qJ] at x5
  have r5:=ra.gh cK {kind:=14,a:= -1,b:= -1} rfl rfl rfl
  simp only [go_sem,h4,hq,hr,hz,cU,nr,qJ,nq,x5,cO]
  refine af.by (GX hL r5.pp) ?_
  rintro va H6 - ⟨⟨ga,hW,jK⟩,Dn⟩
  have r6:=r5.aY Dn
  obtain ⟨aa,ca,yK⟩:=hW.val
  subst yK
  obtain ⟨Fs,qF,qG,kZ⟩:=r6.nd
  obtain ⟨g7,rE⟩:=r6.args kZ {kind:=14,a:= -1,b:= -1,args:=(qo L (aC st)).1} hW (fun b hb=>⟨(jK b hb).2,r5.new (jK b hb).1⟩) rfl rfl
  obtain ⟨aA,kA,aP,kP,aB,kB,lx,eV⟩:=rE.done (Nat.le_refl _) hk
  rw [az,if_pos rfl] at lx
  cases lx
  simp only [go_sem,kZ,cO]
  refine af.by eV ?_
  rintro _ BG - oO
  simp only [go_sem]
  exact oO
 simp only [go_sem,h4]
 refine af.by (fJ r4.pp) ?_
 rintro _ H5 - ⟨rfl,O5⟩
 have r5:=r4.aY O5
 by_cases h5:cQ L [105,102] st=true
 ·rw [zG,if_neg h1,if_neg h2,if_neg h3,if_neg h4,if_pos h5] at he
  cases iD:ba 0 ((hV L (aC st)).2,ns) with
  | none=>rw [iD] at he;cases he
  | some B=>
   obtain ⟨i1,s1,n1⟩:=B
   rw [iD] at he
   simp only [Option.bind_some] at he
   cases fe:ba 0 (dA L [101,108,115,101] s1,n1) with
   | none=>rw [fe] at he;cases he
   | some B=>
    obtain ⟨i2,s2,n2⟩:=B
    rw [fe] at he
    cases he
    obtain ⟨d1,d2,d3,d4,bL,oL,cL,a,j,c,hq,hr,cU,pa⟩:=r5.pp.iE hL (jd h5)
    have ra:=r5.aY pa
    obtain ⟨vA,vP,vB,cK⟩:=ra.nd
    have x5:=cK
    rw [az,if_neg qJ] at x5
    have r6:=ra.gh cK {kind:=16,a:= -1,b:= -1} rfl rfl rfl
    simp only [go_sem,h5,hq,hr,hz,cU,nr,qJ,nq,x5,cO]
    refine af.by (CB hL r6.pp) ?_
    rintro _ H7 - ⟨rfl,p7⟩
    have r7:=r6.aY p7
    obtain ⟨vA7,vP7,vB7,x4⟩:=r7.nd
    generalize hV L (aC st)=x at p7 r7 iD
    have nn:¬H.next=H7.next:=by have:=r7.lq.ln.nl;omega
    simp only [go_sem,x4,cO,nn,eA qn (by decide) (by decide)]
    have r8:=r7.push ⟨[iV x.1.kind,iV x.1.n,ag x.1.name],44,false,false⟩
    have uQ:(H7.push ⟨[iV x.1.kind,iV x.1.n,ag x.1.name],44,false,false⟩).get H.next=some ⟨aJ {kind:=16,a:= -1,b:= -1} vA7 vP7 vB7,42,false,false⟩:=by rw [bS r7.lq.ln.nl];exact x4
    obtain ⟨g9,r9⟩:=r8.args uQ {kind:=16,a:= -1,b:= -1,args:=[x.1]} JG (fun c hc=>by rw [List.mem_singleton] at hc;subst hc;exact ⟨Nat.lt_succ_self _,r7.new (Nat.le_refl _)⟩) rfl rfl
    refine af.by (iI r9.nq iD) ?_
    rintro _ dd - ⟨rfl,jZ⟩
    obtain ⟨Ai,pI,cP⟩:=r9.wi jZ
    obtain ⟨ajR,ajS,ajT,J7⟩:=cP.nd
    have df:=cP.gh J7 {kind:=16,a:=i1,b:= -1,args:=[x.1]} rfl rfl rfl
    simp only [go_sem,J7,cO]
    refine af.by (iB hL df.pp) ?_
    rintro _ di - dw
    have dh:=df.aY dw
    simp only [go_sem]
    refine af.by (iI dh.nq fe) ?_
    rintro _ jl - ⟨rfl,oK⟩
    obtain ⟨BI,Ur,gu⟩:=dh.wi oK
    obtain ⟨au2,au3,au4,YA⟩:=gu.nd
    have rE:=gu.gh YA {kind:=16,a:=i1,b:=i2,args:=[x.1]} rfl rfl rfl
    obtain ⟨aA,kA,aP,kP,aB,kB,lx,eV⟩:=rE.done (Nat.le_refl _) (Nat.lt_of_lt_of_le hk rE.le)
    rw [az,if_pos rfl] at lx
    cases lx
    simp only [go_sem,YA,cO]
    refine af.by eV ?_
    rintro _ BG - oO
    simp only [go_sem]
    exact oO
 rw [zG,if_neg h1,if_neg h2,if_neg h3,if_neg h4,if_neg h5] at he
 cases uP:A3 L fuel (dA L [58] (cj L (aC st)).2) with
 | none=>rw [uP] at he;cases he
 | some x=>
  obtain ⟨pp,s1⟩:=x
  rw [uP] at he
  simp only [Option.bind_some] at he
  cases cX:Gv L ba fuel (uG L s1) ns [] with
  | none=>rw [cX] at he;cases he
  | some B=>
   obtain ⟨s2,n2,bl⟩:=B
   rw [cX] at he
   cases he
   obtain ⟨d1,d2,d3,d4,bL,oL,cL,a,j,c,hq,hr,cU,pa⟩:=r5.pp.iE hL ij
   have ra:=r5.aY pa
   simp only [go_sem,h5,hq,hr,hz,cU]
   refine af.by (jc hL ra.pp) ?_
   rintro _ H6 - ⟨rfl,Dn⟩
   have r6:=ra.aY Dn
   obtain ⟨vA,vP,vB,cK⟩:=r6.nd
   generalize cj L (aC st)=y at Dn r6 uP
   have r7:=r6.gh cK {kind:=15,a:= -1,b:= -1,gf:=y.1} rfl rfl rfl
   simp only [go_sem,cK,cO]
   rw [q8]
   refine af.by (iB hL r7.pp) ?_
   rintro _ H8 - p8
   have r8:=r7.aY p8
   simp only [go_sem]
   refine af.by (NH hL r8.pp uP) ?_
   rintro vp H9 - ⟨⟨gp,eu,Dp⟩,p9⟩
   have r9:=r8.aY p9
   obtain ⟨ap,kp,yI⟩:=eu.val
   subst yI
   obtain ⟨vA9,vP9,vB9,Zw⟩:=r9.nd
   obtain ⟨pI,cP⟩:=r9.pat Zw {kind:=15,a:= -1,b:= -1,gf:=y.1,pat:=pp} eu (fun b hb=>⟨(Dp b hb).2,r8.new (Dp b hb).1⟩) rfl rfl
   simp only [go_sem,Zw,cO]
   refine af.by (QV hL cP.pp) ?_
   rintro _ dS - qI
   have df:=cP.aY qI
   simp only [go_sem]
   refine af.by (aa8 hL iI df.nq cX) ?_
   rintro vb di - dw
   obtain ⟨pJ,ju,gl,dh,qx,Un⟩:=df.aid dw
   obtain ⟨ab,kb,hvb⟩:=qx.val
   subst hvb
   obtain ⟨au5,au6,au7,YB⟩:=dh.nd
   obtain ⟨Ur,gu⟩:=dh.bY YB {kind:=15,a:= -1,b:= -1,gf:=y.1,pat:=pp,ak:=bl} qx Un rfl rfl
   simp only [go_sem,YB,cO]
   refine af.by (qe hL gu.pp) ?_
   rintro _ jv - O0
   have rE:=gu.aY O0
   obtain ⟨aA,kA,aP,kP,aB,kB,lx,eV⟩:=rE.done (Nat.le_refl _) (Nat.lt_of_lt_of_le hk rE.le)
   simp only [go_sem,lx]
   refine af.by eV ?_
   rintro _ BG - oO
   simp only [go_sem]
   exact oO
end
section
variable {zb:Bool} {L:List bh} {F:List Nat} {c1 c2 c3:Value} {H H1 H2:ad} {q rb nb:Nat} {st cA bu:aG} {ns bk bK:List aH} {m m1 m2 g g1 g2 gn fY rF:List Nat} {n n1 n2:aH}
theorem HV.ae (h:HV H rb nb n) (hf:Fr [rb] H H1) (hn:nb≠rb) (hl:nb < H.next):HV H1 rb nb n:=by
 rcases h with ⟨vP,vB,h1,h2⟩ | ⟨b,a,vP,vB,h1,h2,h3,h4,h5,h6⟩
 ·exact .inl ⟨vP,vB,(hf.get nb hl (by simpa using hn)).trans h1,h2⟩
 ·exact .inr ⟨b,a,vP,vB,(hf.get nb hl (by simpa using hn)).trans h1,h2,(hf.get b h4 (by simpa using h6)).trans h3,Nat.lt_of_lt_of_le h4 hf.nx,h5,h6⟩
theorem HV.app (h:HV H rb nb n) (y:so):∃a k vP vB cs,H.get nb=some ⟨aJ n (.slice a n.args.length k) vP vB,42,false,false⟩/\
  iG Tryz.prog 40 (.slice a n.args.length k) (.slice (some ⟨H.next,0,none⟩) 1 1) (H.push ⟨[iV y.kind,iV y.n,ag y.name],44,false,false⟩)=.ok (.slice (some ⟨H.next+1,0,none⟩) (n.args.length+1) (n.args.length+1)) ((H.push ⟨[iV y.kind,iV y.n,ag y.name],44,false,false⟩).push ⟨cs,44,true,false⟩)/\
  Sl jG ((H.push ⟨[iV y.kind,iV y.n,ag y.name],44,false,false⟩).push ⟨cs,44,true,false⟩) (.slice (some ⟨H.next+1,0,none⟩) (n.args.length+1) (n.args.length+1)) (n.args++[y]) [H.next+1]:=by
 have gy:(H.push ⟨[iV y.kind,iV y.n,ag y.name],44,false,false⟩).get H.next=some ⟨[iV y.kind,iV y.n,ag y.name],44,false,false⟩:=by rw [aU,if_pos rfl]
 rcases h with ⟨vP,vB,h1,h2⟩ | ⟨b,a,vP,vB,h1,h2,h3,h4,h5,h6⟩
 ·refine ⟨none,0,vP,vB,[iV y.kind,iV y.n,ag y.name],by rw [h2];exact h1,?_,?_⟩
  ·rw [h2]
   exact GL (n:=1) qn (GM (c:=1) gy rfl) (by omega) (by decide)
  ·rw [h2]
   exact .inr (.inr ⟨H.next+1,0,1,_,[],rfl,by simp,Nat.le_refl _,rfl,by rw [aU];exact if_pos rfl,⟨_,[],[],[],rfl,rfl,⟨rfl,rfl⟩,rfl⟩⟩)
 ·have g3:(H.push ⟨[iV y.kind,iV y.n,ag y.name],44,false,false⟩).get b=some ⟨[iV a.kind,iV a.n,ag a.name],44,false,false⟩:=by rw [bS h4];exact h3
  refine ⟨some ⟨b,0,none⟩,1,vP,vB,[iV a.kind,iV a.n,ag a.name,iV y.kind,iV y.n,ag y.name],by rw [h2];exact h1,?_,?_⟩
  ·rw [h2]
   exact Jw (n:=1) (o:=0) (sl:=1) (sc:=1) qn (GM (c:=1) gy rfl) g3 (by rfl) (Nat.le_refl 1) (by omega) (by omega)
  ·rw [h2]
   exact .inr (.inr ⟨H.next+1,0,2,_,[],rfl,by simp,Nat.le_refl _,rfl,by rw [aU];exact if_pos rfl,⟨_,_,[],[],rfl,rfl,⟨rfl,rfl⟩,_,[],[],[],rfl,rfl,⟨rfl,rfl⟩,rfl⟩⟩)
abbrev LB:aH:={a:= -1,b:= -1}
def xN (L:List bh) (ba:pH) (st:aG) (ns:List aH) (k:Nat):Option (aG × List aH):=
 if cQ L [108,101,116] st=true then
  (Kp L ba (dA L [61] (cj L (aC st)).2) ns {a:= -1,b:= -1,mf:=(cj L (aC st)).1}).map fun x=>(dA L [59] x.1,pj x.2.1 k x.2.2)
 else if cQ L [115,101,116] st=true then
  (let y:=cj L (aC st);let x:=zr L y.2 {kind:=6,a:= -1,b:= -1,gf:=y.1};let a:=hV L (dA L [61] x.1);some (dA L [59] a.2,pj ns k {x.2 with args:=x.2.args++[a.1]}))
 else if cQ L [115,112,97,119,110] st=true then
  (let y:=cj L (aC st);let z:=qo L y.2;some (dA L [59] z.2,pj ns k {kind:=10,a:= -1,b:= -1,gV:=y.1,args:=z.1}))
 else if cQ L [108,111,111,112] st=true then Rr L ba st ns k
 else (let y:=cj L st;let f:=cj L (dA L [33] y.2);let z:=qo L f.2;some (dA L [59] z.2,pj ns k {kind:=9,a:= -1,b:= -1,gf:=y.1,gV:=f.1,args:=z.1}))
theorem Nl (hL:LG L) {ba:pH} (iI:A5 L F c1 c2 c3 q rb ba) (h:NQ L F c1 c2 c3 H q rb st ns m g) {k:Nat} (hk:k < ns.length) {R:aG × List aH} (he:xN L ba st ns k=some R):
  aj Tryz.prog 165 #[pV q,iV (k:Nat)] H (fun w H'=>xG L F c1 c2 c3 H q rb ns m g R.1 R.2 H'):=by
 refine aj.told ?_
 refine ac0 (l:=[pV q,iV (k:Nat)]) (m:=2) [(15,[(1,3)])] mixed Tryz.func165 afs (Nat.le_refl _) (by decide) rfl rfl fun hf=>?_
 have hz:=h.fz
 have jt:=hL.len
 have cO:H.fz H.next=false:=hf.fresh (Nat.le_refl _)
 have nr:¬rb=H.next:=by have:=h.pp.rl;omega
 have qJ:¬H.next=rb:=fun e=>nr e.symm
 have nq:¬q=H.next:=by have:=h.pp.ql;omega
 have r0:QR false L F c1 c2 c3 H q rb ns m g H.next [] ((H.push ⟨aJ LB (.slice none 0 0) (.slice none 0 0) (.slice none 0 0),42,false,false⟩).ai H.fz) st ns m g LB []:=by
  have r:=QR.fresh (NR.start h) (nb:=H.next) rfl LB rfl rfl rfl
  exact ⟨r.fr.ai _,r.lq.fr ((Fr.refl [] _).ai _) r.pp.toPP0.ai (by simp) (by simp) (by simp) (by simp) (by simp),r.le,r.sm,r.sg,r.sn,h.fz,h.fq,cO,h.fm,fun b hb=>h.fn b (Nat.le_trans (Nat.le_succ _) hb)⟩
 simp only [go_sem,Wr,cO]
 intro _
 refine af.by (fJ r0.pp) ?_
 rintro _ H1 - ⟨rfl,O4⟩
 have r1:=r0.aY O4
 by_cases h1:cQ L [108,101,116] st=true
 ·rw [xN,if_pos h1] at he
  cases N6:Kp L ba (dA L [61] (cj L (aC st)).2) ns {a:= -1,b:= -1,mf:=(cj L (aC st)).1} with
  | none=>rw [N6] at he;cases he
  | some B=>
   obtain ⟨s9,n9,d9⟩:=B
   rw [N6] at he
   cases he
   obtain ⟨d1,d2,d3,d4,bL,oL,cL,a,j,c,hq,hr,cU,pa⟩:=r1.pp.iE hL (jd h1)
   have ra:=r1.aY pa
   simp only [go_sem,h1,hq,hr,hz,cU]
   refine af.by (jc hL ra.pp) ?_
   rintro _ H2 - ⟨rfl,FB⟩
   have r2:=ra.aY FB
   obtain ⟨vA,vP,vB,cK⟩:=r2.nd
   generalize cj L (aC st)=y at FB r2 N6
   have r3:=r2.gh cK {a:= -1,b:= -1,mf:=y.1} rfl rfl rfl
   simp only [go_sem,cK,cO]
   refine af.by (iB hL r3.pp) ?_
   rintro _ H4 - p4
   have r4:=r3.aY p4
   simp only [go_sem]
   refine af.by (aia hL iI r4.lq r4.fz r4.fq r4.fb r4.fm rfl N6) ?_
   rintro _ H5 - p5
   obtain ⟨m5,g5,gn5,r5⟩:=r4.ah9 p5
   simp only [go_sem]
   refine af.by (iB hL r5.pp) ?_
   rintro _ Us - FC
   have rE:=r5.aY FC
   obtain ⟨aA,kA,aP,kP,aB,kB,lx,eV⟩:=rE.done (Nat.le_refl _) (Nat.lt_of_lt_of_le hk rE.le)
   simp only [go_sem,lx]
   refine af.by eV ?_
   rintro _ BG - oO
   simp only [go_sem]
   exact oO
 simp only [go_sem,h1]
 refine af.by (fJ r1.pp) ?_
 rintro _ H2 - ⟨rfl,FB⟩
 have r2:=r1.aY FB
 by_cases h2:cQ L [115,101,116] st=true
 ·rw [xN,if_neg h1,if_pos h2] at he
  dsimp only at he
  cases he
  obtain ⟨d1,d2,d3,d4,bL,oL,cL,a,j,c,hq,hr,cU,pa⟩:=r2.pp.iE hL (jd h2)
  have ra:=r2.aY pa
  simp only [go_sem,h2,hq,hr,hz,cU]
  have aie:((H.push ⟨aJ LB (.slice none 0 0) (.slice none 0 0) (.slice none 0 0),42,false,false⟩).ai H.fz).get H.next=some ⟨aJ LB (.slice none 0 0) (.slice none 0 0) (.slice none 0 0),42,false,false⟩:=by rw [be,aU,if_pos rfl]
  have Ku:H.next∉[rb]:=by simpa using qJ
  have aif:=(O4.1.get H.next r0.lq.ln.nl Ku).trans aie
  have aih:=(FB.1.get H.next r1.lq.ln.nl Ku).trans aif
  have aii:=(pa.1.get H.next r2.lq.ln.nl Ku).trans aih
  refine af.by (jc hL ra.pp) ?_
  rintro _ H3 - ⟨rfl,BH⟩
  have r3:=ra.aY BH
  have cK:=(BH.1.get H.next ra.lq.ln.nl Ku).trans aii
  generalize cj L (aC st)=y at BH r3
  have r4:=r3.gh cK {kind:=6,a:= -1,b:= -1,gf:=y.1} rfl rfl rfl
  simp only [go_sem,cK,cO]
  rw [q8]
  refine af.by (Xj hL r4.ln) ?_
  rintro _ H5 - ⟨p5,hx5⟩
  have hx:=hx5 _ _ (by rw [az,if_pos rfl]) rfl
  clear hx5
  obtain ⟨g5,r5⟩:=r4.J3 p5
  generalize zr L y.2 {kind:=6,a:= -1,b:= -1,gf:=y.1}=x at p5 r5 hx
  simp only [go_sem]
  refine af.by (iB hL r5.pp) ?_
  rintro _ H6 - p6
  have r6:=r5.aY p6
  have hx6:=hx.ae p6.1 qJ r5.lq.ln.nl
  obtain ⟨Fs,qF,qG,kZ⟩:=r6.nd
  simp only [go_sem,kZ]
  refine af.by (CB hL r6.pp) ?_
  rintro _ H7 - ⟨rfl,p7⟩
  have r7:=r6.aY p7
  have hx7:=hx6.ae p7.1 qJ r6.lq.ln.nl
  generalize hV L (dA L [61] x.1)=z at p7 r7
  obtain ⟨aa,ka,vP7,vB7,cs,x4,ajU,eF⟩:=hx7.app z.1
  have e67:=(p7.1.get H.next r6.lq.ln.nl Ku).symm.trans x4
  rw [kZ] at e67
  cases e67
  have nn:¬H.next=H7.next:=by have:=r7.lq.ln.nl;omega
  have nn':¬H.next=H7.next+1:=by have:=r7.lq.ln.nl;omega
  have r8:=(r7.push ⟨[iV z.1.kind,iV z.1.n,ag z.1.name],44,false,false⟩).push ⟨cs,44,true,false⟩
  have uQ:((H7.push ⟨[iV z.1.kind,iV z.1.n,ag z.1.name],44,false,false⟩).push ⟨cs,44,true,false⟩).get H.next=some ⟨aJ x.2 (.slice aa x.2.args.length ka) qF qG,42,false,false⟩:=by
   have:=r7.lq.ln.nl
   rw [bS (by rw [bH];omega),bS this];exact x4
  obtain ⟨g9,r9⟩:=r8.args uQ {x.2 with args:=x.2.args++[z.1]} eF (fun c hc=>by
   rw [List.mem_singleton] at hc
   subst hc
   exact ⟨by rw [bH,bH];omega,r7.new (Nat.le_succ _)⟩) rfl rfl
  simp only [go_sem,kZ,x4,cO,nn,eA qn (by decide) (by decide)]
  rw [ajU,wa]
  simp only [go_sem,x4,cO,nn,nn']
  rw [show x.2.args.length+1=(x.2.args++[z.1]).length by rw [List.length_append];rfl] at r9 ⊢
  refine af.by (iB hL r9.pp) ?_
  rintro _ Us - FC
  have rE:=r9.aY FC
  obtain ⟨aA,kA,aP,kP,aB,kB,lx,eV⟩:=rE.done (Nat.le_refl _) (Nat.lt_of_lt_of_le hk rE.le)
  simp only [go_sem,lx]
  refine af.by eV ?_
  rintro _ BG - oO
  simp only [go_sem]
  exact oO
 simp only [go_sem,h2]
 refine af.by (fJ r2.pp) ?_
 rintro _ H3 - ⟨rfl,BH⟩
 have r3:=r2.aY BH
 by_cases h3:cQ L [115,112,97,119,110] st=true
 ·rw [xN,if_neg h1,if_neg h2,if_pos h3] at he
  dsimp only at he
  cases he
  obtain ⟨d1,d2,d3,d4,bL,oL,cL,a,j,c,hq,hr,cU,pa⟩:=r3.pp.iE hL (jd h3)
  have ra:=r3.aY pa
  simp only [go_sem,h3,hq,hr,hz,cU]
  refine af.by (jc hL ra.pp) ?_
  rintro _ H4 - ⟨rfl,Dm⟩
  have r4:=ra.aY Dm
  obtain ⟨vA,vP,vB,cK⟩:=r4.nd
  generalize cj L (aC st)=y at Dm r4
  have r5:=r4.gh cK {kind:=10,a:= -1,b:= -1,gV:=y.1} rfl rfl rfl
  simp only [go_sem,cK,cO]
  rw [q8]
  refine af.by (GX hL r5.pp) ?_
  rintro va H6 - ⟨⟨ga,hW,jK⟩,Dn⟩
  have r6:=r5.aY Dn
  obtain ⟨aa,ca,yK⟩:=hW.val
  subst yK
  obtain ⟨Fs,qF,qG,kZ⟩:=r6.nd
  obtain ⟨g7,r7⟩:=r6.args kZ {kind:=10,a:= -1,b:= -1,gV:=y.1,args:=(qo L y.2).1} hW (fun b hb=>⟨(jK b hb).2,r5.new (jK b hb).1⟩) rfl rfl
  simp only [go_sem,kZ,cO]
  refine af.by (iB hL r7.pp) ?_
  rintro _ Us - FC
  have rE:=r7.aY FC
  obtain ⟨aA,kA,aP,kP,aB,kB,lx,eV⟩:=rE.done (Nat.le_refl _) (Nat.lt_of_lt_of_le hk rE.le)
  simp only [go_sem,lx]
  refine af.by eV ?_
  rintro _ BG - oO
  simp only [go_sem]
  exact oO
 simp only [go_sem,h3]
 refine af.by (fJ r3.pp) ?_
 rintro _ H4 - ⟨rfl,Dm⟩
 have r4:=r3.aY Dm
 by_cases h4:cQ L [108,111,111,112] st=true
 ·rw [xN,if_neg h1,if_neg h2,if_neg h3,if_pos h4] at he
  simp only [go_sem,h4]
  refine af.by (af9 hL iI r4.nq hk (jd h4) he) ?_
  rintro _ H5 - p5
  obtain ⟨m5,g5,r5⟩:=r4.wi p5
  simp only [go_sem]
  exact ⟨(r5.fr.sub fun c hc=>by
   simp only [List.mem_cons] at hc ⊢
   rcases hc with e | e | e | e
   ·exact .inl (.inl e)
   ·exact .inl (.inr (.inl e))
   ·exact .inr (Nat.le_of_eq e.symm)
   ·exact .inl (.inr (.inr e))).ai _,fun _=>rfl,r5.le,m5,g5,r5.lq.nq.ai,r5.sm,r5.sg⟩
 rw [xN,if_neg h1,if_neg h2,if_neg h3,if_neg h4] at he
 dsimp only at he
 cases he
 simp only [go_sem,h4]
 refine af.by (jc hL r4.pp) ?_
 rintro _ H5 - ⟨rfl,O5⟩
 have r5:=r4.aY O5
 obtain ⟨vA,vP,vB,cK⟩:=r5.nd
 generalize cj L st=y at O5 r5
 have r6:=r5.gh cK {kind:=9,a:= -1,b:= -1,gf:=y.1} rfl rfl rfl
 simp only [go_sem,cK,cO]
 rw [q8]
 refine af.by (iB hL r6.pp) ?_
 rintro _ H7 - p7
 have r7:=r6.aY p7
 simp only [go_sem]
 refine af.by (jc hL r7.pp) ?_
 rintro _ H8 - ⟨rfl,pH8⟩
 have r8:=r7.aY pH8
 obtain ⟨vA8,vP8,vB8,uQ⟩:=r8.nd
 generalize cj L (dA L [33] y.2)=f at pH8 r8
 have r9:=r8.gh uQ {kind:=9,a:= -1,b:= -1,gf:=y.1,gV:=f.1} rfl rfl rfl
 simp only [go_sem,uQ,cO]
 refine af.by (GX hL r9.pp) ?_
 rintro va dd - ⟨⟨ga,hW,jK⟩,ajV⟩
 have cP:=r9.aY ajV
 obtain ⟨aa,ca,yK⟩:=hW.val
 subst yK
 obtain ⟨ajR,ajS,ajT,J7⟩:=cP.nd
 obtain ⟨Dl,df⟩:=cP.args J7 {kind:=9,a:= -1,b:= -1,gf:=y.1,gV:=f.1,args:=(qo L f.2).1} hW (fun b hb=>⟨(jK b hb).2,r9.new (jK b hb).1⟩) rfl rfl
 simp only [go_sem,J7,cO]
 refine af.by (iB hL df.pp) ?_
 rintro _ Us - FC
 have rE:=df.aY FC
 obtain ⟨aA,kA,aP,kP,aB,kB,lx,eV⟩:=rE.done (Nat.le_refl _) (Nat.lt_of_lt_of_le hk rE.le)
 simp only [go_sem,lx]
 refine af.by eV ?_
 rintro _ BG - oO
 simp only [go_sem]
 exact oO
end
section
variable {zb:Bool} {L:List bh} {F:List Nat} {c1 c2 c3:Value} {H H1 H2:ad} {q rb nb:Nat} {st cA bu:aG} {ns bk bK:List aH} {m m1 m2 g g1 g2 gn fY rF:List Nat} {n n1 n2:aH}
theorem GR (ho:c9 (jF L st ns).2.1=true):(jF L st ns).1=((ns.length:Nat):Int)/\(jF L st ns).2.1=st/\(jF L st ns).2.2.length=ns.length+1:=by
 have key:c9 (rZ st ns)=true->rZ st ns=st:=fun h=>by
  unfold rZ at h ⊢
  split at h
  ·rw [AG (by decide)] at h;cases h
  ·rename_i hn;rw [if_neg hn]
 unfold jF at ho ⊢
 split at ho
 ·rename_i h
  rw [if_pos h]
  exact ⟨rfl,key h,by simp⟩
 ·rename_i h;exact absurd ho h
theorem aav (h:zg L st=true):(tk L st).kind≠4:=by
 simp only [zg,Bool.or_eq_true] at h
 rcases h with (((h | h) | h) | h) | h <;> exact jd h
def j9 (ns:List aH) (l k:Nat):List aH:=ns.set l {ns.getD l {} with next:=((k:Nat):Int)}
theorem NR.x (h0:NQ L F c1 c2 c3 H q rb st ns m g) (hf:bW H) (h:NR L F c1 c2 c3 H q rb ns m g H1 cA bk m1 g1):∀b∈m1,H.fz b=false:=fun b hb=>(h.sm b hb).elim (h0.fm b) (fun e=>hf.fresh e)
theorem NR.link (h:NR L F c1 c2 c3 H q rb ns m g H1 cA bk m1 g1) {l k:Nat} (hl:l < bk.length):∃b cs,H1.get q=some ⟨[pV rb,c1,c2,c3,.slice (some ⟨b,0,none⟩) bk.length bk.length],127,false,false⟩/\b∈m1/\H1.get b=some ⟨cs,42,true,false⟩/\l * 20+20<=cs.length/\
  NR L F c1 c2 c3 H q rb ns m g (H1.ah b ⟨cs.set (l * 20+10) (iV (k:Nat)),42,true,false⟩) cA (j9 bk l k) m1 g1:=by
 obtain ⟨vN,hq,cw⟩:=h.cells
 obtain ⟨b,cs,f1,f2,f3,rfl,rfl,hb,fE,rfl,c6,hE,oE⟩:=cw.put hl
 obtain ⟨wA,wP,wB,e1,e2,e3,aV,rfl,s1,s2,s3⟩:=hE
 have fC:j6.sz=20:=rfl
 rw [fC] at c6 aV
 obtain ⟨iD,fe,fj,oh,iy⟩:=h.nq.hm b (by simp)
 have aZ:l * 20+10 < cs.length:=by omega
 have eu:cs.set (l * 20+10) (iV (k:Nat))=cT cs (l * j6.sz) (aJ {bk[l] with next:=((k:Nat):Int)} wA wP wB):=by
  have:=xq (vs:=[iV (k:Nat)]) aV (k:=10) (by decide:10+1<=20) c6
  rw [eG aZ] at this
  rw [this];rfl
 have kt:(bk.getD l {})=bk[l]:=by rw [List.getD_eq_getElem?_getD,List.getElem?_eq_getElem hl];rfl
 have bg:Fr [b] H1 (H1.ah b ⟨cs.set (l * 20+10) (iV (k:Nat)),42,true,false⟩):=(Fr.refl _ _).ah (.inl (by simp)) _
 have kg:∀c,c≠b->(H1.ah b ⟨cs.set (l * 20+10) (iV (k:Nat)),42,true,false⟩).get c=H1.get c:=fun c hc=>by rw [az,if_neg hc]
 have qK:∀c∈f1++(e1++(e2++e3)++f3),c≠b:=fun c hc e=>iy (e▸hc)
 have bG:=oE (H1.ah b ⟨cs.set (l * 20+10) (iV (k:Nat)),42,true,false⟩) (aJ {bk[l] with next:=((k:Nat):Int)} wA wP wB) {bk[l] with next:=((k:Nat):Int)} (e1++(e2++e3))
  (fun z hz=>kg z (qK z (by rcases hz with e | e <;> simp [e]))) (by rw [az,if_pos rfl,eu]) ⟨wA,wP,wB,e1,e2,e3,rfl,rfl,s1.ae fun c hc=>kg c (qK c (by simp [hc])),s2.ae fun c hc=>kg c (qK c (by simp [hc])),s3.ae fun c hc=>kg c (qK c (by simp [hc]))⟩
  (fun e=>iy (List.mem_append_right _ (List.mem_append_left _ e)))
 refine ⟨b,cs,hq,by simp,hb,c6,⟨h.fr.trans bg fun c hc=>?_,{pp:=h.nq.pp.put _ fj fe oh,row:=⟨_,(kg q (Ne.symm fj)).trans hq,?_⟩,hm:=h.nq.hm,hg:=h.nq.hg,hn:=by rw [j9,List.length_set];exact h.nq.hn,fz:=h.nq.fz,fq:=h.nq.fq,fm:=h.nq.fm,fn:=h.nq.fn},by rw [j9,List.length_set];exact h.le,h.sm,h.sg⟩⟩
 ·rw [List.mem_singleton] at hc
  subst hc
  exact (h.sm c (by simp)).imp (fun e=>by simp [e]) id
 ·rw [j9,kt];exact bG
def fV:Option (Nat × Nat)->Int
 | none=> -1
 | some x=>((x.1:Nat):Int)
def lV:Option (Nat × Nat)->Int
 | none=> -1
 | some x=>((x.2:Nat):Int)
def aij (fl:Option (Nat × Nat)) (k:Nat):Option (Nat × Nat):=match fl with
 | none=>some (k,k)
 | some x=>some (x.1,k)
def Rt (fl:Option (Nat × Nat)) (ns:List aH) (k:Nat):List aH:=match fl with
 | none=>ns
 | some x=>j9 ns x.2 k
def tH (L:List bh) (kind:Int) (st:aG):Bool:=decide (kind=2)&&cQ L [103,105,118,101] st||decide (kind=0)&&zg L st
def GS (L:List bh) (ba:pH) (fuel:Nat) (kind:Int):Nat->Bool->Option (Nat × Nat)->aG->List aH->Option (Int × aG × List aH)
 | 0,_,_,_,_=>none
 | j+1,Es,fl,st,ns=>
  if c9 st=true/\Es=false then
   (if kind=1/\dV L [125] st=true then some (fV fl,st,ns)
   else if tH L kind st=false/\rO L st=false then some (fV fl,eQ 2 st,ns)
   else if c9 (jF L st ns).2.1=true then
    (if tH L kind st=true then zG L ba fuel st (jF L st ns).2.2 ns.length else xN L ba st (jF L st ns).2.2 ns.length).bind fun x=>
     GS L ba fuel kind j (tH L kind st) (aij fl ns.length) x.1 (Rt fl x.2 ns.length)
   else some (fV fl,(jF L st ns).2.1,(jF L st ns).2.2))
  else some (fV fl,st,ns)
def G3 (L:List bh):Nat->pH
 | 0=>fun _ _=>none
 | k+1=>fun kind s=>(GS L (G3 L k) k kind 402 false none (uG L s.1) s.2).map fun x=>(x.1,GP L x.2.1,x.2.2)
theorem abJ (hL:LG L) {ba:pH} (iI:A5 L F c1 c2 c3 q rb ba) {fuel:Nat} (h:NQ L F c1 c2 c3 H q rb st ns m g) {kind:Int} {R:Int × aG × List aH} (he:GS L ba fuel kind 402 false none (uG L st) ns=some R):
  aj Tryz.prog 143 #[pV q,iV kind] H (fun w H'=>w=iV R.1/\xG L F c1 c2 c3 H q rb ns m g (GP L R.2.1) R.2.2 H'):=by
 refine aj.told ?_
 refine aeP (Nat.le_refl _) fun hf=>?_
 simp only [Tryz.f143,Option.getD_some]
 have r0:=NR.start h
 have jt:=hL.len
 simp only [go_sem]
 refine af.by (QV hL h.bJ) ?_
 rintro _ H1 - p1
 have r1:=r0.aY p1
 generalize uG L st=s1 at p1 r1 he
 simp only [go_sem]
 refine lp 18889465931478580853216 (fun n V H2=>∃Es fl bu bK m2 g2,V 5=iV (fV fl)/\V 6=iV (lV fl)/\V 7=.bool Es/\NR L F c1 c2 c3 H q rb ns m g H2 bu bK m2 g2/\(∀x,fl=some x->x.2 < bK.length)/\GS L ba fuel kind n Es fl bu bK=some R) (n:=402)
  ⟨false,none,s1,ns,m,g,by simp only [go_sem] <;> rfl,by simp only [go_sem] <;> rfl,by simp only [go_sem] <;> rfl,r1,by simp,he⟩ ?_ (by rfl)
 rintro n V H2 ⟨Es,fl,bu,bK,m2,g2,e5,e6,e7,r2,cY,bf⟩
 cases n with
 | zero=>cases bf
 | succ n=>
  rw [GS] at bf
  have fin:∀{H7:ad} {Fu:aG} {iW:List aH} {m7 g7:List Nat} {x:Value},NR L F c1 c2 c3 H q rb ns m g H7 Fu iW m7 g7->True:=fun _=>trivial
  clear fin
  simp only [go_sem,e7]
  refine af.by (eJ r2.nq.bJ) ?_
  rintro _ _ - ⟨rfl,rfl⟩
  by_cases hb:c9 bu=true
  ·cases Es with
   | true=>
    rw [if_neg (fun e=>by cases e.2)] at bf
    cases bf
    simp only [go_sem,hb,e7]
    refine af.by (qe hL r2.nq.bJ) ?_
    rintro _ w8 - lh
    have hY:=r2.aY lh
    simp only [go_sem,e5]
    first | exact ⟨rfl,hY.last⟩ | exact hY.last
   | false=>
    rw [if_pos ⟨hb,rfl⟩] at bf
    simp only [go_sem,hb,e7]
    obtain ⟨vN,hq,cw⟩:=r2.cells
    by_cases k1:kind=1
    ·subst k1
     simp only [go_sem,hq]
     refine af.by (mY r2.nq.bJ) ?_
     rintro _ _ - ⟨rfl,rfl⟩
     by_cases hs:dV L [125] bu=true
     ·rw [if_pos ⟨rfl,hs⟩] at bf
      cases bf
      simp only [go_sem,hs]
      refine af.by (qe hL r2.nq.bJ) ?_
      rintro _ w8 - lh
      have hY:=r2.aY lh
      simp only [go_sem,e5]
      first | exact ⟨rfl,hY.last⟩ | exact hY.last
     ·rw [if_neg (fun e=>hs e.2)] at bf
      have qL:tH L 1 bu=false:=rfl
      simp only [go_sem,hs]
      refine af.by (MD hL r2.nq.bJ) ?_
      rintro _ H8 - ⟨rfl,p8⟩
      have r8:=r2.aY p8
      by_cases hW:rO L bu=true
      ·rw [if_neg (fun e=>by rw [hW] at e;cases e.2)] at bf
       simp only [go_sem,hW]
       refine af.by (G1 hL r8.nq) ?_
       rintro _ dd - ⟨rfl,jZ⟩
       obtain ⟨Ai,pI,cP,_,_⟩:=r8.call jZ
       simp only [go_sem]
       refine af.by (eJ cP.nq.bJ) ?_
       rintro _ _ - ⟨rfl,rfl⟩
       by_cases ho:c9 (jF L bu bK).2.1=true
       ·rw [if_pos ho,qL] at bf
        obtain ⟨o1,o2,o3⟩:=GR ho
        rw [o1]
        simp only [go_sem,ho]
        have df:=cP
        rw [o2] at df
        rw [if_neg Bool.false_ne_true] at bf
        cases fO:xN L ba bu (jF L bu bK).2.2 bK.length with
        | none=>rw [fO] at bf;cases bf
        | some B=>
         obtain ⟨qO,ey⟩:=B
         rw [fO] at bf
         simp only [Option.bind_some] at bf
         refine af.by (Nl hL iI df.nq (by rw [o3];omega) fO) ?_
         rintro _ di - dw
         dsimp only at dw
         obtain ⟨pJ,ju,dh,_,_⟩:=df.call dw
         have J8:bK.length+1<=ey.length:=by have:=dw.2.2.1;rw [o3] at this;exact this
         cases fl with
         | none=>
          have cu:(-1:Int) < 0:=by decide
          simp only [go_sem,e5,fV,cu]
          exact ⟨n,by omega,false,some (bK.length,bK.length),qO,ey,pJ,ju,rfl,rfl,rfl,dh,fun x hx=>by cases hx;show bK.length < ey.length;omega,bf⟩
         | some x=>
          have cu:¬(((x.1:Nat):Int) < 0):=by omega
          have qA:=cY x rfl
          obtain ⟨b,cs,x8,fP,x9,xO,gu⟩:=dh.link (l:=x.2) (k:=bK.length) (by omega)
          have fg:=NR.x h hf dh b fP
          have aZ:x.2 < ey.length:=by omega
          have dG:x.2 * 20+10 < cs.length:=by omega
          have fU:x.2 * 20+10+1<=cs.length:=by omega
          simp only [go_sem,e5,e6,fV,lV,cu,x8,x9,fg,aZ,dG,fU,xO,eG dG]
          exact ⟨n,by omega,false,some (x.1,bK.length),qO,j9 ey x.2 bK.length,pJ,ju,rfl,rfl,rfl,gu,fun y hy=>by cases hy;show bK.length < (j9 ey x.2 bK.length).length;rw [j9,List.length_set];omega,bf⟩
       ·rw [if_neg ho] at bf
        cases bf
        simp only [go_sem,ho]
        refine af.by (qe hL cP.nq.bJ) ?_
        rintro _ w8 - lh
        have hY:=cP.aY lh
        simp only [go_sem,e5]
        first | exact ⟨rfl,hY.last⟩ | exact hY.last
      ·have EG:rO L bu=false:=by simpa using hW
       rw [if_pos ⟨qL,EG⟩] at bf
       cases bf
       simp only [go_sem,hW]
       refine af.by (kK r8.nq.bJ) ?_
       rintro _ H9 - p9
       have r9:=r8.aY p9
       simp only [go_sem]
       refine af.by (qe hL r9.nq.bJ) ?_
       rintro _ w8 - lh
       have hY:=r9.aY lh
       simp only [go_sem,e5]
       first | exact ⟨rfl,hY.last⟩ | exact hY.last
    ·rw [if_neg (fun e=>k1 e.1)] at bf
     by_cases k2:kind=2
     ·subst k2
      simp only [go_sem]
      refine af.by (fJ r2.nq.bJ) ?_
      rintro _ H3 - ⟨rfl,p3⟩
      have r3:=r2.aY p3
      by_cases hg:cQ L [103,105,118,101] bu=true
      ·have qL:tH L 2 bu=true:=by simp [tH,hg]
       simp only [go_sem,hg]
       rw [if_neg (fun e=>by rw [qL] at e;cases e.1)] at bf
       refine af.by (G1 hL r3.nq) ?_
       rintro _ dd - ⟨rfl,jZ⟩
       obtain ⟨Ai,pI,cP,_,_⟩:=r3.call jZ
       simp only [go_sem]
       refine af.by (eJ cP.nq.bJ) ?_
       rintro _ _ - ⟨rfl,rfl⟩
       by_cases ho:c9 (jF L bu bK).2.1=true
       ·rw [if_pos ho,qL] at bf
        obtain ⟨o1,o2,o3⟩:=GR ho
        rw [o1]
        simp only [go_sem,ho]
        have df:=cP
        rw [o2] at df
        rw [if_pos rfl] at bf
        cases fO:zG L ba fuel bu (jF L bu bK).2.2 bK.length with
        | none=>rw [fO] at bf;cases bf
        | some B=>
         obtain ⟨qO,ey⟩:=B
         rw [fO] at bf
         simp only [Option.bind_some] at bf
         refine af.by (X8 hL iI df.nq (by rw [o3];omega) (jd hg) fO) ?_
         rintro _ di - dw
         dsimp only at dw
         obtain ⟨pJ,ju,dh,_,_⟩:=df.call dw
         have J8:bK.length+1<=ey.length:=by have:=dw.2.2.1;rw [o3] at this;exact this
         cases fl with
         | none=>
          have cu:(-1:Int) < 0:=by decide
          simp only [go_sem,e5,fV,cu]
          exact ⟨n,by omega,true,some (bK.length,bK.length),qO,ey,pJ,ju,rfl,rfl,rfl,dh,fun x hx=>by cases hx;show bK.length < ey.length;omega,bf⟩
         | some x=>
          have cu:¬(((x.1:Nat):Int) < 0):=by omega
          have qA:=cY x rfl
          obtain ⟨b,cs,x8,fP,x9,xO,gu⟩:=dh.link (l:=x.2) (k:=bK.length) (by omega)
          have fg:=NR.x h hf dh b fP
          have aZ:x.2 < ey.length:=by omega
          have dG:x.2 * 20+10 < cs.length:=by omega
          have fU:x.2 * 20+10+1<=cs.length:=by omega
          simp only [go_sem,e5,e6,fV,lV,cu,x8,x9,fg,aZ,dG,fU,xO,eG dG]
          exact ⟨n,by omega,true,some (x.1,bK.length),qO,j9 ey x.2 bK.length,pJ,ju,rfl,rfl,rfl,gu,fun y hy=>by cases hy;show bK.length < (j9 ey x.2 bK.length).length;rw [j9,List.length_set];omega,bf⟩
       ·rw [if_neg ho] at bf
        cases bf
        simp only [go_sem,ho]
        refine af.by (qe hL cP.nq.bJ) ?_
        rintro _ w8 - lh
        have hY:=cP.aY lh
        simp only [go_sem,e5]
        first | exact ⟨rfl,hY.last⟩ | exact hY.last
      ·have qL:tH L 2 bu=false:=by simp [tH,hg]
       simp only [go_sem,hg]
       refine af.by (MD hL r3.nq.bJ) ?_
       rintro _ H8 - ⟨rfl,p8⟩
       have r8:=r3.aY p8
       by_cases hW:rO L bu=true
       ·rw [if_neg (fun e=>by rw [hW] at e;cases e.2)] at bf
        simp only [go_sem,hW]
        refine af.by (G1 hL r8.nq) ?_
        rintro _ dd - ⟨rfl,jZ⟩
        obtain ⟨Ai,pI,cP,_,_⟩:=r8.call jZ
        simp only [go_sem]
        refine af.by (eJ cP.nq.bJ) ?_
        rintro _ _ - ⟨rfl,rfl⟩
        by_cases ho:c9 (jF L bu bK).2.1=true
        ·rw [if_pos ho,qL] at bf
         obtain ⟨o1,o2,o3⟩:=GR ho
         rw [o1]
         simp only [go_sem,ho]
         have df:=cP
         rw [o2] at df
         rw [if_neg Bool.false_ne_true] at bf
         cases fO:xN L ba bu (jF L bu bK).2.2 bK.length with
         | none=>rw [fO] at bf;cases bf
         | some B=>
          obtain ⟨qO,ey⟩:=B
          rw [fO] at bf
          simp only [Option.bind_some] at bf
          refine af.by (Nl hL iI df.nq (by rw [o3];omega) fO) ?_
          rintro _ di - dw
          dsimp only at dw
          obtain ⟨pJ,ju,dh,_,_⟩:=df.call dw
          have J8:bK.length+1<=ey.length:=by have:=dw.2.2.1;rw [o3] at this;exact this
          cases fl with
          | none=>
           have cu:(-1:Int) < 0:=by decide
           simp only [go_sem,e5,fV,cu]
           exact ⟨n,by omega,false,some (bK.length,bK.length),qO,ey,pJ,ju,rfl,rfl,rfl,dh,fun x hx=>by cases hx;show bK.length < ey.length;omega,bf⟩
          | some x=>
           have cu:¬(((x.1:Nat):Int) < 0):=by omega
           have qA:=cY x rfl
           obtain ⟨b,cs,x8,fP,x9,xO,gu⟩:=dh.link (l:=x.2) (k:=bK.length) (by omega)
           have fg:=NR.x h hf dh b fP
           have aZ:x.2 < ey.length:=by omega
           have dG:x.2 * 20+10 < cs.length:=by omega
           have fU:x.2 * 20+10+1<=cs.length:=by omega
           simp only [go_sem,e5,e6,fV,lV,cu,x8,x9,fg,aZ,dG,fU,xO,eG dG]
           exact ⟨n,by omega,false,some (x.1,bK.length),qO,j9 ey x.2 bK.length,pJ,ju,rfl,rfl,rfl,gu,fun y hy=>by cases hy;show bK.length < (j9 ey x.2 bK.length).length;rw [j9,List.length_set];omega,bf⟩
        ·rw [if_neg ho] at bf
         cases bf
         simp only [go_sem,ho]
         refine af.by (qe hL cP.nq.bJ) ?_
         rintro _ w8 - lh
         have hY:=cP.aY lh
         simp only [go_sem,e5]
         first | exact ⟨rfl,hY.last⟩ | exact hY.last
       ·have EG:rO L bu=false:=by simpa using hW
        rw [if_pos ⟨qL,EG⟩] at bf
        cases bf
        simp only [go_sem,hW]
        refine af.by (kK r8.nq.bJ) ?_
        rintro _ H9 - p9
        have r9:=r8.aY p9
        simp only [go_sem]
        refine af.by (qe hL r9.nq.bJ) ?_
        rintro _ w8 - lh
        have hY:=r9.aY lh
        simp only [go_sem,e5]
        first | exact ⟨rfl,hY.last⟩ | exact hY.last
     ·by_cases k0:kind=0
      ·subst k0
       simp only [go_sem]
       refine af.by (aaL hL r2.nq.bJ) ?_
       rintro _ H3 - ⟨rfl,p3⟩
       have r3:=r2.aY p3
       by_cases hg:zg L bu=true
       ·have qL:tH L 0 bu=true:=by simp [tH,hg]
        simp only [go_sem,hg]
        rw [if_neg (fun e=>by rw [qL] at e;cases e.1)] at bf
        refine af.by (G1 hL r3.nq) ?_
        rintro _ dd - ⟨rfl,jZ⟩
        obtain ⟨Ai,pI,cP,_,_⟩:=r3.call jZ
        simp only [go_sem]
        refine af.by (eJ cP.nq.bJ) ?_
        rintro _ _ - ⟨rfl,rfl⟩
        by_cases ho:c9 (jF L bu bK).2.1=true
        ·rw [if_pos ho,qL] at bf
         obtain ⟨o1,o2,o3⟩:=GR ho
         rw [o1]
         simp only [go_sem,ho]
         have df:=cP
         rw [o2] at df
         rw [if_pos rfl] at bf
         cases fO:zG L ba fuel bu (jF L bu bK).2.2 bK.length with
         | none=>rw [fO] at bf;cases bf
         | some B=>
          obtain ⟨qO,ey⟩:=B
          rw [fO] at bf
          simp only [Option.bind_some] at bf
          refine af.by (X8 hL iI df.nq (by rw [o3];omega) (aav hg) fO) ?_
          rintro _ di - dw
          dsimp only at dw
          obtain ⟨pJ,ju,dh,_,_⟩:=df.call dw
          have J8:bK.length+1<=ey.length:=by have:=dw.2.2.1;rw [o3] at this;exact this
          cases fl with
          | none=>
           have cu:(-1:Int) < 0:=by decide
           simp only [go_sem,e5,fV,cu]
           exact ⟨n,by omega,true,some (bK.length,bK.length),qO,ey,pJ,ju,rfl,rfl,rfl,dh,fun x hx=>by cases hx;show bK.length < ey.length;omega,bf⟩
          | some x=>
           have cu:¬(((x.1:Nat):Int) < 0):=by omega
           have qA:=cY x rfl
           obtain ⟨b,cs,x8,fP,x9,xO,gu⟩:=dh.link (l:=x.2) (k:=bK.length) (by omega)
           have fg:=NR.x h hf dh b fP
           have aZ:x.2 < ey.length:=by omega
           have dG:x.2 * 20+10 < cs.length:=by omega
           have fU:x.2 * 20+10+1<=cs.length:=by omega
           simp only [go_sem,e5,e6,fV,lV,cu,x8,x9,fg,aZ,dG,fU,xO,eG dG]
           exact ⟨n,by omega,true,some (x.1,bK.length),qO,j9 ey x.2 bK.length,pJ,ju,rfl,rfl,rfl,gu,fun y hy=>by cases hy;show bK.length < (j9 ey x.2 bK.length).length;rw [j9,List.length_set];omega,bf⟩
        ·rw [if_neg ho] at bf
         cases bf
         simp only [go_sem,ho]
         refine af.by (qe hL cP.nq.bJ) ?_
         rintro _ w8 - lh
         have hY:=cP.aY lh
         simp only [go_sem,e5]
         first | exact ⟨rfl,hY.last⟩ | exact hY.last
       ·have qL:tH L 0 bu=false:=by simp [tH,hg]
        simp only [go_sem,hg]
        refine af.by (MD hL r3.nq.bJ) ?_
        rintro _ H8 - ⟨rfl,p8⟩
        have r8:=r3.aY p8
        by_cases hW:rO L bu=true
        ·rw [if_neg (fun e=>by rw [hW] at e;cases e.2)] at bf
         simp only [go_sem,hW]
         refine af.by (G1 hL r8.nq) ?_
         rintro _ dd - ⟨rfl,jZ⟩
         obtain ⟨Ai,pI,cP,_,_⟩:=r8.call jZ
         simp only [go_sem]
         refine af.by (eJ cP.nq.bJ) ?_
         rintro _ _ - ⟨rfl,rfl⟩
         by_cases ho:c9 (jF L bu bK).2.1=true
         ·rw [if_pos ho,qL] at bf
          obtain ⟨o1,o2,o3⟩:=GR ho
          rw [o1]
          simp only [go_sem,ho]
          have df:=cP
          rw [o2] at df
          rw [if_neg Bool.false_ne_true] at bf
          cases fO:xN L ba bu (jF L bu bK).2.2 bK.length with
          | none=>rw [fO] at bf;cases bf
          | some B=>
           obtain ⟨qO,ey⟩:=B
           rw [fO] at bf
           simp only [Option.bind_some] at bf
           refine af.by (Nl hL iI df.nq (by rw [o3];omega) fO) ?_
           rintro _ di - dw
           dsimp only at dw
           obtain ⟨pJ,ju,dh,_,_⟩:=df.call dw
           have J8:bK.length+1<=ey.length:=by have:=dw.2.2.1;rw [o3] at this;exact this
           cases fl with
           | none=>
            have cu:(-1:Int) < 0:=by decide
            simp only [go_sem,e5,fV,cu]
            exact ⟨n,by omega,false,some (bK.length,bK.length),qO,ey,pJ,ju,rfl,rfl,rfl,dh,fun x hx=>by cases hx;show bK.length < ey.length;omega,bf⟩
           | some x=>
            have cu:¬(((x.1:Nat):Int) < 0):=by omega
            have qA:=cY x rfl
            obtain ⟨b,cs,x8,fP,x9,xO,gu⟩:=dh.link (l:=x.2) (k:=bK.length) (by omega)
            have fg:=NR.x h hf dh b fP
            have aZ:x.2 < ey.length:=by omega
            have dG:x.2 * 20+10 < cs.length:=by omega
            have fU:x.2 * 20+10+1<=cs.length:=by omega
            simp only [go_sem,e5,e6,fV,lV,cu,x8,x9,fg,aZ,dG,fU,xO,eG dG]
            exact ⟨n,by omega,false,some (x.1,bK.length),qO,j9 ey x.2 bK.length,pJ,ju,rfl,rfl,rfl,gu,fun y hy=>by cases hy;show bK.length < (j9 ey x.2 bK.length).length;rw [j9,List.length_set];omega,bf⟩
         ·rw [if_neg ho] at bf
          cases bf
          simp only [go_sem,ho]
          refine af.by (qe hL cP.nq.bJ) ?_
          rintro _ w8 - lh
          have hY:=cP.aY lh
          simp only [go_sem,e5]
          first | exact ⟨rfl,hY.last⟩ | exact hY.last
        ·have EG:rO L bu=false:=by simpa using hW
         rw [if_pos ⟨qL,EG⟩] at bf
         cases bf
         simp only [go_sem,hW]
         refine af.by (kK r8.nq.bJ) ?_
         rintro _ H9 - p9
         have r9:=r8.aY p9
         simp only [go_sem]
         refine af.by (qe hL r9.nq.bJ) ?_
         rintro _ w8 - lh
         have hY:=r9.aY lh
         simp only [go_sem,e5]
         first | exact ⟨rfl,hY.last⟩ | exact hY.last
      ·have qL:tH L kind bu=false:=by simp [tH,k2,k0]
       simp only [go_sem,k1,k2,k0]
       refine af.by (MD hL r2.nq.bJ) ?_
       rintro _ H8 - ⟨rfl,p8⟩
       have r8:=r2.aY p8
       by_cases hW:rO L bu=true
       ·rw [if_neg (fun e=>by rw [hW] at e;cases e.2)] at bf
        simp only [go_sem,hW]
        refine af.by (G1 hL r8.nq) ?_
        rintro _ dd - ⟨rfl,jZ⟩
        obtain ⟨Ai,pI,cP,_,_⟩:=r8.call jZ
        simp only [go_sem]
        refine af.by (eJ cP.nq.bJ) ?_
        rintro _ _ - ⟨rfl,rfl⟩
        by_cases ho:c9 (jF L bu bK).2.1=true
        ·rw [if_pos ho,qL] at bf
         obtain ⟨o1,o2,o3⟩:=GR ho
         rw [o1]
         simp only [go_sem,ho]
         have df:=cP
         rw [o2] at df
         rw [if_neg Bool.false_ne_true] at bf
         cases fO:xN L ba bu (jF L bu bK).2.2 bK.length with
         | none=>rw [fO] at bf;cases bf
         | some B=>
          obtain ⟨qO,ey⟩:=B
          rw [fO] at bf
          simp only [Option.bind_some] at bf
          refine af.by (Nl hL iI df.nq (by rw [o3];omega) fO) ?_
          rintro _ di - dw
          dsimp only at dw
          obtain ⟨pJ,ju,dh,_,_⟩:=df.call dw
          have J8:bK.length+1<=ey.length:=by have:=dw.2.2.1;rw [o3] at this;exact this
          cases fl with
          | none=>
           have cu:(-1:Int) < 0:=by decide
           simp only [go_sem,e5,fV,cu]
           exact ⟨n,by omega,false,some (bK.length,bK.length),qO,ey,pJ,ju,rfl,rfl,rfl,dh,fun x hx=>by cases hx;show bK.length < ey.length;omega,bf⟩
          | some x=>
           have cu:¬(((x.1:Nat):Int) < 0):=by omega
           have qA:=cY x rfl
           obtain ⟨b,cs,x8,fP,x9,xO,gu⟩:=dh.link (l:=x.2) (k:=bK.length) (by omega)
           have fg:=NR.x h hf dh b fP
           have aZ:x.2 < ey.length:=by omega
           have dG:x.2 * 20+10 < cs.length:=by omega
           have fU:x.2 * 20+10+1<=cs.length:=by omega
           simp only [go_sem,e5,e6,fV,lV,cu,x8,x9,fg,aZ,dG,fU,xO,eG dG]
           exact ⟨n,by omega,false,some (x.1,bK.length),qO,j9 ey x.2 bK.length,pJ,ju,rfl,rfl,rfl,gu,fun y hy=>by cases hy;show bK.length < (j9 ey x.2 bK.length).length;rw [j9,List.length_set];omega,bf⟩
        ·rw [if_neg ho] at bf
         cases bf
         simp only [go_sem,ho]
         refine af.by (qe hL cP.nq.bJ) ?_
         rintro _ w8 - lh
         have hY:=cP.aY lh
         simp only [go_sem,e5]
         first | exact ⟨rfl,hY.last⟩ | exact hY.last
       ·have EG:rO L bu=false:=by simpa using hW
        rw [if_pos ⟨qL,EG⟩] at bf
        cases bf
        simp only [go_sem,hW]
        refine af.by (kK r8.nq.bJ) ?_
        rintro _ H9 - p9
        have r9:=r8.aY p9
        simp only [go_sem]
        refine af.by (qe hL r9.nq.bJ) ?_
        rintro _ w8 - lh
        have hY:=r9.aY lh
        simp only [go_sem,e5]
        first | exact ⟨rfl,hY.last⟩ | exact hY.last
  ·rw [if_neg (fun e=>hb e.1)] at bf
   cases bf
   simp only [go_sem,hb]
   refine af.by (qe hL r2.nq.bJ) ?_
   rintro _ w8 - lh
   have hY:=r2.aY lh
   simp only [go_sem,e5]
   first | exact ⟨rfl,hY.last⟩ | exact hY.last
theorem XL (hL:LG L):∀k,A5 L F c1 c2 c3 q rb (G3 L k)
 | 0=>by
  intro _ he
  cases he
 | k+1=>by
  rename_i H st bO ns ik m g kind i
  intro h he
  rw [G3] at he
  dsimp only at he
  cases bf:GS L (G3 L k) k kind 402 false none (uG L st) ns with
  | none=>rw [bf] at he;cases he
  | some R=>
   rw [bf] at he
   cases he
   exact abJ hL (XL hL k) h bf
end
structure bC where
 msgs:List A1:=[]
 bZ:List A2:=[]
 defs:List eH:=[]
 nodes:List aH:=[]
deriving DecidableEq
structure DF (L:List bh) (F:List Nat) (c1 c2 c3:Value) (H:ad) (q rb:Nat) (st:aG) (P:bC) (mM gM mR gR mD gD m g:List Nat):Prop where
 nq:NQ0 L F c1 c2 c3 H q rb st P.nodes m g
 hM:Gr o9 107 H c1 P.msgs mM gM
 hR:Gr qm 164 H c2 P.bZ mR gR
 hD:Gr jh 38 H c3 P.defs mD gD
 xM:∀c∈mM,(c < H.next/\c≠rb/\c≠q/\c∉F)/\(c∉mR/\c∉mD/\c∉m)/\c∉gM++(gR++(gD++g))
 xR:∀c∈mR,(c < H.next/\c≠rb/\c≠q/\c∉F)/\(c∉mM/\c∉mD/\c∉m)/\c∉gM++(gR++(gD++g))
 xD:∀c∈mD,(c < H.next/\c≠rb/\c≠q/\c∉F)/\(c∉mM/\c∉mR/\c∉m)/\c∉gM++(gR++(gD++g))
 xm:∀c∈m,(c∉mM/\c∉mR/\c∉mD)/\c∉gM++(gR++(gD++g))
 hG:∀c∈gM++(gR++gD),c < H.next/\c≠rb/\c≠q
 bM:P.msgs.length<=12
 bR:P.bZ.length<=8
 bD:P.defs.length<=16
def DQ0 (L:List bh) (F:List Nat) (H:ad) (q rb:Nat) (st:aG) (P:bC) (T G:List Nat):Prop:=
 ∃c1 c2 c3 mM gM mR gR mD gD m g,DF L F c1 c2 c3 H q rb st P mM gM mR gR mD gD m g/\T=mM++(mR++(mD++m))/\G=gM++(gR++(gD++g))
structure DQ (L:List bh) (F:List Nat) (H:ad) (q rb:Nat) (st:aG) (P:bC) (T G:List Nat):Prop where
 dq:DQ0 L F H q rb st P T G
 fz:H.fz rb=false
 fq:H.fz q=false
 fT:∀c∈T,H.fz c=false
 fn:∀b,H.next<=b->H.fz b=false
def D7 (L:List bh) (F:List Nat) (H:ad) (q rb:Nat) (T G:List Nat) (bO:aG) (P':bC) (H':ad):Prop:=
 Fr (rb::q::T) H H'/\(∀c,H'.fz c=H.fz c)/\∃T' G',DQ0 L F H' q rb bO P' T' G'/\(∀c∈T',c∈T∨H.next<=c)/\∀c∈G',c∈G∨H.next<=c
theorem Zx {c:Nat} {a b d e x:List Nat} (h:c∈(a++x)++(b++(d++e))):c∈a++(b++(d++e))∨c∈x:=by
 simp only [List.mem_append] at h ⊢
 rcases h with (h | h) | h | h | h <;> simp [h]
theorem Zy {c:Nat} {a b d e x:List Nat} (h:c∈a++((b++x)++(d++e))):c∈a++(b++(d++e))∨c∈x:=by
 simp only [List.mem_append] at h ⊢
 rcases h with h | (h | h) | h | h <;> simp [h]
theorem Zz {c:Nat} {a b d e x:List Nat} (h:c∈a++(b++((d++x)++e))):c∈a++(b++(d++e))∨c∈x:=by
 simp only [List.mem_append] at h ⊢
 rcases h with h | h | (h | h) | h <;> simp [h]
theorem aik {c:Nat} {a b d x:List Nat} (h:c∈(a++x)++(b++d)):c∈a++(b++d)∨c∈x:=by
 simp only [List.mem_append] at h ⊢
 rcases h with (h | h) | h | h <;> simp [h]
theorem ail {c:Nat} {a b d x:List Nat} (h:c∈a++((b++x)++d)):c∈a++(b++d)∨c∈x:=by
 simp only [List.mem_append] at h ⊢
 rcases h with h | (h | h) | h <;> simp [h]
theorem YC {c:Nat} {a b d x:List Nat} (h:c∈a++(b++(d++x))):c∈a++(b++d)∨c∈x:=by
 simp only [List.mem_append] at h ⊢
 rcases h with h | h | h | h <;> simp [h]
theorem Eh {c:Nat} {a b d e:List Nat} (h:c∈a++(b++(d++e))):c∈a++(b++d)∨c∈e:=YC h
theorem CE {c:Nat} {a b d e:List Nat} (h:c∈a++(b++d)):c∈a++(b++(d++e)):=by
 simp only [List.mem_append] at h ⊢
 rcases h with h | h | h <;> simp [h]
section
variable {L:List bh} {F:List Nat} {c1 c2 c3:Value} {H H1 H2 H7:ad} {q rb nb:Nat} {st cA bu:aG} {P:bC} {bk:List aH} {mM gM mR gR mD gD m g m1 g1:List Nat}
theorem DQ.post {T G:List Nat} {bO:aG} {P':bC} (h:DQ L F H q rb st P T G) (hp:D7 L F H q rb T G bO P' H1):∃T' G',DQ L F H1 q rb bO P' T' G'/\(∀c∈T',c∈T∨H.next<=c)/\∀c∈G',c∈G∨H.next<=c:=by
 obtain ⟨hf,hz,T',G',h0,hs,iN⟩:=hp
 refine ⟨T',G',⟨h0,by rw [hz];exact h.fz,by rw [hz];exact h.fq,fun c hc=>?_,fun b hb=>by rw [hz];exact h.fn b (Nat.le_trans hf.nx hb)⟩,hs,iN⟩
 rw [hz]
 rcases hs c hc with e | e
 ·exact h.fT c e
 ·exact h.fn c e
theorem DF.nr (h:DF L F c1 c2 c3 H q rb st P mM gM mR gR mD gD m g) (r:NR L F c1 c2 c3 H q rb P.nodes m g H1 cA bk m1 g1):DF L F c1 c2 c3 H1 q rb cA {P with nodes:=bk} mM gM mR gR mD gD m1 g1:=by
 have dO:=r.fr.nx
 have k:∀c,c < H.next->c≠rb->c≠q->c∉m->H1.get c=H.get c:=fun c h1 h2 h3 h4=>r.fr.get c h1 (by simp only [List.mem_cons,not_or];exact ⟨h2,h3,h4⟩)
 have kM:∀c∈mM,H1.get c=H.get c:=fun c hc=>k c (h.xM c hc).1.1 (h.xM c hc).1.2.1 (h.xM c hc).1.2.2.1 (h.xM c hc).2.1.2.2
 have kR:∀c∈mR,H1.get c=H.get c:=fun c hc=>k c (h.xR c hc).1.1 (h.xR c hc).1.2.1 (h.xR c hc).1.2.2.1 (h.xR c hc).2.1.2.2
 have kD:∀c∈mD,H1.get c=H.get c:=fun c hc=>k c (h.xD c hc).1.1 (h.xD c hc).1.2.1 (h.xD c hc).1.2.2.1 (h.xD c hc).2.1.2.2
 have kG:∀c∈gM++(gR++gD),H1.get c=H.get c:=fun c hc=>k c (h.hG c hc).1 (h.hG c hc).2.1 (h.hG c hc).2.2 fun e=>(h.xm c e).2 (CE hc)
 have xx:∀{a b:List Nat} {c:Nat},(c < H.next/\c≠rb/\c≠q/\c∉F)/\(c∉a/\c∉b/\c∉m)/\c∉gM++(gR++(gD++g))->(c < H1.next/\c≠rb/\c≠q/\c∉F)/\(c∉a/\c∉b/\c∉m1)/\c∉gM++(gR++(gD++g1)):=fun {a b c} hc=>by
  refine ⟨⟨by have:=hc.1.1;omega,hc.1.2⟩,⟨hc.2.1.1,hc.2.1.2.1,fun e=>(r.sm c e).elim hc.2.1.2.2 fun e=>by have:=hc.1.1;omega⟩,fun e=>?_⟩
  simp only [List.mem_append] at e
  have hg:=hc.2.2
  simp only [List.mem_append,not_or] at hg
  rcases e with e | e | e | e
  ·exact hg.1 e
  ·exact hg.2.1 e
  ·exact hg.2.2.1 e
  ·exact (r.sg c e).elim hg.2.2.2 fun e=>by have:=hc.1.1;omega
 refine ⟨r.nq.toNQ0,h.hM.ae kM fun c hc=>kG c (by simp [hc]),h.hR.ae kR fun c hc=>kG c (by simp [hc]),h.hD.ae kD fun c hc=>kG c (by simp [hc]),fun c hc=>xx (h.xM c hc),fun c hc=>xx (h.xR c hc),fun c hc=>xx (h.xD c hc),fun c hc=>?_,fun c hc=>⟨by have:=(h.hG c hc).1;omega,(h.hG c hc).2⟩,h.bM,h.bR,h.bD⟩
 have yC:=r.nq.hm c hc
 refine ⟨⟨fun e=>?_,fun e=>?_,fun e=>?_⟩,fun e=>?_⟩
 ·exact (xx (h.xM c e)).2.1.2.2 hc
 ·exact (xx (h.xR c e)).2.1.2.2 hc
 ·exact (xx (h.xD c e)).2.1.2.2 hc
 ·rcases Eh e with e | e
  ·rcases r.sm c hc with e' | e'
   ·exact (h.xm c e').2 (CE e)
   ·have:=(h.hG c e).1;omega
  ·exact yC.2.2.2.2 e
theorem DF.q0 (h:DF L F c1 c2 c3 H q rb st P mM gM mR gR mD gD m g):DQ0 L F H q rb st P (mM++(mR++(mD++m))) (gM++(gR++(gD++g))):=⟨_,_,_,_,_,_,_,_,_,_,_,h,rfl,rfl⟩
theorem DQ0.ai {T G:List Nat} {fz:Nat->Bool} (h:DQ0 L F H q rb st P T G):DQ0 L F (H.ai fz) q rb st P T G:=by
 obtain ⟨c1,c2,c3,mM,gM,mR,gR,mD,gD,m,g,h,rfl,rfl⟩:=h
 exact ⟨_,_,_,_,_,_,_,_,_,_,_,⟨h.nq.ai,h.hM.ae (fun _ _=>rfl) (fun _ _=>rfl),h.hR.ae (fun _ _=>rfl) (fun _ _=>rfl),h.hD.ae (fun _ _=>rfl) (fun _ _=>rfl),h.xM,h.xR,h.xD,h.xm,h.hG,h.bM,h.bR,h.bD⟩,rfl,rfl⟩
theorem DF.ajW (h:DF L F c1 c2 c3 H q rb st P mM gM mR gR mD gD m g) {v7 vN:Value} {x:A1} {g':List Nat} (hq:H.get q=some ⟨[pV rb,c1,c2,c3,vN],127,false,false⟩) (bG:Gr o9 107 H7 v7 (P.msgs++[x]) [H.next] (gM++g')) (eW:∀c∈g',(c < H.next/\c≠rb/\c≠q)/\c∉mM/\c∉mR/\c∉mD/\c∉m)
  (dr:Fr mM H H7) (dX:H7.next=H.next+1) (hb:P.msgs.length < 12):
  DF L F v7 c2 c3 (H7.ah q ⟨[pV rb,v7,c2,c3,vN],127,false,false⟩) q rb st {P with msgs:=P.msgs++[x]} [H.next] (gM++g') mR gR mD gD m g/\Fr (q::mM) H (H7.ah q ⟨[pV rb,v7,c2,c3,vN],127,false,false⟩):=by
 have mq:q∉mM:=fun e=>(h.xM q e).1.2.2.1 rfl
 have mr:rb∉mM:=fun e=>(h.xM rb e).1.2.1 rfl
 have p7:PP0 L F H7 q rb st:=h.nq.pp.fr dr mq mr fun c hc e=>(h.xM c e).1.2.2.2 hc
 have OU:=h.nq.pp.ql
 have pG:=h.nq.pp.rl
 have k:∀c,c < H.next->c∉mM->c≠q->(H7.ah q ⟨[pV rb,v7,c2,c3,vN],127,false,false⟩).get c=H.get c:=fun c h1 h2 h3=>by rw [az,if_neg h3];exact dr.get c h1 h2
 have kG:∀c∈gM++(gR++(gD++g)),c < H.next/\c≠q->(H7.ah q ⟨[pV rb,v7,c2,c3,vN],127,false,false⟩).get c=H.get c:=fun c hc e=>k c e.1 (fun e'=>(h.xM c e').2.2 hc) e.2
 have g3:∀c∈gM++(gR++gD),c∈gM++(gR++(gD++g)):=fun c hc=>CE hc
 obtain ⟨O6,lZ,cw⟩:=h.nq.row
 rw [hq] at lZ
 cases lZ
 have Kv:Fr (q::mM) H (H7.ah q ⟨[pV rb,v7,c2,c3,vN],127,false,false⟩):=(dr.sub fun c hc=>.inl (by simp [hc])).ah (.inl (by simp)) _
 have nx:(H7.ah q ⟨[pV rb,v7,c2,c3,vN],127,false,false⟩).next=H.next+1:=dX
 have qP:∀{c:Nat},c∉gM++(gR++(gD++g))->c∉g'->c∉(gM++g')++(gR++(gD++g)):=fun {c} h1 h2 e=>by
  exact (Zx e).elim h1 h2
 have fresh:(H.next∉(gM++g')++(gR++(gD++g))):=qP (fun e=>by
  rcases Eh e with e | e
  ·have:=(h.hG _ e).1;omega
  ·have:=(h.nq.hg _ e).1;omega) (fun e=>by have:=(eW _ e).1.1;omega)
 refine ⟨⟨⟨p7.HW,⟨vN,by rw [az,if_pos rfl],cw.ae (fun c hc=>k c (h.nq.hm c hc).1 (fun e=>(h.xm c hc).1.1 e) (h.nq.hm c hc).2.2.1) (fun c hc=>kG c (by simp [hc]) ⟨(h.nq.hg c hc).1,(h.nq.hg c hc).2.2⟩)⟩,fun c hc=>⟨by have:=(h.nq.hm c hc).1;rw [nx];omega,(h.nq.hm c hc).2⟩,fun c hc=>⟨by have:=(h.nq.hg c hc).1;rw [nx];omega,(h.nq.hg c hc).2⟩,h.nq.hn⟩,
  bG.ae (fun c hc=>by rw [List.mem_singleton] at hc;rw [az,if_neg (by omega)]) (fun c hc=>by rw [az,if_neg];rcases List.mem_append.1 hc with e | e;exact (h.hG c (by simp [e])).2.2;exact (eW c e).1.2.2),
  h.hR.ae (fun c hc=>k c (h.xR c hc).1.1 (h.xR c hc).2.1.1 (h.xR c hc).1.2.2.1) (fun c hc=>kG c (g3 c (by simp [hc])) ⟨(h.hG c (by simp [hc])).1,(h.hG c (by simp [hc])).2.2⟩),
  h.hD.ae (fun c hc=>k c (h.xD c hc).1.1 (h.xD c hc).2.1.1 (h.xD c hc).1.2.2.1) (fun c hc=>kG c (g3 c (by simp [hc])) ⟨(h.hG c (by simp [hc])).1,(h.hG c (by simp [hc])).2.2⟩),
  fun c hc=>by
   rw [List.mem_singleton] at hc
   subst hc
   exact ⟨⟨by rw [nx];omega,by omega,by omega,fun e=>by have:=(h.nq.pp.hF _ e).1;omega⟩,⟨fun e=>by have:=(h.xR _ e).1.1;omega,fun e=>by have:=(h.xD _ e).1.1;omega,fun e=>by have:=(h.nq.hm _ e).1;omega⟩,fresh⟩,
  fun c hc=>⟨⟨by have:=(h.xR c hc).1.1;rw [nx];omega,(h.xR c hc).1.2⟩,⟨fun e=>by rw [List.mem_singleton] at e;have:=(h.xR c hc).1.1;omega,(h.xR c hc).2.1.2.1,(h.xR c hc).2.1.2.2⟩,qP (h.xR c hc).2.2 fun e=>(eW c e).2.2.1 hc⟩,
  fun c hc=>⟨⟨by have:=(h.xD c hc).1.1;rw [nx];omega,(h.xD c hc).1.2⟩,⟨fun e=>by rw [List.mem_singleton] at e;have:=(h.xD c hc).1.1;omega,(h.xD c hc).2.1.2.1,(h.xD c hc).2.1.2.2⟩,qP (h.xD c hc).2.2 fun e=>(eW c e).2.2.2.1 hc⟩,
  fun c hc=>⟨⟨fun e=>by rw [List.mem_singleton] at e;have:=(h.nq.hm c hc).1;omega,(h.xm c hc).1.2.1,(h.xm c hc).1.2.2⟩,qP (h.xm c hc).2 fun e=>(eW c e).2.2.2.2 hc⟩,
  fun c hc=>?_,by rw [List.length_append,List.length_singleton];omega,h.bR,h.bD⟩,Kv⟩
 rw [nx]
 have sA:c∈gM++(gR++gD)∨c∈g':=aik hc
 rcases sA with e | e
 ·have:=h.hG c e;exact ⟨by omega,this.2⟩
 ·have:=(eW c e).1;exact ⟨by omega,this.2⟩
theorem DF.ajX (h:DF L F c1 c2 c3 H q rb st P mM gM mR gR mD gD m g) {v7 vN:Value} {x:A2} {g':List Nat} (hq:H.get q=some ⟨[pV rb,c1,c2,c3,vN],127,false,false⟩) (bG:Gr qm 164 H7 v7 (P.bZ++[x]) [H.next] (gR++g')) (eW:∀c∈g',(c < H.next/\c≠rb/\c≠q)/\c∉mM/\c∉mR/\c∉mD/\c∉m)
  (dr:Fr mR H H7) (dX:H7.next=H.next+1) (hb:P.bZ.length < 8):
  DF L F c1 v7 c3 (H7.ah q ⟨[pV rb,c1,v7,c3,vN],127,false,false⟩) q rb st {P with bZ:=P.bZ++[x]} mM gM [H.next] (gR++g') mD gD m g/\Fr (q::mR) H (H7.ah q ⟨[pV rb,c1,v7,c3,vN],127,false,false⟩):=by
 have mq:q∉mR:=fun e=>(h.xR q e).1.2.2.1 rfl
 have mr:rb∉mR:=fun e=>(h.xR rb e).1.2.1 rfl
 have p7:PP0 L F H7 q rb st:=h.nq.pp.fr dr mq mr fun c hc e=>(h.xR c e).1.2.2.2 hc
 have OU:=h.nq.pp.ql
 have pG:=h.nq.pp.rl
 have k:∀c,c < H.next->c∉mR->c≠q->(H7.ah q ⟨[pV rb,c1,v7,c3,vN],127,false,false⟩).get c=H.get c:=fun c h1 h2 h3=>by rw [az,if_neg h3];exact dr.get c h1 h2
 have kG:∀c∈gM++(gR++(gD++g)),c < H.next/\c≠q->(H7.ah q ⟨[pV rb,c1,v7,c3,vN],127,false,false⟩).get c=H.get c:=fun c hc e=>k c e.1 (fun e'=>(h.xR c e').2.2 hc) e.2
 have g3:∀c∈gM++(gR++gD),c∈gM++(gR++(gD++g)):=fun c hc=>CE hc
 obtain ⟨O6,lZ,cw⟩:=h.nq.row
 rw [hq] at lZ
 cases lZ
 have Kv:Fr (q::mR) H (H7.ah q ⟨[pV rb,c1,v7,c3,vN],127,false,false⟩):=(dr.sub fun c hc=>.inl (by simp [hc])).ah (.inl (by simp)) _
 have nx:(H7.ah q ⟨[pV rb,c1,v7,c3,vN],127,false,false⟩).next=H.next+1:=dX
 have qP:∀{c:Nat},c∉gM++(gR++(gD++g))->c∉g'->c∉gM++((gR++g')++(gD++g)):=fun {c} h1 h2 e=>by
  exact (Zy e).elim h1 h2
 have fresh:(H.next∉gM++((gR++g')++(gD++g))):=qP (fun e=>by
  rcases Eh e with e | e
  ·have:=(h.hG _ e).1;omega
  ·have:=(h.nq.hg _ e).1;omega) (fun e=>by have:=(eW _ e).1.1;omega)
 refine ⟨⟨⟨p7.HW,⟨vN,by rw [az,if_pos rfl],cw.ae (fun c hc=>k c (h.nq.hm c hc).1 (fun e=>(h.xm c hc).1.2.1 e) (h.nq.hm c hc).2.2.1) (fun c hc=>kG c (by simp [hc]) ⟨(h.nq.hg c hc).1,(h.nq.hg c hc).2.2⟩)⟩,fun c hc=>⟨by have:=(h.nq.hm c hc).1;rw [nx];omega,(h.nq.hm c hc).2⟩,fun c hc=>⟨by have:=(h.nq.hg c hc).1;rw [nx];omega,(h.nq.hg c hc).2⟩,h.nq.hn⟩,
  h.hM.ae (fun c hc=>k c (h.xM c hc).1.1 (h.xM c hc).2.1.1 (h.xM c hc).1.2.2.1) (fun c hc=>kG c (g3 c (by simp [hc])) ⟨(h.hG c (by simp [hc])).1,(h.hG c (by simp [hc])).2.2⟩),
  bG.ae (fun c hc=>by rw [List.mem_singleton] at hc;rw [az,if_neg (by omega)]) (fun c hc=>by rw [az,if_neg];rcases List.mem_append.1 hc with e | e;exact (h.hG c (by simp [e])).2.2;exact (eW c e).1.2.2),
  h.hD.ae (fun c hc=>k c (h.xD c hc).1.1 (h.xD c hc).2.1.2.1 (h.xD c hc).1.2.2.1) (fun c hc=>kG c (g3 c (by simp [hc])) ⟨(h.hG c (by simp [hc])).1,(h.hG c (by simp [hc])).2.2⟩),
  fun c hc=>⟨⟨by have:=(h.xM c hc).1.1;rw [nx];omega,(h.xM c hc).1.2⟩,⟨fun e=>by rw [List.mem_singleton] at e;have:=(h.xM c hc).1.1;omega,(h.xM c hc).2.1.2.1,(h.xM c hc).2.1.2.2⟩,qP (h.xM c hc).2.2 fun e=>(eW c e).2.1 hc⟩,
  fun c hc=>by
   rw [List.mem_singleton] at hc
   subst hc
   exact ⟨⟨by rw [nx];omega,by omega,by omega,fun e=>by have:=(h.nq.pp.hF _ e).1;omega⟩,⟨fun e=>by have:=(h.xM _ e).1.1;omega,fun e=>by have:=(h.xD _ e).1.1;omega,fun e=>by have:=(h.nq.hm _ e).1;omega⟩,fresh⟩,
  fun c hc=>⟨⟨by have:=(h.xD c hc).1.1;rw [nx];omega,(h.xD c hc).1.2⟩,⟨(h.xD c hc).2.1.1,fun e=>by rw [List.mem_singleton] at e;have:=(h.xD c hc).1.1;omega,(h.xD c hc).2.1.2.2⟩,qP (h.xD c hc).2.2 fun e=>(eW c e).2.2.2.1 hc⟩,
  fun c hc=>⟨⟨(h.xm c hc).1.1,fun e=>by rw [List.mem_singleton] at e;have:=(h.nq.hm c hc).1;omega,(h.xm c hc).1.2.2⟩,qP (h.xm c hc).2 fun e=>(eW c e).2.2.2.2 hc⟩,
  fun c hc=>?_,h.bM,by rw [List.length_append,List.length_singleton];omega,h.bD⟩,Kv⟩
 rw [nx]
 have sA:c∈gM++(gR++gD)∨c∈g':=ail hc
 rcases sA with e | e
 ·have:=h.hG c e;exact ⟨by omega,this.2⟩
 ·have:=(eW c e).1;exact ⟨by omega,this.2⟩
theorem DF.ajY (h:DF L F c1 c2 c3 H q rb st P mM gM mR gR mD gD m g) {v7 vN:Value} {x:eH} {g':List Nat} (hq:H.get q=some ⟨[pV rb,c1,c2,c3,vN],127,false,false⟩) (bG:Gr jh 38 H7 v7 (P.defs++[x]) [H.next] (gD++g')) (eW:∀c∈g',(c < H.next/\c≠rb/\c≠q)/\c∉mM/\c∉mR/\c∉mD/\c∉m)
  (dr:Fr mD H H7) (dX:H7.next=H.next+1) (hb:P.defs.length < 16):
  DF L F c1 c2 v7 (H7.ah q ⟨[pV rb,c1,c2,v7,vN],127,false,false⟩) q rb st {P with defs:=P.defs++[x]} mM gM mR gR [H.next] (gD++g') m g/\Fr (q::mD) H (H7.ah q ⟨[pV rb,c1,c2,v7,vN],127,false,false⟩):=by
 have mq:q∉mD:=fun e=>(h.xD q e).1.2.2.1 rfl
 have mr:rb∉mD:=fun e=>(h.xD rb e).1.2.1 rfl
 have p7:PP0 L F H7 q rb st:=h.nq.pp.fr dr mq mr fun c hc e=>(h.xD c e).1.2.2.2 hc
 have OU:=h.nq.pp.ql
 have pG:=h.nq.pp.rl
 have k:∀c,c < H.next->c∉mD->c≠q->(H7.ah q ⟨[pV rb,c1,c2,v7,vN],127,false,false⟩).get c=H.get c:=fun c h1 h2 h3=>by rw [az,if_neg h3];exact dr.get c h1 h2
 have kG:∀c∈gM++(gR++(gD++g)),c < H.next/\c≠q->(H7.ah q ⟨[pV rb,c1,c2,v7,vN],127,false,false⟩).get c=H.get c:=fun c hc e=>k c e.1 (fun e'=>(h.xD c e').2.2 hc) e.2
 have g3:∀c∈gM++(gR++gD),c∈gM++(gR++(gD++g)):=fun c hc=>CE hc
 obtain ⟨O6,lZ,cw⟩:=h.nq.row
 rw [hq] at lZ
 cases lZ
 have Kv:Fr (q::mD) H (H7.ah q ⟨[pV rb,c1,c2,v7,vN],127,false,false⟩):=(dr.sub fun c hc=>.inl (by simp [hc])).ah (.inl (by simp)) _
 have nx:(H7.ah q ⟨[pV rb,c1,c2,v7,vN],127,false,false⟩).next=H.next+1:=dX
 have qP:∀{c:Nat},c∉gM++(gR++(gD++g))->c∉g'->c∉gM++(gR++((gD++g')++g)):=fun {c} h1 h2 e=>by
  exact (Zz e).elim h1 h2
 have fresh:(H.next∉gM++(gR++((gD++g')++g))):=qP (fun e=>by
  rcases Eh e with e | e
  ·have:=(h.hG _ e).1;omega
  ·have:=(h.nq.hg _ e).1;omega) (fun e=>by have:=(eW _ e).1.1;omega)
 refine ⟨⟨⟨p7.HW,⟨vN,by rw [az,if_pos rfl],cw.ae (fun c hc=>k c (h.nq.hm c hc).1 (fun e=>(h.xm c hc).1.2.2 e) (h.nq.hm c hc).2.2.1) (fun c hc=>kG c (by simp [hc]) ⟨(h.nq.hg c hc).1,(h.nq.hg c hc).2.2⟩)⟩,fun c hc=>⟨by have:=(h.nq.hm c hc).1;rw [nx];omega,(h.nq.hm c hc).2⟩,fun c hc=>⟨by have:=(h.nq.hg c hc).1;rw [nx];omega,(h.nq.hg c hc).2⟩,h.nq.hn⟩,
  h.hM.ae (fun c hc=>k c (h.xM c hc).1.1 (h.xM c hc).2.1.2.1 (h.xM c hc).1.2.2.1) (fun c hc=>kG c (g3 c (by simp [hc])) ⟨(h.hG c (by simp [hc])).1,(h.hG c (by simp [hc])).2.2⟩),
  h.hR.ae (fun c hc=>k c (h.xR c hc).1.1 (h.xR c hc).2.1.2.1 (h.xR c hc).1.2.2.1) (fun c hc=>kG c (g3 c (by simp [hc])) ⟨(h.hG c (by simp [hc])).1,(h.hG c (by simp [hc])).2.2⟩),
  bG.ae (fun c hc=>by rw [List.mem_singleton] at hc;rw [az,if_neg (by omega)]) (fun c hc=>by rw [az,if_neg];rcases List.mem_append.1 hc with e | e;exact (h.hG c (by simp [e])).2.2;exact (eW c e).1.2.2),
  fun c hc=>⟨⟨by have:=(h.xM c hc).1.1;rw [nx];omega,(h.xM c hc).1.2⟩,⟨(h.xM c hc).2.1.1,fun e=>by rw [List.mem_singleton] at e;have:=(h.xM c hc).1.1;omega,(h.xM c hc).2.1.2.2⟩,qP (h.xM c hc).2.2 fun e=>(eW c e).2.1 hc⟩,
  fun c hc=>⟨⟨by have:=(h.xR c hc).1.1;rw [nx];omega,(h.xR c hc).1.2⟩,⟨(h.xR c hc).2.1.1,fun e=>by rw [List.mem_singleton] at e;have:=(h.xR c hc).1.1;omega,(h.xR c hc).2.1.2.2⟩,qP (h.xR c hc).2.2 fun e=>(eW c e).2.2.1 hc⟩,
  fun c hc=>by
   rw [List.mem_singleton] at hc
   subst hc
   exact ⟨⟨by rw [nx];omega,by omega,by omega,fun e=>by have:=(h.nq.pp.hF _ e).1;omega⟩,⟨fun e=>by have:=(h.xM _ e).1.1;omega,fun e=>by have:=(h.xR _ e).1.1;omega,fun e=>by have:=(h.nq.hm _ e).1;omega⟩,fresh⟩,
  fun c hc=>⟨⟨(h.xm c hc).1.1,(h.xm c hc).1.2.1,fun e=>by rw [List.mem_singleton] at e;have:=(h.nq.hm c hc).1;omega⟩,qP (h.xm c hc).2 fun e=>(eW c e).2.2.2.2 hc⟩,
  fun c hc=>?_,h.bM,h.bR,by rw [List.length_append,List.length_singleton];omega⟩,Kv⟩
 rw [nx]
 have sA:c∈gM++(gR++gD)∨c∈g':=YC hc
 rcases sA with e | e
 ·have:=h.hG c e;exact ⟨by omega,this.2⟩
 ·have:=(eW c e).1;exact ⟨by omega,this.2⟩
end
section
variable {L:List bh} {F:List Nat} {c1 c2 c3:Value} {H H1 H2 H3 H6 H7:ad} {q rb nb:Nat} {st cA bu ew:aG} {P:bC} {bk yL:List aH} {mM gM mR gR mD gD m g m1 g1 m2 g2 m3 g3 m6 g6:List Nat}
theorem DF.ajZ (h:DF L F c1 c2 c3 H q rb st P mM gM mR gR mD gD m g) (r:NR L F c1 c2 c3 H q rb P.nodes m g H6 ew yL m6 g6) {v7 vN:Value} {x:A1} {g':List Nat} (hq:H6.get q=some ⟨[pV rb,c1,c2,c3,vN],127,false,false⟩) (bG:Gr o9 107 H7 v7 (P.msgs++[x]) [H6.next] (gM++g')) (eW:∀c∈g',dY H H6 m6 g6 c)
  (dr:Fr mM H6 H7) (dX:H7.next=H6.next+1) (hb:P.msgs.length < 12):
  D7 L F H q rb (mM++(mR++(mD++m))) (gM++(gR++(gD++g))) ew {P with nodes:=yL,msgs:=P.msgs++[x]} ((H7.ah q ⟨[pV rb,v7,c2,c3,vN],127,false,false⟩).ai H.fz):=by
 have d:=h.nr r
 have dO:=r.fr.nx
 obtain ⟨d8,f8⟩:=d.ajW hq bG (fun c hc=>by
  have hm:=eW c hc
  obtain ⟨e1,e2,e3⟩:=h.nq.pp.fresh hm.1
  have:=hm.1
  exact ⟨⟨hm.2.1,e2,e1⟩,fun e=>by have:=(h.xM c e).1.1;omega,fun e=>by have:=(h.xR c e).1.1;omega,fun e=>by have:=(h.xD c e).1.1;omega,hm.2.2.1⟩) dr dX hb
 have f6:Fr (rb::q::(mM++(mR++(mD++m)))) H H6:=r.fr.sub fun c hc=>.inl (by
  simp only [List.mem_cons,List.mem_append] at hc ⊢
  rcases hc with e | e | e <;> simp [e])
 have LC:Fr (rb::q::(mM++(mR++(mD++m)))) H6 (H7.ah q ⟨[pV rb,v7,c2,c3,vN],127,false,false⟩):=f8.sub fun c hc=>.inl (by
  simp only [List.mem_cons,List.mem_append] at hc ⊢
  rcases hc with e | e <;> simp [e])
 refine ⟨(f6.then LC).ai _,fun _=>rfl,_,_,d8.q0.ai,fun c hc=>?_,fun c hc=>?_⟩
 ·simp only [List.mem_append,List.mem_singleton] at hc ⊢
  rcases hc with e | e | e | e
  ·exact .inr (by omega)
  ·exact .inl (by simp [e])
  ·exact .inl (by simp [e])
  ·exact (r.sm c e).imp (fun e=>by simp [e]) id
 ·rcases Zx hc with e | e
  ·rcases Eh e with e | e
   ·exact .inl (CE e)
   ·exact (r.sg c e).imp (fun e=>by simp [e]) id
  ·exact .inr (eW c e).1
theorem DF.aj0 (h:DF L F c1 c2 c3 H q rb st P mM gM mR gR mD gD m g) (r:NR L F c1 c2 c3 H q rb P.nodes m g H6 ew yL m6 g6) {v7 vN:Value} {x:A2} {g':List Nat} (hq:H6.get q=some ⟨[pV rb,c1,c2,c3,vN],127,false,false⟩) (bG:Gr qm 164 H7 v7 (P.bZ++[x]) [H6.next] (gR++g')) (eW:∀c∈g',dY H H6 m6 g6 c)
  (dr:Fr mR H6 H7) (dX:H7.next=H6.next+1) (hb:P.bZ.length < 8):
  D7 L F H q rb (mM++(mR++(mD++m))) (gM++(gR++(gD++g))) ew {P with nodes:=yL,bZ:=P.bZ++[x]} ((H7.ah q ⟨[pV rb,c1,v7,c3,vN],127,false,false⟩).ai H.fz):=by
 have d:=h.nr r
 have dO:=r.fr.nx
 obtain ⟨d8,f8⟩:=d.ajX hq bG (fun c hc=>by
  have hm:=eW c hc
  obtain ⟨e1,e2,e3⟩:=h.nq.pp.fresh hm.1
  have:=hm.1
  exact ⟨⟨hm.2.1,e2,e1⟩,fun e=>by have:=(h.xM c e).1.1;omega,fun e=>by have:=(h.xR c e).1.1;omega,fun e=>by have:=(h.xD c e).1.1;omega,hm.2.2.1⟩) dr dX hb
 have f6:Fr (rb::q::(mM++(mR++(mD++m)))) H H6:=r.fr.sub fun c hc=>.inl (by
  simp only [List.mem_cons,List.mem_append] at hc ⊢
  rcases hc with e | e | e <;> simp [e])
 have LC:Fr (rb::q::(mM++(mR++(mD++m)))) H6 (H7.ah q ⟨[pV rb,c1,v7,c3,vN],127,false,false⟩):=f8.sub fun c hc=>.inl (by
  simp only [List.mem_cons,List.mem_append] at hc ⊢
  rcases hc with e | e <;> simp [e])
 refine ⟨(f6.then LC).ai _,fun _=>rfl,_,_,d8.q0.ai,fun c hc=>?_,fun c hc=>?_⟩
 ·simp only [List.mem_append,List.mem_singleton] at hc ⊢
  rcases hc with e | e | e | e
  ·exact .inl (by simp [e])
  ·exact .inr (by omega)
  ·exact .inl (by simp [e])
  ·exact (r.sm c e).imp (fun e=>by simp [e]) id
 ·rcases Zy hc with e | e
  ·rcases Eh e with e | e
   ·exact .inl (CE e)
   ·exact (r.sg c e).imp (fun e=>by simp [e]) id
  ·exact .inr (eW c e).1
theorem DF.N7 (h:DF L F c1 c2 c3 H q rb st P mM gM mR gR mD gD m g) (r:NR L F c1 c2 c3 H q rb P.nodes m g H6 ew yL m6 g6) {v7 vN:Value} {x:eH} {g':List Nat} (hq:H6.get q=some ⟨[pV rb,c1,c2,c3,vN],127,false,false⟩) (bG:Gr jh 38 H7 v7 (P.defs++[x]) [H6.next] (gD++g')) (eW:∀c∈g',dY H H6 m6 g6 c)
  (dr:Fr mD H6 H7) (dX:H7.next=H6.next+1) (hb:P.defs.length < 16):
  D7 L F H q rb (mM++(mR++(mD++m))) (gM++(gR++(gD++g))) ew {P with nodes:=yL,defs:=P.defs++[x]} ((H7.ah q ⟨[pV rb,c1,c2,v7,vN],127,false,false⟩).ai H.fz):=by
 have d:=h.nr r
 have dO:=r.fr.nx
 obtain ⟨d8,f8⟩:=d.ajY hq bG (fun c hc=>by
  have hm:=eW c hc
  obtain ⟨e1,e2,e3⟩:=h.nq.pp.fresh hm.1
  have:=hm.1
  exact ⟨⟨hm.2.1,e2,e1⟩,fun e=>by have:=(h.xM c e).1.1;omega,fun e=>by have:=(h.xR c e).1.1;omega,fun e=>by have:=(h.xD c e).1.1;omega,hm.2.2.1⟩) dr dX hb
 have f6:Fr (rb::q::(mM++(mR++(mD++m)))) H H6:=r.fr.sub fun c hc=>.inl (by
  simp only [List.mem_cons,List.mem_append] at hc ⊢
  rcases hc with e | e | e <;> simp [e])
 have LC:Fr (rb::q::(mM++(mR++(mD++m)))) H6 (H7.ah q ⟨[pV rb,c1,c2,v7,vN],127,false,false⟩):=f8.sub fun c hc=>.inl (by
  simp only [List.mem_cons,List.mem_append] at hc ⊢
  rcases hc with e | e <;> simp [e])
 refine ⟨(f6.then LC).ai _,fun _=>rfl,_,_,d8.q0.ai,fun c hc=>?_,fun c hc=>?_⟩
 ·simp only [List.mem_append,List.mem_singleton] at hc ⊢
  rcases hc with e | e | e | e
  ·exact .inl (by simp [e])
  ·exact .inl (by simp [e])
  ·exact .inr (by omega)
  ·exact (r.sm c e).imp (fun e=>by simp [e]) id
 ·rcases Zz hc with e | e
  ·rcases Eh e with e | e
   ·exact .inl (CE e)
   ·exact (r.sg c e).imp (fun e=>by simp [e]) id
  ·exact .inr (eW c e).1
abbrev dK (d:eH) (vF vP vO:Value):List Value:=[ag d.name,vF,iV d.aX,iV d.body,iV d.line,iV d.au,.bool d.rW,vP,vO]
structure DB (H H2:ad) (m2 g2:List Nat) (bd:Nat) (d:eH) (vF vP vO:Value) (gF gP mB gB:List Nat):Prop where
 hb:H2.get bd=some ⟨dK d vF vP vO,38,false,false⟩
 gH:∀c∈gF++(gP++(mB++gB)),dY H H2 m2 g2 c/\c≠bd
 mb:dY H H2 m2 g2 bd
 sF:Sl ls H2 vF d.params gF
 sP:Sl fy H2 vP d.pat gP
 gO:Gr dB 52 H2 vO d.on mB gB
 FD:∀c∈mB,c∉gF/\c∉gP
theorem DB.ae {bd:Nat} {d:eH} {vF vP vO:Value} {gF gP mB gB M:List Nat} (h:DB H H2 m2 g2 bd d vF vP vO gF gP mB gB) (hf:Fr M H2 H3) (hM:∀c,dY H H2 m2 g2 c->c∉M) (hm:∀c∈m3,c∈m2∨H2.next<=c) (hg:∀c∈g3,c∈g2∨H2.next<=c):DB H H3 m3 g3 bd d vF vP vO gF gP mB gB:=by
 have k:∀c,dY H H2 m2 g2 c->H3.get c=H2.get c:=fun c hc=>hf.get c hc.2.1 (hM c hc)
 exact ⟨(k bd h.mb).trans h.hb,fun c hc=>⟨(h.gH c hc).1.next hf.nx hm hg,(h.gH c hc).2⟩,h.mb.next hf.nx hm hg,h.sF.ae fun c hc=>k c (h.gH c (by simp [hc])).1,h.sP.ae fun c hc=>k c (h.gH c (by simp [hc])).1,h.gO.ae (fun c hc=>k c (h.gH c (by simp [hc])).1) (fun c hc=>k c (h.gH c (by simp [hc])).1),h.FD⟩
theorem DB.YD {bd b:Nat} {d:eH} {vF vP vO:Value} {gF gP mB gB:List Nat} (h:DB H H2 m2 g2 bd d vF vP vO gF gP mB gB) (B:ct) (h1:b≠bd) (h2:b∉gF++(gP++(mB++gB))):DB H (H2.ah b B) m2 g2 bd d vF vP vO gF gP mB gB:=by
 have k:∀c,c≠b->(H2.ah b B).get c=H2.get c:=fun c hc=>by rw [az,if_neg hc]
 have k':∀c∈gF++(gP++(mB++gB)),(H2.ah b B).get c=H2.get c:=fun c hc=>k c fun e=>h2 (e▸hc)
 exact ⟨(k bd h1.symm).trans h.hb,h.gH,h.mb,h.sF.ae fun c hc=>k' c (by simp [hc]),h.sP.ae fun c hc=>k' c (by simp [hc]),h.gO.ae (fun c hc=>k' c (by simp [hc])) (fun c hc=>k' c (by simp [hc])),h.FD⟩
theorem DB.push {bd:Nat} {d:eH} {vF vP vO:Value} {gF gP mB gB:List Nat} (h:DB H H2 m2 g2 bd d vF vP vO gF gP mB gB) (B:ct) (hB:B.ro=false:=by rfl):DB H (H2.push B) m2 g2 bd d vF vP vO gF gP mB gB:=h.ae ((bc.push H2 B hB).fr []) (by simp) (fun _ h=>.inl h) (fun _ h=>.inl h)
theorem DB.put {bd:Nat} {d d':eH} {vF vP vO Dq oN Dr:Value} {gF gP mB gB BJ rG BK Ds:List Nat} (h:DB H H2 m2 g2 bd d vF vP vO gF gP mB gB) (gH:∀c∈BJ++(rG++(BK++Ds)),dY H H2 m2 g2 c/\c≠bd) (sF:Sl ls H2 Dq d'.params BJ) (sP:Sl fy H2 oN d'.pat rG) (gO:Gr dB 52 H2 Dr d'.on BK Ds) (FD:∀c∈BK,c∉BJ/\c∉rG):
  DB H (H2.ah bd ⟨dK d' Dq oN Dr,38,false,false⟩) m2 g2 bd d' Dq oN Dr BJ rG BK Ds:=by
 have k:∀c∈BJ++(rG++(BK++Ds)),(H2.ah bd ⟨dK d' Dq oN Dr,38,false,false⟩).get c=H2.get c:=fun c hc=>by rw [az,if_neg (gH c hc).2]
 exact ⟨by rw [az,if_pos rfl],gH,h.mb,sF.ae fun c hc=>k c (by simp [hc]),sP.ae fun c hc=>k c (by simp [hc]),gO.ae (fun c hc=>k c (by simp [hc])) (fun c hc=>k c (by simp [hc])),FD⟩
theorem DB.app {bd:Nat} {d:eH} {vF vP vO v7:Value} {x:eZ} {gF gP mB gB gN:List Nat} (h:DB H H6 m2 g2 bd d vF vP vO gF gP mB gB) (hn:H.next<=H6.next) (BM:∀c∈m2,c < H6.next) (hg6:∀c∈g2,c < H6.next) (bG:Gr dB 52 H7 v7 (d.on++[x]) [H6.next] (gB++gN)) (dr:Fr mB H6 H7) (dX:H7.next=H6.next+1) (lK:∀c∈gN,dY H H6 m2 g2 c/\c≠bd):
  DB H (H7.ah bd ⟨dK {d with on:=d.on++[x]} vF vP v7,38,false,false⟩) m2 g2 bd {d with on:=d.on++[x]} vF vP v7 gF gP [H6.next] (gB++gN):=by
 have hbB:bd∉mB:=fun e=>(h.gH bd (by simp [e])).2 rfl
 have mm:∀{c:Nat},dY H H6 m2 g2 c->dY H H7 m2 g2 c:=fun hc=>hc.mono (by omega)
 have k:∀c,dY H H6 m2 g2 c->c∉mB->H7.get c=H6.get c:=fun c hc hn=>dr.get c hc.2.1 hn
 have h':(∀c∈gF++(gP++([H6.next]++(gB++gN))),dY H H7 m2 g2 c/\c≠bd)/\dY H H7 m2 g2 bd/\Sl ls H7 vF d.params gF/\Sl fy H7 vP d.pat gP/\Gr dB 52 H7 v7 (d.on++[x]) [H6.next] (gB++gN)/\∀c∈[H6.next],c∉gF/\c∉gP:=by
  refine ⟨fun c hc=>?_,mm h.mb,h.sF.ae fun c hc=>k c (h.gH c (by simp [hc])).1 fun e=>(h.FD c e).1 hc,h.sP.ae fun c hc=>k c (h.gH c (by simp [hc])).1 fun e=>(h.FD c e).2 hc,bG,fun c hc=>?_⟩
  ·simp only [List.mem_append,List.mem_singleton] at hc
   rcases hc with e | e | e | e | e
   ·exact ⟨mm (h.gH c (by simp [e])).1,(h.gH c (by simp [e])).2⟩
   ·exact ⟨mm (h.gH c (by simp [e])).1,(h.gH c (by simp [e])).2⟩
   ·subst e
    exact ⟨⟨hn,by omega,fun e=>by have:=BM _ e;omega,fun e=>by have:=hg6 _ e;omega⟩,by have:=h.mb.2.1;omega⟩
   ·exact ⟨mm (h.gH c (by simp [e])).1,(h.gH c (by simp [e])).2⟩
   ·exact ⟨mm (lK c e).1,(lK c e).2⟩
  ·rw [List.mem_singleton] at hc
   subst hc
   exact ⟨fun e=>by have:=(h.gH _ (List.mem_append_left _ e)).1.2.1;omega,fun e=>by have:=(h.gH H6.next (by simp [e])).1.2.1;omega⟩
 obtain ⟨e1,e2,e3,e4,e5,e6⟩:=h'
 have kk:∀c∈gF++(gP++([H6.next]++(gB++gN))),(H7.ah bd ⟨dK {d with on:=d.on++[x]} vF vP v7,38,false,false⟩).get c=H7.get c:=fun c hc=>by rw [az,if_neg (e1 c hc).2]
 exact ⟨by rw [az,if_pos rfl],e1,e2,e3.ae fun c hc=>kk c (by simp [hc]),e4.ae fun c hc=>kk c (by simp [hc]),e5.ae (fun c hc=>kk c (List.mem_append_right _ (List.mem_append_right _ (List.mem_append_left _ hc)))) (fun c hc=>kk c (List.mem_append_right _ (List.mem_append_right _ (List.mem_append_right _ hc)))),e6⟩
end
section
variable {L:List bh} {F:List Nat} {c1 c2 c3:Value} {H H1 H2 H3 H6 H7:ad} {q rb nb:Nat} {st cA bu ew:aG} {P:bC} {ns bk bK yL:List aH} {mM gM mR gR mD gD m g m1 g1 m2 g2 m3 g3 m6 g6:List Nat}
theorem DF.Lz (h:DF L F c1 c2 c3 H q rb st P mM gM mR gR mD gD m g) (fz:H.fz rb=false) (fq:H.fz q=false) (fT:∀c∈mM++(mR++(mD++m)),H.fz c=false) (fn:∀b,H.next<=b->H.fz b=false):NQ L F c1 c2 c3 H q rb st P.nodes m g:={h.nq with fz:=fz,fq:=fq,fm:=fun c hc=>fT c (by simp [hc]),fn:=fn}
def LD (L:List bh) (ba:pH):Nat->aG->List aH->List eZ->Option (aG × List aH × List eZ)
 | 0,_,_,_=>none
 | k+1,s,ns,l=>
  if c9 s=true/\cQ L [111,110] s=true then
   (if 12 < l.length then some (eQ 3 s,ns,l)
   else (ba 0 ((zt L (cj L (aC s)).2).2,ns)).bind fun x=>LD L ba k x.2.1 x.2.2 (l++[⟨0,0,x.1,(cj L (aC s)).1,[],[],(zt L (cj L (aC s)).2).1⟩]))
  else some (s,ns,l)
def Kw (L:List bh) (ba:pH) (fuel:Nat) (st:aG) (ns:List aH):Option (aG × List aH × eH):=
 (GQ L fuel (cj L (aC st)).2).bind fun f=>
  if cQ L [97,99,116,111,114] st=true then
   (A3 L fuel (dA L [58] f.2)).bind fun p=>(LD L ba 15 (uG L p.2) ns []).map fun B=>
    (GP L B.1,B.2.1,⟨(cj L (aC st)).1,f.1,0, -1,(tk L st).line,(tk L st).au,true,p.1,B.2.2⟩)
  else (ba 0 (f.2,ns)).map fun x=>(x.2.1,x.2.2,⟨(cj L (aC st)).1,f.1,0,x.1,(tk L st).line,(tk L st).au,false,[],[]⟩)
theorem acq {l c:Int} {a:Bool} {h:KH}:fH Tryz.prog 38 [(4,iV l),(5,iV c),(6,.bool a),(3,iV (-1))] h=.ok (.agg #[ag [],.slice none 0 0,iV 0,iV (-1),iV l,iV c,.bool a,.slice none 0 0,.slice none 0 0]) h:=by kernel_rfl
theorem abK {s:bj} {h:KH}:fH Tryz.prog 52 [(3,ag s)] h=.ok (.agg #[iV 0,iV 0,iV 0,ag s,ag [],.slice none 0 0,.slice none 0 0]) h:=by kernel_rfl
theorem YE (hL:LG L) {ba:pH} (iI:∀{c1 c2 c3},A5 L F c1 c2 c3 q rb ba) (h:DF L F c1 c2 c3 H q rb st P mM gM mR gR mD gD m g) (hz:H.fz rb=false) (vC:H.fz q=false) (sU:∀c∈mM++(mR++(mD++m)),H.fz c=false) (ij:(tk L st).kind≠4) (aZ:P.defs.length < 16) {fuel:Nat} {R:aG × List aH × eH} (he:Kw L ba fuel st P.nodes=some R):
  aj Tryz.prog 115 #[pV q] H (fun w H'=>D7 L F H q rb (mM++(mR++(mD++m))) (gM++(gR++(gD++g))) R.1 {P with nodes:=R.2.1,defs:=P.defs++[R.2.2]} H'):=by
 refine aj.told ?_
 refine aec (Nat.le_refl _) fun hf=>?_
 simp only [Tryz.f115,Option.getD_some]
 have er:=h.Lz hz vC sU fun b hb=>hf.fresh hb
 obtain ⟨aD,rfl⟩:=h.hD.val
 have r0:=NR.start er
 have jt:=hL.len
 simp only [go_sem]
 refine af.by (rh er.bJ) ?_
 rintro _ H1 - ⟨rfl,p1⟩
 have r1:=r0.aY p1
 have w9:=p1.1.nx
 have gJ:H.fz H1.next=false:=hf.fresh w9
 have iF:∀{c:Nat},H.next<=c->c∉[rb]:=fun hc=>by have:=(er.pp.fresh hc).2.1;simpa using this
 have r2:=r1.push ⟨ia (tk L st),82,false,false⟩
 have O7:(H1.push ⟨ia (tk L st),82,false,false⟩).get H1.next=some ⟨ia (tk L st),82,false,false⟩:=by rw [aU,if_pos rfl]
 simp only [go_sem,gJ]
 refine af.by (fJ r2.nq.bJ) ?_
 rintro _ H3 - ⟨rfl,p3⟩
 have r3:=r2.aY p3
 have Ut:H1.next+1<=H3.next:=p3.1.nx
 have II:=(p3.1.get H1.next (Nat.lt_succ_self _) (iF w9)).trans O7
 have Aj:H.fz H3.next=false:=hf.fresh (by omega)
 have wZ:¬q=H3.next:=by have:=r3.nq.pp.ql;omega
 have wY:¬rb=H3.next:=by have:=r3.nq.pp.rl;omega
 have yG:¬H3.next=rb:=fun e=>wY e.symm
 have ng3:H3.next∉m/\H3.next∉g:=⟨fun e=>by have:=(r3.nq.hm _ e).1;omega,fun e=>by have:=(r3.nq.hg _ e).1;omega⟩
 rw [Kw] at he
 generalize cQ L [97,99,116,111,114] st=ac at he ⊢
 have r4:=r3.push ⟨dK ⟨[],[],0, -1,(tk L st).line,(tk L st).au,ac,[],[]⟩ (.slice none 0 0) (.slice none 0 0) (.slice none 0 0),38,false,false⟩
 have db4:DB H (H3.push ⟨dK ⟨[],[],0, -1,(tk L st).line,(tk L st).au,ac,[],[]⟩ (.slice none 0 0) (.slice none 0 0) (.slice none 0 0),38,false,false⟩) m g H3.next ⟨[],[],0, -1,(tk L st).line,(tk L st).au,ac,[],[]⟩ (.slice none 0 0) (.slice none 0 0) (.slice none 0 0) [] [] [] []:=
  ⟨by rw [aU,if_pos rfl],by simp,⟨by omega,Nat.lt_succ_self _,ng3⟩,.inl ⟨rfl,rfl,rfl⟩,.inl ⟨rfl,rfl,rfl⟩,Gr.nil _ _ _,by simp⟩
 obtain ⟨d1,d2,d3,d4,bL,oL,cL,a,j,c,hq,hr,cU,pa⟩:=r4.nq.bJ.iE hL ij
 have r5:=r4.aY pa
 have db5:=db4.ae (m3:=m) (g3:=g) pa.1 (fun c hc=>iF hc.1) (fun _ h=>.inl h) (fun _ h=>.inl h)
 rw [aU,if_neg wZ] at hq
 rw [aU,if_neg wY] at hr
 simp only [go_sem,O7,II,acq,Aj,wZ,wY,yG,hq,hr,hz,cU]
 refine af.by (jc hL r5.nq.bJ) ?_
 rintro _ H6 - ⟨rfl,p6⟩
 have r6:=r5.aY p6
 have Uu:=db5.ae (m3:=m) (g3:=g) p6.1 (fun c hc=>iF hc.1) (fun _ h=>.inl h) (fun _ h=>.inl h)
 generalize cj L (aC st)=y at p6 r6 he
 have Uv:=Uu.hb
 have db7:=Uu.put (d':=⟨y.1,[],0, -1,(tk L st).line,(tk L st).au,ac,[],[]⟩) (Dq:=.slice none 0 0) (oN:=.slice none 0 0) (Dr:=.slice none 0 0) (BJ:=[]) (rG:=[]) (BK:=[]) (Ds:=[]) (by simp) (.inl ⟨rfl,rfl,rfl⟩) (.inl ⟨rfl,rfl,rfl⟩) (Gr.nil _ _ _) (by simp)
 have r7:=r6.other er (M:=[H3.next]) ((Fr.refl _ _).ah (b:=H3.next) (.inl (by simp)) ⟨dK ⟨y.1,[],0, -1,(tk L st).line,(tk L st).au,ac,[],[]⟩ (.slice none 0 0) (.slice none 0 0) (.slice none 0 0),38,false,false⟩) (fun c hc=>by rw [List.mem_singleton] at hc;subst hc;exact Uu.mb) (fun _ _=>rfl)
 simp only [go_sem,Uv,Aj]
 cases Uw:GQ L fuel y.2 with
 | none=>rw [Uw] at he;cases he
 | some f=>
 obtain ⟨fl,s8⟩:=f
 rw [Uw] at he
 simp only [Option.bind_some] at he
 refine af.by (Xi hL r7.nq.bJ Uw) ?_
 rintro vF H8 - ⟨⟨gF,hsF,hnF⟩,p8⟩
 have r8:=r7.aY p8
 have Ux:=db7.ae (m3:=m) (g3:=g) p8.1 (fun c hc=>iF hc.1) (fun _ h=>.inl h) (fun _ h=>.inl h)
 obtain ⟨aF,kF,rfl⟩:=hsF.val
 have gb8:=Ux.hb
 have Bv:∀c∈gF,dY H H8 m g c/\c≠H3.next:=fun c hc=>by
  have h1:=(hnF c hc).1
  have h2:=(hnF c hc).2
  have h3:=r7.fr.nx
  have h4:=db7.mb.2.1
  exact ⟨⟨by omega,h2,fun e=>by have:=(r7.nq.hm _ e).1;omega,fun e=>by have:=(r7.nq.hg _ e).1;omega⟩,by omega⟩
 have Uy:=Ux.put (d':=⟨y.1,fl,0, -1,(tk L st).line,(tk L st).au,ac,[],[]⟩) (Dq:=.slice aF fl.length kF) (oN:=.slice none 0 0) (Dr:=.slice none 0 0) (BJ:=gF) (rG:=[]) (BK:=[]) (Ds:=[]) (by simpa using Bv) hsF (.inl ⟨rfl,rfl,rfl⟩) (Gr.nil _ _ _) (by simp)
 have r9:=r8.other er (M:=[H3.next]) ((Fr.refl _ _).ah (b:=H3.next) (.inl (by simp)) ⟨dK ⟨y.1,fl,0, -1,(tk L st).line,(tk L st).au,ac,[],[]⟩ (.slice aF fl.length kF) (.slice none 0 0) (.slice none 0 0),38,false,false⟩) (fun c hc=>by rw [List.mem_singleton] at hc;subst hc;exact Ux.mb) (fun _ _=>rfl)
 have FE:=Uy.hb
 cases ac with
 | false=>
  rw [if_neg Bool.false_ne_true] at he
  cases ff:ba 0 (s8,P.nodes) with
  | none=>rw [ff] at he;cases he
  | some B=>
   obtain ⟨bi,bs,bn⟩:=B
   rw [ff] at he
   cases he
   simp only [go_sem,gb8,Aj]
   refine af.by (iI r9.nq ff) ?_
   rintro _ dd - ⟨rfl,jZ⟩
   obtain ⟨Ai,pI,cP,Uz,t10⟩:=r9.call jZ
   have ya:=Uy.ae jZ.1 (fun c hc=>by
    obtain ⟨e1,e2,e3⟩:=er.pp.fresh hc.1
    simp only [List.mem_cons,not_or]
    exact ⟨e2,e1,hc.2.2.1⟩) Uz t10
   have aj1:=ya.hb
   obtain ⟨Kx,aj2,_⟩:=cP.cells
   have CW:=ya.put (d':=⟨y.1,fl,0,bi,(tk L st).line,(tk L st).au,false,[],[]⟩) (Dq:=.slice aF fl.length kF) (oN:=.slice none 0 0) (Dr:=.slice none 0 0) (BJ:=gF) (rG:=[]) (BK:=[]) (Ds:=[]) ya.gH ya.sF ya.sP ya.gO ya.FD
   have df:=cP.other er (M:=[H3.next]) ((Fr.refl _ _).ah (b:=H3.next) (.inl (by simp)) ⟨dK ⟨y.1,fl,0,bi,(tk L st).line,(tk L st).au,false,[],[]⟩ (.slice aF fl.length kF) (.slice none 0 0) (.slice none 0 0),38,false,false⟩) (fun c hc=>by rw [List.mem_singleton] at hc;subst hc;exact ya.mb) (fun _ _=>rfl)
   have rp:=df.push ⟨dK ⟨y.1,fl,0,bi,(tk L st).line,(tk L st).au,false,[],[]⟩ (.slice aF fl.length kF) (.slice none 0 0) (.slice none 0 0),38,false,false⟩
   have j4:=CW.push ⟨dK ⟨y.1,fl,0,bi,(tk L st).line,(tk L st).au,false,[],[]⟩ (.slice aF fl.length kF) (.slice none 0 0) (.slice none 0 0),38,false,false⟩
   have l6:=h.nr rp
   have FF:=CW.mb.2.1
   obtain ⟨LF,qQ,_⟩:=rp.cells
   simp only [go_sem,aj2,aj1,Aj,wZ,eA tz (by decide) (by decide)]
   refine jT (r:=jh) (x:=⟨y.1,fl,0,bi,(tk L st).line,(tk L st).au,false,[],[]⟩) tz l6.hD (fun c hc=>(l6.xD c hc).1.1) (fun c hc=>(l6.hG c (by simp [hc])).1) (fun c hc=>⟨(j4.gH c hc).1.2.1,fun e=>by have:=(h.xD c e).1.1;have:=(j4.gH c hc).1.1;omega⟩) (fun c hc=>sU c (by simp [hc])) (by rw [aU];exact if_pos rfl) ⟨_,_,_,_,_,_,rfl,rfl,j4.sF,j4.sP,j4.gO.sl⟩ rfl (by show (P.defs.length+1) * 128 < _;omega) ?_
   intro v7 H7 bG dX je dr jH
   have qH:=(je q rp.nq.pp.ql (fun e=>(h.xD q e).1.2.2.1 rfl)).trans qQ
   obtain ⟨a7,rfl⟩:=bG.val
   have uL:=h.N7 rp qQ bG (fun c hc=>(j4.gH c hc).1) dr dX aZ
   simp only [go_sem,qH,vC]
   exact uL
 | true=>
  rw [if_pos rfl] at he
  cases uP:A3 L fuel (dA L [58] s8) with
  | none=>rw [uP] at he;cases he
  | some x=>
  obtain ⟨pp,Ui⟩:=x
  rw [uP] at he
  simp only [Option.bind_some] at he
  cases mI:LD L ba 15 (uG L Ui) P.nodes [] with
  | none=>rw [mI] at he;cases he
  | some B=>
  rw [mI] at he
  cases he
  simp only [go_sem,gb8,Aj]
  refine af.by (iB hL r9.nq.bJ) ?_
  rintro _ dd - jZ
  have cP:=r9.aY jZ
  have ya:=Uy.ae (m3:=m) (g3:=g) jZ.1 (fun c hc=>iF hc.1) (fun _ h=>.inl h) (fun _ h=>.inl h)
  simp only [go_sem]
  refine af.by (NH hL cP.nq.bJ uP) ?_
  rintro vp dS - ⟨⟨gP,hsP,hnP⟩,qI⟩
  have df:=cP.aY qI
  have CW:=ya.ae (m3:=m) (g3:=g) qI.1 (fun c hc=>iF hc.1) (fun _ h=>.inl h) (fun _ h=>.inl h)
  obtain ⟨aP,kP,rfl⟩:=hsP.val
  have aj3:=CW.hb
  have hmP:∀c∈gP,dY H dS m g c/\c≠H3.next:=fun c hc=>by
   have h1:=(hnP c hc).1
   have h2:=(hnP c hc).2
   have h3:=cP.fr.nx
   have h4:=ya.mb.2.1
   exact ⟨⟨by omega,h2,fun e=>by have:=(cP.nq.hm _ e).1;omega,fun e=>by have:=(cP.nq.hg _ e).1;omega⟩,by omega⟩
  have aj4:=CW.put (d':=⟨y.1,fl,0, -1,(tk L st).line,(tk L st).au,true,pp,[]⟩) (Dq:=.slice aF fl.length kF) (oN:=.slice aP pp.length kP) (Dr:=.slice none 0 0) (BJ:=gF) (rG:=gP) (BK:=[]) (Ds:=[]) (fun c hc=>by
   rcases List.mem_append.1 hc with e | e
   ·exact CW.gH c (List.mem_append_left _ e)
   ·exact hmP c (by simpa using e)) CW.sF hsP (Gr.nil _ _ _) (by simp)
  have dh:=df.other er (M:=[H3.next]) ((Fr.refl _ _).ah (b:=H3.next) (.inl (by simp)) ⟨dK ⟨y.1,fl,0, -1,(tk L st).line,(tk L st).au,true,pp,[]⟩ (.slice aF fl.length kF) (.slice aP pp.length kP) (.slice none 0 0),38,false,false⟩) (fun c hc=>by rw [List.mem_singleton] at hc;subst hc;exact CW.mb) (fun _ _=>rfl)
  simp only [go_sem,aj3,Aj]
  refine af.by (QV hL dh.nq.bJ) ?_
  rintro _ jl - oK
  have gu:=dh.aY oK
  have aj5:=aj4.ae (m3:=m) (g3:=g) oK.1 (fun c hc=>iF hc.1) (fun _ h=>.inl h) (fun _ h=>.inl h)
  simp only [go_sem]
  refine lp 4951760157105492302577532944 (fun n V H2=>∃bu bK m2 g2 l vO mB gB,NR L F c1 c2 (.slice aD P.defs.length P.defs.length) H q rb P.nodes m g H2 bu bK m2 g2/\DB H H2 m2 g2 H3.next ⟨y.1,fl,0, -1,(tk L st).line,(tk L st).au,true,pp,l⟩ (.slice aF fl.length kF) (.slice aP pp.length kP) vO gF gP mB gB/\l.length<=13/\LD L ba n bu bK l=some B) (n:=15)
   ⟨_,P.nodes,m,g,[],_,[],[],gu,aj5,by simp,mI⟩ ?_ (by rfl)
  rintro n V jv ⟨bu,bK,m2,g2,l,vO,mB,gB,j0,Sa,ajP,mI⟩
  cases n with
  | zero=>cases mI
  | succ n=>
  rw [LD] at mI
  obtain ⟨aO,FG⟩:=Sa.gO.val
  subst FG
  have out:∀{Q:Prop},Q->Q:=fun q=>q
  simp only [go_sem]
  refine af.by (eJ j0.nq.bJ) ?_
  rintro _ _ - ⟨rfl,rfl⟩
  by_cases hb:c9 bu=true
  ·simp only [go_sem,hb]
   refine af.by (fJ j0.nq.bJ) ?_
   rintro _ jm - ⟨rfl,IJ⟩
   have l3:=j0.aY IJ
   have N8:=Sa.ae (m3:=m2) (g3:=g2) IJ.1 (fun c hc=>iF hc.1) (fun _ h=>.inl h) (fun _ h=>.inl h)
   have aj6:=N8.hb
   by_cases hw:cQ L [111,110] bu=true
   ·rw [if_pos ⟨hb,hw⟩] at mI
    simp only [go_sem,hw,aj6]
    by_cases pE:12 < l.length
    ·have x7:(12:Int) < ((l.length:Nat):Int):=by omega
     rw [if_pos pE] at mI
     cases mI
     simp only [go_sem,x7]
     refine af.by (kK l3.nq.bJ) ?_
     rintro _ H16 - p16
     have Ah:=l3.aY p16
     have Sb:=N8.ae (m3:=m2) (g3:=g2) p16.1 (fun c hc=>iF hc.1) (fun _ h=>.inl h) (fun _ h=>.inl h)
     simp only [go_sem]
     refine af.by (qe hL Ah.nq.bJ) ?_
     rintro _ H50 - Dt
     have Du:=Ah.aY Dt
     have yc:=Sb.ae (m3:=m2) (g3:=g2) Dt.1 (fun c hc=>iF hc.1) (fun _ h=>.inl h) (fun _ h=>.inl h)
     have Ky:=yc.hb
     obtain ⟨ZA,Kz,_⟩:=Du.cells
     have rp:=Du.push ⟨dK ⟨y.1,fl,0, -1,(tk L st).line,(tk L st).au,true,pp,l⟩ (.slice aF fl.length kF) (.slice aP pp.length kP) (.slice aO l.length l.length),38,false,false⟩
     have j4:=yc.push ⟨dK ⟨y.1,fl,0, -1,(tk L st).line,(tk L st).au,true,pp,l⟩ (.slice aF fl.length kF) (.slice aP pp.length kP) (.slice aO l.length l.length),38,false,false⟩
     have l6:=h.nr rp
     have FF:=yc.mb.2.1
     obtain ⟨LF,qQ,_⟩:=rp.cells
     simp only [go_sem,Kz,Ky,Aj,wZ,eA tz (by decide) (by decide)]
     refine jT (r:=jh) (x:=⟨y.1,fl,0, -1,(tk L st).line,(tk L st).au,true,pp,l⟩) tz l6.hD (fun c hc=>(l6.xD c hc).1.1) (fun c hc=>(l6.hG c (by simp [hc])).1) (fun c hc=>⟨(j4.gH c hc).1.2.1,fun e=>by have:=(h.xD c e).1.1;have:=(j4.gH c hc).1.1;omega⟩) (fun c hc=>sU c (by simp [hc])) (by rw [aU];exact if_pos rfl) ⟨_,_,_,_,_,_,rfl,rfl,j4.sF,j4.sP,j4.gO.sl⟩ rfl (by show (P.defs.length+1) * 128 < _;omega) ?_
     intro v7 H7 bG dX je dr jH
     have qH:=(je q rp.nq.pp.ql (fun e=>(h.xD q e).1.2.2.1 rfl)).trans qQ
     obtain ⟨a7,rfl⟩:=bG.val
     have uL:=h.N7 rp qQ bG (fun c hc=>(j4.gH c hc).1) dr dX aZ
     simp only [go_sem,qH,vC]
     exact uL
    ·have x7:¬(12:Int) < ((l.length:Nat):Int):=by omega
     rw [if_neg pE] at mI
     simp only [go_sem,x7]
     obtain ⟨d1,d2,d3,d4,bL,oL,cL,a,j,c,hq,hr,cU,pa⟩:=l3.nq.bJ.iE hL (jd hw)
     have Ah:=l3.aY pa
     have Sb:=N8.ae (m3:=m2) (g3:=g2) pa.1 (fun c hc=>iF hc.1) (fun _ h=>.inl h) (fun _ h=>.inl h)
     simp only [go_sem,hq,hr,hz,cU]
     refine af.by (jc hL Ah.nq.bJ) ?_
     rintro _ oP - ⟨rfl,UB⟩
     have vH:=Ah.aY UB
     have Sc:=Sb.ae (m3:=m2) (g3:=g2) UB.1 (fun c hc=>iF hc.1) (fun _ h=>.inl h) (fun _ h=>.inl h)
     generalize cj L (aC bu)=z at UB vH mI
     have Sd:=vH.fr.nx
     have vG:H.fz oP.next=false:=hf.fresh Sd
     simp only [go_sem,abK,vG]
     have r18:=vH.push ⟨cC ⟨0,0,0,z.1,[],[],[]⟩ (.slice none 0 0) (.slice none 0 0),52,false,false⟩
     have aj7:=Sc.push ⟨cC ⟨0,0,0,z.1,[],[],[]⟩ (.slice none 0 0) (.slice none 0 0),52,false,false⟩
     have g18:(oP.push ⟨cC ⟨0,0,0,z.1,[],[],[]⟩ (.slice none 0 0) (.slice none 0 0),52,false,false⟩).get oP.next=some ⟨cC ⟨0,0,0,z.1,[],[],[]⟩ (.slice none 0 0) (.slice none 0 0),52,false,false⟩:=by rw [aU,if_pos rfl]
     refine af.by (XK hL r18.nq.bJ) ?_
     rintro vN IK - ⟨⟨gN,EF,Uq⟩,LH⟩
     have r19:=r18.aY LH
     have aj8:=aj7.ae (m3:=m2) (g3:=g2) LH.1 (fun c hc=>iF hc.1) (fun _ h=>.inl h) (fun _ h=>.inl h)
     have aut:oP.next+1<=IK.next:=LH.1.nx
     have g19:=(LH.1.get oP.next (Nat.lt_succ_self _) (iF Sd)).trans g18
     obtain ⟨aN,kN,rfl⟩:=EF.val
     generalize zt L z.2=w at LH r19 EF mI
     have FA:∀c∈gN,oP.next+1<=c/\c < IK.next:=Uq
     have ZC:dY H IK m2 g2 oP.next:=⟨Sd,by omega,fun e=>by have:=(vH.nq.hm _ e).1;omega,fun e=>by have:=(vH.nq.hg _ e).1;omega⟩
     have FH:∀c∈gF++(gP++(mB++gB)),c < oP.next:=fun c hc=>(Sc.gH c hc).1.2.1
     have hdb:H3.next < oP.next:=Sc.mb.2.1
     have rN:=r19.other er (M:=[oP.next]) ((Fr.refl _ _).ah (b:=oP.next) (.inl (by simp)) ⟨cC ⟨0,0,0,z.1,[],[],w.1⟩ (.slice none 0 0) (.slice aN w.1.length kN),52,false,false⟩) (fun c hc=>by rw [List.mem_singleton] at hc;subst hc;exact ZC) (fun _ _=>rfl)
     have UC:=aj8.YD ⟨cC ⟨0,0,0,z.1,[],[],w.1⟩ (.slice none 0 0) (.slice aN w.1.length kN),52,false,false⟩ (b:=oP.next) (by omega) (fun e=>by have:=FH _ e;omega)
     cases ff:ba 0 (w.2,bK) with
     | none=>rw [ff] at mI;cases mI
     | some B2=>
      obtain ⟨bi,bs,bn⟩:=B2
      rw [ff] at mI
      simp only [Option.bind_some] at mI
      simp only [go_sem,g19,vG]
      refine af.by (iI rN.nq ff) ?_
      rintro _ ku - ⟨rfl,jL⟩
      have lK:∀c∈gN,dY H (IK.ah oP.next ⟨cC ⟨0,0,0,z.1,[],[],w.1⟩ (.slice none 0 0) (.slice aN w.1.length kN),52,false,false⟩) m2 g2 c/\c≠oP.next:=fun c hc=>by
       have:=FA c hc
       exact ⟨⟨by omega,by show c < IK.next;omega,fun e=>by have:=(vH.nq.hm _ e).1;omega,fun e=>by have:=(vH.nq.hg _ e).1;omega⟩,by omega⟩
      have BF:Sl .str (IK.ah oP.next ⟨cC ⟨0,0,0,z.1,[],[],w.1⟩ (.slice none 0 0) (.slice aN w.1.length kN),52,false,false⟩) (.slice aN w.1.length kN) (⟨0,0,0,z.1,[],[],w.1⟩:eZ).names gN:=EF.ae fun c hc=>by rw [az,if_neg (lK c hc).2]
      obtain ⟨jO,jQ,J5,Ks,IG,t20,J6⟩:=QI er rN UC.gO (fun c hc=>⟨(UC.gH c (List.mem_append_right _ (List.mem_append_right _ hc))).1,by have:=FH c (List.mem_append_right _ (List.mem_append_right _ hc));omega⟩) ZC (by rw [az,if_pos rfl]) rfl BF lK jL
      obtain ⟨sT,Eg,su,x6,Kt⟩:=J6 bi
      have Se:DB H ku jO jQ H3.next ⟨y.1,fl,0, -1,(tk L st).line,(tk L st).au,true,pp,l⟩ (.slice aF fl.length kF) (.slice aP pp.length kP) (.slice aO l.length l.length) gF gP mB gB:=UC.ae jL.1 (fun c hc=>by
       obtain ⟨e1,e2,e3⟩:=er.pp.fresh hc.1
       simp only [List.mem_cons,not_or]
       exact ⟨e2,e1,hc.2.2.1⟩) IG t20
      have aj9:=Se.hb
      have N9:=(Se.YD ⟨cC ⟨0,0,bi,z.1,[],[],w.1⟩ (.slice none 0 0) (.slice aN w.1.length kN),52,false,false⟩ (b:=oP.next) (by omega) (fun e=>by have:=FH _ e;omega)).push ⟨cC ⟨0,0,bi,z.1,[],[],w.1⟩ (.slice none 0 0) (.slice aN w.1.length kN),52,false,false⟩
      have nd1:¬H3.next=oP.next:=by omega
      have nd2:¬H3.next=ku.next:=by have:=Se.mb.2.1;omega
      simp only [go_sem,J5,vG,Ks,aj9,nd1,nd2,eA rX (by decide) (by decide)]
      refine jT (r:=dB) rX Eg (fun c hc=>(su c (by simp [hc])).2.1) (fun c hc=>(su c (by simp [hc])).2.1) (fun c hc=>⟨(x6 c hc).2.1,fun e=>by have:=FA c hc;have:=FH c (List.mem_append_right _ (List.mem_append_right _ (List.mem_append_left _ e)));omega⟩) (fun c hc=>hf.fresh (su c (by simp [hc])).1) (by rw [aU];exact if_pos rfl) Kt rfl (by show (l.length+1) * 104 < _;omega) ?_
      intro v7 H7 bG dX je dr jH
      obtain ⟨r7',Dk⟩:=Qs er sT su x6 dr dX jH
      have ZD:=N9.app (v7:=v7) (x:=⟨0,0,bi,z.1,[],[],w.1⟩) (gN:=gN) sT.fr.nx (fun c hc=>(sT.nq.hm c hc).1) (fun c hc=>(sT.nq.hg c hc).1) bG dr dX (fun c hc=>⟨x6 c hc,by have:=FA c hc;omega⟩)
      have aka:=(je H3.next N9.mb.2.1 (fun e=>(N9.gH H3.next (by simp [e])).2 rfl)).trans N9.hb
      obtain ⟨a7,rfl⟩:=bG.val
      have r8':=r7'.other er (M:=[H3.next]) ((Fr.refl _ _).ah (b:=H3.next) (.inl (by simp)) ⟨dK ⟨y.1,fl,0, -1,(tk L st).line,(tk L st).au,true,pp,l++[⟨0,0,bi,z.1,[],[],w.1⟩]⟩ (.slice aF fl.length kF) (.slice aP pp.length kP) (.slice a7 (l++[(⟨0,0,bi,z.1,[],[],w.1⟩:eZ)]).length (l++[(⟨0,0,bi,z.1,[],[],w.1⟩:eZ)]).length),38,false,false⟩) (fun c hc=>by rw [List.mem_singleton] at hc;subst hc;exact ZD.mb) (fun _ _=>rfl)
      simp only [go_sem,aka,Aj]
      exact ⟨n,by omega,bs,bn,jO,jQ,l++[⟨0,0,bi,z.1,[],[],w.1⟩],_,_,_,r8',ZD,by rw [List.length_append,List.length_singleton];omega,mI⟩
   ·rw [if_neg (fun e=>hw e.2)] at mI
    cases mI
    simp only [go_sem,hw]
    refine af.by (qe hL l3.nq.bJ) ?_
    rintro _ H50 - Dt
    have Du:=l3.aY Dt
    have yc:=N8.ae (m3:=m2) (g3:=g2) Dt.1 (fun c hc=>iF hc.1) (fun _ h=>.inl h) (fun _ h=>.inl h)
    have Ky:=yc.hb
    obtain ⟨ZA,Kz,_⟩:=Du.cells
    have rp:=Du.push ⟨dK ⟨y.1,fl,0, -1,(tk L st).line,(tk L st).au,true,pp,l⟩ (.slice aF fl.length kF) (.slice aP pp.length kP) (.slice aO l.length l.length),38,false,false⟩
    have j4:=yc.push ⟨dK ⟨y.1,fl,0, -1,(tk L st).line,(tk L st).au,true,pp,l⟩ (.slice aF fl.length kF) (.slice aP pp.length kP) (.slice aO l.length l.length),38,false,false⟩
    have l6:=h.nr rp
    have FF:=yc.mb.2.1
    obtain ⟨LF,qQ,_⟩:=rp.cells
    simp only [go_sem,Kz,Ky,Aj,wZ,eA tz (by decide) (by decide)]
    refine jT (r:=jh) (x:=⟨y.1,fl,0, -1,(tk L st).line,(tk L st).au,true,pp,l⟩) tz l6.hD (fun c hc=>(l6.xD c hc).1.1) (fun c hc=>(l6.hG c (by simp [hc])).1) (fun c hc=>⟨(j4.gH c hc).1.2.1,fun e=>by have:=(h.xD c e).1.1;have:=(j4.gH c hc).1.1;omega⟩) (fun c hc=>sU c (by simp [hc])) (by rw [aU];exact if_pos rfl) ⟨_,_,_,_,_,_,rfl,rfl,j4.sF,j4.sP,j4.gO.sl⟩ rfl (by show (P.defs.length+1) * 128 < _;omega) ?_
    intro v7 H7 bG dX je dr jH
    have qH:=(je q rp.nq.pp.ql (fun e=>(h.xD q e).1.2.2.1 rfl)).trans qQ
    obtain ⟨a7,rfl⟩:=bG.val
    have uL:=h.N7 rp qQ bG (fun c hc=>(j4.gH c hc).1) dr dX aZ
    simp only [go_sem,qH,vC]
    exact uL
  ·rw [if_neg (fun e=>hb e.1)] at mI
   cases mI
   simp only [go_sem,hb]
   refine af.by (qe hL j0.nq.bJ) ?_
   rintro _ H50 - Dt
   have Du:=j0.aY Dt
   have yc:=Sa.ae (m3:=m2) (g3:=g2) Dt.1 (fun c hc=>iF hc.1) (fun _ h=>.inl h) (fun _ h=>.inl h)
   have Ky:=yc.hb
   obtain ⟨ZA,Kz,_⟩:=Du.cells
   have rp:=Du.push ⟨dK ⟨y.1,fl,0, -1,(tk L st).line,(tk L st).au,true,pp,l⟩ (.slice aF fl.length kF) (.slice aP pp.length kP) (.slice aO l.length l.length),38,false,false⟩
   have j4:=yc.push ⟨dK ⟨y.1,fl,0, -1,(tk L st).line,(tk L st).au,true,pp,l⟩ (.slice aF fl.length kF) (.slice aP pp.length kP) (.slice aO l.length l.length),38,false,false⟩
   have l6:=h.nr rp
   have FF:=yc.mb.2.1
   obtain ⟨LF,qQ,_⟩:=rp.cells
   simp only [go_sem,Kz,Ky,Aj,wZ,eA tz (by decide) (by decide)]
   refine jT (r:=jh) (x:=⟨y.1,fl,0, -1,(tk L st).line,(tk L st).au,true,pp,l⟩) tz l6.hD (fun c hc=>(l6.xD c hc).1.1) (fun c hc=>(l6.hG c (by simp [hc])).1) (fun c hc=>⟨(j4.gH c hc).1.2.1,fun e=>by have:=(h.xD c e).1.1;have:=(j4.gH c hc).1.1;omega⟩) (fun c hc=>sU c (by simp [hc])) (by rw [aU];exact if_pos rfl) ⟨_,_,_,_,_,_,rfl,rfl,j4.sF,j4.sP,j4.gO.sl⟩ rfl (by show (P.defs.length+1) * 128 < _;omega) ?_
   intro v7 H7 bG dX je dr jH
   have qH:=(je q rp.nq.pp.ql (fun e=>(h.xD q e).1.2.2.1 rfl)).trans qQ
   obtain ⟨a7,rfl⟩:=bG.val
   have uL:=h.N7 rp qQ bG (fun c hc=>(j4.gH c hc).1) dr dX aZ
   simp only [go_sem,qH,vC]
   exact uL
end
section
variable {L:List bh} {F:List Nat} {c1 c2 c3:Value} {H H1 H2 H3 H6 H7:ad} {q rb nb:Nat} {st cA bu ew:aG} {P:bC} {ns bk bK yL:List aH} {mM gM mR gR mD gD m g m1 g1 m2 g2 m3 g3 m6 g6:List Nat}
theorem DF.same (h:DF L F c1 c2 c3 H q rb st P mM gM mR gR mD gD m g) (r:NR L F c1 c2 c3 H q rb P.nodes m g H6 ew P.nodes m g):D7 L F H q rb (mM++(mR++(mD++m))) (gM++(gR++(gD++g))) ew P (H6.ai H.fz):=by
 refine ⟨(r.fr.sub fun c hc=>.inl ?_).ai _,fun _=>rfl,_,_,(h.nr r).q0.ai,fun _ h=>.inl h,fun _ h=>.inl h⟩
 simp only [List.mem_cons,List.mem_append] at hc ⊢
 rcases hc with e | e | e <;> simp [e]
def HD (L:List bh) (ba:pH) (fuel:Nat) (st:aG) (P:bC):Option (aG × bC):=
 if cQ L [109,115,103] st=true then
  (if 12<=P.msgs.length then some (eQ 3 st,P)
  else (Nk L fuel (cj L (aC st)).2).map fun t=>(dA L [59] t.2,{P with msgs:=P.msgs++[⟨(cj L (aC st)).1,t.1,(tk L st).line,(tk L st).au⟩]}))
 else if cQ L [114,101,99] st=true then
  (if 8<=P.bZ.length then some (eQ 3 st,P)
  else (GQ L fuel (cj L (aC st)).2).map fun t=>(dA L [59] t.2,{P with bZ:=P.bZ++[⟨(cj L (aC st)).1,t.1,(tk L st).line,(tk L st).au⟩]}))
 else if cQ L [100,101,102] st=true∨cQ L [97,99,116,111,114] st=true then
  (if 16<=P.defs.length then some (eQ 3 st,P)
  else (Kw L ba fuel st P.nodes).map fun R=>(R.1,{P with nodes:=R.2.1,defs:=P.defs++[R.2.2]}))
 else some (eQ 2 st,P)
theorem acr {s:bj} {l c:Int} {h:KH}:fH Tryz.prog 107 [(2,iV l),(3,iV c),(0,ag s)] h=.ok (.agg #[ag s,.slice none 0 0,iV l,iV c]) h:=by kernel_rfl
theorem acs {s:bj} {l c:Int} {h:KH}:fH Tryz.prog 164 [(2,iV l),(3,iV c),(0,ag s)] h=.ok (.agg #[ag s,.slice none 0 0,iV l,iV c]) h:=by kernel_rfl
theorem aga (hL:LG L) {ba:pH} (iI:∀{c1 c2 c3},A5 L F c1 c2 c3 q rb ba) (h:DF L F c1 c2 c3 H q rb st P mM gM mR gR mD gD m g) (hz:H.fz rb=false) (vC:H.fz q=false) (sU:∀c∈mM++(mR++(mD++m)),H.fz c=false) {fuel:Nat} {R:aG × bC} (he:HD L ba fuel st P=some R):
  aj Tryz.prog 78 #[pV q] H (fun w H'=>D7 L F H q rb (mM++(mR++(mD++m))) (gM++(gR++(gD++g))) R.1 R.2 H'):=by
 refine aj.told ?_
 refine ahw (Nat.le_refl _) fun hf=>?_
 simp only [Tryz.f78,Option.getD_some]
 have er:=h.Lz hz vC sU fun b hb=>hf.fresh hb
 obtain ⟨aM,rfl⟩:=h.hM.val
 obtain ⟨aR,rfl⟩:=h.hR.val
 obtain ⟨aD,rfl⟩:=h.hD.val
 have r0:=NR.start er
 have jt:=hL.len
 simp only [go_sem]
 refine af.by (rh er.bJ) ?_
 rintro _ H1 - ⟨rfl,p1⟩
 have r1:=r0.aY p1
 have w9:=p1.1.nx
 have gJ:H.fz H1.next=false:=hf.fresh w9
 have iF:∀{c:Nat},H.next<=c->c∉[rb]:=fun hc=>by have:=(er.pp.fresh hc).2.1;simpa using this
 have r2:=r1.push ⟨ia (tk L st),82,false,false⟩
 have O7:(H1.push ⟨ia (tk L st),82,false,false⟩).get H1.next=some ⟨ia (tk L st),82,false,false⟩:=by rw [aU,if_pos rfl]
 simp only [go_sem,gJ]
 refine af.by (fJ r2.nq.bJ) ?_
 rintro _ H3 - ⟨rfl,p3⟩
 have r3:=r2.aY p3
 have Ut:H1.next+1<=H3.next:=p3.1.nx
 have II:=(p3.1.get H1.next (Nat.lt_succ_self _) (iF w9)).trans O7
 by_cases eX:cQ L [109,115,103] st=true
 ·rw [HD,if_pos eX] at he
  obtain ⟨O8,xe,_⟩:=r3.cells
  by_cases yd:12<=P.msgs.length
  ·have sb:(12:Int)<=((P.msgs.length:Nat):Int):=by omega
   rw [if_pos yd] at he
   cases he
   simp only [go_sem,eX,xe,sb]
   refine af.by (kK r3.nq.bJ) ?_
   rintro _ H5 - p5
   have r5:=r3.aY p5
   simp only [go_sem]
   exact h.same r5
  have sb:¬((12:Int)<=((P.msgs.length:Nat):Int)):=by omega
  rw [if_neg yd] at he
  obtain ⟨d1,d2,d3,d4,bL,oL,cL,a,j,c,hq,hr,cU,pa⟩:=r3.nq.bJ.iE hL (jd eX)
  have ra:=r3.aY pa
  have LI:=(pa.1.get H1.next (by omega) (iF w9)).trans II
  have jK:¬H1.next=rb:=by have:=iF w9;simpa using this
  simp only [go_sem,eX,xe,sb,hr,hz,cU,II,jK]
  refine af.by (jc hL ra.nq.bJ) ?_
  rintro _ H5 - ⟨rfl,p5⟩
  have r5:=ra.aY p5
  have n5:H3.next<=H5.next:=p5.1.nx
  have UD:=(p5.1.get H1.next (by show H1.next < H3.next;omega) (iF w9)).trans LI
  generalize cj L (aC st)=y at p5 r5 he
  have i9:H.fz H5.next=false:=hf.fresh (by omega)
  have BO:H.next<=H5.next:=by omega
  simp only [go_sem,LI,II,UD,jK,acr,i9]
  have r6:=r5.push ⟨[ag y.1,.slice none 0 0,iV (tk L st).line,iV (tk L st).au],107,false,false⟩
  have g6:(H5.push ⟨[ag y.1,.slice none 0 0,iV (tk L st).line,iV (tk L st).au],107,false,false⟩).get H5.next=some ⟨[ag y.1,.slice none 0 0,iV (tk L st).line,iV (tk L st).au],107,false,false⟩:=by rw [aU,if_pos rfl]
  cases yJ:Nk L fuel y.2 with
  | none=>rw [yJ] at he;cases he
  | some x=>
  obtain ⟨tl,s7⟩:=x
  rw [yJ] at he
  cases he
  refine af.by (ac9 hL r6.nq.bJ yJ) ?_
  rintro vT H7 - ⟨⟨gT,LJ,UE⟩,p7⟩
  have r7:=r6.aY p7
  have n7:H5.next+1<=H7.next:=p7.1.nx
  have hT:∀c∈gT,H5.next+1<=c/\c < H7.next:=UE
  have g7:=(p7.1.get H5.next (Nat.lt_succ_self _) (iF BO)).trans g6
  obtain ⟨aT,kT,rfl⟩:=LJ.val
  have dy:dY H H7 m g H5.next:=⟨BO,by omega,fun e=>by have:=(r5.nq.hm _ e).1;omega,fun e=>by have:=(r5.nq.hg _ e).1;omega⟩
  have r8:=r7.other er (M:=[H5.next]) ((Fr.refl _ _).ah (b:=H5.next) (.inl (by simp)) ⟨[ag y.1,.slice aT tl.length kT,iV (tk L st).line,iV (tk L st).au],107,false,false⟩) (fun c hc=>by rw [List.mem_singleton] at hc;subst hc;exact dy) (fun _ _=>rfl)
  have g8:(H7.ah H5.next ⟨[ag y.1,.slice aT tl.length kT,iV (tk L st).line,iV (tk L st).au],107,false,false⟩).get H5.next=some ⟨[ag y.1,.slice aT tl.length kT,iV (tk L st).line,iV (tk L st).au],107,false,false⟩:=by rw [az,if_pos rfl]
  simp only [go_sem,g7,i9]
  refine af.by (iB hL r8.nq.bJ) ?_
  rintro _ H9 - p9
  have r9:=r8.aY p9
  have n9:H7.next<=H9.next:=p9.1.nx
  have g9:=(p9.1.get H5.next (by show H5.next < H7.next;omega) (iF BO)).trans g8
  obtain ⟨UF,UG,_⟩:=r9.cells
  have rp:=r9.push ⟨[ag y.1,.slice aT tl.length kT,iV (tk L st).line,iV (tk L st).au],107,false,false⟩
  have l6:=h.nr rp
  obtain ⟨LF,qQ,_⟩:=rp.cells
  have eu:Sl wL (H9.push ⟨[ag y.1,.slice aT tl.length kT,iV (tk L st).line,iV (tk L st).au],107,false,false⟩) (.slice aT tl.length kT) tl gT:=LJ.ae fun c hc=>by
   have:=hT c hc
   rw [bS (by omega),p9.1.get c (by show c < H7.next;omega) (iF (by omega)),az,if_neg (by omega)]
  have l8:∀c∈gT,dY H (H9.push ⟨[ag y.1,.slice aT tl.length kT,iV (tk L st).line,iV (tk L st).au],107,false,false⟩) m g c:=fun c hc=>by
   have:=hT c hc
   exact ⟨by omega,by show c < H9.next+1;omega,fun e=>by have:=(r5.nq.hm _ e).1;omega,fun e=>by have:=(r5.nq.hg _ e).1;omega⟩
  have FF:¬H5.next=H9.next:=by omega
  simp only [go_sem,UG,g9,i9,FF,eA NC (by decide) (by decide)]
  refine jT (r:=o9) (x:=⟨y.1,tl,(tk L st).line,(tk L st).au⟩) NC l6.hM (fun c hc=>(l6.xM c hc).1.1) (fun c hc=>(l6.hG c (by simp [hc])).1) (fun c hc=>⟨(l8 c hc).2.1,fun e=>by have:=(h.xM c e).1.1;have:=(l8 c hc).1;omega⟩) (fun c hc=>sU c (by simp [hc])) (by rw [aU];exact if_pos rfl) ⟨_,rfl,eu⟩ rfl (by show (P.msgs.length+1) * 56 < _;omega) ?_
  intro v7 oP bG dX je dr jH
  have qH:=(je q rp.nq.pp.ql (fun e=>(h.xM q e).1.2.2.1 rfl)).trans qQ
  obtain ⟨a7,rfl⟩:=bG.val
  have uL:=h.ajZ rp qQ bG l8 dr dX (by omega)
  simp only [go_sem,qH,vC]
  exact uL
 simp only [go_sem,eX]
 refine af.by (fJ r3.nq.bJ) ?_
 rintro _ H4 - ⟨rfl,p4⟩
 have r4:=r3.aY p4
 have nB:=p4.1.nx
 have UH:=(p4.1.get H1.next (by omega) (iF w9)).trans II
 by_cases mE:cQ L [114,101,99] st=true
 ·rw [HD,if_neg eX,if_pos mE] at he
  obtain ⟨O8,xe,_⟩:=r4.cells
  by_cases yd:8<=P.bZ.length
  ·have sb:(8:Int)<=((P.bZ.length:Nat):Int):=by omega
   rw [if_pos yd] at he
   cases he
   simp only [go_sem,mE,xe,sb]
   refine af.by (kK r4.nq.bJ) ?_
   rintro _ H5 - p5
   have r5:=r4.aY p5
   simp only [go_sem]
   exact h.same r5
  have sb:¬((8:Int)<=((P.bZ.length:Nat):Int)):=by omega
  rw [if_neg yd] at he
  obtain ⟨d1,d2,d3,d4,bL,oL,cL,a,j,c,hq,hr,cU,pa⟩:=r4.nq.bJ.iE hL (jd mE)
  have ra:=r4.aY pa
  have LI:=(pa.1.get H1.next (by omega) (iF w9)).trans UH
  have jK:¬H1.next=rb:=by have:=iF w9;simpa using this
  simp only [go_sem,mE,xe,sb,hr,hz,cU,UH,jK]
  refine af.by (jc hL ra.nq.bJ) ?_
  rintro _ H5 - ⟨rfl,p5⟩
  have r5:=ra.aY p5
  have n5:H4.next<=H5.next:=p5.1.nx
  have UD:=(p5.1.get H1.next (by show H1.next < H4.next;omega) (iF w9)).trans LI
  generalize cj L (aC st)=y at p5 r5 he
  have i9:H.fz H5.next=false:=hf.fresh (by omega)
  have BO:H.next<=H5.next:=by omega
  simp only [go_sem,LI,UH,UD,jK,acs,i9]
  have r6:=r5.push ⟨[ag y.1,.slice none 0 0,iV (tk L st).line,iV (tk L st).au],164,false,false⟩
  have g6:(H5.push ⟨[ag y.1,.slice none 0 0,iV (tk L st).line,iV (tk L st).au],164,false,false⟩).get H5.next=some ⟨[ag y.1,.slice none 0 0,iV (tk L st).line,iV (tk L st).au],164,false,false⟩:=by rw [aU,if_pos rfl]
  cases yJ:GQ L fuel y.2 with
  | none=>rw [yJ] at he;cases he
  | some x=>
  obtain ⟨tl,s7⟩:=x
  rw [yJ] at he
  cases he
  refine af.by (Xi hL r6.nq.bJ yJ) ?_
  rintro vT H7 - ⟨⟨gT,LJ,UE⟩,p7⟩
  have r7:=r6.aY p7
  have n7:H5.next+1<=H7.next:=p7.1.nx
  have hT:∀c∈gT,H5.next+1<=c/\c < H7.next:=UE
  have g7:=(p7.1.get H5.next (Nat.lt_succ_self _) (iF BO)).trans g6
  obtain ⟨aT,kT,rfl⟩:=LJ.val
  have dy:dY H H7 m g H5.next:=⟨BO,by omega,fun e=>by have:=(r5.nq.hm _ e).1;omega,fun e=>by have:=(r5.nq.hg _ e).1;omega⟩
  have r8:=r7.other er (M:=[H5.next]) ((Fr.refl _ _).ah (b:=H5.next) (.inl (by simp)) ⟨[ag y.1,.slice aT tl.length kT,iV (tk L st).line,iV (tk L st).au],164,false,false⟩) (fun c hc=>by rw [List.mem_singleton] at hc;subst hc;exact dy) (fun _ _=>rfl)
  have g8:(H7.ah H5.next ⟨[ag y.1,.slice aT tl.length kT,iV (tk L st).line,iV (tk L st).au],164,false,false⟩).get H5.next=some ⟨[ag y.1,.slice aT tl.length kT,iV (tk L st).line,iV (tk L st).au],164,false,false⟩:=by rw [az,if_pos rfl]
  simp only [go_sem,g7,i9]
  refine af.by (iB hL r8.nq.bJ) ?_
  rintro _ H9 - p9
  have r9:=r8.aY p9
  have n9:H7.next<=H9.next:=p9.1.nx
  have g9:=(p9.1.get H5.next (by show H5.next < H7.next;omega) (iF BO)).trans g8
  obtain ⟨UF,UG,_⟩:=r9.cells
  have rp:=r9.push ⟨[ag y.1,.slice aT tl.length kT,iV (tk L st).line,iV (tk L st).au],164,false,false⟩
  have l6:=h.nr rp
  obtain ⟨LF,qQ,_⟩:=rp.cells
  have eu:Sl ls (H9.push ⟨[ag y.1,.slice aT tl.length kT,iV (tk L st).line,iV (tk L st).au],164,false,false⟩) (.slice aT tl.length kT) tl gT:=LJ.ae fun c hc=>by
   have:=hT c hc
   rw [bS (by omega),p9.1.get c (by show c < H7.next;omega) (iF (by omega)),az,if_neg (by omega)]
  have l8:∀c∈gT,dY H (H9.push ⟨[ag y.1,.slice aT tl.length kT,iV (tk L st).line,iV (tk L st).au],164,false,false⟩) m g c:=fun c hc=>by
   have:=hT c hc
   exact ⟨by omega,by show c < H9.next+1;omega,fun e=>by have:=(r5.nq.hm _ e).1;omega,fun e=>by have:=(r5.nq.hg _ e).1;omega⟩
  have FF:¬H5.next=H9.next:=by omega
  simp only [go_sem,UG,g9,i9,FF,eA ND (by decide) (by decide)]
  refine jT (r:=qm) (x:=⟨y.1,tl,(tk L st).line,(tk L st).au⟩) ND l6.hR (fun c hc=>(l6.xR c hc).1.1) (fun c hc=>(l6.hG c (by simp [hc])).1) (fun c hc=>⟨(l8 c hc).2.1,fun e=>by have:=(h.xR c e).1.1;have:=(l8 c hc).1;omega⟩) (fun c hc=>sU c (by simp [hc])) (by rw [aU];exact if_pos rfl) ⟨_,rfl,eu⟩ rfl (by show (P.bZ.length+1) * 56 < _;omega) ?_
  intro v7 oP bG dX je dr jH
  have qH:=(je q rp.nq.pp.ql (fun e=>(h.xR q e).1.2.2.1 rfl)).trans qQ
  obtain ⟨a7,rfl⟩:=bG.val
  have uL:=h.aj0 rp qQ bG l8 dr dX (by omega)
  simp only [go_sem,qH,vC]
  exact uL
 simp only [go_sem,mE]
 refine af.by (fJ r4.nq.bJ) ?_
 rintro _ H5 - ⟨rfl,p5⟩
 have r5:=r4.aY p5
 rw [HD,if_neg eX,if_neg mE] at he
 have zz:∀{Ha Hb:ad} {sa:aG},fR L F Ha q rb sa Hb->∀c,Hb.fz c=Ha.fz c:=fun p=>p.2.1
 have z5:∀c,c≠H1.next->H5.fz c=H.fz c:=fun c hc=>by
  rw [zz p5,zz p4,zz p3,qf,show (c==H1.next)=false from by simpa using hc,Bool.false_or,zz p1]
 by_cases Dd:cQ L [100,101,102] st=true
 ·have FI:∀{c:Nat},c < H.next->H.fz c=false->H5.fz c=false:=fun hc e=>by rw [z5 _ (by omega)];exact e
  obtain ⟨O8,xe,_⟩:=r5.cells
  rw [if_pos (Or.inl Dd)] at he
  by_cases yd:16<=P.defs.length
  ·have sb:(16:Int)<=((P.defs.length:Nat):Int):=by omega
   rw [if_pos yd] at he
   cases he
   simp only [go_sem,Dd,xe,sb]
   refine af.by (kK r5.nq.bJ) ?_
   rintro _ jm - IJ
   have l3:=r5.aY IJ
   simp only [go_sem]
   exact h.same l3
  have sb:¬((16:Int)<=((P.defs.length:Nat):Int)):=by omega
  rw [if_neg yd] at he
  cases lj:Kw L ba fuel st P.nodes with
  | none=>rw [lj] at he;cases he
  | some B=>
  rw [lj] at he
  cases he
  simp only [go_sem,Dd,xe,sb]
  have d5:=h.nr r5
  refine af.by (YE hL iI d5 r5.nq.fz r5.nq.fq (fun c hc=>?_) (jd Dd) (by show P.defs.length < 16;omega) lj) ?_
  ·simp only [List.mem_append] at hc
   rcases hc with e | e | e | e
   ·exact FI (h.xM c e).1.1 (sU c (by simp [e]))
   ·exact FI (h.xR c e).1.1 (sU c (by simp [e]))
   ·exact FI (h.xD c e).1.1 (sU c (by simp [e]))
   ·exact r5.nq.fm c e
  rintro _ H16 - ⟨f16,z16,T',G',UI,UJ,t16⟩
  simp only [go_sem]
  have dO:=r5.fr.nx
  have f5:Fr (rb::q::(mM++(mR++(mD++m)))) H H5:=r5.fr.sub fun c hc=>.inl (by
   simp only [List.mem_cons,List.mem_append] at hc ⊢
   rcases hc with e | e | e <;> simp [e])
  exact ⟨(f5.then f16).ai _,fun _=>rfl,T',G',UI.ai,fun c hc=>(UJ c hc).imp id fun e=>Nat.le_trans dO e,fun c hc=>(t16 c hc).imp id fun e=>Nat.le_trans dO e⟩
 simp only [go_sem,Dd]
 refine af.by (fJ r5.nq.bJ) ?_
 rintro _ H6 - ⟨rfl,p6⟩
 have r6:=r5.aY p6
 by_cases De:cQ L [97,99,116,111,114] st=true
 ·have FI:∀{c:Nat},c < H.next->H.fz c=false->H6.fz c=false:=fun hc e=>by rw [zz p6,z5 _ (by omega)];exact e
  obtain ⟨O8,xe,_⟩:=r6.cells
  rw [if_pos (Or.inr De)] at he
  by_cases yd:16<=P.defs.length
  ·have sb:(16:Int)<=((P.defs.length:Nat):Int):=by omega
   rw [if_pos yd] at he
   cases he
   simp only [go_sem,De,xe,sb]
   refine af.by (kK r6.nq.bJ) ?_
   rintro _ jm - IJ
   have l3:=r6.aY IJ
   simp only [go_sem]
   exact h.same l3
  have sb:¬((16:Int)<=((P.defs.length:Nat):Int)):=by omega
  rw [if_neg yd] at he
  cases lj:Kw L ba fuel st P.nodes with
  | none=>rw [lj] at he;cases he
  | some B=>
  rw [lj] at he
  cases he
  simp only [go_sem,De,xe,sb]
  have d5:=h.nr r6
  refine af.by (YE hL iI d5 r6.nq.fz r6.nq.fq (fun c hc=>?_) (jd De) (by show P.defs.length < 16;omega) lj) ?_
  ·simp only [List.mem_append] at hc
   rcases hc with e | e | e | e
   ·exact FI (h.xM c e).1.1 (sU c (by simp [e]))
   ·exact FI (h.xR c e).1.1 (sU c (by simp [e]))
   ·exact FI (h.xD c e).1.1 (sU c (by simp [e]))
   ·exact r6.nq.fm c e
  rintro _ H16 - ⟨f16,z16,T',G',UI,UJ,t16⟩
  simp only [go_sem]
  have dO:=r6.fr.nx
  have f5:Fr (rb::q::(mM++(mR++(mD++m)))) H H6:=r6.fr.sub fun c hc=>.inl (by
   simp only [List.mem_cons,List.mem_append] at hc ⊢
   rcases hc with e | e | e <;> simp [e])
  exact ⟨(f5.then f16).ai _,fun _=>rfl,T',G',UI.ai,fun c hc=>(UJ c hc).imp id fun e=>Nat.le_trans dO e,fun c hc=>(t16 c hc).imp id fun e=>Nat.le_trans dO e⟩
 rw [if_neg (fun e=>e.elim Dd De)] at he
 cases he
 simp only [go_sem,De]
 refine af.by (kK r6.nq.bJ) ?_
 rintro _ H7 - p7
 have r7:=r6.aY p7
 simp only [go_sem]
 exact h.same r7
end
theorem Qt:∀(k:Nat) (s:bj) (line au:Int) (acc l:List bh),i3 k s line au acc=.ok l->l.length<=acc.length+s.length+1/\∀t∈l,t∈acc∨t.text.length<=s.length
 | 0,s,line,au,acc,l,h=>by cases h
 | k+1,[],line,au,acc,l,h=>by
  rw [i3] at h
  cases h
  refine ⟨by simp,fun t ht=>?_⟩
  rcases List.mem_append.1 ht with e | e
  ·exact .inl e
  ·rw [List.mem_singleton] at e
   subst e
   exact .inr (Nat.le_refl _)
 | k+1,c::r,line,au,acc,l,h=>by
  have up:∀{s':bj} {aim akb:Int},s'.length<=(c::r).length->i3 k s' aim akb acc=.ok l->l.length<=acc.length+(c::r).length+1/\∀t∈l,t∈acc∨t.text.length<=(c::r).length:=fun hs h=>by
   obtain ⟨h1,h2⟩:=Qt k _ _ _ _ _ h
   exact ⟨by omega,fun t ht=>(h2 t ht).imp id fun e=>Nat.le_trans e hs⟩
  rw [i3] at h
  split at h
  ·exact up (by simp) h
  split at h
  ·exact up (by simp) h
  split at h
  ·exact up (List.dropWhile_suffix _).length_le h
  split at h
  ·cases h
  ·rename_i kind w hp
   have hw:=Qd hp
   obtain ⟨h1,h2⟩:=Qt k _ _ _ _ _ h
   rw [List.length_append,List.length_drop,List.length_singleton] at h1
   refine ⟨by omega,fun t ht=>?_⟩
   rcases h2 t ht with e | e
   ·rcases List.mem_append.1 e with e | e
    ·exact .inl e
    ·rw [List.mem_singleton] at e
     subst e
     right
     show ((c::r).take w).length<=_
     rw [List.length_take];omega
   ·right
    rw [List.length_drop] at e
    omega
theorem aa9 {s:bj} {l:List bh} (h:xv s=.ok l) (hs:s.length < 999000):LG l:=by
 have h1:=aa4 h
 unfold xv at h
 split at h
 ·cases h
 ·obtain ⟨h2,h3⟩:=Qt _ _ _ _ _ _ h
  exact ⟨h1,by simp at h2;omega,fun t ht=>by
   rcases h3 t ht with e | e
   ·cases e
   ·omega⟩
section
variable {P:Program} {X:Nat->Bool}
theorem DU {T:oc} {n:Nat} {a b:Code} (h:me P T n (.seq a b)=true):me P T n a=true/\me P T n b=true:=by
 simpa only [me,Bool.and_eq_true] using h
end
def JR (L:List bh) (fuel:Nat):Nat->aG->bC->Option (aG × bC)
 | 0,_,_=>none
 | k+1,st,P=>if c9 st=true/\(tk L st).kind≠4 then (HD L (G3 L fuel) fuel st P).bind fun x=>JR L fuel k x.1 x.2 else some (st,P)
def Nm (fuel:Nat) (s:bj):Option (Option bC):=match xv s with
 | .bad=>some none
 | .ok L=>(JR L fuel fuel ⟨0,0,0⟩ {}).map fun x=>if c9 x.1=true then some x.2 else none
def PgV (H H':ad) (w:Value) (P:bC):Prop:=∃vM vR vD vN gM gR gD gN,w=.agg #[vM,vR,vD,vN]/\Sl o9 H' vM P.msgs gM/\Sl qm H' vR P.bZ gR/\Sl jh H' vD P.defs gD/\Sl j6 H' vN P.nodes gN/\gZ H H' (gM++(gR++(gD++gN)))
def agb (R:Option bC) (H H':ad) (w:Value):Prop:=match R with
 | some P=>∃v,w=.tuple #[v,iV 0,iV 0,iV 0]/\PgV H H' v P
 | none=>∃v a b e,w=.tuple #[v,iV a,iV b,iV e]/\e≠0/\PgV H H' v {}
theorem q7 {h:KH}:fH Tryz.prog 28 [] h=.ok (.agg #[.slice none 0 0,.slice none 0 0,.slice none 0 0,.slice none 0 0]) h:=by kernel_rfl
theorem ada {H:ad} {s:bj} (hs:s.length < 999000) {fuel:Nat} {R:Option bC} (he:Nm fuel s=some R):aj Tryz.prog 59 #[ag s] H (fun w H'=>bc H H'/\agb R H H' w):=by
 refine aj.told ?_
 obtain ⟨c,hb,hc⟩:=Ju ahc Tryz.func59
 refine Nz (l:=[ag s]) Tryz.func59 hb (show 1<=60 by decide) fun hf=>?_
 have jn:c=Tryz.f59.body.getD .skip:=by rw [hb];rfl
 subst jn
 simp only [Tryz.f59,Option.getD_some] at hc ⊢
 obtain ⟨jW,hc⟩:=DU hc
 refine wS.seq (wS.of mixed jW ?_)
 simp only [go_sem]
 have dv:H.fz H.next=false:=hf.fresh (Nat.le_refl _)
 obtain ⟨eC,hc⟩:=DU hc
 obtain ⟨ic,hc⟩:=DU hc
 obtain ⟨zW,hc⟩:=DU hc
 refine wS.seq (wS.of mixed eC ?_)
 simp only [go_sem]
 refine af.by (acn (by omega)) ?_
 rintro w H2 - ⟨ho,hk⟩
 have Uf:H.next+1<=H2.next:=ho.nx
 have LK:bc H H2:=(bc.push H _).trans ho
 have g2:H2.get H.next=some ⟨[.slice none 0 0,.slice none 0 0,.slice none 0 0,.slice none 0 0],28,false,false⟩:=(ho.get H.next (Nat.lt_succ_self _)).trans (by rw [aU,if_pos rfl])
 unfold Nm at he
 cases hT:xv s with
 | bad=>
  rw [hT] at he hk
  cases he
  obtain ⟨a,b,e,rfl,dk⟩:=hk
  simp only [go_sem]
  refine wS.seq (wS.of mixed ic ?_)
  simp only [go_sem,dk,q7,g2,dv]
  refine ⟨(((LK.fr []).ah (.inr (Nat.le_refl _)) _).ai _).aE,_,a,b,e,rfl,dk,_,_,_,_,[],[],[],[],rfl,.inl ⟨rfl,rfl,rfl⟩,.inl ⟨rfl,rfl,rfl⟩,.inl ⟨rfl,rfl,rfl⟩,.inl ⟨rfl,rfl,rfl⟩,by simp [gZ]⟩
 | ok L=>
  rw [hT] at he hk
  obtain ⟨vL,f,rfl,eF,fu⟩:=hk
  obtain ⟨aL,kL,rfl⟩:=eF.val
  have UK:=aa9 hT hs
  simp only at he
  cases pK:JR L fuel fuel ⟨0,0,0⟩ {} with
  | none=>rw [pK] at he;cases he
  | some B=>
  rw [pK] at he
  cases he
  simp only [go_sem]
  refine wS.seq (wS.of mixed ic ?_)
  simp only [go_sem]
  refine wS.seq (wS.told (wS.of mixed zW ?_))
  simp only [go_sem]
  refine ⟨H.fz,fun _ h=>h,fun b hb=>by have:=hf.fz b hb;omega,wS.of mixed hc ?_⟩
  have uZ:∀b,H.next<=b->H.fz b=false:=fun b hb=>hf.fresh hb
  have akc:0 < L.length:=by
   obtain ⟨l',e,rfl,_⟩:=UK.ok
   simp
  have Sf:Fr [] H2 (((H2.push ⟨[.slice aL L.length kL,iV 0,.slice none 0 0,.bool true,iV 0,iV 0,.slice none 0 0],125,false,false⟩).push ⟨[pV H2.next,.slice none 0 0,.slice none 0 0,.slice none 0 0,.slice none 0 0],127,false,false⟩).ai H.fz):=(((Fr.refl [] H2).push _).push _).ai _
  have BS:PP0 L f (((H2.push ⟨[.slice aL L.length kL,iV 0,.slice none 0 0,.bool true,iV 0,iV 0,.slice none 0 0],125,false,false⟩).push ⟨[pV H2.next,.slice none 0 0,.slice none 0 0,.slice none 0 0,.slice none 0 0],127,false,false⟩).ai H.fz) (H2.next+1) H2.next ⟨0,0,0⟩:=
   ⟨⟨_,_,_,_,by rw [be,aU];exact if_pos rfl⟩,⟨_,_,_,_,by rw [be,bS (by rw [bH];omega),aU,if_pos rfl];rfl,eF.ae fun c hc=>Sf.get c (fu.hi c hc) (by simp)⟩,fun b hb=>⟨by have:=fu.hi b hb;show b < H2.next+2;omega,by have:=fu.hi b hb;omega,by have:=fu.hi b hb;omega⟩,by omega,akc,by show H2.next+1 < H2.next+2;omega,by show H2.next < H2.next+2;omega⟩
  have hdq:DQ L f (((H2.push ⟨[.slice aL L.length kL,iV 0,.slice none 0 0,.bool true,iV 0,iV 0,.slice none 0 0],125,false,false⟩).push ⟨[pV H2.next,.slice none 0 0,.slice none 0 0,.slice none 0 0,.slice none 0 0],127,false,false⟩).ai H.fz) (H2.next+1) H2.next ⟨0,0,0⟩ {} [] []:=
   ⟨⟨.slice none 0 0,.slice none 0 0,.slice none 0 0,[],[],[],[],[],[],[],[],⟨⟨BS,⟨_,by rw [be,aU];exact if_pos rfl,Gr.nil _ _ _⟩,by simp,by simp,by simp⟩,Gr.nil _ _ _,Gr.nil _ _ _,Gr.nil _ _ _,by simp,by simp,by simp,by simp,by simp,by simp,by simp,by simp⟩,rfl,rfl⟩,uZ _ (by omega),uZ _ (by omega),by simp,fun b hb=>uZ b (by have:H2.next+2<=b:=hb;omega)⟩
  generalize (((H2.push ⟨[.slice aL L.length kL,iV 0,.slice none 0 0,.bool true,iV 0,iV 0,.slice none 0 0],125,false,false⟩).push ⟨[pV H2.next,.slice none 0 0,.slice none 0 0,.slice none 0 0,.slice none 0 0],127,false,false⟩).ai H.fz)=H4 at Sf hdq
  clear BS
  simp only [go_sem]
  refine lp 549218942976 (fun n V H5=>∃bu P2 T G,DQ L f H5 (H2.next+1) H2.next bu P2 T G/\Fr [] H2 H5/\(∀c∈T,H2.next<=c)/\(∀c∈G,H2.next<=c)/\JR L fuel n bu P2=some B) (n:=fuel)
   ⟨⟨0,0,0⟩,{},[],[],hdq,Sf,by simp,by simp,pK⟩ ?_ (by rfl)
  rintro n V H5 ⟨bu,P2,T,G,dq,f5,yO,BT,pK⟩
  cases n with
  | zero=>cases pK
  | succ n=>
  rw [JR] at pK
  obtain ⟨⟨c1,c2,c3,mM,gM,mR,gR,mD,gD,m,g,lj,rfl,rfl⟩,fz,fq,fT,fn⟩:=dq
  have er:=lj.Lz fz fq fT fn
  have r0:=NR.start er
  have FJ:∀c∈H2.next::(H2.next+1)::m,H2.next<=c:=fun c hc=>by
   simp only [List.mem_cons] at hc
   rcases hc with e | e | e
   ·omega
   ·omega
   ·exact yO c (by simp [e])
  simp only [go_sem]
  refine af.by (eJ er.bJ) ?_
  rintro _ _ - ⟨rfl,rfl⟩
  by_cases EH:c9 bu=true
  ·simp only [go_sem,EH]
   refine af.by (rh er.bJ) ?_
   rintro _ H6 - ⟨rfl,p6⟩
   have r6:=r0.aY p6
   have qs:DF L f c1 c2 c3 H6 (H2.next+1) H2.next bu P2 mM gM mR gR mD gD m g:=lj.nr r6
   by_cases ij:(tk L bu).kind=4
   ·rw [if_neg (fun e=>e.2 ij)] at pK
    cases pK
    simp only [go_sem,ij]
    have ye:∀c∈(mM++gM)++((mR++gR)++((mD++gD)++(m++g))),H2.next<=c/\c < H6.next:=fun c hc=>by
     simp only [List.mem_append] at hc
     rcases hc with (e | e) | (e | e) | (e | e) | (e | e)
     ·exact ⟨yO c (by simp [e]),(qs.xM c e).1.1⟩
     ·exact ⟨BT c (by simp [e]),(qs.hG c (by simp [e])).1⟩
     ·exact ⟨yO c (by simp [e]),(qs.xR c e).1.1⟩
     ·exact ⟨BT c (by simp [e]),(qs.hG c (by simp [e])).1⟩
     ·exact ⟨yO c (by simp [e]),(qs.xD c e).1.1⟩
     ·exact ⟨BT c (by simp [e]),(qs.hG c (by simp [e])).1⟩
     ·exact ⟨yO c (by simp [e]),(qs.nq.hm c e).1⟩
     ·exact ⟨BT c (by simp [e]),(qs.nq.hg c e).1⟩
    refine af.by (eJ r6.nq.bJ) ?_
    rintro _ _ - ⟨rfl,rfl⟩
    obtain ⟨e1,e2,e3,e4,bL,oL,cL,BL,a,j,c,hq,hr,_⟩:=r6.nq.pp.fh
    have f6:Fr [] H2 H6:=f5.trans r6.fr fun c hc=>.inr (FJ c hc)
    have g6:=(f6.get H.next (by omega) (by simp)).trans g2
    have o6:bc H H6:=LK.trans f6.aE
    by_cases fX:c9 bu=true
    ·rw [if_pos fX]
     obtain ⟨vN,LL,lK⟩:=qs.nq.row
     obtain ⟨aM,rfl⟩:=qs.hM.val
     obtain ⟨aR,rfl⟩:=qs.hR.val
     obtain ⟨aD,rfl⟩:=qs.hD.val
     obtain ⟨aN,rfl⟩:=lK.val
     have LM:¬H.next=H2.next+1:=by omega
     simp only [go_sem,fX,LL,g6,dv]
     have UL:Fr [] H (H6.ah H.next ⟨[.slice aM P2.msgs.length P2.msgs.length,.slice aR P2.bZ.length P2.bZ.length,.slice aD P2.defs.length P2.defs.length,.slice aN P2.nodes.length P2.nodes.length],28,false,false⟩):=(o6.fr []).ah (.inr (Nat.le_refl _)) _
     have kE:∀c,H2.next<=c->(H6.ah H.next ⟨[.slice aM P2.msgs.length P2.msgs.length,.slice aR P2.bZ.length P2.bZ.length,.slice aD P2.defs.length P2.defs.length,.slice aN P2.nodes.length P2.nodes.length],28,false,false⟩).get c=H6.get c:=fun c hc=>by rw [az,if_neg (by omega)]
     refine ⟨(UL.ai _).aE,_,rfl,_,_,_,_,mM++gM,mR++gR,mD++gD,m++g,rfl,qs.hM.sl.ae fun c hc=>kE c (ye c (by simp only [List.mem_append] at hc ⊢;rcases hc with e | e <;> simp [e])).1,qs.hR.sl.ae fun c hc=>kE c (ye c (by simp only [List.mem_append] at hc ⊢;rcases hc with e | e <;> simp [e])).1,qs.hD.sl.ae fun c hc=>kE c (ye c (by simp only [List.mem_append] at hc ⊢;rcases hc with e | e <;> simp [e])).1,lK.sl.ae fun c hc=>kE c (ye c (by simp only [List.mem_append] at hc ⊢;rcases hc with e | e <;> simp [e])).1,fun c hc=>?_⟩
     have:=ye c (by simp only [List.mem_append] at hc ⊢;exact hc)
     exact ⟨by omega,this.2⟩
    ·rw [if_neg fX]
     have CX:bu.bad≠0:=by simpa [c9] using fX
     simp only [go_sem,fX]
     refine af.by (rh r6.nq.bJ) ?_
     rintro _ H7 - ⟨rfl,p7⟩
     have r7:=r6.aY p7
     simp only [go_sem]
     refine af.by (rh r7.nq.bJ) ?_
     rintro _ H8 - ⟨rfl,p8⟩
     have r8:=r7.aY p8
     obtain ⟨e1,e2,e3,e4,bL,oL,cL,BL,a,j,c,UM,BU,_⟩:=r8.nq.pp.fh
     have f8:Fr [] H2 H8:=f5.trans r8.fr fun c hc=>.inr (FJ c hc)
     have g8:=(f8.get H.next (by omega) (by simp)).trans g2
     obtain ⟨u1,u2,u3,u4,bL7,oL7,cL7,BL7,a7,j7,c7,qH,kC,_⟩:=r7.nq.pp.fh
     have LM:¬H2.next+1=H.next:=by omega
     have UN:¬H2.next=H.next:=by omega
     simp only [go_sem,q7,hq,hr,qH,kC,UM,BU,g8,dv,LM,UN]
     refine ⟨((((LK.trans f8.aE).fr []).ah (.inr (Nat.le_refl _)) _).ai _).aE,_,_,_,_,rfl,CX,_,_,_,_,[],[],[],[],rfl,.inl ⟨rfl,rfl,rfl⟩,.inl ⟨rfl,rfl,rfl⟩,.inl ⟨rfl,rfl,rfl⟩,.inl ⟨rfl,rfl,rfl⟩,by simp [gZ]⟩
   ·rw [if_pos ⟨EH,ij⟩] at pK
    cases UO:HD L (G3 L fuel) fuel bu P2 with
    | none=>rw [UO] at pK;cases pK
    | some x=>
    obtain ⟨Ae,P3⟩:=x
    rw [UO] at pK
    simp only [Option.bind_some] at pK
    simp only [go_sem,ij]
    refine af.by (aga UK (fun {c1 c2 c3}=>XL UK fuel) qs r6.nq.fz r6.nq.fq (fun c hc=>by rw [p6.2.1];exact fT c hc) UO) ?_
    rintro _ H7 - p7
    have akd:DQ L f H6 (H2.next+1) H2.next bu P2 (mM++(mR++(mD++m))) (gM++(gR++(gD++g))):=⟨qs.q0,r6.nq.fz,r6.nq.fq,fun c hc=>by rw [p6.2.1];exact fT c hc,r6.nq.fn⟩
    obtain ⟨T',G',dq7,s7,t7⟩:=akd.post p7
    have f6:Fr [] H2 H6:=f5.trans r6.fr fun c hc=>.inr (FJ c hc)
    have f7:Fr [] H2 H7:=f6.trans p7.1 fun c hc=>.inr (by
     simp only [List.mem_cons] at hc
     rcases hc with e | e | e
     ·omega
     ·omega
     ·exact yO c e)
    have n6:=f6.nx
    simp only [go_sem]
    exact ⟨n,by omega,Ae,P3,T',G',dq7,f7,fun c hc=>(s7 c hc).elim (yO c) fun e=>by omega,fun c hc=>(t7 c hc).elim (BT c) fun e=>by omega,pK⟩
  ·rw [if_neg (fun e=>EH e.1)] at pK
   cases pK
   simp only [go_sem,EH]
   have ye:∀c∈(mM++gM)++((mR++gR)++((mD++gD)++(m++g))),H2.next<=c/\c < H5.next:=fun c hc=>by
    simp only [List.mem_append] at hc
    rcases hc with (e | e) | (e | e) | (e | e) | (e | e)
    ·exact ⟨yO c (by simp [e]),(lj.xM c e).1.1⟩
    ·exact ⟨BT c (by simp [e]),(lj.hG c (by simp [e])).1⟩
    ·exact ⟨yO c (by simp [e]),(lj.xR c e).1.1⟩
    ·exact ⟨BT c (by simp [e]),(lj.hG c (by simp [e])).1⟩
    ·exact ⟨yO c (by simp [e]),(lj.xD c e).1.1⟩
    ·exact ⟨BT c (by simp [e]),(lj.hG c (by simp [e])).1⟩
    ·exact ⟨yO c (by simp [e]),(lj.nq.hm c e).1⟩
    ·exact ⟨BT c (by simp [e]),(lj.nq.hg c e).1⟩
   refine af.by (eJ r0.nq.bJ) ?_
   rintro _ _ - ⟨rfl,rfl⟩
   obtain ⟨e1,e2,e3,e4,bL,oL,cL,BL,a,j,c,hq,hr,_⟩:=r0.nq.pp.fh
   have f6:Fr [] H2 H5:=f5.trans r0.fr fun c hc=>.inr (FJ c hc)
   have g6:=(f6.get H.next (by omega) (by simp)).trans g2
   have o6:bc H H5:=LK.trans f6.aE
   by_cases fX:c9 bu=true
   ·rw [if_pos fX]
    obtain ⟨vN,LL,lK⟩:=lj.nq.row
    obtain ⟨aM,rfl⟩:=lj.hM.val
    obtain ⟨aR,rfl⟩:=lj.hR.val
    obtain ⟨aD,rfl⟩:=lj.hD.val
    obtain ⟨aN,rfl⟩:=lK.val
    have LM:¬H.next=H2.next+1:=by omega
    simp only [go_sem,fX,LL,g6,dv]
    have UL:Fr [] H (H5.ah H.next ⟨[.slice aM P2.msgs.length P2.msgs.length,.slice aR P2.bZ.length P2.bZ.length,.slice aD P2.defs.length P2.defs.length,.slice aN P2.nodes.length P2.nodes.length],28,false,false⟩):=(o6.fr []).ah (.inr (Nat.le_refl _)) _
    have kE:∀c,H2.next<=c->(H5.ah H.next ⟨[.slice aM P2.msgs.length P2.msgs.length,.slice aR P2.bZ.length P2.bZ.length,.slice aD P2.defs.length P2.defs.length,.slice aN P2.nodes.length P2.nodes.length],28,false,false⟩).get c=H5.get c:=fun c hc=>by rw [az,if_neg (by omega)]
    refine ⟨(UL.ai _).aE,_,rfl,_,_,_,_,mM++gM,mR++gR,mD++gD,m++g,rfl,lj.hM.sl.ae fun c hc=>kE c (ye c (by simp only [List.mem_append] at hc ⊢;rcases hc with e | e <;> simp [e])).1,lj.hR.sl.ae fun c hc=>kE c (ye c (by simp only [List.mem_append] at hc ⊢;rcases hc with e | e <;> simp [e])).1,lj.hD.sl.ae fun c hc=>kE c (ye c (by simp only [List.mem_append] at hc ⊢;rcases hc with e | e <;> simp [e])).1,lK.sl.ae fun c hc=>kE c (ye c (by simp only [List.mem_append] at hc ⊢;rcases hc with e | e <;> simp [e])).1,fun c hc=>?_⟩
    have:=ye c (by simp only [List.mem_append] at hc ⊢;exact hc)
    exact ⟨by omega,this.2⟩
   ·rw [if_neg fX]
    have CX:bu.bad≠0:=by simpa [c9] using fX
    simp only [go_sem,fX]
    refine af.by (rh r0.nq.bJ) ?_
    rintro _ H7 - ⟨rfl,p7⟩
    have r7:=r0.aY p7
    simp only [go_sem]
    refine af.by (rh r7.nq.bJ) ?_
    rintro _ H8 - ⟨rfl,p8⟩
    have r8:=r7.aY p8
    obtain ⟨e1,e2,e3,e4,bL,oL,cL,BL,a,j,c,UM,BU,_⟩:=r8.nq.pp.fh
    have f8:Fr [] H2 H8:=f5.trans r8.fr fun c hc=>.inr (FJ c hc)
    have g8:=(f8.get H.next (by omega) (by simp)).trans g2
    obtain ⟨u1,u2,u3,u4,bL7,oL7,cL7,BL7,a7,j7,c7,qH,kC,_⟩:=r7.nq.pp.fh
    have LM:¬H2.next+1=H.next:=by omega
    have UN:¬H2.next=H.next:=by omega
    simp only [go_sem,q7,hq,hr,qH,kC,UM,BU,g8,dv,LM,UN]
    refine ⟨((((LK.trans f8.aE).fr []).ah (.inr (Nat.le_refl _)) _).ai _).aE,_,_,_,_,rfl,CX,_,_,_,_,[],[],[],[],rfl,.inl ⟨rfl,rfl,rfl⟩,.inl ⟨rfl,rfl,rfl⟩,.inl ⟨rfl,rfl,rfl⟩,.inl ⟨rfl,rfl,rfl⟩,by simp [gZ]⟩
section
variable {H:ad}
def findF (s:bj):Nat->List bj->Int
 | _,[]=> -1
 | i,x::l=>if x=s then ((i:Nat):Int) else findF s (i+1) l
def cH (l:List bj) (s:bj):Int:=findF s 0 l
theorem qh {v:Value} {l:List bj} {g:List Nat} {s:bj} (h:Sl .str H v l g) (hl:l.length < 1000000):aj Tryz.prog 121 #[v,ag s] H (fun w H'=>w=iV (cH l s)/\H=H'):=by
 refine aeo (Nat.le_refl _) fun hf=>?_
 simp only [Tryz.f121,Option.getD_some]
 obtain ⟨a,c,rfl⟩:=h.val
 simp only [go_sem]
 refine il 523888 l.length (fun i V H2=>V 9=iV (i:Nat)/\H=H2/\cH l s=findF s i (l.drop i)) ⟨by simp only [go_sem] <;> rfl,rfl,rfl⟩ ?_ ?_ (by rfl)
 ·rintro i V H2 hi ⟨e9,rfl,gK⟩
  have hx:l[i]?=some (l[i]'hi):=List.getElem?_eq_getElem hi
  have cB:l.drop i=(l[i]'hi)::l.drop (i+1):=(List.getElem_cons_drop hi).symm
  generalize (l[i]'hi)=x at hx cB
  obtain ⟨b,o,c',B,hv,hB,ee,iv⟩:=h.JQ hx
  cases hv
  rw [cB,findF] at gK
  have bX:IntKind.wrap .i64 (((i:Nat):Int)+1)=((i+1:Nat):Int):=cW hi (by omega)
  by_cases yw:x=s
  ·rw [if_pos yw] at gK
   simp only [go_sem,e9,hi,hB,iv,yw]
   rw [gK]
  ·rw [if_neg yw] at gK
   simp only [go_sem,e9,hi,hB,iv,yw,bX]
   exact gK
 ·rintro V H2 ⟨e9,rfl,gK⟩
  simp only [go_sem,e9]
  rw [List.drop_length] at gK
  rw [gK];rfl
theorem Nn {vM vR vD vN:Value} {l:List A1} {g:List Nat} (h:Sl o9 H vM l g) (hl:l.length < 1000000) (hg:∀b∈g,b < H.next):aj Tryz.prog 118 #[.agg #[vM,vR,vD,vN]] H (fun w H'=>(∃g',Sl .str H' w (l.map (·.name)) g'/\gZ H H' g')/\bc H H'/\∀c,H'.fz c=H.fz c):=by
 refine aj.told ?_
 refine aei (Nat.le_refl _) fun hf=>?_
 simp only [Tryz.f118,Option.getD_some]
 obtain ⟨a,c,rfl⟩:=h.val
 simp only [go_sem]
 refine il 523816 l.length (fun i V H2=>V 9=iV (i:Nat)/\∃v m,V 3=v/\Gr .str 9 H2 v ((l.take i).map (·.name)) m []/\gZ H H2 m/\bc H H2)
  ⟨by simp only [go_sem] <;> rfl,.slice none 0 0,[],by simp only [go_sem] <;> rfl,Gr.nil _ _ _,by simp [gZ],((Fr.refl [] H).push _).aE⟩ ?_ ?_ (by rfl)
 ·rintro i V H2 hi ⟨ei,v,m,e3,cw,cJ,ho⟩
  have hx:l[i]?=some (l[i]'hi):=List.getElem?_eq_getElem hi
  have ix:l.take (i+1)=l.take i++[l[i]'hi]:=List.take_succ_eq_append_getElem hi
  generalize (l[i]'hi)=x at hx ix
  have h2:=h.ae (H':=H2) fun b hb=>ho.get b (hg b hb)
  obtain ⟨b,o,c',B,gx,hv,hB,ee,de,b7,hE⟩:=h2.at hx
  cases hv
  obtain ⟨v5,aV,fk⟩:=hE
  obtain ⟨a5,k5,rfl⟩:=fk.val
  have en:o+i * 4+4<=B.cells.length:=b7
  have aV:(B.cells.drop (o+i * 4)).take 4=[ag x.name,.slice a5 x.types.length k5,iV x.line,iV x.au]:=aV
  have bX:IntKind.wrap .i64 (((i:Nat):Int)+1)=((i+1:Nat):Int):=cW hi (by omega)
  obtain ⟨av,sV⟩:=cw.val
  have aZ:((l.take i).map (·.name)).length=i:=by rw [List.length_map,List.length_take];omega
  have ef:H.fz H2.next=false:=hf.fresh ho.nx
  rw [aZ] at sV
  simp only [go_sem,ei,e3,sV,hi,hB,en,aV,ef,eA uE (by decide) (by decide)]
  rw [<-sV]
  have EI:=(cw.ae (H':=(H2.push ⟨[ag x.name,.slice a5 x.types.length k5,iV x.line,iV x.au],107,false,false⟩).push ⟨[ag x.name],9,false,false⟩) (fun b hb=>by have:=(cJ b hb).2;rw [bS (by rw [bH];omega),bS this]) (by simp))
  refine jT (r:=.str) (x:=x.name) (g':=[]) uE EI (fun c hc=>by have:=(cJ c hc).2;rw [bH,bH];omega) (by simp) (by simp) (fun c hc=>hf.fresh (cJ c hc).1) (by rw [aU];exact if_pos rfl) ⟨rfl,rfl⟩ rfl (by rw [aZ];omega) ?_
  intro v7 H7 bG dX je dr jH
  have vk:bc H H7:=((((ho.fr []).push _).push _).trans dr fun c hc=>.inr (cJ c hc).1).aE
  simp only [go_sem,ei,bX]
  refine ⟨v7,[H2.next+2],rfl,?_,fun c hc=>?_,vk⟩
  ·rw [ix,List.map_append];exact bG
  ·rw [List.mem_singleton] at hc
   subst hc
   have:=ho.nx
   have Ru:H7.next=H2.next+3:=dX
   omega
 ·rintro V H2 ⟨ei,v,m,e3,cw,cJ,ho⟩
  simp only [go_sem,ei,e3]
  rw [List.take_length] at cw
  have:=cw.sl
  rw [List.append_nil] at this
  exact ⟨⟨m,this.ae fun _ _=>rfl,cJ⟩,((ho.fr []).ai _).aE,fun _=>trivial⟩
theorem G4 {vM vR vD vN:Value} {l:List A2} {g:List Nat} (h:Sl qm H vR l g) (hl:l.length < 1000000) (hg:∀b∈g,b < H.next):aj Tryz.prog 119 #[.agg #[vM,vR,vD,vN]] H (fun w H'=>(∃g',Sl .str H' w (l.map (·.name)) g'/\gZ H H' g')/\bc H H'/\∀c,H'.fz c=H.fz c):=by
 refine aj.told ?_
 refine aek (Nat.le_refl _) fun hf=>?_
 simp only [Tryz.f119,Option.getD_some]
 obtain ⟨a,c,rfl⟩:=h.val
 simp only [go_sem]
 refine il 523816 l.length (fun i V H2=>V 9=iV (i:Nat)/\∃v m,V 3=v/\Gr .str 9 H2 v ((l.take i).map (·.name)) m []/\gZ H H2 m/\bc H H2)
  ⟨by simp only [go_sem] <;> rfl,.slice none 0 0,[],by simp only [go_sem] <;> rfl,Gr.nil _ _ _,by simp [gZ],((Fr.refl [] H).push _).aE⟩ ?_ ?_ (by rfl)
 ·rintro i V H2 hi ⟨ei,v,m,e3,cw,cJ,ho⟩
  have hx:l[i]?=some (l[i]'hi):=List.getElem?_eq_getElem hi
  have ix:l.take (i+1)=l.take i++[l[i]'hi]:=List.take_succ_eq_append_getElem hi
  generalize (l[i]'hi)=x at hx ix
  have h2:=h.ae (H':=H2) fun b hb=>ho.get b (hg b hb)
  obtain ⟨b,o,c',B,gx,hv,hB,ee,de,b7,hE⟩:=h2.at hx
  cases hv
  obtain ⟨v5,aV,fk⟩:=hE
  obtain ⟨a5,k5,rfl⟩:=fk.val
  have en:o+i * 4+4<=B.cells.length:=b7
  have aV:(B.cells.drop (o+i * 4)).take 4=[ag x.name,.slice a5 x.fields.length k5,iV x.line,iV x.au]:=aV
  have bX:IntKind.wrap .i64 (((i:Nat):Int)+1)=((i+1:Nat):Int):=cW hi (by omega)
  obtain ⟨av,sV⟩:=cw.val
  have aZ:((l.take i).map (·.name)).length=i:=by rw [List.length_map,List.length_take];omega
  have ef:H.fz H2.next=false:=hf.fresh ho.nx
  rw [aZ] at sV
  simp only [go_sem,ei,e3,sV,hi,hB,en,aV,ef,eA uE (by decide) (by decide)]
  rw [<-sV]
  have EI:=(cw.ae (H':=(H2.push ⟨[ag x.name,.slice a5 x.fields.length k5,iV x.line,iV x.au],164,false,false⟩).push ⟨[ag x.name],9,false,false⟩) (fun b hb=>by have:=(cJ b hb).2;rw [bS (by rw [bH];omega),bS this]) (by simp))
  refine jT (r:=.str) (x:=x.name) (g':=[]) uE EI (fun c hc=>by have:=(cJ c hc).2;rw [bH,bH];omega) (by simp) (by simp) (fun c hc=>hf.fresh (cJ c hc).1) (by rw [aU];exact if_pos rfl) ⟨rfl,rfl⟩ rfl (by rw [aZ];omega) ?_
  intro v7 H7 bG dX je dr jH
  have vk:bc H H7:=((((ho.fr []).push _).push _).trans dr fun c hc=>.inr (cJ c hc).1).aE
  simp only [go_sem,ei,bX]
  refine ⟨v7,[H2.next+2],rfl,?_,fun c hc=>?_,vk⟩
  ·rw [ix,List.map_append];exact bG
  ·rw [List.mem_singleton] at hc
   subst hc
   have:=ho.nx
   have Ru:H7.next=H2.next+3:=dX
   omega
 ·rintro V H2 ⟨ei,v,m,e3,cw,cJ,ho⟩
  simp only [go_sem,ei,e3]
  rw [List.take_length] at cw
  have:=cw.sl
  rw [List.append_nil] at this
  exact ⟨⟨m,this.ae fun _ _=>rfl,cJ⟩,((ho.fr []).ai _).aE,fun _=>trivial⟩
theorem QZ {vM vR vD vN:Value} {l:List eH} {g:List Nat} (h:Sl jh H vD l g) (hl:l.length < 1000000) (hg:∀b∈g,b < H.next):aj Tryz.prog 120 #[.agg #[vM,vR,vD,vN]] H (fun w H'=>(∃g',Sl .str H' w (l.map (·.name)) g'/\gZ H H' g')/\bc H H'/\∀c,H'.fz c=H.fz c):=by
 refine aj.told ?_
 refine aem (Nat.le_refl _) fun hf=>?_
 simp only [Tryz.f120,Option.getD_some]
 obtain ⟨a,c,rfl⟩:=h.val
 simp only [go_sem]
 refine il 523816 l.length (fun i V H2=>V 9=iV (i:Nat)/\∃v m,V 3=v/\Gr .str 9 H2 v ((l.take i).map (·.name)) m []/\gZ H H2 m/\bc H H2)
  ⟨by simp only [go_sem] <;> rfl,.slice none 0 0,[],by simp only [go_sem] <;> rfl,Gr.nil _ _ _,by simp [gZ],((Fr.refl [] H).push _).aE⟩ ?_ ?_ (by rfl)
 ·rintro i V H2 hi ⟨ei,v,m,e3,cw,cJ,ho⟩
  have hx:l[i]?=some (l[i]'hi):=List.getElem?_eq_getElem hi
  have ix:l.take (i+1)=l.take i++[l[i]'hi]:=List.take_succ_eq_append_getElem hi
  generalize (l[i]'hi)=x at hx ix
  have h2:=h.ae (H':=H2) fun b hb=>ho.get b (hg b hb)
  obtain ⟨b,o,c',B,gx,hv,hB,ee,de,b7,hE⟩:=h2.at hx
  cases hv
  obtain ⟨v5,v6,UP,f5,f6,f7,aV,rfl,fk,vJ,uk⟩:=hE
  obtain ⟨a5,k5,rfl⟩:=fk.val
  obtain ⟨a6,k6,rfl⟩:=vJ.val
  obtain ⟨a7,k7,rfl⟩:=uk.val
  have en:o+i * 9+9<=B.cells.length:=b7
  have aV:(B.cells.drop (o+i * 9)).take 9=dK x (.slice a5 x.params.length k5) (.slice a6 x.pat.length k6) (.slice a7 x.on.length k7):=aV
  have bX:IntKind.wrap .i64 (((i:Nat):Int)+1)=((i+1:Nat):Int):=cW hi (by omega)
  obtain ⟨av,sV⟩:=cw.val
  have aZ:((l.take i).map (·.name)).length=i:=by rw [List.length_map,List.length_take];omega
  have ef:H.fz H2.next=false:=hf.fresh ho.nx
  rw [aZ] at sV
  simp only [go_sem,ei,e3,sV,hi,hB,en,aV,ef,eA uE (by decide) (by decide)]
  rw [<-sV]
  have EI:=(cw.ae (H':=(H2.push ⟨dK x (.slice a5 x.params.length k5) (.slice a6 x.pat.length k6) (.slice a7 x.on.length k7),38,false,false⟩).push ⟨[ag x.name],9,false,false⟩) (fun b hb=>by have:=(cJ b hb).2;rw [bS (by rw [bH];omega),bS this]) (by simp))
  refine jT (r:=.str) (x:=x.name) (g':=[]) uE EI (fun c hc=>by have:=(cJ c hc).2;rw [bH,bH];omega) (by simp) (by simp) (fun c hc=>hf.fresh (cJ c hc).1) (by rw [aU];exact if_pos rfl) ⟨rfl,rfl⟩ rfl (by rw [aZ];omega) ?_
  intro v7 H7 bG dX je dr jH
  have vk:bc H H7:=((((ho.fr []).push _).push _).trans dr fun c hc=>.inr (cJ c hc).1).aE
  simp only [go_sem,ei,bX]
  refine ⟨v7,[H2.next+2],rfl,?_,fun c hc=>?_,vk⟩
  ·rw [ix,List.map_append];exact bG
  ·rw [List.mem_singleton] at hc
   subst hc
   have:=ho.nx
   have Ru:H7.next=H2.next+3:=dX
   omega
 ·rintro V H2 ⟨ei,v,m,e3,cw,cJ,ho⟩
  simp only [go_sem,ei,e3]
  rw [List.take_length] at cw
  have:=cw.sl
  rw [List.append_nil] at this
  exact ⟨⟨m,this.ae fun _ _=>rfl,cJ⟩,((ho.fr []).ai _).aE,fun _=>trivial⟩
theorem MZ {vF:Value} {l:List sJ} {g:List Nat} (h:Sl ls H vF l g) (hl:l.length < 1000000) (hg:∀b∈g,b < H.next):aj Tryz.prog 150 #[vF] H (fun w H'=>(∃g',Sl .str H' w (l.map (·.name)) g'/\gZ H H' g')/\bc H H'/\∀c,H'.fz c=H.fz c):=by
 refine aj.told ?_
 refine ae3 (Nat.le_refl _) fun hf=>?_
 simp only [Tryz.f150,Option.getD_some]
 obtain ⟨a,c,rfl⟩:=h.val
 simp only [go_sem]
 refine il 261928 l.length (fun i V H2=>V 8=iV (i:Nat)/\∃v m,V 3=v/\Gr .str 9 H2 v ((l.take i).map (·.name)) m []/\gZ H H2 m/\bc H H2)
  ⟨by simp only [go_sem] <;> rfl,.slice none 0 0,[],by simp only [go_sem] <;> rfl,Gr.nil _ _ _,by simp [gZ],(Fr.refl [] H).aE⟩ ?_ ?_ (by rfl)
 ·rintro i V H2 hi ⟨ei,v,m,e3,cw,cJ,ho⟩
  have hx:l[i]?=some (l[i]'hi):=List.getElem?_eq_getElem hi
  have ix:l.take (i+1)=l.take i++[l[i]'hi]:=List.take_succ_eq_append_getElem hi
  generalize (l[i]'hi)=x at hx ix
  have h2:=h.ae (H':=H2) fun b hb=>ho.get b (hg b hb)
  obtain ⟨b,o,c',B,gx,hv,hB,ee,de,b7,hE⟩:=h2.at hx
  cases hv
  obtain ⟨v5,aV,fk⟩:=hE
  obtain ⟨a5,k5,rfl⟩:=fk.val
  have en:o+i * 6+6<=B.cells.length:=b7
  have aV:(B.cells.drop (o+i * 6)).take 6=[ag x.name,iV x.ty.kind,iV x.ty.cap,iV x.ty.rc,ag x.ty.name,.slice a5 x.ty.pat.length k5]:=aV
  have bX:IntKind.wrap .i64 (((i:Nat):Int)+1)=((i+1:Nat):Int):=cW hi (by omega)
  obtain ⟨av,sV⟩:=cw.val
  have aZ:((l.take i).map (·.name)).length=i:=by rw [List.length_map,List.length_take];omega
  have ef:H.fz H2.next=false:=hf.fresh ho.nx
  rw [aZ] at sV
  simp only [go_sem,ei,e3,sV,hi,hB,en,aV,ef,eA uE (by decide) (by decide)]
  rw [<-sV]
  have EI:=(cw.ae (H':=(H2.push ⟨[ag x.name,iV x.ty.kind,iV x.ty.cap,iV x.ty.rc,ag x.ty.name,.slice a5 x.ty.pat.length k5],101,false,false⟩).push ⟨[ag x.name],9,false,false⟩) (fun b hb=>by have:=(cJ b hb).2;rw [bS (by rw [bH];omega),bS this]) (by simp))
  refine jT (r:=.str) (x:=x.name) (g':=[]) uE EI (fun c hc=>by have:=(cJ c hc).2;rw [bH,bH];omega) (by simp) (by simp) (fun c hc=>hf.fresh (cJ c hc).1) (by rw [aU];exact if_pos rfl) ⟨rfl,rfl⟩ rfl (by rw [aZ];omega) ?_
  intro v7 H7 bG dX je dr jH
  have vk:bc H H7:=((((ho.fr []).push _).push _).trans dr fun c hc=>.inr (cJ c hc).1).aE
  simp only [go_sem,ei,bX]
  refine ⟨v7,[H2.next+2],rfl,?_,fun c hc=>?_,vk⟩
  ·rw [ix,List.map_append];exact bG
  ·rw [List.mem_singleton] at hc
   subst hc
   have:=ho.nx
   have Ru:H7.next=H2.next+3:=dX
   omega
 ·rintro V H2 ⟨ei,v,m,e3,cw,cJ,ho⟩
  simp only [go_sem,ei,e3]
  rw [List.take_length] at cw
  have:=cw.sl
  rw [List.append_nil] at this
  exact ⟨⟨m,this.ae fun _ _=>rfl,cJ⟩,((ho.fr []).ai _).aE,fun _=>trivial⟩
end
section
variable {H:ad}
def Ei:Nat->List eH->Int
 | _,[]=> -1
 | i,d::l=>if d.name=[109,97,105,110]/\d.params.length=0 then ((i:Nat):Int) else Ei (i+1) l
def sd (l:List eH):Int:=Ei 0 l
theorem agc {vM vR vD vN:Value} {l:List eH} {g:List Nat} (h:Sl jh H vD l g) (hl:l.length < 1000000) (hg:∀b∈g,b < H.next):aj Tryz.prog 44 #[.agg #[vM,vR,vD,vN]] H (fun w H'=>w=iV (sd l)/\bc H H'/\∀c,H'.fz c=H.fz c):=by
 refine aj.told ?_
 refine ag0 (Nat.le_refl _) fun hf=>?_
 simp only [Tryz.f44,Option.getD_some]
 obtain ⟨a,c,rfl⟩:=h.val
 simp only [go_sem]
 refine il 16776988 l.length (fun i V H2=>V 8=iV (i:Nat)/\bc H H2/\sd l=Ei i (l.drop i)) ⟨by simp only [go_sem] <;> rfl,((Fr.refl [] H).push _).aE,rfl⟩ ?_ ?_ (by rfl)
 ·rintro i V H2 hi ⟨ei,ho,gK⟩
  have hx:l[i]?=some (l[i]'hi):=List.getElem?_eq_getElem hi
  have cB:l.drop i=(l[i]'hi)::l.drop (i+1):=(List.getElem_cons_drop hi).symm
  generalize (l[i]'hi)=x at hx cB
  have h2:=h.ae (H':=H2) fun b hb=>ho.get b (hg b hb)
  obtain ⟨b,o,c',B,gx,hv,hB,ee,de,b7,hE⟩:=h2.at hx
  cases hv
  obtain ⟨v5,v6,UP,f5,f6,f7,aV,rfl,fk,vJ,uk⟩:=hE
  obtain ⟨a5,k5,rfl⟩:=fk.val
  obtain ⟨a6,k6,rfl⟩:=vJ.val
  obtain ⟨a7,k7,rfl⟩:=uk.val
  have en:o+i * 9+9<=B.cells.length:=b7
  have aV:(B.cells.drop (o+i * 9)).take 9=dK x (.slice a5 x.params.length k5) (.slice a6 x.pat.length k6) (.slice a7 x.on.length k7):=aV
  have bX:IntKind.wrap .i64 (((i:Nat):Int)+1)=((i+1:Nat):Int):=cW hi (by omega)
  have ef:H.fz H2.next=false:=hf.fresh ho.nx
  have fD:∀B,B.ro=false->bc H (H2.push B):=fun B hB=>((ho.fr []).push B hB).aE
  rw [cB,Ei] at gK
  by_cases hn:x.name=[109,97,105,110]
  ·by_cases hp:x.params.length=0
   ·rw [if_pos ⟨hn,hp⟩] at gK
    have Ld:((x.params.length:Nat):Int)=0:=by omega
    simp only [go_sem,ei,hi,hB,en,aV,ef,hn,Ld]
    rw [gK]
    exact ⟨rfl,(((ho.fr []).push _).ai _).aE,fun _=>trivial⟩
   ·rw [if_neg (fun e=>hp e.2)] at gK
    have Ld:¬(((x.params.length:Nat):Int)=0):=by omega
    simp only [go_sem,ei,hi,hB,en,aV,ef,hn,Ld,bX]
    exact ⟨fD _ rfl,gK⟩
  ·rw [if_neg (fun e=>hn e.1)] at gK
   simp only [go_sem,ei,hi,hB,en,aV,ef,hn,bX]
   exact ⟨fD _ rfl,gK⟩
 ·rintro V H2 ⟨ei,ho,gK⟩
  simp only [go_sem,ei]
  rw [List.drop_length] at gK
  rw [gK]
  exact ⟨rfl,((ho.fr []).ai _).aE,fun _=>trivial⟩
theorem X9 {s:bj}:aj Tryz.prog 148 #[ag s] H (fun w H'=>w=.agg #[iV 2,iV 0,ag s]/\bc H H'/\∀c,H'.fz c=H.fz c):=by
 refine aj.told ?_
 refine aeZ (Nat.le_refl _) fun hf=>?_
 simp only [Tryz.f148,Option.getD_some]
 have hX:H.fz H.next=false:=hf.fresh (Nat.le_refl _)
 have bl:∀{h:KH},fH Tryz.prog 44 [(0,iV 2),(2,ag s)] h=.ok (.agg #[iV 2,iV 0,ag s]) h:=fun {h}=>by kernel_rfl
 simp only [go_sem,bl,hX]
 exact ⟨(((Fr.refl [] H).push _).ai _).aE,fun _=>trivial⟩
def Ej:Int->List eZ->Int
 | f,[]=>f
 | f,b::l=>Ej (if f < 0∨b.body < f then b.body else f) l
def No (place:Int):Nat->Int->List eH->Int
 | _,at_,[]=>at_
 | i,at_,d::l=>No place (i+1) (if 0<=Ej d.body d.on/\Ej d.body d.on<=place then ((i:Nat):Int) else at_) l
def JS (l:List eH) (place:Int):Int:=No place 0 (-1) l
theorem adb {vM vR vD vN:Value} {l:List eH} {g:List Nat} {place:Int} (h:Sl jh H vD l g) (hl:l.length < 1000000) (ig:∀d∈l,d.on.length < 1000000) (hg:∀b∈g,b < H.next):aj Tryz.prog 55 #[.agg #[vM,vR,vD,vN],iV place] H (fun w H'=>w=iV (JS l place)/\bc H H'/\∀c,H'.fz c=H.fz c):=by
 refine aj.told ?_
 refine ahb (Nat.le_refl _) fun hf=>?_
 simp only [Tryz.f55,Option.getD_some]
 obtain ⟨a,c,rfl⟩:=h.val
 simp only [go_sem]
 refine il 281474976695776 l.length (fun i V H2=>V 14=iV (i:Nat)/\∃at_,V 5=iV at_/\bc H H2/\JS l place=No place i at_ (l.drop i)) ⟨by simp only [go_sem] <;> rfl, -1,by simp only [go_sem] <;> rfl,((Fr.refl [] H).push _).aE,rfl⟩ ?_ ?_ (by rfl)
 ·rintro i V H2 hi ⟨ei,at_,e5,ho,gK⟩
  have hx:l[i]?=some (l[i]'hi):=List.getElem?_eq_getElem hi
  have um:(l[i]'hi)∈l:=List.getElem_mem hi
  have cB:l.drop i=(l[i]'hi)::l.drop (i+1):=(List.getElem_cons_drop hi).symm
  generalize (l[i]'hi)=x at hx cB um
  have mI:=ig x um
  have h2:=h.ae (H':=H2) fun b hb=>ho.get b (hg b hb)
  obtain ⟨b,o,c',B,gx,hv,hB,ee,de,b7,hE⟩:=h2.at hx
  cases hv
  obtain ⟨v5,v6,UP,f5,f6,f7,aV,rfl,fk,vJ,uk⟩:=hE
  obtain ⟨a5,k5,rfl⟩:=fk.val
  obtain ⟨a6,k6,rfl⟩:=vJ.val
  obtain ⟨a7,k7,rfl⟩:=uk.val
  have en:o+i * 9+9<=B.cells.length:=b7
  have aV:(B.cells.drop (o+i * 9)).take 9=dK x (.slice a5 x.params.length k5) (.slice a6 x.pat.length k6) (.slice a7 x.on.length k7):=aV
  have bX:IntKind.wrap .i64 (((i:Nat):Int)+1)=((i+1:Nat):Int):=cW hi (by omega)
  have ef:H.fz H2.next=false:=hf.fresh ho.nx
  rw [cB,No] at gK
  simp only [go_sem,ei,hi,hB,en,aV,ef]
  have ho3:bc H2 (H2.push ⟨dK x (.slice a5 x.params.length k5) (.slice a6 x.pat.length k6) (.slice a7 x.on.length k7),38,false,false⟩):=bc.push H2 _
  generalize (H2.push ⟨dK x (.slice a5 x.params.length k5) (.slice a6 x.pat.length k6) (.slice a7 x.on.length k7),38,false,false⟩)=H3 at ho3
  refine il 549739037952 x.on.length (fun j V H4=>V 24=iV (j:Nat)/\∃f,V 8=iV f/\bc H2 H4/\Ej x.body x.on=Ej f (x.on.drop j)) ⟨by simp only [go_sem] <;> rfl,x.body,by simp only [go_sem] <;> rfl,ho3,rfl⟩ ?_ ?_ (by rfl)
  ·rintro j V4 H4 hj ⟨ej,f,e8,FK,lL⟩
   have hy:x.on[j]?=some (x.on[j]'hj):=List.getElem?_eq_getElem hj
   have tT:x.on.drop j=(x.on[j]'hj)::x.on.drop (j+1):=(List.getElem_cons_drop hj).symm
   generalize (x.on[j]'hj)=y at hy tT
   have yP:=uk.ae (H':=H4) fun b hb=>FK.get b (by have:=hg b (de b (by simp [hb]));have:=ho.nx;omega)
   obtain ⟨b2,o2,c2,B2,mJ,nv,py,au8,au9,Sg,hE2⟩:=yP.at hy
   cases nv
   obtain ⟨w5,w6,u5,u6,EJ,rfl,UQ,IL⟩:=hE2
   obtain ⟨a8,k8,rfl⟩:=UQ.val
   obtain ⟨a9,k9,rfl⟩:=IL.val
   have Rv:o2+j * 7+7<=B2.cells.length:=Sg
   have EJ:(B2.cells.drop (o2+j * 7)).take 7=cC y (.slice a8 y.aX.length k8) (.slice a9 y.names.length k9):=EJ
   have vK:IntKind.wrap .i64 (((j:Nat):Int)+1)=((j+1:Nat):Int):=cW hj (by omega)
   have FL:H.fz H4.next=false:=hf.fresh (Nat.le_trans ho.nx FK.nx)
   have UR:∀B,B.ro=false->bc H2 (H4.push B):=fun B hB=>((FK.fr []).push B hB).aE
   rw [tT,Ej] at lL
   by_cases eC:f < 0
   ·rw [if_pos (.inl eC)] at lL
    simp only [go_sem,ej,e8,hj,py,Rv,EJ,FL,eC,vK]
    exact ⟨_,rfl,UR _ rfl,lL⟩
   ·by_cases ic:y.body < f
    ·rw [if_pos (.inr ic)] at lL
     simp only [go_sem,ej,e8,hj,py,Rv,EJ,FL,eC,ic,vK]
     exact ⟨_,rfl,UR _ rfl,lL⟩
    ·rw [if_neg (fun e=>e.elim eC ic)] at lL
     simp only [go_sem,ej,e8,hj,py,Rv,EJ,FL,eC,ic,vK]
     exact ⟨_,rfl,UR _ rfl,lL⟩
  ·rintro V4 H4 ⟨ej,f,e8,FK,lL⟩
   rw [List.drop_length] at lL
   rw [lL,Ej] at gK
   by_cases eC:0<=f
   ·by_cases ic:f<=place
    ·rw [if_pos ⟨eC,ic⟩] at gK
     simp only [go_sem,ej,e8,ei,e5,eC,ic,bX]
     exact ⟨_,rfl,ho.trans FK,gK⟩
    ·rw [if_neg (fun e=>ic e.2)] at gK
     simp only [go_sem,ej,e8,ei,e5,eC,ic,bX]
     exact ⟨_,rfl,ho.trans FK,gK⟩
   ·rw [if_neg (fun e=>eC e.1)] at gK
    simp only [go_sem,ej,e8,ei,e5,eC,bX]
    exact ⟨_,rfl,ho.trans FK,gK⟩
 ·rintro V H2 ⟨ei,at_,e5,ho,gK⟩
  simp only [go_sem,ei,e5]
  rw [List.drop_length] at gK
  rw [gK]
  exact ⟨rfl,((ho.fr []).ai _).aE,fun _=>trivial⟩
end
def oQ {α:Type} (r:Rp α) (H:ad) (v:Value) (l:List α) (g:List Nat):Prop:=∃gs,Sl r H v l gs/\∀c∈gs,c∈g
theorem Sl.i {α:Type} {r:Rp α} {H:ad} {v:Value} {l:List α} {gs g:List Nat} (h:Sl r H v l gs) (hg:∀c∈gs,c∈g):oQ r H v l g:=⟨gs,h,hg⟩
theorem oQ.ae {α:Type} {r:Rp α} {H H':ad} {v:Value} {l:List α} {g:List Nat} (h:oQ r H v l g) (hk:∀b∈g,H'.get b=H.get b):oQ r H' v l g:=by
 obtain ⟨gs,h1,h2⟩:=h
 exact ⟨gs,h1.ae fun b hb=>hk b (h2 b hb),h2⟩
theorem oQ.val {α:Type} {r:Rp α} {H:ad} {v:Value} {l:List α} {g:List Nat} (h:oQ r H v l g):∃a c,v=.slice a l.length c:=by
 obtain ⟨gs,h1,_⟩:=h
 exact h1.val
theorem oQ.at {α:Type} {r:Rp α} {H:ad} {v:Value} {l:List α} {f:List Nat} (h:oQ r H v l f) {i:Nat} {x:α} (hi:l[i]?=some x):
  ∃b o c B g,v=.slice (some ⟨b,o,none⟩) l.length c/\H.get b=some B/\b∈f/\(∀y∈g,y∈f)/\o+i * r.sz+r.sz<=B.cells.length/\r.E H ((B.cells.drop (o+i * r.sz)).take r.sz) x g:=by
 obtain ⟨gs,h1,h2⟩:=h
 obtain ⟨b,o,c,B,g,e1,e2,e3,e4,e5,e6⟩:=h1.at hi
 exact ⟨b,o,c,B,g,e1,e2,h2 b e3,fun y hy=>h2 y (e4 y hy),e5,e6⟩
structure ZS where
 pM:Value
 pR:Value
 pD:Value
 pN:Value
 qM:Value
 qR:Value
 qD:Value
 self:bj
abbrev zC (s:ZS) (qN:Value):List Value:=[s.pM,s.pR,s.pD,s.pN,s.qM,s.qR,s.qD,qN,ag s.self,iV 0,iV 0,iV 0,iV 0,iV 0,iV 0,iV 0,iV 0,iV 0,iV 0,iV 0,iV 0,iV 0,ag [],ag [],ag [],ag [],.slice none 0 0,.slice none 0 0,.slice none 0 0]
structure ZQ0 (S:ZS) (src:List aH) (gP:List Nat) (H:ad) (z:Nat) (ns:List aH) (m g:List Nat):Prop where
 row:∃qN,H.get z=some ⟨zC S qN,131,false,false⟩/\Gr j6 42 H qN ns m g
 src:oQ j6 H S.pN src gP
 zl:z < H.next
 hm:∀c∈m,c < H.next/\c≠z/\c∉gP/\c∉g
 hg:∀c∈g,c < H.next/\c≠z
 hP:∀c∈gP,c < H.next/\c≠z
structure ZQ (S:ZS) (src:List aH) (gP:List Nat) (H:ad) (z:Nat) (ns:List aH) (m g:List Nat):Prop extends ZQ0 S src gP H z ns m g where
 fz:H.fz z=false
 fm:∀c∈m,H.fz c=false
 fn:∀b,H.next<=b->H.fz b=false
section
variable {S:ZS} {src:List aH} {gP:List Nat} {H H1 H2:ad} {z:Nat} {ns bk bK:List aH} {m m1 m2 g g1 g2:List Nat}
theorem ZQ0.fr (h:ZQ0 S src gP H z ns m g) {M:List Nat} (bg:Fr M H H1) (mz:z∉M) (mm:∀c∈m,c∉M) (mg:∀c∈g,c∉M) (mP:∀c∈gP,c∉M):ZQ0 S src gP H1 z ns m g:=by
 obtain ⟨⟨qN,h1,h2⟩,h3,zl,hm,hg,hP⟩:=h
 exact ⟨⟨qN,(bg.get z zl mz).trans h1,h2.ae (fun c hc=>bg.get c (hm c hc).1 (mm c hc)) (fun c hc=>bg.get c (hg c hc).1 (mg c hc))⟩,h3.ae fun c hc=>bg.get c (hP c hc).1 (mP c hc),Nat.lt_of_lt_of_le zl bg.nx,fun c hc=>⟨Nat.lt_of_lt_of_le (hm c hc).1 bg.nx,(hm c hc).2⟩,fun c hc=>⟨Nat.lt_of_lt_of_le (hg c hc).1 bg.nx,(hg c hc).2⟩,fun c hc=>⟨Nat.lt_of_lt_of_le (hP c hc).1 bg.nx,(hP c hc).2⟩⟩
theorem ZQ0.ai {fz:Nat->Bool} (h:ZQ0 S src gP H z ns m g):ZQ0 S src gP (H.ai fz) z ns m g:=h.fr ((Fr.refl [] H).ai _) (by simp) (by simp) (by simp) (by simp)
theorem agd (h:ZQ S src gP H z ns m g) (hn:ns.length < 100000) {n:aH} {line au:Int} {vA vP vB:Value} {gA gQ gB:List Nat} (hA:Sl jG H vA n.args gA) (hQ:Sl fy H vP n.pat gQ) (hB:Sl dB H vB n.ak gB) (dQ:∀c∈gA++(gQ++gB),c < H.next/\c≠z/\c∉m):
  aj Tryz.prog 116 #[pV z,.agg (aJ n vA vP vB).toArray,iV line,iV au] H (fun w H'=>w=iV (ns.length:Nat)/\Fr (z::m) H H'/\(∀c,H'.fz c=H.fz c)/\∃m',ZQ0 S src gP H' z (ns++[{n with line:=line,au:=au,next:= -1}]) m' (g++(gA++(gQ++gB)))/\∀c∈m',c∈m∨H.next<=c):=by
 refine aj.told ?_
 refine aee (Nat.le_refl _) fun hf=>?_
 simp only [Tryz.f116,Option.getD_some]
 obtain ⟨qN,hz,cw⟩:=h.row
 obtain ⟨aN,yN⟩:=cw.val
 rw [yN] at hz cw
 obtain ⟨aA,kA,rfl⟩:=hA.val
 obtain ⟨aP,kP,rfl⟩:=hQ.val
 obtain ⟨aB,kB,rfl⟩:=hB.val
 have hX:=h.fn H.next (Nat.le_refl _)
 have Uk:=h.fn (H.next+1) (Nat.le_succ _)
 have mG:=h.fz
 have nz:¬z=H.next:=fun e=>by have:=h.zl;omega
 have O9:¬z=H.next+1:=fun e=>by have:=h.zl;omega
 simp only [go_sem,hz,hX,Uk,nz,O9,eA J0 (by decide) (by decide)]
 have fp:Fr [] H ((H.push ⟨aJ {n with line:=line,au:=au,next:= -1} (.slice aA n.args.length kA) (.slice aP n.pat.length kP) (.slice aB n.ak.length kB),42,false,false⟩).push ⟨aJ {n with line:=line,au:=au,next:= -1} (.slice aA n.args.length kA) (.slice aP n.pat.length kP) (.slice aB n.ak.length kB),42,false,false⟩):=((Fr.refl [] H).push _).push _
 have gx:((H.push ⟨aJ {n with line:=line,au:=au,next:= -1} (.slice aA n.args.length kA) (.slice aP n.pat.length kP) (.slice aB n.ak.length kB),42,false,false⟩).push ⟨aJ {n with line:=line,au:=au,next:= -1} (.slice aA n.args.length kA) (.slice aP n.pat.length kP) (.slice aB n.ak.length kB),42,false,false⟩).get (H.next+1)=some ⟨aJ {n with line:=line,au:=au,next:= -1} (.slice aA n.args.length kA) (.slice aP n.pat.length kP) (.slice aB n.ak.length kB),42,false,false⟩:=by rw [aU];exact if_pos rfl
 have nx:((H.push ⟨aJ {n with line:=line,au:=au,next:= -1} (.slice aA n.args.length kA) (.slice aP n.pat.length kP) (.slice aB n.ak.length kB),42,false,false⟩).push ⟨aJ {n with line:=line,au:=au,next:= -1} (.slice aA n.args.length kA) (.slice aP n.pat.length kP) (.slice aB n.ak.length kB),42,false,false⟩).next=H.next+2:=rfl
 generalize Dv:((H.push ⟨aJ {n with line:=line,au:=au,next:= -1} (.slice aA n.args.length kA) (.slice aP n.pat.length kP) (.slice aB n.ak.length kB),42,false,false⟩).push ⟨aJ {n with line:=line,au:=au,next:= -1} (.slice aA n.args.length kA) (.slice aP n.pat.length kP) (.slice aB n.ak.length kB),42,false,false⟩)=Hp at fp gx nx
 have z0:=h.toZQ0.fr fp (by simp) (by simp) (by simp) (by simp)
 have N4:=cw.ae (H':=Hp) (fun c hc=>fp.get c (h.hm c hc).1 (by simp)) (fun c hc=>fp.get c (h.hg c hc).1 (by simp))
 have kp:∀c∈gA++(gQ++gB),Hp.get c=H.get c:=fun c hc=>fp.get c (dQ c hc).1 (by simp)
 refine jT (r:=j6) (x:={n with line:=line,au:=au,next:= -1}) (g':=gA++(gQ++gB)) J0 N4 (fun c hc=>(z0.hm c hc).1) (fun c hc=>(z0.hg c hc).1) (fun c hc=>⟨by have:=(dQ c hc).1;omega,(dQ c hc).2.2⟩) (fun c hc=>h.fm c hc) gx ⟨_,_,_,gA,gQ,gB,rfl,rfl,hA.ae fun c hc=>kp c (by simp [hc]),hQ.ae fun c hc=>kp c (by simp [hc]),hB.ae fun c hc=>kp c (by simp [hc])⟩ rfl (by omega) ?_
 intro v7 H7 bG dX je dr jH
 obtain ⟨a7,wU⟩:=bG.val
 have Pa:z∉m:=fun e=>(h.hm z e).2.1 rfl
 have sW:=(je z z0.zl Pa).trans ((fp.get z h.zl (by simp)).trans hz)
 have Fx:(ns++[({n with line:=line,au:=au,next:= -1}:aH)]).length=ns.length+1:=by rw [List.length_append];rfl
 rw [Fx] at wU
 subst wU
 simp only [go_sem,sW,mG]
 have hw:IntKind.i64.wrap (((ns.length+1:Nat):Int) - 1)=((ns.length:Nat):Int):=by
  rw [show (((ns.length+1:Nat):Int) - 1)=((ns.length:Nat):Int) by omega]
  exact uy (by omega)
 rw [hw]
 have f7:Fr (z::m) H H7:=(fp.sub (by simp)).then (dr.sub fun c hc=>.inl (by simp [hc]))
 have Ip:=h.zl
 refine ⟨rfl,(f7.ah (.inl (by simp)) _).ai _,fun _=>trivial,[Hp.next],ZQ0.ai ⟨⟨_,by rw [az,if_pos rfl],bG.ae (fun c hc=>?_) (fun c hc=>?_)⟩,(z0.src.ae fun c hc=>?_),?_,fun c hc=>?_,fun c hc=>?_,fun c hc=>?_⟩,fun c hc=>?_⟩
 ·rw [List.mem_singleton] at hc
  rw [az,if_neg (by omega)]
 ·rw [az,if_neg]
  rcases List.mem_append.1 hc with e | e
  ·exact (h.hg c e).2
  ·exact (dQ c e).2.1
 ·rw [az,if_neg (h.hP c hc).2]
  exact je c (z0.hP c hc).1 fun e=>(h.hm c e).2.2.1 hc
 ·show z < H7.next
  omega
 ·rw [List.mem_singleton] at hc
  subst hc
  refine ⟨by show Hp.next < H7.next;omega,by omega,fun e=>by have:=(h.hP _ e).1;omega,fun e=>?_⟩
  rcases List.mem_append.1 e with e | e
  ·have:=(h.hg _ e).1;omega
  ·have:=(dQ _ e).1;omega
 ·show c < H7.next/\c≠z
  rcases List.mem_append.1 hc with e | e
  ·have:=h.hg c e;exact ⟨by omega,this.2⟩
  ·have:=dQ c e;exact ⟨by omega,this.2.1⟩
 ·show c < H7.next/\c≠z
  have:=h.hP c hc;exact ⟨by omega,this.2⟩
 ·rw [List.mem_singleton] at hc
  exact .inr (by omega)
end
def HE (S:ZS) (src:List aH) (gP:List Nat) (H:ad) (z:Nat) (ns:List aH) (m g:List Nat) (ik:List aH) (H':ad):Prop:=
 Fr (z::m) H H'/\(∀c,H'.fz c=H.fz c)/\ns.length<=ik.length/\∃m' g',ZQ0 S src gP H' z ik m' g'/\(∀c∈m',c∈m∨H.next<=c)/\∀c∈g',c∈g∨c∈gP∨H.next<=c
structure ZR (S:ZS) (src:List aH) (gP:List Nat) (H:ad) (z:Nat) (ns:List aH) (m g:List Nat) (H1:ad) (bk:List aH) (m1 g1:List Nat):Prop where
 fr:Fr (z::m) H H1
 zq:ZQ S src gP H1 z bk m1 g1
 le:ns.length<=bk.length
 sm:∀c∈m1,c∈m∨H.next<=c
 sg:∀c∈g1,c∈g∨c∈gP∨H.next<=c
section
variable {S:ZS} {src:List aH} {gP:List Nat} {H H1 H2:ad} {z:Nat} {ns bk bK:List aH} {m m1 m2 g g1 g2:List Nat}
theorem ZR.start (h:ZQ S src gP H z ns m g):ZR S src gP H z ns m g H ns m g:=⟨.refl _ _,h,Nat.le_refl _,fun _ h=>.inl h,fun _ h=>.inl h⟩
theorem ZR.push (h:ZR S src gP H z ns m g H1 bk m1 g1) (B:ct) (hB:B.ro=false:=by rfl):ZR S src gP H z ns m g (H1.push B) bk m1 g1:=by
 have key:∀c,c < H1.next->(H1.push B).fz c=H1.fz c:=fun c hc=>by
  rw [qf,show (c==H1.next)=false from by rw [beq_eq_false_iff_ne];omega,Bool.false_or]
 exact ⟨h.fr.push B hB,{h.zq.toZQ0.fr ((bc.push H1 B hB).fr []) (by simp) (by simp) (by simp) (by simp) with fz:=by rw [key _ h.zq.zl];exact h.zq.fz,fm:=fun c hc=>by rw [key _ (h.zq.hm c hc).1];exact h.zq.fm c hc,fn:=fun b hb=>(by rw [bH] at hb;rw [qf,h.zq.fn b (by omega),Bool.or_false,beq_eq_false_iff_ne];omega)},h.le,h.sm,h.sg⟩
theorem ZR.call (h:ZR S src gP H z ns m g H1 bk m1 g1) {ik:List aH} (hp:HE S src gP H1 z bk m1 g1 ik H2):∃m2 g2,ZR S src gP H z ns m g H2 ik m2 g2/\(∀c∈m2,c∈m1∨H1.next<=c)/\∀c∈g2,c∈g1∨c∈gP∨H1.next<=c:=by
 obtain ⟨hf,hz,hle,m2,g2,h0,hs,iN⟩:=hp
 have dO:=h.fr.nx
 refine ⟨m2,g2,⟨h.fr.trans hf fun c hc=>?_,{h0 with fz:=by rw [hz];exact h.zq.fz,fm:=fun c hc=>?_,fn:=fun b hb=>by rw [hz];exact h.zq.fn b (Nat.le_trans hf.nx hb)},Nat.le_trans h.le hle,fun c hc=>(hs c hc).elim (h.sm c) fun e=>.inr (Nat.le_trans dO e),fun c hc=>(iN c hc).elim (h.sg c) fun e=>e.elim (fun e=>.inr (.inl e)) fun e=>.inr (.inr (Nat.le_trans dO e))⟩,hs,iN⟩
 ·rcases List.mem_cons.1 hc with e | hc
  ·exact .inl (by simp [e])
  ·exact (h.sm c hc).imp (fun e=>by simp [e]) id
 ·rw [hz]
  rcases hs c hc with e | e
  ·exact h.zq.fm c e
  ·exact h.zq.fn c e
theorem ZR.last (h:ZR S src gP H z ns m g H1 bk m1 g1):HE S src gP H z ns m g bk (H1.ai H.fz):=⟨h.fr.ai _,fun _=>rfl,h.le,m1,g1,h.zq.toZQ0.ai,h.sm,h.sg⟩
theorem ZR.x (h0:ZQ S src gP H z ns m g) (hf:bW H) (h:ZR S src gP H z ns m g H1 bk m1 g1):∀b∈m1,H.fz b=false:=fun b hb=>(h.sm b hb).elim (h0.fm b) (fun e=>hf.fresh e)
theorem ZR.sk (h:ZR S src gP H z ns m g H1 bk m1 g1) {l j:Nat} (hl:l < bk.length) (hj:j < 17) {v:Value} {n':aH} (hn:∀wA wP wB,(aJ bk[l] wA wP wB).set j v=aJ n' wA wP wB) (ha:n'.args=bk[l].args) (hp:n'.pat=bk[l].pat) (cX:n'.ak=bk[l].ak):
  ∃b cs,H1.get z=some ⟨zC S (.slice (some ⟨b,0,none⟩) bk.length bk.length),131,false,false⟩/\b∈m1/\H1.get b=some ⟨cs,42,true,false⟩/\l * 20+20<=cs.length/\
  ZR S src gP H z ns m g (H1.ah b ⟨cs.set (l * 20+j) v,42,true,false⟩) (bk.set l n') m1 g1:=by
 obtain ⟨vN,hq,cw⟩:=h.zq.row
 obtain ⟨b,cs,f1,f2,f3,rfl,rfl,hb,fE,rfl,c6,hE,oE⟩:=cw.put hl
 obtain ⟨wA,wP,wB,e1,e2,e3,aV,rfl,s1,s2,s3⟩:=hE
 have fC:j6.sz=20:=rfl
 rw [fC] at c6 aV
 obtain ⟨iD,fe,fj,oh⟩:=h.zq.hm b (by simp)
 have aZ:l * 20+j < cs.length:=by omega
 have eu:cs.set (l * 20+j) v=cT cs (l * j6.sz) (aJ n' wA wP wB):=by
  have:=xq (vs:=[v]) aV (k:=j) (by show j+1<=20;omega) c6
  rw [eG aZ] at this
  rw [this]
  have e:cT (aJ bk[l] wA wP wB) j [v]=(aJ bk[l] wA wP wB).set j v:=eG (by show j < 20;omega)
  rw [hn] at e
  rw [<-e];rfl
 have bg:Fr [b] H1 (H1.ah b ⟨cs.set (l * 20+j) v,42,true,false⟩):=(Fr.refl _ _).ah (.inl (by simp)) _
 have kg:∀c,c≠b->(H1.ah b ⟨cs.set (l * 20+j) v,42,true,false⟩).get c=H1.get c:=fun c hc=>by rw [az,if_neg hc]
 have qK:∀c∈f1++(e1++(e2++e3)++f3),c≠b:=fun c hc e=>oh (e▸hc)
 have bG:=oE (H1.ah b ⟨cs.set (l * 20+j) v,42,true,false⟩) (aJ n' wA wP wB) n' (e1++(e2++e3))
  (fun z hz=>kg z (qK z (by rcases hz with e | e <;> simp [e]))) (by rw [az,if_pos rfl,eu]) ⟨wA,wP,wB,e1,e2,e3,rfl,rfl,(ha▸s1:Sl jG H1 wA n'.args e1).ae fun c hc=>kg c (qK c (by simp [hc])),(hp▸s2:Sl fy H1 wP n'.pat e2).ae fun c hc=>kg c (qK c (by simp [hc])),(cX▸s3:Sl dB H1 wB n'.ak e3).ae fun c hc=>kg c (qK c (by simp [hc]))⟩
  (fun e=>oh (List.mem_append_right _ (List.mem_append_left _ e)))
 refine ⟨b,cs,hq,by simp,hb,c6,⟨h.fr.trans bg fun c hc=>?_,{row:=⟨_,(kg z (Ne.symm fe)).trans hq,?_⟩,src:=h.zq.src.ae fun c hc=>kg c (fun e=>fj (e▸hc)),zl:=h.zq.zl,hm:=h.zq.hm,hg:=h.zq.hg,hP:=h.zq.hP,fz:=h.zq.fz,fm:=h.zq.fm,fn:=h.zq.fn},by rw [List.length_set];exact h.le,h.sm,h.sg⟩⟩
 ·rw [List.mem_singleton] at hc
  subst hc
  exact (h.sm c (by simp)).imp (fun e=>by simp [e]) id
 ·exact bG
abbrev Zn:=aH->List aH->Option (Nat × Nat × List aH)
abbrev Zb:=Int->List aH->Option (Int × List aH)
def ZnW (S:ZS) (src:List aH) (gP:List Nat) (z:Nat) (nd:Zn):Prop:=∀{H:ad} {ns ik:List aH} {m g:List Nat} {n:aH} {vA vP vB:Value} {gA gQ gB:List Nat} {f t:Nat},ZQ S src gP H z ns m g->Sl jG H vA n.args gA->Sl fy H vP n.pat gQ->Sl dB H vB n.ak gB->(∀c∈gA++(gQ++gB),c∈gP)->nd n ns=some (f,t,ik)->
 aj Tryz.prog 117 #[pV z,.agg (aJ n vA vP vB).toArray] H (fun w H'=>w=.tuple #[iV (f:Nat),iV (t:Nat)]/\HE S src gP H z ns m g ik H')
def ZbW (S:ZS) (src:List aH) (gP:List Nat) (z:Nat) (bd:Zb):Prop:=∀{H:ad} {ns ik:List aH} {m g:List Nat} {k i:Int},ZQ S src gP H z ns m g->bd k ns=some (i,ik)->
 aj Tryz.prog 80 #[pV z,iV k] H (fun w H'=>w=iV i/\HE S src gP H z ns m g ik H')
def KA (src:List aH) (nd:Zn):Nat->Option (Nat × Nat)->Int->List aH->Option (Int × List aH)
 | 0,_,_,_=>none
 | j+1,fl,k,ns=>
  if 0<=k then
   (if k.toNat < src.length then (nd (src.getD k.toNat {}) ns).bind fun R=>
    if R.2.1 < R.2.2.length then KA src nd j (match fl with | none=>some (R.1,R.2.1) | some x=>some (x.1,R.2.1)) (src.getD k.toNat {}).next (Rt fl R.2.2 R.1) else none
   else none)
  else some (fV fl,ns)
theorem abL {nd:Zn} (cK:ZnW S src gP z nd) (h:ZQ S src gP H z ns m g) (eF:src.length < 100000) {fuel:Nat} {k:Int} {R:Int × List aH} (he:KA src nd fuel none k ns=some R):
  aj Tryz.prog 80 #[pV z,iV k] H (fun w H'=>w=iV R.1/\HE S src gP H z ns m g R.2 H'):=by
 refine aj.told ?_
 refine ahA (Nat.le_refl _) fun hf=>?_
 simp only [Tryz.f80,Option.getD_some]
 have r0:=ZR.start h
 simp only [go_sem]
 refine lp 2199023255522 (fun n V H2=>∃fl k2 bK m2 g2,V 1=iV k2/\V 5=iV (fV fl)/\V 6=iV (lV fl)/\ZR S src gP H z ns m g H2 bK m2 g2/\(∀x,fl=some x->x.2 < bK.length)/\KA src nd n fl k2 bK=some R) (n:=fuel)
  ⟨none,k,ns,m,g,by simp only [go_sem] <;> rfl,by simp only [go_sem] <;> rfl,by simp only [go_sem] <;> rfl,r0,by simp,he⟩ ?_ (by rfl)
 rintro n V H2 ⟨fl,k2,bK,m2,g2,e1,e5,e6,r2,cY,bf⟩
 cases n with
 | zero=>cases bf
 | succ n=>
  rw [KA] at bf
  by_cases hk:0<=k2
  ·rw [if_pos hk] at bf
   obtain ⟨kn,rfl⟩:=Int.eq_ofNat_of_zero_le hk
   rw [Int.toNat_natCast] at bf
   by_cases nC:kn < src.length
   ·rw [if_pos nC] at bf
    have kt:(src.getD kn {})=src[kn]:=by rw [List.getD_eq_getElem?_getD,List.getElem?_eq_getElem nC];rfl
    rw [kt] at bf
    have hx:src[kn]?=some (src[kn]'nC):=List.getElem?_eq_getElem nC
    generalize (src[kn]'nC)=x at hx bf
    obtain ⟨b,o,c',B,gx,hv,hB,ee,de,b7,hE⟩:=r2.zq.src.at hx
    obtain ⟨wA,wP,wB,u1,u2,u3,aV,rfl,s1,s2,s3⟩:=hE
    obtain ⟨qN,hz,cw⟩:=r2.zq.row
    obtain ⟨aA,kA,rfl⟩:=s1.val
    obtain ⟨aP,kP,rfl⟩:=s2.val
    obtain ⟨aB,kB,rfl⟩:=s3.val
    have en:o+kn * 20+20<=B.cells.length:=b7
    have aV:(B.cells.drop (o+kn * 20)).take 20=aJ x (.slice aA x.args.length kA) (.slice aP x.pat.length kP) (.slice aB x.ak.length kB):=aV
    have ef:H.fz H2.next=false:=h.fn _ r2.fr.nx
    cases hR:nd x bK with
    | none=>rw [hR] at bf;cases bf
    | some RR=>
    obtain ⟨f,t,FM⟩:=RR
    rw [hR] at bf
    simp only [Option.bind_some] at bf
    by_cases ht:t < FM.length
    ·rw [if_pos ht] at bf
     simp only [go_sem,e1,hk,hz,hv,nC,hB,en,aV,ef]
     have r3:=r2.push ⟨aJ x (.slice aA x.args.length kA) (.slice aP x.pat.length kP) (.slice aB x.ak.length kB),42,false,false⟩
     have k3:∀c∈gP,(H2.push ⟨aJ x (.slice aA x.args.length kA) (.slice aP x.pat.length kP) (.slice aB x.ak.length kB),42,false,false⟩).get c=H2.get c:=fun c hc=>bS (r2.zq.hP c hc).1
     refine af.by (cK r3.zq (s1.ae fun c hc=>k3 c (de c (by simp [hc]))) (s2.ae fun c hc=>k3 c (de c (by simp [hc]))) (s3.ae fun c hc=>k3 c (de c (by simp [hc]))) de hR) ?_
     rintro _ H4 - ⟨rfl,p4⟩
     obtain ⟨m4,g4,r4,s4,_⟩:=r3.call p4
     have gbx:H4.get H2.next=some ⟨aJ x (.slice aA x.args.length kA) (.slice aP x.pat.length kP) (.slice aB x.ak.length kB),42,false,false⟩:=(p4.1.get H2.next (Nat.lt_succ_self _) (by
      simp only [List.mem_cons,not_or]
      exact ⟨by have:=r2.zq.zl;omega,fun e=>by have:=(r2.zq.hm _ e).1;omega⟩)).trans (by rw [aU,if_pos rfl])
     cases fl with
     | none=>
      have cu:(-1:Int) < 0:=by decide
      simp only [go_sem,e5,fV,cu,gbx]
      exact ⟨n,by omega,some (f,t),x.next,FM,m4,g4,rfl,rfl,rfl,r4,fun y hy=>by cases hy;exact ht,bf⟩
     | some y=>
      have cu:¬(((y.1:Nat):Int) < 0):=by omega
      have hy2:=cY y rfl
      have ava:bK.length<=FM.length:=p4.2.2.1
      have hl:y.2 < FM.length:=by omega
      obtain ⟨b4,LO,hz4,fP,oh,ake,r5⟩:=r4.sk hl (show 10 < 17 by decide) (v:=iV (f:Nat)) (n':={FM[y.2] with next:=((f:Nat):Int)}) (fun _ _ _=>rfl) rfl rfl rfl
      have fg:=ZR.x h hf r4 b4 fP
      have dG:y.2 * 20+10 < LO.length:=by omega
      have fU:y.2 * 20+10+1<=LO.length:=by omega
      have Iw:¬H2.next=b4:=fun e=>by
       rcases s4 b4 fP with e' | e'
       ·have:=(r2.zq.hm b4 e').1;omega
       ·have:H2.next+1<=b4:=e'
        omega
      have akf:(FM.getD y.2 {})=FM[y.2]:=by rw [List.getD_eq_getElem?_getD,List.getElem?_eq_getElem hl];rfl
      simp only [Rt,j9,akf] at bf
      simp only [go_sem,e5,e6,fV,lV,cu,hz4,oh,fg,hl,dG,fU,ake,Iw,gbx,eG dG]
      exact ⟨n,by omega,some (y.1,t),x.next,_,m4,g4,rfl,rfl,rfl,r5,fun w hw=>by cases hw;rw [List.length_set];exact ht,bf⟩
    ·rw [if_neg ht] at bf;cases bf
   ·rw [if_neg nC] at bf;cases bf
  ·rw [if_neg hk] at bf
   cases bf
   simp only [go_sem,e1,hk,e5]
   exact r2.last
end
theorem Xl {X:Nat->Bool} {H:ad} {b:Nat} {x:so} {v:Value} {l:List so} {g:List Nat} {K:Value->ad->Prop} {tg:Tag K} (hb:H.get b=some ⟨[iV x.kind,iV x.n,ag x.name],44,false,false⟩) (b7:b < H.next) (h:Sl jG H v l g) (hn:l.length < 1000000) (hX:X b=false)
  (hk:∀v' H' c,Sl jG H' v' (x::l) [c]->(c=b/\H'=H.ah b ⟨[iV x.kind,iV x.n,ag x.name],44,false,false⟩∨c=H.next/\∃cs,H'=H.push ⟨cs,44,true,false⟩)->K v' H'):el Tryz.prog X H (iG Tryz.prog 40 (.slice (some ⟨b,0,none⟩) 1 1) v H) K tg:=by
 obtain ⟨cs,g',hs,fE,ph,_⟩:=h.src (size:=3) rfl
 cases l with
 | nil=>
  have aV:cs=[]:=by simpa using fE
  subst aV
  rw [JP (n:=0) (sl:=1) (sc:=1) qn hs rfl hb rfl (by show 0+1 * 3<=3;omega) (by omega) (Nat.le_refl 1) rfl,DZ hX]
  exact hk _ _ b (.inr (.inr ⟨b,0,1,_,[],rfl,by simp,Nat.le_refl _,rfl,by rw [az];exact if_pos rfl,⟨_,[],[],[],rfl,rfl,⟨rfl,rfl⟩,rfl⟩⟩)) (.inl ⟨rfl,rfl⟩)
 | cons y l=>
  have eW:∀{cs:List Value} {l:List so} {f:List Nat},dP jG H cs l f->f=[]:=by
   intro cs l
   induction l generalizing cs with
   | nil=>intro f h;exact h
   | cons a l ih=>
    intro f h
    obtain ⟨c1,c2,f1,f2,rfl,rfl,h1,h2⟩:=h
    rw [h1.2,ih h2];rfl
  have dQ:=eW ph
  subst dQ
  rw [Jw (n:=(y::l).length) (o:=0) (sl:=1) (sc:=1) qn hs hb (by rfl) (Nat.le_refl 1) (by simp only [List.length_cons] at hn ⊢;omega) (by simp)]
  rw [wa]
  refine hk _ _ H.next (.inr (.inr ⟨H.next,0,_,_,[],?_,by simp,Nat.le_refl _,rfl,by rw [aU];exact if_pos rfl,?_⟩)) (.inr ⟨rfl,_,rfl⟩)
  ·rw [show 1+(y::l).length=(x::y::l).length by simp only [List.length_cons];omega]
  ·have ho:∀b∈([]:List Nat),(H.push ⟨(([iV x.kind,iV x.n,ag x.name]:List Value).drop 0).take (1 * 3)++cs,44,true,false⟩).get b=H.get b:=by simp
   exact ⟨_,cs,[],[],rfl,rfl,⟨rfl,rfl⟩,ph.ae ho⟩
theorem xy {P:Program} {X:Nat->Bool} {H:ad} {α:Type} {r:Rp α} {t e:TypeId} {dZ:Nat} {v:Value} {l:List α} {g:List Nat} {K:Value->ad->Prop} {tg:Tag K} (ha:iM P t=some (e,r.sz,dZ)) (h:Sl r H v l g) (hn:l.length * dZ < 140737488355328) (hg:∀b∈g,b < H.next)
  (hk:∀v' H' mL gL,Gr r e H' v' l mL gL->(∀c∈gL,c∈g)->(mL=[]/\H'=H∨mL=[H.next]/\∃cs,H'=H.push ⟨cs,e,true,false⟩)->K v' H'):el P X H (iG P t (.slice none 0 0) v H) K tg:=by
 obtain ⟨cs,g',hs,fE,ph,jx⟩:=h.src (size:=r.sz) rfl
 by_cases hl:l=[]
 ·subst hl
  rw [Xb ha hs]
  simp only [go_sem]
  exact hk _ _ [] [] (Gr.nil _ _ _) (by simp) (.inl ⟨rfl,rfl⟩)
 ·have h0:0 < l.length:=by rw [Nat.pos_iff_ne_zero,Ne,List.length_eq_zero_iff];exact hl
  rw [GL ha hs hn h0,wa]
  refine hk _ _ [H.next] g' (.inr ⟨H.next,cs,rfl,hl,rfl,by rw [aU,if_pos rfl],fE,ph.ae fun b hb=>bS (hg b (jx b hb)),fun e=>by have:=hg _ (jx _ e);omega⟩) jx (.inr ⟨rfl,_,rfl⟩)
section
variable {S:ZS} {src:List aH} {gP:List Nat} {H H1 H2:ad} {z:Nat} {ns bk bK:List aH} {m m1 m2 g g1 g2:List Nat}
theorem ZR.add (h:ZR S src gP H z ns m g H1 bk m1 g1) (hn:bk.length < 100000) {n:aH} {line au:Int} {vA vP vB:Value} {gA gQ gB:List Nat} (hA:Sl jG H1 vA n.args gA) (hQ:Sl fy H1 vP n.pat gQ) (hB:Sl dB H1 vB n.ak gB) (dQ:∀c∈gA++(gQ++gB),c < H1.next/\c≠z/\c∉m1/\(c∈gP∨H.next<=c)):
  aj Tryz.prog 116 #[pV z,.agg (aJ n vA vP vB).toArray,iV line,iV au] H1 (fun w H2=>w=iV (bk.length:Nat)/\Fr (z::m1) H1 H2/\∃m2,ZR S src gP H z ns m g H2 (bk++[{n with line:=line,au:=au,next:= -1}]) m2 (g1++(gA++(gQ++gB)))/\∀c∈m2,c∈m1∨H1.next<=c):=
 (agd h.zq hn hA hQ hB fun c hc=>⟨(dQ c hc).1,(dQ c hc).2.1,(dQ c hc).2.2.1⟩).mono fun w H2 _ ⟨hw,hf,hz,m2,h0,hs⟩=>by
  have dO:=h.fr.nx
  refine ⟨hw,hf,m2,⟨h.fr.trans hf fun c hc=>?_,{h0 with fz:=by rw [hz];exact h.zq.fz,fm:=fun c hc=>?_,fn:=fun b hb=>by rw [hz];exact h.zq.fn b (Nat.le_trans hf.nx hb)},by rw [List.length_append];exact Nat.le_trans h.le (Nat.le_add_right _ _),fun c hc=>(hs c hc).elim (h.sm c) fun e=>.inr (Nat.le_trans dO e),fun c hc=>?_⟩,hs⟩
  ·rcases List.mem_cons.1 hc with e | hc
   ·exact .inl (by simp [e])
   ·exact (h.sm c hc).imp (fun e=>by simp [e]) id
  ·rw [hz]
   rcases hs c hc with e | e
   ·exact h.zq.fm c e
   ·exact h.zq.fn c e
  ·rcases List.mem_append.1 hc with e | e
   ·exact h.sg c e
   ·exact .inr (dQ c e).2.2.2
end
end Go.Proofs.YtinjmfblebpnnaaGreat.Ab
