/- Lemmas for the walk, part 4. -/
import Derived.Test.YtebibeaobhcfkaaGreatR3
set_option linter.unusedVariables false
set_option linter.unusedSimpArgs false
set_option maxRecDepth 100000
namespace Go.Proofs.YtebibeaobhcfkaaGreat.Ab
open Go
section
variable {zb:Bool} {L:List bJ} {F:List Nat} {c1 c2 c3:Value} {H H1 H2:ad} {q rb nb:Nat} {st bu bH:aV} {ns bZ cB:List aJ} {m m1 m2 g g1 g2 gn hO tp:List Nat} {n n1 n2:aJ}
theorem Bs.fresh (h:NQ0 L F c1 c2 c3 H1 q rb bu bZ m1 g1) {nb:Nat} (iu:nb=H1.next) {n:aJ} (ha:n.args=[]) (hp:n.pat=[]) (hb:n.ak=[]):
  Bs L F c1 c2 c3 (H1.push ⟨aU n (.slice none 0 0) (.slice none 0 0) (.slice none 0 0),59,false,false⟩) q rb bu bZ m1 g1 nb n []:=by
 subst iu
 obtain ⟨e1,e2,e3⟩:=h.pp.fresh (Nat.le_refl H1.next)
 have ho:=aG.push H1 ⟨aU n (.slice none 0 0) (.slice none 0 0) (.slice none 0 0),59,false,false⟩
 exact ⟨h.fr (ho.fr []) (h.pp.au ho) (by simp) (by simp) (by simp),⟨h.pp.au ho,⟨_,_,_,[],[],[],by rw [aZ,if_pos rfl],.inl ⟨rfl,ha,rfl⟩,.inl ⟨rfl,hp,rfl⟩,.inl ⟨rfl,hb,rfl⟩,rfl⟩,Nat.lt_succ_self _,e2,e1,e3,by simp⟩,
  fun e=>by have:=(h.hm _ e).1;omega,fun e=>by have:=(h.hg _ e).1;omega,by simp⟩
theorem QR.fresh (h:NR L F c1 c2 c3 H q rb ns m g H1 bu bZ m1 g1) {nb:Nat} (iu:nb=H1.next) (n:aJ) (ha:n.args=[]) (hp:n.pat=[]) (hb:n.ak=[]):
  QR true L F c1 c2 c3 H q rb ns m g nb [] (H1.push ⟨aU n (.slice none 0 0) (.slice none 0 0) (.slice none 0 0),59,false,false⟩) bu bZ m1 g1 n []:=by
 have r:=h.push ⟨aU n (.slice none 0 0) (.slice none 0 0) (.slice none 0 0),59,false,false⟩
 refine ⟨r.fr.sub fun c hc=>.inl (by simp only [List.mem_cons] at hc ⊢;rcases hc with e | e | e <;> simp [e]),Bs.fresh h.nq.toNQ0 iu ha hp hb,h.le,h.sm,h.sg,by simp,r.nq.fz,r.nq.fq,?_,r.nq.fm,r.nq.fn⟩
 subst iu
 rw [rv];simp
theorem QR.done (h:QR zb L F c1 c2 c3 H q rb ns m g nb [] H1 bu bZ m1 g1 n1 hO) (iu:H.next<=nb) {k:Nat} (hk:k < bZ.length):∃aA kA aP kP aB kB,H1.get nb=some ⟨aU n1 (.slice aA n1.args.length kA) (.slice aP n1.pat.length kP) (.slice aB n1.ak.length kB),59,false,false⟩/\
  aj Tryz.prog 166 #[pV q,iV (k:Nat),.agg (aU n1 (.slice aA n1.args.length kA) (.slice aP n1.pat.length kP) (.slice aB n1.ak.length kB)).toArray] H1 fun w H2=>yX L F c1 c2 c3 H q rb ns m g bu (qI bZ k n1) (H2.af H.fz):=by
 obtain ⟨vA,vP,vB,gA,gP,gB,cP,hA,hP,hB,rfl⟩:=h.lq.ln.nd
 obtain ⟨aA,kA,rfl⟩:=hA.val
 obtain ⟨aP,kP,rfl⟩:=hP.val
 obtain ⟨aB,kB,rfl⟩:=hB.val
 refine ⟨aA,kA,aP,kP,aB,kB,cP,(anW h.nq hk hA hP hB fun c hc=>⟨(h.lq.ln.hg c hc).1,(h.lq.ln.hg c hc).2.1,(h.lq.ln.hg c hc).2.2.2,h.lq.gm c hc⟩).mono fun w H2 _ ⟨hf,hz,g',h0,hs⟩=>?_⟩
 refine ⟨((h.fr.sub fun c hc=>?_).trans hf h.sm').af _,fun _=>rfl,by rw [qI,List.length_set];exact h.le,m1,g',h0.af,h.sm,fun c hc=>?_⟩
 ·simp only [List.mem_cons] at hc ⊢
  rcases hc with e | e | e | e
  ·exact .inl (.inl e)
  ·exact .inl (.inr (.inl e))
  ·exact .inr (e▸iu)
  ·exact .inl (.inr (.inr e))
 ·rcases hs c hc with e | e
  ·exact h.sg c e
  ·exact (h.sn c e).elim (fun e=>by cases e) .inr
def AV (L:List bJ) (s:aV):aV:=if (tk L s).kind≠2 then fD 2 s else if 99 < (tk L s).n then fD 3 s else s
def Mw (L:List bJ) (s:aV):aV:=if dj (AV L s)=true then aC (AV L s) else AV L s
def QN (L:List bJ) (s:aV):Int:=if dj (AV L s)=true then (tk L s).n else 0
def U5 (L:List bJ) (bj:qZ) (st:aV) (ns:List aJ) (k:Nat):Option (aV × List aJ):=
 (bj 1 (Mw L (aC st),ns)).map fun x=>(x.2.1,qI x.2.2 k {kind:=11,n:=QN L (aC st),a:=x.1,b:= -1})
theorem afF {h:KH}:iA Tryz.prog 59 [(0,iV 11),(8,iV (-1)),(9,iV (-1))] h=.ok (.agg #[iV 11,iV 0,iV 0,iV 0,iV 0,iV 0,iV 0,iV 0,iV (-1),iV (-1),iV 0,iV 0,iV 0,ah [],ah [],ah [],ah [],.slice none 0 0,.slice none 0 0,.slice none 0 0]) h:=by kernel_rfl
theorem alf (hL:LG L) {bj:qZ} (dy:CF L F c1 c2 c3 q rb bj) (h:NQ L F c1 c2 c3 H q rb st ns m g) {k:Nat} (hk:k < ns.length) (iO:(tk L st).kind≠4) {R:aV × List aJ} (he:U5 L bj st ns k=some R):
  aj Tryz.prog 169 #[pV q,iV (k:Nat)] H (fun w H'=>yX L F c1 c2 c3 H q rb ns m g R.1 R.2 H'):=by
 refine aj.told ?_
 refine akR (Nat.le_refl _) fun hf=>?_
 simp only [Tryz.f169,Option.getD_some]
 have r0:=NR.start h
 have hz:=h.fz
 have fK:=hL.len
 have cX:H.fz H.next=false:=hf.fresh (Nat.le_refl _)
 obtain ⟨d1,d2,d3,d4,bL,oL,cL,a,j,c,hq,hr,db,pa⟩:=h.cq.i5 hL iO
 have ra:=r0.bh pa
 have nr:¬rb=H.next:=by have:=h.pp.rl;omega
 have nq:¬q=H.next:=by have:=h.pp.ql;omega
 have rq:=QR.fresh ra (nb:=H.next) rfl {kind:=11,a:= -1,b:= -1} rfl rfl rfl
 simp only [go_sem,hq,hr,hz,db,nr,nq,afF,cX]
 refine ag.by (sY rq.pp) ?_
 rintro _ H2 - ⟨rfl,p2⟩
 have r2:=rq.bh p2
 have r3:=r2.push ⟨iC (tk L (aC st)),72,false,false⟩
 obtain ⟨vA,vP,vB,cP⟩:=r2.nd
 have nn:¬H.next=H2.next:=by have:=r2.lq.ln.nl;omega
 have sk:¬H.next=rb:=fun e=>nr e.symm
 have yB:¬rb=H2.next:=by have:=r2.pp.rl;omega
 have Ae:¬H2.next=rb:=fun e=>yB e.symm
 have yC:¬q=H2.next:=by have:=r2.pp.ql;omega
 have tr:H.fz H2.next=false:=hf.fresh (by have:=r2.fr.nx;omega)
 rw [U5] at he
 generalize aC st=sa at *
 cases eG:bj 1 (Mw L sa,ns) with
 | none=>rw [eG] at he;cases he
 | some B=>
  obtain ⟨bi,bs,bn⟩:=B
  rw [eG] at he
  cases he
  by_cases h1:(tk L sa).kind=2
  ·rw [show iC (tk L sa)=[iV 2,iV (tk L sa).n,iV (tk L sa).line,iV (tk L sa).az,ah (tk L sa).text] by simp only [iC,h1]] at r3
   by_cases h2:99 < (tk L sa).n
   ·have e1:AV L sa=fD 3 sa:=by rw [AV,if_neg (fun e=>e h1),if_pos h2]
    rw [QN,e1,if_neg (by rw [Cf (by decide)];exact Bool.false_ne_true)]
    rw [Mw,e1,if_neg (by rw [Cf (by decide)];exact Bool.false_ne_true)] at eG
    simp only [go_sem,h1,h2,nn,sk,yB,Ae,yC,tr]
    refine ag.by (lU r3.pp) ?_
    rintro _ H4 - p4
    have r4:=r3.bh p4
    simp only [go_sem]
    refine ag.by (fA r4.pp) ?_
    rintro _ _ - ⟨rfl,rfl⟩
    simp only [go_sem,Cf (show (3:Int)≠0 by decide)]
    refine ag.by (dy r4.nq eG) ?_
    rintro _ lL - ⟨rfl,ld⟩
    obtain ⟨lg,lh,jq⟩:=r4.xW ld
    obtain ⟨Ef,Eg,Eh,lE⟩:=jq.nd
    have C6:=jq.hY lE {kind:=11,n:=0,a:=bi,b:= -1} rfl rfl rfl
    obtain ⟨aA,kA,aP,kP,aB,kB,y0,gI⟩:=C6.done (Nat.le_refl _) (Nat.lt_of_lt_of_le hk jq.le)
    rw [aH,if_pos rfl] at y0
    cases y0
    simp only [go_sem,lE,cX]
    refine ag.by gI ?_
    rintro _ xw - Hz
    simp only [go_sem]
    exact Hz
   ·have e1:AV L sa=sa:=by rw [AV,if_neg (fun e=>e h1),if_neg h2]
    rw [QN,e1]
    rw [Mw,e1] at eG
    simp only [go_sem,h1,h2,nn,sk,yB,Ae,yC,tr]
    refine ag.by (fA r3.pp) ?_
    rintro _ _ - ⟨rfl,rfl⟩
    by_cases h3:dj sa=true
    ·rw [if_pos h3]
     rw [if_pos h3] at eG
     obtain ⟨d1,d2,d3,d4,bL,oL,cL,a,j,c,hq,hr,db,pa⟩:=r3.pp.i5 hL (by rw [h1];decide)
     have EJ:=r3.bh pa
     have nI:=hq
     have iU:=hr
     rw [aZ,if_neg yC] at nI
     rw [aZ,if_neg yB] at iU
     obtain ⟨Sm,Hj,Hq,vv⟩:=EJ.nd
     have U6:=vv
     rw [aH,if_neg sk,aZ,if_neg nn] at U6
     rw [cP] at U6
     cases U6
     have r5:=EJ.hY vv {kind:=11,n:=(tk L sa).n,a:= -1,b:= -1} rfl rfl rfl
     simp only [go_sem,h3,nn,sk,yB,Ae,yC,hz,cX,tr,nI,iU,db,cP]
     refine ag.by (dy r5.nq eG) ?_
     rintro _ lL - ⟨rfl,ld⟩
     obtain ⟨lg,lh,jq⟩:=r5.xW ld
     obtain ⟨Ef,Eg,Eh,lE⟩:=jq.nd
     have C6:=jq.hY lE {kind:=11,n:=(tk L sa).n,a:=bi,b:= -1} rfl rfl rfl
     obtain ⟨aA,kA,aP,kP,aB,kB,y0,gI⟩:=C6.done (Nat.le_refl _) (Nat.lt_of_lt_of_le hk jq.le)
     rw [aH,if_pos rfl] at y0
     cases y0
     simp only [go_sem,lE,cX]
     refine ag.by gI ?_
     rintro _ xw - Hz
     simp only [go_sem]
     exact Hz
    ·rw [if_neg h3]
     rw [if_neg h3] at eG
     simp only [go_sem,h3]
     refine ag.by (dy r3.nq eG) ?_
     rintro _ lL - ⟨rfl,ld⟩
     obtain ⟨lg,lh,jq⟩:=r3.xW ld
     obtain ⟨Ef,Eg,Eh,lE⟩:=jq.nd
     have C6:=jq.hY lE {kind:=11,n:=0,a:=bi,b:= -1} rfl rfl rfl
     obtain ⟨aA,kA,aP,kP,aB,kB,y0,gI⟩:=C6.done (Nat.le_refl _) (Nat.lt_of_lt_of_le hk jq.le)
     rw [aH,if_pos rfl] at y0
     cases y0
     simp only [go_sem,lE,cX]
     refine ag.by gI ?_
     rintro _ xw - Hz
     simp only [go_sem]
     exact Hz
  ·have e1:AV L sa=fD 2 sa:=by rw [AV,if_pos h1]
   rw [QN,e1,if_neg (by rw [Cf (by decide)];exact Bool.false_ne_true)]
   rw [Mw,e1,if_neg (by rw [Cf (by decide)];exact Bool.false_ne_true)] at eG
   simp only [go_sem,h1,nn,sk,yB,Ae,yC,tr]
   refine ag.by (lU r3.pp) ?_
   rintro _ H4 - p4
   have r4:=r3.bh p4
   simp only [go_sem]
   refine ag.by (fA r4.pp) ?_
   rintro _ _ - ⟨rfl,rfl⟩
   simp only [go_sem,Cf (show (2:Int)≠0 by decide)]
   refine ag.by (dy r4.nq eG) ?_
   rintro _ lL - ⟨rfl,ld⟩
   obtain ⟨lg,lh,jq⟩:=r4.xW ld
   obtain ⟨Ef,Eg,Eh,lE⟩:=jq.nd
   have C6:=jq.hY lE {kind:=11,n:=0,a:=bi,b:= -1} rfl rfl rfl
   obtain ⟨aA,kA,aP,kP,aB,kB,y0,gI⟩:=C6.done (Nat.le_refl _) (Nat.lt_of_lt_of_le hk jq.le)
   rw [aH,if_pos rfl] at y0
   cases y0
   simp only [go_sem,lE,cX]
   refine ag.by gI ?_
   rintro _ xw - Hz
   simp only [go_sem]
   exact Hz
end
section
variable {zb:Bool} {L:List bJ} {F:List Nat} {c1 c2 c3:Value} {H H1 H2:ad} {q rb nb:Nat} {st bu bH:aV} {ns bZ cB:List aJ} {m m1 m2 g g1 g2 gn hO tp:List Nat} {n n1 n2:aJ}
def ew (H H1:ad) (m1 g1:List Nat) (c:Nat):Prop:=H.next<=c/\c < H1.next/\c∉m1/\c∉g1
theorem ew.next {c:Nat} (h:ew H H1 m1 g1 c) (hn:H1.next<=H2.next) (hm:∀c∈m2,c∈m1∨H1.next<=c) (hg:∀c∈g2,c∈g1∨H1.next<=c):ew H H2 m2 g2 c:=
 ⟨h.1,Nat.lt_of_lt_of_le h.2.1 hn,fun e=>(hm c e).elim h.2.2.1 fun e=>by have:=h.2.1;omega,fun e=>(hg c e).elim h.2.2.2 fun e=>by have:=h.2.1;omega⟩
theorem ew.mono {c:Nat} (h:ew H H1 m1 g1 c) (hn:H1.next<=H2.next):ew H H2 m1 g1 c:=⟨h.1,Nat.lt_of_lt_of_le h.2.1 hn,h.2.2⟩
theorem NR.other (h0:NQ L F c1 c2 c3 H q rb st ns m g) (h:NR L F c1 c2 c3 H q rb ns m g H1 bu bZ m1 g1) {M:List Nat} (bk:Fr M H1 H2) (hM:∀c∈M,ew H H1 m1 g1 c) (mW:∀c,c < H1.next∨H2.next<=c->H2.fz c=H1.fz c):NR L F c1 c2 c3 H q rb ns m g H2 bu bZ m1 g1:=by
 have mq:q∉M:=fun e=>(h0.pp.fresh (hM q e).1).1 rfl
 have mr:rb∉M:=fun e=>(h0.pp.fresh (hM rb e).1).2.1 rfl
 have mF:∀b∈F,b∉M:=fun b hb e=>(h0.pp.fresh (hM b e).1).2.2 hb
 exact ⟨h.fr.trans bk fun c hc=>.inr (hM c hc).1,{h.nq.toNQ0.fr bk (h.nq.pp.fr bk mq mr mF) mq (fun c hc e=>(hM c e).2.2.1 hc) (fun c hc e=>(hM c e).2.2.2 hc) with
  fz:=by rw [mW _ (.inl h.nq.pp.rl)];exact h.nq.fz,fq:=by rw [mW _ (.inl h.nq.pp.ql)];exact h.nq.fq,fm:=fun c hc=>by rw [mW _ (.inl (h.nq.hm c hc).1)];exact h.nq.fm c hc,fn:=fun b hb=>by rw [mW _ (.inr hb)];exact h.nq.fn b (Nat.le_trans bk.nx hb)},h.le,h.sm,h.sg⟩
def Jg (L:List bJ) (s:aV):aV × fu:=
 if cW L [102,114,101,101] s=true then (aC s,⟨-1,0,0,[],[],[],[]⟩)
 else ((cF L (dO L [97,115] (AT L (cF L s).2).2)).2,⟨0,0,0,(cF L s).1,(cF L (dO L [97,115] (AT L (cF L s).2).2)).1,[],(AT L (cF L s).2).1⟩)
def IL (L:List bJ) (bj:qZ):Nat->aV->List aJ->List fu->Option (aV × List aJ × List fu)
 | 0,_,_,_=>none
 | k+1,s,ns,l=>
  if dj s=true/\(cW L [102,114,101,101] s=true∨uX L s=true) then
   (if 12 < l.length then some (fD 3 s,ns,l)
   else (bj 0 ((Jg L s).1,ns)).bind fun x=>IL L bj k x.2.1 x.2.2 (l++[{(Jg L s).2 with body:=x.1}]))
  else some (s,ns,l)
def UH (L:List bJ) (F:List Nat) (c1 c2 c3:Value) (H:ad) (q rb:Nat) (ns:List aJ) (m g:List Nat) (bW:aV) (iG:List aJ) (l:List fu) (w:Value) (H':ad):Prop:=
 Fr (rb::q::m) H H'/\(∀c,H'.fz c=H.fz c)/\ns.length<=iG.length/\∃m' g' gl,NQ0 L F c1 c2 c3 H' q rb bW iG m' g'/\(∀c∈m',c∈m∨H.next<=c)/\(∀c∈g',c∈g∨H.next<=c)/\Sl eQ H' w l gl/\im H H' gl/\∀c∈gl,c∉m'
abbrev cJ (b:fu) (vS vN:Value):List Value:=[iV b.tag,iV b.rY,iV b.body,ah b.name,ah b.ry,vS,vN]
theorem Ur {HN lL:ad} {stN M5:aV} {M6:List aJ} {mB gB gN:List Nat} {l:List fu} {v vN:Value} {bb:Nat} {b:fu} (h:NQ L F c1 c2 c3 H q rb st ns m g) (rN:NR L F c1 c2 c3 H q rb ns m g HN stN cB m2 g2) (cw:Gr eQ 109 HN v l mB gB) (lY:∀c∈mB++gB,ew H HN m2 g2 c/\c≠bb) (HA:ew H HN m2 g2 bb)
  (Og:HN.get bb=some ⟨cJ b (.slice none 0 0) vN,109,false,false⟩) (ea:b.aY=[]) (C7:Sl .str HN vN b.names gN) (mX:∀c∈gN,ew H HN m2 g2 c/\c≠bb) (ld:yX L F c1 c2 c3 HN q rb cB m2 g2 M5 M6 lL):
  ∃lg lh,lL.get bb=some ⟨cJ b (.slice none 0 0) vN,109,false,false⟩/\(¬bb=lL.next)/\(∀c∈lg,c∈m2∨HN.next<=c)/\(∀c∈lh,c∈g2∨HN.next<=c)/\∀bi,NR L F c1 c2 c3 H q rb ns m g ((lL.ai bb ⟨cJ {b with body:=bi} (.slice none 0 0) vN,109,false,false⟩).push ⟨cJ {b with body:=bi} (.slice none 0 0) vN,109,false,false⟩) M5 M6 lg lh/\
   Gr eQ 109 ((lL.ai bb ⟨cJ {b with body:=bi} (.slice none 0 0) vN,109,false,false⟩).push ⟨cJ {b with body:=bi} (.slice none 0 0) vN,109,false,false⟩) v l mB gB/\
   (∀c∈mB++gB,ew H ((lL.ai bb ⟨cJ {b with body:=bi} (.slice none 0 0) vN,109,false,false⟩).push ⟨cJ {b with body:=bi} (.slice none 0 0) vN,109,false,false⟩) lg lh c)/\
   (∀c∈gN,ew H ((lL.ai bb ⟨cJ {b with body:=bi} (.slice none 0 0) vN,109,false,false⟩).push ⟨cJ {b with body:=bi} (.slice none 0 0) vN,109,false,false⟩) lg lh c)/\
   eQ.E ((lL.ai bb ⟨cJ {b with body:=bi} (.slice none 0 0) vN,109,false,false⟩).push ⟨cJ {b with body:=bi} (.slice none 0 0) vN,109,false,false⟩) (cJ {b with body:=bi} (.slice none 0 0) vN) {b with body:=bi} gN:=by
 obtain ⟨lg,lh,jq,KL,t20⟩:=rN.call ld
 have n20:=ld.1.nx
 have k20:∀{c:Nat},ew H HN m2 g2 c->lL.get c=HN.get c:=fun hc=>ld.1.get _ hc.2.1 (by
  obtain ⟨e1,e2,e3⟩:=h.pp.fresh hc.1
  simp only [List.mem_cons,not_or]
  exact ⟨e2,e1,hc.2.2.1⟩)
 refine ⟨lg,lh,(k20 HA).trans Og,fun e=>by have:=HA.2.1;omega,KL,t20,fun bi=>?_⟩
 have C6:=jq.other h (M:=[bb]) ((Fr.refl _ _).ai (b:=bb) (.inl (by simp)) ⟨cJ {b with body:=bi} (.slice none 0 0) vN,109,false,false⟩) (fun c hc=>by rw [List.mem_singleton] at hc;subst hc;exact HA.next n20 KL t20) (fun _ _=>rfl)
 have uy:=C6.push ⟨cJ {b with body:=bi} (.slice none 0 0) vN,109,false,false⟩
 have n22:HN.next<=((lL.ai bb ⟨cJ {b with body:=bi} (.slice none 0 0) vN,109,false,false⟩).push ⟨cJ {b with body:=bi} (.slice none 0 0) vN,109,false,false⟩).next:=Nat.le_trans n20 (Nat.le_succ _)
 have X1:∀{c:Nat},ew H HN m2 g2 c/\c≠bb->((lL.ai bb ⟨cJ {b with body:=bi} (.slice none 0 0) vN,109,false,false⟩).push ⟨cJ {b with body:=bi} (.slice none 0 0) vN,109,false,false⟩).get c=HN.get c:=fun {c} hc=>by
  rw [bO (by show c < lL.next;have:=hc.1.2.1;omega),aH,if_neg hc.2];exact k20 hc.1
 refine ⟨uy,cw.ae (fun c hc=>X1 (lY c (by simp [hc]))) (fun c hc=>X1 (lY c (by simp [hc]))),fun c hc=>(lY c hc).1.next n22 KL t20,fun c hc=>(mX c hc).1.next n22 KL t20,.slice none 0 0,vN,[],gN,rfl,rfl,?_,?_⟩
 ·show Sl .int _ _ b.aY []
  rw [ea];exact .inl ⟨rfl,rfl,rfl⟩
 ·exact C7.ae fun c hc=>X1 (mX c hc)
theorem Uh {xw H7:ad} {M5:aV} {M6:List aJ} {lg lh mB gB gN:List Nat} (h:NQ L F c1 c2 c3 H q rb st ns m g) (uy:NR L F c1 c2 c3 H q rb ns m g xw M5 M6 lg lh) (uh:∀c∈mB++gB,ew H xw lg lh c) (zt:∀c∈gN,ew H xw lg lh c) (dA:Fr mB xw H7) (eu:H7.next=xw.next+1) (kY:∀c,H7.fz c=(c==xw.next||xw.fz c)):
  NR L F c1 c2 c3 H q rb ns m g H7 M5 M6 lg lh/\∀c∈[xw.next]++(gB++gN),ew H H7 lg lh c:=by
 refine ⟨uy.other h dA (fun c hc=>uh c (by simp [hc])) (fun c hc=>by
  rw [kY,show (c==xw.next)=false from by rw [beq_eq_false_iff_ne];omega,Bool.false_or]),fun c hc=>?_⟩
 rcases List.mem_append.1 hc with e | e
 ·rw [List.mem_singleton] at e
  have:=uy.fr.nx
  subst e
  exact ⟨by omega,by omega,fun e=>by have:=(uy.nq.hm _ e).1;omega,fun e=>by have:=(uy.nq.hg _ e).1;omega⟩
 ·rcases List.mem_append.1 e with e | e
  ·exact (uh c (by simp [e])).mono (by omega)
  ·exact (zt c e).mono (by omega)
theorem aap {h:KH}:iA Tryz.prog 109 [] h=.ok (.agg #[iV 0,iV 0,iV 0,ah [],ah [],.slice none 0 0,.slice none 0 0]) h:=by kernel_rfl
theorem afG (hL:LG L) {bj:qZ} (dy:CF L F c1 c2 c3 q rb bj) (h:NQ L F c1 c2 c3 H q rb st ns m g) {fuel:Nat} {R:aV × List aJ × List fu} (he:IL L bj fuel st ns []=some R):
  aj Tryz.prog 165 #[pV q] H (fun w H'=>UH L F c1 c2 c3 H q rb ns m g R.1 R.2.1 R.2.2 w H'):=by
 refine aj.told ?_
 refine akJ (Nat.le_refl _) fun hf=>?_
 simp only [Tryz.f165,Option.getD_some]
 have r0:=NR.start h
 have hz:=h.fz
 have fK:=hL.len
 simp only [go_sem]
 refine qA 4503599627370488 (fun n V H2=>∃bH cB m2 g2 l v mB gB,V 3=v/\Gr eQ 109 H2 v l mB gB/\NR L F c1 c2 c3 H q rb ns m g H2 bH cB m2 g2/\(∀c∈mB++gB,ew H H2 m2 g2 c)/\l.length<=13/\IL L bj n bH cB l=some R) (n:=fuel)
  ⟨st,ns,m,g,[],.slice none 0 0,[],[],by simp only [go_sem] <;> rfl,Gr.nil _ _ _,r0,by simp,by simp,he⟩ ?_ (by rfl)
 rintro n V H2 ⟨bH,cB,m2,g2,l,v,mB,gB,e3,cw,r2,lY,apI,di⟩
 cases n with
 | zero=>cases di
 | succ n=>
  rw [IL] at di
  obtain ⟨a,hv⟩:=cw.val
  have DZ:∀{H3:ad} {c:Nat},Fr [rb] H2 H3->ew H H2 m2 g2 c->H3.get c=H2.get c:=fun f hc=>f.get _ hc.2.1 (by have:=(h.pp.fresh hc.1).2.1;simpa using this)
  have fin:∀{H7:ad} {Hv:aV} {me:List aJ} {m7 g7 mB7 XG:List Nat} {l7:List fu} {v7:Value},NR L F c1 c2 c3 H q rb ns m g H7 Hv me m7 g7->Gr eQ 109 H7 v7 l7 mB7 XG->(∀c∈mB7++XG,ew H H7 m7 g7 c)->UH L F c1 c2 c3 H q rb ns m g Hv me l7 v7 (H7.af H.fz):=fun r hg hm=>
   ⟨r.fr.af _,fun _=>rfl,r.le,_,_,_,r.nq.toNQ0.af,r.sm,r.sg,hg.sl.ae fun _ _=>rfl,fun c hc=>⟨(hm c hc).1,(hm c hc).2.1⟩,fun c hc=>(hm c hc).2.2.1⟩
  simp only [go_sem,e3,hv]
  refine ag.by (fA r2.nq.cq) ?_
  rintro _ _ - ⟨rfl,rfl⟩
  by_cases hb:dj bH=true
  ·simp only [go_sem,hb]
   refine ag.by (gH r2.nq.cq) ?_
   rintro _ H3 - ⟨rfl,p3⟩
   have r3:=r2.bh p3
   have lK:=p3.1.nx
   by_cases bk:cW L [102,114,101,101] bH=true
   ·rw [if_pos ⟨hb,.inl bk⟩] at di
    simp only [go_sem,bk,e3,hv]
    by_cases yp:12 < l.length
    ·have zu:(12:Int) < ((l.length:Nat):Int):=by omega
     rw [if_pos yp] at di
     cases di
     simp only [go_sem,zu,bk,e3,hv]
     refine ag.by (lU r3.nq.cq) ?_
     rintro _ H4 - p4
     have r4:=r3.bh p4
     simp only [go_sem,e3,hv]
     have f4:=p3.1.then p4.1
     rw [<-hv]
     exact fin r4 (cw.ae (fun c hc=>DZ f4 (lY c (by simp [hc]))) (fun c hc=>DZ f4 (lY c (by simp [hc])))) fun c hc=>(lY c hc).mono f4.nx
    have zu:¬(12:Int) < ((l.length:Nat):Int):=by omega
    rw [if_neg yp] at di
    cases eG:bj 0 ((Jg L bH).1,cB) with
    | none=>rw [eG] at di;cases di
    | some B=>
     obtain ⟨bi,bs,bn⟩:=B
     rw [eG] at di
     simp only [Option.bind_some] at di
     rw [Jg,if_pos bk] at eG di
     have xy:H.fz H3.next=false:=hf.fresh (Nat.le_trans r2.fr.nx lK)
     simp only [go_sem,zu,aap,xy]
     have r4:=r3.push ⟨[iV 0,iV 0,iV 0,ah [],ah [],.slice none 0 0,.slice none 0 0],109,false,false⟩
     refine ag.by (gH r4.nq.cq) ?_
     rintro _ H5 - ⟨rfl,p5⟩
     have r5:=r4.bh p5
     obtain ⟨d1,d2,d3,d4,bL,oL,cL,a',k,c0,hq,hr,db,pa⟩:=r5.nq.cq.i5 hL (jT bk)
     have ra:=r5.bh pa
     have xz:H3.next+1<=H5.next:=p5.1.nx
     have X2:H5.get H3.next=some ⟨[iV 0,iV 0,iV 0,ah [],ah [],.slice none 0 0,.slice none 0 0],109,false,false⟩:=(p5.1.get _ (Nat.lt_succ_self _) (by have:=r3.nq.pp.rl;simp;omega)).trans (by rw [aZ,if_pos rfl])
     have EK:¬H3.next=rb:=by have:=r3.nq.pp.rl;omega
     have ij:¬rb=H3.next:=fun e=>EK e.symm
     have ad0:ew H H5 m2 g2 H3.next:=⟨Nat.le_trans r2.fr.nx lK,by omega,fun e=>by have:=(r3.nq.hm _ e).1;omega,fun e=>by have:=(r3.nq.hg _ e).1;omega⟩
     have rN:=ra.other h (M:=[H3.next]) ((Fr.refl _ _).ai (b:=H3.next) (.inl (by simp)) ⟨cJ ⟨-1,0,0,[],[],[],[]⟩ (.slice none 0 0) (.slice none 0 0),109,false,false⟩) (fun c hc=>by rw [List.mem_singleton] at hc;subst hc;exact ad0) (fun _ _=>rfl)
     have anZ:∀{c:Nat},ew H H2 m2 g2 c->H5.get c=H2.get c:=fun {c} hc=>by
      have Oh:c∉[rb]:=by have:=(h.pp.fresh hc.1).2.1;simpa using this
      rw [p5.1.get c (by show c < H3.next+1;have:=hc.2.1;omega) Oh,bO (by have:=hc.2.1;omega)]
      exact DZ p3.1 hc
     have acY:∀{c:Nat} {B C:cO},ew H H2 m2 g2 c->((H5.ai rb B).ai H3.next C).get c=H2.get c:=fun {c B C} hc=>by
      rw [aH,if_neg (by have:=hc.2.1;omega),aH,if_neg ((h.pp.fresh hc.1).2.1)];exact anZ hc
     have VI:=cw.ae (fun c hc=>acY (B:=⟨[.slice (some ⟨bL,oL,none⟩) L.length cL,iV ((bH.at_+1:Nat):Int),.slice none 0 0,.bool true,iV bH.depth,iV bH.bad,.slice a' k c0],121,false,false⟩) (C:=⟨cJ ⟨-1,0,0,[],[],[],[]⟩ (.slice none 0 0) (.slice none 0 0),109,false,false⟩) (lY c (by simp [hc]))) (fun c hc=>acY (lY c (by simp [hc])))
     have X3:∀c∈mB++gB,ew H ((H5.ai rb ⟨[.slice (some ⟨bL,oL,none⟩) L.length cL,iV ((bH.at_+1:Nat):Int),.slice none 0 0,.bool true,iV bH.depth,iV bH.bad,.slice a' k c0],121,false,false⟩).ai H3.next ⟨cJ ⟨-1,0,0,[],[],[],[]⟩ (.slice none 0 0) (.slice none 0 0),109,false,false⟩) m2 g2 c/\c≠H3.next:=fun c hc=>⟨(lY c hc).mono (by show H2.next<=H5.next;omega),by have:=(lY c hc).2.1;omega⟩
     have HA:ew H ((H5.ai rb ⟨[.slice (some ⟨bL,oL,none⟩) L.length cL,iV ((bH.at_+1:Nat):Int),.slice none 0 0,.bool true,iV bH.depth,iV bH.bad,.slice a' k c0],121,false,false⟩).ai H3.next ⟨cJ ⟨-1,0,0,[],[],[],[]⟩ (.slice none 0 0) (.slice none 0 0),109,false,false⟩) m2 g2 H3.next:=ad0
     have Og:((H5.ai rb ⟨[.slice (some ⟨bL,oL,none⟩) L.length cL,iV ((bH.at_+1:Nat):Int),.slice none 0 0,.bool true,iV bH.depth,iV bH.bad,.slice a' k c0],121,false,false⟩).ai H3.next ⟨cJ ⟨-1,0,0,[],[],[],[]⟩ (.slice none 0 0) (.slice none 0 0),109,false,false⟩).get H3.next=some ⟨cJ ⟨-1,0,0,[],[],[],[]⟩ (.slice none 0 0) (.slice none 0 0),109,false,false⟩:=by rw [aH,if_pos rfl]
     have C7:Sl .str ((H5.ai rb ⟨[.slice (some ⟨bL,oL,none⟩) L.length cL,iV ((bH.at_+1:Nat):Int),.slice none 0 0,.bool true,iV bH.depth,iV bH.bad,.slice a' k c0],121,false,false⟩).ai H3.next ⟨cJ ⟨-1,0,0,[],[],[],[]⟩ (.slice none 0 0) (.slice none 0 0),109,false,false⟩) (.slice none 0 0) (⟨-1,0,0,[],[],[],[]⟩:fu).names []:=.inl ⟨rfl,rfl,rfl⟩
     have mX:∀c∈([]:List Nat),ew H ((H5.ai rb ⟨[.slice (some ⟨bL,oL,none⟩) L.length cL,iV ((bH.at_+1:Nat):Int),.slice none 0 0,.bool true,iV bH.depth,iV bH.bad,.slice a' k c0],121,false,false⟩).ai H3.next ⟨cJ ⟨-1,0,0,[],[],[],[]⟩ (.slice none 0 0) (.slice none 0 0),109,false,false⟩) m2 g2 c/\c≠H3.next:=by simp
     have HB:∀c∈([]:List Nat),c∉mB:=by simp
     simp only [go_sem,bk,hq,hr,hz,db,X2,xy,EK,ij]
     refine ag.by (dy rN.nq eG) ?_
     rintro _ lL - ⟨rfl,ld⟩
     obtain ⟨lg,lh,Mx,M7,_,_,My⟩:=Ur h rN VI X3 HA Og rfl C7 mX ld
     obtain ⟨uy,F6,uh,zt,M8⟩:=My bi
     obtain ⟨aN,kN,C4⟩:=C7.val
     try subst C4
     simp only [go_sem,Mx,xy,M7,e3,hv,eX A3 (by decide) (by decide)]
     rw [hv] at F6
     refine lA (r:=eQ) A3 F6 (fun c hc=>(uh c (by simp [hc])).2.1) (fun c hc=>(uh c (by simp [hc])).2.1) (fun c hc=>⟨(zt c hc).2.1,HB c hc⟩) (fun c hc=>hf.fresh (lY c (by simp [hc])).1) (by rw [aZ];exact if_pos rfl) M8 rfl (by omega) ?_
     intro v7 H7 cA eu jU dA kY
     obtain ⟨r7,Ss⟩:=Uh h uy uh zt dA eu kY
     simp only [go_sem]
     exact ⟨n,by omega,bs,bn,lg,lh,_,v7,_,_,rfl,cA,r7,Ss,by rw [List.length_append,List.length_singleton];omega,di⟩
   ·have apJ:=di
    simp only [go_sem,bk]
    refine ag.by (L0 hL r3.nq.cq) ?_
    rintro _ H4 - ⟨rfl,p4⟩
    have r4:=r3.bh p4
    have qU:=p4.1.nx
    clear apJ
    by_cases cQ:uX L bH=true
    ·rw [if_pos ⟨hb,.inr cQ⟩] at di
     simp only [go_sem,cQ,e3,hv]
     by_cases yp:12 < l.length
     ·have zu:(12:Int) < ((l.length:Nat):Int):=by omega
      rw [if_pos yp] at di
      cases di
      simp only [go_sem,zu,bk,cQ,e3,hv]
      refine ag.by (lU r4.nq.cq) ?_
      rintro _ H5 - p45
      have r45:=r4.bh p45
      simp only [go_sem,e3,hv]
      have f5:=(p3.1.then p4.1).then p45.1
      rw [<-hv]
      exact fin r45 (cw.ae (fun c hc=>DZ f5 (lY c (by simp [hc]))) (fun c hc=>DZ f5 (lY c (by simp [hc])))) fun c hc=>(lY c hc).mono f5.nx
     have zu:¬(12:Int) < ((l.length:Nat):Int):=by omega
     rw [if_neg yp] at di
     cases eG:bj 0 ((Jg L bH).1,cB) with
     | none=>rw [eG] at di;cases di
     | some B=>
      obtain ⟨bi,bs,bn⟩:=B
      rw [eG] at di
      simp only [Option.bind_some] at di
      rw [Jg,if_neg bk] at eG di
      have xy:H.fz H4.next=false:=hf.fresh (Nat.le_trans r2.fr.nx (Nat.le_trans lK qU))
      simp only [go_sem,zu,aap,xy]
      have r5:=r4.push ⟨cJ ⟨0,0,0,[],[],[],[]⟩ (.slice none 0 0) (.slice none 0 0),109,false,false⟩
      have g5:(H4.push ⟨cJ ⟨0,0,0,[],[],[],[]⟩ (.slice none 0 0) (.slice none 0 0),109,false,false⟩).get H4.next=some ⟨cJ ⟨0,0,0,[],[],[],[]⟩ (.slice none 0 0) (.slice none 0 0),109,false,false⟩:=by rw [aZ,if_pos rfl]
      have EK:H4.next∉[rb]:=by have:=r4.nq.pp.rl;simp;omega
      refine ag.by (gH r5.nq.cq) ?_
      rintro _ H6 - ⟨rfl,p6⟩
      have r6:=r5.bh p6
      have St:H4.next+1<=H6.next:=p6.1.nx
      have g6:=(p6.1.get _ (Nat.lt_succ_self _) EK).trans g5
      simp only [go_sem,bk]
      refine ag.by (jS hL r6.nq.cq) ?_
      rintro _ H7 - ⟨rfl,p7⟩
      have r7:=r6.bh p7
      have Su:=p7.1.nx
      have g7:=(p7.1.get _ (by omega) EK).trans g6
      have hM7:ew H H7 m2 g2 H4.next:=⟨Nat.le_trans r2.fr.nx (Nat.le_trans lK qU),by omega,fun e=>by have:=(r4.nq.hm _ e).1;omega,fun e=>by have:=(r4.nq.hg _ e).1;omega⟩
      generalize cF L bH=y at p7 r7 eG di
      have r8:=r7.other h (M:=[H4.next]) ((Fr.refl _ _).ai (b:=H4.next) (.inl (by simp)) ⟨cJ ⟨0,0,0,y.1,[],[],[]⟩ (.slice none 0 0) (.slice none 0 0),109,false,false⟩) (fun c hc=>by rw [List.mem_singleton] at hc;subst hc;exact hM7) (fun _ _=>rfl)
      have g8:(H7.ai H4.next ⟨cJ ⟨0,0,0,y.1,[],[],[]⟩ (.slice none 0 0) (.slice none 0 0),109,false,false⟩).get H4.next=some ⟨cJ ⟨0,0,0,y.1,[],[],[]⟩ (.slice none 0 0) (.slice none 0 0),109,false,false⟩:=by rw [aH,if_pos rfl]
      simp only [go_sem,g7,xy]
      refine ag.by (abw hL r8.nq.cq) ?_
      rintro vN H9 - ⟨⟨gN,Gv,X4⟩,p9⟩
      have r9:=r8.bh p9
      have n79:H7.next<=H9.next:=p9.1.nx
      have g9:=(p9.1.get _ (by show H4.next < H7.next;omega) EK).trans g8
      obtain ⟨aN,kN,rfl⟩:=Gv.val
      generalize AT L y.2=z at p9 r9 Gv eG di
      have hM9:ew H H9 m2 g2 H4.next:=hM7.mono n79
      have cS:=r9.other h (M:=[H4.next]) ((Fr.refl _ _).ai (b:=H4.next) (.inl (by simp)) ⟨cJ ⟨0,0,0,y.1,[],[],z.1⟩ (.slice none 0 0) (.slice aN z.1.length kN),109,false,false⟩) (fun c hc=>by rw [List.mem_singleton] at hc;subst hc;exact hM9) (fun _ _=>rfl)
      have uz:(H9.ai H4.next ⟨cJ ⟨0,0,0,y.1,[],[],z.1⟩ (.slice none 0 0) (.slice aN z.1.length kN),109,false,false⟩).get H4.next=some ⟨cJ ⟨0,0,0,y.1,[],[],z.1⟩ (.slice none 0 0) (.slice aN z.1.length kN),109,false,false⟩:=by rw [aH,if_pos rfl]
      simp only [go_sem,g9,xy]
      refine ag.by (i3 hL cS.nq.cq) ?_
      rintro _ eA - sj
      have dV:=cS.bh sj
      have aBo:H9.next<=eA.next:=sj.1.nx
      have EL:=(sj.1.get _ (by show H4.next < H9.next;omega) EK).trans uz
      simp only [go_sem]
      refine ag.by (jS hL dV.nq.cq) ?_
      rintro _ dx - ⟨rfl,dJ⟩
      have dF:=dV.bh dJ
      have acZ:=dJ.1.nx
      have kj:=(dJ.1.get _ (by omega) EK).trans EL
      generalize cF L (dO L [97,115] z.2)=w at dJ dF eG di
      have ad1:ew H dx m2 g2 H4.next:=hM9.mono (by omega)
      have rN:=dF.other h (M:=[H4.next]) ((Fr.refl _ _).ai (b:=H4.next) (.inl (by simp)) ⟨cJ ⟨0,0,0,y.1,w.1,[],z.1⟩ (.slice none 0 0) (.slice aN z.1.length kN),109,false,false⟩) (fun c hc=>by rw [List.mem_singleton] at hc;subst hc;exact ad1) (fun _ _=>rfl)
      have Og:(dx.ai H4.next ⟨cJ ⟨0,0,0,y.1,w.1,[],z.1⟩ (.slice none 0 0) (.slice aN z.1.length kN),109,false,false⟩).get H4.next=some ⟨cJ ⟨0,0,0,y.1,w.1,[],z.1⟩ (.slice none 0 0) (.slice aN z.1.length kN),109,false,false⟩:=by rw [aH,if_pos rfl]
      have i6:∀{c:Nat},H.next<=c->c∉[rb]:=fun hc=>by have:=(h.pp.fresh hc).2.1;simpa using this
      have ab8:∀{c:Nat} {C:cO},ew H H2 m2 g2 c->(dx.ai H4.next C).get c=H2.get c:=fun {c C} hc=>by
       have c2:=hc.2.1
       have cr:=i6 hc.1
       rw [aH,if_neg (by omega),dJ.1.get c (by omega) cr,sj.1.get c (by show c < H9.next;omega) cr,aH,if_neg (by omega),p9.1.get c (by show c < H7.next;omega) cr,aH,if_neg (by omega),p7.1.get c (by omega) cr,p6.1.get c (by show c < H4.next+1;omega) cr,bO (by omega),p4.1.get c (by omega) cr]
       exact DZ p3.1 hc
      have VI:=cw.ae (fun c hc=>ab8 (C:=⟨cJ ⟨0,0,0,y.1,w.1,[],z.1⟩ (.slice none 0 0) (.slice aN z.1.length kN),109,false,false⟩) (lY c (by simp [hc]))) (fun c hc=>ab8 (lY c (by simp [hc])))
      have X3:∀c∈mB++gB,ew H (dx.ai H4.next ⟨cJ ⟨0,0,0,y.1,w.1,[],z.1⟩ (.slice none 0 0) (.slice aN z.1.length kN),109,false,false⟩) m2 g2 c/\c≠H4.next:=fun c hc=>⟨(lY c hc).mono (by show H2.next<=dx.next;omega),by have:=(lY c hc).2.1;omega⟩
      have HA:ew H (dx.ai H4.next ⟨cJ ⟨0,0,0,y.1,w.1,[],z.1⟩ (.slice none 0 0) (.slice aN z.1.length kN),109,false,false⟩) m2 g2 H4.next:=ad1
      have HC:∀c∈gN,H7.next<=c/\c < H9.next:=X4
      have C7:Sl .str (dx.ai H4.next ⟨cJ ⟨0,0,0,y.1,w.1,[],z.1⟩ (.slice none 0 0) (.slice aN z.1.length kN),109,false,false⟩) (.slice aN z.1.length kN) (⟨0,0,0,y.1,w.1,[],z.1⟩:fu).names gN:=Gv.ae fun c hc=>by
       have:=HC c hc
       have:=r2.fr.nx
       have cr:=i6 (c:=c) (by omega)
       rw [aH,if_neg (by omega),dJ.1.get c (by omega) cr,sj.1.get c (by show c < H9.next;omega) cr,aH,if_neg (by omega)]
      have mX:∀c∈gN,ew H (dx.ai H4.next ⟨cJ ⟨0,0,0,y.1,w.1,[],z.1⟩ (.slice none 0 0) (.slice aN z.1.length kN),109,false,false⟩) m2 g2 c/\c≠H4.next:=fun c hc=>by
       have:=HC c hc
       have:=r2.fr.nx
       exact ⟨⟨by omega,by show c < dx.next;omega,fun e=>by have:=(r4.nq.hm _ e).1;omega,fun e=>by have:=(r4.nq.hg _ e).1;omega⟩,by omega⟩
      have HB:∀c∈gN,c∉mB:=fun c hc e=>by have:=HC c hc;have:=(lY c (by simp [e])).2.1;omega
      simp only [go_sem,kj,xy]
      refine ag.by (dy rN.nq eG) ?_
      rintro _ lL - ⟨rfl,ld⟩
      obtain ⟨lg,lh,Mx,M7,_,_,My⟩:=Ur h rN VI X3 HA Og rfl C7 mX ld
      obtain ⟨uy,F6,uh,zt,M8⟩:=My bi
      obtain ⟨aN,kN,C4⟩:=C7.val
      try subst C4
      simp only [go_sem,Mx,xy,M7,e3,hv,eX A3 (by decide) (by decide)]
      rw [hv] at F6
      refine lA (r:=eQ) A3 F6 (fun c hc=>(uh c (by simp [hc])).2.1) (fun c hc=>(uh c (by simp [hc])).2.1) (fun c hc=>⟨(zt c hc).2.1,HB c hc⟩) (fun c hc=>hf.fresh (lY c (by simp [hc])).1) (by rw [aZ];exact if_pos rfl) M8 rfl (by omega) ?_
      intro v7 H7 cA eu jU dA kY
      obtain ⟨r7,Ss⟩:=Uh h uy uh zt dA eu kY
      simp only [go_sem]
      exact ⟨n,by omega,bs,bn,lg,lh,_,v7,_,_,rfl,cA,r7,Ss,by rw [List.length_append,List.length_singleton];omega,di⟩
    ·rw [if_neg (fun e=>e.2.elim bk cQ)] at di
     cases di
     simp only [go_sem,cQ,e3,hv]
     have f4:=p3.1.then p4.1
     rw [<-hv]
     exact fin r4 (cw.ae (fun c hc=>DZ f4 (lY c (by simp [hc]))) (fun c hc=>DZ f4 (lY c (by simp [hc])))) fun c hc=>(lY c hc).mono f4.nx
  ·rw [if_neg (fun e=>hb e.1)] at di
   cases di
   simp only [go_sem,hb,e3,hv]
   rw [<-hv]
   exact fin r2 cw lY
end
section
variable {zb:Bool} {L:List bJ} {F:List Nat} {c1 c2 c3:Value} {H H1 H2:ad} {q rb nb:Nat} {st bu bH:aV} {ns bZ cB:List aJ} {m m1 m2 g g1 g2 gn hO tp:List Nat} {n n1 n2:aJ}
theorem QR.an0 {l:List fu} {w:Value} (h:QR zb L F c1 c2 c3 H q rb ns m g nb gn H1 bu bZ m1 g1 n1 hO) {bW:aV} {iG:List aJ} (hp:UH L F c1 c2 c3 H1 q rb bZ m1 g1 bW iG l w H2):∃m2 g2 gl,QR zb L F c1 c2 c3 H q rb ns m g nb gn H2 bW iG m2 g2 n1 hO/\Sl eQ H2 w l gl/\∀c∈gl,c < H2.next/\(H.next<=c/\c≠rb/\c≠nb/\c≠q/\c∉m2):=by
 obtain ⟨hf,hz,hle,m2,g2,gl,h0,hs,jf,ea,hn,gu⟩:=hp
 have hl:=h.lq.ln
 have oX:=hl.nl
 have dH:=h.fr.nx
 refine ⟨m2,g2,gl,⟨h.fr.trans hf fun c hc=>?_,⟨h0,hl.fr hf h0.pp (by simp;exact ⟨hl.nr,hl.nq,h.lq.nm⟩) (fun c hc=>by simp;exact ⟨(hl.hg c hc).2.1,(hl.hg c hc).2.2.2,h.lq.gm c hc⟩),fun e=>(hs _ e).elim h.lq.nm fun e=>by omega,fun e=>(jf _ e).elim h.lq.ng fun e=>by omega,fun c hc e=>(hs c e).elim (h.lq.gm c hc) fun e=>by have:=(hl.hg c hc).1;omega⟩,
  Nat.le_trans h.le hle,fun c hc=>(hs c hc).elim (h.sm c) fun e=>.inr (Nat.le_trans dH e),fun c hc=>(jf c hc).elim (h.sg c) fun e=>.inr (Nat.le_trans dH e),h.sn,by rw [hz];exact h.fz,by rw [hz];exact h.fq,by rw [hz];exact h.fb,fun c hc=>?_,fun b hb=>by rw [hz];exact h.fn b (Nat.le_trans hf.nx hb)⟩,ea,fun c hc=>?_⟩
 ·simp only [List.mem_cons] at hc ⊢
  rcases hc with e | e | e
  ·exact .inl (.inl e)
  ·exact .inl (.inr (.inl e))
  ·exact (h.sm c e).imp (fun e=>.inr (.inr (.inr e))) id
 ·rw [hz]
  rcases hs c hc with e | e
  ·exact h.fm c e
  ·exact h.fn c e
 ·obtain ⟨e1,e2,e3,e4,_⟩:=h.new (hn c hc).1
  exact ⟨(hn c hc).2,e1,e2,e3,e4,gu c hc⟩
def A6 (L:List bJ) (bj:qZ) (fuel:Nat) (st:aV) (ns:List aJ) (k:Nat):Option (aV × List aJ):=
 if cW L [100,111,110,101] st=true then some (aC st,qI ns k {kind:=12,a:= -1,b:= -1})
 else if cW L [103,105,118,101] st=true then some ((cF L (aC st)).2,qI ns k {kind:=17,a:= -1,b:= -1,ie:=(cF L (aC st)).1})
 else if cW L [99,97,108,108] st=true then
  (let y:=cF L (aC st);let z:=rA L y.2;some (z.2,qI ns k {kind:=13,a:= -1,b:= -1,ik:=y.1,args:=z.1}))
 else if cW L [97,103,97,105,110] st=true then some ((rA L (aC st)).2,qI ns k {kind:=14,a:= -1,b:= -1,args:=(rA L (aC st)).1})
 else if cW L [105,102] st=true then
  (bj 0 ((ir L (aC st)).2,ns)).bind fun x=>(bj 0 (dO L [101,108,115,101] x.2.1,x.2.2)).map fun y=>(y.2.1,qI y.2.2 k {kind:=16,a:=x.1,b:=y.1,args:=[(ir L (aC st)).1]})
 else (CC L fuel (dO L [58] (cF L (aC st)).2)).bind fun p=>(IL L bj fuel (wJ L p.2) ns []).map fun B=>(I4 L B.1,qI B.2.1 k {kind:=15,a:= -1,b:= -1,ie:=(cF L (aC st)).1,pat:=p.1,ak:=B.2.2})
theorem Z6 {h:KH}:iA Tryz.prog 59 [(8,iV (-1)),(9,iV (-1))] h=.ok (.agg #[iV 0,iV 0,iV 0,iV 0,iV 0,iV 0,iV 0,iV 0,iV (-1),iV (-1),iV 0,iV 0,iV 0,ah [],ah [],ah [],ah [],.slice none 0 0,.slice none 0 0,.slice none 0 0]) h:=by kernel_rfl
theorem ab9 (hL:LG L) {bj:qZ} (dy:CF L F c1 c2 c3 q rb bj) (h:NQ L F c1 c2 c3 H q rb st ns m g) {k:Nat} (hk:k < ns.length) (iO:(tk L st).kind≠4) {fuel:Nat} {R:aV × List aJ} (he:A6 L bj fuel st ns k=some R):
  aj Tryz.prog 154 #[pV q,iV (k:Nat)] H (fun w H'=>yX L F c1 c2 c3 H q rb ns m g R.1 R.2 H'):=by
 refine aj.told ?_
 refine akp (Nat.le_refl _) fun hf=>?_
 simp only [Tryz.f154,Option.getD_some]
 have r0:=QR.fresh (NR.start h) (nb:=H.next) rfl {a:= -1,b:= -1} rfl rfl rfl
 have hz:=h.fz
 have fK:=hL.len
 have cX:H.fz H.next=false:=hf.fresh (Nat.le_refl _)
 have nr:¬rb=H.next:=by have:=h.pp.rl;omega
 have sk:¬H.next=rb:=fun e=>nr e.symm
 have nq:¬q=H.next:=by have:=h.pp.ql;omega
 simp only [go_sem,Z6,cX]
 refine ag.by (gH r0.pp) ?_
 rintro _ H1 - ⟨rfl,Sv⟩
 have r1:=r0.bh Sv
 by_cases h1:cW L [100,111,110,101] st=true
 ·rw [A6,if_pos h1] at he
  cases he
  obtain ⟨d1,d2,d3,d4,bL,oL,cL,a,j,c,hq,hr,db,pa⟩:=r1.pp.i5 hL (jT h1)
  have ra:=r1.bh pa
  obtain ⟨vA,vP,vB,cP⟩:=ra.nd
  have zs:=cP
  rw [aH,if_neg sk] at zs
  have rE:=ra.hY cP {kind:=12,a:= -1,b:= -1} rfl rfl rfl
  obtain ⟨aA,kA,aP,kP,aB,kB,mH,gI⟩:=rE.done (Nat.le_refl _) hk
  rw [aH,if_pos rfl] at mH
  cases mH
  simp only [go_sem,h1,hq,hr,hz,db,nr,sk,nq,zs,cX]
  refine ag.by gI ?_
  rintro _ C8 - qo
  simp only [go_sem]
  exact qo
 simp only [go_sem,h1]
 refine ag.by (gH r1.pp) ?_
 rintro _ H2 - ⟨rfl,HD⟩
 have r2:=r1.bh HD
 by_cases h2:cW L [103,105,118,101] st=true
 ·rw [A6,if_neg h1,if_pos h2] at he
  cases he
  obtain ⟨d1,d2,d3,d4,bL,oL,cL,a,j,c,hq,hr,db,pa⟩:=r2.pp.i5 hL (jT h2)
  have ra:=r2.bh pa
  simp only [go_sem,h2,hq,hr,hz,db]
  refine ag.by (jS hL ra.pp) ?_
  rintro _ H3 - ⟨rfl,C9⟩
  have r3:=ra.bh C9
  obtain ⟨vA,vP,vB,cP⟩:=r3.nd
  have rE:=r3.hY cP {kind:=17,a:= -1,b:= -1,ie:=(cF L (aC st)).1} rfl rfl rfl
  obtain ⟨aA,kA,aP,kP,aB,kB,mH,gI⟩:=rE.done (Nat.le_refl _) hk
  rw [aH,if_pos rfl] at mH
  cases mH
  simp only [go_sem,cP,cX]
  rw [sU]
  refine ag.by gI ?_
  rintro _ C8 - qo
  simp only [go_sem]
  exact qo
 simp only [go_sem,h2]
 refine ag.by (gH r2.pp) ?_
 rintro _ H3 - ⟨rfl,C9⟩
 have r3:=r2.bh C9
 by_cases h3:cW L [99,97,108,108] st=true
 ·rw [A6,if_neg h1,if_neg h2,if_pos h3] at he
  dsimp only at he
  cases he
  obtain ⟨d1,d2,d3,d4,bL,oL,cL,a,j,c,hq,hr,db,pa⟩:=r3.pp.i5 hL (jT h3)
  have ra:=r3.bh pa
  simp only [go_sem,h3,hq,hr,hz,db]
  refine ag.by (jS hL ra.pp) ?_
  rintro _ H4 - ⟨rfl,EM⟩
  have r4:=ra.bh EM
  obtain ⟨vA,vP,vB,cP⟩:=r4.nd
  have r5:=r4.hY cP {kind:=13,a:= -1,b:= -1,ik:=(cF L (aC st)).1} rfl rfl rfl
  simp only [go_sem,cP,cX]
  rw [sU]
  refine ag.by (Jc hL r5.pp) ?_
  rintro va H6 - ⟨⟨ga,iw,kh⟩,EN⟩
  have r6:=r5.bh EN
  obtain ⟨aa,ca,Ai⟩:=iw.val
  subst Ai
  obtain ⟨Hr,sf,sh,jz⟩:=r6.nd
  obtain ⟨g7,rE⟩:=r6.args jz {kind:=13,a:= -1,b:= -1,ik:=(cF L (aC st)).1,args:=(rA L (cF L (aC st)).2).1} iw (fun b hb=>⟨(kh b hb).2,r5.new (kh b hb).1⟩) rfl rfl
  obtain ⟨aA,kA,aP,kP,aB,kB,mH,gI⟩:=rE.done (Nat.le_refl _) hk
  rw [aH,if_pos rfl] at mH
  cases mH
  simp only [go_sem,jz,cX]
  refine ag.by gI ?_
  rintro _ C8 - qo
  simp only [go_sem]
  exact qo
 simp only [go_sem,h3]
 refine ag.by (gH r3.pp) ?_
 rintro _ H4 - ⟨rfl,EM⟩
 have r4:=r3.bh EM
 by_cases h4:cW L [97,103,97,105,110] st=true
 ·rw [A6,if_neg h1,if_neg h2,if_neg h3,if_pos h4] at he
  cases he
  obtain ⟨d1,d2,d3,d4,bL,oL,cL,a,j,c,hq,hr,db,pa⟩:=r4.pp.i5 hL (jT h4)
  have ra:=r4.bh pa
  obtain ⟨vA,vP,vB,cP⟩:=ra.nd
  have zs:=cP
  rw [aH,if_neg sk] at zs
  have r5:=ra.hY cP {kind:=14,a:= -1,b:= -1} rfl rfl rfl
  simp only [go_sem,h4,hq,hr,hz,db,nr,sk,nq,zs,cX]
  refine ag.by (Jc hL r5.pp) ?_
  rintro va H6 - ⟨⟨ga,iw,kh⟩,EN⟩
  have r6:=r5.bh EN
  obtain ⟨aa,ca,Ai⟩:=iw.val
  subst Ai
  obtain ⟨Hr,sf,sh,jz⟩:=r6.nd
  obtain ⟨g7,rE⟩:=r6.args jz {kind:=14,a:= -1,b:= -1,args:=(rA L (aC st)).1} iw (fun b hb=>⟨(kh b hb).2,r5.new (kh b hb).1⟩) rfl rfl
  obtain ⟨aA,kA,aP,kP,aB,kB,mH,gI⟩:=rE.done (Nat.le_refl _) hk
  rw [aH,if_pos rfl] at mH
  cases mH
  simp only [go_sem,jz,cX]
  refine ag.by gI ?_
  rintro _ C8 - qo
  simp only [go_sem]
  exact qo
 simp only [go_sem,h4]
 refine ag.by (gH r4.pp) ?_
 rintro _ H5 - ⟨rfl,Sw⟩
 have r5:=r4.bh Sw
 by_cases h5:cW L [105,102] st=true
 ·rw [A6,if_neg h1,if_neg h2,if_neg h3,if_neg h4,if_pos h5] at he
  cases fB:bj 0 ((ir L (aC st)).2,ns) with
  | none=>rw [fB] at he;cases he
  | some B=>
   obtain ⟨i1,s1,n1⟩:=B
   rw [fB] at he
   simp only [Option.bind_some] at he
   cases eo:bj 0 (dO L [101,108,115,101] s1,n1) with
   | none=>rw [eo] at he;cases he
   | some B=>
    obtain ⟨i2,s2,n2⟩:=B
    rw [eo] at he
    cases he
    obtain ⟨d1,d2,d3,d4,bL,oL,cL,a,j,c,hq,hr,db,pa⟩:=r5.pp.i5 hL (jT h5)
    have ra:=r5.bh pa
    obtain ⟨vA,vP,vB,cP⟩:=ra.nd
    have zs:=cP
    rw [aH,if_neg sk] at zs
    have r6:=ra.hY cP {kind:=16,a:= -1,b:= -1} rfl rfl rfl
    simp only [go_sem,h5,hq,hr,hz,db,nr,sk,nq,zs,cX]
    refine ag.by (DW hL r6.pp) ?_
    rintro _ H7 - ⟨rfl,p7⟩
    have r7:=r6.bh p7
    obtain ⟨vA7,vP7,vB7,zr⟩:=r7.nd
    generalize ir L (aC st)=x at p7 r7 fB
    have nn:¬H.next=H7.next:=by have:=r7.lq.ln.nl;omega
    simp only [go_sem,zr,cX,nn,eX rz (by decide) (by decide)]
    have r8:=r7.push ⟨[iV x.1.kind,iV x.1.n,ah x.1.name],145,false,false⟩
    have ug:(H7.push ⟨[iV x.1.kind,iV x.1.n,ah x.1.name],145,false,false⟩).get H.next=some ⟨aU {kind:=16,a:= -1,b:= -1} vA7 vP7 vB7,59,false,false⟩:=by rw [bO r7.lq.ln.nl];exact zr
    obtain ⟨g9,r9⟩:=r8.args ug {kind:=16,a:= -1,b:= -1,args:=[x.1]} L1 (fun c hc=>by rw [List.mem_singleton] at hc;subst hc;exact ⟨Nat.lt_succ_self _,r7.new (Nat.le_refl _)⟩) rfl rfl
    refine ag.by (dy r9.nq fB) ?_
    rintro _ du - ⟨rfl,nK⟩
    obtain ⟨tu,uz,cS⟩:=r9.xW nK
    obtain ⟨apL,apM,apN,Mz⟩:=cS.nd
    have dV:=cS.hY Mz {kind:=16,a:=i1,b:= -1,args:=[x.1]} rfl rfl rfl
    simp only [go_sem,Mz,cX]
    refine ag.by (i3 hL dV.pp) ?_
    rintro _ dx - dJ
    have dF:=dV.bh dJ
    simp only [go_sem]
    refine ag.by (dy dF.nq eo) ?_
    rintro _ ux - ⟨rfl,qj⟩
    obtain ⟨X5,X6,la⟩:=dF.xW qj
    obtain ⟨aBp,aBq,aBr,ac0⟩:=la.nd
    have rE:=la.hY ac0 {kind:=16,a:=i1,b:=i2,args:=[x.1]} rfl rfl rfl
    obtain ⟨aA,kA,aP,kP,aB,kB,mH,gI⟩:=rE.done (Nat.le_refl _) (Nat.lt_of_lt_of_le hk rE.le)
    rw [aH,if_pos rfl] at mH
    cases mH
    simp only [go_sem,ac0,cX]
    refine ag.by gI ?_
    rintro _ C8 - qo
    simp only [go_sem]
    exact qo
 rw [A6,if_neg h1,if_neg h2,if_neg h3,if_neg h4,if_neg h5] at he
 cases wU:CC L fuel (dO L [58] (cF L (aC st)).2) with
 | none=>rw [wU] at he;cases he
 | some x=>
  obtain ⟨pp,s1⟩:=x
  rw [wU] at he
  simp only [Option.bind_some] at he
  cases di:IL L bj fuel (wJ L s1) ns [] with
  | none=>rw [di] at he;cases he
  | some B=>
   obtain ⟨s2,n2,bl⟩:=B
   rw [di] at he
   cases he
   obtain ⟨d1,d2,d3,d4,bL,oL,cL,a,j,c,hq,hr,db,pa⟩:=r5.pp.i5 hL iO
   have ra:=r5.bh pa
   simp only [go_sem,h5,hq,hr,hz,db]
   refine ag.by (jS hL ra.pp) ?_
   rintro _ H6 - ⟨rfl,EN⟩
   have r6:=ra.bh EN
   obtain ⟨vA,vP,vB,cP⟩:=r6.nd
   generalize cF L (aC st)=y at EN r6 wU
   have r7:=r6.hY cP {kind:=15,a:= -1,b:= -1,ie:=y.1} rfl rfl rfl
   simp only [go_sem,cP,cX]
   rw [sU]
   refine ag.by (i3 hL r7.pp) ?_
   rintro _ H8 - p8
   have r8:=r7.bh p8
   simp only [go_sem]
   refine ag.by (QL hL r8.pp wU) ?_
   rintro vp H9 - ⟨⟨gp,fR,Bu⟩,p9⟩
   have r9:=r8.bh p9
   obtain ⟨ap,kp,Ag⟩:=fR.val
   subst Ag
   obtain ⟨vA9,vP9,vB9,ad2⟩:=r9.nd
   obtain ⟨uz,cS⟩:=r9.pat ad2 {kind:=15,a:= -1,b:= -1,ie:=y.1,pat:=pp} fR (fun b hb=>⟨(Bu b hb).2,r8.new (Bu b hb).1⟩) rfl rfl
   simp only [go_sem,ad2,cX]
   refine ag.by (UE hL cS.pp) ?_
   rintro _ eA - sj
   have dV:=cS.bh sj
   simp only [go_sem]
   refine ag.by (afG hL dy dV.nq di) ?_
   rintro vb dx - dJ
   obtain ⟨oC,kj,gl,dF,rO,X2⟩:=dV.an0 dJ
   obtain ⟨ab,kb,hvb⟩:=rO.val
   subst hvb
   obtain ⟨aBs,aBt,aBu,ac1⟩:=dF.nd
   obtain ⟨X6,la⟩:=dF.cU ac1 {kind:=15,a:= -1,b:= -1,ie:=y.1,pat:=pp,ak:=bl} rO X2 rfl rfl
   simp only [go_sem,ac1,cX]
   refine ag.by (ru hL la.pp) ?_
   rintro _ oB - Sr
   have rE:=la.bh Sr
   obtain ⟨aA,kA,aP,kP,aB,kB,mH,gI⟩:=rE.done (Nat.le_refl _) (Nat.lt_of_lt_of_le hk rE.le)
   simp only [go_sem,mH]
   refine ag.by gI ?_
   rintro _ C8 - qo
   simp only [go_sem]
   exact qo
end
section
variable {zb:Bool} {L:List bJ} {F:List Nat} {c1 c2 c3:Value} {H H1 H2:ad} {q rb nb:Nat} {st bu bH:aV} {ns bZ cB:List aJ} {m m1 m2 g g1 g2 gn hO tp:List Nat} {n n1 n2:aJ}
theorem J9.ae (h:J9 H rb nb n) (hf:Fr [rb] H H1) (hn:nb≠rb) (hl:nb < H.next):J9 H1 rb nb n:=by
 rcases h with ⟨vP,vB,h1,h2⟩ | ⟨b,a,vP,vB,h1,h2,h3,h4,h5,h6⟩
 ·exact .inl ⟨vP,vB,(hf.get nb hl (by simpa using hn)).trans h1,h2⟩
 ·exact .inr ⟨b,a,vP,vB,(hf.get nb hl (by simpa using hn)).trans h1,h2,(hf.get b h4 (by simpa using h6)).trans h3,Nat.lt_of_lt_of_le h4 hf.nx,h5,h6⟩
theorem J9.app (h:J9 H rb nb n) (y:oU):∃a k vP vB cs,H.get nb=some ⟨aU n (.slice a n.args.length k) vP vB,59,false,false⟩/\
  iZ Tryz.prog 57 (.slice a n.args.length k) (.slice (some ⟨H.next,0,none⟩) 1 1) (H.push ⟨[iV y.kind,iV y.n,ah y.name],145,false,false⟩)=.ok (.slice (some ⟨H.next+1,0,none⟩) (n.args.length+1) (n.args.length+1)) ((H.push ⟨[iV y.kind,iV y.n,ah y.name],145,false,false⟩).push ⟨cs,145,true,false⟩)/\
  Sl jy ((H.push ⟨[iV y.kind,iV y.n,ah y.name],145,false,false⟩).push ⟨cs,145,true,false⟩) (.slice (some ⟨H.next+1,0,none⟩) (n.args.length+1) (n.args.length+1)) (n.args++[y]) [H.next+1]:=by
 have gy:(H.push ⟨[iV y.kind,iV y.n,ah y.name],145,false,false⟩).get H.next=some ⟨[iV y.kind,iV y.n,ah y.name],145,false,false⟩:=by rw [aZ,if_pos rfl]
 rcases h with ⟨vP,vB,h1,h2⟩ | ⟨b,a,vP,vB,h1,h2,h3,h4,h5,h6⟩
 ·refine ⟨none,0,vP,vB,[iV y.kind,iV y.n,ah y.name],by rw [h2];exact h1,?_,?_⟩
  ·rw [h2]
   exact LY (n:=1) rz (FI (c:=1) gy rfl) (by omega) (by decide)
  ·rw [h2]
   exact .inr (.inr ⟨H.next+1,0,1,_,[],rfl,by simp,Nat.le_refl _,rfl,by rw [aZ];exact if_pos rfl,⟨_,[],[],[],rfl,rfl,⟨rfl,rfl⟩,rfl⟩⟩)
 ·have g3:(H.push ⟨[iV y.kind,iV y.n,ah y.name],145,false,false⟩).get b=some ⟨[iV a.kind,iV a.n,ah a.name],145,false,false⟩:=by rw [bO h4];exact h3
  refine ⟨some ⟨b,0,none⟩,1,vP,vB,[iV a.kind,iV a.n,ah a.name,iV y.kind,iV y.n,ah y.name],by rw [h2];exact h1,?_,?_⟩
  ·rw [h2]
   exact FF (n:=1) (o:=0) (sl:=1) (sc:=1) rz (FI (c:=1) gy rfl) g3 (by rfl) (Nat.le_refl 1) (by omega) (by omega)
  ·rw [h2]
   exact .inr (.inr ⟨H.next+1,0,2,_,[],rfl,by simp,Nat.le_refl _,rfl,by rw [aZ];exact if_pos rfl,⟨_,_,[],[],rfl,rfl,⟨rfl,rfl⟩,_,[],[],[],rfl,rfl,⟨rfl,rfl⟩,rfl⟩⟩)
abbrev Oi:aJ:={a:= -1,b:= -1}
def y9 (L:List bJ) (bj:qZ) (st:aV) (ns:List aJ) (k:Nat):Option (aV × List aJ):=
 if cW L [108,101,116] st=true then
  (M4 L bj (dO L [61] (cF L (aC st)).2) ns {a:= -1,b:= -1,oe:=(cF L (aC st)).1}).map fun x=>(dO L [59] x.1,qI x.2.1 k x.2.2)
 else if cW L [115,101,116] st=true then
  (let y:=cF L (aC st);let x:=AN L y.2 {kind:=6,a:= -1,b:= -1,ie:=y.1};let a:=ir L (dO L [61] x.1);some (dO L [59] a.2,qI ns k {x.2 with args:=x.2.args++[a.1]}))
 else if cW L [115,112,97,119,110] st=true then
  (let y:=cF L (aC st);let z:=rA L y.2;some (dO L [59] z.2,qI ns k {kind:=10,a:= -1,b:= -1,ik:=y.1,args:=z.1}))
 else if cW L [108,111,111,112] st=true then U5 L bj st ns k
 else (let y:=cF L st;let f:=cF L (dO L [33] y.2);let z:=rA L f.2;some (dO L [59] z.2,qI ns k {kind:=9,a:= -1,b:= -1,ie:=y.1,ik:=f.1,args:=z.1}))
theorem Qt (hL:LG L) {bj:qZ} (dy:CF L F c1 c2 c3 q rb bj) (h:NQ L F c1 c2 c3 H q rb st ns m g) {k:Nat} (hk:k < ns.length) {R:aV × List aJ} (he:y9 L bj st ns k=some R):
  aj Tryz.prog 155 #[pV q,iV (k:Nat)] H (fun w H'=>yX L F c1 c2 c3 H q rb ns m g R.1 R.2 H'):=by
 refine aj.told ?_
 refine ahK (l:=[pV q,iV (k:Nat)]) (m:=2) [(15,[(1,3)])] mixed Tryz.func155 akq (Nat.le_refl _) (by decide) rfl rfl fun hf=>?_
 have hz:=h.fz
 have fK:=hL.len
 have cX:H.fz H.next=false:=hf.fresh (Nat.le_refl _)
 have nr:¬rb=H.next:=by have:=h.pp.rl;omega
 have sk:¬H.next=rb:=fun e=>nr e.symm
 have nq:¬q=H.next:=by have:=h.pp.ql;omega
 have r0:QR false L F c1 c2 c3 H q rb ns m g H.next [] ((H.push ⟨aU Oi (.slice none 0 0) (.slice none 0 0) (.slice none 0 0),59,false,false⟩).af H.fz) st ns m g Oi []:=by
  have r:=QR.fresh (NR.start h) (nb:=H.next) rfl Oi rfl rfl rfl
  exact ⟨r.fr.af _,r.lq.fr ((Fr.refl [] _).af _) r.pp.toPP0.af (by simp) (by simp) (by simp) (by simp) (by simp),r.le,r.sm,r.sg,r.sn,h.fz,h.fq,cX,h.fm,fun b hb=>h.fn b (Nat.le_trans (Nat.le_succ _) hb)⟩
 simp only [go_sem,Z6,cX]
 intro _
 refine ag.by (gH r0.pp) ?_
 rintro _ H1 - ⟨rfl,Sv⟩
 have r1:=r0.bh Sv
 by_cases h1:cW L [108,101,116] st=true
 ·rw [y9,if_pos h1] at he
  cases Re:M4 L bj (dO L [61] (cF L (aC st)).2) ns {a:= -1,b:= -1,oe:=(cF L (aC st)).1} with
  | none=>rw [Re] at he;cases he
  | some B=>
   obtain ⟨s9,n9,d9⟩:=B
   rw [Re] at he
   cases he
   obtain ⟨d1,d2,d3,d4,bL,oL,cL,a,j,c,hq,hr,db,pa⟩:=r1.pp.i5 hL (jT h1)
   have ra:=r1.bh pa
   simp only [go_sem,h1,hq,hr,hz,db]
   refine ag.by (jS hL ra.pp) ?_
   rintro _ H2 - ⟨rfl,HD⟩
   have r2:=ra.bh HD
   obtain ⟨vA,vP,vB,cP⟩:=r2.nd
   generalize cF L (aC st)=y at HD r2 Re
   have r3:=r2.hY cP {a:= -1,b:= -1,oe:=y.1} rfl rfl rfl
   simp only [go_sem,cP,cX]
   refine ag.by (i3 hL r3.pp) ?_
   rintro _ H4 - p4
   have r4:=r3.bh p4
   simp only [go_sem]
   refine ag.by (anX hL dy r4.lq r4.fz r4.fq r4.fb r4.fm rfl Re) ?_
   rintro _ H5 - p5
   obtain ⟨m5,g5,gn5,r5⟩:=r4.DY p5
   simp only [go_sem]
   refine ag.by (i3 hL r5.pp) ?_
   rintro _ X7 - HE
   have rE:=r5.bh HE
   obtain ⟨aA,kA,aP,kP,aB,kB,mH,gI⟩:=rE.done (Nat.le_refl _) (Nat.lt_of_lt_of_le hk rE.le)
   simp only [go_sem,mH]
   refine ag.by gI ?_
   rintro _ C8 - qo
   simp only [go_sem]
   exact qo
 simp only [go_sem,h1]
 refine ag.by (gH r1.pp) ?_
 rintro _ H2 - ⟨rfl,HD⟩
 have r2:=r1.bh HD
 by_cases h2:cW L [115,101,116] st=true
 ·rw [y9,if_neg h1,if_pos h2] at he
  dsimp only at he
  cases he
  obtain ⟨d1,d2,d3,d4,bL,oL,cL,a,j,c,hq,hr,db,pa⟩:=r2.pp.i5 hL (jT h2)
  have ra:=r2.bh pa
  simp only [go_sem,h2,hq,hr,hz,db]
  have an1:((H.push ⟨aU Oi (.slice none 0 0) (.slice none 0 0) (.slice none 0 0),59,false,false⟩).af H.fz).get H.next=some ⟨aU Oi (.slice none 0 0) (.slice none 0 0) (.slice none 0 0),59,false,false⟩:=by rw [bG,aZ,if_pos rfl]
  have M9:H.next∉[rb]:=by simpa using sk
  have an2:=(Sv.1.get H.next r0.lq.ln.nl M9).trans an1
  have an3:=(HD.1.get H.next r1.lq.ln.nl M9).trans an2
  have an4:=(pa.1.get H.next r2.lq.ln.nl M9).trans an3
  refine ag.by (jS hL ra.pp) ?_
  rintro _ H3 - ⟨rfl,C9⟩
  have r3:=ra.bh C9
  have cP:=(C9.1.get H.next ra.lq.ln.nl M9).trans an4
  generalize cF L (aC st)=y at C9 r3
  have r4:=r3.hY cP {kind:=6,a:= -1,b:= -1,ie:=y.1} rfl rfl rfl
  simp only [go_sem,cP,cX]
  rw [sU]
  refine ag.by (aaW hL r4.ln) ?_
  rintro _ H5 - ⟨p5,hx5⟩
  have hx:=hx5 _ _ (by rw [aH,if_pos rfl]) rfl
  clear hx5
  obtain ⟨g5,r5⟩:=r4.Mv p5
  generalize AN L y.2 {kind:=6,a:= -1,b:= -1,ie:=y.1}=x at p5 r5 hx
  simp only [go_sem]
  refine ag.by (i3 hL r5.pp) ?_
  rintro _ H6 - p6
  have r6:=r5.bh p6
  have hx6:=hx.ae p6.1 sk r5.lq.ln.nl
  obtain ⟨Hr,sf,sh,jz⟩:=r6.nd
  simp only [go_sem,jz]
  refine ag.by (DW hL r6.pp) ?_
  rintro _ H7 - ⟨rfl,p7⟩
  have r7:=r6.bh p7
  have hx7:=hx6.ae p7.1 sk r6.lq.ln.nl
  generalize ir L (dO L [61] x.1)=z at p7 r7
  obtain ⟨aa,ka,vP7,vB7,cs,zr,apO,ea⟩:=hx7.app z.1
  have e67:=(p7.1.get H.next r6.lq.ln.nl M9).symm.trans zr
  rw [jz] at e67
  cases e67
  have nn:¬H.next=H7.next:=by have:=r7.lq.ln.nl;omega
  have nn':¬H.next=H7.next+1:=by have:=r7.lq.ln.nl;omega
  have r8:=(r7.push ⟨[iV z.1.kind,iV z.1.n,ah z.1.name],145,false,false⟩).push ⟨cs,145,true,false⟩
  have ug:((H7.push ⟨[iV z.1.kind,iV z.1.n,ah z.1.name],145,false,false⟩).push ⟨cs,145,true,false⟩).get H.next=some ⟨aU x.2 (.slice aa x.2.args.length ka) sf sh,59,false,false⟩:=by
   have:=r7.lq.ln.nl
   rw [bO (by rw [bI];omega),bO this];exact zr
  obtain ⟨g9,r9⟩:=r8.args ug {x.2 with args:=x.2.args++[z.1]} ea (fun c hc=>by
   rw [List.mem_singleton] at hc
   subst hc
   exact ⟨by rw [bI,bI];omega,r7.new (Nat.le_succ _)⟩) rfl rfl
  simp only [go_sem,jz,zr,cX,nn,eX rz (by decide) (by decide)]
  rw [apO,AI]
  simp only [go_sem,zr,cX,nn,nn']
  rw [show x.2.args.length+1=(x.2.args++[z.1]).length by rw [List.length_append];rfl] at r9 ⊢
  refine ag.by (i3 hL r9.pp) ?_
  rintro _ X7 - HE
  have rE:=r9.bh HE
  obtain ⟨aA,kA,aP,kP,aB,kB,mH,gI⟩:=rE.done (Nat.le_refl _) (Nat.lt_of_lt_of_le hk rE.le)
  simp only [go_sem,mH]
  refine ag.by gI ?_
  rintro _ C8 - qo
  simp only [go_sem]
  exact qo
 simp only [go_sem,h2]
 refine ag.by (gH r2.pp) ?_
 rintro _ H3 - ⟨rfl,C9⟩
 have r3:=r2.bh C9
 by_cases h3:cW L [115,112,97,119,110] st=true
 ·rw [y9,if_neg h1,if_neg h2,if_pos h3] at he
  dsimp only at he
  cases he
  obtain ⟨d1,d2,d3,d4,bL,oL,cL,a,j,c,hq,hr,db,pa⟩:=r3.pp.i5 hL (jT h3)
  have ra:=r3.bh pa
  simp only [go_sem,h3,hq,hr,hz,db]
  refine ag.by (jS hL ra.pp) ?_
  rintro _ H4 - ⟨rfl,EM⟩
  have r4:=ra.bh EM
  obtain ⟨vA,vP,vB,cP⟩:=r4.nd
  generalize cF L (aC st)=y at EM r4
  have r5:=r4.hY cP {kind:=10,a:= -1,b:= -1,ik:=y.1} rfl rfl rfl
  simp only [go_sem,cP,cX]
  rw [sU]
  refine ag.by (Jc hL r5.pp) ?_
  rintro va H6 - ⟨⟨ga,iw,kh⟩,EN⟩
  have r6:=r5.bh EN
  obtain ⟨aa,ca,Ai⟩:=iw.val
  subst Ai
  obtain ⟨Hr,sf,sh,jz⟩:=r6.nd
  obtain ⟨g7,r7⟩:=r6.args jz {kind:=10,a:= -1,b:= -1,ik:=y.1,args:=(rA L y.2).1} iw (fun b hb=>⟨(kh b hb).2,r5.new (kh b hb).1⟩) rfl rfl
  simp only [go_sem,jz,cX]
  refine ag.by (i3 hL r7.pp) ?_
  rintro _ X7 - HE
  have rE:=r7.bh HE
  obtain ⟨aA,kA,aP,kP,aB,kB,mH,gI⟩:=rE.done (Nat.le_refl _) (Nat.lt_of_lt_of_le hk rE.le)
  simp only [go_sem,mH]
  refine ag.by gI ?_
  rintro _ C8 - qo
  simp only [go_sem]
  exact qo
 simp only [go_sem,h3]
 refine ag.by (gH r3.pp) ?_
 rintro _ H4 - ⟨rfl,EM⟩
 have r4:=r3.bh EM
 by_cases h4:cW L [108,111,111,112] st=true
 ·rw [y9,if_neg h1,if_neg h2,if_neg h3,if_pos h4] at he
  simp only [go_sem,h4]
  refine ag.by (alf hL dy r4.nq hk (jT h4) he) ?_
  rintro _ H5 - p5
  obtain ⟨m5,g5,r5⟩:=r4.xW p5
  simp only [go_sem]
  exact ⟨(r5.fr.sub fun c hc=>by
   simp only [List.mem_cons] at hc ⊢
   rcases hc with e | e | e | e
   ·exact .inl (.inl e)
   ·exact .inl (.inr (.inl e))
   ·exact .inr (Nat.le_of_eq e.symm)
   ·exact .inl (.inr (.inr e))).af _,fun _=>rfl,r5.le,m5,g5,r5.lq.nq.af,r5.sm,r5.sg⟩
 rw [y9,if_neg h1,if_neg h2,if_neg h3,if_neg h4] at he
 dsimp only at he
 cases he
 simp only [go_sem,h4]
 refine ag.by (jS hL r4.pp) ?_
 rintro _ H5 - ⟨rfl,Sw⟩
 have r5:=r4.bh Sw
 obtain ⟨vA,vP,vB,cP⟩:=r5.nd
 generalize cF L st=y at Sw r5
 have r6:=r5.hY cP {kind:=9,a:= -1,b:= -1,ie:=y.1} rfl rfl rfl
 simp only [go_sem,cP,cX]
 rw [sU]
 refine ag.by (i3 hL r6.pp) ?_
 rintro _ H7 - p7
 have r7:=r6.bh p7
 simp only [go_sem]
 refine ag.by (jS hL r7.pp) ?_
 rintro _ H8 - ⟨rfl,pH8⟩
 have r8:=r7.bh pH8
 obtain ⟨vA8,vP8,vB8,ug⟩:=r8.nd
 generalize cF L (dO L [33] y.2)=f at pH8 r8
 have r9:=r8.hY ug {kind:=9,a:= -1,b:= -1,ie:=y.1,ik:=f.1} rfl rfl rfl
 simp only [go_sem,ug,cX]
 refine ag.by (Jc hL r9.pp) ?_
 rintro va du - ⟨⟨ga,iw,kh⟩,apP⟩
 have cS:=r9.bh apP
 obtain ⟨aa,ca,Ai⟩:=iw.val
 subst Ai
 obtain ⟨apL,apM,apN,Mz⟩:=cS.nd
 obtain ⟨EL,dV⟩:=cS.args Mz {kind:=9,a:= -1,b:= -1,ie:=y.1,ik:=f.1,args:=(rA L f.2).1} iw (fun b hb=>⟨(kh b hb).2,r9.new (kh b hb).1⟩) rfl rfl
 simp only [go_sem,Mz,cX]
 refine ag.by (i3 hL dV.pp) ?_
 rintro _ X7 - HE
 have rE:=dV.bh HE
 obtain ⟨aA,kA,aP,kP,aB,kB,mH,gI⟩:=rE.done (Nat.le_refl _) (Nat.lt_of_lt_of_le hk rE.le)
 simp only [go_sem,mH]
 refine ag.by gI ?_
 rintro _ C8 - qo
 simp only [go_sem]
 exact qo
end
section
variable {zb:Bool} {L:List bJ} {F:List Nat} {c1 c2 c3:Value} {H H1 H2:ad} {q rb nb:Nat} {st bu bH:aV} {ns bZ cB:List aJ} {m m1 m2 g g1 g2 gn hO tp:List Nat} {n n1 n2:aJ}
theorem I6 (ho:dj (kv L st ns).2.1=true):(kv L st ns).1=((ns.length:Nat):Int)/\(kv L st ns).2.1=st/\(kv L st ns).2.2.length=ns.length+1:=by
 have key:dj (tX st ns)=true->tX st ns=st:=fun h=>by
  unfold tX at h ⊢
  split at h
  ·rw [Cf (by decide)] at h;cases h
  ·rename_i hn;rw [if_neg hn]
 unfold kv at ho ⊢
 split at ho
 ·rename_i h
  rw [if_pos h]
  exact ⟨rfl,key h,by simp⟩
 ·rename_i h;exact absurd ho h
theorem ae1 (h:AF L st=true):(tk L st).kind≠4:=by
 simp only [AF,Bool.or_eq_true] at h
 rcases h with (((h | h) | h) | h) | h <;> exact jT h
def lF (ns:List aJ) (l k:Nat):List aJ:=ns.set l {ns.getD l {} with next:=((k:Nat):Int)}
theorem NR.x (h0:NQ L F c1 c2 c3 H q rb st ns m g) (hf:bY H) (h:NR L F c1 c2 c3 H q rb ns m g H1 bu bZ m1 g1):∀b∈m1,H.fz b=false:=fun b hb=>(h.sm b hb).elim (h0.fm b) (fun e=>hf.fresh e)
theorem NR.link (h:NR L F c1 c2 c3 H q rb ns m g H1 bu bZ m1 g1) {l k:Nat} (hl:l < bZ.length):∃b cs,H1.get q=some ⟨[pV rb,c1,c2,c3,.slice (some ⟨b,0,none⟩) bZ.length bZ.length],123,false,false⟩/\b∈m1/\H1.get b=some ⟨cs,59,true,false⟩/\l * 20+20<=cs.length/\
  NR L F c1 c2 c3 H q rb ns m g (H1.ai b ⟨cs.set (l * 20+10) (iV (k:Nat)),59,true,false⟩) bu (lF bZ l k) m1 g1:=by
 obtain ⟨vN,hq,cw⟩:=h.cells
 obtain ⟨b,cs,f1,f2,f3,rfl,rfl,hb,gJ,rfl,bX,hE,jk⟩:=cw.put hl
 obtain ⟨wA,wP,wB,e1,e2,e3,bg,rfl,s1,s2,s3⟩:=hE
 have gX:ku.sz=20:=rfl
 rw [gX] at bX bg
 obtain ⟨fB,eo,fU,qY,fj⟩:=h.nq.hm b (by simp)
 have bf:l * 20+10 < cs.length:=by omega
 have fR:cs.set (l * 20+10) (iV (k:Nat))=cY cs (l * ku.sz) (aU {bZ[l] with next:=((k:Nat):Int)} wA wP wB):=by
  have:=AE (vs:=[iV (k:Nat)]) bg (k:=10) (by decide:10+1<=20) bX
  rw [fL bf] at this
  rw [this];rfl
 have gu:(bZ.getD l {})=bZ[l]:=by rw [List.getD_eq_getElem?_getD,List.getElem?_eq_getElem hl];rfl
 have bk:Fr [b] H1 (H1.ai b ⟨cs.set (l * 20+10) (iV (k:Nat)),59,true,false⟩):=(Fr.refl _ _).ai (.inl (by simp)) _
 have kg:∀c,c≠b->(H1.ai b ⟨cs.set (l * 20+10) (iV (k:Nat)),59,true,false⟩).get c=H1.get c:=fun c hc=>by rw [aH,if_neg hc]
 have so:∀c∈f1++(e1++(e2++e3)++f3),c≠b:=fun c hc e=>fj (e▸hc)
 have cA:=jk (H1.ai b ⟨cs.set (l * 20+10) (iV (k:Nat)),59,true,false⟩) (aU {bZ[l] with next:=((k:Nat):Int)} wA wP wB) {bZ[l] with next:=((k:Nat):Int)} (e1++(e2++e3))
  (fun z hz=>kg z (so z (by rcases hz with e | e <;> simp [e]))) (by rw [aH,if_pos rfl,fR]) ⟨wA,wP,wB,e1,e2,e3,rfl,rfl,s1.ae fun c hc=>kg c (so c (by simp [hc])),s2.ae fun c hc=>kg c (so c (by simp [hc])),s3.ae fun c hc=>kg c (so c (by simp [hc]))⟩
  (fun e=>fj (List.mem_append_right _ (List.mem_append_left _ e)))
 refine ⟨b,cs,hq,by simp,hb,bX,⟨h.fr.trans bk fun c hc=>?_,{pp:=h.nq.pp.put _ fU eo qY,row:=⟨_,(kg q (Ne.symm fU)).trans hq,?_⟩,hm:=h.nq.hm,hg:=h.nq.hg,hn:=by rw [lF,List.length_set];exact h.nq.hn,fz:=h.nq.fz,fq:=h.nq.fq,fm:=h.nq.fm,fn:=h.nq.fn},by rw [lF,List.length_set];exact h.le,h.sm,h.sg⟩⟩
 ·rw [List.mem_singleton] at hc
  subst hc
  exact (h.sm c (by simp)).imp (fun e=>by simp [e]) id
 ·rw [lF,gu];exact cA
def fV:Option (Nat × Nat)->Int
 | none=> -1
 | some x=>((x.1:Nat):Int)
def lV:Option (Nat × Nat)->Int
 | none=> -1
 | some x=>((x.2:Nat):Int)
def an5 (fl:Option (Nat × Nat)) (k:Nat):Option (Nat × Nat):=match fl with
 | none=>some (k,k)
 | some x=>some (x.1,k)
def U7 (fl:Option (Nat × Nat)) (ns:List aJ) (k:Nat):List aJ:=match fl with
 | none=>ns
 | some x=>lF ns x.2 k
def ve (L:List bJ) (kind:Int) (st:aV):Bool:=decide (kind=2)&&cW L [103,105,118,101] st||decide (kind=0)&&AF L st
def I7 (L:List bJ) (bj:qZ) (fuel:Nat) (kind:Int):Nat->Bool->Option (Nat × Nat)->aV->List aJ->Option (Int × aV × List aJ)
 | 0,_,_,_,_=>none
 | j+1,Gh,fl,st,ns=>
  if dj st=true/\Gh=false then
   (if kind=1/\el L [125] st=true then some (fV fl,st,ns)
   else if ve L kind st=false/\tQ L st=false then some (fV fl,fD 2 st,ns)
   else if dj (kv L st ns).2.1=true then
    (if ve L kind st=true then A6 L bj fuel st (kv L st ns).2.2 ns.length else y9 L bj st (kv L st ns).2.2 ns.length).bind fun x=>
     I7 L bj fuel kind j (ve L kind st) (an5 fl ns.length) x.1 (U7 fl x.2 ns.length)
   else some (fV fl,(kv L st ns).2.1,(kv L st ns).2.2))
  else some (fV fl,st,ns)
def Jh (L:List bJ):Nat->qZ
 | 0=>fun _ _=>none
 | k+1=>fun kind s=>(I7 L (Jh L k) k kind 402 false none (wJ L s.1) s.2).map fun x=>(x.1,I4 L x.2.1,x.2.2)
theorem age (hL:LG L) {bj:qZ} (dy:CF L F c1 c2 c3 q rb bj) {fuel:Nat} (h:NQ L F c1 c2 c3 H q rb st ns m g) {kind:Int} {R:Int × aV × List aJ} (he:I7 L bj fuel kind 402 false none (wJ L st) ns=some R):
  aj Tryz.prog 126 #[pV q,iV kind] H (fun w H'=>w=iV R.1/\yX L F c1 c2 c3 H q rb ns m g (I4 L R.2.1) R.2.2 H'):=by
 refine aj.told ?_
 refine ajB (Nat.le_refl _) fun hf=>?_
 simp only [Tryz.f126,Option.getD_some]
 have r0:=NR.start h
 have fK:=hL.len
 simp only [go_sem]
 refine ag.by (UE hL h.cq) ?_
 rintro _ H1 - p1
 have r1:=r0.bh p1
 generalize wJ L st=s1 at p1 r1 he
 simp only [go_sem]
 refine qA 18889465931478580853216 (fun n V H2=>∃Gh fl bH cB m2 g2,V 5=iV (fV fl)/\V 6=iV (lV fl)/\V 7=.bool Gh/\NR L F c1 c2 c3 H q rb ns m g H2 bH cB m2 g2/\(∀x,fl=some x->x.2 < cB.length)/\I7 L bj fuel kind n Gh fl bH cB=some R) (n:=402)
  ⟨false,none,s1,ns,m,g,by simp only [go_sem] <;> rfl,by simp only [go_sem] <;> rfl,by simp only [go_sem] <;> rfl,r1,by simp,he⟩ ?_ (by rfl)
 rintro n V H2 ⟨Gh,fl,bH,cB,m2,g2,e5,e6,e7,r2,dC,bw⟩
 cases n with
 | zero=>cases bw
 | succ n=>
  rw [I7] at bw
  have fin:∀{H7:ad} {Hv:aV} {me:List aJ} {m7 g7:List Nat} {x:Value},NR L F c1 c2 c3 H q rb ns m g H7 Hv me m7 g7->True:=fun _=>trivial
  clear fin
  simp only [go_sem,e7]
  refine ag.by (fA r2.nq.cq) ?_
  rintro _ _ - ⟨rfl,rfl⟩
  by_cases hb:dj bH=true
  ·cases Gh with
   | true=>
    rw [if_neg (fun e=>by cases e.2)] at bw
    cases bw
    simp only [go_sem,hb,e7]
    refine ag.by (ru hL r2.nq.cq) ?_
    rintro _ yD - mf
    have ix:=r2.bh mf
    simp only [go_sem,e5]
    first | exact ⟨rfl,ix.last⟩ | exact ix.last
   | false=>
    rw [if_pos ⟨hb,rfl⟩] at bw
    simp only [go_sem,hb,e7]
    obtain ⟨vN,hq,cw⟩:=r2.cells
    by_cases k1:kind=1
    ·subst k1
     simp only [go_sem,hq]
     refine ag.by (oM r2.nq.cq) ?_
     rintro _ _ - ⟨rfl,rfl⟩
     by_cases hs:el L [125] bH=true
     ·rw [if_pos ⟨rfl,hs⟩] at bw
      cases bw
      simp only [go_sem,hs]
      refine ag.by (ru hL r2.nq.cq) ?_
      rintro _ yD - mf
      have ix:=r2.bh mf
      simp only [go_sem,e5]
      first | exact ⟨rfl,ix.last⟩ | exact ix.last
     ·rw [if_neg (fun e=>hs e.2)] at bw
      have sq:ve L 1 bH=false:=rfl
      simp only [go_sem,hs]
      refine ag.by (Pv hL r2.nq.cq) ?_
      rintro _ H8 - ⟨rfl,p8⟩
      have r8:=r2.bh p8
      by_cases iw:tQ L bH=true
      ·rw [if_neg (fun e=>by rw [iw] at e;cases e.2)] at bw
       simp only [go_sem,iw]
       refine ag.by (Jf hL r8.nq) ?_
       rintro _ du - ⟨rfl,nK⟩
       obtain ⟨tu,uz,cS,_,_⟩:=r8.call nK
       simp only [go_sem]
       refine ag.by (fA cS.nq.cq) ?_
       rintro _ _ - ⟨rfl,rfl⟩
       by_cases ho:dj (kv L bH cB).2.1=true
       ·rw [if_pos ho,sq] at bw
        obtain ⟨o1,o2,o3⟩:=I6 ho
        rw [o1]
        simp only [go_sem,ho]
        have dV:=cS
        rw [o2] at dV
        rw [if_neg Bool.false_ne_true] at bw
        cases eF:y9 L bj bH (kv L bH cB).2.2 cB.length with
        | none=>rw [eF] at bw;cases bw
        | some B=>
         obtain ⟨su,eC⟩:=B
         rw [eF] at bw
         simp only [Option.bind_some] at bw
         refine ag.by (Qt hL dy dV.nq (by rw [o3];omega) eF) ?_
         rintro _ dx - dJ
         dsimp only at dJ
         obtain ⟨oC,kj,dF,_,_⟩:=dV.call dJ
         have MA:cB.length+1<=eC.length:=by have:=dJ.2.2.1;rw [o3] at this;exact this
         cases fl with
         | none=>
          have de:(-1:Int) < 0:=by decide
          simp only [go_sem,e5,fV,de]
          exact ⟨n,by omega,false,some (cB.length,cB.length),su,eC,oC,kj,rfl,rfl,rfl,dF,fun x hx=>by cases hx;show cB.length < eC.length;omega,bw⟩
         | some x=>
          have de:¬(((x.1:Nat):Int) < 0):=by omega
          have l9:=dC x rfl
          obtain ⟨b,cs,zw,jr,zx,za,la⟩:=dF.link (l:=x.2) (k:=cB.length) (by omega)
          have gC:=NR.x h hf dF b jr
          have bf:x.2 < eC.length:=by omega
          have dE:x.2 * 20+10 < cs.length:=by omega
          have hV:x.2 * 20+10+1<=cs.length:=by omega
          simp only [go_sem,e5,e6,fV,lV,de,zw,zx,gC,bf,dE,hV,za,fL dE]
          exact ⟨n,by omega,false,some (x.1,cB.length),su,lF eC x.2 cB.length,oC,kj,rfl,rfl,rfl,la,fun y hy=>by cases hy;show cB.length < (lF eC x.2 cB.length).length;rw [lF,List.length_set];omega,bw⟩
       ·rw [if_neg ho] at bw
        cases bw
        simp only [go_sem,ho]
        refine ag.by (ru hL cS.nq.cq) ?_
        rintro _ yD - mf
        have ix:=cS.bh mf
        simp only [go_sem,e5]
        first | exact ⟨rfl,ix.last⟩ | exact ix.last
      ·have Gw:tQ L bH=false:=by simpa using iw
       rw [if_pos ⟨sq,Gw⟩] at bw
       cases bw
       simp only [go_sem,iw]
       refine ag.by (lU r8.nq.cq) ?_
       rintro _ H9 - p9
       have r9:=r8.bh p9
       simp only [go_sem]
       refine ag.by (ru hL r9.nq.cq) ?_
       rintro _ yD - mf
       have ix:=r9.bh mf
       simp only [go_sem,e5]
       first | exact ⟨rfl,ix.last⟩ | exact ix.last
    ·rw [if_neg (fun e=>k1 e.1)] at bw
     by_cases k2:kind=2
     ·subst k2
      simp only [go_sem]
      refine ag.by (gH r2.nq.cq) ?_
      rintro _ H3 - ⟨rfl,p3⟩
      have r3:=r2.bh p3
      by_cases hg:cW L [103,105,118,101] bH=true
      ·have sq:ve L 2 bH=true:=by simp [ve,hg]
       simp only [go_sem,hg]
       rw [if_neg (fun e=>by rw [sq] at e;cases e.1)] at bw
       refine ag.by (Jf hL r3.nq) ?_
       rintro _ du - ⟨rfl,nK⟩
       obtain ⟨tu,uz,cS,_,_⟩:=r3.call nK
       simp only [go_sem]
       refine ag.by (fA cS.nq.cq) ?_
       rintro _ _ - ⟨rfl,rfl⟩
       by_cases ho:dj (kv L bH cB).2.1=true
       ·rw [if_pos ho,sq] at bw
        obtain ⟨o1,o2,o3⟩:=I6 ho
        rw [o1]
        simp only [go_sem,ho]
        have dV:=cS
        rw [o2] at dV
        rw [if_pos rfl] at bw
        cases eF:A6 L bj fuel bH (kv L bH cB).2.2 cB.length with
        | none=>rw [eF] at bw;cases bw
        | some B=>
         obtain ⟨su,eC⟩:=B
         rw [eF] at bw
         simp only [Option.bind_some] at bw
         refine ag.by (ab9 hL dy dV.nq (by rw [o3];omega) (jT hg) eF) ?_
         rintro _ dx - dJ
         dsimp only at dJ
         obtain ⟨oC,kj,dF,_,_⟩:=dV.call dJ
         have MA:cB.length+1<=eC.length:=by have:=dJ.2.2.1;rw [o3] at this;exact this
         cases fl with
         | none=>
          have de:(-1:Int) < 0:=by decide
          simp only [go_sem,e5,fV,de]
          exact ⟨n,by omega,true,some (cB.length,cB.length),su,eC,oC,kj,rfl,rfl,rfl,dF,fun x hx=>by cases hx;show cB.length < eC.length;omega,bw⟩
         | some x=>
          have de:¬(((x.1:Nat):Int) < 0):=by omega
          have l9:=dC x rfl
          obtain ⟨b,cs,zw,jr,zx,za,la⟩:=dF.link (l:=x.2) (k:=cB.length) (by omega)
          have gC:=NR.x h hf dF b jr
          have bf:x.2 < eC.length:=by omega
          have dE:x.2 * 20+10 < cs.length:=by omega
          have hV:x.2 * 20+10+1<=cs.length:=by omega
          simp only [go_sem,e5,e6,fV,lV,de,zw,zx,gC,bf,dE,hV,za,fL dE]
          exact ⟨n,by omega,true,some (x.1,cB.length),su,lF eC x.2 cB.length,oC,kj,rfl,rfl,rfl,la,fun y hy=>by cases hy;show cB.length < (lF eC x.2 cB.length).length;rw [lF,List.length_set];omega,bw⟩
       ·rw [if_neg ho] at bw
        cases bw
        simp only [go_sem,ho]
        refine ag.by (ru hL cS.nq.cq) ?_
        rintro _ yD - mf
        have ix:=cS.bh mf
        simp only [go_sem,e5]
        first | exact ⟨rfl,ix.last⟩ | exact ix.last
      ·have sq:ve L 2 bH=false:=by simp [ve,hg]
       simp only [go_sem,hg]
       refine ag.by (Pv hL r3.nq.cq) ?_
       rintro _ H8 - ⟨rfl,p8⟩
       have r8:=r3.bh p8
       by_cases iw:tQ L bH=true
       ·rw [if_neg (fun e=>by rw [iw] at e;cases e.2)] at bw
        simp only [go_sem,iw]
        refine ag.by (Jf hL r8.nq) ?_
        rintro _ du - ⟨rfl,nK⟩
        obtain ⟨tu,uz,cS,_,_⟩:=r8.call nK
        simp only [go_sem]
        refine ag.by (fA cS.nq.cq) ?_
        rintro _ _ - ⟨rfl,rfl⟩
        by_cases ho:dj (kv L bH cB).2.1=true
        ·rw [if_pos ho,sq] at bw
         obtain ⟨o1,o2,o3⟩:=I6 ho
         rw [o1]
         simp only [go_sem,ho]
         have dV:=cS
         rw [o2] at dV
         rw [if_neg Bool.false_ne_true] at bw
         cases eF:y9 L bj bH (kv L bH cB).2.2 cB.length with
         | none=>rw [eF] at bw;cases bw
         | some B=>
          obtain ⟨su,eC⟩:=B
          rw [eF] at bw
          simp only [Option.bind_some] at bw
          refine ag.by (Qt hL dy dV.nq (by rw [o3];omega) eF) ?_
          rintro _ dx - dJ
          dsimp only at dJ
          obtain ⟨oC,kj,dF,_,_⟩:=dV.call dJ
          have MA:cB.length+1<=eC.length:=by have:=dJ.2.2.1;rw [o3] at this;exact this
          cases fl with
          | none=>
           have de:(-1:Int) < 0:=by decide
           simp only [go_sem,e5,fV,de]
           exact ⟨n,by omega,false,some (cB.length,cB.length),su,eC,oC,kj,rfl,rfl,rfl,dF,fun x hx=>by cases hx;show cB.length < eC.length;omega,bw⟩
          | some x=>
           have de:¬(((x.1:Nat):Int) < 0):=by omega
           have l9:=dC x rfl
           obtain ⟨b,cs,zw,jr,zx,za,la⟩:=dF.link (l:=x.2) (k:=cB.length) (by omega)
           have gC:=NR.x h hf dF b jr
           have bf:x.2 < eC.length:=by omega
           have dE:x.2 * 20+10 < cs.length:=by omega
           have hV:x.2 * 20+10+1<=cs.length:=by omega
           simp only [go_sem,e5,e6,fV,lV,de,zw,zx,gC,bf,dE,hV,za,fL dE]
           exact ⟨n,by omega,false,some (x.1,cB.length),su,lF eC x.2 cB.length,oC,kj,rfl,rfl,rfl,la,fun y hy=>by cases hy;show cB.length < (lF eC x.2 cB.length).length;rw [lF,List.length_set];omega,bw⟩
        ·rw [if_neg ho] at bw
         cases bw
         simp only [go_sem,ho]
         refine ag.by (ru hL cS.nq.cq) ?_
         rintro _ yD - mf
         have ix:=cS.bh mf
         simp only [go_sem,e5]
         first | exact ⟨rfl,ix.last⟩ | exact ix.last
       ·have Gw:tQ L bH=false:=by simpa using iw
        rw [if_pos ⟨sq,Gw⟩] at bw
        cases bw
        simp only [go_sem,iw]
        refine ag.by (lU r8.nq.cq) ?_
        rintro _ H9 - p9
        have r9:=r8.bh p9
        simp only [go_sem]
        refine ag.by (ru hL r9.nq.cq) ?_
        rintro _ yD - mf
        have ix:=r9.bh mf
        simp only [go_sem,e5]
        first | exact ⟨rfl,ix.last⟩ | exact ix.last
     ·by_cases k0:kind=0
      ·subst k0
       simp only [go_sem]
       refine ag.by (afi hL r2.nq.cq) ?_
       rintro _ H3 - ⟨rfl,p3⟩
       have r3:=r2.bh p3
       by_cases hg:AF L bH=true
       ·have sq:ve L 0 bH=true:=by simp [ve,hg]
        simp only [go_sem,hg]
        rw [if_neg (fun e=>by rw [sq] at e;cases e.1)] at bw
        refine ag.by (Jf hL r3.nq) ?_
        rintro _ du - ⟨rfl,nK⟩
        obtain ⟨tu,uz,cS,_,_⟩:=r3.call nK
        simp only [go_sem]
        refine ag.by (fA cS.nq.cq) ?_
        rintro _ _ - ⟨rfl,rfl⟩
        by_cases ho:dj (kv L bH cB).2.1=true
        ·rw [if_pos ho,sq] at bw
         obtain ⟨o1,o2,o3⟩:=I6 ho
         rw [o1]
         simp only [go_sem,ho]
         have dV:=cS
         rw [o2] at dV
         rw [if_pos rfl] at bw
         cases eF:A6 L bj fuel bH (kv L bH cB).2.2 cB.length with
         | none=>rw [eF] at bw;cases bw
         | some B=>
          obtain ⟨su,eC⟩:=B
          rw [eF] at bw
          simp only [Option.bind_some] at bw
          refine ag.by (ab9 hL dy dV.nq (by rw [o3];omega) (ae1 hg) eF) ?_
          rintro _ dx - dJ
          dsimp only at dJ
          obtain ⟨oC,kj,dF,_,_⟩:=dV.call dJ
          have MA:cB.length+1<=eC.length:=by have:=dJ.2.2.1;rw [o3] at this;exact this
          cases fl with
          | none=>
           have de:(-1:Int) < 0:=by decide
           simp only [go_sem,e5,fV,de]
           exact ⟨n,by omega,true,some (cB.length,cB.length),su,eC,oC,kj,rfl,rfl,rfl,dF,fun x hx=>by cases hx;show cB.length < eC.length;omega,bw⟩
          | some x=>
           have de:¬(((x.1:Nat):Int) < 0):=by omega
           have l9:=dC x rfl
           obtain ⟨b,cs,zw,jr,zx,za,la⟩:=dF.link (l:=x.2) (k:=cB.length) (by omega)
           have gC:=NR.x h hf dF b jr
           have bf:x.2 < eC.length:=by omega
           have dE:x.2 * 20+10 < cs.length:=by omega
           have hV:x.2 * 20+10+1<=cs.length:=by omega
           simp only [go_sem,e5,e6,fV,lV,de,zw,zx,gC,bf,dE,hV,za,fL dE]
           exact ⟨n,by omega,true,some (x.1,cB.length),su,lF eC x.2 cB.length,oC,kj,rfl,rfl,rfl,la,fun y hy=>by cases hy;show cB.length < (lF eC x.2 cB.length).length;rw [lF,List.length_set];omega,bw⟩
        ·rw [if_neg ho] at bw
         cases bw
         simp only [go_sem,ho]
         refine ag.by (ru hL cS.nq.cq) ?_
         rintro _ yD - mf
         have ix:=cS.bh mf
         simp only [go_sem,e5]
         first | exact ⟨rfl,ix.last⟩ | exact ix.last
       ·have sq:ve L 0 bH=false:=by simp [ve,hg]
        simp only [go_sem,hg]
        refine ag.by (Pv hL r3.nq.cq) ?_
        rintro _ H8 - ⟨rfl,p8⟩
        have r8:=r3.bh p8
        by_cases iw:tQ L bH=true
        ·rw [if_neg (fun e=>by rw [iw] at e;cases e.2)] at bw
         simp only [go_sem,iw]
         refine ag.by (Jf hL r8.nq) ?_
         rintro _ du - ⟨rfl,nK⟩
         obtain ⟨tu,uz,cS,_,_⟩:=r8.call nK
         simp only [go_sem]
         refine ag.by (fA cS.nq.cq) ?_
         rintro _ _ - ⟨rfl,rfl⟩
         by_cases ho:dj (kv L bH cB).2.1=true
         ·rw [if_pos ho,sq] at bw
          obtain ⟨o1,o2,o3⟩:=I6 ho
          rw [o1]
          simp only [go_sem,ho]
          have dV:=cS
          rw [o2] at dV
          rw [if_neg Bool.false_ne_true] at bw
          cases eF:y9 L bj bH (kv L bH cB).2.2 cB.length with
          | none=>rw [eF] at bw;cases bw
          | some B=>
           obtain ⟨su,eC⟩:=B
           rw [eF] at bw
           simp only [Option.bind_some] at bw
           refine ag.by (Qt hL dy dV.nq (by rw [o3];omega) eF) ?_
           rintro _ dx - dJ
           dsimp only at dJ
           obtain ⟨oC,kj,dF,_,_⟩:=dV.call dJ
           have MA:cB.length+1<=eC.length:=by have:=dJ.2.2.1;rw [o3] at this;exact this
           cases fl with
           | none=>
            have de:(-1:Int) < 0:=by decide
            simp only [go_sem,e5,fV,de]
            exact ⟨n,by omega,false,some (cB.length,cB.length),su,eC,oC,kj,rfl,rfl,rfl,dF,fun x hx=>by cases hx;show cB.length < eC.length;omega,bw⟩
           | some x=>
            have de:¬(((x.1:Nat):Int) < 0):=by omega
            have l9:=dC x rfl
            obtain ⟨b,cs,zw,jr,zx,za,la⟩:=dF.link (l:=x.2) (k:=cB.length) (by omega)
            have gC:=NR.x h hf dF b jr
            have bf:x.2 < eC.length:=by omega
            have dE:x.2 * 20+10 < cs.length:=by omega
            have hV:x.2 * 20+10+1<=cs.length:=by omega
            simp only [go_sem,e5,e6,fV,lV,de,zw,zx,gC,bf,dE,hV,za,fL dE]
            exact ⟨n,by omega,false,some (x.1,cB.length),su,lF eC x.2 cB.length,oC,kj,rfl,rfl,rfl,la,fun y hy=>by cases hy;show cB.length < (lF eC x.2 cB.length).length;rw [lF,List.length_set];omega,bw⟩
         ·rw [if_neg ho] at bw
          cases bw
          simp only [go_sem,ho]
          refine ag.by (ru hL cS.nq.cq) ?_
          rintro _ yD - mf
          have ix:=cS.bh mf
          simp only [go_sem,e5]
          first | exact ⟨rfl,ix.last⟩ | exact ix.last
        ·have Gw:tQ L bH=false:=by simpa using iw
         rw [if_pos ⟨sq,Gw⟩] at bw
         cases bw
         simp only [go_sem,iw]
         refine ag.by (lU r8.nq.cq) ?_
         rintro _ H9 - p9
         have r9:=r8.bh p9
         simp only [go_sem]
         refine ag.by (ru hL r9.nq.cq) ?_
         rintro _ yD - mf
         have ix:=r9.bh mf
         simp only [go_sem,e5]
         first | exact ⟨rfl,ix.last⟩ | exact ix.last
      ·have sq:ve L kind bH=false:=by simp [ve,k2,k0]
       simp only [go_sem,k1,k2,k0]
       refine ag.by (Pv hL r2.nq.cq) ?_
       rintro _ H8 - ⟨rfl,p8⟩
       have r8:=r2.bh p8
       by_cases iw:tQ L bH=true
       ·rw [if_neg (fun e=>by rw [iw] at e;cases e.2)] at bw
        simp only [go_sem,iw]
        refine ag.by (Jf hL r8.nq) ?_
        rintro _ du - ⟨rfl,nK⟩
        obtain ⟨tu,uz,cS,_,_⟩:=r8.call nK
        simp only [go_sem]
        refine ag.by (fA cS.nq.cq) ?_
        rintro _ _ - ⟨rfl,rfl⟩
        by_cases ho:dj (kv L bH cB).2.1=true
        ·rw [if_pos ho,sq] at bw
         obtain ⟨o1,o2,o3⟩:=I6 ho
         rw [o1]
         simp only [go_sem,ho]
         have dV:=cS
         rw [o2] at dV
         rw [if_neg Bool.false_ne_true] at bw
         cases eF:y9 L bj bH (kv L bH cB).2.2 cB.length with
         | none=>rw [eF] at bw;cases bw
         | some B=>
          obtain ⟨su,eC⟩:=B
          rw [eF] at bw
          simp only [Option.bind_some] at bw
          refine ag.by (Qt hL dy dV.nq (by rw [o3];omega) eF) ?_
          rintro _ dx - dJ
          dsimp only at dJ
          obtain ⟨oC,kj,dF,_,_⟩:=dV.call dJ
          have MA:cB.length+1<=eC.length:=by have:=dJ.2.2.1;rw [o3] at this;exact this
          cases fl with
          | none=>
           have de:(-1:Int) < 0:=by decide
           simp only [go_sem,e5,fV,de]
           exact ⟨n,by omega,false,some (cB.length,cB.length),su,eC,oC,kj,rfl,rfl,rfl,dF,fun x hx=>by cases hx;show cB.length < eC.length;omega,bw⟩
          | some x=>
           have de:¬(((x.1:Nat):Int) < 0):=by omega
           have l9:=dC x rfl
           obtain ⟨b,cs,zw,jr,zx,za,la⟩:=dF.link (l:=x.2) (k:=cB.length) (by omega)
           have gC:=NR.x h hf dF b jr
           have bf:x.2 < eC.length:=by omega
           have dE:x.2 * 20+10 < cs.length:=by omega
           have hV:x.2 * 20+10+1<=cs.length:=by omega
           simp only [go_sem,e5,e6,fV,lV,de,zw,zx,gC,bf,dE,hV,za,fL dE]
           exact ⟨n,by omega,false,some (x.1,cB.length),su,lF eC x.2 cB.length,oC,kj,rfl,rfl,rfl,la,fun y hy=>by cases hy;show cB.length < (lF eC x.2 cB.length).length;rw [lF,List.length_set];omega,bw⟩
        ·rw [if_neg ho] at bw
         cases bw
         simp only [go_sem,ho]
         refine ag.by (ru hL cS.nq.cq) ?_
         rintro _ yD - mf
         have ix:=cS.bh mf
         simp only [go_sem,e5]
         first | exact ⟨rfl,ix.last⟩ | exact ix.last
       ·have Gw:tQ L bH=false:=by simpa using iw
        rw [if_pos ⟨sq,Gw⟩] at bw
        cases bw
        simp only [go_sem,iw]
        refine ag.by (lU r8.nq.cq) ?_
        rintro _ H9 - p9
        have r9:=r8.bh p9
        simp only [go_sem]
        refine ag.by (ru hL r9.nq.cq) ?_
        rintro _ yD - mf
        have ix:=r9.bh mf
        simp only [go_sem,e5]
        first | exact ⟨rfl,ix.last⟩ | exact ix.last
  ·rw [if_neg (fun e=>hb e.1)] at bw
   cases bw
   simp only [go_sem,hb]
   refine ag.by (ru hL r2.nq.cq) ?_
   rintro _ yD - mf
   have ix:=r2.bh mf
   simp only [go_sem,e5]
   first | exact ⟨rfl,ix.last⟩ | exact ix.last
theorem abx (hL:LG L):∀k,CF L F c1 c2 c3 q rb (Jh L k)
 | 0=>by
  intro _ he
  cases he
 | k+1=>by
  rename_i H st bW ns iG m g kind i
  intro h he
  rw [Jh] at he
  dsimp only at he
  cases bw:I7 L (Jh L k) k kind 402 false none (wJ L st) ns with
  | none=>rw [bw] at he;cases he
  | some R=>
   rw [bw] at he
   cases he
   exact age hL (abx hL k) h bw
end
structure cC where
 msgs:List x8:=[]
 dk:List CB:=[]
 defs:List gh:=[]
 nodes:List aJ:=[]
deriving DecidableEq
structure DF (L:List bJ) (F:List Nat) (c1 c2 c3:Value) (H:ad) (q rb:Nat) (st:aV) (P:cC) (mM gM mR gR mD gD m g:List Nat):Prop where
 nq:NQ0 L F c1 c2 c3 H q rb st P.nodes m g
 hM:Gr qF 114 H c1 P.msgs mM gM
 hR:Gr u9 153 H c2 P.dk mR gR
 hD:Gr kV 47 H c3 P.defs mD gD
 xM:∀c∈mM,(c < H.next/\c≠rb/\c≠q/\c∉F)/\(c∉mR/\c∉mD/\c∉m)/\c∉gM++(gR++(gD++g))
 xR:∀c∈mR,(c < H.next/\c≠rb/\c≠q/\c∉F)/\(c∉mM/\c∉mD/\c∉m)/\c∉gM++(gR++(gD++g))
 xD:∀c∈mD,(c < H.next/\c≠rb/\c≠q/\c∉F)/\(c∉mM/\c∉mR/\c∉m)/\c∉gM++(gR++(gD++g))
 xm:∀c∈m,(c∉mM/\c∉mR/\c∉mD)/\c∉gM++(gR++(gD++g))
 hG:∀c∈gM++(gR++gD),c < H.next/\c≠rb/\c≠q
 bM:P.msgs.length<=12
 bR:P.dk.length<=8
 bD:P.defs.length<=16
def KM (L:List bJ) (F:List Nat) (H:ad) (q rb:Nat) (st:aV) (P:cC) (T G:List Nat):Prop:=
 ∃c1 c2 c3 mM gM mR gR mD gD m g,DF L F c1 c2 c3 H q rb st P mM gM mR gR mD gD m g/\T=mM++(mR++(mD++m))/\G=gM++(gR++(gD++g))
structure DQ (L:List bJ) (F:List Nat) (H:ad) (q rb:Nat) (st:aV) (P:cC) (T G:List Nat):Prop where
 dq:KM L F H q rb st P T G
 fz:H.fz rb=false
 fq:H.fz q=false
 fT:∀c∈T,H.fz c=false
 fn:∀b,H.next<=b->H.fz b=false
def FX (L:List bJ) (F:List Nat) (H:ad) (q rb:Nat) (T G:List Nat) (bW:aV) (P':cC) (H':ad):Prop:=
 Fr (rb::q::T) H H'/\(∀c,H'.fz c=H.fz c)/\∃T' G',KM L F H' q rb bW P' T' G'/\(∀c∈T',c∈T∨H.next<=c)/\∀c∈G',c∈G∨H.next<=c
theorem ad3 {c:Nat} {a b d e x:List Nat} (h:c∈(a++x)++(b++(d++e))):c∈a++(b++(d++e))∨c∈x:=by
 simp only [List.mem_append] at h ⊢
 rcases h with (h | h) | h | h | h <;> simp [h]
theorem ad4 {c:Nat} {a b d e x:List Nat} (h:c∈a++((b++x)++(d++e))):c∈a++(b++(d++e))∨c∈x:=by
 simp only [List.mem_append] at h ⊢
 rcases h with h | (h | h) | h | h <;> simp [h]
theorem ad5 {c:Nat} {a b d e x:List Nat} (h:c∈a++(b++((d++x)++e))):c∈a++(b++(d++e))∨c∈x:=by
 simp only [List.mem_append] at h ⊢
 rcases h with h | h | (h | h) | h <;> simp [h]
theorem an6 {c:Nat} {a b d x:List Nat} (h:c∈(a++x)++(b++d)):c∈a++(b++d)∨c∈x:=by
 simp only [List.mem_append] at h ⊢
 rcases h with (h | h) | h | h <;> simp [h]
theorem an7 {c:Nat} {a b d x:List Nat} (h:c∈a++((b++x)++d)):c∈a++(b++d)∨c∈x:=by
 simp only [List.mem_append] at h ⊢
 rcases h with h | (h | h) | h <;> simp [h]
theorem ac2 {c:Nat} {a b d x:List Nat} (h:c∈a++(b++(d++x))):c∈a++(b++d)∨c∈x:=by
 simp only [List.mem_append] at h ⊢
 rcases h with h | h | h | h <;> simp [h]
theorem F7 {c:Nat} {a b d e:List Nat} (h:c∈a++(b++(d++e))):c∈a++(b++d)∨c∈e:=ac2 h
theorem D0 {c:Nat} {a b d e:List Nat} (h:c∈a++(b++d)):c∈a++(b++(d++e)):=by
 simp only [List.mem_append] at h ⊢
 rcases h with h | h | h <;> simp [h]
section
variable {L:List bJ} {F:List Nat} {c1 c2 c3:Value} {H H1 H2 H7:ad} {q rb nb:Nat} {st bu bH:aV} {P:cC} {bZ:List aJ} {mM gM mR gR mD gD m g m1 g1:List Nat}
theorem DQ.post {T G:List Nat} {bW:aV} {P':cC} (h:DQ L F H q rb st P T G) (hp:FX L F H q rb T G bW P' H1):∃T' G',DQ L F H1 q rb bW P' T' G'/\(∀c∈T',c∈T∨H.next<=c)/\∀c∈G',c∈G∨H.next<=c:=by
 obtain ⟨hf,hz,T',G',h0,hs,jf⟩:=hp
 refine ⟨T',G',⟨h0,by rw [hz];exact h.fz,by rw [hz];exact h.fq,fun c hc=>?_,fun b hb=>by rw [hz];exact h.fn b (Nat.le_trans hf.nx hb)⟩,hs,jf⟩
 rw [hz]
 rcases hs c hc with e | e
 ·exact h.fT c e
 ·exact h.fn c e
theorem DF.nr (h:DF L F c1 c2 c3 H q rb st P mM gM mR gR mD gD m g) (r:NR L F c1 c2 c3 H q rb P.nodes m g H1 bu bZ m1 g1):DF L F c1 c2 c3 H1 q rb bu {P with nodes:=bZ} mM gM mR gR mD gD m1 g1:=by
 have dH:=r.fr.nx
 have k:∀c,c < H.next->c≠rb->c≠q->c∉m->H1.get c=H.get c:=fun c h1 h2 h3 h4=>r.fr.get c h1 (by simp only [List.mem_cons,not_or];exact ⟨h2,h3,h4⟩)
 have kM:∀c∈mM,H1.get c=H.get c:=fun c hc=>k c (h.xM c hc).1.1 (h.xM c hc).1.2.1 (h.xM c hc).1.2.2.1 (h.xM c hc).2.1.2.2
 have kR:∀c∈mR,H1.get c=H.get c:=fun c hc=>k c (h.xR c hc).1.1 (h.xR c hc).1.2.1 (h.xR c hc).1.2.2.1 (h.xR c hc).2.1.2.2
 have kD:∀c∈mD,H1.get c=H.get c:=fun c hc=>k c (h.xD c hc).1.1 (h.xD c hc).1.2.1 (h.xD c hc).1.2.2.1 (h.xD c hc).2.1.2.2
 have kG:∀c∈gM++(gR++gD),H1.get c=H.get c:=fun c hc=>k c (h.hG c hc).1 (h.hG c hc).2.1 (h.hG c hc).2.2 fun e=>(h.xm c e).2 (D0 hc)
 have xx:∀{a b:List Nat} {c:Nat},(c < H.next/\c≠rb/\c≠q/\c∉F)/\(c∉a/\c∉b/\c∉m)/\c∉gM++(gR++(gD++g))->(c < H1.next/\c≠rb/\c≠q/\c∉F)/\(c∉a/\c∉b/\c∉m1)/\c∉gM++(gR++(gD++g1)):=fun {a b c} hc=>by
  refine ⟨⟨by have:=hc.1.1;omega,hc.1.2⟩,⟨hc.2.1.1,hc.2.1.2.1,fun e=>(r.sm c e).elim hc.2.1.2.2 fun e=>by have:=hc.1.1;omega⟩,fun e=>?_⟩
  simp only [List.mem_append] at e
  have hg:=hc.2.2
  simp only [List.mem_append,not_or] at hg
  rcases e with e | e | e | e
  ·exact hg.1 e
  ·exact hg.2.1 e
  ·exact hg.2.2.1 e
  ·exact (r.sg c e).elim hg.2.2.2 fun e=>by have:=hc.1.1;omega
 refine ⟨r.nq.toNQ0,h.hM.ae kM fun c hc=>kG c (by simp [hc]),h.hR.ae kR fun c hc=>kG c (by simp [hc]),h.hD.ae kD fun c hc=>kG c (by simp [hc]),fun c hc=>xx (h.xM c hc),fun c hc=>xx (h.xR c hc),fun c hc=>xx (h.xD c hc),fun c hc=>?_,fun c hc=>⟨by have:=(h.hG c hc).1;omega,(h.hG c hc).2⟩,h.bM,h.bR,h.bD⟩
 have C0:=r.nq.hm c hc
 refine ⟨⟨fun e=>?_,fun e=>?_,fun e=>?_⟩,fun e=>?_⟩
 ·exact (xx (h.xM c e)).2.1.2.2 hc
 ·exact (xx (h.xR c e)).2.1.2.2 hc
 ·exact (xx (h.xD c e)).2.1.2.2 hc
 ·rcases F7 e with e | e
  ·rcases r.sm c hc with e' | e'
   ·exact (h.xm c e').2 (D0 e)
   ·have:=(h.hG c e).1;omega
  ·exact C0.2.2.2.2 e
theorem DF.q0 (h:DF L F c1 c2 c3 H q rb st P mM gM mR gR mD gD m g):KM L F H q rb st P (mM++(mR++(mD++m))) (gM++(gR++(gD++g))):=⟨_,_,_,_,_,_,_,_,_,_,_,h,rfl,rfl⟩
theorem KM.af {T G:List Nat} {fz:Nat->Bool} (h:KM L F H q rb st P T G):KM L F (H.af fz) q rb st P T G:=by
 obtain ⟨c1,c2,c3,mM,gM,mR,gR,mD,gD,m,g,h,rfl,rfl⟩:=h
 exact ⟨_,_,_,_,_,_,_,_,_,_,_,⟨h.nq.af,h.hM.ae (fun _ _=>rfl) (fun _ _=>rfl),h.hR.ae (fun _ _=>rfl) (fun _ _=>rfl),h.hD.ae (fun _ _=>rfl) (fun _ _=>rfl),h.xM,h.xR,h.xD,h.xm,h.hG,h.bM,h.bR,h.bD⟩,rfl,rfl⟩
theorem DF.apQ (h:DF L F c1 c2 c3 H q rb st P mM gM mR gR mD gD m g) {v7 vN:Value} {x:x8} {g':List Nat} (hq:H.get q=some ⟨[pV rb,c1,c2,c3,vN],123,false,false⟩) (cA:Gr qF 114 H7 v7 (P.msgs++[x]) [H.next] (gM++g')) (fY:∀c∈g',(c < H.next/\c≠rb/\c≠q)/\c∉mM/\c∉mR/\c∉mD/\c∉m)
  (dA:Fr mM H H7) (eu:H7.next=H.next+1) (hb:P.msgs.length < 12):
  DF L F v7 c2 c3 (H7.ai q ⟨[pV rb,v7,c2,c3,vN],123,false,false⟩) q rb st {P with msgs:=P.msgs++[x]} [H.next] (gM++g') mR gR mD gD m g/\Fr (q::mM) H (H7.ai q ⟨[pV rb,v7,c2,c3,vN],123,false,false⟩):=by
 have mq:q∉mM:=fun e=>(h.xM q e).1.2.2.1 rfl
 have mr:rb∉mM:=fun e=>(h.xM rb e).1.2.1 rfl
 have p7:PP0 L F H7 q rb st:=h.nq.pp.fr dA mq mr fun c hc e=>(h.xM c e).1.2.2.2 hc
 have Ad:=h.nq.pp.ql
 have qk:=h.nq.pp.rl
 have k:∀c,c < H.next->c∉mM->c≠q->(H7.ai q ⟨[pV rb,v7,c2,c3,vN],123,false,false⟩).get c=H.get c:=fun c h1 h2 h3=>by rw [aH,if_neg h3];exact dA.get c h1 h2
 have kG:∀c∈gM++(gR++(gD++g)),c < H.next/\c≠q->(H7.ai q ⟨[pV rb,v7,c2,c3,vN],123,false,false⟩).get c=H.get c:=fun c hc e=>k c e.1 (fun e'=>(h.xM c e').2.2 hc) e.2
 have g3:∀c∈gM++(gR++gD),c∈gM++(gR++(gD++g)):=fun c hc=>D0 hc
 obtain ⟨Sx,nI,cw⟩:=h.nq.row
 rw [hq] at nI
 cases nI
 have Na:Fr (q::mM) H (H7.ai q ⟨[pV rb,v7,c2,c3,vN],123,false,false⟩):=(dA.sub fun c hc=>.inl (by simp [hc])).ai (.inl (by simp)) _
 have nx:(H7.ai q ⟨[pV rb,v7,c2,c3,vN],123,false,false⟩).next=H.next+1:=eu
 have sv:∀{c:Nat},c∉gM++(gR++(gD++g))->c∉g'->c∉(gM++g')++(gR++(gD++g)):=fun {c} h1 h2 e=>by
  exact (ad3 e).elim h1 h2
 have fresh:(H.next∉(gM++g')++(gR++(gD++g))):=sv (fun e=>by
  rcases F7 e with e | e
  ·have:=(h.hG _ e).1;omega
  ·have:=(h.nq.hg _ e).1;omega) (fun e=>by have:=(fY _ e).1.1;omega)
 refine ⟨⟨⟨p7.Ka,⟨vN,by rw [aH,if_pos rfl],cw.ae (fun c hc=>k c (h.nq.hm c hc).1 (fun e=>(h.xm c hc).1.1 e) (h.nq.hm c hc).2.2.1) (fun c hc=>kG c (by simp [hc]) ⟨(h.nq.hg c hc).1,(h.nq.hg c hc).2.2⟩)⟩,fun c hc=>⟨by have:=(h.nq.hm c hc).1;rw [nx];omega,(h.nq.hm c hc).2⟩,fun c hc=>⟨by have:=(h.nq.hg c hc).1;rw [nx];omega,(h.nq.hg c hc).2⟩,h.nq.hn⟩,
  cA.ae (fun c hc=>by rw [List.mem_singleton] at hc;rw [aH,if_neg (by omega)]) (fun c hc=>by rw [aH,if_neg];rcases List.mem_append.1 hc with e | e;exact (h.hG c (by simp [e])).2.2;exact (fY c e).1.2.2),
  h.hR.ae (fun c hc=>k c (h.xR c hc).1.1 (h.xR c hc).2.1.1 (h.xR c hc).1.2.2.1) (fun c hc=>kG c (g3 c (by simp [hc])) ⟨(h.hG c (by simp [hc])).1,(h.hG c (by simp [hc])).2.2⟩),
  h.hD.ae (fun c hc=>k c (h.xD c hc).1.1 (h.xD c hc).2.1.1 (h.xD c hc).1.2.2.1) (fun c hc=>kG c (g3 c (by simp [hc])) ⟨(h.hG c (by simp [hc])).1,(h.hG c (by simp [hc])).2.2⟩),
  fun c hc=>by
   rw [List.mem_singleton] at hc
   subst hc
   exact ⟨⟨by rw [nx];omega,by omega,by omega,fun e=>by have:=(h.nq.pp.hF _ e).1;omega⟩,⟨fun e=>by have:=(h.xR _ e).1.1;omega,fun e=>by have:=(h.xD _ e).1.1;omega,fun e=>by have:=(h.nq.hm _ e).1;omega⟩,fresh⟩,
  fun c hc=>⟨⟨by have:=(h.xR c hc).1.1;rw [nx];omega,(h.xR c hc).1.2⟩,⟨fun e=>by rw [List.mem_singleton] at e;have:=(h.xR c hc).1.1;omega,(h.xR c hc).2.1.2.1,(h.xR c hc).2.1.2.2⟩,sv (h.xR c hc).2.2 fun e=>(fY c e).2.2.1 hc⟩,
  fun c hc=>⟨⟨by have:=(h.xD c hc).1.1;rw [nx];omega,(h.xD c hc).1.2⟩,⟨fun e=>by rw [List.mem_singleton] at e;have:=(h.xD c hc).1.1;omega,(h.xD c hc).2.1.2.1,(h.xD c hc).2.1.2.2⟩,sv (h.xD c hc).2.2 fun e=>(fY c e).2.2.2.1 hc⟩,
  fun c hc=>⟨⟨fun e=>by rw [List.mem_singleton] at e;have:=(h.nq.hm c hc).1;omega,(h.xm c hc).1.2.1,(h.xm c hc).1.2.2⟩,sv (h.xm c hc).2 fun e=>(fY c e).2.2.2.2 hc⟩,
  fun c hc=>?_,by rw [List.length_append,List.length_singleton];omega,h.bR,h.bD⟩,Na⟩
 rw [nx]
 have yi:c∈gM++(gR++gD)∨c∈g':=an6 hc
 rcases yi with e | e
 ·have:=h.hG c e;exact ⟨by omega,this.2⟩
 ·have:=(fY c e).1;exact ⟨by omega,this.2⟩
theorem DF.apR (h:DF L F c1 c2 c3 H q rb st P mM gM mR gR mD gD m g) {v7 vN:Value} {x:CB} {g':List Nat} (hq:H.get q=some ⟨[pV rb,c1,c2,c3,vN],123,false,false⟩) (cA:Gr u9 153 H7 v7 (P.dk++[x]) [H.next] (gR++g')) (fY:∀c∈g',(c < H.next/\c≠rb/\c≠q)/\c∉mM/\c∉mR/\c∉mD/\c∉m)
  (dA:Fr mR H H7) (eu:H7.next=H.next+1) (hb:P.dk.length < 8):
  DF L F c1 v7 c3 (H7.ai q ⟨[pV rb,c1,v7,c3,vN],123,false,false⟩) q rb st {P with dk:=P.dk++[x]} mM gM [H.next] (gR++g') mD gD m g/\Fr (q::mR) H (H7.ai q ⟨[pV rb,c1,v7,c3,vN],123,false,false⟩):=by
 have mq:q∉mR:=fun e=>(h.xR q e).1.2.2.1 rfl
 have mr:rb∉mR:=fun e=>(h.xR rb e).1.2.1 rfl
 have p7:PP0 L F H7 q rb st:=h.nq.pp.fr dA mq mr fun c hc e=>(h.xR c e).1.2.2.2 hc
 have Ad:=h.nq.pp.ql
 have qk:=h.nq.pp.rl
 have k:∀c,c < H.next->c∉mR->c≠q->(H7.ai q ⟨[pV rb,c1,v7,c3,vN],123,false,false⟩).get c=H.get c:=fun c h1 h2 h3=>by rw [aH,if_neg h3];exact dA.get c h1 h2
 have kG:∀c∈gM++(gR++(gD++g)),c < H.next/\c≠q->(H7.ai q ⟨[pV rb,c1,v7,c3,vN],123,false,false⟩).get c=H.get c:=fun c hc e=>k c e.1 (fun e'=>(h.xR c e').2.2 hc) e.2
 have g3:∀c∈gM++(gR++gD),c∈gM++(gR++(gD++g)):=fun c hc=>D0 hc
 obtain ⟨Sx,nI,cw⟩:=h.nq.row
 rw [hq] at nI
 cases nI
 have Na:Fr (q::mR) H (H7.ai q ⟨[pV rb,c1,v7,c3,vN],123,false,false⟩):=(dA.sub fun c hc=>.inl (by simp [hc])).ai (.inl (by simp)) _
 have nx:(H7.ai q ⟨[pV rb,c1,v7,c3,vN],123,false,false⟩).next=H.next+1:=eu
 have sv:∀{c:Nat},c∉gM++(gR++(gD++g))->c∉g'->c∉gM++((gR++g')++(gD++g)):=fun {c} h1 h2 e=>by
  exact (ad4 e).elim h1 h2
 have fresh:(H.next∉gM++((gR++g')++(gD++g))):=sv (fun e=>by
  rcases F7 e with e | e
  ·have:=(h.hG _ e).1;omega
  ·have:=(h.nq.hg _ e).1;omega) (fun e=>by have:=(fY _ e).1.1;omega)
 refine ⟨⟨⟨p7.Ka,⟨vN,by rw [aH,if_pos rfl],cw.ae (fun c hc=>k c (h.nq.hm c hc).1 (fun e=>(h.xm c hc).1.2.1 e) (h.nq.hm c hc).2.2.1) (fun c hc=>kG c (by simp [hc]) ⟨(h.nq.hg c hc).1,(h.nq.hg c hc).2.2⟩)⟩,fun c hc=>⟨by have:=(h.nq.hm c hc).1;rw [nx];omega,(h.nq.hm c hc).2⟩,fun c hc=>⟨by have:=(h.nq.hg c hc).1;rw [nx];omega,(h.nq.hg c hc).2⟩,h.nq.hn⟩,
  h.hM.ae (fun c hc=>k c (h.xM c hc).1.1 (h.xM c hc).2.1.1 (h.xM c hc).1.2.2.1) (fun c hc=>kG c (g3 c (by simp [hc])) ⟨(h.hG c (by simp [hc])).1,(h.hG c (by simp [hc])).2.2⟩),
  cA.ae (fun c hc=>by rw [List.mem_singleton] at hc;rw [aH,if_neg (by omega)]) (fun c hc=>by rw [aH,if_neg];rcases List.mem_append.1 hc with e | e;exact (h.hG c (by simp [e])).2.2;exact (fY c e).1.2.2),
  h.hD.ae (fun c hc=>k c (h.xD c hc).1.1 (h.xD c hc).2.1.2.1 (h.xD c hc).1.2.2.1) (fun c hc=>kG c (g3 c (by simp [hc])) ⟨(h.hG c (by simp [hc])).1,(h.hG c (by simp [hc])).2.2⟩),
  fun c hc=>⟨⟨by have:=(h.xM c hc).1.1;rw [nx];omega,(h.xM c hc).1.2⟩,⟨fun e=>by rw [List.mem_singleton] at e;have:=(h.xM c hc).1.1;omega,(h.xM c hc).2.1.2.1,(h.xM c hc).2.1.2.2⟩,sv (h.xM c hc).2.2 fun e=>(fY c e).2.1 hc⟩,
  fun c hc=>by
   rw [List.mem_singleton] at hc
   subst hc
   exact ⟨⟨by rw [nx];omega,by omega,by omega,fun e=>by have:=(h.nq.pp.hF _ e).1;omega⟩,⟨fun e=>by have:=(h.xM _ e).1.1;omega,fun e=>by have:=(h.xD _ e).1.1;omega,fun e=>by have:=(h.nq.hm _ e).1;omega⟩,fresh⟩,
  fun c hc=>⟨⟨by have:=(h.xD c hc).1.1;rw [nx];omega,(h.xD c hc).1.2⟩,⟨(h.xD c hc).2.1.1,fun e=>by rw [List.mem_singleton] at e;have:=(h.xD c hc).1.1;omega,(h.xD c hc).2.1.2.2⟩,sv (h.xD c hc).2.2 fun e=>(fY c e).2.2.2.1 hc⟩,
  fun c hc=>⟨⟨(h.xm c hc).1.1,fun e=>by rw [List.mem_singleton] at e;have:=(h.nq.hm c hc).1;omega,(h.xm c hc).1.2.2⟩,sv (h.xm c hc).2 fun e=>(fY c e).2.2.2.2 hc⟩,
  fun c hc=>?_,h.bM,by rw [List.length_append,List.length_singleton];omega,h.bD⟩,Na⟩
 rw [nx]
 have yi:c∈gM++(gR++gD)∨c∈g':=an7 hc
 rcases yi with e | e
 ·have:=h.hG c e;exact ⟨by omega,this.2⟩
 ·have:=(fY c e).1;exact ⟨by omega,this.2⟩
theorem DF.apS (h:DF L F c1 c2 c3 H q rb st P mM gM mR gR mD gD m g) {v7 vN:Value} {x:gh} {g':List Nat} (hq:H.get q=some ⟨[pV rb,c1,c2,c3,vN],123,false,false⟩) (cA:Gr kV 47 H7 v7 (P.defs++[x]) [H.next] (gD++g')) (fY:∀c∈g',(c < H.next/\c≠rb/\c≠q)/\c∉mM/\c∉mR/\c∉mD/\c∉m)
  (dA:Fr mD H H7) (eu:H7.next=H.next+1) (hb:P.defs.length < 16):
  DF L F c1 c2 v7 (H7.ai q ⟨[pV rb,c1,c2,v7,vN],123,false,false⟩) q rb st {P with defs:=P.defs++[x]} mM gM mR gR [H.next] (gD++g') m g/\Fr (q::mD) H (H7.ai q ⟨[pV rb,c1,c2,v7,vN],123,false,false⟩):=by
 have mq:q∉mD:=fun e=>(h.xD q e).1.2.2.1 rfl
 have mr:rb∉mD:=fun e=>(h.xD rb e).1.2.1 rfl
 have p7:PP0 L F H7 q rb st:=h.nq.pp.fr dA mq mr fun c hc e=>(h.xD c e).1.2.2.2 hc
 have Ad:=h.nq.pp.ql
 have qk:=h.nq.pp.rl
 have k:∀c,c < H.next->c∉mD->c≠q->(H7.ai q ⟨[pV rb,c1,c2,v7,vN],123,false,false⟩).get c=H.get c:=fun c h1 h2 h3=>by rw [aH,if_neg h3];exact dA.get c h1 h2
 have kG:∀c∈gM++(gR++(gD++g)),c < H.next/\c≠q->(H7.ai q ⟨[pV rb,c1,c2,v7,vN],123,false,false⟩).get c=H.get c:=fun c hc e=>k c e.1 (fun e'=>(h.xD c e').2.2 hc) e.2
 have g3:∀c∈gM++(gR++gD),c∈gM++(gR++(gD++g)):=fun c hc=>D0 hc
 obtain ⟨Sx,nI,cw⟩:=h.nq.row
 rw [hq] at nI
 cases nI
 have Na:Fr (q::mD) H (H7.ai q ⟨[pV rb,c1,c2,v7,vN],123,false,false⟩):=(dA.sub fun c hc=>.inl (by simp [hc])).ai (.inl (by simp)) _
 have nx:(H7.ai q ⟨[pV rb,c1,c2,v7,vN],123,false,false⟩).next=H.next+1:=eu
 have sv:∀{c:Nat},c∉gM++(gR++(gD++g))->c∉g'->c∉gM++(gR++((gD++g')++g)):=fun {c} h1 h2 e=>by
  exact (ad5 e).elim h1 h2
 have fresh:(H.next∉gM++(gR++((gD++g')++g))):=sv (fun e=>by
  rcases F7 e with e | e
  ·have:=(h.hG _ e).1;omega
  ·have:=(h.nq.hg _ e).1;omega) (fun e=>by have:=(fY _ e).1.1;omega)
 refine ⟨⟨⟨p7.Ka,⟨vN,by rw [aH,if_pos rfl],cw.ae (fun c hc=>k c (h.nq.hm c hc).1 (fun e=>(h.xm c hc).1.2.2 e) (h.nq.hm c hc).2.2.1) (fun c hc=>kG c (by simp [hc]) ⟨(h.nq.hg c hc).1,(h.nq.hg c hc).2.2⟩)⟩,fun c hc=>⟨by have:=(h.nq.hm c hc).1;rw [nx];omega,(h.nq.hm c hc).2⟩,fun c hc=>⟨by have:=(h.nq.hg c hc).1;rw [nx];omega,(h.nq.hg c hc).2⟩,h.nq.hn⟩,
  h.hM.ae (fun c hc=>k c (h.xM c hc).1.1 (h.xM c hc).2.1.2.1 (h.xM c hc).1.2.2.1) (fun c hc=>kG c (g3 c (by simp [hc])) ⟨(h.hG c (by simp [hc])).1,(h.hG c (by simp [hc])).2.2⟩),
  h.hR.ae (fun c hc=>k c (h.xR c hc).1.1 (h.xR c hc).2.1.2.1 (h.xR c hc).1.2.2.1) (fun c hc=>kG c (g3 c (by simp [hc])) ⟨(h.hG c (by simp [hc])).1,(h.hG c (by simp [hc])).2.2⟩),
  cA.ae (fun c hc=>by rw [List.mem_singleton] at hc;rw [aH,if_neg (by omega)]) (fun c hc=>by rw [aH,if_neg];rcases List.mem_append.1 hc with e | e;exact (h.hG c (by simp [e])).2.2;exact (fY c e).1.2.2),
  fun c hc=>⟨⟨by have:=(h.xM c hc).1.1;rw [nx];omega,(h.xM c hc).1.2⟩,⟨(h.xM c hc).2.1.1,fun e=>by rw [List.mem_singleton] at e;have:=(h.xM c hc).1.1;omega,(h.xM c hc).2.1.2.2⟩,sv (h.xM c hc).2.2 fun e=>(fY c e).2.1 hc⟩,
  fun c hc=>⟨⟨by have:=(h.xR c hc).1.1;rw [nx];omega,(h.xR c hc).1.2⟩,⟨(h.xR c hc).2.1.1,fun e=>by rw [List.mem_singleton] at e;have:=(h.xR c hc).1.1;omega,(h.xR c hc).2.1.2.2⟩,sv (h.xR c hc).2.2 fun e=>(fY c e).2.2.1 hc⟩,
  fun c hc=>by
   rw [List.mem_singleton] at hc
   subst hc
   exact ⟨⟨by rw [nx];omega,by omega,by omega,fun e=>by have:=(h.nq.pp.hF _ e).1;omega⟩,⟨fun e=>by have:=(h.xM _ e).1.1;omega,fun e=>by have:=(h.xR _ e).1.1;omega,fun e=>by have:=(h.nq.hm _ e).1;omega⟩,fresh⟩,
  fun c hc=>⟨⟨(h.xm c hc).1.1,(h.xm c hc).1.2.1,fun e=>by rw [List.mem_singleton] at e;have:=(h.nq.hm c hc).1;omega⟩,sv (h.xm c hc).2 fun e=>(fY c e).2.2.2.2 hc⟩,
  fun c hc=>?_,h.bM,h.bR,by rw [List.length_append,List.length_singleton];omega⟩,Na⟩
 rw [nx]
 have yi:c∈gM++(gR++gD)∨c∈g':=ac2 hc
 rcases yi with e | e
 ·have:=h.hG c e;exact ⟨by omega,this.2⟩
 ·have:=(fY c e).1;exact ⟨by omega,this.2⟩
end
section
variable {L:List bJ} {F:List Nat} {c1 c2 c3:Value} {H H1 H2 H3 H6 H7:ad} {q rb nb:Nat} {st bu bH eZ:aV} {P:cC} {bZ Aj:List aJ} {mM gM mR gR mD gD m g m1 g1 m2 g2 m3 g3 m6 g6:List Nat}
theorem DF.apT (h:DF L F c1 c2 c3 H q rb st P mM gM mR gR mD gD m g) (r:NR L F c1 c2 c3 H q rb P.nodes m g H6 eZ Aj m6 g6) {v7 vN:Value} {x:x8} {g':List Nat} (hq:H6.get q=some ⟨[pV rb,c1,c2,c3,vN],123,false,false⟩) (cA:Gr qF 114 H7 v7 (P.msgs++[x]) [H6.next] (gM++g')) (fY:∀c∈g',ew H H6 m6 g6 c)
  (dA:Fr mM H6 H7) (eu:H7.next=H6.next+1) (hb:P.msgs.length < 12):
  FX L F H q rb (mM++(mR++(mD++m))) (gM++(gR++(gD++g))) eZ {P with nodes:=Aj,msgs:=P.msgs++[x]} ((H7.ai q ⟨[pV rb,v7,c2,c3,vN],123,false,false⟩).af H.fz):=by
 have d:=h.nr r
 have dH:=r.fr.nx
 obtain ⟨d8,f8⟩:=d.apQ hq cA (fun c hc=>by
  have hm:=fY c hc
  obtain ⟨e1,e2,e3⟩:=h.nq.pp.fresh hm.1
  have:=hm.1
  exact ⟨⟨hm.2.1,e2,e1⟩,fun e=>by have:=(h.xM c e).1.1;omega,fun e=>by have:=(h.xR c e).1.1;omega,fun e=>by have:=(h.xD c e).1.1;omega,hm.2.2.1⟩) dA eu hb
 have f6:Fr (rb::q::(mM++(mR++(mD++m)))) H H6:=r.fr.sub fun c hc=>.inl (by
  simp only [List.mem_cons,List.mem_append] at hc ⊢
  rcases hc with e | e | e <;> simp [e])
 have KN:Fr (rb::q::(mM++(mR++(mD++m)))) H6 (H7.ai q ⟨[pV rb,v7,c2,c3,vN],123,false,false⟩):=f8.sub fun c hc=>.inl (by
  simp only [List.mem_cons,List.mem_append] at hc ⊢
  rcases hc with e | e <;> simp [e])
 refine ⟨(f6.then KN).af _,fun _=>rfl,_,_,d8.q0.af,fun c hc=>?_,fun c hc=>?_⟩
 ·simp only [List.mem_append,List.mem_singleton] at hc ⊢
  rcases hc with e | e | e | e
  ·exact .inr (by omega)
  ·exact .inl (by simp [e])
  ·exact .inl (by simp [e])
  ·exact (r.sm c e).imp (fun e=>by simp [e]) id
 ·rcases ad3 hc with e | e
  ·rcases F7 e with e | e
   ·exact .inl (D0 e)
   ·exact (r.sg c e).imp (fun e=>by simp [e]) id
  ·exact .inr (fY c e).1
theorem DF.apU (h:DF L F c1 c2 c3 H q rb st P mM gM mR gR mD gD m g) (r:NR L F c1 c2 c3 H q rb P.nodes m g H6 eZ Aj m6 g6) {v7 vN:Value} {x:CB} {g':List Nat} (hq:H6.get q=some ⟨[pV rb,c1,c2,c3,vN],123,false,false⟩) (cA:Gr u9 153 H7 v7 (P.dk++[x]) [H6.next] (gR++g')) (fY:∀c∈g',ew H H6 m6 g6 c)
  (dA:Fr mR H6 H7) (eu:H7.next=H6.next+1) (hb:P.dk.length < 8):
  FX L F H q rb (mM++(mR++(mD++m))) (gM++(gR++(gD++g))) eZ {P with nodes:=Aj,dk:=P.dk++[x]} ((H7.ai q ⟨[pV rb,c1,v7,c3,vN],123,false,false⟩).af H.fz):=by
 have d:=h.nr r
 have dH:=r.fr.nx
 obtain ⟨d8,f8⟩:=d.apR hq cA (fun c hc=>by
  have hm:=fY c hc
  obtain ⟨e1,e2,e3⟩:=h.nq.pp.fresh hm.1
  have:=hm.1
  exact ⟨⟨hm.2.1,e2,e1⟩,fun e=>by have:=(h.xM c e).1.1;omega,fun e=>by have:=(h.xR c e).1.1;omega,fun e=>by have:=(h.xD c e).1.1;omega,hm.2.2.1⟩) dA eu hb
 have f6:Fr (rb::q::(mM++(mR++(mD++m)))) H H6:=r.fr.sub fun c hc=>.inl (by
  simp only [List.mem_cons,List.mem_append] at hc ⊢
  rcases hc with e | e | e <;> simp [e])
 have KN:Fr (rb::q::(mM++(mR++(mD++m)))) H6 (H7.ai q ⟨[pV rb,c1,v7,c3,vN],123,false,false⟩):=f8.sub fun c hc=>.inl (by
  simp only [List.mem_cons,List.mem_append] at hc ⊢
  rcases hc with e | e <;> simp [e])
 refine ⟨(f6.then KN).af _,fun _=>rfl,_,_,d8.q0.af,fun c hc=>?_,fun c hc=>?_⟩
 ·simp only [List.mem_append,List.mem_singleton] at hc ⊢
  rcases hc with e | e | e | e
  ·exact .inl (by simp [e])
  ·exact .inr (by omega)
  ·exact .inl (by simp [e])
  ·exact (r.sm c e).imp (fun e=>by simp [e]) id
 ·rcases ad4 hc with e | e
  ·rcases F7 e with e | e
   ·exact .inl (D0 e)
   ·exact (r.sg c e).imp (fun e=>by simp [e]) id
  ·exact .inr (fY c e).1
theorem DF.Rf (h:DF L F c1 c2 c3 H q rb st P mM gM mR gR mD gD m g) (r:NR L F c1 c2 c3 H q rb P.nodes m g H6 eZ Aj m6 g6) {v7 vN:Value} {x:gh} {g':List Nat} (hq:H6.get q=some ⟨[pV rb,c1,c2,c3,vN],123,false,false⟩) (cA:Gr kV 47 H7 v7 (P.defs++[x]) [H6.next] (gD++g')) (fY:∀c∈g',ew H H6 m6 g6 c)
  (dA:Fr mD H6 H7) (eu:H7.next=H6.next+1) (hb:P.defs.length < 16):
  FX L F H q rb (mM++(mR++(mD++m))) (gM++(gR++(gD++g))) eZ {P with nodes:=Aj,defs:=P.defs++[x]} ((H7.ai q ⟨[pV rb,c1,c2,v7,vN],123,false,false⟩).af H.fz):=by
 have d:=h.nr r
 have dH:=r.fr.nx
 obtain ⟨d8,f8⟩:=d.apS hq cA (fun c hc=>by
  have hm:=fY c hc
  obtain ⟨e1,e2,e3⟩:=h.nq.pp.fresh hm.1
  have:=hm.1
  exact ⟨⟨hm.2.1,e2,e1⟩,fun e=>by have:=(h.xM c e).1.1;omega,fun e=>by have:=(h.xR c e).1.1;omega,fun e=>by have:=(h.xD c e).1.1;omega,hm.2.2.1⟩) dA eu hb
 have f6:Fr (rb::q::(mM++(mR++(mD++m)))) H H6:=r.fr.sub fun c hc=>.inl (by
  simp only [List.mem_cons,List.mem_append] at hc ⊢
  rcases hc with e | e | e <;> simp [e])
 have KN:Fr (rb::q::(mM++(mR++(mD++m)))) H6 (H7.ai q ⟨[pV rb,c1,c2,v7,vN],123,false,false⟩):=f8.sub fun c hc=>.inl (by
  simp only [List.mem_cons,List.mem_append] at hc ⊢
  rcases hc with e | e <;> simp [e])
 refine ⟨(f6.then KN).af _,fun _=>rfl,_,_,d8.q0.af,fun c hc=>?_,fun c hc=>?_⟩
 ·simp only [List.mem_append,List.mem_singleton] at hc ⊢
  rcases hc with e | e | e | e
  ·exact .inl (by simp [e])
  ·exact .inl (by simp [e])
  ·exact .inr (by omega)
  ·exact (r.sm c e).imp (fun e=>by simp [e]) id
 ·rcases ad5 hc with e | e
  ·rcases F7 e with e | e
   ·exact .inl (D0 e)
   ·exact (r.sg c e).imp (fun e=>by simp [e]) id
  ·exact .inr (fY c e).1
abbrev ff (d:gh) (vF vP vO:Value):List Value:=[ah d.name,vF,iV d.aY,iV d.body,iV d.line,iV d.az,.bool d.lX,vP,vO]
structure DB (H H2:ad) (m2 g2:List Nat) (bd:Nat) (d:gh) (vF vP vO:Value) (gF gP mB gB:List Nat):Prop where
 hb:H2.get bd=some ⟨ff d vF vP vO,47,false,false⟩
 ig:∀c∈gF++(gP++(mB++gB)),ew H H2 m2 g2 c/\c≠bd
 mb:ew H H2 m2 g2 bd
 sF:Sl oV H2 vF d.params gF
 sP:Sl gU H2 vP d.pat gP
 gO:Gr eQ 109 H2 vO d.on mB gB
 HF:∀c∈mB,c∉gF/\c∉gP
theorem DB.ae {bd:Nat} {d:gh} {vF vP vO:Value} {gF gP mB gB M:List Nat} (h:DB H H2 m2 g2 bd d vF vP vO gF gP mB gB) (hf:Fr M H2 H3) (hM:∀c,ew H H2 m2 g2 c->c∉M) (hm:∀c∈m3,c∈m2∨H2.next<=c) (hg:∀c∈g3,c∈g2∨H2.next<=c):DB H H3 m3 g3 bd d vF vP vO gF gP mB gB:=by
 have k:∀c,ew H H2 m2 g2 c->H3.get c=H2.get c:=fun c hc=>hf.get c hc.2.1 (hM c hc)
 exact ⟨(k bd h.mb).trans h.hb,fun c hc=>⟨(h.ig c hc).1.next hf.nx hm hg,(h.ig c hc).2⟩,h.mb.next hf.nx hm hg,h.sF.ae fun c hc=>k c (h.ig c (by simp [hc])).1,h.sP.ae fun c hc=>k c (h.ig c (by simp [hc])).1,h.gO.ae (fun c hc=>k c (h.ig c (by simp [hc])).1) (fun c hc=>k c (h.ig c (by simp [hc])).1),h.HF⟩
theorem DB.ac3 {bd b:Nat} {d:gh} {vF vP vO:Value} {gF gP mB gB:List Nat} (h:DB H H2 m2 g2 bd d vF vP vO gF gP mB gB) (B:cO) (h1:b≠bd) (h2:b∉gF++(gP++(mB++gB))):DB H (H2.ai b B) m2 g2 bd d vF vP vO gF gP mB gB:=by
 have k:∀c,c≠b->(H2.ai b B).get c=H2.get c:=fun c hc=>by rw [aH,if_neg hc]
 have k':∀c∈gF++(gP++(mB++gB)),(H2.ai b B).get c=H2.get c:=fun c hc=>k c fun e=>h2 (e▸hc)
 exact ⟨(k bd h1.symm).trans h.hb,h.ig,h.mb,h.sF.ae fun c hc=>k' c (by simp [hc]),h.sP.ae fun c hc=>k' c (by simp [hc]),h.gO.ae (fun c hc=>k' c (by simp [hc])) (fun c hc=>k' c (by simp [hc])),h.HF⟩
theorem DB.push {bd:Nat} {d:gh} {vF vP vO:Value} {gF gP mB gB:List Nat} (h:DB H H2 m2 g2 bd d vF vP vO gF gP mB gB) (B:cO) (hB:B.ro=false:=by rfl):DB H (H2.push B) m2 g2 bd d vF vP vO gF gP mB gB:=h.ae ((aG.push H2 B hB).fr []) (by simp) (fun _ h=>.inl h) (fun _ h=>.inl h)
theorem DB.put {bd:Nat} {d d':gh} {vF vP vO EO qm EP:Value} {gF gP mB gB Da tx Db ER:List Nat} (h:DB H H2 m2 g2 bd d vF vP vO gF gP mB gB) (ig:∀c∈Da++(tx++(Db++ER)),ew H H2 m2 g2 c/\c≠bd) (sF:Sl oV H2 EO d'.params Da) (sP:Sl gU H2 qm d'.pat tx) (gO:Gr eQ 109 H2 EP d'.on Db ER) (HF:∀c∈Db,c∉Da/\c∉tx):
  DB H (H2.ai bd ⟨ff d' EO qm EP,47,false,false⟩) m2 g2 bd d' EO qm EP Da tx Db ER:=by
 have k:∀c∈Da++(tx++(Db++ER)),(H2.ai bd ⟨ff d' EO qm EP,47,false,false⟩).get c=H2.get c:=fun c hc=>by rw [aH,if_neg (ig c hc).2]
 exact ⟨by rw [aH,if_pos rfl],ig,h.mb,sF.ae fun c hc=>k c (by simp [hc]),sP.ae fun c hc=>k c (by simp [hc]),gO.ae (fun c hc=>k c (by simp [hc])) (fun c hc=>k c (by simp [hc])),HF⟩
theorem DB.app {bd:Nat} {d:gh} {vF vP vO v7:Value} {x:fu} {gF gP mB gB gN:List Nat} (h:DB H H6 m2 g2 bd d vF vP vO gF gP mB gB) (hn:H.next<=H6.next) (Bv:∀c∈m2,c < H6.next) (hg6:∀c∈g2,c < H6.next) (cA:Gr eQ 109 H7 v7 (d.on++[x]) [H6.next] (gB++gN)) (dA:Fr mB H6 H7) (eu:H7.next=H6.next+1) (mX:∀c∈gN,ew H H6 m2 g2 c/\c≠bd):
  DB H (H7.ai bd ⟨ff {d with on:=d.on++[x]} vF vP v7,47,false,false⟩) m2 g2 bd {d with on:=d.on++[x]} vF vP v7 gF gP [H6.next] (gB++gN):=by
 have hbB:bd∉mB:=fun e=>(h.ig bd (by simp [e])).2 rfl
 have mm:∀{c:Nat},ew H H6 m2 g2 c->ew H H7 m2 g2 c:=fun hc=>hc.mono (by omega)
 have k:∀c,ew H H6 m2 g2 c->c∉mB->H7.get c=H6.get c:=fun c hc hn=>dA.get c hc.2.1 hn
 have h':(∀c∈gF++(gP++([H6.next]++(gB++gN))),ew H H7 m2 g2 c/\c≠bd)/\ew H H7 m2 g2 bd/\Sl oV H7 vF d.params gF/\Sl gU H7 vP d.pat gP/\Gr eQ 109 H7 v7 (d.on++[x]) [H6.next] (gB++gN)/\∀c∈[H6.next],c∉gF/\c∉gP:=by
  refine ⟨fun c hc=>?_,mm h.mb,h.sF.ae fun c hc=>k c (h.ig c (by simp [hc])).1 fun e=>(h.HF c e).1 hc,h.sP.ae fun c hc=>k c (h.ig c (by simp [hc])).1 fun e=>(h.HF c e).2 hc,cA,fun c hc=>?_⟩
  ·simp only [List.mem_append,List.mem_singleton] at hc
   rcases hc with e | e | e | e | e
   ·exact ⟨mm (h.ig c (by simp [e])).1,(h.ig c (by simp [e])).2⟩
   ·exact ⟨mm (h.ig c (by simp [e])).1,(h.ig c (by simp [e])).2⟩
   ·subst e
    exact ⟨⟨hn,by omega,fun e=>by have:=Bv _ e;omega,fun e=>by have:=hg6 _ e;omega⟩,by have:=h.mb.2.1;omega⟩
   ·exact ⟨mm (h.ig c (by simp [e])).1,(h.ig c (by simp [e])).2⟩
   ·exact ⟨mm (mX c e).1,(mX c e).2⟩
  ·rw [List.mem_singleton] at hc
   subst hc
   exact ⟨fun e=>by have:=(h.ig _ (List.mem_append_left _ e)).1.2.1;omega,fun e=>by have:=(h.ig H6.next (by simp [e])).1.2.1;omega⟩
 obtain ⟨e1,e2,e3,e4,e5,e6⟩:=h'
 have kk:∀c∈gF++(gP++([H6.next]++(gB++gN))),(H7.ai bd ⟨ff {d with on:=d.on++[x]} vF vP v7,47,false,false⟩).get c=H7.get c:=fun c hc=>by rw [aH,if_neg (e1 c hc).2]
 exact ⟨by rw [aH,if_pos rfl],e1,e2,e3.ae fun c hc=>kk c (by simp [hc]),e4.ae fun c hc=>kk c (by simp [hc]),e5.ae (fun c hc=>kk c (List.mem_append_right _ (List.mem_append_right _ (List.mem_append_left _ hc)))) (fun c hc=>kk c (List.mem_append_right _ (List.mem_append_right _ (List.mem_append_right _ hc)))),e6⟩
end
section
variable {L:List bJ} {F:List Nat} {c1 c2 c3:Value} {H H1 H2 H3 H6 H7:ad} {q rb nb:Nat} {st bu bH eZ:aV} {P:cC} {ns bZ cB Aj:List aJ} {mM gM mR gR mD gD m g m1 g1 m2 g2 m3 g3 m6 g6:List Nat}
theorem DF.Of (h:DF L F c1 c2 c3 H q rb st P mM gM mR gR mD gD m g) (fz:H.fz rb=false) (fq:H.fz q=false) (fT:∀c∈mM++(mR++(mD++m)),H.fz c=false) (fn:∀b,H.next<=b->H.fz b=false):NQ L F c1 c2 c3 H q rb st P.nodes m g:={h.nq with fz:=fz,fq:=fq,fm:=fun c hc=>fT c (by simp [hc]),fn:=fn}
def Oj (L:List bJ) (bj:qZ):Nat->aV->List aJ->List fu->Option (aV × List aJ × List fu)
 | 0,_,_,_=>none
 | k+1,s,ns,l=>
  if dj s=true/\cW L [111,110] s=true then
   (if 12 < l.length then some (fD 3 s,ns,l)
   else (bj 0 ((AT L (cF L (aC s)).2).2,ns)).bind fun x=>Oj L bj k x.2.1 x.2.2 (l++[⟨0,0,x.1,(cF L (aC s)).1,[],[],(AT L (cF L (aC s)).2).1⟩]))
  else some (s,ns,l)
def Nb (L:List bJ) (bj:qZ) (fuel:Nat) (st:aV) (ns:List aJ):Option (aV × List aJ × gh):=
 (I5 L fuel (cF L (aC st)).2).bind fun f=>
  if cW L [97,99,116,111,114] st=true then
   (CC L fuel (dO L [58] f.2)).bind fun p=>(Oj L bj 15 (wJ L p.2) ns []).map fun B=>
    (I4 L B.1,B.2.1,⟨(cF L (aC st)).1,f.1,0, -1,(tk L st).line,(tk L st).az,true,p.1,B.2.2⟩)
  else (bj 0 (f.2,ns)).map fun x=>(x.2.1,x.2.2,⟨(cF L (aC st)).1,f.1,0,x.1,(tk L st).line,(tk L st).az,false,[],[]⟩)
theorem agY {l c:Int} {a:Bool} {h:KH}:iA Tryz.prog 47 [(4,iV l),(5,iV c),(6,.bool a),(3,iV (-1))] h=.ok (.agg #[ah [],.slice none 0 0,iV 0,iV (-1),iV l,iV c,.bool a,.slice none 0 0,.slice none 0 0]) h:=by kernel_rfl
theorem agf {s:bC} {h:KH}:iA Tryz.prog 109 [(3,ah s)] h=.ok (.agg #[iV 0,iV 0,iV 0,ah s,ah [],.slice none 0 0,.slice none 0 0]) h:=by kernel_rfl
theorem ac4 (hL:LG L) {bj:qZ} (dy:∀{c1 c2 c3},CF L F c1 c2 c3 q rb bj) (h:DF L F c1 c2 c3 H q rb st P mM gM mR gR mD gD m g) (hz:H.fz rb=false) (xv:H.fz q=false) (uA:∀c∈mM++(mR++(mD++m)),H.fz c=false) (iO:(tk L st).kind≠4) (bf:P.defs.length < 16) {fuel:Nat} {R:aV × List aJ × gh} (he:Nb L bj fuel st P.nodes=some R):
  aj Tryz.prog 100 #[pV q] H (fun w H'=>FX L F H q rb (mM++(mR++(mD++m))) (gM++(gR++(gD++g))) R.1 {P with nodes:=R.2.1,defs:=P.defs++[R.2.2]} H'):=by
 refine aj.told ?_
 refine aiO (Nat.le_refl _) fun hf=>?_
 simp only [Tryz.f100,Option.getD_some]
 have eO:=h.Of hz xv uA fun b hb=>hf.fresh hb
 obtain ⟨aD,rfl⟩:=h.hD.val
 have r0:=NR.start eO
 have fK:=hL.len
 simp only [go_sem]
 refine ag.by (sY eO.cq) ?_
 rintro _ H1 - ⟨rfl,p1⟩
 have r1:=r0.bh p1
 have yE:=p1.1.nx
 have ey:H.fz H1.next=false:=hf.fresh yE
 have i6:∀{c:Nat},H.next<=c->c∉[rb]:=fun hc=>by have:=(eO.pp.fresh hc).2.1;simpa using this
 have r2:=r1.push ⟨iC (tk L st),72,false,false⟩
 have Sy:(H1.push ⟨iC (tk L st),72,false,false⟩).get H1.next=some ⟨iC (tk L st),72,false,false⟩:=by rw [aZ,if_pos rfl]
 simp only [go_sem,ey]
 refine ag.by (gH r2.nq.cq) ?_
 rintro _ H3 - ⟨rfl,p3⟩
 have r3:=r2.bh p3
 have n13:H1.next+1<=H3.next:=p3.1.nx
 have KP:=(p3.1.get H1.next (Nat.lt_succ_self _) (i6 yE)).trans Sy
 have Bw:H.fz H3.next=false:=hf.fresh (by omega)
 have yC:¬q=H3.next:=by have:=r3.nq.pp.ql;omega
 have yB:¬rb=H3.next:=by have:=r3.nq.pp.rl;omega
 have Ae:¬H3.next=rb:=fun e=>yB e.symm
 have ng3:H3.next∉m/\H3.next∉g:=⟨fun e=>by have:=(r3.nq.hm _ e).1;omega,fun e=>by have:=(r3.nq.hg _ e).1;omega⟩
 rw [Nb] at he
 generalize cW L [97,99,116,111,114] st=ac at he ⊢
 have r4:=r3.push ⟨ff ⟨[],[],0, -1,(tk L st).line,(tk L st).az,ac,[],[]⟩ (.slice none 0 0) (.slice none 0 0) (.slice none 0 0),47,false,false⟩
 have db4:DB H (H3.push ⟨ff ⟨[],[],0, -1,(tk L st).line,(tk L st).az,ac,[],[]⟩ (.slice none 0 0) (.slice none 0 0) (.slice none 0 0),47,false,false⟩) m g H3.next ⟨[],[],0, -1,(tk L st).line,(tk L st).az,ac,[],[]⟩ (.slice none 0 0) (.slice none 0 0) (.slice none 0 0) [] [] [] []:=
  ⟨by rw [aZ,if_pos rfl],by simp,⟨by omega,Nat.lt_succ_self _,ng3⟩,.inl ⟨rfl,rfl,rfl⟩,.inl ⟨rfl,rfl,rfl⟩,Gr.nil _ _ _,by simp⟩
 obtain ⟨d1,d2,d3,d4,bL,oL,cL,a,j,c,hq,hr,db,pa⟩:=r4.nq.cq.i5 hL iO
 have r5:=r4.bh pa
 have db5:=db4.ae (m3:=m) (g3:=g) pa.1 (fun c hc=>i6 hc.1) (fun _ h=>.inl h) (fun _ h=>.inl h)
 rw [aZ,if_neg yC] at hq
 rw [aZ,if_neg yB] at hr
 simp only [go_sem,Sy,KP,agY,Bw,yC,yB,Ae,hq,hr,hz,db]
 refine ag.by (jS hL r5.nq.cq) ?_
 rintro _ H6 - ⟨rfl,p6⟩
 have r6:=r5.bh p6
 have X8:=db5.ae (m3:=m) (g3:=g) p6.1 (fun c hc=>i6 hc.1) (fun _ h=>.inl h) (fun _ h=>.inl h)
 generalize cF L (aC st)=y at p6 r6 he
 have X9:=X8.hb
 have db7:=X8.put (d':=⟨y.1,[],0, -1,(tk L st).line,(tk L st).az,ac,[],[]⟩) (EO:=.slice none 0 0) (qm:=.slice none 0 0) (EP:=.slice none 0 0) (Da:=[]) (tx:=[]) (Db:=[]) (ER:=[]) (by simp) (.inl ⟨rfl,rfl,rfl⟩) (.inl ⟨rfl,rfl,rfl⟩) (Gr.nil _ _ _) (by simp)
 have r7:=r6.other eO (M:=[H3.next]) ((Fr.refl _ _).ai (b:=H3.next) (.inl (by simp)) ⟨ff ⟨y.1,[],0, -1,(tk L st).line,(tk L st).az,ac,[],[]⟩ (.slice none 0 0) (.slice none 0 0) (.slice none 0 0),47,false,false⟩) (fun c hc=>by rw [List.mem_singleton] at hc;subst hc;exact X8.mb) (fun _ _=>rfl)
 simp only [go_sem,X9,Bw]
 cases Ya:I5 L fuel y.2 with
 | none=>rw [Ya] at he;cases he
 | some f=>
 obtain ⟨fl,s8⟩:=f
 rw [Ya] at he
 simp only [Option.bind_some] at he
 refine ag.by (aaV hL r7.nq.cq Ya) ?_
 rintro vF H8 - ⟨⟨gF,hsF,hnF⟩,p8⟩
 have r8:=r7.bh p8
 have Yb:=db7.ae (m3:=m) (g3:=g) p8.1 (fun c hc=>i6 hc.1) (fun _ h=>.inl h) (fun _ h=>.inl h)
 obtain ⟨aF,kF,rfl⟩:=hsF.val
 have gb8:=Yb.hb
 have xq:∀c∈gF,ew H H8 m g c/\c≠H3.next:=fun c hc=>by
  have h1:=(hnF c hc).1
  have h2:=(hnF c hc).2
  have h3:=r7.fr.nx
  have h4:=db7.mb.2.1
  exact ⟨⟨by omega,h2,fun e=>by have:=(r7.nq.hm _ e).1;omega,fun e=>by have:=(r7.nq.hg _ e).1;omega⟩,by omega⟩
 have Yc:=Yb.put (d':=⟨y.1,fl,0, -1,(tk L st).line,(tk L st).az,ac,[],[]⟩) (EO:=.slice aF fl.length kF) (qm:=.slice none 0 0) (EP:=.slice none 0 0) (Da:=gF) (tx:=[]) (Db:=[]) (ER:=[]) (by simpa using xq) hsF (.inl ⟨rfl,rfl,rfl⟩) (Gr.nil _ _ _) (by simp)
 have r9:=r8.other eO (M:=[H3.next]) ((Fr.refl _ _).ai (b:=H3.next) (.inl (by simp)) ⟨ff ⟨y.1,fl,0, -1,(tk L st).line,(tk L st).az,ac,[],[]⟩ (.slice aF fl.length kF) (.slice none 0 0) (.slice none 0 0),47,false,false⟩) (fun c hc=>by rw [List.mem_singleton] at hc;subst hc;exact Yb.mb) (fun _ _=>rfl)
 have Sz:=Yc.hb
 cases ac with
 | false=>
  rw [if_neg Bool.false_ne_true] at he
  cases eG:bj 0 (s8,P.nodes) with
  | none=>rw [eG] at he;cases he
  | some B=>
   obtain ⟨bi,bs,bn⟩:=B
   rw [eG] at he
   cases he
   simp only [go_sem,gb8,Bw]
   refine ag.by (dy r9.nq eG) ?_
   rintro _ du - ⟨rfl,nK⟩
   obtain ⟨tu,uz,cS,s10,t10⟩:=r9.call nK
   have zy:=Yc.ae nK.1 (fun c hc=>by
    obtain ⟨e1,e2,e3⟩:=eO.pp.fresh hc.1
    simp only [List.mem_cons,not_or]
    exact ⟨e2,e1,hc.2.2.1⟩) s10 t10
   have apV:=zy.hb
   obtain ⟨Nc,Gx,_⟩:=cS.cells
   have Ei:=zy.put (d':=⟨y.1,fl,0,bi,(tk L st).line,(tk L st).az,false,[],[]⟩) (EO:=.slice aF fl.length kF) (qm:=.slice none 0 0) (EP:=.slice none 0 0) (Da:=gF) (tx:=[]) (Db:=[]) (ER:=[]) zy.ig zy.sF zy.sP zy.gO zy.HF
   have dV:=cS.other eO (M:=[H3.next]) ((Fr.refl _ _).ai (b:=H3.next) (.inl (by simp)) ⟨ff ⟨y.1,fl,0,bi,(tk L st).line,(tk L st).az,false,[],[]⟩ (.slice aF fl.length kF) (.slice none 0 0) (.slice none 0 0),47,false,false⟩) (fun c hc=>by rw [List.mem_singleton] at hc;subst hc;exact zy.mb) (fun _ _=>rfl)
   have rp:=dV.push ⟨ff ⟨y.1,fl,0,bi,(tk L st).line,(tk L st).az,false,[],[]⟩ (.slice aF fl.length kF) (.slice none 0 0) (.slice none 0 0),47,false,false⟩
   have lv:=Ei.push ⟨ff ⟨y.1,fl,0,bi,(tk L st).line,(tk L st).az,false,[],[]⟩ (.slice aF fl.length kF) (.slice none 0 0) (.slice none 0 0),47,false,false⟩
   have nN:=h.nr rp
   have HG:=Ei.mb.2.1
   obtain ⟨Ok,sw,_⟩:=rp.cells
   simp only [go_sem,Gx,apV,Bw,yC,eX xU (by decide) (by decide)]
   refine lA (r:=kV) (x:=⟨y.1,fl,0,bi,(tk L st).line,(tk L st).az,false,[],[]⟩) xU nN.hD (fun c hc=>(nN.xD c hc).1.1) (fun c hc=>(nN.hG c (by simp [hc])).1) (fun c hc=>⟨(lv.ig c hc).1.2.1,fun e=>by have:=(h.xD c e).1.1;have:=(lv.ig c hc).1.1;omega⟩) (fun c hc=>uA c (by simp [hc])) (by rw [aZ];exact if_pos rfl) ⟨_,_,_,_,_,_,rfl,rfl,lv.sF,lv.sP,lv.gO.sl⟩ rfl (by show (P.defs.length+1) * 128 < _;omega) ?_
   intro v7 H7 cA eu jU dA kY
   have lu:=(jU q rp.nq.pp.ql (fun e=>(h.xD q e).1.2.2.1 rfl)).trans sw
   obtain ⟨a7,rfl⟩:=cA.val
   have oi:=h.Rf rp sw cA (fun c hc=>(lv.ig c hc).1) dA eu bf
   simp only [go_sem,lu,xv]
   exact oi
 | true=>
  rw [if_pos rfl] at he
  cases wU:CC L fuel (dO L [58] s8) with
  | none=>rw [wU] at he;cases he
  | some x=>
  obtain ⟨pp,XX⟩:=x
  rw [wU] at he
  simp only [Option.bind_some] at he
  cases oD:Oj L bj 15 (wJ L XX) P.nodes [] with
  | none=>rw [oD] at he;cases he
  | some B=>
  rw [oD] at he
  cases he
  simp only [go_sem,gb8,Bw]
  refine ag.by (i3 hL r9.nq.cq) ?_
  rintro _ du - nK
  have cS:=r9.bh nK
  have zy:=Yc.ae (m3:=m) (g3:=g) nK.1 (fun c hc=>i6 hc.1) (fun _ h=>.inl h) (fun _ h=>.inl h)
  simp only [go_sem]
  refine ag.by (QL hL cS.nq.cq wU) ?_
  rintro vp eA - ⟨⟨gP,hsP,hnP⟩,sj⟩
  have dV:=cS.bh sj
  have Ei:=zy.ae (m3:=m) (g3:=g) sj.1 (fun c hc=>i6 hc.1) (fun _ h=>.inl h) (fun _ h=>.inl h)
  obtain ⟨aP,kP,rfl⟩:=hsP.val
  have apW:=Ei.hb
  have hmP:∀c∈gP,ew H eA m g c/\c≠H3.next:=fun c hc=>by
   have h1:=(hnP c hc).1
   have h2:=(hnP c hc).2
   have h3:=cS.fr.nx
   have h4:=zy.mb.2.1
   exact ⟨⟨by omega,h2,fun e=>by have:=(cS.nq.hm _ e).1;omega,fun e=>by have:=(cS.nq.hg _ e).1;omega⟩,by omega⟩
  have apX:=Ei.put (d':=⟨y.1,fl,0, -1,(tk L st).line,(tk L st).az,true,pp,[]⟩) (EO:=.slice aF fl.length kF) (qm:=.slice aP pp.length kP) (EP:=.slice none 0 0) (Da:=gF) (tx:=gP) (Db:=[]) (ER:=[]) (fun c hc=>by
   rcases List.mem_append.1 hc with e | e
   ·exact Ei.ig c (List.mem_append_left _ e)
   ·exact hmP c (by simpa using e)) Ei.sF hsP (Gr.nil _ _ _) (by simp)
  have dF:=dV.other eO (M:=[H3.next]) ((Fr.refl _ _).ai (b:=H3.next) (.inl (by simp)) ⟨ff ⟨y.1,fl,0, -1,(tk L st).line,(tk L st).az,true,pp,[]⟩ (.slice aF fl.length kF) (.slice aP pp.length kP) (.slice none 0 0),47,false,false⟩) (fun c hc=>by rw [List.mem_singleton] at hc;subst hc;exact Ei.mb) (fun _ _=>rfl)
  simp only [go_sem,apW,Bw]
  refine ag.by (UE hL dF.nq.cq) ?_
  rintro _ ux - qj
  have la:=dF.bh qj
  have apY:=apX.ae (m3:=m) (g3:=g) qj.1 (fun c hc=>i6 hc.1) (fun _ h=>.inl h) (fun _ h=>.inl h)
  simp only [go_sem]
  refine qA 4951760157105492302577532944 (fun n V H2=>∃bH cB m2 g2 l vO mB gB,NR L F c1 c2 (.slice aD P.defs.length P.defs.length) H q rb P.nodes m g H2 bH cB m2 g2/\DB H H2 m2 g2 H3.next ⟨y.1,fl,0, -1,(tk L st).line,(tk L st).az,true,pp,l⟩ (.slice aF fl.length kF) (.slice aP pp.length kP) vO gF gP mB gB/\l.length<=13/\Oj L bj n bH cB l=some B) (n:=15)
   ⟨_,P.nodes,m,g,[],_,[],[],la,apY,by simp,oD⟩ ?_ (by rfl)
  rintro n V oB ⟨bH,cB,m2,g2,l,vO,mB,gB,nL,VJ,apI,oD⟩
  cases n with
  | zero=>cases oD
  | succ n=>
  rw [Oj] at oD
  obtain ⟨aO,HH⟩:=VJ.gO.val
  subst HH
  have out:∀{Q:Prop},Q->Q:=fun q=>q
  simp only [go_sem]
  refine ag.by (fA nL.nq.cq) ?_
  rintro _ _ - ⟨rfl,rfl⟩
  by_cases hb:dj bH=true
  ·simp only [go_sem,hb]
   refine ag.by (gH nL.nq.cq) ?_
   rintro _ mY - ⟨rfl,KQ⟩
   have tq:=nL.bh KQ
   have Rg:=VJ.ae (m3:=m2) (g3:=g2) KQ.1 (fun c hc=>i6 hc.1) (fun _ h=>.inl h) (fun _ h=>.inl h)
   have apZ:=Rg.hb
   by_cases hw:cW L [111,110] bH=true
   ·rw [if_pos ⟨hb,hw⟩] at oD
    simp only [go_sem,hw,apZ]
    by_cases yp:12 < l.length
    ·have zu:(12:Int) < ((l.length:Nat):Int):=by omega
     rw [if_pos yp] at oD
     cases oD
     simp only [go_sem,zu]
     refine ag.by (lU tq.nq.cq) ?_
     rintro _ H16 - p16
     have Hw:=tq.bh p16
     have VK:=Rg.ae (m3:=m2) (g3:=g2) p16.1 (fun c hc=>i6 hc.1) (fun _ h=>.inl h) (fun _ h=>.inl h)
     simp only [go_sem]
     refine ag.by (ru hL Hw.nq.cq) ?_
     rintro _ H50 - ES
     have ET:=Hw.bh ES
     have zA:=VK.ae (m3:=m2) (g3:=g2) ES.1 (fun c hc=>i6 hc.1) (fun _ h=>.inl h) (fun _ h=>.inl h)
     have Nd:=zA.hb
     obtain ⟨ad6,Nf,_⟩:=ET.cells
     have rp:=ET.push ⟨ff ⟨y.1,fl,0, -1,(tk L st).line,(tk L st).az,true,pp,l⟩ (.slice aF fl.length kF) (.slice aP pp.length kP) (.slice aO l.length l.length),47,false,false⟩
     have lv:=zA.push ⟨ff ⟨y.1,fl,0, -1,(tk L st).line,(tk L st).az,true,pp,l⟩ (.slice aF fl.length kF) (.slice aP pp.length kP) (.slice aO l.length l.length),47,false,false⟩
     have nN:=h.nr rp
     have HG:=zA.mb.2.1
     obtain ⟨Ok,sw,_⟩:=rp.cells
     simp only [go_sem,Nf,Nd,Bw,yC,eX xU (by decide) (by decide)]
     refine lA (r:=kV) (x:=⟨y.1,fl,0, -1,(tk L st).line,(tk L st).az,true,pp,l⟩) xU nN.hD (fun c hc=>(nN.xD c hc).1.1) (fun c hc=>(nN.hG c (by simp [hc])).1) (fun c hc=>⟨(lv.ig c hc).1.2.1,fun e=>by have:=(h.xD c e).1.1;have:=(lv.ig c hc).1.1;omega⟩) (fun c hc=>uA c (by simp [hc])) (by rw [aZ];exact if_pos rfl) ⟨_,_,_,_,_,_,rfl,rfl,lv.sF,lv.sP,lv.gO.sl⟩ rfl (by show (P.defs.length+1) * 128 < _;omega) ?_
     intro v7 H7 cA eu jU dA kY
     have lu:=(jU q rp.nq.pp.ql (fun e=>(h.xD q e).1.2.2.1 rfl)).trans sw
     obtain ⟨a7,rfl⟩:=cA.val
     have oi:=h.Rf rp sw cA (fun c hc=>(lv.ig c hc).1) dA eu bf
     simp only [go_sem,lu,xv]
     exact oi
    ·have zu:¬(12:Int) < ((l.length:Nat):Int):=by omega
     rw [if_neg yp] at oD
     simp only [go_sem,zu]
     obtain ⟨d1,d2,d3,d4,bL,oL,cL,a,j,c,hq,hr,db,pa⟩:=tq.nq.cq.i5 hL (jT hw)
     have Hw:=tq.bh pa
     have VK:=Rg.ae (m3:=m2) (g3:=g2) pa.1 (fun c hc=>i6 hc.1) (fun _ h=>.inl h) (fun _ h=>.inl h)
     simp only [go_sem,hq,hr,hz,db]
     refine ag.by (jS hL Hw.nq.cq) ?_
     rintro _ qq - ⟨rfl,Yd⟩
     have HI:=Hw.bh Yd
     have VM:=VK.ae (m3:=m2) (g3:=g2) Yd.1 (fun c hc=>i6 hc.1) (fun _ h=>.inl h) (fun _ h=>.inl h)
     generalize cF L (aC bH)=z at Yd HI oD
     have VN:=HI.fr.nx
     have xy:H.fz qq.next=false:=hf.fresh VN
     simp only [go_sem,agf,xy]
     have r18:=HI.push ⟨cJ ⟨0,0,0,z.1,[],[],[]⟩ (.slice none 0 0) (.slice none 0 0),109,false,false⟩
     have ap0:=VM.push ⟨cJ ⟨0,0,0,z.1,[],[],[]⟩ (.slice none 0 0) (.slice none 0 0),109,false,false⟩
     have g18:(qq.push ⟨cJ ⟨0,0,0,z.1,[],[],[]⟩ (.slice none 0 0) (.slice none 0 0),109,false,false⟩).get qq.next=some ⟨cJ ⟨0,0,0,z.1,[],[],[]⟩ (.slice none 0 0) (.slice none 0 0),109,false,false⟩:=by rw [aZ,if_pos rfl]
     refine ag.by (abw hL r18.nq.cq) ?_
     rintro vN KR - ⟨⟨gN,Gv,X4⟩,Ol⟩
     have r19:=r18.bh Ol
     have ap1:=ap0.ae (m3:=m2) (g3:=g2) Ol.1 (fun c hc=>i6 hc.1) (fun _ h=>.inl h) (fun _ h=>.inl h)
     have aAO:qq.next+1<=KR.next:=Ol.1.nx
     have g19:=(Ol.1.get qq.next (Nat.lt_succ_self _) (i6 VN)).trans g18
     obtain ⟨aN,kN,rfl⟩:=Gv.val
     generalize AT L z.2=w at Ol r19 Gv oD
     have HC:∀c∈gN,qq.next+1<=c/\c < KR.next:=X4
     have ad7:ew H KR m2 g2 qq.next:=⟨VN,by omega,fun e=>by have:=(HI.nq.hm _ e).1;omega,fun e=>by have:=(HI.nq.hg _ e).1;omega⟩
     have HJ:∀c∈gF++(gP++(mB++gB)),c < qq.next:=fun c hc=>(VM.ig c hc).1.2.1
     have SA:H3.next < qq.next:=VM.mb.2.1
     have rN:=r19.other eO (M:=[qq.next]) ((Fr.refl _ _).ai (b:=qq.next) (.inl (by simp)) ⟨cJ ⟨0,0,0,z.1,[],[],w.1⟩ (.slice none 0 0) (.slice aN w.1.length kN),109,false,false⟩) (fun c hc=>by rw [List.mem_singleton] at hc;subst hc;exact ad7) (fun _ _=>rfl)
     have Ye:=ap1.ac3 ⟨cJ ⟨0,0,0,z.1,[],[],w.1⟩ (.slice none 0 0) (.slice aN w.1.length kN),109,false,false⟩ (b:=qq.next) (by omega) (fun e=>by have:=HJ _ e;omega)
     cases eG:bj 0 (w.2,cB) with
     | none=>rw [eG] at oD;cases oD
     | some B2=>
      obtain ⟨bi,bs,bn⟩:=B2
      rw [eG] at oD
      simp only [Option.bind_some] at oD
      simp only [go_sem,g19,xy]
      refine ag.by (dy rN.nq eG) ?_
      rintro _ lL - ⟨rfl,ld⟩
      have mX:∀c∈gN,ew H (KR.ai qq.next ⟨cJ ⟨0,0,0,z.1,[],[],w.1⟩ (.slice none 0 0) (.slice aN w.1.length kN),109,false,false⟩) m2 g2 c/\c≠qq.next:=fun c hc=>by
       have:=HC c hc
       exact ⟨⟨by omega,by show c < KR.next;omega,fun e=>by have:=(HI.nq.hm _ e).1;omega,fun e=>by have:=(HI.nq.hg _ e).1;omega⟩,by omega⟩
      have C7:Sl .str (KR.ai qq.next ⟨cJ ⟨0,0,0,z.1,[],[],w.1⟩ (.slice none 0 0) (.slice aN w.1.length kN),109,false,false⟩) (.slice aN w.1.length kN) (⟨0,0,0,z.1,[],[],w.1⟩:fu).names gN:=Gv.ae fun c hc=>by rw [aH,if_neg (mX c hc).2]
      obtain ⟨lg,lh,Mx,M7,KL,t20,My⟩:=Ur eO rN Ye.gO (fun c hc=>⟨(Ye.ig c (List.mem_append_right _ (List.mem_append_right _ hc))).1,by have:=HJ c (List.mem_append_right _ (List.mem_append_right _ hc));omega⟩) ad7 (by rw [aH,if_pos rfl]) rfl C7 mX ld
      obtain ⟨uy,F6,uh,zt,M8⟩:=My bi
      have VO:DB H lL lg lh H3.next ⟨y.1,fl,0, -1,(tk L st).line,(tk L st).az,true,pp,l⟩ (.slice aF fl.length kF) (.slice aP pp.length kP) (.slice aO l.length l.length) gF gP mB gB:=Ye.ae ld.1 (fun c hc=>by
       obtain ⟨e1,e2,e3⟩:=eO.pp.fresh hc.1
       simp only [List.mem_cons,not_or]
       exact ⟨e2,e1,hc.2.2.1⟩) KL t20
      have ap2:=VO.hb
      have Rh:=(VO.ac3 ⟨cJ ⟨0,0,bi,z.1,[],[],w.1⟩ (.slice none 0 0) (.slice aN w.1.length kN),109,false,false⟩ (b:=qq.next) (by omega) (fun e=>by have:=HJ _ e;omega)).push ⟨cJ ⟨0,0,bi,z.1,[],[],w.1⟩ (.slice none 0 0) (.slice aN w.1.length kN),109,false,false⟩
      have nd1:¬H3.next=qq.next:=by omega
      have nd2:¬H3.next=lL.next:=by have:=VO.mb.2.1;omega
      simp only [go_sem,Mx,xy,M7,ap2,nd1,nd2,eX A3 (by decide) (by decide)]
      refine lA (r:=eQ) A3 F6 (fun c hc=>(uh c (by simp [hc])).2.1) (fun c hc=>(uh c (by simp [hc])).2.1) (fun c hc=>⟨(zt c hc).2.1,fun e=>by have:=HC c hc;have:=HJ c (List.mem_append_right _ (List.mem_append_right _ (List.mem_append_left _ e)));omega⟩) (fun c hc=>hf.fresh (uh c (by simp [hc])).1) (by rw [aZ];exact if_pos rfl) M8 rfl (by show (l.length+1) * 104 < _;omega) ?_
      intro v7 H7 cA eu jU dA kY
      obtain ⟨r7',Ss⟩:=Uh eO uy uh zt dA eu kY
      have ad8:=Rh.app (v7:=v7) (x:=⟨0,0,bi,z.1,[],[],w.1⟩) (gN:=gN) uy.fr.nx (fun c hc=>(uy.nq.hm c hc).1) (fun c hc=>(uy.nq.hg c hc).1) cA dA eu (fun c hc=>⟨zt c hc,by have:=HC c hc;omega⟩)
      have ap3:=(jU H3.next Rh.mb.2.1 (fun e=>(Rh.ig H3.next (by simp [e])).2 rfl)).trans Rh.hb
      obtain ⟨a7,rfl⟩:=cA.val
      have r8':=r7'.other eO (M:=[H3.next]) ((Fr.refl _ _).ai (b:=H3.next) (.inl (by simp)) ⟨ff ⟨y.1,fl,0, -1,(tk L st).line,(tk L st).az,true,pp,l++[⟨0,0,bi,z.1,[],[],w.1⟩]⟩ (.slice aF fl.length kF) (.slice aP pp.length kP) (.slice a7 (l++[(⟨0,0,bi,z.1,[],[],w.1⟩:fu)]).length (l++[(⟨0,0,bi,z.1,[],[],w.1⟩:fu)]).length),47,false,false⟩) (fun c hc=>by rw [List.mem_singleton] at hc;subst hc;exact ad8.mb) (fun _ _=>rfl)
      simp only [go_sem,ap3,Bw]
      exact ⟨n,by omega,bs,bn,lg,lh,l++[⟨0,0,bi,z.1,[],[],w.1⟩],_,_,_,r8',ad8,by rw [List.length_append,List.length_singleton];omega,oD⟩
   ·rw [if_neg (fun e=>hw e.2)] at oD
    cases oD
    simp only [go_sem,hw]
    refine ag.by (ru hL tq.nq.cq) ?_
    rintro _ H50 - ES
    have ET:=tq.bh ES
    have zA:=Rg.ae (m3:=m2) (g3:=g2) ES.1 (fun c hc=>i6 hc.1) (fun _ h=>.inl h) (fun _ h=>.inl h)
    have Nd:=zA.hb
    obtain ⟨ad6,Nf,_⟩:=ET.cells
    have rp:=ET.push ⟨ff ⟨y.1,fl,0, -1,(tk L st).line,(tk L st).az,true,pp,l⟩ (.slice aF fl.length kF) (.slice aP pp.length kP) (.slice aO l.length l.length),47,false,false⟩
    have lv:=zA.push ⟨ff ⟨y.1,fl,0, -1,(tk L st).line,(tk L st).az,true,pp,l⟩ (.slice aF fl.length kF) (.slice aP pp.length kP) (.slice aO l.length l.length),47,false,false⟩
    have nN:=h.nr rp
    have HG:=zA.mb.2.1
    obtain ⟨Ok,sw,_⟩:=rp.cells
    simp only [go_sem,Nf,Nd,Bw,yC,eX xU (by decide) (by decide)]
    refine lA (r:=kV) (x:=⟨y.1,fl,0, -1,(tk L st).line,(tk L st).az,true,pp,l⟩) xU nN.hD (fun c hc=>(nN.xD c hc).1.1) (fun c hc=>(nN.hG c (by simp [hc])).1) (fun c hc=>⟨(lv.ig c hc).1.2.1,fun e=>by have:=(h.xD c e).1.1;have:=(lv.ig c hc).1.1;omega⟩) (fun c hc=>uA c (by simp [hc])) (by rw [aZ];exact if_pos rfl) ⟨_,_,_,_,_,_,rfl,rfl,lv.sF,lv.sP,lv.gO.sl⟩ rfl (by show (P.defs.length+1) * 128 < _;omega) ?_
    intro v7 H7 cA eu jU dA kY
    have lu:=(jU q rp.nq.pp.ql (fun e=>(h.xD q e).1.2.2.1 rfl)).trans sw
    obtain ⟨a7,rfl⟩:=cA.val
    have oi:=h.Rf rp sw cA (fun c hc=>(lv.ig c hc).1) dA eu bf
    simp only [go_sem,lu,xv]
    exact oi
  ·rw [if_neg (fun e=>hb e.1)] at oD
   cases oD
   simp only [go_sem,hb]
   refine ag.by (ru hL nL.nq.cq) ?_
   rintro _ H50 - ES
   have ET:=nL.bh ES
   have zA:=VJ.ae (m3:=m2) (g3:=g2) ES.1 (fun c hc=>i6 hc.1) (fun _ h=>.inl h) (fun _ h=>.inl h)
   have Nd:=zA.hb
   obtain ⟨ad6,Nf,_⟩:=ET.cells
   have rp:=ET.push ⟨ff ⟨y.1,fl,0, -1,(tk L st).line,(tk L st).az,true,pp,l⟩ (.slice aF fl.length kF) (.slice aP pp.length kP) (.slice aO l.length l.length),47,false,false⟩
   have lv:=zA.push ⟨ff ⟨y.1,fl,0, -1,(tk L st).line,(tk L st).az,true,pp,l⟩ (.slice aF fl.length kF) (.slice aP pp.length kP) (.slice aO l.length l.length),47,false,false⟩
   have nN:=h.nr rp
   have HG:=zA.mb.2.1
   obtain ⟨Ok,sw,_⟩:=rp.cells
   simp only [go_sem,Nf,Nd,Bw,yC,eX xU (by decide) (by decide)]
   refine lA (r:=kV) (x:=⟨y.1,fl,0, -1,(tk L st).line,(tk L st).az,true,pp,l⟩) xU nN.hD (fun c hc=>(nN.xD c hc).1.1) (fun c hc=>(nN.hG c (by simp [hc])).1) (fun c hc=>⟨(lv.ig c hc).1.2.1,fun e=>by have:=(h.xD c e).1.1;have:=(lv.ig c hc).1.1;omega⟩) (fun c hc=>uA c (by simp [hc])) (by rw [aZ];exact if_pos rfl) ⟨_,_,_,_,_,_,rfl,rfl,lv.sF,lv.sP,lv.gO.sl⟩ rfl (by show (P.defs.length+1) * 128 < _;omega) ?_
   intro v7 H7 cA eu jU dA kY
   have lu:=(jU q rp.nq.pp.ql (fun e=>(h.xD q e).1.2.2.1 rfl)).trans sw
   obtain ⟨a7,rfl⟩:=cA.val
   have oi:=h.Rf rp sw cA (fun c hc=>(lv.ig c hc).1) dA eu bf
   simp only [go_sem,lu,xv]
   exact oi
end
section
variable {L:List bJ} {F:List Nat} {c1 c2 c3:Value} {H H1 H2 H3 H6 H7:ad} {q rb nb:Nat} {st bu bH eZ:aV} {P:cC} {ns bZ cB Aj:List aJ} {mM gM mR gR mD gD m g m1 g1 m2 g2 m3 g3 m6 g6:List Nat}
theorem DF.same (h:DF L F c1 c2 c3 H q rb st P mM gM mR gR mD gD m g) (r:NR L F c1 c2 c3 H q rb P.nodes m g H6 eZ P.nodes m g):FX L F H q rb (mM++(mR++(mD++m))) (gM++(gR++(gD++g))) eZ P (H6.af H.fz):=by
 refine ⟨(r.fr.sub fun c hc=>.inl ?_).af _,fun _=>rfl,_,_,(h.nr r).q0.af,fun _ h=>.inl h,fun _ h=>.inl h⟩
 simp only [List.mem_cons,List.mem_append] at hc ⊢
 rcases hc with e | e | e <;> simp [e]
def JK (L:List bJ) (bj:qZ) (fuel:Nat) (st:aV) (P:cC):Option (aV × cC):=
 if cW L [109,115,103] st=true then
  (if 12<=P.msgs.length then some (fD 3 st,P)
  else (Qs L fuel (cF L (aC st)).2).map fun t=>(dO L [59] t.2,{P with msgs:=P.msgs++[⟨(cF L (aC st)).1,t.1,(tk L st).line,(tk L st).az⟩]}))
 else if cW L [114,101,99] st=true then
  (if 8<=P.dk.length then some (fD 3 st,P)
  else (I5 L fuel (cF L (aC st)).2).map fun t=>(dO L [59] t.2,{P with dk:=P.dk++[⟨(cF L (aC st)).1,t.1,(tk L st).line,(tk L st).az⟩]}))
 else if cW L [100,101,102] st=true∨cW L [97,99,116,111,114] st=true then
  (if 16<=P.defs.length then some (fD 3 st,P)
  else (Nb L bj fuel st P.nodes).map fun R=>(R.1,{P with nodes:=R.2.1,defs:=P.defs++[R.2.2]}))
 else some (fD 2 st,P)
theorem agZ {s:bC} {l c:Int} {h:KH}:iA Tryz.prog 114 [(2,iV l),(3,iV c),(0,ah s)] h=.ok (.agg #[ah s,.slice none 0 0,iV l,iV c]) h:=by kernel_rfl
theorem ag0 {s:bC} {l c:Int} {h:KH}:iA Tryz.prog 153 [(2,iV l),(3,iV c),(0,ah s)] h=.ok (.agg #[ah s,.slice none 0 0,iV l,iV c]) h:=by kernel_rfl
theorem alg (hL:LG L) {bj:qZ} (dy:∀{c1 c2 c3},CF L F c1 c2 c3 q rb bj) (h:DF L F c1 c2 c3 H q rb st P mM gM mR gR mD gD m g) (hz:H.fz rb=false) (xv:H.fz q=false) (uA:∀c∈mM++(mR++(mD++m)),H.fz c=false) {fuel:Nat} {R:aV × cC} (he:JK L bj fuel st P=some R):
  aj Tryz.prog 76 #[pV q] H (fun w H'=>FX L F H q rb (mM++(mR++(mD++m))) (gM++(gR++(gD++g))) R.1 R.2 H'):=by
 refine aj.told ?_
 refine anh (Nat.le_refl _) fun hf=>?_
 simp only [Tryz.f76,Option.getD_some]
 have eO:=h.Of hz xv uA fun b hb=>hf.fresh hb
 obtain ⟨aM,rfl⟩:=h.hM.val
 obtain ⟨aR,rfl⟩:=h.hR.val
 obtain ⟨aD,rfl⟩:=h.hD.val
 have r0:=NR.start eO
 have fK:=hL.len
 simp only [go_sem]
 refine ag.by (sY eO.cq) ?_
 rintro _ H1 - ⟨rfl,p1⟩
 have r1:=r0.bh p1
 have yE:=p1.1.nx
 have ey:H.fz H1.next=false:=hf.fresh yE
 have i6:∀{c:Nat},H.next<=c->c∉[rb]:=fun hc=>by have:=(eO.pp.fresh hc).2.1;simpa using this
 have r2:=r1.push ⟨iC (tk L st),72,false,false⟩
 have Sy:(H1.push ⟨iC (tk L st),72,false,false⟩).get H1.next=some ⟨iC (tk L st),72,false,false⟩:=by rw [aZ,if_pos rfl]
 simp only [go_sem,ey]
 refine ag.by (gH r2.nq.cq) ?_
 rintro _ H3 - ⟨rfl,p3⟩
 have r3:=r2.bh p3
 have n13:H1.next+1<=H3.next:=p3.1.nx
 have KP:=(p3.1.get H1.next (Nat.lt_succ_self _) (i6 yE)).trans Sy
 by_cases fP:cW L [109,115,103] st=true
 ·rw [JK,if_pos fP] at he
  obtain ⟨SB,xA,_⟩:=r3.cells
  by_cases zD:12<=P.msgs.length
  ·have tY:(12:Int)<=((P.msgs.length:Nat):Int):=by omega
   rw [if_pos zD] at he
   cases he
   simp only [go_sem,fP,xA,tY]
   refine ag.by (lU r3.nq.cq) ?_
   rintro _ H5 - p5
   have r5:=r3.bh p5
   simp only [go_sem]
   exact h.same r5
  have tY:¬((12:Int)<=((P.msgs.length:Nat):Int)):=by omega
  rw [if_neg zD] at he
  obtain ⟨d1,d2,d3,d4,bL,oL,cL,a,j,c,hq,hr,db,pa⟩:=r3.nq.cq.i5 hL (jT fP)
  have ra:=r3.bh pa
  have Om:=(pa.1.get H1.next (by omega) (i6 yE)).trans KP
  have kh:¬H1.next=rb:=by have:=i6 yE;simpa using this
  simp only [go_sem,fP,xA,tY,hr,hz,db,KP,kh]
  refine ag.by (jS hL ra.nq.cq) ?_
  rintro _ H5 - ⟨rfl,p5⟩
  have r5:=ra.bh p5
  have n5:H3.next<=H5.next:=p5.1.nx
  have Yf:=(p5.1.get H1.next (by show H1.next < H3.next;omega) (i6 yE)).trans Om
  generalize cF L (aC st)=y at p5 r5 he
  have jg:H.fz H5.next=false:=hf.fresh (by omega)
  have Dc:H.next<=H5.next:=by omega
  simp only [go_sem,Om,KP,Yf,kh,agZ,jg]
  have r6:=r5.push ⟨[ah y.1,.slice none 0 0,iV (tk L st).line,iV (tk L st).az],114,false,false⟩
  have g6:(H5.push ⟨[ah y.1,.slice none 0 0,iV (tk L st).line,iV (tk L st).az],114,false,false⟩).get H5.next=some ⟨[ah y.1,.slice none 0 0,iV (tk L st).line,iV (tk L st).az],114,false,false⟩:=by rw [aZ,if_pos rfl]
  cases Ah:Qs L fuel y.2 with
  | none=>rw [Ah] at he;cases he
  | some x=>
  obtain ⟨tl,s7⟩:=x
  rw [Ah] at he
  cases he
  refine ag.by (ahT hL r6.nq.cq Ah) ?_
  rintro vT H7 - ⟨⟨gT,On,Yg⟩,p7⟩
  have r7:=r6.bh p7
  have n7:H5.next+1<=H7.next:=p7.1.nx
  have hT:∀c∈gT,H5.next+1<=c/\c < H7.next:=Yg
  have g7:=(p7.1.get H5.next (Nat.lt_succ_self _) (i6 Dc)).trans g6
  obtain ⟨aT,kT,rfl⟩:=On.val
  have eT:ew H H7 m g H5.next:=⟨Dc,by omega,fun e=>by have:=(r5.nq.hm _ e).1;omega,fun e=>by have:=(r5.nq.hg _ e).1;omega⟩
  have r8:=r7.other eO (M:=[H5.next]) ((Fr.refl _ _).ai (b:=H5.next) (.inl (by simp)) ⟨[ah y.1,.slice aT tl.length kT,iV (tk L st).line,iV (tk L st).az],114,false,false⟩) (fun c hc=>by rw [List.mem_singleton] at hc;subst hc;exact eT) (fun _ _=>rfl)
  have g8:(H7.ai H5.next ⟨[ah y.1,.slice aT tl.length kT,iV (tk L st).line,iV (tk L st).az],114,false,false⟩).get H5.next=some ⟨[ah y.1,.slice aT tl.length kT,iV (tk L st).line,iV (tk L st).az],114,false,false⟩:=by rw [aH,if_pos rfl]
  simp only [go_sem,g7,jg]
  refine ag.by (i3 hL r8.nq.cq) ?_
  rintro _ H9 - p9
  have r9:=r8.bh p9
  have n9:H7.next<=H9.next:=p9.1.nx
  have g9:=(p9.1.get H5.next (by show H5.next < H7.next;omega) (i6 Dc)).trans g8
  obtain ⟨Yh,KS,_⟩:=r9.cells
  have rp:=r9.push ⟨[ah y.1,.slice aT tl.length kT,iV (tk L st).line,iV (tk L st).az],114,false,false⟩
  have nN:=h.nr rp
  obtain ⟨Ok,sw,_⟩:=rp.cells
  have fR:Sl sb (H9.push ⟨[ah y.1,.slice aT tl.length kT,iV (tk L st).line,iV (tk L st).az],114,false,false⟩) (.slice aT tl.length kT) tl gT:=On.ae fun c hc=>by
   have:=hT c hc
   rw [bO (by omega),p9.1.get c (by show c < H7.next;omega) (i6 (by omega)),aH,if_neg (by omega)]
  have nO:∀c∈gT,ew H (H9.push ⟨[ah y.1,.slice aT tl.length kT,iV (tk L st).line,iV (tk L st).az],114,false,false⟩) m g c:=fun c hc=>by
   have:=hT c hc
   exact ⟨by omega,by show c < H9.next+1;omega,fun e=>by have:=(r5.nq.hm _ e).1;omega,fun e=>by have:=(r5.nq.hg _ e).1;omega⟩
  have HG:¬H5.next=H9.next:=by omega
  simp only [go_sem,KS,g9,jg,HG,eX QI (by decide) (by decide)]
  refine lA (r:=qF) (x:=⟨y.1,tl,(tk L st).line,(tk L st).az⟩) QI nN.hM (fun c hc=>(nN.xM c hc).1.1) (fun c hc=>(nN.hG c (by simp [hc])).1) (fun c hc=>⟨(nO c hc).2.1,fun e=>by have:=(h.xM c e).1.1;have:=(nO c hc).1;omega⟩) (fun c hc=>uA c (by simp [hc])) (by rw [aZ];exact if_pos rfl) ⟨_,rfl,fR⟩ rfl (by show (P.msgs.length+1) * 56 < _;omega) ?_
  intro v7 qq cA eu jU dA kY
  have lu:=(jU q rp.nq.pp.ql (fun e=>(h.xM q e).1.2.2.1 rfl)).trans sw
  obtain ⟨a7,rfl⟩:=cA.val
  have oi:=h.apT rp sw cA nO dA eu (by omega)
  simp only [go_sem,lu,xv]
  exact oi
 simp only [go_sem,fP]
 refine ag.by (gH r3.nq.cq) ?_
 rintro _ H4 - ⟨rfl,p4⟩
 have r4:=r3.bh p4
 have qU:=p4.1.nx
 have Yi:=(p4.1.get H1.next (by omega) (i6 yE)).trans KP
 by_cases qP:cW L [114,101,99] st=true
 ·rw [JK,if_neg fP,if_pos qP] at he
  obtain ⟨SB,xA,_⟩:=r4.cells
  by_cases zD:8<=P.dk.length
  ·have tY:(8:Int)<=((P.dk.length:Nat):Int):=by omega
   rw [if_pos zD] at he
   cases he
   simp only [go_sem,qP,xA,tY]
   refine ag.by (lU r4.nq.cq) ?_
   rintro _ H5 - p5
   have r5:=r4.bh p5
   simp only [go_sem]
   exact h.same r5
  have tY:¬((8:Int)<=((P.dk.length:Nat):Int)):=by omega
  rw [if_neg zD] at he
  obtain ⟨d1,d2,d3,d4,bL,oL,cL,a,j,c,hq,hr,db,pa⟩:=r4.nq.cq.i5 hL (jT qP)
  have ra:=r4.bh pa
  have Om:=(pa.1.get H1.next (by omega) (i6 yE)).trans Yi
  have kh:¬H1.next=rb:=by have:=i6 yE;simpa using this
  simp only [go_sem,qP,xA,tY,hr,hz,db,Yi,kh]
  refine ag.by (jS hL ra.nq.cq) ?_
  rintro _ H5 - ⟨rfl,p5⟩
  have r5:=ra.bh p5
  have n5:H4.next<=H5.next:=p5.1.nx
  have Yf:=(p5.1.get H1.next (by show H1.next < H4.next;omega) (i6 yE)).trans Om
  generalize cF L (aC st)=y at p5 r5 he
  have jg:H.fz H5.next=false:=hf.fresh (by omega)
  have Dc:H.next<=H5.next:=by omega
  simp only [go_sem,Om,Yi,Yf,kh,ag0,jg]
  have r6:=r5.push ⟨[ah y.1,.slice none 0 0,iV (tk L st).line,iV (tk L st).az],153,false,false⟩
  have g6:(H5.push ⟨[ah y.1,.slice none 0 0,iV (tk L st).line,iV (tk L st).az],153,false,false⟩).get H5.next=some ⟨[ah y.1,.slice none 0 0,iV (tk L st).line,iV (tk L st).az],153,false,false⟩:=by rw [aZ,if_pos rfl]
  cases Ah:I5 L fuel y.2 with
  | none=>rw [Ah] at he;cases he
  | some x=>
  obtain ⟨tl,s7⟩:=x
  rw [Ah] at he
  cases he
  refine ag.by (aaV hL r6.nq.cq Ah) ?_
  rintro vT H7 - ⟨⟨gT,On,Yg⟩,p7⟩
  have r7:=r6.bh p7
  have n7:H5.next+1<=H7.next:=p7.1.nx
  have hT:∀c∈gT,H5.next+1<=c/\c < H7.next:=Yg
  have g7:=(p7.1.get H5.next (Nat.lt_succ_self _) (i6 Dc)).trans g6
  obtain ⟨aT,kT,rfl⟩:=On.val
  have eT:ew H H7 m g H5.next:=⟨Dc,by omega,fun e=>by have:=(r5.nq.hm _ e).1;omega,fun e=>by have:=(r5.nq.hg _ e).1;omega⟩
  have r8:=r7.other eO (M:=[H5.next]) ((Fr.refl _ _).ai (b:=H5.next) (.inl (by simp)) ⟨[ah y.1,.slice aT tl.length kT,iV (tk L st).line,iV (tk L st).az],153,false,false⟩) (fun c hc=>by rw [List.mem_singleton] at hc;subst hc;exact eT) (fun _ _=>rfl)
  have g8:(H7.ai H5.next ⟨[ah y.1,.slice aT tl.length kT,iV (tk L st).line,iV (tk L st).az],153,false,false⟩).get H5.next=some ⟨[ah y.1,.slice aT tl.length kT,iV (tk L st).line,iV (tk L st).az],153,false,false⟩:=by rw [aH,if_pos rfl]
  simp only [go_sem,g7,jg]
  refine ag.by (i3 hL r8.nq.cq) ?_
  rintro _ H9 - p9
  have r9:=r8.bh p9
  have n9:H7.next<=H9.next:=p9.1.nx
  have g9:=(p9.1.get H5.next (by show H5.next < H7.next;omega) (i6 Dc)).trans g8
  obtain ⟨Yh,KS,_⟩:=r9.cells
  have rp:=r9.push ⟨[ah y.1,.slice aT tl.length kT,iV (tk L st).line,iV (tk L st).az],153,false,false⟩
  have nN:=h.nr rp
  obtain ⟨Ok,sw,_⟩:=rp.cells
  have fR:Sl oV (H9.push ⟨[ah y.1,.slice aT tl.length kT,iV (tk L st).line,iV (tk L st).az],153,false,false⟩) (.slice aT tl.length kT) tl gT:=On.ae fun c hc=>by
   have:=hT c hc
   rw [bO (by omega),p9.1.get c (by show c < H7.next;omega) (i6 (by omega)),aH,if_neg (by omega)]
  have nO:∀c∈gT,ew H (H9.push ⟨[ah y.1,.slice aT tl.length kT,iV (tk L st).line,iV (tk L st).az],153,false,false⟩) m g c:=fun c hc=>by
   have:=hT c hc
   exact ⟨by omega,by show c < H9.next+1;omega,fun e=>by have:=(r5.nq.hm _ e).1;omega,fun e=>by have:=(r5.nq.hg _ e).1;omega⟩
  have HG:¬H5.next=H9.next:=by omega
  simp only [go_sem,KS,g9,jg,HG,eX acO (by decide) (by decide)]
  refine lA (r:=u9) (x:=⟨y.1,tl,(tk L st).line,(tk L st).az⟩) acO nN.hR (fun c hc=>(nN.xR c hc).1.1) (fun c hc=>(nN.hG c (by simp [hc])).1) (fun c hc=>⟨(nO c hc).2.1,fun e=>by have:=(h.xR c e).1.1;have:=(nO c hc).1;omega⟩) (fun c hc=>uA c (by simp [hc])) (by rw [aZ];exact if_pos rfl) ⟨_,rfl,fR⟩ rfl (by show (P.dk.length+1) * 56 < _;omega) ?_
  intro v7 qq cA eu jU dA kY
  have lu:=(jU q rp.nq.pp.ql (fun e=>(h.xR q e).1.2.2.1 rfl)).trans sw
  obtain ⟨a7,rfl⟩:=cA.val
  have oi:=h.apU rp sw cA nO dA eu (by omega)
  simp only [go_sem,lu,xv]
  exact oi
 simp only [go_sem,qP]
 refine ag.by (gH r4.nq.cq) ?_
 rintro _ H5 - ⟨rfl,p5⟩
 have r5:=r4.bh p5
 rw [JK,if_neg fP,if_neg qP] at he
 have zz:∀{Ha Hb:ad} {sa:aV},gW L F Ha q rb sa Hb->∀c,Hb.fz c=Ha.fz c:=fun p=>p.2.1
 have z5:∀c,c≠H1.next->H5.fz c=H.fz c:=fun c hc=>by
  rw [zz p5,zz p4,zz p3,rv,show (c==H1.next)=false from by simpa using hc,Bool.false_or,zz p1]
 by_cases ED:cW L [100,101,102] st=true
 ·have HK:∀{c:Nat},c < H.next->H.fz c=false->H5.fz c=false:=fun hc e=>by rw [z5 _ (by omega)];exact e
  obtain ⟨SB,xA,_⟩:=r5.cells
  rw [if_pos (Or.inl ED)] at he
  by_cases zD:16<=P.defs.length
  ·have tY:(16:Int)<=((P.defs.length:Nat):Int):=by omega
   rw [if_pos zD] at he
   cases he
   simp only [go_sem,ED,xA,tY]
   refine ag.by (lU r5.nq.cq) ?_
   rintro _ mY - KQ
   have tq:=r5.bh KQ
   simp only [go_sem]
   exact h.same tq
  have tY:¬((16:Int)<=((P.defs.length:Nat):Int)):=by omega
  rw [if_neg zD] at he
  cases mh:Nb L bj fuel st P.nodes with
  | none=>rw [mh] at he;cases he
  | some B=>
  rw [mh] at he
  cases he
  simp only [go_sem,ED,xA,tY]
  have d5:=h.nr r5
  refine ag.by (ac4 hL dy d5 r5.nq.fz r5.nq.fq (fun c hc=>?_) (jT ED) (by show P.defs.length < 16;omega) mh) ?_
  ·simp only [List.mem_append] at hc
   rcases hc with e | e | e | e
   ·exact HK (h.xM c e).1.1 (uA c (by simp [e]))
   ·exact HK (h.xR c e).1.1 (uA c (by simp [e]))
   ·exact HK (h.xD c e).1.1 (uA c (by simp [e]))
   ·exact r5.nq.fm c e
  rintro _ H16 - ⟨f16,z16,T',G',Yj,Yk,t16⟩
  simp only [go_sem]
  have dH:=r5.fr.nx
  have f5:Fr (rb::q::(mM++(mR++(mD++m)))) H H5:=r5.fr.sub fun c hc=>.inl (by
   simp only [List.mem_cons,List.mem_append] at hc ⊢
   rcases hc with e | e | e <;> simp [e])
  exact ⟨(f5.then f16).af _,fun _=>rfl,T',G',Yj.af,fun c hc=>(Yk c hc).imp id fun e=>Nat.le_trans dH e,fun c hc=>(t16 c hc).imp id fun e=>Nat.le_trans dH e⟩
 simp only [go_sem,ED]
 refine ag.by (gH r5.nq.cq) ?_
 rintro _ H6 - ⟨rfl,p6⟩
 have r6:=r5.bh p6
 by_cases EE:cW L [97,99,116,111,114] st=true
 ·have HK:∀{c:Nat},c < H.next->H.fz c=false->H6.fz c=false:=fun hc e=>by rw [zz p6,z5 _ (by omega)];exact e
  obtain ⟨SB,xA,_⟩:=r6.cells
  rw [if_pos (Or.inr EE)] at he
  by_cases zD:16<=P.defs.length
  ·have tY:(16:Int)<=((P.defs.length:Nat):Int):=by omega
   rw [if_pos zD] at he
   cases he
   simp only [go_sem,EE,xA,tY]
   refine ag.by (lU r6.nq.cq) ?_
   rintro _ mY - KQ
   have tq:=r6.bh KQ
   simp only [go_sem]
   exact h.same tq
  have tY:¬((16:Int)<=((P.defs.length:Nat):Int)):=by omega
  rw [if_neg zD] at he
  cases mh:Nb L bj fuel st P.nodes with
  | none=>rw [mh] at he;cases he
  | some B=>
  rw [mh] at he
  cases he
  simp only [go_sem,EE,xA,tY]
  have d5:=h.nr r6
  refine ag.by (ac4 hL dy d5 r6.nq.fz r6.nq.fq (fun c hc=>?_) (jT EE) (by show P.defs.length < 16;omega) mh) ?_
  ·simp only [List.mem_append] at hc
   rcases hc with e | e | e | e
   ·exact HK (h.xM c e).1.1 (uA c (by simp [e]))
   ·exact HK (h.xR c e).1.1 (uA c (by simp [e]))
   ·exact HK (h.xD c e).1.1 (uA c (by simp [e]))
   ·exact r6.nq.fm c e
  rintro _ H16 - ⟨f16,z16,T',G',Yj,Yk,t16⟩
  simp only [go_sem]
  have dH:=r6.fr.nx
  have f5:Fr (rb::q::(mM++(mR++(mD++m)))) H H6:=r6.fr.sub fun c hc=>.inl (by
   simp only [List.mem_cons,List.mem_append] at hc ⊢
   rcases hc with e | e | e <;> simp [e])
  exact ⟨(f5.then f16).af _,fun _=>rfl,T',G',Yj.af,fun c hc=>(Yk c hc).imp id fun e=>Nat.le_trans dH e,fun c hc=>(t16 c hc).imp id fun e=>Nat.le_trans dH e⟩
 rw [if_neg (fun e=>e.elim ED EE)] at he
 cases he
 simp only [go_sem,EE]
 refine ag.by (lU r6.nq.cq) ?_
 rintro _ H7 - p7
 have r7:=r6.bh p7
 simp only [go_sem]
 exact h.same r7
end
theorem Ui:∀(k:Nat) (s:bC) (line az:Int) (acc l:List bJ),jx k s line az acc=.ok l->l.length<=acc.length+s.length+1/\∀t∈l,t∈acc∨t.text.length<=s.length
 | 0,s,line,az,acc,l,h=>by cases h
 | k+1,[],line,az,acc,l,h=>by
  rw [jx] at h
  cases h
  refine ⟨by simp,fun t ht=>?_⟩
  rcases List.mem_append.1 ht with e | e
  ·exact .inl e
  ·rw [List.mem_singleton] at e
   subst e
   exact .inr (Nat.le_refl _)
 | k+1,c::r,line,az,acc,l,h=>by
  have up:∀{s':bC} {an8 ap4:Int},s'.length<=(c::r).length->jx k s' an8 ap4 acc=.ok l->l.length<=acc.length+(c::r).length+1/\∀t∈l,t∈acc∨t.text.length<=(c::r).length:=fun hs h=>by
   obtain ⟨h1,h2⟩:=Ui k _ _ _ _ _ h
   exact ⟨by omega,fun t ht=>(h2 t ht).imp id fun e=>Nat.le_trans e hs⟩
  rw [jx] at h
  split at h
  ·exact up (by simp) h
  split at h
  ·exact up (by simp) h
  split at h
  ·exact up (List.dropWhile_suffix _).length_le h
  split at h
  ·cases h
  ·rename_i kind w hp
   have hw:=TU hp
   obtain ⟨h1,h2⟩:=Ui k _ _ _ _ _ h
   rw [List.length_append,List.length_drop,List.length_singleton] at h1
   refine ⟨by omega,fun t ht=>?_⟩
   rcases h2 t ht with e | e
   ·rcases List.mem_append.1 e with e | e
    ·exact .inl e
    ·rw [List.mem_singleton] at e
     subst e
     right
     show ((c::r).take w).length<=_
     rw [List.length_take];omega
   ·right
    rw [List.length_drop] at e
    omega
theorem afH {s:bC} {l:List bJ} (h:yR s=.ok l) (hs:s.length < 999000):LG l:=by
 have h1:=afC h
 unfold yR at h
 split at h
 ·cases h
 ·obtain ⟨h2,h3⟩:=Ui _ _ _ _ _ _ h
  exact ⟨h1,by simp at h2;omega,fun t ht=>by
   rcases h3 t ht with e | e
   ·cases e
   ·omega⟩
section
variable {P:Program} {X:Nat->Bool}
theorem FC {T:pE} {n:Nat} {a b:Code} (h:oc P T n (.seq a b)=true):oc P T n a=true/\oc P T n b=true:=by
 simpa only [oc,Bool.and_eq_true] using h
end
def Mf (L:List bJ) (fuel:Nat):Nat->aV->cC->Option (aV × cC)
 | 0,_,_=>none
 | k+1,st,P=>if dj st=true/\(tk L st).kind≠4 then (JK L (Jh L fuel) fuel st P).bind fun x=>Mf L fuel k x.1 x.2 else some (st,P)
def Qu (fuel:Nat) (s:bC):Option (Option cC):=match yR s with
 | .bad=>some none
 | .ok L=>(Mf L fuel fuel ⟨0,0,0⟩ {}).map fun x=>if dj x.1=true then some x.2 else none
def PgV (H H':ad) (w:Value) (P:cC):Prop:=∃vM vR vD vN gM gR gD gN,w=.agg #[vM,vR,vD,vN]/\Sl qF H' vM P.msgs gM/\Sl u9 H' vR P.dk gR/\Sl kV H' vD P.defs gD/\Sl ku H' vN P.nodes gN/\im H H' (gM++(gR++(gD++gN)))
def alh (R:Option cC) (H H':ad) (w:Value):Prop:=match R with
 | some P=>∃v,w=.tuple #[v,iV 0,iV 0,iV 0]/\PgV H H' v P
 | none=>∃v a b e,w=.tuple #[v,iV a,iV b,iV e]/\e≠0/\PgV H H' v {}
theorem sO {h:KH}:iA Tryz.prog 31 [] h=.ok (.agg #[.slice none 0 0,.slice none 0 0,.slice none 0 0,.slice none 0 0]) h:=by kernel_rfl
theorem ahU {H:ad} {s:bC} (hs:s.length < 999000) {fuel:Nat} {R:Option cC} (he:Qu fuel s=some R):aj Tryz.prog 54 #[ah s] H (fun w H'=>aG H H'/\alh R H H' w):=by
 refine aj.told ?_
 obtain ⟨c,hb,hc⟩:=LP amL Tryz.func54
 refine QG (l:=[ah s]) Tryz.func54 hb (show 1<=60 by decide) fun hf=>?_
 have oE:c=Tryz.f54.body.getD .skip:=by rw [hb];rfl
 subst oE
 simp only [Tryz.f54,Option.getD_some] at hc ⊢
 obtain ⟨ke,hc⟩:=FC hc
 refine wS.seq (wS.of mixed ke ?_)
 simp only [go_sem]
 have eV:H.fz H.next=false:=hf.fresh (Nat.le_refl _)
 obtain ⟨fg,hc⟩:=FC hc
 obtain ⟨jI,hc⟩:=FC hc
 obtain ⟨nE,hc⟩:=FC hc
 refine wS.seq (wS.of mixed fg ?_)
 simp only [go_sem]
 refine ag.by (agV (by omega)) ?_
 rintro w H2 - ⟨ho,hk⟩
 have XU:H.next+1<=H2.next:=ho.nx
 have Oo:aG H H2:=(aG.push H _).trans ho
 have g2:H2.get H.next=some ⟨[.slice none 0 0,.slice none 0 0,.slice none 0 0,.slice none 0 0],31,false,false⟩:=(ho.get H.next (Nat.lt_succ_self _)).trans (by rw [aZ,if_pos rfl])
 unfold Qu at he
 cases hT:yR s with
 | bad=>
  rw [hT] at he hk
  cases he
  obtain ⟨a,b,e,rfl,dd⟩:=hk
  simp only [go_sem]
  refine wS.seq (wS.of mixed jI ?_)
  simp only [go_sem,dd,sO,g2,eV]
  refine ⟨(((Oo.fr []).ai (.inr (Nat.le_refl _)) _).af _).au,_,a,b,e,rfl,dd,_,_,_,_,[],[],[],[],rfl,.inl ⟨rfl,rfl,rfl⟩,.inl ⟨rfl,rfl,rfl⟩,.inl ⟨rfl,rfl,rfl⟩,.inl ⟨rfl,rfl,rfl⟩,by simp [im]⟩
 | ok L=>
  rw [hT] at he hk
  obtain ⟨vL,f,rfl,ea,dr⟩:=hk
  obtain ⟨aL,kL,rfl⟩:=ea.val
  have Ym:=afH hT hs
  simp only at he
  cases q7:Mf L fuel fuel ⟨0,0,0⟩ {} with
  | none=>rw [q7] at he;cases he
  | some B=>
  rw [q7] at he
  cases he
  simp only [go_sem]
  refine wS.seq (wS.of mixed jI ?_)
  simp only [go_sem]
  refine wS.seq (wS.told (wS.of mixed nE ?_))
  simp only [go_sem]
  refine ⟨H.fz,fun _ h=>h,fun b hb=>by have:=hf.fz b hb;omega,wS.of mixed hc ?_⟩
  have qO:∀b,H.next<=b->H.fz b=false:=fun b hb=>hf.fresh hb
  have ap5:0 < L.length:=by
   obtain ⟨l',e,rfl,_⟩:=Ym.ok
   simp
  have VP:Fr [] H2 (((H2.push ⟨[.slice aL L.length kL,iV 0,.slice none 0 0,.bool true,iV 0,iV 0,.slice none 0 0],121,false,false⟩).push ⟨[pV H2.next,.slice none 0 0,.slice none 0 0,.slice none 0 0,.slice none 0 0],123,false,false⟩).af H.fz):=(((Fr.refl [] H2).push _).push _).af _
  have xB:PP0 L f (((H2.push ⟨[.slice aL L.length kL,iV 0,.slice none 0 0,.bool true,iV 0,iV 0,.slice none 0 0],121,false,false⟩).push ⟨[pV H2.next,.slice none 0 0,.slice none 0 0,.slice none 0 0,.slice none 0 0],123,false,false⟩).af H.fz) (H2.next+1) H2.next ⟨0,0,0⟩:=
   ⟨⟨_,_,_,_,by rw [bG,aZ];exact if_pos rfl⟩,⟨_,_,_,_,by rw [bG,bO (by rw [bI];omega),aZ,if_pos rfl];rfl,ea.ae fun c hc=>VP.get c (dr.hi c hc) (by simp)⟩,fun b hb=>⟨by have:=dr.hi b hb;show b < H2.next+2;omega,by have:=dr.hi b hb;omega,by have:=dr.hi b hb;omega⟩,by omega,ap5,by show H2.next+1 < H2.next+2;omega,by show H2.next < H2.next+2;omega⟩
  have Oq:DQ L f (((H2.push ⟨[.slice aL L.length kL,iV 0,.slice none 0 0,.bool true,iV 0,iV 0,.slice none 0 0],121,false,false⟩).push ⟨[pV H2.next,.slice none 0 0,.slice none 0 0,.slice none 0 0,.slice none 0 0],123,false,false⟩).af H.fz) (H2.next+1) H2.next ⟨0,0,0⟩ {} [] []:=
   ⟨⟨.slice none 0 0,.slice none 0 0,.slice none 0 0,[],[],[],[],[],[],[],[],⟨⟨xB,⟨_,by rw [bG,aZ];exact if_pos rfl,Gr.nil _ _ _⟩,by simp,by simp,by simp⟩,Gr.nil _ _ _,Gr.nil _ _ _,Gr.nil _ _ _,by simp,by simp,by simp,by simp,by simp,by simp,by simp,by simp⟩,rfl,rfl⟩,qO _ (by omega),qO _ (by omega),by simp,fun b hb=>qO b (by have:H2.next+2<=b:=hb;omega)⟩
  generalize (((H2.push ⟨[.slice aL L.length kL,iV 0,.slice none 0 0,.bool true,iV 0,iV 0,.slice none 0 0],121,false,false⟩).push ⟨[pV H2.next,.slice none 0 0,.slice none 0 0,.slice none 0 0,.slice none 0 0],123,false,false⟩).af H.fz)=H4 at VP Oq
  clear xB
  simp only [go_sem]
  refine qA 549218942976 (fun n V H5=>∃bH P2 T G,DQ L f H5 (H2.next+1) H2.next bH P2 T G/\Fr [] H2 H5/\(∀c∈T,H2.next<=c)/\(∀c∈G,H2.next<=c)/\Mf L fuel n bH P2=some B) (n:=fuel)
   ⟨⟨0,0,0⟩,{},[],[],Oq,VP,by simp,by simp,q7⟩ ?_ (by rfl)
  rintro n V H5 ⟨bH,P2,T,G,dq,f5,Ak,Dd,q7⟩
  cases n with
  | zero=>cases q7
  | succ n=>
  rw [Mf] at q7
  obtain ⟨⟨c1,c2,c3,mM,gM,mR,gR,mD,gD,m,g,mh,rfl,rfl⟩,fz,fq,fT,fn⟩:=dq
  have eO:=mh.Of fz fq fT fn
  have r0:=NR.start eO
  have Al:∀c∈H2.next::(H2.next+1)::m,H2.next<=c:=fun c hc=>by
   simp only [List.mem_cons] at hc
   rcases hc with e | e | e
   ·omega
   ·omega
   ·exact Ak c (by simp [e])
  simp only [go_sem]
  refine ag.by (fA eO.cq) ?_
  rintro _ _ - ⟨rfl,rfl⟩
  by_cases Ri:dj bH=true
  ·simp only [go_sem,Ri]
   refine ag.by (sY eO.cq) ?_
   rintro _ H6 - ⟨rfl,p6⟩
   have r6:=r0.bh p6
   have rI:DF L f c1 c2 c3 H6 (H2.next+1) H2.next bH P2 mM gM mR gR mD gD m g:=mh.nr r6
   by_cases iO:(tk L bH).kind=4
   ·rw [if_neg (fun e=>e.2 iO)] at q7
    cases q7
    simp only [go_sem,iO]
    have zE:∀c∈(mM++gM)++((mR++gR)++((mD++gD)++(m++g))),H2.next<=c/\c < H6.next:=fun c hc=>by
     simp only [List.mem_append] at hc
     rcases hc with (e | e) | (e | e) | (e | e) | (e | e)
     ·exact ⟨Ak c (by simp [e]),(rI.xM c e).1.1⟩
     ·exact ⟨Dd c (by simp [e]),(rI.hG c (by simp [e])).1⟩
     ·exact ⟨Ak c (by simp [e]),(rI.xR c e).1.1⟩
     ·exact ⟨Dd c (by simp [e]),(rI.hG c (by simp [e])).1⟩
     ·exact ⟨Ak c (by simp [e]),(rI.xD c e).1.1⟩
     ·exact ⟨Dd c (by simp [e]),(rI.hG c (by simp [e])).1⟩
     ·exact ⟨Ak c (by simp [e]),(rI.nq.hm c e).1⟩
     ·exact ⟨Dd c (by simp [e]),(rI.nq.hg c e).1⟩
    refine ag.by (fA r6.nq.cq) ?_
    rintro _ _ - ⟨rfl,rfl⟩
    obtain ⟨e1,e2,e3,e4,bL,oL,cL,BL,a,j,c,hq,hr,_⟩:=r6.nq.pp.fM
    have f6:Fr [] H2 H6:=f5.trans r6.fr fun c hc=>.inr (Al c hc)
    have g6:=(f6.get H.next (by omega) (by simp)).trans g2
    have o6:aG H H6:=Oo.trans f6.au
    by_cases iv:dj bH=true
    ·rw [if_pos iv]
     obtain ⟨vN,Yn,mX⟩:=rI.nq.row
     obtain ⟨aM,rfl⟩:=rI.hM.val
     obtain ⟨aR,rfl⟩:=rI.hR.val
     obtain ⟨aD,rfl⟩:=rI.hD.val
     obtain ⟨aN,rfl⟩:=mX.val
     have Ot:¬H.next=H2.next+1:=by omega
     simp only [go_sem,iv,Yn,g6,eV]
     have Yo:Fr [] H (H6.ai H.next ⟨[.slice aM P2.msgs.length P2.msgs.length,.slice aR P2.dk.length P2.dk.length,.slice aD P2.defs.length P2.defs.length,.slice aN P2.nodes.length P2.nodes.length],31,false,false⟩):=(o6.fr []).ai (.inr (Nat.le_refl _)) _
     have kE:∀c,H2.next<=c->(H6.ai H.next ⟨[.slice aM P2.msgs.length P2.msgs.length,.slice aR P2.dk.length P2.dk.length,.slice aD P2.defs.length P2.defs.length,.slice aN P2.nodes.length P2.nodes.length],31,false,false⟩).get c=H6.get c:=fun c hc=>by rw [aH,if_neg (by omega)]
     refine ⟨(Yo.af _).au,_,rfl,_,_,_,_,mM++gM,mR++gR,mD++gD,m++g,rfl,rI.hM.sl.ae fun c hc=>kE c (zE c (by simp only [List.mem_append] at hc ⊢;rcases hc with e | e <;> simp [e])).1,rI.hR.sl.ae fun c hc=>kE c (zE c (by simp only [List.mem_append] at hc ⊢;rcases hc with e | e <;> simp [e])).1,rI.hD.sl.ae fun c hc=>kE c (zE c (by simp only [List.mem_append] at hc ⊢;rcases hc with e | e <;> simp [e])).1,mX.sl.ae fun c hc=>kE c (zE c (by simp only [List.mem_append] at hc ⊢;rcases hc with e | e <;> simp [e])).1,fun c hc=>?_⟩
     have:=zE c (by simp only [List.mem_append] at hc ⊢;exact hc)
     exact ⟨by omega,this.2⟩
    ·rw [if_neg iv]
     have Ej:bH.bad≠0:=by simpa [dj] using iv
     simp only [go_sem,iv]
     refine ag.by (sY r6.nq.cq) ?_
     rintro _ H7 - ⟨rfl,p7⟩
     have r7:=r6.bh p7
     simp only [go_sem]
     refine ag.by (sY r7.nq.cq) ?_
     rintro _ H8 - ⟨rfl,p8⟩
     have r8:=r7.bh p8
     obtain ⟨e1,e2,e3,e4,bL,oL,cL,BL,a,j,c,SC,De,_⟩:=r8.nq.pp.fM
     have f8:Fr [] H2 H8:=f5.trans r8.fr fun c hc=>.inr (Al c hc)
     have g8:=(f8.get H.next (by omega) (by simp)).trans g2
     obtain ⟨u1,u2,u3,u4,bL7,oL7,cL7,BL7,a7,j7,c7,lu,q8,_⟩:=r7.nq.pp.fM
     have Ot:¬H2.next+1=H.next:=by omega
     have Yp:¬H2.next=H.next:=by omega
     simp only [go_sem,sO,hq,hr,lu,q8,SC,De,g8,eV,Ot,Yp]
     refine ⟨((((Oo.trans f8.au).fr []).ai (.inr (Nat.le_refl _)) _).af _).au,_,_,_,_,rfl,Ej,_,_,_,_,[],[],[],[],rfl,.inl ⟨rfl,rfl,rfl⟩,.inl ⟨rfl,rfl,rfl⟩,.inl ⟨rfl,rfl,rfl⟩,.inl ⟨rfl,rfl,rfl⟩,by simp [im]⟩
   ·rw [if_pos ⟨Ri,iO⟩] at q7
    cases Yq:JK L (Jh L fuel) fuel bH P2 with
    | none=>rw [Yq] at q7;cases q7
    | some x=>
    obtain ⟨yy,P3⟩:=x
    rw [Yq] at q7
    simp only [Option.bind_some] at q7
    simp only [go_sem,iO]
    refine ag.by (alg Ym (fun {c1 c2 c3}=>abx Ym fuel) rI r6.nq.fz r6.nq.fq (fun c hc=>by rw [p6.2.1];exact fT c hc) Yq) ?_
    rintro _ H7 - p7
    have ap6:DQ L f H6 (H2.next+1) H2.next bH P2 (mM++(mR++(mD++m))) (gM++(gR++(gD++g))):=⟨rI.q0,r6.nq.fz,r6.nq.fq,fun c hc=>by rw [p6.2.1];exact fT c hc,r6.nq.fn⟩
    obtain ⟨T',G',dq7,s7,t7⟩:=ap6.post p7
    have f6:Fr [] H2 H6:=f5.trans r6.fr fun c hc=>.inr (Al c hc)
    have f7:Fr [] H2 H7:=f6.trans p7.1 fun c hc=>.inr (by
     simp only [List.mem_cons] at hc
     rcases hc with e | e | e
     ·omega
     ·omega
     ·exact Ak c e)
    have n6:=f6.nx
    simp only [go_sem]
    exact ⟨n,by omega,yy,P3,T',G',dq7,f7,fun c hc=>(s7 c hc).elim (Ak c) fun e=>by omega,fun c hc=>(t7 c hc).elim (Dd c) fun e=>by omega,q7⟩
  ·rw [if_neg (fun e=>Ri e.1)] at q7
   cases q7
   simp only [go_sem,Ri]
   have zE:∀c∈(mM++gM)++((mR++gR)++((mD++gD)++(m++g))),H2.next<=c/\c < H5.next:=fun c hc=>by
    simp only [List.mem_append] at hc
    rcases hc with (e | e) | (e | e) | (e | e) | (e | e)
    ·exact ⟨Ak c (by simp [e]),(mh.xM c e).1.1⟩
    ·exact ⟨Dd c (by simp [e]),(mh.hG c (by simp [e])).1⟩
    ·exact ⟨Ak c (by simp [e]),(mh.xR c e).1.1⟩
    ·exact ⟨Dd c (by simp [e]),(mh.hG c (by simp [e])).1⟩
    ·exact ⟨Ak c (by simp [e]),(mh.xD c e).1.1⟩
    ·exact ⟨Dd c (by simp [e]),(mh.hG c (by simp [e])).1⟩
    ·exact ⟨Ak c (by simp [e]),(mh.nq.hm c e).1⟩
    ·exact ⟨Dd c (by simp [e]),(mh.nq.hg c e).1⟩
   refine ag.by (fA r0.nq.cq) ?_
   rintro _ _ - ⟨rfl,rfl⟩
   obtain ⟨e1,e2,e3,e4,bL,oL,cL,BL,a,j,c,hq,hr,_⟩:=r0.nq.pp.fM
   have f6:Fr [] H2 H5:=f5.trans r0.fr fun c hc=>.inr (Al c hc)
   have g6:=(f6.get H.next (by omega) (by simp)).trans g2
   have o6:aG H H5:=Oo.trans f6.au
   by_cases iv:dj bH=true
   ·rw [if_pos iv]
    obtain ⟨vN,Yn,mX⟩:=mh.nq.row
    obtain ⟨aM,rfl⟩:=mh.hM.val
    obtain ⟨aR,rfl⟩:=mh.hR.val
    obtain ⟨aD,rfl⟩:=mh.hD.val
    obtain ⟨aN,rfl⟩:=mX.val
    have Ot:¬H.next=H2.next+1:=by omega
    simp only [go_sem,iv,Yn,g6,eV]
    have Yo:Fr [] H (H5.ai H.next ⟨[.slice aM P2.msgs.length P2.msgs.length,.slice aR P2.dk.length P2.dk.length,.slice aD P2.defs.length P2.defs.length,.slice aN P2.nodes.length P2.nodes.length],31,false,false⟩):=(o6.fr []).ai (.inr (Nat.le_refl _)) _
    have kE:∀c,H2.next<=c->(H5.ai H.next ⟨[.slice aM P2.msgs.length P2.msgs.length,.slice aR P2.dk.length P2.dk.length,.slice aD P2.defs.length P2.defs.length,.slice aN P2.nodes.length P2.nodes.length],31,false,false⟩).get c=H5.get c:=fun c hc=>by rw [aH,if_neg (by omega)]
    refine ⟨(Yo.af _).au,_,rfl,_,_,_,_,mM++gM,mR++gR,mD++gD,m++g,rfl,mh.hM.sl.ae fun c hc=>kE c (zE c (by simp only [List.mem_append] at hc ⊢;rcases hc with e | e <;> simp [e])).1,mh.hR.sl.ae fun c hc=>kE c (zE c (by simp only [List.mem_append] at hc ⊢;rcases hc with e | e <;> simp [e])).1,mh.hD.sl.ae fun c hc=>kE c (zE c (by simp only [List.mem_append] at hc ⊢;rcases hc with e | e <;> simp [e])).1,mX.sl.ae fun c hc=>kE c (zE c (by simp only [List.mem_append] at hc ⊢;rcases hc with e | e <;> simp [e])).1,fun c hc=>?_⟩
    have:=zE c (by simp only [List.mem_append] at hc ⊢;exact hc)
    exact ⟨by omega,this.2⟩
   ·rw [if_neg iv]
    have Ej:bH.bad≠0:=by simpa [dj] using iv
    simp only [go_sem,iv]
    refine ag.by (sY r0.nq.cq) ?_
    rintro _ H7 - ⟨rfl,p7⟩
    have r7:=r0.bh p7
    simp only [go_sem]
    refine ag.by (sY r7.nq.cq) ?_
    rintro _ H8 - ⟨rfl,p8⟩
    have r8:=r7.bh p8
    obtain ⟨e1,e2,e3,e4,bL,oL,cL,BL,a,j,c,SC,De,_⟩:=r8.nq.pp.fM
    have f8:Fr [] H2 H8:=f5.trans r8.fr fun c hc=>.inr (Al c hc)
    have g8:=(f8.get H.next (by omega) (by simp)).trans g2
    obtain ⟨u1,u2,u3,u4,bL7,oL7,cL7,BL7,a7,j7,c7,lu,q8,_⟩:=r7.nq.pp.fM
    have Ot:¬H2.next+1=H.next:=by omega
    have Yp:¬H2.next=H.next:=by omega
    simp only [go_sem,sO,hq,hr,lu,q8,SC,De,g8,eV,Ot,Yp]
    refine ⟨((((Oo.trans f8.au).fr []).ai (.inr (Nat.le_refl _)) _).af _).au,_,_,_,_,rfl,Ej,_,_,_,_,[],[],[],[],rfl,.inl ⟨rfl,rfl,rfl⟩,.inl ⟨rfl,rfl,rfl⟩,.inl ⟨rfl,rfl,rfl⟩,.inl ⟨rfl,rfl,rfl⟩,by simp [im]⟩
section
variable {H:ad}
def findF (s:bC):Nat->List bC->Int
 | _,[]=> -1
 | i,x::l=>if x=s then ((i:Nat):Int) else findF s (i+1) l
def dG (l:List bC) (s:bC):Int:=findF s 0 l
theorem Cj {v:Value} {l:List bC} {g:List Nat} {s:bC} (h:Sl .str H v l g) (hl:l.length < 1000000):aj Tryz.prog 106 #[v,ah s] H (fun w H'=>w=iV (dG l s)/\H=H'):=by
 refine ai0 (Nat.le_refl _) fun hf=>?_
 simp only [Tryz.f106,Option.getD_some]
 obtain ⟨a,c,rfl⟩:=h.val
 simp only [go_sem]
 refine ft 523888 l.length (fun i V H2=>V 9=iV (i:Nat)/\H=H2/\dG l s=findF s i (l.drop i)) ⟨by simp only [go_sem] <;> rfl,rfl,rfl⟩ ?_ ?_ (by rfl)
 ·rintro i V H2 hi ⟨e9,rfl,jL⟩
  have hx:l[i]?=some (l[i]'hi):=List.getElem?_eq_getElem hi
  have cT:l.drop i=(l[i]'hi)::l.drop (i+1):=(List.getElem_cons_drop hi).symm
  generalize (l[i]'hi)=x at hx cT
  obtain ⟨b,o,c',B,hv,hB,dI,dN⟩:=h.Me hx
  cases hv
  rw [cT,findF] at jL
  have cH:IntKind.wrap .i64 (((i:Nat):Int)+1)=((i+1:Nat):Int):=cG hi (by omega)
  by_cases zV:x=s
  ·rw [if_pos zV] at jL
   simp only [go_sem,e9,hi,hB,dN,zV]
   rw [jL]
  ·rw [if_neg zV] at jL
   simp only [go_sem,e9,hi,hB,dN,zV,cH]
   exact jL
 ·rintro V H2 ⟨e9,rfl,jL⟩
  simp only [go_sem,e9]
  rw [List.drop_length] at jL
  rw [jL];rfl
theorem Qv {vM vR vD vN:Value} {l:List x8} {g:List Nat} (h:Sl qF H vM l g) (hl:l.length < 1000000) (hg:∀b∈g,b < H.next):aj Tryz.prog 103 #[.agg #[vM,vR,vD,vN]] H (fun w H'=>(∃g',Sl .str H' w (l.map (·.name)) g'/\im H H' g')/\aG H H'/\∀c,H'.fz c=H.fz c):=by
 refine aj.told ?_
 refine aiU (Nat.le_refl _) fun hf=>?_
 simp only [Tryz.f103,Option.getD_some]
 obtain ⟨a,c,rfl⟩:=h.val
 simp only [go_sem]
 refine ft 523816 l.length (fun i V H2=>V 9=iV (i:Nat)/\∃v m,V 3=v/\Gr .str 9 H2 v ((l.take i).map (·.name)) m []/\im H H2 m/\aG H H2)
  ⟨by simp only [go_sem] <;> rfl,.slice none 0 0,[],by simp only [go_sem] <;> rfl,Gr.nil _ _ _,by simp [im],((Fr.refl [] H).push _).au⟩ ?_ ?_ (by rfl)
 ·rintro i V H2 hi ⟨ei,v,m,e3,cw,cQ,ho⟩
  have hx:l[i]?=some (l[i]'hi):=List.getElem?_eq_getElem hi
  have iX:l.take (i+1)=l.take i++[l[i]'hi]:=List.take_succ_eq_append_getElem hi
  generalize (l[i]'hi)=x at hx iX
  have h2:=h.ae (H':=H2) fun b hb=>ho.get b (hg b hb)
  obtain ⟨b,o,c',B,gx,hv,hB,dI,df,cb,hE⟩:=h2.at hx
  cases hv
  obtain ⟨v5,bg,gG⟩:=hE
  obtain ⟨a5,k5,rfl⟩:=gG.val
  have ef:o+i * 4+4<=B.cells.length:=cb
  have bg:(B.cells.drop (o+i * 4)).take 4=[ah x.name,.slice a5 x.types.length k5,iV x.line,iV x.az]:=bg
  have cH:IntKind.wrap .i64 (((i:Nat):Int)+1)=((i+1:Nat):Int):=cG hi (by omega)
  obtain ⟨av,uB⟩:=cw.val
  have bf:((l.take i).map (·.name)).length=i:=by rw [List.length_map,List.length_take];omega
  have dw:H.fz H2.next=false:=hf.fresh ho.nx
  rw [bf] at uB
  simp only [go_sem,ei,e3,uB,hi,hB,ef,bg,dw,eX wH (by decide) (by decide)]
  rw [<-uB]
  have Gy:=(cw.ae (H':=(H2.push ⟨[ah x.name,.slice a5 x.types.length k5,iV x.line,iV x.az],114,false,false⟩).push ⟨[ah x.name],9,false,false⟩) (fun b hb=>by have:=(cQ b hb).2;rw [bO (by rw [bI];omega),bO this]) (by simp))
  refine lA (r:=.str) (x:=x.name) (g':=[]) wH Gy (fun c hc=>by have:=(cQ c hc).2;rw [bI,bI];omega) (by simp) (by simp) (fun c hc=>hf.fresh (cQ c hc).1) (by rw [aZ];exact if_pos rfl) ⟨rfl,rfl⟩ rfl (by rw [bf];omega) ?_
  intro v7 H7 cA eu jU dA kY
  have sd:aG H H7:=((((ho.fr []).push _).push _).trans dA fun c hc=>.inr (cQ c hc).1).au
  simp only [go_sem,ei,cH]
  refine ⟨v7,[H2.next+2],rfl,?_,fun c hc=>?_,sd⟩
  ·rw [iX,List.map_append];exact cA
  ·rw [List.mem_singleton] at hc
   subst hc
   have:=ho.nx
   have U8:H7.next=H2.next+3:=eu
   omega
 ·rintro V H2 ⟨ei,v,m,e3,cw,cQ,ho⟩
  simp only [go_sem,ei,e3]
  rw [List.take_length] at cw
  have:=cw.sl
  rw [List.append_nil] at this
  exact ⟨⟨m,this.ae fun _ _=>rfl,cQ⟩,((ho.fr []).af _).au,fun _=>trivial⟩
theorem aca {vM vR vD vN:Value} {l:List CB} {g:List Nat} (h:Sl u9 H vR l g) (hl:l.length < 1000000) (hg:∀b∈g,b < H.next):aj Tryz.prog 104 #[.agg #[vM,vR,vD,vN]] H (fun w H'=>(∃g',Sl .str H' w (l.map (·.name)) g'/\im H H' g')/\aG H H'/\∀c,H'.fz c=H.fz c):=by
 refine aj.told ?_
 refine aiW (Nat.le_refl _) fun hf=>?_
 simp only [Tryz.f104,Option.getD_some]
 obtain ⟨a,c,rfl⟩:=h.val
 simp only [go_sem]
 refine ft 523816 l.length (fun i V H2=>V 9=iV (i:Nat)/\∃v m,V 3=v/\Gr .str 9 H2 v ((l.take i).map (·.name)) m []/\im H H2 m/\aG H H2)
  ⟨by simp only [go_sem] <;> rfl,.slice none 0 0,[],by simp only [go_sem] <;> rfl,Gr.nil _ _ _,by simp [im],((Fr.refl [] H).push _).au⟩ ?_ ?_ (by rfl)
 ·rintro i V H2 hi ⟨ei,v,m,e3,cw,cQ,ho⟩
  have hx:l[i]?=some (l[i]'hi):=List.getElem?_eq_getElem hi
  have iX:l.take (i+1)=l.take i++[l[i]'hi]:=List.take_succ_eq_append_getElem hi
  generalize (l[i]'hi)=x at hx iX
  have h2:=h.ae (H':=H2) fun b hb=>ho.get b (hg b hb)
  obtain ⟨b,o,c',B,gx,hv,hB,dI,df,cb,hE⟩:=h2.at hx
  cases hv
  obtain ⟨v5,bg,gG⟩:=hE
  obtain ⟨a5,k5,rfl⟩:=gG.val
  have ef:o+i * 4+4<=B.cells.length:=cb
  have bg:(B.cells.drop (o+i * 4)).take 4=[ah x.name,.slice a5 x.fields.length k5,iV x.line,iV x.az]:=bg
  have cH:IntKind.wrap .i64 (((i:Nat):Int)+1)=((i+1:Nat):Int):=cG hi (by omega)
  obtain ⟨av,uB⟩:=cw.val
  have bf:((l.take i).map (·.name)).length=i:=by rw [List.length_map,List.length_take];omega
  have dw:H.fz H2.next=false:=hf.fresh ho.nx
  rw [bf] at uB
  simp only [go_sem,ei,e3,uB,hi,hB,ef,bg,dw,eX wH (by decide) (by decide)]
  rw [<-uB]
  have Gy:=(cw.ae (H':=(H2.push ⟨[ah x.name,.slice a5 x.fields.length k5,iV x.line,iV x.az],153,false,false⟩).push ⟨[ah x.name],9,false,false⟩) (fun b hb=>by have:=(cQ b hb).2;rw [bO (by rw [bI];omega),bO this]) (by simp))
  refine lA (r:=.str) (x:=x.name) (g':=[]) wH Gy (fun c hc=>by have:=(cQ c hc).2;rw [bI,bI];omega) (by simp) (by simp) (fun c hc=>hf.fresh (cQ c hc).1) (by rw [aZ];exact if_pos rfl) ⟨rfl,rfl⟩ rfl (by rw [bf];omega) ?_
  intro v7 H7 cA eu jU dA kY
  have sd:aG H H7:=((((ho.fr []).push _).push _).trans dA fun c hc=>.inr (cQ c hc).1).au
  simp only [go_sem,ei,cH]
  refine ⟨v7,[H2.next+2],rfl,?_,fun c hc=>?_,sd⟩
  ·rw [iX,List.map_append];exact cA
  ·rw [List.mem_singleton] at hc
   subst hc
   have:=ho.nx
   have U8:H7.next=H2.next+3:=eu
   omega
 ·rintro V H2 ⟨ei,v,m,e3,cw,cQ,ho⟩
  simp only [go_sem,ei,e3]
  rw [List.take_length] at cw
  have:=cw.sl
  rw [List.append_nil] at this
  exact ⟨⟨m,this.ae fun _ _=>rfl,cQ⟩,((ho.fr []).af _).au,fun _=>trivial⟩
theorem UI {vM vR vD vN:Value} {l:List gh} {g:List Nat} (h:Sl kV H vD l g) (hl:l.length < 1000000) (hg:∀b∈g,b < H.next):aj Tryz.prog 105 #[.agg #[vM,vR,vD,vN]] H (fun w H'=>(∃g',Sl .str H' w (l.map (·.name)) g'/\im H H' g')/\aG H H'/\∀c,H'.fz c=H.fz c):=by
 refine aj.told ?_
 refine aiY (Nat.le_refl _) fun hf=>?_
 simp only [Tryz.f105,Option.getD_some]
 obtain ⟨a,c,rfl⟩:=h.val
 simp only [go_sem]
 refine ft 523816 l.length (fun i V H2=>V 9=iV (i:Nat)/\∃v m,V 3=v/\Gr .str 9 H2 v ((l.take i).map (·.name)) m []/\im H H2 m/\aG H H2)
  ⟨by simp only [go_sem] <;> rfl,.slice none 0 0,[],by simp only [go_sem] <;> rfl,Gr.nil _ _ _,by simp [im],((Fr.refl [] H).push _).au⟩ ?_ ?_ (by rfl)
 ·rintro i V H2 hi ⟨ei,v,m,e3,cw,cQ,ho⟩
  have hx:l[i]?=some (l[i]'hi):=List.getElem?_eq_getElem hi
  have iX:l.take (i+1)=l.take i++[l[i]'hi]:=List.take_succ_eq_append_getElem hi
  generalize (l[i]'hi)=x at hx iX
  have h2:=h.ae (H':=H2) fun b hb=>ho.get b (hg b hb)
  obtain ⟨b,o,c',B,gx,hv,hB,dI,df,cb,hE⟩:=h2.at hx
  cases hv
  obtain ⟨v5,v6,v7',f5,f6,f7,bg,rfl,gG,i7,jO⟩:=hE
  obtain ⟨a5,k5,rfl⟩:=gG.val
  obtain ⟨a6,k6,rfl⟩:=i7.val
  obtain ⟨a7,k7,rfl⟩:=jO.val
  have ef:o+i * 9+9<=B.cells.length:=cb
  have bg:(B.cells.drop (o+i * 9)).take 9=ff x (.slice a5 x.params.length k5) (.slice a6 x.pat.length k6) (.slice a7 x.on.length k7):=bg
  have cH:IntKind.wrap .i64 (((i:Nat):Int)+1)=((i+1:Nat):Int):=cG hi (by omega)
  obtain ⟨av,uB⟩:=cw.val
  have bf:((l.take i).map (·.name)).length=i:=by rw [List.length_map,List.length_take];omega
  have dw:H.fz H2.next=false:=hf.fresh ho.nx
  rw [bf] at uB
  simp only [go_sem,ei,e3,uB,hi,hB,ef,bg,dw,eX wH (by decide) (by decide)]
  rw [<-uB]
  have Gy:=(cw.ae (H':=(H2.push ⟨ff x (.slice a5 x.params.length k5) (.slice a6 x.pat.length k6) (.slice a7 x.on.length k7),47,false,false⟩).push ⟨[ah x.name],9,false,false⟩) (fun b hb=>by have:=(cQ b hb).2;rw [bO (by rw [bI];omega),bO this]) (by simp))
  refine lA (r:=.str) (x:=x.name) (g':=[]) wH Gy (fun c hc=>by have:=(cQ c hc).2;rw [bI,bI];omega) (by simp) (by simp) (fun c hc=>hf.fresh (cQ c hc).1) (by rw [aZ];exact if_pos rfl) ⟨rfl,rfl⟩ rfl (by rw [bf];omega) ?_
  intro v7 H7 cA eu jU dA kY
  have sd:aG H H7:=((((ho.fr []).push _).push _).trans dA fun c hc=>.inr (cQ c hc).1).au
  simp only [go_sem,ei,cH]
  refine ⟨v7,[H2.next+2],rfl,?_,fun c hc=>?_,sd⟩
  ·rw [iX,List.map_append];exact cA
  ·rw [List.mem_singleton] at hc
   subst hc
   have:=ho.nx
   have U8:H7.next=H2.next+3:=eu
   omega
 ·rintro V H2 ⟨ei,v,m,e3,cw,cQ,ho⟩
  simp only [go_sem,ei,e3]
  rw [List.take_length] at cw
  have:=cw.sl
  rw [List.append_nil] at this
  exact ⟨⟨m,this.ae fun _ _=>rfl,cQ⟩,((ho.fr []).af _).au,fun _=>trivial⟩
theorem ag1 {vF:Value} {l:List tn} {g:List Nat} (h:Sl oV H vF l g) (hl:l.length < 1000000) (hg:∀b∈g,b < H.next):aj Tryz.prog 133 #[vF] H (fun w H'=>(∃g',Sl .str H' w (l.map (·.name)) g'/\im H H' g')/\aG H H'/\∀c,H'.fz c=H.fz c):=by
 refine aj.told ?_
 refine ajP (Nat.le_refl _) fun hf=>?_
 simp only [Tryz.f133,Option.getD_some]
 obtain ⟨a,c,rfl⟩:=h.val
 simp only [go_sem]
 refine ft 261928 l.length (fun i V H2=>V 8=iV (i:Nat)/\∃v m,V 3=v/\Gr .str 9 H2 v ((l.take i).map (·.name)) m []/\im H H2 m/\aG H H2)
  ⟨by simp only [go_sem] <;> rfl,.slice none 0 0,[],by simp only [go_sem] <;> rfl,Gr.nil _ _ _,by simp [im],(Fr.refl [] H).au⟩ ?_ ?_ (by rfl)
 ·rintro i V H2 hi ⟨ei,v,m,e3,cw,cQ,ho⟩
  have hx:l[i]?=some (l[i]'hi):=List.getElem?_eq_getElem hi
  have iX:l.take (i+1)=l.take i++[l[i]'hi]:=List.take_succ_eq_append_getElem hi
  generalize (l[i]'hi)=x at hx iX
  have h2:=h.ae (H':=H2) fun b hb=>ho.get b (hg b hb)
  obtain ⟨b,o,c',B,gx,hv,hB,dI,df,cb,hE⟩:=h2.at hx
  cases hv
  obtain ⟨v5,bg,gG⟩:=hE
  obtain ⟨a5,k5,rfl⟩:=gG.val
  have ef:o+i * 6+6<=B.cells.length:=cb
  have bg:(B.cells.drop (o+i * 6)).take 6=[ah x.name,iV x.ty.kind,iV x.ty.cap,iV x.ty.rc,ah x.ty.name,.slice a5 x.ty.pat.length k5]:=bg
  have cH:IntKind.wrap .i64 (((i:Nat):Int)+1)=((i+1:Nat):Int):=cG hi (by omega)
  obtain ⟨av,uB⟩:=cw.val
  have bf:((l.take i).map (·.name)).length=i:=by rw [List.length_map,List.length_take];omega
  have dw:H.fz H2.next=false:=hf.fresh ho.nx
  rw [bf] at uB
  simp only [go_sem,ei,e3,uB,hi,hB,ef,bg,dw,eX wH (by decide) (by decide)]
  rw [<-uB]
  have Gy:=(cw.ae (H':=(H2.push ⟨[ah x.name,iV x.ty.kind,iV x.ty.cap,iV x.ty.rc,ah x.ty.name,.slice a5 x.ty.pat.length k5],104,false,false⟩).push ⟨[ah x.name],9,false,false⟩) (fun b hb=>by have:=(cQ b hb).2;rw [bO (by rw [bI];omega),bO this]) (by simp))
  refine lA (r:=.str) (x:=x.name) (g':=[]) wH Gy (fun c hc=>by have:=(cQ c hc).2;rw [bI,bI];omega) (by simp) (by simp) (fun c hc=>hf.fresh (cQ c hc).1) (by rw [aZ];exact if_pos rfl) ⟨rfl,rfl⟩ rfl (by rw [bf];omega) ?_
  intro v7 H7 cA eu jU dA kY
  have sd:aG H H7:=((((ho.fr []).push _).push _).trans dA fun c hc=>.inr (cQ c hc).1).au
  simp only [go_sem,ei,cH]
  refine ⟨v7,[H2.next+2],rfl,?_,fun c hc=>?_,sd⟩
  ·rw [iX,List.map_append];exact cA
  ·rw [List.mem_singleton] at hc
   subst hc
   have:=ho.nx
   have U8:H7.next=H2.next+3:=eu
   omega
 ·rintro V H2 ⟨ei,v,m,e3,cw,cQ,ho⟩
  simp only [go_sem,ei,e3]
  rw [List.take_length] at cw
  have:=cw.sl
  rw [List.append_nil] at this
  exact ⟨⟨m,this.ae fun _ _=>rfl,cQ⟩,((ho.fr []).af _).au,fun _=>trivial⟩
end
section
variable {H:ad}
def QO:Nat->List gh->Int
 | _,[]=> -1
 | i,d::l=>if d.name=[109,97,105,110]/\d.params.length=0 then ((i:Nat):Int) else QO (i+1) l
def JL (l:List gh):Int:=QO 0 l
theorem ali {vM vR vD vN:Value} {l:List gh} {g:List Nat} (h:Sl kV H vD l g) (hl:l.length < 1000000) (hg:∀b∈g,b < H.next):aj Tryz.prog 80 #[.agg #[vM,vR,vD,vN]] H (fun w H'=>w=iV (JL l)/\aG H H'/\∀c,H'.fz c=H.fz c):=by
 refine aj.told ?_
 refine anm (Nat.le_refl _) fun hf=>?_
 simp only [Tryz.f80,Option.getD_some]
 obtain ⟨a,c,rfl⟩:=h.val
 simp only [go_sem]
 refine ft 16776988 l.length (fun i V H2=>V 8=iV (i:Nat)/\aG H H2/\JL l=QO i (l.drop i)) ⟨by simp only [go_sem] <;> rfl,((Fr.refl [] H).push _).au,rfl⟩ ?_ ?_ (by rfl)
 ·rintro i V H2 hi ⟨ei,ho,jL⟩
  have hx:l[i]?=some (l[i]'hi):=List.getElem?_eq_getElem hi
  have cT:l.drop i=(l[i]'hi)::l.drop (i+1):=(List.getElem_cons_drop hi).symm
  generalize (l[i]'hi)=x at hx cT
  have h2:=h.ae (H':=H2) fun b hb=>ho.get b (hg b hb)
  obtain ⟨b,o,c',B,gx,hv,hB,dI,df,cb,hE⟩:=h2.at hx
  cases hv
  obtain ⟨v5,v6,v7',f5,f6,f7,bg,rfl,gG,i7,jO⟩:=hE
  obtain ⟨a5,k5,rfl⟩:=gG.val
  obtain ⟨a6,k6,rfl⟩:=i7.val
  obtain ⟨a7,k7,rfl⟩:=jO.val
  have ef:o+i * 9+9<=B.cells.length:=cb
  have bg:(B.cells.drop (o+i * 9)).take 9=ff x (.slice a5 x.params.length k5) (.slice a6 x.pat.length k6) (.slice a7 x.on.length k7):=bg
  have cH:IntKind.wrap .i64 (((i:Nat):Int)+1)=((i+1:Nat):Int):=cG hi (by omega)
  have dw:H.fz H2.next=false:=hf.fresh ho.nx
  have dh:∀B,B.ro=false->aG H (H2.push B):=fun B hB=>((ho.fr []).push B hB).au
  rw [cT,QO] at jL
  by_cases hn:x.name=[109,97,105,110]
  ·by_cases hp:x.params.length=0
   ·rw [if_pos ⟨hn,hp⟩] at jL
    have Ou:((x.params.length:Nat):Int)=0:=by omega
    simp only [go_sem,ei,hi,hB,ef,bg,dw,hn,Ou]
    rw [jL]
    exact ⟨rfl,(((ho.fr []).push _).af _).au,fun _=>trivial⟩
   ·rw [if_neg (fun e=>hp e.2)] at jL
    have Ou:¬(((x.params.length:Nat):Int)=0):=by omega
    simp only [go_sem,ei,hi,hB,ef,bg,dw,hn,Ou,cH]
    exact ⟨dh _ rfl,jL⟩
  ·rw [if_neg (fun e=>hn e.1)] at jL
   simp only [go_sem,ei,hi,hB,ef,bg,dw,hn,cH]
   exact ⟨dh _ rfl,jL⟩
 ·rintro V H2 ⟨ei,ho,jL⟩
  simp only [go_sem,ei]
  rw [List.drop_length] at jL
  rw [jL]
  exact ⟨rfl,((ho.fr []).af _).au,fun _=>trivial⟩
theorem acb {s:bC}:aj Tryz.prog 131 #[ah s] H (fun w H'=>w=.agg #[iV 2,iV 0,ah s]/\aG H H'/\∀c,H'.fz c=H.fz c):=by
 refine aj.told ?_
 refine ajL (Nat.le_refl _) fun hf=>?_
 simp only [Tryz.f131,Option.getD_some]
 have hX:H.fz H.next=false:=hf.fresh (Nat.le_refl _)
 have bl:∀{h:KH},iA Tryz.prog 145 [(0,iV 2),(2,ah s)] h=.ok (.agg #[iV 2,iV 0,ah s]) h:=fun {h}=>by kernel_rfl
 simp only [go_sem,bl,hX]
 exact ⟨(((Fr.refl [] H).push _).af _).au,fun _=>trivial⟩
def F8:Int->List fu->Int
 | f,[]=>f
 | f,b::l=>F8 (if f < 0∨b.body < f then b.body else f) l
def Qw (place:Int):Nat->Int->List gh->Int
 | _,at_,[]=>at_
 | i,at_,d::l=>Qw place (i+1) (if 0<=F8 d.body d.on/\F8 d.body d.on<=place then ((i:Nat):Int) else at_) l
def Mg (l:List gh) (place:Int):Int:=Qw place 0 (-1) l
theorem ahV {vM vR vD vN:Value} {l:List gh} {g:List Nat} {place:Int} (h:Sl kV H vD l g) (hl:l.length < 1000000) (iW:∀d∈l,d.on.length < 1000000) (hg:∀b∈g,b < H.next):aj Tryz.prog 64 #[.agg #[vM,vR,vD,vN],iV place] H (fun w H'=>w=iV (Mg l place)/\aG H H'/\∀c,H'.fz c=H.fz c):=by
 refine aj.told ?_
 refine am2 (Nat.le_refl _) fun hf=>?_
 simp only [Tryz.f64,Option.getD_some]
 obtain ⟨a,c,rfl⟩:=h.val
 simp only [go_sem]
 refine ft 281474976695776 l.length (fun i V H2=>V 14=iV (i:Nat)/\∃at_,V 5=iV at_/\aG H H2/\Mg l place=Qw place i at_ (l.drop i)) ⟨by simp only [go_sem] <;> rfl, -1,by simp only [go_sem] <;> rfl,((Fr.refl [] H).push _).au,rfl⟩ ?_ ?_ (by rfl)
 ·rintro i V H2 hi ⟨ei,at_,e5,ho,jL⟩
  have hx:l[i]?=some (l[i]'hi):=List.getElem?_eq_getElem hi
  have Am:(l[i]'hi)∈l:=List.getElem_mem hi
  have cT:l.drop i=(l[i]'hi)::l.drop (i+1):=(List.getElem_cons_drop hi).symm
  generalize (l[i]'hi)=x at hx cT Am
  have oD:=iW x Am
  have h2:=h.ae (H':=H2) fun b hb=>ho.get b (hg b hb)
  obtain ⟨b,o,c',B,gx,hv,hB,dI,df,cb,hE⟩:=h2.at hx
  cases hv
  obtain ⟨v5,v6,v7',f5,f6,f7,bg,rfl,gG,i7,jO⟩:=hE
  obtain ⟨a5,k5,rfl⟩:=gG.val
  obtain ⟨a6,k6,rfl⟩:=i7.val
  obtain ⟨a7,k7,rfl⟩:=jO.val
  have ef:o+i * 9+9<=B.cells.length:=cb
  have bg:(B.cells.drop (o+i * 9)).take 9=ff x (.slice a5 x.params.length k5) (.slice a6 x.pat.length k6) (.slice a7 x.on.length k7):=bg
  have cH:IntKind.wrap .i64 (((i:Nat):Int)+1)=((i+1:Nat):Int):=cG hi (by omega)
  have dw:H.fz H2.next=false:=hf.fresh ho.nx
  rw [cT,Qw] at jL
  simp only [go_sem,ei,hi,hB,ef,bg,dw]
  have EU:aG H2 (H2.push ⟨ff x (.slice a5 x.params.length k5) (.slice a6 x.pat.length k6) (.slice a7 x.on.length k7),47,false,false⟩):=aG.push H2 _
  generalize (H2.push ⟨ff x (.slice a5 x.params.length k5) (.slice a6 x.pat.length k6) (.slice a7 x.on.length k7),47,false,false⟩)=H3 at EU
  refine ft 549739037952 x.on.length (fun j V H4=>V 24=iV (j:Nat)/\∃f,V 8=iV f/\aG H2 H4/\F8 x.body x.on=F8 f (x.on.drop j)) ⟨by simp only [go_sem] <;> rfl,x.body,by simp only [go_sem] <;> rfl,EU,rfl⟩ ?_ ?_ (by rfl)
  ·rintro j V4 H4 hj ⟨ej,f,e8,lj,kZ⟩
   have hy:x.on[j]?=some (x.on[j]'hj):=List.getElem?_eq_getElem hj
   have vk:x.on.drop j=(x.on[j]'hj)::x.on.drop (j+1):=(List.getElem_cons_drop hj).symm
   generalize (x.on[j]'hj)=y at hy vk
   have Ox:=jO.ae (H':=H4) fun b hb=>lj.get b (by have:=hg b (df b (by simp [hb]));have:=ho.nx;omega)
   obtain ⟨b2,o2,c2,B2,oF,jm,jH,aBv,aBw,ad9,Yr⟩:=Ox.at hy
   cases jm
   obtain ⟨w5,w6,u5,u6,Gz,rfl,Ys,KT⟩:=Yr
   obtain ⟨a8,k8,rfl⟩:=Ys.val
   obtain ⟨a9,k9,rfl⟩:=KT.val
   have U9:o2+j * 7+7<=B2.cells.length:=ad9
   have Gz:(B2.cells.drop (o2+j * 7)).take 7=cJ y (.slice a8 y.aY.length k8) (.slice a9 y.names.length k9):=Gz
   have jh:IntKind.wrap .i64 (((j:Nat):Int)+1)=((j+1:Nat):Int):=cG hj (by omega)
   have EV:H.fz H4.next=false:=hf.fresh (Nat.le_trans ho.nx lj.nx)
   have Yt:∀B,B.ro=false->aG H2 (H4.push B):=fun B hB=>((lj.fr []).push B hB).au
   rw [vk,F8] at kZ
   by_cases fg:f < 0
   ·rw [if_pos (.inl fg)] at kZ
    simp only [go_sem,ej,e8,hj,jH,U9,Gz,EV,fg,jh]
    exact ⟨_,rfl,Yt _ rfl,kZ⟩
   ·by_cases jI:y.body < f
    ·rw [if_pos (.inr jI)] at kZ
     simp only [go_sem,ej,e8,hj,jH,U9,Gz,EV,fg,jI,jh]
     exact ⟨_,rfl,Yt _ rfl,kZ⟩
    ·rw [if_neg (fun e=>e.elim fg jI)] at kZ
     simp only [go_sem,ej,e8,hj,jH,U9,Gz,EV,fg,jI,jh]
     exact ⟨_,rfl,Yt _ rfl,kZ⟩
  ·rintro V4 H4 ⟨ej,f,e8,lj,kZ⟩
   rw [List.drop_length] at kZ
   rw [kZ,F8] at jL
   by_cases fg:0<=f
   ·by_cases jI:f<=place
    ·rw [if_pos ⟨fg,jI⟩] at jL
     simp only [go_sem,ej,e8,ei,e5,fg,jI,cH]
     exact ⟨_,rfl,ho.trans lj,jL⟩
    ·rw [if_neg (fun e=>jI e.2)] at jL
     simp only [go_sem,ej,e8,ei,e5,fg,jI,cH]
     exact ⟨_,rfl,ho.trans lj,jL⟩
   ·rw [if_neg (fun e=>fg e.1)] at jL
    simp only [go_sem,ej,e8,ei,e5,fg,cH]
    exact ⟨_,rfl,ho.trans lj,jL⟩
 ·rintro V H2 ⟨ei,at_,e5,ho,jL⟩
  simp only [go_sem,ei,e5]
  rw [List.drop_length] at jL
  rw [jL]
  exact ⟨rfl,((ho.fr []).af _).au,fun _=>trivial⟩
end
def qs {α:Type} (r:Rp α) (H:ad) (v:Value) (l:List α) (g:List Nat):Prop:=∃gs,Sl r H v l gs/\∀c∈gs,c∈g
theorem Sl.i {α:Type} {r:Rp α} {H:ad} {v:Value} {l:List α} {gs g:List Nat} (h:Sl r H v l gs) (hg:∀c∈gs,c∈g):qs r H v l g:=⟨gs,h,hg⟩
theorem qs.ae {α:Type} {r:Rp α} {H H':ad} {v:Value} {l:List α} {g:List Nat} (h:qs r H v l g) (hk:∀b∈g,H'.get b=H.get b):qs r H' v l g:=by
 obtain ⟨gs,h1,h2⟩:=h
 exact ⟨gs,h1.ae fun b hb=>hk b (h2 b hb),h2⟩
theorem qs.val {α:Type} {r:Rp α} {H:ad} {v:Value} {l:List α} {g:List Nat} (h:qs r H v l g):∃a c,v=.slice a l.length c:=by
 obtain ⟨gs,h1,_⟩:=h
 exact h1.val
theorem qs.at {α:Type} {r:Rp α} {H:ad} {v:Value} {l:List α} {f:List Nat} (h:qs r H v l f) {i:Nat} {x:α} (hi:l[i]?=some x):
  ∃b o c B g,v=.slice (some ⟨b,o,none⟩) l.length c/\H.get b=some B/\b∈f/\(∀y∈g,y∈f)/\o+i * r.sz+r.sz<=B.cells.length/\r.E H ((B.cells.drop (o+i * r.sz)).take r.sz) x g:=by
 obtain ⟨gs,h1,h2⟩:=h
 obtain ⟨b,o,c,B,g,e1,e2,e3,e4,e5,e6⟩:=h1.at hi
 exact ⟨b,o,c,B,g,e1,e2,h2 b e3,fun y hy=>h2 y (e4 y hy),e5,e6⟩
structure ZS where
 pM:Value
 pR:Value
 pD:Value
 pN:Value
 qM:Value
 qR:Value
 qD:Value
 self:bC
abbrev zC (s:ZS) (qN:Value):List Value:=[s.pM,s.pR,s.pD,s.pN,s.qM,s.qR,s.qD,qN,ah s.self,iV 0,iV 0,iV 0,iV 0,iV 0,iV 0,iV 0,iV 0,iV 0,iV 0,iV 0,iV 0,iV 0,ah [],ah [],ah [],ah [],.slice none 0 0,.slice none 0 0,.slice none 0 0]
structure ZQ0 (S:ZS) (src:List aJ) (gP:List Nat) (H:ad) (z:Nat) (ns:List aJ) (m g:List Nat):Prop where
 row:∃qN,H.get z=some ⟨zC S qN,127,false,false⟩/\Gr ku 59 H qN ns m g
 src:qs ku H S.pN src gP
 zl:z < H.next
 hm:∀c∈m,c < H.next/\c≠z/\c∉gP/\c∉g
 hg:∀c∈g,c < H.next/\c≠z
 hP:∀c∈gP,c < H.next/\c≠z
structure ZQ (S:ZS) (src:List aJ) (gP:List Nat) (H:ad) (z:Nat) (ns:List aJ) (m g:List Nat):Prop extends ZQ0 S src gP H z ns m g where
 fz:H.fz z=false
 fm:∀c∈m,H.fz c=false
 fn:∀b,H.next<=b->H.fz b=false
section
variable {S:ZS} {src:List aJ} {gP:List Nat} {H H1 H2:ad} {z:Nat} {ns bZ cB:List aJ} {m m1 m2 g g1 g2:List Nat}
theorem ZQ0.fr (h:ZQ0 S src gP H z ns m g) {M:List Nat} (bk:Fr M H H1) (mz:z∉M) (mm:∀c∈m,c∉M) (mg:∀c∈g,c∉M) (mP:∀c∈gP,c∉M):ZQ0 S src gP H1 z ns m g:=by
 obtain ⟨⟨qN,h1,h2⟩,h3,zl,hm,hg,hP⟩:=h
 exact ⟨⟨qN,(bk.get z zl mz).trans h1,h2.ae (fun c hc=>bk.get c (hm c hc).1 (mm c hc)) (fun c hc=>bk.get c (hg c hc).1 (mg c hc))⟩,h3.ae fun c hc=>bk.get c (hP c hc).1 (mP c hc),Nat.lt_of_lt_of_le zl bk.nx,fun c hc=>⟨Nat.lt_of_lt_of_le (hm c hc).1 bk.nx,(hm c hc).2⟩,fun c hc=>⟨Nat.lt_of_lt_of_le (hg c hc).1 bk.nx,(hg c hc).2⟩,fun c hc=>⟨Nat.lt_of_lt_of_le (hP c hc).1 bk.nx,(hP c hc).2⟩⟩
theorem ZQ0.af {fz:Nat->Bool} (h:ZQ0 S src gP H z ns m g):ZQ0 S src gP (H.af fz) z ns m g:=h.fr ((Fr.refl [] H).af _) (by simp) (by simp) (by simp) (by simp)
theorem alj (h:ZQ S src gP H z ns m g) (hn:ns.length < 100000) {n:aJ} {line az:Int} {vA vP vB:Value} {gA gQ gB:List Nat} (hA:Sl jy H vA n.args gA) (hQ:Sl gU H vP n.pat gQ) (hB:Sl eQ H vB n.ak gB) (fk:∀c∈gA++(gQ++gB),c < H.next/\c≠z/\c∉m):
  aj Tryz.prog 101 #[pV z,.agg (aU n vA vP vB).toArray,iV line,iV az] H (fun w H'=>w=iV (ns.length:Nat)/\Fr (z::m) H H'/\(∀c,H'.fz c=H.fz c)/\∃m',ZQ0 S src gP H' z (ns++[{n with line:=line,az:=az,next:= -1}]) m' (g++(gA++(gQ++gB)))/\∀c∈m',c∈m∨H.next<=c):=by
 refine aj.told ?_
 refine aiQ (Nat.le_refl _) fun hf=>?_
 simp only [Tryz.f101,Option.getD_some]
 obtain ⟨qN,hz,cw⟩:=h.row
 obtain ⟨aN,C4⟩:=cw.val
 rw [C4] at hz cw
 obtain ⟨aA,kA,rfl⟩:=hA.val
 obtain ⟨aP,kP,rfl⟩:=hQ.val
 obtain ⟨aB,kB,rfl⟩:=hB.val
 have hX:=h.fn H.next (Nat.le_refl _)
 have XZ:=h.fn (H.next+1) (Nat.le_succ _)
 have mW:=h.fz
 have nz:¬z=H.next:=fun e=>by have:=h.zl;omega
 have SD:¬z=H.next+1:=fun e=>by have:=h.zl;omega
 simp only [go_sem,hz,hX,XZ,nz,SD,eX Mr (by decide) (by decide)]
 have fp:Fr [] H ((H.push ⟨aU {n with line:=line,az:=az,next:= -1} (.slice aA n.args.length kA) (.slice aP n.pat.length kP) (.slice aB n.ak.length kB),59,false,false⟩).push ⟨aU {n with line:=line,az:=az,next:= -1} (.slice aA n.args.length kA) (.slice aP n.pat.length kP) (.slice aB n.ak.length kB),59,false,false⟩):=((Fr.refl [] H).push _).push _
 have gx:((H.push ⟨aU {n with line:=line,az:=az,next:= -1} (.slice aA n.args.length kA) (.slice aP n.pat.length kP) (.slice aB n.ak.length kB),59,false,false⟩).push ⟨aU {n with line:=line,az:=az,next:= -1} (.slice aA n.args.length kA) (.slice aP n.pat.length kP) (.slice aB n.ak.length kB),59,false,false⟩).get (H.next+1)=some ⟨aU {n with line:=line,az:=az,next:= -1} (.slice aA n.args.length kA) (.slice aP n.pat.length kP) (.slice aB n.ak.length kB),59,false,false⟩:=by rw [aZ];exact if_pos rfl
 have nx:((H.push ⟨aU {n with line:=line,az:=az,next:= -1} (.slice aA n.args.length kA) (.slice aP n.pat.length kP) (.slice aB n.ak.length kB),59,false,false⟩).push ⟨aU {n with line:=line,az:=az,next:= -1} (.slice aA n.args.length kA) (.slice aP n.pat.length kP) (.slice aB n.ak.length kB),59,false,false⟩).next=H.next+2:=rfl
 generalize hHp:((H.push ⟨aU {n with line:=line,az:=az,next:= -1} (.slice aA n.args.length kA) (.slice aP n.pat.length kP) (.slice aB n.ak.length kB),59,false,false⟩).push ⟨aU {n with line:=line,az:=az,next:= -1} (.slice aA n.args.length kA) (.slice aP n.pat.length kP) (.slice aB n.ak.length kB),59,false,false⟩)=Hp at fp gx nx
 have z0:=h.toZQ0.fr fp (by simp) (by simp) (by simp) (by simp)
 have Rd:=cw.ae (H':=Hp) (fun c hc=>fp.get c (h.hm c hc).1 (by simp)) (fun c hc=>fp.get c (h.hg c hc).1 (by simp))
 have kp:∀c∈gA++(gQ++gB),Hp.get c=H.get c:=fun c hc=>fp.get c (fk c hc).1 (by simp)
 refine lA (r:=ku) (x:={n with line:=line,az:=az,next:= -1}) (g':=gA++(gQ++gB)) Mr Rd (fun c hc=>(z0.hm c hc).1) (fun c hc=>(z0.hg c hc).1) (fun c hc=>⟨by have:=(fk c hc).1;omega,(fk c hc).2.2⟩) (fun c hc=>h.fm c hc) gx ⟨_,_,_,gA,gQ,gB,rfl,rfl,hA.ae fun c hc=>kp c (by simp [hc]),hQ.ae fun c hc=>kp c (by simp [hc]),hB.ae fun c hc=>kp c (by simp [hc])⟩ rfl (by omega) ?_
 intro v7 H7 cA eu jU dA kY
 obtain ⟨a7,uw⟩:=cA.val
 have SE:z∉m:=fun e=>(h.hm z e).2.1 rfl
 have An:=(jU z z0.zl SE).trans ((fp.get z h.zl (by simp)).trans hz)
 have C5:(ns++[({n with line:=line,az:=az,next:= -1}:aJ)]).length=ns.length+1:=by rw [List.length_append];rfl
 rw [C5] at uw
 subst uw
 simp only [go_sem,An,mW]
 have hw:IntKind.i64.wrap (((ns.length+1:Nat):Int) - 1)=((ns.length:Nat):Int):=by
  rw [show (((ns.length+1:Nat):Int) - 1)=((ns.length:Nat):Int) by omega]
  exact tT (by omega)
 rw [hw]
 have f7:Fr (z::m) H H7:=(fp.sub (by simp)).then (dA.sub fun c hc=>.inl (by simp [hc]))
 have G5:=h.zl
 refine ⟨rfl,(f7.ai (.inl (by simp)) _).af _,fun _=>trivial,[Hp.next],ZQ0.af ⟨⟨_,by rw [aH,if_pos rfl],cA.ae (fun c hc=>?_) (fun c hc=>?_)⟩,(z0.src.ae fun c hc=>?_),?_,fun c hc=>?_,fun c hc=>?_,fun c hc=>?_⟩,fun c hc=>?_⟩
 ·rw [List.mem_singleton] at hc
  rw [aH,if_neg (by omega)]
 ·rw [aH,if_neg]
  rcases List.mem_append.1 hc with e | e
  ·exact (h.hg c e).2
  ·exact (fk c e).2.1
 ·rw [aH,if_neg (h.hP c hc).2]
  exact jU c (z0.hP c hc).1 fun e=>(h.hm c e).2.2.1 hc
 ·show z < H7.next
  omega
 ·rw [List.mem_singleton] at hc
  subst hc
  refine ⟨by show Hp.next < H7.next;omega,by omega,fun e=>by have:=(h.hP _ e).1;omega,fun e=>?_⟩
  rcases List.mem_append.1 e with e | e
  ·have:=(h.hg _ e).1;omega
  ·have:=(fk _ e).1;omega
 ·show c < H7.next/\c≠z
  rcases List.mem_append.1 hc with e | e
  ·have:=h.hg c e;exact ⟨by omega,this.2⟩
  ·have:=fk c e;exact ⟨by omega,this.2.1⟩
 ·show c < H7.next/\c≠z
  have:=h.hP c hc;exact ⟨by omega,this.2⟩
 ·rw [List.mem_singleton] at hc
  exact .inr (by omega)
end
def JM (S:ZS) (src:List aJ) (gP:List Nat) (H:ad) (z:Nat) (ns:List aJ) (m g:List Nat) (iG:List aJ) (H':ad):Prop:=
 Fr (z::m) H H'/\(∀c,H'.fz c=H.fz c)/\ns.length<=iG.length/\∃m' g',ZQ0 S src gP H' z iG m' g'/\(∀c∈m',c∈m∨H.next<=c)/\∀c∈g',c∈g∨c∈gP∨H.next<=c
structure ZR (S:ZS) (src:List aJ) (gP:List Nat) (H:ad) (z:Nat) (ns:List aJ) (m g:List Nat) (H1:ad) (bZ:List aJ) (m1 g1:List Nat):Prop where
 fr:Fr (z::m) H H1
 zq:ZQ S src gP H1 z bZ m1 g1
 le:ns.length<=bZ.length
 sm:∀c∈m1,c∈m∨H.next<=c
 sg:∀c∈g1,c∈g∨c∈gP∨H.next<=c
section
variable {S:ZS} {src:List aJ} {gP:List Nat} {H H1 H2:ad} {z:Nat} {ns bZ cB:List aJ} {m m1 m2 g g1 g2:List Nat}
theorem ZR.start (h:ZQ S src gP H z ns m g):ZR S src gP H z ns m g H ns m g:=⟨.refl _ _,h,Nat.le_refl _,fun _ h=>.inl h,fun _ h=>.inl h⟩
theorem ZR.push (h:ZR S src gP H z ns m g H1 bZ m1 g1) (B:cO) (hB:B.ro=false:=by rfl):ZR S src gP H z ns m g (H1.push B) bZ m1 g1:=by
 have key:∀c,c < H1.next->(H1.push B).fz c=H1.fz c:=fun c hc=>by
  rw [rv,show (c==H1.next)=false from by rw [beq_eq_false_iff_ne];omega,Bool.false_or]
 exact ⟨h.fr.push B hB,{h.zq.toZQ0.fr ((aG.push H1 B hB).fr []) (by simp) (by simp) (by simp) (by simp) with fz:=by rw [key _ h.zq.zl];exact h.zq.fz,fm:=fun c hc=>by rw [key _ (h.zq.hm c hc).1];exact h.zq.fm c hc,fn:=fun b hb=>(by rw [bI] at hb;rw [rv,h.zq.fn b (by omega),Bool.or_false,beq_eq_false_iff_ne];omega)},h.le,h.sm,h.sg⟩
theorem ZR.call (h:ZR S src gP H z ns m g H1 bZ m1 g1) {iG:List aJ} (hp:JM S src gP H1 z bZ m1 g1 iG H2):∃m2 g2,ZR S src gP H z ns m g H2 iG m2 g2/\(∀c∈m2,c∈m1∨H1.next<=c)/\∀c∈g2,c∈g1∨c∈gP∨H1.next<=c:=by
 obtain ⟨hf,hz,hle,m2,g2,h0,hs,jf⟩:=hp
 have dH:=h.fr.nx
 refine ⟨m2,g2,⟨h.fr.trans hf fun c hc=>?_,{h0 with fz:=by rw [hz];exact h.zq.fz,fm:=fun c hc=>?_,fn:=fun b hb=>by rw [hz];exact h.zq.fn b (Nat.le_trans hf.nx hb)},Nat.le_trans h.le hle,fun c hc=>(hs c hc).elim (h.sm c) fun e=>.inr (Nat.le_trans dH e),fun c hc=>(jf c hc).elim (h.sg c) fun e=>e.elim (fun e=>.inr (.inl e)) fun e=>.inr (.inr (Nat.le_trans dH e))⟩,hs,jf⟩
 ·rcases List.mem_cons.1 hc with e | hc
  ·exact .inl (by simp [e])
  ·exact (h.sm c hc).imp (fun e=>by simp [e]) id
 ·rw [hz]
  rcases hs c hc with e | e
  ·exact h.zq.fm c e
  ·exact h.zq.fn c e
theorem ZR.last (h:ZR S src gP H z ns m g H1 bZ m1 g1):JM S src gP H z ns m g bZ (H1.af H.fz):=⟨h.fr.af _,fun _=>rfl,h.le,m1,g1,h.zq.toZQ0.af,h.sm,h.sg⟩
theorem ZR.x (h0:ZQ S src gP H z ns m g) (hf:bY H) (h:ZR S src gP H z ns m g H1 bZ m1 g1):∀b∈m1,H.fz b=false:=fun b hb=>(h.sm b hb).elim (h0.fm b) (fun e=>hf.fresh e)
theorem ZR.oT (h:ZR S src gP H z ns m g H1 bZ m1 g1) {l j:Nat} (hl:l < bZ.length) (hj:j < 17) {v:Value} {n':aJ} (hn:∀wA wP wB,(aU bZ[l] wA wP wB).set j v=aU n' wA wP wB) (ha:n'.args=bZ[l].args) (hp:n'.pat=bZ[l].pat) (di:n'.ak=bZ[l].ak):
  ∃b cs,H1.get z=some ⟨zC S (.slice (some ⟨b,0,none⟩) bZ.length bZ.length),127,false,false⟩/\b∈m1/\H1.get b=some ⟨cs,59,true,false⟩/\l * 20+20<=cs.length/\
  ZR S src gP H z ns m g (H1.ai b ⟨cs.set (l * 20+j) v,59,true,false⟩) (bZ.set l n') m1 g1:=by
 obtain ⟨vN,hq,cw⟩:=h.zq.row
 obtain ⟨b,cs,f1,f2,f3,rfl,rfl,hb,gJ,rfl,bX,hE,jk⟩:=cw.put hl
 obtain ⟨wA,wP,wB,e1,e2,e3,bg,rfl,s1,s2,s3⟩:=hE
 have gX:ku.sz=20:=rfl
 rw [gX] at bX bg
 obtain ⟨fB,eo,fU,qY⟩:=h.zq.hm b (by simp)
 have bf:l * 20+j < cs.length:=by omega
 have fR:cs.set (l * 20+j) v=cY cs (l * ku.sz) (aU n' wA wP wB):=by
  have:=AE (vs:=[v]) bg (k:=j) (by show j+1<=20;omega) bX
  rw [fL bf] at this
  rw [this]
  have e:cY (aU bZ[l] wA wP wB) j [v]=(aU bZ[l] wA wP wB).set j v:=fL (by show j < 20;omega)
  rw [hn] at e
  rw [<-e];rfl
 have bk:Fr [b] H1 (H1.ai b ⟨cs.set (l * 20+j) v,59,true,false⟩):=(Fr.refl _ _).ai (.inl (by simp)) _
 have kg:∀c,c≠b->(H1.ai b ⟨cs.set (l * 20+j) v,59,true,false⟩).get c=H1.get c:=fun c hc=>by rw [aH,if_neg hc]
 have so:∀c∈f1++(e1++(e2++e3)++f3),c≠b:=fun c hc e=>qY (e▸hc)
 have cA:=jk (H1.ai b ⟨cs.set (l * 20+j) v,59,true,false⟩) (aU n' wA wP wB) n' (e1++(e2++e3))
  (fun z hz=>kg z (so z (by rcases hz with e | e <;> simp [e]))) (by rw [aH,if_pos rfl,fR]) ⟨wA,wP,wB,e1,e2,e3,rfl,rfl,(ha▸s1:Sl jy H1 wA n'.args e1).ae fun c hc=>kg c (so c (by simp [hc])),(hp▸s2:Sl gU H1 wP n'.pat e2).ae fun c hc=>kg c (so c (by simp [hc])),(di▸s3:Sl eQ H1 wB n'.ak e3).ae fun c hc=>kg c (so c (by simp [hc]))⟩
  (fun e=>qY (List.mem_append_right _ (List.mem_append_left _ e)))
 refine ⟨b,cs,hq,by simp,hb,bX,⟨h.fr.trans bk fun c hc=>?_,{row:=⟨_,(kg z (Ne.symm eo)).trans hq,?_⟩,src:=h.zq.src.ae fun c hc=>kg c (fun e=>fU (e▸hc)),zl:=h.zq.zl,hm:=h.zq.hm,hg:=h.zq.hg,hP:=h.zq.hP,fz:=h.zq.fz,fm:=h.zq.fm,fn:=h.zq.fn},by rw [List.length_set];exact h.le,h.sm,h.sg⟩⟩
 ·rw [List.mem_singleton] at hc
  subst hc
  exact (h.sm c (by simp)).imp (fun e=>by simp [e]) id
 ·exact cA
abbrev Zn:=aJ->List aJ->Option (Nat × Nat × List aJ)
abbrev Zb:=Int->List aJ->Option (Int × List aJ)
def ZnW (S:ZS) (src:List aJ) (gP:List Nat) (z:Nat) (nd:Zn):Prop:=∀{H:ad} {ns iG:List aJ} {m g:List Nat} {n:aJ} {vA vP vB:Value} {gA gQ gB:List Nat} {f t:Nat},ZQ S src gP H z ns m g->Sl jy H vA n.args gA->Sl gU H vP n.pat gQ->Sl eQ H vB n.ak gB->(∀c∈gA++(gQ++gB),c∈gP)->nd n ns=some (f,t,iG)->
 aj Tryz.prog 102 #[pV z,.agg (aU n vA vP vB).toArray] H (fun w H'=>w=.tuple #[iV (f:Nat),iV (t:Nat)]/\JM S src gP H z ns m g iG H')
def ZbW (S:ZS) (src:List aJ) (gP:List Nat) (z:Nat) (bd:Zb):Prop:=∀{H:ad} {ns iG:List aJ} {m g:List Nat} {k i:Int},ZQ S src gP H z ns m g->bd k ns=some (i,iG)->
 aj Tryz.prog 78 #[pV z,iV k] H (fun w H'=>w=iV i/\JM S src gP H z ns m g iG H')
def Ng (src:List aJ) (nd:Zn):Nat->Option (Nat × Nat)->Int->List aJ->Option (Int × List aJ)
 | 0,_,_,_=>none
 | j+1,fl,k,ns=>
  if 0<=k then
   (if k.toNat < src.length then (nd (src.getD k.toNat {}) ns).bind fun R=>
    if R.2.1 < R.2.2.length then Ng src nd j (match fl with | none=>some (R.1,R.2.1) | some x=>some (x.1,R.2.1)) (src.getD k.toNat {}).next (U7 fl R.2.2 R.1) else none
   else none)
  else some (fV fl,ns)
theorem agh {nd:Zn} (cP:ZnW S src gP z nd) (h:ZQ S src gP H z ns m g) (ea:src.length < 100000) {fuel:Nat} {k:Int} {R:Int × List aJ} (he:Ng src nd fuel none k ns=some R):
  aj Tryz.prog 78 #[pV z,iV k] H (fun w H'=>w=iV R.1/\JM S src gP H z ns m g R.2 H'):=by
 refine aj.told ?_
 refine anj (Nat.le_refl _) fun hf=>?_
 simp only [Tryz.f78,Option.getD_some]
 have r0:=ZR.start h
 simp only [go_sem]
 refine qA 2199023255522 (fun n V H2=>∃fl k2 cB m2 g2,V 1=iV k2/\V 5=iV (fV fl)/\V 6=iV (lV fl)/\ZR S src gP H z ns m g H2 cB m2 g2/\(∀x,fl=some x->x.2 < cB.length)/\Ng src nd n fl k2 cB=some R) (n:=fuel)
  ⟨none,k,ns,m,g,by simp only [go_sem] <;> rfl,by simp only [go_sem] <;> rfl,by simp only [go_sem] <;> rfl,r0,by simp,he⟩ ?_ (by rfl)
 rintro n V H2 ⟨fl,k2,cB,m2,g2,e1,e5,e6,r2,dC,bw⟩
 cases n with
 | zero=>cases bw
 | succ n=>
  rw [Ng] at bw
  by_cases hk:0<=k2
  ·rw [if_pos hk] at bw
   obtain ⟨kn,rfl⟩:=Int.eq_ofNat_of_zero_le hk
   rw [Int.toNat_natCast] at bw
   by_cases jZ:kn < src.length
   ·rw [if_pos jZ] at bw
    have gu:(src.getD kn {})=src[kn]:=by rw [List.getD_eq_getElem?_getD,List.getElem?_eq_getElem jZ];rfl
    rw [gu] at bw
    have hx:src[kn]?=some (src[kn]'jZ):=List.getElem?_eq_getElem jZ
    generalize (src[kn]'jZ)=x at hx bw
    obtain ⟨b,o,c',B,gx,hv,hB,dI,df,cb,hE⟩:=r2.zq.src.at hx
    obtain ⟨wA,wP,wB,u1,u2,u3,bg,rfl,s1,s2,s3⟩:=hE
    obtain ⟨qN,hz,cw⟩:=r2.zq.row
    obtain ⟨aA,kA,rfl⟩:=s1.val
    obtain ⟨aP,kP,rfl⟩:=s2.val
    obtain ⟨aB,kB,rfl⟩:=s3.val
    have ef:o+kn * 20+20<=B.cells.length:=cb
    have bg:(B.cells.drop (o+kn * 20)).take 20=aU x (.slice aA x.args.length kA) (.slice aP x.pat.length kP) (.slice aB x.ak.length kB):=bg
    have dw:H.fz H2.next=false:=h.fn _ r2.fr.nx
    cases hR:nd x cB with
    | none=>rw [hR] at bw;cases bw
    | some RR=>
    obtain ⟨f,t,HL⟩:=RR
    rw [hR] at bw
    simp only [Option.bind_some] at bw
    by_cases ht:t < HL.length
    ·rw [if_pos ht] at bw
     simp only [go_sem,e1,hk,hz,hv,jZ,hB,ef,bg,dw]
     have r3:=r2.push ⟨aU x (.slice aA x.args.length kA) (.slice aP x.pat.length kP) (.slice aB x.ak.length kB),59,false,false⟩
     have k3:∀c∈gP,(H2.push ⟨aU x (.slice aA x.args.length kA) (.slice aP x.pat.length kP) (.slice aB x.ak.length kB),59,false,false⟩).get c=H2.get c:=fun c hc=>bO (r2.zq.hP c hc).1
     refine ag.by (cP r3.zq (s1.ae fun c hc=>k3 c (df c (by simp [hc]))) (s2.ae fun c hc=>k3 c (df c (by simp [hc]))) (s3.ae fun c hc=>k3 c (df c (by simp [hc]))) df hR) ?_
     rintro _ H4 - ⟨rfl,p4⟩
     obtain ⟨m4,g4,r4,s4,_⟩:=r3.call p4
     have gbx:H4.get H2.next=some ⟨aU x (.slice aA x.args.length kA) (.slice aP x.pat.length kP) (.slice aB x.ak.length kB),59,false,false⟩:=(p4.1.get H2.next (Nat.lt_succ_self _) (by
      simp only [List.mem_cons,not_or]
      exact ⟨by have:=r2.zq.zl;omega,fun e=>by have:=(r2.zq.hm _ e).1;omega⟩)).trans (by rw [aZ,if_pos rfl])
     cases fl with
     | none=>
      have de:(-1:Int) < 0:=by decide
      simp only [go_sem,e5,fV,de,gbx]
      exact ⟨n,by omega,some (f,t),x.next,HL,m4,g4,rfl,rfl,rfl,r4,fun y hy=>by cases hy;exact ht,bw⟩
     | some y=>
      have de:¬(((y.1:Nat):Int) < 0):=by omega
      have hy2:=dC y rfl
      have aBx:cB.length<=HL.length:=p4.2.2.1
      have hl:y.2 < HL.length:=by omega
      obtain ⟨b4,Oy,hz4,jr,qY,ap7,r5⟩:=r4.oT hl (show 10 < 17 by decide) (v:=iV (f:Nat)) (n':={HL[y.2] with next:=((f:Nat):Int)}) (fun _ _ _=>rfl) rfl rfl rfl
      have gC:=ZR.x h hf r4 b4 jr
      have dE:y.2 * 20+10 < Oy.length:=by omega
      have hV:y.2 * 20+10+1<=Oy.length:=by omega
      have Sj:¬H2.next=b4:=fun e=>by
       rcases s4 b4 jr with e' | e'
       ·have:=(r2.zq.hm b4 e').1;omega
       ·have:H2.next+1<=b4:=e'
        omega
      have ap8:(HL.getD y.2 {})=HL[y.2]:=by rw [List.getD_eq_getElem?_getD,List.getElem?_eq_getElem hl];rfl
      simp only [U7,lF,ap8] at bw
      simp only [go_sem,e5,e6,fV,lV,de,hz4,qY,gC,hl,dE,hV,ap7,Sj,gbx,fL dE]
      exact ⟨n,by omega,some (y.1,t),x.next,_,m4,g4,rfl,rfl,rfl,r5,fun w hw=>by cases hw;rw [List.length_set];exact ht,bw⟩
    ·rw [if_neg ht] at bw;cases bw
   ·rw [if_neg jZ] at bw;cases bw
  ·rw [if_neg hk] at bw
   cases bw
   simp only [go_sem,e1,hk,e5]
   exact r2.last
end
theorem aaY {X:Nat->Bool} {H:ad} {b:Nat} {x:oU} {v:Value} {l:List oU} {g:List Nat} {K:Value->ad->Prop} {tg:Tag K} (hb:H.get b=some ⟨[iV x.kind,iV x.n,ah x.name],145,false,false⟩) (cb:b < H.next) (h:Sl jy H v l g) (hn:l.length < 1000000) (hX:X b=false)
  (hk:∀v' H' c,Sl jy H' v' (x::l) [c]->(c=b/\H'=H.ai b ⟨[iV x.kind,iV x.n,ah x.name],145,false,false⟩∨c=H.next/\∃cs,H'=H.push ⟨cs,145,true,false⟩)->K v' H'):fe Tryz.prog X H (iZ Tryz.prog 57 (.slice (some ⟨b,0,none⟩) 1 1) v H) K tg:=by
 obtain ⟨cs,g',hs,gJ,ud,_⟩:=h.src (size:=3) rfl
 cases l with
 | nil=>
  have bg:cs=[]:=by simpa using gJ
  subst bg
  rw [Mc (n:=0) (sl:=1) (sc:=1) rz hs rfl hb rfl (by show 0+1 * 3<=3;omega) (by omega) (Nat.le_refl 1) rfl,Qa hX]
  exact hk _ _ b (.inr (.inr ⟨b,0,1,_,[],rfl,by simp,Nat.le_refl _,rfl,by rw [aH];exact if_pos rfl,⟨_,[],[],[],rfl,rfl,⟨rfl,rfl⟩,rfl⟩⟩)) (.inl ⟨rfl,rfl⟩)
 | cons y l=>
  have fY:∀{cs:List Value} {l:List oU} {f:List Nat},dT jy H cs l f->f=[]:=by
   intro cs l
   induction l generalizing cs with
   | nil=>intro f h;exact h
   | cons a l ih=>
    intro f h
    obtain ⟨c1,c2,f1,f2,rfl,rfl,h1,h2⟩:=h
    rw [h1.2,ih h2];rfl
  have fk:=fY ud
  subst fk
  rw [FF (n:=(y::l).length) (o:=0) (sl:=1) (sc:=1) rz hs hb (by rfl) (Nat.le_refl 1) (by simp only [List.length_cons] at hn ⊢;omega) (by simp)]
  rw [AI]
  refine hk _ _ H.next (.inr (.inr ⟨H.next,0,_,_,[],?_,by simp,Nat.le_refl _,rfl,by rw [aZ];exact if_pos rfl,?_⟩)) (.inr ⟨rfl,_,rfl⟩)
  ·rw [show 1+(y::l).length=(x::y::l).length by simp only [List.length_cons];omega]
  ·have ho:∀b∈([]:List Nat),(H.push ⟨(([iV x.kind,iV x.n,ah x.name]:List Value).drop 0).take (1 * 3)++cs,145,true,false⟩).get b=H.get b:=by simp
   exact ⟨_,cs,[],[],rfl,rfl,⟨rfl,rfl⟩,ud.ae ho⟩
theorem AP {P:Program} {X:Nat->Bool} {H:ad} {α:Type} {r:Rp α} {t e:TypeId} {dW:Nat} {v:Value} {l:List α} {g:List Nat} {K:Value->ad->Prop} {tg:Tag K} (ha:iL P t=some (e,r.sz,dW)) (h:Sl r H v l g) (hn:l.length * dW < 140737488355328) (hg:∀b∈g,b < H.next)
  (hk:∀v' H' mL gL,Gr r e H' v' l mL gL->(∀c∈gL,c∈g)->(mL=[]/\H'=H∨mL=[H.next]/\∃cs,H'=H.push ⟨cs,e,true,false⟩)->K v' H'):fe P X H (iZ P t (.slice none 0 0) v H) K tg:=by
 obtain ⟨cs,g',hs,gJ,ud,mj⟩:=h.src (size:=r.sz) rfl
 by_cases hl:l=[]
 ·subst hl
  rw [aaN ha hs]
  simp only [go_sem]
  exact hk _ _ [] [] (Gr.nil _ _ _) (by simp) (.inl ⟨rfl,rfl⟩)
 ·have h0:0 < l.length:=by rw [Nat.pos_iff_ne_zero,Ne,List.length_eq_zero_iff];exact hl
  rw [LY ha hs hn h0,AI]
  refine hk _ _ [H.next] g' (.inr ⟨H.next,cs,rfl,hl,rfl,by rw [aZ,if_pos rfl],gJ,ud.ae fun b hb=>bO (hg b (mj b hb)),fun e=>by have:=hg _ (mj _ e);omega⟩) mj (.inr ⟨rfl,_,rfl⟩)
section
variable {S:ZS} {src:List aJ} {gP:List Nat} {H H1 H2:ad} {z:Nat} {ns bZ cB:List aJ} {m m1 m2 g g1 g2:List Nat}
theorem ZR.add (h:ZR S src gP H z ns m g H1 bZ m1 g1) (hn:bZ.length < 100000) {n:aJ} {line az:Int} {vA vP vB:Value} {gA gQ gB:List Nat} (hA:Sl jy H1 vA n.args gA) (hQ:Sl gU H1 vP n.pat gQ) (hB:Sl eQ H1 vB n.ak gB) (fk:∀c∈gA++(gQ++gB),c < H1.next/\c≠z/\c∉m1/\(c∈gP∨H.next<=c)):
  aj Tryz.prog 101 #[pV z,.agg (aU n vA vP vB).toArray,iV line,iV az] H1 (fun w H2=>w=iV (bZ.length:Nat)/\Fr (z::m1) H1 H2/\∃m2,ZR S src gP H z ns m g H2 (bZ++[{n with line:=line,az:=az,next:= -1}]) m2 (g1++(gA++(gQ++gB)))/\∀c∈m2,c∈m1∨H1.next<=c):=
 (alj h.zq hn hA hQ hB fun c hc=>⟨(fk c hc).1,(fk c hc).2.1,(fk c hc).2.2.1⟩).mono fun w H2 _ ⟨hw,hf,hz,m2,h0,hs⟩=>by
  have dH:=h.fr.nx
  refine ⟨hw,hf,m2,⟨h.fr.trans hf fun c hc=>?_,{h0 with fz:=by rw [hz];exact h.zq.fz,fm:=fun c hc=>?_,fn:=fun b hb=>by rw [hz];exact h.zq.fn b (Nat.le_trans hf.nx hb)},by rw [List.length_append];exact Nat.le_trans h.le (Nat.le_add_right _ _),fun c hc=>(hs c hc).elim (h.sm c) fun e=>.inr (Nat.le_trans dH e),fun c hc=>?_⟩,hs⟩
  ·rcases List.mem_cons.1 hc with e | hc
   ·exact .inl (by simp [e])
   ·exact (h.sm c hc).imp (fun e=>by simp [e]) id
  ·rw [hz]
   rcases hs c hc with e | e
   ·exact h.zq.fm c e
   ·exact h.zq.fn c e
  ·rcases List.mem_append.1 hc with e | e
   ·exact h.sg c e
   ·exact .inr (fk c e).2.2.2
end
end Go.Proofs.YtebibeaobhcfkaaGreat.Ab
