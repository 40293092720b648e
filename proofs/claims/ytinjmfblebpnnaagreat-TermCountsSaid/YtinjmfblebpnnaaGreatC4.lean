/- Lemmas for the walk, part 4. -/
import Derived.Test.YtinjmfblebpnnaaGreatC3
set_option linter.unusedVariables false
set_option linter.unusedSimpArgs false
set_option maxRecDepth 100000
set_option maxHeartbeats 16000000
namespace Go.Proofs.YtinjmfblebpnnaaGreat.Ab
open Go
section
variable {zb:Bool} {L:List bc} {F:List Nat} {c1 c2 c3:Value} {H H1 H2:ad} {q rb nb:Nat} {st cC bC:aE} {ns bk bO:List aG} {m m1 m2 g g1 g2 gn gj se:List Nat} {n n1 n2:aG}
theorem AD.fresh (h:NQ0 L F c1 c2 c3 H1 q rb cC bk m1 g1) {nb:Nat} (gW:nb=H1.next) {n:aG} (ha:n.args=[]) (hp:n.pat=[]) (hb:n.au=[]):
  AD L F c1 c2 c3 (H1.push ⟨aJ n (.slice none 0 0) (.slice none 0 0) (.slice none 0 0),42,false,false⟩) q rb cC bk m1 g1 nb n []:=by
 subst gW
 obtain ⟨e1,e2,e3⟩:=h.pp.fresh (Nat.le_refl H1.next)
 have ho:=ba.push H1 ⟨aJ n (.slice none 0 0) (.slice none 0 0) (.slice none 0 0),42,false,false⟩
 exact ⟨h.fr (ho.fr []) (h.pp.aH ho) (by simp) (by simp) (by simp),⟨h.pp.aH ho,⟨_,_,_,[],[],[],by rw [aV,if_pos rfl],.inl ⟨rfl,ha,rfl⟩,.inl ⟨rfl,hp,rfl⟩,.inl ⟨rfl,hb,rfl⟩,rfl⟩,Nat.lt_succ_self _,e2,e1,e3,by simp⟩,
  fun e=>by have:=(h.hm _ e).1;omega,fun e=>by have:=(h.hg _ e).1;omega,by simp⟩
theorem QR.fresh (h:NR L F c1 c2 c3 H q rb ns m g H1 cC bk m1 g1) {nb:Nat} (gW:nb=H1.next) (n:aG) (ha:n.args=[]) (hp:n.pat=[]) (hb:n.au=[]):
  QR true L F c1 c2 c3 H q rb ns m g nb [] (H1.push ⟨aJ n (.slice none 0 0) (.slice none 0 0) (.slice none 0 0),42,false,false⟩) cC bk m1 g1 n []:=by
 have r:=h.push ⟨aJ n (.slice none 0 0) (.slice none 0 0) (.slice none 0 0),42,false,false⟩
 refine ⟨r.fr.sub fun c hc=>.inl (by simp only [List.mem_cons] at hc ⊢;rcases hc with e | e | e <;> simp [e]),AD.fresh h.nq.toNQ0 gW ha hp hb,h.le,h.sm,h.sg,by simp,r.nq.fz,r.nq.fq,?_,r.nq.fm,r.nq.fn⟩
 subst gW
 rw [qw];simp
theorem QR.done (h:QR zb L F c1 c2 c3 H q rb ns m g nb [] H1 cC bk m1 g1 n1 gj) (gW:H.next<=nb) {k:Nat} (hk:k < bk.length):∃aA kA aP kP aB kB,H1.get nb=some ⟨aJ n1 (.slice aA n1.args.length kA) (.slice aP n1.pat.length kP) (.slice aB n1.au.length kB),42,false,false⟩/\
  ak Tryz.prog 172 #[pV q,iV (k:Nat),.agg (aJ n1 (.slice aA n1.args.length kA) (.slice aP n1.pat.length kP) (.slice aB n1.au.length kB)).toArray] H1 fun w H2=>x6 L F c1 c2 c3 H q rb ns m g cC (oV bk k n1) (H2.ai H.fz):=by
 obtain ⟨vA,vP,vB,gA,gP,gB,cQ,hA,hP,hB,rfl⟩:=h.lq.ln.nd
 obtain ⟨aA,kA,rfl⟩:=hA.val
 obtain ⟨aP,kP,rfl⟩:=hP.val
 obtain ⟨aB,kB,rfl⟩:=hB.val
 refine ⟨aA,kA,aP,kP,aB,kB,cQ,(ajH h.nq hk hA hP hB fun c hc=>⟨(h.lq.ln.hg c hc).1,(h.lq.ln.hg c hc).2.1,(h.lq.ln.hg c hc).2.2.2,h.lq.gm c hc⟩).mono fun w H2 _ ⟨hf,hz,g',h0,hs⟩=>?_⟩
 refine ⟨((h.fr.sub fun c hc=>?_).trans hf h.sm').ai _,fun _=>rfl,by rw [oV,List.length_set];exact h.le,m1,g',h0.ai,h.sm,fun c hc=>?_⟩
 ·simp only [List.mem_cons] at hc ⊢
  rcases hc with e | e | e | e
  ·exact .inl (.inl e)
  ·exact .inl (.inr (.inl e))
  ·exact .inr (e▸gW)
  ·exact .inl (.inr (.inr e))
 ·rcases hs c hc with e | e
  ·exact h.sg c e
  ·exact (h.sn c e).elim (fun e=>by cases e) .inr
def wO (L:List bc) (s:aE):aE:=if (tk L s).kind≠2 then eX 2 s else if 99 < (tk L s).n then eX 3 s else s
def Iw (L:List bc) (s:aE):aE:=if c9 (wO L s)=true then aC (wO L s) else wO L s
def KP (L:List bc) (s:aE):Int:=if c9 (wO L s)=true then (tk L s).n else 0
def KQ (L:List bc) (aU:lx) (st:aE) (ns:List aG) (k:Nat):Option (aE × List aG):=
 (aU 1 (Iw L (aC st),ns)).map fun x=>(x.2.1,oV x.2.2 k {kind:=11,n:=KP L (aC st),a:=x.1,b:= -1})
theorem acs {h:KH}:fQ Tryz.prog 42 [(0,iV 11),(8,iV (-1)),(9,iV (-1))] h=.ok (.agg #[iV 11,iV 0,iV 0,iV 0,iV 0,iV 0,iV 0,iV 0,iV (-1),iV (-1),iV 0,iV 0,iV 0,ae [],ae [],ae [],ae [],.slice none 0 0,.slice none 0 0,.slice none 0 0]) h:=by kernel_rfl
theorem ahu (hL:LG L) {aU:lx} (iW:BH L F c1 c2 c3 q rb aU) (h:NQ L F c1 c2 c3 H q rb st ns m g) {k:Nat} (hk:k < ns.length) (ir:(tk L st).kind≠4) {R:aE × List aG} (he:KQ L aU st ns k=some R):
  ak Tryz.prog 175 #[pV q,iV (k:Nat)] H (fun w H'=>x6 L F c1 c2 c3 H q rb ns m g R.1 R.2 H'):=by
 refine ak.told ?_
 refine ag8 (Nat.le_refl _) fun hf=>?_
 simp only [Tryz.f175,Option.getD_some]
 have r0:=NR.start h
 have hz:=h.fz
 have jE:=hL.len
 have cS:H.fz H.next=false:=hf.fresh (Nat.le_refl _)
 obtain ⟨d1,d2,d3,d4,bL,oL,cL,a,j,c,hq,hr,cX,pa⟩:=h.bK.iN hL ir
 have ra:=r0.aZ pa
 have nr:¬rb=H.next:=by have:=h.pp.rl;omega
 have nq:¬q=H.next:=by have:=h.pp.ql;omega
 have rq:=QR.fresh ra (nb:=H.next) rfl {kind:=11,a:= -1,b:= -1} rfl rfl rfl
 simp only [go_sem,hq,hr,hz,cX,nr,nq,acs,cS]
 refine ag.by (rJ rq.pp) ?_
 rintro _ H2 - ⟨rfl,p2⟩
 have r2:=rq.aZ p2
 have r3:=r2.push ⟨ij (tk L (aC st)),82,false,false⟩
 obtain ⟨vA,vP,vB,cQ⟩:=r2.nd
 have nn:¬H.next=H2.next:=by have:=r2.lq.ln.nl;omega
 have q7:¬H.next=rb:=fun e=>nr e.symm
 have xA:¬rb=H2.next:=by have:=r2.pp.rl;omega
 have y8:¬H2.next=rb:=fun e=>xA e.symm
 have xB:¬q=H2.next:=by have:=r2.pp.ql;omega
 have Jh:H.fz H2.next=false:=hf.fresh (by have:=r2.fr.nx;omega)
 rw [KQ] at he
 generalize aC st=sa at *
 cases fu:aU 1 (Iw L sa,ns) with
 | none=>rw [fu] at he;cases he
 | some B=>
  obtain ⟨bi,bs,bn⟩:=B
  rw [fu] at he
  cases he
  by_cases h1:(tk L sa).kind=2
  ·rw [show ij (tk L sa)=[iV 2,iV (tk L sa).n,iV (tk L sa).line,iV (tk L sa).aj,ae (tk L sa).text] by simp only [ij,h1]] at r3
   by_cases h2:99 < (tk L sa).n
   ·have e1:wO L sa=eX 3 sa:=by rw [wO,if_neg (fun e=>e h1),if_pos h2]
    rw [KP,e1,if_neg (by rw [Ba (by decide)];exact Bool.false_ne_true)]
    rw [Iw,e1,if_neg (by rw [Ba (by decide)];exact Bool.false_ne_true)] at fu
    simp only [go_sem,h1,h2,nn,q7,xA,y8,xB,Jh]
    refine ag.by (lh r3.pp) ?_
    rintro _ H4 - p4
    have r4:=r3.aZ p4
    simp only [go_sem]
    refine ag.by (eZ r4.pp) ?_
    rintro _ _ - ⟨rfl,rfl⟩
    simp only [go_sem,Ba (show (3:Int)≠0 by decide)]
    refine ag.by (iW r4.nq fu) ?_
    rintro _ kY - ⟨rfl,jV⟩
    obtain ⟨jW,jX,i9⟩:=r4.wW jV
    obtain ⟨Du,Dv,Dw,kt⟩:=i9.nd
    have Ci:=i9.gG kt {kind:=11,n:=0,a:=bi,b:= -1} rfl rfl rfl
    obtain ⟨aA,kA,aP,kP,aB,kB,yc,fh⟩:=Ci.done (Nat.le_refl _) (Nat.lt_of_lt_of_le hk i9.le)
    rw [az,if_pos rfl] at yc
    cases yc
    simp only [go_sem,kt,cS]
    refine ag.by fh ?_
    rintro _ wu - Gj
    simp only [go_sem]
    exact Gj
   ·have e1:wO L sa=sa:=by rw [wO,if_neg (fun e=>e h1),if_neg h2]
    rw [KP,e1]
    rw [Iw,e1] at fu
    simp only [go_sem,h1,h2,nn,q7,xA,y8,xB,Jh]
    refine ag.by (eZ r3.pp) ?_
    rintro _ _ - ⟨rfl,rfl⟩
    by_cases h3:c9 sa=true
    ·rw [if_pos h3]
     rw [if_pos h3] at fu
     obtain ⟨d1,d2,d3,d4,bL,oL,cL,a,j,c,hq,hr,cX,pa⟩:=r3.pp.iN hL (by rw [h1];decide)
     have DX:=r3.aZ pa
     have mo:=hq
     have iE:=hr
     rw [aV,if_neg xB] at mo
     rw [aV,if_neg xA] at iE
     obtain ⟨PS,F9,Jc,uw⟩:=DX.nd
     have Sz:=uw
     rw [az,if_neg q7,aV,if_neg nn] at Sz
     rw [cQ] at Sz
     cases Sz
     have r5:=DX.gG uw {kind:=11,n:=(tk L sa).n,a:= -1,b:= -1} rfl rfl rfl
     simp only [go_sem,h3,nn,q7,xA,y8,xB,hz,cS,Jh,mo,iE,cX,cQ]
     refine ag.by (iW r5.nq fu) ?_
     rintro _ kY - ⟨rfl,jV⟩
     obtain ⟨jW,jX,i9⟩:=r5.wW jV
     obtain ⟨Du,Dv,Dw,kt⟩:=i9.nd
     have Ci:=i9.gG kt {kind:=11,n:=(tk L sa).n,a:=bi,b:= -1} rfl rfl rfl
     obtain ⟨aA,kA,aP,kP,aB,kB,yc,fh⟩:=Ci.done (Nat.le_refl _) (Nat.lt_of_lt_of_le hk i9.le)
     rw [az,if_pos rfl] at yc
     cases yc
     simp only [go_sem,kt,cS]
     refine ag.by fh ?_
     rintro _ wu - Gj
     simp only [go_sem]
     exact Gj
    ·rw [if_neg h3]
     rw [if_neg h3] at fu
     simp only [go_sem,h3]
     refine ag.by (iW r3.nq fu) ?_
     rintro _ kY - ⟨rfl,jV⟩
     obtain ⟨jW,jX,i9⟩:=r3.wW jV
     obtain ⟨Du,Dv,Dw,kt⟩:=i9.nd
     have Ci:=i9.gG kt {kind:=11,n:=0,a:=bi,b:= -1} rfl rfl rfl
     obtain ⟨aA,kA,aP,kP,aB,kB,yc,fh⟩:=Ci.done (Nat.le_refl _) (Nat.lt_of_lt_of_le hk i9.le)
     rw [az,if_pos rfl] at yc
     cases yc
     simp only [go_sem,kt,cS]
     refine ag.by fh ?_
     rintro _ wu - Gj
     simp only [go_sem]
     exact Gj
  ·have e1:wO L sa=eX 2 sa:=by rw [wO,if_pos h1]
   rw [KP,e1,if_neg (by rw [Ba (by decide)];exact Bool.false_ne_true)]
   rw [Iw,e1,if_neg (by rw [Ba (by decide)];exact Bool.false_ne_true)] at fu
   simp only [go_sem,h1,nn,q7,xA,y8,xB,Jh]
   refine ag.by (lh r3.pp) ?_
   rintro _ H4 - p4
   have r4:=r3.aZ p4
   simp only [go_sem]
   refine ag.by (eZ r4.pp) ?_
   rintro _ _ - ⟨rfl,rfl⟩
   simp only [go_sem,Ba (show (2:Int)≠0 by decide)]
   refine ag.by (iW r4.nq fu) ?_
   rintro _ kY - ⟨rfl,jV⟩
   obtain ⟨jW,jX,i9⟩:=r4.wW jV
   obtain ⟨Du,Dv,Dw,kt⟩:=i9.nd
   have Ci:=i9.gG kt {kind:=11,n:=0,a:=bi,b:= -1} rfl rfl rfl
   obtain ⟨aA,kA,aP,kP,aB,kB,yc,fh⟩:=Ci.done (Nat.le_refl _) (Nat.lt_of_lt_of_le hk i9.le)
   rw [az,if_pos rfl] at yc
   cases yc
   simp only [go_sem,kt,cS]
   refine ag.by fh ?_
   rintro _ wu - Gj
   simp only [go_sem]
   exact Gj
end
section
variable {zb:Bool} {L:List bc} {F:List Nat} {c1 c2 c3:Value} {H H1 H2:ad} {q rb nb:Nat} {st cC bC:aE} {ns bk bO:List aG} {m m1 m2 g g1 g2 gn gj se:List Nat} {n n1 n2:aG}
def eg (H H1:ad) (m1 g1:List Nat) (c:Nat):Prop:=H.next<=c/\c < H1.next/\c∉m1/\c∉g1
theorem eg.next {c:Nat} (h:eg H H1 m1 g1 c) (hn:H1.next<=H2.next) (hm:∀c∈m2,c∈m1∨H1.next<=c) (hg:∀c∈g2,c∈g1∨H1.next<=c):eg H H2 m2 g2 c:=
 ⟨h.1,Nat.lt_of_lt_of_le h.2.1 hn,fun e=>(hm c e).elim h.2.2.1 fun e=>by have:=h.2.1;omega,fun e=>(hg c e).elim h.2.2.2 fun e=>by have:=h.2.1;omega⟩
theorem eg.mono {c:Nat} (h:eg H H1 m1 g1 c) (hn:H1.next<=H2.next):eg H H2 m1 g1 c:=⟨h.1,Nat.lt_of_lt_of_le h.2.1 hn,h.2.2⟩
theorem NR.other (h0:NQ L F c1 c2 c3 H q rb st ns m g) (h:NR L F c1 c2 c3 H q rb ns m g H1 cC bk m1 g1) {M:List Nat} (bj:Fr M H1 H2) (hM:∀c∈M,eg H H1 m1 g1 c) (mZ:∀c,c < H1.next∨H2.next<=c->H2.fz c=H1.fz c):NR L F c1 c2 c3 H q rb ns m g H2 cC bk m1 g1:=by
 have mq:q∉M:=fun e=>(h0.pp.fresh (hM q e).1).1 rfl
 have mr:rb∉M:=fun e=>(h0.pp.fresh (hM rb e).1).2.1 rfl
 have mF:∀b∈F,b∉M:=fun b hb e=>(h0.pp.fresh (hM b e).1).2.2 hb
 exact ⟨h.fr.trans bj fun c hc=>.inr (hM c hc).1,{h.nq.toNQ0.fr bj (h.nq.pp.fr bj mq mr mF) mq (fun c hc e=>(hM c e).2.2.1 hc) (fun c hc e=>(hM c e).2.2.2 hc) with
  fz:=by rw [mZ _ (.inl h.nq.pp.rl)];exact h.nq.fz,fq:=by rw [mZ _ (.inl h.nq.pp.ql)];exact h.nq.fq,fm:=fun c hc=>by rw [mZ _ (.inl (h.nq.hm c hc).1)];exact h.nq.fm c hc,fn:=fun b hb=>by rw [mZ _ (.inr hb)];exact h.nq.fn b (Nat.le_trans bj.nx hb)},h.le,h.sm,h.sg⟩
def HZ (L:List bc) (s:aE):aE × eY:=
 if cP L [102,114,101,101] s=true then (aC s,⟨-1,0,0,[],[],[],[]⟩)
 else ((cu L (dF L [97,115] (zU L (cu L s).2).2)).2,⟨0,0,0,(cu L s).1,(cu L (dF L [97,115] (zU L (cu L s).2).2)).1,[],(zU L (cu L s).2).1⟩)
def Ht (L:List bc) (aU:lx):Nat->aE->List aG->List eY->Option (aE × List aG × List eY)
 | 0,_,_,_=>none
 | k+1,s,ns,l=>
  if c9 s=true/\(cP L [102,114,101,101] s=true∨ud L s=true) then
   (if 12 < l.length then some (eX 3 s,ns,l)
   else (aU 0 ((HZ L s).1,ns)).bind fun x=>Ht L aU k x.2.1 x.2.2 (l++[{(HZ L s).2 with body:=x.1}]))
  else some (s,ns,l)
def R4 (L:List bc) (F:List Nat) (c1 c2 c3:Value) (H:ad) (q rb:Nat) (ns:List aG) (m g:List Nat) (bW:aE) (iv:List aG) (l:List eY) (w:Value) (H':ad):Prop:=
 Fr (rb::q::m) H H'/\(∀c,H'.fz c=H.fz c)/\ns.length<=iv.length/\∃m' g' gl,NQ0 L F c1 c2 c3 H' q rb bW iv m' g'/\(∀c∈m',c∈m∨H.next<=c)/\(∀c∈g',c∈g∨H.next<=c)/\Sl dG H' w l gl/\hZ H H' gl/\∀c∈gl,c∉m'
abbrev cG (b:eY) (vS vN:Value):List Value:=[iV b.tag,iV b.Ay,iV b.body,ae b.name,ae b.ld,vS,vN]
theorem RE {HN kY:ad} {stN Lb:aE} {Lc:List aG} {mB gB gN:List Nat} {l:List eY} {v vN:Value} {bb:Nat} {b:eY} (h:NQ L F c1 c2 c3 H q rb st ns m g) (rN:NR L F c1 c2 c3 H q rb ns m g HN stN bO m2 g2) (cB:Gr dG 52 HN v l mB gB) (gC:∀c∈mB++gB,eg H HN m2 g2 c/\c≠bb) (Gk:eg H HN m2 g2 bb)
  (Mm:HN.get bb=some ⟨cG b (.slice none 0 0) vN,52,false,false⟩) (eK:b.aY=[]) (Cj:Sl .str HN vN b.names gN) (lY:∀c∈gN,eg H HN m2 g2 c/\c≠bb) (jV:x6 L F c1 c2 c3 HN q rb bO m2 g2 Lb Lc kY):
  ∃jW jX,kY.get bb=some ⟨cG b (.slice none 0 0) vN,52,false,false⟩/\(¬bb=kY.next)/\(∀c∈jW,c∈m2∨HN.next<=c)/\(∀c∈jX,c∈g2∨HN.next<=c)/\∀bi,NR L F c1 c2 c3 H q rb ns m g ((kY.ah bb ⟨cG {b with body:=bi} (.slice none 0 0) vN,52,false,false⟩).push ⟨cG {b with body:=bi} (.slice none 0 0) vN,52,false,false⟩) Lb Lc jW jX/\
   Gr dG 52 ((kY.ah bb ⟨cG {b with body:=bi} (.slice none 0 0) vN,52,false,false⟩).push ⟨cG {b with body:=bi} (.slice none 0 0) vN,52,false,false⟩) v l mB gB/\
   (∀c∈mB++gB,eg H ((kY.ah bb ⟨cG {b with body:=bi} (.slice none 0 0) vN,52,false,false⟩).push ⟨cG {b with body:=bi} (.slice none 0 0) vN,52,false,false⟩) jW jX c)/\
   (∀c∈gN,eg H ((kY.ah bb ⟨cG {b with body:=bi} (.slice none 0 0) vN,52,false,false⟩).push ⟨cG {b with body:=bi} (.slice none 0 0) vN,52,false,false⟩) jW jX c)/\
   dG.E ((kY.ah bb ⟨cG {b with body:=bi} (.slice none 0 0) vN,52,false,false⟩).push ⟨cG {b with body:=bi} (.slice none 0 0) vN,52,false,false⟩) (cG {b with body:=bi} (.slice none 0 0) vN) {b with body:=bi} gN:=by
 obtain ⟨jW,jX,i9,Ji,t20⟩:=rN.call jV
 have n20:=jV.1.nx
 have k20:∀{c:Nat},eg H HN m2 g2 c->kY.get c=HN.get c:=fun hc=>jV.1.get _ hc.2.1 (by
  obtain ⟨e1,e2,e3⟩:=h.pp.fresh hc.1
  simp only [List.mem_cons,not_or]
  exact ⟨e2,e1,hc.2.2.1⟩)
 refine ⟨jW,jX,(k20 Gk).trans Mm,fun e=>by have:=Gk.2.1;omega,Ji,t20,fun bi=>?_⟩
 have Ci:=i9.other h (M:=[bb]) ((Fr.refl _ _).ah (b:=bb) (.inl (by simp)) ⟨cG {b with body:=bi} (.slice none 0 0) vN,52,false,false⟩) (fun c hc=>by rw [List.mem_singleton] at hc;subst hc;exact Gk.next n20 Ji t20) (fun _ _=>rfl)
 have tq:=Ci.push ⟨cG {b with body:=bi} (.slice none 0 0) vN,52,false,false⟩
 have n22:HN.next<=((kY.ah bb ⟨cG {b with body:=bi} (.slice none 0 0) vN,52,false,false⟩).push ⟨cG {b with body:=bi} (.slice none 0 0) vN,52,false,false⟩).next:=Nat.le_trans n20 (Nat.le_succ _)
 have Vm:∀{c:Nat},eg H HN m2 g2 c/\c≠bb->((kY.ah bb ⟨cG {b with body:=bi} (.slice none 0 0) vN,52,false,false⟩).push ⟨cG {b with body:=bi} (.slice none 0 0) vN,52,false,false⟩).get c=HN.get c:=fun {c} hc=>by
  rw [bX (by show c < kY.next;have:=hc.1.2.1;omega),az,if_neg hc.2];exact k20 hc.1
 refine ⟨tq,cB.af (fun c hc=>Vm (gC c (by simp [hc]))) (fun c hc=>Vm (gC c (by simp [hc]))),fun c hc=>(gC c hc).1.next n22 Ji t20,fun c hc=>(lY c hc).1.next n22 Ji t20,.slice none 0 0,vN,[],gN,rfl,rfl,?_,?_⟩
 ·show Sl .int _ _ b.aY []
  rw [eK];exact .inl ⟨rfl,rfl,rfl⟩
 ·exact Cj.af fun c hc=>Vm (lY c hc)
theorem Rj {wu H7:ad} {Lb:aE} {Lc:List aG} {jW jX mB gB gN:List Nat} (h:NQ L F c1 c2 c3 H q rb st ns m g) (tq:NR L F c1 c2 c3 H q rb ns m g wu Lb Lc jW jX) (sT:∀c∈mB++gB,eg H wu jW jX c) (yx:∀c∈gN,eg H wu jW jX c) (dx:Fr mB wu H7) (ef:H7.next=wu.next+1) (jQ:∀c,H7.fz c=(c==wu.next||wu.fz c)):
  NR L F c1 c2 c3 H q rb ns m g H7 Lb Lc jW jX/\∀c∈[wu.next]++(gB++gN),eg H H7 jW jX c:=by
 refine ⟨tq.other h dx (fun c hc=>sT c (by simp [hc])) (fun c hc=>by
  rw [jQ,show (c==wu.next)=false from by rw [beq_eq_false_iff_ne];omega,Bool.false_or]),fun c hc=>?_⟩
 rcases List.mem_append.1 hc with e | e
 ·rw [List.mem_singleton] at e
  have:=tq.fr.nx
  subst e
  exact ⟨by omega,by omega,fun e=>by have:=(tq.nq.hm _ e).1;omega,fun e=>by have:=(tq.nq.hg _ e).1;omega⟩
 ·rcases List.mem_append.1 e with e | e
  ·exact (sT c (by simp [e])).mono (by omega)
  ·exact (yx c e).mono (by omega)
theorem XM {h:KH}:fQ Tryz.prog 52 [] h=.ok (.agg #[iV 0,iV 0,iV 0,ae [],ae [],.slice none 0 0,.slice none 0 0]) h:=by kernel_rfl
theorem acu (hL:LG L) {aU:lx} (iW:BH L F c1 c2 c3 q rb aU) (h:NQ L F c1 c2 c3 H q rb st ns m g) {fuel:Nat} {R:aE × List aG × List eY} (he:Ht L aU fuel st ns []=some R):
  ak Tryz.prog 171 #[pV q] H (fun w H'=>R4 L F c1 c2 c3 H q rb ns m g R.1 R.2.1 R.2.2 w H'):=by
 refine ak.told ?_
 refine ag0 (Nat.le_refl _) fun hf=>?_
 simp only [Tryz.f171,Option.getD_some]
 have r0:=NR.start h
 have hz:=h.fz
 have jE:=hL.len
 simp only [go_sem]
 refine la 4503599627370488 (fun n V H2=>∃bC bO m2 g2 l v mB gB,V 3=v/\Gr dG 52 H2 v l mB gB/\NR L F c1 c2 c3 H q rb ns m g H2 bC bO m2 g2/\(∀c∈mB++gB,eg H H2 m2 g2 c)/\l.length<=13/\Ht L aU n bC bO l=some R) (n:=fuel)
  ⟨st,ns,m,g,[],.slice none 0 0,[],[],by simp only [go_sem] <;> rfl,Gr.nil _ _ _,r0,by simp,by simp,he⟩ ?_ (by rfl)
 rintro n V H2 ⟨bC,bO,m2,g2,l,v,mB,gB,e3,cB,r2,gC,alo,cY⟩
 cases n with
 | zero=>cases cY
 | succ n=>
  rw [Ht] at cY
  obtain ⟨a,hv⟩:=cB.val
  have Dh:∀{H3:ad} {c:Nat},Fr [rb] H2 H3->eg H H2 m2 g2 c->H3.get c=H2.get c:=fun f hc=>f.get _ hc.2.1 (by have:=(h.pp.fresh hc.1).2.1;simpa using this)
  have fin:∀{H7:ad} {Gf:aE} {ja:List aG} {m7 g7 mB7 U1:List Nat} {l7:List eY} {v7:Value},NR L F c1 c2 c3 H q rb ns m g H7 Gf ja m7 g7->Gr dG 52 H7 v7 l7 mB7 U1->(∀c∈mB7++U1,eg H H7 m7 g7 c)->R4 L F c1 c2 c3 H q rb ns m g Gf ja l7 v7 (H7.ai H.fz):=fun r hg hm=>
   ⟨r.fr.ai _,fun _=>rfl,r.le,_,_,_,r.nq.toNQ0.ai,r.sm,r.sg,hg.sl.af fun _ _=>rfl,fun c hc=>⟨(hm c hc).1,(hm c hc).2.1⟩,fun c hc=>(hm c hc).2.2.1⟩
  simp only [go_sem,e3,hv]
  refine ag.by (eZ r2.nq.bK) ?_
  rintro _ _ - ⟨rfl,rfl⟩
  by_cases hb:c9 bC=true
  ·simp only [go_sem,hb]
   refine ag.by (fR r2.nq.bK) ?_
   rintro _ H3 - ⟨rfl,p3⟩
   have r3:=r2.aZ p3
   have kV:=p3.1.nx
   by_cases bj:cP L [102,114,101,101] bC=true
   ·rw [if_pos ⟨hb,.inl bj⟩] at cY
    simp only [go_sem,bj,e3,hv]
    by_cases nf:12 < l.length
    ·have yy:(12:Int) < ((l.length:Nat):Int):=by omega
     rw [if_pos nf] at cY
     cases cY
     simp only [go_sem,yy,bj,e3,hv]
     refine ag.by (lh r3.nq.bK) ?_
     rintro _ H4 - p4
     have r4:=r3.aZ p4
     simp only [go_sem,e3,hv]
     have f4:=p3.1.then p4.1
     rw [<-hv]
     exact fin r4 (cB.af (fun c hc=>Dh f4 (gC c (by simp [hc]))) (fun c hc=>Dh f4 (gC c (by simp [hc])))) fun c hc=>(gC c hc).mono f4.nx
    have yy:¬(12:Int) < ((l.length:Nat):Int):=by omega
    rw [if_neg nf] at cY
    cases fu:aU 0 ((HZ L bC).1,bO) with
    | none=>rw [fu] at cY;cases cY
    | some B=>
     obtain ⟨bi,bs,bn⟩:=B
     rw [fu] at cY
     simp only [Option.bind_some] at cY
     rw [HZ,if_pos bj] at fu cY
     have wx:H.fz H3.next=false:=hf.fresh (Nat.le_trans r2.fr.nx kV)
     simp only [go_sem,yy,XM,wx]
     have r4:=r3.push ⟨[iV 0,iV 0,iV 0,ae [],ae [],.slice none 0 0,.slice none 0 0],52,false,false⟩
     refine ag.by (fR r4.nq.bK) ?_
     rintro _ H5 - ⟨rfl,p5⟩
     have r5:=r4.aZ p5
     obtain ⟨d1,d2,d3,d4,bL,oL,cL,a',k,c0,hq,hr,cX,pa⟩:=r5.nq.bK.iN hL (jl bj)
     have ra:=r5.aZ pa
     have xC:H3.next+1<=H5.next:=p5.1.nx
     have Vn:H5.get H3.next=some ⟨[iV 0,iV 0,iV 0,ae [],ae [],.slice none 0 0,.slice none 0 0],52,false,false⟩:=(p5.1.get _ (Nat.lt_succ_self _) (by have:=r3.nq.pp.rl;simp;omega)).trans (by rw [aV,if_pos rfl])
     have DY:¬H3.next=rb:=by have:=r3.nq.pp.rl;omega
     have gJ:¬rb=H3.next:=fun e=>DY e.symm
     have aaN:eg H H5 m2 g2 H3.next:=⟨Nat.le_trans r2.fr.nx kV,by omega,fun e=>by have:=(r3.nq.hm _ e).1;omega,fun e=>by have:=(r3.nq.hg _ e).1;omega⟩
     have rN:=ra.other h (M:=[H3.next]) ((Fr.refl _ _).ah (b:=H3.next) (.inl (by simp)) ⟨cG ⟨-1,0,0,[],[],[],[]⟩ (.slice none 0 0) (.slice none 0 0),52,false,false⟩) (fun c hc=>by rw [List.mem_singleton] at hc;subst hc;exact aaN) (fun _ _=>rfl)
     have ajL:∀{c:Nat},eg H H2 m2 g2 c->H5.get c=H2.get c:=fun {c} hc=>by
      have Vo:c∉[rb]:=by have:=(h.pp.fresh hc.1).2.1;simpa using this
      rw [p5.1.get c (by show c < H3.next+1;have:=hc.2.1;omega) Vo,bX (by have:=hc.2.1;omega)]
      exact Dh p3.1 hc
     have ZN:∀{c:Nat} {B C:cw},eg H H2 m2 g2 c->((H5.ah rb B).ah H3.next C).get c=H2.get c:=fun {c B C} hc=>by
      rw [az,if_neg (by have:=hc.2.1;omega),az,if_neg ((h.pp.fresh hc.1).2.1)];exact ajL hc
     have Tc:=cB.af (fun c hc=>ZN (B:=⟨[.slice (some ⟨bL,oL,none⟩) L.length cL,iV ((bC.at_+1:Nat):Int),.slice none 0 0,.bool true,iV bC.depth,iV bC.bad,.slice a' k c0],125,false,false⟩) (C:=⟨cG ⟨-1,0,0,[],[],[],[]⟩ (.slice none 0 0) (.slice none 0 0),52,false,false⟩) (gC c (by simp [hc]))) (fun c hc=>ZN (gC c (by simp [hc])))
     have Vp:∀c∈mB++gB,eg H ((H5.ah rb ⟨[.slice (some ⟨bL,oL,none⟩) L.length cL,iV ((bC.at_+1:Nat):Int),.slice none 0 0,.bool true,iV bC.depth,iV bC.bad,.slice a' k c0],125,false,false⟩).ah H3.next ⟨cG ⟨-1,0,0,[],[],[],[]⟩ (.slice none 0 0) (.slice none 0 0),52,false,false⟩) m2 g2 c/\c≠H3.next:=fun c hc=>⟨(gC c hc).mono (by show H2.next<=H5.next;omega),by have:=(gC c hc).2.1;omega⟩
     have Gk:eg H ((H5.ah rb ⟨[.slice (some ⟨bL,oL,none⟩) L.length cL,iV ((bC.at_+1:Nat):Int),.slice none 0 0,.bool true,iV bC.depth,iV bC.bad,.slice a' k c0],125,false,false⟩).ah H3.next ⟨cG ⟨-1,0,0,[],[],[],[]⟩ (.slice none 0 0) (.slice none 0 0),52,false,false⟩) m2 g2 H3.next:=aaN
     have Mm:((H5.ah rb ⟨[.slice (some ⟨bL,oL,none⟩) L.length cL,iV ((bC.at_+1:Nat):Int),.slice none 0 0,.bool true,iV bC.depth,iV bC.bad,.slice a' k c0],125,false,false⟩).ah H3.next ⟨cG ⟨-1,0,0,[],[],[],[]⟩ (.slice none 0 0) (.slice none 0 0),52,false,false⟩).get H3.next=some ⟨cG ⟨-1,0,0,[],[],[],[]⟩ (.slice none 0 0) (.slice none 0 0),52,false,false⟩:=by rw [az,if_pos rfl]
     have Cj:Sl .str ((H5.ah rb ⟨[.slice (some ⟨bL,oL,none⟩) L.length cL,iV ((bC.at_+1:Nat):Int),.slice none 0 0,.bool true,iV bC.depth,iV bC.bad,.slice a' k c0],125,false,false⟩).ah H3.next ⟨cG ⟨-1,0,0,[],[],[],[]⟩ (.slice none 0 0) (.slice none 0 0),52,false,false⟩) (.slice none 0 0) (⟨-1,0,0,[],[],[],[]⟩:eY).names []:=.inl ⟨rfl,rfl,rfl⟩
     have lY:∀c∈([]:List Nat),eg H ((H5.ah rb ⟨[.slice (some ⟨bL,oL,none⟩) L.length cL,iV ((bC.at_+1:Nat):Int),.slice none 0 0,.bool true,iV bC.depth,iV bC.bad,.slice a' k c0],125,false,false⟩).ah H3.next ⟨cG ⟨-1,0,0,[],[],[],[]⟩ (.slice none 0 0) (.slice none 0 0),52,false,false⟩) m2 g2 c/\c≠H3.next:=by simp
     have Jj:∀c∈([]:List Nat),c∉mB:=by simp
     simp only [go_sem,bj,hq,hr,hz,cX,Vn,wx,DY,gJ]
     refine ag.by (iW rN.nq fu) ?_
     rintro _ kY - ⟨rfl,jV⟩
     obtain ⟨jW,jX,KR,Ld,_,_,KS⟩:=RE h rN Tc Vp Gk Mm rfl Cj lY jV
     obtain ⟨tq,EY,sT,yx,Le⟩:=KS bi
     obtain ⟨aN,kN,zj⟩:=Cj.val
     try subst zj
     simp only [go_sem,KR,wx,Ld,e3,hv,eB sA (by decide) (by decide)]
     rw [hv] at EY
     refine jZ (r:=dG) sA EY (fun c hc=>(sT c (by simp [hc])).2.1) (fun c hc=>(sT c (by simp [hc])).2.1) (fun c hc=>⟨(yx c hc).2.1,Jj c hc⟩) (fun c hc=>hf.fresh (gC c (by simp [hc])).1) (by rw [aV];exact if_pos rfl) Le rfl (by omega) ?_
     intro v7 H7 bH ef jm dx jQ
     obtain ⟨r7,DZ⟩:=Rj h tq sT yx dx ef jQ
     simp only [go_sem]
     exact ⟨n,by omega,bs,bn,jW,jX,_,v7,_,_,rfl,bH,r7,DZ,by rw [List.length_append,List.length_singleton];omega,cY⟩
   ·have alp:=cY
    simp only [go_sem,bj]
    refine ag.by (Kk hL r3.nq.bK) ?_
    rintro _ H4 - ⟨rfl,p4⟩
    have r4:=r3.aZ p4
    have nV:=p4.1.nx
    clear alp
    by_cases cO:ud L bC=true
    ·rw [if_pos ⟨hb,.inr cO⟩] at cY
     simp only [go_sem,cO,e3,hv]
     by_cases nf:12 < l.length
     ·have yy:(12:Int) < ((l.length:Nat):Int):=by omega
      rw [if_pos nf] at cY
      cases cY
      simp only [go_sem,yy,bj,cO,e3,hv]
      refine ag.by (lh r4.nq.bK) ?_
      rintro _ H5 - p45
      have r45:=r4.aZ p45
      simp only [go_sem,e3,hv]
      have f5:=(p3.1.then p4.1).then p45.1
      rw [<-hv]
      exact fin r45 (cB.af (fun c hc=>Dh f5 (gC c (by simp [hc]))) (fun c hc=>Dh f5 (gC c (by simp [hc])))) fun c hc=>(gC c hc).mono f5.nx
     have yy:¬(12:Int) < ((l.length:Nat):Int):=by omega
     rw [if_neg nf] at cY
     cases fu:aU 0 ((HZ L bC).1,bO) with
     | none=>rw [fu] at cY;cases cY
     | some B=>
      obtain ⟨bi,bs,bn⟩:=B
      rw [fu] at cY
      simp only [Option.bind_some] at cY
      rw [HZ,if_neg bj] at fu cY
      have wx:H.fz H4.next=false:=hf.fresh (Nat.le_trans r2.fr.nx (Nat.le_trans kV nV))
      simp only [go_sem,yy,XM,wx]
      have r5:=r4.push ⟨cG ⟨0,0,0,[],[],[],[]⟩ (.slice none 0 0) (.slice none 0 0),52,false,false⟩
      have g5:(H4.push ⟨cG ⟨0,0,0,[],[],[],[]⟩ (.slice none 0 0) (.slice none 0 0),52,false,false⟩).get H4.next=some ⟨cG ⟨0,0,0,[],[],[],[]⟩ (.slice none 0 0) (.slice none 0 0),52,false,false⟩:=by rw [aV,if_pos rfl]
      have DY:H4.next∉[rb]:=by have:=r4.nq.pp.rl;simp;omega
      refine ag.by (fR r5.nq.bK) ?_
      rintro _ H6 - ⟨rfl,p6⟩
      have r6:=r5.aZ p6
      have PY:H4.next+1<=H6.next:=p6.1.nx
      have g6:=(p6.1.get _ (Nat.lt_succ_self _) DY).trans g5
      simp only [go_sem,bj]
      refine ag.by (jk hL r6.nq.bK) ?_
      rintro _ H7 - ⟨rfl,p7⟩
      have r7:=r6.aZ p7
      have PZ:=p7.1.nx
      have g7:=(p7.1.get _ (by omega) DY).trans g6
      have hM7:eg H H7 m2 g2 H4.next:=⟨Nat.le_trans r2.fr.nx (Nat.le_trans kV nV),by omega,fun e=>by have:=(r4.nq.hm _ e).1;omega,fun e=>by have:=(r4.nq.hg _ e).1;omega⟩
      generalize cu L bC=y at p7 r7 fu cY
      have r8:=r7.other h (M:=[H4.next]) ((Fr.refl _ _).ah (b:=H4.next) (.inl (by simp)) ⟨cG ⟨0,0,0,y.1,[],[],[]⟩ (.slice none 0 0) (.slice none 0 0),52,false,false⟩) (fun c hc=>by rw [List.mem_singleton] at hc;subst hc;exact hM7) (fun _ _=>rfl)
      have g8:(H7.ah H4.next ⟨cG ⟨0,0,0,y.1,[],[],[]⟩ (.slice none 0 0) (.slice none 0 0),52,false,false⟩).get H4.next=some ⟨cG ⟨0,0,0,y.1,[],[],[]⟩ (.slice none 0 0) (.slice none 0 0),52,false,false⟩:=by rw [az,if_pos rfl]
      simp only [go_sem,g7,wx]
      refine ag.by (YP hL r8.nq.bK) ?_
      rintro vN H9 - ⟨⟨gN,Ft,Vq⟩,p9⟩
      have r9:=r8.aZ p9
      have n79:H7.next<=H9.next:=p9.1.nx
      have g9:=(p9.1.get _ (by show H4.next < H7.next;omega) DY).trans g8
      obtain ⟨aN,kN,rfl⟩:=Ft.val
      generalize zU L y.2=z at p9 r9 Ft fu cY
      have hM9:eg H H9 m2 g2 H4.next:=hM7.mono n79
      have cT:=r9.other h (M:=[H4.next]) ((Fr.refl _ _).ah (b:=H4.next) (.inl (by simp)) ⟨cG ⟨0,0,0,y.1,[],[],z.1⟩ (.slice none 0 0) (.slice aN z.1.length kN),52,false,false⟩) (fun c hc=>by rw [List.mem_singleton] at hc;subst hc;exact hM9) (fun _ _=>rfl)
      have qf:(H9.ah H4.next ⟨cG ⟨0,0,0,y.1,[],[],z.1⟩ (.slice none 0 0) (.slice aN z.1.length kN),52,false,false⟩).get H4.next=some ⟨cG ⟨0,0,0,y.1,[],[],z.1⟩ (.slice none 0 0) (.slice aN z.1.length kN),52,false,false⟩:=by rw [az,if_pos rfl]
      simp only [go_sem,g9,wx]
      refine ag.by (iJ hL cT.nq.bK) ?_
      rintro _ dX - qZ
      have dk:=cT.aZ qZ
      have awz:H9.next<=dX.next:=qZ.1.nx
      have D0:=(qZ.1.get _ (by show H4.next < H9.next;omega) DY).trans qf
      simp only [go_sem]
      refine ag.by (jk hL dk.nq.bK) ?_
      rintro _ dr - ⟨rfl,dA⟩
      have dm:=dk.aZ dA
      have ZO:=dA.1.nx
      have jF:=(dA.1.get _ (by omega) DY).trans D0
      generalize cu L (dF L [97,115] z.2)=w at dA dm fu cY
      have aaO:eg H dr m2 g2 H4.next:=hM9.mono (by omega)
      have rN:=dm.other h (M:=[H4.next]) ((Fr.refl _ _).ah (b:=H4.next) (.inl (by simp)) ⟨cG ⟨0,0,0,y.1,w.1,[],z.1⟩ (.slice none 0 0) (.slice aN z.1.length kN),52,false,false⟩) (fun c hc=>by rw [List.mem_singleton] at hc;subst hc;exact aaO) (fun _ _=>rfl)
      have Mm:(dr.ah H4.next ⟨cG ⟨0,0,0,y.1,w.1,[],z.1⟩ (.slice none 0 0) (.slice aN z.1.length kN),52,false,false⟩).get H4.next=some ⟨cG ⟨0,0,0,y.1,w.1,[],z.1⟩ (.slice none 0 0) (.slice aN z.1.length kN),52,false,false⟩:=by rw [az,if_pos rfl]
      have iO:∀{c:Nat},H.next<=c->c∉[rb]:=fun hc=>by have:=(h.pp.fresh hc).2.1;simpa using this
      have Zg:∀{c:Nat} {C:cw},eg H H2 m2 g2 c->(dr.ah H4.next C).get c=H2.get c:=fun {c C} hc=>by
       have c2:=hc.2.1
       have cr:=iO hc.1
       rw [az,if_neg (by omega),dA.1.get c (by omega) cr,qZ.1.get c (by show c < H9.next;omega) cr,az,if_neg (by omega),p9.1.get c (by show c < H7.next;omega) cr,az,if_neg (by omega),p7.1.get c (by omega) cr,p6.1.get c (by show c < H4.next+1;omega) cr,bX (by omega),p4.1.get c (by omega) cr]
       exact Dh p3.1 hc
      have Tc:=cB.af (fun c hc=>Zg (C:=⟨cG ⟨0,0,0,y.1,w.1,[],z.1⟩ (.slice none 0 0) (.slice aN z.1.length kN),52,false,false⟩) (gC c (by simp [hc]))) (fun c hc=>Zg (gC c (by simp [hc])))
      have Vp:∀c∈mB++gB,eg H (dr.ah H4.next ⟨cG ⟨0,0,0,y.1,w.1,[],z.1⟩ (.slice none 0 0) (.slice aN z.1.length kN),52,false,false⟩) m2 g2 c/\c≠H4.next:=fun c hc=>⟨(gC c hc).mono (by show H2.next<=dr.next;omega),by have:=(gC c hc).2.1;omega⟩
      have Gk:eg H (dr.ah H4.next ⟨cG ⟨0,0,0,y.1,w.1,[],z.1⟩ (.slice none 0 0) (.slice aN z.1.length kN),52,false,false⟩) m2 g2 H4.next:=aaO
      have Gl:∀c∈gN,H7.next<=c/\c < H9.next:=Vq
      have Cj:Sl .str (dr.ah H4.next ⟨cG ⟨0,0,0,y.1,w.1,[],z.1⟩ (.slice none 0 0) (.slice aN z.1.length kN),52,false,false⟩) (.slice aN z.1.length kN) (⟨0,0,0,y.1,w.1,[],z.1⟩:eY).names gN:=Ft.af fun c hc=>by
       have:=Gl c hc
       have:=r2.fr.nx
       have cr:=iO (c:=c) (by omega)
       rw [az,if_neg (by omega),dA.1.get c (by omega) cr,qZ.1.get c (by show c < H9.next;omega) cr,az,if_neg (by omega)]
      have lY:∀c∈gN,eg H (dr.ah H4.next ⟨cG ⟨0,0,0,y.1,w.1,[],z.1⟩ (.slice none 0 0) (.slice aN z.1.length kN),52,false,false⟩) m2 g2 c/\c≠H4.next:=fun c hc=>by
       have:=Gl c hc
       have:=r2.fr.nx
       exact ⟨⟨by omega,by show c < dr.next;omega,fun e=>by have:=(r4.nq.hm _ e).1;omega,fun e=>by have:=(r4.nq.hg _ e).1;omega⟩,by omega⟩
      have Jj:∀c∈gN,c∉mB:=fun c hc e=>by have:=Gl c hc;have:=(gC c (by simp [e])).2.1;omega
      simp only [go_sem,jF,wx]
      refine ag.by (iW rN.nq fu) ?_
      rintro _ kY - ⟨rfl,jV⟩
      obtain ⟨jW,jX,KR,Ld,_,_,KS⟩:=RE h rN Tc Vp Gk Mm rfl Cj lY jV
      obtain ⟨tq,EY,sT,yx,Le⟩:=KS bi
      obtain ⟨aN,kN,zj⟩:=Cj.val
      try subst zj
      simp only [go_sem,KR,wx,Ld,e3,hv,eB sA (by decide) (by decide)]
      rw [hv] at EY
      refine jZ (r:=dG) sA EY (fun c hc=>(sT c (by simp [hc])).2.1) (fun c hc=>(sT c (by simp [hc])).2.1) (fun c hc=>⟨(yx c hc).2.1,Jj c hc⟩) (fun c hc=>hf.fresh (gC c (by simp [hc])).1) (by rw [aV];exact if_pos rfl) Le rfl (by omega) ?_
      intro v7 H7 bH ef jm dx jQ
      obtain ⟨r7,DZ⟩:=Rj h tq sT yx dx ef jQ
      simp only [go_sem]
      exact ⟨n,by omega,bs,bn,jW,jX,_,v7,_,_,rfl,bH,r7,DZ,by rw [List.length_append,List.length_singleton];omega,cY⟩
    ·rw [if_neg (fun e=>e.2.elim bj cO)] at cY
     cases cY
     simp only [go_sem,cO,e3,hv]
     have f4:=p3.1.then p4.1
     rw [<-hv]
     exact fin r4 (cB.af (fun c hc=>Dh f4 (gC c (by simp [hc]))) (fun c hc=>Dh f4 (gC c (by simp [hc])))) fun c hc=>(gC c hc).mono f4.nx
  ·rw [if_neg (fun e=>hb e.1)] at cY
   cases cY
   simp only [go_sem,hb,e3,hv]
   rw [<-hv]
   exact fin r2 cB gC
end
section
variable {zb:Bool} {L:List bc} {F:List Nat} {c1 c2 c3:Value} {H H1 H2:ad} {q rb nb:Nat} {st cC bC:aE} {ns bk bO:List aG} {m m1 m2 g g1 g2 gn gj se:List Nat} {n n1 n2:aG}
theorem QR.ajM {l:List eY} {w:Value} (h:QR zb L F c1 c2 c3 H q rb ns m g nb gn H1 cC bk m1 g1 n1 gj) {bW:aE} {iv:List aG} (hp:R4 L F c1 c2 c3 H1 q rb bk m1 g1 bW iv l w H2):∃m2 g2 gl,QR zb L F c1 c2 c3 H q rb ns m g nb gn H2 bW iv m2 g2 n1 gj/\Sl dG H2 w l gl/\∀c∈gl,c < H2.next/\(H.next<=c/\c≠rb/\c≠nb/\c≠q/\c∉m2):=by
 obtain ⟨hf,hz,hle,m2,g2,gl,h0,hs,i3,eK,hn,kX⟩:=hp
 have hl:=h.lq.ln
 have rX:=hl.nl
 have dU:=h.fr.nx
 refine ⟨m2,g2,gl,⟨h.fr.trans hf fun c hc=>?_,⟨h0,hl.fr hf h0.pp (by simp;exact ⟨hl.nr,hl.nq,h.lq.nm⟩) (fun c hc=>by simp;exact ⟨(hl.hg c hc).2.1,(hl.hg c hc).2.2.2,h.lq.gm c hc⟩),fun e=>(hs _ e).elim h.lq.nm fun e=>by omega,fun e=>(i3 _ e).elim h.lq.ng fun e=>by omega,fun c hc e=>(hs c e).elim (h.lq.gm c hc) fun e=>by have:=(hl.hg c hc).1;omega⟩,
  Nat.le_trans h.le hle,fun c hc=>(hs c hc).elim (h.sm c) fun e=>.inr (Nat.le_trans dU e),fun c hc=>(i3 c hc).elim (h.sg c) fun e=>.inr (Nat.le_trans dU e),h.sn,by rw [hz];exact h.fz,by rw [hz];exact h.fq,by rw [hz];exact h.fb,fun c hc=>?_,fun b hb=>by rw [hz];exact h.fn b (Nat.le_trans hf.nx hb)⟩,eK,fun c hc=>?_⟩
 ·simp only [List.mem_cons] at hc ⊢
  rcases hc with e | e | e
  ·exact .inl (.inl e)
  ·exact .inl (.inr (.inl e))
  ·exact (h.sm c e).imp (fun e=>.inr (.inr (.inr e))) id
 ·rw [hz]
  rcases hs c hc with e | e
  ·exact h.fm c e
  ·exact h.fn c e
 ·obtain ⟨e1,e2,e3,e4,_⟩:=h.new (hn c hc).1
  exact ⟨(hn c hc).2,e1,e2,e3,e4,kX c hc⟩
def yd (L:List bc) (aU:lx) (fuel:Nat) (st:aE) (ns:List aG) (k:Nat):Option (aE × List aG):=
 if cP L [100,111,110,101] st=true then some (aC st,oV ns k {kind:=12,a:= -1,b:= -1})
 else if cP L [103,105,118,101] st=true then some ((cu L (aC st)).2,oV ns k {kind:=17,a:= -1,b:= -1,gu:=(cu L (aC st)).1})
 else if cP L [99,97,108,108] st=true then
  (let y:=cu L (aC st);let z:=qF L y.2;some (z.2,oV ns k {kind:=13,a:= -1,b:= -1,hU:=y.1,args:=z.1}))
 else if cP L [97,103,97,105,110] st=true then some ((qF L (aC st)).2,oV ns k {kind:=14,a:= -1,b:= -1,args:=(qF L (aC st)).1})
 else if cP L [105,102] st=true then
  (aU 0 ((ib L (aC st)).2,ns)).bind fun x=>(aU 0 (dF L [101,108,115,101] x.2.1,x.2.2)).map fun y=>(y.2.1,oV y.2.2 k {kind:=16,a:=x.1,b:=y.1,args:=[(ib L (aC st)).1]})
 else (BF L fuel (dF L [58] (cu L (aC st)).2)).bind fun p=>(Ht L aU fuel (sC L p.2) ns []).map fun B=>(EF L B.1,oV B.2.1 k {kind:=15,a:= -1,b:= -1,gu:=(cu L (aC st)).1,pat:=p.1,au:=B.2.2})
theorem Xv {h:KH}:fQ Tryz.prog 42 [(8,iV (-1)),(9,iV (-1))] h=.ok (.agg #[iV 0,iV 0,iV 0,iV 0,iV 0,iV 0,iV 0,iV 0,iV (-1),iV (-1),iV 0,iV 0,iV 0,ae [],ae [],ae [],ae [],.slice none 0 0,.slice none 0 0,.slice none 0 0]) h:=by kernel_rfl
theorem Zh (hL:LG L) {aU:lx} (iW:BH L F c1 c2 c3 q rb aU) (h:NQ L F c1 c2 c3 H q rb st ns m g) {k:Nat} (hk:k < ns.length) (ir:(tk L st).kind≠4) {fuel:Nat} {R:aE × List aG} (he:yd L aU fuel st ns k=some R):
  ak Tryz.prog 164 #[pV q,iV (k:Nat)] H (fun w H'=>x6 L F c1 c2 c3 H q rb ns m g R.1 R.2 H'):=by
 refine ak.told ?_
 refine agN (Nat.le_refl _) fun hf=>?_
 simp only [Tryz.f164,Option.getD_some]
 have r0:=QR.fresh (NR.start h) (nb:=H.next) rfl {a:= -1,b:= -1} rfl rfl rfl
 have hz:=h.fz
 have jE:=hL.len
 have cS:H.fz H.next=false:=hf.fresh (Nat.le_refl _)
 have nr:¬rb=H.next:=by have:=h.pp.rl;omega
 have q7:¬H.next=rb:=fun e=>nr e.symm
 have nq:¬q=H.next:=by have:=h.pp.ql;omega
 simp only [go_sem,Xv,cS]
 refine ag.by (fR r0.pp) ?_
 rintro _ H1 - ⟨rfl,P0⟩
 have r1:=r0.aZ P0
 by_cases h1:cP L [100,111,110,101] st=true
 ·rw [yd,if_pos h1] at he
  cases he
  obtain ⟨d1,d2,d3,d4,bL,oL,cL,a,j,c,hq,hr,cX,pa⟩:=r1.pp.iN hL (jl h1)
  have ra:=r1.aZ pa
  obtain ⟨vA,vP,vB,cQ⟩:=ra.nd
  have yw:=cQ
  rw [az,if_neg q7] at yw
  have rE:=ra.gG cQ {kind:=12,a:= -1,b:= -1} rfl rfl rfl
  obtain ⟨aA,kA,aP,kP,aB,kB,lK,fh⟩:=rE.done (Nat.le_refl _) hk
  rw [az,if_pos rfl] at lK
  cases lK
  simp only [go_sem,h1,hq,hr,hz,cX,nr,q7,nq,yw,cS]
  refine ag.by fh ?_
  rintro _ Ck - pj
  simp only [go_sem]
  exact pj
 simp only [go_sem,h1]
 refine ag.by (fR r1.pp) ?_
 rintro _ H2 - ⟨rfl,Gm⟩
 have r2:=r1.aZ Gm
 by_cases h2:cP L [103,105,118,101] st=true
 ·rw [yd,if_neg h1,if_pos h2] at he
  cases he
  obtain ⟨d1,d2,d3,d4,bL,oL,cL,a,j,c,hq,hr,cX,pa⟩:=r2.pp.iN hL (jl h2)
  have ra:=r2.aZ pa
  simp only [go_sem,h2,hq,hr,hz,cX]
  refine ag.by (jk hL ra.pp) ?_
  rintro _ H3 - ⟨rfl,Cl⟩
  have r3:=ra.aZ Cl
  obtain ⟨vA,vP,vB,cQ⟩:=r3.nd
  have rE:=r3.gG cQ {kind:=17,a:= -1,b:= -1,gu:=(cu L (aC st)).1} rfl rfl rfl
  obtain ⟨aA,kA,aP,kP,aB,kB,lK,fh⟩:=rE.done (Nat.le_refl _) hk
  rw [az,if_pos rfl] at lK
  cases lK
  simp only [go_sem,cQ,cS]
  rw [rH]
  refine ag.by fh ?_
  rintro _ Ck - pj
  simp only [go_sem]
  exact pj
 simp only [go_sem,h2]
 refine ag.by (fR r2.pp) ?_
 rintro _ H3 - ⟨rfl,Cl⟩
 have r3:=r2.aZ Cl
 by_cases h3:cP L [99,97,108,108] st=true
 ·rw [yd,if_neg h1,if_neg h2,if_pos h3] at he
  dsimp only at he
  cases he
  obtain ⟨d1,d2,d3,d4,bL,oL,cL,a,j,c,hq,hr,cX,pa⟩:=r3.pp.iN hL (jl h3)
  have ra:=r3.aZ pa
  simp only [go_sem,h3,hq,hr,hz,cX]
  refine ag.by (jk hL ra.pp) ?_
  rintro _ H4 - ⟨rfl,D1⟩
  have r4:=ra.aZ D1
  obtain ⟨vA,vP,vB,cQ⟩:=r4.nd
  have r5:=r4.gG cQ {kind:=13,a:= -1,b:= -1,hU:=(cu L (aC st)).1} rfl rfl rfl
  simp only [go_sem,cQ,cS]
  rw [rH]
  refine ag.by (HV hL r5.pp) ?_
  rintro va H6 - ⟨⟨ga,ic,jU⟩,D2⟩
  have r6:=r5.aZ D2
  obtain ⟨aa,ca,zf⟩:=ic.val
  subst zf
  obtain ⟨Gd,qW,qX,lp⟩:=r6.nd
  obtain ⟨g7,rE⟩:=r6.args lp {kind:=13,a:= -1,b:= -1,hU:=(cu L (aC st)).1,args:=(qF L (cu L (aC st)).2).1} ic (fun b hb=>⟨(jU b hb).2,r5.new (jU b hb).1⟩) rfl rfl
  obtain ⟨aA,kA,aP,kP,aB,kB,lK,fh⟩:=rE.done (Nat.le_refl _) hk
  rw [az,if_pos rfl] at lK
  cases lK
  simp only [go_sem,lp,cS]
  refine ag.by fh ?_
  rintro _ Ck - pj
  simp only [go_sem]
  exact pj
 simp only [go_sem,h3]
 refine ag.by (fR r3.pp) ?_
 rintro _ H4 - ⟨rfl,D1⟩
 have r4:=r3.aZ D1
 by_cases h4:cP L [97,103,97,105,110] st=true
 ·rw [yd,if_neg h1,if_neg h2,if_neg h3,if_pos h4] at he
  cases he
  obtain ⟨d1,d2,d3,d4,bL,oL,cL,a,j,c,hq,hr,cX,pa⟩:=r4.pp.iN hL (jl h4)
  have ra:=r4.aZ pa
  obtain ⟨vA,vP,vB,cQ⟩:=ra.nd
  have yw:=cQ
  rw [az,if_neg q7] at yw
  have r5:=ra.gG cQ {kind:=14,a:= -1,b:= -1} rfl rfl rfl
  simp only [go_sem,h4,hq,hr,hz,cX,nr,q7,nq,yw,cS]
  refine ag.by (HV hL r5.pp) ?_
  rintro va H6 - ⟨⟨ga,ic,jU⟩,D2⟩
  have r6:=r5.aZ D2
  obtain ⟨aa,ca,zf⟩:=ic.val
  subst zf
  obtain ⟨Gd,qW,qX,lp⟩:=r6.nd
  obtain ⟨g7,rE⟩:=r6.args lp {kind:=14,a:= -1,b:= -1,args:=(qF L (aC st)).1} ic (fun b hb=>⟨(jU b hb).2,r5.new (jU b hb).1⟩) rfl rfl
  obtain ⟨aA,kA,aP,kP,aB,kB,lK,fh⟩:=rE.done (Nat.le_refl _) hk
  rw [az,if_pos rfl] at lK
  cases lK
  simp only [go_sem,lp,cS]
  refine ag.by fh ?_
  rintro _ Ck - pj
  simp only [go_sem]
  exact pj
 simp only [go_sem,h4]
 refine ag.by (fR r4.pp) ?_
 rintro _ H5 - ⟨rfl,P4⟩
 have r5:=r4.aZ P4
 by_cases h5:cP L [105,102] st=true
 ·rw [yd,if_neg h1,if_neg h2,if_neg h3,if_neg h4,if_pos h5] at he
  cases ik:aU 0 ((ib L (aC st)).2,ns) with
  | none=>rw [ik] at he;cases he
  | some B=>
   obtain ⟨i1,s1,n1⟩:=B
   rw [ik] at he
   simp only [Option.bind_some] at he
   cases ft:aU 0 (dF L [101,108,115,101] s1,n1) with
   | none=>rw [ft] at he;cases he
   | some B=>
    obtain ⟨i2,s2,n2⟩:=B
    rw [ft] at he
    cases he
    obtain ⟨d1,d2,d3,d4,bL,oL,cL,a,j,c,hq,hr,cX,pa⟩:=r5.pp.iN hL (jl h5)
    have ra:=r5.aZ pa
    obtain ⟨vA,vP,vB,cQ⟩:=ra.nd
    have yw:=cQ
    rw [az,if_neg q7] at yw
    have r6:=ra.gG cQ {kind:=16,a:= -1,b:= -1} rfl rfl rfl
    simp only [go_sem,h5,hq,hr,hz,cX,nr,q7,nq,yw,cS]
    refine ag.by (Df hL r6.pp) ?_
    rintro _ H7 - ⟨rfl,p7⟩
    have r7:=r6.aZ p7
    obtain ⟨vA7,vP7,vB7,yv⟩:=r7.nd
    generalize ib L (aC st)=x at p7 r7 ik
    have nn:¬H.next=H7.next:=by have:=r7.lq.ln.nl;omega
    simp only [go_sem,yv,cS,nn,eB qE (by decide) (by decide)]
    have r8:=r7.push ⟨[iV x.1.kind,iV x.1.n,ae x.1.name],44,false,false⟩
    have vE:(H7.push ⟨[iV x.1.kind,iV x.1.n,ae x.1.name],44,false,false⟩).get H.next=some ⟨aJ {kind:=16,a:= -1,b:= -1} vA7 vP7 vB7,42,false,false⟩:=by rw [bX r7.lq.ln.nl];exact yv
    obtain ⟨g9,r9⟩:=r8.args vE {kind:=16,a:= -1,b:= -1,args:=[x.1]} Kl (fun c hc=>by rw [List.mem_singleton] at hc;subst hc;exact ⟨Nat.lt_succ_self _,r7.new (Nat.le_refl _)⟩) rfl rfl
    refine ag.by (iW r9.nq ik) ?_
    rintro _ dh - ⟨rfl,j9⟩
    obtain ⟨AF,qf,cT⟩:=r9.wW j9
    obtain ⟨alq,alr,als,KT⟩:=cT.nd
    have dk:=cT.gG KT {kind:=16,a:=i1,b:= -1,args:=[x.1]} rfl rfl rfl
    simp only [go_sem,KT,cS]
    refine ag.by (iJ hL dk.pp) ?_
    rintro _ dr - dA
    have dm:=dk.aZ dA
    simp only [go_sem]
    refine ag.by (iW dm.nq ft) ?_
    rintro _ ju - ⟨rfl,pe⟩
    obtain ⟨Cm,Vr,gK⟩:=dm.wW pe
    obtain ⟨awA,awB,awC,ZP⟩:=gK.nd
    have rE:=gK.gG ZP {kind:=16,a:=i1,b:=i2,args:=[x.1]} rfl rfl rfl
    obtain ⟨aA,kA,aP,kP,aB,kB,lK,fh⟩:=rE.done (Nat.le_refl _) (Nat.lt_of_lt_of_le hk rE.le)
    rw [az,if_pos rfl] at lK
    cases lK
    simp only [go_sem,ZP,cS]
    refine ag.by fh ?_
    rintro _ Ck - pj
    simp only [go_sem]
    exact pj
 rw [yd,if_neg h1,if_neg h2,if_neg h3,if_neg h4,if_neg h5] at he
 cases vC:BF L fuel (dF L [58] (cu L (aC st)).2) with
 | none=>rw [vC] at he;cases he
 | some x=>
  obtain ⟨pp,s1⟩:=x
  rw [vC] at he
  simp only [Option.bind_some] at he
  cases cY:Ht L aU fuel (sC L s1) ns [] with
  | none=>rw [cY] at he;cases he
  | some B=>
   obtain ⟨s2,n2,bl⟩:=B
   rw [cY] at he
   cases he
   obtain ⟨d1,d2,d3,d4,bL,oL,cL,a,j,c,hq,hr,cX,pa⟩:=r5.pp.iN hL ir
   have ra:=r5.aZ pa
   simp only [go_sem,h5,hq,hr,hz,cX]
   refine ag.by (jk hL ra.pp) ?_
   rintro _ H6 - ⟨rfl,D2⟩
   have r6:=ra.aZ D2
   obtain ⟨vA,vP,vB,cQ⟩:=r6.nd
   generalize cu L (aC st)=y at D2 r6 vC
   have r7:=r6.gG cQ {kind:=15,a:= -1,b:= -1,gu:=y.1} rfl rfl rfl
   simp only [go_sem,cQ,cS]
   rw [rH]
   refine ag.by (iJ hL r7.pp) ?_
   rintro _ H8 - p8
   have r8:=r7.aZ p8
   simp only [go_sem]
   refine ag.by (Ox hL r8.pp vC) ?_
   rintro vp H9 - ⟨⟨gp,eJ,D3⟩,p9⟩
   have r9:=r8.aZ p9
   obtain ⟨ap,kp,zd⟩:=eJ.val
   subst zd
   obtain ⟨vA9,vP9,vB9,aaP⟩:=r9.nd
   obtain ⟨qf,cT⟩:=r9.pat aaP {kind:=15,a:= -1,b:= -1,gu:=y.1,pat:=pp} eJ (fun b hb=>⟨(D3 b hb).2,r8.new (D3 b hb).1⟩) rfl rfl
   simp only [go_sem,aaP,cS]
   refine ag.by (R1 hL cT.pp) ?_
   rintro _ dX - qZ
   have dk:=cT.aZ qZ
   simp only [go_sem]
   refine ag.by (acu hL iW dk.nq cY) ?_
   rintro vb dr - dA
   obtain ⟨qg,jF,gl,dm,qP,Vn⟩:=dk.ajM dA
   obtain ⟨ab,kb,hvb⟩:=qP.val
   subst hvb
   obtain ⟨awD,awE,awF,ZT⟩:=dm.nd
   obtain ⟨Vr,gK⟩:=dm.bY ZT {kind:=15,a:= -1,b:= -1,gu:=y.1,pat:=pp,au:=bl} qP Vn rfl rfl
   simp only [go_sem,ZT,cS]
   refine ag.by (qv hL gK.pp) ?_
   rintro _ jG - PV
   have rE:=gK.aZ PV
   obtain ⟨aA,kA,aP,kP,aB,kB,lK,fh⟩:=rE.done (Nat.le_refl _) (Nat.lt_of_lt_of_le hk rE.le)
   simp only [go_sem,lK]
   refine ag.by fh ?_
   rintro _ Ck - pj
   simp only [go_sem]
   exact pj
end
section
variable {zb:Bool} {L:List bc} {F:List Nat} {c1 c2 c3:Value} {H H1 H2:ad} {q rb nb:Nat} {st cC bC:aE} {ns bk bO:List aG} {m m1 m2 g g1 g2 gn gj se:List Nat} {n n1 n2:aG}
theorem IM.af (h:IM H rb nb n) (hf:Fr [rb] H H1) (hn:nb≠rb) (hl:nb < H.next):IM H1 rb nb n:=by
 rcases h with ⟨vP,vB,h1,h2⟩ | ⟨b,a,vP,vB,h1,h2,h3,h4,h5,h6⟩
 ·exact .inl ⟨vP,vB,(hf.get nb hl (by simpa using hn)).trans h1,h2⟩
 ·exact .inr ⟨b,a,vP,vB,(hf.get nb hl (by simpa using hn)).trans h1,h2,(hf.get b h4 (by simpa using h6)).trans h3,Nat.lt_of_lt_of_le h4 hf.nx,h5,h6⟩
theorem IM.app (h:IM H rb nb n) (y:sN):∃a k vP vB cs,H.get nb=some ⟨aJ n (.slice a n.args.length k) vP vB,42,false,false⟩/\
  iS Tryz.prog 40 (.slice a n.args.length k) (.slice (some ⟨H.next,0,none⟩) 1 1) (H.push ⟨[iV y.kind,iV y.n,ae y.name],44,false,false⟩)=.ok (.slice (some ⟨H.next+1,0,none⟩) (n.args.length+1) (n.args.length+1)) ((H.push ⟨[iV y.kind,iV y.n,ae y.name],44,false,false⟩).push ⟨cs,44,true,false⟩)/\
  Sl jO ((H.push ⟨[iV y.kind,iV y.n,ae y.name],44,false,false⟩).push ⟨cs,44,true,false⟩) (.slice (some ⟨H.next+1,0,none⟩) (n.args.length+1) (n.args.length+1)) (n.args++[y]) [H.next+1]:=by
 have gy:(H.push ⟨[iV y.kind,iV y.n,ae y.name],44,false,false⟩).get H.next=some ⟨[iV y.kind,iV y.n,ae y.name],44,false,false⟩:=by rw [aV,if_pos rfl]
 rcases h with ⟨vP,vB,h1,h2⟩ | ⟨b,a,vP,vB,h1,h2,h3,h4,h5,h6⟩
 ·refine ⟨none,0,vP,vB,[iV y.kind,iV y.n,ae y.name],by rw [h2];exact h1,?_,?_⟩
  ·rw [h2]
   exact HL (n:=1) qE (EE (c:=1) gy rfl) (by omega) (by decide)
  ·rw [h2]
   exact .inr (.inr ⟨H.next+1,0,1,_,[],rfl,by simp,Nat.le_refl _,rfl,by rw [aV];exact if_pos rfl,⟨_,[],[],[],rfl,rfl,⟨rfl,rfl⟩,rfl⟩⟩)
 ·have g3:(H.push ⟨[iV y.kind,iV y.n,ae y.name],44,false,false⟩).get b=some ⟨[iV a.kind,iV a.n,ae a.name],44,false,false⟩:=by rw [bX h4];exact h3
  refine ⟨some ⟨b,0,none⟩,1,vP,vB,[iV a.kind,iV a.n,ae a.name,iV y.kind,iV y.n,ae y.name],by rw [h2];exact h1,?_,?_⟩
  ·rw [h2]
   exact Kc (n:=1) (o:=0) (sl:=1) (sc:=1) qE (EE (c:=1) gy rfl) g3 (by rfl) (Nat.le_refl 1) (by omega) (by omega)
  ·rw [h2]
   exact .inr (.inr ⟨H.next+1,0,2,_,[],rfl,by simp,Nat.le_refl _,rfl,by rw [aV];exact if_pos rfl,⟨_,_,[],[],rfl,rfl,⟨rfl,rfl⟩,_,[],[],[],rfl,rfl,⟨rfl,rfl⟩,rfl⟩⟩)
abbrev Mn:aG:={a:= -1,b:= -1}
def ug (L:List bc) (aU:lx) (st:aE) (ns:List aG) (k:Nat):Option (aE × List aG):=
 if cP L [108,101,116] st=true then
  (La L aU (dF L [61] (cu L (aC st)).2) ns {a:= -1,b:= -1,mI:=(cu L (aC st)).1}).map fun x=>(dF L [59] x.1,oV x.2.1 k x.2.2)
 else if cP L [115,101,116] st=true then
  (let y:=cu L (aC st);let x:=zQ L y.2 {kind:=6,a:= -1,b:= -1,gu:=y.1};let a:=ib L (dF L [61] x.1);some (dF L [59] a.2,oV ns k {x.2 with args:=x.2.args++[a.1]}))
 else if cP L [115,112,97,119,110] st=true then
  (let y:=cu L (aC st);let z:=qF L y.2;some (dF L [59] z.2,oV ns k {kind:=10,a:= -1,b:= -1,hU:=y.1,args:=z.1}))
 else if cP L [108,111,111,112] st=true then KQ L aU st ns k
 else (let y:=cu L st;let f:=cu L (dF L [33] y.2);let z:=qF L f.2;some (dF L [59] z.2,oV ns k {kind:=9,a:= -1,b:= -1,gu:=y.1,hU:=f.1,args:=z.1}))
theorem N9 (hL:LG L) {aU:lx} (iW:BH L F c1 c2 c3 q rb aU) (h:NQ L F c1 c2 c3 H q rb st ns m g) {k:Nat} (hk:k < ns.length) {R:aE × List aG} (he:ug L aU st ns k=some R):
  ak Tryz.prog 165 #[pV q,iV (k:Nat)] H (fun w H'=>x6 L F c1 c2 c3 H q rb ns m g R.1 R.2 H'):=by
 refine ak.told ?_
 refine aeq (l:=[pV q,iV (k:Nat)]) (m:=2) [(15,[(1,3)])] mixed Tryz.func165 agO (Nat.le_refl _) (by decide) rfl rfl fun hf=>?_
 have hz:=h.fz
 have jE:=hL.len
 have cS:H.fz H.next=false:=hf.fresh (Nat.le_refl _)
 have nr:¬rb=H.next:=by have:=h.pp.rl;omega
 have q7:¬H.next=rb:=fun e=>nr e.symm
 have nq:¬q=H.next:=by have:=h.pp.ql;omega
 have r0:QR false L F c1 c2 c3 H q rb ns m g H.next [] ((H.push ⟨aJ Mn (.slice none 0 0) (.slice none 0 0) (.slice none 0 0),42,false,false⟩).ai H.fz) st ns m g Mn []:=by
  have r:=QR.fresh (NR.start h) (nb:=H.next) rfl Mn rfl rfl rfl
  exact ⟨r.fr.ai _,r.lq.fr ((Fr.refl [] _).ai _) r.pp.toPP0.ai (by simp) (by simp) (by simp) (by simp) (by simp),r.le,r.sm,r.sg,r.sn,h.fz,h.fq,cS,h.fm,fun b hb=>h.fn b (Nat.le_trans (Nat.le_succ _) hb)⟩
 simp only [go_sem,Xv,cS]
 intro _
 refine ag.by (fR r0.pp) ?_
 rintro _ H1 - ⟨rfl,P0⟩
 have r1:=r0.aZ P0
 by_cases h1:cP L [108,101,116] st=true
 ·rw [ug,if_pos h1] at he
  cases OX:La L aU (dF L [61] (cu L (aC st)).2) ns {a:= -1,b:= -1,mI:=(cu L (aC st)).1} with
  | none=>rw [OX] at he;cases he
  | some B=>
   obtain ⟨s9,n9,d9⟩:=B
   rw [OX] at he
   cases he
   obtain ⟨d1,d2,d3,d4,bL,oL,cL,a,j,c,hq,hr,cX,pa⟩:=r1.pp.iN hL (jl h1)
   have ra:=r1.aZ pa
   simp only [go_sem,h1,hq,hr,hz,cX]
   refine ag.by (jk hL ra.pp) ?_
   rintro _ H2 - ⟨rfl,Gm⟩
   have r2:=ra.aZ Gm
   obtain ⟨vA,vP,vB,cQ⟩:=r2.nd
   generalize cu L (aC st)=y at Gm r2 OX
   have r3:=r2.gG cQ {a:= -1,b:= -1,mI:=y.1} rfl rfl rfl
   simp only [go_sem,cQ,cS]
   refine ag.by (iJ hL r3.pp) ?_
   rintro _ H4 - p4
   have r4:=r3.aZ p4
   simp only [go_sem]
   refine ag.by (ajJ hL iW r4.lq r4.fz r4.fq r4.fb r4.fm rfl OX) ?_
   rintro _ H5 - p5
   obtain ⟨m5,g5,gn5,r5⟩:=r4.ajI p5
   simp only [go_sem]
   refine ag.by (iJ hL r5.pp) ?_
   rintro _ Vs - Gn
   have rE:=r5.aZ Gn
   obtain ⟨aA,kA,aP,kP,aB,kB,lK,fh⟩:=rE.done (Nat.le_refl _) (Nat.lt_of_lt_of_le hk rE.le)
   simp only [go_sem,lK]
   refine ag.by fh ?_
   rintro _ Ck - pj
   simp only [go_sem]
   exact pj
 simp only [go_sem,h1]
 refine ag.by (fR r1.pp) ?_
 rintro _ H2 - ⟨rfl,Gm⟩
 have r2:=r1.aZ Gm
 by_cases h2:cP L [115,101,116] st=true
 ·rw [ug,if_neg h1,if_pos h2] at he
  dsimp only at he
  cases he
  obtain ⟨d1,d2,d3,d4,bL,oL,cL,a,j,c,hq,hr,cX,pa⟩:=r2.pp.iN hL (jl h2)
  have ra:=r2.aZ pa
  simp only [go_sem,h2,hq,hr,hz,cX]
  have ajN:((H.push ⟨aJ Mn (.slice none 0 0) (.slice none 0 0) (.slice none 0 0),42,false,false⟩).ai H.fz).get H.next=some ⟨aJ Mn (.slice none 0 0) (.slice none 0 0) (.slice none 0 0),42,false,false⟩:=by rw [bg,aV,if_pos rfl]
  have Lf:H.next∉[rb]:=by simpa using q7
  have ajO:=(P0.1.get H.next r0.lq.ln.nl Lf).trans ajN
  have ajP:=(Gm.1.get H.next r1.lq.ln.nl Lf).trans ajO
  have ajQ:=(pa.1.get H.next r2.lq.ln.nl Lf).trans ajP
  refine ag.by (jk hL ra.pp) ?_
  rintro _ H3 - ⟨rfl,Cl⟩
  have r3:=ra.aZ Cl
  have cQ:=(Cl.1.get H.next ra.lq.ln.nl Lf).trans ajQ
  generalize cu L (aC st)=y at Cl r3
  have r4:=r3.gG cQ {kind:=6,a:= -1,b:= -1,gu:=y.1} rfl rfl rfl
  simp only [go_sem,cQ,cS]
  rw [rH]
  refine ag.by (Yo hL r4.ln) ?_
  rintro _ H5 - ⟨p5,hx5⟩
  have hx:=hx5 _ _ (by rw [az,if_pos rfl]) rfl
  clear hx5
  obtain ⟨g5,r5⟩:=r4.KN p5
  generalize zQ L y.2 {kind:=6,a:= -1,b:= -1,gu:=y.1}=x at p5 r5 hx
  simp only [go_sem]
  refine ag.by (iJ hL r5.pp) ?_
  rintro _ H6 - p6
  have r6:=r5.aZ p6
  have hx6:=hx.af p6.1 q7 r5.lq.ln.nl
  obtain ⟨Gd,qW,qX,lp⟩:=r6.nd
  simp only [go_sem,lp]
  refine ag.by (Df hL r6.pp) ?_
  rintro _ H7 - ⟨rfl,p7⟩
  have r7:=r6.aZ p7
  have hx7:=hx6.af p7.1 q7 r6.lq.ln.nl
  generalize ib L (dF L [61] x.1)=z at p7 r7
  obtain ⟨aa,ka,vP7,vB7,cs,yv,alu,eK⟩:=hx7.app z.1
  have e67:=(p7.1.get H.next r6.lq.ln.nl Lf).symm.trans yv
  rw [lp] at e67
  cases e67
  have nn:¬H.next=H7.next:=by have:=r7.lq.ln.nl;omega
  have nn':¬H.next=H7.next+1:=by have:=r7.lq.ln.nl;omega
  have r8:=(r7.push ⟨[iV z.1.kind,iV z.1.n,ae z.1.name],44,false,false⟩).push ⟨cs,44,true,false⟩
  have vE:((H7.push ⟨[iV z.1.kind,iV z.1.n,ae z.1.name],44,false,false⟩).push ⟨cs,44,true,false⟩).get H.next=some ⟨aJ x.2 (.slice aa x.2.args.length ka) qW qX,42,false,false⟩:=by
   have:=r7.lq.ln.nl
   rw [bX (by rw [bJ];omega),bX this];exact yv
  obtain ⟨g9,r9⟩:=r8.args vE {x.2 with args:=x.2.args++[z.1]} eK (fun c hc=>by
   rw [List.mem_singleton] at hc
   subst hc
   exact ⟨by rw [bJ,bJ];omega,r7.new (Nat.le_succ _)⟩) rfl rfl
  simp only [go_sem,lp,yv,cS,nn,eB qE (by decide) (by decide)]
  rw [alu,wK]
  simp only [go_sem,yv,cS,nn,nn']
  rw [show x.2.args.length+1=(x.2.args++[z.1]).length by rw [List.length_append];rfl] at r9 ⊢
  refine ag.by (iJ hL r9.pp) ?_
  rintro _ Vs - Gn
  have rE:=r9.aZ Gn
  obtain ⟨aA,kA,aP,kP,aB,kB,lK,fh⟩:=rE.done (Nat.le_refl _) (Nat.lt_of_lt_of_le hk rE.le)
  simp only [go_sem,lK]
  refine ag.by fh ?_
  rintro _ Ck - pj
  simp only [go_sem]
  exact pj
 simp only [go_sem,h2]
 refine ag.by (fR r2.pp) ?_
 rintro _ H3 - ⟨rfl,Cl⟩
 have r3:=r2.aZ Cl
 by_cases h3:cP L [115,112,97,119,110] st=true
 ·rw [ug,if_neg h1,if_neg h2,if_pos h3] at he
  dsimp only at he
  cases he
  obtain ⟨d1,d2,d3,d4,bL,oL,cL,a,j,c,hq,hr,cX,pa⟩:=r3.pp.iN hL (jl h3)
  have ra:=r3.aZ pa
  simp only [go_sem,h3,hq,hr,hz,cX]
  refine ag.by (jk hL ra.pp) ?_
  rintro _ H4 - ⟨rfl,D1⟩
  have r4:=ra.aZ D1
  obtain ⟨vA,vP,vB,cQ⟩:=r4.nd
  generalize cu L (aC st)=y at D1 r4
  have r5:=r4.gG cQ {kind:=10,a:= -1,b:= -1,hU:=y.1} rfl rfl rfl
  simp only [go_sem,cQ,cS]
  rw [rH]
  refine ag.by (HV hL r5.pp) ?_
  rintro va H6 - ⟨⟨ga,ic,jU⟩,D2⟩
  have r6:=r5.aZ D2
  obtain ⟨aa,ca,zf⟩:=ic.val
  subst zf
  obtain ⟨Gd,qW,qX,lp⟩:=r6.nd
  obtain ⟨g7,r7⟩:=r6.args lp {kind:=10,a:= -1,b:= -1,hU:=y.1,args:=(qF L y.2).1} ic (fun b hb=>⟨(jU b hb).2,r5.new (jU b hb).1⟩) rfl rfl
  simp only [go_sem,lp,cS]
  refine ag.by (iJ hL r7.pp) ?_
  rintro _ Vs - Gn
  have rE:=r7.aZ Gn
  obtain ⟨aA,kA,aP,kP,aB,kB,lK,fh⟩:=rE.done (Nat.le_refl _) (Nat.lt_of_lt_of_le hk rE.le)
  simp only [go_sem,lK]
  refine ag.by fh ?_
  rintro _ Ck - pj
  simp only [go_sem]
  exact pj
 simp only [go_sem,h3]
 refine ag.by (fR r3.pp) ?_
 rintro _ H4 - ⟨rfl,D1⟩
 have r4:=r3.aZ D1
 by_cases h4:cP L [108,111,111,112] st=true
 ·rw [ug,if_neg h1,if_neg h2,if_neg h3,if_pos h4] at he
  simp only [go_sem,h4]
  refine ag.by (ahu hL iW r4.nq hk (jl h4) he) ?_
  rintro _ H5 - p5
  obtain ⟨m5,g5,r5⟩:=r4.wW p5
  simp only [go_sem]
  exact ⟨(r5.fr.sub fun c hc=>by
   simp only [List.mem_cons] at hc ⊢
   rcases hc with e | e | e | e
   ·exact .inl (.inl e)
   ·exact .inl (.inr (.inl e))
   ·exact .inr (Nat.le_of_eq e.symm)
   ·exact .inl (.inr (.inr e))).ai _,fun _=>rfl,r5.le,m5,g5,r5.lq.nq.ai,r5.sm,r5.sg⟩
 rw [ug,if_neg h1,if_neg h2,if_neg h3,if_neg h4] at he
 dsimp only at he
 cases he
 simp only [go_sem,h4]
 refine ag.by (jk hL r4.pp) ?_
 rintro _ H5 - ⟨rfl,P4⟩
 have r5:=r4.aZ P4
 obtain ⟨vA,vP,vB,cQ⟩:=r5.nd
 generalize cu L st=y at P4 r5
 have r6:=r5.gG cQ {kind:=9,a:= -1,b:= -1,gu:=y.1} rfl rfl rfl
 simp only [go_sem,cQ,cS]
 rw [rH]
 refine ag.by (iJ hL r6.pp) ?_
 rintro _ H7 - p7
 have r7:=r6.aZ p7
 simp only [go_sem]
 refine ag.by (jk hL r7.pp) ?_
 rintro _ H8 - ⟨rfl,pH8⟩
 have r8:=r7.aZ pH8
 obtain ⟨vA8,vP8,vB8,vE⟩:=r8.nd
 generalize cu L (dF L [33] y.2)=f at pH8 r8
 have r9:=r8.gG vE {kind:=9,a:= -1,b:= -1,gu:=y.1,hU:=f.1} rfl rfl rfl
 simp only [go_sem,vE,cS]
 refine ag.by (HV hL r9.pp) ?_
 rintro va dh - ⟨⟨ga,ic,jU⟩,alv⟩
 have cT:=r9.aZ alv
 obtain ⟨aa,ca,zf⟩:=ic.val
 subst zf
 obtain ⟨alq,alr,als,KT⟩:=cT.nd
 obtain ⟨D0,dk⟩:=cT.args KT {kind:=9,a:= -1,b:= -1,gu:=y.1,hU:=f.1,args:=(qF L f.2).1} ic (fun b hb=>⟨(jU b hb).2,r9.new (jU b hb).1⟩) rfl rfl
 simp only [go_sem,KT,cS]
 refine ag.by (iJ hL dk.pp) ?_
 rintro _ Vs - Gn
 have rE:=dk.aZ Gn
 obtain ⟨aA,kA,aP,kP,aB,kB,lK,fh⟩:=rE.done (Nat.le_refl _) (Nat.lt_of_lt_of_le hk rE.le)
 simp only [go_sem,lK]
 refine ag.by fh ?_
 rintro _ Ck - pj
 simp only [go_sem]
 exact pj
end
section
variable {zb:Bool} {L:List bc} {F:List Nat} {c1 c2 c3:Value} {H H1 H2:ad} {q rb nb:Nat} {st cC bC:aE} {ns bk bO:List aG} {m m1 m2 g g1 g2 gn gj se:List Nat} {n n1 n2:aG}
theorem HS (ho:c9 (iT L st ns).2.1=true):(iT L st ns).1=((ns.length:Nat):Int)/\(iT L st ns).2.1=st/\(iT L st ns).2.2.length=ns.length+1:=by
 have key:c9 (sE st ns)=true->sE st ns=st:=fun h=>by
  unfold sE at h ⊢
  split at h
  ·rw [Ba (by decide)] at h;cases h
  ·rename_i hn;rw [if_neg hn]
 unfold iT at ho ⊢
 split at ho
 ·rename_i h
  rw [if_pos h]
  exact ⟨rfl,key h,by simp⟩
 ·rename_i h;exact absurd ho h
theorem abN (h:zK L st=true):(tk L st).kind≠4:=by
 simp only [zK,Bool.or_eq_true] at h
 rcases h with (((h | h) | h) | h) | h <;> exact jl h
def ku (ns:List aG) (l k:Nat):List aG:=ns.set l {ns.getD l {} with next:=((k:Nat):Int)}
theorem NR.x (h0:NQ L F c1 c2 c3 H q rb st ns m g) (hf:bV H) (h:NR L F c1 c2 c3 H q rb ns m g H1 cC bk m1 g1):∀b∈m1,H.fz b=false:=fun b hb=>(h.sm b hb).elim (h0.fm b) (fun e=>hf.fresh e)
theorem NR.link (h:NR L F c1 c2 c3 H q rb ns m g H1 cC bk m1 g1) {l k:Nat} (hl:l < bk.length):∃b cs,H1.get q=some ⟨[pV rb,c1,c2,c3,.slice (some ⟨b,0,none⟩) bk.length bk.length],127,false,false⟩/\b∈m1/\H1.get b=some ⟨cs,42,true,false⟩/\l * 20+20<=cs.length/\
  NR L F c1 c2 c3 H q rb ns m g (H1.ah b ⟨cs.set (l * 20+10) (iV (k:Nat)),42,true,false⟩) cC (ku bk l k) m1 g1:=by
 obtain ⟨vN,hq,cB⟩:=h.cells
 obtain ⟨b,cs,f1,f2,f3,rfl,rfl,hb,fk,rfl,de,hE,oW⟩:=cB.put hl
 obtain ⟨wA,wP,wB,e1,e2,e3,aX,rfl,s1,s2,s3⟩:=hE
 have fM:kr.sz=20:=rfl
 rw [fM] at de aX
 obtain ⟨ik,ft,fB,oK,iG⟩:=h.nq.hm b (by simp)
 have be:l * 20+10 < cs.length:=by omega
 have eJ:cs.set (l * 20+10) (iV (k:Nat))=cW cs (l * kr.sz) (aJ {bk[l] with next:=((k:Nat):Int)} wA wP wB):=by
  have:=xQ (vs:=[iV (k:Nat)]) aX (k:=10) (by decide:10+1<=20) de
  rw [eW be] at this
  rw [this];rfl
 have kX:(bk.getD l {})=bk[l]:=by rw [List.getD_eq_getElem?_getD,List.getElem?_eq_getElem hl];rfl
 have bj:Fr [b] H1 (H1.ah b ⟨cs.set (l * 20+10) (iV (k:Nat)),42,true,false⟩):=(Fr.refl _ _).ah (.inl (by simp)) _
 have kg:∀c,c≠b->(H1.ah b ⟨cs.set (l * 20+10) (iV (k:Nat)),42,true,false⟩).get c=H1.get c:=fun c hc=>by rw [az,if_neg hc]
 have q8:∀c∈f1++(e1++(e2++e3)++f3),c≠b:=fun c hc e=>iG (e▸hc)
 have bH:=oW (H1.ah b ⟨cs.set (l * 20+10) (iV (k:Nat)),42,true,false⟩) (aJ {bk[l] with next:=((k:Nat):Int)} wA wP wB) {bk[l] with next:=((k:Nat):Int)} (e1++(e2++e3))
  (fun z hz=>kg z (q8 z (by rcases hz with e | e <;> simp [e]))) (by rw [az,if_pos rfl,eJ]) ⟨wA,wP,wB,e1,e2,e3,rfl,rfl,s1.af fun c hc=>kg c (q8 c (by simp [hc])),s2.af fun c hc=>kg c (q8 c (by simp [hc])),s3.af fun c hc=>kg c (q8 c (by simp [hc]))⟩
  (fun e=>iG (List.mem_append_right _ (List.mem_append_left _ e)))
 refine ⟨b,cs,hq,by simp,hb,de,⟨h.fr.trans bj fun c hc=>?_,{pp:=h.nq.pp.put _ fB ft oK,row:=⟨_,(kg q (Ne.symm fB)).trans hq,?_⟩,hm:=h.nq.hm,hg:=h.nq.hg,hn:=by rw [ku,List.length_set];exact h.nq.hn,fz:=h.nq.fz,fq:=h.nq.fq,fm:=h.nq.fm,fn:=h.nq.fn},by rw [ku,List.length_set];exact h.le,h.sm,h.sg⟩⟩
 ·rw [List.mem_singleton] at hc
  subst hc
  exact (h.sm c (by simp)).imp (fun e=>by simp [e]) id
 ·rw [ku,kX];exact bH
def fV:Option (Nat × Nat)->Int
 | none=> -1
 | some x=>((x.1:Nat):Int)
def lV:Option (Nat × Nat)->Int
 | none=> -1
 | some x=>((x.2:Nat):Int)
def ZU (fl:Option (Nat × Nat)) (k:Nat):Option (Nat × Nat):=match fl with
 | none=>some (k,k)
 | some x=>some (x.1,k)
def Oz (fl:Option (Nat × Nat)) (ns:List aG) (k:Nat):List aG:=match fl with
 | none=>ns
 | some x=>ku ns x.2 k
def qG (L:List bc) (kind:Int) (st:aE):Bool:=decide (kind=2)&&cP L [103,105,118,101] st||decide (kind=0)&&zK L st
def Bb (L:List bc) (aU:lx) (fuel:Nat) (kind:Int):Nat->Bool->Option (Nat × Nat)->aE->List aG->Option (Int × aE × List aG)
 | 0,_,_,_,_=>none
 | j+1,vl,fl,st,ns=>
  if c9 st=true/\vl=false then
   (if kind=1/\ea L [125] st=true then some (fV fl,st,ns)
   else if qG L kind st=false/\rB L st=false then some (fV fl,eX 2 st,ns)
   else if c9 (iT L st ns).2.1=true then
    (if qG L kind st=true then yd L aU fuel st (iT L st ns).2.2 ns.length else ug L aU st (iT L st ns).2.2 ns.length).bind fun x=>
     Bb L aU fuel kind j (qG L kind st) (ZU fl ns.length) x.1 (Oz fl x.2 ns.length)
   else some (fV fl,(iT L st ns).2.1,(iT L st ns).2.2))
  else some (fV fl,st,ns)
def C2 (L:List bc):Nat->lx
 | 0=>fun _ _=>none
 | k+1=>fun kind s=>(Bb L (C2 L k) k kind 402 false none (sC L s.1) s.2).map fun x=>(x.1,EF L x.2.1,x.2.2)
theorem ac7 (hL:LG L) {aU:lx} (iW:BH L F c1 c2 c3 q rb aU) {fuel:Nat} (h:NQ L F c1 c2 c3 H q rb st ns m g) {kind:Int} {R:Int × aE × List aG} (he:Bb L aU fuel kind 402 false none (sC L st) ns=some R):
  ak Tryz.prog 143 #[pV q,iV kind] H (fun w H'=>w=iV R.1/\x6 L F c1 c2 c3 H q rb ns m g (EF L R.2.1) R.2.2 H'):=by
 refine ak.told ?_
 refine af9 (Nat.le_refl _) fun hf=>?_
 simp only [Tryz.f143,Option.getD_some]
 have r0:=NR.start h
 have jE:=hL.len
 simp only [go_sem]
 refine ag.by (R1 hL h.bK) ?_
 rintro _ H1 - p1
 have r1:=r0.aZ p1
 generalize sC L st=s1 at p1 r1 he
 simp only [go_sem]
 refine la 18889465931478580853216 (fun n V H2=>∃vl fl bC bO m2 g2,V 5=iV (fV fl)/\V 6=iV (lV fl)/\V 7=.bool vl/\NR L F c1 c2 c3 H q rb ns m g H2 bC bO m2 g2/\(∀x,fl=some x->x.2 < bO.length)/\Bb L aU fuel kind n vl fl bC bO=some R) (n:=402)
  ⟨false,none,s1,ns,m,g,by simp only [go_sem] <;> rfl,by simp only [go_sem] <;> rfl,by simp only [go_sem] <;> rfl,r1,by simp,he⟩ ?_ (by rfl)
 rintro n V H2 ⟨vl,fl,bC,bO,m2,g2,e5,e6,e7,r2,c6,bh⟩
 cases n with
 | zero=>cases bh
 | succ n=>
  rw [Bb] at bh
  have fin:∀{H7:ad} {Gf:aE} {ja:List aG} {m7 g7:List Nat} {x:Value},NR L F c1 c2 c3 H q rb ns m g H7 Gf ja m7 g7->True:=fun _=>trivial
  clear fin
  simp only [go_sem,e7]
  refine ag.by (eZ r2.nq.bK) ?_
  rintro _ _ - ⟨rfl,rfl⟩
  by_cases hb:c9 bC=true
  ·cases vl with
   | true=>
    rw [if_neg (fun e=>by cases e.2)] at bh
    cases bh
    simp only [go_sem,hb,e7]
    refine ag.by (qv hL r2.nq.bK) ?_
    rintro _ xE - ly
    have ie:=r2.aZ ly
    simp only [go_sem,e5]
    first | exact ⟨rfl,ie.last⟩ | exact ie.last
   | false=>
    rw [if_pos ⟨hb,rfl⟩] at bh
    simp only [go_sem,hb,e7]
    obtain ⟨vN,hq,cB⟩:=r2.cells
    by_cases k1:kind=1
    ·subst k1
     simp only [go_sem,hq]
     refine ag.by (nE r2.nq.bK) ?_
     rintro _ _ - ⟨rfl,rfl⟩
     by_cases hs:ea L [125] bC=true
     ·rw [if_pos ⟨rfl,hs⟩] at bh
      cases bh
      simp only [go_sem,hs]
      refine ag.by (qv hL r2.nq.bK) ?_
      rintro _ xE - ly
      have ie:=r2.aZ ly
      simp only [go_sem,e5]
      first | exact ⟨rfl,ie.last⟩ | exact ie.last
     ·rw [if_neg (fun e=>hs e.2)] at bh
      have q9:qG L 1 bC=false:=rfl
      simp only [go_sem,hs]
      refine ag.by (Np hL r2.nq.bK) ?_
      rintro _ H8 - ⟨rfl,p8⟩
      have r8:=r2.aZ p8
      by_cases ic:rB L bC=true
      ·rw [if_neg (fun e=>by rw [ic] at e;cases e.2)] at bh
       simp only [go_sem,ic]
       refine ag.by (HY hL r8.nq) ?_
       rintro _ dh - ⟨rfl,j9⟩
       obtain ⟨AF,qf,cT,_,_⟩:=r8.call j9
       simp only [go_sem]
       refine ag.by (eZ cT.nq.bK) ?_
       rintro _ _ - ⟨rfl,rfl⟩
       by_cases ho:c9 (iT L bC bO).2.1=true
       ·rw [if_pos ho,q9] at bh
        obtain ⟨o1,o2,o3⟩:=HS ho
        rw [o1]
        simp only [go_sem,ho]
        have dk:=cT
        rw [o2] at dk
        rw [if_neg Bool.false_ne_true] at bh
        cases fY:ug L aU bC (iT L bC bO).2.2 bO.length with
        | none=>rw [fY] at bh;cases bh
        | some B=>
         obtain ⟨rh,eQ⟩:=B
         rw [fY] at bh
         simp only [Option.bind_some] at bh
         refine ag.by (N9 hL iW dk.nq (by rw [o3];omega) fY) ?_
         rintro _ dr - dA
         dsimp only at dA
         obtain ⟨qg,jF,dm,_,_⟩:=dk.call dA
         have KU:bO.length+1<=eQ.length:=by have:=dA.2.2.1;rw [o3] at this;exact this
         cases fl with
         | none=>
          have cA:(-1:Int) < 0:=by decide
          simp only [go_sem,e5,fV,cA]
          exact ⟨n,by omega,false,some (bO.length,bO.length),rh,eQ,qg,jF,rfl,rfl,rfl,dm,fun x hx=>by cases hx;show bO.length < eQ.length;omega,bh⟩
         | some x=>
          have cA:¬(((x.1:Nat):Int) < 0):=by omega
          have mh:=c6 x rfl
          obtain ⟨b,cs,yz,fZ,yA,ye,gK⟩:=dm.link (l:=x.2) (k:=bO.length) (by omega)
          have fx:=NR.x h hf dm b fZ
          have be:x.2 < eQ.length:=by omega
          have dK:x.2 * 20+10 < cs.length:=by omega
          have gh:x.2 * 20+10+1<=cs.length:=by omega
          simp only [go_sem,e5,e6,fV,lV,cA,yz,yA,fx,be,dK,gh,ye,eW dK]
          exact ⟨n,by omega,false,some (x.1,bO.length),rh,ku eQ x.2 bO.length,qg,jF,rfl,rfl,rfl,gK,fun y hy=>by cases hy;show bO.length < (ku eQ x.2 bO.length).length;rw [ku,List.length_set];omega,bh⟩
       ·rw [if_neg ho] at bh
        cases bh
        simp only [go_sem,ho]
        refine ag.by (qv hL cT.nq.bK) ?_
        rintro _ xE - ly
        have ie:=cT.aZ ly
        simp only [go_sem,e5]
        first | exact ⟨rfl,ie.last⟩ | exact ie.last
      ·have Fu:rB L bC=false:=by simpa using ic
       rw [if_pos ⟨q9,Fu⟩] at bh
       cases bh
       simp only [go_sem,ic]
       refine ag.by (lh r8.nq.bK) ?_
       rintro _ H9 - p9
       have r9:=r8.aZ p9
       simp only [go_sem]
       refine ag.by (qv hL r9.nq.bK) ?_
       rintro _ xE - ly
       have ie:=r9.aZ ly
       simp only [go_sem,e5]
       first | exact ⟨rfl,ie.last⟩ | exact ie.last
    ·rw [if_neg (fun e=>k1 e.1)] at bh
     by_cases k2:kind=2
     ·subst k2
      simp only [go_sem]
      refine ag.by (fR r2.nq.bK) ?_
      rintro _ H3 - ⟨rfl,p3⟩
      have r3:=r2.aZ p3
      by_cases hg:cP L [103,105,118,101] bC=true
      ·have q9:qG L 2 bC=true:=by simp [qG,hg]
       simp only [go_sem,hg]
       rw [if_neg (fun e=>by rw [q9] at e;cases e.1)] at bh
       refine ag.by (HY hL r3.nq) ?_
       rintro _ dh - ⟨rfl,j9⟩
       obtain ⟨AF,qf,cT,_,_⟩:=r3.call j9
       simp only [go_sem]
       refine ag.by (eZ cT.nq.bK) ?_
       rintro _ _ - ⟨rfl,rfl⟩
       by_cases ho:c9 (iT L bC bO).2.1=true
       ·rw [if_pos ho,q9] at bh
        obtain ⟨o1,o2,o3⟩:=HS ho
        rw [o1]
        simp only [go_sem,ho]
        have dk:=cT
        rw [o2] at dk
        rw [if_pos rfl] at bh
        cases fY:yd L aU fuel bC (iT L bC bO).2.2 bO.length with
        | none=>rw [fY] at bh;cases bh
        | some B=>
         obtain ⟨rh,eQ⟩:=B
         rw [fY] at bh
         simp only [Option.bind_some] at bh
         refine ag.by (Zh hL iW dk.nq (by rw [o3];omega) (jl hg) fY) ?_
         rintro _ dr - dA
         dsimp only at dA
         obtain ⟨qg,jF,dm,_,_⟩:=dk.call dA
         have KU:bO.length+1<=eQ.length:=by have:=dA.2.2.1;rw [o3] at this;exact this
         cases fl with
         | none=>
          have cA:(-1:Int) < 0:=by decide
          simp only [go_sem,e5,fV,cA]
          exact ⟨n,by omega,true,some (bO.length,bO.length),rh,eQ,qg,jF,rfl,rfl,rfl,dm,fun x hx=>by cases hx;show bO.length < eQ.length;omega,bh⟩
         | some x=>
          have cA:¬(((x.1:Nat):Int) < 0):=by omega
          have mh:=c6 x rfl
          obtain ⟨b,cs,yz,fZ,yA,ye,gK⟩:=dm.link (l:=x.2) (k:=bO.length) (by omega)
          have fx:=NR.x h hf dm b fZ
          have be:x.2 < eQ.length:=by omega
          have dK:x.2 * 20+10 < cs.length:=by omega
          have gh:x.2 * 20+10+1<=cs.length:=by omega
          simp only [go_sem,e5,e6,fV,lV,cA,yz,yA,fx,be,dK,gh,ye,eW dK]
          exact ⟨n,by omega,true,some (x.1,bO.length),rh,ku eQ x.2 bO.length,qg,jF,rfl,rfl,rfl,gK,fun y hy=>by cases hy;show bO.length < (ku eQ x.2 bO.length).length;rw [ku,List.length_set];omega,bh⟩
       ·rw [if_neg ho] at bh
        cases bh
        simp only [go_sem,ho]
        refine ag.by (qv hL cT.nq.bK) ?_
        rintro _ xE - ly
        have ie:=cT.aZ ly
        simp only [go_sem,e5]
        first | exact ⟨rfl,ie.last⟩ | exact ie.last
      ·have q9:qG L 2 bC=false:=by simp [qG,hg]
       simp only [go_sem,hg]
       refine ag.by (Np hL r3.nq.bK) ?_
       rintro _ H8 - ⟨rfl,p8⟩
       have r8:=r3.aZ p8
       by_cases ic:rB L bC=true
       ·rw [if_neg (fun e=>by rw [ic] at e;cases e.2)] at bh
        simp only [go_sem,ic]
        refine ag.by (HY hL r8.nq) ?_
        rintro _ dh - ⟨rfl,j9⟩
        obtain ⟨AF,qf,cT,_,_⟩:=r8.call j9
        simp only [go_sem]
        refine ag.by (eZ cT.nq.bK) ?_
        rintro _ _ - ⟨rfl,rfl⟩
        by_cases ho:c9 (iT L bC bO).2.1=true
        ·rw [if_pos ho,q9] at bh
         obtain ⟨o1,o2,o3⟩:=HS ho
         rw [o1]
         simp only [go_sem,ho]
         have dk:=cT
         rw [o2] at dk
         rw [if_neg Bool.false_ne_true] at bh
         cases fY:ug L aU bC (iT L bC bO).2.2 bO.length with
         | none=>rw [fY] at bh;cases bh
         | some B=>
          obtain ⟨rh,eQ⟩:=B
          rw [fY] at bh
          simp only [Option.bind_some] at bh
          refine ag.by (N9 hL iW dk.nq (by rw [o3];omega) fY) ?_
          rintro _ dr - dA
          dsimp only at dA
          obtain ⟨qg,jF,dm,_,_⟩:=dk.call dA
          have KU:bO.length+1<=eQ.length:=by have:=dA.2.2.1;rw [o3] at this;exact this
          cases fl with
          | none=>
           have cA:(-1:Int) < 0:=by decide
           simp only [go_sem,e5,fV,cA]
           exact ⟨n,by omega,false,some (bO.length,bO.length),rh,eQ,qg,jF,rfl,rfl,rfl,dm,fun x hx=>by cases hx;show bO.length < eQ.length;omega,bh⟩
          | some x=>
           have cA:¬(((x.1:Nat):Int) < 0):=by omega
           have mh:=c6 x rfl
           obtain ⟨b,cs,yz,fZ,yA,ye,gK⟩:=dm.link (l:=x.2) (k:=bO.length) (by omega)
           have fx:=NR.x h hf dm b fZ
           have be:x.2 < eQ.length:=by omega
           have dK:x.2 * 20+10 < cs.length:=by omega
           have gh:x.2 * 20+10+1<=cs.length:=by omega
           simp only [go_sem,e5,e6,fV,lV,cA,yz,yA,fx,be,dK,gh,ye,eW dK]
           exact ⟨n,by omega,false,some (x.1,bO.length),rh,ku eQ x.2 bO.length,qg,jF,rfl,rfl,rfl,gK,fun y hy=>by cases hy;show bO.length < (ku eQ x.2 bO.length).length;rw [ku,List.length_set];omega,bh⟩
        ·rw [if_neg ho] at bh
         cases bh
         simp only [go_sem,ho]
         refine ag.by (qv hL cT.nq.bK) ?_
         rintro _ xE - ly
         have ie:=cT.aZ ly
         simp only [go_sem,e5]
         first | exact ⟨rfl,ie.last⟩ | exact ie.last
       ·have Fu:rB L bC=false:=by simpa using ic
        rw [if_pos ⟨q9,Fu⟩] at bh
        cases bh
        simp only [go_sem,ic]
        refine ag.by (lh r8.nq.bK) ?_
        rintro _ H9 - p9
        have r9:=r8.aZ p9
        simp only [go_sem]
        refine ag.by (qv hL r9.nq.bK) ?_
        rintro _ xE - ly
        have ie:=r9.aZ ly
        simp only [go_sem,e5]
        first | exact ⟨rfl,ie.last⟩ | exact ie.last
     ·by_cases k0:kind=0
      ·subst k0
       simp only [go_sem]
       refine ag.by (ab3 hL r2.nq.bK) ?_
       rintro _ H3 - ⟨rfl,p3⟩
       have r3:=r2.aZ p3
       by_cases hg:zK L bC=true
       ·have q9:qG L 0 bC=true:=by simp [qG,hg]
        simp only [go_sem,hg]
        rw [if_neg (fun e=>by rw [q9] at e;cases e.1)] at bh
        refine ag.by (HY hL r3.nq) ?_
        rintro _ dh - ⟨rfl,j9⟩
        obtain ⟨AF,qf,cT,_,_⟩:=r3.call j9
        simp only [go_sem]
        refine ag.by (eZ cT.nq.bK) ?_
        rintro _ _ - ⟨rfl,rfl⟩
        by_cases ho:c9 (iT L bC bO).2.1=true
        ·rw [if_pos ho,q9] at bh
         obtain ⟨o1,o2,o3⟩:=HS ho
         rw [o1]
         simp only [go_sem,ho]
         have dk:=cT
         rw [o2] at dk
         rw [if_pos rfl] at bh
         cases fY:yd L aU fuel bC (iT L bC bO).2.2 bO.length with
         | none=>rw [fY] at bh;cases bh
         | some B=>
          obtain ⟨rh,eQ⟩:=B
          rw [fY] at bh
          simp only [Option.bind_some] at bh
          refine ag.by (Zh hL iW dk.nq (by rw [o3];omega) (abN hg) fY) ?_
          rintro _ dr - dA
          dsimp only at dA
          obtain ⟨qg,jF,dm,_,_⟩:=dk.call dA
          have KU:bO.length+1<=eQ.length:=by have:=dA.2.2.1;rw [o3] at this;exact this
          cases fl with
          | none=>
           have cA:(-1:Int) < 0:=by decide
           simp only [go_sem,e5,fV,cA]
           exact ⟨n,by omega,true,some (bO.length,bO.length),rh,eQ,qg,jF,rfl,rfl,rfl,dm,fun x hx=>by cases hx;show bO.length < eQ.length;omega,bh⟩
          | some x=>
           have cA:¬(((x.1:Nat):Int) < 0):=by omega
           have mh:=c6 x rfl
           obtain ⟨b,cs,yz,fZ,yA,ye,gK⟩:=dm.link (l:=x.2) (k:=bO.length) (by omega)
           have fx:=NR.x h hf dm b fZ
           have be:x.2 < eQ.length:=by omega
           have dK:x.2 * 20+10 < cs.length:=by omega
           have gh:x.2 * 20+10+1<=cs.length:=by omega
           simp only [go_sem,e5,e6,fV,lV,cA,yz,yA,fx,be,dK,gh,ye,eW dK]
           exact ⟨n,by omega,true,some (x.1,bO.length),rh,ku eQ x.2 bO.length,qg,jF,rfl,rfl,rfl,gK,fun y hy=>by cases hy;show bO.length < (ku eQ x.2 bO.length).length;rw [ku,List.length_set];omega,bh⟩
        ·rw [if_neg ho] at bh
         cases bh
         simp only [go_sem,ho]
         refine ag.by (qv hL cT.nq.bK) ?_
         rintro _ xE - ly
         have ie:=cT.aZ ly
         simp only [go_sem,e5]
         first | exact ⟨rfl,ie.last⟩ | exact ie.last
       ·have q9:qG L 0 bC=false:=by simp [qG,hg]
        simp only [go_sem,hg]
        refine ag.by (Np hL r3.nq.bK) ?_
        rintro _ H8 - ⟨rfl,p8⟩
        have r8:=r3.aZ p8
        by_cases ic:rB L bC=true
        ·rw [if_neg (fun e=>by rw [ic] at e;cases e.2)] at bh
         simp only [go_sem,ic]
         refine ag.by (HY hL r8.nq) ?_
         rintro _ dh - ⟨rfl,j9⟩
         obtain ⟨AF,qf,cT,_,_⟩:=r8.call j9
         simp only [go_sem]
         refine ag.by (eZ cT.nq.bK) ?_
         rintro _ _ - ⟨rfl,rfl⟩
         by_cases ho:c9 (iT L bC bO).2.1=true
         ·rw [if_pos ho,q9] at bh
          obtain ⟨o1,o2,o3⟩:=HS ho
          rw [o1]
          simp only [go_sem,ho]
          have dk:=cT
          rw [o2] at dk
          rw [if_neg Bool.false_ne_true] at bh
          cases fY:ug L aU bC (iT L bC bO).2.2 bO.length with
          | none=>rw [fY] at bh;cases bh
          | some B=>
           obtain ⟨rh,eQ⟩:=B
           rw [fY] at bh
           simp only [Option.bind_some] at bh
           refine ag.by (N9 hL iW dk.nq (by rw [o3];omega) fY) ?_
           rintro _ dr - dA
           dsimp only at dA
           obtain ⟨qg,jF,dm,_,_⟩:=dk.call dA
           have KU:bO.length+1<=eQ.length:=by have:=dA.2.2.1;rw [o3] at this;exact this
           cases fl with
           | none=>
            have cA:(-1:Int) < 0:=by decide
            simp only [go_sem,e5,fV,cA]
            exact ⟨n,by omega,false,some (bO.length,bO.length),rh,eQ,qg,jF,rfl,rfl,rfl,dm,fun x hx=>by cases hx;show bO.length < eQ.length;omega,bh⟩
           | some x=>
            have cA:¬(((x.1:Nat):Int) < 0):=by omega
            have mh:=c6 x rfl
            obtain ⟨b,cs,yz,fZ,yA,ye,gK⟩:=dm.link (l:=x.2) (k:=bO.length) (by omega)
            have fx:=NR.x h hf dm b fZ
            have be:x.2 < eQ.length:=by omega
            have dK:x.2 * 20+10 < cs.length:=by omega
            have gh:x.2 * 20+10+1<=cs.length:=by omega
            simp only [go_sem,e5,e6,fV,lV,cA,yz,yA,fx,be,dK,gh,ye,eW dK]
            exact ⟨n,by omega,false,some (x.1,bO.length),rh,ku eQ x.2 bO.length,qg,jF,rfl,rfl,rfl,gK,fun y hy=>by cases hy;show bO.length < (ku eQ x.2 bO.length).length;rw [ku,List.length_set];omega,bh⟩
         ·rw [if_neg ho] at bh
          cases bh
          simp only [go_sem,ho]
          refine ag.by (qv hL cT.nq.bK) ?_
          rintro _ xE - ly
          have ie:=cT.aZ ly
          simp only [go_sem,e5]
          first | exact ⟨rfl,ie.last⟩ | exact ie.last
        ·have Fu:rB L bC=false:=by simpa using ic
         rw [if_pos ⟨q9,Fu⟩] at bh
         cases bh
         simp only [go_sem,ic]
         refine ag.by (lh r8.nq.bK) ?_
         rintro _ H9 - p9
         have r9:=r8.aZ p9
         simp only [go_sem]
         refine ag.by (qv hL r9.nq.bK) ?_
         rintro _ xE - ly
         have ie:=r9.aZ ly
         simp only [go_sem,e5]
         first | exact ⟨rfl,ie.last⟩ | exact ie.last
      ·have q9:qG L kind bC=false:=by simp [qG,k2,k0]
       simp only [go_sem,k1,k2,k0]
       refine ag.by (Np hL r2.nq.bK) ?_
       rintro _ H8 - ⟨rfl,p8⟩
       have r8:=r2.aZ p8
       by_cases ic:rB L bC=true
       ·rw [if_neg (fun e=>by rw [ic] at e;cases e.2)] at bh
        simp only [go_sem,ic]
        refine ag.by (HY hL r8.nq) ?_
        rintro _ dh - ⟨rfl,j9⟩
        obtain ⟨AF,qf,cT,_,_⟩:=r8.call j9
        simp only [go_sem]
        refine ag.by (eZ cT.nq.bK) ?_
        rintro _ _ - ⟨rfl,rfl⟩
        by_cases ho:c9 (iT L bC bO).2.1=true
        ·rw [if_pos ho,q9] at bh
         obtain ⟨o1,o2,o3⟩:=HS ho
         rw [o1]
         simp only [go_sem,ho]
         have dk:=cT
         rw [o2] at dk
         rw [if_neg Bool.false_ne_true] at bh
         cases fY:ug L aU bC (iT L bC bO).2.2 bO.length with
         | none=>rw [fY] at bh;cases bh
         | some B=>
          obtain ⟨rh,eQ⟩:=B
          rw [fY] at bh
          simp only [Option.bind_some] at bh
          refine ag.by (N9 hL iW dk.nq (by rw [o3];omega) fY) ?_
          rintro _ dr - dA
          dsimp only at dA
          obtain ⟨qg,jF,dm,_,_⟩:=dk.call dA
          have KU:bO.length+1<=eQ.length:=by have:=dA.2.2.1;rw [o3] at this;exact this
          cases fl with
          | none=>
           have cA:(-1:Int) < 0:=by decide
           simp only [go_sem,e5,fV,cA]
           exact ⟨n,by omega,false,some (bO.length,bO.length),rh,eQ,qg,jF,rfl,rfl,rfl,dm,fun x hx=>by cases hx;show bO.length < eQ.length;omega,bh⟩
          | some x=>
           have cA:¬(((x.1:Nat):Int) < 0):=by omega
           have mh:=c6 x rfl
           obtain ⟨b,cs,yz,fZ,yA,ye,gK⟩:=dm.link (l:=x.2) (k:=bO.length) (by omega)
           have fx:=NR.x h hf dm b fZ
           have be:x.2 < eQ.length:=by omega
           have dK:x.2 * 20+10 < cs.length:=by omega
           have gh:x.2 * 20+10+1<=cs.length:=by omega
           simp only [go_sem,e5,e6,fV,lV,cA,yz,yA,fx,be,dK,gh,ye,eW dK]
           exact ⟨n,by omega,false,some (x.1,bO.length),rh,ku eQ x.2 bO.length,qg,jF,rfl,rfl,rfl,gK,fun y hy=>by cases hy;show bO.length < (ku eQ x.2 bO.length).length;rw [ku,List.length_set];omega,bh⟩
        ·rw [if_neg ho] at bh
         cases bh
         simp only [go_sem,ho]
         refine ag.by (qv hL cT.nq.bK) ?_
         rintro _ xE - ly
         have ie:=cT.aZ ly
         simp only [go_sem,e5]
         first | exact ⟨rfl,ie.last⟩ | exact ie.last
       ·have Fu:rB L bC=false:=by simpa using ic
        rw [if_pos ⟨q9,Fu⟩] at bh
        cases bh
        simp only [go_sem,ic]
        refine ag.by (lh r8.nq.bK) ?_
        rintro _ H9 - p9
        have r9:=r8.aZ p9
        simp only [go_sem]
        refine ag.by (qv hL r9.nq.bK) ?_
        rintro _ xE - ly
        have ie:=r9.aZ ly
        simp only [go_sem,e5]
        first | exact ⟨rfl,ie.last⟩ | exact ie.last
  ·rw [if_neg (fun e=>hb e.1)] at bh
   cases bh
   simp only [go_sem,hb]
   refine ag.by (qv hL r2.nq.bK) ?_
   rintro _ xE - ly
   have ie:=r2.aZ ly
   simp only [go_sem,e5]
   first | exact ⟨rfl,ie.last⟩ | exact ie.last
theorem YQ (hL:LG L):∀k,BH L F c1 c2 c3 q rb (C2 L k)
 | 0=>by
  intro _ he
  cases he
 | k+1=>by
  rename_i H st bW ns iv m g kind i
  intro h he
  rw [C2] at he
  dsimp only at he
  cases bh:Bb L (C2 L k) k kind 402 false none (sC L st) ns with
  | none=>rw [bh] at he;cases he
  | some R=>
   rw [bh] at he
   cases he
   exact ac7 hL (YQ hL k) h bh
end
structure bw where
 msgs:List BC:=[]
 bZ:List BE:=[]
 defs:List eo:=[]
 nodes:List aG:=[]
deriving DecidableEq
structure DF (L:List bc) (F:List Nat) (c1 c2 c3:Value) (H:ad) (q rb:Nat) (st:aE) (P:bw) (mM gM mR gR mD gD m g:List Nat):Prop where
 nq:NQ0 L F c1 c2 c3 H q rb st P.nodes m g
 hM:Gr pI 107 H c1 P.msgs mM gM
 hR:Gr qC 164 H c2 P.bZ mR gR
 hD:Gr jq 38 H c3 P.defs mD gD
 xM:∀c∈mM,(c < H.next/\c≠rb/\c≠q/\c∉F)/\(c∉mR/\c∉mD/\c∉m)/\c∉gM++(gR++(gD++g))
 xR:∀c∈mR,(c < H.next/\c≠rb/\c≠q/\c∉F)/\(c∉mM/\c∉mD/\c∉m)/\c∉gM++(gR++(gD++g))
 xD:∀c∈mD,(c < H.next/\c≠rb/\c≠q/\c∉F)/\(c∉mM/\c∉mR/\c∉m)/\c∉gM++(gR++(gD++g))
 xm:∀c∈m,(c∉mM/\c∉mR/\c∉mD)/\c∉gM++(gR++(gD++g))
 hG:∀c∈gM++(gR++gD),c < H.next/\c≠rb/\c≠q
 bM:P.msgs.length<=12
 bR:P.bZ.length<=8
 bD:P.defs.length<=16
def DQ0 (L:List bc) (F:List Nat) (H:ad) (q rb:Nat) (st:aE) (P:bw) (T G:List Nat):Prop:=
 ∃c1 c2 c3 mM gM mR gR mD gD m g,DF L F c1 c2 c3 H q rb st P mM gM mR gR mD gD m g/\T=mM++(mR++(mD++m))/\G=gM++(gR++(gD++g))
structure DQ (L:List bc) (F:List Nat) (H:ad) (q rb:Nat) (st:aE) (P:bw) (T G:List Nat):Prop where
 dq:DQ0 L F H q rb st P T G
 fz:H.fz rb=false
 fq:H.fz q=false
 fT:∀c∈T,H.fz c=false
 fn:∀b,H.next<=b->H.fz b=false
def EM (L:List bc) (F:List Nat) (H:ad) (q rb:Nat) (T G:List Nat) (bW:aE) (P':bw) (H':ad):Prop:=
 Fr (rb::q::T) H H'/\(∀c,H'.fz c=H.fz c)/\∃T' G',DQ0 L F H' q rb bW P' T' G'/\(∀c∈T',c∈T∨H.next<=c)/\∀c∈G',c∈G∨H.next<=c
theorem aaQ {c:Nat} {a b d e x:List Nat} (h:c∈(a++x)++(b++(d++e))):c∈a++(b++(d++e))∨c∈x:=by
 simp only [List.mem_append] at h ⊢
 rcases h with (h | h) | h | h | h <;> simp [h]
theorem aaR {c:Nat} {a b d e x:List Nat} (h:c∈a++((b++x)++(d++e))):c∈a++(b++(d++e))∨c∈x:=by
 simp only [List.mem_append] at h ⊢
 rcases h with h | (h | h) | h | h <;> simp [h]
theorem aaS {c:Nat} {a b d e x:List Nat} (h:c∈a++(b++((d++x)++e))):c∈a++(b++(d++e))∨c∈x:=by
 simp only [List.mem_append] at h ⊢
 rcases h with h | h | (h | h) | h <;> simp [h]
theorem ajR {c:Nat} {a b d x:List Nat} (h:c∈(a++x)++(b++d)):c∈a++(b++d)∨c∈x:=by
 simp only [List.mem_append] at h ⊢
 rcases h with (h | h) | h | h <;> simp [h]
theorem ajS {c:Nat} {a b d x:List Nat} (h:c∈a++((b++x)++d)):c∈a++(b++d)∨c∈x:=by
 simp only [List.mem_append] at h ⊢
 rcases h with h | (h | h) | h <;> simp [h]
theorem ZV {c:Nat} {a b d x:List Nat} (h:c∈a++(b++(d++x))):c∈a++(b++d)∨c∈x:=by
 simp only [List.mem_append] at h ⊢
 rcases h with h | h | h | h <;> simp [h]
theorem EZ {c:Nat} {a b d e:List Nat} (h:c∈a++(b++(d++e))):c∈a++(b++d)∨c∈e:=ZV h
theorem Di {c:Nat} {a b d e:List Nat} (h:c∈a++(b++d)):c∈a++(b++(d++e)):=by
 simp only [List.mem_append] at h ⊢
 rcases h with h | h | h <;> simp [h]
section
variable {L:List bc} {F:List Nat} {c1 c2 c3:Value} {H H1 H2 H7:ad} {q rb nb:Nat} {st cC bC:aE} {P:bw} {bk:List aG} {mM gM mR gR mD gD m g m1 g1:List Nat}
theorem DQ.post {T G:List Nat} {bW:aE} {P':bw} (h:DQ L F H q rb st P T G) (hp:EM L F H q rb T G bW P' H1):∃T' G',DQ L F H1 q rb bW P' T' G'/\(∀c∈T',c∈T∨H.next<=c)/\∀c∈G',c∈G∨H.next<=c:=by
 obtain ⟨hf,hz,T',G',h0,hs,i3⟩:=hp
 refine ⟨T',G',⟨h0,by rw [hz];exact h.fz,by rw [hz];exact h.fq,fun c hc=>?_,fun b hb=>by rw [hz];exact h.fn b (Nat.le_trans hf.nx hb)⟩,hs,i3⟩
 rw [hz]
 rcases hs c hc with e | e
 ·exact h.fT c e
 ·exact h.fn c e
theorem DF.nr (h:DF L F c1 c2 c3 H q rb st P mM gM mR gR mD gD m g) (r:NR L F c1 c2 c3 H q rb P.nodes m g H1 cC bk m1 g1):DF L F c1 c2 c3 H1 q rb cC {P with nodes:=bk} mM gM mR gR mD gD m1 g1:=by
 have dU:=r.fr.nx
 have k:∀c,c < H.next->c≠rb->c≠q->c∉m->H1.get c=H.get c:=fun c h1 h2 h3 h4=>r.fr.get c h1 (by simp only [List.mem_cons,not_or];exact ⟨h2,h3,h4⟩)
 have kM:∀c∈mM,H1.get c=H.get c:=fun c hc=>k c (h.xM c hc).1.1 (h.xM c hc).1.2.1 (h.xM c hc).1.2.2.1 (h.xM c hc).2.1.2.2
 have kR:∀c∈mR,H1.get c=H.get c:=fun c hc=>k c (h.xR c hc).1.1 (h.xR c hc).1.2.1 (h.xR c hc).1.2.2.1 (h.xR c hc).2.1.2.2
 have kD:∀c∈mD,H1.get c=H.get c:=fun c hc=>k c (h.xD c hc).1.1 (h.xD c hc).1.2.1 (h.xD c hc).1.2.2.1 (h.xD c hc).2.1.2.2
 have kG:∀c∈gM++(gR++gD),H1.get c=H.get c:=fun c hc=>k c (h.hG c hc).1 (h.hG c hc).2.1 (h.hG c hc).2.2 fun e=>(h.xm c e).2 (Di hc)
 have xx:∀{a b:List Nat} {c:Nat},(c < H.next/\c≠rb/\c≠q/\c∉F)/\(c∉a/\c∉b/\c∉m)/\c∉gM++(gR++(gD++g))->(c < H1.next/\c≠rb/\c≠q/\c∉F)/\(c∉a/\c∉b/\c∉m1)/\c∉gM++(gR++(gD++g1)):=fun {a b c} hc=>by
  refine ⟨⟨by have:=hc.1.1;omega,hc.1.2⟩,⟨hc.2.1.1,hc.2.1.2.1,fun e=>(r.sm c e).elim hc.2.1.2.2 fun e=>by have:=hc.1.1;omega⟩,fun e=>?_⟩
  simp only [List.mem_append] at e
  have hg:=hc.2.2
  simp only [List.mem_append,not_or] at hg
  rcases e with e | e | e | e
  ·exact hg.1 e
  ·exact hg.2.1 e
  ·exact hg.2.2.1 e
  ·exact (r.sg c e).elim hg.2.2.2 fun e=>by have:=hc.1.1;omega
 refine ⟨r.nq.toNQ0,h.hM.af kM fun c hc=>kG c (by simp [hc]),h.hR.af kR fun c hc=>kG c (by simp [hc]),h.hD.af kD fun c hc=>kG c (by simp [hc]),fun c hc=>xx (h.xM c hc),fun c hc=>xx (h.xR c hc),fun c hc=>xx (h.xD c hc),fun c hc=>?_,fun c hc=>⟨by have:=(h.hG c hc).1;omega,(h.hG c hc).2⟩,h.bM,h.bR,h.bD⟩
 have yY:=r.nq.hm c hc
 refine ⟨⟨fun e=>?_,fun e=>?_,fun e=>?_⟩,fun e=>?_⟩
 ·exact (xx (h.xM c e)).2.1.2.2 hc
 ·exact (xx (h.xR c e)).2.1.2.2 hc
 ·exact (xx (h.xD c e)).2.1.2.2 hc
 ·rcases EZ e with e | e
  ·rcases r.sm c hc with e' | e'
   ·exact (h.xm c e').2 (Di e)
   ·have:=(h.hG c e).1;omega
  ·exact yY.2.2.2.2 e
theorem DF.q0 (h:DF L F c1 c2 c3 H q rb st P mM gM mR gR mD gD m g):DQ0 L F H q rb st P (mM++(mR++(mD++m))) (gM++(gR++(gD++g))):=⟨_,_,_,_,_,_,_,_,_,_,_,h,rfl,rfl⟩
theorem DQ0.ai {T G:List Nat} {fz:Nat->Bool} (h:DQ0 L F H q rb st P T G):DQ0 L F (H.ai fz) q rb st P T G:=by
 obtain ⟨c1,c2,c3,mM,gM,mR,gR,mD,gD,m,g,h,rfl,rfl⟩:=h
 exact ⟨_,_,_,_,_,_,_,_,_,_,_,⟨h.nq.ai,h.hM.af (fun _ _=>rfl) (fun _ _=>rfl),h.hR.af (fun _ _=>rfl) (fun _ _=>rfl),h.hD.af (fun _ _=>rfl) (fun _ _=>rfl),h.xM,h.xR,h.xD,h.xm,h.hG,h.bM,h.bR,h.bD⟩,rfl,rfl⟩
theorem DF.alw (h:DF L F c1 c2 c3 H q rb st P mM gM mR gR mD gD m g) {v7 vN:Value} {x:BC} {g':List Nat} (hq:H.get q=some ⟨[pV rb,c1,c2,c3,vN],127,false,false⟩) (bH:Gr pI 107 H7 v7 (P.msgs++[x]) [H.next] (gM++g')) (fj:∀c∈g',(c < H.next/\c≠rb/\c≠q)/\c∉mM/\c∉mR/\c∉mD/\c∉m)
  (dx:Fr mM H H7) (ef:H7.next=H.next+1) (hb:P.msgs.length < 12):
  DF L F v7 c2 c3 (H7.ah q ⟨[pV rb,v7,c2,c3,vN],127,false,false⟩) q rb st {P with msgs:=P.msgs++[x]} [H.next] (gM++g') mR gR mD gD m g/\Fr (q::mM) H (H7.ah q ⟨[pV rb,v7,c2,c3,vN],127,false,false⟩):=by
 have mq:q∉mM:=fun e=>(h.xM q e).1.2.2.1 rfl
 have mr:rb∉mM:=fun e=>(h.xM rb e).1.2.1 rfl
 have p7:PP0 L F H7 q rb st:=h.nq.pp.fr dx mq mr fun c hc e=>(h.xM c e).1.2.2.2 hc
 have PK:=h.nq.pp.ql
 have qe:=h.nq.pp.rl
 have k:∀c,c < H.next->c∉mM->c≠q->(H7.ah q ⟨[pV rb,v7,c2,c3,vN],127,false,false⟩).get c=H.get c:=fun c h1 h2 h3=>by rw [az,if_neg h3];exact dx.get c h1 h2
 have kG:∀c∈gM++(gR++(gD++g)),c < H.next/\c≠q->(H7.ah q ⟨[pV rb,v7,c2,c3,vN],127,false,false⟩).get c=H.get c:=fun c hc e=>k c e.1 (fun e'=>(h.xM c e').2.2 hc) e.2
 have g3:∀c∈gM++(gR++gD),c∈gM++(gR++(gD++g)):=fun c hc=>Di hc
 obtain ⟨P5,mo,cB⟩:=h.nq.row
 rw [hq] at mo
 cases mo
 have Lh:Fr (q::mM) H (H7.ah q ⟨[pV rb,v7,c2,c3,vN],127,false,false⟩):=(dx.sub fun c hc=>.inl (by simp [hc])).ah (.inl (by simp)) _
 have nx:(H7.ah q ⟨[pV rb,v7,c2,c3,vN],127,false,false⟩).next=H.next+1:=ef
 have ri:∀{c:Nat},c∉gM++(gR++(gD++g))->c∉g'->c∉(gM++g')++(gR++(gD++g)):=fun {c} h1 h2 e=>by
  exact (aaQ e).elim h1 h2
 have fresh:(H.next∉(gM++g')++(gR++(gD++g))):=ri (fun e=>by
  rcases EZ e with e | e
  ·have:=(h.hG _ e).1;omega
  ·have:=(h.nq.hg _ e).1;omega) (fun e=>by have:=(fj _ e).1.1;omega)
 refine ⟨⟨⟨p7.IN,⟨vN,by rw [az,if_pos rfl],cB.af (fun c hc=>k c (h.nq.hm c hc).1 (fun e=>(h.xm c hc).1.1 e) (h.nq.hm c hc).2.2.1) (fun c hc=>kG c (by simp [hc]) ⟨(h.nq.hg c hc).1,(h.nq.hg c hc).2.2⟩)⟩,fun c hc=>⟨by have:=(h.nq.hm c hc).1;rw [nx];omega,(h.nq.hm c hc).2⟩,fun c hc=>⟨by have:=(h.nq.hg c hc).1;rw [nx];omega,(h.nq.hg c hc).2⟩,h.nq.hn⟩,
  bH.af (fun c hc=>by rw [List.mem_singleton] at hc;rw [az,if_neg (by omega)]) (fun c hc=>by rw [az,if_neg];rcases List.mem_append.1 hc with e | e;exact (h.hG c (by simp [e])).2.2;exact (fj c e).1.2.2),
  h.hR.af (fun c hc=>k c (h.xR c hc).1.1 (h.xR c hc).2.1.1 (h.xR c hc).1.2.2.1) (fun c hc=>kG c (g3 c (by simp [hc])) ⟨(h.hG c (by simp [hc])).1,(h.hG c (by simp [hc])).2.2⟩),
  h.hD.af (fun c hc=>k c (h.xD c hc).1.1 (h.xD c hc).2.1.1 (h.xD c hc).1.2.2.1) (fun c hc=>kG c (g3 c (by simp [hc])) ⟨(h.hG c (by simp [hc])).1,(h.hG c (by simp [hc])).2.2⟩),
  fun c hc=>by
   rw [List.mem_singleton] at hc
   subst hc
   exact ⟨⟨by rw [nx];omega,by omega,by omega,fun e=>by have:=(h.nq.pp.hF _ e).1;omega⟩,⟨fun e=>by have:=(h.xR _ e).1.1;omega,fun e=>by have:=(h.xD _ e).1.1;omega,fun e=>by have:=(h.nq.hm _ e).1;omega⟩,fresh⟩,
  fun c hc=>⟨⟨by have:=(h.xR c hc).1.1;rw [nx];omega,(h.xR c hc).1.2⟩,⟨fun e=>by rw [List.mem_singleton] at e;have:=(h.xR c hc).1.1;omega,(h.xR c hc).2.1.2.1,(h.xR c hc).2.1.2.2⟩,ri (h.xR c hc).2.2 fun e=>(fj c e).2.2.1 hc⟩,
  fun c hc=>⟨⟨by have:=(h.xD c hc).1.1;rw [nx];omega,(h.xD c hc).1.2⟩,⟨fun e=>by rw [List.mem_singleton] at e;have:=(h.xD c hc).1.1;omega,(h.xD c hc).2.1.2.1,(h.xD c hc).2.1.2.2⟩,ri (h.xD c hc).2.2 fun e=>(fj c e).2.2.2.1 hc⟩,
  fun c hc=>⟨⟨fun e=>by rw [List.mem_singleton] at e;have:=(h.nq.hm c hc).1;omega,(h.xm c hc).1.2.1,(h.xm c hc).1.2.2⟩,ri (h.xm c hc).2 fun e=>(fj c e).2.2.2.2 hc⟩,
  fun c hc=>?_,by rw [List.length_append,List.length_singleton];omega,h.bR,h.bD⟩,Lh⟩
 rw [nx]
 have sY:c∈gM++(gR++gD)∨c∈g':=ajR hc
 rcases sY with e | e
 ·have:=h.hG c e;exact ⟨by omega,this.2⟩
 ·have:=(fj c e).1;exact ⟨by omega,this.2⟩
theorem DF.alx (h:DF L F c1 c2 c3 H q rb st P mM gM mR gR mD gD m g) {v7 vN:Value} {x:BE} {g':List Nat} (hq:H.get q=some ⟨[pV rb,c1,c2,c3,vN],127,false,false⟩) (bH:Gr qC 164 H7 v7 (P.bZ++[x]) [H.next] (gR++g')) (fj:∀c∈g',(c < H.next/\c≠rb/\c≠q)/\c∉mM/\c∉mR/\c∉mD/\c∉m)
  (dx:Fr mR H H7) (ef:H7.next=H.next+1) (hb:P.bZ.length < 8):
  DF L F c1 v7 c3 (H7.ah q ⟨[pV rb,c1,v7,c3,vN],127,false,false⟩) q rb st {P with bZ:=P.bZ++[x]} mM gM [H.next] (gR++g') mD gD m g/\Fr (q::mR) H (H7.ah q ⟨[pV rb,c1,v7,c3,vN],127,false,false⟩):=by
 have mq:q∉mR:=fun e=>(h.xR q e).1.2.2.1 rfl
 have mr:rb∉mR:=fun e=>(h.xR rb e).1.2.1 rfl
 have p7:PP0 L F H7 q rb st:=h.nq.pp.fr dx mq mr fun c hc e=>(h.xR c e).1.2.2.2 hc
 have PK:=h.nq.pp.ql
 have qe:=h.nq.pp.rl
 have k:∀c,c < H.next->c∉mR->c≠q->(H7.ah q ⟨[pV rb,c1,v7,c3,vN],127,false,false⟩).get c=H.get c:=fun c h1 h2 h3=>by rw [az,if_neg h3];exact dx.get c h1 h2
 have kG:∀c∈gM++(gR++(gD++g)),c < H.next/\c≠q->(H7.ah q ⟨[pV rb,c1,v7,c3,vN],127,false,false⟩).get c=H.get c:=fun c hc e=>k c e.1 (fun e'=>(h.xR c e').2.2 hc) e.2
 have g3:∀c∈gM++(gR++gD),c∈gM++(gR++(gD++g)):=fun c hc=>Di hc
 obtain ⟨P5,mo,cB⟩:=h.nq.row
 rw [hq] at mo
 cases mo
 have Lh:Fr (q::mR) H (H7.ah q ⟨[pV rb,c1,v7,c3,vN],127,false,false⟩):=(dx.sub fun c hc=>.inl (by simp [hc])).ah (.inl (by simp)) _
 have nx:(H7.ah q ⟨[pV rb,c1,v7,c3,vN],127,false,false⟩).next=H.next+1:=ef
 have ri:∀{c:Nat},c∉gM++(gR++(gD++g))->c∉g'->c∉gM++((gR++g')++(gD++g)):=fun {c} h1 h2 e=>by
  exact (aaR e).elim h1 h2
 have fresh:(H.next∉gM++((gR++g')++(gD++g))):=ri (fun e=>by
  rcases EZ e with e | e
  ·have:=(h.hG _ e).1;omega
  ·have:=(h.nq.hg _ e).1;omega) (fun e=>by have:=(fj _ e).1.1;omega)
 refine ⟨⟨⟨p7.IN,⟨vN,by rw [az,if_pos rfl],cB.af (fun c hc=>k c (h.nq.hm c hc).1 (fun e=>(h.xm c hc).1.2.1 e) (h.nq.hm c hc).2.2.1) (fun c hc=>kG c (by simp [hc]) ⟨(h.nq.hg c hc).1,(h.nq.hg c hc).2.2⟩)⟩,fun c hc=>⟨by have:=(h.nq.hm c hc).1;rw [nx];omega,(h.nq.hm c hc).2⟩,fun c hc=>⟨by have:=(h.nq.hg c hc).1;rw [nx];omega,(h.nq.hg c hc).2⟩,h.nq.hn⟩,
  h.hM.af (fun c hc=>k c (h.xM c hc).1.1 (h.xM c hc).2.1.1 (h.xM c hc).1.2.2.1) (fun c hc=>kG c (g3 c (by simp [hc])) ⟨(h.hG c (by simp [hc])).1,(h.hG c (by simp [hc])).2.2⟩),
  bH.af (fun c hc=>by rw [List.mem_singleton] at hc;rw [az,if_neg (by omega)]) (fun c hc=>by rw [az,if_neg];rcases List.mem_append.1 hc with e | e;exact (h.hG c (by simp [e])).2.2;exact (fj c e).1.2.2),
  h.hD.af (fun c hc=>k c (h.xD c hc).1.1 (h.xD c hc).2.1.2.1 (h.xD c hc).1.2.2.1) (fun c hc=>kG c (g3 c (by simp [hc])) ⟨(h.hG c (by simp [hc])).1,(h.hG c (by simp [hc])).2.2⟩),
  fun c hc=>⟨⟨by have:=(h.xM c hc).1.1;rw [nx];omega,(h.xM c hc).1.2⟩,⟨fun e=>by rw [List.mem_singleton] at e;have:=(h.xM c hc).1.1;omega,(h.xM c hc).2.1.2.1,(h.xM c hc).2.1.2.2⟩,ri (h.xM c hc).2.2 fun e=>(fj c e).2.1 hc⟩,
  fun c hc=>by
   rw [List.mem_singleton] at hc
   subst hc
   exact ⟨⟨by rw [nx];omega,by omega,by omega,fun e=>by have:=(h.nq.pp.hF _ e).1;omega⟩,⟨fun e=>by have:=(h.xM _ e).1.1;omega,fun e=>by have:=(h.xD _ e).1.1;omega,fun e=>by have:=(h.nq.hm _ e).1;omega⟩,fresh⟩,
  fun c hc=>⟨⟨by have:=(h.xD c hc).1.1;rw [nx];omega,(h.xD c hc).1.2⟩,⟨(h.xD c hc).2.1.1,fun e=>by rw [List.mem_singleton] at e;have:=(h.xD c hc).1.1;omega,(h.xD c hc).2.1.2.2⟩,ri (h.xD c hc).2.2 fun e=>(fj c e).2.2.2.1 hc⟩,
  fun c hc=>⟨⟨(h.xm c hc).1.1,fun e=>by rw [List.mem_singleton] at e;have:=(h.nq.hm c hc).1;omega,(h.xm c hc).1.2.2⟩,ri (h.xm c hc).2 fun e=>(fj c e).2.2.2.2 hc⟩,
  fun c hc=>?_,h.bM,by rw [List.length_append,List.length_singleton];omega,h.bD⟩,Lh⟩
 rw [nx]
 have sY:c∈gM++(gR++gD)∨c∈g':=ajS hc
 rcases sY with e | e
 ·have:=h.hG c e;exact ⟨by omega,this.2⟩
 ·have:=(fj c e).1;exact ⟨by omega,this.2⟩
theorem DF.aly (h:DF L F c1 c2 c3 H q rb st P mM gM mR gR mD gD m g) {v7 vN:Value} {x:eo} {g':List Nat} (hq:H.get q=some ⟨[pV rb,c1,c2,c3,vN],127,false,false⟩) (bH:Gr jq 38 H7 v7 (P.defs++[x]) [H.next] (gD++g')) (fj:∀c∈g',(c < H.next/\c≠rb/\c≠q)/\c∉mM/\c∉mR/\c∉mD/\c∉m)
  (dx:Fr mD H H7) (ef:H7.next=H.next+1) (hb:P.defs.length < 16):
  DF L F c1 c2 v7 (H7.ah q ⟨[pV rb,c1,c2,v7,vN],127,false,false⟩) q rb st {P with defs:=P.defs++[x]} mM gM mR gR [H.next] (gD++g') m g/\Fr (q::mD) H (H7.ah q ⟨[pV rb,c1,c2,v7,vN],127,false,false⟩):=by
 have mq:q∉mD:=fun e=>(h.xD q e).1.2.2.1 rfl
 have mr:rb∉mD:=fun e=>(h.xD rb e).1.2.1 rfl
 have p7:PP0 L F H7 q rb st:=h.nq.pp.fr dx mq mr fun c hc e=>(h.xD c e).1.2.2.2 hc
 have PK:=h.nq.pp.ql
 have qe:=h.nq.pp.rl
 have k:∀c,c < H.next->c∉mD->c≠q->(H7.ah q ⟨[pV rb,c1,c2,v7,vN],127,false,false⟩).get c=H.get c:=fun c h1 h2 h3=>by rw [az,if_neg h3];exact dx.get c h1 h2
 have kG:∀c∈gM++(gR++(gD++g)),c < H.next/\c≠q->(H7.ah q ⟨[pV rb,c1,c2,v7,vN],127,false,false⟩).get c=H.get c:=fun c hc e=>k c e.1 (fun e'=>(h.xD c e').2.2 hc) e.2
 have g3:∀c∈gM++(gR++gD),c∈gM++(gR++(gD++g)):=fun c hc=>Di hc
 obtain ⟨P5,mo,cB⟩:=h.nq.row
 rw [hq] at mo
 cases mo
 have Lh:Fr (q::mD) H (H7.ah q ⟨[pV rb,c1,c2,v7,vN],127,false,false⟩):=(dx.sub fun c hc=>.inl (by simp [hc])).ah (.inl (by simp)) _
 have nx:(H7.ah q ⟨[pV rb,c1,c2,v7,vN],127,false,false⟩).next=H.next+1:=ef
 have ri:∀{c:Nat},c∉gM++(gR++(gD++g))->c∉g'->c∉gM++(gR++((gD++g')++g)):=fun {c} h1 h2 e=>by
  exact (aaS e).elim h1 h2
 have fresh:(H.next∉gM++(gR++((gD++g')++g))):=ri (fun e=>by
  rcases EZ e with e | e
  ·have:=(h.hG _ e).1;omega
  ·have:=(h.nq.hg _ e).1;omega) (fun e=>by have:=(fj _ e).1.1;omega)
 refine ⟨⟨⟨p7.IN,⟨vN,by rw [az,if_pos rfl],cB.af (fun c hc=>k c (h.nq.hm c hc).1 (fun e=>(h.xm c hc).1.2.2 e) (h.nq.hm c hc).2.2.1) (fun c hc=>kG c (by simp [hc]) ⟨(h.nq.hg c hc).1,(h.nq.hg c hc).2.2⟩)⟩,fun c hc=>⟨by have:=(h.nq.hm c hc).1;rw [nx];omega,(h.nq.hm c hc).2⟩,fun c hc=>⟨by have:=(h.nq.hg c hc).1;rw [nx];omega,(h.nq.hg c hc).2⟩,h.nq.hn⟩,
  h.hM.af (fun c hc=>k c (h.xM c hc).1.1 (h.xM c hc).2.1.2.1 (h.xM c hc).1.2.2.1) (fun c hc=>kG c (g3 c (by simp [hc])) ⟨(h.hG c (by simp [hc])).1,(h.hG c (by simp [hc])).2.2⟩),
  h.hR.af (fun c hc=>k c (h.xR c hc).1.1 (h.xR c hc).2.1.2.1 (h.xR c hc).1.2.2.1) (fun c hc=>kG c (g3 c (by simp [hc])) ⟨(h.hG c (by simp [hc])).1,(h.hG c (by simp [hc])).2.2⟩),
  bH.af (fun c hc=>by rw [List.mem_singleton] at hc;rw [az,if_neg (by omega)]) (fun c hc=>by rw [az,if_neg];rcases List.mem_append.1 hc with e | e;exact (h.hG c (by simp [e])).2.2;exact (fj c e).1.2.2),
  fun c hc=>⟨⟨by have:=(h.xM c hc).1.1;rw [nx];omega,(h.xM c hc).1.2⟩,⟨(h.xM c hc).2.1.1,fun e=>by rw [List.mem_singleton] at e;have:=(h.xM c hc).1.1;omega,(h.xM c hc).2.1.2.2⟩,ri (h.xM c hc).2.2 fun e=>(fj c e).2.1 hc⟩,
  fun c hc=>⟨⟨by have:=(h.xR c hc).1.1;rw [nx];omega,(h.xR c hc).1.2⟩,⟨(h.xR c hc).2.1.1,fun e=>by rw [List.mem_singleton] at e;have:=(h.xR c hc).1.1;omega,(h.xR c hc).2.1.2.2⟩,ri (h.xR c hc).2.2 fun e=>(fj c e).2.2.1 hc⟩,
  fun c hc=>by
   rw [List.mem_singleton] at hc
   subst hc
   exact ⟨⟨by rw [nx];omega,by omega,by omega,fun e=>by have:=(h.nq.pp.hF _ e).1;omega⟩,⟨fun e=>by have:=(h.xM _ e).1.1;omega,fun e=>by have:=(h.xR _ e).1.1;omega,fun e=>by have:=(h.nq.hm _ e).1;omega⟩,fresh⟩,
  fun c hc=>⟨⟨(h.xm c hc).1.1,(h.xm c hc).1.2.1,fun e=>by rw [List.mem_singleton] at e;have:=(h.nq.hm c hc).1;omega⟩,ri (h.xm c hc).2 fun e=>(fj c e).2.2.2.2 hc⟩,
  fun c hc=>?_,h.bM,h.bR,by rw [List.length_append,List.length_singleton];omega⟩,Lh⟩
 rw [nx]
 have sY:c∈gM++(gR++gD)∨c∈g':=ZV hc
 rcases sY with e | e
 ·have:=h.hG c e;exact ⟨by omega,this.2⟩
 ·have:=(fj c e).1;exact ⟨by omega,this.2⟩
end
section
variable {L:List bc} {F:List Nat} {c1 c2 c3:Value} {H H1 H2 H3 H6 H7:ad} {q rb nb:Nat} {st cC bC eO:aE} {P:bw} {bk zg:List aG} {mM gM mR gR mD gD m g m1 g1 m2 g2 m3 g3 m6 g6:List Nat}
theorem DF.alz (h:DF L F c1 c2 c3 H q rb st P mM gM mR gR mD gD m g) (r:NR L F c1 c2 c3 H q rb P.nodes m g H6 eO zg m6 g6) {v7 vN:Value} {x:BC} {g':List Nat} (hq:H6.get q=some ⟨[pV rb,c1,c2,c3,vN],127,false,false⟩) (bH:Gr pI 107 H7 v7 (P.msgs++[x]) [H6.next] (gM++g')) (fj:∀c∈g',eg H H6 m6 g6 c)
  (dx:Fr mM H6 H7) (ef:H7.next=H6.next+1) (hb:P.msgs.length < 12):
  EM L F H q rb (mM++(mR++(mD++m))) (gM++(gR++(gD++g))) eO {P with nodes:=zg,msgs:=P.msgs++[x]} ((H7.ah q ⟨[pV rb,v7,c2,c3,vN],127,false,false⟩).ai H.fz):=by
 have d:=h.nr r
 have dU:=r.fr.nx
 obtain ⟨d8,f8⟩:=d.alw hq bH (fun c hc=>by
  have hm:=fj c hc
  obtain ⟨e1,e2,e3⟩:=h.nq.pp.fresh hm.1
  have:=hm.1
  exact ⟨⟨hm.2.1,e2,e1⟩,fun e=>by have:=(h.xM c e).1.1;omega,fun e=>by have:=(h.xR c e).1.1;omega,fun e=>by have:=(h.xD c e).1.1;omega,hm.2.2.1⟩) dx ef hb
 have f6:Fr (rb::q::(mM++(mR++(mD++m)))) H H6:=r.fr.sub fun c hc=>.inl (by
  simp only [List.mem_cons,List.mem_append] at hc ⊢
  rcases hc with e | e | e <;> simp [e])
 have Mo:Fr (rb::q::(mM++(mR++(mD++m)))) H6 (H7.ah q ⟨[pV rb,v7,c2,c3,vN],127,false,false⟩):=f8.sub fun c hc=>.inl (by
  simp only [List.mem_cons,List.mem_append] at hc ⊢
  rcases hc with e | e <;> simp [e])
 refine ⟨(f6.then Mo).ai _,fun _=>rfl,_,_,d8.q0.ai,fun c hc=>?_,fun c hc=>?_⟩
 ·simp only [List.mem_append,List.mem_singleton] at hc ⊢
  rcases hc with e | e | e | e
  ·exact .inr (by omega)
  ·exact .inl (by simp [e])
  ·exact .inl (by simp [e])
  ·exact (r.sm c e).imp (fun e=>by simp [e]) id
 ·rcases aaQ hc with e | e
  ·rcases EZ e with e | e
   ·exact .inl (Di e)
   ·exact (r.sg c e).imp (fun e=>by simp [e]) id
  ·exact .inr (fj c e).1
theorem DF.alB (h:DF L F c1 c2 c3 H q rb st P mM gM mR gR mD gD m g) (r:NR L F c1 c2 c3 H q rb P.nodes m g H6 eO zg m6 g6) {v7 vN:Value} {x:BE} {g':List Nat} (hq:H6.get q=some ⟨[pV rb,c1,c2,c3,vN],127,false,false⟩) (bH:Gr qC 164 H7 v7 (P.bZ++[x]) [H6.next] (gR++g')) (fj:∀c∈g',eg H H6 m6 g6 c)
  (dx:Fr mR H6 H7) (ef:H7.next=H6.next+1) (hb:P.bZ.length < 8):
  EM L F H q rb (mM++(mR++(mD++m))) (gM++(gR++(gD++g))) eO {P with nodes:=zg,bZ:=P.bZ++[x]} ((H7.ah q ⟨[pV rb,c1,v7,c3,vN],127,false,false⟩).ai H.fz):=by
 have d:=h.nr r
 have dU:=r.fr.nx
 obtain ⟨d8,f8⟩:=d.alx hq bH (fun c hc=>by
  have hm:=fj c hc
  obtain ⟨e1,e2,e3⟩:=h.nq.pp.fresh hm.1
  have:=hm.1
  exact ⟨⟨hm.2.1,e2,e1⟩,fun e=>by have:=(h.xM c e).1.1;omega,fun e=>by have:=(h.xR c e).1.1;omega,fun e=>by have:=(h.xD c e).1.1;omega,hm.2.2.1⟩) dx ef hb
 have f6:Fr (rb::q::(mM++(mR++(mD++m)))) H H6:=r.fr.sub fun c hc=>.inl (by
  simp only [List.mem_cons,List.mem_append] at hc ⊢
  rcases hc with e | e | e <;> simp [e])
 have Mo:Fr (rb::q::(mM++(mR++(mD++m)))) H6 (H7.ah q ⟨[pV rb,c1,v7,c3,vN],127,false,false⟩):=f8.sub fun c hc=>.inl (by
  simp only [List.mem_cons,List.mem_append] at hc ⊢
  rcases hc with e | e <;> simp [e])
 refine ⟨(f6.then Mo).ai _,fun _=>rfl,_,_,d8.q0.ai,fun c hc=>?_,fun c hc=>?_⟩
 ·simp only [List.mem_append,List.mem_singleton] at hc ⊢
  rcases hc with e | e | e | e
  ·exact .inl (by simp [e])
  ·exact .inr (by omega)
  ·exact .inl (by simp [e])
  ·exact (r.sm c e).imp (fun e=>by simp [e]) id
 ·rcases aaR hc with e | e
  ·rcases EZ e with e | e
   ·exact .inl (Di e)
   ·exact (r.sg c e).imp (fun e=>by simp [e]) id
  ·exact .inr (fj c e).1
theorem DF.OY (h:DF L F c1 c2 c3 H q rb st P mM gM mR gR mD gD m g) (r:NR L F c1 c2 c3 H q rb P.nodes m g H6 eO zg m6 g6) {v7 vN:Value} {x:eo} {g':List Nat} (hq:H6.get q=some ⟨[pV rb,c1,c2,c3,vN],127,false,false⟩) (bH:Gr jq 38 H7 v7 (P.defs++[x]) [H6.next] (gD++g')) (fj:∀c∈g',eg H H6 m6 g6 c)
  (dx:Fr mD H6 H7) (ef:H7.next=H6.next+1) (hb:P.defs.length < 16):
  EM L F H q rb (mM++(mR++(mD++m))) (gM++(gR++(gD++g))) eO {P with nodes:=zg,defs:=P.defs++[x]} ((H7.ah q ⟨[pV rb,c1,c2,v7,vN],127,false,false⟩).ai H.fz):=by
 have d:=h.nr r
 have dU:=r.fr.nx
 obtain ⟨d8,f8⟩:=d.aly hq bH (fun c hc=>by
  have hm:=fj c hc
  obtain ⟨e1,e2,e3⟩:=h.nq.pp.fresh hm.1
  have:=hm.1
  exact ⟨⟨hm.2.1,e2,e1⟩,fun e=>by have:=(h.xM c e).1.1;omega,fun e=>by have:=(h.xR c e).1.1;omega,fun e=>by have:=(h.xD c e).1.1;omega,hm.2.2.1⟩) dx ef hb
 have f6:Fr (rb::q::(mM++(mR++(mD++m)))) H H6:=r.fr.sub fun c hc=>.inl (by
  simp only [List.mem_cons,List.mem_append] at hc ⊢
  rcases hc with e | e | e <;> simp [e])
 have Mo:Fr (rb::q::(mM++(mR++(mD++m)))) H6 (H7.ah q ⟨[pV rb,c1,c2,v7,vN],127,false,false⟩):=f8.sub fun c hc=>.inl (by
  simp only [List.mem_cons,List.mem_append] at hc ⊢
  rcases hc with e | e <;> simp [e])
 refine ⟨(f6.then Mo).ai _,fun _=>rfl,_,_,d8.q0.ai,fun c hc=>?_,fun c hc=>?_⟩
 ·simp only [List.mem_append,List.mem_singleton] at hc ⊢
  rcases hc with e | e | e | e
  ·exact .inl (by simp [e])
  ·exact .inl (by simp [e])
  ·exact .inr (by omega)
  ·exact (r.sm c e).imp (fun e=>by simp [e]) id
 ·rcases aaS hc with e | e
  ·rcases EZ e with e | e
   ·exact .inl (Di e)
   ·exact (r.sg c e).imp (fun e=>by simp [e]) id
  ·exact .inr (fj c e).1
abbrev dP (d:eo) (vF vP vO:Value):List Value:=[ae d.name,vF,iV d.aY,iV d.body,iV d.line,iV d.aj,.bool d.sy,vP,vO]
structure DB (H H2:ad) (m2 g2:List Nat) (bd:Nat) (d:eo) (vF vP vO:Value) (gF gP mB gB:List Nat):Prop where
 hb:H2.get bd=some ⟨dP d vF vP vO,38,false,false⟩
 gV:∀c∈gF++(gP++(mB++gB)),eg H H2 m2 g2 c/\c≠bd
 mb:eg H H2 m2 g2 bd
 sF:Sl lH H2 vF d.params gF
 sP:Sl fJ H2 vP d.pat gP
 gO:Gr dG 52 H2 vO d.on mB gB
 Gp:∀c∈mB,c∉gF/\c∉gP
theorem DB.af {bd:Nat} {d:eo} {vF vP vO:Value} {gF gP mB gB M:List Nat} (h:DB H H2 m2 g2 bd d vF vP vO gF gP mB gB) (hf:Fr M H2 H3) (hM:∀c,eg H H2 m2 g2 c->c∉M) (hm:∀c∈m3,c∈m2∨H2.next<=c) (hg:∀c∈g3,c∈g2∨H2.next<=c):DB H H3 m3 g3 bd d vF vP vO gF gP mB gB:=by
 have k:∀c,eg H H2 m2 g2 c->H3.get c=H2.get c:=fun c hc=>hf.get c hc.2.1 (hM c hc)
 exact ⟨(k bd h.mb).trans h.hb,fun c hc=>⟨(h.gV c hc).1.next hf.nx hm hg,(h.gV c hc).2⟩,h.mb.next hf.nx hm hg,h.sF.af fun c hc=>k c (h.gV c (by simp [hc])).1,h.sP.af fun c hc=>k c (h.gV c (by simp [hc])).1,h.gO.af (fun c hc=>k c (h.gV c (by simp [hc])).1) (fun c hc=>k c (h.gV c (by simp [hc])).1),h.Gp⟩
theorem DB.ZW {bd b:Nat} {d:eo} {vF vP vO:Value} {gF gP mB gB:List Nat} (h:DB H H2 m2 g2 bd d vF vP vO gF gP mB gB) (B:cw) (h1:b≠bd) (h2:b∉gF++(gP++(mB++gB))):DB H (H2.ah b B) m2 g2 bd d vF vP vO gF gP mB gB:=by
 have k:∀c,c≠b->(H2.ah b B).get c=H2.get c:=fun c hc=>by rw [az,if_neg hc]
 have k':∀c∈gF++(gP++(mB++gB)),(H2.ah b B).get c=H2.get c:=fun c hc=>k c fun e=>h2 (e▸hc)
 exact ⟨(k bd h1.symm).trans h.hb,h.gV,h.mb,h.sF.af fun c hc=>k' c (by simp [hc]),h.sP.af fun c hc=>k' c (by simp [hc]),h.gO.af (fun c hc=>k' c (by simp [hc])) (fun c hc=>k' c (by simp [hc])),h.Gp⟩
theorem DB.push {bd:Nat} {d:eo} {vF vP vO:Value} {gF gP mB gB:List Nat} (h:DB H H2 m2 g2 bd d vF vP vO gF gP mB gB) (B:cw) (hB:B.ro=false:=by rfl):DB H (H2.push B) m2 g2 bd d vF vP vO gF gP mB gB:=h.af ((ba.push H2 B hB).fr []) (by simp) (fun _ h=>.inl h) (fun _ h=>.inl h)
theorem DB.put {bd:Nat} {d d':eo} {vF vP vO D4 ph D5:Value} {gF gP mB gB Cn sf Co D6:List Nat} (h:DB H H2 m2 g2 bd d vF vP vO gF gP mB gB) (gV:∀c∈Cn++(sf++(Co++D6)),eg H H2 m2 g2 c/\c≠bd) (sF:Sl lH H2 D4 d'.params Cn) (sP:Sl fJ H2 ph d'.pat sf) (gO:Gr dG 52 H2 D5 d'.on Co D6) (Gp:∀c∈Co,c∉Cn/\c∉sf):
  DB H (H2.ah bd ⟨dP d' D4 ph D5,38,false,false⟩) m2 g2 bd d' D4 ph D5 Cn sf Co D6:=by
 have k:∀c∈Cn++(sf++(Co++D6)),(H2.ah bd ⟨dP d' D4 ph D5,38,false,false⟩).get c=H2.get c:=fun c hc=>by rw [az,if_neg (gV c hc).2]
 exact ⟨by rw [az,if_pos rfl],gV,h.mb,sF.af fun c hc=>k c (by simp [hc]),sP.af fun c hc=>k c (by simp [hc]),gO.af (fun c hc=>k c (by simp [hc])) (fun c hc=>k c (by simp [hc])),Gp⟩
theorem DB.app {bd:Nat} {d:eo} {vF vP vO v7:Value} {x:eY} {gF gP mB gB gN:List Nat} (h:DB H H6 m2 g2 bd d vF vP vO gF gP mB gB) (hn:H.next<=H6.next) (Cp:∀c∈m2,c < H6.next) (hg6:∀c∈g2,c < H6.next) (bH:Gr dG 52 H7 v7 (d.on++[x]) [H6.next] (gB++gN)) (dx:Fr mB H6 H7) (ef:H7.next=H6.next+1) (lY:∀c∈gN,eg H H6 m2 g2 c/\c≠bd):
  DB H (H7.ah bd ⟨dP {d with on:=d.on++[x]} vF vP v7,38,false,false⟩) m2 g2 bd {d with on:=d.on++[x]} vF vP v7 gF gP [H6.next] (gB++gN):=by
 have hbB:bd∉mB:=fun e=>(h.gV bd (by simp [e])).2 rfl
 have mm:∀{c:Nat},eg H H6 m2 g2 c->eg H H7 m2 g2 c:=fun hc=>hc.mono (by omega)
 have k:∀c,eg H H6 m2 g2 c->c∉mB->H7.get c=H6.get c:=fun c hc hn=>dx.get c hc.2.1 hn
 have h':(∀c∈gF++(gP++([H6.next]++(gB++gN))),eg H H7 m2 g2 c/\c≠bd)/\eg H H7 m2 g2 bd/\Sl lH H7 vF d.params gF/\Sl fJ H7 vP d.pat gP/\Gr dG 52 H7 v7 (d.on++[x]) [H6.next] (gB++gN)/\∀c∈[H6.next],c∉gF/\c∉gP:=by
  refine ⟨fun c hc=>?_,mm h.mb,h.sF.af fun c hc=>k c (h.gV c (by simp [hc])).1 fun e=>(h.Gp c e).1 hc,h.sP.af fun c hc=>k c (h.gV c (by simp [hc])).1 fun e=>(h.Gp c e).2 hc,bH,fun c hc=>?_⟩
  ·simp only [List.mem_append,List.mem_singleton] at hc
   rcases hc with e | e | e | e | e
   ·exact ⟨mm (h.gV c (by simp [e])).1,(h.gV c (by simp [e])).2⟩
   ·exact ⟨mm (h.gV c (by simp [e])).1,(h.gV c (by simp [e])).2⟩
   ·subst e
    exact ⟨⟨hn,by omega,fun e=>by have:=Cp _ e;omega,fun e=>by have:=hg6 _ e;omega⟩,by have:=h.mb.2.1;omega⟩
   ·exact ⟨mm (h.gV c (by simp [e])).1,(h.gV c (by simp [e])).2⟩
   ·exact ⟨mm (lY c e).1,(lY c e).2⟩
  ·rw [List.mem_singleton] at hc
   subst hc
   exact ⟨fun e=>by have:=(h.gV _ (List.mem_append_left _ e)).1.2.1;omega,fun e=>by have:=(h.gV H6.next (by simp [e])).1.2.1;omega⟩
 obtain ⟨e1,e2,e3,e4,e5,e6⟩:=h'
 have kk:∀c∈gF++(gP++([H6.next]++(gB++gN))),(H7.ah bd ⟨dP {d with on:=d.on++[x]} vF vP v7,38,false,false⟩).get c=H7.get c:=fun c hc=>by rw [az,if_neg (e1 c hc).2]
 exact ⟨by rw [az,if_pos rfl],e1,e2,e3.af fun c hc=>kk c (by simp [hc]),e4.af fun c hc=>kk c (by simp [hc]),e5.af (fun c hc=>kk c (List.mem_append_right _ (List.mem_append_right _ (List.mem_append_left _ hc)))) (fun c hc=>kk c (List.mem_append_right _ (List.mem_append_right _ (List.mem_append_right _ hc)))),e6⟩
end
section
variable {L:List bc} {F:List Nat} {c1 c2 c3:Value} {H H1 H2 H3 H6 H7:ad} {q rb nb:Nat} {st cC bC eO:aE} {P:bw} {ns bk bO zg:List aG} {mM gM mR gR mD gD m g m1 g1 m2 g2 m3 g3 m6 g6:List Nat}
theorem DF.Ml (h:DF L F c1 c2 c3 H q rb st P mM gM mR gR mD gD m g) (fz:H.fz rb=false) (fq:H.fz q=false) (fT:∀c∈mM++(mR++(mD++m)),H.fz c=false) (fn:∀b,H.next<=b->H.fz b=false):NQ L F c1 c2 c3 H q rb st P.nodes m g:={h.nq with fz:=fz,fq:=fq,fm:=fun c hc=>fT c (by simp [hc]),fn:=fn}
def Mp (L:List bc) (aU:lx):Nat->aE->List aG->List eY->Option (aE × List aG × List eY)
 | 0,_,_,_=>none
 | k+1,s,ns,l=>
  if c9 s=true/\cP L [111,110] s=true then
   (if 12 < l.length then some (eX 3 s,ns,l)
   else (aU 0 ((zU L (cu L (aC s)).2).2,ns)).bind fun x=>Mp L aU k x.2.1 x.2.2 (l++[⟨0,0,x.1,(cu L (aC s)).1,[],[],(zU L (cu L (aC s)).2).1⟩]))
  else some (s,ns,l)
def Li (L:List bc) (aU:lx) (fuel:Nat) (st:aE) (ns:List aG):Option (aE × List aG × eo):=
 (HR L fuel (cu L (aC st)).2).bind fun f=>
  if cP L [97,99,116,111,114] st=true then
   (BF L fuel (dF L [58] f.2)).bind fun p=>(Mp L aU 15 (sC L p.2) ns []).map fun B=>
    (EF L B.1,B.2.1,⟨(cu L (aC st)).1,f.1,0, -1,(tk L st).line,(tk L st).aj,true,p.1,B.2.2⟩)
  else (aU 0 (f.2,ns)).map fun x=>(x.2.1,x.2.2,⟨(cu L (aC st)).1,f.1,0,x.1,(tk L st).line,(tk L st).aj,false,[],[]⟩)
theorem adS {l c:Int} {a:Bool} {h:KH}:fQ Tryz.prog 38 [(4,iV l),(5,iV c),(6,.bool a),(3,iV (-1))] h=.ok (.agg #[ae [],.slice none 0 0,iV 0,iV (-1),iV l,iV c,.bool a,.slice none 0 0,.slice none 0 0]) h:=by kernel_rfl
theorem ac8 {s:bf} {h:KH}:fQ Tryz.prog 52 [(3,ae s)] h=.ok (.agg #[iV 0,iV 0,iV 0,ae s,ae [],.slice none 0 0,.slice none 0 0]) h:=by kernel_rfl
theorem ZX (hL:LG L) {aU:lx} (iW:∀{c1 c2 c3},BH L F c1 c2 c3 q rb aU) (h:DF L F c1 c2 c3 H q rb st P mM gM mR gR mD gD m g) (hz:H.fz rb=false) (wt:H.fz q=false) (tr:∀c∈mM++(mR++(mD++m)),H.fz c=false) (ir:(tk L st).kind≠4) (be:P.defs.length < 16) {fuel:Nat} {R:aE × List aG × eo} (he:Li L aU fuel st P.nodes=some R):
  ak Tryz.prog 115 #[pV q] H (fun w H'=>EM L F H q rb (mM++(mR++(mD++m))) (gM++(gR++(gD++g))) R.1 {P with nodes:=R.2.1,defs:=P.defs++[R.2.2]} H'):=by
 refine ak.told ?_
 refine afw (Nat.le_refl _) fun hf=>?_
 simp only [Tryz.f115,Option.getD_some]
 have eH:=h.Ml hz wt tr fun b hb=>hf.fresh hb
 obtain ⟨aD,rfl⟩:=h.hD.val
 have r0:=NR.start eH
 have jE:=hL.len
 simp only [go_sem]
 refine ag.by (rJ eH.bK) ?_
 rintro _ H1 - ⟨rfl,p1⟩
 have r1:=r0.aZ p1
 have xF:=p1.1.nx
 have gX:H.fz H1.next=false:=hf.fresh xF
 have iO:∀{c:Nat},H.next<=c->c∉[rb]:=fun hc=>by have:=(eH.pp.fresh hc).2.1;simpa using this
 have r2:=r1.push ⟨ij (tk L st),82,false,false⟩
 have P6:(H1.push ⟨ij (tk L st),82,false,false⟩).get H1.next=some ⟨ij (tk L st),82,false,false⟩:=by rw [aV,if_pos rfl]
 simp only [go_sem,gX]
 refine ag.by (fR r2.nq.bK) ?_
 rintro _ H3 - ⟨rfl,p3⟩
 have r3:=r2.aZ p3
 have Vt:H1.next+1<=H3.next:=p3.1.nx
 have Jk:=(p3.1.get H1.next (Nat.lt_succ_self _) (iO xF)).trans P6
 have AG:H.fz H3.next=false:=hf.fresh (by omega)
 have xB:¬q=H3.next:=by have:=r3.nq.pp.ql;omega
 have xA:¬rb=H3.next:=by have:=r3.nq.pp.rl;omega
 have y8:¬H3.next=rb:=fun e=>xA e.symm
 have ng3:H3.next∉m/\H3.next∉g:=⟨fun e=>by have:=(r3.nq.hm _ e).1;omega,fun e=>by have:=(r3.nq.hg _ e).1;omega⟩
 rw [Li] at he
 generalize cP L [97,99,116,111,114] st=ac at he ⊢
 have r4:=r3.push ⟨dP ⟨[],[],0, -1,(tk L st).line,(tk L st).aj,ac,[],[]⟩ (.slice none 0 0) (.slice none 0 0) (.slice none 0 0),38,false,false⟩
 have db4:DB H (H3.push ⟨dP ⟨[],[],0, -1,(tk L st).line,(tk L st).aj,ac,[],[]⟩ (.slice none 0 0) (.slice none 0 0) (.slice none 0 0),38,false,false⟩) m g H3.next ⟨[],[],0, -1,(tk L st).line,(tk L st).aj,ac,[],[]⟩ (.slice none 0 0) (.slice none 0 0) (.slice none 0 0) [] [] [] []:=
  ⟨by rw [aV,if_pos rfl],by simp,⟨by omega,Nat.lt_succ_self _,ng3⟩,.inl ⟨rfl,rfl,rfl⟩,.inl ⟨rfl,rfl,rfl⟩,Gr.nil _ _ _,by simp⟩
 obtain ⟨d1,d2,d3,d4,bL,oL,cL,a,j,c,hq,hr,cX,pa⟩:=r4.nq.bK.iN hL ir
 have r5:=r4.aZ pa
 have db5:=db4.af (m3:=m) (g3:=g) pa.1 (fun c hc=>iO hc.1) (fun _ h=>.inl h) (fun _ h=>.inl h)
 rw [aV,if_neg xB] at hq
 rw [aV,if_neg xA] at hr
 simp only [go_sem,P6,Jk,adS,AG,xB,xA,y8,hq,hr,hz,cX]
 refine ag.by (jk hL r5.nq.bK) ?_
 rintro _ H6 - ⟨rfl,p6⟩
 have r6:=r5.aZ p6
 have Vu:=db5.af (m3:=m) (g3:=g) p6.1 (fun c hc=>iO hc.1) (fun _ h=>.inl h) (fun _ h=>.inl h)
 generalize cu L (aC st)=y at p6 r6 he
 have Vv:=Vu.hb
 have db7:=Vu.put (d':=⟨y.1,[],0, -1,(tk L st).line,(tk L st).aj,ac,[],[]⟩) (D4:=.slice none 0 0) (ph:=.slice none 0 0) (D5:=.slice none 0 0) (Cn:=[]) (sf:=[]) (Co:=[]) (D6:=[]) (by simp) (.inl ⟨rfl,rfl,rfl⟩) (.inl ⟨rfl,rfl,rfl⟩) (Gr.nil _ _ _) (by simp)
 have r7:=r6.other eH (M:=[H3.next]) ((Fr.refl _ _).ah (b:=H3.next) (.inl (by simp)) ⟨dP ⟨y.1,[],0, -1,(tk L st).line,(tk L st).aj,ac,[],[]⟩ (.slice none 0 0) (.slice none 0 0) (.slice none 0 0),38,false,false⟩) (fun c hc=>by rw [List.mem_singleton] at hc;subst hc;exact Vu.mb) (fun _ _=>rfl)
 simp only [go_sem,Vv,AG]
 cases Vw:HR L fuel y.2 with
 | none=>rw [Vw] at he;cases he
 | some f=>
 obtain ⟨fl,s8⟩:=f
 rw [Vw] at he
 simp only [Option.bind_some] at he
 refine ag.by (Yn hL r7.nq.bK Vw) ?_
 rintro vF H8 - ⟨⟨gF,hsF,hnF⟩,p8⟩
 have r8:=r7.aZ p8
 have Vx:=db7.af (m3:=m) (g3:=g) p8.1 (fun c hc=>iO hc.1) (fun _ h=>.inl h) (fun _ h=>.inl h)
 obtain ⟨aF,kF,rfl⟩:=hsF.val
 have gb8:=Vx.hb
 have Ce:∀c∈gF,eg H H8 m g c/\c≠H3.next:=fun c hc=>by
  have h1:=(hnF c hc).1
  have h2:=(hnF c hc).2
  have h3:=r7.fr.nx
  have h4:=db7.mb.2.1
  exact ⟨⟨by omega,h2,fun e=>by have:=(r7.nq.hm _ e).1;omega,fun e=>by have:=(r7.nq.hg _ e).1;omega⟩,by omega⟩
 have Vy:=Vx.put (d':=⟨y.1,fl,0, -1,(tk L st).line,(tk L st).aj,ac,[],[]⟩) (D4:=.slice aF fl.length kF) (ph:=.slice none 0 0) (D5:=.slice none 0 0) (Cn:=gF) (sf:=[]) (Co:=[]) (D6:=[]) (by simpa using Ce) hsF (.inl ⟨rfl,rfl,rfl⟩) (Gr.nil _ _ _) (by simp)
 have r9:=r8.other eH (M:=[H3.next]) ((Fr.refl _ _).ah (b:=H3.next) (.inl (by simp)) ⟨dP ⟨y.1,fl,0, -1,(tk L st).line,(tk L st).aj,ac,[],[]⟩ (.slice aF fl.length kF) (.slice none 0 0) (.slice none 0 0),38,false,false⟩) (fun c hc=>by rw [List.mem_singleton] at hc;subst hc;exact Vx.mb) (fun _ _=>rfl)
 have Gq:=Vy.hb
 cases ac with
 | false=>
  rw [if_neg Bool.false_ne_true] at he
  cases fu:aU 0 (s8,P.nodes) with
  | none=>rw [fu] at he;cases he
  | some B=>
   obtain ⟨bi,bs,bn⟩:=B
   rw [fu] at he
   cases he
   simp only [go_sem,gb8,AG]
   refine ag.by (iW r9.nq fu) ?_
   rintro _ dh - ⟨rfl,j9⟩
   obtain ⟨AF,qf,cT,Vz,t10⟩:=r9.call j9
   have yB:=Vy.af j9.1 (fun c hc=>by
    obtain ⟨e1,e2,e3⟩:=eH.pp.fresh hc.1
    simp only [List.mem_cons,not_or]
    exact ⟨e2,e1,hc.2.2.1⟩) Vz t10
   have alC:=yB.hb
   obtain ⟨Lj,alD,_⟩:=cT.cells
   have Dx:=yB.put (d':=⟨y.1,fl,0,bi,(tk L st).line,(tk L st).aj,false,[],[]⟩) (D4:=.slice aF fl.length kF) (ph:=.slice none 0 0) (D5:=.slice none 0 0) (Cn:=gF) (sf:=[]) (Co:=[]) (D6:=[]) yB.gV yB.sF yB.sP yB.gO yB.Gp
   have dk:=cT.other eH (M:=[H3.next]) ((Fr.refl _ _).ah (b:=H3.next) (.inl (by simp)) ⟨dP ⟨y.1,fl,0,bi,(tk L st).line,(tk L st).aj,false,[],[]⟩ (.slice aF fl.length kF) (.slice none 0 0) (.slice none 0 0),38,false,false⟩) (fun c hc=>by rw [List.mem_singleton] at hc;subst hc;exact yB.mb) (fun _ _=>rfl)
   have rp:=dk.push ⟨dP ⟨y.1,fl,0,bi,(tk L st).line,(tk L st).aj,false,[],[]⟩ (.slice aF fl.length kF) (.slice none 0 0) (.slice none 0 0),38,false,false⟩
   have kf:=Dx.push ⟨dP ⟨y.1,fl,0,bi,(tk L st).line,(tk L st).aj,false,[],[]⟩ (.slice aF fl.length kF) (.slice none 0 0) (.slice none 0 0),38,false,false⟩
   have mv:=h.nr rp
   have Gs:=Dx.mb.2.1
   obtain ⟨Mq,rj,_⟩:=rp.cells
   simp only [go_sem,alD,alC,AG,xB,eB ue (by decide) (by decide)]
   refine jZ (r:=jq) (x:=⟨y.1,fl,0,bi,(tk L st).line,(tk L st).aj,false,[],[]⟩) ue mv.hD (fun c hc=>(mv.xD c hc).1.1) (fun c hc=>(mv.hG c (by simp [hc])).1) (fun c hc=>⟨(kf.gV c hc).1.2.1,fun e=>by have:=(h.xD c e).1.1;have:=(kf.gV c hc).1.1;omega⟩) (fun c hc=>tr c (by simp [hc])) (by rw [aV];exact if_pos rfl) ⟨_,_,_,_,_,_,rfl,rfl,kf.sF,kf.sP,kf.gO.sl⟩ rfl (by show (P.defs.length+1) * 128 < _;omega) ?_
   intro v7 H7 bH ef jm dx jQ
   have qY:=(jm q rp.nq.pp.ql (fun e=>(h.xD q e).1.2.2.1 rfl)).trans rj
   obtain ⟨a7,rfl⟩:=bH.val
   have pO:=h.OY rp rj bH (fun c hc=>(kf.gV c hc).1) dx ef be
   simp only [go_sem,qY,wt]
   exact pO
 | true=>
  rw [if_pos rfl] at he
  cases vC:BF L fuel (dF L [58] s8) with
  | none=>rw [vC] at he;cases he
  | some x=>
  obtain ⟨pp,Vi⟩:=x
  rw [vC] at he
  simp only [Option.bind_some] at he
  cases ni:Mp L aU 15 (sC L Vi) P.nodes [] with
  | none=>rw [ni] at he;cases he
  | some B=>
  rw [ni] at he
  cases he
  simp only [go_sem,gb8,AG]
  refine ag.by (iJ hL r9.nq.bK) ?_
  rintro _ dh - j9
  have cT:=r9.aZ j9
  have yB:=Vy.af (m3:=m) (g3:=g) j9.1 (fun c hc=>iO hc.1) (fun _ h=>.inl h) (fun _ h=>.inl h)
  simp only [go_sem]
  refine ag.by (Ox hL cT.nq.bK vC) ?_
  rintro vp dX - ⟨⟨gP,hsP,hnP⟩,qZ⟩
  have dk:=cT.aZ qZ
  have Dx:=yB.af (m3:=m) (g3:=g) qZ.1 (fun c hc=>iO hc.1) (fun _ h=>.inl h) (fun _ h=>.inl h)
  obtain ⟨aP,kP,rfl⟩:=hsP.val
  have alE:=Dx.hb
  have hmP:∀c∈gP,eg H dX m g c/\c≠H3.next:=fun c hc=>by
   have h1:=(hnP c hc).1
   have h2:=(hnP c hc).2
   have h3:=cT.fr.nx
   have h4:=yB.mb.2.1
   exact ⟨⟨by omega,h2,fun e=>by have:=(cT.nq.hm _ e).1;omega,fun e=>by have:=(cT.nq.hg _ e).1;omega⟩,by omega⟩
  have alF:=Dx.put (d':=⟨y.1,fl,0, -1,(tk L st).line,(tk L st).aj,true,pp,[]⟩) (D4:=.slice aF fl.length kF) (ph:=.slice aP pp.length kP) (D5:=.slice none 0 0) (Cn:=gF) (sf:=gP) (Co:=[]) (D6:=[]) (fun c hc=>by
   rcases List.mem_append.1 hc with e | e
   ·exact Dx.gV c (List.mem_append_left _ e)
   ·exact hmP c (by simpa using e)) Dx.sF hsP (Gr.nil _ _ _) (by simp)
  have dm:=dk.other eH (M:=[H3.next]) ((Fr.refl _ _).ah (b:=H3.next) (.inl (by simp)) ⟨dP ⟨y.1,fl,0, -1,(tk L st).line,(tk L st).aj,true,pp,[]⟩ (.slice aF fl.length kF) (.slice aP pp.length kP) (.slice none 0 0),38,false,false⟩) (fun c hc=>by rw [List.mem_singleton] at hc;subst hc;exact Dx.mb) (fun _ _=>rfl)
  simp only [go_sem,alE,AG]
  refine ag.by (R1 hL dm.nq.bK) ?_
  rintro _ ju - pe
  have gK:=dm.aZ pe
  have alG:=alF.af (m3:=m) (g3:=g) pe.1 (fun c hc=>iO hc.1) (fun _ h=>.inl h) (fun _ h=>.inl h)
  simp only [go_sem]
  refine la 4951760157105492302577532944 (fun n V H2=>∃bC bO m2 g2 l vO mB gB,NR L F c1 c2 (.slice aD P.defs.length P.defs.length) H q rb P.nodes m g H2 bC bO m2 g2/\DB H H2 m2 g2 H3.next ⟨y.1,fl,0, -1,(tk L st).line,(tk L st).aj,true,pp,l⟩ (.slice aF fl.length kF) (.slice aP pp.length kP) vO gF gP mB gB/\l.length<=13/\Mp L aU n bC bO l=some B) (n:=15)
   ⟨_,P.nodes,m,g,[],_,[],[],gK,alG,by simp,ni⟩ ?_ (by rfl)
  rintro n V jG ⟨bC,bO,m2,g2,l,vO,mB,gB,ke,Td,alo,ni⟩
  cases n with
  | zero=>cases ni
  | succ n=>
  rw [Mp] at ni
  obtain ⟨aO,Gt⟩:=Td.gO.val
  subst Gt
  have out:∀{Q:Prop},Q->Q:=fun q=>q
  simp only [go_sem]
  refine ag.by (eZ ke.nq.bK) ?_
  rintro _ _ - ⟨rfl,rfl⟩
  by_cases hb:c9 bC=true
  ·simp only [go_sem,hb]
   refine ag.by (fR ke.nq.bK) ?_
   rintro _ jv - ⟨rfl,Jl⟩
   have mu:=ke.aZ Jl
   have OZ:=Td.af (m3:=m2) (g3:=g2) Jl.1 (fun c hc=>iO hc.1) (fun _ h=>.inl h) (fun _ h=>.inl h)
   have alH:=OZ.hb
   by_cases hw:cP L [111,110] bC=true
   ·rw [if_pos ⟨hb,hw⟩] at ni
    simp only [go_sem,hw,alH]
    by_cases nf:12 < l.length
    ·have yy:(12:Int) < ((l.length:Nat):Int):=by omega
     rw [if_pos nf] at ni
     cases ni
     simp only [go_sem,yy]
     refine ag.by (lh mu.nq.bK) ?_
     rintro _ H16 - p16
     have AE:=mu.aZ p16
     have Te:=OZ.af (m3:=m2) (g3:=g2) p16.1 (fun c hc=>iO hc.1) (fun _ h=>.inl h) (fun _ h=>.inl h)
     simp only [go_sem]
     refine ag.by (qv hL AE.nq.bK) ?_
     rintro _ H50 - D7
     have D8:=AE.aZ D7
     have yC:=Te.af (m3:=m2) (g3:=g2) D7.1 (fun c hc=>iO hc.1) (fun _ h=>.inl h) (fun _ h=>.inl h)
     have Lk:=yC.hb
     obtain ⟨aaT,Ll,_⟩:=D8.cells
     have rp:=D8.push ⟨dP ⟨y.1,fl,0, -1,(tk L st).line,(tk L st).aj,true,pp,l⟩ (.slice aF fl.length kF) (.slice aP pp.length kP) (.slice aO l.length l.length),38,false,false⟩
     have kf:=yC.push ⟨dP ⟨y.1,fl,0, -1,(tk L st).line,(tk L st).aj,true,pp,l⟩ (.slice aF fl.length kF) (.slice aP pp.length kP) (.slice aO l.length l.length),38,false,false⟩
     have mv:=h.nr rp
     have Gs:=yC.mb.2.1
     obtain ⟨Mq,rj,_⟩:=rp.cells
     simp only [go_sem,Ll,Lk,AG,xB,eB ue (by decide) (by decide)]
     refine jZ (r:=jq) (x:=⟨y.1,fl,0, -1,(tk L st).line,(tk L st).aj,true,pp,l⟩) ue mv.hD (fun c hc=>(mv.xD c hc).1.1) (fun c hc=>(mv.hG c (by simp [hc])).1) (fun c hc=>⟨(kf.gV c hc).1.2.1,fun e=>by have:=(h.xD c e).1.1;have:=(kf.gV c hc).1.1;omega⟩) (fun c hc=>tr c (by simp [hc])) (by rw [aV];exact if_pos rfl) ⟨_,_,_,_,_,_,rfl,rfl,kf.sF,kf.sP,kf.gO.sl⟩ rfl (by show (P.defs.length+1) * 128 < _;omega) ?_
     intro v7 H7 bH ef jm dx jQ
     have qY:=(jm q rp.nq.pp.ql (fun e=>(h.xD q e).1.2.2.1 rfl)).trans rj
     obtain ⟨a7,rfl⟩:=bH.val
     have pO:=h.OY rp rj bH (fun c hc=>(kf.gV c hc).1) dx ef be
     simp only [go_sem,qY,wt]
     exact pO
    ·have yy:¬(12:Int) < ((l.length:Nat):Int):=by omega
     rw [if_neg nf] at ni
     simp only [go_sem,yy]
     obtain ⟨d1,d2,d3,d4,bL,oL,cL,a,j,c,hq,hr,cX,pa⟩:=mu.nq.bK.iN hL (jl hw)
     have AE:=mu.aZ pa
     have Te:=OZ.af (m3:=m2) (g3:=g2) pa.1 (fun c hc=>iO hc.1) (fun _ h=>.inl h) (fun _ h=>.inl h)
     simp only [go_sem,hq,hr,hz,cX]
     refine ag.by (jk hL AE.nq.bK) ?_
     rintro _ pk - ⟨rfl,VA⟩
     have wy:=AE.aZ VA
     have Tf:=Te.af (m3:=m2) (g3:=g2) VA.1 (fun c hc=>iO hc.1) (fun _ h=>.inl h) (fun _ h=>.inl h)
     generalize cu L (aC bC)=z at VA wy ni
     have Tg:=wy.fr.nx
     have wx:H.fz pk.next=false:=hf.fresh Tg
     simp only [go_sem,ac8,wx]
     have r18:=wy.push ⟨cG ⟨0,0,0,z.1,[],[],[]⟩ (.slice none 0 0) (.slice none 0 0),52,false,false⟩
     have alI:=Tf.push ⟨cG ⟨0,0,0,z.1,[],[],[]⟩ (.slice none 0 0) (.slice none 0 0),52,false,false⟩
     have g18:(pk.push ⟨cG ⟨0,0,0,z.1,[],[],[]⟩ (.slice none 0 0) (.slice none 0 0),52,false,false⟩).get pk.next=some ⟨cG ⟨0,0,0,z.1,[],[],[]⟩ (.slice none 0 0) (.slice none 0 0),52,false,false⟩:=by rw [aV,if_pos rfl]
     refine ag.by (YP hL r18.nq.bK) ?_
     rintro vN Jm - ⟨⟨gN,Ft,Vq⟩,Mr⟩
     have r19:=r18.aZ Mr
     have alJ:=alI.af (m3:=m2) (g3:=g2) Mr.1 (fun c hc=>iO hc.1) (fun _ h=>.inl h) (fun _ h=>.inl h)
     have av2:pk.next+1<=Jm.next:=Mr.1.nx
     have g19:=(Mr.1.get pk.next (Nat.lt_succ_self _) (iO Tg)).trans g18
     obtain ⟨aN,kN,rfl⟩:=Ft.val
     generalize zU L z.2=w at Mr r19 Ft ni
     have Gl:∀c∈gN,pk.next+1<=c/\c < Jm.next:=Vq
     have aaU:eg H Jm m2 g2 pk.next:=⟨Tg,by omega,fun e=>by have:=(wy.nq.hm _ e).1;omega,fun e=>by have:=(wy.nq.hg _ e).1;omega⟩
     have Gu:∀c∈gF++(gP++(mB++gB)),c < pk.next:=fun c hc=>(Tf.gV c hc).1.2.1
     have hdb:H3.next < pk.next:=Tf.mb.2.1
     have rN:=r19.other eH (M:=[pk.next]) ((Fr.refl _ _).ah (b:=pk.next) (.inl (by simp)) ⟨cG ⟨0,0,0,z.1,[],[],w.1⟩ (.slice none 0 0) (.slice aN w.1.length kN),52,false,false⟩) (fun c hc=>by rw [List.mem_singleton] at hc;subst hc;exact aaU) (fun _ _=>rfl)
     have VB:=alJ.ZW ⟨cG ⟨0,0,0,z.1,[],[],w.1⟩ (.slice none 0 0) (.slice aN w.1.length kN),52,false,false⟩ (b:=pk.next) (by omega) (fun e=>by have:=Gu _ e;omega)
     cases fu:aU 0 (w.2,bO) with
     | none=>rw [fu] at ni;cases ni
     | some B2=>
      obtain ⟨bi,bs,bn⟩:=B2
      rw [fu] at ni
      simp only [Option.bind_some] at ni
      simp only [go_sem,g19,wx]
      refine ag.by (iW rN.nq fu) ?_
      rintro _ kY - ⟨rfl,jV⟩
      have lY:∀c∈gN,eg H (Jm.ah pk.next ⟨cG ⟨0,0,0,z.1,[],[],w.1⟩ (.slice none 0 0) (.slice aN w.1.length kN),52,false,false⟩) m2 g2 c/\c≠pk.next:=fun c hc=>by
       have:=Gl c hc
       exact ⟨⟨by omega,by show c < Jm.next;omega,fun e=>by have:=(wy.nq.hm _ e).1;omega,fun e=>by have:=(wy.nq.hg _ e).1;omega⟩,by omega⟩
      have Cj:Sl .str (Jm.ah pk.next ⟨cG ⟨0,0,0,z.1,[],[],w.1⟩ (.slice none 0 0) (.slice aN w.1.length kN),52,false,false⟩) (.slice aN w.1.length kN) (⟨0,0,0,z.1,[],[],w.1⟩:eY).names gN:=Ft.af fun c hc=>by rw [az,if_neg (lY c hc).2]
      obtain ⟨jW,jX,KR,Ld,Ji,t20,KS⟩:=RE eH rN VB.gO (fun c hc=>⟨(VB.gV c (List.mem_append_right _ (List.mem_append_right _ hc))).1,by have:=Gu c (List.mem_append_right _ (List.mem_append_right _ hc));omega⟩) aaU (by rw [az,if_pos rfl]) rfl Cj lY jV
      obtain ⟨tq,EY,sT,yx,Le⟩:=KS bi
      have Th:DB H kY jW jX H3.next ⟨y.1,fl,0, -1,(tk L st).line,(tk L st).aj,true,pp,l⟩ (.slice aF fl.length kF) (.slice aP pp.length kP) (.slice aO l.length l.length) gF gP mB gB:=VB.af jV.1 (fun c hc=>by
       obtain ⟨e1,e2,e3⟩:=eH.pp.fresh hc.1
       simp only [List.mem_cons,not_or]
       exact ⟨e2,e1,hc.2.2.1⟩) Ji t20
      have alK:=Th.hb
      have O0:=(Th.ZW ⟨cG ⟨0,0,bi,z.1,[],[],w.1⟩ (.slice none 0 0) (.slice aN w.1.length kN),52,false,false⟩ (b:=pk.next) (by omega) (fun e=>by have:=Gu _ e;omega)).push ⟨cG ⟨0,0,bi,z.1,[],[],w.1⟩ (.slice none 0 0) (.slice aN w.1.length kN),52,false,false⟩
      have nd1:¬H3.next=pk.next:=by omega
      have nd2:¬H3.next=kY.next:=by have:=Th.mb.2.1;omega
      simp only [go_sem,KR,wx,Ld,alK,nd1,nd2,eB sA (by decide) (by decide)]
      refine jZ (r:=dG) sA EY (fun c hc=>(sT c (by simp [hc])).2.1) (fun c hc=>(sT c (by simp [hc])).2.1) (fun c hc=>⟨(yx c hc).2.1,fun e=>by have:=Gl c hc;have:=Gu c (List.mem_append_right _ (List.mem_append_right _ (List.mem_append_left _ e)));omega⟩) (fun c hc=>hf.fresh (sT c (by simp [hc])).1) (by rw [aV];exact if_pos rfl) Le rfl (by show (l.length+1) * 104 < _;omega) ?_
      intro v7 H7 bH ef jm dx jQ
      obtain ⟨r7',DZ⟩:=Rj eH tq sT yx dx ef jQ
      have aaV:=O0.app (v7:=v7) (x:=⟨0,0,bi,z.1,[],[],w.1⟩) (gN:=gN) tq.fr.nx (fun c hc=>(tq.nq.hm c hc).1) (fun c hc=>(tq.nq.hg c hc).1) bH dx ef (fun c hc=>⟨yx c hc,by have:=Gl c hc;omega⟩)
      have alL:=(jm H3.next O0.mb.2.1 (fun e=>(O0.gV H3.next (by simp [e])).2 rfl)).trans O0.hb
      obtain ⟨a7,rfl⟩:=bH.val
      have r8':=r7'.other eH (M:=[H3.next]) ((Fr.refl _ _).ah (b:=H3.next) (.inl (by simp)) ⟨dP ⟨y.1,fl,0, -1,(tk L st).line,(tk L st).aj,true,pp,l++[⟨0,0,bi,z.1,[],[],w.1⟩]⟩ (.slice aF fl.length kF) (.slice aP pp.length kP) (.slice a7 (l++[(⟨0,0,bi,z.1,[],[],w.1⟩:eY)]).length (l++[(⟨0,0,bi,z.1,[],[],w.1⟩:eY)]).length),38,false,false⟩) (fun c hc=>by rw [List.mem_singleton] at hc;subst hc;exact aaV.mb) (fun _ _=>rfl)
      simp only [go_sem,alL,AG]
      exact ⟨n,by omega,bs,bn,jW,jX,l++[⟨0,0,bi,z.1,[],[],w.1⟩],_,_,_,r8',aaV,by rw [List.length_append,List.length_singleton];omega,ni⟩
   ·rw [if_neg (fun e=>hw e.2)] at ni
    cases ni
    simp only [go_sem,hw]
    refine ag.by (qv hL mu.nq.bK) ?_
    rintro _ H50 - D7
    have D8:=mu.aZ D7
    have yC:=OZ.af (m3:=m2) (g3:=g2) D7.1 (fun c hc=>iO hc.1) (fun _ h=>.inl h) (fun _ h=>.inl h)
    have Lk:=yC.hb
    obtain ⟨aaT,Ll,_⟩:=D8.cells
    have rp:=D8.push ⟨dP ⟨y.1,fl,0, -1,(tk L st).line,(tk L st).aj,true,pp,l⟩ (.slice aF fl.length kF) (.slice aP pp.length kP) (.slice aO l.length l.length),38,false,false⟩
    have kf:=yC.push ⟨dP ⟨y.1,fl,0, -1,(tk L st).line,(tk L st).aj,true,pp,l⟩ (.slice aF fl.length kF) (.slice aP pp.length kP) (.slice aO l.length l.length),38,false,false⟩
    have mv:=h.nr rp
    have Gs:=yC.mb.2.1
    obtain ⟨Mq,rj,_⟩:=rp.cells
    simp only [go_sem,Ll,Lk,AG,xB,eB ue (by decide) (by decide)]
    refine jZ (r:=jq) (x:=⟨y.1,fl,0, -1,(tk L st).line,(tk L st).aj,true,pp,l⟩) ue mv.hD (fun c hc=>(mv.xD c hc).1.1) (fun c hc=>(mv.hG c (by simp [hc])).1) (fun c hc=>⟨(kf.gV c hc).1.2.1,fun e=>by have:=(h.xD c e).1.1;have:=(kf.gV c hc).1.1;omega⟩) (fun c hc=>tr c (by simp [hc])) (by rw [aV];exact if_pos rfl) ⟨_,_,_,_,_,_,rfl,rfl,kf.sF,kf.sP,kf.gO.sl⟩ rfl (by show (P.defs.length+1) * 128 < _;omega) ?_
    intro v7 H7 bH ef jm dx jQ
    have qY:=(jm q rp.nq.pp.ql (fun e=>(h.xD q e).1.2.2.1 rfl)).trans rj
    obtain ⟨a7,rfl⟩:=bH.val
    have pO:=h.OY rp rj bH (fun c hc=>(kf.gV c hc).1) dx ef be
    simp only [go_sem,qY,wt]
    exact pO
  ·rw [if_neg (fun e=>hb e.1)] at ni
   cases ni
   simp only [go_sem,hb]
   refine ag.by (qv hL ke.nq.bK) ?_
   rintro _ H50 - D7
   have D8:=ke.aZ D7
   have yC:=Td.af (m3:=m2) (g3:=g2) D7.1 (fun c hc=>iO hc.1) (fun _ h=>.inl h) (fun _ h=>.inl h)
   have Lk:=yC.hb
   obtain ⟨aaT,Ll,_⟩:=D8.cells
   have rp:=D8.push ⟨dP ⟨y.1,fl,0, -1,(tk L st).line,(tk L st).aj,true,pp,l⟩ (.slice aF fl.length kF) (.slice aP pp.length kP) (.slice aO l.length l.length),38,false,false⟩
   have kf:=yC.push ⟨dP ⟨y.1,fl,0, -1,(tk L st).line,(tk L st).aj,true,pp,l⟩ (.slice aF fl.length kF) (.slice aP pp.length kP) (.slice aO l.length l.length),38,false,false⟩
   have mv:=h.nr rp
   have Gs:=yC.mb.2.1
   obtain ⟨Mq,rj,_⟩:=rp.cells
   simp only [go_sem,Ll,Lk,AG,xB,eB ue (by decide) (by decide)]
   refine jZ (r:=jq) (x:=⟨y.1,fl,0, -1,(tk L st).line,(tk L st).aj,true,pp,l⟩) ue mv.hD (fun c hc=>(mv.xD c hc).1.1) (fun c hc=>(mv.hG c (by simp [hc])).1) (fun c hc=>⟨(kf.gV c hc).1.2.1,fun e=>by have:=(h.xD c e).1.1;have:=(kf.gV c hc).1.1;omega⟩) (fun c hc=>tr c (by simp [hc])) (by rw [aV];exact if_pos rfl) ⟨_,_,_,_,_,_,rfl,rfl,kf.sF,kf.sP,kf.gO.sl⟩ rfl (by show (P.defs.length+1) * 128 < _;omega) ?_
   intro v7 H7 bH ef jm dx jQ
   have qY:=(jm q rp.nq.pp.ql (fun e=>(h.xD q e).1.2.2.1 rfl)).trans rj
   obtain ⟨a7,rfl⟩:=bH.val
   have pO:=h.OY rp rj bH (fun c hc=>(kf.gV c hc).1) dx ef be
   simp only [go_sem,qY,wt]
   exact pO
end
section
variable {L:List bc} {F:List Nat} {c1 c2 c3:Value} {H H1 H2 H3 H6 H7:ad} {q rb nb:Nat} {st cC bC eO:aE} {P:bw} {ns bk bO zg:List aG} {mM gM mR gR mD gD m g m1 g1 m2 g2 m3 g3 m6 g6:List Nat}
theorem DF.same (h:DF L F c1 c2 c3 H q rb st P mM gM mR gR mD gD m g) (r:NR L F c1 c2 c3 H q rb P.nodes m g H6 eO P.nodes m g):EM L F H q rb (mM++(mR++(mD++m))) (gM++(gR++(gD++g))) eO P (H6.ai H.fz):=by
 refine ⟨(r.fr.sub fun c hc=>.inl ?_).ai _,fun _=>rfl,_,_,(h.nr r).q0.ai,fun _ h=>.inl h,fun _ h=>.inl h⟩
 simp only [List.mem_cons,List.mem_append] at hc ⊢
 rcases hc with e | e | e <;> simp [e]
def E0 (L:List bc) (aU:lx) (fuel:Nat) (st:aE) (P:bw):Option (aE × bw):=
 if cP L [109,115,103] st=true then
  (if 12<=P.msgs.length then some (eX 3 st,P)
  else (N8 L fuel (cu L (aC st)).2).map fun t=>(dF L [59] t.2,{P with msgs:=P.msgs++[⟨(cu L (aC st)).1,t.1,(tk L st).line,(tk L st).aj⟩]}))
 else if cP L [114,101,99] st=true then
  (if 8<=P.bZ.length then some (eX 3 st,P)
  else (HR L fuel (cu L (aC st)).2).map fun t=>(dF L [59] t.2,{P with bZ:=P.bZ++[⟨(cu L (aC st)).1,t.1,(tk L st).line,(tk L st).aj⟩]}))
 else if cP L [100,101,102] st=true∨cP L [97,99,116,111,114] st=true then
  (if 16<=P.defs.length then some (eX 3 st,P)
  else (Li L aU fuel st P.nodes).map fun R=>(R.1,{P with nodes:=R.2.1,defs:=P.defs++[R.2.2]}))
 else some (eX 2 st,P)
theorem adT {s:bf} {l c:Int} {h:KH}:fQ Tryz.prog 107 [(2,iV l),(3,iV c),(0,ae s)] h=.ok (.agg #[ae s,.slice none 0 0,iV l,iV c]) h:=by kernel_rfl
theorem adU {s:bf} {l c:Int} {h:KH}:fQ Tryz.prog 164 [(2,iV l),(3,iV c),(0,ae s)] h=.ok (.agg #[ae s,.slice none 0 0,iV l,iV c]) h:=by kernel_rfl
theorem ahv (hL:LG L) {aU:lx} (iW:∀{c1 c2 c3},BH L F c1 c2 c3 q rb aU) (h:DF L F c1 c2 c3 H q rb st P mM gM mR gR mD gD m g) (hz:H.fz rb=false) (wt:H.fz q=false) (tr:∀c∈mM++(mR++(mD++m)),H.fz c=false) {fuel:Nat} {R:aE × bw} (he:E0 L aU fuel st P=some R):
  ak Tryz.prog 78 #[pV q] H (fun w H'=>EM L F H q rb (mM++(mR++(mD++m))) (gM++(gR++(gD++g))) R.1 R.2 H'):=by
 refine ak.told ?_
 refine ai5 (Nat.le_refl _) fun hf=>?_
 simp only [Tryz.f78,Option.getD_some]
 have eH:=h.Ml hz wt tr fun b hb=>hf.fresh hb
 obtain ⟨aM,rfl⟩:=h.hM.val
 obtain ⟨aR,rfl⟩:=h.hR.val
 obtain ⟨aD,rfl⟩:=h.hD.val
 have r0:=NR.start eH
 have jE:=hL.len
 simp only [go_sem]
 refine ag.by (rJ eH.bK) ?_
 rintro _ H1 - ⟨rfl,p1⟩
 have r1:=r0.aZ p1
 have xF:=p1.1.nx
 have gX:H.fz H1.next=false:=hf.fresh xF
 have iO:∀{c:Nat},H.next<=c->c∉[rb]:=fun hc=>by have:=(eH.pp.fresh hc).2.1;simpa using this
 have r2:=r1.push ⟨ij (tk L st),82,false,false⟩
 have P6:(H1.push ⟨ij (tk L st),82,false,false⟩).get H1.next=some ⟨ij (tk L st),82,false,false⟩:=by rw [aV,if_pos rfl]
 simp only [go_sem,gX]
 refine ag.by (fR r2.nq.bK) ?_
 rintro _ H3 - ⟨rfl,p3⟩
 have r3:=r2.aZ p3
 have Vt:H1.next+1<=H3.next:=p3.1.nx
 have Jk:=(p3.1.get H1.next (Nat.lt_succ_self _) (iO xF)).trans P6
 by_cases eV:cP L [109,115,103] st=true
 ·rw [E0,if_pos eV] at he
  obtain ⟨P7,xG,_⟩:=r3.cells
  by_cases yD:12<=P.msgs.length
  ·have sG:(12:Int)<=((P.msgs.length:Nat):Int):=by omega
   rw [if_pos yD] at he
   cases he
   simp only [go_sem,eV,xG,sG]
   refine ag.by (lh r3.nq.bK) ?_
   rintro _ H5 - p5
   have r5:=r3.aZ p5
   simp only [go_sem]
   exact h.same r5
  have sG:¬((12:Int)<=((P.msgs.length:Nat):Int)):=by omega
  rw [if_neg yD] at he
  obtain ⟨d1,d2,d3,d4,bL,oL,cL,a,j,c,hq,hr,cX,pa⟩:=r3.nq.bK.iN hL (jl eV)
  have ra:=r3.aZ pa
  have Ms:=(pa.1.get H1.next (by omega) (iO xF)).trans Jk
  have jU:¬H1.next=rb:=by have:=iO xF;simpa using this
  simp only [go_sem,eV,xG,sG,hr,hz,cX,Jk,jU]
  refine ag.by (jk hL ra.nq.bK) ?_
  rintro _ H5 - ⟨rfl,p5⟩
  have r5:=ra.aZ p5
  have n5:H3.next<=H5.next:=p5.1.nx
  have VC:=(p5.1.get H1.next (by show H1.next < H3.next;omega) (iO xF)).trans Ms
  generalize cu L (aC st)=y at p5 r5 he
  have jh:H.fz H5.next=false:=hf.fresh (by omega)
  have Cq:H.next<=H5.next:=by omega
  simp only [go_sem,Ms,Jk,VC,jU,adT,jh]
  have r6:=r5.push ⟨[ae y.1,.slice none 0 0,iV (tk L st).line,iV (tk L st).aj],107,false,false⟩
  have g6:(H5.push ⟨[ae y.1,.slice none 0 0,iV (tk L st).line,iV (tk L st).aj],107,false,false⟩).get H5.next=some ⟨[ae y.1,.slice none 0 0,iV (tk L st).line,iV (tk L st).aj],107,false,false⟩:=by rw [aV,if_pos rfl]
  cases ze:N8 L fuel y.2 with
  | none=>rw [ze] at he;cases he
  | some x=>
  obtain ⟨tl,s7⟩:=x
  rw [ze] at he
  cases he
  refine ag.by (aez hL r6.nq.bK ze) ?_
  rintro vT H7 - ⟨⟨gT,Mt,VD⟩,p7⟩
  have r7:=r6.aZ p7
  have n7:H5.next+1<=H7.next:=p7.1.nx
  have hT:∀c∈gT,H5.next+1<=c/\c < H7.next:=VD
  have g7:=(p7.1.get H5.next (Nat.lt_succ_self _) (iO Cq)).trans g6
  obtain ⟨aT,kT,rfl⟩:=Mt.val
  have dC:eg H H7 m g H5.next:=⟨Cq,by omega,fun e=>by have:=(r5.nq.hm _ e).1;omega,fun e=>by have:=(r5.nq.hg _ e).1;omega⟩
  have r8:=r7.other eH (M:=[H5.next]) ((Fr.refl _ _).ah (b:=H5.next) (.inl (by simp)) ⟨[ae y.1,.slice aT tl.length kT,iV (tk L st).line,iV (tk L st).aj],107,false,false⟩) (fun c hc=>by rw [List.mem_singleton] at hc;subst hc;exact dC) (fun _ _=>rfl)
  have g8:(H7.ah H5.next ⟨[ae y.1,.slice aT tl.length kT,iV (tk L st).line,iV (tk L st).aj],107,false,false⟩).get H5.next=some ⟨[ae y.1,.slice aT tl.length kT,iV (tk L st).line,iV (tk L st).aj],107,false,false⟩:=by rw [az,if_pos rfl]
  simp only [go_sem,g7,jh]
  refine ag.by (iJ hL r8.nq.bK) ?_
  rintro _ H9 - p9
  have r9:=r8.aZ p9
  have n9:H7.next<=H9.next:=p9.1.nx
  have g9:=(p9.1.get H5.next (by show H5.next < H7.next;omega) (iO Cq)).trans g8
  obtain ⟨VE,VF,_⟩:=r9.cells
  have rp:=r9.push ⟨[ae y.1,.slice aT tl.length kT,iV (tk L st).line,iV (tk L st).aj],107,false,false⟩
  have mv:=h.nr rp
  obtain ⟨Mq,rj,_⟩:=rp.cells
  have eJ:Sl xr (H9.push ⟨[ae y.1,.slice aT tl.length kT,iV (tk L st).line,iV (tk L st).aj],107,false,false⟩) (.slice aT tl.length kT) tl gT:=Mt.af fun c hc=>by
   have:=hT c hc
   rw [bX (by omega),p9.1.get c (by show c < H7.next;omega) (iO (by omega)),az,if_neg (by omega)]
  have mw:∀c∈gT,eg H (H9.push ⟨[ae y.1,.slice aT tl.length kT,iV (tk L st).line,iV (tk L st).aj],107,false,false⟩) m g c:=fun c hc=>by
   have:=hT c hc
   exact ⟨by omega,by show c < H9.next+1;omega,fun e=>by have:=(r5.nq.hm _ e).1;omega,fun e=>by have:=(r5.nq.hg _ e).1;omega⟩
  have Gs:¬H5.next=H9.next:=by omega
  simp only [go_sem,VF,g9,jh,Gs,eB Oo (by decide) (by decide)]
  refine jZ (r:=pI) (x:=⟨y.1,tl,(tk L st).line,(tk L st).aj⟩) Oo mv.hM (fun c hc=>(mv.xM c hc).1.1) (fun c hc=>(mv.hG c (by simp [hc])).1) (fun c hc=>⟨(mw c hc).2.1,fun e=>by have:=(h.xM c e).1.1;have:=(mw c hc).1;omega⟩) (fun c hc=>tr c (by simp [hc])) (by rw [aV];exact if_pos rfl) ⟨_,rfl,eJ⟩ rfl (by show (P.msgs.length+1) * 56 < _;omega) ?_
  intro v7 pk bH ef jm dx jQ
  have qY:=(jm q rp.nq.pp.ql (fun e=>(h.xM q e).1.2.2.1 rfl)).trans rj
  obtain ⟨a7,rfl⟩:=bH.val
  have pO:=h.alz rp rj bH mw dx ef (by omega)
  simp only [go_sem,qY,wt]
  exact pO
 simp only [go_sem,eV]
 refine ag.by (fR r3.nq.bK) ?_
 rintro _ H4 - ⟨rfl,p4⟩
 have r4:=r3.aZ p4
 have nV:=p4.1.nx
 have VG:=(p4.1.get H1.next (by omega) (iO xF)).trans Jk
 by_cases mY:cP L [114,101,99] st=true
 ·rw [E0,if_neg eV,if_pos mY] at he
  obtain ⟨P7,xG,_⟩:=r4.cells
  by_cases yD:8<=P.bZ.length
  ·have sG:(8:Int)<=((P.bZ.length:Nat):Int):=by omega
   rw [if_pos yD] at he
   cases he
   simp only [go_sem,mY,xG,sG]
   refine ag.by (lh r4.nq.bK) ?_
   rintro _ H5 - p5
   have r5:=r4.aZ p5
   simp only [go_sem]
   exact h.same r5
  have sG:¬((8:Int)<=((P.bZ.length:Nat):Int)):=by omega
  rw [if_neg yD] at he
  obtain ⟨d1,d2,d3,d4,bL,oL,cL,a,j,c,hq,hr,cX,pa⟩:=r4.nq.bK.iN hL (jl mY)
  have ra:=r4.aZ pa
  have Ms:=(pa.1.get H1.next (by omega) (iO xF)).trans VG
  have jU:¬H1.next=rb:=by have:=iO xF;simpa using this
  simp only [go_sem,mY,xG,sG,hr,hz,cX,VG,jU]
  refine ag.by (jk hL ra.nq.bK) ?_
  rintro _ H5 - ⟨rfl,p5⟩
  have r5:=ra.aZ p5
  have n5:H4.next<=H5.next:=p5.1.nx
  have VC:=(p5.1.get H1.next (by show H1.next < H4.next;omega) (iO xF)).trans Ms
  generalize cu L (aC st)=y at p5 r5 he
  have jh:H.fz H5.next=false:=hf.fresh (by omega)
  have Cq:H.next<=H5.next:=by omega
  simp only [go_sem,Ms,VG,VC,jU,adU,jh]
  have r6:=r5.push ⟨[ae y.1,.slice none 0 0,iV (tk L st).line,iV (tk L st).aj],164,false,false⟩
  have g6:(H5.push ⟨[ae y.1,.slice none 0 0,iV (tk L st).line,iV (tk L st).aj],164,false,false⟩).get H5.next=some ⟨[ae y.1,.slice none 0 0,iV (tk L st).line,iV (tk L st).aj],164,false,false⟩:=by rw [aV,if_pos rfl]
  cases ze:HR L fuel y.2 with
  | none=>rw [ze] at he;cases he
  | some x=>
  obtain ⟨tl,s7⟩:=x
  rw [ze] at he
  cases he
  refine ag.by (Yn hL r6.nq.bK ze) ?_
  rintro vT H7 - ⟨⟨gT,Mt,VD⟩,p7⟩
  have r7:=r6.aZ p7
  have n7:H5.next+1<=H7.next:=p7.1.nx
  have hT:∀c∈gT,H5.next+1<=c/\c < H7.next:=VD
  have g7:=(p7.1.get H5.next (Nat.lt_succ_self _) (iO Cq)).trans g6
  obtain ⟨aT,kT,rfl⟩:=Mt.val
  have dC:eg H H7 m g H5.next:=⟨Cq,by omega,fun e=>by have:=(r5.nq.hm _ e).1;omega,fun e=>by have:=(r5.nq.hg _ e).1;omega⟩
  have r8:=r7.other eH (M:=[H5.next]) ((Fr.refl _ _).ah (b:=H5.next) (.inl (by simp)) ⟨[ae y.1,.slice aT tl.length kT,iV (tk L st).line,iV (tk L st).aj],164,false,false⟩) (fun c hc=>by rw [List.mem_singleton] at hc;subst hc;exact dC) (fun _ _=>rfl)
  have g8:(H7.ah H5.next ⟨[ae y.1,.slice aT tl.length kT,iV (tk L st).line,iV (tk L st).aj],164,false,false⟩).get H5.next=some ⟨[ae y.1,.slice aT tl.length kT,iV (tk L st).line,iV (tk L st).aj],164,false,false⟩:=by rw [az,if_pos rfl]
  simp only [go_sem,g7,jh]
  refine ag.by (iJ hL r8.nq.bK) ?_
  rintro _ H9 - p9
  have r9:=r8.aZ p9
  have n9:H7.next<=H9.next:=p9.1.nx
  have g9:=(p9.1.get H5.next (by show H5.next < H7.next;omega) (iO Cq)).trans g8
  obtain ⟨VE,VF,_⟩:=r9.cells
  have rp:=r9.push ⟨[ae y.1,.slice aT tl.length kT,iV (tk L st).line,iV (tk L st).aj],164,false,false⟩
  have mv:=h.nr rp
  obtain ⟨Mq,rj,_⟩:=rp.cells
  have eJ:Sl lH (H9.push ⟨[ae y.1,.slice aT tl.length kT,iV (tk L st).line,iV (tk L st).aj],164,false,false⟩) (.slice aT tl.length kT) tl gT:=Mt.af fun c hc=>by
   have:=hT c hc
   rw [bX (by omega),p9.1.get c (by show c < H7.next;omega) (iO (by omega)),az,if_neg (by omega)]
  have mw:∀c∈gT,eg H (H9.push ⟨[ae y.1,.slice aT tl.length kT,iV (tk L st).line,iV (tk L st).aj],164,false,false⟩) m g c:=fun c hc=>by
   have:=hT c hc
   exact ⟨by omega,by show c < H9.next+1;omega,fun e=>by have:=(r5.nq.hm _ e).1;omega,fun e=>by have:=(r5.nq.hg _ e).1;omega⟩
  have Gs:¬H5.next=H9.next:=by omega
  simp only [go_sem,VF,g9,jh,Gs,eB Oq (by decide) (by decide)]
  refine jZ (r:=qC) (x:=⟨y.1,tl,(tk L st).line,(tk L st).aj⟩) Oq mv.hR (fun c hc=>(mv.xR c hc).1.1) (fun c hc=>(mv.hG c (by simp [hc])).1) (fun c hc=>⟨(mw c hc).2.1,fun e=>by have:=(h.xR c e).1.1;have:=(mw c hc).1;omega⟩) (fun c hc=>tr c (by simp [hc])) (by rw [aV];exact if_pos rfl) ⟨_,rfl,eJ⟩ rfl (by show (P.bZ.length+1) * 56 < _;omega) ?_
  intro v7 pk bH ef jm dx jQ
  have qY:=(jm q rp.nq.pp.ql (fun e=>(h.xR q e).1.2.2.1 rfl)).trans rj
  obtain ⟨a7,rfl⟩:=bH.val
  have pO:=h.alB rp rj bH mw dx ef (by omega)
  simp only [go_sem,qY,wt]
  exact pO
 simp only [go_sem,mY]
 refine ag.by (fR r4.nq.bK) ?_
 rintro _ H5 - ⟨rfl,p5⟩
 have r5:=r4.aZ p5
 rw [E0,if_neg eV,if_neg mY] at he
 have zz:∀{Ha Hb:ad} {sa:aE},gg L F Ha q rb sa Hb->∀c,Hb.fz c=Ha.fz c:=fun p=>p.2.1
 have z5:∀c,c≠H1.next->H5.fz c=H.fz c:=fun c hc=>by
  rw [zz p5,zz p4,zz p3,qw,show (c==H1.next)=false from by simpa using hc,Bool.false_or,zz p1]
 by_cases DS:cP L [100,101,102] st=true
 ·have Gv:∀{c:Nat},c < H.next->H.fz c=false->H5.fz c=false:=fun hc e=>by rw [z5 _ (by omega)];exact e
  obtain ⟨P7,xG,_⟩:=r5.cells
  rw [if_pos (Or.inl DS)] at he
  by_cases yD:16<=P.defs.length
  ·have sG:(16:Int)<=((P.defs.length:Nat):Int):=by omega
   rw [if_pos yD] at he
   cases he
   simp only [go_sem,DS,xG,sG]
   refine ag.by (lh r5.nq.bK) ?_
   rintro _ jv - Jl
   have mu:=r5.aZ Jl
   simp only [go_sem]
   exact h.same mu
  have sG:¬((16:Int)<=((P.defs.length:Nat):Int)):=by omega
  rw [if_neg yD] at he
  cases lz:Li L aU fuel st P.nodes with
  | none=>rw [lz] at he;cases he
  | some B=>
  rw [lz] at he
  cases he
  simp only [go_sem,DS,xG,sG]
  have d5:=h.nr r5
  refine ag.by (ZX hL iW d5 r5.nq.fz r5.nq.fq (fun c hc=>?_) (jl DS) (by show P.defs.length < 16;omega) lz) ?_
  ·simp only [List.mem_append] at hc
   rcases hc with e | e | e | e
   ·exact Gv (h.xM c e).1.1 (tr c (by simp [e]))
   ·exact Gv (h.xR c e).1.1 (tr c (by simp [e]))
   ·exact Gv (h.xD c e).1.1 (tr c (by simp [e]))
   ·exact r5.nq.fm c e
  rintro _ H16 - ⟨f16,z16,T',G',VH,VI,t16⟩
  simp only [go_sem]
  have dU:=r5.fr.nx
  have f5:Fr (rb::q::(mM++(mR++(mD++m)))) H H5:=r5.fr.sub fun c hc=>.inl (by
   simp only [List.mem_cons,List.mem_append] at hc ⊢
   rcases hc with e | e | e <;> simp [e])
  exact ⟨(f5.then f16).ai _,fun _=>rfl,T',G',VH.ai,fun c hc=>(VI c hc).imp id fun e=>Nat.le_trans dU e,fun c hc=>(t16 c hc).imp id fun e=>Nat.le_trans dU e⟩
 simp only [go_sem,DS]
 refine ag.by (fR r5.nq.bK) ?_
 rintro _ H6 - ⟨rfl,p6⟩
 have r6:=r5.aZ p6
 by_cases DT:cP L [97,99,116,111,114] st=true
 ·have Gv:∀{c:Nat},c < H.next->H.fz c=false->H6.fz c=false:=fun hc e=>by rw [zz p6,z5 _ (by omega)];exact e
  obtain ⟨P7,xG,_⟩:=r6.cells
  rw [if_pos (Or.inr DT)] at he
  by_cases yD:16<=P.defs.length
  ·have sG:(16:Int)<=((P.defs.length:Nat):Int):=by omega
   rw [if_pos yD] at he
   cases he
   simp only [go_sem,DT,xG,sG]
   refine ag.by (lh r6.nq.bK) ?_
   rintro _ jv - Jl
   have mu:=r6.aZ Jl
   simp only [go_sem]
   exact h.same mu
  have sG:¬((16:Int)<=((P.defs.length:Nat):Int)):=by omega
  rw [if_neg yD] at he
  cases lz:Li L aU fuel st P.nodes with
  | none=>rw [lz] at he;cases he
  | some B=>
  rw [lz] at he
  cases he
  simp only [go_sem,DT,xG,sG]
  have d5:=h.nr r6
  refine ag.by (ZX hL iW d5 r6.nq.fz r6.nq.fq (fun c hc=>?_) (jl DT) (by show P.defs.length < 16;omega) lz) ?_
  ·simp only [List.mem_append] at hc
   rcases hc with e | e | e | e
   ·exact Gv (h.xM c e).1.1 (tr c (by simp [e]))
   ·exact Gv (h.xR c e).1.1 (tr c (by simp [e]))
   ·exact Gv (h.xD c e).1.1 (tr c (by simp [e]))
   ·exact r6.nq.fm c e
  rintro _ H16 - ⟨f16,z16,T',G',VH,VI,t16⟩
  simp only [go_sem]
  have dU:=r6.fr.nx
  have f5:Fr (rb::q::(mM++(mR++(mD++m)))) H H6:=r6.fr.sub fun c hc=>.inl (by
   simp only [List.mem_cons,List.mem_append] at hc ⊢
   rcases hc with e | e | e <;> simp [e])
  exact ⟨(f5.then f16).ai _,fun _=>rfl,T',G',VH.ai,fun c hc=>(VI c hc).imp id fun e=>Nat.le_trans dU e,fun c hc=>(t16 c hc).imp id fun e=>Nat.le_trans dU e⟩
 rw [if_neg (fun e=>e.elim DS DT)] at he
 cases he
 simp only [go_sem,DT]
 refine ag.by (lh r6.nq.bK) ?_
 rintro _ H7 - p7
 have r7:=r6.aZ p7
 simp only [go_sem]
 exact h.same r7
end
theorem Rk:∀(k:Nat) (s:bf) (line aj:Int) (acc l:List bc),ey k s line aj acc=.ok l->l.length<=acc.length+s.length+1/\∀t∈l,t∈acc∨t.text.length<=s.length
 | 0,s,line,aj,acc,l,h=>by cases h
 | k+1,[],line,aj,acc,l,h=>by
  rw [ey] at h
  cases h
  refine ⟨by simp,fun t ht=>?_⟩
  rcases List.mem_append.1 ht with e | e
  ·exact .inl e
  ·rw [List.mem_singleton] at e
   subst e
   exact .inr (Nat.le_refl _)
 | k+1,c::r,line,aj,acc,l,h=>by
  have up:∀{s':bf} {ajT alM:Int},s'.length<=(c::r).length->ey k s' ajT alM acc=.ok l->l.length<=acc.length+(c::r).length+1/\∀t∈l,t∈acc∨t.text.length<=(c::r).length:=fun hs h=>by
   obtain ⟨h1,h2⟩:=Rk k _ _ _ _ _ h
   exact ⟨by omega,fun t ht=>(h2 t ht).imp id fun e=>Nat.le_trans e hs⟩
  rw [ey] at h
  split at h
  ·exact up (by simp) h
  split at h
  ·exact up (by simp) h
  split at h
  ·exact up (List.dropWhile_suffix _).length_le h
  split at h
  ·cases h
  ·rename_i kind w hp
   have hw:=J1 hp
   obtain ⟨h1,h2⟩:=Rk k _ _ _ _ _ h
   rw [List.length_append,List.length_drop,List.length_singleton] at h1
   refine ⟨by omega,fun t ht=>?_⟩
   rcases h2 t ht with e | e
   ·rcases List.mem_append.1 e with e | e
    ·exact .inl e
    ·rw [List.mem_singleton] at e
     subst e
     right
     show ((c::r).take w).length<=_
     rw [List.length_take];omega
   ·right
    rw [List.length_drop] at e
    omega
theorem acv {s:bf} {l:List bc} (h:ua s=.ok l) (hs:s.length < 999000):LG l:=by
 have h1:=acp h
 unfold ua at h
 split at h
 ·cases h
 ·obtain ⟨h2,h3⟩:=Rk _ _ _ _ _ _ h
  exact ⟨h1,by simp at h2;omega,fun t ht=>by
   rcases h3 t ht with e | e
   ·cases e
   ·omega⟩
section
variable {P:Program} {X:Nat->Bool}
theorem Ez {T:oF} {n:Nat} {a b:Code} (h:mH P T n (.seq a b)=true):mH P T n a=true/\mH P T n b=true:=by
 simpa only [mH,Bool.and_eq_true] using h
end
def EN (L:List bc) (fuel:Nat):Nat->aE->bw->Option (aE × bw)
 | 0,_,_=>none
 | k+1,st,P=>if c9 st=true/\(tk L st).kind≠4 then (E0 L (C2 L fuel) fuel st P).bind fun x=>EN L fuel k x.1 x.2 else some (st,P)
def Kw (fuel:Nat) (s:bf):Option (Option bw):=match ua s with
 | .bad=>some none
 | .ok L=>(EN L fuel fuel ⟨0,0,0⟩ {}).map fun x=>if c9 x.1=true then some x.2 else none
def PgV (H H':ad) (w:Value) (P:bw):Prop:=∃vM vR vD vN gM gR gD gN,w=.agg #[vM,vR,vD,vN]/\Sl pI H' vM P.msgs gM/\Sl qC H' vR P.bZ gR/\Sl jq H' vD P.defs gD/\Sl kr H' vN P.nodes gN/\hZ H H' (gM++(gR++(gD++gN)))
def ahw (R:Option bw) (H H':ad) (w:Value):Prop:=match R with
 | some P=>∃v,w=.tuple #[v,iV 0,iV 0,iV 0]/\PgV H H' v P
 | none=>∃v a b e,w=.tuple #[v,iV a,iV b,iV e]/\e≠0/\PgV H H' v {}
theorem rG {h:KH}:fQ Tryz.prog 28 [] h=.ok (.agg #[.slice none 0 0,.slice none 0 0,.slice none 0 0,.slice none 0 0]) h:=by kernel_rfl
theorem aeA {H:ad} {s:bf} (hs:s.length < 999000) {fuel:Nat} {R:Option bw} (he:Kw fuel s=some R):ak Tryz.prog 59 #[ae s] H (fun w H'=>ba H H'/\ahw R H H' w):=by
 refine ak.told ?_
 obtain ⟨c,hb,hc⟩:=Ka aiL Tryz.func59
 refine Ol (l:=[ae s]) Tryz.func59 hb (show 1<=60 by decide) fun hf=>?_
 have jx:c=Tryz.f59.body.getD .skip:=by rw [hb];rfl
 subst jx
 simp only [Tryz.f59,Option.getD_some] at hc ⊢
 obtain ⟨j5,hc⟩:=Ez hc
 refine wS.seq (wS.of mixed j5 ?_)
 simp only [go_sem]
 have dz:H.fz H.next=false:=hf.fresh (Nat.le_refl _)
 obtain ⟨eA,hc⟩:=Ez hc
 obtain ⟨il,hc⟩:=Ez hc
 obtain ⟨At,hc⟩:=Ez hc
 refine wS.seq (wS.of mixed eA ?_)
 simp only [go_sem]
 refine ag.by (adP (by omega)) ?_
 rintro w H2 - ⟨ho,hk⟩
 have Vf:H.next+1<=H2.next:=ho.nx
 have Mu:ba H H2:=(ba.push H _).trans ho
 have g2:H2.get H.next=some ⟨[.slice none 0 0,.slice none 0 0,.slice none 0 0,.slice none 0 0],28,false,false⟩:=(ho.get H.next (Nat.lt_succ_self _)).trans (by rw [aV,if_pos rfl])
 unfold Kw at he
 cases hT:ua s with
 | bad=>
  rw [hT] at he hk
  cases he
  obtain ⟨a,b,e,rfl,dv⟩:=hk
  simp only [go_sem]
  refine wS.seq (wS.of mixed il ?_)
  simp only [go_sem,dv,rG,g2,dz]
  refine ⟨(((Mu.fr []).ah (.inr (Nat.le_refl _)) _).ai _).aH,_,a,b,e,rfl,dv,_,_,_,_,[],[],[],[],rfl,.inl ⟨rfl,rfl,rfl⟩,.inl ⟨rfl,rfl,rfl⟩,.inl ⟨rfl,rfl,rfl⟩,.inl ⟨rfl,rfl,rfl⟩,by simp [hZ]⟩
 | ok L=>
  rw [hT] at he hk
  obtain ⟨vL,f,rfl,eK,fG⟩:=hk
  obtain ⟨aL,kL,rfl⟩:=eK.val
  have VJ:=acv hT hs
  simp only at he
  cases qh:EN L fuel fuel ⟨0,0,0⟩ {} with
  | none=>rw [qh] at he;cases he
  | some B=>
  rw [qh] at he
  cases he
  simp only [go_sem]
  refine wS.seq (wS.of mixed il ?_)
  simp only [go_sem]
  refine wS.seq (wS.told (wS.of mixed At ?_))
  simp only [go_sem]
  refine ⟨H.fz,fun _ h=>h,fun b hb=>by have:=hf.fz b hb;omega,wS.of mixed hc ?_⟩
  have vV:∀b,H.next<=b->H.fz b=false:=fun b hb=>hf.fresh hb
  have alN:0 < L.length:=by
   obtain ⟨l',e,rfl,_⟩:=VJ.ok
   simp
  have Ti:Fr [] H2 (((H2.push ⟨[.slice aL L.length kL,iV 0,.slice none 0 0,.bool true,iV 0,iV 0,.slice none 0 0],125,false,false⟩).push ⟨[pV H2.next,.slice none 0 0,.slice none 0 0,.slice none 0 0,.slice none 0 0],127,false,false⟩).ai H.fz):=(((Fr.refl [] H2).push _).push _).ai _
  have Cr:PP0 L f (((H2.push ⟨[.slice aL L.length kL,iV 0,.slice none 0 0,.bool true,iV 0,iV 0,.slice none 0 0],125,false,false⟩).push ⟨[pV H2.next,.slice none 0 0,.slice none 0 0,.slice none 0 0,.slice none 0 0],127,false,false⟩).ai H.fz) (H2.next+1) H2.next ⟨0,0,0⟩:=
   ⟨⟨_,_,_,_,by rw [bg,aV];exact if_pos rfl⟩,⟨_,_,_,_,by rw [bg,bX (by rw [bJ];omega),aV,if_pos rfl];rfl,eK.af fun c hc=>Ti.get c (fG.hi c hc) (by simp)⟩,fun b hb=>⟨by have:=fG.hi b hb;show b < H2.next+2;omega,by have:=fG.hi b hb;omega,by have:=fG.hi b hb;omega⟩,by omega,alN,by show H2.next+1 < H2.next+2;omega,by show H2.next < H2.next+2;omega⟩
  have hdq:DQ L f (((H2.push ⟨[.slice aL L.length kL,iV 0,.slice none 0 0,.bool true,iV 0,iV 0,.slice none 0 0],125,false,false⟩).push ⟨[pV H2.next,.slice none 0 0,.slice none 0 0,.slice none 0 0,.slice none 0 0],127,false,false⟩).ai H.fz) (H2.next+1) H2.next ⟨0,0,0⟩ {} [] []:=
   ⟨⟨.slice none 0 0,.slice none 0 0,.slice none 0 0,[],[],[],[],[],[],[],[],⟨⟨Cr,⟨_,by rw [bg,aV];exact if_pos rfl,Gr.nil _ _ _⟩,by simp,by simp,by simp⟩,Gr.nil _ _ _,Gr.nil _ _ _,Gr.nil _ _ _,by simp,by simp,by simp,by simp,by simp,by simp,by simp,by simp⟩,rfl,rfl⟩,vV _ (by omega),vV _ (by omega),by simp,fun b hb=>vV b (by have:H2.next+2<=b:=hb;omega)⟩
  generalize (((H2.push ⟨[.slice aL L.length kL,iV 0,.slice none 0 0,.bool true,iV 0,iV 0,.slice none 0 0],125,false,false⟩).push ⟨[pV H2.next,.slice none 0 0,.slice none 0 0,.slice none 0 0,.slice none 0 0],127,false,false⟩).ai H.fz)=H4 at Ti hdq
  clear Cr
  simp only [go_sem]
  refine la 549218942976 (fun n V H5=>∃bC P2 T G,DQ L f H5 (H2.next+1) H2.next bC P2 T G/\Fr [] H2 H5/\(∀c∈T,H2.next<=c)/\(∀c∈G,H2.next<=c)/\EN L fuel n bC P2=some B) (n:=fuel)
   ⟨⟨0,0,0⟩,{},[],[],hdq,Ti,by simp,by simp,qh⟩ ?_ (by rfl)
  rintro n V H5 ⟨bC,P2,T,G,dq,f5,zk,Cs,qh⟩
  cases n with
  | zero=>cases qh
  | succ n=>
  rw [EN] at qh
  obtain ⟨⟨c1,c2,c3,mM,gM,mR,gR,mD,gD,m,g,lz,rfl,rfl⟩,fz,fq,fT,fn⟩:=dq
  have eH:=lz.Ml fz fq fT fn
  have r0:=NR.start eH
  have Gw:∀c∈H2.next::(H2.next+1)::m,H2.next<=c:=fun c hc=>by
   simp only [List.mem_cons] at hc
   rcases hc with e | e | e
   ·omega
   ·omega
   ·exact zk c (by simp [e])
  simp only [go_sem]
  refine ag.by (eZ eH.bK) ?_
  rintro _ _ - ⟨rfl,rfl⟩
  by_cases Fv:c9 bC=true
  ·simp only [go_sem,Fv]
   refine ag.by (rJ eH.bK) ?_
   rintro _ H6 - ⟨rfl,p6⟩
   have r6:=r0.aZ p6
   have qJ:DF L f c1 c2 c3 H6 (H2.next+1) H2.next bC P2 mM gM mR gR mD gD m g:=lz.nr r6
   by_cases ir:(tk L bC).kind=4
   ·rw [if_neg (fun e=>e.2 ir)] at qh
    cases qh
    simp only [go_sem,ir]
    have yE:∀c∈(mM++gM)++((mR++gR)++((mD++gD)++(m++g))),H2.next<=c/\c < H6.next:=fun c hc=>by
     simp only [List.mem_append] at hc
     rcases hc with (e | e) | (e | e) | (e | e) | (e | e)
     ·exact ⟨zk c (by simp [e]),(qJ.xM c e).1.1⟩
     ·exact ⟨Cs c (by simp [e]),(qJ.hG c (by simp [e])).1⟩
     ·exact ⟨zk c (by simp [e]),(qJ.xR c e).1.1⟩
     ·exact ⟨Cs c (by simp [e]),(qJ.hG c (by simp [e])).1⟩
     ·exact ⟨zk c (by simp [e]),(qJ.xD c e).1.1⟩
     ·exact ⟨Cs c (by simp [e]),(qJ.hG c (by simp [e])).1⟩
     ·exact ⟨zk c (by simp [e]),(qJ.nq.hm c e).1⟩
     ·exact ⟨Cs c (by simp [e]),(qJ.nq.hg c e).1⟩
    refine ag.by (eZ r6.nq.bK) ?_
    rintro _ _ - ⟨rfl,rfl⟩
    obtain ⟨e1,e2,e3,e4,bL,oL,cL,BL,a,j,c,hq,hr,_⟩:=r6.nq.pp.fy
    have f6:Fr [] H2 H6:=f5.trans r6.fr fun c hc=>.inr (Gw c hc)
    have g6:=(f6.get H.next (by omega) (by simp)).trans g2
    have o6:ba H H6:=Mu.trans f6.aH
    by_cases gi:c9 bC=true
    ·rw [if_pos gi]
     obtain ⟨vN,Mv,lY⟩:=qJ.nq.row
     obtain ⟨aM,rfl⟩:=qJ.hM.val
     obtain ⟨aR,rfl⟩:=qJ.hR.val
     obtain ⟨aD,rfl⟩:=qJ.hD.val
     obtain ⟨aN,rfl⟩:=lY.val
     have Mw:¬H.next=H2.next+1:=by omega
     simp only [go_sem,gi,Mv,g6,dz]
     have VK:Fr [] H (H6.ah H.next ⟨[.slice aM P2.msgs.length P2.msgs.length,.slice aR P2.bZ.length P2.bZ.length,.slice aD P2.defs.length P2.defs.length,.slice aN P2.nodes.length P2.nodes.length],28,false,false⟩):=(o6.fr []).ah (.inr (Nat.le_refl _)) _
     have kE:∀c,H2.next<=c->(H6.ah H.next ⟨[.slice aM P2.msgs.length P2.msgs.length,.slice aR P2.bZ.length P2.bZ.length,.slice aD P2.defs.length P2.defs.length,.slice aN P2.nodes.length P2.nodes.length],28,false,false⟩).get c=H6.get c:=fun c hc=>by rw [az,if_neg (by omega)]
     refine ⟨(VK.ai _).aH,_,rfl,_,_,_,_,mM++gM,mR++gR,mD++gD,m++g,rfl,qJ.hM.sl.af fun c hc=>kE c (yE c (by simp only [List.mem_append] at hc ⊢;rcases hc with e | e <;> simp [e])).1,qJ.hR.sl.af fun c hc=>kE c (yE c (by simp only [List.mem_append] at hc ⊢;rcases hc with e | e <;> simp [e])).1,qJ.hD.sl.af fun c hc=>kE c (yE c (by simp only [List.mem_append] at hc ⊢;rcases hc with e | e <;> simp [e])).1,lY.sl.af fun c hc=>kE c (yE c (by simp only [List.mem_append] at hc ⊢;rcases hc with e | e <;> simp [e])).1,fun c hc=>?_⟩
     have:=yE c (by simp only [List.mem_append] at hc ⊢;exact hc)
     exact ⟨by omega,this.2⟩
    ·rw [if_neg gi]
     have Dy:bC.bad≠0:=by simpa [c9] using gi
     simp only [go_sem,gi]
     refine ag.by (rJ r6.nq.bK) ?_
     rintro _ H7 - ⟨rfl,p7⟩
     have r7:=r6.aZ p7
     simp only [go_sem]
     refine ag.by (rJ r7.nq.bK) ?_
     rintro _ H8 - ⟨rfl,p8⟩
     have r8:=r7.aZ p8
     obtain ⟨e1,e2,e3,e4,bL,oL,cL,BL,a,j,c,VM,Ct,_⟩:=r8.nq.pp.fy
     have f8:Fr [] H2 H8:=f5.trans r8.fr fun c hc=>.inr (Gw c hc)
     have g8:=(f8.get H.next (by omega) (by simp)).trans g2
     obtain ⟨u1,u2,u3,u4,bL7,oL7,cL7,BL7,a7,j7,c7,qY,kZ,_⟩:=r7.nq.pp.fy
     have Mw:¬H2.next+1=H.next:=by omega
     have VN:¬H2.next=H.next:=by omega
     simp only [go_sem,rG,hq,hr,qY,kZ,VM,Ct,g8,dz,Mw,VN]
     refine ⟨((((Mu.trans f8.aH).fr []).ah (.inr (Nat.le_refl _)) _).ai _).aH,_,_,_,_,rfl,Dy,_,_,_,_,[],[],[],[],rfl,.inl ⟨rfl,rfl,rfl⟩,.inl ⟨rfl,rfl,rfl⟩,.inl ⟨rfl,rfl,rfl⟩,.inl ⟨rfl,rfl,rfl⟩,by simp [hZ]⟩
   ·rw [if_pos ⟨Fv,ir⟩] at qh
    cases VO:E0 L (C2 L fuel) fuel bC P2 with
    | none=>rw [VO] at qh;cases qh
    | some x=>
    obtain ⟨AA,P3⟩:=x
    rw [VO] at qh
    simp only [Option.bind_some] at qh
    simp only [go_sem,ir]
    refine ag.by (ahv VJ (fun {c1 c2 c3}=>YQ VJ fuel) qJ r6.nq.fz r6.nq.fq (fun c hc=>by rw [p6.2.1];exact fT c hc) VO) ?_
    rintro _ H7 - p7
    have alO:DQ L f H6 (H2.next+1) H2.next bC P2 (mM++(mR++(mD++m))) (gM++(gR++(gD++g))):=⟨qJ.q0,r6.nq.fz,r6.nq.fq,fun c hc=>by rw [p6.2.1];exact fT c hc,r6.nq.fn⟩
    obtain ⟨T',G',dq7,s7,t7⟩:=alO.post p7
    have f6:Fr [] H2 H6:=f5.trans r6.fr fun c hc=>.inr (Gw c hc)
    have f7:Fr [] H2 H7:=f6.trans p7.1 fun c hc=>.inr (by
     simp only [List.mem_cons] at hc
     rcases hc with e | e | e
     ·omega
     ·omega
     ·exact zk c e)
    have n6:=f6.nx
    simp only [go_sem]
    exact ⟨n,by omega,AA,P3,T',G',dq7,f7,fun c hc=>(s7 c hc).elim (zk c) fun e=>by omega,fun c hc=>(t7 c hc).elim (Cs c) fun e=>by omega,qh⟩
  ·rw [if_neg (fun e=>Fv e.1)] at qh
   cases qh
   simp only [go_sem,Fv]
   have yE:∀c∈(mM++gM)++((mR++gR)++((mD++gD)++(m++g))),H2.next<=c/\c < H5.next:=fun c hc=>by
    simp only [List.mem_append] at hc
    rcases hc with (e | e) | (e | e) | (e | e) | (e | e)
    ·exact ⟨zk c (by simp [e]),(lz.xM c e).1.1⟩
    ·exact ⟨Cs c (by simp [e]),(lz.hG c (by simp [e])).1⟩
    ·exact ⟨zk c (by simp [e]),(lz.xR c e).1.1⟩
    ·exact ⟨Cs c (by simp [e]),(lz.hG c (by simp [e])).1⟩
    ·exact ⟨zk c (by simp [e]),(lz.xD c e).1.1⟩
    ·exact ⟨Cs c (by simp [e]),(lz.hG c (by simp [e])).1⟩
    ·exact ⟨zk c (by simp [e]),(lz.nq.hm c e).1⟩
    ·exact ⟨Cs c (by simp [e]),(lz.nq.hg c e).1⟩
   refine ag.by (eZ r0.nq.bK) ?_
   rintro _ _ - ⟨rfl,rfl⟩
   obtain ⟨e1,e2,e3,e4,bL,oL,cL,BL,a,j,c,hq,hr,_⟩:=r0.nq.pp.fy
   have f6:Fr [] H2 H5:=f5.trans r0.fr fun c hc=>.inr (Gw c hc)
   have g6:=(f6.get H.next (by omega) (by simp)).trans g2
   have o6:ba H H5:=Mu.trans f6.aH
   by_cases gi:c9 bC=true
   ·rw [if_pos gi]
    obtain ⟨vN,Mv,lY⟩:=lz.nq.row
    obtain ⟨aM,rfl⟩:=lz.hM.val
    obtain ⟨aR,rfl⟩:=lz.hR.val
    obtain ⟨aD,rfl⟩:=lz.hD.val
    obtain ⟨aN,rfl⟩:=lY.val
    have Mw:¬H.next=H2.next+1:=by omega
    simp only [go_sem,gi,Mv,g6,dz]
    have VK:Fr [] H (H5.ah H.next ⟨[.slice aM P2.msgs.length P2.msgs.length,.slice aR P2.bZ.length P2.bZ.length,.slice aD P2.defs.length P2.defs.length,.slice aN P2.nodes.length P2.nodes.length],28,false,false⟩):=(o6.fr []).ah (.inr (Nat.le_refl _)) _
    have kE:∀c,H2.next<=c->(H5.ah H.next ⟨[.slice aM P2.msgs.length P2.msgs.length,.slice aR P2.bZ.length P2.bZ.length,.slice aD P2.defs.length P2.defs.length,.slice aN P2.nodes.length P2.nodes.length],28,false,false⟩).get c=H5.get c:=fun c hc=>by rw [az,if_neg (by omega)]
    refine ⟨(VK.ai _).aH,_,rfl,_,_,_,_,mM++gM,mR++gR,mD++gD,m++g,rfl,lz.hM.sl.af fun c hc=>kE c (yE c (by simp only [List.mem_append] at hc ⊢;rcases hc with e | e <;> simp [e])).1,lz.hR.sl.af fun c hc=>kE c (yE c (by simp only [List.mem_append] at hc ⊢;rcases hc with e | e <;> simp [e])).1,lz.hD.sl.af fun c hc=>kE c (yE c (by simp only [List.mem_append] at hc ⊢;rcases hc with e | e <;> simp [e])).1,lY.sl.af fun c hc=>kE c (yE c (by simp only [List.mem_append] at hc ⊢;rcases hc with e | e <;> simp [e])).1,fun c hc=>?_⟩
    have:=yE c (by simp only [List.mem_append] at hc ⊢;exact hc)
    exact ⟨by omega,this.2⟩
   ·rw [if_neg gi]
    have Dy:bC.bad≠0:=by simpa [c9] using gi
    simp only [go_sem,gi]
    refine ag.by (rJ r0.nq.bK) ?_
    rintro _ H7 - ⟨rfl,p7⟩
    have r7:=r0.aZ p7
    simp only [go_sem]
    refine ag.by (rJ r7.nq.bK) ?_
    rintro _ H8 - ⟨rfl,p8⟩
    have r8:=r7.aZ p8
    obtain ⟨e1,e2,e3,e4,bL,oL,cL,BL,a,j,c,VM,Ct,_⟩:=r8.nq.pp.fy
    have f8:Fr [] H2 H8:=f5.trans r8.fr fun c hc=>.inr (Gw c hc)
    have g8:=(f8.get H.next (by omega) (by simp)).trans g2
    obtain ⟨u1,u2,u3,u4,bL7,oL7,cL7,BL7,a7,j7,c7,qY,kZ,_⟩:=r7.nq.pp.fy
    have Mw:¬H2.next+1=H.next:=by omega
    have VN:¬H2.next=H.next:=by omega
    simp only [go_sem,rG,hq,hr,qY,kZ,VM,Ct,g8,dz,Mw,VN]
    refine ⟨((((Mu.trans f8.aH).fr []).ah (.inr (Nat.le_refl _)) _).ai _).aH,_,_,_,_,rfl,Dy,_,_,_,_,[],[],[],[],rfl,.inl ⟨rfl,rfl,rfl⟩,.inl ⟨rfl,rfl,rfl⟩,.inl ⟨rfl,rfl,rfl⟩,.inl ⟨rfl,rfl,rfl⟩,by simp [hZ]⟩
section
variable {H:ad}
def findF (s:bf):Nat->List bf->Int
 | _,[]=> -1
 | i,x::l=>if x=s then ((i:Nat):Int) else findF s (i+1) l
def cK (l:List bf) (s:bf):Int:=findF s 0 l
theorem qy {v:Value} {l:List bf} {g:List Nat} {s:bf} (h:Sl .str H v l g) (hl:l.length < 1000000):ak Tryz.prog 121 #[v,ae s] H (fun w H'=>w=iV (cK l s)/\H=H'):=by
 refine afI (Nat.le_refl _) fun hf=>?_
 simp only [Tryz.f121,Option.getD_some]
 obtain ⟨a,c,rfl⟩:=h.val
 simp only [go_sem]
 refine iw 523888 l.length (fun i V H2=>V 9=iV (i:Nat)/\H=H2/\cK l s=findF s i (l.drop i)) ⟨by simp only [go_sem] <;> rfl,rfl,rfl⟩ ?_ ?_ (by rfl)
 ·rintro i V H2 hi ⟨e9,rfl,gY⟩
  have hx:l[i]?=some (l[i]'hi):=List.getElem?_eq_getElem hi
  have cE:l.drop i=(l[i]'hi)::l.drop (i+1):=(List.getElem_cons_drop hi).symm
  generalize (l[i]'hi)=x at hx cE
  obtain ⟨b,o,c',B,hv,hB,ep,iC⟩:=h.Kv hx
  cases hv
  rw [cE,findF] at gY
  have ct:IntKind.wrap .i64 (((i:Nat):Int)+1)=((i+1:Nat):Int):=cZ hi (by omega)
  by_cases yS:x=s
  ·rw [if_pos yS] at gY
   simp only [go_sem,e9,hi,hB,iC,yS]
   rw [gY]
  ·rw [if_neg yS] at gY
   simp only [go_sem,e9,hi,hB,iC,yS,ct]
   exact gY
 ·rintro V H2 ⟨e9,rfl,gY⟩
  simp only [go_sem,e9]
  rw [List.drop_length] at gY
  rw [gY];rfl
theorem Oa {vM vR vD vN:Value} {l:List BC} {g:List Nat} (h:Sl pI H vM l g) (hl:l.length < 1000000) (hg:∀b∈g,b < H.next):ak Tryz.prog 118 #[.agg #[vM,vR,vD,vN]] H (fun w H'=>(∃g',Sl .str H' w (l.map (·.name)) g'/\hZ H H' g')/\ba H H'/\∀c,H'.fz c=H.fz c):=by
 refine ak.told ?_
 refine afC (Nat.le_refl _) fun hf=>?_
 simp only [Tryz.f118,Option.getD_some]
 obtain ⟨a,c,rfl⟩:=h.val
 simp only [go_sem]
 refine iw 523816 l.length (fun i V H2=>V 9=iV (i:Nat)/\∃v m,V 3=v/\Gr .str 9 H2 v ((l.take i).map (·.name)) m []/\hZ H H2 m/\ba H H2)
  ⟨by simp only [go_sem] <;> rfl,.slice none 0 0,[],by simp only [go_sem] <;> rfl,Gr.nil _ _ _,by simp [hZ],((Fr.refl [] H).push _).aH⟩ ?_ ?_ (by rfl)
 ·rintro i V H2 hi ⟨ei,v,m,e3,cB,cO,ho⟩
  have hx:l[i]?=some (l[i]'hi):=List.getElem?_eq_getElem hi
  have iF:l.take (i+1)=l.take i++[l[i]'hi]:=List.take_succ_eq_append_getElem hi
  generalize (l[i]'hi)=x at hx iF
  have h2:=h.af (H':=H2) fun b hb=>ho.get b (hg b hb)
  obtain ⟨b,o,c',B,gx,hv,hB,ep,dj,cm,hE⟩:=h2.at hx
  cases hv
  obtain ⟨v5,aX,fC⟩:=hE
  obtain ⟨a5,k5,rfl⟩:=fC.val
  have ez:o+i * 4+4<=B.cells.length:=cm
  have aX:(B.cells.drop (o+i * 4)).take 4=[ae x.name,.slice a5 x.types.length k5,iV x.line,iV x.aj]:=aX
  have ct:IntKind.wrap .i64 (((i:Nat):Int)+1)=((i+1:Nat):Int):=cZ hi (by omega)
  obtain ⟨av,tu⟩:=cB.val
  have be:((l.take i).map (·.name)).length=i:=by rw [List.length_map,List.length_take];omega
  have er:H.fz H2.next=false:=hf.fresh ho.nx
  rw [be] at tu
  simp only [go_sem,ei,e3,tu,hi,hB,ez,aX,er,eB vj (by decide) (by decide)]
  rw [<-tu]
  have Fw:=(cB.af (H':=(H2.push ⟨[ae x.name,.slice a5 x.types.length k5,iV x.line,iV x.aj],107,false,false⟩).push ⟨[ae x.name],9,false,false⟩) (fun b hb=>by have:=(cO b hb).2;rw [bX (by rw [bJ];omega),bX this]) (by simp))
  refine jZ (r:=.str) (x:=x.name) (g':=[]) vj Fw (fun c hc=>by have:=(cO c hc).2;rw [bJ,bJ];omega) (by simp) (by simp) (fun c hc=>hf.fresh (cO c hc).1) (by rw [aV];exact if_pos rfl) ⟨rfl,rfl⟩ rfl (by rw [be];omega) ?_
  intro v7 H7 bH ef jm dx jQ
  have wh:ba H H7:=((((ho.fr []).push _).push _).trans dx fun c hc=>.inr (cO c hc).1).aH
  simp only [go_sem,ei,ct]
  refine ⟨v7,[H2.next+2],rfl,?_,fun c hc=>?_,wh⟩
  ·rw [iF,List.map_append];exact bH
  ·rw [List.mem_singleton] at hc
   subst hc
   have:=ho.nx
   have SA:H7.next=H2.next+3:=ef
   omega
 ·rintro V H2 ⟨ei,v,m,e3,cB,cO,ho⟩
  simp only [go_sem,ei,e3]
  rw [List.take_length] at cB
  have:=cB.sl
  rw [List.append_nil] at this
  exact ⟨⟨m,this.af fun _ _=>rfl,cO⟩,((ho.fr []).ai _).aH,fun _=>trivial⟩
theorem Ia {vM vR vD vN:Value} {l:List BE} {g:List Nat} (h:Sl qC H vR l g) (hl:l.length < 1000000) (hg:∀b∈g,b < H.next):ak Tryz.prog 119 #[.agg #[vM,vR,vD,vN]] H (fun w H'=>(∃g',Sl .str H' w (l.map (·.name)) g'/\hZ H H' g')/\ba H H'/\∀c,H'.fz c=H.fz c):=by
 refine ak.told ?_
 refine afE (Nat.le_refl _) fun hf=>?_
 simp only [Tryz.f119,Option.getD_some]
 obtain ⟨a,c,rfl⟩:=h.val
 simp only [go_sem]
 refine iw 523816 l.length (fun i V H2=>V 9=iV (i:Nat)/\∃v m,V 3=v/\Gr .str 9 H2 v ((l.take i).map (·.name)) m []/\hZ H H2 m/\ba H H2)
  ⟨by simp only [go_sem] <;> rfl,.slice none 0 0,[],by simp only [go_sem] <;> rfl,Gr.nil _ _ _,by simp [hZ],((Fr.refl [] H).push _).aH⟩ ?_ ?_ (by rfl)
 ·rintro i V H2 hi ⟨ei,v,m,e3,cB,cO,ho⟩
  have hx:l[i]?=some (l[i]'hi):=List.getElem?_eq_getElem hi
  have iF:l.take (i+1)=l.take i++[l[i]'hi]:=List.take_succ_eq_append_getElem hi
  generalize (l[i]'hi)=x at hx iF
  have h2:=h.af (H':=H2) fun b hb=>ho.get b (hg b hb)
  obtain ⟨b,o,c',B,gx,hv,hB,ep,dj,cm,hE⟩:=h2.at hx
  cases hv
  obtain ⟨v5,aX,fC⟩:=hE
  obtain ⟨a5,k5,rfl⟩:=fC.val
  have ez:o+i * 4+4<=B.cells.length:=cm
  have aX:(B.cells.drop (o+i * 4)).take 4=[ae x.name,.slice a5 x.fields.length k5,iV x.line,iV x.aj]:=aX
  have ct:IntKind.wrap .i64 (((i:Nat):Int)+1)=((i+1:Nat):Int):=cZ hi (by omega)
  obtain ⟨av,tu⟩:=cB.val
  have be:((l.take i).map (·.name)).length=i:=by rw [List.length_map,List.length_take];omega
  have er:H.fz H2.next=false:=hf.fresh ho.nx
  rw [be] at tu
  simp only [go_sem,ei,e3,tu,hi,hB,ez,aX,er,eB vj (by decide) (by decide)]
  rw [<-tu]
  have Fw:=(cB.af (H':=(H2.push ⟨[ae x.name,.slice a5 x.fields.length k5,iV x.line,iV x.aj],164,false,false⟩).push ⟨[ae x.name],9,false,false⟩) (fun b hb=>by have:=(cO b hb).2;rw [bX (by rw [bJ];omega),bX this]) (by simp))
  refine jZ (r:=.str) (x:=x.name) (g':=[]) vj Fw (fun c hc=>by have:=(cO c hc).2;rw [bJ,bJ];omega) (by simp) (by simp) (fun c hc=>hf.fresh (cO c hc).1) (by rw [aV];exact if_pos rfl) ⟨rfl,rfl⟩ rfl (by rw [be];omega) ?_
  intro v7 H7 bH ef jm dx jQ
  have wh:ba H H7:=((((ho.fr []).push _).push _).trans dx fun c hc=>.inr (cO c hc).1).aH
  simp only [go_sem,ei,ct]
  refine ⟨v7,[H2.next+2],rfl,?_,fun c hc=>?_,wh⟩
  ·rw [iF,List.map_append];exact bH
  ·rw [List.mem_singleton] at hc
   subst hc
   have:=ho.nx
   have SA:H7.next=H2.next+3:=ef
   omega
 ·rintro V H2 ⟨ei,v,m,e3,cB,cO,ho⟩
  simp only [go_sem,ei,e3]
  rw [List.take_length] at cB
  have:=cB.sl
  rw [List.append_nil] at this
  exact ⟨⟨m,this.af fun _ _=>rfl,cO⟩,((ho.fr []).ai _).aH,fun _=>trivial⟩
theorem R5 {vM vR vD vN:Value} {l:List eo} {g:List Nat} (h:Sl jq H vD l g) (hl:l.length < 1000000) (hg:∀b∈g,b < H.next):ak Tryz.prog 120 #[.agg #[vM,vR,vD,vN]] H (fun w H'=>(∃g',Sl .str H' w (l.map (·.name)) g'/\hZ H H' g')/\ba H H'/\∀c,H'.fz c=H.fz c):=by
 refine ak.told ?_
 refine afG (Nat.le_refl _) fun hf=>?_
 simp only [Tryz.f120,Option.getD_some]
 obtain ⟨a,c,rfl⟩:=h.val
 simp only [go_sem]
 refine iw 523816 l.length (fun i V H2=>V 9=iV (i:Nat)/\∃v m,V 3=v/\Gr .str 9 H2 v ((l.take i).map (·.name)) m []/\hZ H H2 m/\ba H H2)
  ⟨by simp only [go_sem] <;> rfl,.slice none 0 0,[],by simp only [go_sem] <;> rfl,Gr.nil _ _ _,by simp [hZ],((Fr.refl [] H).push _).aH⟩ ?_ ?_ (by rfl)
 ·rintro i V H2 hi ⟨ei,v,m,e3,cB,cO,ho⟩
  have hx:l[i]?=some (l[i]'hi):=List.getElem?_eq_getElem hi
  have iF:l.take (i+1)=l.take i++[l[i]'hi]:=List.take_succ_eq_append_getElem hi
  generalize (l[i]'hi)=x at hx iF
  have h2:=h.af (H':=H2) fun b hb=>ho.get b (hg b hb)
  obtain ⟨b,o,c',B,gx,hv,hB,ep,dj,cm,hE⟩:=h2.at hx
  cases hv
  obtain ⟨v5,v6,VP,f5,f6,f7,aX,rfl,fC,wz,uT⟩:=hE
  obtain ⟨a5,k5,rfl⟩:=fC.val
  obtain ⟨a6,k6,rfl⟩:=wz.val
  obtain ⟨a7,k7,rfl⟩:=uT.val
  have ez:o+i * 9+9<=B.cells.length:=cm
  have aX:(B.cells.drop (o+i * 9)).take 9=dP x (.slice a5 x.params.length k5) (.slice a6 x.pat.length k6) (.slice a7 x.on.length k7):=aX
  have ct:IntKind.wrap .i64 (((i:Nat):Int)+1)=((i+1:Nat):Int):=cZ hi (by omega)
  obtain ⟨av,tu⟩:=cB.val
  have be:((l.take i).map (·.name)).length=i:=by rw [List.length_map,List.length_take];omega
  have er:H.fz H2.next=false:=hf.fresh ho.nx
  rw [be] at tu
  simp only [go_sem,ei,e3,tu,hi,hB,ez,aX,er,eB vj (by decide) (by decide)]
  rw [<-tu]
  have Fw:=(cB.af (H':=(H2.push ⟨dP x (.slice a5 x.params.length k5) (.slice a6 x.pat.length k6) (.slice a7 x.on.length k7),38,false,false⟩).push ⟨[ae x.name],9,false,false⟩) (fun b hb=>by have:=(cO b hb).2;rw [bX (by rw [bJ];omega),bX this]) (by simp))
  refine jZ (r:=.str) (x:=x.name) (g':=[]) vj Fw (fun c hc=>by have:=(cO c hc).2;rw [bJ,bJ];omega) (by simp) (by simp) (fun c hc=>hf.fresh (cO c hc).1) (by rw [aV];exact if_pos rfl) ⟨rfl,rfl⟩ rfl (by rw [be];omega) ?_
  intro v7 H7 bH ef jm dx jQ
  have wh:ba H H7:=((((ho.fr []).push _).push _).trans dx fun c hc=>.inr (cO c hc).1).aH
  simp only [go_sem,ei,ct]
  refine ⟨v7,[H2.next+2],rfl,?_,fun c hc=>?_,wh⟩
  ·rw [iF,List.map_append];exact bH
  ·rw [List.mem_singleton] at hc
   subst hc
   have:=ho.nx
   have SA:H7.next=H2.next+3:=ef
   omega
 ·rintro V H2 ⟨ei,v,m,e3,cB,cO,ho⟩
  simp only [go_sem,ei,e3]
  rw [List.take_length] at cB
  have:=cB.sl
  rw [List.append_nil] at this
  exact ⟨⟨m,this.af fun _ _=>rfl,cO⟩,((ho.fr []).ai _).aH,fun _=>trivial⟩
theorem NL {vF:Value} {l:List tf} {g:List Nat} (h:Sl lH H vF l g) (hl:l.length < 1000000) (hg:∀b∈g,b < H.next):ak Tryz.prog 150 #[vF] H (fun w H'=>(∃g',Sl .str H' w (l.map (·.name)) g'/\hZ H H' g')/\ba H H'/\∀c,H'.fz c=H.fz c):=by
 refine ak.told ?_
 refine ago (Nat.le_refl _) fun hf=>?_
 simp only [Tryz.f150,Option.getD_some]
 obtain ⟨a,c,rfl⟩:=h.val
 simp only [go_sem]
 refine iw 261928 l.length (fun i V H2=>V 8=iV (i:Nat)/\∃v m,V 3=v/\Gr .str 9 H2 v ((l.take i).map (·.name)) m []/\hZ H H2 m/\ba H H2)
  ⟨by simp only [go_sem] <;> rfl,.slice none 0 0,[],by simp only [go_sem] <;> rfl,Gr.nil _ _ _,by simp [hZ],(Fr.refl [] H).aH⟩ ?_ ?_ (by rfl)
 ·rintro i V H2 hi ⟨ei,v,m,e3,cB,cO,ho⟩
  have hx:l[i]?=some (l[i]'hi):=List.getElem?_eq_getElem hi
  have iF:l.take (i+1)=l.take i++[l[i]'hi]:=List.take_succ_eq_append_getElem hi
  generalize (l[i]'hi)=x at hx iF
  have h2:=h.af (H':=H2) fun b hb=>ho.get b (hg b hb)
  obtain ⟨b,o,c',B,gx,hv,hB,ep,dj,cm,hE⟩:=h2.at hx
  cases hv
  obtain ⟨v5,aX,fC⟩:=hE
  obtain ⟨a5,k5,rfl⟩:=fC.val
  have ez:o+i * 6+6<=B.cells.length:=cm
  have aX:(B.cells.drop (o+i * 6)).take 6=[ae x.name,iV x.ty.kind,iV x.ty.cap,iV x.ty.rc,ae x.ty.name,.slice a5 x.ty.pat.length k5]:=aX
  have ct:IntKind.wrap .i64 (((i:Nat):Int)+1)=((i+1:Nat):Int):=cZ hi (by omega)
  obtain ⟨av,tu⟩:=cB.val
  have be:((l.take i).map (·.name)).length=i:=by rw [List.length_map,List.length_take];omega
  have er:H.fz H2.next=false:=hf.fresh ho.nx
  rw [be] at tu
  simp only [go_sem,ei,e3,tu,hi,hB,ez,aX,er,eB vj (by decide) (by decide)]
  rw [<-tu]
  have Fw:=(cB.af (H':=(H2.push ⟨[ae x.name,iV x.ty.kind,iV x.ty.cap,iV x.ty.rc,ae x.ty.name,.slice a5 x.ty.pat.length k5],101,false,false⟩).push ⟨[ae x.name],9,false,false⟩) (fun b hb=>by have:=(cO b hb).2;rw [bX (by rw [bJ];omega),bX this]) (by simp))
  refine jZ (r:=.str) (x:=x.name) (g':=[]) vj Fw (fun c hc=>by have:=(cO c hc).2;rw [bJ,bJ];omega) (by simp) (by simp) (fun c hc=>hf.fresh (cO c hc).1) (by rw [aV];exact if_pos rfl) ⟨rfl,rfl⟩ rfl (by rw [be];omega) ?_
  intro v7 H7 bH ef jm dx jQ
  have wh:ba H H7:=((((ho.fr []).push _).push _).trans dx fun c hc=>.inr (cO c hc).1).aH
  simp only [go_sem,ei,ct]
  refine ⟨v7,[H2.next+2],rfl,?_,fun c hc=>?_,wh⟩
  ·rw [iF,List.map_append];exact bH
  ·rw [List.mem_singleton] at hc
   subst hc
   have:=ho.nx
   have SA:H7.next=H2.next+3:=ef
   omega
 ·rintro V H2 ⟨ei,v,m,e3,cB,cO,ho⟩
  simp only [go_sem,ei,e3]
  rw [List.take_length] at cB
  have:=cB.sl
  rw [List.append_nil] at this
  exact ⟨⟨m,this.af fun _ _=>rfl,cO⟩,((ho.fr []).ai _).aH,fun _=>trivial⟩
end
section
variable {H:ad}
def E3:Nat->List eo->Int
 | _,[]=> -1
 | i,d::l=>if d.name=[109,97,105,110]/\d.params.length=0 then ((i:Nat):Int) else E3 (i+1) l
def pJ (l:List eo):Int:=E3 0 l
theorem ahx {vM vR vD vN:Value} {l:List eo} {g:List Nat} (h:Sl jq H vD l g) (hl:l.length < 1000000) (hg:∀b∈g,b < H.next):ak Tryz.prog 44 #[.agg #[vM,vR,vD,vN]] H (fun w H'=>w=iV (pJ l)/\ba H H'/\∀c,H'.fz c=H.fz c):=by
 refine ak.told ?_
 refine aix (Nat.le_refl _) fun hf=>?_
 simp only [Tryz.f44,Option.getD_some]
 obtain ⟨a,c,rfl⟩:=h.val
 simp only [go_sem]
 refine iw 16776988 l.length (fun i V H2=>V 8=iV (i:Nat)/\ba H H2/\pJ l=E3 i (l.drop i)) ⟨by simp only [go_sem] <;> rfl,((Fr.refl [] H).push _).aH,rfl⟩ ?_ ?_ (by rfl)
 ·rintro i V H2 hi ⟨ei,ho,gY⟩
  have hx:l[i]?=some (l[i]'hi):=List.getElem?_eq_getElem hi
  have cE:l.drop i=(l[i]'hi)::l.drop (i+1):=(List.getElem_cons_drop hi).symm
  generalize (l[i]'hi)=x at hx cE
  have h2:=h.af (H':=H2) fun b hb=>ho.get b (hg b hb)
  obtain ⟨b,o,c',B,gx,hv,hB,ep,dj,cm,hE⟩:=h2.at hx
  cases hv
  obtain ⟨v5,v6,VP,f5,f6,f7,aX,rfl,fC,wz,uT⟩:=hE
  obtain ⟨a5,k5,rfl⟩:=fC.val
  obtain ⟨a6,k6,rfl⟩:=wz.val
  obtain ⟨a7,k7,rfl⟩:=uT.val
  have ez:o+i * 9+9<=B.cells.length:=cm
  have aX:(B.cells.drop (o+i * 9)).take 9=dP x (.slice a5 x.params.length k5) (.slice a6 x.pat.length k6) (.slice a7 x.on.length k7):=aX
  have ct:IntKind.wrap .i64 (((i:Nat):Int)+1)=((i+1:Nat):Int):=cZ hi (by omega)
  have er:H.fz H2.next=false:=hf.fresh ho.nx
  have fO:∀B,B.ro=false->ba H (H2.push B):=fun B hB=>((ho.fr []).push B hB).aH
  rw [cE,E3] at gY
  by_cases hn:x.name=[109,97,105,110]
  ·by_cases hp:x.params.length=0
   ·rw [if_pos ⟨hn,hp⟩] at gY
    have L1:((x.params.length:Nat):Int)=0:=by omega
    simp only [go_sem,ei,hi,hB,ez,aX,er,hn,L1]
    rw [gY]
    exact ⟨rfl,(((ho.fr []).push _).ai _).aH,fun _=>trivial⟩
   ·rw [if_neg (fun e=>hp e.2)] at gY
    have L1:¬(((x.params.length:Nat):Int)=0):=by omega
    simp only [go_sem,ei,hi,hB,ez,aX,er,hn,L1,ct]
    exact ⟨fO _ rfl,gY⟩
  ·rw [if_neg (fun e=>hn e.1)] at gY
   simp only [go_sem,ei,hi,hB,ez,aX,er,hn,ct]
   exact ⟨fO _ rfl,gY⟩
 ·rintro V H2 ⟨ei,ho,gY⟩
  simp only [go_sem,ei]
  rw [List.drop_length] at gY
  rw [gY]
  exact ⟨rfl,((ho.fr []).ai _).aH,fun _=>trivial⟩
theorem Zi {s:bf}:ak Tryz.prog 148 #[ae s] H (fun w H'=>w=.agg #[iV 2,iV 0,ae s]/\ba H H'/\∀c,H'.fz c=H.fz c):=by
 refine ak.told ?_
 refine agk (Nat.le_refl _) fun hf=>?_
 simp only [Tryz.f148,Option.getD_some]
 have hX:H.fz H.next=false:=hf.fresh (Nat.le_refl _)
 have bl:∀{h:KH},fQ Tryz.prog 44 [(0,iV 2),(2,ae s)] h=.ok (.agg #[iV 2,iV 0,ae s]) h:=fun {h}=>by kernel_rfl
 simp only [go_sem,bl,hX]
 exact ⟨(((Fr.refl [] H).push _).ai _).aH,fun _=>trivial⟩
def E4:Int->List eY->Int
 | f,[]=>f
 | f,b::l=>E4 (if f < 0∨b.body < f then b.body else f) l
def Ob (place:Int):Nat->Int->List eo->Int
 | _,at_,[]=>at_
 | i,at_,d::l=>Ob place (i+1) (if 0<=E4 d.body d.on/\E4 d.body d.on<=place then ((i:Nat):Int) else at_) l
def Kx (l:List eo) (place:Int):Int:=Ob place 0 (-1) l
theorem aeB {vM vR vD vN:Value} {l:List eo} {g:List Nat} {place:Int} (h:Sl jq H vD l g) (hl:l.length < 1000000) (iq:∀d∈l,d.on.length < 1000000) (hg:∀b∈g,b < H.next):ak Tryz.prog 55 #[.agg #[vM,vR,vD,vN],iV place] H (fun w H'=>w=iV (Kx l place)/\ba H H'/\∀c,H'.fz c=H.fz c):=by
 refine ak.told ?_
 refine aiK (Nat.le_refl _) fun hf=>?_
 simp only [Tryz.f55,Option.getD_some]
 obtain ⟨a,c,rfl⟩:=h.val
 simp only [go_sem]
 refine iw 281474976695776 l.length (fun i V H2=>V 14=iV (i:Nat)/\∃at_,V 5=iV at_/\ba H H2/\Kx l place=Ob place i at_ (l.drop i)) ⟨by simp only [go_sem] <;> rfl, -1,by simp only [go_sem] <;> rfl,((Fr.refl [] H).push _).aH,rfl⟩ ?_ ?_ (by rfl)
 ·rintro i V H2 hi ⟨ei,at_,e5,ho,gY⟩
  have hx:l[i]?=some (l[i]'hi):=List.getElem?_eq_getElem hi
  have uU:(l[i]'hi)∈l:=List.getElem_mem hi
  have cE:l.drop i=(l[i]'hi)::l.drop (i+1):=(List.getElem_cons_drop hi).symm
  generalize (l[i]'hi)=x at hx cE uU
  have ni:=iq x uU
  have h2:=h.af (H':=H2) fun b hb=>ho.get b (hg b hb)
  obtain ⟨b,o,c',B,gx,hv,hB,ep,dj,cm,hE⟩:=h2.at hx
  cases hv
  obtain ⟨v5,v6,VP,f5,f6,f7,aX,rfl,fC,wz,uT⟩:=hE
  obtain ⟨a5,k5,rfl⟩:=fC.val
  obtain ⟨a6,k6,rfl⟩:=wz.val
  obtain ⟨a7,k7,rfl⟩:=uT.val
  have ez:o+i * 9+9<=B.cells.length:=cm
  have aX:(B.cells.drop (o+i * 9)).take 9=dP x (.slice a5 x.params.length k5) (.slice a6 x.pat.length k6) (.slice a7 x.on.length k7):=aX
  have ct:IntKind.wrap .i64 (((i:Nat):Int)+1)=((i+1:Nat):Int):=cZ hi (by omega)
  have er:H.fz H2.next=false:=hf.fresh ho.nx
  rw [cE,Ob] at gY
  simp only [go_sem,ei,hi,hB,ez,aX,er]
  have ho3:ba H2 (H2.push ⟨dP x (.slice a5 x.params.length k5) (.slice a6 x.pat.length k6) (.slice a7 x.on.length k7),38,false,false⟩):=ba.push H2 _
  generalize (H2.push ⟨dP x (.slice a5 x.params.length k5) (.slice a6 x.pat.length k6) (.slice a7 x.on.length k7),38,false,false⟩)=H3 at ho3
  refine iw 549739037952 x.on.length (fun j V H4=>V 24=iV (j:Nat)/\∃f,V 8=iV f/\ba H2 H4/\E4 x.body x.on=E4 f (x.on.drop j)) ⟨by simp only [go_sem] <;> rfl,x.body,by simp only [go_sem] <;> rfl,ho3,rfl⟩ ?_ ?_ (by rfl)
  ·rintro j V4 H4 hj ⟨ej,f,e8,Gx,lZ⟩
   have hy:x.on[j]?=some (x.on[j]'hj):=List.getElem?_eq_getElem hj
   have ur:x.on.drop j=(x.on[j]'hj)::x.on.drop (j+1):=(List.getElem_cons_drop hj).symm
   generalize (x.on[j]'hj)=y at hy ur
   have zo:=uT.af (H':=H4) fun b hb=>Gx.get b (by have:=hg b (dj b (by simp [hb]));have:=ho.nx;omega)
   obtain ⟨b2,o2,c2,B2,nj,nT,pX,awG,awH,Tj,hE2⟩:=zo.at hy
   cases nT
   obtain ⟨w5,w6,u5,u6,Fx,rfl,VQ,Jn⟩:=hE2
   obtain ⟨a8,k8,rfl⟩:=VQ.val
   obtain ⟨a9,k9,rfl⟩:=Jn.val
   have SB:o2+j * 7+7<=B2.cells.length:=Tj
   have Fx:(B2.cells.drop (o2+j * 7)).take 7=cG y (.slice a8 y.aY.length k8) (.slice a9 y.names.length k9):=Fx
   have wE:IntKind.wrap .i64 (((j:Nat):Int)+1)=((j+1:Nat):Int):=cZ hj (by omega)
   have Gy:H.fz H4.next=false:=hf.fresh (Nat.le_trans ho.nx Gx.nx)
   have VS:∀B,B.ro=false->ba H2 (H4.push B):=fun B hB=>((Gx.fr []).push B hB).aH
   rw [ur,E4] at lZ
   by_cases eA:f < 0
   ·rw [if_pos (.inl eA)] at lZ
    simp only [go_sem,ej,e8,hj,pX,SB,Fx,Gy,eA,wE]
    exact ⟨_,rfl,VS _ rfl,lZ⟩
   ·by_cases il:y.body < f
    ·rw [if_pos (.inr il)] at lZ
     simp only [go_sem,ej,e8,hj,pX,SB,Fx,Gy,eA,il,wE]
     exact ⟨_,rfl,VS _ rfl,lZ⟩
    ·rw [if_neg (fun e=>e.elim eA il)] at lZ
     simp only [go_sem,ej,e8,hj,pX,SB,Fx,Gy,eA,il,wE]
     exact ⟨_,rfl,VS _ rfl,lZ⟩
  ·rintro V4 H4 ⟨ej,f,e8,Gx,lZ⟩
   rw [List.drop_length] at lZ
   rw [lZ,E4] at gY
   by_cases eA:0<=f
   ·by_cases il:f<=place
    ·rw [if_pos ⟨eA,il⟩] at gY
     simp only [go_sem,ej,e8,ei,e5,eA,il,ct]
     exact ⟨_,rfl,ho.trans Gx,gY⟩
    ·rw [if_neg (fun e=>il e.2)] at gY
     simp only [go_sem,ej,e8,ei,e5,eA,il,ct]
     exact ⟨_,rfl,ho.trans Gx,gY⟩
   ·rw [if_neg (fun e=>eA e.1)] at gY
    simp only [go_sem,ej,e8,ei,e5,eA,ct]
    exact ⟨_,rfl,ho.trans Gx,gY⟩
 ·rintro V H2 ⟨ei,at_,e5,ho,gY⟩
  simp only [go_sem,ei,e5]
  rw [List.drop_length] at gY
  rw [gY]
  exact ⟨rfl,((ho.fr []).ai _).aH,fun _=>trivial⟩
end
def po {α:Type} (r:Rp α) (H:ad) (v:Value) (l:List α) (g:List Nat):Prop:=∃gs,Sl r H v l gs/\∀c∈gs,c∈g
theorem Sl.i {α:Type} {r:Rp α} {H:ad} {v:Value} {l:List α} {gs g:List Nat} (h:Sl r H v l gs) (hg:∀c∈gs,c∈g):po r H v l g:=⟨gs,h,hg⟩
theorem po.af {α:Type} {r:Rp α} {H H':ad} {v:Value} {l:List α} {g:List Nat} (h:po r H v l g) (hk:∀b∈g,H'.get b=H.get b):po r H' v l g:=by
 obtain ⟨gs,h1,h2⟩:=h
 exact ⟨gs,h1.af fun b hb=>hk b (h2 b hb),h2⟩
theorem po.val {α:Type} {r:Rp α} {H:ad} {v:Value} {l:List α} {g:List Nat} (h:po r H v l g):∃a c,v=.slice a l.length c:=by
 obtain ⟨gs,h1,_⟩:=h
 exact h1.val
theorem po.at {α:Type} {r:Rp α} {H:ad} {v:Value} {l:List α} {f:List Nat} (h:po r H v l f) {i:Nat} {x:α} (hi:l[i]?=some x):
  ∃b o c B g,v=.slice (some ⟨b,o,none⟩) l.length c/\H.get b=some B/\b∈f/\(∀y∈g,y∈f)/\o+i * r.sz+r.sz<=B.cells.length/\r.E H ((B.cells.drop (o+i * r.sz)).take r.sz) x g:=by
 obtain ⟨gs,h1,h2⟩:=h
 obtain ⟨b,o,c,B,g,e1,e2,e3,e4,e5,e6⟩:=h1.at hi
 exact ⟨b,o,c,B,g,e1,e2,h2 b e3,fun y hy=>h2 y (e4 y hy),e5,e6⟩
structure ZS where
 pM:Value
 pR:Value
 pD:Value
 pN:Value
 qM:Value
 qR:Value
 qD:Value
 self:bf
abbrev zC (s:ZS) (qN:Value):List Value:=[s.pM,s.pR,s.pD,s.pN,s.qM,s.qR,s.qD,qN,ae s.self,iV 0,iV 0,iV 0,iV 0,iV 0,iV 0,iV 0,iV 0,iV 0,iV 0,iV 0,iV 0,iV 0,ae [],ae [],ae [],ae [],.slice none 0 0,.slice none 0 0,.slice none 0 0]
structure ZQ0 (S:ZS) (src:List aG) (gP:List Nat) (H:ad) (z:Nat) (ns:List aG) (m g:List Nat):Prop where
 row:∃qN,H.get z=some ⟨zC S qN,131,false,false⟩/\Gr kr 42 H qN ns m g
 src:po kr H S.pN src gP
 zl:z < H.next
 hm:∀c∈m,c < H.next/\c≠z/\c∉gP/\c∉g
 hg:∀c∈g,c < H.next/\c≠z
 hP:∀c∈gP,c < H.next/\c≠z
structure ZQ (S:ZS) (src:List aG) (gP:List Nat) (H:ad) (z:Nat) (ns:List aG) (m g:List Nat):Prop extends ZQ0 S src gP H z ns m g where
 fz:H.fz z=false
 fm:∀c∈m,H.fz c=false
 fn:∀b,H.next<=b->H.fz b=false
section
variable {S:ZS} {src:List aG} {gP:List Nat} {H H1 H2:ad} {z:Nat} {ns bk bO:List aG} {m m1 m2 g g1 g2:List Nat}
theorem ZQ0.fr (h:ZQ0 S src gP H z ns m g) {M:List Nat} (bj:Fr M H H1) (mz:z∉M) (mm:∀c∈m,c∉M) (mg:∀c∈g,c∉M) (mP:∀c∈gP,c∉M):ZQ0 S src gP H1 z ns m g:=by
 obtain ⟨⟨qN,h1,h2⟩,h3,zl,hm,hg,hP⟩:=h
 exact ⟨⟨qN,(bj.get z zl mz).trans h1,h2.af (fun c hc=>bj.get c (hm c hc).1 (mm c hc)) (fun c hc=>bj.get c (hg c hc).1 (mg c hc))⟩,h3.af fun c hc=>bj.get c (hP c hc).1 (mP c hc),Nat.lt_of_lt_of_le zl bj.nx,fun c hc=>⟨Nat.lt_of_lt_of_le (hm c hc).1 bj.nx,(hm c hc).2⟩,fun c hc=>⟨Nat.lt_of_lt_of_le (hg c hc).1 bj.nx,(hg c hc).2⟩,fun c hc=>⟨Nat.lt_of_lt_of_le (hP c hc).1 bj.nx,(hP c hc).2⟩⟩
theorem ZQ0.ai {fz:Nat->Bool} (h:ZQ0 S src gP H z ns m g):ZQ0 S src gP (H.ai fz) z ns m g:=h.fr ((Fr.refl [] H).ai _) (by simp) (by simp) (by simp) (by simp)
theorem ahy (h:ZQ S src gP H z ns m g) (hn:ns.length < 100000) {n:aG} {line aj:Int} {vA vP vB:Value} {gA gQ gB:List Nat} (hA:Sl jO H vA n.args gA) (hQ:Sl fJ H vP n.pat gQ) (hB:Sl dG H vB n.au gB) (dW:∀c∈gA++(gQ++gB),c < H.next/\c≠z/\c∉m):
  ak Tryz.prog 116 #[pV z,.agg (aJ n vA vP vB).toArray,iV line,iV aj] H (fun w H'=>w=iV (ns.length:Nat)/\Fr (z::m) H H'/\(∀c,H'.fz c=H.fz c)/\∃m',ZQ0 S src gP H' z (ns++[{n with line:=line,aj:=aj,next:= -1}]) m' (g++(gA++(gQ++gB)))/\∀c∈m',c∈m∨H.next<=c):=by
 refine ak.told ?_
 refine afy (Nat.le_refl _) fun hf=>?_
 simp only [Tryz.f116,Option.getD_some]
 obtain ⟨qN,hz,cB⟩:=h.row
 obtain ⟨aN,zj⟩:=cB.val
 rw [zj] at hz cB
 obtain ⟨aA,kA,rfl⟩:=hA.val
 obtain ⟨aP,kP,rfl⟩:=hQ.val
 obtain ⟨aB,kB,rfl⟩:=hB.val
 have hX:=h.fn H.next (Nat.le_refl _)
 have Vk:=h.fn (H.next+1) (Nat.le_succ _)
 have mZ:=h.fz
 have nz:¬z=H.next:=fun e=>by have:=h.zl;omega
 have P8:¬z=H.next+1:=fun e=>by have:=h.zl;omega
 simp only [go_sem,hz,hX,Vk,nz,P8,eB KK (by decide) (by decide)]
 have fp:Fr [] H ((H.push ⟨aJ {n with line:=line,aj:=aj,next:= -1} (.slice aA n.args.length kA) (.slice aP n.pat.length kP) (.slice aB n.au.length kB),42,false,false⟩).push ⟨aJ {n with line:=line,aj:=aj,next:= -1} (.slice aA n.args.length kA) (.slice aP n.pat.length kP) (.slice aB n.au.length kB),42,false,false⟩):=((Fr.refl [] H).push _).push _
 have gx:((H.push ⟨aJ {n with line:=line,aj:=aj,next:= -1} (.slice aA n.args.length kA) (.slice aP n.pat.length kP) (.slice aB n.au.length kB),42,false,false⟩).push ⟨aJ {n with line:=line,aj:=aj,next:= -1} (.slice aA n.args.length kA) (.slice aP n.pat.length kP) (.slice aB n.au.length kB),42,false,false⟩).get (H.next+1)=some ⟨aJ {n with line:=line,aj:=aj,next:= -1} (.slice aA n.args.length kA) (.slice aP n.pat.length kP) (.slice aB n.au.length kB),42,false,false⟩:=by rw [aV];exact if_pos rfl
 have nx:((H.push ⟨aJ {n with line:=line,aj:=aj,next:= -1} (.slice aA n.args.length kA) (.slice aP n.pat.length kP) (.slice aB n.au.length kB),42,false,false⟩).push ⟨aJ {n with line:=line,aj:=aj,next:= -1} (.slice aA n.args.length kA) (.slice aP n.pat.length kP) (.slice aB n.au.length kB),42,false,false⟩).next=H.next+2:=rfl
 generalize D9:((H.push ⟨aJ {n with line:=line,aj:=aj,next:= -1} (.slice aA n.args.length kA) (.slice aP n.pat.length kP) (.slice aB n.au.length kB),42,false,false⟩).push ⟨aJ {n with line:=line,aj:=aj,next:= -1} (.slice aA n.args.length kA) (.slice aP n.pat.length kP) (.slice aB n.au.length kB),42,false,false⟩)=Hp at fp gx nx
 have z0:=h.toZQ0.fr fp (by simp) (by simp) (by simp) (by simp)
 have OU:=cB.af (H':=Hp) (fun c hc=>fp.get c (h.hm c hc).1 (by simp)) (fun c hc=>fp.get c (h.hg c hc).1 (by simp))
 have kp:∀c∈gA++(gQ++gB),Hp.get c=H.get c:=fun c hc=>fp.get c (dW c hc).1 (by simp)
 refine jZ (r:=kr) (x:={n with line:=line,aj:=aj,next:= -1}) (g':=gA++(gQ++gB)) KK OU (fun c hc=>(z0.hm c hc).1) (fun c hc=>(z0.hg c hc).1) (fun c hc=>⟨by have:=(dW c hc).1;omega,(dW c hc).2.2⟩) (fun c hc=>h.fm c hc) gx ⟨_,_,_,gA,gQ,gB,rfl,rfl,hA.af fun c hc=>kp c (by simp [hc]),hQ.af fun c hc=>kp c (by simp [hc]),hB.af fun c hc=>kp c (by simp [hc])⟩ rfl (by omega) ?_
 intro v7 H7 bH ef jm dx jQ
 obtain ⟨a7,xv⟩:=bH.val
 have P9:z∉m:=fun e=>(h.hm z e).2.1 rfl
 have tx:=(jm z z0.zl P9).trans ((fp.get z h.zl (by simp)).trans hz)
 have Gi:(ns++[({n with line:=line,aj:=aj,next:= -1}:aG)]).length=ns.length+1:=by rw [List.length_append];rfl
 rw [Gi] at xv
 subst xv
 simp only [go_sem,tx,mZ]
 have hw:IntKind.i64.wrap (((ns.length+1:Nat):Int) - 1)=((ns.length:Nat):Int):=by
  rw [show (((ns.length+1:Nat):Int) - 1)=((ns.length:Nat):Int) by omega]
  exact vf (by omega)
 rw [hw]
 have f7:Fr (z::m) H H7:=(fp.sub (by simp)).then (dx.sub fun c hc=>.inl (by simp [hc]))
 have I2:=h.zl
 refine ⟨rfl,(f7.ah (.inl (by simp)) _).ai _,fun _=>trivial,[Hp.next],ZQ0.ai ⟨⟨_,by rw [az,if_pos rfl],bH.af (fun c hc=>?_) (fun c hc=>?_)⟩,(z0.src.af fun c hc=>?_),?_,fun c hc=>?_,fun c hc=>?_,fun c hc=>?_⟩,fun c hc=>?_⟩
 ·rw [List.mem_singleton] at hc
  rw [az,if_neg (by omega)]
 ·rw [az,if_neg]
  rcases List.mem_append.1 hc with e | e
  ·exact (h.hg c e).2
  ·exact (dW c e).2.1
 ·rw [az,if_neg (h.hP c hc).2]
  exact jm c (z0.hP c hc).1 fun e=>(h.hm c e).2.2.1 hc
 ·show z < H7.next
  omega
 ·rw [List.mem_singleton] at hc
  subst hc
  refine ⟨by show Hp.next < H7.next;omega,by omega,fun e=>by have:=(h.hP _ e).1;omega,fun e=>?_⟩
  rcases List.mem_append.1 e with e | e
  ·have:=(h.hg _ e).1;omega
  ·have:=(dW _ e).1;omega
 ·show c < H7.next/\c≠z
  rcases List.mem_append.1 hc with e | e
  ·have:=h.hg c e;exact ⟨by omega,this.2⟩
  ·have:=dW c e;exact ⟨by omega,this.2.1⟩
 ·show c < H7.next/\c≠z
  have:=h.hP c hc;exact ⟨by omega,this.2⟩
 ·rw [List.mem_singleton] at hc
  exact .inr (by omega)
end
def Ix (S:ZS) (src:List aG) (gP:List Nat) (H:ad) (z:Nat) (ns:List aG) (m g:List Nat) (iv:List aG) (H':ad):Prop:=
 Fr (z::m) H H'/\(∀c,H'.fz c=H.fz c)/\ns.length<=iv.length/\∃m' g',ZQ0 S src gP H' z iv m' g'/\(∀c∈m',c∈m∨H.next<=c)/\∀c∈g',c∈g∨c∈gP∨H.next<=c
structure ZR (S:ZS) (src:List aG) (gP:List Nat) (H:ad) (z:Nat) (ns:List aG) (m g:List Nat) (H1:ad) (bk:List aG) (m1 g1:List Nat):Prop where
 fr:Fr (z::m) H H1
 zq:ZQ S src gP H1 z bk m1 g1
 le:ns.length<=bk.length
 sm:∀c∈m1,c∈m∨H.next<=c
 sg:∀c∈g1,c∈g∨c∈gP∨H.next<=c
section
variable {S:ZS} {src:List aG} {gP:List Nat} {H H1 H2:ad} {z:Nat} {ns bk bO:List aG} {m m1 m2 g g1 g2:List Nat}
theorem ZR.start (h:ZQ S src gP H z ns m g):ZR S src gP H z ns m g H ns m g:=⟨.refl _ _,h,Nat.le_refl _,fun _ h=>.inl h,fun _ h=>.inl h⟩
theorem ZR.push (h:ZR S src gP H z ns m g H1 bk m1 g1) (B:cw) (hB:B.ro=false:=by rfl):ZR S src gP H z ns m g (H1.push B) bk m1 g1:=by
 have key:∀c,c < H1.next->(H1.push B).fz c=H1.fz c:=fun c hc=>by
  rw [qw,show (c==H1.next)=false from by rw [beq_eq_false_iff_ne];omega,Bool.false_or]
 exact ⟨h.fr.push B hB,{h.zq.toZQ0.fr ((ba.push H1 B hB).fr []) (by simp) (by simp) (by simp) (by simp) with fz:=by rw [key _ h.zq.zl];exact h.zq.fz,fm:=fun c hc=>by rw [key _ (h.zq.hm c hc).1];exact h.zq.fm c hc,fn:=fun b hb=>(by rw [bJ] at hb;rw [qw,h.zq.fn b (by omega),Bool.or_false,beq_eq_false_iff_ne];omega)},h.le,h.sm,h.sg⟩
theorem ZR.call (h:ZR S src gP H z ns m g H1 bk m1 g1) {iv:List aG} (hp:Ix S src gP H1 z bk m1 g1 iv H2):∃m2 g2,ZR S src gP H z ns m g H2 iv m2 g2/\(∀c∈m2,c∈m1∨H1.next<=c)/\∀c∈g2,c∈g1∨c∈gP∨H1.next<=c:=by
 obtain ⟨hf,hz,hle,m2,g2,h0,hs,i3⟩:=hp
 have dU:=h.fr.nx
 refine ⟨m2,g2,⟨h.fr.trans hf fun c hc=>?_,{h0 with fz:=by rw [hz];exact h.zq.fz,fm:=fun c hc=>?_,fn:=fun b hb=>by rw [hz];exact h.zq.fn b (Nat.le_trans hf.nx hb)},Nat.le_trans h.le hle,fun c hc=>(hs c hc).elim (h.sm c) fun e=>.inr (Nat.le_trans dU e),fun c hc=>(i3 c hc).elim (h.sg c) fun e=>e.elim (fun e=>.inr (.inl e)) fun e=>.inr (.inr (Nat.le_trans dU e))⟩,hs,i3⟩
 ·rcases List.mem_cons.1 hc with e | hc
  ·exact .inl (by simp [e])
  ·exact (h.sm c hc).imp (fun e=>by simp [e]) id
 ·rw [hz]
  rcases hs c hc with e | e
  ·exact h.zq.fm c e
  ·exact h.zq.fn c e
theorem ZR.last (h:ZR S src gP H z ns m g H1 bk m1 g1):Ix S src gP H z ns m g bk (H1.ai H.fz):=⟨h.fr.ai _,fun _=>rfl,h.le,m1,g1,h.zq.toZQ0.ai,h.sm,h.sg⟩
theorem ZR.x (h0:ZQ S src gP H z ns m g) (hf:bV H) (h:ZR S src gP H z ns m g H1 bk m1 g1):∀b∈m1,H.fz b=false:=fun b hb=>(h.sm b hb).elim (h0.fm b) (fun e=>hf.fresh e)
theorem ZR.sL (h:ZR S src gP H z ns m g H1 bk m1 g1) {l j:Nat} (hl:l < bk.length) (hj:j < 17) {v:Value} {n':aG} (hn:∀wA wP wB,(aJ bk[l] wA wP wB).set j v=aJ n' wA wP wB) (ha:n'.args=bk[l].args) (hp:n'.pat=bk[l].pat) (cY:n'.au=bk[l].au):
  ∃b cs,H1.get z=some ⟨zC S (.slice (some ⟨b,0,none⟩) bk.length bk.length),131,false,false⟩/\b∈m1/\H1.get b=some ⟨cs,42,true,false⟩/\l * 20+20<=cs.length/\
  ZR S src gP H z ns m g (H1.ah b ⟨cs.set (l * 20+j) v,42,true,false⟩) (bk.set l n') m1 g1:=by
 obtain ⟨vN,hq,cB⟩:=h.zq.row
 obtain ⟨b,cs,f1,f2,f3,rfl,rfl,hb,fk,rfl,de,hE,oW⟩:=cB.put hl
 obtain ⟨wA,wP,wB,e1,e2,e3,aX,rfl,s1,s2,s3⟩:=hE
 have fM:kr.sz=20:=rfl
 rw [fM] at de aX
 obtain ⟨ik,ft,fB,oK⟩:=h.zq.hm b (by simp)
 have be:l * 20+j < cs.length:=by omega
 have eJ:cs.set (l * 20+j) v=cW cs (l * kr.sz) (aJ n' wA wP wB):=by
  have:=xQ (vs:=[v]) aX (k:=j) (by show j+1<=20;omega) de
  rw [eW be] at this
  rw [this]
  have e:cW (aJ bk[l] wA wP wB) j [v]=(aJ bk[l] wA wP wB).set j v:=eW (by show j < 20;omega)
  rw [hn] at e
  rw [<-e];rfl
 have bj:Fr [b] H1 (H1.ah b ⟨cs.set (l * 20+j) v,42,true,false⟩):=(Fr.refl _ _).ah (.inl (by simp)) _
 have kg:∀c,c≠b->(H1.ah b ⟨cs.set (l * 20+j) v,42,true,false⟩).get c=H1.get c:=fun c hc=>by rw [az,if_neg hc]
 have q8:∀c∈f1++(e1++(e2++e3)++f3),c≠b:=fun c hc e=>oK (e▸hc)
 have bH:=oW (H1.ah b ⟨cs.set (l * 20+j) v,42,true,false⟩) (aJ n' wA wP wB) n' (e1++(e2++e3))
  (fun z hz=>kg z (q8 z (by rcases hz with e | e <;> simp [e]))) (by rw [az,if_pos rfl,eJ]) ⟨wA,wP,wB,e1,e2,e3,rfl,rfl,(ha▸s1:Sl jO H1 wA n'.args e1).af fun c hc=>kg c (q8 c (by simp [hc])),(hp▸s2:Sl fJ H1 wP n'.pat e2).af fun c hc=>kg c (q8 c (by simp [hc])),(cY▸s3:Sl dG H1 wB n'.au e3).af fun c hc=>kg c (q8 c (by simp [hc]))⟩
  (fun e=>oK (List.mem_append_right _ (List.mem_append_left _ e)))
 refine ⟨b,cs,hq,by simp,hb,de,⟨h.fr.trans bj fun c hc=>?_,{row:=⟨_,(kg z (Ne.symm ft)).trans hq,?_⟩,src:=h.zq.src.af fun c hc=>kg c (fun e=>fB (e▸hc)),zl:=h.zq.zl,hm:=h.zq.hm,hg:=h.zq.hg,hP:=h.zq.hP,fz:=h.zq.fz,fm:=h.zq.fm,fn:=h.zq.fn},by rw [List.length_set];exact h.le,h.sm,h.sg⟩⟩
 ·rw [List.mem_singleton] at hc
  subst hc
  exact (h.sm c (by simp)).imp (fun e=>by simp [e]) id
 ·exact bH
abbrev Zn:=aG->List aG->Option (Nat × Nat × List aG)
abbrev Zb:=Int->List aG->Option (Int × List aG)
def ZnW (S:ZS) (src:List aG) (gP:List Nat) (z:Nat) (nd:Zn):Prop:=∀{H:ad} {ns iv:List aG} {m g:List Nat} {n:aG} {vA vP vB:Value} {gA gQ gB:List Nat} {f t:Nat},ZQ S src gP H z ns m g->Sl jO H vA n.args gA->Sl fJ H vP n.pat gQ->Sl dG H vB n.au gB->(∀c∈gA++(gQ++gB),c∈gP)->nd n ns=some (f,t,iv)->
 ak Tryz.prog 117 #[pV z,.agg (aJ n vA vP vB).toArray] H (fun w H'=>w=.tuple #[iV (f:Nat),iV (t:Nat)]/\Ix S src gP H z ns m g iv H')
def ZbW (S:ZS) (src:List aG) (gP:List Nat) (z:Nat) (bd:Zb):Prop:=∀{H:ad} {ns iv:List aG} {m g:List Nat} {k i:Int},ZQ S src gP H z ns m g->bd k ns=some (i,iv)->
 ak Tryz.prog 80 #[pV z,iV k] H (fun w H'=>w=iV i/\Ix S src gP H z ns m g iv H')
def Lm (src:List aG) (nd:Zn):Nat->Option (Nat × Nat)->Int->List aG->Option (Int × List aG)
 | 0,_,_,_=>none
 | j+1,fl,k,ns=>
  if 0<=k then
   (if k.toNat < src.length then (nd (src.getD k.toNat {}) ns).bind fun R=>
    if R.2.1 < R.2.2.length then Lm src nd j (match fl with | none=>some (R.1,R.2.1) | some x=>some (x.1,R.2.1)) (src.getD k.toNat {}).next (Oz fl R.2.2 R.1) else none
   else none)
  else some (fV fl,ns)
theorem ac9 {nd:Zn} (cQ:ZnW S src gP z nd) (h:ZQ S src gP H z ns m g) (eK:src.length < 100000) {fuel:Nat} {k:Int} {R:Int × List aG} (he:Lm src nd fuel none k ns=some R):
  ak Tryz.prog 80 #[pV z,iV k] H (fun w H'=>w=iV R.1/\Ix S src gP H z ns m g R.2 H'):=by
 refine ak.told ?_
 refine ai9 (Nat.le_refl _) fun hf=>?_
 simp only [Tryz.f80,Option.getD_some]
 have r0:=ZR.start h
 simp only [go_sem]
 refine la 2199023255522 (fun n V H2=>∃fl k2 bO m2 g2,V 1=iV k2/\V 5=iV (fV fl)/\V 6=iV (lV fl)/\ZR S src gP H z ns m g H2 bO m2 g2/\(∀x,fl=some x->x.2 < bO.length)/\Lm src nd n fl k2 bO=some R) (n:=fuel)
  ⟨none,k,ns,m,g,by simp only [go_sem] <;> rfl,by simp only [go_sem] <;> rfl,by simp only [go_sem] <;> rfl,r0,by simp,he⟩ ?_ (by rfl)
 rintro n V H2 ⟨fl,k2,bO,m2,g2,e1,e5,e6,r2,c6,bh⟩
 cases n with
 | zero=>cases bh
 | succ n=>
  rw [Lm] at bh
  by_cases hk:0<=k2
  ·rw [if_pos hk] at bh
   obtain ⟨kn,rfl⟩:=Int.eq_ofNat_of_zero_le hk
   rw [Int.toNat_natCast] at bh
   by_cases nW:kn < src.length
   ·rw [if_pos nW] at bh
    have kX:(src.getD kn {})=src[kn]:=by rw [List.getD_eq_getElem?_getD,List.getElem?_eq_getElem nW];rfl
    rw [kX] at bh
    have hx:src[kn]?=some (src[kn]'nW):=List.getElem?_eq_getElem nW
    generalize (src[kn]'nW)=x at hx bh
    obtain ⟨b,o,c',B,gx,hv,hB,ep,dj,cm,hE⟩:=r2.zq.src.at hx
    obtain ⟨wA,wP,wB,u1,u2,u3,aX,rfl,s1,s2,s3⟩:=hE
    obtain ⟨qN,hz,cB⟩:=r2.zq.row
    obtain ⟨aA,kA,rfl⟩:=s1.val
    obtain ⟨aP,kP,rfl⟩:=s2.val
    obtain ⟨aB,kB,rfl⟩:=s3.val
    have ez:o+kn * 20+20<=B.cells.length:=cm
    have aX:(B.cells.drop (o+kn * 20)).take 20=aJ x (.slice aA x.args.length kA) (.slice aP x.pat.length kP) (.slice aB x.au.length kB):=aX
    have er:H.fz H2.next=false:=h.fn _ r2.fr.nx
    cases hR:nd x bO with
    | none=>rw [hR] at bh;cases bh
    | some RR=>
    obtain ⟨f,t,Gz⟩:=RR
    rw [hR] at bh
    simp only [Option.bind_some] at bh
    by_cases ht:t < Gz.length
    ·rw [if_pos ht] at bh
     simp only [go_sem,e1,hk,hz,hv,nW,hB,ez,aX,er]
     have r3:=r2.push ⟨aJ x (.slice aA x.args.length kA) (.slice aP x.pat.length kP) (.slice aB x.au.length kB),42,false,false⟩
     have k3:∀c∈gP,(H2.push ⟨aJ x (.slice aA x.args.length kA) (.slice aP x.pat.length kP) (.slice aB x.au.length kB),42,false,false⟩).get c=H2.get c:=fun c hc=>bX (r2.zq.hP c hc).1
     refine ag.by (cQ r3.zq (s1.af fun c hc=>k3 c (dj c (by simp [hc]))) (s2.af fun c hc=>k3 c (dj c (by simp [hc]))) (s3.af fun c hc=>k3 c (dj c (by simp [hc]))) dj hR) ?_
     rintro _ H4 - ⟨rfl,p4⟩
     obtain ⟨m4,g4,r4,s4,_⟩:=r3.call p4
     have gbx:H4.get H2.next=some ⟨aJ x (.slice aA x.args.length kA) (.slice aP x.pat.length kP) (.slice aB x.au.length kB),42,false,false⟩:=(p4.1.get H2.next (Nat.lt_succ_self _) (by
      simp only [List.mem_cons,not_or]
      exact ⟨by have:=r2.zq.zl;omega,fun e=>by have:=(r2.zq.hm _ e).1;omega⟩)).trans (by rw [aV,if_pos rfl])
     cases fl with
     | none=>
      have cA:(-1:Int) < 0:=by decide
      simp only [go_sem,e5,fV,cA,gbx]
      exact ⟨n,by omega,some (f,t),x.next,Gz,m4,g4,rfl,rfl,rfl,r4,fun y hy=>by cases hy;exact ht,bh⟩
     | some y=>
      have cA:¬(((y.1:Nat):Int) < 0):=by omega
      have hy2:=c6 y rfl
      have awI:bO.length<=Gz.length:=p4.2.2.1
      have hl:y.2 < Gz.length:=by omega
      obtain ⟨b4,Mx,hz4,fZ,oK,alP,r5⟩:=r4.sL hl (show 10 < 17 by decide) (v:=iV (f:Nat)) (n':={Gz[y.2] with next:=((f:Nat):Int)}) (fun _ _ _=>rfl) rfl rfl rfl
      have fx:=ZR.x h hf r4 b4 fZ
      have dK:y.2 * 20+10 < Mx.length:=by omega
      have gh:y.2 * 20+10+1<=Mx.length:=by omega
      have I8:¬H2.next=b4:=fun e=>by
       rcases s4 b4 fZ with e' | e'
       ·have:=(r2.zq.hm b4 e').1;omega
       ·have:H2.next+1<=b4:=e'
        omega
      have alQ:(Gz.getD y.2 {})=Gz[y.2]:=by rw [List.getD_eq_getElem?_getD,List.getElem?_eq_getElem hl];rfl
      simp only [Oz,ku,alQ] at bh
      simp only [go_sem,e5,e6,fV,lV,cA,hz4,oK,fx,hl,dK,gh,alP,I8,gbx,eW dK]
      exact ⟨n,by omega,some (y.1,t),x.next,_,m4,g4,rfl,rfl,rfl,r5,fun w hw=>by cases hw;rw [List.length_set];exact ht,bh⟩
    ·rw [if_neg ht] at bh;cases bh
   ·rw [if_neg nW] at bh;cases bh
  ·rw [if_neg hk] at bh
   cases bh
   simp only [go_sem,e1,hk,e5]
   exact r2.last
end
theorem Yq {X:Nat->Bool} {H:ad} {b:Nat} {x:sN} {v:Value} {l:List sN} {g:List Nat} {K:Value->ad->Prop} {tg:Tag K} (hb:H.get b=some ⟨[iV x.kind,iV x.n,ae x.name],44,false,false⟩) (cm:b < H.next) (h:Sl jO H v l g) (hn:l.length < 1000000) (hX:X b=false)
  (hk:∀v' H' c,Sl jO H' v' (x::l) [c]->(c=b/\H'=H.ah b ⟨[iV x.kind,iV x.n,ae x.name],44,false,false⟩∨c=H.next/\∃cs,H'=H.push ⟨cs,44,true,false⟩)->K v' H'):ew Tryz.prog X H (iS Tryz.prog 40 (.slice (some ⟨b,0,none⟩) 1 1) v H) K tg:=by
 obtain ⟨cs,g',hs,fk,pL,_⟩:=h.src (size:=3) rfl
 cases l with
 | nil=>
  have aX:cs=[]:=by simpa using fk
  subst aX
  rw [Ku (n:=0) (sl:=1) (sc:=1) qE hs rfl hb rfl (by show 0+1 * 3<=3;omega) (by omega) (Nat.le_refl 1) rfl,ED hX]
  exact hk _ _ b (.inr (.inr ⟨b,0,1,_,[],rfl,by simp,Nat.le_refl _,rfl,by rw [az];exact if_pos rfl,⟨_,[],[],[],rfl,rfl,⟨rfl,rfl⟩,rfl⟩⟩)) (.inl ⟨rfl,rfl⟩)
 | cons y l=>
  have fj:∀{cs:List Value} {l:List sN} {f:List Nat},dV jO H cs l f->f=[]:=by
   intro cs l
   induction l generalizing cs with
   | nil=>intro f h;exact h
   | cons a l ih=>
    intro f h
    obtain ⟨c1,c2,f1,f2,rfl,rfl,h1,h2⟩:=h
    rw [h1.2,ih h2];rfl
  have dW:=fj pL
  subst dW
  rw [Kc (n:=(y::l).length) (o:=0) (sl:=1) (sc:=1) qE hs hb (by rfl) (Nat.le_refl 1) (by simp only [List.length_cons] at hn ⊢;omega) (by simp)]
  rw [wK]
  refine hk _ _ H.next (.inr (.inr ⟨H.next,0,_,_,[],?_,by simp,Nat.le_refl _,rfl,by rw [aV];exact if_pos rfl,?_⟩)) (.inr ⟨rfl,_,rfl⟩)
  ·rw [show 1+(y::l).length=(x::y::l).length by simp only [List.length_cons];omega]
  ·have ho:∀b∈([]:List Nat),(H.push ⟨(([iV x.kind,iV x.n,ae x.name]:List Value).drop 0).take (1 * 3)++cs,44,true,false⟩).get b=H.get b:=by simp
   exact ⟨_,cs,[],[],rfl,rfl,⟨rfl,rfl⟩,pL.af ho⟩
theorem xW {P:Program} {X:Nat->Bool} {H:ad} {α:Type} {r:Rp α} {t e:TypeId} {el:Nat} {v:Value} {l:List α} {g:List Nat} {K:Value->ad->Prop} {tg:Tag K} (ha:iM P t=some (e,r.sz,el)) (h:Sl r H v l g) (hn:l.length * el < 140737488355328) (hg:∀b∈g,b < H.next)
  (hk:∀v' H' mL gL,Gr r e H' v' l mL gL->(∀c∈gL,c∈g)->(mL=[]/\H'=H∨mL=[H.next]/\∃cs,H'=H.push ⟨cs,e,true,false⟩)->K v' H'):ew P X H (iS P t (.slice none 0 0) v H) K tg:=by
 obtain ⟨cs,g',hs,fk,pL,jH⟩:=h.src (size:=r.sz) rfl
 by_cases hl:l=[]
 ·subst hl
  rw [Yg ha hs]
  simp only [go_sem]
  exact hk _ _ [] [] (Gr.nil _ _ _) (by simp) (.inl ⟨rfl,rfl⟩)
 ·have h0:0 < l.length:=by rw [Nat.pos_iff_ne_zero,Ne,List.length_eq_zero_iff];exact hl
  rw [HL ha hs hn h0,wK]
  refine hk _ _ [H.next] g' (.inr ⟨H.next,cs,rfl,hl,rfl,by rw [aV,if_pos rfl],fk,pL.af fun b hb=>bX (hg b (jH b hb)),fun e=>by have:=hg _ (jH _ e);omega⟩) jH (.inr ⟨rfl,_,rfl⟩)
section
variable {S:ZS} {src:List aG} {gP:List Nat} {H H1 H2:ad} {z:Nat} {ns bk bO:List aG} {m m1 m2 g g1 g2:List Nat}
theorem ZR.add (h:ZR S src gP H z ns m g H1 bk m1 g1) (hn:bk.length < 100000) {n:aG} {line aj:Int} {vA vP vB:Value} {gA gQ gB:List Nat} (hA:Sl jO H1 vA n.args gA) (hQ:Sl fJ H1 vP n.pat gQ) (hB:Sl dG H1 vB n.au gB) (dW:∀c∈gA++(gQ++gB),c < H1.next/\c≠z/\c∉m1/\(c∈gP∨H.next<=c)):
  ak Tryz.prog 116 #[pV z,.agg (aJ n vA vP vB).toArray,iV line,iV aj] H1 (fun w H2=>w=iV (bk.length:Nat)/\Fr (z::m1) H1 H2/\∃m2,ZR S src gP H z ns m g H2 (bk++[{n with line:=line,aj:=aj,next:= -1}]) m2 (g1++(gA++(gQ++gB)))/\∀c∈m2,c∈m1∨H1.next<=c):=
 (ahy h.zq hn hA hQ hB fun c hc=>⟨(dW c hc).1,(dW c hc).2.1,(dW c hc).2.2.1⟩).mono fun w H2 _ ⟨hw,hf,hz,m2,h0,hs⟩=>by
  have dU:=h.fr.nx
  refine ⟨hw,hf,m2,⟨h.fr.trans hf fun c hc=>?_,{h0 with fz:=by rw [hz];exact h.zq.fz,fm:=fun c hc=>?_,fn:=fun b hb=>by rw [hz];exact h.zq.fn b (Nat.le_trans hf.nx hb)},by rw [List.length_append];exact Nat.le_trans h.le (Nat.le_add_right _ _),fun c hc=>(hs c hc).elim (h.sm c) fun e=>.inr (Nat.le_trans dU e),fun c hc=>?_⟩,hs⟩
  ·rcases List.mem_cons.1 hc with e | hc
   ·exact .inl (by simp [e])
   ·exact (h.sm c hc).imp (fun e=>by simp [e]) id
  ·rw [hz]
   rcases hs c hc with e | e
   ·exact h.zq.fm c e
   ·exact h.zq.fn c e
  ·rcases List.mem_append.1 hc with e | e
   ·exact h.sg c e
   ·exact .inr (dW c e).2.2.2
end
end Go.Proofs.YtinjmfblebpnnaaGreat.Ab
