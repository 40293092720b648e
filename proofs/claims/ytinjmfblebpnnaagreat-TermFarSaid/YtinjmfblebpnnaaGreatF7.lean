/- Lemmas for the walk, part 7. -/
import Derived.Test.YtinjmfblebpnnaaGreatF6
set_option linter.unusedVariables false
set_option linter.unusedSimpArgs false
set_option maxRecDepth 100000
set_option maxHeartbeats 16000000
namespace Go.Proofs.YtinjmfblebpnnaaGreat.Ab
open Go
def uw (H:ad) (v:Value) (l:List Int) (b:Nat):Prop:=
 ∃c ds op,v=.slice (some ⟨b,0,none⟩) l.length c/\H.get b=some ⟨l.map iV++ds,3,op,false⟩/\(l.map iV++ds).length=c
theorem uw.ae {H H':ad} {v:Value} {l:List Int} {b:Nat} (h:uw H v l b) (hk:H'.get b=H.get b):uw H' v l b:=by
 obtain ⟨c,ds,op,h1,h2,h3⟩:=h
 exact ⟨c,ds,op,h1,by rw [hk];exact h2,h3⟩
theorem XO {H:ad} {x:Value} {b sl sc n:Nat} {cs new:List Value} {op:Bool} (hs:oC 1 x H=some (n,new)) (rv:new.length=n) (hB:H.get b=some ⟨cs,3,op,false⟩) (hl:cs.length=sc) (hle:sl<=sc) (hn:sl+n < 10000000000000) (h0:0 < n) (Iu:j5 new=true):
  iG Tryz.prog 22 (.slice (some ⟨b,0,none⟩) sl sc) x H=if sl+n<=sc then .ok (.slice (some ⟨b,0,none⟩) (sl+n) sc) (H.ah b ⟨cT cs sl new,3,op,false⟩) else if op=true then .ok (.slice (some ⟨H.next,0,none⟩) (sl+n) (sl+n)) (H.grow b ⟨cs.take sl++new,3,true,false⟩) else .ok (.slice (some ⟨H.next,0,none⟩) (sl+n) (sl+n)) (H.push ⟨cs.take sl++new,3,true,false⟩):=by
 obtain ⟨hu,i,z,hi,hz,h1,h2,fC,Iq⟩:=AB q9
 have cZ:oC i.size x H=some (n,new):=by rw [fC];exact hs
 simp only [iG,hu,hi,hz,cZ,hB]
 rw [fC] at h1
 rw [Iq,fC]
 rw [if_pos ⟨h1,by omega,by omega,by decide⟩]
 by_cases hc:sl+n<=sc
 ·rw [if_pos hc,if_pos hc,if_pos (by omega)]
  simp only [qg,hB]
  rw [if_pos ⟨by omega,Iu,trivial⟩]
  simp
 ·rw [if_neg hc,if_neg hc]
  rw [if_pos ⟨by omega,by omega,by omega,hle,trivial,trivial⟩]
  cases op with
  | true=>rw [if_pos rfl,if_pos rfl,if_pos ⟨trivial,Iu⟩,Nat.mul_one]
  | false=>rw [if_neg (by decide),if_neg (by decide),List.drop_zero,Nat.mul_one];rfl
theorem XP {X:Nat->Bool} {H:ad} {v:Value} {l xs:List Int} {b b':Nat} {e':TypeId} {o':Bool} {K:Value->ad->Prop} {tg:Tag K} (h:uw H v l b) (hb:b < H.next) (hX:X b=false) (hB:H.get b'=some ⟨xs.map iV,e',o',false⟩) (hx:xs≠[]) (hl:l.length+xs.length < 10000000000000)
  (hk:∀v' H' b2,uw H' v' (l++xs) b2->(b2=b∨b2=H.next)->b2 < H'.next->Fr [b] H H'->K v' H'):el Tryz.prog X H (iG Tryz.prog 22 v (.slice (some ⟨b',0,none⟩) xs.length xs.length) H) K tg:=by
 obtain ⟨c,ds,op,rfl,h2,h3⟩:=h
 have mj:0 < xs.length:=List.length_pos_iff.2 hx
 have hs:oC 1 (.slice (some ⟨b',0,none⟩) xs.length xs.length) H=some (xs.length,xs.map iV):=by
  simp only [oC]
  rw [if_neg (by omega)]
  simp only [hB]
  rw [if_pos (by simp),List.drop_zero,Nat.mul_one,List.take_of_length_le (by simp)]
 have hlen:l.length<=c:=by rw [<-h3];simp
 rw [XO hs (by simp) h2 h3 hlen hl mj (Jr xs)]
 have ix:(l.map iV++ds).take l.length=l.map iV:=by rw [List.take_append_of_le_length (by simp),List.take_of_length_le (by simp)]
 by_cases hc:l.length+xs.length<=c
 ·rw [if_pos hc,DZ hX]
  have db:xs.length<=ds.length:=by rw [List.length_append,List.length_map] at h3;omega
  refine hk _ _ b ⟨c,ds.drop xs.length,op,by rw [List.length_append],by rw [az,if_pos rfl];congr 2;unfold cT;rw [ix];simp [<-List.drop_drop],?_⟩ (.inl rfl) hb ((Fr.refl _ _).ah (.inl (by simp)) _)
  rw [<-h3];simp;omega
 ·rw [if_neg hc,ix]
  cases op with
  | true=>
   rw [if_pos rfl,Jv hX]
   refine hk _ _ H.next ⟨_,[],true,by rw [List.length_append],by rw [ux,if_pos rfl];simp,by simp⟩ (.inr rfl) (Nat.lt_succ_self _) ⟨Nat.le_succ _,fun c hc yC=>by rw [ux,if_neg (by omega),if_neg (fun e=>yC (by simp [e]))],fun c C hC hr=>by
    rw [ux] at hC
    (repeat' split at hC)
    ·cases hC;cases hr
    ·cases hC
    ·exact hC⟩
  | false=>
   rw [if_neg (by decide),wa]
   exact hk _ _ H.next ⟨_,[],true,by rw [List.length_append],by rw [aU,if_pos rfl];simp,by simp⟩ (.inr rfl) (Nat.lt_succ_self _) ((Fr.refl _ _).push _)
def zQ (ns:List aH) (d:Nat):Nat->List Int->List Int->Option (List Int)
 | 0,todo,out=>if todo.length=0 then some out else none
 | k+1,todo,out=>if todo.length=0 then some out else
   let at_:=todo.getD (todo.length - 1) 0
   if at_ < 0∨((out.length:Nat):Int)<=at_∨0<=out.getD at_.toNat 0 then zQ ns d k (todo.take (todo.length - 1)) out
   else
    let n:=ns.getD at_.toNat {}
    zQ ns d k ((todo.take (todo.length - 1)++[n.a,n.b,n.next])++n.ak.map (·.body)) (out.set at_.toNat (d:Nat))
def KU (ns:List aH) (fuel:Nat):List eH->Nat->List Int->Option (List Int)
 | [],_,out=>some out
 | x::l,d,out=>match zQ ns d fuel [x.body] out with
  | some uJ=>KU ns fuel l (d+1) uJ
  | none=>none
def Nv (fuel:Nat) (ns:List aH) (ds:List eH):Option (List Int):=KU ns fuel ds 0 (List.replicate ns.length (-1))
theorem GU {H:ad} {a:Int}:rL Tryz.prog 22 1 [(0,.int .i64 a)] H=.ok (.slice (some ⟨H.next,0,none⟩) 1 1) (H.push ⟨[.int .i64 a],3,false,false⟩):=
 Gy q9 (z:=[.int .i64 0]) (by kernel_rfl) (by decide) (by decide) rfl
theorem XQ {H:ad} {a b c:Int}:rL Tryz.prog 22 3 [(0,.int .i64 a),(1,.int .i64 b),(2,.int .i64 c)] H=.ok (.slice (some ⟨H.next,0,none⟩) 3 3) (H.push ⟨[.int .i64 a,.int .i64 b,.int .i64 c],3,false,false⟩):=
 Gy q9 (z:=[.int .i64 0]) (by kernel_rfl) (by decide) (by decide) rfl
theorem zx {o:List Int} {i:Nat} (h:i < o.length):(o.map iV)[i]?=some (iV (o.getD i 0)):=by
 rw [List.getElem?_map,List.getD_eq_getElem?_getD,List.getElem?_eq_getElem h];rfl
theorem adl {H:ad} {aM aR aD aN:Option Addr} {nM nR kM kR kD kN:Nat} {ns:List aH} {gN gD:List Nat} {ds:List eH} (hN:Sl j6 H (.slice aN ns.length kN) ns gN) (hg:∀c∈gN,c < H.next) (hD:Sl jh H (.slice aD ds.length kD) ds gD) (Pq:∀c∈gD,c < H.next) (hl:ns.length < 100000) (hlD:ds.length < 1000000) (fX:∀n∈ns,n.ak.length < 1000000) {fuel:Nat} (vj:fuel<=100000) {out:List Int} (he:Nv fuel ns ds=some out):
  aj Tryz.prog 48 #[.agg #[.slice aM nM kM,.slice aR nR kR,.slice aD ds.length kD,.slice aN ns.length kN]] H (fun v H'=>bc H H'/\out.length=ns.length/\∃b,v=.slice (some ⟨b,0,none⟩) ns.length ns.length/\H.next<=b/\b < H'.next/\H'.get b=some ⟨out.map iV,3,false,false⟩):=by
 refine aj.told ?_
 refine ag3 (Nat.le_refl _) fun hf=>?_
 simp only [Tryz.f48,Option.getD_some]
 have hX:∀{c:Nat},H.next<=c->H.fz c=false:=fun h=>hf.fresh h
 simp only [go_sem,GU]
 obtain ⟨H1,cF⟩:∃H1,H1=(H.push ⟨[.slice aM nM kM,.slice aR nR kR,.slice aD ds.length kD,.slice aN ns.length kN],28,false,false⟩).push ⟨[.int .i64 (-1)],3,false,false⟩:=⟨_,rfl⟩
 have g1:H1.get (H.next+1)=some ⟨[.int .i64 (-1)],3,false,false⟩:=by rw [cF,aU,bH,if_pos rfl]
 have p1:H1.get H.next=some ⟨[.slice aM nM kM,.slice aR nR kR,.slice aD ds.length kD,.slice aN ns.length kN],28,false,false⟩:=by rw [cF,aU,bH,if_neg (by omega),aU,if_pos rfl]
 have n1:H1.next=H.next+1+1:=by rw [cF];rfl
 have f1:Fr [] H H1:=by rw [cF];exact ((Fr.refl [] H).push _).push _
 rw [<-cF]
 clear cF
 refine af.by (acA (x:= -1) (n:=ns.length) g1 rfl hl) ?_
 rintro _ H2 - ⟨o2,rfl,n2,g2⟩
 rw [n1] at n2 g2
 obtain ⟨bo,jk⟩:∃bo,bo=H.next+1+1:=⟨_,rfl⟩
 rw [n1,<-jk]
 rw [<-jk] at n2 g2
 have p2:=(o2.get H.next (by omega)).trans p1
 have f2:Fr [] H H2:=f1.then (o2.fr [])
 clear g1 p1 n1 f1 o2
 simp only [go_sem,p2]
 refine il 309485009821345068724258288 ds.length (fun d V H3=>V 19=iV (d:Nat)/\∃o,KU ns fuel (ds.drop d) d o=some out/\o.length=ns.length/\Fr [] H H3/\bo < H3.next/\H3.get H.next=some ⟨[.slice aM nM kM,.slice aR nR kR,.slice aD ds.length kD,.slice aN ns.length kN],28,false,false⟩/\H3.get bo=some ⟨o.map iV,3,false,false⟩)
  ⟨by simp only [go_sem] <;> rfl,_,he,List.length_replicate ..,f2,n2,p2,g2⟩ ?_ ?_ (by rfl)
 ·rintro d V H3 hd ⟨ed,o,Cj,nZ,f3,n3,p3,g3⟩
  have hx:ds[d]?=some (ds[d]'hd):=List.getElem?_eq_getElem hd
  have DP:ds.drop d=(ds[d]'hd)::ds.drop (d+1):=(List.getElem_cons_drop hd).symm
  generalize (ds[d]'hd)=x at hx DP
  rw [DP,KU] at Cj
  cases gi:zQ ns d fuel [x.body] o with
  | none=>rw [gi] at Cj;cases Cj
  | some o'=>
  rw [gi] at Cj
  simp only at Cj
  obtain ⟨b,oo,c,B,gx,hv,hB,ee,de,b7,hE⟩:=(hD.ae (H':=H3) fun y hy=>f3.get y (Pq y hy) (by simp)).at hx
  simp only [Value.slice.injEq] at hv
  have Gk:=hv.1
  obtain ⟨vA,vQ,vB,u1,u2,u3,aV,rfl,t1,t2,t3⟩:=hE
  obtain ⟨a1,k1,rfl⟩:=t1.val
  obtain ⟨a2,k2,rfl⟩:=t2.val
  obtain ⟨a3,k3,rfl⟩:=t3.val
  have en:oo+d * 9+9<=B.cells.length:=b7
  have aV:(B.cells.drop (oo+d * 9)).take 9=[ag x.name,.slice a1 x.params.length k1,iV x.aX,iV x.body,iV x.line,iV x.au,.bool x.rW,.slice a2 x.pat.length k2,.slice a3 x.on.length k3]:=aV
  have VV:H.fz H3.next=false:=hX (by omega)
  simp only [go_sem,ed,p3,hd,Gk,hB,en,aV,VV,GU]
  obtain ⟨Ha,Gn⟩:∃Ha,Ha=(H3.push ⟨[ag x.name,.slice a1 x.params.length k1,iV x.aX,iV x.body,iV x.line,iV x.au,.bool x.rW,.slice a2 x.pat.length k2,.slice a3 x.on.length k3],38,false,false⟩).push ⟨[.int .i64 x.body],3,false,false⟩:=⟨_,rfl⟩
  rw [<-Gn]
  have na:Ha.next=H3.next+1+1:=by rw [Gn];rfl
  have fa:Fr [] H Ha:=by rw [Gn];exact (f3.push _).push _
  have ga:Ha.get bo=some ⟨o.map iV,3,false,false⟩:=by rw [Gn,aU,bH,if_neg (by omega),aU,if_neg (by omega)];exact g3
  have pa:Ha.get H.next=some ⟨[.slice aM nM kM,.slice aR nR kR,.slice aD ds.length kD,.slice aN ns.length kN],28,false,false⟩:=by rw [Gn,aU,bH,if_neg (by omega),aU,if_neg (by omega)];exact p3
  have ta:uw Ha (.slice (some ⟨H3.next+1,0,none⟩) 1 1) [x.body] (H3.next+1):=⟨1,[],false,rfl,by rw [Gn,aU,bH,if_pos rfl];rfl,rfl⟩
  clear Gn
  refine lp 154742504910672534228174272 (fun k V2 H4=>k<=fuel/\∃todo o4 bt,uw H4 (V2 6) todo bt/\bo < bt/\bt < H4.next/\todo.length+k * 1000003<=1+fuel * 1000003/\zQ ns d k todo o4=some o'/\o4.length=ns.length/\Fr [] H H4/\H4.get H.next=some ⟨[.slice aM nM kM,.slice aR nR kR,.slice aD ds.length kD,.slice aN ns.length kN],28,false,false⟩/\H4.get bo=some ⟨o4.map iV,3,false,false⟩) (n:=fuel)
   ⟨Nat.le_refl _,[x.body],o,H3.next+1,by simp only [go_sem];exact ta,by omega,by omega,Nat.le_refl _,gi,nZ,fa,pa,ga⟩ ?_ (by rfl)
  rintro k V2 H4 ⟨hkf,todo,o4,bt,ht,Mz,S4,fO,pZ,E3,f4,p4,g4⟩
  obtain ⟨c4,ds4,op4,L6,Lr,Pl⟩:=ht
  by_cases h0:todo.length=0
  ·have hoe:zQ ns d k todo o4=some o4:=by
    cases k with
    | zero=>rw [zQ,if_pos h0]
    | succ k=>rw [zQ,if_pos h0]
   rw [hoe] at pZ
   cases pZ
   have Ci:¬(0:Int) < ((0:Nat):Int):=by omega
   have hwd:IntKind.wrap .i64 (((d:Nat):Int)+1)=((d+1:Nat):Int):=cW hd (by omega)
   simp only [go_sem,L6,h0,Ci,ed,hwd]
   exact ⟨_,Cj,E3,f4,by omega,p4,g4⟩
  ·cases k with
   | zero=>rw [zQ,if_neg h0] at pZ;cases pZ
   | succ k=>
   rw [zQ,if_neg h0] at pZ
   obtain ⟨t,nJ⟩:∃t,todo.length=t+1:=⟨todo.length - 1,by omega⟩
   have mj:0 < ((todo.length:Nat):Int):=by omega
   have eX:IntKind.wrap .i64 (((todo.length:Nat):Int) - 1)=((t:Nat):Int):=by rw [uz (by omega) (by omega)];omega
   have KV:t < todo.length:=by omega
   have MA:(todo.map iV++ds4)[t]?=some (iV (todo.getD t 0)):=by rw [List.getElem?_append_left (by simp;omega)];exact zx KV
   rw [show todo.length - 1=t by omega] at pZ
   obtain ⟨at_,dW⟩:∃at_,at_=todo.getD t 0:=⟨_,rfl⟩
   rw [<-dW] at MA pZ
   have eL:iL Tryz.prog 22=some (3,1):=by kernel_rfl
   have VW:t<=c4:=by rw [<-Pl];simp;omega
   simp only [go_sem,Option.map_some,Option.map_none,L6,mj,eX,KV,Lr,MA,MW (b:=bt) (o:=0) (n:=todo.length) (c:=c4) eL VW]
   have iS:∀{H5},H5.get bt=H4.get bt->uw H5 (.slice (some ⟨bt,0,none⟩) t c4) (todo.take t) bt:=fun {H5} h=>⟨c4,(todo.drop t).map iV++ds4,op4,by rw [List.length_take,Nat.min_eq_left (by omega)],by rw [h,Lr,<-List.append_assoc,<-List.map_append,List.take_append_drop],by rw [<-List.append_assoc,<-List.map_append,List.take_append_drop];exact Pl⟩
   have aam:(todo.take t).length=t:=by rw [List.length_take,Nat.min_eq_left (by omega)]
   by_cases h1:at_ < 0
   ·rw [if_pos (.inl h1)] at pZ
    simp only [go_sem,h1]
    refine ⟨k,by omega,by omega,todo.take t,o4,bt,?_,Mz,S4,by omega,pZ,E3,f4,p4,g4⟩
    exact iS rfl
   by_cases h2:((ns.length:Nat):Int)<=at_
   ·rw [if_pos (.inr (.inl (by rw [E3];exact h2)))] at pZ
    simp only [go_sem,h1,h2]
    refine ⟨k,by omega,by omega,todo.take t,o4,bt,?_,Mz,S4,by omega,pZ,E3,f4,p4,g4⟩
    exact iS rfl
   obtain ⟨a,rfl⟩:=Int.eq_ofNat_of_zero_le (by omega:0<=at_)
   have ha:a < ns.length:=by omega
   have rA:(0:Int)<=((a:Nat):Int):=by omega
   have hca:=zx (o:=o4) (i:=a) (by omega)
   by_cases h3:0<=o4.getD a 0
   ·rw [if_pos (.inr (.inr h3))] at pZ
    simp only [go_sem,h1,h2,ha,g4,hca,h3]
    refine ⟨k,by omega,by omega,todo.take t,o4,bt,?_,Mz,S4,by omega,pZ,E3,f4,p4,rfl⟩
    exact iS rfl
   rw [if_neg (by rw [E3];simp only [Int.toNat_natCast];exact fun h=>h.elim h1 fun h=>h.elim h2 h3)] at pZ
   simp only [Int.toNat_natCast] at pZ
   have VX:ns[a]?=some (ns[a]'ha):=List.getElem?_eq_getElem ha
   have fG:ns.getD a {}=ns[a]'ha:=by rw [List.getD_eq_getElem?_getD,VX];rfl
   rw [fG] at pZ
   have cX:=fX _ (List.getElem_mem ha)
   generalize (ns[a]'ha)=y at VX pZ cX
   obtain ⟨dZ,oy,cy,By,gy,hvy,hBy,alM,VN,alN,hEy⟩:=(hN.ae (H':=H4) fun c hc=>f4.get c (hg c hc) (by simp)).at VX
   simp only [Value.slice.injEq] at hvy
   have haY:=hvy.1
   obtain ⟨wA,wQ,wB,w1,w2,w3,S5,rfl,q1,q2,q3⟩:=hEy
   obtain ⟨b1,j1,rfl⟩:=q1.val
   obtain ⟨b2,j2,rfl⟩:=q2.val
   obtain ⟨b3,j3,rfl⟩:=q3.val
   have aiP:oy+a * 20+20<=By.cells.length:=alN
   have S5:(By.cells.drop (oy+a * 20)).take 20=aJ y (.slice b1 y.args.length j1) (.slice b2 y.pat.length j2) (.slice b3 y.ak.length j3):=S5
   have VY:H.fz bo=false:=hX (by omega)
   have Af:H.fz H4.next=false:=hX (by omega)
   have Iq:dZ < bo:=by have:=hg dZ alM;omega
   have gI:¬dZ=bo:=by omega
   have Dp:¬H.next=bo:=by omega
   have Fx:a < (o4.map iV).length:=by rw [List.length_map];omega
   have hlb:a+1<=(o4.map iV).length:=by rw [List.length_map];omega
   have eU:∀A B C:ct,((H4.ah bo A).push B).ah H4.next C=(H4.ah bo A).push C:=fun A _ _=>Xa (H:=H4.ah bo A)
   simp only [go_sem,eU,h1,h2,ha,g4,hca,h3,VY,Af,Dp,p4,haY,hBy,aiP,S5,gI,Fx,hlb,XQ]
   obtain ⟨Hb,Ck⟩:∃Hb,Hb=((H4.ah bo ⟨(o4.map iV).set a (iV (d:Nat)),3,false,false⟩).push ⟨aJ y (.slice b1 y.args.length j1) (.slice b2 y.pat.length j2) (.slice b3 y.ak.length j3),42,false,false⟩).push ⟨[.int .i64 y.a,.int .i64 y.b,.int .i64 y.next],3,false,false⟩:=⟨_,rfl⟩
   rw [<-Ck]
   have nb:Hb.next=H4.next+1+1:=by rw [Ck];rfl
   have fb:Fr [] H Hb:=by rw [Ck];exact ((f4.ah (.inr (by omega)) _).push _).push _
   have gb:Hb.get bo=some ⟨(o4.set a (d:Nat)).map iV,3,false,false⟩:=by rw [Ck,aU,bH,om,if_neg (by omega),aU,om,if_neg (by omega),az,if_pos rfl,List.map_set]
   have pb:Hb.get H.next=some ⟨[.slice aM nM kM,.slice aR nR kR,.slice aD ds.length kD,.slice aN ns.length kN],28,false,false⟩:=by rw [Ck,aU,bH,om,if_neg (by omega),aU,om,if_neg (by omega),az,if_neg Dp];exact p4
   have yb:Hb.get H4.next=some ⟨aJ y (.slice b1 y.args.length j1) (.slice b2 y.pat.length j2) (.slice b3 y.ak.length j3),42,false,false⟩:=by rw [Ck,aU,bH,om,if_neg (by omega),aU,om,if_pos rfl]
   have lb:Hb.get (H4.next+1)=some ⟨[.int .i64 y.a,.int .i64 y.b,.int .i64 y.next],3,false,false⟩:=by rw [Ck,aU,bH,om,if_pos rfl]
   have tb:Hb.get bt=H4.get bt:=by rw [Ck,aU,bH,om,if_neg (by omega),aU,om,if_neg (by omega),az,if_neg (by omega)]
   clear Ck
   refine XP (xs:=[y.a,y.b,y.next]) (iS tb) (by omega) (hX (by omega)) lb (by simp) (by rw [aam];have:=Nat.mul_le_mul vj (Nat.le_refl 1000003);simp only [List.length_cons,List.length_nil];omega) ?_
   intro v5 H5 b5 UQ iy alO f5
   have gk:∀c,c < Hb.next->c≠bt->H5.get c=Hb.get c:=fun c hc hn=>f5.get c hc (by simp [hn])
   have n5:=f5.nx
   have y5:=(gk H4.next (by omega) (by omega)).trans yb
   have p5:=(gk H.next (by omega) (by omega)).trans pb
   have g5:=(gk bo (by omega) (by omega)).trans gb
   have ff5:Fr [] H H5:=by
    refine ⟨Nat.le_trans fb.nx f5.nx,fun c hc _=>(gk c (by omega) (by omega)).trans (fb.get c hc (by simp)),fun c B hB hr=>fb.ro c B (f5.ro c B hB hr) hr⟩
   simp only [go_sem,y5]
   have nP:todo.length+(k+1) * 1000003<=1+100000 * 1000003:=Nat.le_trans fO (by have:=Nat.mul_le_mul vj (Nat.le_refl 1000003);omega)
   refine il 154591389183220705715553344 y.ak.length (fun j V6 H6=>V6 77=iV (j:Nat)/\∃b6,uw H6 (V6 6) ((todo.take t++[y.a,y.b,y.next])++(y.ak.take j).map (·.body)) b6/\bo < b6/\b6 < H6.next/\H4.next < H6.next/\b6≠H4.next/\Fr [] H H6/\H6.get H.next=some ⟨[.slice aM nM kM,.slice aR nR kR,.slice aD ds.length kD,.slice aN ns.length kN],28,false,false⟩/\H6.get bo=some ⟨(o4.set a (d:Nat)).map iV,3,false,false⟩)
    ⟨by simp only [go_sem] <;> rfl,b5,by simp only [go_sem,List.take_zero,List.map_nil,List.append_nil];exact UQ,by omega,alO,by omega,by omega,ff5,p5,g5⟩ ?_ ?_ (by rfl)
   ·rintro j V6 H6 hj ⟨ej,b6,IL,FO,S6,n6,alP,f6,p6,g6⟩
    have hz:y.ak[j]?=some (y.ak[j]'hj):=List.getElem?_eq_getElem hj
    have ix:y.ak.take (j+1)=y.ak.take j++[y.ak[j]'hj]:=by rw [List.take_add_one,hz];rfl
    generalize (y.ak[j]'hj)=z at hz ix
    obtain ⟨bz,oz,cz,Bz,gz,hvz,hBz,avK,hgz,alQ,hEz⟩:=(q3.ae (H':=H6) fun c hc=>(f6.get c (hg c (VN c (by simp [hc]))) (by simp)).trans (f4.get c (hg c (VN c (by simp [hc]))) (by simp)).symm).at hz
    simp only [Value.slice.injEq] at hvz
    have haZ:=hvz.1
    obtain ⟨vS,vW,x1,x2,S7,rfl,r1,r2⟩:=hEz
    obtain ⟨aS,kS,rfl⟩:=r1.val
    obtain ⟨aW,kW,rfl⟩:=r2.val
    have aiQ:oz+j * 7+7<=Bz.cells.length:=alQ
    have S7:(Bz.cells.drop (oz+j * 7)).take 7=cC z (.slice aS z.aX.length kS) (.slice aW z.names.length kW):=S7
    have vK:IntKind.wrap .i64 (((j:Nat):Int)+1)=((j+1:Nat):Int):=cW hj (by omega)
    have B4:H.fz H6.next=false:=hX (by have:=f6.nx;omega)
    simp only [go_sem,ej,hj,haZ,hBz,aiQ,S7,B4,GU]
    obtain ⟨H7,cS⟩:∃H7,H7=(H6.push ⟨cC z (.slice aS z.aX.length kS) (.slice aW z.names.length kW),52,false,false⟩).push ⟨[.int .i64 z.body],3,false,false⟩:=⟨_,rfl⟩
    rw [<-cS]
    have n7:H7.next=H6.next+1+1:=by rw [cS];rfl
    have k7:∀c,c < H6.next->H7.get c=H6.get c:=fun c hc=>by rw [cS,aU,bH,if_neg (by omega),aU,if_neg (by omega)]
    have l7:H7.get (H6.next+1)=some ⟨[.int .i64 z.body],3,false,false⟩:=by rw [cS,aU,bH,if_pos rfl]
    have f7:Fr [] H H7:=by rw [cS];exact (f6.push _).push _
    clear cS
    refine XP (xs:=[z.body]) (IL.ae (k7 b6 S6)) (by omega) (hX (by omega)) l7 (by simp) (by
     simp only [List.length_append,List.length_map,List.length_take,List.length_cons,List.length_nil];omega) ?_
    intro v8 H8 b8 ht8 Am alR f8
    have VZ:∀c,c < H7.next->c≠b6->H8.get c=H7.get c:=fun c hc hn=>f8.get c hc (by simp [hn])
    have n8:=f8.nx
    simp only [go_sem,ej,vK]
    refine ⟨b8,?_,by omega,alR,by omega,by omega,⟨by omega,fun c hc _=>(VZ c (by omega) (by omega)).trans (f7.get c hc (by simp)),fun c B hB hr=>f7.ro c B (f8.ro c B hB hr) hr⟩,(VZ H.next (by omega) (by omega)).trans ((k7 H.next (by omega)).trans p6),(VZ bo (by omega) (by omega)).trans ((k7 bo (by omega)).trans g6)⟩
    rw [ix,List.map_append,<-List.append_assoc]
    exact ht8
   ·rintro V6 H6 ⟨ej,b6,IL,FO,S6,n6,alP,f6,p6,g6⟩
    rw [List.take_length] at IL
    have hjj:¬y.ak.length < y.ak.length:=by omega
    simp only [go_sem,ej,hjj]
    refine ⟨k,by omega,by omega,_,_,b6,IL,FO,S6,?_,pZ,by rw [List.length_set];exact E3,f6,p6,g6⟩
    simp only [List.length_append,List.length_map,List.length_cons,List.length_nil]
    omega
 ·rintro V H3 ⟨ed,o,Cj,nZ,f3,n3,p3,g3⟩
  rw [List.drop_length,KU] at Cj
  cases Cj
  simp only [go_sem,ed]
  exact ⟨(f3.ai _).aE,nZ,bo,rfl,by omega,n3,g3⟩
theorem aiR {cs l:List Value} {k n i:Nat} (h:(cs.drop k).take n=l) (hi:i < n):cs[k+i]?=l[i]?:=by
 rw [<-h,List.getElem?_take,if_pos hi,List.getElem?_drop]
structure jb where
 aM:Option Addr
 aR:Option Addr
 aD:Option Addr
 aN:Option Addr
 nR:Nat
 kM:Nat
 kR:Nat
 kD:Nat
 kN:Nat
 gM:List Nat
 gD:List Nat
 gN:List Nat
abbrev jb.c (x:jb) (P:bC):List Value:=[.slice x.aM P.msgs.length x.kM,.slice x.aR x.nR x.kR,.slice x.aD P.defs.length x.kD,.slice x.aN P.nodes.length x.kN]
structure rJ (H:ad) (P:bC) (x:jb):Prop where
 hM:Sl o9 H (.slice x.aM P.msgs.length x.kM) P.msgs x.gM
 hD:Sl jh H (.slice x.aD P.defs.length x.kD) P.defs x.gD
 hN:Sl j6 H (.slice x.aN P.nodes.length x.kN) P.nodes x.gN
 lt:∀c∈x.gM++(x.gD++x.gN),c < H.next
structure Aw (P:bC):Prop where
 m:P.msgs.length < 1000000
 d:P.defs.length < 1000000
 n:P.nodes.length < 100000
 nd:∀n∈P.nodes,alK n
 mt:∀x∈P.msgs,x.types.length < 1000000
 dp:∀x∈P.defs,x.params.length < 1000000
theorem rJ.ae {H H':ad} {P:bC} {x:jb} (h:rJ H P x) (o:bc H H'):rJ H' P x:=
 ⟨h.hM.ae fun c hc=>o.get c (h.lt c (by simp [hc])),h.hD.ae fun c hc=>o.get c (h.lt c (by simp [hc])),h.hN.ae fun c hc=>o.get c (h.lt c (by simp [hc])),fun c hc=>Nat.lt_of_lt_of_le (h.lt c hc) o.nx⟩
theorem rJ.fr {H H':ad} {P:bC} {x:jb} {M:List Nat} (h:rJ H P x) (o:Fr M H H') (hM:∀c∈M,c∉x.gM++(x.gD++x.gN)):rJ H' P x:=
 have k:∀c∈x.gM++(x.gD++x.gN),H'.get c=H.get c:=fun c hc=>o.get c (h.lt c hc) fun e=>hM c e hc
 ⟨h.hM.ae fun c hc=>k c (by simp [hc]),h.hD.ae fun c hc=>k c (by simp [hc]),h.hN.ae fun c hc=>k c (by simp [hc]),fun c hc=>Nat.lt_of_lt_of_le (h.lt c hc) o.nx⟩
structure TS where
 kv:List (Int × Int)
 ok:Bool
def wF (n:Int):Bool:=decide (0<=n)&&decide (n<=1152921504606846976)
def wG (a b:Int):Int × Bool:=if wF a=true/\wF b=true/\a<=1152921504606846976 - b then (a+b,true) else (0,false)
def mulM (a b:Int):Int × Bool:=if wF a=true/\wF b=true/\¬(0 < b/\(1152921504606846976:Int).tdiv b < a) then (a * b,true) else (0,false)
def Bg (a b:Int) (t:TS):Int × TS:=((wG a b).1,⟨t.kv,t.ok&&(wG a b).2⟩)
def OC (a b:Int) (t:TS):Int × TS:=((mulM a b).1,⟨t.kv,t.ok&&(mulM a b).2⟩)
abbrev TB:=Int->TS->Option (Int × TS)
def Kc (ds:List eH) (bd:TB) (d:Int) (t:TS):Option (Int × TS):=
 if d < 0∨((ds.length:Nat):Int)<=d then some (0,t)
 else match getM t.kv d with
  | some n=>some (n,t)
  | none=>(bd ((ds.map (·.body)).getD d.toNat 0) t).map fun x=>(x.1,⟨CL x.2.kv d x.1,x.2.ok⟩)
def KW (bd:TB):List eZ->Int->TS->Option (Int × TS)
 | [],m,t=>some (m,t)
 | b::l,m,t=>(bd b.body t).bind fun x=>KW bd l (if m < x.1 then x.1 else m) x.2
def If (ds:List eH) (bd:TB) (n:aH) (t:TS):Option (Int × TS):=
 if n.kind=8 then bd n.a t
 else if n.kind=11 then (bd n.a t).map fun x=>OC n.n x.1 x.2
 else if n.kind=10∨n.kind=13 then Kc ds bd n.f t
 else if n.kind=16 then (bd n.a t).bind fun x=>(bd n.b x.2).map fun y=>(if x.1 < y.1 then y.1 else x.1,y.2)
 else if n.kind=15 then KW bd n.ak 0 t
 else some (0,t)
def RP (n:aH) (place:Int):Bool:=([n.a,n.b,n.next]++n.ak.map (·.body)).any fun to=>decide (0<=to)&&decide (to<=place)
def Ig (ns:List aH) (aK:aH->TS->Option (Int × TS)):Nat->Int->Int->TS->Option (Int × TS)
 | 0,_,_,_=>none
 | j+1,sum,place,t=>
  if t.ok=true/\0<=place/\place < ((ns.length:Nat):Int) then
   (if RP (ns.getD place.toNat {}) place=true then some (sum,⟨t.kv,false⟩)
   else (aK (ns.getD place.toNat {}) t).bind fun x=>Ig ns aK j (Bg sum (Bg 1 x.1 x.2).1 (Bg 1 x.1 x.2).2).1 (ns.getD place.toNat {}).next (Bg sum (Bg 1 x.1 x.2).1 (Bg 1 x.1 x.2).2).2)
  else some (sum,t)
def PU (ns:List aH) (ds:List eH):Nat->TB
 | 0=>fun _ _=>none
 | k+1=>fun place t=>Ig ns (If ds (PU ns ds k)) 402 0 place t
def C4:List Int->Int->List Int
 | [],x=>[x]
 | y::l,x=>if x < y then y::C4 l x else x::y::l
def xH:List Int->List Int->List Int
 | [],acc=>acc
 | x::l,acc=>xH l (C4 acc x)
def Cs (l:List Int):List Int:=(xH l []).reverse
def lU:List Int->List Int
 | []=>[]
 | [x]=>[x]
 | x::y::l=>if x=y then lU (y::l) else x::lU (y::l)
def Bh (own:List Int) (d:Int):List aH->Nat->List Int
 | [],_=>[]
 | n::l,i=>if own.getD i 0=d/\(n.kind=10∨n.kind=13) then n.f::Bh own d l (i+1) else Bh own d l (i+1)
def Ct (fuel:Nat) (P:bC) (d:Int):Option (List Int):=
 if d < 0∨((P.defs.length:Nat):Int)<=d then some []
 else (Nv fuel P.nodes P.defs).bind fun own=>if (Bh own d P.nodes 0).length<=12 then some (lU (Cs (Bh own d P.nodes 0))) else none
def G7 (fuel:Nat) (P:bC):Nat->List Int->List Bool->Option (List Bool)
 | 0,_,_=>none
 | k+1,todo,out=>if todo.length=0 then some out else
  (let d:=todo.getD (todo.length - 1) 0
  if d < 0∨((out.length:Nat):Int)<=d∨out.getD d.toNat false=true then G7 fuel P k (todo.take (todo.length - 1)) out
  else (Ct fuel P d).bind fun cs=>G7 fuel P k (todo.take (todo.length - 1)++cs) (out.set d.toNat true))
def G8 (fuel:Nat) (P:bC) (d:Int):Option (List Bool):=(Ct fuel P d).bind fun cs=>G7 fuel P fuel cs (List.replicate P.defs.length false)
def G9 (fuel:Nat) (P:bC):List Bool->Nat->Option Bool
 | [],_=>some true
 | b::l,d=>if b=true then (G8 fuel P ((d:Nat):Int)).bind fun o=>if o.getD d false=true then some false else G9 fuel P l (d+1) else G9 fuel P l (d+1)
def Ep (fuel:Nat) (P:bC):Option Bool:=(G8 fuel P (sd P.defs)).bind fun to=>G9 fuel P to 0
def Kd (fuel:Nat) (P:bC):Option (Int × Bool):=
 if sd P.defs < 0 then some (0,false)
 else (Ep fuel P).bind fun e=>if e=false then some (0,false)
 else (Kc P.defs (PU P.nodes P.defs fuel) (sd P.defs) ⟨[],true⟩).map fun x=>if x.2.ok=true then (x.1,true) else (0,false)
theorem NP {H:ad} {n:Int}:aj Tryz.prog 155 #[iV n] H (fun r H'=>r=.bool (wF n)/\H=H'):=by
 refine afb (Nat.le_refl _) fun hf=>?_
 simp only [Tryz.f155,Option.getD_some]
 unfold wF
 by_cases h1:0<=n
 ·simp only [go_sem,h1,decide_true,Bool.true_and]
 ·simp only [go_sem,h1,decide_false,Bool.false_and]
theorem M0 {n:Int}:wF n=true↔0<=n/\n<=1152921504606846976:=by unfold wF;simp
theorem agp {H:ad} {a b:Int}:aj Tryz.prog 128 #[iV a,iV b] H (fun r H'=>r=.tuple #[iV (wG a b).1,.bool (wG a b).2]/\H=H'):=by
 refine aez (Nat.le_refl _) fun hf=>?_
 simp only [Tryz.f128,Option.getD_some]
 simp only [go_sem]
 refine af.by NP ?_
 rintro _ _ - ⟨rfl,rfl⟩
 by_cases h1:wF a=true
 ·simp only [go_sem,h1]
  refine af.by NP ?_
  rintro _ _ - ⟨rfl,rfl⟩
  by_cases h2:wF b=true
  ·have hb:=M0.1 h2
   have ha:=M0.1 h1
   have hw:IntKind.wrap .i64 (1152921504606846976 - b)=1152921504606846976 - b:=uz (by omega) (by omega)
   have mE:a<=1152921504606846976 - b->IntKind.wrap .i64 (a+b)=a+b:=fun h=>uz (by omega) (by omega)
   by_cases h3:a<=1152921504606846976 - b
   ·have h4:¬(1152921504606846976 - b < a):=by omega
    rw [show wG a b=(a+b,true) from by unfold wG;rw [if_pos ⟨h1,h2,h3⟩]]
    simp only [go_sem,h2,hw,h4,mE h3]
   ·have h4:1152921504606846976 - b < a:=by omega
    rw [show wG a b=(0,false) from by unfold wG;rw [if_neg (fun h=>h3 h.2.2)]]
    simp only [go_sem,h2,hw,h4]
  ·rw [show wG a b=(0,false) from by unfold wG;rw [if_neg (fun h=>h2 h.2.1)]]
   simp only [go_sem,h2]
 ·rw [show wG a b=(0,false) from by unfold wG;rw [if_neg (fun h=>h1 h.1)]]
  simp only [go_sem,h1]
theorem agq {H:ad} {a b:Int}:aj Tryz.prog 156 #[iV a,iV b] H (fun r H'=>r=.tuple #[iV (mulM a b).1,.bool (mulM a b).2]/\H=H'):=by
 refine afd (Nat.le_refl _) fun hf=>?_
 simp only [Tryz.f156,Option.getD_some]
 simp only [go_sem]
 refine af.by NP ?_
 rintro _ _ - ⟨rfl,rfl⟩
 by_cases h1:wF a=true
 ·simp only [go_sem,h1]
  refine af.by NP ?_
  rintro _ _ - ⟨rfl,rfl⟩
  by_cases h2:wF b=true
  ·have hb:=M0.1 h2
   have ha:=M0.1 h1
   by_cases h3:0 < b
   ·have oJ:b≠0:=by omega
    have hq:(1152921504606846976:Int).tdiv b=1152921504606846976 / b:=Int.tdiv_eq_ediv_of_nonneg (by decide)
    have Fv:(1152921504606846976:Int) / b<=1152921504606846976:=Int.ediv_le_self _ (by decide)
    have xe:0<=(1152921504606846976:Int) / b:=Int.ediv_nonneg (by decide) hb.1
    have hw:IntKind.wrap .i64 ((1152921504606846976:Int).tdiv b)=(1152921504606846976:Int).tdiv b:=uz (by rw [hq];omega) (by rw [hq];omega)
    by_cases h4:(1152921504606846976:Int).tdiv b < a
    ·rw [show mulM a b=(0,false) from by unfold mulM;rw [if_neg (fun h=>h.2.2 ⟨h3,h4⟩)]]
     simp only [go_sem,h2,h3,oJ,hw,h4]
    ·have hab:a * b<=1152921504606846976:=by
      rw [hq] at h4
      exact Int.le_trans (Int.mul_le_mul_of_nonneg_right (by omega) hb.1) (Int.ediv_mul_le _ oJ)
     have avL:0<=a * b:=Int.mul_nonneg ha.1 hb.1
     have mE:IntKind.wrap .i64 (a * b)=a * b:=uz (by omega) (by omega)
     rw [show mulM a b=(a * b,true) from by unfold mulM;rw [if_pos ⟨h1,h2,fun h=>h4 h.2⟩]]
     simp only [go_sem,h2,h3,oJ,hw,h4,mE]
   ·have oJ:b=0:=by omega
    subst oJ
    have mE:IntKind.wrap .i64 (a * 0)=a * 0:=by rw [Int.mul_zero];rfl
    rw [show mulM a 0=(a * 0,true) from by unfold mulM;rw [if_pos ⟨h1,h2,fun h=>h3 h.1⟩]]
    simp only [go_sem,h2,h3,mE]
  ·rw [show mulM a b=(0,false) from by unfold mulM;rw [if_neg (fun h=>h2 h.2.1)]]
   simp only [go_sem,h2]
 ·rw [show mulM a b=(0,false) from by unfold mulM;rw [if_neg (fun h=>h1 h.1)]]
  simp only [go_sem,h1]
abbrev PV (x:jb) (P:bC) (m:Nat) (ok:Bool):List Value:=[.slice x.aM P.msgs.length x.kM,.slice x.aR x.nR x.kR,.slice x.aD P.defs.length x.kD,.slice x.aN P.nodes.length x.kN,.map (some m),.bool ok]
structure CQ0 (H:ad) (P:bC) (x:jb) (c m:Nat) (t:TS):Prop where
 hc:H.get c=some ⟨PV x P m t.ok,86,false,false⟩
 hm:H.get m=some ⟨uH t.kv,48,false,false⟩
 rK:rJ H P x
 ne:c≠m
 cl:c < H.next
 ml:m < H.next
 cg:c∉x.gM++(x.gD++x.gN)
 mg:m∉x.gM++(x.gD++x.gN)
structure CQ (H:ad) (P:bC) (x:jb) (c m:Nat) (t:TS):Prop extends CQ0 H P x c m t where
 fc:H.fz c=false
 fm:H.fz m=false
def xQ (H:ad) (P:bC) (x:jb) (c m:Nat) (n:Int) (t:TS) (v:Value) (H':ad):Prop:=v=iV n/\Fr [c,m] H H'/\(∀b,H'.fz b=H.fz b)/\CQ0 H' P x c m t
theorem CQ0.fr {H H':ad} {P:bC} {x:jb} {c m:Nat} {t:TS} (h:CQ0 H P x c m t) (o:bc H H'):CQ0 H' P x c m t:=
 ⟨(o.get c h.cl).trans h.hc,(o.get m h.ml).trans h.hm,h.rK.ae o,h.ne,Nat.lt_of_lt_of_le h.cl o.nx,Nat.lt_of_lt_of_le h.ml o.nx,h.cg,h.mg⟩
theorem CQ0.set {H:ad} {P:bC} {x:jb} {c m:Nat} {t:TS} (h:CQ0 H P x c m t) (ok:Bool):CQ0 (H.ah c ⟨PV x P m ok,86,false,false⟩) P x c m ⟨t.kv,ok⟩:=
 ⟨by rw [az,if_pos rfl],by rw [az,if_neg (fun e=>h.ne e.symm)];exact h.hm,h.rK.fr (M:=[c]) ((Fr.refl _ _).ah (.inl (by simp)) _) (fun d hd=>by rw [List.mem_singleton] at hd;subst hd;exact h.cg),h.ne,h.cl,h.ml,h.cg,h.mg⟩
theorem CQ0.put {H:ad} {P:bC} {x:jb} {c m:Nat} {t:TS} (h:CQ0 H P x c m t) (kv:List (Int × Int)):CQ0 (H.ah m ⟨uH kv,48,false,false⟩) P x c m ⟨kv,t.ok⟩:=
 ⟨by rw [az,if_neg h.ne];exact h.hc,by rw [az,if_pos rfl],h.rK.fr (M:=[m]) ((Fr.refl _ _).ah (.inl (by simp)) _) (fun d hd=>by rw [List.mem_singleton] at hd;subst hd;exact h.mg),h.ne,h.cl,h.ml,h.cg,h.mg⟩
theorem CQ0.ai {H:ad} {P:bC} {x:jb} {c m:Nat} {t:TS} (h:CQ0 H P x c m t) (z:Nat->Bool):CQ0 (H.ai z) P x c m t:=
 ⟨h.hc,h.hm,⟨h.rK.hM.ae fun _ _=>rfl,h.rK.hD.ae fun _ _=>rfl,h.rK.hN.ae fun _ _=>rfl,h.rK.lt⟩,h.ne,h.cl,h.ml,h.cg,h.mg⟩
theorem Yd {H:ad} {P:bC} {x:jb} {c m:Nat} {t:TS} {a b:Int} (h:CQ H P x c m t):aj Tryz.prog 93 #[pV c,iV a,iV b] H (xQ H P x c m (Bg a b t).1 (Bg a b t).2):=by
 refine aj.told ?_
 refine ahU (Nat.le_refl _) fun hf=>?_
 simp only [Tryz.f93,Option.getD_some]
 simp only [go_sem]
 refine af.by agp ?_
 rintro _ _ - ⟨rfl,rfl⟩
 have hc:=h.hc
 have fc:=h.fc
 unfold Bg
 cases hk:t.ok with
 | true=>
  rw [hk] at hc
  simp only [go_sem,hc,fc,hk]
  exact ⟨rfl,((Fr.refl _ _).ah (.inl (by simp)) _).ai _,fun _=>rfl,(h.toCQ0.set _).ai _⟩
 | false=>
  rw [hk] at hc
  simp only [go_sem,hc,fc,hk]
  exact ⟨rfl,((Fr.refl _ _).ah (.inl (by simp)) _).ai _,fun _=>rfl,(h.toCQ0.set _).ai _⟩
theorem acB {H:ad} {P:bC} {x:jb} {c m:Nat} {t:TS} {a b:Int} (h:CQ H P x c m t):aj Tryz.prog 129 #[pV c,iV a,iV b] H (xQ H P x c m (OC a b t).1 (OC a b t).2):=by
 refine aj.told ?_
 refine aeB (Nat.le_refl _) fun hf=>?_
 simp only [Tryz.f129,Option.getD_some]
 simp only [go_sem]
 refine af.by agq ?_
 rintro _ _ - ⟨rfl,rfl⟩
 have hc:=h.hc
 have fc:=h.fc
 unfold OC
 cases hk:t.ok with
 | true=>
  rw [hk] at hc
  simp only [go_sem,hc,fc,hk]
  exact ⟨rfl,((Fr.refl _ _).ah (.inl (by simp)) _).ai _,fun _=>rfl,(h.toCQ0.set _).ai _⟩
 | false=>
  rw [hk] at hc
  simp only [go_sem,hc,fc,hk]
  exact ⟨rfl,((Fr.refl _ _).ah (.inl (by simp)) _).ai _,fun _=>rfl,(h.toCQ0.set _).ai _⟩
theorem aiS {H:ad} {a:Int}:aj Tryz.prog 138 #[iV a] H (fun r H'=>r=.bool false/\H=H'):=by
 refine aeF (Nat.le_refl _) fun hf=>?_
 simp only [Tryz.f138,Option.getD_some]
 simp only [go_sem]
theorem agr {H:ad} {a b:Int}:aj Tryz.prog 104 #[iV a,iV b] H (fun r H'=>r=.bool (decide (a < b))/\H=H'):=by
 refine adW (Nat.le_refl _) fun hf=>?_
 simp only [Tryz.f104,Option.getD_some]
 simp only [go_sem]
 refine af.by aiS ?_
 rintro _ _ - ⟨rfl,rfl⟩
 simp only [go_sem]
theorem adm {H:ad} {n:Nat} (hn:n < 256):aj Tryz.prog 108 #[.int .u64 (n:Nat)] H (fun r H'=>(∃k:Int,r=iV k)/\H=H'):=by
 refine adY (Nat.le_refl _) fun hf=>?_
 simp only [Tryz.f108,Option.getD_some]
 have h1:¬((4294967296:Int)<=((n:Nat):Int)):=by omega
 have h2:¬((65536:Int)<=((n:Nat):Int)):=by omega
 have h3:¬((256:Int)<=((n:Nat):Int)):=by omega
 have eC:∀{H:ad},rV Tryz.prog 72 5 (.int .u64 ((n:Nat):Int)) H=.ok (.int .u8 (IntKind.wrap .u8 ((n:Nat):Int))) H:=DW (ks:=.u64) (by kernel_rfl) (by kernel_rfl)
 have eX:IntKind.wrap .u8 ((n:Nat):Int)=((n:Nat):Int):=by
  show (((n:Nat):Int) % 256)=_
  omega
 have ic:∀{x:Int} {H:ad},rV Tryz.prog 5 3 (.int .u8 x) H=.ok (iV (IntKind.wrap .i64 x)) H:=DW (ks:=.u8) (by kernel_rfl) (by kernel_rfl)
 have hix:∀(s:List UInt8) (h:KH),n < s.length->xA Tryz.prog 9 (.string ⟨s.toArray⟩) (.int .u8 ((n:Nat):Int)) h=.ok (.int .u8 (((s.getD n 0).toNat:Nat):Int)) h:=fun s h hl=>by
  unfold xA
  rw [show Tryz.prog.underlying 9=some .string by kernel_rfl]
  show (match pg (ByteArray.mk s.toArray).data.toList n with
   | some c=>KO.ok (.int .u8 (.ofNat c.toNat)) h
   | none=>.no)=_
  rw [wb,DS,List.getD_eq_getElem?_getD,List.getElem?_eq_getElem hl]
  rfl
 simp only [go_sem,h1,h2,h3,eC,eX,hix,ic,List.append_eq,List.length_append,List.length_cons,List.length_nil,Nat.reduceAdd,hn]
 exact ⟨_,rfl⟩
theorem YV {H:ad} {n:Nat} (hn:n < 256):aj Tryz.prog 75 #[.int .u64 (n:Nat)] H (fun r H'=>(∃k:Int,r=iV k)/\H=H'):=by
 refine ahq (Nat.le_refl _) fun hf=>?_
 simp only [Tryz.f75,Option.getD_some]
 simp only [go_sem]
 refine af.by (adm hn) ?_
 rintro _ _ - ⟨⟨k,rfl⟩,rfl⟩
 simp only [go_sem]
 exact ⟨k,rfl⟩
theorem Xq (x:Int) (B:List Int):∀A:List Int,(∀a∈A,x < a)->C4 (A++B) x=A++C4 B x
 | [],_=>rfl
 | a::A,h=>by
  rw [List.cons_append,C4,if_pos (h a (by simp)),Xq x B A fun b hb=>h b (by simp [hb])];rfl
theorem Xr (x:Int):∀l:List Int,(C4 l x).length=l.length+1
 | []=>rfl
 | y::l=>by
  rw [C4]
  split
  ·rw [List.length_cons,Xr x l];rfl
  ·rfl
theorem Wt:∀l acc:List Int,(xH l acc).length=l.length+acc.length
 | [],acc=>by rw [xH];simp
 | x::l,acc=>by rw [xH,Wt l,Xr];simp;omega
theorem WN (l:List Int):(Cs l).length=l.length:=by unfold Cs;rw [List.length_reverse,Wt];simp
theorem adn (B R:List Int) (x y:Int):((B.reverse++(y::x::R)).set (B.length+1) y).set B.length x=B.reverse++(x::y::R):=by
 rw [List.set_append_right _ _ (by simp),List.set_append_right _ _ (by simp)]
 simp
theorem aan (B R:List Int) (y:Int):(B.reverse++(y::R)).getD B.length 0=y:=by
 rw [List.getD_eq_getElem?_getD,List.getElem?_append_right (by simp)];simp
theorem Qx (l:List Int) (j:Nat) (y:Int):(l.map iV).set j (iV y)=(l.set j y).map iV:=by rw [List.map_set]
abbrev yq (l:List Int) (op:Bool):ct:=⟨l.map iV,3,op,false⟩
abbrev C5 (b n:Nat):Value:=.slice (some ⟨b,0,none⟩) n n
theorem aiT {H:ad} {b:Nat} {l:List Int} {op:Bool} (h:H.get b=some (yq l op)) (hX:H.fz b=false) (hl:l.length < 1000000):
  aj Tryz.prog 98 #[C5 b l.length,iV 0,iV (l.length:Nat)] H (fun _ H'=>H'.get b=some (yq (Cs l) op)/\vi [b] H H'):=by
 have oa:∀c∈[b],∀B,H.get c=some B->B.ro=false:=fun c hc B hB=>by
  rw [List.mem_singleton] at hc
  subst hc
  rw [h] at hB;cases hB;rfl
 refine Yr (Nat.le_refl _) fun hf=>?_
 simp only [Tryz.f98,Option.getD_some]
 simp only [go_sem]
 refine lp 562949953420480 (fun k V H1=>∃i acc,1<=i/\k=l.length - i/\V 6=iV (i:Nat)/\xH (l.drop i) acc=xH l []/\acc.length=min i l.length/\H1.get b=some (yq (acc.reverse++l.drop i) op)/\vi [b] H H1) (n:=l.length - 1)
  ?_ ?_ (by rfl)
 ·cases l with
  | nil=>exact ⟨1,[],Nat.le_refl _,rfl,by simp only [go_sem] <;> rfl,rfl,rfl,h,.refl oa⟩
  | cons x r=>exact ⟨1,[x],Nat.le_refl _,rfl,by simp only [go_sem] <;> rfl,rfl,by simp,h,.refl oa⟩
 ·rintro k V H1 ⟨i,acc,hi,rfl,ei,hs,Bi,eF,hu⟩
  by_cases hc:i < l.length
  ·have hx:l[i]?=some (l[i]'hc):=List.getElem?_eq_getElem hc
   have DP:l.drop i=(l[i]'hc)::l.drop (i+1):=(List.getElem_cons_drop hc).symm
   generalize (l[i]'hc)=x at hx DP
   rw [DP] at hs eF
   rw [xH] at hs
   have Ih:acc.length=i:=by omega
   have sA:((i:Nat):Int) < ((l.length:Nat):Int):=by omega
   have bX:IntKind.wrap .i64 (((i:Nat):Int)+1)=((i+1:Nat):Int):=cW hc (by omega)
   simp only [go_sem,ei,sA]
   refine lp 562949953355904 (fun j V2 H2=>V2 7=iV (j:Nat)/\∃A B,acc=A++B/\B.length=j/\(∀a∈A,x < a)/\H2.get b=some (yq (B.reverse++(x::(A.reverse++l.drop (i+1)))) op)/\vi [b] H H2) (n:=i)
    ⟨by simp only [go_sem,ei] <;> rfl,[],acc,rfl,Ih,by simp,by simpa using eF,hu⟩ ?_ (by rfl)
   rintro j V2 H2 ⟨ej,A,B,Ii,V0,hA,Ij,ru⟩
   have CN:(∀y∈B.head?,¬x < y)->xH (l.drop (i+1)) (A++(x::B))=xH l []:=fun hB=>by
    rw [<-hs,Ii,Xq x B A hA]
    congr 2
    cases B with
    | nil=>rfl
    | cons y B=>rw [C4,if_neg (hB y rfl)]
   have aao:(A++(x::B)).reverse++l.drop (i+1)=B.reverse++(x::(A.reverse++l.drop (i+1))):=by simp
   have YW:(A++(x::B)).length=min (i+1) l.length:=by
    rw [List.length_append,List.length_cons]
    rw [Ii,List.length_append] at Ih
    omega
   cases B with
   | nil=>
    have hj0:j=0:=by simpa using V0.symm
    subst hj0
    have Ci:¬(0:Int) < ((0:Nat):Int):=by omega
    simp only [go_sem,ej,ei,bX,Ci]
    exact ⟨l.length - (i+1),by omega,i+1,A++[x],by omega,rfl,rfl,CN (by simp),YW,by rw [aao];exact Ij,ru⟩
   | cons y B=>
    obtain ⟨j,rfl⟩:∃j',j=j'+1:=⟨B.length,by simpa using V0.symm⟩
    have OD:B.length=j:=by simpa using V0
    rw [List.reverse_cons,List.append_assoc,List.singleton_append] at Ij
    obtain ⟨q,hq⟩:∃q,q=B.reverse++(y::x::(A.reverse++l.drop (i+1))):=⟨_,rfl⟩
    have hL:q.length=l.length:=by
     rw [hq];simp;rw [Ii] at Ih;simp at Ih;omega
    have e1:q.getD (j+1) 0=x:=by
     have:=aan (y::B) (A.reverse++l.drop (i+1)) x
     rw [List.reverse_cons,List.append_assoc,List.singleton_append,List.length_cons,OD] at this
     rw [hq];exact this
    have e2:q.getD j 0=y:=by rw [<-OD,hq];exact aan _ _ _
    have eV:((q.set (j+1) y).set j x)=B.reverse++(x::y::(A.reverse++l.drop (i+1))):=by
     rw [hq,<-OD];exact adn _ _ _ _
    rw [<-hq] at Ij
    have aZ:j+1 < q.length:=by rw [hq];simp;omega
    have iv:=zx aZ
    have Q6:=zx (o:=q) (i:=j) (by omega)
    rw [e1] at iv
    rw [e2] at Q6
    have hjp:(0:Int) < ((j+1:Nat):Int):=by omega
    have vK:IntKind.wrap .i64 (((j+1:Nat):Int) - 1)=((j:Nat):Int):=by
     rw [show (((j+1:Nat):Int) - 1)=((j:Nat):Int) by omega];exact uz (by omega) (by omega)
    have Au:j+1 < l.length:=by omega
    have th:j < l.length:=by omega
    simp only [go_sem,ej,hjp,Au,th,Ij,iv,vK,Q6]
    refine af.by agr ?_
    rintro _ _ - ⟨rfl,rfl⟩
    by_cases DA:x < y
    ·have Fv:j+1 < (q.map iV).length:=by rw [List.length_map];exact aZ
     have sO:j < ((q.map iV).set (j+1) (iV y)).length:=by rw [List.length_set,List.length_map];omega
     have alS:j+1+1<=(q.map iV).length:=Fv
     have alT:j+1<=((q.map iV).set (j+1) (iV y)).length:=sO
     simp only [go_sem,DA,ej,Au,th,Ij,iv,vK,Q6,hX,Fv,sO,alS,alT]
     refine ⟨j,by omega,rfl,A++[y],B,by rw [Ii];simp,OD,fun a ha=>?_,?_,(ru.ah (by simp) rfl).ah (by simp) rfl⟩
     ·rcases List.mem_append.1 ha with e | e
      ·exact hA a e
      ·rw [List.mem_singleton] at e;rw [e];exact DA
     ·rw [Qx,Qx,eV];simp
    ·simp only [go_sem,DA,ei,bX]
     exact ⟨l.length - (i+1),by omega,i+1,A++(x::y::B),by omega,rfl,rfl,CN (by simpa using DA),YW,by rw [aao];simpa [hq] using Ij,ru⟩
  ·have sA:¬((i:Nat):Int) < ((l.length:Nat):Int):=by omega
   simp only [go_sem,ei,sA]
   have hd:l.drop i=[]:=List.drop_eq_nil_of_le (by omega)
   rw [hd] at hs eF
   rw [xH] at hs
   rw [List.append_nil,hs] at eF
   exact ⟨eF,hu⟩
theorem ado {H:ad} {b:Nat} {B:ct} {x p:Int} (hB:H.get b=some B) (hc:B.cells[0]?=some (iV p)):aj Tryz.prog 92 #[iV x,pV b] H (fun r H'=>r=.bool (decide (0<=x)&&decide (x<=p))/\H=H'):=by
 refine ahS (Nat.le_refl _) fun hf=>?_
 simp only [Tryz.f92,Option.getD_some]
 by_cases h1:0<=x
 ·simp only [go_sem,h1,hB,hc,decide_true,Bool.true_and]
 ·simp only [go_sem,h1,decide_false,Bool.false_and]
theorem adp {H:ad} {w:Value} {l:List Int} {g:List Nat} {b:Nat} {q:Int->Bool} (hg:Sl .int H w l g) (hl:l.length < 2000000)
  (hq:∀x,aj Tryz.prog 92 #[iV x,pV b] H (fun r H'=>r=.bool (q x)/\H=H')):
  aj Tryz.prog 127 #[w,.func (.func 92) #[] #[pV b]] H (fun r H'=>(∃k:Int,r=iV k/\decide (0<=k)=l.any q)/\H=H'):=by
 refine aex (Nat.le_refl _) fun hf=>?_
 simp only [Tryz.f127,Option.getD_some]
 obtain ⟨a1,c1,sB⟩:=hg.val
 simp only [go_sem,sB]
 refine il 524080 l.length (fun i V H1=>V 8=iV (i:Nat)/\H=H1/\l.any q=(l.drop i).any q) ⟨by simp only [go_sem];rfl,rfl,rfl⟩ ?_ ?_ (by rfl)
 ·rintro i V H1 hi ⟨e8,rfl,iH⟩
  obtain ⟨b2,o2,c2,B2,nv,py,_,ags⟩:=hg.adT hi
  rw [sB] at nv
  cases nv
  simp only [go_sem,e8,hi,py,ags]
  refine af.by (hq _) ?_
  rintro _ _ - ⟨rfl,rfl⟩
  rw [Az hi,List.any_cons] at iH
  cases ht:q (l.getD i 0) with
  | false=>
   rw [ht,Bool.false_or] at iH
   simp only [go_sem,e8,cW hi (by omega)]
   exact iH
  | true=>
   rw [ht,Bool.true_or] at iH
   simp only [go_sem,e8]
   exact ⟨_,rfl,by rw [iH];simp⟩
 ·rintro V H1 ⟨e8,rfl,iH⟩
  simp only [go_sem,e8]
  exact ⟨_,rfl,by rw [iH,List.drop_length];rfl⟩
theorem adq {H:ad} {w:Value} {l:List Int} {g:List Nat} {b:Nat} {q:Int->Bool} (hg:Sl .int H w l g) (hl:l.length < 2000000)
  (hq:∀x,aj Tryz.prog 92 #[iV x,pV b] H (fun r H'=>r=.bool (q x)/\H=H')):
  aj Tryz.prog 90 #[w,.func (.func 92) #[] #[pV b]] H (fun r H'=>r=.bool (l.any q)/\H=H'):=by
 refine ahP (Nat.le_refl _) fun hf=>?_
 simp only [Tryz.f90,Option.getD_some]
 simp only [go_sem]
 refine af.by (adp hg hl hq) ?_
 rintro _ _ - ⟨⟨k,rfl,hk⟩,rfl⟩
 simp only [go_sem,hk]
theorem acC {H:ad} {n:aH} {vA vQ vB:Value} {gB:List Nat} {aA aQ:Option Addr} {nA kA nQ kQ:Nat} (hA:vA=.slice aA nA kA) (hQ:vQ=.slice aQ nQ kQ) (hB:Sl dB H vB n.ak gB) (IH:∀c∈gB,c < H.next) (hl:n.ak.length < 1000000):
  aj Tryz.prog 91 #[.agg (aJ n vA vQ vB).toArray] H (fun r H'=>bc H H'/\(∀c,H'.fz c=H.fz c)/\∃f',Ow .int 3 H' r (n.ak.map (·.body)) f'/\Bq H.next H' f'):=by
 refine aj.told ?_
 refine qi (l:=[_]) _ mixed Tryz.func91 ahQ [.tmp 2] (show 1<=20 by decide) rfl fun hf=>?_
 simp only [Tryz.f91,Option.getD_some]
 have hX:∀{c:Nat},H.next<=c->H.fz c=false:=fun h=>hf.fresh h
 subst hA
 subst hQ
 obtain ⟨aB,kB,rfl⟩:=hB.val
 simp only [go_sem]
 obtain ⟨H1,cF⟩:∃H1,H1=(H.push ⟨aJ n (.slice aA nA kA) (.slice aQ nQ kQ) (.slice aB n.ak.length kB),42,false,false⟩).ai H.fz:=⟨_,rfl⟩
 have V5:OF H H1:=by rw [cF];exact ⟨(((Fr.refl [] H).push _).ai _).aE,fun _ _=>rfl⟩
 have n1:H1.next=H.next+1:=by rw [cF];rfl
 have z1:∀c,H1.fz c=H.fz c:=fun c=>by rw [cF];rfl
 have pr:=hB.ae (H':=H1) fun c hc=>V5.aE.get c (IH c hc)
 rw [<-cF]
 clear cF
 refine pe 523816 n.ak.length (fun i V H2=>V 9=iV (i:Nat)/\OF H H2/\bc H1 H2/\∃fa,Ow .int 3 H2 (V 3) ((n.ak.take i).map (·.body)) fa/\Bq H1.next H2 fa)
  ⟨by simp only [go_sem] <;> rfl,V5,bc.refl _,[],by simp only [go_sem];exact Ow.nil _ _ _,⟨List.nodup_nil,by simp,by simp⟩⟩ ?_ ?_ (by rfl)
 ·rintro i V H2 hi ⟨ei,of2,o2,fa,js,fu⟩
  have hx:n.ak[i]?=some (n.ak[i]'hi):=List.getElem?_eq_getElem hi
  have ix:n.ak.take (i+1)=n.ak.take i++[n.ak[i]'hi]:=List.take_succ_eq_append_getElem hi
  generalize (n.ak[i]'hi)=x at hx ix
  obtain ⟨b,o,c,B,gx,hv,Gp,ee,de,b7,hE⟩:=(pr.ae fun c hc=>o2.get c (by have:=IH c hc;omega)).at hx
  simp only [Value.slice.injEq] at hv
  have Gk:=hv.1
  obtain ⟨vS,vN,u1,u2,aV,rfl,s1,s2⟩:=hE
  obtain ⟨a1,k1,rfl⟩:=s1.val
  obtain ⟨a2,k2,rfl⟩:=s2.val
  have aV:(B.cells.drop (o+i * 7)).take 7=cC x (.slice a1 x.aX.length k1) (.slice a2 x.names.length k2):=aV
  have en:o+i * 7+7<=B.cells.length:=b7
  have n2:=o2.nx
  have bX:IntKind.wrap .i64 (((i:Nat):Int)+1)=((i+1:Nat):Int):=cW hi (by omega)
  have ef:H.fz H2.next=false:=hX (by omega)
  simp only [go_sem,ei,hi,Gk,Gp,en,aV,ef,GU]
  obtain ⟨H3,dI⟩:∃H3,H3=(((H2.ai H.fz).push ⟨cC x (.slice a1 x.aX.length k1) (.slice a2 x.names.length k2),52,false,false⟩).ai H.fz).push ⟨[.int .i64 x.body],3,false,false⟩:=⟨_,rfl⟩
  have g3:H3.get (H2.next+1)=some ⟨[.int .i64 x.body],3,false,false⟩:=by rw [dI,aU];exact if_pos rfl
  have n3:H3.next=H2.next+1+1:=by rw [dI];rfl
  have o3:bc H2 H3:=by rw [dI];exact (((((Fr.refl [] H2).ai _).push _).ai _).push _).aE
  have z3:∀c,c < H.next->H3.fz c=H.fz c:=fun c hc=>by
   rw [dI]
   show (c==H2.next+1||H.fz c)=_
   rw [show (c==H2.next+1)=false from by rw [beq_eq_false_iff_ne];omega,Bool.false_or]
  have alU:Ow .int 3 H3 (V 3) ((n.ak.take i).map (·.body)) fa:=js.ae fun c hc=>o3.get c (fu.hi c hc)
  rw [<-dI]
  clear dI
  refine Gz (Hb:=H1) (r:=.int) (x:=x.body) (g:=[]) q9 alU (o2.trans o3) ⟨fu.nd,fu.lo,fun y hy=>Nat.lt_of_lt_of_le (fu.hi y hy) o3.nx⟩ ⟨List.nodup_nil,by simp,by simp⟩ (by simp) (fun y hy=>hX (by have:=fu.lo y hy;omega)) g3 ⟨rfl,rfl⟩ rfl (by simp;omega) ?_
  intro v' H4 f' E4 nO jo F8 ij o4
  simp only [go_sem,ei,bX]
  rw [<-List.map_singleton,<-List.map_append,<-ix] at E4
  exact ⟨⟨((o4.fr []).ai _ |>.aE |> fun o=>(V5.aE.trans o)),fun _ _=>rfl⟩,((o4.fr []).ai _).aE,f',E4.ae fun _ _=>rfl,nO.nd,nO.lo,nO.hi⟩
 ·rintro V H2 ⟨ei,of2,o2,fa,js,fu⟩
  simp only [go_sem,ei]
  rw [List.take_of_length_le (Nat.le_refl _)] at js
  exact ⟨((of2.aE.fr []).ai _).aE,fun _=>trivial,fa,js.ae fun _ _=>rfl,fu.nd,fun y hy=>by have:=fu.lo y hy;omega,fu.hi⟩
structure gS (H:ad) (P:bC) (x:jb) (c m:Nat) (H1:ad) (t:TS):Prop where
 cq:CQ0 H1 P x c m t
 fr:Fr [c,m] H H1
 fz:∀b,b < H.next->H1.fz b=H.fz b
 lc:c < H.next
 lm:m < H.next
 zc:H.fz c=false
 zm:H.fz m=false
 zn:∀b,H.next<=b->H.fz b=false
section
variable {H H1 H2:ad} {P:bC} {x:jb} {c m:Nat} {t t1 t2:TS}
theorem gS.start (h:CQ H P x c m t) (hf:bW H):gS H P x c m H t:=⟨h.toCQ0,.refl _ _,fun _ _=>rfl,h.cl,h.ml,h.fc,h.fm,fun _ hb=>hf.fresh hb⟩
theorem gS.q (h:gS H P x c m H1 t):CQ H1 P x c m t:={h.cq with fc:=by rw [h.fz _ h.lc];exact h.zc,fm:=by rw [h.fz _ h.lm];exact h.zm}
theorem gS.of (h:gS H P x c m H1 t) (o:OF H1 H2):gS H P x c m H2 t:=
 ⟨h.cq.fr o.aE,h.fr.trans (o.aE.fr []) (by simp),fun b hb=>(o.fz b (Nat.lt_of_lt_of_le hb h.fr.nx)).trans (h.fz b hb),h.lc,h.lm,h.zc,h.zm,h.zn⟩
theorem gS.told (h:gS H P x c m H1 t):gS H P x c m (H1.ai H.fz) t:=⟨h.cq.ai _,h.fr.ai _,fun _ _=>rfl,h.lc,h.lm,h.zc,h.zm,h.zn⟩
theorem gS.call {n:Int} {v:Value} (h:gS H P x c m H1 t) (p:xQ H1 P x c m n t2 v H2):gS H P x c m H2 t2:=
 ⟨p.2.2.2,h.fr.then p.2.1,fun b hb=>(p.2.2.1 b).trans (h.fz b hb),h.lc,h.lm,h.zc,h.zm,h.zn⟩
theorem gS.post (h:gS H P x c m H1 t) (n:Int):xQ H P x c m n t (iV n) (H1.ai H.fz):=⟨rfl,h.fr.ai _,fun _=>rfl,h.cq.ai _⟩
theorem gS.push (h:gS H P x c m H1 t) (B:ct) (hB:B.ro=false:=by rfl):gS H P x c m (H1.push B) t:=h.of ((OF.refl _).push B hB)
theorem gS.own (h:gS H P x c m H1 t) {b:Nat} (hb:H.next<=b) (hg:b∉x.gM++(x.gD++x.gN)) (B:ct) (hB:B.ro=false:=by rfl):gS H P x c m (H1.ah b B) t:=by
 have h1:c≠b:=by have:=h.lc;omega
 have h2:m≠b:=by have:=h.lm;omega
 exact ⟨⟨by rw [az,if_neg h1];exact h.cq.hc,by rw [az,if_neg h2];exact h.cq.hm,h.cq.rK.fr (M:=[b]) ((Fr.refl _ _).ah (.inl (by simp)) _ hB) (fun d hd=>by rw [List.mem_singleton] at hd;subst hd;exact hg),h.cq.ne,h.cq.cl,h.cq.ml,h.cq.cg,h.cq.mg⟩,
  h.fr.ah (.inr hb) _ hB,h.fz,h.lc,h.lm,h.zc,h.zm,h.zn⟩
theorem gS.put (h:gS H P x c m H1 t) (kv:List (Int × Int)):gS H P x c m (H1.ah m ⟨uH kv,48,false,false⟩) ⟨kv,t.ok⟩:=
 ⟨h.cq.put kv,h.fr.ah (.inl (by simp)) _,h.fz,h.lc,h.lm,h.zc,h.zm,h.zn⟩
theorem gS.set (h:gS H P x c m H1 t) (ok:Bool):gS H P x c m (H1.ah c ⟨PV x P m ok,86,false,false⟩) ⟨t.kv,ok⟩:=
 ⟨h.cq.set ok,h.fr.ah (.inl (by simp)) _,h.fz,h.lc,h.lm,h.zc,h.zm,h.zn⟩
end
def PX (P:bC) (x:jb) (bd:TB):Prop:=∀{H:ad} {c m:Nat} {t:TS} {place n:Int} {t':TS},CQ H P x c m t->bd place t=some (n,t')->
 aj Tryz.prog 71 #[pV c,iV place] H (xQ H P x c m n t')
theorem Q7 {P:bC} {x:jb} (hz:Aw P) {bd:TB} (jn:PX P x bd) {H:ad} {c m:Nat} {t:TS} (h:CQ H P x c m t) {d n:Int} {t':TS} (he:Kc P.defs bd d t=some (n,t')):
  aj Tryz.prog 43 #[pV c,iV d] H (xQ H P x c m n t'):=by
 refine qi (l:=[_,_]) _ mixed Tryz.func43 agY [.tmp 4] (show 2<=48 by decide) rfl fun hf=>?_
 simp only [Tryz.f43,Option.getD_some]
 have r0:=gS.start h hf
 have hc:=h.hc
 have hm:=h.hm
 unfold Kc at he
 by_cases h1:d < 0
 ·rw [if_pos (.inl h1)] at he
  cases he
  simp only [go_sem,h1]
  exact r0.post 0
 by_cases h2:((P.defs.length:Nat):Int)<=d
 ·rw [if_pos (.inr h2)] at he
  cases he
  simp only [go_sem,h1,hc,h2]
  exact r0.post 0
 rw [if_neg (fun e=>e.elim h1 h2)] at he
 obtain ⟨k,rfl⟩:=Int.eq_ofNat_of_zero_le (by omega:0<=d)
 have hk:k < P.defs.length:=by omega
 have vf:(0:Int)<=((k:Nat):Int):=by omega
 cases hg:getM t.kv ((k:Nat):Int) with
 | some v=>
  rw [hg] at he
  cases he
  simp only [go_sem,h1,hc,h2,hm,hg,Option.getD_some,Option.isSome_some]
  exact r0.told.post _
 | none=>
  rw [hg] at he
  simp only at he
  have hy:P.defs[k]?=some (P.defs[k]'hk):=List.getElem?_eq_getElem hk
  have alV:(P.defs.map (·.body)).getD k 0=(P.defs[k]'hk).body:=by rw [List.getD_eq_getElem?_getD,List.getElem?_map,hy];rfl
  simp only [Int.toNat_natCast] at he
  rw [alV] at he
  generalize (P.defs[k]'hk)=y at hy he
  cases hb:bd y.body t with
  | none=>rw [hb] at he;cases he
  | some r=>
  rw [hb] at he
  cases he
  obtain ⟨b,o,cc,B,gx,hv,hB,ee,de,b7,hE⟩:=h.rK.hD.at hy
  simp only [Value.slice.injEq] at hv
  have F0:=hv.1
  obtain ⟨vA,vQ,vB,u1,u2,u3,aV,rfl,s1,s2,s3⟩:=hE
  have iT:B.cells[o+k * 9+3]?=some (iV y.body):=aiR (i:=3) aV (by decide)
  simp only [go_sem,h1,hc,h2,hm,hg,Option.getD_none,Option.isSome_none,F0,hk,hB,iT]
  refine af.by (jn r0.told.q hb) ?_
  rintro _ H2 - p2
  obtain ⟨rfl, -⟩:=id p2
  have r2:=r0.told.call p2
  have ic:=r2.cq.hc
  have To:=r2.cq.hm
  have zm:=h.fm
  simp only [go_sem,ic,To,zm]
  exact ((r2.told.put _).told).post _
theorem Ye {k k':IntKind} {a b:Int} {h:KH}:xS true (.int k a) (.int k' b) h=.ok (.int k (if a < b then b else a)) h:=by
 simp only [xS,xB,cond_true]
 by_cases hb:a < b
 ·simp only [hb,decide_true,cond_true,if_true]
 ·simp only [hb,decide_false,cond_false,if_false]
structure alW (H:ad) (x:jb) (n:aH) (vA vQ vB:Value) (gB:List Nat):Prop where
 hA:∃a k c,vA=.slice a k c
 hQ:∃a k c,vQ=.slice a k c
 hB:Sl dB H vB n.ak gB
 gB:∀b∈gB,b∈x.gM++(x.gD++x.gN)
 bl:n.ak.length < 1000000
theorem aiU {P:bC} {x:jb} (hz:Aw P) {bd:TB} (jn:PX P x bd) {H:ad} {c m:Nat} {t:TS} (h:CQ H P x c m t) {nd:aH} {vA vQ vB:Value} {gB:List Nat} (hn:alW H x nd vA vQ vB gB) {n:Int} {t':TS} (he:If P.defs bd nd t=some (n,t')):
  aj Tryz.prog 94 #[pV c,.agg (aJ nd vA vQ vB).toArray] H (xQ H P x c m n t'):=by
 refine qi (l:=[_,_]) _ mixed Tryz.func94 ahV [.tmp 4] (show 2<=61 by decide) rfl fun hf=>?_
 simp only [Tryz.f94,Option.getD_some]
 have r0:=gS.start h hf
 obtain ⟨aA,nA,kA,rfl⟩:=hn.hA
 obtain ⟨aQ,nQ,kQ,rfl⟩:=hn.hQ
 obtain ⟨aB,kB,Mt⟩:=hn.hB.val
 subst Mt
 unfold If at he
 simp only [go_sem]
 obtain ⟨H1,cF⟩:∃H1,H1=(H.push ⟨aJ nd (.slice aA nA kA) (.slice aQ nQ kQ) (.slice aB nd.ak.length kB),42,false,false⟩).ai H.fz:=⟨_,rfl⟩
 have r1:gS H P x c m H1 t:=by rw [cF];exact (r0.push _).told
 have y1:H1.get H.next=some ⟨aJ nd (.slice aA nA kA) (.slice aQ nQ kQ) (.slice aB nd.ak.length kB),42,false,false⟩:=by rw [cF,be,aU,if_pos rfl]
 have n1:H1.next=H.next+1:=by rw [cF];rfl
 rw [<-cF]
 clear cF
 have lc:=r0.lc
 have lm:=r0.lm
 have own:∀{H2:ad} {t2:TS} {v:Value} {k:Int},xQ (H1.ai H.fz) P x c m k t2 v H2->H2.get H.next=some ⟨aJ nd (.slice aA nA kA) (.slice aQ nQ kQ) (.slice aB nd.ak.length kB),42,false,false⟩:=fun p=>
  (p.2.1.get _ (by show H.next < H1.next;omega) (by simp;omega)).trans y1
 by_cases k8:nd.kind=8
 ·rw [if_pos k8] at he
  simp only [go_sem,y1,k8]
  refine af.by (jn r1.q he) ?_
  rintro _ H2 - p2
  obtain ⟨rfl, -⟩:=id p2
  simp only [go_sem]
  exact (r1.call p2).post _
 rw [if_neg k8] at he
 by_cases IS:nd.kind=11
 ·rw [if_pos IS] at he
  cases hb:bd nd.a t with
  | none=>rw [hb] at he;cases he
  | some r=>
  rw [hb] at he
  cases he
  simp only [go_sem,y1,IS]
  refine af.by (jn r1.told.q hb) ?_
  rintro _ H2 - p2
  obtain ⟨rfl, -⟩:=id p2
  have y2:=own p2
  have r2:=r1.told.call p2
  simp only [go_sem,y1,y2]
  refine af.by (acB r2.q) ?_
  rintro _ H3 - p3
  obtain ⟨rfl, -⟩:=id p3
  simp only [go_sem]
  exact (r2.call p3).post _
 rw [if_neg IS] at he
 by_cases pW:nd.kind=10∨nd.kind=13
 ·rw [if_pos pW] at he
  have fin:∀{H3:ad} {v:Value},xQ (H1.ai H.fz) P x c m n t' v H3->xQ H P x c m n t' v (H3.ai H.fz):=fun p=>by
   obtain ⟨rfl, -⟩:=id p
   exact (r1.told.call p).post _
  rcases pW with pW | pW
  ·simp only [go_sem,y1,pW]
   refine af.by (Q7 hz jn r1.told.q he) ?_
   rintro _ H3 - p3
   simp only [go_sem]
   exact fin p3
  ·simp only [go_sem,y1,pW]
   refine af.by (Q7 hz jn r1.told.q he) ?_
   rintro _ H3 - p3
   simp only [go_sem]
   exact fin p3
 rw [if_neg pW] at he
 have alX:¬nd.kind=10:=fun e=>pW (.inl e)
 have alY:¬nd.kind=13:=fun e=>pW (.inr e)
 by_cases PY:nd.kind=16
 ·rw [if_pos PY] at he
  cases hb:bd nd.a t with
  | none=>rw [hb] at he;cases he
  | some r=>
  rw [hb,Option.bind_some] at he
  cases fe:bd nd.b r.2 with
  | none=>rw [fe] at he;cases he
  | some r2=>
  rw [fe] at he
  cases he
  simp only [go_sem,y1,PY]
  refine af.by (jn r1.told.q hb) ?_
  rintro _ H2 - p2
  obtain ⟨rfl, -⟩:=id p2
  have y2:=own p2
  have q2:=r1.told.call p2
  simp only [go_sem,y1,y2]
  refine af.by (jn q2.q fe) ?_
  rintro _ H3 - p3
  obtain ⟨rfl, -⟩:=id p3
  simp only [go_sem,Ye]
  exact (q2.call p3).post _
 rw [if_neg PY] at he
 by_cases vV:nd.kind=15
 ·rw [if_pos vV] at he
  simp only [go_sem,y1,vV]
  have kt:∀b∈gB,b < H.next/\b≠c/\b≠m:=fun b hb=>⟨h.rK.lt b (hn.gB b hb),fun e=>h.cg (e▸hn.gB b hb),fun e=>h.mg (e▸hn.gB b hb)⟩
  refine pe 1152358554653425824 nd.ak.length (fun i V H2=>V 49=iV (i:Nat)/\∃mx t2,V 5=iV mx/\gS H P x c m H2 t2/\KW bd (nd.ak.drop i) mx t2=some (n,t'))
   ⟨by simp only [go_sem] <;> rfl,0,t,by simp only [go_sem] <;> rfl,r1.told,he⟩ ?_ ?_ (by rfl)
  ·rintro i V H2 hi ⟨ei,mx,t2,em,r2,ie⟩
   have hx:nd.ak[i]?=some (nd.ak[i]'hi):=List.getElem?_eq_getElem hi
   have DP:nd.ak.drop i=(nd.ak[i]'hi)::nd.ak.drop (i+1):=(List.getElem_cons_drop hi).symm
   generalize (nd.ak[i]'hi)=y at hx DP
   rw [DP,KW] at ie
   cases hb:bd y.body t2 with
   | none=>rw [hb] at ie;cases ie
   | some r=>
   rw [hb,Option.bind_some] at ie
   obtain ⟨b,o,cc,B,gx,hv,Gp,ee,de,b7,hE⟩:=(hn.hB.ae (H':=H2) fun b hb=>r2.fr.get b (kt b hb).1 (by simp [(kt b hb).2.1,(kt b hb).2.2])).at hx
   simp only [Value.slice.injEq] at hv
   have Gk:=hv.1
   obtain ⟨vS,vN,u1,u2,aV,rfl,s1,s2⟩:=hE
   obtain ⟨a1,k1,rfl⟩:=s1.val
   obtain ⟨a2,k2,rfl⟩:=s2.val
   have aV:(B.cells.drop (o+i * 7)).take 7=cC y (.slice a1 y.aX.length k1) (.slice a2 y.names.length k2):=aV
   have en:o+i * 7+7<=B.cells.length:=b7
   have n2:=r2.fr.nx
   have Sg:=hn.bl
   have bX:IntKind.wrap .i64 (((i:Nat):Int)+1)=((i+1:Nat):Int):=cW hi (by omega)
   have ef:H.fz H2.next=false:=r0.zn _ n2
   simp only [go_sem,ei,hi,Gk,Gp,en,aV,ef]
   obtain ⟨H3,dI⟩:∃H3,H3=((H2.ai H.fz).push ⟨cC y (.slice a1 y.aX.length k1) (.slice a2 y.names.length k2),52,false,false⟩).ai H.fz:=⟨_,rfl⟩
   have r3:gS H P x c m H3 t2:=by rw [dI];exact (r2.told.push _).told
   rw [<-dI]
   clear dI
   refine af.by (jn r3.q hb) ?_
   rintro _ H4 - p4
   obtain ⟨rfl, -⟩:=id p4
   simp only [go_sem,em,Ye,ei,bX]
   exact ⟨_,r.2,rfl,(r3.call p4).told,ie⟩
  ·rintro V H2 ⟨ei,mx,t2,em,r2,ie⟩
   rw [List.drop_length,KW] at ie
   cases ie
   simp only [go_sem,ei,em]
   exact r2.post _
 ·rw [if_neg vV] at he
  cases he
  simp only [go_sem,y1,k8,IS,alX,alY,PY,vV]
  exact r1.post 0
theorem acD {X:Nat->Bool} {H:ad} {x:Value} {b:Nat} {l m:List Int} {g:List Nat} {K:Value->ad->Prop} {tg:Tag K} (hB:H.get b=some ⟨l.map iV,3,false,false⟩) (h0:l≠[]) (hX:X b=false) (hs:Sl .int H x m g) (hn:l.length+m.length < 10000000000)
  (hk:∀v' H' b',Sl .int H' v' (l++m) [b']->(b'=b∨b'=H.next)->Fr [b] H H'->(∀c,c < H.next->H'.fz c=H.fz c)->K v' H'):el Tryz.prog X H (iG Tryz.prog 22 (.slice (some ⟨b,0,none⟩) l.length l.length) x H) K tg:=by
 obtain ⟨cs,g2,e1,e2,e3,_⟩:=hs.src (size:=1) rfl
 have:=Ns e3;subst this
 have e2':cs.length=m.length:=by rw [e2];exact Nat.mul_one _
 by_cases hm:m=[]
 ·subst hm
  have aV:cs=[]:=List.length_eq_zero_iff.1 (by simpa using e2)
  subst aV
  rw [JP (n:=0) (new:=[]) (sz:=1) (o:=0) (sl:=l.length) (sc:=l.length) q9 e1 rfl hB rfl (by show 0+l.length * 1<=(l.map iV).length;simp) (by decide) (Nat.le_refl _) rfl,DZ hX]
  have eu:cT (l.map iV) (0+l.length * 1) []=l.map iV:=by unfold cT;simp
  simp only
  rw [eu]
  exact hk _ _ b (.inr (.inr ⟨b,0,l.length,_,[],by simp,by simpa using h0,by simp,rfl,by rw [az,if_pos rfl],by rw [List.append_nil];exact MT _ _⟩)) (.inl rfl) ((Fr.refl _ _).ah (.inl (by simp)) _) fun _ _=>rfl
 ·have PG:0 < m.length:=List.length_pos_iff.2 hm
  rw [Jw (n:=m.length) (new:=cs) (sz:=1) (o:=0) (sl:=l.length) (sc:=l.length) q9 e1 hB (by simp) (Nat.le_refl _) (by omega) (by omega),wa]
  have ht:((l.map iV).drop 0).take (l.length * 1)=l.map iV:=by rw [List.drop_zero,Nat.mul_one];exact List.take_of_length_le (by simp)
  rw [ht]
  refine hk _ _ H.next (.inr (.inr ⟨H.next,0,l.length+m.length,⟨l.map iV++cs,3,true,false⟩,[],by simp,by simp [h0],by simp,rfl,by rw [aU,if_pos rfl],?_⟩)) (.inr rfl) ((Fr.refl _ _).push _) (fun c hc=>?_)
  ·exact (dP.join (f1:=[]) (f2:=[]) (by simp [Rp.int]) (MT _ l) (e3.ae (by simp)))
  ·show (c==H.next||H.fz c)=_
   rw [show (c==H.next)=false from by rw [beq_eq_false_iff_ne];omega,Bool.false_or]
theorem gS.frm {H H1 H2:ad} {P:bC} {x:jb} {c m:Nat} {t:TS} (h:gS H P x c m H1 t) {b:Nat} (hb:H.next<=b) (hg:b∉x.gM++(x.gD++x.gN)) (o:Fr [b] H1 H2) (hz:∀d,d < H1.next->H2.fz d=H1.fz d):gS H P x c m H2 t:=by
 have h1:c≠b:=by have:=h.lc;omega
 have h2:m≠b:=by have:=h.lm;omega
 exact ⟨⟨(o.get c h.cq.cl (by simp [h1])).trans h.cq.hc,(o.get m h.cq.ml (by simp [h2])).trans h.cq.hm,h.cq.rK.fr o (fun d hd=>by rw [List.mem_singleton] at hd;subst hd;exact hg),h.cq.ne,Nat.lt_of_lt_of_le h.cq.cl o.nx,Nat.lt_of_lt_of_le h.cq.ml o.nx,h.cq.cg,h.cq.mg⟩,
  h.fr.trans o fun d hd=>by rw [List.mem_singleton] at hd;subst hd;exact .inr hb,fun d hd=>(hz d (Nat.lt_of_lt_of_le hd h.fr.nx)).trans (h.fz d hd),h.lc,h.lm,h.zc,h.zm,h.zn⟩
theorem acE {P:bC} {x:jb} (hz:Aw P) {bd:TB} (jn:PX P x bd) {H:ad} {c m:Nat} {t:TS} (h:CQ H P x c m t) {place n:Int} {t':TS} {j:Nat} (he:Ig P.nodes (If P.defs bd) j 0 place t=some (n,t')):
  aj Tryz.prog 71 #[pV c,iV place] H (xQ H P x c m n t'):=by
 refine qi (l:=[_,_]) _ mixed Tryz.func71 ahl [.tmp 4] (show 2<=59 by decide) rfl fun hf=>?_
 simp only [Tryz.f71,Option.getD_some]
 have r0:=gS.start h hf
 simp only [go_sem]
 obtain ⟨H1,cF⟩:∃H1,H1=(H.push ⟨[.int .i64 place],3,false,false⟩).ai H.fz:=⟨_,rfl⟩
 have r1:gS H P x c m H1 t:=by rw [cF];exact (r0.push _).told
 have y1:H1.get H.next=some ⟨[.int .i64 place],3,false,false⟩:=by rw [cF,be,aU,if_pos rfl]
 have n1:H1.next=H.next+1:=by rw [cF];rfl
 rw [<-cF]
 clear cF
 have lc:=r0.lc
 have lm:=r0.lm
 refine QL 288230376151711712 (fun k V H2=>∃sum pl t2,V 5=iV sum/\gS H P x c m H2 t2/\H.next < H2.next/\H2.get H.next=some ⟨[.int .i64 pl],3,false,false⟩/\Ig P.nodes (If P.defs bd) k sum pl t2=some (n,t')) (n:=j)
  ⟨0,place,t,by simp only [go_sem] <;> rfl,r1,by show H.next < H1.next;omega,y1,he⟩ ?_ (by rfl)
 rintro k V H2 ⟨sum,pl,t2,es,r2,n2,y2,ie⟩
 cases k with
 | zero=>rw [Ig] at ie;cases ie
 | succ k=>
 rw [Ig] at ie
 have ic:=r2.cq.hc
 by_cases fX:t2.ok=true
 rotate_left
 ·rw [if_neg (fun e=>fX e.1)] at ie
  cases ie
  rw [Bool.not_eq_true] at fX
  rw [fX] at ic
  simp only [go_sem,ic,es]
  exact r2.told.post _
 by_cases BS:0<=pl
 rotate_left
 ·rw [if_neg (fun e=>BS e.2.1)] at ie
  cases ie
  rw [fX] at ic
  simp only [go_sem,ic,es,y2,BS]
  exact r2.told.post _
 by_cases sI:pl < ((P.nodes.length:Nat):Int)
 rotate_left
 ·rw [if_neg (fun e=>sI e.2.2)] at ie
  cases ie
  rw [fX] at ic
  simp only [go_sem,ic,es,y2,BS,sI]
  exact r2.told.post _
 rw [if_pos ⟨fX,BS,sI⟩] at ie
 obtain ⟨p,rfl⟩:=Int.eq_ofNat_of_zero_le BS
 have hp:p < P.nodes.length:=by omega
 have hy:P.nodes[p]?=some (P.nodes[p]'hp):=List.getElem?_eq_getElem hp
 have fG:P.nodes.getD p {}=P.nodes[p]'hp:=by rw [List.getD_eq_getElem?_getD,hy];rfl
 simp only [Int.toNat_natCast] at ie
 rw [fG] at ie
 have cK:=hz.nd _ (List.getElem_mem hp)
 generalize (P.nodes[p]'hp)=y at hy ie cK
 obtain ⟨b,o,cc,B,gx,hv,Gp,ee,de,b7,hE⟩:=r2.cq.rK.hN.at hy
 simp only [Value.slice.injEq] at hv
 have vX:=hv.1
 obtain ⟨wA,wQ,wB,w1,w2,w3,aV,rfl,q1,q2,q3⟩:=hE
 obtain ⟨b1,j1,rfl⟩:=q1.val
 obtain ⟨b2,j2,rfl⟩:=q2.val
 obtain ⟨b3,j3,hv3⟩:=q3.val
 subst hv3
 have en:o+p * 20+20<=B.cells.length:=b7
 have aV:(B.cells.drop (o+p * 20)).take 20=aJ y (.slice b1 y.args.length j1) (.slice b2 y.pat.length j2) (.slice b3 y.ak.length j3):=aV
 have ef:H.fz H2.next=false:=r0.zn _ (by omega)
 have EH:=ic
 rw [fX] at EH
 simp only [go_sem,EH,es,y2,BS,sI,vX,hp,Gp,en,aV,ef]
 obtain ⟨H3,dI⟩:∃H3,H3=((H2.ai H.fz).push ⟨aJ y (.slice b1 y.args.length j1) (.slice b2 y.pat.length j2) (.slice b3 y.ak.length j3),42,false,false⟩).ai H.fz:=⟨_,rfl⟩
 have r3:gS H P x c m H3 t2:=by rw [dI];exact (r2.told.push _).told
 have z3:H3.get H2.next=some ⟨aJ y (.slice b1 y.args.length j1) (.slice b2 y.pat.length j2) (.slice b3 y.ak.length j3),42,false,false⟩:=by rw [dI,be,aU];exact if_pos rfl
 have y3:H3.get H.next=some ⟨[.int .i64 ((p:Nat):Int)],3,false,false⟩:=by rw [dI,be,aU,if_neg (by show¬H.next=H2.next;omega)];exact y2
 have n3:H3.next=H2.next+1:=by rw [dI];rfl
 have o23:bc H2 H3:=by rw [dI];exact ((((Fr.refl [] H2).ai _).push _).ai _).aE
 rw [<-dI]
 clear dI
 have dk:¬H2.next=H3.next:=by omega
 have MB:∀d∈x.gM++(x.gD++x.gN),d < H.next:=h.rK.lt
 have n0:H.next<=H3.next:=by omega
 simp only [go_sem,XQ,dk,z3]
 obtain ⟨H4,dx⟩:∃H4,H4=H3.push ⟨[.int .i64 y.a,.int .i64 y.b,.int .i64 y.next],3,false,false⟩:=⟨_,rfl⟩
 have r4:gS H P x c m H4 t2:=by rw [dx];exact r3.push _
 have l4:H4.get H3.next=some ⟨[y.a,y.b,y.next].map iV,3,false,false⟩:=by rw [dx,aU,if_pos rfl];rfl
 have z4:H4.get H2.next=some ⟨aJ y (.slice b1 y.args.length j1) (.slice b2 y.pat.length j2) (.slice b3 y.ak.length j3),42,false,false⟩:=by rw [dx,aU,if_neg dk];exact z3
 have y4:H4.get H.next=some ⟨[.int .i64 ((p:Nat):Int)],3,false,false⟩:=by rw [dx,aU,if_neg (by omega)];exact y3
 have n4:H4.next=H3.next+1:=by rw [dx];rfl
 have PZ:∀d∈w3,d∈x.gM++(x.gD++x.gN):=fun d hd=>by
  have:=de d (by simp [hd])
  simp [this]
 have q34:Sl dB H4 (.slice b3 y.ak.length j3) y.ak w3:=q3.ae fun d hd=>by
  have:=MB d (PZ d hd)
  rw [dx,bS (by omega)]
  exact o23.get d (by omega)
 rw [<-dx]
 refine af.by (acC rfl rfl q34 (fun d hd=>by have:=MB d (PZ d hd);omega) cK.b) ?_
 rintro vB H5 - ⟨o5,u5,f5,KY,avM⟩
 clear dx
 have r5:=r4.of (bc.of o5 u5)
 have n5:=o5.nx
 have l5:=(o5.get H3.next (by omega)).trans l4
 have z5:=(o5.get H2.next (by omega)).trans z4
 have y5:=(o5.get H.next (by omega)).trans y4
 simp only [go_sem,z4,z5]
 have hXl:H.fz H3.next=false:=r0.zn _ n0
 have kt:H3.next∉x.gM++(x.gD++x.gN):=fun e=>by have:=MB _ e;omega
 refine acD (l:=[y.a,y.b,y.next]) l5 (by simp) hXl KY.sl (by have:=cK.b;simp;omega) ?_
 intro v6 H6 b6 s6 FO f6 u6
 have r6:=r5.frm n0 kt f6 u6
 have n6:=f6.nx
 have z6:=(f6.get H2.next (by omega) (by simp;omega)).trans z5
 have y6:=(f6.get H.next (by omega) (by simp;omega)).trans y5
 simp only [go_sem]
 refine af.by (adq s6 (by have:=cK.b;simp;omega) fun w=>ado y6 rfl) ?_
 rintro _ _ - ⟨rfl,rfl⟩
 have Mz:([y.a,y.b,y.next]++y.ak.map (·.body)).any (fun to=>decide (0<=to)&&decide (to<=((p:Nat):Int)))=RP y ((p:Nat):Int):=rfl
 rw [Mz]
 by_cases hb:RP y ((p:Nat):Int)=true
 ·rw [if_pos hb] at ie
  cases ie
  have hc6:=r6.cq.hc
  have fc:=h.fc
  simp only [go_sem,hb,hc6,fc,es]
  exact ((r6.told.set false)).post _
 rw [if_neg hb] at ie
 rw [Bool.not_eq_true] at hb
 cases hi:If P.defs bd y t2 with
 | none=>rw [hi] at ie;cases ie
 | some r=>
 rw [hi,Option.bind_some] at ie
 have q36:Sl dB H6 (.slice b3 y.ak.length j3) y.ak w3:=q34.ae fun d hd=>by
  have:=MB d (PZ d hd)
  rw [f6.get d (by omega) (by simp;omega)]
  exact o5.get d (by omega)
 simp only [go_sem,hb,z6]
 refine af.by (aiU hz jn r6.told.q ⟨⟨_,_,_,rfl⟩,⟨_,_,_,rfl⟩,q36.ae fun _ _=>rfl,PZ,cK.b⟩ hi) ?_
 rintro _ H7 - p7
 obtain ⟨rfl, -⟩:=id p7
 have r7:=r6.told.call p7
 simp only [go_sem]
 refine af.by (Yd r7.q) ?_
 rintro _ H8 - p8
 obtain ⟨rfl, -⟩:=id p8
 have r8:=r7.call p8
 simp only [go_sem,es]
 refine af.by (Yd r8.q) ?_
 rintro _ H9 - p9
 obtain ⟨rfl, -⟩:=id p9
 have r9:=r8.call p9
 have f9:Fr [c,m] (H6.ai H.fz) H9:=(p7.2.1.then p8.2.1).then p9.2.1
 have z9:=(f9.get H2.next (by show H2.next < H6.next;omega) (by simp;omega)).trans z6
 have y9:=(f9.get H.next (by show H.next < H6.next;omega) (by simp;omega)).trans y6
 have V7:H.fz H.next=false:=r0.zn _ (Nat.le_refl _)
 simp only [go_sem,z9,y9,V7]
 exact ⟨k,by omega,_,y.next,_,rfl,(r9.told.own (Nat.le_refl _) (fun e=>Nat.lt_irrefl _ (MB _ e)) _).told,by have:=r9.fr.nx;have:=f9.nx;have:H6.next<=H9.next:=this;omega,rfl,ie⟩
theorem aap {P:bC} {x:jb} (hz:Aw P):∀k,PX P x (PU P.nodes P.defs k)
 | 0=>fun h he=>by cases he
 | k+1=>fun h he=>acE hz (aap hz k) h he
theorem aiV {H:ad} {b:Nat} {l:List Int} {op:Bool} {k:Int} (h:H.get b=some (yq l op)) (hX:H.fz b=false) (hl:l.length<=12):
  aj Tryz.prog 74 #[C5 b l.length,iV 0,iV (l.length:Nat),iV k] H (fun _ H'=>H'.get b=some (yq (Cs l) op)/\vi [b] H H'):=by
 refine Yq (Nat.le_refl _) fun hf=>?_
 simp only [Tryz.f74,Option.getD_some]
 simp only [go_sem]
 refine lp 21778071482940061661655974875633165532942 (fun _ V H1=>V 1=iV 0/\V 2=iV (l.length:Nat)/\H=H1) (n:=0) ⟨by simp only [go_sem] <;> rfl,by simp only [go_sem] <;> rfl,rfl⟩ ?_ (by rfl)
 rintro _ V H1 ⟨e1,e2,rfl⟩
 have hw:IntKind.wrap .i64 (((l.length:Nat):Int) - 0)=((l.length:Nat):Int):=by rw [Int.sub_zero];exact uz (by omega) (by omega)
 have pE:((l.length:Nat):Int)<=12:=by omega
 simp only [go_sem,e1,e2,hw,pE]
 refine af.by (aiT h hX (by omega)) ?_
 rintro _ H2 - ⟨h2,h3⟩
 simp only [go_sem]
 exact ⟨h2,h3⟩
theorem agt {H:ad} {b:Nat} {l:List Int} {op:Bool} (h:H.get b=some (yq l op)) (hX:H.fz b=false) (hl:l.length<=12):
  aj Tryz.prog 49 #[C5 b l.length] H (fun _ H'=>H'.get b=some (yq (Cs l) op)/\vi [b] H H'):=by
 refine Yo (Nat.le_refl _) fun hf=>?_
 simp only [Tryz.f49,Option.getD_some]
 have hc:∀{x:Int} {H:ad},rV Tryz.prog 3 120 (iV x) H=.ok (.int .u64 (IntKind.wrap .u64 x)) H:=DW (ks:=.i64) (by kernel_rfl) (by kernel_rfl)
 have hw:IntKind.wrap .u64 ((l.length:Nat):Int)=((l.length:Nat):Int):=by
  show (((l.length:Nat):Int) % 18446744073709551616)=_
  omega
 simp only [go_sem,hc,hw]
 refine af.by (YV (by omega)) ?_
 rintro _ _ - ⟨⟨k,rfl⟩,rfl⟩
 simp only [go_sem]
 refine af.by (aiV h hX hl) ?_
 rintro _ H2 - ⟨h2,h3⟩
 simp only [go_sem]
 exact ⟨h2,h3⟩
theorem adr {H:ad} {v:Value}:aj Tryz.prog 98 #[v,iV 0,iV (0:Nat)] H (fun _ H'=>H=H'):=by
 refine Yr (Nat.le_refl _) fun hf=>?_
 simp only [Tryz.f98,Option.getD_some]
 simp only [go_sem]
 refine lp 562949953420480 (fun _ V H1=>V 6=iV (1:Nat)/\H=H1) (n:=0) ⟨by simp only [go_sem] <;> rfl,rfl⟩ ?_ (by rfl)
 rintro _ V H1 ⟨e6,rfl⟩
 have Ci:¬((1:Nat):Int) < ((0:Nat):Int):=by omega
 simp only [go_sem,e6,Ci]
theorem acF {H:ad}:aj Tryz.prog 49 #[.slice none 0 0] H (fun _ H'=>H=H'):=by
 refine Yo (Nat.le_refl _) fun hf=>?_
 simp only [Tryz.f49,Option.getD_some]
 have hc:∀{x:Int} {H:ad},rV Tryz.prog 3 120 (iV x) H=.ok (.int .u64 (IntKind.wrap .u64 x)) H:=DW (ks:=.i64) (by kernel_rfl) (by kernel_rfl)
 have hw:IntKind.wrap .u64 ((0:Nat):Int)=((0:Nat):Int):=rfl
 simp only [go_sem,hc,hw]
 refine af.by (YV (n:=0) (by omega)) ?_
 rintro _ _ - ⟨⟨k,rfl⟩,rfl⟩
 simp only [go_sem]
 refine af.by (K':=fun _ H'=>H=H') ?_ ?_
 ·refine Yq (Nat.le_refl _) fun hf=>?_
  simp only [Tryz.f74,Option.getD_some]
  simp only [go_sem]
  refine lp 21778071482940061661655974875633165532942 (fun _ V H1=>V 1=iV 0/\V 2=iV (0:Nat)/\H=H1) (n:=0) ⟨by simp only [go_sem] <;> rfl,by simp only [go_sem] <;> rfl,rfl⟩ ?_ (by rfl)
  rintro _ V H1 ⟨e1,e2,rfl⟩
  have hw:IntKind.wrap .i64 (((0:Nat):Int) - 0)=((0:Nat):Int):=rfl
  have pE:((0:Nat):Int)<=12:=by omega
  simp only [go_sem,e1,e2,hw,pE]
  refine af.by adr ?_
  rintro _ _ - rfl
  simp only [go_sem]
 ·rintro _ _ - rfl
  simp only [go_sem]
theorem acG {H:ad}:aj Tryz.prog 50 #[.slice none 0 0] H (fun r H'=>r=.slice none 0 0/\H=H'):=by
 refine Yp (Nat.le_refl _) fun hf=>?_
 simp only [Tryz.f50,Option.getD_some]
 have h2:((0:Nat):Int) < 2:=by omega
 simp only [go_sem,h2]
theorem Qy {a b:Int} {r:List Int} (h:¬a=b):lU (a::b::r)=a::lU (b::r):=by rw [lU,if_neg h]
theorem Qz {a:Int} {r:List Int}:lU (a::a::r)=lU (a::r):=by rw [lU,if_pos rfl]
theorem QA:∀(r:List Int) (a:Int),∃t,lU (a::r)=a::t
 | [],a=>⟨[],rfl⟩
 | b::r,a=>by
  by_cases h:a=b
  ·subst h
   rw [Qz]
   exact QA r a
  ·rw [Qy h];exact ⟨_,rfl⟩
theorem YX {l:List Int} {i:Nat} (h:i+1 < l.length):l.drop i=l.getD i 0::l.getD (i+1) 0::l.drop (i+2):=by
 rw [Az (by omega),Az h]
theorem agu {H:ad} {b:Nat} {l:List Int} {op:Bool} (h:H.get b=some (yq l op)) (hX:H.fz b=false) (hl:l.length < 1000000) (rn:l≠[]):
  aj Tryz.prog 50 #[C5 b l.length] H (fun r H'=>uw H' r (lU l) b/\vi [b] H H'):=by
 have oa:∀c∈[b],∀B,H.get c=some B->B.ro=false:=fun c hc B hB=>by
  rw [List.mem_singleton] at hc
  subst hc
  rw [h] at hB;cases hB;rfl
 have slb:∀{H':ad},H'.get b=some (yq l op)->uw H' (C5 b l.length) l b:=fun hb=>⟨l.length,[],op,rfl,by rw [List.append_nil];exact hb,by simp⟩
 have Au:0 < l.length:=List.length_pos_iff.2 rn
 refine Yp (Nat.le_refl _) fun hf=>?_
 simp only [Tryz.f50,Option.getD_some]
 by_cases h2:((l.length:Nat):Int) < 2
 ·simp only [go_sem,h2]
  have hc:lU l=l:=by
   cases l with
   | nil=>rfl
   | cons a r=>cases r with
    | nil=>rfl
    | cons b r=>simp at h2;omega
  rw [hc]
  exact ⟨slb h,.refl oa⟩
 simp only [go_sem,h2]
 refine lp 1152921504606846012 (fun m V H1=>∃k,1<=k/\k+m=l.length/\V 3=iV (k:Nat)/\H=H1/\lU l=l.take (k - 1)++lU (l.drop (k - 1))) (n:=l.length - 1)
  ⟨1,Nat.le_refl _,by omega,by simp only [go_sem] <;> rfl,rfl,rfl⟩ ?_ (by rfl)
 rintro m V H1 ⟨k,y8,wI,e3,rfl,BC⟩
 obtain ⟨i,rfl⟩:∃i,k=i+1:=⟨k - 1,by omega⟩
 rw [Nat.add_sub_cancel] at BC
 by_cases hk:i+1 < l.length
 rotate_left
 ·have E8:¬((i+1:Nat):Int) < ((l.length:Nat):Int):=by omega
  simp only [go_sem,e3,E8]
  have c6:i < l.length:=by omega
  have hd:l.drop i=[l.getD i 0]:=by rw [Az c6,List.drop_of_length_le (by omega)]
  rw [hd] at BC
  have:lU l=l:=by
   rw [BC]
   show l.take i++[l.getD i 0]=l
   rw [<-hd,List.take_append_drop]
  rw [this]
  exact ⟨slb h,.refl oa⟩
 have E8:((i+1:Nat):Int) < ((l.length:Nat):Int):=by omega
 have eX:IntKind.wrap .i64 (((i+1:Nat):Int) - 1)=((i:Nat):Int):=by rw [show (((i+1:Nat):Int) - 1)=((i:Nat):Int) by omega];exact uz (by omega) (by omega)
 have mE:IntKind.wrap .i64 (((i+1:Nat):Int)+1)=((i+1+1:Nat):Int):=cW hk (by omega)
 have c1:=zx hk
 have c0:=zx (o:=l) (i:=i) (by omega)
 have c6:i < l.length:=by omega
 rw [YX hk] at BC
 by_cases he:l.getD (i+1) 0=l.getD i 0
 rotate_left
 ·rw [Qy (fun e=>he e.symm)] at BC
  simp only [go_sem,e3,E8,hk,c6,h,c1,c0,eX,he,mE]
  refine ⟨m - 1,by omega,i+1+1,by omega,by omega,rfl,?_⟩
  rw [BC,Nat.add_sub_cancel,Az hk]
  rw [show l.take (i+1)=l.take i++[l.getD i 0] by rw [List.take_succ_eq_append_getElem c6,List.getD_eq_getElem?_getD,List.getElem?_eq_getElem c6];rfl]
  simp
 have eL:iL Tryz.prog 22=some (3,1):=by kernel_rfl
 have zI:fQ Tryz.prog 3=some [iV 0]:=by kernel_rfl
 have dm:lT Tryz.prog 22 (C5 b l.length) (some (iV ((i+1:Nat):Int))) none none h0=.ok (.slice (some ⟨b,i+1,none⟩) (l.length - (i+1)) (l.length - (i+1))) h0:=by
  have:=Qc (P:=Tryz.prog) (b:=b) (o:=0) (n:=l.length) (c:=l.length) (lo:=i+1) eL (by omega) (Nat.le_refl _) (.inl hk)
  rw [Nat.zero_add,Nat.mul_one] at this
  exact this
 simp only [go_sem,e3,E8,hk,c6,h,c1,c0,eX,he,Option.map_some,Option.map_none,dm]
 obtain ⟨a,ha⟩:∃a,a=l.getD i 0:=⟨_,rfl⟩
 have aiW:lU l=l.take (i+1)++(lU (l.drop (i+1))).tail:=by
  rw [he,Qz] at BC
  rw [BC,Az hk,he]
  obtain ⟨t,ht⟩:=QA (l.drop (i+2)) (l.getD i 0)
  rw [show l.drop (i+1+1)=l.drop (i+2) from rfl,ht,show l.take (i+1)=l.take i++[l.getD i 0] by rw [List.take_succ_eq_append_getElem c6,List.getD_eq_getElem?_getD,List.getElem?_eq_getElem c6];rfl]
  simp
 refine lp 18014397972611112 (fun m V2 H2=>∃s k cur,i+1+(s+1)+m=l.length/\i+1<=k/\k<=i+1+s/\V2 3=iV (k:Nat)/\V2 5=iV ((s+1:Nat):Int)/\cur.length=l.length/\H2.get b=some (yq cur op)/\(∀q,i+1+s<=q->q < l.length->cur.getD q 0=l.getD q 0)/\lU l=cur.take k++(lU (l.drop (i+1+s))).tail/\vi [b] H H2) (n:=l.length - (i+1) - 1)
  ⟨0,i+1,l,by omega,Nat.le_refl _,Nat.le_refl _,by simp only [go_sem,e3] <;> rfl,by simp only [go_sem] <;> rfl,rfl,h,fun _ _ _=>rfl,aiW,.refl oa⟩ ?_ (by rfl)
 rintro m2 V2 H2 ⟨s,k,cur,Df,y8,fM,ek,es,fE,hB,NS,sS,hu⟩
 cases m2 with
 | zero=>
  have uc:¬((s+1:Nat):Int) < ((l.length - (i+1):Nat):Int):=by omega
  have nC:k < l.length:=by omega
  have jJ:lT Tryz.prog 22 (C5 b l.length) (some (iV ((k:Nat):Int))) none none h0=.ok (.slice (some ⟨b,k,none⟩) (l.length - k) (l.length - k)) h0:=by
   have:=Qc (P:=Tryz.prog) (b:=b) (o:=0) (n:=l.length) (c:=l.length) (lo:=k) eL (by omega) (Nat.le_refl _) (.inl nC)
   rw [Nat.zero_add,Nat.mul_one] at this
   exact this
  have rB:lT Tryz.prog 22 (C5 b l.length) none (some (iV ((k:Nat):Int))) none h0=.ok (.slice (some ⟨b,0,none⟩) k l.length) h0:=MW eL (by omega)
  have nz:∀n,eO [iV 0] n=(List.replicate n 0).map iV:=OB
  have Uo:AK Tryz.prog 22 (.slice (some ⟨b,k,none⟩) (l.length - k) (l.length - k)) H2=.ok (.tuple #[]) (H2.ah b ⟨cT (cur.map iV) k (eO [iV 0] (l.length - k)),3,op,false⟩):=
   ack eL zI (by omega) (by decide) hB (by show k+(l.length - k) * 1<=(cur.map iV).length;rw [List.length_map,fE];omega) (by rw [nz];exact Jr _) rfl
  simp only [go_sem,es,uc,ek,Option.map_some,Option.map_none,jJ,Uo,hX,rB]
  have hd:l.drop (i+1+s)=[l.getD (i+1+s) 0]:=by rw [Az (by omega),List.drop_of_length_le (by omega)]
  rw [hd] at sS
  have sS:lU l=cur.take k:=by rw [sS];simp [lU]
  have hlen:(cur.take k).length=k:=by rw [List.length_take];omega
  have yC:cT (cur.map iV) k (eO [iV 0] (l.length - k))=(cur.take k).map iV++(eO [iV 0] (l.length - k)++(cur.map iV).drop (k+(eO [iV 0] (l.length - k)).length)):=by unfold cT;rw [List.map_take]
  refine ⟨⟨l.length,eO [iV 0] (l.length - k)++(cur.map iV).drop (k+(eO [iV 0] (l.length - k)).length),op,by rw [sS,hlen],by rw [az,if_pos rfl,yC,sS],?_⟩,hu.ah (by simp) rfl⟩
  rw [sS,nz]
  simp;omega
 | succ m2=>
  have cZ:((s+1:Nat):Int) < ((l.length - (i+1):Nat):Int):=by omega
  have aaq:s+1 < l.length - (i+1):=by omega
  have nj:s < l.length - (i+1):=by omega
  have cU:IntKind.wrap .i64 (((s+1:Nat):Int) - 1)=((s:Nat):Int):=by rw [show (((s+1:Nat):Int) - 1)=((s:Nat):Int) by omega];exact uz (by omega) (by omega)
  have F3:IntKind.wrap .i64 (((k:Nat):Int)+1)=((k+1:Nat):Int):=cW (n:=l.length) (by omega) (by omega)
  have aar:IntKind.wrap .i64 (((s+1:Nat):Int)+1)=((s+1+1:Nat):Int):=cW (n:=l.length) (by omega) (by omega)
  have d1:=zx (o:=cur) (i:=i+1+(s+1)) (by omega)
  have d0:=zx (o:=cur) (i:=i+1+s) (by omega)
  rw [NS _ (by omega) (by omega)] at d1
  rw [NS _ (by omega) (by omega)] at d0
  have nC:k < l.length:=by omega
  have hkc:k < (cur.map iV).length:=by rw [List.length_map];omega
  have alZ:k+1<=(cur.map iV).length:=hkc
  rw [YX (i:=i+1+s) (by omega)] at sS
  by_cases hq:l.getD (i+1+(s+1)) 0=l.getD (i+1+s) 0
  ·simp only [go_sem,es,cZ,aaq,nj,hB,d1,d0,cU,hq,aar]
   refine ⟨m2,by omega,s+1,k,cur,by omega,y8,by omega,ek,rfl,fE,rfl,fun q h1 h2=>NS q (by omega) h2,?_,hu⟩
   rw [sS,show l.getD (i+1+s+1) 0=l.getD (i+1+s) 0 from hq,Qz,Az (i:=i+1+(s+1)) (by omega),hq]
   rfl
  ·simp only [go_sem,es,cZ,aaq,nj,hB,d1,d0,cU,hq,ek,nC,hkc,alZ,hX,F3,aar]
   refine ⟨m2,by omega,s+1,k+1,cur.set k (l.getD (i+1+(s+1)) 0),by omega,by omega,by omega,rfl,rfl,by rw [List.length_set];exact fE,by rw [Qx],fun q h1 h2=>?_,?_,hu.ah (by simp) rfl⟩
   ·rw [acz (by omega),if_neg (by omega)];exact NS q (by omega) h2
   ·rw [show l.getD (i+1+s+1) 0=l.getD (i+1+(s+1)) 0 from rfl] at sS
    rw [sS,Qy (fun e=>hq e.symm),List.tail_cons,Az (i:=i+1+(s+1)) (by omega)]
    obtain ⟨t,ht⟩:=QA (l.drop (i+1+(s+1)+1)) (l.getD (i+1+(s+1)) 0)
    rw [show l.drop (i+1+s+2)=l.drop (i+1+(s+1)+1) from rfl,ht,List.tail_cons]
    rw [List.take_succ_eq_append_getElem (by rw [List.length_set];omega),List.take_set,List.set_eq_of_length_le (by rw [List.length_take];omega)]
    simp
theorem Q8 {H:ad}:∀{cs:List Value} {l:List Int} {f:List Nat},dP .int H cs l f->cs.length=l.length->cs=l.map iV
 | cs,[],f,_,h=>by rw [List.length_eq_zero_iff.1 h];rfl
 | cs,x::l,f,h,hl=>by
  obtain ⟨c1,c2,f1,f2,rfl,rfl,h1,h2⟩:=h
  rw [(Rp.Ym.1 h1).1] at hl ⊢
  simp only [List.length_append,List.length_cons,List.length_nil] at hl
  rw [List.singleton_append,List.map_cons,Q8 h2 (by omega)]
theorem uw.sl {H:ad} {v:Value} {l:List Int} {b:Nat} (h:uw H v l b):∃f,Sl .int H v l f/\∀c∈f,c=b:=by
 obtain ⟨c,ds,op,rfl,h2,h3⟩:=h
 by_cases hl:l=[]
 ·subst hl
  exact ⟨[],.inr (.inl ⟨_,c,rfl,rfl,rfl⟩),by simp⟩
 ·rw [List.length_append,List.length_map] at h3
  exact ⟨[b],.inr (.inr ⟨b,0,c,_,[],rfl,hl,by omega,rfl,h2,(MT H l).more ds⟩),by simp⟩
def TD (n:Nat) (H:ad) (v:Value) (l:List Int):Prop:=(v=.slice none 0 0/\l=[])∨∃b,n<=b/\b < H.next/\uw H v l b
theorem TD.sl {n:Nat} {H:ad} {v:Value} {l:List Int} (h:TD n H v l):∃f,Sl .int H v l f/\∀c∈f,n<=c/\c < H.next:=by
 rcases h with ⟨rfl,rfl⟩ | ⟨b,h1,h2,h3⟩
 ·exact ⟨[],.inl ⟨rfl,rfl,rfl⟩,by simp⟩
 ·obtain ⟨f,h4,h5⟩:=h3.sl
  exact ⟨f,h4,fun c hc=>by rw [h5 c hc];exact ⟨h1,h2⟩⟩
theorem TD.ai {n:Nat} {H:ad} {v:Value} {l:List Int} {z:Nat->Bool} (h:TD n H v l):TD n (H.ai z) v l:=by
 rcases h with h | ⟨b,h1,h2,h3⟩
 ·exact .inl h
 ·exact .inr ⟨b,h1,h2,h3.ae rfl⟩
theorem XR {H:ad} {P:bC} {x:jb} (hp:rJ H P x) (hz:Aw P) {fuel:Nat} (vj:fuel<=100000) {d:Int} {cs:List Int} (he:Ct fuel P d=some cs):
  aj Tryz.prog 25 #[.agg (x.c P).toArray,iV d] H (fun v H'=>bc H H'/\(∀c,H'.fz c=H.fz c)/\TD H.next H' v cs):=by
 refine aj.told ?_
 refine qi (l:=[_,_]) _ mixed Tryz.func25 agS [.tmp 4] (show 2<=54 by decide) rfl fun hf=>?_
 simp only [Tryz.f25,Option.getD_some]
 have hX:∀{c:Nat},H.next<=c->H.fz c=false:=fun h=>hf.fresh h
 simp only [go_sem]
 obtain ⟨H1,cF⟩:∃H1,H1=(H.push ⟨x.c P,28,false,false⟩).ai H.fz:=⟨_,rfl⟩
 have o1:OF H H1:=by rw [cF];exact ⟨(((Fr.refl [] H).push _).ai _).aE,fun _ _=>rfl⟩
 have y1:H1.get H.next=some ⟨x.c P,28,false,false⟩:=by rw [cF,be,aU,if_pos rfl]
 have n1:H1.next=H.next+1:=by rw [cF];rfl
 rw [<-cF]
 clear cF
 unfold Ct at he
 by_cases h1:d < 0
 ·rw [if_pos (.inl h1)] at he
  cases he
  simp only [go_sem,h1]
  exact ⟨((o1.aE.fr []).ai _).aE,fun _=>trivial,.inl ⟨rfl,rfl⟩⟩
 by_cases h2:((P.defs.length:Nat):Int)<=d
 ·rw [if_pos (.inr h2)] at he
  cases he
  simp only [go_sem,h1,y1,h2]
  exact ⟨((o1.aE.fr []).ai _).aE,fun _=>trivial,.inl ⟨rfl,rfl⟩⟩
 rw [if_neg (fun e=>e.elim h1 h2)] at he
 cases ho:Nv fuel P.nodes P.defs with
 | none=>rw [ho] at he;cases he
 | some own=>
 rw [ho,Option.bind_some] at he
 split at he
 case isFalse=>cases he
 rename_i pE
 cases he
 simp only [go_sem,h1,y1,h2]
 have sI:rJ (H1.ai H.fz) P x:=hp.ae (((o1.aE.fr []).ai _).aE)
 refine af.by (aj.fzd (adl sI.hN (fun c hc=>sI.lt c (by simp [hc])) sI.hD (fun c hc=>sI.lt c (by simp [hc])) hz.n hz.d (fun n hn=>(hz.nd n hn).b) vj ho) fun v H' fz ⟨h1,h2,b,h3,h4,h5,h6⟩=>⟨((h1.fr []).ai _).aE,h2,b,h3,h4,h5,h6⟩) ?_
 rintro _ H2 - ⟨⟨o2,nZ,bo,rfl,b0,b1,b2⟩,u2⟩
 have o2':bc H1 H2:=⟨o2.nx,o2.get,o2.ro⟩
 have oH:OF H H2:=⟨o1.aE.trans o2',fun c _=>u2 c⟩
 have n2:H1.next<=H2.next:=o2.nx
 have b0':H1.next<=bo:=b0
 have y2:=(o2'.get H.next (by omega)).trans y1
 have hN2:=(hp.ae oH.aE).hN
 have fU:=hp.lt
 obtain ⟨R,hR⟩:∃R,R=Bh own d P.nodes 0:=⟨_,rfl⟩
 rw [<-hR] at pE
 rw [<-hR]
 simp only [go_sem,y2]
 refine pe 1125899898454432 P.nodes.length (fun i V H3=>V 23=iV (i:Nat)/\OF H H3/\bc H2 H3/\∃acc fa,Ow .int 3 H3 (V 5) acc fa/\Bq H2.next H3 fa/\acc.length<=i/\R=acc++Bh own d (P.nodes.drop i) i)
  ⟨by simp only [go_sem] <;> rfl,oH.told,((Fr.refl [] H2).ai _).aE,[],[],by simp only [go_sem];exact Ow.nil _ _ _,⟨List.nodup_nil,by simp,by simp⟩,Nat.le_refl _,hR⟩ ?_ ?_ (by rfl)
 ·rintro i V H3 hi ⟨ei,Jh,o3,acc,fa,js,fu,Ii,qc⟩
  have hy:P.nodes[i]?=some (P.nodes[i]'hi):=List.getElem?_eq_getElem hi
  have My:P.nodes.drop i=(P.nodes[i]'hi)::P.nodes.drop (i+1):=(List.getElem_cons_drop hi).symm
  generalize (P.nodes[i]'hi)=y at hy My
  rw [My,Bh] at qc
  have n3:=o3.nx
  obtain ⟨b,o,cc,B,gx,hv,Gp,ee,de,b7,hE⟩:=((hp.ae Jh.aE).hN).at hy
  simp only [Value.slice.injEq] at hv
  have vX:=hv.1
  obtain ⟨wA,wQ,wB,w1,w2,w3,aV,rfl,q1,q2,q3⟩:=hE
  obtain ⟨c1,j1,rfl⟩:=q1.val
  obtain ⟨c2,j2,rfl⟩:=q2.val
  obtain ⟨c3,j3,rfl⟩:=q3.val
  have en:o+i * 20+20<=B.cells.length:=b7
  have aV:(B.cells.drop (o+i * 20)).take 20=aJ y (.slice c1 y.args.length j1) (.slice c2 y.pat.length j2) (.slice c3 y.ak.length j3):=aV
  have VV:H.fz H3.next=false:=hX (by have:=Jh.aE.nx;omega)
  have hzn:=hz.n
  have bX:IntKind.wrap .i64 (((i:Nat):Int)+1)=((i+1:Nat):Int):=cW hi (by omega)
  have b3:=(o3.get bo b1).trans b2
  have c6:i < own.length:=by omega
  have vg:=zx c6
  obtain ⟨H4,dx⟩:∃H4,H4=((H3.ai H.fz).push ⟨aJ y (.slice c1 y.args.length j1) (.slice c2 y.pat.length j2) (.slice c3 y.ak.length j3),42,false,false⟩).ai H.fz:=⟨_,rfl⟩
  have o4:bc H3 H4:=by rw [dx];exact ((((Fr.refl [] H3).ai _).push _).ai _).aE
  have oH4:OF H H4:=by rw [dx];exact (Jh.told.push _).told
  have z4:H4.get H3.next=some ⟨aJ y (.slice c1 y.args.length j1) (.slice c2 y.pat.length j2) (.slice c3 y.ak.length j3),42,false,false⟩:=by rw [dx,be,aU];exact if_pos rfl
  have n4:H4.next=H3.next+1:=by rw [dx];rfl
  have b4:=(o4.get bo (by omega)).trans b3
  have E4:Ow .int 3 H4 (V 5) acc fa:=js.ae fun c hc=>o4.get c (fu.hi c hc)
  have nO:Bq H2.next H4 fa:=⟨fu.nd,fu.lo,fun y hy=>Nat.lt_of_lt_of_le (fu.hi y hy) o4.nx⟩
  have pB:¬bo=H3.next:=by omega
  simp only [go_sem,ei,hi,vX,Gp,en,aV,VV,pB,b3,vg]
  rw [<-dx]
  clear dx
  by_cases k1:own.getD i 0=d
  rotate_left
  ·rw [if_neg (fun e=>k1 e.1)] at qc
   simp only [go_sem,hi,b4,vg,k1,ei,bX]
   exact ⟨oH4.told,(((o3.trans o4).fr []).ai _).aE,acc,fa,E4.ae fun _ _=>rfl,⟨nO.nd,nO.lo,nO.hi⟩,by omega,qc⟩
  have tail:∀{H5:ad},(y.kind=10∨y.kind=13)->True:=fun _=>trivial
  by_cases k2:y.kind=10
  ·rw [if_pos ⟨k1,.inl k2⟩] at qc
   simp only [go_sem,hi,b4,vg,k1,z4,k2,ei,bX,GU]
   obtain ⟨H5,jC⟩:∃H5,H5=(H4.ai H.fz).push ⟨[.int .i64 y.f],3,false,false⟩:=⟨_,rfl⟩
   have g5:H5.get H4.next=some ⟨[.int .i64 y.f],3,false,false⟩:=by rw [jC,aU];exact if_pos rfl
   have n5:H5.next=H4.next+1:=by rw [jC];rfl
   have o5:bc H4 H5:=by rw [jC];exact (((Fr.refl [] H4).ai _).push _).aE
   have KY:=E4.ae (H':=H5) fun c hc=>o5.get c (nO.hi c hc)
   rw [<-jC]
   clear jC
   refine Gz (Hb:=H2) (r:=.int) (x:=y.f) (g:=[]) q9 KY ((o3.trans o4).trans o5) ⟨nO.nd,nO.lo,fun y hy=>Nat.lt_of_lt_of_le (nO.hi y hy) o5.nx⟩ ⟨List.nodup_nil,by simp,by simp⟩ (by simp) (fun y hy=>hX (by have:=nO.lo y hy;have:=oH.aE.nx;omega)) g5 ⟨rfl,rfl⟩ rfl (by omega) ?_
   intro v' H6 f' S8 Er jo TT Mm o6
   simp only [go_sem,ei,bX]
   exact ⟨⟨((oH.aE.trans o6).fr [] |>.ai _).aE,fun _ _=>rfl⟩,((o6.fr []).ai _).aE,acc++[y.f],f',S8.ae fun _ _=>rfl,⟨Er.nd,Er.lo,Er.hi⟩,by rw [List.length_append,List.length_singleton];omega,by rw [qc];simp⟩
  by_cases k3:y.kind=13
  ·rw [if_pos ⟨k1,.inr k3⟩] at qc
   simp only [go_sem,hi,b4,vg,k1,z4,k2,k3,ei,bX,GU]
   obtain ⟨H5,jC⟩:∃H5,H5=(H4.ai H.fz).push ⟨[.int .i64 y.f],3,false,false⟩:=⟨_,rfl⟩
   have g5:H5.get H4.next=some ⟨[.int .i64 y.f],3,false,false⟩:=by rw [jC,aU];exact if_pos rfl
   have n5:H5.next=H4.next+1:=by rw [jC];rfl
   have o5:bc H4 H5:=by rw [jC];exact (((Fr.refl [] H4).ai _).push _).aE
   have KY:=E4.ae (H':=H5) fun c hc=>o5.get c (nO.hi c hc)
   rw [<-jC]
   clear jC
   refine Gz (Hb:=H2) (r:=.int) (x:=y.f) (g:=[]) q9 KY ((o3.trans o4).trans o5) ⟨nO.nd,nO.lo,fun y hy=>Nat.lt_of_lt_of_le (nO.hi y hy) o5.nx⟩ ⟨List.nodup_nil,by simp,by simp⟩ (by simp) (fun y hy=>hX (by have:=nO.lo y hy;have:=oH.aE.nx;omega)) g5 ⟨rfl,rfl⟩ rfl (by omega) ?_
   intro v' H6 f' S8 Er jo TT Mm o6
   simp only [go_sem,ei,bX]
   exact ⟨⟨((oH.aE.trans o6).fr [] |>.ai _).aE,fun _ _=>rfl⟩,((o6.fr []).ai _).aE,acc++[y.f],f',S8.ae fun _ _=>rfl,⟨Er.nd,Er.lo,Er.hi⟩,by rw [List.length_append,List.length_singleton];omega,by rw [qc];simp⟩
  ·rw [if_neg (fun e=>e.2.elim k2 k3)] at qc
   simp only [go_sem,hi,b4,vg,k1,z4,k2,k3,ei,bX]
   exact ⟨oH4.told,(((o3.trans o4).fr []).ai _).aE,acc,fa,E4.ae fun _ _=>rfl,⟨nO.nd,nO.lo,nO.hi⟩,by omega,qc⟩
 ·rintro V H3 ⟨ei,Jh,o3,acc,fa,js,fu,Ii,qc⟩
  rw [List.drop_length,Bh,List.append_nil] at qc
  subst qc
  simp only [go_sem,ei]
  have n3:=o3.nx
  have nH:=oH.aE.nx
  rcases js with ⟨e5,rfl,rfl⟩ | ⟨b,cs,g,e5,dk,rfl,hB,fE,hA⟩
  ·rw [e5]
   refine af.by acF ?_
   rintro _ _ - rfl
   simp only [go_sem,e5]
   refine af.by acG ?_
   rintro _ _ - ⟨rfl,rfl⟩
   simp only [go_sem]
   exact ⟨((Jh.aE.fr []).ai _).aE,fun _=>trivial,.inl ⟨rfl,rfl⟩⟩
  ·have hg:=Ns hA
   subst hg
   have aV:=Q8 hA (by rw [fE];exact Nat.mul_one _)
   subst aV
   have fe:H2.next<=b:=fu.lo b (by simp)
   have fj:b < H3.next:=fu.hi b (by simp)
   have fg:H.fz b=false:=hX (by omega)
   rw [e5]
   refine af.by (agt (H:=H3.ai H.fz) (op:=true) hB fg pE) ?_
   rintro v6 H6 - ⟨h6,u6⟩
   simp only [go_sem,e5]
   have c6:(Cs R).length=R.length:=WN R
   rw [<-c6]
   refine af.by (agu (H:=H6.ai H.fz) (op:=true) h6 fg (by rw [c6];omega) (fun e=>dk (List.length_eq_zero_iff.1 (by rw [<-c6,e];rfl)))) ?_
   rintro v7 H7 - ⟨h7,u7⟩
   simp only [go_sem]
   have ot:∀y∈[b],H.next<=y:=fun y hy=>by rw [List.mem_singleton] at hy;subst hy;omega
   have o6:bc H H6:=(((Jh.aE.fr []).ai H.fz).aE).sk u6 ot
   have o7:bc H H7:=(((o6.fr []).ai H.fz).aE).sk u7 ot
   have nn:H7.next=H3.next:=by rw [u7.nx];show H6.next=_;rw [u6.nx];rfl
   exact ⟨((o7.fr []).ai _).aE,fun _=>trivial,.inr ⟨b,by omega,by show b < H7.next;omega,h7.ae rfl⟩⟩
def Ke (d:eH):Bool:=decide (d.name=[109,97,105,110])&&decide (d.params.length=0)
theorem ads {H:ad} {d:eH} {a1 a2 a3:Option Addr} {k1 k2 k3 n2 n3:Nat}:aj Tryz.prog 52 #[.agg (dK d (.slice a1 d.params.length k1) (.slice a2 n2 k2) (.slice a3 n3 k3)).toArray] H (fun r H'=>r=.bool (Ke d)/\bc H H'/\∀c,H'.fz c=H.fz c):=by
 refine aj.told ?_
 refine ag9 (Nat.le_refl _) fun hf=>?_
 simp only [Tryz.f52,Option.getD_some]
 have o:bc H ((H.push ⟨dK d (.slice a1 d.params.length k1) (.slice a2 n2 k2) (.slice a3 n3 k3),38,false,false⟩).ai H.fz):=(((Fr.refl [] H).push _).ai _).aE
 unfold Ke
 by_cases h1:d.name=[109,97,105,110]
 ·by_cases h2:d.params.length=0
  ·have uY:(((d.params.length:Nat):Int)=0):=by omega
   simp only [go_sem,h1,uY,h2,decide_true,Bool.true_and]
   exact ⟨rfl,by have:=o;rw [h2] at this;exact this,fun _=>trivial⟩
  ·have uY:¬(((d.params.length:Nat):Int)=0):=by omega
   simp only [go_sem,h1,uY,h2,decide_true,decide_false,Bool.true_and]
   exact ⟨o,fun _=>trivial⟩
 ·simp only [go_sem,h1,decide_false,Bool.false_and]
  exact ⟨o,fun _=>trivial⟩
theorem adt {H:ad} {vD:Value} {l:List eH} {g:List Nat} (h:Sl jh H vD l g) (hl:l.length < 1000000) (hg:∀b∈g,b < H.next):
  aj Tryz.prog 51 #[vD,.func (.func 52) #[] #[]] H (fun r H'=>r=iV (sd l)/\bc H H'/\∀c,H'.fz c=H.fz c):=by
 refine aj.told ?_
 refine ag7 (Nat.le_refl _) fun hf=>?_
 simp only [Tryz.f51,Option.getD_some]
 obtain ⟨a,c,rfl⟩:=h.val
 simp only [go_sem]
 refine il 524080 l.length (fun i V H2=>V 8=iV (i:Nat)/\bc H H2/\sd l=Ei i (l.drop i)) ⟨by simp only [go_sem] <;> rfl,bc.refl _,rfl⟩ ?_ ?_ (by rfl)
 ·rintro i V H2 hi ⟨ei,ho,gK⟩
  have hx:l[i]?=some (l[i]'hi):=List.getElem?_eq_getElem hi
  have cB:l.drop i=(l[i]'hi)::l.drop (i+1):=(List.getElem_cons_drop hi).symm
  generalize (l[i]'hi)=x at hx cB
  obtain ⟨b,o,c',B,gx,hv,hB,ee,de,b7,hE⟩:=(h.ae (H':=H2) fun b hb=>ho.get b (hg b hb)).at hx
  cases hv
  obtain ⟨v5,v6,UP,f5,f6,f7,aV,rfl,fk,vJ,uk⟩:=hE
  obtain ⟨a5,k5,rfl⟩:=fk.val
  obtain ⟨a6,k6,rfl⟩:=vJ.val
  obtain ⟨a7,k7,rfl⟩:=uk.val
  have en:o+i * 9+9<=B.cells.length:=b7
  have aV:(B.cells.drop (o+i * 9)).take 9=dK x (.slice a5 x.params.length k5) (.slice a6 x.pat.length k6) (.slice a7 x.on.length k7):=aV
  have bX:IntKind.wrap .i64 (((i:Nat):Int)+1)=((i+1:Nat):Int):=cW hi (by omega)
  rw [cB,Ei] at gK
  simp only [go_sem,ei,hi,hB,en,aV]
  refine af.by ads ?_
  rintro _ H3 - ⟨rfl,o3,z3⟩
  cases hb:Ke x with
  | true=>
   have:x.name=[109,97,105,110]/\x.params.length=0:=by unfold Ke at hb;simpa using hb
   rw [if_pos this] at gK
   simp only [go_sem,ei]
   rw [gK]
   exact ⟨rfl,(((ho.trans o3).fr []).ai _).aE,fun _=>trivial⟩
  | false=>
   have:¬(x.name=[109,97,105,110]/\x.params.length=0):=fun e=>by unfold Ke at hb;rw [e.1,e.2] at hb;simp at hb
   rw [if_neg this] at gK
   simp only [go_sem,ei,bX]
   exact ⟨ho.trans o3,gK⟩
 ·rintro V H2 ⟨ei,ho,gK⟩
  rw [List.drop_length,Ei] at gK
  rw [gK]
  simp only [go_sem,ei]
  exact ⟨((ho.fr []).ai _).aE,fun _=>trivial⟩
theorem XT {H:ad} {P:bC} {x:jb} (hp:rJ H P x) (hz:Aw P):aj Tryz.prog 26 #[.agg (x.c P).toArray] H (fun r H'=>r=iV (sd P.defs)/\bc H H'/\∀c,H'.fz c=H.fz c):=by
 refine aj.told ?_
 refine qi (l:=[_]) _ mixed Tryz.func26 agT [.tmp 2] (show 1<=6 by decide) rfl fun hf=>?_
 simp only [Tryz.f26,Option.getD_some]
 simp only [go_sem]
 have o1:bc H ((H.push ⟨x.c P,28,false,false⟩).ai H.fz):=(((Fr.refl [] H).push _).ai _).aE
 have sI:=hp.ae o1
 refine af.by (adt (H:=(H.push ⟨x.c P,28,false,false⟩).ai H.fz) sI.hD hz.d (fun c hc=>sI.lt c (by simp [hc]))) ?_
 rintro _ H2 - ⟨rfl,o2,z2⟩
 simp only [go_sem]
 exact ⟨((o1.trans o2).fr [] |>.ai _).aE,fun _=>trivial⟩
theorem WO:∀l:List Int,(lU l).length<=l.length
 | []=>Nat.le_refl _
 | [x]=>Nat.le_refl _
 | x::y::l=>by
  have:=WO (y::l)
  rw [lU]
  split
  ·simp only [List.length_cons] at this ⊢;omega
  ·simp only [List.length_cons] at this ⊢;omega
theorem Wu {fuel:Nat} {P:bC} {d:Int} {cs:List Int} (h:Ct fuel P d=some cs):cs.length<=12:=by
 unfold Ct at h
 split at h
 ·cases h;decide
 ·cases ho:Nv fuel P.nodes P.defs with
  | none=>rw [ho] at h;cases h
  | some own=>
   rw [ho,Option.bind_some] at h
   split at h
   ·rename_i pE
    cases h
    have h1:=WO (Cs (Bh own d P.nodes 0))
    rw [WN] at h1
    omega
   ·cases h
theorem aas:∀n,eO [.bool false] n=(List.replicate n false).map Value.bool
 | 0=>rfl
 | n+1=>by
  rw [List.replicate_succ,List.map_cons,<-aas n];rfl
theorem Q9 {o:List Bool} {i:Nat} (h:i < o.length):(o.map Value.bool)[i]?=some (.bool (o.getD i false)):=by
 rw [List.getElem?_map,List.getD_eq_getElem?_getD,List.getElem?_eq_getElem h];rfl
theorem agv {X:Nat->Bool} {Hb H:ad} {v x:Value} {l m:List Int} {g:List Nat} {K:Value->ad->Prop} {tg:Tag K} (h:TD Hb.next H v l) (ho:bc Hb H) (hX:∀b,Hb.next<=b->X b=false) (hs:Sl .int H x m g) (hn:l.length+m.length < 1000000000)
  (hk:∀v' H',TD Hb.next H' v' (l++m)->bc Hb H'->K v' H'):el Tryz.prog X H (iG Tryz.prog 22 v x H) K tg:=by
 obtain ⟨cs,g2,e1,e2,e3,_⟩:=hs.src (size:=1) rfl
 have:=Ns e3;subst this
 have e2':cs.length=m.length:=by rw [e2];exact Nat.mul_one _
 have aV:=Q8 e3 e2'
 subst aV
 have nb:=ho.nx
 by_cases hm:m=[]
 ·subst hm
  rw [List.append_nil] at hk
  rcases h with ⟨rfl,rfl⟩ | ⟨b,h1,h2,c,ds,op,rfl,hB,hc⟩
  ·rw [Xb q9 e1,ach]
   exact hk _ _ (.inl ⟨rfl,rfl⟩) ho
  ·rw [JP (n:=0) (new:=[]) (sz:=1) (o:=0) (sl:=l.length) (sc:=c) q9 e1 rfl hB rfl (by show 0+c * 1<=_;rw [hc];omega) (by decide) (by rw [<-hc];simp) rfl,DZ (hX b h1)]
   have eu:cT (l.map iV++ds) (0+l.length * 1) []=l.map iV++ds:=by unfold cT;simp
   simp only
   rw [eu]
   exact hk _ _ (.inr ⟨b,h1,h2,c,ds,op,rfl,by rw [az,if_pos rfl],hc⟩) (ho.ah h1 _)
 ·have mj:0 < m.length:=List.length_pos_iff.2 hm
  rcases h with ⟨rfl,rfl⟩ | ⟨b,h1,h2,c,ds,op,rfl,hB,hc⟩
  ·rw [GL q9 e1 (by simp at hn;omega) mj,wa]
   exact hk _ _ (.inr ⟨H.next,nb,Nat.lt_succ_self _,m.length,[],true,by simp,by rw [aU,if_pos rfl,List.append_nil];rfl,by simp⟩) (ho.trans (bc.push _ _))
  ·have hlc:l.length<=c:=by rw [<-hc];simp
   have Kh:oC 1 x H=some (m.length,m.map iV):=e1
   rw [XO Kh (by simp) hB hc hlc (by omega) mj (Jr m)]
   have ix:(l.map iV++ds).take l.length=l.map iV:=by rw [List.take_append_of_le_length (by simp),List.take_of_length_le (by simp)]
   by_cases sS:l.length+m.length<=c
   ·rw [if_pos sS,DZ (hX b h1)]
    have db:m.length<=ds.length:=by rw [List.length_append,List.length_map] at hc;omega
    refine hk _ _ (.inr ⟨b,h1,h2,c,ds.drop m.length,op,by rw [List.length_append],by rw [az,if_pos rfl];congr 2;unfold cT;rw [ix];simp [<-List.drop_drop],?_⟩) (ho.ah h1 _)
    rw [<-hc];simp;omega
   ·rw [if_neg sS,ix]
    cases op with
    | true=>
     rw [if_pos rfl,Jv (hX b h1)]
     exact hk _ _ (.inr ⟨H.next,nb,Nat.lt_succ_self _,_,[],true,by rw [List.length_append],by rw [ux,if_pos rfl];simp,by simp⟩) (ho.grow h1 _)
    | false=>
     rw [if_neg (by decide),wa]
     exact hk _ _ (.inr ⟨H.next,nb,Nat.lt_succ_self _,_,[],true,by rw [List.length_append],by rw [aU,if_pos rfl];simp,by simp⟩) (ho.trans (bc.push _ _))
theorem XU {H:ad} {P:bC} {x:jb} (hp:rJ H P x) (hz:Aw P) {fuel:Nat} (vj:fuel<=100000) {d:Int} {R:List Bool} (he:G8 fuel P d=some R):
  aj Tryz.prog 46 #[.agg (x.c P).toArray,iV d] H (fun v H'=>bc H H'/\(∀c,H'.fz c=H.fz c)/\R.length=P.defs.length/\∃b,v=.slice (some ⟨b,0,none⟩) R.length R.length/\H.next<=b/\b < H'.next/\H'.get b=some ⟨R.map Value.bool,4,false,false⟩):=by
 refine aj.told ?_
 refine qi (l:=[_,_]) _ mixed Tryz.func46 ag1 [.tmp 4] (show 2<=52 by decide) rfl fun hf=>?_
 simp only [Tryz.f46,Option.getD_some]
 have hX:∀{c:Nat},H.next<=c->H.fz c=false:=fun h=>hf.fresh h
 unfold G8 at he
 cases jW:Ct fuel P d with
 | none=>rw [jW] at he;cases he
 | some vU=>
 rw [jW,Option.bind_some] at he
 have mU:=hz.d
 have hmk:∀{H:ad},Cl Tryz.prog 60 (iV (P.defs.length:Nat)) (iV (P.defs.length:Nat)) H=.ok (.slice (some ⟨H.next,0,none⟩) P.defs.length P.defs.length) (H.push ⟨(List.replicate P.defs.length false).map Value.bool,4,false,false⟩):=fun {H}=>by
  rw [<-aas]
  exact QH agL (by kernel_rfl:fQ Tryz.prog 4=some [.bool false]) (by decide) (Nat.le_refl _) (by omega) (by omega)
 simp only [go_sem,hmk]
 obtain ⟨H1,cF⟩:∃H1,H1=(((H.push ⟨x.c P,28,false,false⟩).ai H.fz).push ⟨(List.replicate P.defs.length false).map Value.bool,4,false,false⟩).ai H.fz:=⟨_,rfl⟩
 have o1:OF H H1:=by rw [cF];exact ⟨((((Fr.refl [] H).push _ |>.ai _).push _).ai _).aE,fun _ _=>rfl⟩
 have y1:H1.get H.next=some ⟨x.c P,28,false,false⟩:=by rw [cF,be,aU,if_neg (by show¬H.next=H.next+1;omega),be,aU,if_pos rfl]
 have n1:H1.next=H.next+1+1:=by rw [cF];rfl
 have z1:∀c,H1.fz c=H.fz c:=fun c=>by rw [cF];rfl
 have b1:H1.get (H.next+1)=some ⟨(List.replicate P.defs.length false).map Value.bool,4,false,false⟩:=by rw [cF,be,aU];exact if_pos rfl
 rw [<-cF]
 clear cF
 refine af.by (XR (hp.ae o1.aE) hz vj jW) ?_
 rintro v2 H2 - ⟨o2,z2,t2⟩
 have n2:=o2.nx
 simp only [go_sem]
 have Bl:=Wu jW
 refine QL 2251799813652672 (fun k V H3=>k<=fuel/\∃todo out,TD H1.next H3 (V 6) todo/\todo.length+12 * k<=12+12 * fuel/\G7 fuel P k todo out=some R/\out.length=P.defs.length/\OF H H3/\H1.next<=H3.next/\(∀c,c < H1.next->c≠(H.next+1)->H3.get c=H1.get c)/\H3.get (H.next+1)=some ⟨out.map Value.bool,4,false,false⟩) (n:=fuel)
  ⟨Nat.le_refl _,vU,_,by simp only [go_sem];exact t2.ai,by omega,he,List.length_replicate,⟨((o1.aE.trans o2).fr [] |>.ai _).aE,fun _ _=>rfl⟩,n2,fun c hc _=>o2.get c hc,(o2.get (H.next+1) (by omega)).trans b1⟩ ?_ (by rfl)
 rintro k V H3 ⟨hkf,todo,out,ht,fO,hg,nZ,o3,n3,k3,b3⟩
 cases k with
 | zero=>rw [G7] at hg;cases hg
 | succ k=>
 rw [G7] at hg
 by_cases h0:todo.length=0
 ·rw [if_pos h0] at hg
  cases hg
  obtain ⟨f,eF, -⟩:=ht.sl
  obtain ⟨a,c,hv⟩:=eF.val
  have Ci:¬(0:Int) < ((0:Nat):Int):=by omega
  rw [h0] at hv
  simp only [go_sem,hv,Ci]
  exact ⟨((o3.aE.fr []).ai _ |>.ai _).aE,fun _=>trivial,nZ,H.next+1,by rw [nZ],by omega,by show H.next+1 < H3.next;omega,b3⟩
 rw [if_neg h0] at hg
 rcases ht with ⟨e6,rfl⟩ | ⟨bt,iD,fe,c,ds,op,e6,hB,hc⟩
 ·exact absurd rfl h0
 obtain ⟨t,nJ⟩:∃t,todo.length=t+1:=⟨todo.length - 1,by omega⟩
 have mj:0 < ((todo.length:Nat):Int):=by omega
 have eX:IntKind.wrap .i64 (((todo.length:Nat):Int) - 1)=((t:Nat):Int):=by rw [uz (by omega) (by omega)];omega
 have KV:t < todo.length:=by omega
 have MA:(todo.map iV++ds)[t]?=some (iV (todo.getD t 0)):=by rw [List.getElem?_append_left (by simp;omega)];exact zx KV
 rw [show todo.length - 1=t by omega] at hg
 dsimp only at hg
 obtain ⟨at_,dW⟩:∃at_,at_=todo.getD t 0:=⟨_,rfl⟩
 rw [<-dW] at MA hg
 have eL:iL Tryz.prog 22=some (3,1):=by kernel_rfl
 have VW:t<=c:=by rw [<-hc];simp;omega
 have hXt:H.fz bt=false:=hX (by omega)
 have VY:H.fz (H.next+1)=false:=hX (by omega)
 simp only [go_sem,Option.map_some,Option.map_none,e6,mj,eX,KV,hB,MA,MW (b:=bt) (o:=0) (n:=todo.length) (c:=c) eL VW]
 have iS:∀{H5:ad},H3.next<=H5.next->H5.get bt=H3.get bt->TD H1.next H5 (.slice (some ⟨bt,0,none⟩) t c) (todo.take t):=fun {H5} hn h=>.inr ⟨bt,iD,by omega,c,(todo.drop t).map iV++ds,op,by rw [List.length_take,Nat.min_eq_left (by omega)],by rw [h,hB,<-List.append_assoc,<-List.map_append,List.take_append_drop],by rw [<-List.append_assoc,<-List.map_append,List.take_append_drop];exact hc⟩
 have aam:(todo.take t).length=t:=by rw [List.length_take,Nat.min_eq_left (by omega)]
 have ot:OF H (H3.ai H.fz):=o3.told
 by_cases h1:at_ < 0
 ·rw [if_pos (.inl h1)] at hg
  simp only [go_sem,h1]
  exact ⟨k,by omega,by omega,todo.take t,out,iS (Nat.le_refl _) rfl,by omega,hg,nZ,ot,n3,k3,b3⟩
 by_cases h2:((P.defs.length:Nat):Int)<=at_
 ·rw [if_pos (.inr (.inl (by rw [nZ];exact h2)))] at hg
  simp only [go_sem,h1,h2]
  exact ⟨k,by omega,by omega,todo.take t,out,iS (Nat.le_refl _) rfl,by omega,hg,nZ,ot,n3,k3,b3⟩
 obtain ⟨a,rfl⟩:=Int.eq_ofNat_of_zero_le (by omega:0<=at_)
 have ha:a < P.defs.length:=by omega
 have iT:=Q9 (o:=out) (i:=a) (by omega)
 by_cases h3:out.getD a false=true
 ·rw [if_pos (.inr (.inr h3))] at hg
  rw [h3] at iT
  simp only [go_sem,h1,h2,ha,b3,iT]
  exact ⟨k,by omega,by omega,todo.take t,out,iS (Nat.le_refl _) rfl,by omega,hg,nZ,ot,n3,k3,rfl⟩
 rw [if_neg (by rw [nZ];simp only [Int.toNat_natCast];exact fun h=>h.elim h1 fun h=>h.elim h2 h3)] at hg
 simp only [Int.toNat_natCast] at hg
 rw [Bool.not_eq_true] at h3
 rw [h3] at iT
 cases aV:Ct fuel P ((a:Nat):Int) with
 | none=>rw [aV] at hg;cases hg
 | some cs=>
 rw [aV,Option.bind_some] at hg
 have Bi:a < (out.map Value.bool).length:=by rw [List.length_map];omega
 have Ih:a+1<=(out.map Value.bool).length:=Bi
 have y3:=(k3 H.next (by omega) (by omega)).trans y1
 have mC:¬H.next=H.next+1:=by omega
 have hnt:¬bt=H.next+1:=by omega
 simp only [go_sem,h1,h2,ha,b3,iT,VY,Bi,Ih,y3,mC]
 obtain ⟨H4,dx⟩:∃H4,H4=((H3.ai H.fz).ah (H.next+1) ⟨(out.map Value.bool).set a (.bool true),4,false,false⟩).ai H.fz:=⟨_,rfl⟩
 have o4:OF H H4:=by rw [dx];exact ⟨((((o3.aE.fr []).ai _).ah (.inr (by omega)) _).ai _).aE,fun _ _=>rfl⟩
 have g4:∀c,c≠H.next+1->H4.get c=H3.get c:=fun c hc=>by rw [dx,be,az,if_neg hc,be]
 have b4:H4.get (H.next+1)=some ⟨(out.set a true).map Value.bool,4,false,false⟩:=by rw [dx,be,az,if_pos rfl,List.map_set]
 have n4:H4.next=H3.next:=by rw [dx];rfl
 have z4:∀c,H4.fz c=H.fz c:=fun c=>by rw [dx];rfl
 rw [<-dx]
 clear dx
 refine af.by (XR (hp.ae o4.aE) hz vj aV) ?_
 rintro v5 H5 - ⟨o5,z5,t5⟩
 have n5:=o5.nx
 obtain ⟨f5,s5, -⟩:=t5.sl
 have Bu:=Wu aV
 simp only [go_sem]
 refine agv (Hb:=⟨H1.next,H5.get,H5.fz⟩) (iS (by omega) ((o5.get bt (by omega)).trans (g4 bt hnt))) ⟨by show H1.next<=H5.next;omega,fun _ _=>rfl,fun _ _ h _=>h⟩ (fun b hb=>hX (by have:H1.next<=b:=hb;omega)) s5 (by omega) ?_
 intro v6 H6 t6 o6
 simp only [go_sem]
 have n6:H1.next<=H6.next:=o6.nx
 refine ⟨k,by omega,by omega,todo.take t++cs,out.set a true,t6.ai,by rw [List.length_append];omega,hg,by rw [List.length_set];exact nZ,⟨⟨by show H.next<=H6.next;omega,fun c hc=>?_,fun c B hB hr=>?_⟩,fun _ _=>rfl⟩,n6,fun c h1 h2=>?_,?_⟩
 ·have e6:H6.get c=H5.get c:=o6.get c (by show c < H1.next;omega)
  exact e6.trans ((o5.get c (by omega)).trans (o4.aE.get c hc))
 ·have e1:H5.get c=some B:=o6.ro c B hB hr
  exact o4.aE.ro c B (o5.ro c B e1 hr) hr
 ·have e6:H6.get c=H5.get c:=o6.get c h1
  exact e6.trans ((o5.get c (by omega)).trans ((g4 c h2).trans (k3 c h1 h2)))
 ·have e6:H6.get (H.next+1)=H5.get (H.next+1):=o6.get _ (by show H.next+1 < H1.next;omega)
  exact e6.trans ((o5.get _ (by omega)).trans b4)
theorem Ra {H:ad} {P:bC} {x:jb} (hp:rJ H P x) (hz:Aw P) {fuel:Nat} (vj:fuel<=100000) {R:Bool} (he:Ep fuel P=some R):
  aj Tryz.prog 22 #[.agg (x.c P).toArray] H (fun v H'=>v=.bool R/\bc H H'/\∀c,H'.fz c=H.fz c):=by
 refine aj.told ?_
 refine qi (l:=[_]) _ mixed Tryz.func22 agQ [.tmp 2] (show 1<=27 by decide) rfl fun hf=>?_
 simp only [Tryz.f22,Option.getD_some]
 have hX:∀{c:Nat},H.next<=c->H.fz c=false:=fun h=>hf.fresh h
 unfold Ep at he
 cases hl:G8 fuel P (sd P.defs) with
 | none=>rw [hl] at he;cases he
 | some to=>
 rw [hl,Option.bind_some] at he
 simp only [go_sem]
 obtain ⟨H1,cF⟩:∃H1,H1=(H.push ⟨x.c P,28,false,false⟩).ai H.fz:=⟨_,rfl⟩
 have o1:OF H H1:=by rw [cF];exact ⟨(((Fr.refl [] H).push _).ai _).aE,fun _ _=>rfl⟩
 have y1:H1.get H.next=some ⟨x.c P,28,false,false⟩:=by rw [cF,be,aU,if_pos rfl]
 have n1:H1.next=H.next+1:=by rw [cF];rfl
 rw [<-cF]
 clear cF
 refine af.by (XT (hp.ae o1.aE) hz) ?_
 rintro _ H2 - ⟨rfl,o2,z2⟩
 have y2:=(o2.get H.next (by omega)).trans y1
 have n2:=o2.nx
 simp only [go_sem,y1,y2]
 refine af.by (XU ((hp.ae o1.aE).ae o2) hz vj hl) ?_
 rintro _ H3 - ⟨o3,z3,ig,b,rfl,iD,fe,b3⟩
 have n3:=o3.nx
 have y3:=(o3.get H.next (by omega)).trans y2
 simp only [go_sem]
 refine pe 134213684 to.length (fun i V H4=>V 12=iV (i:Nat)/\OF H H4/\bc H3 H4/\G9 fuel P (to.drop i) i=some R)
  ⟨by simp only [go_sem] <;> rfl,⟨(((o1.aE.trans o2).trans o3).fr [] |>.ai _).aE,fun _ _=>rfl⟩,((Fr.refl [] H3).ai _).aE,he⟩ ?_ ?_ (by rfl)
 ·rintro i V H4 hi ⟨ei,o4,Ji,hg⟩
  rw [show to.drop i=to.getD i false::to.drop (i+1) by rw [List.getD_eq_getElem?_getD,List.getElem?_eq_getElem hi];exact (List.getElem_cons_drop hi).symm,G9] at hg
  have mU:=hz.d
  have bX:IntKind.wrap .i64 (((i:Nat):Int)+1)=((i+1:Nat):Int):=cW hi (by omega)
  have b4:=(Ji.get b fe).trans b3
  have iT:=Q9 hi
  have n4:=Ji.nx
  have y4:=(Ji.get H.next (by omega)).trans y3
  cases hb:to.getD i false with
  | false=>
   rw [hb,if_neg (by decide)] at hg
   rw [hb] at iT
   simp only [go_sem,ei,hi,b4,iT,bX]
   exact ⟨o4.told,((Ji.fr []).ai _).aE,hg⟩
  | true=>
   rw [hb,if_pos rfl] at hg
   rw [hb] at iT
   cases th:G8 fuel P ((i:Nat):Int) with
   | none=>rw [th] at hg;cases hg
   | some o=>
   rw [th,Option.bind_some] at hg
   simp only [go_sem,ei,hi,b4,iT,y4]
   refine af.by (XU (hp.ae o4.told.aE) hz vj th) ?_
   rintro _ H5 - ⟨o5,z5,nZ,b',rfl,avN,avO,b5⟩
   have V9:i < o.length:=by omega
   have OE:=Q9 V9
   have Wa:bc H4 H5:=⟨o5.nx,o5.get,o5.ro⟩
   cases dT:o.getD i false with
   | true=>
    rw [dT,if_pos rfl] at hg
    cases hg
    rw [dT] at OE
    simp only [go_sem,V9,b5,OE]
    exact ⟨(((o4.aE.trans Wa).fr []).ai _ |>.ai _).aE,fun _=>trivial⟩
   | false=>
    rw [dT,if_neg (by decide)] at hg
    rw [dT] at OE
    simp only [go_sem,V9,b5,OE,ei,bX]
    exact ⟨⟨((o4.aE.trans Wa).fr [] |>.ai _).aE,fun _ _=>rfl⟩,((Ji.trans Wa).fr [] |>.ai _).aE,hg⟩
 ·rintro V H4 ⟨ei,o4,Ji,hg⟩
  rw [List.drop_length,G9] at hg
  cases hg
  simp only [go_sem,ei]
  exact ⟨((o4.aE.fr []).ai _).aE,fun _=>trivial⟩
theorem Yf {H:ad} {P:bC} {x:jb} (hp:rJ H P x) (hz:Aw P) {fuel:Nat} (vj:fuel<=100000) {R:Int × Bool} (he:Kd fuel P=some R):
  aj Tryz.prog 20 #[.agg (x.c P).toArray] H (fun v H'=>v=.tuple #[iV R.1,.bool R.2]/\bc H H'/\∀c,H'.fz c=H.fz c):=by
 refine aj.told ?_
 refine qi (l:=[_]) _ mixed Tryz.func20 agP [.tmp 2,.tmp 3] (show 1<=28 by decide) rfl fun hf=>?_
 simp only [Tryz.f20,Option.getD_some]
 have hX:∀{c:Nat},H.next<=c->H.fz c=false:=fun h=>hf.fresh h
 simp only [go_sem]
 obtain ⟨H1,cF⟩:∃H1,H1=(H.push ⟨x.c P,28,false,false⟩).ai H.fz:=⟨_,rfl⟩
 have o1:OF H H1:=by rw [cF];exact ⟨(((Fr.refl [] H).push _).ai _).aE,fun _ _=>rfl⟩
 have y1:H1.get H.next=some ⟨x.c P,28,false,false⟩:=by rw [cF,be,aU,if_pos rfl]
 have n1:H1.next=H.next+1:=by rw [cF];rfl
 rw [<-cF]
 clear cF
 refine af.by (XT (hp.ae o1.aE) hz) ?_
 rintro _ H2 - ⟨rfl,o2,z2⟩
 have n2:=o2.nx
 have y2:=(o2.get H.next (by omega)).trans y1
 unfold Kd at he
 have Wb:bc H (H2.ai H.fz):=((o1.aE.trans o2).fr [] |>.ai _).aE
 by_cases h1:sd P.defs < 0
 ·rw [if_pos h1] at he
  cases he
  simp only [go_sem,h1]
  exact ⟨Wb,fun _=>trivial⟩
 rw [if_neg h1] at he
 cases Ff:Ep fuel P with
 | none=>rw [Ff] at he;cases he
 | some e=>
 rw [Ff,Option.bind_some] at he
 simp only [go_sem,h1,y2]
 refine af.by (Ra (hp.ae Wb) hz vj Ff) ?_
 rintro _ H3 - ⟨rfl,o3,z3⟩
 have n3:H2.next<=H3.next:=o3.nx
 have y3:H3.get H.next=_:=(o3.get H.next (by show H.next < H2.next;omega)).trans y2
 have Wc:bc H H3:=Wb.trans o3
 cases e with
 | false=>
  rw [if_pos rfl] at he
  cases he
  simp only [go_sem]
  exact ⟨((Wc.fr []).ai _ |>.ai _).aE,fun _=>trivial⟩
 | true=>
 rw [if_neg (by decide)] at he
 cases ht:Kc P.defs (PU P.nodes P.defs fuel) (sd P.defs) ⟨[],true⟩ with
 | none=>rw [ht] at he;cases he
 | some r=>
 rw [ht] at he
 cases he
 simp only [go_sem,y3]
 obtain ⟨H4,dx⟩:∃H4,H4=(((H3.ai H.fz).push ⟨uH [],48,false,false⟩).push ⟨PV x P H3.next true,86,false,false⟩).ai H.fz:=⟨_,rfl⟩
 have o4:bc H3 H4:=by rw [dx];exact (((((Fr.refl [] H3).ai _).push _).push _).ai _).aE
 have oF4:=Wc.trans o4
 have hp4:=hp.ae oF4
 have n03:=Wc.nx
 have gl:∀d∈x.gM++(x.gD++x.gN),d < H.next:=hp.lt
 have q4:CQ H4 P x (H3.next+1) H3.next ⟨[],true⟩:=by
  refine {hc:=?_,hm:=?_,rK:=hp4,ne:=by omega,cl:=?_,ml:=?_,cg:=fun e=>by have:=gl _ e;omega,mg:=fun e=>by have:=gl _ e;omega,fc:=?_,fm:=?_}
  ·rw [dx,be,aU];exact if_pos rfl
  ·rw [dx,be,aU,if_neg (by show¬H3.next=H3.next+1;omega),aU];exact if_pos rfl
  ·rw [dx];show H3.next+1 < H3.next+1+1;omega
  ·rw [dx];show H3.next < H3.next+1+1;omega
  ·rw [dx];exact hX (by omega)
  ·rw [dx];exact hX (by omega)
 rw [<-dx]
 clear dx
 refine af.by (Q7 hz (aap hz fuel) q4 ht) ?_
 rintro _ H5 - ⟨rfl,f5,z5,q5⟩
 have sX:=q5.hc
 have oF5:bc H H5:=((oF4.fr []).trans f5 fun c hc=>by right;simp at hc;omega).aE
 cases hk:r.2.ok with
 | true=>
  rw [hk] at sX
  simp only [go_sem,sX,if_true]
  exact ⟨((oF5.fr []).ai _ |>.ai _).aE,fun _=>trivial⟩
 | false=>
  rw [hk] at sX
  simp only [go_sem,sX]
  exact ⟨((oF5.fr []).ai _ |>.ai _).aE,fun _=>trivial⟩
end Go.Proofs.YtinjmfblebpnnaaGreat.Ab
set_option maxRecDepth 1000000
namespace Go.Proofs.YtinjmfblebpnnaaGreat.Ab
open Go
def ndB (n:aH):Bool:=decide (n.args.length < 1000000)&&(decide (n.ak.length < 1000000)&&n.ak.all fun x=>decide (x.aX.length < 100000))
def KZ (P:bC):Bool:=decide (P.msgs.length < 1000000)&&(decide (P.defs.length < 1000000)&&(decide (P.nodes.length < 100000)&&(P.nodes.all ndB&&(P.msgs.all (fun x=>decide (x.types.length < 1000000))&&P.defs.all fun x=>decide (x.params.length < 1000000)))))
theorem Na {P:bC} (h:KZ P=true):Aw P:=by
 unfold KZ at h
 simp only [Bool.and_eq_true,decide_eq_true_eq,List.all_eq_true] at h
 obtain ⟨h1,h2,h3,h4,h5,h6⟩:=h
 refine ⟨h1,h2,h3,fun n hn=>?_,h5,h6⟩
 have:=h4 n hn
 unfold ndB at this
 simp only [Bool.and_eq_true,decide_eq_true_eq,List.all_eq_true] at this
 exact ⟨this.1,this.2.1,this.2.2⟩
theorem ur.rK {H:ad} {v:Value} {P:bC} {g:List Nat} (h:ur H v P g) (hl:∀c∈g,c < H.next):∃px:jb,v=.agg (px.c P).toArray/\rJ H P px/\∀c∈px.gM++(px.gD++px.gN),c∈g:=by
 obtain ⟨vM,vR,vD,vN,gM,gR,gD,gN,rfl,h1,h2,h3,h4,rfl⟩:=h
 obtain ⟨aM,kM,rfl⟩:=h1.val
 obtain ⟨aR,kR,rfl⟩:=h2.val
 obtain ⟨aD,kD,rfl⟩:=h3.val
 obtain ⟨aN,kN,rfl⟩:=h4.val
 have mem:∀c∈gM++(gD++gN),c∈gM++(gR++(gD++gN)):=fun c hc=>by
  simp only [List.mem_append] at hc ⊢
  rcases hc with e | e | e
  ·exact .inl e
  ·exact .inr (.inr (.inl e))
  ·exact .inr (.inr (.inr e))
 exact ⟨⟨aM,aR,aD,aN,P.bZ.length,kM,kR,kD,kN,gM,gD,gN⟩,rfl,⟨h1,h3,h4,fun c hc=>hl c (mem c hc)⟩,mem⟩
theorem WQ {H:ad} {s:bj} (hs:s.length < 999000) {P:bC} (he:HM 60 s=some (some P)):
  aj Tryz.prog 11 #[ag s] H (fun r H'=>bc H H'/\(∀c,H'.fz c=H.fz c)/\∃px:jb,r=.tuple #[.agg (px.c P).toArray,.bool true]/\rJ H' P px):=by
 refine aj.told ?_
 refine qi (l:=[_]) _ mixed Tryz.func11 agM [.cell 2 28,.tmp 3] (show 1<=18 by decide) rfl fun hf=>?_
 simp only [Tryz.f11,Option.getD_some]
 have hX:∀{c:Nat},H.next<=c->H.fz c=false:=fun h=>hf.fresh h
 simp only [go_sem,hX (Nat.le_refl H.next)]
 have o1:bc H ((H.push ⟨[.slice none 0 0,.slice none 0 0,.slice none 0 0,.slice none 0 0],28,false,false⟩).ai H.fz):=(((Fr.refl [] H).push _).ai _).aE
 have g1:((H.push ⟨[.slice none 0 0,.slice none 0 0,.slice none 0 0,.slice none 0 0],28,false,false⟩).ai H.fz).get H.next=some ⟨[.slice none 0 0,.slice none 0 0,.slice none 0 0,.slice none 0 0],28,false,false⟩:=by rw [be,aU,if_pos rfl]
 have n1:((H.push ⟨[.slice none 0 0,.slice none 0 0,.slice none 0 0,.slice none 0 0],28,false,false⟩).ai H.fz).next=H.next+1:=rfl
 generalize ((H.push ⟨[.slice none 0 0,.slice none 0 0,.slice none 0 0,.slice none 0 0],28,false,false⟩).ai H.fz)=H1 at o1 g1 n1 ⊢
 refine af.by (agm hs he) ?_
 rintro _ H2 - ⟨o2,v,g,rfl,hpg,kt⟩
 obtain ⟨px,rfl,Ik,uI⟩:=hpg.rK fun c hc=>(kt c hc).2
 have n2:=o2.nx
 have g2:=(o2.get H.next (by omega)).trans g1
 have ef:H.fz H2.next=false:=hX (by omega)
 have hn:¬H.next=H2.next:=by omega
 have V7:=hX (Nat.le_refl H.next)
 simp only [go_sem,ef,V7,g2,hn]
 refine ⟨(((((o1.trans o2).fr []).push _).ai _).ah (.inr (Nat.le_refl _)) _ |>.ai _).aE,fun _=>trivial,px,rfl,?_⟩
 refine Ik.fr (M:=[H.next]) (((((Fr.refl [H.next] H2).push _).ai _).ah (.inl (by simp)) _).ai _) fun c hc=>?_
 rw [List.mem_singleton] at hc
 subst hc
 exact fun e=>by have:=(kt _ (uI _ e)).1;omega
def YY:bj:=[100,101,102,32,109,97,105,110,40,41,32,123,32,100,111,110,101,32,125]
def YZ:Bool:=match HM 60 YY with
 | some (some P)=>KZ P&&(match Kd 100 P,Ep 100 P with
  | some R,some e=>decide (R.1=1)&&R.2&&e
  | _,_=>false)
 | _=>false
theorem acH:YZ=true:=by kernel_rfl
theorem P6 {H:ad}:aj Tryz.prog 24 #[] H (fun r H'=>r=.bool true/\bc H H'):=by
 refine aj.told ?_
 refine qi (l:=[]) _ mixed Tryz.func24 agR [.tmp 0] (show 0<=26 by decide) rfl fun hf=>?_
 simp only [Tryz.f24,Option.getD_some]
 have hX:∀{c:Nat},H.next<=c->H.fz c=false:=fun h=>hf.fresh h
 have hw:=acH
 unfold YZ at hw
 split at hw
 ·rename_i P hP
  rw [Bool.and_eq_true] at hw
  obtain ⟨hz,hw⟩:=hw
  split at hw
  ·rename_i R e hR hE
   rw [Bool.and_eq_true,Bool.and_eq_true,decide_eq_true_eq] at hw
   obtain ⟨⟨h1,h2⟩,rfl⟩:=hw
   simp only [go_sem]
   refine af.by (WQ (s:=YY) (by decide) hP) ?_
   rintro _ H1 - ⟨o1,z1,px,rfl,Ik⟩
   have Bj:H.next<=H1.next:=o1.nx
   simp only [go_sem,hX Bj]
   have o2:OF H ((H1.push ⟨px.c P,28,false,false⟩).ai H.fz):=⟨((o1.fr []).push _ |>.ai _).aE,fun _ _=>rfl⟩
   have p2:((H1.push ⟨px.c P,28,false,false⟩).ai H.fz).get H1.next=some ⟨px.c P,28,false,false⟩:=by rw [be,aU,if_pos rfl]
   have Lf:rJ ((H1.push ⟨px.c P,28,false,false⟩).ai H.fz) P px:=Ik.ae (((Fr.refl [] H1).push _ |>.ai _).aE)
   have n2:((H1.push ⟨px.c P,28,false,false⟩).ai H.fz).next=H1.next+1:=rfl
   generalize ((H1.push ⟨px.c P,28,false,false⟩).ai H.fz)=H2 at o2 p2 Lf n2 ⊢
   refine af.by (Yf Lf (Na hz) (by decide) hR) ?_
   rintro _ H3 - ⟨rfl,o3,z3⟩
   have p3:=(o3.get H1.next (by omega)).trans p2
   simp only [go_sem,p3]
   refine af.by (Ra (Lf.ae (((o3.fr []).ai _).aE)) (Na hz) (by decide) hE) ?_
   rintro _ H4 - ⟨rfl,o4,z4⟩
   simp only [go_sem,h1,h2]
   exact ((((o2.aE.trans o3).fr []).ai _).then (o4.fr []) |>.ai _).aE
  ·cases hw
 ·cases hw
def Il:bj:=[100,101,102,32,109,97,105,110,40,41,32,123,32]
def S9:bj:=[108,111,111,112,32,57,57,32,123,32]
def Ta:bj:=[108,101,116,32,120,32,61,32,49,59,32]
def Tb:bj:=[125,32]
def Tc:bj:=[100,111,110,101,32,125]
def C6:Nat->bj
 | 0=>[]
 | i+1=>C6 i++S9
def uU (k:Nat):Nat->bj
 | 0=>C6 k++Ta
 | i+1=>uU k i++Tb
def K0 (k:Nat):bj:=Il++uU k k++Tc
def qw:Nat->Bool × Int
 | 0=>(true,1)
 | i+1=>((qw i).1&&decide ((qw i).2<=11645671763705525),IntKind.wrap .i64 (IntKind.wrap .i64 ((qw i).2 * 99)+1))
def OG (k:Nat):Bool:=(qw k).1&&decide ((qw k).2 < 1152921504606846976)
def tL (k:Nat):Bool:=match HM 60 (K0 k) with
 | some (some P)=>KZ P&&(match Kd 100 P,Ep 100 P with
  | some R,some e=>decide (R.2=OG k)&&(if R.2=true then decide (R.1=IntKind.wrap .i64 ((qw k).2+1)) else decide (R.1=0))&&e
  | _,_=>false)
 | _=>false
theorem adu:tL 0=true:=by kernel_rfl
theorem adw:tL 1=true:=by kernel_rfl
theorem adx:tL 2=true:=by kernel_rfl
theorem ady:tL 3=true:=by kernel_rfl
theorem adz:tL 4=true:=by kernel_rfl
theorem adA:tL 5=true:=by kernel_rfl
theorem adB:tL 6=true:=by kernel_rfl
theorem adC:tL 7=true:=by kernel_rfl
theorem adD:tL 8=true:=by kernel_rfl
theorem adE:tL 9=true:=by kernel_rfl
theorem acI:tL 10=true:=by kernel_rfl
theorem agw:∀k,k < 11->tL k=true
 | 0,_=>adu
 | 1,_=>adw
 | 2,_=>adx
 | 3,_=>ady
 | 4,_=>adz
 | 5,_=>adA
 | 6,_=>adB
 | 7,_=>adC
 | 8,_=>adD
 | 9,_=>adE
 | 10,_=>acI
 | k+11,h=>absurd h (by omega)
theorem acJ:Tryz.prog.underlying 4=some .bool:=by kernel_rfl
theorem QB {a b:Bool} {h:KH}:eB Tryz.prog .eql 4 (.bool a) (.bool b) h=.ok (.bool (a==b)) h:=by
 simp only [eB,mh,adR,acJ]
 cases a <;> cases b <;> rfl
theorem JJ {P:Program} {X:Nat->Bool} {H:ad} {r:KO} {v:Value} {K:Value->ad->Prop} {tg:Tag K} (hr:r=.ok v h0) (hk:K v H):el P X H (hU r H) K tg:=by
 rw [hr]
 exact ⟨fun _ _ _=>rfl,hk⟩
theorem M2:∀i,(C6 i).length=10 * i
 | 0=>rfl
 | i+1=>by
  rw [C6,List.length_append,M2 i]
  show 10 * i+10=_
  omega
theorem Jy (k:Nat):∀i,(uU k i).length=10 * k+11+2 * i
 | 0=>by
  rw [uU,List.length_append,M2];rfl
 | i+1=>by
  rw [uU,List.length_append,Jy k i]
  show 10 * k+11+2 * i+2=_
  omega
theorem agx {k:Nat} (h:tL k=true):∃P R,HM 60 (K0 k)=some (some P)/\KZ P=true/\Kd 100 P=some R/\Ep 100 P=some true/\R.2=OG k/\(if R.2=true then R.1=IntKind.wrap .i64 ((qw k).2+1) else R.1=0):=by
 unfold tL at h
 split at h
 ·rename_i P hP
  rw [Bool.and_eq_true] at h
  obtain ⟨hz,h⟩:=h
  split at h
  ·rename_i R e hR hE
   rw [Bool.and_eq_true,Bool.and_eq_true,decide_eq_true_eq] at h
   obtain ⟨⟨h1,h2⟩,rfl⟩:=h
   refine ⟨P,R,hP,hz,hR,hE,h1,?_⟩
   split at h2
   ·rename_i h3;rw [if_pos h3];simpa using h2
   ·rename_i h3;rw [if_neg h3];simpa using h2
  ·cases h
 ·cases h
theorem termFar_walk {H:ad} {a0:Int}:aj Tryz.prog 8 #[.int .i64 a0] H (fun w _=>w=.bool true):=by
 refine aj.told ?_
 refine qi (l:=[_]) _ mixed Tryz.func8 ajk [.tmp 2] (show 1<=84 by decide) rfl fun hf=>?_
 simp only [Tryz.f8,Option.getD_some]
 have hX:∀{c:Nat},H.next<=c->H.fz c=false:=fun h=>hf.fresh h
 simp only [go_sem]
 refine af.by (acy (v:=a0) (n:=11) (by decide)) ?_
 rintro _ _ - ⟨rfl,rfl⟩
 have hb:=agn a0 11 (by decide)
 obtain ⟨n,hn⟩:=Int.eq_ofNat_of_zero_le hb.1
 rw [hn] at hb ⊢
 have al0:n < 11:=by omega
 obtain ⟨P,R,hP,hzp,hR,hE,hg,hr⟩:=agx (agw n al0)
 simp only [go_sem]
 have lB:S9.length=10:=rfl
 have lC:Ta.length=11:=rfl
 have lD:Tb.length=2:=rfl
 refine pe 2080840 n (fun i V H1=>V 6=iV (i:Nat)/\V 3=ag (C6 i)/\bc H H1)
  ⟨by simp only [go_sem] <;> rfl,by simp only [go_sem] <;> rfl,((Fr.refl [] H).ai _).aE⟩ ?_ ?_ (by rfl)
 ·rintro i V H1 hi ⟨ei,e3,o1⟩
  have bX:IntKind.wrap .i64 (((i:Nat):Int)+1)=((i+1:Nat):Int):=cW hi (by omega)
  have s1:∀{h:KH},eB Tryz.prog .add 9 (ag (C6 i)) (ag S9) h=.ok (ag (C6 (i+1))) h:=JE (by rw [M2,lB];omega)
  simp only [go_sem,ei,hi,e3]
  refine JJ s1 ?_
  simp only [go_sem,ei,bX]
  exact ((o1.fr []).ai _ |>.ai _).aE
 ·rintro V H1 ⟨ei,e3,o1⟩
  have Ly:¬n < n:=by omega
  have s2:∀{h:KH},eB Tryz.prog .add 9 (ag (C6 n)) (ag Ta) h=.ok (ag (uU n 0)) h:=JE (by rw [M2,lC];omega)
  simp only [go_sem,ei,e3,Ly]
  refine JJ s2 ?_
  simp only [go_sem]
  refine pe 274869518520 n (fun i V2 H2=>V2 7=iV (i:Nat)/\V2 3=ag (uU n i)/\V2 4=iV (qw i).2/\V2 5=.bool (qw i).1/\bc H H2)
   ⟨by simp only [go_sem] <;> rfl,by simp only [go_sem] <;> rfl,by simp only [go_sem] <;> rfl,by simp only [go_sem] <;> rfl,((o1.fr []).ai _ |>.ai _).aE⟩ ?_ ?_ (by rfl)
  ·rintro i V2 H2 hi ⟨vY,Wd,Jj,zf,o2⟩
   have bX:IntKind.wrap .i64 (((i:Nat):Int)+1)=((i+1:Nat):Int):=cW hi (by omega)
   have s3:∀{h:KH},eB Tryz.prog .add 9 (ag (uU n i)) (ag Tb) h=.ok (ag (uU n (i+1))) h:=JE (by rw [Jy,lD];omega)
   simp only [go_sem,vY,hi,Wd]
   refine JJ s3 ?_
   cases hw:(qw i).1 with
   | true=>
    rw [hw] at zf
    simp only [go_sem,Jj,zf,vY,bX]
    exact ⟨rfl,by rw [qw,hw,Bool.true_and],((o2.fr []).ai _).aE⟩
   | false=>
    rw [hw] at zf
    simp only [go_sem,Jj,zf,vY,bX]
    exact ⟨rfl,by rw [qw,hw,Bool.false_and],((o2.fr []).ai _).aE⟩
  ·rintro V2 H2 ⟨vY,Wd,Jj,zf,o2⟩
   have lA:Il.length=13:=rfl
   have lE:Tc.length=6:=rfl
   have s4:∀{h:KH},eB Tryz.prog .add 9 (ag Il) (ag (uU n n)) h=.ok (ag (Il++uU n n)) h:=JE (by rw [Jy,lA];omega)
   have s5:∀{h:KH},eB Tryz.prog .add 9 (ag (Il++uU n n)) (ag Tc) h=.ok (ag (K0 n)) h:=JE (by rw [List.length_append,Jy,lA,lE];omega)
   have hlen:(K0 n).length < 999000:=by unfold K0;rw [List.length_append,List.length_append,Jy,lA,lE];omega
   simp only [go_sem,vY,Ly,Wd]
   refine JJ s4 ?_
   generalize Il++uU n n=x1 at s5 ⊢
   simp only [go_sem]
   refine JJ s5 ?_
   simp only [go_sem]
   refine af.by (WQ hlen hP) ?_
   rintro _ H4 - ⟨o4,z4,px,rfl,Ik⟩
   have n4:H2.next<=H4.next:=o4.nx
   have n24:H.next<=H4.next:=Nat.le_trans o2.nx n4
   have FL:H.fz H4.next=false:=hX n24
   simp only [go_sem,FL]
   obtain ⟨H5,jC⟩:∃H5,H5=(H4.push ⟨px.c P,28,false,false⟩).ai H.fz:=⟨_,rfl⟩
   have o5:bc H4 H5:=by rw [jC];exact (((Fr.refl [] H4).push _).ai _).aE
   have p5:H5.get H4.next=some ⟨px.c P,28,false,false⟩:=by rw [jC,be,aU,if_pos rfl]
   have n5:H5.next=H4.next+1:=by rw [jC];rfl
   rw [<-jC]
   clear jC
   refine af.by (Yf (Ik.ae o5) (Na hzp) (by decide) hR) ?_
   rintro _ H6 - ⟨rfl,o6,z6⟩
   have p6:=(o6.get H4.next (by omega)).trans p5
   have F1:=(Ik.ae o5).ae o6
   have fin:aj Tryz.prog 22 #[.agg (px.c P).toArray] (H6.ai H.fz) (fun v H'=>v=.bool true/\bc (H6.ai H.fz) H'/\∀c,H'.fz c=(H6.ai H.fz).fz c):=Ra (F1.ae (((Fr.refl [] H6).ai _).aE)) (Na hzp) (by decide) hE
   cases qc:R.2 with
   | true=>
    rw [qc] at hg hr
    rw [if_pos rfl] at hr
    have hg1:(qw n).1=true/\(qw n).2 < 1152921504606846976:=by unfold OG at hg;rw [eq_comm,Bool.and_eq_true,decide_eq_true_eq] at hg;exact hg
    rw [hg1.1] at zf
    have hJ:(true==true)=true:=rfl
    have ib:IntKind.wrap .i64 ((qw n).2+1)=R.1:=hr.symm
    simp only [go_sem,qc,zf,Jj,hg1.2,QB,hJ,ib,p6]
    refine af.by fin ?_
    rintro _ H7 - ⟨rfl,o7,z7⟩
    simp only [go_sem]
    refine af.by P6 ?_
    rintro _ H8 - ⟨rfl,o8⟩
    simp only [go_sem]
   | false=>
    rw [qc] at hg hr
    rw [if_neg (by decide)] at hr
    cases hw:(qw n).1 with
    | true=>
     rw [hw] at zf
     have aZ:¬(qw n).2 < 1152921504606846976:=by unfold OG at hg;rw [hw,Bool.true_and,eq_comm,decide_eq_false_iff_not] at hg;exact hg
     have hJ:(false==false)=true:=rfl
     simp only [go_sem,qc,zf,Jj,aZ,QB,hJ,hr,p6]
     refine af.by fin ?_
     rintro _ H7 - ⟨rfl,o7,z7⟩
     simp only [go_sem]
     refine af.by P6 ?_
     rintro _ H8 - ⟨rfl,o8⟩
     simp only [go_sem]
    | false=>
     rw [hw] at zf
     have hJ:(false==false)=true:=rfl
     simp only [go_sem,qc,zf,Jj,QB,hJ,hr,p6]
     refine af.by fin ?_
     rintro _ H7 - ⟨rfl,o7,z7⟩
     simp only [go_sem]
     refine af.by P6 ?_
     rintro _ H8 - ⟨rfl,o8⟩
     simp only [go_sem]
abbrev InOk (tb:List Cz) (w:World):Prop:=Zl tb w
theorem law_calls {P:Program} {f:FuncId} {vs vs':List Value} {tb:List Cz} {W:World} (hin:InOk tb W) (hargs:VL (AS tb) vs vs')
  (h:aj P f vs.toArray (GW tb) fun v _=>v=.bool true):Calls P f vs'.toArray W fun e W'=>e=.returned (.bool true)/\Go.RowKit.Below W.heap.size W W':=am8 hin hargs h
end Go.Proofs.YtinjmfblebpnnaaGreat.Ab
