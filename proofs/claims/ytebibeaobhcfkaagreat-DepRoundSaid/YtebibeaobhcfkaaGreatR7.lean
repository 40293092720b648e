/- Lemmas for the walk, part 7. -/
import Derived.Test.YtebibeaobhcfkaaGreatR6
set_option linter.unusedVariables false
set_option linter.unusedSimpArgs false
set_option maxRecDepth 100000
set_option maxHeartbeats 16000000
namespace Go.Proofs.YtebibeaobhcfkaaGreat.Ab
open Go
theorem zAp {α:Type _} {a b:List α}:(a++b).length=a.length+b.length:=List.length_append
theorem zEq {α:Type _} {l:List α} {i:Nat} (h:i < l.length):l[i]?=some (l[i]'h):=List.getElem?_eq_getElem h
def yL (H:ad) (v:Value) (l:List Int) (b:Nat):Prop:=
 ∃c ds op,v=.slice (some ⟨b,0,none⟩) l.length c/\H.get b=some ⟨l.map iV++ds,3,op,false⟩/\(l.map iV++ds).length=c
theorem yL.ae {H H':ad} {v:Value} {l:List Int} {b:Nat} (h:yL H v l b) (hk:H'.get b=H.get b):yL H' v l b:=by
 obtain ⟨c,ds,op,h1,h2,h3⟩:=h
 exact ⟨c,ds,op,h1,by rw [hk];exact h2,h3⟩
theorem ah5 {H:ad} {x:Value} {b sl sc n:Nat} {cs new:List Value} {op:Bool} (hs:qG 1 x H=some (n,new)) (oX:new.length=n) (hB:H.get b=some ⟨cs,3,op,false⟩) (hl:cs.length=sc) (hle:sl<=sc) (hn:sl+n < 10000000000000) (h0:0 < n) (Kz:lC new=true):
  iZ Tryz.prog 22 (.slice (some ⟨b,0,none⟩) sl sc) x H=if sl+n<=sc then .ok (.slice (some ⟨b,0,none⟩) (sl+n) sc) (H.ai b ⟨cY cs sl new,3,op,false⟩) else if op=true then .ok (.slice (some ⟨H.next,0,none⟩) (sl+n) (sl+n)) (H.grow b ⟨cs.take sl++new,3,true,false⟩) else .ok (.slice (some ⟨H.next,0,none⟩) (sl+n) (sl+n)) (H.push ⟨cs.take sl++new,3,true,false⟩):=by
 obtain ⟨hu,i,z,hi,hz,h1,h2,gX,NZ⟩:=AJ iR
 have dz:qG i.size x H=some (n,new):=by rw [gX];exact hs
 simp only [iZ,hu,hi,hz,dz,hB]
 rw [gX] at h1
 rw [NZ,gX]
 rw [if_pos ⟨h1,by omega,by omega,by decide⟩]
 by_cases hc:sl+n<=sc
 ·rw [if_pos hc,if_pos hc,if_pos (by omega)]
  simp only [sT,hB]
  rw [if_pos ⟨by omega,Kz,trivial⟩]
  simp
 ·rw [if_neg hc,if_neg hc]
  rw [if_pos ⟨by omega,by omega,by omega,hle,trivial,trivial⟩]
  cases op with
  | true=>rw [if_pos rfl,if_pos rfl,if_pos ⟨trivial,Kz⟩,Nat.mul_one]
  | false=>rw [if_neg (by decide),if_neg (by decide),List.drop_zero,Nat.mul_one];rfl
theorem Uu {X:Nat->Bool} {H:ad} {v:Value} {l xs:List Int} {b b':Nat} {e':TypeId} {o':Bool} {K:Value->ad->Prop} {tg:Tag K} (h:yL H v l b) (hb:b < H.next) (hX:X b=false) (hB:H.get b'=some ⟨xs.map iV,e',o',false⟩) (hx:xs≠[]) (hl:l.length+xs.length < 10000000000000)
  (hk:∀v' H' b2,yL H' v' (l++xs) b2->(b2=b∨b2=H.next)->b2 < H'.next->Fr [b] H H'->K v' H'):fe Tryz.prog X H (iZ Tryz.prog 22 v (.slice (some ⟨b',0,none⟩) xs.length xs.length) H) K tg:=by
 obtain ⟨c,ds,op,rfl,h2,h3⟩:=h
 have oR:0 < xs.length:=List.length_pos_iff.2 hx
 have hs:qG 1 (.slice (some ⟨b',0,none⟩) xs.length xs.length) H=some (xs.length,xs.map iV):=by
  simp only [qG]
  rw [if_neg (by omega)]
  simp only [hB]
  rw [if_pos (by simp),List.drop_zero,Nat.mul_one,List.take_of_length_le (by simp)]
 have hlen:l.length<=c:=by rw [<-h3];simp
 rw [ah5 hs (by simp) h2 h3 hlen hl oR (T7 xs)]
 have iX:(l.map iV++ds).take l.length=l.map iV:=by rw [List.take_append_of_le_length (by simp),List.take_of_length_le (by simp)]
 by_cases hc:l.length+xs.length<=c
 ·rw [if_pos hc,Qa hX]
  have dK:xs.length<=ds.length:=by rw [zAp,List.length_map] at h3;omega
  refine hk _ _ b ⟨c,ds.drop xs.length,op,by rw [zAp],by rw [aH,if_pos rfl];congr 2;unfold cY;rw [iX];simp [<-List.drop_drop],?_⟩ (.inl rfl) hb ((Fr.refl _ _).ai (.inl (by simp)) _)
  rw [<-h3];simp;omega
 ·rw [if_neg hc,iX]
  cases op with
  | true=>
   rw [if_pos rfl,PO hX]
   refine hk _ _ H.next ⟨_,[],true,by rw [zAp],by rw [xO,if_pos rfl];simp,by simp⟩ (.inr rfl) (Nat.lt_succ_self _) ⟨Nat.le_succ _,fun c hc C0=>by rw [xO,if_neg (by omega),if_neg (fun e=>C0 (by simp [e]))],fun c C hC hr=>by
    rw [xO] at hC
    (repeat' split at hC)
    ·cases hC;cases hr
    ·cases hC
    ·exact hC⟩
  | false=>
   rw [if_neg (by decide),AI]
   exact hk _ _ H.next ⟨_,[],true,by rw [zAp],by rw [aZ,if_pos rfl];simp,by simp⟩ (.inr rfl) (Nat.lt_succ_self _) ((Fr.refl _ _).push _)
def Bg (ns:List aJ) (d:Nat):Nat->List Int->List Int->Option (List Int)
 | 0,todo,out=>if todo.length=0 then some out else none
 | k+1,todo,out=>if todo.length=0 then some out else
   let at_:=todo.getD (todo.length - 1) 0
   if at_ < 0∨((out.length:Nat):Int)<=at_∨0<=out.getD at_.toNat 0 then Bg ns d k (todo.take (todo.length - 1)) out
   else
    let n:=ns.getD at_.toNat {}
    Bg ns d k ((todo.take (todo.length - 1)++[n.a,n.b,n.next])++n.ak.map (·.body)) (out.set at_.toNat (d:Nat))
def Ny (ns:List aJ) (fuel:Nat):List gh->Nat->List Int->Option (List Int)
 | [],_,out=>some out
 | x::l,d,out=>match Bg ns d fuel [x.body] out with
  | some wL=>Ny ns fuel l (d+1) wL
  | none=>none
def UP (fuel:Nat) (ns:List aJ) (ds:List gh):Option (List Int):=Ny ns fuel ds 0 (List.replicate ns.length (-1))
theorem AQ {H:ad} {a:Int}:qx Tryz.prog 22 1 [(0,.int .i64 a)] H=.ok (.slice (some ⟨H.next,0,none⟩) 1 1) (H.push ⟨[.int .i64 a],3,false,false⟩):=
 AK iR (z:=[.int .i64 0]) (by kernel_rfl) (by decide) (by decide) rfl
theorem ah6 {H:ad} {a b c:Int}:qx Tryz.prog 22 3 [(0,.int .i64 a),(1,.int .i64 b),(2,.int .i64 c)] H=.ok (.slice (some ⟨H.next,0,none⟩) 3 3) (H.push ⟨[.int .i64 a,.int .i64 b,.int .i64 c],3,false,false⟩):=
 AK iR (z:=[.int .i64 0]) (by kernel_rfl) (by decide) (by decide) rfl
theorem QA {o:List Int} {i:Nat} (h:i < o.length):(o.map iV)[i]?=some (iV (o.getD i 0)):=by
 rw [List.getElem?_map,List.getD_eq_getElem?_getD,zEq h];rfl
theorem ah7 {H:ad} {aM aR aD aN:Option Addr} {nM nR kM kR kD kN:Nat} {ns:List aJ} {gN gD:List Nat} {ds:List gh} (hN:Sl ku H (.slice aN ns.length kN) ns gN) (hg:∀c∈gN,c < H.next) (hD:Sl kV H (.slice aD ds.length kD) ds gD) (Lc:∀c∈gD,c < H.next) (hl:ns.length < 100000) (hlD:ds.length < 1000000) (iv:∀n∈ns,n.ak.length < 1000000) {fuel:Nat} (yu:fuel<=100000) {out:List Int} (he:UP fuel ns ds=some out):
  aj Tryz.prog 61 #[.agg #[.slice aM nM kM,.slice aR nR kR,.slice aD ds.length kD,.slice aN ns.length kN]] H (fun v H'=>aG H H'/\out.length=ns.length/\∃b,v=.slice (some ⟨b,0,none⟩) ns.length ns.length/\H.next<=b/\b < H'.next/\H'.get b=some ⟨out.map iV,3,false,false⟩):=by
 refine aj.told ?_
 refine amX (Nat.le_refl _) fun hf=>?_
 simp only [Tryz.f61,Option.getD_some]
 have hX:∀{c:Nat},H.next<=c->H.fz c=false:=fun h=>hf.fresh h
 simp only [go_sem,AQ]
 obtain ⟨H1,cu⟩:∃H1,H1=(H.push ⟨[.slice aM nM kM,.slice aR nR kR,.slice aD ds.length kD,.slice aN ns.length kN],31,false,false⟩).push ⟨[.int .i64 (-1)],3,false,false⟩:=⟨_,rfl⟩
 have g1:H1.get (H.next+1)=some ⟨[.int .i64 (-1)],3,false,false⟩:=by rw [cu,aZ,bI,if_pos rfl]
 have p1:H1.get H.next=some ⟨[.slice aM nM kM,.slice aR nR kR,.slice aD ds.length kD,.slice aN ns.length kN],31,false,false⟩:=by rw [cu,aZ,bI,if_neg (by omega),aZ,if_pos rfl]
 have n1:H1.next=H.next+1+1:=by rw [cu];rfl
 have f1:Fr [] H H1:=by rw [cu];exact ((Fr.refl [] H).push _).push _
 rw [<-cu]
 clear cu
 refine ag.by (ahb (x:= -1) (n:=ns.length) g1 rfl hl) ?_
 rintro _ H2 - ⟨o2,rfl,n2,g2⟩
 rw [n1] at n2 g2
 obtain ⟨bo,jc⟩:∃bo,bo=H.next+1+1:=⟨_,rfl⟩
 rw [n1,<-jc]
 rw [<-jc] at n2 g2
 have p2:=(o2.get H.next (by omega)).trans p1
 have f2:Fr [] H H2:=f1.then (o2.fr [])
 clear g1 p1 n1 f1 o2
 simp only [go_sem,p2]
 refine ft 309485009821345068724258288 ds.length (fun d V H3=>V 19=iV (d:Nat)/\∃o,Ny ns fuel (ds.drop d) d o=some out/\o.length=ns.length/\Fr [] H H3/\bo < H3.next/\H3.get H.next=some ⟨[.slice aM nM kM,.slice aR nR kR,.slice aD ds.length kD,.slice aN ns.length kN],31,false,false⟩/\H3.get bo=some ⟨o.map iV,3,false,false⟩)
  ⟨by simp only [go_sem] <;> rfl,_,he,List.length_replicate ..,f2,n2,p2,g2⟩ ?_ ?_ (by rfl)
 ·rintro d V H3 hd ⟨ed,o,Du,Bl,f3,n3,p3,g3⟩
  have hx:ds[d]?=some (ds[d]'hd):=zEq hd
  have Pl:ds.drop d=(ds[d]'hd)::ds.drop (d+1):=(List.getElem_cons_drop hd).symm
  generalize (ds[d]'hd)=x at hx Pl
  rw [Pl,Ny] at Du
  cases fO:Bg ns d fuel [x.body] o with
  | none=>rw [fO] at Du;cases Du
  | some o'=>
  rw [fO] at Du
  simp only at Du
  obtain ⟨b,oo,c,B,gx,hv,hB,dI,df,cb,hE⟩:=(hD.ae (H':=H3) fun y hy=>f3.get y (Lc y hy) (by simp)).at hx
  simp only [Value.slice.injEq] at hv
  have iz:=hv.1
  obtain ⟨vA,vQ,vB,u1,u2,u3,bg,rfl,t1,t2,t3⟩:=hE
  obtain ⟨a1,k1,rfl⟩:=t1.val
  obtain ⟨a2,k2,rfl⟩:=t2.val
  obtain ⟨a3,k3,rfl⟩:=t3.val
  have ef:oo+d * 9+9<=B.cells.length:=cb
  have bg:(B.cells.drop (oo+d * 9)).take 9=[ah x.name,.slice a1 x.params.length k1,iV x.aY,iV x.body,iV x.line,iV x.az,.bool x.lX,.slice a2 x.pat.length k2,.slice a3 x.on.length k3]:=bg
  have hX3:H.fz H3.next=false:=hX (by omega)
  simp only [go_sem,ed,p3,hd,iz,hB,ef,bg,hX3,AQ]
  obtain ⟨Ha,IB⟩:∃Ha,Ha=(H3.push ⟨[ah x.name,.slice a1 x.params.length k1,iV x.aY,iV x.body,iV x.line,iV x.az,.bool x.lX,.slice a2 x.pat.length k2,.slice a3 x.on.length k3],47,false,false⟩).push ⟨[.int .i64 x.body],3,false,false⟩:=⟨_,rfl⟩
  rw [<-IB]
  have na:Ha.next=H3.next+1+1:=by rw [IB];rfl
  have fa:Fr [] H Ha:=by rw [IB];exact (f3.push _).push _
  have ga:Ha.get bo=some ⟨o.map iV,3,false,false⟩:=by rw [IB,aZ,bI,if_neg (by omega),aZ,if_neg (by omega)];exact g3
  have pa:Ha.get H.next=some ⟨[.slice aM nM kM,.slice aR nR kR,.slice aD ds.length kD,.slice aN ns.length kN],31,false,false⟩:=by rw [IB,aZ,bI,if_neg (by omega),aZ,if_neg (by omega)];exact p3
  have ta:yL Ha (.slice (some ⟨H3.next+1,0,none⟩) 1 1) [x.body] (H3.next+1):=⟨1,[],false,rfl,by rw [IB,aZ,bI,if_pos rfl];rfl,rfl⟩
  clear IB
  refine qA 154742504910672534228174272 (fun k V2 H4=>k<=fuel/\∃todo o4 bt,yL H4 (V2 6) todo bt/\bo < bt/\bt < H4.next/\todo.length+k * 1000003<=1+fuel * 1000003/\Bg ns d k todo o4=some o'/\o4.length=ns.length/\Fr [] H H4/\H4.get H.next=some ⟨[.slice aM nM kM,.slice aR nR kR,.slice aD ds.length kD,.slice aN ns.length kN],31,false,false⟩/\H4.get bo=some ⟨o4.map iV,3,false,false⟩) (n:=fuel)
   ⟨Nat.le_refl _,[x.body],o,H3.next+1,by simp only [go_sem];exact ta,by omega,by omega,Nat.le_refl _,fO,Bl,fa,pa,ga⟩ ?_ (by rfl)
  rintro k V2 H4 ⟨ZD,todo,o4,bt,ht,ZE,WU,eF,rn,GU,f4,p4,g4⟩
  obtain ⟨c4,ds4,op4,sC,qn,tK⟩:=ht
  by_cases h0:todo.length=0
  ·have hoe:Bg ns d k todo o4=some o4:=by
    cases k with
    | zero=>rw [Bg,if_pos h0]
    | succ k=>rw [Bg,if_pos h0]
   rw [hoe] at rn
   cases rn
   have Dt:¬(0:Int) < ((0:Nat):Int):=by omega
   have hwd:IntKind.wrap .i64 (((d:Nat):Int)+1)=((d+1:Nat):Int):=cG hd (by omega)
   simp only [go_sem,sC,h0,Dt,ed,hwd]
   exact ⟨_,Du,GU,f4,by omega,p4,g4⟩
  ·cases k with
   | zero=>rw [Bg,if_neg h0] at rn;cases rn
   | succ k=>
   rw [Bg,if_neg h0] at rn
   obtain ⟨t,pK⟩:∃t,todo.length=t+1:=⟨todo.length - 1,by omega⟩
   have oR:0 < ((todo.length:Nat):Int):=by omega
   have fP:IntKind.wrap .i64 (((todo.length:Nat):Int) - 1)=((t:Nat):Int):=by rw [FM (by omega) (by omega)];omega
   have aeQ:t < todo.length:=by omega
   have hce:(todo.map iV++ds4)[t]?=some (iV (todo.getD t 0)):=by rw [List.getElem?_append_left (by simp;omega)];exact QA aeQ
   rw [show todo.length - 1=t by omega] at rn
   obtain ⟨at_,eB⟩:∃at_,at_=todo.getD t 0:=⟨_,rfl⟩
   rw [<-eB] at hce rn
   have eL:iF Tryz.prog 22=some (3,1):=by kernel_rfl
   have htc:t<=c4:=by rw [<-tK];simp;omega
   simp only [go_sem,Option.map_some,Option.map_none,sC,oR,fP,aeQ,qn,hce,aaO (b:=bt) (o:=0) (n:=todo.length) (c:=c4) eL htc]
   have fH:∀{H5},H5.get bt=H4.get bt->yL H5 (.slice (some ⟨bt,0,none⟩) t c4) (todo.take t) bt:=fun {H5} h=>⟨c4,(todo.drop t).map iV++ds4,op4,by rw [List.length_take,Nat.min_eq_left (by omega)],by rw [h,qn,<-List.append_assoc,<-List.map_append,List.take_append_drop],by rw [<-List.append_assoc,<-List.map_append,List.take_append_drop];exact tK⟩
   have arx:(todo.take t).length=t:=by rw [List.length_take,Nat.min_eq_left (by omega)]
   by_cases h1:at_ < 0
   ·rw [if_pos (.inl h1)] at rn
    simp only [go_sem,h1]
    refine ⟨k,by omega,by omega,todo.take t,o4,bt,?_,ZE,WU,by omega,rn,GU,f4,p4,g4⟩
    exact fH rfl
   by_cases h2:((ns.length:Nat):Int)<=at_
   ·rw [if_pos (.inr (.inl (by rw [GU];exact h2)))] at rn
    simp only [go_sem,h1,h2]
    refine ⟨k,by omega,by omega,todo.take t,o4,bt,?_,ZE,WU,by omega,rn,GU,f4,p4,g4⟩
    exact fH rfl
   obtain ⟨a,rfl⟩:=Int.eq_ofNat_of_zero_le (by omega:0<=at_)
   have ha:a < ns.length:=by omega
   have ma:(0:Int)<=((a:Nat):Int):=by omega
   have xJ:=QA (o:=o4) (i:=a) (by omega)
   by_cases h3:0<=o4.getD a 0
   ·rw [if_pos (.inr (.inr h3))] at rn
    simp only [go_sem,h1,h2,ha,g4,xJ,h3]
    refine ⟨k,by omega,by omega,todo.take t,o4,bt,?_,ZE,WU,by omega,rn,GU,f4,p4,rfl⟩
    exact fH rfl
   rw [if_neg (by rw [GU];simp only [Int.toNat_natCast];exact fun h=>h.elim h1 fun h=>h.elim h2 h3)] at rn
   simp only [Int.toNat_natCast] at rn
   have ZF:ns[a]?=some (ns[a]'ha):=zEq ha
   have iH:ns.getD a {}=ns[a]'ha:=by rw [List.getD_eq_getElem?_getD,ZF];rfl
   rw [iH] at rn
   have di:=iv _ (List.getElem_mem ha)
   generalize (ns[a]'ha)=y at ZF rn di
   obtain ⟨dW,oy,cy,By,gy,wy,oJ,Nz,wu,Er,Dv⟩:=(hN.ae (H':=H4) fun c hc=>f4.get c (hg c hc) (by simp)).at ZF
   simp only [Value.slice.injEq] at wy
   have oI:=wy.1
   obtain ⟨wA,wQ,wB,w1,w2,w3,lp,rfl,q1,q2,q3⟩:=Dv
   obtain ⟨b1,j1,rfl⟩:=q1.val
   obtain ⟨b2,j2,rfl⟩:=q2.val
   obtain ⟨b3,j3,rfl⟩:=q3.val
   have rB:oy+a * 20+20<=By.cells.length:=Er
   have lp:(By.cells.drop (oy+a * 20)).take 20=aU y (.slice b1 y.args.length j1) (.slice b2 y.pat.length j2) (.slice b3 y.ak.length j3):=lp
   have hXo:H.fz bo=false:=hX (by omega)
   have Br:H.fz H4.next=false:=hX (by omega)
   have NZ:dW < bo:=by have:=hg dW Nz;omega
   have iu:¬dW=bo:=by omega
   have Bu:¬H.next=bo:=by omega
   have C5:a < (o4.map iV).length:=by rw [List.length_map];omega
   have hlb:a+1<=(o4.map iV).length:=by rw [List.length_map];omega
   have eU:∀A B C:cO,((H4.ai bo A).push B).ai H4.next C=(H4.ai bo A).push C:=fun A _ _=>aaM (H:=H4.ai bo A)
   simp only [go_sem,eU,h1,h2,ha,g4,xJ,h3,hXo,Br,Bu,p4,oI,oJ,rB,lp,iu,C5,hlb,ah6]
   obtain ⟨Hb,Dw⟩:∃Hb,Hb=((H4.ai bo ⟨(o4.map iV).set a (iV (d:Nat)),3,false,false⟩).push ⟨aU y (.slice b1 y.args.length j1) (.slice b2 y.pat.length j2) (.slice b3 y.ak.length j3),59,false,false⟩).push ⟨[.int .i64 y.a,.int .i64 y.b,.int .i64 y.next],3,false,false⟩:=⟨_,rfl⟩
   rw [<-Dw]
   have nb:Hb.next=H4.next+1+1:=by rw [Dw];rfl
   have fb:Fr [] H Hb:=by rw [Dw];exact ((f4.ai (.inr (by omega)) _).push _).push _
   have gb:Hb.get bo=some ⟨(o4.set a (d:Nat)).map iV,3,false,false⟩:=by rw [Dw,aZ,bI,uT,if_neg (by omega),aZ,uT,if_neg (by omega),aH,if_pos rfl,List.map_set]
   have pb:Hb.get H.next=some ⟨[.slice aM nM kM,.slice aR nR kR,.slice aD ds.length kD,.slice aN ns.length kN],31,false,false⟩:=by rw [Dw,aZ,bI,uT,if_neg (by omega),aZ,uT,if_neg (by omega),aH,if_neg Bu];exact p4
   have yb:Hb.get H4.next=some ⟨aU y (.slice b1 y.args.length j1) (.slice b2 y.pat.length j2) (.slice b3 y.ak.length j3),59,false,false⟩:=by rw [Dw,aZ,bI,uT,if_neg (by omega),aZ,uT,if_pos rfl]
   have lb:Hb.get (H4.next+1)=some ⟨[.int .i64 y.a,.int .i64 y.b,.int .i64 y.next],3,false,false⟩:=by rw [Dw,aZ,bI,uT,if_pos rfl]
   have tb:Hb.get bt=H4.get bt:=by rw [Dw,aZ,bI,uT,if_neg (by omega),aZ,uT,if_neg (by omega),aH,if_neg (by omega)]
   clear Dw
   refine Uu (xs:=[y.a,y.b,y.next]) (fH tb) (by omega) (hX (by omega)) lb (by simp) (by rw [arx];have:=Nat.mul_le_mul yu (Nat.le_refl 1000003);simp only [List.length_cons,List.length_nil];omega) ?_
   intro v5 H5 b5 Ys fj WV f5
   have gk:∀c,c < Hb.next->c≠bt->H5.get c=Hb.get c:=fun c hc hn=>f5.get c hc (by simp [hn])
   have n5:=f5.nx
   have y5:=(gk H4.next (by omega) (by omega)).trans yb
   have p5:=(gk H.next (by omega) (by omega)).trans pb
   have g5:=(gk bo (by omega) (by omega)).trans gb
   have ff5:Fr [] H H5:=by
    refine ⟨Nat.le_trans fb.nx f5.nx,fun c hc _=>(gk c (by omega) (by omega)).trans (fb.get c hc (by simp)),fun c B hB hr=>fb.ro c B (f5.ro c B hB hr) hr⟩
   simp only [go_sem,y5]
   have ue:todo.length+(k+1) * 1000003<=1+100000 * 1000003:=Nat.le_trans eF (by have:=Nat.mul_le_mul yu (Nat.le_refl 1000003);omega)
   refine ft 154591389183220705715553344 y.ak.length (fun j V6 H6=>V6 77=iV (j:Nat)/\∃b6,yL H6 (V6 6) ((todo.take t++[y.a,y.b,y.next])++(y.ak.take j).map (·.body)) b6/\bo < b6/\b6 < H6.next/\H4.next < H6.next/\b6≠H4.next/\Fr [] H H6/\H6.get H.next=some ⟨[.slice aM nM kM,.slice aR nR kR,.slice aD ds.length kD,.slice aN ns.length kN],31,false,false⟩/\H6.get bo=some ⟨(o4.set a (d:Nat)).map iV,3,false,false⟩)
    ⟨by simp only [go_sem] <;> rfl,b5,by simp only [go_sem,List.take_zero,List.map_nil,List.append_nil];exact Ys,by omega,WV,by omega,by omega,ff5,p5,g5⟩ ?_ ?_ (by rfl)
   ·rintro j V6 H6 hj ⟨ej,b6,KT,qt,WW,n6,ary,f6,p6,g6⟩
    have hz:y.ak[j]?=some (y.ak[j]'hj):=zEq hj
    have iX:y.ak.take (j+1)=y.ak.take j++[y.ak[j]'hj]:=by rw [List.take_add_one,hz];rfl
    generalize (y.ak[j]'hj)=z at hz iX
    obtain ⟨bz,oz,cz,Bz,gz,Fs,Ft,aeR,Ts,NA,Pm⟩:=(q3.ae (H':=H6) fun c hc=>(f6.get c (hg c (wu c (by simp [hc]))) (by simp)).trans (f4.get c (hg c (wu c (by simp [hc]))) (by simp)).symm).at hz
    simp only [Value.slice.injEq] at Fs
    have Fq:=Fs.1
    obtain ⟨vS,vW,x1,x2,ye,rfl,r1,r2⟩:=Pm
    obtain ⟨aS,kS,rfl⟩:=r1.val
    obtain ⟨aW,kW,rfl⟩:=r2.val
    have JQ:oz+j * 7+7<=Bz.cells.length:=NA
    have ye:(Bz.cells.drop (oz+j * 7)).take 7=cJ z (.slice aS z.aY.length kS) (.slice aW z.names.length kW):=ye
    have jh:IntKind.wrap .i64 (((j:Nat):Int)+1)=((j+1:Nat):Int):=cG hj (by omega)
    have tH:H.fz H6.next=false:=hX (by have:=f6.nx;omega)
    simp only [go_sem,ej,hj,Fq,Ft,JQ,ye,tH,AQ]
    obtain ⟨H7,eW⟩:∃H7,H7=(H6.push ⟨cJ z (.slice aS z.aY.length kS) (.slice aW z.names.length kW),109,false,false⟩).push ⟨[.int .i64 z.body],3,false,false⟩:=⟨_,rfl⟩
    rw [<-eW]
    have n7:H7.next=H6.next+1+1:=by rw [eW];rfl
    have k7:∀c,c < H6.next->H7.get c=H6.get c:=fun c hc=>by rw [eW,aZ,bI,if_neg (by omega),aZ,if_neg (by omega)]
    have l7:H7.get (H6.next+1)=some ⟨[.int .i64 z.body],3,false,false⟩:=by rw [eW,aZ,bI,if_pos rfl]
    have f7:Fr [] H H7:=by rw [eW];exact (f6.push _).push _
    clear eW
    refine Uu (xs:=[z.body]) (KT.ae (k7 b6 WW)) (by omega) (hX (by omega)) l7 (by simp) (by
     simp only [zAp,List.length_map,List.length_take,List.length_cons,List.length_nil];omega) ?_
    intro v8 H8 b8 ht8 EZ arz f8
    have ZG:∀c,c < H7.next->c≠b6->H8.get c=H7.get c:=fun c hc hn=>f8.get c hc (by simp [hn])
    have n8:=f8.nx
    simp only [go_sem,ej,jh]
    refine ⟨b8,?_,by omega,arz,by omega,by omega,⟨by omega,fun c hc _=>(ZG c (by omega) (by omega)).trans (f7.get c hc (by simp)),fun c B hB hr=>f7.ro c B (f8.ro c B hB hr) hr⟩,(ZG H.next (by omega) (by omega)).trans ((k7 H.next (by omega)).trans p6),(ZG bo (by omega) (by omega)).trans ((k7 bo (by omega)).trans g6)⟩
    rw [iX,List.map_append,<-List.append_assoc]
    exact ht8
   ·rintro V6 H6 ⟨ej,b6,KT,qt,WW,n6,ary,f6,p6,g6⟩
    rw [List.take_length] at KT
    have hjj:¬y.ak.length < y.ak.length:=by omega
    simp only [go_sem,ej,hjj]
    refine ⟨k,by omega,by omega,_,_,b6,KT,qt,WW,?_,rn,by rw [List.length_set];exact GU,f6,p6,g6⟩
    simp only [zAp,List.length_map,List.length_cons,List.length_nil]
    omega
 ·rintro V H3 ⟨ed,o,Du,Bl,f3,n3,p3,g3⟩
  rw [List.drop_length,Ny] at Du
  cases Du
  simp only [go_sem,ed]
  exact ⟨(f3.af _).au,Bl,bo,rfl,by omega,n3,g3⟩
theorem vg {cs l:List Value} {k n i:Nat} (h:(cs.drop k).take n=l) (hi:i < n):cs[k+i]?=l[i]?:=by
 rw [<-h,List.getElem?_take,if_pos hi,List.getElem?_drop]
structure wz where
 aM:Option Addr
 aR:Option Addr
 aD:Option Addr
 aN:Option Addr
 nR:Nat
 kM:Nat
 kR:Nat
 kD:Nat
 kN:Nat
 gM:List Nat
 gD:List Nat
 gN:List Nat
abbrev wz.c (x:wz) (P:cC):List Value:=[.slice x.aM P.msgs.length x.kM,.slice x.aR x.nR x.kR,.slice x.aD P.defs.length x.kD,.slice x.aN P.nodes.length x.kN]
structure qu (H:ad) (P:cC) (x:wz):Prop where
 hM:Sl qF H (.slice x.aM P.msgs.length x.kM) P.msgs x.gM
 hD:Sl kV H (.slice x.aD P.defs.length x.kD) P.defs x.gD
 hN:Sl ku H (.slice x.aN P.nodes.length x.kN) P.nodes x.gN
 lt:∀c∈x.gM++(x.gD++x.gN),c < H.next
structure tP (P:cC):Prop where
 m:P.msgs.length < 1000000
 d:P.defs.length < 1000000
 n:P.nodes.length < 100000
 nd:∀n∈P.nodes,RM n
 mt:∀x∈P.msgs,x.types.length < 1000000
 dp:∀x∈P.defs,x.params.length < 1000000
theorem qu.ae {H H':ad} {P:cC} {x:wz} (h:qu H P x) (o:aG H H'):qu H' P x:=
 ⟨h.hM.ae fun c hc=>o.get c (h.lt c (by simp [hc])),h.hD.ae fun c hc=>o.get c (h.lt c (by simp [hc])),h.hN.ae fun c hc=>o.get c (h.lt c (by simp [hc])),fun c hc=>Nat.lt_of_lt_of_le (h.lt c hc) o.nx⟩
theorem qu.fr {H H':ad} {P:cC} {x:wz} {M:List Nat} (h:qu H P x) (o:Fr M H H') (hM:∀c∈M,c∉x.gM++(x.gD++x.gN)):qu H' P x:=
 have k:∀c∈x.gM++(x.gD++x.gN),H'.get c=H.get c:=fun c hc=>o.get c (h.lt c hc) fun e=>hM c e hc
 ⟨h.hM.ae fun c hc=>k c (by simp [hc]),h.hD.ae fun c hc=>k c (by simp [hc]),h.hN.ae fun c hc=>k c (by simp [hc]),fun c hc=>Nat.lt_of_lt_of_le (h.lt c hc) o.nx⟩
def Kn (k:Int):Bool:=decide (k=3)||(decide (k=4)||decide (k=5))
theorem ach {H:ad} {t:Ty} {v:Value} {a:Option Addr} {n c:Nat} (hv:v=.slice a n c):aj Tryz.prog 59 #[.agg (lx t v).toArray] H (fun r H'=>r=.bool (Kn t.kind)/\aG H H'):=by
 refine aj.told ?_
 refine amT (Nat.le_refl _) fun hf=>?_
 simp only [Tryz.f59,Option.getD_some]
 subst hv
 have o1:aG H ((H.push ⟨lx t (.slice a n c),102,false,false⟩).af H.fz):=(((Fr.refl [] H).push _).af _).au
 unfold Kn
 by_cases h1:t.kind=3
 ·simp only [go_sem,h1]
  exact o1
 ·by_cases h2:t.kind=4
  ·simp only [go_sem,h1,h2]
   exact o1
  ·simp only [go_sem,h1,h2]
   exact o1
def FO (sl:List Int):List Ty->Nat->Nat->Nat
 | [],_,s=>s
 | t::l,i,s=>FO sl l (i+1) (if i < sl.length/\Kn t.kind=true then s ||| pA (sl.getD i 0) else s)
def FP (ms:List x8) (b:fu):Nat:=if b.tag < 0∨((ms.length:Nat):Int)<=b.tag then 0 else FO b.aY ((ms.map (·.types)).getD b.tag.toNat []) 0 (pA b.rY)
theorem Z9 (sl:List Int):∀(l:List Ty) (i s:Nat),s < 18446744073709551616->FO sl l i s < 18446744073709551616
 | [],_,s,h=>h
 | t::l,i,s,h=>Z9 sl l _ _ (by
  split
  ·exact Nat.or_lt_two_pow (n:=64) h (sS _)
  ·exact h)
theorem aaa (ms:List x8) (b:fu):FP ms b < 18446744073709551616:=by
 unfold FP
 split
 ·decide
 ·exact Z9 _ _ _ _ (sS _)
theorem agp {H:ad} {P:cC} {px:wz} (hp:qu H P px) (hz:tP P) {y:fu} {vS vW:Value} {f1:List Nat} (hS:Sl .int H vS y.aY f1) (R6:∀c∈f1,c < H.next) (ea:y.aY.length < 1000000) {aW:Option Addr} {nW kW:Nat} (hW:vW=.slice aW nW kW):
  aj Tryz.prog 62 #[.agg (px.c P).toArray,.agg (cJ y vS vW).toArray] H (fun r H'=>r=uV (FP P.msgs y)/\aG H H'):=by
 refine aj.told ?_
 refine amZ (Nat.le_refl _) fun hf=>?_
 simp only [Tryz.f62,Option.getD_some]
 subst hW
 obtain ⟨aS,kS,rfl⟩:=hS.val
 obtain ⟨H1,cu⟩:∃H1,H1=(H.push ⟨px.c P,31,false,false⟩).push ⟨cJ y (.slice aS y.aY.length kS) (.slice aW nW kW),109,false,false⟩:=⟨_,rfl⟩
 have o1:aG H H1:=by rw [cu];exact ((Fr.refl [] H).push _ |>.push _).au
 unfold FP
 by_cases h1:y.tag < 0
 ·rw [if_pos (.inl h1)]
  simp only [go_sem,h1]
  exact ⟨rfl,(((Fr.refl [] H).push _ |>.push _).af _).au⟩
 by_cases h2:((P.msgs.length:Nat):Int)<=y.tag
 ·rw [if_pos (.inr h2)]
  simp only [go_sem,h1,h2]
  exact ⟨rfl,(((Fr.refl [] H).push _ |>.push _).af _).au⟩
 rw [if_neg (by simp [h1,h2])]
 obtain ⟨R,hR⟩:∃R,R=FO y.aY ((P.msgs.map (·.types)).getD y.tag.toNat []) 0 (pA y.rY):=⟨_,rfl⟩
 rw [<-hR]
 obtain ⟨i,hi⟩:=Int.eq_ofNat_of_zero_le (by omega:0<=y.tag)
 have bX:i < P.msgs.length:=by omega
 have hy0:¬((i:Nat):Int) < 0:=by omega
 have hy2:¬((P.msgs.length:Nat):Int)<=((i:Nat):Int):=by omega
 simp only [go_sem,hi,hy0,hy2]
 have p1:H1.get H.next=some ⟨px.c P,31,false,false⟩:=by rw [cu,aZ,bI,if_neg (by omega),aZ,if_pos rfl]
 have y1:H1.get (H.next+1)=some ⟨cJ y (.slice aS y.aY.length kS) (.slice aW nW kW),109,false,false⟩:=by rw [cu,aZ,bI,if_pos rfl]
 have n1:H1.next=H.next+1+1:=by rw [cu];rfl
 rw [<-cu]
 clear cu
 refine ag.by D5 ?_
 rintro _ _ - ⟨rfl,rfl⟩
 have hx:P.msgs[i]?=some (P.msgs[i]'bX):=zEq bX
 have iH:(P.msgs.map (·.types)).getD i []=(P.msgs[i]'bX).types:=by rw [List.getD_eq_getElem?_getD,List.getElem?_map,hx];rfl
 rw [hi,Int.toNat_natCast,iH] at hR
 have eF:=hz.mt _ (List.getElem_mem bX)
 generalize (P.msgs[i]'bX)=x at hx eF hR
 obtain ⟨b,o,c,B,gx,hv,hB,dI,df,cb,hE⟩:=(hp.ae o1).hM.at hx
 simp only [Value.slice.injEq] at hv
 have iz:=hv.1
 obtain ⟨vT,bg,hT⟩:=hE
 obtain ⟨aT,kT,rfl⟩:=hT.val
 have ef:o+i * 4+4<=B.cells.length:=cb
 have dN:B.cells[o+i * 4+1]?=some (.slice aT x.types.length kT):=vg bg (by decide)
 have j9:(0:Int)<=((i:Nat):Int):=by omega
 simp only [go_sem,p1,y1,hi,j9,bX,iz,hB,dN]
 refine ft 9007198180999392 x.types.length (fun j V H2=>V 30=iV (j:Nat)/\∃s,V 5=uV s/\s < 18446744073709551616/\aG H1 H2/\R=FO y.aY (x.types.drop j) j s)
  ⟨by simp only [go_sem] <;> rfl,_,by simp only [go_sem] <;> rfl,sS _,aG.refl _,hR⟩ ?_ ?_ (by rfl)
 ·rintro j V H2 hj ⟨ej,s,es,hs,o2,lz⟩
  have hy:x.types[j]?=some (x.types[j]'hj):=zEq hj
  have pL:x.types.drop j=(x.types[j]'hj)::x.types.drop (j+1):=(List.getElem_cons_drop hj).symm
  generalize (x.types[j]'hj)=t at hy pL
  rw [pL,FO] at lz
  have n2:=o2.nx
  obtain ⟨bt,ot,ct,Bt,gt,uL,BT,RN,uG,GV,IC⟩:=(hT.ae (H':=H2) fun c hc=>by
   have:=hp.lt c (by simp [df c hc])
   exact (o2.get c (by omega))).at hy
  simp only [Value.slice.injEq] at uL
  have rk:=uL.1
  obtain ⟨vp,td,hQ⟩:=IC
  obtain ⟨ap,kp,rfl⟩:=hQ.val
  have D6:ot+j * 5+5<=Bt.cells.length:=GV
  have td:(Bt.cells.drop (ot+j * 5)).take 5=lx t (.slice ap t.pat.length kp):=td
  have jh:IntKind.wrap .i64 (((j:Nat):Int)+1)=((j+1:Nat):Int):=cG hj (by omega)
  have dw:H.fz H2.next=false:=hf.fresh (by omega)
  have y2:=(o2.get (H.next+1) (by omega)).trans y1
  have ny:¬H.next+1=H2.next:=by omega
  by_cases Lu:j < y.aY.length
  ·simp only [go_sem,ej,hj,rk,BT,D6,td,dw,y2,ny,Lu]
   refine ag.by (ach (a:=ap) (n:=t.pat.length) (c:=kp) rfl) ?_
   rintro _ H3 - ⟨rfl,o3⟩
   have pO:aG H1 H3:=(o2.trans (aG.push _ _)).trans o3
   have n3:=pO.nx
   have y3:=(pO.get (H.next+1) (by omega)).trans y1
   by_cases hb:Kn t.kind=true
   ·rw [if_pos ⟨Lu,hb⟩] at lz
    obtain ⟨b4,o4,c4,B4,sC,qn,_,tK⟩:=(hS.ae (H':=H3) fun c hc=>(pO.get c (by have:=R6 c hc;omega)).trans (o1.get c (R6 c hc))).j0 Lu
    simp only [Value.slice.injEq] at sC
    have Pn:=sC.1
    simp only [go_sem,hb,y3,Lu,Pn,qn,tK]
    refine ag.by D5 ?_
    rintro _ _ - ⟨rfl,rfl⟩
    simp only [go_sem,es,ej,jh,CP hs (sS _)]
    exact ⟨_,rfl,Nat.or_lt_two_pow (n:=64) hs (sS _),pO,lz⟩
   ·rw [if_neg (by simp [hb])] at lz
    simp only [Bool.not_eq_true] at hb
    simp only [go_sem,hb,ej,jh]
    exact ⟨s,es,hs,pO,lz⟩
  ·rw [if_neg (by simp [Lu])] at lz
   simp only [go_sem,ej,hj,rk,BT,D6,td,dw,y2,ny,Lu,jh]
   exact ⟨s,es,hs,o2.trans (aG.push _ _),lz⟩
 ·rintro V H2 ⟨ej,s,es,hs,o2,lz⟩
  rw [List.drop_length,FO] at lz
  simp only [go_sem,ej,es]
  exact ⟨by rw [lz],((o1.trans o2).fr [] |>.af _).au⟩
def F1:List tn->Nat->Nat->Nat
 | [],_,s=>s
 | f::l,i,s=>F1 l (i+1) (if Kn f.ty.kind=true then s ||| pA (i:Nat) else s)
def Gg (ms:List x8) (own:List Int) (d:Int):List aJ->Nat->Nat->Nat
 | [],_,s=>s
 | n::l,i,s=>Gg ms own d l (i+1) (if own.getD i 0=d then n.ak.foldl (fun s b=>s ||| FP ms b) (if n.kind=1 then s ||| pA n.x else s) else s)
def NB (s i:Nat):Bool:=decide (s / 2 ^ i % 2=1)
def QB (fuel:Nat) (P:cC) (d:Int):Option (List Bool):=
 if d < 0∨((P.defs.length:Nat):Int)<=d then some [] else
  match P.defs[d.toNat]? with
  | none=>none
  | some x=>if x.aY < 0∨40 < x.aY then some [] else
   match UP fuel P.nodes P.defs with
   | none=>none
   | some own=>some ((List.range x.aY.toNat).map (NB (Gg P.msgs own d P.nodes 0 (F1 x.params 0 0))))
theorem WX {a b:Nat} (ha:a < 18446744073709551616) (hb:b < 18446744073709551616):a ||| b < 18446744073709551616:=Nat.or_lt_two_pow (n:=64) ha hb
theorem arA {H:ad} {b:Nat} {all:List Bool} {e:TypeId} {o r:Bool} (hB:H.get b=some ⟨all.map Value.bool,e,o,r⟩):Sl .bool H (.slice (some ⟨b,0,none⟩) all.length all.length) all (if all=[] then [] else [b]):=by
 have key:∀all:List Bool,dT .bool H (all.map Value.bool) all []:=by
  intro all
  induction all with
  | nil=>rfl
  | cons x l ih=>exact ⟨[.bool x],l.map Value.bool,[],[],rfl,rfl,⟨rfl,rfl⟩,ih⟩
 by_cases he:all=[]
 ·subst he;exact .inr (.inl ⟨_,_,rfl,rfl,if_pos rfl⟩)
 ·rw [if_neg he];exact .inr (.inr ⟨b,0,all.length,_,[],rfl,he,Nat.le_refl _,rfl,hB,key all⟩)
theorem ah8 {H:ad} {P:cC} {px:wz} (hp:qu H P px) (hz:tP P) {fuel:Nat} (yu:fuel<=100000) {d:Int} {bs:List Bool} (he:QB fuel P d=some bs):
  aj Tryz.prog 40 #[.agg (px.c P).toArray,iV d] H (fun v H'=>aG H H'/\∃f',Sl .bool H' v bs f'/\∀c∈f',H.next<=c/\c < H'.next):=by
 refine aj.told ?_
 refine ni (l:=[_,_]) _ mixed Tryz.func40 amy [.tmp 4] (show 2<=122 by decide) rfl fun hf=>?_
 simp only [Tryz.f40,Option.getD_some]
 have hX:∀{c:Nat},H.next<=c->H.fz c=false:=fun h=>hf.fresh h
 unfold QB at he
 by_cases h1:d < 0
 ·rw [if_pos (.inl h1)] at he
  cases he
  simp only [go_sem,h1]
  exact ⟨(((Fr.refl [] H).push _).af _).au,[],.inl ⟨rfl,rfl,rfl⟩,by simp⟩
 by_cases h2:((P.defs.length:Nat):Int)<=d
 ·rw [if_pos (.inr h2)] at he
  cases he
  simp only [go_sem,h1,h2]
  exact ⟨(((Fr.refl [] H).push _).af _).au,[],.inl ⟨rfl,rfl,rfl⟩,by simp⟩
 rw [if_neg (by simp [h1,h2])] at he
 obtain ⟨i,rfl⟩:=Int.eq_ofNat_of_zero_le (by omega:0<=d)
 have j9:(0:Int)<=((i:Nat):Int):=by omega
 have bX:i < P.defs.length:=by omega
 have hx:P.defs[i]?=some (P.defs[i]'bX):=zEq bX
 rw [Int.toNat_natCast,hx] at he
 have dZ:=hz.dp _ (List.getElem_mem bX)
 generalize (P.defs[i]'bX)=x at hx he dZ
 simp only at he
 obtain ⟨H1,cu⟩:∃H1,H1=(H.push ⟨px.c P,31,false,false⟩).af H.fz:=⟨_,rfl⟩
 have o1:aG H H1:=by rw [cu];exact ((Fr.refl [] H).push _ |>.af _).au
 have p1:H1.get H.next=some ⟨px.c P,31,false,false⟩:=by rw [cu,bG,aZ,if_pos rfl]
 have n1:H1.next=H.next+1:=by rw [cu];rfl
 obtain ⟨b,o,c,B,gx,hv,hB,dI,df,cb,hE⟩:=(hp.ae o1).hD.at hx
 simp only [Value.slice.injEq] at hv
 have iz:=hv.1
 obtain ⟨vA,vQ,vB,u1,u2,u3,bg,rfl,t1,t2,t3⟩:=hE
 obtain ⟨a1,k1,rfl⟩:=t1.val
 have ef:o+i * 9+9<=B.cells.length:=cb
 have uY:B.cells[o+i * 9+2]?=some (iV x.aY):=vg bg (by decide)
 have Mj:B.cells[o+i * 9+1]?=some (.slice a1 x.params.length k1):=vg bg (by decide)
 have lO:¬b=H.next:=by have:=hp.lt b (by simp [dI]);omega
 have ZH:H.get b=some B:=by rw [<-hB];exact (o1.get b (hp.lt b (by simp [dI]))).symm
 by_cases h3:x.aY < 0
 ·rw [if_pos (.inl h3)] at he
  cases he
  simp only [go_sem,h1,h2,bX,iz,lO,ZH,uY,h3]
  exact ⟨(((Fr.refl [] H).push _).af _).au,[],.inl ⟨rfl,rfl,rfl⟩,by simp⟩
 by_cases h4:40 < x.aY
 ·rw [if_pos (.inr h4)] at he
  cases he
  simp only [go_sem,h1,h2,bX,iz,lO,ZH,uY,h3,h4]
  exact ⟨(((Fr.refl [] H).push _).af _).au,[],.inl ⟨rfl,rfl,rfl⟩,by simp⟩
 rw [if_neg (by simp [h3,h4])] at he
 simp only [go_sem,h1,h2,bX,iz,lO,ZH,uY,Mj,h3,h4]
 rw [<-cu]
 clear cu
 cases dr:UP fuel P.nodes P.defs with
 | none=>rw [dr] at he;cases he
 | some own=>
 rw [dr] at he
 simp only [Option.some.injEq] at he
 have t1':∀{H2},aG H1 H2->Sl oV H2 (.slice a1 x.params.length k1) x.params u1:=fun o2=>t1.ae fun c hc=>o2.get c (by have:=hp.lt c (by simp [df c (by simp [hc])]);omega)
 have Dq:=hp.ae o1
 refine kC 4611123068473966816 x.params.length (fun j V H2=>V 49=iV (j:Nat)/\∃s,V 5=uV s/\s < 18446744073709551616/\aG H1 H2/\F1 x.params 0 0=F1 (x.params.drop j) j s)
  ⟨by simp only [go_sem] <;> rfl,0,by simp only [go_sem] <;> rfl,by decide,aG.refl _,rfl⟩ ?_ ?_ (by rfl)
 ·rintro j V H2 hj ⟨ej,s,es,hs,o2,hR⟩
  have hy:x.params[j]?=some (x.params[j]'hj):=zEq hj
  have pL:x.params.drop j=(x.params[j]'hj)::x.params.drop (j+1):=(List.getElem_cons_drop hj).symm
  generalize (x.params[j]'hj)=t at hy pL
  rw [pL,F1] at hR
  have n2:=o2.nx
  obtain ⟨bt,ot,ct,Bt,gt,uL,BT,RN,uG,GV,IC⟩:=(t1' o2).at hy
  simp only [Value.slice.injEq] at uL
  have rk:=uL.1
  obtain ⟨vp,td,hQ⟩:=IC
  obtain ⟨ap,kp,rfl⟩:=hQ.val
  have D6:ot+j * 6+6<=Bt.cells.length:=GV
  have td:(Bt.cells.drop (ot+j * 6)).take 6=[ah t.name,iV t.ty.kind,iV t.ty.cap,iV t.ty.rc,ah t.ty.name,.slice ap t.ty.pat.length kp]:=td
  have jh:IntKind.wrap .i64 (((j:Nat):Int)+1)=((j+1:Nat):Int):=cG hj (by omega)
  have dw:H.fz H2.next=false:=hX (by omega)
  have hXt:(H2.af H.fz).next=H2.next:=rfl
  have WY:(H2.af H.fz).get bt=some Bt:=BT
  simp only [go_sem,ej,hj,rk,BT,WY,D6,td,dw]
  refine ag.by (ach (t:=t.ty) (a:=ap) (n:=t.ty.pat.length) (c:=kp) rfl) ?_
  rintro _ H3 - ⟨rfl,o3⟩
  have pO:aG H1 H3:=(((((o2.fr []).af H.fz).push ⟨[ah t.name,iV t.ty.kind,iV t.ty.cap,iV t.ty.rc,ah t.ty.name,.slice ap t.ty.pat.length kp],104,false,false⟩).af H.fz).then (o3.fr [])).au
  by_cases hb:Kn t.ty.kind=true
  ·rw [if_pos hb] at hR
   simp only [go_sem,hb]
   refine ag.by D5 ?_
   rintro _ _ - ⟨rfl,rfl⟩
   simp only [go_sem,es,ej,jh,CP hs (sS _)]
   exact ⟨_,rfl,WX hs (sS _),((pO.fr []).af _ |>.af _ |>.af _).au,hR⟩
  ·rw [if_neg hb] at hR
   simp only [Bool.not_eq_true] at hb
   simp only [go_sem,hb,ej,jh]
   exact ⟨s,es,hs,((pO.fr []).af _ |>.af _).au,hR⟩
 rintro V H2 ⟨ej,s,es,hs,o2,hR⟩
 rw [List.drop_length,F1] at hR
 have p2:=(o2.get H.next (by omega)).trans p1
 have n2:=o2.nx
 simp only [go_sem,ej,p2]
 have BS:qu (H2.af H.fz) P px:=Dq.ae ((o2.fr []).af H.fz).au
 refine ag.by (ah7 BS.hN (fun c hc=>BS.lt c (by simp [hc])) BS.hD (fun c hc=>BS.lt c (by simp [hc])) hz.n hz.d (fun n hn=>(hz.nd n hn).b) yu dr) ?_
 rintro _ H3 - ⟨o3,Bl,bo,rfl,jc,arB,g3⟩
 have pO:aG H1 H3:=(((o2.fr []).af H.fz).then (o3.fr [])).au
 have p3:=(pO.get H.next (by omega)).trans p1
 have jc:H2.next<=bo:=jc
 simp only [go_sem,p3]
 have hRs:F1 x.params 0 0=s:=hR
 rw [hRs] at he
 have Tt:∀{H4},aG H3 H4->qu H4 P px:=fun o4=>(Dq.ae pO).ae o4
 refine kC 1267650600080655448907026798112 P.nodes.length (fun j V H4=>V 67=iV (j:Nat)/\∃s1,V 5=uV s1/\s1 < 18446744073709551616/\aG H3 H4/\Gg P.msgs own ((i:Nat):Int) P.nodes 0 s=Gg P.msgs own ((i:Nat):Int) (P.nodes.drop j) j s1)
  ⟨by simp only [go_sem] <;> rfl,s,by simp only [go_sem,es] <;> rfl,hs,((aG.refl H3).fr [] |>.af _ |>.af _).au,rfl⟩ ?_ ?_ (by rfl)
 ·rintro j V4 H4 hj ⟨ej,s1,Lv,cZ,o4,hS⟩
  have hy:P.nodes[j]?=some (P.nodes[j]'hj):=zEq hj
  have pL:P.nodes.drop j=(P.nodes[j]'hj)::P.nodes.drop (j+1):=(List.getElem_cons_drop hj).symm
  have cP:=hz.nd _ (List.getElem_mem hj)
  generalize (P.nodes[j]'hj)=y at hy pL cP
  rw [pL,Gg] at hS
  have n4:=o4.nx
  have n3:=pO.nx
  obtain ⟨dW,oy,cy,By,gy,wy,oJ,Nz,wu,Er,Dv⟩:=(Tt o4).hN.at hy
  simp only [Value.slice.injEq] at wy
  have oI:=wy.1
  obtain ⟨wA,wQ,wB,w1,w2,w3,lp,rfl,q1,q2,q3⟩:=Dv
  obtain ⟨b1,j1,rfl⟩:=q1.val
  obtain ⟨b2,j2,rfl⟩:=q2.val
  obtain ⟨b3,j3,rfl⟩:=q3.val
  have rB:oy+j * 20+20<=By.cells.length:=Er
  have lp:(By.cells.drop (oy+j * 20)).take 20=aU y (.slice b1 y.args.length j1) (.slice b2 y.pat.length j2) (.slice b3 y.ak.length j3):=lp
  have jh:IntKind.wrap .i64 (((j:Nat):Int)+1)=((j+1:Nat):Int):=cG hj (by have:=hz.n;omega)
  have EV:H.fz H4.next=false:=hX (by omega)
  have RP:(H4.af H.fz).get dW=some By:=oJ
  have g4:=(o4.get bo arB).trans g3
  refine ja (lB 295147905179352825856 (fun V5 H5=>H5=H4.af H.fz) (by simp only [go_sem,ej,hj]) ?_ (by rfl))
  rintro V5 _ rfl
  rw [MF,I8]
  have hjo:j < own.length:=by omega
  have hco:=QA (o:=own) (i:=j) hjo
  have hXt:(H4.af H.fz).next=H4.next:=rfl
  refine ja (lB 301641159093298588026368 (fun V6 H6=>V6 10=pV H4.next/\own.getD j 0=((i:Nat):Int)/\aG H4 H6/\H4.next < H6.next/\H6.get H4.next=some ⟨aU y (.slice b1 y.args.length j1) (.slice b2 y.pat.length j2) (.slice b3 y.ak.length j3),59,false,false⟩) ?_ ?_ (by rfl))
  ·have o6:aG H4 (((((H4.af H.fz).push ⟨aU y (.slice b1 y.args.length j1) (.slice b2 y.pat.length j2) (.slice b3 y.ak.length j3),59,false,false⟩).af H.fz).af H.fz)):=((((Fr.refl [] H4).af H.fz).push _).af _ |>.af _).au
   have fk:((((H4.af H.fz).push ⟨aU y (.slice b1 y.args.length j1) (.slice b2 y.pat.length j2) (.slice b3 y.ak.length j3),59,false,false⟩).af H.fz)).get bo=some ⟨own.map iV,3,false,false⟩:=by rw [bG,bO (by show bo < H4.next;omega),bG];exact g4
   have nbo:¬bo=H4.next:=by omega
   by_cases Lw:own.getD j 0=((i:Nat):Int)
   ·have aCb:¬(own.getD j 0≠((i:Nat):Int)):=fun h=>h Lw
    simp only [go_sem,ej,hj,oI,oJ,RP,rB,lp,EV,g4,nbo,hco,Lw]
    exact ⟨((((Fr.refl [] H4).af H.fz).push _).af _).au,Nat.lt_succ_self _⟩
   ·rw [if_neg Lw] at hS
    simp only [go_sem,ej,hj,oI,oJ,RP,rB,lp,EV,g4,nbo,hco,Lw,jh]
    exact ⟨s1,Lv,cZ,o4.trans ((((Fr.refl [] H4).af H.fz).push _).af _).au,hS⟩
  ·rintro V6 H6 ⟨Iq,Lw,o6,n6,y6⟩
   rw [if_pos Lw] at hS
   refine lB 77069021000432609887518752 (fun V7 H7=>V7 5=uV (if y.kind=1 then s1 ||| pA y.x else s1)/\aG H6 H7) ?_ ?_ (by rfl)
   ·by_cases hk:y.kind=1
    ·rw [if_pos hk]
     simp only [go_sem,Iq,y6,hk]
     refine ag.by D5 ?_
     rintro _ _ - ⟨rfl,rfl⟩
     simp only [go_sem,Lv,CP cZ (sS _)]
     exact (((Fr.refl [] H6).af _).af _).au
    ·rw [if_neg hk]
     simp only [go_sem,Iq,y6,hk]
     exact ⟨Lv,((Fr.refl [] H6).af _).au⟩
   ·rintro V7 H7 ⟨e5,o7⟩
    have y7:=(o7.get H4.next n6).trans y6
    have n7:=o7.nx
    have fh:(if y.kind=1 then s1 ||| pA y.x else s1) < 18446744073709551616:=by
     split
     ·exact WX cZ (sS _)
     ·exact cZ
    generalize (if y.kind=1 then s1 ||| pA y.x else s1)=s2 at e5 fh hS
    have o37:aG H3 H7:=(o4.trans o6).trans o7
    have cb:=cP.b
    simp only [go_sem,Iq,y7]
    refine kC 633206330094472010610902044704 y.ak.length (fun k V8 H8=>V8 89=iV (k:Nat)/\∃z,V8 5=uV z/\z < 18446744073709551616/\aG H7 H8/\y.ak.foldl (fun s b=>s ||| FP P.msgs b) s2=(y.ak.drop k).foldl (fun s b=>s ||| FP P.msgs b) z)
     ⟨by simp only [go_sem] <;> rfl,s2,by simp only [go_sem,e5] <;> rfl,fh,((aG.refl H7).fr [] |>.af _).au,rfl⟩ ?_ ?_ (by rfl)
    ·rintro k V8 H8 hk ⟨ek,z,ez,tr,o8,hF⟩
     have hq:y.ak[k]?=some (y.ak[k]'hk):=zEq hk
     have Oq:y.ak.drop k=(y.ak[k]'hk)::y.ak.drop (k+1):=(List.getElem_cons_drop hk).symm
     have ea:=cP.s _ (List.getElem_mem hk)
     generalize (y.ak[k]'hk)=q at hq Oq ea
     rw [Oq,List.foldl_cons] at hF
     have n8:=o8.nx
     have o38:=o37.trans o8
     obtain ⟨bz,oz,cz,Bz,gz,Fs,Ft,aeR,Ts,NA,Pm⟩:=(q3.ae (H':=H8) fun c hc=>((o6.trans (o7.trans o8)).get c (by have:=(Tt o4).lt c (by simp [wu c (by simp [hc])]);omega))).at hq
     simp only [Value.slice.injEq] at Fs
     have Fq:=Fs.1
     obtain ⟨vS,vW,x1,x2,ye,rfl,r1,r2⟩:=Pm
     obtain ⟨aS,kS,rfl⟩:=r1.val
     obtain ⟨aW,kW,rfl⟩:=r2.val
     have JQ:oz+k * 7+7<=Bz.cells.length:=NA
     have ye:(Bz.cells.drop (oz+k * 7)).take 7=cJ q (.slice aS q.aY.length kS) (.slice aW q.names.length kW):=ye
     have jj:IntKind.wrap .i64 (((k:Nat):Int)+1)=((k+1:Nat):Int):=cG hk (by omega)
     have Il:H.fz H8.next=false:=hX (by omega)
     have RS:(H8.af H.fz).get bz=some Bz:=Ft
     have p8:=(o38.get H.next (by omega)).trans p3
     have np8:¬H.next=H8.next:=by omega
     simp only [go_sem,ek,hk,Fq,Ft,RS,JQ,ye,Il,p8,np8]
     have o9:aG H8 (((H8.af H.fz).push ⟨cJ q (.slice aS q.aY.length kS) (.slice aW q.names.length kW),109,false,false⟩).af H.fz):=((((Fr.refl [] H8).af H.fz).push _).af _).au
     refine ag.by (agp (Dq.ae (pO.trans (o38.trans o9))) hz (y:=q) (r1.ae fun c hc=>o9.get c (by have:=(Tt o4).lt c (by simp [wu c (by simp [Ts c (by simp [hc])])]);omega)) (fun c hc=>by
      have:=(Tt o4).lt c (by simp [wu c (by simp [Ts c (by simp [hc])])])
      have:=o9.nx
      omega) (by omega) rfl) ?_
     rintro _ H9 - ⟨rfl,Pj⟩
     simp only [go_sem,ez,ek,jj,CP tr (aaa _ _)]
     exact ⟨_,rfl,WX tr (aaa _ _),(((o8.trans o9).trans Pj).fr [] |>.af _ |>.af _).au,hF⟩
    ·rintro V8 H8 ⟨ek,z,ez,tr,o8,hF⟩
     rw [List.drop_length,List.foldl_nil] at hF
     simp only [go_sem,ek,ej,jh]
     exact ⟨z,ez,tr,((o37.trans o8).fr [] |>.af _).au,by rw [hS,hF]⟩
 rintro V4 H4 ⟨ej,s1,Lv,cZ,o4,hS⟩
 rw [List.drop_length,Gg] at hS
 have p4:=(o4.get H.next (by have:=pO.nx;omega)).trans p3
 have hx4:=o4.nx
 have arC:H4.get b=some B:=by
  have aCc:=hp.lt b (by simp [dI])
  have:=pO.nx
  exact ((o4.get b (by omega)).trans (pO.get b (by omega))).trans hB
 have EV:H.fz H4.next=false:=hX (by have:=pO.nx;omega)
 have zB:fx Tryz.prog 4=some [.bool false]:=by kernel_rfl
 obtain ⟨m,hm⟩:=Int.eq_ofNat_of_zero_le (by omega:0<=x.aY)
 rw [hm] at uY he
 rw [Int.toNat_natCast] at he
 have arD:∀n,fW [Value.bool false] n=(List.replicate n false).map Value.bool:=by
  intro n
  induction n with
  | zero=>rfl
  | succ n ih=>rw [List.replicate_succ,List.map_cons,<-ih];rfl
 simp only [go_sem,ej,p4,bX,iz,arC,uY,I1 amc zB (by decide) (Nat.le_refl m) (by omega) (by omega),arD,Lv]
 have hSs:Gg P.msgs own ((i:Nat):Int) P.nodes 0 s=s1:=hS
 rw [hSs] at he
 have ob:aG H (((H4.af H.fz).push ⟨(List.replicate m false).map Value.bool,4,false,false⟩).af H.fz):=((((o1.trans pO).trans o4).fr []).af H.fz |>.push _ |>.af _).au
 refine kC 2657806954462514892354047808519553024 m (fun k V5 H5=>V5 109=iV (k:Nat)/\∃l:List Bool,l.length=m/\(∀q,q < k->l[q]?=some (NB s1 q))/\aG H H5/\H4.next < H5.next/\H5.get H4.next=some ⟨l.map Value.bool,4,false,false⟩)
  ⟨by simp only [go_sem] <;> rfl,List.replicate m false,by simp,fun q hq=>by omega,(ob.fr [] |>.af _).au,Nat.lt_succ_self _,by rw [bG,aZ];exact if_pos rfl⟩ ?_ ?_ (by rfl)
 ·rintro k V5 H5 hk ⟨ek,l,hl,hq,o5,n5,g5⟩
  have jj:IntKind.wrap .i64 (((k:Nat):Int)+1)=((k+1:Nat):Int):=cG hk (by omega)
  have gC:H.fz H4.next=false:=EV
  have hlk:k < (l.map Value.bool).length:=by rw [List.length_map];omega
  have arE:k+1<=(l.map Value.bool).length:=by rw [List.length_map];omega
  have dK:s1 / 2 ^ k < 18446744073709551616:=Nat.lt_of_le_of_lt (Nat.div_le_self _ _) cZ
  simp only [go_sem,ek,hk,Lv,g5,Vn (show k < 64 by omega),UM dK,gC,hlk,arE,jj]
  refine ⟨l.set k (NB s1 k),by rw [List.length_set];exact hl,fun q hqk=>?_,(o5.fr [] |>.ai (.inr (by have:=pO.nx;omega)) _ |>.af _).au,n5,?_⟩
  ·by_cases hqe:q=k
   ·subst hqe
    rw [List.getElem?_set_self (by omega)]
   ·rw [List.getElem?_set_ne (fun e=>hqe e.symm)]
    exact hq q (by omega)
  ·rw [List.map_set,show decide (((s1 / 2 ^ k % 2:Nat):Int)=1)=NB s1 k from by unfold NB;exact decide_eq_decide.2 (by omega)]
 ·rintro V5 H5 ⟨ek,l,hl,hq,o5,n5,g5⟩
  simp only [go_sem,ek]
  have fK:l=bs:=by
   rw [<-he]
   apply List.ext_getElem?
   intro q
   by_cases hqm:q < m
   ·rw [hq q hqm,List.getElem?_map,List.getElem?_range hqm];rfl
   ·rw [List.getElem?_eq_none (by omega),List.getElem?_eq_none (by simp;omega)]
  subst fK
  have:=arA (H:=H5.af H.fz) g5
  rw [hl] at this
  have qU:=pO.nx
  refine ⟨(o5.fr [] |>.af _).au,_,this,fun c hc=>?_⟩
  split at hc
  ·cases hc
  ·rw [List.mem_singleton] at hc
   subst hc
   exact ⟨by omega,n5⟩
def QW (k:Int):Bool:=decide (k=3)||decide (k=4)
theorem alz {H:ad} {t:Ty} {v:Value} {a:Option Addr} {n c:Nat} (hv:v=.slice a n c):aj Tryz.prog 140 #[.agg (lx t v).toArray] H (fun r H'=>r=.bool (QW t.kind)/\aG H H'):=by
 refine aj.told ?_
 refine ajZ (Nat.le_refl _) fun hf=>?_
 simp only [Tryz.f140,Option.getD_some]
 subst hv
 have o1:aG H ((H.push ⟨lx t (.slice a n c),102,false,false⟩).af H.fz):=(((Fr.refl [] H).push _).af _).au
 unfold QW
 by_cases h1:t.kind=3
 ·simp only [go_sem,h1]
  exact o1
 ·simp only [go_sem,h1]
  exact o1
def sV (kinds:List Ty) (asked:Nat->Bool):List oU->Nat->List Int
 | [],_=>[]
 | a::l,i=>if i < kinds.length/\a.kind≠1/\QW ((kinds.map (·.kind)).getD i 0)=true/\asked i=true then a.n::sV kinds asked l (i+1) else sV kinds asked l (i+1)
theorem aab (kinds:List Ty) (asked:Nat->Bool):∀(l:List oU) (i:Nat),(sV kinds asked l i).length<=l.length
 | [],_=>Nat.le_refl _
 | a::l,i=>by
  have:=aab kinds asked l (i+1)
  rw [sV]
  split
  ·simp only [List.length_cons];omega
  ·simp only [List.length_cons];omega
theorem aa8 {H:ad} {vA vK vF:Value} {args:List oU} {kinds:List Ty} {gA gK:List Nat} {Tu:FuncId} {ca:Int->Array Value} {asked:Nat->Bool} (hA:Sl jy H vA args gA) (yI:∀c∈gA,c < H.next) (hK:Sl sb H vK kinds gK) (hgK:∀c∈gK,c < H.next) (hl:args.length < 1000000)
  (aoF:∀i:Int,xS Tryz.prog vF #[iV i]=.call Tu (ca i)) (arF:∀(i:Nat) (H':ad),i < kinds.length->aG H H'->aj Tryz.prog Tu (ca i) H' (fun r H''=>r=.bool (asked i)/\aG H' H'')):
  aj Tryz.prog 112 #[vA,vK,vF] H (fun r H'=>aG H H'/\(∀c,H'.fz c=H.fz c)/\∃f',Sl .int H' r (sV kinds asked args 0) f'/\iM H.next H' f'):=by
 refine aj.told ?_
 refine ajb (Nat.le_refl _) fun hf=>?_
 simp only [Tryz.f112,Option.getD_some]
 have hX:∀{c:Nat},H.next<=c->H.fz c=false:=fun h=>hf.fresh h
 obtain ⟨aA,kA,rfl⟩:=hA.val
 obtain ⟨aK,kK,rfl⟩:=hK.val
 obtain ⟨R,hR⟩:∃R,R=sV kinds asked args 0:=⟨_,rfl⟩
 rw [<-hR]
 simp only [go_sem]
 refine ft 17592186041216 args.length (fun j V H2=>V 12=iV (j:Nat)/\∃acc fa,Ow .int 3 H2 (V 7) acc fa/\iM H.next H2 fa/\acc.length<=j/\aG H H2/\R=acc++sV kinds asked (args.drop j) j)
  ⟨by simp only [go_sem] <;> rfl,[],[],by simp only [go_sem];exact Ow.nil _ _ _,⟨List.nodup_nil,by simp,by simp⟩,Nat.le_refl _,aG.refl _,hR⟩ ?_ ?_ (by rfl)
 ·rintro j V H2 hj ⟨ej,acc,fa,en,dr,NC,o2,lz⟩
  have hy:args[j]?=some (args[j]'hj):=zEq hj
  have pL:args.drop j=(args[j]'hj)::args.drop (j+1):=(List.getElem_cons_drop hj).symm
  generalize (args[j]'hj)=y at hy pL
  rw [pL,sV] at lz
  have n2:=o2.nx
  obtain ⟨b,o,c,B,gy,hv,hB,dI,wu,cb,hE⟩:=(hA.ae (H':=H2) fun c hc=>o2.get c (yI c hc)).at hy
  simp only [Value.slice.injEq] at hv
  have iz:=hv.1
  obtain ⟨bg, -⟩:=hE
  have ef:o+j * 3+3<=B.cells.length:=cb
  have bg:(B.cells.drop (o+j * 3)).take 3=[iV y.kind,iV y.n,ah y.name]:=bg
  have jh:IntKind.wrap .i64 (((j:Nat):Int)+1)=((j+1:Nat):Int):=cG hj (by omega)
  have o3:aG H (H2.push ⟨[iV y.kind,iV y.n,ah y.name],145,false,false⟩):=o2.trans (aG.push _ _)
  have dw:H.fz H2.next=false:=hX (by omega)
  have ND:Ow .int 3 (H2.push ⟨[iV y.kind,iV y.n,ah y.name],145,false,false⟩) (V 7) acc fa:=en.ae fun c hc=>bO (dr.hi c hc)
  have D7:iM H.next (H2.push ⟨[iV y.kind,iV y.n,ah y.name],145,false,false⟩) fa:=⟨dr.nd,dr.lo,fun c hc=>Nat.lt_succ_of_lt (dr.hi c hc)⟩
  have y3:(H2.push ⟨[iV y.kind,iV y.n,ah y.name],145,false,false⟩).get H2.next=some ⟨[iV y.kind,iV y.n,ah y.name],145,false,false⟩:=by rw [aZ,if_pos rfl]
  have n3:(H2.push ⟨[iV y.kind,iV y.n,ah y.name],145,false,false⟩).next=H2.next+1:=rfl
  by_cases h1:j < kinds.length
  ·by_cases h2:y.kind=1
   ·rw [if_neg (by simp [h2])] at lz
    simp only [go_sem,ej,hj,iz,hB,ef,bg,h1,h2,jh,dw]
    rw [h2] at ND D7 o3
    exact ⟨acc,fa,ND,D7,by omega,o3,lz⟩
   ·have hz:kinds[j]?=some (kinds[j]'h1):=zEq h1
    have hkd:(kinds.map (·.kind)).getD j 0=(kinds[j]'h1).kind:=by rw [List.getD_eq_getElem?_getD,List.getElem?_map,hz];rfl
    rw [hkd] at lz
    generalize (kinds[j]'h1)=t at hz lz
    obtain ⟨bt,ot,ct,Bt,gt,uL,BT,RN,uG,GV,IC⟩:=(hK.ae fun c hc=>o3.get c (hgK c hc)).at hz
    simp only [Value.slice.injEq] at uL
    have rk:=uL.1
    obtain ⟨vp,td,hQ⟩:=IC
    obtain ⟨ap,kp,rfl⟩:=hQ.val
    have D6:ot+j * 5+5<=Bt.cells.length:=GV
    have td:(Bt.cells.drop (ot+j * 5)).take 5=lx t (.slice ap t.pat.length kp):=td
    have arG:bt < H2.next:=by have:=hgK bt (by simp [RN]);omega
    have arH:H2.get bt=some Bt:=by rw [<-BT];exact (bO arG).symm
    have lO:¬bt=H2.next:=by omega
    simp only [go_sem,ej,hj,iz,hB,ef,bg,h1,h2,dw,rk,arH,lO,D6,td]
    obtain ⟨H3,dv⟩:∃H3,H3=H2.push ⟨[iV y.kind,iV y.n,ah y.name],145,false,false⟩:=⟨_,rfl⟩
    rw [<-dv] at y3 n3 ND D7 o3 ⊢
    clear dv
    refine ag.by (alz (t:=t) (a:=ap) (n:=t.pat.length) (c:=kp) rfl) ?_
    rintro _ H4 - ⟨rfl,o4⟩
    have n4:=o4.nx
    have y4:=(o4.get H2.next (by omega)).trans y3
    have GW:=ND.ae fun c hc=>o4.get c (D7.hi c hc)
    have oO:iM H.next H4 fa:=⟨D7.nd,D7.lo,fun c hc=>Nat.lt_of_lt_of_le (D7.hi c hc) n4⟩
    by_cases h3:QW t.kind=true
    ·simp only [go_sem,h3,ej,aoF]
     refine ag.by (arF j H4 h1 (o3.trans o4)) ?_
     rintro _ H5 - ⟨rfl,o5⟩
     have n5:=o5.nx
     have y5:=(o5.get H2.next (by omega)).trans y4
     have qK:=GW.ae fun c hc=>o5.get c (oO.hi c hc)
     have kJ:iM H.next H5 fa:=⟨oO.nd,oO.lo,fun c hc=>Nat.lt_of_lt_of_le (oO.hi c hc) n5⟩
     by_cases h4:asked j=true
     ·rw [if_pos ⟨h1,h2,h3,h4⟩] at lz
      simp only [go_sem,h4,y5,AQ]
      refine FG (r:=.int) (x:=y.n) (g:=[]) iR (qK.ae fun c hc=>bO (kJ.hi c hc)) (fun c hc=>Nat.lt_succ_of_lt (kJ.hi c hc)) (by rw [List.append_nil];exact kJ.nd) (by simp) (fun c hc=>hX (kJ.lo c hc)) (by rw [aZ,if_pos rfl]) (Rp.wG.2 ⟨rfl,rfl⟩) rfl (by omega) ?_
      intro v6 H6 f6 Ko jz MO NF NG CQ aeS NH
      rw [bI] at NG
      simp only [go_sem,ej,jh]
      refine ⟨acc++[y.n],f6,Ko,⟨jz,fun c hc=>?_,NF⟩,by rw [zAp,List.length_singleton];omega,⟨by have:=(o3.trans (o4.trans o5)).nx;omega,fun c hc=>?_,fun c B hB hr=>?_⟩,by rw [lz];simp⟩
      ·rcases MO c hc with e | e | e
       ·rw [bI] at e;omega
       ·exact kJ.lo c e
       ·cases e
      ·rw [CQ c (by rw [bI];have:=(o3.trans (o4.trans o5)).nx;omega) (fun e=>by have:=kJ.lo c e;omega),bO (by have:=(o3.trans (o4.trans o5)).nx;omega)]
       exact (o3.trans (o4.trans o5)).get c hc
      ·have h7:=NH c B hB hr
       rw [aZ] at h7
       split at h7
       ·cases h7;cases hr
       ·exact (o3.trans (o4.trans o5)).ro c B h7 hr
     ·rw [if_neg (by simp [h4])] at lz
      simp only [Bool.not_eq_true] at h4
      simp only [go_sem,h4,ej,jh]
      exact ⟨acc,fa,qK,kJ,by omega,o3.trans (o4.trans o5),lz⟩
    ·rw [if_neg (by simp [h3])] at lz
     simp only [Bool.not_eq_true] at h3
     simp only [go_sem,h3,ej,jh]
     exact ⟨acc,fa,GW,oO,by omega,o3.trans o4,lz⟩
  ·rw [if_neg (by simp [h1])] at lz
   simp only [go_sem,ej,hj,iz,hB,ef,bg,h1,jh,dw]
   exact ⟨acc,fa,ND,D7,by omega,o3,lz⟩
 ·rintro V H2 ⟨ej,acc,fa,en,dr,NC,o2,lz⟩
  rw [List.drop_length,sV,List.append_nil] at lz
  subst lz
  simp only [go_sem,ej]
  exact ⟨((o2.fr []).af _).au,fun _=>trivial,fa,en.sl.ae fun _ _=>rfl,⟨dr.nd,dr.lo,dr.hi⟩⟩
theorem aj.Dx {P:Program} {f:FuncId} {args:Array Value} {H:ad} {K:Value->ad->Prop} (h:aj P f args H K) (hK:∀v H' fz,K v H'->K v (H'.af fz)):aj P f args H (fun v H'=>K v H'/\∀c,H'.fz c=H.fz c):=
 aj.told (h.mono fun v H' _ hk=>⟨hK _ _ _ hk,fun _=>rfl⟩)
structure OF (H H':ad):Prop where
 au:aG H H'
 fz:∀c,c < H.next->H'.fz c=H.fz c
theorem OF.refl (H:ad):OF H H:=⟨aG.refl H,fun _ _=>rfl⟩
theorem OF.trans {H H1 H2:ad} (h:OF H H1) (h':OF H1 H2):OF H H2:=⟨h.au.trans h'.au,fun c hc=>(h'.fz c (Nat.lt_of_lt_of_le hc h.au.nx)).trans (h.fz c hc)⟩
theorem OF.push {H H1:ad} (h:OF H H1) (B:cO) (hB:B.ro=false:=by rfl):OF H (H1.push B):=h.trans ⟨aG.push H1 B hB,fun c hc=>by
 show (c==H1.next||H1.fz c)=_
 rw [show (c==H1.next)=false from by rw [beq_eq_false_iff_ne];omega,Bool.false_or]⟩
theorem OF.told {H H1:ad} (h:OF H H1):OF H (H1.af H.fz):=⟨((h.au.fr []).af _).au,fun _ _=>rfl⟩
theorem aG.of {H H':ad} (h:aG H H') (hz:∀c,H'.fz c=H.fz c):OF H H':=⟨h,fun c _=>hz c⟩
theorem GS.af {R:Option (List Int)} {H H':ad} {r:Value} (fz:Nat->Bool) (h:GS R H H' r):GS R H (H'.af fz) r:=by
 obtain ⟨h1,h2⟩:=h
 refine ⟨((h1.fr []).af _).au,?_⟩
 cases R with
 | none=>exact h2
 | some q=>
  obtain ⟨f',h3,h4⟩:=h2
  exact ⟨f',h3.ae fun _ _=>rfl,⟨h4.nd,h4.lo,h4.hi⟩⟩
structure jQ where
 P:cC
 px:wz
 d:Int
 vS:Value
 iS:List (List Int)
 gS:List Nat
 vB:Value
 box:List Bool
 gB:List Nat
 np:Nat
 lo:Nat
structure WS where
 ends:List Int
 sZ:List Int
abbrev uO (K:jQ) (vE vF:Value):List Value:=[.slice K.px.aM K.P.msgs.length K.px.kM,.slice K.px.aR K.px.nR K.px.kR,.slice K.px.aD K.P.defs.length K.px.kD,.slice K.px.aN K.P.nodes.length K.px.kN,iV K.d,K.vS,K.vB,vE,vF]
structure WQ (K:jQ) (H:ad) (w:Nat) (st:WS) (mF:List Nat):Prop where
 bj:∃vE vF gE,H.get w=some ⟨uO K vE vF,82,false,false⟩/\Sl .int H vE st.ends gE/\(∀c∈gE,c < H.next/\c≠w/\c∉mF/\K.lo<=c)/\(st.ends.length=K.np∨vE=.slice none 0 0)/\Ow .int 3 H vF st.sZ mF
 nd:mF.Nodup
 qv:qu H K.P K.px
 hS:Sl (.slice .int) H K.vS K.iS K.gS
 hB:Sl .bool H K.vB K.box K.gB
 stat:∀c∈(K.px.gM++(K.px.gD++K.px.gN))++(K.gS++K.gB),c < H.next/\c≠w/\c∉mF
 own:∀c,c=w∨c∈mF->c < H.next/\H.fz c=false
 nw:w∉mF
 lo:K.lo<=w
theorem WQ.of {K:jQ} {H H':ad} {w:Nat} {st:WS} {mF:List Nat} (h:WQ K H w st mF) (o:OF H H'):WQ K H' w st mF:=by
 obtain ⟨vE,vF,gE,h1,h2,h3,h4,h5⟩:=h.bj
 refine ⟨⟨vE,vF,gE,(o.au.get w (h.own w (.inl rfl)).1).trans h1,h2.ae fun c hc=>o.au.get c (h3 c hc).1,fun c hc=>⟨Nat.lt_of_lt_of_le (h3 c hc).1 o.au.nx,(h3 c hc).2⟩,h4,h5.ae fun c hc=>o.au.get c (h.own c (.inr hc)).1⟩,h.nd,h.qv.ae o.au,h.hS.ae fun c hc=>o.au.get c (h.stat c (by simp [hc])).1,h.hB.ae fun c hc=>o.au.get c (h.stat c (by simp [hc])).1,fun c hc=>⟨Nat.lt_of_lt_of_le (h.stat c hc).1 o.au.nx,(h.stat c hc).2⟩,fun c hc=>⟨Nat.lt_of_lt_of_le (h.own c hc).1 o.au.nx,?_⟩,h.nw,h.lo⟩
 rw [o.fz c (h.own c hc).1];exact (h.own c hc).2
structure j8 (H:ad) (w:Nat) (mF:List Nat) (v:Value) (l:List Int) (f:List Nat):Prop where
 sl:Sl .int H v l f
 lt:∀c∈f,c < H.next/\c≠w/\c∉mF
theorem j8.of {H H':ad} {w:Nat} {mF:List Nat} {v:Value} {l:List Int} {f:List Nat} (h:j8 H w mF v l f) (o:aG H H'):j8 H' w mF v l f:=
 ⟨h.sl.ae fun c hc=>o.get c (h.lt c hc).1,fun c hc=>⟨Nat.lt_of_lt_of_le (h.lt c hc).1 o.nx,(h.lt c hc).2⟩⟩
theorem j8.step {H H':ad} {w:Nat} {mF xK:List Nat} {v:Value} {l:List Int} {f:List Nat} (h:j8 H w mF v l f) (fr:Fr (w::mF) H H') (hs:∀c∈xK,c∈mF∨H.next<=c):j8 H' w xK v l f:=
 ⟨h.sl.ae fun c hc=>fr.get c (h.lt c hc).1 (by simp [(h.lt c hc).2.1,(h.lt c hc).2.2]),fun c hc=>⟨Nat.lt_of_lt_of_le (h.lt c hc).1 fr.nx,(h.lt c hc).2.1,fun e=>by
  have:=(h.lt c hc).1
  rcases hs c e with e | e
  ·exact (h.lt c hc).2.2 e
  ·omega⟩⟩
structure WR (K:jQ) (H:ad) (w:Nat) (mF:List Nat) (H1:ad) (bu:WS) (ep:List Nat):Prop where
 wq:WQ K H1 w bu ep
 sub:∀c∈ep,c∈mF∨H.next<=c
 fr:Fr (w::mF) H H1
 lw:w < H.next
 z0:H.fz w=false
 zm:∀c∈mF,H.fz c=false
 zn:∀c,H.next<=c->H.fz c=false
theorem WR.start {K:jQ} {H:ad} {w:Nat} {st:WS} {mF:List Nat} (h:WQ K H w st mF) (hf:bY H):WR K H w mF H st mF:=
 ⟨h,fun c hc=>.inl hc,.refl _ _,(h.own w (.inl rfl)).1,(h.own w (.inl rfl)).2,fun c hc=>(h.own c (.inr hc)).2,fun c hc=>hf.fresh hc⟩
theorem WR.of {K:jQ} {H H1 H2:ad} {w:Nat} {mF ep:List Nat} {bu:WS} (h:WR K H w mF H1 bu ep) (o:OF H1 H2):WR K H w mF H2 bu ep:=
 ⟨h.wq.of o,h.sub,h.fr.trans (o.au.fr []) (by simp),h.lw,h.z0,h.zm,h.zn⟩
theorem WQ.arI {K:jQ} {H:ad} {w:Nat} {st:WS} {mF:List Nat} {fz:Nat->Bool} (h:WQ K H w st mF) (hz:∀c,c=w∨c∈mF->fz c=false):WQ K (H.af fz) w st mF:=by
 obtain ⟨vE,vF,gE,h1,h2,h3,h4,h5⟩:=h.bj
 exact ⟨⟨vE,vF,gE,h1,h2.ae fun _ _=>rfl,h3,h4,h5.ae fun _ _=>rfl⟩,h.nd,⟨h.qv.hM.ae fun _ _=>rfl,h.qv.hD.ae fun _ _=>rfl,h.qv.hN.ae fun _ _=>rfl,h.qv.lt⟩,h.hS.ae fun _ _=>rfl,h.hB.ae fun _ _=>rfl,h.stat,fun c hc=>⟨(h.own c hc).1,hz c hc⟩,h.nw,h.lo⟩
theorem WR.told {K:jQ} {H H1:ad} {w:Nat} {mF ep:List Nat} {bu:WS} (h:WR K H w mF H1 bu ep):WR K H w mF (H1.af H.fz) bu ep:=
 ⟨h.wq.arI fun c hc=>by
  rcases hc with e | e
  ·rw [e];exact h.z0
  ·rcases h.sub c e with e | e
   ·exact h.zm c e
   ·exact h.zn c e,h.sub,h.fr.af _,h.lw,h.z0,h.zm,h.zn⟩
theorem j8.af {H:ad} {w:Nat} {mF:List Nat} {v:Value} {l:List Int} {f:List Nat} {fz:Nat->Bool} (h:j8 H w mF v l f):j8 (H.af fz) w mF v l f:=⟨h.sl.ae fun _ _=>rfl,h.lt⟩
def A9 (K:jQ) (H:ad) (w:Nat) (mF:List Nat) (bW:WS) (l':List Int) (v':Value) (H':ad):Prop:=
 ∃xK f',WQ K H' w bW xK/\(∀c∈xK,c∈mF∨H.next<=c)/\Fr (w::mF) H H'/\(∀c,H'.fz c=H.fz c)/\j8 H' w xK v' l' f'
theorem WR.post {K:jQ} {H H1:ad} {w:Nat} {mF ep:List Nat} {bu:WS} {l:List Int} {v:Value} {f:List Nat} (h:WR K H w mF H1 bu ep) (hq:j8 H1 w ep v l f):A9 K H w mF bu l v (H1.af H.fz):=
 ⟨ep,f,h.told.wq,h.sub,h.told.fr,fun _=>rfl,hq.af⟩
theorem WR.call {K:jQ} {H H1 H2:ad} {w:Nat} {mF ep wE:List Nat} {bu bH:WS} (h:WR K H w mF H1 bu ep) (hq:WQ K H2 w bH wE) (hs:∀c∈wE,c∈ep∨H1.next<=c) (hf:Fr (w::ep) H1 H2):WR K H w mF H2 bH wE:=
 ⟨hq,fun c hc=>by
  have:=h.fr.nx
  rcases hs c hc with e | e
  ·exact h.sub c e
  ·right;omega,h.fr.trans hf fun c hc=>by
   rcases List.mem_cons.1 hc with e | e
   ·left;simp [e]
   ·rcases h.sub c e with e | e
    ·left;simp [e]
    ·right;exact e,h.lw,h.z0,h.zm,h.zn⟩
theorem WR.oT {K:jQ} {H H1 H2:ad} {w:Nat} {mF ep wE gE:List Nat} {bu bH:WS} {vE vF:Value} (h:WR K H w mF H1 bu ep) (bk:Fr (w::ep) H1 H2) (hb:H2.get w=some ⟨uO K vE vF,82,false,false⟩) (hE:Sl .int H2 vE bH.ends gE) (qw:∀c∈gE,c < H2.next/\c≠w/\c∉wE/\K.lo<=c) (xL:bH.ends.length=K.np∨vE=.slice none 0 0) (en:Ow .int 3 H2 vF bH.sZ wE) (cP:wE.Nodup) (hm:∀c∈wE,(c∈ep∨H1.next<=c)/\c < H2.next):WR K H w mF (H2.af H.fz) bH wE:=by
 have dB:∀c∈(K.px.gM++(K.px.gD++K.px.gN))++(K.gS++K.gB),H2.get c=H1.get c:=fun c hc=>bk.get c (h.wq.stat c hc).1 (by simp [(h.wq.stat c hc).2.1,(h.wq.stat c hc).2.2])
 have rH:∀c∈wE,c∈mF∨H.next<=c:=fun c hc=>by
  have:=h.fr.nx
  rcases (hm c hc).1 with e | e
  ·exact h.sub c e
  ·right;omega
 have nx:=bk.nx
 have lw1:=(h.wq.own w (.inl rfl)).1
 refine ⟨⟨⟨vE,vF,gE,hb,hE.ae fun _ _=>rfl,qw,xL,en.ae fun _ _=>rfl⟩,cP,?_,h.wq.hS.ae fun c hc=>dB c (by simp [hc]),h.wq.hB.ae fun c hc=>dB c (by simp [hc]),fun c hc=>⟨Nat.lt_of_lt_of_le (h.wq.stat c hc).1 nx,(h.wq.stat c hc).2.1,fun e=>?_⟩,fun c hc=>?_,fun e=>?_,h.wq.lo⟩,rH,?_,h.lw,h.z0,h.zm,h.zn⟩
 ·exact ⟨h.wq.qv.hM.ae fun c hc=>dB c (by simp [hc]),h.wq.qv.hD.ae fun c hc=>dB c (by simp [hc]),h.wq.qv.hN.ae fun c hc=>dB c (by simp [hc]),fun c hc=>Nat.lt_of_lt_of_le (h.wq.qv.lt c hc) nx⟩
 ·have:=(h.wq.stat c hc).1
  rcases (hm c e).1 with e | e
  ·exact (h.wq.stat c hc).2.2 e
  ·omega
 ·rcases hc with e | e
  ·rw [e];exact ⟨Nat.lt_of_lt_of_le lw1 nx,h.z0⟩
  ·refine ⟨(hm c e).2,?_⟩
   rcases rH c e with e | e
   ·exact h.zm c e
   ·exact h.zn c e
 ·rcases (hm w e).1 with e | e
  ·exact h.wq.nw e
  ·omega
 ·exact (h.fr.trans bk fun c hc=>by
   rcases List.mem_cons.1 hc with e | e
   ·left;simp [e]
   ·rcases h.sub c e with e | e
    ·left;simp [e]
    ·right;exact e).af _
theorem WR.fin {K:jQ} {H H1 H':ad} {w:Nat} {mF ep:List Nat} {bu bW:WS} {l':List Int} {v':Value} (h:WR K H w mF H1 bu ep) (hp:A9 K H1 w ep bW l' v' H'):A9 K H w mF bW l' v' (H'.af H.fz):=by
 obtain ⟨xK,f',q1,q2,q3,q4,q5⟩:=hp
 exact (h.call q1 q2 q3).post q5
def Sf (Hs H:ad) (w:Nat) (mF l:List Nat):Prop:=∀c∈l,H.get c=Hs.get c/\c < H.next/\c≠w/\c∉mF
theorem Sf.of {Hs H H':ad} {w:Nat} {mF l:List Nat} (h:Sf Hs H w mF l) (o:aG H H'):Sf Hs H' w mF l:=
 fun c hc=>⟨(o.get c (h c hc).2.1).trans (h c hc).1,Nat.lt_of_lt_of_le (h c hc).2.1 o.nx,(h c hc).2.2⟩
theorem Sf.step {Hs H H':ad} {w:Nat} {mF xK l:List Nat} (h:Sf Hs H w mF l) (fr:Fr (w::mF) H H') (hs:∀c∈xK,c∈mF∨H.next<=c):Sf Hs H' w xK l:=
 fun c hc=>⟨(fr.get c (h c hc).2.1 (by simp [(h c hc).2.2.1,(h c hc).2.2.2])).trans (h c hc).1,Nat.lt_of_lt_of_le (h c hc).2.1 fr.nx,(h c hc).2.2.1,fun e=>by
  have:=(h c hc).2.1
  rcases hs c e with e | e
  ·exact (h c hc).2.2.2 e
  ·omega⟩
theorem Sf.af {Hs H:ad} {w:Nat} {mF l:List Nat} {fz:Nat->Bool} (h:Sf Hs H w mF l):Sf Hs (H.af fz) w mF l:=h
def JR (q:List Int) (place:Int) (l:List Int) (st:WS):Option (List Int × WS):=
 if q.length < 1000000/\l.length < 1000000/\st.sZ.length < 1000000 then
  match Cw q l with
  | none=>some (q,st)
  | some (q',ok)=>some (q',if ok=true then st else {st with sZ:=st.sZ++[place]})
 else none
theorem agq {l q:List Int} {b:Bool} (h:Cw [] l=some (q,b)):q=[]/\b=true:=by
 unfold Cw at h
 split at h
 ·rename_i hc
  have hl:l=[]:=by
   cases l with
   | nil=>rfl
   | cons a l=>
    have:=FN.1 hc.2
    have h0:=this a (by simp)
    simp at h0
    omega
  subst hl
  simp only [Option.some.injEq,Prod.mk.injEq] at h
  refine ⟨by rw [<-h.1];rfl,by rw [<-h.2];rfl⟩
 ·cases h
def MP (R:Option (List Int × Bool)) (H H':ad) (r:Value):Prop:=aG H H'/\match R with
   | none=>r=.tuple #[.slice none 0 0,.bool false]
   | some (q,b)=>∃v' f',r=.tuple #[v',.bool b]/\Sl .int H' v' q f'/\iM H.next H' f'
theorem MP.af {R:Option (List Int × Bool)} {H H':ad} {r:Value} {fz:Nat->Bool} (h:MP R H H' r):MP R H (H'.af fz) r:=by
 obtain ⟨h1,h2⟩:=h
 refine ⟨((h1.fr []).af _).au,?_⟩
 match R,h2 with
 | none,h2=>exact h2
 | some (q,b),⟨v',f',e,h3,h4⟩=>exact ⟨v',f',e,h3.ae fun _ _=>rfl,⟨h4.nd,h4.lo,h4.hi⟩⟩
theorem ah9 {H:ad} {v w:Value} {p l:List Int} {f g:List Nat} (h:Sl .int H v p f) (dC:∀y∈f,y < H.next) (hg:Sl .int H w l g) (gu:∀y∈g,y < H.next) (dZ:p.length < 1000000) (fK:l.length < 1000000):
  aj Tryz.prog 141 #[v,w] H (fun r H'=>MP (Cw p l) H H' r/\∀c,H'.fz c=H.fz c):=
 aj.Dx (K:=fun r H'=>MP (Cw p l) H H' r) ((alu h dC hg gu dZ fK).mono fun _ _ _ h=>h) fun _ _ _ h=>h.af
theorem UQ {K:jQ} {H:ad} {w:Nat} {st:WS} {mF:List Nat} (h:WQ K H w st mF) {vq:Value} {q:List Int} {f:List Nat} (hq:j8 H w mF vq q f) {vl:Value} {l:List Int} {g:List Nat} (hl:Sl .int H vl l g) (hg:∀c∈g,c < H.next) {place:Int} {R:List Int × WS} (he:JR q place l st=some R):
  aj Tryz.prog 114 #[pV w,vq,iV place,vl] H (fun v H'=>A9 K H w mF R.2 R.1 v H'):=by
 refine ni (l:=[_,_,_,_]) _ mixed Tryz.func114 ajf [.tmp 8] (show 4<=33 by decide) rfl fun hf=>?_
 simp only [Tryz.f114,Option.getD_some]
 have r0:=WR.start h hf
 unfold JR at he
 split at he
 ·rename_i hb
  obtain ⟨b1,b2,b3⟩:=hb
  obtain ⟨aq,kq,rfl⟩:=hq.sl.val
  simp only [go_sem]
  refine ag.by (ah9 (hq.sl.ae (H':=H.af H.fz) fun _ _=>rfl) (fun c hc=>(hq.lt c hc).1) (hl.ae (H':=H.af H.fz) fun _ _=>rfl) hg b1 b2) ?_
  rintro v H1 - ⟨⟨o1,hR⟩,z1⟩
  have r1:=r0.told.of (o1.of z1)
  have n1:H.next<=H1.next:=o1.nx
  have k1:∀c,c < H.next->H1.get c=H.get c:=fun c hc=>(o1.get c hc)
  cases hj:Cw q l with
  | none=>
   rw [hj] at he hR
   cases he
   simp only at hR
   subst hR
   simp only [go_sem]
   exact r1.post (hq.af.of o1)
  | some x=>
   obtain ⟨q',ok⟩:=x
   rw [hj] at he hR
   cases he
   obtain ⟨v',f',rfl,dz,fO⟩:=hR
   have xA:q'=[]->q=[]/\ok=true:=fun e=>by
    have hlen:q'.length=q.length:=by
     unfold Cw at hj
     split at hj
     ·simp only [Option.some.injEq,Prod.mk.injEq] at hj
      rw [<-hj.1];exact LL _ _ _
     ·cases hj
    rw [e] at hlen
    have:q=[]:=List.length_eq_zero_iff.1 hlen.symm
    subst this
    exact ⟨rfl,(agq hj).2⟩
   have er:j8 H1 w mF v' q' f':=⟨dz,fun c hc=>⟨fO.hi c hc,fun e=>by have:=fO.lo c hc;have:=r0.lw;have:H.next<=c:=fO.lo c hc;omega,fun e=>by have:H.next<=c:=fO.lo c hc;have:=(h.own c (.inr e)).1;omega⟩⟩
   have hv:(v'=.slice none 0 0/\q'=[])∨∃a c,v'=.slice (some a) q'.length c:=by
    rcases dz with ⟨e,e2, -⟩ | ⟨a,c,e,e2, -⟩ | ⟨b,o,c,B,g,e, -⟩
    ·exact .inl ⟨e,e2⟩
    ·exact .inr ⟨a,c,by rw [e,e2];rfl⟩
    ·exact .inr ⟨_,c,e⟩
   rcases hv with ⟨rfl,e⟩ | ⟨a',c',rfl⟩
   ·obtain ⟨e1,rfl⟩:=xA e
    subst e
    subst e1
    simp only [go_sem]
    exact r1.post (hq.af.of o1)
   ·cases ok with
    | true=>
     simp only [go_sem]
     exact r1.told.post er.af
    | false=>
     obtain ⟨vE,vF,gE,dy,hE,qw,oi,en⟩:=r1.told.wq.bj
     have hlF:=r1.told.wq.own
     have adp:H1.get w=some ⟨uO K vE vF,82,false,false⟩:=dy
     have ey:H.fz H1.next=false:=r1.zn _ n1
     have wZ:¬w=H1.next:=by have:=r0.lw;omega
     simp only [go_sem,adp,AQ,wZ]
     refine FG (r:=.int) (x:=place) (g:=[]) iR (en.ae fun c hc=>bO (hlF c (.inr hc)).1) (fun c hc=>Nat.lt_succ_of_lt (hlF c (.inr hc)).1) (by rw [List.append_nil];exact h.nd) (by simp) (fun c hc=>(h.own c (.inr hc)).2) (by rw [aZ];exact if_pos rfl) (Rp.wG.2 ⟨rfl,rfl⟩) rfl (by omega) ?_
     intro v6 H6 f6 Ko jz MO NF NG CQ aeS NH
     rw [bI,BZ] at NG CQ
     have lw:=r0.lw
     have fP:w < H1.next:=by omega
     have aoG:H6.get w=some ⟨uO K vE vF,82,false,false⟩:=(CQ w (by omega) h.nw).trans ((bO fP).trans adp)
     have CY:=r0.z0
     obtain ⟨a6,c6,rfl⟩:=Ko.sl.val
     simp only [go_sem,aoG,CY]
     have bk:Fr (w::mF) (H1.af H.fz) (H6.ai w ⟨uO K vE (.slice a6 (st.sZ++[place]).length c6),82,false,false⟩):=by
      refine ⟨by show H1.next<=H6.next;omega,fun c hc hn=>?_,fun c B hB hr=>?_⟩
      ·have hc:c < H1.next:=hc
       rw [aH,if_neg (fun e=>hn (by simp [e])),CQ c (by omega) (fun e=>hn (by simp [e]))]
       exact bO hc
      ·rw [aH] at hB
       split at hB
       ·cases hB;cases hr
       ·have h7:=NH c B hB hr
        rw [aZ] at h7
        split at h7
        ·cases h7;cases hr
        ·exact h7
     have py:∀c∈f6,c=H1.next+1∨c∈mF:=fun c hc=>by
      rcases MO c hc with e | e | e
      ·exact .inl e
      ·exact .inr e
      ·cases e
     have adq:∀c,c < H1.next->c≠w->c∉mF->(H6.ai w ⟨uO K vE (.slice a6 (st.sZ++[place]).length c6),82,false,false⟩).get c=H1.get c:=fun c h1 h2 h3=>bk.get c h1 (by simp [h2,h3])
     have arJ:w∉f6:=fun e=>by
      rcases py w e with e | e
      ·omega
      ·exact h.nw e
     refine (r1.told.oT (bH:={st with sZ:=st.sZ++[place]}) bk (by rw [aH,if_pos rfl]) (hE.ae fun c hc=>adq c (qw c hc).1 (qw c hc).2.1 (qw c hc).2.2.1) (fun c hc=>?_) oi (Ko.ae fun c hc=>by rw [aH];exact if_neg fun e=>arJ (by rw [<-e];exact hc)) jz (fun c hc=>⟨?_,NF c hc⟩)).post ⟨er.sl.ae fun c hc=>adq c (er.lt c hc).1 (er.lt c hc).2.1 (er.lt c hc).2.2,fun c hc=>?_⟩
     ·have h1:c < H1.next:=(qw c hc).1
      refine ⟨by show c < H6.next;omega,(qw c hc).2.1,fun e=>?_,(qw c hc).2.2.2⟩
      rcases py c e with e | e
      ·omega
      ·exact (qw c hc).2.2.1 e
     ·rcases py c hc with e | e
      ·right;show H1.next<=c;omega
      ·exact .inl e
     ·have h1:=(er.lt c hc).1
      refine ⟨by show c < H6.next;omega,(er.lt c hc).2.1,fun e=>?_⟩
      rcases py c e with e | e
      ·omega
      ·exact (er.lt c hc).2.2 e
 ·cases he
theorem aia {H:ad} {i:Int}:aj Tryz.prog 113 #[iV i] H (fun r H'=>r=.bool true/\aG H H'):=by
 refine aje (Nat.le_refl _) fun hf=>?_
 simp only [Tryz.f113,Option.getD_some]
 simp only [go_sem]
 exact aG.refl H
theorem ahc {X:Nat->Bool} {H:ad} {x:Int} {b0:Nat} {v:Value} {l:List Int} {f:List Nat} {K:Value->ad->Prop} {tg:Tag K} (hB:H.get b0=some ⟨[iV x],3,false,false⟩) (h:Sl .int H v l f) (dd:l≠[]) (hl:l.length < 1000000)
  (hk:∀B,B.ro=false->Sl .int (H.push B) (.slice (some ⟨H.next,0,none⟩) (1+l.length) (1+l.length)) (x::l) [H.next]->K (.slice (some ⟨H.next,0,none⟩) (1+l.length) (1+l.length)) (H.push B)):fe Tryz.prog X H (iZ Tryz.prog 22 (.slice (some ⟨b0,0,none⟩) 1 1) v H) K tg:=by
 obtain ⟨cs,g2,e1,e2,e3,_⟩:=h.src (size:=1) rfl
 have:=AR e3;subst this
 have oR:0 < l.length:=List.length_pos_iff.2 dd
 rw [FF iR e1 hB rfl (Nat.le_refl _) (by omega) (by omega),AI]
 refine hk _ rfl (.inr (.inr ⟨H.next,0,1+l.length,_,[],by rw [List.length_cons,Nat.add_comm],by simp,by rw [List.length_cons];omega,rfl,by rw [aZ,if_pos rfl],?_⟩))
 exact ⟨[iV x],cs,[],[],rfl,rfl,Rp.wG.2 ⟨rfl,rfl⟩,e3.ae (by simp)⟩
def Vp (P:cC) (q:List Int) (place:Int) (n:aJ) (st:WS):Option (List Int × WS):=
 if n.f < 0∨((P.msgs.length:Nat):Int)<=n.f then some (q,st) else
  if (sV ((P.msgs.map (·.types)).getD n.f.toNat []) (fun _=>true) n.args 0).length=0 then some (q,st) else
   JR q place (n.y::sV ((P.msgs.map (·.types)).getD n.f.toNat []) (fun _=>true) n.args 0) st
structure Po (H:ad) (w:Nat) (mF:List Nat) (n:aJ) (vA vQ vB:Value) (gA gB:List Nat):Prop where
 hA:Sl jy H vA n.args gA
 hQ:∃a k,vQ=.slice a n.pat.length k
 hB:Sl eQ H vB n.ak gB
 lt:∀c∈gA++gB,c < H.next/\c≠w/\c∉mF
 ok:RM n
theorem aib {K:jQ} {H:ad} {w:Nat} {st:WS} {mF:List Nat} (h:WQ K H w st mF) (hz:tP K.P) {vq:Value} {q:List Int} {f:List Nat} (hq:j8 H w mF vq q f) {place:Int} {n:aJ} {vA vQ vB:Value} {gA gB:List Nat} (hn:Po H w mF n vA vQ vB gA gB) {R:List Int × WS} (he:Vp K.P q place n st=some R):
  aj Tryz.prog 84 #[pV w,vq,iV place,.agg (aU n vA vQ vB).toArray] H (fun v H'=>A9 K H w mF R.2 R.1 v H'):=by
 refine ni (l:=[_,_,_,_]) _ mixed Tryz.func84 ant [.tmp 8] (show 4<=51 by decide) rfl fun hf=>?_
 simp only [Tryz.f84,Option.getD_some]
 have r0:=WR.start h hf
 obtain ⟨aA,kA,rfl⟩:=hn.hA.val
 obtain ⟨aQ,kQ,rfl⟩:=hn.hQ
 obtain ⟨aB,kB,rfl⟩:=hn.hB.val
 obtain ⟨aq,kq,rfl⟩:=hq.sl.val
 obtain ⟨vE,vF,gE,dy,hE,qw,oi,en⟩:=h.bj
 have lw:=r0.lw
 have wZ:¬w=H.next:=by omega
 have lT:OF H ((H.push ⟨aU n (.slice aA n.args.length kA) (.slice aQ n.pat.length kQ) (.slice aB n.ak.length kB),59,false,false⟩).af H.fz):=((OF.refl H).push _).told
 unfold Vp at he
 by_cases h1:n.f < 0
 ·rw [if_pos (.inl h1)] at he
  cases he
  simp only [go_sem,h1]
  exact (r0.of ((OF.refl H).push _)).post (hq.of ((OF.refl H).push _).au)
 by_cases h2:((K.P.msgs.length:Nat):Int)<=n.f
 ·rw [if_pos (.inr h2)] at he
  cases he
  simp only [go_sem,wZ,dy,h1,h2]
  exact (r0.of ((OF.refl H).push _)).post (hq.of ((OF.refl H).push _).au)
 rw [if_neg (by simp [h1,h2])] at he
 obtain ⟨i,hi⟩:=Int.eq_ofNat_of_zero_le (by omega:0<=n.f)
 have bX:i < K.P.msgs.length:=by omega
 have hx:K.P.msgs[i]?=some (K.P.msgs[i]'bX):=zEq bX
 have iH:(K.P.msgs.map (·.types)).getD i []=(K.P.msgs[i]'bX).types:=by rw [List.getD_eq_getElem?_getD,List.getElem?_map,hx];rfl
 rw [hi,Int.toNat_natCast,iH] at he
 generalize (K.P.msgs[i]'bX)=x at hx he
 obtain ⟨b,o,c,B,gx,hv,hB,dI,df,cb,hE⟩:=h.qv.hM.at hx
 simp only [Value.slice.injEq] at hv
 have iz:=hv.1
 obtain ⟨vT,bg,hT⟩:=hE
 obtain ⟨aT,kT,rfl⟩:=hT.val
 have dN:B.cells[o+i * 4+1]?=some (.slice aT x.types.length kT):=vg bg (by decide)
 have j9:(0:Int)<=((i:Nat):Int):=by omega
 have lO:¬b=H.next:=by have:=(h.stat b (by simp [dI])).1;omega
 have qO:¬((i:Nat):Int) < 0:=by omega
 have pF:¬((K.P.msgs.length:Nat):Int)<=((i:Nat):Int):=by omega
 simp only [go_sem,wZ,dy,hi,j9,qO,pF,bX,iz,hB,lO,dN]
 have r1:=r0.of lT
 have gq:=hq.of lT.au
 have y1:((H.push ⟨aU n (.slice aA n.args.length kA) (.slice aQ n.pat.length kQ) (.slice aB n.ak.length kB),59,false,false⟩).af H.fz).get H.next=some ⟨aU n (.slice aA n.args.length kA) (.slice aQ n.pat.length kQ) (.slice aB n.ak.length kB),59,false,false⟩:=by rw [bG,aZ,if_pos rfl]
 have n1:((H.push ⟨aU n (.slice aA n.args.length kA) (.slice aQ n.pat.length kQ) (.slice aB n.ak.length kB),59,false,false⟩).af H.fz).next=H.next+1:=rfl
 generalize ((H.push ⟨aU n (.slice aA n.args.length kA) (.slice aQ n.pat.length kQ) (.slice aB n.ak.length kB),59,false,false⟩).af H.fz)=H1 at lT r1 gq y1 n1 ⊢
 refine ag.by (aa8 (asked:=fun _=>true) (Tu:=113) (ca:=fun i=>#[iV i]) (hn.hA.ae fun c hc=>lT.au.get c (hn.lt c (by simp [hc])).1) (fun c hc=>by have:=(hn.lt c (by simp [hc])).1;omega) (hT.ae fun c hc=>lT.au.get c (h.stat c (by simp [df c hc])).1) (fun c hc=>by have:=(h.stat c (by simp [df c hc])).1;omega) hn.ok.a (fun i=>ajd (c:=[]) (a:=[iV i])) fun i H' _ _=>aia) ?_
 rintro v2 H2 - ⟨o2,z2,f2,fh,dh⟩
 have r2:=r1.of (o2.of z2)
 have gV:=gq.of o2
 have y2:=(o2.get H.next (by omega)).trans y1
 obtain ⟨a2,k2,rfl⟩:=fh.val
 have n2:=o2.nx
 by_cases hl:(sV x.types (fun _=>true) n.args 0).length=0
 ·rw [if_pos hl] at he
  cases he
  have Dt:((0:Nat):Int)=0:=rfl
  simp only [go_sem,hl,Dt]
  exact r2.told.post gV.af
 ·rw [if_neg hl] at he
  have uq:¬(((sV x.types (fun _=>true) n.args 0).length:Nat):Int)=0:=by omega
  have fK:=aab x.types (fun _=>true) n.args 0
  have ha:=hn.ok.a
  generalize sV x.types (fun _=>true) n.args 0=l at fh he hl uq fK ⊢
  simp only [go_sem,uq,y2,AQ]
  refine ahc (x:=n.y) (by rw [aZ];exact if_pos rfl) (fh.ae fun c hc=>bO (dh.hi c hc)) (fun e=>hl (by rw [e];rfl)) (by omega) ?_
  intro B2 jH fZ
  simp only [go_sem]
  have r3:=((r2.told.told.of ((OF.refl _).push ⟨[iV n.y],3,false,false⟩)).of ((OF.refl _).push B2 jH))
  have wb:=((gV.af (fz:=H.fz)).af (fz:=H.fz)).of (((aG.refl _).trans (aG.push _ ⟨[iV n.y],3,false,false⟩)).trans (aG.push _ B2 jH))
  refine ag.by (UQ r3.wq wb fZ (fun c hc=>by rw [List.mem_singleton] at hc;subst hc;exact Nat.lt_succ_self _) he) ?_
  rintro v5 H5 - C2
  simp only [go_sem]
  exact r3.fin C2
theorem aic {H:ad} {bS bL:Nat} {aS:Option Addr} {kS:Nat} {sum:List Int} {gs:List Nat} {e1 e2:TypeId} {p1 p2 r1 r2:Bool} {i:Nat} {least:Int} (hS:H.get bS=some ⟨[.slice aS sum.length kS],e1,p1,r1⟩) (hL:H.get bL=some ⟨[iV least],e2,p2,r2⟩) (h:Sl .int H (.slice aS sum.length kS) sum gs) (hi:i < sum.length):
  aj Tryz.prog 115 #[iV (i:Nat),pV bS,pV bL] H (fun r H'=>r=.bool (decide (sum.getD i 0=least))/\aG H H'):=by
 refine aji (Nat.le_refl _) fun hf=>?_
 simp only [Tryz.f115,Option.getD_some]
 obtain ⟨b,o,c,B,hv,hB,_,hc⟩:=h.j0 hi
 simp only [Value.slice.injEq] at hv
 have iz:=hv.1
 simp only [go_sem,hS,hL,hi,iz,hB,hc]
 exact aG.refl H
def DY (kinds:List Ty) (args:List oU) (sum:List Int) (place:Int):List Int->Nat->List Int->WS->Option (List Int × WS)
 | [],_,q,st=>some (q,st)
 | k::l,i,q,st=>if k=((i:Nat):Int) then
   match JR q place (sV kinds (fun j=>decide (sum.getD j 0=((i:Nat):Int))) args 0) st with
   | some R=>DY kinds args sum place l (i+1) R.1 R.2
   | none=>none
  else DY kinds args sum place l (i+1) q st
def Mk (P:cC) (iS:List (List Int)) (q:List Int) (place:Int) (n:aJ) (st:WS):Option (List Int × WS):=
 if n.f < 0∨((P.defs.length:Nat):Int)<=n.f then some (q,st) else
  match P.defs[n.f.toNat]?,iS[n.f.toNat]? with
  | some d,some sum=>if sum.length=d.params.length then DY (d.params.map (·.ty)) n.args sum place sum 0 q st else none
  | _,_=>none
theorem abI {K:jQ} {H:ad} {w:Nat} {st:WS} {mF:List Nat} (h:WQ K H w st mF) (hz:tP K.P) {vq:Value} {q:List Int} {f:List Nat} (hq:j8 H w mF vq q f) {place:Int} {n:aJ} {vA vQ vB:Value} {gA gB:List Nat} (hn:Po H w mF n vA vQ vB gA gB) {R:List Int × WS} (he:Mk K.P K.iS q place n st=some R):
  aj Tryz.prog 85 #[pV w,vq,iV place,.agg (aU n vA vQ vB).toArray] H (fun v H'=>A9 K H w mF R.2 R.1 v H'):=by
 refine ni (l:=[_,_,_,_]) _ mixed Tryz.func85 anu [.tmp 8] (show 4<=80 by decide) rfl fun hf=>?_
 simp only [Tryz.f85,Option.getD_some]
 have r0:=WR.start h hf
 obtain ⟨aA,kA,rfl⟩:=hn.hA.val
 obtain ⟨aQ,kQ,rfl⟩:=hn.hQ
 obtain ⟨aB,kB,rfl⟩:=hn.hB.val
 obtain ⟨aq,kq,rfl⟩:=hq.sl.val
 obtain ⟨aS0,kS0,hvS⟩:=h.hS.val
 obtain ⟨vE,vF,gE,dy,hE,qw,oi,en⟩:=h.bj
 have lw:=r0.lw
 have wZ:¬w=H.next:=by omega
 have lT:OF H ((H.push ⟨aU n (.slice aA n.args.length kA) (.slice aQ n.pat.length kQ) (.slice aB n.ak.length kB),59,false,false⟩).af H.fz):=((OF.refl H).push _).told
 unfold Mk at he
 by_cases h1:n.f < 0
 ·rw [if_pos (.inl h1)] at he
  cases he
  simp only [go_sem,h1]
  exact (r0.of ((OF.refl H).push _)).post (hq.of ((OF.refl H).push _).au)
 by_cases h2:((K.P.defs.length:Nat):Int)<=n.f
 ·rw [if_pos (.inr h2)] at he
  cases he
  simp only [go_sem,wZ,dy,h1,h2]
  exact (r0.of ((OF.refl H).push _)).post (hq.of ((OF.refl H).push _).au)
 rw [if_neg (by simp [h1,h2])] at he
 obtain ⟨i,hi⟩:=Int.eq_ofNat_of_zero_le (by omega:0<=n.f)
 rw [hi,Int.toNat_natCast] at he
 have bX:i < K.P.defs.length:=by omega
 have hx:K.P.defs[i]?=some (K.P.defs[i]'bX):=zEq bX
 have dZ:=hz.dp _ (List.getElem_mem bX)
 generalize (K.P.defs[i]'bX)=x at hx dZ
 rw [hx] at he
 cases yz:K.iS[i]? with
 | none=>rw [yz] at he;cases he
 | some sum=>
 rw [yz] at he
 simp only at he
 split at he
 ·rename_i ea
  obtain ⟨b,o,c,B,gx,hv,hB,dI,df,cb,hE⟩:=h.qv.hD.at hx
  simp only [Value.slice.injEq] at hv
  have iz:=hv.1
  obtain ⟨vP,vQ2,wg,u1,u2,u3,bg,rfl,t1,t2,t3⟩:=hE
  obtain ⟨aP,kP,rfl⟩:=t1.val
  have dN:B.cells[o+i * 9+1]?=some (.slice aP x.params.length kP):=vg bg (by decide)
  have j9:(0:Int)<=((i:Nat):Int):=by omega
  have lO:¬b=H.next:=by have:=(h.stat b (by simp [dI])).1;omega
  have qO:¬((i:Nat):Int) < 0:=by omega
  have pF:¬((K.P.defs.length:Nat):Int)<=((i:Nat):Int):=by omega
  simp only [go_sem,wZ,dy,hi,j9,qO,pF,bX,iz,hB,lO,dN]
  have r1:=r0.of lT
  have gq:=hq.of lT.au
  have y1:((H.push ⟨aU n (.slice aA n.args.length kA) (.slice aQ n.pat.length kQ) (.slice aB n.ak.length kB),59,false,false⟩).af H.fz).get H.next=some ⟨aU n (.slice aA n.args.length kA) (.slice aQ n.pat.length kQ) (.slice aB n.ak.length kB),59,false,false⟩:=by rw [bG,aZ,if_pos rfl]
  have n1:((H.push ⟨aU n (.slice aA n.args.length kA) (.slice aQ n.pat.length kQ) (.slice aB n.ak.length kB),59,false,false⟩).af H.fz).next=H.next+1:=rfl
  have z1:∀c,((H.push ⟨aU n (.slice aA n.args.length kA) (.slice aQ n.pat.length kQ) (.slice aB n.ak.length kB),59,false,false⟩).af H.fz).fz c=H.fz c:=fun _=>rfl
  generalize ((H.push ⟨aU n (.slice aA n.args.length kA) (.slice aQ n.pat.length kQ) (.slice aB n.ak.length kB),59,false,false⟩).af H.fz)=H1 at lT r1 gq y1 n1 z1 ⊢
  have BU:∀{c:Nat},H.next<=c->H.fz c=false:=fun h=>r0.zn _ h
  refine kC 2249600790432256 x.params.length (fun j V H2=>V 41=iV (j:Nat)/\∃m g,Gr sb 102 H2 (V 9) ((x.params.take j).map (·.ty)) m g/\(∀c∈m,H1.next<=c/\c < H2.next)/\(∀c∈g,c∈u1)/\OF H1 H2)
   ⟨by simp only [go_sem] <;> rfl,[],[],by simp only [go_sem];exact .inl ⟨rfl,rfl,rfl,rfl⟩,by simp,by simp,OF.refl _⟩ ?_ ?_ (by rfl)
  ·rintro j V H2 hj ⟨ej,m,g,cw,hm,hg,o2⟩
   have hy:x.params[j]?=some (x.params[j]'hj):=zEq hj
   have iX:(x.params.take (j+1)).map (·.ty)=(x.params.take j).map (·.ty)++[(x.params[j]'hj).ty]:=by rw [List.take_add_one,hy,List.map_append];rfl
   generalize (x.params[j]'hj)=t at hy iX
   have n2:=o2.au.nx
   have ID:∀c∈u1,c < H.next:=fun c hc=>(h.stat c (by simp [df c (by simp [hc])])).1
   obtain ⟨bt,ot,ct,Bt,gt,uL,BT,RN,uG,GV,IC⟩:=(t1.ae (H':=H2) fun c hc=>(o2.au.get c (by have:=ID c hc;omega)).trans (lT.au.get c (ID c hc))).at hy
   simp only [Value.slice.injEq] at uL
   have rk:=uL.1
   obtain ⟨vp,td,hQ⟩:=IC
   obtain ⟨ap,kp,rfl⟩:=hQ.val
   have D6:ot+j * 6+6<=Bt.cells.length:=GV
   have td:(Bt.cells.drop (ot+j * 6)).take 6=[ah t.name,iV t.ty.kind,iV t.ty.cap,iV t.ty.rc,ah t.ty.name,.slice ap t.ty.pat.length kp]:=td
   have jh:IntKind.wrap .i64 (((j:Nat):Int)+1)=((j+1:Nat):Int):=cG hj (by omega)
   have dw:H.fz H2.next=false:=BU (by omega)
   have WY:(H2.af H.fz).get bt=some Bt:=BT
   simp only [go_sem,ej,hj,rk,BT,WY,D6,td,dw,eX Md (by decide) (by decide)]
   obtain ⟨H3,dv⟩:∃H3,H3=(((H2.af H.fz).push ⟨[ah t.name,iV t.ty.kind,iV t.ty.cap,iV t.ty.rc,ah t.ty.name,.slice ap t.ty.pat.length kp],104,false,false⟩).af H.fz).push ⟨[iV t.ty.kind,iV t.ty.cap,iV t.ty.rc,ah t.ty.name,.slice ap t.ty.pat.length kp],102,false,false⟩:=⟨_,rfl⟩
   have n3:H3.next=H2.next+1+1:=by rw [dv];rfl
   have o3:aG H2 H3:=by rw [dv];exact ((((Fr.refl [] H2).af _ |>.push _).af _).push _).au
   have b3:H3.get (H2.next+1)=some ⟨[iV t.ty.kind,iV t.ty.cap,iV t.ty.rc,ah t.ty.name,.slice ap t.ty.pat.length kp],102,false,false⟩:=by rw [dv,aZ];exact if_pos rfl
   rw [<-dv]
   clear dv
   refine lA (r:=sb) (x:=t.ty) (g':=gt) Md (cw.ae (fun c hc=>o3.get c (hm c hc).2) (fun c hc=>o3.get c (by have:=ID c (hg c hc);omega))) (fun c hc=>by have:=(hm c hc).2;omega) (fun c hc=>by have:=ID c (hg c hc);omega) (fun c hc=>⟨by have:=ID c (uG c hc);omega,fun e=>by have:=ID c (uG c hc);have:=(hm c e).1;omega⟩) (fun c hc=>BU (by have:=(hm c hc).1;omega)) b3 ⟨_,rfl,hQ.ae fun c hc=>o3.get c (by have:=ID c (uG c hc);omega)⟩ rfl (by rw [List.length_map,List.length_take];omega) ?_
   intro v4 H4 j5 HT k4 fr4 i9
   simp only [go_sem,ej,jh]
   have Pk:aG H1 H3:=o2.au.trans o3
   have o14:aG H1 H4:=⟨by have:=Pk.nx;omega,fun c hc=>(k4 c (by have:=Pk.nx;omega) (fun e=>by have:=(hm c e).1;omega)).trans (Pk.get c hc),fun c B hB hr=>Pk.ro c B (fr4.ro c B hB hr) hr⟩
   rw [iX]
   refine ⟨[H3.next],g++gt,j5.ae (fun _ _=>rfl) (fun _ _=>rfl),fun c hc=>?_,fun c hc=>?_,⟨((o14.fr []).af _).au,fun c _=>(z1 c).symm⟩⟩
   ·rw [List.mem_singleton] at hc;subst hc;exact ⟨by omega,by omega⟩
   ·rcases List.mem_append.1 hc with e | e
    ·exact hg c e
    ·exact uG c e
  rintro V H2 ⟨ej,m,g,cw,hm,hg,o2⟩
  rw [List.take_length] at cw
  have aoH:H2.get w=some ⟨uO K vE vF,82,false,false⟩:=(o2.au.get w (by omega)).trans ((lT.au.get w lw).trans dy)
  have y2:=(o2.au.get H.next (by omega)).trans y1
  have n2:=o2.au.nx
  obtain ⟨b5,o5,c5,B5,g5,ji,wm,Rk,GA,GB,tz⟩:=(h.hS.ae (H':=H2) fun c hc=>(o2.au.get c (by have:=(h.stat c (by simp [hc])).1;omega)).trans (lT.au.get c (h.stat c (by simp [hc])).1)).at yz
  rw [hvS] at ji
  simp only [Value.slice.injEq] at ji
  have Pn:=ji.1
  obtain ⟨vs,jW,gG⟩:=tz
  obtain ⟨yM,ks,rfl⟩:=gG.val
  have DL:B5.cells[o5+i]?=some (.slice yM sum.length ks):=by
   have:=vg (i:=0) jW (by decide)
   rw [Nat.add_zero,show i * Rp.int.slice.sz=i from Nat.mul_one i] at this
   exact this
  have dw:H.fz H2.next=false:=BU (by omega)
  have jC:i < K.iS.length:=(List.getElem?_eq_some_iff.1 yz).1
  simp only [go_sem,ej,aoH,y2,hvS,hi,j9,jC,Pn,wm,DL,dw]
  have os:OF H1 (((H2.af H.fz).push ⟨[.slice yM sum.length ks],22,false,false⟩).af H.fz):=⟨o2.au.trans ((((Fr.refl [] H2).af H.fz).push _).af _).au,fun c _=>(z1 c).symm⟩
  have ss:(((H2.af H.fz).push ⟨[.slice yM sum.length ks],22,false,false⟩).af H.fz).get H2.next=some ⟨[.slice yM sum.length ks],22,false,false⟩:=by rw [bG,aZ];exact if_pos rfl
  have ns:(((H2.af H.fz).push ⟨[.slice yM sum.length ks],22,false,false⟩).af H.fz).next=H2.next+1:=rfl
  have mj:Gr sb 102 (((H2.af H.fz).push ⟨[.slice yM sum.length ks],22,false,false⟩).af H.fz) (V 9) (x.params.map (·.ty)) m g:=cw.ae (fun c hc=>bO (hm c hc).2) (fun c hc=>bO (by have:=(h.stat c (by simp [df c (by simp [hg c hc])])).1;show c < H2.next;omega))
  have Tv:∀c,c < H2.next->(((H2.af H.fz).push ⟨[.slice yM sum.length ks],22,false,false⟩).af H.fz).get c=H2.get c:=fun c hc=>bO hc
  generalize (((H2.af H.fz).push ⟨[.slice yM sum.length ks],22,false,false⟩).af H.fz)=Hs at os ss ns mj Tv ⊢
  have rs:=r1.of os
  have hqs:=gq.of os.au
  obtain ⟨aK,hvK⟩:=mj.val
  have ZI:Sf Hs Hs w mF (H2.next::H.next::(m++(g++(g5++gA)))):=fun c hc=>by
   have mN:∀c∈(K.px.gM++(K.px.gD++K.px.gN))++(K.gS++K.gB),c < H.next/\c≠w/\c∉mF:=h.stat
   have xq:∀c∈mF,c < H.next:=fun c hc=>(h.own c (.inr hc)).1
   refine ⟨rfl,?_⟩
   have ZJ:∀c,H.next<=c->c≠w/\c∉mF:=fun c hc=>⟨by omega,fun e=>by have:=xq c e;omega⟩
   simp only [List.mem_cons,List.mem_append] at hc
   rcases hc with e | e | e | e | e | e
   ·subst e;exact ⟨by omega,ZJ _ (by omega)⟩
   ·subst e;exact ⟨by omega,ZJ _ (by omega)⟩
   ·have:=hm c e;exact ⟨by omega,ZJ _ (by omega)⟩
   ·have:=mN c (by simp [df c (by simp [hg c e])]);exact ⟨by omega,this.2⟩
   ·have:=mN c (by simp [GA c e]);exact ⟨by omega,this.2⟩
   ·have:=hn.lt c (by simp [e]);exact ⟨by omega,this.2⟩
  refine kC 604460603964305373683714 sum.length (fun k V6 H6=>V6 61=iV (k:Nat)/\∃q1 bu ep f1,WR K H w mF H6 bu ep/\j8 H6 w ep (V6 1) q1 f1/\DY (x.params.map (·.ty)) n.args sum place (sum.drop k) k q1 bu=some R/\Sf Hs H6 w ep (H2.next::H.next::(m++(g++(g5++gA)))))
   ⟨by simp only [go_sem] <;> rfl,q,st,mF,f,rs,by simp only [go_sem];exact hqs,he,ZI⟩ ?_ ?_ (by rfl)
  ·rintro k V6 H6 hk ⟨ek,q1,bu,ep,f1,r6,uP,mv,i7⟩
   have n6:=r6.fr.nx
   rw [IM hk,DY] at mv
   have adr:Sl .int H6 (.slice yM sum.length ks) sum g5:=gG.ae fun c hc=>(i7 c (by simp [hc])).1.trans (Tv c (by have:=(h.stat c (by simp [GA c hc])).1;omega))
   have hA6:Sl jy H6 (.slice aA n.args.length kA) n.args gA:=hn.hA.ae fun c hc=>by
    have fg:=(hn.lt c (by simp [hc])).1
    exact (i7 c (by simp [hc])).1.trans ((Tv c (by omega)).trans ((o2.au.get c (by omega)).trans (lT.au.get c fg)))
   have hK6:Sl sb H6 (.slice aK (x.params.map (·.ty)).length (x.params.map (·.ty)).length) (x.params.map (·.ty)) (m++g):=by
    rw [<-hvK];exact mj.sl.ae fun c hc=>(i7 c (by rcases List.mem_append.1 hc with e | e <;> simp [e])).1
   have hS6:H6.get H2.next=some ⟨[.slice yM sum.length ks],22,false,false⟩:=(i7 H2.next (by simp)).1.trans ss
   have Lq:H6.get H.next=some ⟨aU n (.slice aA n.args.length kA) (.slice aQ n.pat.length kQ) (.slice aB n.ak.length kB),59,false,false⟩:=(i7 H.next (by simp)).1.trans ((Tv H.next (by omega)).trans y2)
   have lN6:=(i7 H.next (by simp)).2.1
   have lS6:=(i7 H2.next (by simp)).2.1
   obtain ⟨b8,o8,c8,B8,rh,ph,_,Fu⟩:=adr.j0 hk
   simp only [Value.slice.injEq] at rh
   have aeT:=rh.1
   have aCd:sum.length < 1000000:=by omega
   have jj:IntKind.wrap .i64 (((k:Nat):Int)+1)=((k+1:Nat):Int):=cG hk (by omega)
   have tH:H.fz H6.next=false:=BU (by omega)
   obtain ⟨a1,k1,nC⟩:=uP.sl.val
   have nN6:¬H.next=H6.next:=by omega
   have r7:=(r6.told.of ((OF.refl (H6.af H.fz)).push ⟨[iV (k:Nat)],3,false,false⟩)).told
   have lu:=((uP.af (fz:=H.fz)).of (aG.push (H6.af H.fz) ⟨[iV (k:Nat)],3,false,false⟩)).af (fz:=H.fz)
   have jO:=((i7.af (fz:=H.fz)).of (aG.push (H6.af H.fz) ⟨[iV (k:Nat)],3,false,false⟩)).af (fz:=H.fz)
   have o7:aG H6 (((H6.af H.fz).push ⟨[iV (k:Nat)],3,false,false⟩).af H.fz):=((((Fr.refl [] H6).af H.fz).push _).af _).au
   have hL7:(((H6.af H.fz).push ⟨[iV (k:Nat)],3,false,false⟩).af H.fz).get H6.next=some ⟨[iV (k:Nat)],3,false,false⟩:=by rw [bG,aZ];exact if_pos rfl
   have E5:(((H6.af H.fz).push ⟨[iV (k:Nat)],3,false,false⟩).af H.fz).next=H6.next+1:=rfl
   by_cases Tw:sum.getD k 0=((k:Nat):Int)
   ·rw [if_pos Tw] at mv
    simp only [go_sem,ek,hk,aeT,ph,Fu,tH,Tw,nN6,Lq,hvK]
    generalize (((H6.af H.fz).push ⟨[iV (k:Nat)],3,false,false⟩).af H.fz)=H7 at r7 lu jO o7 hL7 E5 ⊢
    have hS7:=(o7.get H2.next lS6).trans hS6
    have aoI:=adr.ae (H':=H7) fun c hc=>o7.get c (i7 c (by simp [hc])).2.1
    refine ag.by (aa8 (asked:=fun j=>decide (sum.getD j 0=((k:Nat):Int))) (Tu:=115) (ca:=fun i=>#[iV i,pV H2.next,pV H6.next]) (hA6.ae fun c hc=>o7.get c (i7 c (by simp [hc])).2.1) (fun c hc=>(jO c (by simp [hc])).2.1) (hK6.ae fun c hc=>o7.get c (i7 c (by rcases List.mem_append.1 hc with e | e <;> simp [e])).2.1) (fun c hc=>(jO c (by rcases List.mem_append.1 hc with e | e <;> simp [e])).2.1) hn.ok.a (fun i=>ajh (c:=[pV H2.next,pV H6.next]) (a:=[iV i])) fun i H' dU fO=>aic ((fO.get H2.next (jO H2.next (by simp)).2.1).trans hS7) ((fO.get H6.next (by omega)).trans hL7) (aoI.ae fun c hc=>fO.get c (jO c (by simp [hc])).2.1) (by rw [List.length_map] at dU;omega)) ?_
    rintro v9 H9 - ⟨o9,z9,f9,hs9,ho9⟩
    have r9:=r7.of (o9.of z9)
    have KS:=lu.of o9
    have arK:=jO.of o9
    cases nU:JR q1 place (sV (x.params.map (·.ty)) (fun j=>decide (sum.getD j 0=((k:Nat):Int))) n.args 0) bu with
    | none=>rw [nU] at mv;cases mv
    | some R1=>
    rw [nU] at mv
    simp only at mv
    simp only [go_sem]
    refine ag.by (UQ r9.wq KS hs9 ho9.hi nU) ?_
    rintro v10 du - ⟨NI,f10,Pp,D8,Es,z10,Gx⟩
    have cS:=(r9.call Pp D8 Es).told
    simp only [go_sem,ek,jj]
    exact ⟨R1.1,R1.2,NI,f10,cS,Gx.af,mv,(arK.step Es D8).af⟩
   ·rw [if_neg Tw] at mv
    simp only [go_sem,ek,hk,aeT,ph,Fu,tH,Tw,jj]
    exact ⟨q1,bu,ep,f1,r7,lu,mv,jO⟩
  ·rintro V6 H6 ⟨ek,q1,bu,ep,f1,r6,uP,mv,i7⟩
   rw [List.drop_length,DY] at mv
   cases mv
   simp only [go_sem,ek]
   exact r6.post uP
 ·cases he
theorem yL.sl {H:ad} {v:Value} {l:List Int} {b:Nat} (h:yL H v l b):∃f,Sl .int H v l f/\∀c∈f,c=b:=by
 obtain ⟨c,ds,op,rfl,h2,h3⟩:=h
 by_cases hl:l=[]
 ·subst hl
  exact ⟨[],.inr (.inl ⟨_,c,rfl,rfl,rfl⟩),by simp⟩
 ·rw [zAp,List.length_map] at h3
  exact ⟨[b],.inr (.inr ⟨b,0,c,_,[],rfl,hl,by omega,rfl,h2,(PU H l).more ds⟩),by simp⟩
def QX (box:List Bool) (y s:Int):Bool:=decide (s≠y)&&(decide (s < ((box.length:Nat):Int))&&box.getD s.toNat false)
def QY (P:cC) (box:List Bool) (q:List Int) (place:Int) (n:aJ) (st:WS):Option (List Int × WS):=
 JR q place (n.y::(Gf P.nodes place).filter (QX box n.y)) st
theorem T8 (z:Nat):∀n,∀s∈A8 z n,0<=s
 | 0,s,hs=>by cases hs
 | n+1,s,hs=>by
  rw [A8] at hs
  split at hs
  ·rcases List.mem_append.1 hs with e | e
   ·exact T8 z n s e
   ·rw [List.mem_singleton] at e;omega
  ·exact T8 z n s hs
theorem ahd (ns:List aJ) (place:Int):(Gf ns place).length<=40/\∀s∈Gf ns place,0<=s:=by
 unfold Gf
 split
 ·exact ⟨by simp,by simp⟩
 ·exact ⟨T6 _ 40,fun s hs=>T8 _ 40 s hs⟩
theorem alB {K:jQ} {H:ad} {w:Nat} {st:WS} {mF:List Nat} (h:WQ K H w st mF) (hz:tP K.P) {vq:Value} {q:List Int} {f:List Nat} (hq:j8 H w mF vq q f) {place:Int} {n:aJ} {vA vQ vB:Value} {gA gB:List Nat} (hn:Po H w mF n vA vQ vB gA gB) {R:List Int × WS} (he:QY K.P K.box q place n st=some R):
  aj Tryz.prog 89 #[pV w,vq,iV place,.agg (aU n vA vQ vB).toArray] H (fun v H'=>A9 K H w mF R.2 R.1 v H'):=by
 refine ni (l:=[_,_,_,_]) _ mixed Tryz.func89 anA [.tmp 8] (show 4<=58 by decide) rfl fun hf=>?_
 simp only [Tryz.f89,Option.getD_some]
 have r0:=WR.start h hf
 obtain ⟨aA,kA,rfl⟩:=hn.hA.val
 obtain ⟨aQ,kQ,rfl⟩:=hn.hQ
 obtain ⟨aB,kB,rfl⟩:=hn.hB.val
 obtain ⟨aq,kq,rfl⟩:=hq.sl.val
 obtain ⟨aX,kX,Tx⟩:=h.hB.val
 obtain ⟨vE,vF,gE,dy,hE,qw,oi,en⟩:=h.bj
 have lw:=r0.lw
 have wZ:¬w=H.next:=by omega
 have arL:¬w=H.next+1:=by omega
 unfold QY at he
 simp only [go_sem,AQ,wZ,arL,dy]
 obtain ⟨H1,cu⟩:∃H1,H1=(((H.push ⟨aU n (.slice aA n.args.length kA) (.slice aQ n.pat.length kQ) (.slice aB n.ak.length kB),59,false,false⟩).af H.fz).push ⟨[.int .i64 n.y],3,false,false⟩).af H.fz:=⟨_,rfl⟩
 have lT:OF H H1:=by rw [cu];exact ⟨((((Fr.refl [] H).push _ |>.af _).push _).af _).au,fun _ _=>rfl⟩
 have y1:H1.get H.next=some ⟨aU n (.slice aA n.args.length kA) (.slice aQ n.pat.length kQ) (.slice aB n.ak.length kB),59,false,false⟩:=by rw [cu,bG,aZ,if_neg (by show¬H.next=H.next+1;omega),bG,aZ,if_pos rfl]
 have l1:H1.get (H.next+1)=some ⟨[.int .i64 n.y],3,false,false⟩:=by rw [cu,bG,aZ];exact if_pos rfl
 have n1:H1.next=H.next+1+1:=by rw [cu];rfl
 have z1:∀c,H1.fz c=H.fz c:=fun c=>by rw [cu];rfl
 rw [<-cu]
 clear cu
 have r1:=r0.of lT
 refine ag.by (aj.Dx (aly r1.wq.qv.hN (fun c hc=>r1.wq.qv.lt c (by simp [hc])) hz.n hz.nd) fun v H' fz ⟨h1,f',h2,h3⟩=>⟨((h1.fr []).af _).au,f',h2.ae fun _ _=>rfl,⟨h3.nd,h3.lo,h3.hi⟩⟩) ?_
 rintro v2 H2 - ⟨⟨o2,f2,fh,dh⟩,z2⟩
 obtain ⟨dC,Pd⟩:=ahd K.P.nodes place
 generalize Gf K.P.nodes place=fr at fh he dC Pd
 obtain ⟨a2,k2,rfl⟩:=fh.val
 have r2:=r1.of (o2.of z2)
 have Tz:=lT.trans (o2.of z2)
 have n2:=o2.nx
 have BU:∀{c:Nat},H.next<=c->H.fz c=false:=fun h=>r0.zn _ h
 have y2:=(o2.get H.next (by omega)).trans y1
 have w2:H2.get w=some ⟨uO K vE vF,82,false,false⟩:=(Tz.au.get w lw).trans dy
 simp only [go_sem]
 refine kC 9007199250549248 fr.length (fun k V H3=>V 22=iV (k:Nat)/\∃acc bl,yL H3 (V 9) acc bl/\H.next+1<=bl/\bl < H3.next/\(bl=H.next+1∨H2.next<=bl)/\acc.length<=k+1/\OF H H3/\(∀c,c < H2.next->c≠H.next+1->H3.get c=H2.get c)/\H2.next<=H3.next/\n.y::fr.filter (QX K.box n.y)=acc++(fr.drop k).filter (QX K.box n.y))
  ⟨by simp only [go_sem] <;> rfl,[n.y],H.next+1,by simp only [go_sem];exact ⟨1,[],false,rfl,by rw [bG,o2.get _ (by omega)];exact l1,rfl⟩,Nat.le_refl _,by show H.next+1 < H2.next;omega,.inl rfl,by simp,⟨((Tz.au.fr []).af _).au,fun _ _=>rfl⟩,fun c _ _=>rfl,Nat.le_refl _,rfl⟩ ?_ ?_ (by rfl)
 ·rintro k V H3 hk ⟨ek,acc,bl,fH,Kg,cb,RT,NC,Dy,k3,n3,sK⟩
  obtain ⟨b8,o8,c8,B8,rh,ph,aCe,Fu⟩:=(fh.ae (H':=H3) fun c hc=>k3 c (dh.hi c hc) (by have:=dh.lo c hc;omega)).j0 hk
  simp only [Value.slice.injEq] at rh
  have TA:=rh.1
  have jj:IntKind.wrap .i64 (((k:Nat):Int)+1)=((k+1:Nat):Int):=cG hk (by omega)
  rw [IM hk,List.filter_cons] at sK
  have py:fr.getD k 0∈fr:=by simp [List.getD_eq_getElem?_getD,hk]
  have nu:=Pd _ py
  obtain ⟨s,Zr⟩:∃s,s=fr.getD k 0:=⟨_,rfl⟩
  rw [<-Zr] at Fu sK nu
  have y3:=(k3 H.next (by omega) (by omega)).trans y2
  have w3:=(k3 w (by omega) (by omega)).trans w2
  have Kt:QX K.box n.y s=(decide (s≠n.y)&&(decide (s < ((K.box.length:Nat):Int))&&K.box.getD s.toNat false)):=rfl
  by_cases h1:s=n.y
  ·rw [Kt,show decide (s≠n.y)=false from by simp [h1],Bool.false_and,if_neg (by decide)] at sK
   simp only [go_sem,ek,hk,TA,ph,Fu,y3,h1,jj]
   exact ⟨acc,bl,fH.ae rfl,Kg,cb,RT,by omega,⟨((Dy.au.fr []).af _).au,fun _ _=>rfl⟩,k3,n3,sK⟩
  by_cases h2:s < ((K.box.length:Nat):Int)
  ·obtain ⟨t,rfl⟩:=Int.eq_ofNat_of_zero_le nu
   have eF:t < K.box.length:=by omega
   obtain ⟨b9,o9,c9,B9,g9,Dl,hB9,aCf,nU,aCg,YR⟩:=(h.hB.ae (H':=H3) fun c hc=>Dy.au.get c (h.stat c (by simp [hc])).1).at (zEq eF)
   rw [Tx] at Dl
   simp only [Value.slice.injEq] at Dl
   have ha9:=Dl.1
   have hc9:B9.cells[o9+t]?=some (.bool (K.box.getD t false)):=by
    have:=vg (i:=0) (Rp.aiJ.1 YR).1 (by decide)
    rw [Nat.add_zero,show t * Rp.bool.sz=t from Nat.mul_one t] at this
    rw [this,List.getD_eq_getElem?_getD,zEq eF];rfl
   rw [Kt,show decide (((t:Nat):Int)≠n.y)=true from by simp [h1],show decide (((t:Nat):Int) < ((K.box.length:Nat):Int))=true from by simp [eF],Bool.true_and,Bool.true_and,Int.toNat_natCast] at sK
   have EC:(0:Int)<=((t:Nat):Int):=by omega
   by_cases h3:K.box.getD t false=true
   ·rw [if_pos h3] at sK
    simp only [go_sem,ek,hk,TA,ph,Fu,y3,w3,Tx,h1,h2,eF,EC,ha9,hB9,hc9,h3,AQ]
    refine Uu (xs:=[((t:Nat):Int)]) (fH.ae (bO (show bl < (H3.af H.fz).next from cb))) (Nat.lt_succ_of_lt cb) (BU (by omega)) (by rw [aZ];exact if_pos rfl) (by simp) (by simp only [List.length_cons,List.length_nil];omega) ?_
    intro v5 H5 b5 arM fj WV f5
    have g5:∀c,c < H3.next->c≠bl->H5.get c=H3.get c:=fun c hc hn=>(f5.get c (Nat.lt_succ_of_lt hc) (by simp [hn])).trans (bO hc)
    have n5:H3.next+1<=H5.next:=f5.nx
    have o5:aG H H5:=⟨by omega,fun c hc=>(g5 c (by omega) (by omega)).trans (Dy.au.get c hc),fun c B hB hr=>by
     have h7:=f5.ro c B hB hr
     rw [aZ] at h7
     split at h7
     ·cases h7;cases hr
     ·exact Dy.au.ro c B h7 hr⟩
    have aCh:b5=bl∨b5=H3.next+1:=fj
    simp only [go_sem,ek,jj]
    refine ⟨acc++[((t:Nat):Int)],b5,arM.ae rfl,by omega,WV,by omega,by rw [zAp,List.length_singleton];omega,⟨((o5.fr []).af _).au,fun _ _=>rfl⟩,fun c hc hn=>(g5 c (by omega) (by omega)).trans (k3 c hc hn),by omega,by rw [sK];simp⟩
   ·rw [if_neg h3] at sK
    simp only [Bool.not_eq_true] at h3
    simp only [go_sem,ek,hk,TA,ph,Fu,y3,w3,Tx,h1,h2,eF,EC,ha9,hB9,hc9,h3,jj]
    exact ⟨acc,bl,fH.ae rfl,Kg,cb,RT,by omega,⟨((Dy.au.fr []).af _).au,fun _ _=>rfl⟩,k3,n3,sK⟩
  ·rw [Kt,show decide (s < ((K.box.length:Nat):Int))=false from by simp [h2],Bool.false_and,Bool.and_false,if_neg (by decide)] at sK
   simp only [go_sem,ek,hk,TA,ph,Fu,y3,w3,Tx,h1,h2,jj]
   exact ⟨acc,bl,fH.ae rfl,Kg,cb,RT,by omega,⟨((Dy.au.fr []).af _).au,fun _ _=>rfl⟩,k3,n3,sK⟩
 ·rintro V H3 ⟨ek,acc,bl,fH,Kg,cb,RT,NC,Dy,k3,n3,sK⟩
  rw [List.drop_length,List.filter_nil,List.append_nil] at sK
  rw [sK] at he
  have nC:=fH
  obtain ⟨fl,ea,arN⟩:=fH.sl
  simp only [go_sem,ek]
  have r3:=(r0.of Dy)
  refine ag.by (UQ r3.told.wq ((hq.of Dy.au).af) (ea.ae fun _ _=>rfl) (fun c hc=>by rw [arN c hc];exact cb) he) ?_
  rintro v5 H5 - C2
  simp only [go_sem]
  exact r3.told.fin C2
theorem aa9 {H:ad}:∀{cs:List Value} {l:List Int} {f:List Nat},dT .int H cs l f->cs.length=l.length->lC cs=true
 | cs,[],f,_,h=>by rw [List.length_eq_zero_iff.1 h];rfl
 | cs,x::l,f,h,hl=>by
  obtain ⟨c1,c2,f1,f2,rfl,rfl,h1,h2⟩:=h
  rw [(Rp.wG.1 h1).1] at hl ⊢
  simp only [zAp,List.length_cons,List.length_nil] at hl
  rw [List.singleton_append,Px,aa9 h2 (by omega)]
  rfl
theorem ahe {X:Nat->Bool} {H:ad} {v x:Value} {l m:List Int} {f g:List Nat} {K:Value->ad->Prop} {tg:Tag K} (en:Ow .int 3 H v l f) (hf:∀y∈f,y < H.next) (cP:f.Nodup) (hX:∀y∈f,X y=false) (hs:Sl .int H x m g) (hn:l.length+m.length < 10000000000)
  (hk:∀v' H' f',Ow .int 3 H' v' (l++m) f'->f'.Nodup->(∀y∈f',y=H.next∨y∈f)->(∀y∈f',y < H'.next)->Fr f H H'->K v' H'):fe Tryz.prog X H (iZ Tryz.prog 22 v x H) K tg:=by
 obtain ⟨cs,g2,e1,e2,e3,_⟩:=hs.src (size:=1) rfl
 have:=AR e3;subst this
 by_cases hm:m=[]
 ·subst hm
  have bg:cs=[]:=List.length_eq_zero_iff.1 (by simpa using e2)
  subst bg
  rcases en with ⟨rfl,rfl,rfl⟩ | ⟨b,cs,g,rfl,h2,rfl,h4,h5,h6⟩
  ·rw [aaN iR e1,agS]
   exact hk _ _ [] (Ow.nil _ _ _) List.nodup_nil (by simp) (by simp) (.refl _ _)
  ·have hg:=AR h6;subst hg
   have h5':cs.length=l.length:=by rw [h5];exact Nat.mul_one _
   rw [Mc (n:=0) (new:=[]) (sz:=1) (o:=0) (sl:=l.length) (sc:=l.length) iR e1 rfl h4 rfl (by show 0+l.length * 1<=cs.length;omega) (by decide) (Nat.le_refl _) rfl,Qa (hX b (by simp))]
   have fR:cY cs (0+l.length * 1) []=cs:=by unfold cY;simp
   rw [Nat.add_zero]
   simp only
   rw [fR]
   refine hk _ _ [b] (.inr ⟨b,cs,[],by rw [List.append_nil],by simpa using h2,rfl,by rw [aH,if_pos rfl],by rw [List.append_nil];exact h5,by rw [List.append_nil];exact h6.ae (by simp)⟩) cP (fun y hy=>.inr hy) (fun y hy=>hf y hy) ((Fr.refl _ _).ai (.inl (by simp)) _)
 ·refine abq (r:=.int) (g:=[]) iR en hf (by rw [List.append_nil];exact cP) (by simp) hX e1 (by simpa using e2) ?_ e3 hm (by omega) ?_
  ·exact aa9 e3 (by rw [e2];exact Nat.mul_one _)
  ·intro v' H' f' h1 h2 h3 h4 h5 h6 h7 h8
   exact hk v' H' f' h1 h2 (fun y hy=>by
    rcases h3 y hy with e | e | e
    ·exact .inl e
    ·exact .inr e
    ·cases e) h4 ⟨by omega,fun c hc hn=>h6 c hc hn,h8⟩
def FQ (jb:Int->Option (List Int)) (i:Int):List Int->List Int->Option (List Int)
 | [],acc=>some acc
 | x::l,acc=>if i < x then
   match jb x with
   | some r=>if acc.length+r.length < 1000000 then FQ jb i l (acc++r) else none
   | none=>none
  else FQ jb i l acc
def uZ (ns:List aJ):Nat->Int->List Int->Option (List Int)
 | 0,_,_=>none
 | k+1,i,acc=>if i < 0∨((ns.length:Nat):Int)<=i then some acc else
   if acc.length < 1000000 then
    match FQ (fun x=>uZ ns k x []) i [(ns.getD i.toNat {}).a,(ns.getD i.toNat {}).b] (if Jm (ns.getD i.toNat {}).kind=true then acc++[(ns.getD i.toNat {}).x] else acc) with
    | some Gk=>if (ns.getD i.toNat {}).next<=i then some Gk else uZ ns k (ns.getD i.toNat {}).next Gk
    | none=>none
   else none
def WZ (K:jQ) (fuel:Nat):Prop:=∀(H:ad) (w:Nat) (vE vF:Value) (i:Int) (R:List Int),qu H K.P K.px->H.get w=some ⟨uO K vE vF,82,false,false⟩->w < H.next->uZ K.P.nodes fuel i []=some R->
 aj Tryz.prog 118 #[pV w,iV i] H (fun r H'=>aG H H'/\(∀c,H'.fz c=H.fz c)/\∃f',Sl .int H' r R f'/\iM H.next H' f')
theorem aid {H:ad} {a b:Int}:qx Tryz.prog 22 2 [(0,.int .i64 a),(1,.int .i64 b)] H=.ok (.slice (some ⟨H.next,0,none⟩) 2 2) (H.push ⟨[.int .i64 a,.int .i64 b],3,false,false⟩):=
 AK iR (z:=[.int .i64 0]) (by kernel_rfl) (by decide) (by decide) rfl
theorem agr {K:jQ} (hz:tP K.P) {fuel:Nat} (ih:∀j,j < fuel->WZ K j):WZ K fuel:=by
 intro H w vE vF i0 R lI dy lw he0
 refine aj.told ?_
 refine ni (l:=[_,_]) _ mixed Tryz.func118 ajn [.tmp 4] (show 2<=65 by decide) rfl fun hf=>?_
 simp only [Tryz.f118,Option.getD_some]
 have BU:∀{c:Nat},H.next<=c->H.fz c=false:=fun h=>hf.fresh h
 simp only [go_sem]
 refine L3 18446744073709550304 (fun k V H2=>k<=fuel/\∃i acc fa,V 6=iV i/\Ow .int 3 H2 (V 5) acc fa/\iM H.next H2 fa/\acc.length<=1000000/\uZ K.P.nodes k i acc=some R/\OF H H2) (n:=fuel)
  ⟨Nat.le_refl _,i0,[],[],by simp only [go_sem] <;> rfl,by simp only [go_sem];exact Ow.nil _ _ _,⟨List.nodup_nil,by simp,by simp⟩,by simp,he0,(OF.refl H).told⟩ ?_ (by rfl)
 rintro k V H2 ⟨ZD,i,acc,fa,ei,en,dr,NC,he,o2⟩
 cases k with
 | zero=>rw [uZ] at he;cases he
 | succ k=>
 rw [uZ] at he
 have n2:=o2.au.nx
 have w2:=(o2.au.get w lw).trans dy
 by_cases h1:i < 0
 ·rw [if_pos (.inl h1)] at he
  cases he
  have iJ:¬0<=i:=by omega
  simp only [go_sem,ei,iJ,h1]
  exact ⟨((o2.au.fr []).af _).au,fun _=>trivial,fa,en.sl.ae fun _ _=>rfl,⟨dr.nd,dr.lo,dr.hi⟩⟩
 by_cases h2:((K.P.nodes.length:Nat):Int)<=i
 ·rw [if_pos (.inr h2)] at he
  cases he
  have iJ:0<=i:=by omega
  have wY:¬i < ((K.P.nodes.length:Nat):Int):=by omega
  simp only [go_sem,ei,iJ,wY,w2]
  exact ⟨((o2.au.fr []).af _).au,fun _=>trivial,fa,en.sl.ae fun _ _=>rfl,⟨dr.nd,dr.lo,dr.hi⟩⟩
 rw [if_neg (by simp [h1,h2])] at he
 split at he
 ·rename_i aAX
  obtain ⟨a,rfl⟩:=Int.eq_ofNat_of_zero_le (by omega:0<=i)
  have iT:a < K.P.nodes.length:=by omega
  have ma:(0:Int)<=((a:Nat):Int):=by omega
  refine lB 8386560 (fun V3 H3=>H3=H2.af H.fz) (by simp only [go_sem,ei,ma,iT,w2]) ?_ (by rfl)
  rintro V3 _ rfl
  rw [I8]
  have hy:K.P.nodes[a]?=some (K.P.nodes[a]'iT):=zEq iT
  have iH:K.P.nodes.getD a {}=K.P.nodes[a]'iT:=by rw [List.getD_eq_getElem?_getD,hy];rfl
  rw [Int.toNat_natCast,iH] at he
  generalize (K.P.nodes[a]'iT)=y at hy he
  obtain ⟨dW,oy,cy,By,gy,wy,oJ,Nz,wu,Er,Dv⟩:=(lI.hN.ae (H':=H2) fun c hc=>o2.au.get c (lI.lt c (by simp [hc]))).at hy
  simp only [Value.slice.injEq] at wy
  have oI:=wy.1
  obtain ⟨wA,wQ,wB,w1,w22,w3,lp,rfl,q1,q2,q3⟩:=Dv
  obtain ⟨b1,j1,rfl⟩:=q1.val
  obtain ⟨b2,j2,rfl⟩:=q2.val
  obtain ⟨b3,j3,rfl⟩:=q3.val
  have rB:oy+a * 20+20<=By.cells.length:=Er
  have lp:(By.cells.drop (oy+a * 20)).take 20=aU y (.slice b1 y.args.length j1) (.slice b2 y.pat.length j2) (.slice b3 y.ak.length j3):=lp
  have dw:H.fz H2.next=false:=BU (by omega)
  have RP:(H2.af H.fz).get dW=some By:=oJ
  have arO:¬w=H2.next:=by omega
  obtain ⟨Kp,MQ⟩:∃Kp,Kp=if Jm y.kind=true then acc++[y.x] else acc:=⟨_,rfl⟩
  rw [<-MQ] at he
  refine ja (lB 549747425440 (fun V4 H4=>V4 7=pV H2.next/\∃Pq,Ow .int 3 H4 (V4 5) Kp Pq/\iM H.next H4 Pq/\Kp.length<=1000000/\OF H H4/\H2.next < H4.next/\H2.next∉Pq/\H4.get H2.next=some ⟨aU y (.slice b1 y.args.length j1) (.slice b2 y.pat.length j2) (.slice b3 y.ak.length j3),59,false,false⟩) ?_ ?_ (by rfl))
  ·simp only [go_sem,ei,w2,ma,iT,oI,oJ,RP,rB,lp,dw,arO]
   obtain ⟨H3,dv⟩:∃H3,H3=((H2.af H.fz).push ⟨aU y (.slice b1 y.args.length j1) (.slice b2 y.pat.length j2) (.slice b3 y.ak.length j3),59,false,false⟩).af H.fz:=⟨_,rfl⟩
   rw [<-dv]
   have o3:aG H2 H3:=by rw [dv];exact ((((Fr.refl [] H2).af H.fz).push _).af _).au
   have y3:H3.get H2.next=some ⟨aU y (.slice b1 y.args.length j1) (.slice b2 y.pat.length j2) (.slice b3 y.ak.length j3),59,false,false⟩:=by rw [dv,bG,aZ];exact if_pos rfl
   have n3:H3.next=H2.next+1:=by rw [dv];rfl
   clear dv
   refine ag.by abE ?_
   rintro _ H4 - ⟨rfl,o4⟩
   have BV:=o3.trans o4
   have n4:=o4.nx
   have y4:=(o4.get H2.next (by omega)).trans y3
   have GW:=en.ae fun c hc=>BV.get c (dr.hi c hc)
   have oO:iM H.next H4 fa:=⟨dr.nd,dr.lo,fun c hc=>Nat.lt_of_lt_of_le (dr.hi c hc) BV.nx⟩
   have NS:H2.next∉fa:=fun e=>by have:=dr.hi _ e;omega
   by_cases hb:Jm y.kind=true
   ·rw [if_pos hb] at MQ
    have y4':(H4.af H.fz).get H2.next=some ⟨aU y (.slice b1 y.args.length j1) (.slice b2 y.pat.length j2) (.slice b3 y.ak.length j3),59,false,false⟩:=y4
    simp only [go_sem,hb,y4,AQ]
    refine FG (r:=.int) (x:=y.x) (g:=[]) (B:=⟨[.int .i64 y.x],3,false,false⟩) (H:=(H4.af H.fz).push ⟨[.int .i64 y.x],3,false,false⟩) iR (GW.ae fun c hc=>bO (H:=H4.af H.fz) (oO.hi c hc)) (fun c hc=>Nat.lt_succ_of_lt (oO.hi c hc)) (by rw [List.append_nil];exact oO.nd) (by simp) (fun c hc=>BU (oO.lo c hc)) (by rw [aZ];exact if_pos rfl) (Rp.wG.2 ⟨rfl,rfl⟩) rfl (by omega) ?_
    intro v6 H6 f6 Ko jz MO NF NG CQ aeS NH
    rw [bI,BZ] at NG CQ
    simp only [go_sem]
    have Bv:∀c∈f6,c=H4.next+1∨c∈fa:=fun c hc=>by
     rcases MO c hc with e | e | e
     ·exact .inl e
     ·exact .inr e
     ·cases e
    rw [MQ]
    refine ⟨f6,Ko.ae fun _ _=>rfl,⟨jz,fun c hc=>?_,NF⟩,by rw [zAp,List.length_singleton];omega,⟨⟨by show H.next<=H6.next;omega,fun c hc=>?_,fun c B hB hr=>?_⟩,fun _ _=>rfl⟩,by omega,fun e=>?_,?_⟩
    ·rcases Bv c hc with e | e
     ·omega
     ·exact oO.lo c e
    ·rw [bG,CQ c (by omega) (fun e=>by have:=oO.lo c e;omega)]
     exact (bO (by show c < H4.next;omega)).trans ((BV.get c (by omega)).trans (o2.au.get c hc))
    ·have h7:=NH c B hB hr
     rw [aZ] at h7
     split at h7
     ·cases h7;cases hr
     ·exact o2.au.ro c B (BV.ro c B h7 hr) hr
    ·rcases Bv _ e with e | e
     ·omega
     ·exact NS e
    ·rw [CQ H2.next (by omega) NS]
     exact (bO (by show H2.next < H4.next;omega)).trans y4
   ·rw [if_neg hb] at MQ
    simp only [Bool.not_eq_true] at hb
    simp only [go_sem,hb]
    rw [MQ]
    exact ⟨fa,GW.ae fun _ _=>rfl,⟨oO.nd,oO.lo,oO.hi⟩,NC,⟨(((o2.au.trans BV).fr []).af _).au,fun _ _=>rfl⟩,by omega,NS,y4⟩
  ·rintro V4 H4 ⟨e7,Pq,GW,oO,aoJ,o4,n4,arP,y4⟩
   cases TB:FQ (fun x=>uZ K.P.nodes k x []) ((a:Nat):Int) [y.a,y.b] Kp with
   | none=>rw [TB] at he;cases he
   | some Gk=>
   rw [TB] at he
   simp only at he
   have w4:=(o4.au.get w lw).trans dy
   have HT:=o4.au.nx
   simp only [go_sem,e7,y4,aid]
   obtain ⟨H5,ri⟩:∃H5,H5=(H4.push ⟨[.int .i64 y.a,.int .i64 y.b],3,false,false⟩).af H.fz:=⟨_,rfl⟩
   obtain ⟨row,er⟩:∃row:List Int,row=[y.a,y.b]:=⟨_,rfl⟩
   have qk:row.length=2:=by rw [er];rfl
   have Lx:aG H4 H5:=by rw [ri];exact (((Fr.refl [] H4).push _).af _).au
   have r5:H5.get H4.next=some ⟨row.map iV,3,false,false⟩:=by rw [ri,bG,aZ,er];exact if_pos rfl
   have n5:H5.next=H4.next+1:=by rw [ri];rfl
   have z5:∀c,H5.fz c=H.fz c:=fun c=>by rw [ri];rfl
   rw [<-er] at TB
   rw [<-ri]
   clear ri er
   refine kC 288195191779623456 2 (fun j V5 H6=>V5 45=iV (j:Nat)/\∃GX Dz,Ow .int 3 H6 (V5 5) GX Dz/\iM H.next H6 Dz/\GX.length<=1000000/\OF H H6/\(∀c∈Dz,c≠H2.next/\c≠H4.next)/\H5.next<=H6.next/\H6.get H2.next=some ⟨aU y (.slice b1 y.args.length j1) (.slice b2 y.pat.length j2) (.slice b3 y.ak.length j3),59,false,false⟩/\H6.get H4.next=some ⟨row.map iV,3,false,false⟩/\FQ (fun x=>uZ K.P.nodes k x []) ((a:Nat):Int) (row.drop j) GX=some Gk)
    ⟨by simp only [go_sem] <;> rfl,Kp,Pq,by simp only [go_sem];exact GW.ae fun c hc=>Lx.get c (oO.hi c hc),⟨oO.nd,oO.lo,fun c hc=>by have:=oO.hi c hc;omega⟩,aoJ,⟨o4.au.trans Lx,fun c _=>z5 c⟩,fun c hc=>⟨fun e=>arP (by rw [<-e];exact hc),by have:=oO.hi c hc;omega⟩,Nat.le_refl _,(Lx.get H2.next (by omega)).trans y4,r5,TB⟩ ?_ ?_ (by rfl)
   ·rintro j V5 H6 hj ⟨ej,GX,Dz,qK,kJ,Vq,o6,NJ,n6,y6,r6,fj⟩
    have hjr:j < row.length:=by omega
    have Oh:=QA (o:=row) hjr
    have jh:IntKind.wrap .i64 (((j:Nat):Int)+1)=((j+1:Nat):Int):=cG hj (by omega)
    rw [IM hjr,FQ] at fj
    generalize row.getD j 0=xj at Oh fj
    have w6:=(o6.au.get w lw).trans dy
    by_cases bf:((a:Nat):Int) < xj
    ·rw [if_pos bf] at fj
     cases vC:uZ K.P.nodes k xj [] with
     | none=>rw [vC] at fj;cases fj
     | some rr=>
     rw [vC] at fj
     simp only at fj
     split at fj
     ·rename_i hlen
      simp only [go_sem,ej,hj,ei,r6,Oh,bf]
      refine ag.by (ih k (by omega) (H6.af H.fz) w vE vF xj rr (lI.ae ((o6.au.fr []).af _).au) w6 (by have:=o6.au.nx;show w < H6.next;omega) vC) ?_
      rintro v7 H7 - ⟨o7,z7,f7,jO,sd⟩
      have n7:H6.next<=H7.next:=o7.nx
      simp only [go_sem]
      refine ahe (qK.ae fun c hc=>(o7.get c (kJ.hi c hc))) (fun c hc=>Nat.lt_of_lt_of_le (kJ.hi c hc) n7) kJ.nd (fun c hc=>BU (kJ.lo c hc)) jO (by omega) ?_
      intro v8 H8 f8 RU ug ads arQ Fv
      have n8:=Fv.nx
      have k8:∀c,c < H6.next->c∉Dz->H8.get c=H6.get c:=fun c hc hn=>(Fv.get c (by omega) hn).trans (o7.get c hc)
      have E4:=o6.au.nx
      simp only [go_sem,ej,jh]
      refine ⟨GX++rr,f8,RU.ae fun _ _=>rfl,⟨ug,fun c hc=>?_,arQ⟩,by rw [zAp];omega,⟨⟨by show H.next<=H8.next;omega,fun c hc=>?_,fun c B hB hr=>?_⟩,fun _ _=>rfl⟩,fun c hc=>?_,by omega,?_,?_,fj⟩
      ·rcases ads c hc with e | e
       ·omega
       ·exact kJ.lo c e
      ·exact (k8 c (by omega) (fun e=>by have:=kJ.lo c e;omega)).trans (o6.au.get c hc)
      ·exact o6.au.ro c B (o7.ro c B (Fv.ro c B hB hr) hr) hr
      ·rcases ads c hc with e | e
       ·omega
       ·exact NJ c e
      ·exact (k8 H2.next (by omega) (fun e=>(NJ _ e).1 rfl)).trans y6
      ·exact (k8 H4.next (by omega) (fun e=>(NJ _ e).2 rfl)).trans r6
     ·cases fj
    ·rw [if_neg bf] at fj
     simp only [go_sem,ej,hj,ei,r6,Oh,bf,jh]
     exact ⟨GX,Dz,qK.ae fun _ _=>rfl,⟨kJ.nd,kJ.lo,kJ.hi⟩,Vq,⟨((o6.au.fr []).af _).au,fun _ _=>rfl⟩,NJ,n6,y6,fj⟩
   ·rintro V5 H6 ⟨ej,GX,Dz,qK,kJ,Vq,o6,NJ,n6,y6,r6,fj⟩
    rw [List.drop_of_length_le (by omega),FQ] at fj
    cases fj
    by_cases dH:y.next<=((a:Nat):Int)
    ·rw [if_pos dH] at he
     cases he
     simp only [go_sem,ej,e7,ei,y6,dH]
     exact ⟨((o6.au.fr []).af _).au,fun _=>trivial,Dz,qK.sl.ae fun _ _=>rfl,⟨kJ.nd,kJ.lo,kJ.hi⟩⟩
    ·rw [if_neg dH] at he
     simp only [go_sem,ej,e7,ei,y6,dH]
     exact ⟨k,by omega,by omega,y.next,Gk,Dz,rfl,qK.ae fun _ _=>rfl,⟨kJ.nd,kJ.lo,kJ.hi⟩,Vq,he,⟨((o6.au.fr []).af _).au,fun _ _=>rfl⟩⟩
 ·cases he
theorem aie {K:jQ} (hz:tP K.P) (fuel:Nat):WZ K fuel:=by
 induction fuel using Nat.strongRecOn with
 | ind fuel ih=>exact agr hz ih
def aci (K:jQ) (H:ad) (w:Nat) (mF:List Nat) (bW:WS) (H':ad):Prop:=
 ∃xK,WQ K H' w bW xK/\(∀c∈xK,c∈mF∨H.next<=c)/\Fr (w::mF) H H'/\(∀c,H'.fz c=H.fz c)
theorem WR.adt {K:jQ} {H H1:ad} {w:Nat} {mF ep:List Nat} {bu:WS} (h:WR K H w mF H1 bu ep):aci K H w mF bu (H1.af H.fz):=
 ⟨ep,h.told.wq,h.sub,h.told.fr,fun _=>rfl⟩
def TC (K:jQ):Prop:=∃(i:Nat) (x:gh),K.d=(i:Nat)/\K.P.defs[i]?=some x/\K.np=x.params.length
def Et (np:Nat) (q:List Int) (gf:Bool) (st:WS):Option WS:=if gf=true then some st else
 if st.ends.length=np/\np < 1000/\q.length < 1000000 then
  match QU q (j6 np) with
  | none=>none
  | some kl=>if kl.length < 1000000 then
   match AW st.ends kl with
   | none=>none
   | some m=>some {st with ends:=m}
   else none
 else none
theorem Ml {H:ad} {n:Nat} (hn:n < 1000):aj Tryz.prog 33 #[.int .i64 (n:Nat)] H (fun v' H'=>(aG H H'/\∃f',Sl .int H' v' (j6 n) f'/\iM H.next H' f')/\∀c,H'.fz c=H.fz c):=
 aj.Dx ((aoz hn).mono fun v' H' _ ⟨h1,q,f',h2,h3,h4⟩=>⟨h1,f',by rw [<-h2.eq];exact h3,h4⟩) fun v H' fz ⟨h1,f',h3,h4⟩=>⟨((h1.fr []).af _).au,f',h3.ae fun _ _=>rfl,⟨h4.nd,h4.lo,h4.hi⟩⟩
theorem Vr {K:jQ} {H:ad} {w:Nat} {st:WS} {mF:List Nat} (h:WQ K H w st mF) (hk:TC K) {vq:Value} {q:List Int} {f:List Nat} (hq:j8 H w mF vq q f) {gf:Bool} {bW:WS} (he:Et K.np q gf st=some bW):
  aj Tryz.prog 88 #[pV w,vq,.bool gf] H (fun v H'=>aci K H w mF bW H'):=by
 refine ni (l:=[_,_,_]) _ mixed Tryz.func88 anz [] (show 3<=33 by decide) rfl fun hf=>?_
 simp only [Tryz.f88,Option.getD_some]
 have r0:=WR.start h hf
 obtain ⟨vE,vF,gE,dy,hE,qw,oi,en⟩:=h.bj
 unfold Et at he
 cases gf with
 | true=>
  cases he
  simp only [go_sem]
  exact r0.adt
 | false=>
 rw [if_neg (by decide)] at he
 split at he
 ·rename_i hb
  obtain ⟨fB,eo,fU⟩:=hb
  obtain ⟨i,x,hd,hx,Bu⟩:=hk
  have bX:i < K.P.defs.length:=(List.getElem?_eq_some_iff.1 hx).1
  obtain ⟨b,o,c,B,gx,hv,hB,dI,df,cb,Yr⟩:=h.qv.hD.at hx
  simp only [Value.slice.injEq] at hv
  have iz:=hv.1
  obtain ⟨vP,vQ2,wg,u1,u2,u3,bg,rfl,t1,t2,t3⟩:=Yr
  obtain ⟨aP,kP,rfl⟩:=t1.val
  have dN:B.cells[o+i * 9+1]?=some (.slice aP x.params.length kP):=vg bg (by decide)
  have j9:(0:Int)<=((i:Nat):Int):=by omega
  rw [<-Bu] at dN
  simp only [go_sem,dy,hd,j9,bX,iz,hB,dN]
  refine ag.by (Ml eo) ?_
  rintro v2 H2 - ⟨⟨o2,f2,fh,dh⟩,z2⟩
  have r2:=r0.told.of (o2.of z2)
  have lw:=r0.lw
  have n2:H.next<=H2.next:=o2.nx
  have w2:H2.get w=some ⟨uO K vE vF,82,false,false⟩:=(o2.get w lw).trans dy
  have gV:=(hq.af (fz:=H.fz)).of o2
  obtain ⟨aE,kE,rfl⟩:=hE.val
  obtain ⟨a2,k2,rfl⟩:=fh.val
  simp only [go_sem,w2]
  have oX:(j6 K.np).length=K.np:=by unfold j6;simp
  refine ag.by (aj.Dx (alw (gV.sl.ae (H':=H2.af H.fz) fun _ _=>rfl) (fun c hc=>(gV.lt c hc).1) (fh.ae (H':=H2.af H.fz) fun _ _=>rfl) dh.hi fU (by omega)) fun v H' fz h=>h.af fz) ?_
  rintro v3 H3 - ⟨⟨o3,sK⟩,z3⟩
  cases hkr:QU q (j6 K.np) with
  | none=>rw [hkr] at he;cases he
  | some kl=>
  rw [hkr] at he sK
  simp only at he
  obtain ⟨f3,fZ,EU⟩:=sK
  have r3:=r2.told.of (o3.of z3)
  have n3:H2.next<=H3.next:=o3.nx
  have w3:H3.get w=some ⟨uO K (.slice aE st.ends.length kE) vF,82,false,false⟩:=(o3.get w (by show w < H2.next;omega)).trans w2
  obtain ⟨a3,k3,rfl⟩:=fZ.val
  split at he
  ·rename_i jZ
   cases jY:AW st.ends kl with
   | none=>rw [jY] at he;cases he
   | some m=>
   rw [jY] at he
   cases he
   have xE:m.length=K.np:=by
    rw [<-fB]
    unfold AW at jY
    split at jY
    ·cases jY;exact IK _ _ _
    ·cases jY
   simp only [go_sem]
   refine ⟨by rw [w3,w2],?_⟩
   have hE3:Sl .int H3 (.slice aE st.ends.length kE) st.ends gE:=hE.ae fun c hc=>(o3.get c (by have:=(qw c hc).1;show c < H2.next;omega)).trans (o2.get c (qw c hc).1)
   refine ag.by (aj.Dx (abC hE3 (fun c hc=>by have:=(qw c hc).1;omega) fZ EU.hi (by omega) jZ) fun v H' fz h=>h.af fz) ?_
   rintro v4 H4 - ⟨⟨o4,SP⟩,z4⟩
   rw [jY] at SP
   obtain ⟨f4,jt,lj⟩:=SP
   have r4:=r3.of (o4.of z4)
   have n4:=o4.nx
   have w4:H4.get w=some ⟨uO K (.slice aE st.ends.length kE) vF,82,false,false⟩:=(o4.get w (by omega)).trans w3
   obtain ⟨a4,k4,rfl⟩:=jt.val
   have CY:=r0.z0
   simp only [go_sem,w4,CY]
   have k4':∀c,c < H.next->H4.get c=H.get c:=fun c hc=>(o4.get c (by omega)).trans ((o3.get c (by show c < H2.next;omega)).trans (o2.get c hc))
   exact (r4.oT (H2:=H4.ai w ⟨uO K (.slice a4 m.length k4) vF,82,false,false⟩) (bH:=⟨m,st.sZ⟩) (wE:=mF) ((Fr.refl _ _).ai (.inl (by simp)) _) (by rw [aH,if_pos rfl]) (jt.ae fun c hc=>by rw [aH];exact if_neg (by have:H3.next<=c:=lj.lo c hc;omega)) (fun c hc=>by
    have h1:H3.next<=c:=lj.lo c hc
    exact ⟨lj.hi c hc,by omega,fun e=>by have:=(h.own c (.inr e)).1;omega,by have:=h.lo;omega⟩) (.inl xE) (en.ae fun c hc=>by
    have h1:=(h.own c (.inr hc)).1
    rw [aH];exact (if_neg fun e=>h.nw (by rw [<-e];exact hc)).trans (k4' c h1)) h.nd (fun c hc=>⟨.inl hc,by have:=(h.own c (.inr hc)).1;show c < H4.next;omega⟩)).adt
  ·cases he
 ·cases he
abbrev Eu:=Int->List Int->Bool->WS->Option (List Int × WS)
def JS (jb:Eu) (l:List Int) (a:Int) (gf:Bool):Nat->List Int->WS->Option (List Int × WS)
 | 0,q,st=>some (q,st)
 | k+1,q,st=>if q.length < 1000000/\l.length < 1000000 then
   match jb a ((F0 q l).getD q) gf st with
   | some R=>JS jb l a gf k R.1 R.2
   | none=>none
  else none
def FD (jb:Eu) (place:Int) (n:Nat):List fu->WS->Option WS
 | [],st=>some st
 | b::l,st=>if place < b.body then
   match jb b.body (j6 n) true st with
   | some R=>FD jb place n l R.2
   | none=>none
  else FD jb place n l st
def QZ (P:cC) (iS:List (List Int)) (box:List Bool) (np:Nat) (jb:Eu) (rW:Int->Option (List Int)) (n:aJ) (place:Int) (q:List Int) (gf:Bool) (st:WS):Option (List Int × WS):=
 if n.kind=9 then Vp P q place n st
 else if n.kind=10 then Mk P iS q place n st
 else if n.kind=1 then (if q.length < 1000000 then some ((F0 q [n.x]).getD q,st) else none)
 else if n.kind=11 then
  match rW n.a with
  | some l=>JS jb l n.a gf 2 q st
  | none=>none
 else if n.kind=8 then jb n.a q gf st
 else if n.kind=16 then
  if q.length < 1000000 then
  match jb n.a q gf st with
  | some R=>match jb n.b q gf R.2 with
   | some R2=>some (q,R2.2)
   | none=>none
  | none=>none
  else none
 else if n.kind=12 then
  match Et np q gf st with
  | some bW=>some (q,bW)
  | none=>none
 else if n.kind=13 then
  match Mk P iS q place n st with
  | some R=>match Et np R.1 gf R.2 with
   | some bW=>some (q,bW)
   | none=>none
  | none=>none
 else if n.kind=15 then
  match QY P box q place n st with
  | some R=>match Et np R.1 gf R.2 with
   | some bW=>if q.length < 1000 then
    match FD jb place q.length n.ak bW with
    | some bH=>some (q,bH)
    | none=>none
    else none
   | none=>none
  | none=>none
 else some (q,st)
def x0 (P:cC) (iS:List (List Int)) (box:List Bool) (np:Nat):Nat->Eu
 | 0,_,_,_,_=>none
 | k+1,place,q,gf,st=>if place < 0∨((P.nodes.length:Nat):Int)<=place then some (q,st) else
   match QZ P iS box np (x0 P iS box np k) (fun a=>uZ P.nodes k a []) (P.nodes.getD place.toNat {}) place q gf st with
   | some R=>if (P.nodes.getD place.toNat {}).next<=place then some R else x0 P iS box np k (P.nodes.getD place.toNat {}).next R.1 gf R.2
   | none=>none
def JT (K:jQ) (jb:Eu):Prop:=∀(H:ad) (w:Nat) (st:WS) (mF:List Nat) (vq:Value) (q:List Int) (f:List Nat) (place:Int) (gf:Bool) (R:List Int × WS),WQ K H w st mF->j8 H w mF vq q f->jb place q gf st=some R->
 aj Tryz.prog 41 #[pV w,vq,iV place,.bool gf] H (fun v H'=>A9 K H w mF R.2 R.1 v H')
theorem aba {R:Option (List Int)} {H H':ad} {r:Value} {q:List Int} (h:GS R H H' r) (hl:∀q',R=some q'->q'.length=q.length):(r=.slice none 0 0/\R.getD q=q)∨∃q' a c f',R=some q'/\r=.slice (some a) q'.length c/\Sl .int H' r q' f'/\iM H.next H' f':=by
 obtain ⟨h1,h2⟩:=h
 cases R with
 | none=>exact .inl ⟨h2,rfl⟩
 | some q'=>
  obtain ⟨f',h3,h4⟩:=h2
  rcases h3 with ⟨e,e2,e3⟩ | ⟨a,c,e,e2,e3⟩ | ⟨b,o,c,B,g,e,h5⟩
  ·refine .inl ⟨e,?_⟩
   have:=hl q' rfl
   rw [e2] at this
   rw [e2,List.length_eq_zero_iff.1 this.symm];rfl
  ·exact .inr ⟨q',a,c,f',rfl,by rw [e,e2];rfl,.inr (.inl ⟨a,c,e,e2,e3⟩),h4⟩
  ·exact .inr ⟨q',_,c,f',rfl,e,.inr (.inr ⟨b,o,c,B,g,e,h5⟩),h4⟩
theorem aac {q l q':List Int} (h:F0 q l=some q'):q'.length=q.length:=by
 unfold F0 at h
 split at h
 ·cases h
  rw [show (CO (Eo q l l.length)).length=(Eo q l l.length).length from by unfold CO;simp]
  exact P5 _ _ _
 ·cases h
theorem aif {K:jQ} {H:ad} {w:Nat} {st:WS} {mF:List Nat} (hz:tP K.P) (h:WQ K H w st mF) {jb:Eu} (vC:JT K jb) {fuel:Nat} {vq:Value} {q:List Int} {f:List Nat} (hq:j8 H w mF vq q f) {n:aJ} {vA vQ vB:Value} {gA gB:List Nat} (hn:Po H w mF n vA vQ vB gA gB) {gf:Bool} {l:List Int} (oE:uZ K.P.nodes fuel n.a []=some l) {R:List Int × WS} (he:JS jb l n.a gf 2 q st=some R):
  aj Tryz.prog 87 #[pV w,vq,.agg (aU n vA vQ vB).toArray,.bool gf] H (fun v H'=>A9 K H w mF R.2 R.1 v H'):=by
 refine ni (l:=[_,_,_,_]) _ mixed Tryz.func87 anx [.tmp 8] (show 4<=31 by decide) rfl fun hf=>?_
 simp only [Tryz.f87,Option.getD_some]
 have r0:=WR.start h hf
 obtain ⟨aA,kA,rfl⟩:=hn.hA.val
 obtain ⟨aQ,kQ,rfl⟩:=hn.hQ
 obtain ⟨aB,kB,rfl⟩:=hn.hB.val
 obtain ⟨vE,vF,gE,dy,hE,qw,oi,en⟩:=h.bj
 have lw:=r0.lw
 simp only [go_sem]
 obtain ⟨H1,cu⟩:∃H1,H1=(H.push ⟨aU n (.slice aA n.args.length kA) (.slice aQ n.pat.length kQ) (.slice aB n.ak.length kB),59,false,false⟩).af H.fz:=⟨_,rfl⟩
 rw [<-cu]
 have lT:OF H H1:=by rw [cu];exact ((OF.refl H).push _).told
 have y1:H1.get H.next=some ⟨aU n (.slice aA n.args.length kA) (.slice aQ n.pat.length kQ) (.slice aB n.ak.length kB),59,false,false⟩:=by rw [cu,bG,aZ,if_pos rfl]
 have n1:H1.next=H.next+1:=by rw [cu];rfl
 clear cu
 have r1:=r0.of lT
 refine ag.by (aie hz fuel H1 w vE vF n.a l r1.wq.qv ((lT.au.get w lw).trans dy) (by omega) oE) ?_
 rintro v2 H2 - ⟨o2,z2,f2,fh,dh⟩
 have Tz:=lT.trans (o2.of z2)
 have r2:=r1.of (o2.of z2)
 have n2:=o2.nx
 have gV:=hq.of Tz.au
 have y2:=(o2.get H.next (by omega)).trans y1
 simp only [go_sem]
 have ZI:Sf H2 H2 w mF (H.next::f2):=fun c hc=>by
  refine ⟨rfl,?_⟩
  have hb:H.next<=c/\c < H2.next:=by
   rcases List.mem_cons.1 hc with e | e
   ·subst e;exact ⟨Nat.le_refl _,by omega⟩
   ·have:=dh.lo c e;exact ⟨by omega,dh.hi c e⟩
  exact ⟨hb.2,by omega,fun e=>by have:=(h.own c (.inr e)).1;omega⟩
 refine kC 1073710082 2 (fun k V H6=>V 15=iV (k:Nat)/\∃q1 bu ep f1,WR K H w mF H6 bu ep/\j8 H6 w ep (V 1) q1 f1/\JS jb l n.a gf (2 - k) q1 bu=some R/\Sf H2 H6 w ep (H.next::f2))
  ⟨by simp only [go_sem] <;> rfl,q,st,mF,f,r2.told,by simp only [go_sem];exact gV.af,he,ZI⟩ ?_ ?_ (by rfl)
 ·rintro k V6 H6 hk ⟨ek,q1,bu,ep,f1,r6,uP,mv,i7⟩
  rw [show 2 - k=(2 - (k+1))+1 by omega,JS] at mv
  split at mv
  ·rename_i hlen
   cases dY:jb n.a ((F0 q1 l).getD q1) gf bu with
   | none=>rw [dY] at mv;cases mv
   | some R1=>
   rw [dY] at mv
   simp only at mv
   have jj:IntKind.wrap .i64 (((k:Nat):Int)+1)=((k+1:Nat):Int):=cG hk (by omega)
   have fQ:((k:Nat):Int) < 2:=by omega
   have y6:=(i7 H.next (by simp)).1.trans y2
   have qT:Sl .int (H6.af H.fz) v2 l f2:=(fh.ae fun c hc=>(i7 c (by simp [hc])).1)
   obtain ⟨a1,k1,nC⟩:=uP.sl.val
   simp only [go_sem,ek,fQ]
   refine ag.by (aj.Dx (abB (uP.sl.ae (H':=H6.af H.fz) fun _ _=>rfl) (fun c hc=>(uP.lt c hc).1) qT (fun c hc=>(i7 c (by simp [hc])).2.1) hlen.1 hlen.2) fun v H' fz h=>h.af fz) ?_
   rintro v7 H7 - ⟨Ly,z7⟩
   have o7:=Ly.1
   have r7:=r6.told.of (o7.of z7)
   have lu:=(uP.af (fz:=H.fz)).of o7
   have jO:=(i7.af (fz:=H.fz)).of o7
   have y7:=(jO H.next (by simp)).1.trans y2
   have n7:H6.next<=H7.next:=o7.nx
   have n6:=r6.fr.nx
   have lw6:=r6.lw
   rcases aba Ly (fun q' e=>aac e) with ⟨rfl,e⟩ | ⟨q',a,c,f',e,rfl,dz,fO⟩
   ·rw [e] at dY
    simp only [go_sem,ek,y7]
    refine ag.by (vC (H7.af H.fz) w bu ep _ _ f1 n.a gf R1 r7.told.wq lu.af dY) ?_
    rintro v10 du - ⟨NI,f10,Pp,D8,Es,z10,Gx⟩
    have cS:=(r7.told.call Pp D8 Es).told
    simp only [go_sem,ek,jj]
    exact ⟨R1.1,R1.2,NI,f10,cS,Gx.af,mv,(Sf.af (fz:=H.fz) (Sf.step (Sf.af (fz:=H.fz) jO) Es D8))⟩
   ·rw [e] at dY
    simp only [Option.getD_some] at dY
    have er:j8 H7 w ep (.slice (some a) q'.length c) q' f':=⟨dz,fun c hc=>by
     have h1:H6.next<=c:=fO.lo c hc
     exact ⟨fO.hi c hc,by omega,fun e=>by have:=(r6.wq.own c (.inr e)).1;omega⟩⟩
    simp only [go_sem,ek,y7]
    refine ag.by (vC (H7.af H.fz) w bu ep _ _ f' n.a gf R1 r7.told.wq er.af dY) ?_
    rintro v10 du - ⟨NI,f10,Pp,D8,Es,z10,Gx⟩
    have cS:=(r7.told.call Pp D8 Es).told
    simp only [go_sem,ek,jj]
    exact ⟨R1.1,R1.2,NI,f10,cS,Gx.af,mv,(Sf.af (fz:=H.fz) (Sf.step (Sf.af (fz:=H.fz) jO) Es D8))⟩
  ·cases mv
 ·rintro V6 H6 ⟨ek,q1,bu,ep,f1,r6,uP,mv,i7⟩
  rw [Nat.sub_self,JS] at mv
  cases mv
  have fQ:¬((2:Nat):Int) < 2:=by omega
  simp only [go_sem,ek,fQ]
  exact r6.post uP
def aoK (K:jQ) (jb:Eu) (rW:Int->Option (List Int)):Prop:=∀(H:ad) (w:Nat) (st:WS) (mF:List Nat) (vq:Value) (q:List Int) (f:List Nat) (place:Nat) (n:aJ) (gf:Bool) (R:List Int × WS),WQ K H w st mF->j8 H w mF vq q f->K.P.nodes[place]?=some n->QZ K.P K.iS K.box K.np jb rW n ((place:Nat):Int) q gf st=some R->
 aj Tryz.prog 63 #[pV w,vq,iV (place:Nat),.bool gf] H (fun v H'=>A9 K H w mF R.2 R.1 v H')
theorem abb {H:ad} {v:Value} {l:List Int} {f:List Nat} (h:Sl .int H v l f) (hl:l.length < 1000000):
  aj Tryz.prog 47 #[v] H (fun v' H'=>(aG H H'/\∃f',Sl .int H' v' l f'/\iM H.next H' f')/\∀c,H'.fz c=H.fz c):=
 aj.Dx ((Qf h hl).mono fun v' H' _ ⟨h1,f',h2,h3,_⟩=>⟨h1,f',h2,h3⟩) fun v H' fz ⟨h1,f',h3,h4⟩=>⟨((h1.fr []).af _).au,f',h3.ae fun _ _=>rfl,⟨h4.nd,h4.lo,h4.hi⟩⟩
theorem alC {K:jQ} (hz:tP K.P) (hk:TC K) {jb:Eu} (vC:JT K jb) {fuel:Nat}:aoK K jb (fun a=>uZ K.P.nodes fuel a []):=by
 intro H w st mF vq q f place y gf R h hq hy he
 refine ni (l:=[_,_,_,_]) _ mixed Tryz.func63 am0 [.tmp 8] (show 4<=124 by decide) rfl fun hf=>?_
 simp only [Tryz.f63,Option.getD_some]
 have r0:=WR.start h hf
 obtain ⟨aq,kq,rfl⟩:=hq.sl.val
 obtain ⟨vE,vF,gE,dy,hE,qw,oi,en⟩:=h.bj
 have lw:=r0.lw
 have iT:place < K.P.nodes.length:=(List.getElem?_eq_some_iff.1 hy).1
 have cP:=hz.nd y (List.mem_of_getElem? hy)
 obtain ⟨dW,oy,cy,By,gy,wy,oJ,Nz,wu,Er,Dv⟩:=h.qv.hN.at hy
 simp only [Value.slice.injEq] at wy
 have oI:=wy.1
 obtain ⟨wA,wQ,wB,w1,w22,w3,lp,rfl,q1,q2,q3⟩:=Dv
 obtain ⟨b1,j1,rfl⟩:=q1.val
 obtain ⟨b2,j2,rfl⟩:=q2.val
 obtain ⟨b3,j3,rfl⟩:=q3.val
 have rB:oy+place * 20+20<=By.cells.length:=Er
 have lp:(By.cells.drop (oy+place * 20)).take 20=aU y (.slice b1 y.args.length j1) (.slice b2 y.pat.length j2) (.slice b3 y.ak.length j3):=lp
 have hX:H.fz H.next=false:=r0.zn _ (Nat.le_refl _)
 have xB:(0:Int)<=((place:Nat):Int):=by omega
 have nw:¬w=H.next:=by omega
 obtain ⟨H1,cu⟩:∃H1,H1=((H.af H.fz).push ⟨aU y (.slice b1 y.args.length j1) (.slice b2 y.pat.length j2) (.slice b3 y.ak.length j3),59,false,false⟩).af H.fz:=⟨_,rfl⟩
 have lT:OF H H1:=by rw [cu];exact ⟨((((Fr.refl [] H).af _).push _).af _).au,fun _ _=>rfl⟩
 have y1:H1.get H.next=some ⟨aU y (.slice b1 y.args.length j1) (.slice b2 y.pat.length j2) (.slice b3 y.ak.length j3),59,false,false⟩:=by rw [cu,bG,aZ];exact if_pos rfl
 have n1:H1.next=H.next+1:=by rw [cu];rfl
 have r1:=r0.of lT
 have gq:=hq.of lT.au
 have Lz:∀c∈w1++w3,c < H.next/\c≠w/\c∉mF:=fun c hc=>h.stat c (by
  have:c∈K.px.gN:=wu c (by rcases List.mem_append.1 hc with e | e <;> simp [e])
  simp [this])
 have rV:Po H1 w mF y (.slice b1 y.args.length j1) (.slice b2 y.pat.length j2) (.slice b3 y.ak.length j3) w1 w3:=⟨q1.ae fun c hc=>lT.au.get c (Lz c (by simp [hc])).1,⟨b2,j2,rfl⟩,q3.ae fun c hc=>lT.au.get c (Lz c (by simp [hc])).1,fun c hc=>⟨by have:=(Lz c hc).1;omega,(Lz c hc).2⟩,cP⟩
 unfold QZ at he
 by_cases k9:y.kind=9
 ·rw [if_pos k9] at he
  have e9:decide (y.kind=9)=true:=decide_eq_true k9
  simp only [go_sem,xB,iT,oI,oJ,rB,lp,hX,dy,nw,e9]
  rw [<-cu]
  refine ag.by (aib r1.wq hz gq rV he) ?_
  rintro v2 H2 - hp
  simp only [go_sem]
  exact r1.fin hp
 rw [if_neg k9] at he
 have m9:decide (y.kind=9)=false:=decide_eq_false k9
 by_cases xG:y.kind=10
 ·rw [if_pos xG] at he
  have Iq:decide (y.kind=10)=true:=decide_eq_true xG
  simp only [go_sem,xB,iT,oI,oJ,rB,lp,hX,dy,nw,Iq,m9]
  rw [<-cu]
  refine ag.by (abI r1.wq hz gq rV he) ?_
  rintro v2 H2 - hp
  simp only [go_sem]
  exact r1.fin hp
 rw [if_neg xG] at he
 have tu:decide (y.kind=10)=false:=decide_eq_false xG
 by_cases k1:y.kind=1
 ·rw [if_pos k1] at he
  have e1:decide (y.kind=1)=true:=decide_eq_true k1
  simp only [go_sem,xB,iT,oI,oJ,rB,lp,hX,dy,nw,AQ,e1,m9,tu]
  rw [<-cu]
  split at he
  ·rename_i Ad
   cases he
   rw [<-n1]
   refine ag.by (aj.Dx (abB (l:=[y.x]) (gq.sl.ae (H':=H1.push ⟨[.int .i64 y.x],3,false,false⟩) fun c hc=>bO (gq.lt c hc).1) (fun c hc=>Nat.lt_succ_of_lt (gq.lt c hc).1) (w:=.slice (some ⟨H1.next,0,none⟩) 1 1) (g:=[H1.next]) (.inr (.inr ⟨H1.next,0,1,_,[],rfl,by simp,Nat.le_refl _,rfl,by rw [aZ,if_pos rfl],PU _ [y.x]⟩)) (fun c hc=>by rw [List.mem_singleton] at hc;subst hc;exact Nat.lt_succ_self _) Ad (by simp)) fun v H' fz h=>h.af fz) ?_
   rintro v2 H2 - ⟨Ly,z2⟩
   have r2:=(r1.of ((OF.refl H1).push ⟨[.int .i64 y.x],3,false,false⟩)).of (Ly.1.of z2)
   have gV:=(gq.of (aG.push H1 ⟨[.int .i64 y.x],3,false,false⟩)).of Ly.1
   rcases aba Ly (fun q' e=>aac e) with ⟨rfl,e⟩ | ⟨q',a,c,f',e,rfl,dz,fO⟩
   ·rw [e]
    simp only [go_sem]
    exact r2.post gV
   ·rw [e]
    simp only [go_sem,Option.getD_some]
    refine r2.post ⟨dz,fun c hc=>?_⟩
    have h1:H1.next+1<=c:=fO.lo c hc
    exact ⟨fO.hi c hc,by omega,fun e=>by have:=(h.own c (.inr e)).1;omega⟩
  ·cases he
 rw [if_neg k1] at he
 have m1:decide (y.kind=1)=false:=decide_eq_false k1
 by_cases Lt:y.kind=11
 ·rw [if_pos Lt] at he
  have nf:decide (y.kind=11)=true:=decide_eq_true Lt
  simp only [go_sem,xB,iT,oI,oJ,rB,lp,hX,dy,nw,nf,m9,tu,m1]
  rw [<-cu]
  simp only at he
  cases oE:uZ K.P.nodes fuel y.a [] with
  | none=>rw [oE] at he;cases he
  | some l=>
  rw [oE] at he
  refine ag.by (aif hz r1.wq vC gq rV oE he) ?_
  rintro v2 H2 - hp
  simp only [go_sem]
  exact r1.fin hp
 rw [if_neg Lt] at he
 have LA:decide (y.kind=11)=false:=decide_eq_false Lt
 by_cases k8:y.kind=8
 ·rw [if_pos k8] at he
  have e8:decide (y.kind=8)=true:=decide_eq_true k8
  simp only [go_sem,xB,iT,oI,oJ,rB,lp,hX,dy,nw,e8,m9,tu,m1,LA]
  rw [<-cu]
  refine ag.by (vC H1 w st mF _ q f y.a gf R r1.wq gq he) ?_
  rintro v2 H2 - hp
  simp only [go_sem]
  exact r1.fin hp
 rw [if_neg k8] at he
 have m8:decide (y.kind=8)=false:=decide_eq_false k8
 by_cases TD:y.kind=16
 ·rw [if_pos TD] at he
  have e16:decide (y.kind=16)=true:=decide_eq_true TD
  simp only [go_sem,xB,iT,oI,oJ,rB,lp,hX,dy,nw,e16,m9,tu,m1,LA,m8]
  rw [<-cu]
  split at he
  ·rename_i Ad
   cases dY:jb y.a q gf st with
   | none=>rw [dY] at he;cases he
   | some R1=>
   rw [dY] at he
   simp only at he
   cases dP:jb y.b q gf R1.2 with
   | none=>rw [dP] at he;cases he
   | some R2=>
   rw [dP] at he
   cases he
   refine ag.by (abb gq.sl Ad) ?_
   rintro v2 H2 - ⟨⟨o2,f2,fh,dh⟩,z2⟩
   have r2:=r1.of (o2.of z2)
   have n2:=o2.nx
   have aoL:j8 H2 w mF v2 q f2:=⟨fh,fun c hc=>by
    have h1:H1.next<=c:=dh.lo c hc
    exact ⟨dh.hi c hc,by omega,fun e=>by have:=(h.own c (.inr e)).1;omega⟩⟩
   have y2:=(o2.get H.next (by omega)).trans y1
   simp only [go_sem,y1,y2]
   refine ag.by (vC H2 w st mF _ q f2 y.a gf R1 r2.wq aoL dY) ?_
   rintro v3 H3 - ⟨Fw,f3,LB,zP,xN,z3,wb⟩
   have r3:=r2.call LB zP xN
   have Tp:=(gq.of o2).step xN zP
   have n3:=xN.nx
   have y3:=(xN.get H.next (by omega) (by
    intro e
    rcases List.mem_cons.1 e with e | e
    ·omega
    ·have:=(h.own _ (.inr e)).1;omega)).trans y2
   simp only [go_sem]
   refine ag.by (abb (Tp.sl.ae (H':=H3.af H.fz) fun _ _=>rfl) Ad) ?_
   rintro v4 H4 - ⟨⟨o4,f4,jt,lj⟩,z4⟩
   have r4:=r3.told.of (o4.of z4)
   have n4:H3.next<=H4.next:=o4.nx
   have Mt:j8 H4 w Fw v4 q f4:=⟨jt,fun c hc=>by
    have h1:H3.next<=c:=lj.lo c hc
    exact ⟨lj.hi c hc,by omega,fun e=>by have:=(LB.own c (.inr e)).1;omega⟩⟩
   have y4:H4.get H.next=some ⟨aU y (.slice b1 y.args.length j1) (.slice b2 y.pat.length j2) (.slice b3 y.ak.length j3),59,false,false⟩:=(o4.get H.next (by show H.next < H3.next;omega)).trans y3
   simp only [go_sem,y3,y4]
   refine ag.by (vC H4 w R1.2 Fw _ q f4 y.b gf R2 r4.wq Mt dP) ?_
   rintro v5 H5 - ⟨mF5,f5,w5,aeU,TF,z5,hq5⟩
   simp only [go_sem]
   exact (r4.call w5 aeU TF).post (((Tp.af (fz:=H.fz)).of o4).step TF aeU)
  ·cases he
 rw [if_neg TD] at he
 have TH:decide (y.kind=16)=false:=decide_eq_false TD
 by_cases oA:y.kind=12
 ·rw [if_pos oA] at he
  have ZC:decide (y.kind=12)=true:=decide_eq_true oA
  simp only [go_sem,xB,iT,oI,oJ,rB,lp,hX,dy,nw,ZC,m9,tu,m1,LA,m8,TH]
  rw [<-cu]
  cases xL:Et K.np q gf st with
  | none=>rw [xL] at he;cases he
  | some bH=>
  rw [xL] at he
  cases he
  refine ag.by (Vr r1.wq hk gq xL) ?_
  rintro v2 H2 - ⟨wE,w2,CS,iN,z2⟩
  simp only [go_sem]
  exact (r1.call w2 CS iN).post (gq.step iN CS)
 rw [if_neg oA] at he
 have oC:decide (y.kind=12)=false:=decide_eq_false oA
 by_cases Aw:y.kind=13
 ·rw [if_pos Aw] at he
  have XE:decide (y.kind=13)=true:=decide_eq_true Aw
  simp only [go_sem,xB,iT,oI,oJ,rB,lp,hX,dy,nw,XE,m9,tu,m1,LA,m8,TH,oC]
  rw [<-cu]
  cases xJ:Mk K.P K.iS q ((place:Nat):Int) y st with
  | none=>rw [xJ] at he;cases he
  | some R1=>
  rw [xJ] at he
  simp only at he
  cases xL:Et K.np R1.1 gf R1.2 with
  | none=>rw [xL] at he;cases he
  | some bH=>
  rw [xL] at he
  cases he
  refine ag.by (abI r1.wq hz gq rV xJ) ?_
  rintro v2 H2 - ⟨wE,f2,w2,CS,iN,z2,gV⟩
  have r2:=r1.call w2 CS iN
  simp only [go_sem]
  refine ag.by (Vr r2.wq hk gV xL) ?_
  rintro v3 H3 - ⟨Fw,LB,zP,xN,z3⟩
  simp only [go_sem]
  exact (r2.call LB zP xN).post ((gq.step iN CS).step xN zP)
 rw [if_neg Aw] at he
 have X5:decide (y.kind=13)=false:=decide_eq_false Aw
 by_cases BM:y.kind=15
 ·rw [if_pos BM] at he
  have Pg:decide (y.kind=15)=true:=decide_eq_true BM
  simp only [go_sem,xB,iT,oI,oJ,rB,lp,hX,dy,nw,Pg,m9,tu,m1,LA,m8,TH,oC,X5]
  rw [<-cu]
  cases xJ:QY K.P K.box q ((place:Nat):Int) y st with
  | none=>rw [xJ] at he;cases he
  | some R1=>
  rw [xJ] at he
  simp only at he
  cases xL:Et K.np R1.1 gf R1.2 with
  | none=>rw [xL] at he;cases he
  | some bH=>
  rw [xL] at he
  simp only at he
  split at he
  ·rename_i Ad
   cases di:FD jb ((place:Nat):Int) q.length y.ak bH with
   | none=>rw [di] at he;cases he
   | some yy=>
   rw [di] at he
   cases he
   refine ag.by (alB r1.wq hz gq rV xJ) ?_
   rintro v2 H2 - ⟨wE,f2,w2,CS,iN,z2,gV⟩
   have r2:=r1.call w2 CS iN
   simp only [go_sem]
   refine ag.by (Vr r2.wq hk gV xL) ?_
   rintro v3 H3 - ⟨Fw,LB,zP,xN,z3⟩
   have r3:=r2.call LB zP xN
   have wb:=(gq.step iN CS).step xN zP
   have aeV:Sf H1 H3 w Fw (H.next::w3):=(Sf.step (Sf.step (Hs:=H1) (H:=H1) (w:=w) (mF:=mF) (l:=H.next::w3) (fun c hc=>⟨rfl,by
    have xq:∀c∈mF,c < H.next:=fun c hc=>(h.own c (.inr hc)).1
    rcases List.mem_cons.1 hc with e | e
    ·subst e;exact ⟨by omega,by omega,fun e=>by have:=xq _ e;omega⟩
    ·have:=Lz c (by simp [e]);exact ⟨by omega,this.2⟩⟩) iN CS) xN zP)
   have y3:=(aeV H.next (by simp)).1.trans y1
   simp only [go_sem,y3]
   have cb:=cP.b
   refine kC 10633661707002497769867064904232472576 y.ak.length (fun k V H6=>V 107=iV (k:Nat)/\∃bu ep,WR K H w mF H6 bu ep/\j8 H6 w ep (.slice aq q.length kq) q f/\FD jb ((place:Nat):Int) q.length (y.ak.drop k) bu=some yy/\Sf H1 H6 w ep (H.next::w3))
    ⟨by simp only [go_sem] <;> rfl,bH,Fw,r3.told,wb.af,di,aeV⟩ ?_ ?_ (by rfl)
   ·rintro k V6 H6 Fx ⟨ek,bu,ep,r6,uP,qt,i7⟩
    have cX:y.ak[k]?=some (y.ak[k]'Fx):=zEq Fx
    have SA:y.ak.drop k=(y.ak[k]'Fx)::y.ak.drop (k+1):=(List.getElem_cons_drop Fx).symm
    generalize (y.ak[k]'Fx)=z at cX SA
    rw [SA,FD] at qt
    obtain ⟨bz,oz,cz,Bz,gz,Fs,Ft,aeR,Ts,NA,Pm⟩:=(q3.ae (H':=H6) fun c hc=>(i7 c (by simp [hc])).1.trans (lT.au.get c (Lz c (by simp [hc])).1)).at cX
    simp only [Value.slice.injEq] at Fs
    have Fq:=Fs.1
    obtain ⟨vS,vW,x1,x2,ye,rfl,s1,s2⟩:=Pm
    obtain ⟨aS,kS,rfl⟩:=s1.val
    obtain ⟨aW,kW,rfl⟩:=s2.val
    have JQ:oz+k * 7+7<=Bz.cells.length:=NA
    have ye:(Bz.cells.drop (oz+k * 7)).take 7=cJ z (.slice aS z.aY.length kS) (.slice aW z.names.length kW):=ye
    have jj:IntKind.wrap .i64 (((k:Nat):Int)+1)=((k+1:Nat):Int):=cG Fx (by omega)
    have n6:=r6.fr.nx
    have tH:H.fz H6.next=false:=r6.zn _ n6
    have RS:(H6.af H.fz).get bz=some Bz:=Ft
    have r7:=(r6.told.of ((OF.refl (H6.af H.fz)).push ⟨cJ z (.slice aS z.aY.length kS) (.slice aW z.names.length kW),109,false,false⟩)).told
    have lu:=((uP.af (fz:=H.fz)).of (aG.push (H6.af H.fz) ⟨cJ z (.slice aS z.aY.length kS) (.slice aW z.names.length kW),109,false,false⟩)).af (fz:=H.fz)
    have jO:=Sf.af (fz:=H.fz) (Sf.of (Sf.af (fz:=H.fz) i7) (aG.push (H6.af H.fz) ⟨cJ z (.slice aS z.aY.length kS) (.slice aW z.names.length kW),109,false,false⟩))
    by_cases uG:((place:Nat):Int) < z.body
    ·rw [if_pos uG] at qt
     simp only [go_sem,ek,Fx,Fq,Ft,RS,JQ,ye,tH,uG]
     have y7:(((H6.af H.fz).push ⟨cJ z (.slice aS z.aY.length kS) (.slice aW z.names.length kW),109,false,false⟩).af H.fz).get H6.next=some ⟨cJ z (.slice aS z.aY.length kS) (.slice aW z.names.length kW),109,false,false⟩:=by rw [bG,aZ];exact if_pos rfl
     have n7:(((H6.af H.fz).push ⟨cJ z (.slice aS z.aY.length kS) (.slice aW z.names.length kW),109,false,false⟩).af H.fz).next=H6.next+1:=rfl
     generalize (((H6.af H.fz).push ⟨cJ z (.slice aS z.aY.length kS) (.slice aW z.names.length kW),109,false,false⟩).af H.fz)=H7 at r7 lu jO y7 n7 ⊢
     cases dY:jb z.body (j6 q.length) true bu with
     | none=>rw [dY] at qt;cases qt
     | some R2=>
     rw [dY] at qt
     simp only at qt
     refine ag.by (Ml Ad) ?_
     rintro v8 H8 - ⟨⟨o8,f8,Ox,ho8⟩,z8⟩
     have r8:=r7.of (o8.of z8)
     have n8:=o8.nx
     have aoM:j8 H8 w ep v8 (j6 q.length) f8:=⟨Ox,fun c hc=>by
      have h1:H7.next<=c:=ho8.lo c hc
      exact ⟨ho8.hi c hc,by omega,fun e=>by have:=(r6.wq.own c (.inr e)).1;omega⟩⟩
     have y8:=(o8.get H6.next (by omega)).trans y7
     simp only [go_sem,y7,y8]
     refine ag.by (vC H8 w bu ep _ _ f8 z.body true R2 r8.wq aoM dY) ?_
     rintro v9 H9 - ⟨mF9,f9,w9,W0,ZK,z9,KS⟩
     simp only [go_sem,ek,jj]
     exact ⟨R2.2,mF9,(r8.call w9 W0 ZK).told,((lu.of o8).step ZK W0).af,qt,Sf.af (fz:=H.fz) (Sf.step (Sf.of jO o8) ZK W0)⟩
    ·rw [if_neg uG] at qt
     simp only [go_sem,ek,Fx,Fq,Ft,RS,JQ,ye,tH,uG,jj]
     exact ⟨bu,ep,r7,lu,qt,jO⟩
   ·rintro V6 H6 ⟨ek,bu,ep,r6,uP,qt,i7⟩
    rw [List.drop_length,FD] at qt
    cases qt
    simp only [go_sem,ek]
    exact r6.post uP
  ·cases he
 rw [if_neg BM] at he
 have m15:decide (y.kind=15)=false:=decide_eq_false BM
 cases he
 simp only [go_sem,xB,iT,oI,oJ,rB,lp,hX,dy,nw,m9,tu,m1,LA,m8,TH,oC,X5,m15]
 have hp:=r1.post gq
 rw [cu] at hp
 exact hp
theorem ahf {K:jQ} (hz:tP K.P) (hk:TC K) {fuel:Nat} (ih:∀j,j < fuel->JT K (x0 K.P K.iS K.box K.np j)):JT K (x0 K.P K.iS K.box K.np fuel):=by
 intro H w st mF vq q f place gf R h hq he
 refine ni (l:=[_,_,_,_]) _ mixed Tryz.func41 amz [.tmp 8] (show 4<=41 by decide) rfl fun hf=>?_
 simp only [Tryz.f41,Option.getD_some]
 have r0:=WR.start h hf
 have lw:=r0.lw
 simp only [go_sem]
 refine L3 1099511627270 (fun k V H2=>k<=fuel/\∃pl q1 bu ep f1,V 2=iV pl/\WR K H w mF H2 bu ep/\j8 H2 w ep (V 1) q1 f1/\x0 K.P K.iS K.box K.np k pl q1 gf bu=some R) (n:=fuel)
  ⟨Nat.le_refl _,place,q,st,mF,f,by simp only [go_sem] <;> rfl,r0.told,by simp only [go_sem];exact hq.af,he⟩ ?_ (by rfl)
 rintro k V H2 ⟨ZD,pl,q1,bu,ep,f1,e2,r2,gV,lJ⟩
 cases k with
 | zero=>rw [x0] at lJ;cases lJ
 | succ k=>
 rw [x0] at lJ
 obtain ⟨vE,vF,gE,dy,hE,qw,oi,en⟩:=r2.wq.bj
 by_cases h1:pl < 0
 ·rw [if_pos (.inl h1)] at lJ
  cases lJ
  have iJ:¬0<=pl:=by omega
  simp only [go_sem,e2,iJ,h1]
  exact r2.post gV
 by_cases h2:((K.P.nodes.length:Nat):Int)<=pl
 ·rw [if_pos (.inr h2)] at lJ
  cases lJ
  have iJ:0<=pl:=by omega
  have wY:¬pl < ((K.P.nodes.length:Nat):Int):=by omega
  simp only [go_sem,e2,iJ,wY,dy]
  exact r2.post gV
 rw [if_neg (by simp [h1,h2])] at lJ
 obtain ⟨a,rfl⟩:=Int.eq_ofNat_of_zero_le (by omega:0<=pl)
 have iT:a < K.P.nodes.length:=by omega
 have ma:(0:Int)<=((a:Nat):Int):=by omega
 have hy:K.P.nodes[a]?=some (K.P.nodes[a]'iT):=zEq iT
 have iH:K.P.nodes.getD a {}=K.P.nodes[a]'iT:=by rw [List.getD_eq_getElem?_getD,hy];rfl
 rw [Int.toNat_natCast,iH] at lJ
 generalize (K.P.nodes[a]'iT)=y at hy lJ
 cases mU:QZ K.P K.iS K.box K.np (x0 K.P K.iS K.box K.np k) (fun a=>uZ K.P.nodes k a []) y ((a:Nat):Int) q1 gf bu with
 | none=>rw [mU] at lJ;cases lJ
 | some R1=>
 rw [mU] at lJ
 simp only at lJ
 simp only [go_sem,e2,ma,iT,dy]
 refine ag.by (alC hz hk (ih k (by omega)) (H2.af H.fz) w bu ep _ q1 f1 a y gf R1 r2.told.wq gV.af hy mU) ?_
 rintro v3 H3 - ⟨Fw,f3,w3,zP,xN,z3,wb⟩
 have r3:=r2.told.call w3 zP xN
 obtain ⟨vE3,vF3,gE3,adu, -⟩:=w3.bj
 obtain ⟨dW,oy,cy,By,gy,wy,oJ,Nz,wu,Er,Dv⟩:=w3.qv.hN.at hy
 simp only [Value.slice.injEq] at wy
 have oI:=wy.1
 obtain ⟨wA,wQ,wB,w1,w22,w33,lp,rfl,q1',q2',q3'⟩:=Dv
 have aeW:By.cells[oy+a * 20+10]?=some (iV y.next):=vg lp (by decide)
 by_cases dH:y.next<=((a:Nat):Int)
 ·rw [if_pos dH] at lJ
  cases lJ
  simp only [go_sem,e2,ma,iT,adu,oI,oJ,aeW,dH]
  exact r3.post wb
 ·rw [if_neg dH] at lJ
  simp only [go_sem,e2,ma,iT,adu,oI,oJ,aeW,dH]
  exact ⟨k,by omega,by omega,y.next,R1.1,R1.2,Fw,f3,rfl,r3.told,wb.af,lJ⟩
theorem alD {K:jQ} (hz:tP K.P) (hk:TC K) (fuel:Nat):JT K (x0 K.P K.iS K.box K.np fuel):=by
 induction fuel using Nat.strongRecOn with
 | ind fuel ih=>exact ahf hz hk ih
def Qj (d:gh) (s:List Int):Bool:=decide (s.length=d.params.length)&&vz s
def u0:List gh->List (List Int)->Bool
 | [],[]=>true
 | d::ds,s::ss=>Qj d s&&u0 ds ss
 | _,_=>false
theorem aad:∀{ds:List gh} {ss:List (List Int)},u0 ds ss=true->ds.length=ss.length
 | [],[],_=>rfl
 | d::ds,s::ss,h=>by
  rw [u0,Bool.and_eq_true] at h
  rw [List.length_cons,List.length_cons,aad h.2]
 | [],_::_,h=>by cases h
 | _::_,[],h=>by cases h
theorem ahg {H:ad} {v:Value} {p:List Int} {f:List Nat} (h:Sl .int H v p f) (hl:p.length < 1000000):aj Tryz.prog 25 #[v] H (fun r H'=>r=.bool (vz p)/\H=H'):=
 (DE h hl).mono fun r H' _ ⟨⟨b,h1,h2⟩,h3⟩=>⟨by rw [h1];congr 1;rw [Bool.eq_iff_iff,h2,xP],h3⟩
theorem ahh {H:ad} {x:gh} {aP aQ aB:Option Addr} {kP nQ kQ nB kB:Nat} {v:Value} {s:List Int} {f:List Nat} (hs:Sl .int H v s f) (hf:∀c∈f,c < H.next) (hl:x.params.length < 1000000):
  aj Tryz.prog 58 #[.agg #[ah x.name,.slice aP x.params.length kP,iV x.aY,iV x.body,iV x.line,iV x.az,.bool x.lX,.slice aQ nQ kQ,.slice aB nB kB],v] H (fun r H'=>r=.bool (Qj x s)/\aG H H'):=by
 refine aj.told ?_
 refine amR (Nat.le_refl _) fun oZ=>?_
 simp only [Tryz.f58,Option.getD_some]
 obtain ⟨a,k,rfl⟩:=hs.val
 unfold Qj
 have NU:(((s.length:Nat):Int)=((x.params.length:Nat):Int))↔s.length=x.params.length:=by omega
 by_cases h1:s.length=x.params.length
 ·have iJ:((s.length:Nat):Int)=((x.params.length:Nat):Int):=by omega
  have o1:aG H (H.push ⟨[ah x.name,.slice aP x.params.length kP,iV x.aY,iV x.body,iV x.line,iV x.az,.bool x.lX,.slice aQ nQ kQ,.slice aB nB kB],47,false,false⟩):=aG.push _ _
  simp only [go_sem,iJ]
  refine ag.by (ahg (hs.ae fun c hc=>o1.get c (hf c hc)) (by omega)) ?_
  rintro _ _ - ⟨rfl,rfl⟩
  simp only [go_sem]
  exact ⟨by rw [decide_eq_true h1,Bool.true_and],((o1.fr []).af _).au⟩
 ·have iJ:¬((s.length:Nat):Int)=((x.params.length:Nat):Int):=by omega
  rw [show decide (s.length=x.params.length)=false from decide_eq_false h1]
  simp only [go_sem,iJ]
  exact ⟨rfl,(((Fr.refl [] H).push _).af _).au⟩
theorem aoN {H:ad} {vD vS:Value} {ds:List gh} {ss:List (List Int)} {gD gS:List Nat} (hD:Sl kV H vD ds gD) (Lc:∀c∈gD,c < H.next) (hS:Sl (.slice .int) H vS ss gS) (sI:∀c∈gS,c < H.next) (hl:ds.length < 1000000) (hp:∀x∈ds,x.params.length < 1000000) (ea:∀s∈ss,s.length < 1000000):
  aj Tryz.prog 57 #[vD,vS,.func (.func 58) #[] #[]] H (fun r H'=>r=.bool (u0 ds ss)/\aG H H'):=by
 refine aj.told ?_
 refine amP (Nat.le_refl _) fun hf=>?_
 simp only [Tryz.f57,Option.getD_some]
 obtain ⟨aD,kD,rfl⟩:=hD.val
 obtain ⟨aS,kS,rfl⟩:=hS.val
 by_cases hlen:ds.length=ss.length
 ·have dd:¬(((ds.length:Nat):Int)≠((ss.length:Nat):Int)):=by omega
  have NK:((ds.length:Nat):Int)=((ss.length:Nat):Int):=by omega
  obtain ⟨R,hR⟩:∃R,R=u0 ds ss:=⟨_,rfl⟩
  rw [<-hR]
  simp only [go_sem,NK]
  refine ft 4294837184 ds.length (fun i V H1=>V 17=iV (i:Nat)/\aG H H1/\R=u0 (ds.drop i) (ss.drop i)) ⟨by simp only [go_sem] <;> rfl,aG.refl _,hR⟩ ?_ ?_ (by rfl)
  ·rintro i V H1 hi ⟨ei,o1,Fy⟩
   have hx:ds[i]?=some (ds[i]'hi):=zEq hi
   have Pl:ds.drop i=(ds[i]'hi)::ds.drop (i+1):=(List.getElem_cons_drop hi).symm
   have HX:=hp _ (List.getElem_mem hi)
   generalize (ds[i]'hi)=x at hx Pl HX
   have gY:i < ss.length:=by omega
   have hy:ss[i]?=some (ss[i]'gY):=zEq gY
   have pL:ss.drop i=(ss[i]'gY)::ss.drop (i+1):=(List.getElem_cons_drop gY).symm
   have HZ:=ea _ (List.getElem_mem gY)
   generalize (ss[i]'gY)=s at hy pL HZ
   rw [Pl,pL,u0] at Fy
   have n1:=o1.nx
   obtain ⟨b,o,c,B,gx,hv,hB,dI,df,cb,hE⟩:=(hD.ae (H':=H1) fun c hc=>o1.get c (Lc c hc)).at hx
   simp only [Value.slice.injEq] at hv
   have iz:=hv.1
   obtain ⟨vA,vQ,vB,u1,u2,u3,bg,rfl,t1,t2,t3⟩:=hE
   obtain ⟨a1,k1,rfl⟩:=t1.val
   obtain ⟨a2,k2,rfl⟩:=t2.val
   obtain ⟨a3,k3,rfl⟩:=t3.val
   have ef:o+i * 9+9<=B.cells.length:=cb
   have bg:(B.cells.drop (o+i * 9)).take 9=[ah x.name,.slice a1 x.params.length k1,iV x.aY,iV x.body,iV x.line,iV x.az,.bool x.lX,.slice a2 x.pat.length k2,.slice a3 x.on.length k3]:=bg
   obtain ⟨b5,o5,c5,B5,g5,ji,wm,Rk,GA,GB,tz⟩:=(hS.ae (H':=H1) fun c hc=>o1.get c (sI c hc)).at hy
   simp only [Value.slice.injEq] at ji
   have Pn:=ji.1
   obtain ⟨vs,jW,gG⟩:=tz
   obtain ⟨yM,ks,rfl⟩:=gG.val
   have DL:B5.cells[o5+i]?=some (.slice yM s.length ks):=by
    have:=vg (i:=0) jW (by decide)
    rw [Nat.add_zero,show i * Rp.int.slice.sz=i from Nat.mul_one i] at this
    exact this
   have cH:IntKind.wrap .i64 (((i:Nat):Int)+1)=((i+1:Nat):Int):=cG hi (by omega)
   have ey:H.fz H1.next=false:=hf.fresh n1
   have Wl:¬b5=H1.next:=by have:=sI b5 (by simp [Rk]);omega
   have o2:aG H1 (H1.push ⟨[ah x.name,.slice a1 x.params.length k1,iV x.aY,iV x.body,iV x.line,iV x.az,.bool x.lX,.slice a2 x.pat.length k2,.slice a3 x.on.length k3],47,false,false⟩):=aG.push _ _
   simp only [go_sem,ei,hi,gY,iz,hB,ef,bg,Pn,wm,DL,ey,Wl]
   refine ag.by (ahh (x:=x) (gG.ae fun c hc=>o2.get c (by have:=sI c (GA c hc);omega)) (fun c hc=>by have:=sI c (GA c hc);rw [bI];omega) HX) ?_
   rintro _ H3 - ⟨rfl,o3⟩
   cases hr:Qj x s with
   | true=>
    rw [hr,Bool.true_and] at Fy
    simp only [go_sem,ei,cH]
    exact ⟨(o1.trans o2).trans o3,Fy⟩
   | false=>
    rw [hr,Bool.false_and] at Fy
    simp only [go_sem]
    exact ⟨by rw [Fy],((((o1.trans o2).trans o3).fr []).af _).au⟩
  ·rintro V H1 ⟨ei,o1,Fy⟩
   rw [List.drop_length,List.drop_of_length_le (by omega),u0] at Fy
   have dK:¬ds.length < ss.length:=by omega
   simp only [go_sem,ei,dK]
   exact ⟨by rw [Fy],((o1.fr []).af _).au⟩
 ·have dd:¬((ds.length:Nat):Int)=((ss.length:Nat):Int):=by omega
  have hR:u0 ds ss=false:=by
   cases h:u0 ds ss with
   | false=>rfl
   | true=>exact absurd (aad h) hlen
  simp only [go_sem,dd]
  exact ⟨by rw [hR],((Fr.refl [] H).af _).au⟩
theorem ahi {H:ad} {P:cC} {px:wz} (lI:qu H P px) (hz:tP P) {vS:Value} {ss:List (List Int)} {gS:List Nat} (hS:Sl (.slice .int) H vS ss gS) (sI:∀c∈gS,c < H.next) (ea:∀s∈ss,s.length < 1000000):
  aj Tryz.prog 39 #[.agg (px.c P).toArray,vS] H (fun r H'=>r=.bool (u0 P.defs ss)/\aG H H'):=by
 refine aj.told ?_
 refine amx (Nat.le_refl _) fun hf=>?_
 simp only [Tryz.f39,Option.getD_some]
 have o1:aG H (H.push ⟨px.c P,31,false,false⟩):=aG.push _ _
 simp only [go_sem]
 refine ag.by (aoN (lI.ae o1).hD (fun c hc=>(lI.ae o1).lt c (by simp [hc])) (hS.ae fun c hc=>o1.get c (sI c hc)) (fun c hc=>Nat.lt_succ_of_lt (sI c hc)) hz.d hz.dp ea) ?_
 rintro _ H2 - ⟨rfl,o2⟩
 simp only [go_sem]
 exact (((o1.trans o2).fr []).af _).au
def W1:List Int->Int
 | []=>0
 | x::l=>l.foldl (fun a b=>min a b) x
theorem aoO {H:ad} {v:Value} {p:List Int} {f:List Nat} (h:Sl .int H v p f) (hl:p.length < 1000000) (dd:p≠[]):aj Tryz.prog 42 #[v] H (fun r H'=>r=iV (W1 p)/\H=H'):=by
 refine amB (Nat.le_refl _) fun hf=>?_
 simp only [Tryz.f42,Option.getD_some]
 have oR:0 < p.length:=List.length_pos_iff.2 dd
 have h1:¬((p.length:Nat):Int) < 1:=by omega
 obtain ⟨b,o,c,B,hv,hB,_,hc⟩:=h.j0 oR
 subst hv
 rw [Nat.add_zero] at hc
 simp only [go_sem,h1,oR,hB,hc]
 refine qA 16773144 (fun k V H1=>∃i,i+k=p.length/\1<=i/\V 4=iV (i:Nat)/\H=H1/\∃m,V 3=iV m/\W1 p=(p.drop i).foldl (fun a b=>min a b) m) (n:=p.length - 1)
  ⟨1,by omega,Nat.le_refl _,by simp only [go_sem] <;> rfl,rfl,p.getD 0 0,by simp only [go_sem] <;> rfl,?_⟩ ?_ (by rfl)
 ·cases p with
  | nil=>exact absurd rfl dd
  | cons x l=>rfl
 ·rintro k V H1 ⟨i,Kq,nG,ei,rfl,m,em,hm⟩
  by_cases hi:i < p.length
  ·obtain ⟨b2,o2,c2,B2,jm,jH,_,jI⟩:=h.j0 hi
   simp only [Value.slice.injEq] at jm
   have lk:b2=b/\o2=o:=by simpa using jm.1.symm
   rw [lk.1] at jH
   rw [hB] at jH
   cases jH
   rw [lk.2] at jI
   have cH:IntKind.wrap .i64 (((i:Nat):Int)+1)=((i+1:Nat):Int):=cG hi (by omega)
   rw [IM hi,List.foldl_cons] at hm
   simp only [go_sem,ei,em,hi,hB,jI,cH,Qh]
   exact ⟨k - 1,by omega,i+1,by omega,by omega,rfl,_,rfl,hm⟩
  ·have hk:i=p.length:=by omega
   subst hk
   rw [List.drop_length,List.foldl_nil] at hm
   have oX:¬p.length < p.length:=by omega
   simp only [go_sem,ei,em,oX]
   rw [hm]
theorem aih {H:ad} {v w:Value} {p q:List Int} {f g:List Nat} (h:Sl .int H v p f) (h2:Sl .int H w q g) (hl:p.length < 1000000):aj Tryz.prog 34 #[v,w] H (fun r H'=>r=.bool (decide (p=q))/\H=H'):=by
 refine amv (Nat.le_refl _) fun hf=>?_
 simp only [Tryz.f34,Option.getD_some]
 obtain ⟨a1,k1,nC⟩:=h.val
 obtain ⟨a2,k2,jm⟩:=h2.val
 subst nC jm
 by_cases hlen:p.length=q.length
 ·have NK:((p.length:Nat):Int)=((q.length:Nat):Int):=by omega
  simp only [go_sem,NK]
  refine ft 67100720 p.length (fun i V H1=>V 13=iV (i:Nat)/\H=H1/\∀j,j < i->p.getD j 0=q.getD j 0) ⟨by simp only [go_sem] <;> rfl,rfl,fun j hj=>by omega⟩ ?_ ?_ (by rfl)
  ·rintro i V H1 hi ⟨ei,rfl,fG⟩
   have gY:i < q.length:=by omega
   obtain ⟨b,o,c,B,hv,hB,_,hc⟩:=h.j0 hi
   obtain ⟨b2,o2,c2,B2,jm,jH,_,jI⟩:=h2.j0 gY
   simp only [Value.slice.injEq] at hv jm
   have ha:=hv.1
   have CU:=jm.1
   have cH:IntKind.wrap .i64 (((i:Nat):Int)+1)=((i+1:Nat):Int):=cG hi (by omega)
   by_cases he:p.getD i 0=q.getD i 0
   ·simp only [go_sem,ei,hi,gY,ha,CU,hB,jH,hc,jI,he,cH]
    intro j hj
    by_cases lr:j=i
    ·subst lr;exact he
    ·exact fG j (by omega)
   ·simp only [go_sem,ei,hi,gY,ha,CU,hB,jH,hc,jI,he]
    rw [decide_eq_false fun e=>he (by rw [e])]
  ·rintro V H1 ⟨ei,rfl,fG⟩
   have dZ:¬p.length < q.length:=by omega
   simp only [go_sem,ei,dZ]
   rw [decide_eq_true (P4 hlen fun i hi=>fG i hi)]
 ·have NK:¬((p.length:Nat):Int)=((q.length:Nat):Int):=by omega
  simp only [go_sem,NK]
  rw [decide_eq_false fun e=>hlen (by rw [e])]
structure IE where
 code:Int
 d:Int
 place:Int
deriving DecidableEq
abbrev Fz (x:IE):List Value:=[iV x.code,iV x.d,iV x.place]
def JU (fuel:Nat) (P:cC) (d:Int) (iS:List (List Int)):Option (Option (List Int) × IE):=
 if d < 0∨((P.defs.length:Nat):Int)<=d then some (none,⟨0,0,0⟩) else
  if iS.all (fun s=>decide (s.length < 1000000))=true then
   match P.defs[d.toNat]? with
   | none=>none
   | some x=>if u0 P.defs iS=false∨x.aY < ((x.params.length:Nat):Int)∨40 < x.aY then some (none,⟨0,0,0⟩) else
    match QB fuel P d with
    | none=>none
    | some bx=>match x0 P iS bx x.params.length fuel x.body (j6 x.aY.toNat) false ⟨j6 x.params.length,[]⟩ with
     | none=>none
     | some R=>if R.2.sZ.length < 1000000 then
       some (some R.2.ends,if R.2.sZ=[] then ⟨0,0,0⟩ else ⟨14,d,W1 R.2.sZ⟩) else none
  else none
theorem acj {H:ad} {P:cC} {px:wz} (lI:qu H P px) (hz:tP P) {fuel:Nat} (yu:fuel<=100000) {d:Int} {vS:Value} {iS:List (List Int)} {gS:List Nat} (hS:Sl (.slice .int) H vS iS gS) (sI:∀c∈gS,c < H.next) {W:Option (List Int) × IE} (he:JU fuel P d iS=some W):
  aj Tryz.prog 21 #[.agg (px.c P).toArray,iV d,vS] H (fun r H'=>aG H H'/\(∀c,H'.fz c=H.fz c)/\∃v,r=.tuple #[v,.agg (Fz W.2).toArray]/\match W.1 with
   | none=>v=.slice none 0 0
   | some s=>∃f',Sl .int H' v s f'/\∀c∈f',H.next<=c/\c < H'.next):=by
 refine aj.told ?_
 refine ni (l:=[_,_,_]) _ mixed Tryz.func21 amj [.tmp 6,.cell 7 38] (show 3<=93 by decide) rfl fun hf=>?_
 simp only [Tryz.f21,Option.getD_some]
 have hX:∀{c:Nat},H.next<=c->H.fz c=false:=fun h=>hf.fresh h
 unfold JU at he
 by_cases h1:d < 0
 ·rw [if_pos (.inl h1)] at he
  cases he
  simp only [go_sem,h1,hX (Nat.le_refl H.next),hX (Nat.le_succ H.next)]
  exact ⟨((((((Fr.refl [] H).push _).push _).af _).ai (.inr (by omega)) _).af _).au,fun _=>trivial,_,rfl,rfl⟩
 by_cases h2:((P.defs.length:Nat):Int)<=d
 ·rw [if_pos (.inr h2)] at he
  cases he
  simp only [go_sem,h1,h2,hX (Nat.le_refl H.next),hX (Nat.le_succ H.next)]
  exact ⟨((((((Fr.refl [] H).push _).push _).af _).ai (.inr (by omega)) _).af _).au,fun _=>trivial,_,rfl,rfl⟩
 rw [if_neg (by simp [h1,h2])] at he
 split at he
 ·rename_i fG
  have ea:∀s∈iS,s.length < 1000000:=fun s hs=>by
   have:=List.all_eq_true.1 fG s hs
   exact of_decide_eq_true this
  obtain ⟨i,rfl⟩:=Int.eq_ofNat_of_zero_le (by omega:0<=d)
  have j9:(0:Int)<=((i:Nat):Int):=by omega
  have bX:i < P.defs.length:=by omega
  have hx:P.defs[i]?=some (P.defs[i]'bX):=zEq bX
  rw [Int.toNat_natCast,hx] at he
  have dZ:=hz.dp _ (List.getElem_mem bX)
  generalize (P.defs[i]'bX)=x at hx he dZ
  simp only at he
  simp only [go_sem,h1,h2]
  obtain ⟨H1,cu⟩:∃H1,H1=((H.push ⟨px.c P,31,false,false⟩).push ⟨[.int .i64 0,.int .i64 0,.int .i64 0],38,false,false⟩).af H.fz:=⟨_,rfl⟩
  rw [<-cu]
  have o1:aG H H1:=by rw [cu];exact ((((Fr.refl [] H).push _).push _).af _).au
  have p1:H1.get H.next=some ⟨px.c P,31,false,false⟩:=by rw [cu,bG,aZ,bI,if_neg (by omega),aZ,if_pos rfl]
  have f1:H1.get (H.next+1)=some ⟨[.int .i64 0,.int .i64 0,.int .i64 0],38,false,false⟩:=by rw [cu,bG,aZ];exact if_pos rfl
  have n1:H1.next=H.next+1+1:=by rw [cu];rfl
  clear cu
  have Dq:=lI.ae o1
  refine ag.by (ahi Dq hz (hS.ae fun c hc=>o1.get c (sI c hc)) (fun c hc=>by have:=sI c hc;omega) ea) ?_
  rintro _ H2 - ⟨rfl,o2⟩
  have DA:=o1.trans o2
  have n2:=o2.nx
  have p2:=(o2.get H.next (by omega)).trans p1
  have f2:=(o2.get (H.next+1) (by omega)).trans f1
  have ey:H.fz (H.next+1)=false:=hX (by omega)
  obtain ⟨b,o,c,B,gx,hv,hB,dI,df,cb,hE⟩:=(lI.ae DA).hD.at hx
  simp only [Value.slice.injEq] at hv
  have iz:=hv.1
  obtain ⟨vA,vQ,vB,u1,u2,u3,bg,rfl,t1,t2,t3⟩:=hE
  obtain ⟨a1,k1,rfl⟩:=t1.val
  obtain ⟨a2,k2,rfl⟩:=t2.val
  obtain ⟨a3,k3,rfl⟩:=t3.val
  have ef:o+i * 9+9<=B.cells.length:=cb
  have bg:(B.cells.drop (o+i * 9)).take 9=[ah x.name,.slice a1 x.params.length k1,iV x.aY,iV x.body,iV x.line,iV x.az,.bool x.lX,.slice a2 x.pat.length k2,.slice a3 x.on.length k3]:=bg
  have Mj:B.cells[o+i * 9+1]?=some (.slice a1 x.params.length k1):=vg bg (by decide)
  have uY:B.cells[o+i * 9+2]?=some (iV x.aY):=vg bg (by decide)
  by_cases g1:u0 P.defs iS=false
  ·rw [if_pos (.inl g1)] at he
   cases he
   simp only [go_sem,g1,f2,ey]
   exact ⟨((((DA.fr []).af _).ai (.inr (by omega)) _).af _).au,fun _=>trivial,_,rfl,rfl⟩
  have TI:u0 P.defs iS=true:=by simpa using g1
  by_cases g2:x.aY < ((x.params.length:Nat):Int)
  ·rw [if_pos (.inr (.inl g2))] at he
   cases he
   simp only [go_sem,TI,p2,f2,ey,j9,bX,iz,hB,Mj,uY,g2]
   exact ⟨((((DA.fr []).af _).ai (.inr (by omega)) _).af _).au,fun _=>trivial,_,rfl,rfl⟩
  by_cases g3:40 < x.aY
  ·rw [if_pos (.inr (.inr g3))] at he
   cases he
   simp only [go_sem,TI,p2,f2,ey,j9,bX,iz,hB,Mj,uY,g2,g3]
   exact ⟨((((DA.fr []).af _).ai (.inr (by omega)) _).af _).au,fun _=>trivial,_,rfl,rfl⟩
  rw [if_neg (by simp [TI,g2,g3])] at he
  have dw:H.fz H2.next=false:=hX (by omega)
  simp only [go_sem,TI,p2,f2,ey,dw,j9,bX,iz,hB,ef,bg,Mj,uY,g2,g3,(show¬H.next=H2.next by omega)]
  obtain ⟨H3,dv⟩:∃H3,H3=((H2.af H.fz).push ⟨[ah x.name,.slice a1 x.params.length k1,iV x.aY,iV x.body,iV x.line,iV x.az,.bool x.lX,.slice a2 x.pat.length k2,.slice a3 x.on.length k3],47,false,false⟩).af H.fz:=⟨_,rfl⟩
  rw [<-dv,<-iz]
  have ZL:aG H2 H3:=by rw [dv];exact ((((Fr.refl [] H2).af _).push _).af _).au
  have d3:H3.get H2.next=some ⟨[ah x.name,.slice a1 x.params.length k1,iV x.aY,iV x.body,iV x.line,iV x.az,.bool x.lX,.slice a2 x.pat.length k2,.slice a3 x.on.length k3],47,false,false⟩:=by rw [dv,bG,aZ];exact if_pos rfl
  have n3:H3.next=H2.next+1:=by rw [dv];rfl
  have z3:∀c,H3.fz c=H.fz c:=fun c=>by rw [dv];rfl
  clear dv
  have o3:aG H H3:=DA.trans ZL
  have p3:=(ZL.get H.next (by omega)).trans p2
  have f3:=(ZL.get (H.next+1) (by omega)).trans f2
  cases Is:QB fuel P ((i:Nat):Int) with
  | none=>rw [Is] at he;cases he
  | some bx=>
  rw [Is] at he
  simp only at he
  have aAY:x.params.length<=40:=by omega
  obtain ⟨sl,aeX⟩:=Int.eq_ofNat_of_zero_le (by omega:0<=x.aY)
  rw [aeX,Int.toNat_natCast] at he
  cases jc:x0 P iS bx x.params.length fuel x.body (j6 sl) false ⟨j6 x.params.length,[]⟩ with
  | none=>rw [jc] at he;cases he
  | some R=>
  rw [jc] at he
  simp only at he
  split at he
  ·rename_i dC
   cases he
   refine ag.by (aj.Dx (ah8 (lI.ae o3) hz yu Is) fun v H' fz ⟨h1,f',h2,h3⟩=>⟨((h1.fr []).af _).au,f',h2.ae fun _ _=>rfl,h3⟩) ?_
   rintro Hq H4 - ⟨⟨o4,gB,qn,HB⟩,z4⟩
   have p4:=(o4.get H.next (by omega)).trans p3
   have d4:=(o4.get H2.next (by omega)).trans d3
   have f4:=(o4.get (H.next+1) (by omega)).trans f3
   have n4:=o4.nx
   simp only [go_sem,p3,p4,d3,d4]
   refine ag.by (Ml (by omega)) ?_
   rintro YS H5 - ⟨⟨o5,fN,Zg,TJ⟩,z5⟩
   have p5:=(o5.get H.next (by omega)).trans p4
   have d5:=(o5.get H2.next (by omega)).trans d4
   have f5:=(o5.get (H.next+1) (by omega)).trans f4
   have n5:=o5.nx
   obtain ⟨aB4,kB4,rfl⟩:=qn.val
   obtain ⟨aN5,kN5,rfl⟩:=Zg.val
   obtain ⟨aS,kS,rfl⟩:=hS.val
   have arR:¬H2.next=H5.next:=by omega
   simp only [go_sem,p3,p4,p5,d3,d4,d5,arR,aeX]
   obtain ⟨K,hK⟩:∃K:jQ,K=⟨P,px,((i:Nat):Int),.slice aS iS.length kS,iS,gS,.slice aB4 bx.length kB4,bx,gB,x.params.length,H.next+2⟩:=⟨_,rfl⟩
   obtain ⟨H6,fo⟩:∃H6,H6=(H5.push ⟨uO K (.slice aN5 (j6 x.params.length).length kN5) (.slice none 0 0),82,false,false⟩).af H.fz:=⟨_,rfl⟩
   have W2:=fo
   rw [hK] at W2
   rw [<-W2]
   have Pr:aG H5 H6:=by rw [fo];exact (((Fr.refl [] H5).push _).af _).au
   have w6:H6.get H5.next=some ⟨uO K (.slice aN5 (j6 x.params.length).length kN5) (.slice none 0 0),82,false,false⟩:=by rw [fo,bG,aZ];exact if_pos rfl
   have n6:H6.next=H5.next+1:=by rw [fo];rfl
   have z6:∀c,H6.fz c=H.fz c:=fun c=>by rw [fo];rfl
   clear W2 fo
   have o6:aG H H6:=(((o3.trans o4).trans o5).trans Pr)
   have d6:=(Pr.get H2.next (by omega)).trans d5
   have f6:=(Pr.get (H.next+1) (by omega)).trans f5
   have wq6:WQ K H6 H5.next ⟨j6 x.params.length,[]⟩ []:=by
    have oX:(j6 x.params.length).length=x.params.length:=by unfold j6;simp
    refine ⟨⟨_,_,fN,w6,Zg.ae fun c hc=>Pr.get c (TJ.hi c hc),fun c hc=>⟨by have:=TJ.hi c hc;omega,by have:=TJ.hi c hc;omega,by simp,by rw [hK];have:=TJ.lo c hc;show H.next+2<=c;omega⟩,.inl (by rw [hK];exact oX),.inl ⟨rfl,rfl,rfl⟩⟩,List.nodup_nil,by rw [hK];exact lI.ae o6,?_,?_,fun c hc=>?_,fun c hc=>?_,by simp,by rw [hK];show H.next+2<=H5.next;omega⟩
    ·rw [hK];exact hS.ae fun c hc=>o6.get c (sI c hc)
    ·rw [hK];exact qn.ae fun c hc=>(Pr.get c (by have:=(HB c hc).2;omega)).trans (o5.get c (HB c hc).2)
    ·rw [hK] at hc
     have yi:c < H5.next:=by
      simp only [List.mem_append] at hc
      rcases hc with (e | e | e) | e | e
      ·have:=lI.lt c (by simp [e]);omega
      ·have:=lI.lt c (by simp [e]);omega
      ·have:=lI.lt c (by simp [e]);omega
      ·have:=sI c e;omega
      ·have:=(HB c e).2;omega
     exact ⟨by omega,by omega,by simp⟩
    ·rcases hc with e | e
     ·subst e;exact ⟨by omega,by rw [z6];exact hX (by omega)⟩
     ·cases e
   refine ag.by (Ml (by omega)) ?_
   rintro Fb H7 - ⟨⟨o7,fN7,SX,aeY⟩,z7⟩
   have wq7:=wq6.of (o7.of z7)
   have d7:=(o7.get H2.next (by omega)).trans d6
   have f7:=(o7.get (H.next+1) (by omega)).trans f6
   have n7:=o7.nx
   have aoP:j8 H7 H5.next [] Fb (j6 sl) fN7:=⟨SX,fun c hc=>⟨aeY.hi c hc,by have:=aeY.lo c hc;omega,by simp⟩⟩
   have vC:JT K (x0 P iS bx x.params.length fuel):=by
    have:=alD (K:=K) (by rw [hK];exact hz) (by rw [hK];exact ⟨i,x,rfl,hx,rfl⟩) fuel
    rw [hK] at this ⊢
    exact this
   simp only [go_sem,d6,d7]
   refine ag.by (vC H7 H5.next ⟨j6 x.params.length,[]⟩ [] Fb (j6 sl) fN7 x.body false R wq7 aoP jc) ?_
   rintro v8 H8 - ⟨mF,KN,wq8,aCi,Fv,z8,SC⟩
   obtain ⟨vE,vF,gE,Q0,OZ,W3,aAZ,RU⟩:=wq8.bj
   have n8:=Fv.nx
   have f8:=(Fv.get (H.next+1) (by omega) (by simp;omega)).trans f7
   have o8:aG H H8:=⟨by omega,fun c hc=>(Fv.get c (by omega) (by simp;omega)).trans ((o7.get c (by omega)).trans (o6.get c hc)),fun c B hB hr=>o6.ro c B (o7.ro c B (Fv.ro c B hB hr) hr) hr⟩
   obtain ⟨aE,kE,rfl⟩:=OZ.val
   obtain ⟨aF,kF,rfl⟩:=RU.sl.val
   have RW:∀c∈gE,H.next+2<=c:=fun c hc=>by have:=(W3 c hc).2.2.2;rw [hK] at this;exact this
   rw [hK] at Q0
   by_cases xl:R.2.sZ=[]
   ·rw [if_pos xl]
    have Dt:¬(0:Int) < ((0:Nat):Int):=by omega
    have aoQ:R.2.sZ.length=0:=by rw [xl];rfl
    have SO:¬H.next+1=H8.next:=by omega
    simp only [go_sem,Q0,aoQ,Dt,f8,ey]
    exact ⟨((((o8.fr []).af _).ai (.inr (by omega)) _).af _).au,fun _=>trivial,_,rfl,gE,OZ.ae fun c hc=>by
     rw [bG,aH,if_neg (by have:=RW c hc;omega)];rfl,fun c hc=>⟨by have:=RW c hc;omega,(W3 c hc).1⟩⟩
   ·rw [if_neg xl]
    have arS:0 < ((R.2.sZ.length:Nat):Int):=by have:=List.length_pos_iff.2 xl;omega
    simp only [go_sem,Q0,arS]
    refine ag.by (aoO (RU.sl.ae (H':=H8.af H.fz) fun _ _=>rfl) dC xl) ?_
    rintro _ _ - ⟨rfl,rfl⟩
    have wZ:¬H5.next=H.next+1:=by omega
    simp only [go_sem,Q0,f8,ey,wZ]
    exact ⟨((((((o8.fr []).af _).ai (.inr (by omega)) _).af _).ai (.inr (by omega)) _).af _).au,fun _=>trivial,_,rfl,gE,OZ.ae fun c hc=>by
     have h9:=RW c hc
     rw [bG,aH,if_neg (by omega),bG,aH,if_neg (by omega)];rfl,fun c hc=>⟨by have:=RW c hc;omega,(W3 c hc).1⟩⟩
  ·cases he
 ·cases he
def DO (fuel:Nat) (P:cC):Nat->List (List Int)->Bool->Option (List (List Int) × Bool)
 | 0,s,m=>some (s,m)
 | k+1,s,m=>match JU fuel P ((P.defs.length - (k+1):Nat):Int) s with
  | none=>none
  | some (none,_)=>DO fuel P k s m
  | some (some e,_)=>match s[P.defs.length - (k+1)]? with
   | none=>none
   | some si=>if si.length < 1000000/\e.length < 1000000 then
     match AW si e with
     | none=>none
     | some m'=>if m'=si then DO fuel P k s m else DO fuel P k (s.set (P.defs.length - (k+1)) m') true
    else none
def MR (fuel:Nat) (P:cC):Nat->List (List Int)->Option (List (List Int))
 | 0,_=>none
 | k+1,s=>match DO fuel P P.defs.length s false with
  | none=>none
  | some (s',true)=>MR fuel P k s'
  | some (s',false)=>some s'
def Mm (fuel:Nat) (P:cC):Option (List (List Int)):=
 if P.defs.all (fun x=>decide (x.params.length < 1000))=true then MR fuel P fuel (P.defs.map fun x=>j6 x.params.length) else none
theorem afK {a m:List Int} (h:AW a []=some m):m=a:=by
 unfold AW at h
 split at h
 ·rename_i hc
  cases h
  rfl
 ·cases h
theorem abJ {H:ad} {P:cC} {px:wz} (lI:qu H P px) (hz:tP P) {fuel:Nat} (yu:fuel<=100000) {S:List (List Int)} (he:Mm fuel P=some S):
  aj Tryz.prog 12 #[.agg (px.c P).toArray] H (fun r H'=>aG H H'/\(∀c,H'.fz c=H.fz c)/\∃f',Sl (.slice .int) H' r S f'/\∀c∈f',H.next<=c/\c < H'.next):=by
 refine aj.told ?_
 refine ni (l:=[_]) _ mixed Tryz.func12 ame [.tmp 2] (show 1<=60 by decide) rfl fun hf=>?_
 simp only [Tryz.f12,Option.getD_some]
 have hX:∀{c:Nat},H.next<=c->H.fz c=false:=fun h=>hf.fresh h
 unfold Mm at he
 split at he
 ·rename_i fG
  have dZ:∀x∈P.defs,x.params.length < 1000:=fun x hx=>of_decide_eq_true (List.all_eq_true.1 fG x hx)
  simp only [go_sem]
  obtain ⟨H1,cu⟩:∃H1,H1=(H.push ⟨px.c P,31,false,false⟩).af H.fz:=⟨_,rfl⟩
  rw [<-cu]
  have o1:aG H H1:=by rw [cu];exact (((Fr.refl [] H).push _).af _).au
  have p1:H1.get H.next=some ⟨px.c P,31,false,false⟩:=by rw [cu,bG,aZ,if_pos rfl]
  have n1:H1.next=H.next+1:=by rw [cu];rfl
  clear cu
  have q9:=hz.d
  refine kC 33546280 P.defs.length (fun i V H2=>V 13=iV (i:Nat)/\∃m g,Gr (.slice .int) 22 H2 (V 3) ((P.defs.take i).map fun x=>j6 x.params.length) m g/\(∀c∈m,H.next+1<=c/\c < H2.next)/\(∀c∈g,H.next+1<=c/\c < H2.next/\c∉m)/\aG H1 H2)
   ⟨by simp only [go_sem] <;> rfl,[],[],by simp only [go_sem];exact Gr.nil _ _ _,by simp,by simp,aG.refl _⟩ ?_ ?_ (by rfl)
  ·rintro i V H2 hi ⟨ei,m,g,cw,hm,hg,o2⟩
   have hx:P.defs[i]?=some (P.defs[i]'hi):=zEq hi
   have iX:(P.defs.take (i+1)).map (fun x=>j6 x.params.length)=(P.defs.take i).map (fun x=>j6 x.params.length)++[j6 (P.defs[i]'hi).params.length]:=by rw [List.take_add_one,hx,List.map_append];rfl
   have HX:=dZ _ (List.getElem_mem hi)
   generalize (P.defs[i]'hi)=x at hx iX HX
   have n2:=o2.nx
   obtain ⟨b,o,c,B,gx,hv,hB,dI,df,cb,hE⟩:=(lI.ae (o1.trans o2)).hD.at hx
   simp only [Value.slice.injEq] at hv
   have iz:=hv.1
   obtain ⟨vA,vQ,vB,u1,u2,u3,bg,rfl,t1,t2,t3⟩:=hE
   obtain ⟨a1,k1,rfl⟩:=t1.val
   obtain ⟨a2,k2,rfl⟩:=t2.val
   obtain ⟨a3,k3,rfl⟩:=t3.val
   have ef:o+i * 9+9<=B.cells.length:=cb
   have bg:(B.cells.drop (o+i * 9)).take 9=[ah x.name,.slice a1 x.params.length k1,iV x.aY,iV x.body,iV x.line,iV x.az,.bool x.lX,.slice a2 x.pat.length k2,.slice a3 x.on.length k3]:=bg
   have cH:IntKind.wrap .i64 (((i:Nat):Int)+1)=((i+1:Nat):Int):=cG hi (by omega)
   have dw:H.fz H2.next=false:=hX (by omega)
   simp only [go_sem,ei,hi,iz,hB,ef,bg,dw]
   have o3:aG H2 (((H2.af H.fz).push ⟨[ah x.name,.slice a1 x.params.length k1,iV x.aY,iV x.body,iV x.line,iV x.az,.bool x.lX,.slice a2 x.pat.length k2,.slice a3 x.on.length k3],47,false,false⟩).af H.fz):=((((Fr.refl [] H2).af H.fz).push _).af _).au
   have n3:(((H2.af H.fz).push ⟨[ah x.name,.slice a1 x.params.length k1,iV x.aY,iV x.body,iV x.line,iV x.az,.bool x.lX,.slice a2 x.pat.length k2,.slice a3 x.on.length k3],47,false,false⟩).af H.fz).next=H2.next+1:=rfl
   generalize (((H2.af H.fz).push ⟨[ah x.name,.slice a1 x.params.length k1,iV x.aY,iV x.body,iV x.line,iV x.az,.bool x.lX,.slice a2 x.pat.length k2,.slice a3 x.on.length k3],47,false,false⟩).af H.fz)=H3 at o3 n3 ⊢
   refine ag.by (Ml HX) ?_
   rintro v4 H4 - ⟨⟨o4,f4,jt,lj⟩,z4⟩
   obtain ⟨a4,k4,rfl⟩:=jt.val
   have n4:=o4.nx
   have BV:=o3.trans o4
   simp only [go_sem,eX acP (by decide) (by decide)]
   refine lA (r:=.slice .int) (x:=j6 x.params.length) (g':=f4) acP (cw.ae (fun c hc=>(bO (by have:=(hm c hc).2;omega)).trans (BV.get c (hm c hc).2)) (fun c hc=>(bO (by have:=(hg c hc).2.1;omega)).trans (BV.get c (hg c hc).2.1))) (fun c hc=>Nat.lt_succ_of_lt (by have:=(hm c hc).2;omega)) (fun c hc=>Nat.lt_succ_of_lt (by have:=(hg c hc).2.1;omega)) (fun c hc=>⟨Nat.lt_succ_of_lt (lj.hi c hc),fun e=>by have:=(hm c e).2;have:=lj.lo c hc;omega⟩) (fun c hc=>hX (by have:=(hm c hc).1;omega)) (by rw [aZ,if_pos rfl]) ⟨_,rfl,jt.ae fun c hc=>bO (lj.hi c hc)⟩ rfl (by rw [List.length_map,List.length_take];omega) ?_
   intro v5 H5 lH nx5 k5 TF fz5
   rw [bI] at nx5 k5 lH
   simp only [go_sem,ei,cH]
   rw [iX]
   refine ⟨[H4.next+1],g++f4,lH.ae (fun _ _=>rfl) (fun _ _=>rfl),fun c hc=>?_,fun c hc=>?_,⟨by show H1.next<=H5.next;omega,fun c hc=>?_,fun c B hB hr=>?_⟩⟩
   ·rw [List.mem_singleton] at hc;subst hc;exact ⟨by omega,by omega⟩
   ·rcases List.mem_append.1 hc with e | e
    ·have:=hg c e;exact ⟨by omega,by omega,by simp;omega⟩
    ·have:=lj.lo c e;have:=lj.hi c e;exact ⟨by omega,by omega,by simp;omega⟩
   ·rw [bG,k5 c (by omega) (fun e=>by have:=(hm c e).1;omega),bO (by omega)]
    exact (BV.get c (by omega)).trans (o2.get c hc)
   ·have h7:=TF.ro c B hB hr
    rw [aZ] at h7
    split at h7
    ·cases h7;cases hr
    ·exact o2.ro c B (BV.ro c B h7 hr) hr
  ·rintro V H2 ⟨ei,m,g,cw,hm,hg,o2⟩
   rw [List.take_length] at cw
   simp only [go_sem,ei]
   have vs3:∃vs,V 3=vs:=⟨_,rfl⟩
   obtain ⟨vs,l8⟩:=vs3
   rw [l8] at cw
   refine L3 576460752269870016 (fun k V3 H3=>k<=fuel/\∃mm s m3 g3,V3 6=.bool mm/\Gr (.slice .int) 22 H3 vs s m3 g3/\(∀c∈m3,H.next+1<=c/\c < H3.next)/\(∀c∈g3,H.next+1<=c/\c < H3.next/\c∉m3)/\aG H1 H3/\(if mm=true then MR fuel P k s=some S else s=S)) (n:=fuel)
    ⟨Nat.le_refl _,true,_,m,g,by simp only [go_sem] <;> rfl,cw.ae (fun _ _=>rfl) (fun _ _=>rfl),hm,hg,((o2.fr []).af _).au,by rw [if_pos rfl];exact he⟩ ?_ (by rfl)
   rintro k V3 H3 ⟨ZD,mm,s,m3,g3,e6,qH,Sk,pC,o3,fZ⟩
   cases mm with
   | false=>
    rw [if_neg (by decide)] at fZ
    subst fZ
    simp only [go_sem,e6,l8]
    exact ⟨(((o1.trans o3).fr []).af _).au,fun _=>trivial,m3++g3,qH.sl.ae fun _ _=>rfl,fun c hc=>by
     rcases List.mem_append.1 hc with e | e
     ·have:=Sk c e;exact ⟨by omega,this.2⟩
     ·have:=pC c e;exact ⟨by omega,this.2.1⟩⟩
   | true=>
    rw [if_pos rfl] at fZ
    cases k with
    | zero=>rw [MR] at fZ;cases fZ
    | succ k=>
    rw [MR] at fZ
    cases vX:DO fuel P P.defs.length s false with
    | none=>rw [vX] at fZ;cases fZ
    | some X=>
    obtain ⟨s2,mo⟩:=X
    rw [vX] at fZ
    have p3:=(o3.get H.next (by omega)).trans p1
    have n3:=o3.nx
    simp only [go_sem,e6,p3]
    refine kC 576460751766553536 P.defs.length (fun i V4 H4=>V4 29=iV (i:Nat)/\∃mm s4 m4 g4,V4 6=.bool mm/\Gr (.slice .int) 22 H4 vs s4 m4 g4/\(∀c∈m4,H.next+1<=c/\c < H4.next)/\(∀c∈g4,H.next+1<=c/\c < H4.next/\c∉m4)/\aG H1 H4/\DO fuel P (P.defs.length - i) s4 mm=some (s2,mo))
     ⟨by simp only [go_sem] <;> rfl,false,s,m3,g3,by simp only [go_sem] <;> rfl,qH.ae (fun _ _=>rfl) (fun _ _=>rfl),Sk,pC,((o3.fr []).af _).au,vX⟩ ?_ ?_ (by rfl)
    ·rintro i V4 H4 hi ⟨DC,mm,s4,m4,g4,Ps,j5,tN,nJ,o4,hJ⟩
     rw [show P.defs.length - i=(P.defs.length - (i+1))+1 by omega,DO,show P.defs.length - (P.defs.length - (i+1)+1)=i by omega] at hJ
     have cH:IntKind.wrap .i64 (((i:Nat):Int)+1)=((i+1:Nat):Int):=cG hi (by omega)
     have n4:=o4.nx
     have p4:=(o4.get H.next (by omega)).trans p1
     cases jj:JU fuel P ((i:Nat):Int) s4 with
     | none=>rw [jj] at hJ;cases hJ
     | some W=>
     rw [jj] at hJ
     simp only [go_sem,DC,hi,p4,l8]
     have o4':aG H (H4.af H.fz):=(((o1.trans o4).fr []).af _).au
     refine ag.by (acj (lI.ae o4') hz yu (j5.sl.ae (H':=H4.af H.fz) fun _ _=>rfl) (fun c hc=>by
      rcases List.mem_append.1 hc with e | e
      ·exact (tN c e).2
      ·exact (nJ c e).2.1) jj) ?_
     rintro _ H5 - ⟨o5,z5,v5,rfl,hW⟩
     obtain ⟨Wo,fl⟩:=W
     have n5:H4.next<=H5.next:=o5.nx
     have jg:H.fz H5.next=false:=hX (by omega)
     have Lx:aG H4 H5:=⟨o5.nx,fun c hc=>o5.get c hc,fun c B hB hr=>o5.ro c B hB hr⟩
     have o6:aG H5 ((H5.push ⟨Fz fl,38,false,false⟩).af H.fz):=(((Fr.refl [] H5).push _).af _).au
     have BW:=Lx.trans o6
     have E4:((H5.push ⟨Fz fl,38,false,false⟩).af H.fz).next=H5.next+1:=rfl
     cases Wo with
     | none=>
      simp only at hW hJ
      subst hW
      simp only [go_sem,jg,DC,cH]
      exact ⟨mm,s4,m4,g4,Ps,j5.ae (fun c hc=>BW.get c (tN c hc).2) (fun c hc=>BW.get c (nJ c hc).2.1),fun c hc=>⟨(tN c hc).1,by have:=(tN c hc).2;omega⟩,fun c hc=>⟨(nJ c hc).1,by have:=(nJ c hc).2.1;omega,(nJ c hc).2.2⟩,o4.trans BW,hJ⟩
     | some e=>
      obtain ⟨f5,gG,K4⟩:=hW
      simp only at hJ
      cases TL:s4[i]? with
      | none=>rw [TL] at hJ;cases hJ
      | some si=>
      rw [TL] at hJ
      simp only at hJ
      split at hJ
      ·rename_i hlen
       cases jY:AW si e with
       | none=>rw [jY] at hJ;cases hJ
       | some m'=>
       rw [jY] at hJ
       simp only at hJ
       have hv:(v5=.slice none 0 0/\e=[])∨∃a c,v5=.slice (some a) e.length c:=by
        rcases gG with ⟨e1,e2, -⟩ | ⟨a,c,e1,e2, -⟩ | ⟨b,o,c,B,g,e1, -⟩
        ·exact .inl ⟨e1,e2⟩
        ·exact .inr ⟨a,c,by rw [e1,e2];rfl⟩
        ·exact .inr ⟨_,c,e1⟩
       rcases hv with ⟨rfl,e0⟩ | ⟨a5,c5,rfl⟩
       ·subst e0
        rw [if_pos (afK jY)] at hJ
        simp only [go_sem,jg,DC,cH]
        exact ⟨mm,s4,m4,g4,Ps,j5.ae (fun c hc=>BW.get c (tN c hc).2) (fun c hc=>BW.get c (nJ c hc).2.1),fun c hc=>⟨(tN c hc).1,by have:=(tN c hc).2;omega⟩,fun c hc=>⟨(nJ c hc).1,by have:=(nJ c hc).2.1;omega,(nJ c hc).2.2⟩,o4.trans BW,hJ⟩
       ·have N7:i < s4.length:=(List.getElem?_eq_some_iff.1 TL).1
        obtain ⟨bs,cs,f1,f2,f3,RX,uo,hBs,gJ,mj,bX,hEs,jk⟩:=j5.put N7
        have arT:s4[i]=si:=(List.getElem?_eq_some_iff.1 TL).2
        rw [arT] at hEs
        obtain ⟨vsi,arU,ea⟩:=hEs
        obtain ⟨asi,ksi,rfl⟩:=ea.val
        have Bp:cs[i]?=some (.slice asi si.length ksi):=by
         have:=vg (i:=0) arU (by decide)
         rw [Nat.add_zero,show i * Rp.int.slice.sz=i from Nat.mul_one i] at this
         exact this
        have O6:bs < H4.next:=(tN bs (by rw [uo];simp)).2
        have AB:((H5.push ⟨Fz fl,38,false,false⟩).af H.fz).get bs=some ⟨cs,22,true,false⟩:=(BW.get bs O6).trans hBs
        have lO:¬bs=H5.next:=by omega
        have wm:H5.get bs=some ⟨cs,22,true,false⟩:=(Lx.get bs O6).trans hBs
        have W4:∀c∈f2,c < H4.next:=fun c hc=>(nJ c (by rw [mj];simp [hc])).2.1
        simp only [go_sem,jg,DC,l8,RX,N7,wm,lO,Bp]
        obtain ⟨H6,fo⟩:∃H6,H6=(H5.push ⟨Fz fl,38,false,false⟩).af H.fz:=⟨_,rfl⟩
        rw [<-fo] at o6 BW E4 AB
        rw [<-fo]
        clear fo
        refine ag.by (abC (ea.ae (H':=H6) fun c hc=>BW.get c (W4 c hc)) (fun c hc=>by have:=W4 c hc;omega) (gG.ae fun c hc=>o6.get c (K4 c hc).2) (fun c hc=>by have:=(K4 c hc).2;omega) hlen.1 hlen.2) ?_
        rintro v7 H7 - ⟨o7,hR7⟩
        rw [jY] at hR7
        obtain ⟨f7,jO,sd⟩:=hR7
        have Pt:=BW.trans o7
        have n7:=o7.nx
        obtain ⟨a7,k7,rfl⟩:=jO.val
        have Iw:H7.get bs=some ⟨cs,22,true,false⟩:=(o7.get bs (by omega)).trans AB
        simp only [go_sem,l8,RX,DC,N7,Iw,Bp]
        have xE:m'.length < 1000000:=by
         unfold AW at jY
         split at jY
         ·cases jY;rw [IK];exact hlen.1
         ·cases jY
        refine ag.by (aih (jO.ae (H':=H7.af H.fz) fun _ _=>rfl) (ea.ae (H':=H7.af H.fz) fun c hc=>Pt.get c (W4 c hc)) xE) ?_
        rintro _ _ - ⟨rfl,rfl⟩
        have W5:aG H1 (H7.af H.fz):=o4.trans (((Pt.fr []).af _).au)
        by_cases TM:m'=si
        ·rw [if_pos TM] at hJ
         simp only [go_sem,decide_eq_true TM,DC,cH]
         exact ⟨mm,s4,m4,g4,Ps,j5.ae (fun c hc=>Pt.get c (tN c hc).2) (fun c hc=>Pt.get c (nJ c hc).2.1),fun c hc=>⟨(tN c hc).1,by have:=(tN c hc).2;omega⟩,fun c hc=>⟨(nJ c hc).1,by have:=(nJ c hc).2.1;omega,(nJ c hc).2.2⟩,W5,hJ⟩
        ·rw [if_neg TM] at hJ
         have gC:H.fz bs=false:=hX (by have:=(tN bs (by rw [uo];simp)).1;omega)
         have CI:i < cs.length:=by rw [gJ];show i < s4.length * 1;omega
         have arV:i+1<=cs.length:=CI
         simp only [go_sem,decide_eq_false TM,l8,RX,DC,N7,Iw,gC,CI,arV,cH]
         have RY:∀c,c∈f1∨c∈f3->c < H4.next/\H.next+1<=c/\c≠bs:=fun c hc=>by
          have:=nJ c (by rw [mj];rcases hc with e | e <;> simp [e])
          exact ⟨this.2.1,this.1,fun e=>this.2.2 (by rw [uo,e];simp)⟩
         have W6:∀c∈f7,H6.next<=c:=sd.lo
         have arW:=(tN bs (by rw [uo];simp)).1
         have l4:=jk (((H7.af H.fz).ai bs ⟨cs.set i (.slice a7 m'.length k7),22,true,false⟩).af H.fz) [.slice a7 m'.length k7] m' f7 (fun c hc=>by
          rw [bG,aH,if_neg (RY c hc).2.2];exact Pt.get c (RY c hc).1) (by
          rw [bG,aH,if_pos rfl,show i * Rp.int.slice.sz=i from Nat.mul_one i,fL CI]) ⟨_,rfl,jO.ae fun c hc=>by
          rw [bG,aH,if_neg (by have:=W6 c hc;omega)];rfl⟩ (fun e=>by have:=W6 _ e;omega)
         rw [RX] at l4
         refine ⟨true,s4.set i m',[bs],f1++(f7++f3),rfl,l4,fun c hc=>?_,fun c hc=>?_,⟨by show H1.next<=H7.next;omega,fun c hc=>?_,fun c B hB hr=>?_⟩,hJ⟩
         ·rw [List.mem_singleton] at hc;subst hc;exact ⟨arW,by omega⟩
         ·simp only [List.mem_append] at hc
          rcases hc with e | e | e
          ·have:=RY c (.inl e);exact ⟨this.2.1,by omega,by simp [this.2.2]⟩
          ·have:=W6 c e;have:=sd.hi c e;exact ⟨by omega,by omega,by simp;omega⟩
          ·have:=RY c (.inr e);exact ⟨this.2.1,by omega,by simp [this.2.2]⟩
         ·rw [bG,aH,if_neg (by omega)];exact W5.get c hc
         ·rw [bG,aH] at hB
          split at hB
          ·cases hB;cases hr
          ·exact W5.ro c B hB hr
      ·cases hJ
    ·rintro V4 H4 ⟨DC,mm,s4,m4,g4,Ps,j5,tN,nJ,o4,hJ⟩
     rw [Nat.sub_self,DO] at hJ
     cases hJ
     simp only [go_sem,DC]
     refine ⟨k,by omega,by omega,mo,_,m4,g4,Ps,j5.ae (fun _ _=>rfl) (fun _ _=>rfl),tN,nJ,((o4.fr []).af _).au,?_⟩
     cases mo with
     | true=>rw [if_pos rfl];exact fZ
     | false=>rw [if_neg (by decide)];cases fZ;rfl
 ·cases he
def L5 (fuel:Nat) (P:cC) (S:List (List Int)):Nat->Option IE
 | 0=>some ⟨0,0,0⟩
 | k+1=>match JU fuel P ((P.defs.length - (k+1):Nat):Int) S with
  | none=>none
  | some W=>if W.2.code=0 then L5 fuel P S k else some W.2
def I9 (fuel:Nat) (P:cC):Option IE:=match Mm fuel P with
 | none=>none
 | some S=>L5 fuel P S P.defs.length
theorem abc {H:ad} {P:cC} {px:wz} (lI:qu H P px) (hz:tP P) {fuel:Nat} (yu:fuel<=100000) {F:IE} (he:I9 fuel P=some F):
  aj Tryz.prog 14 #[.agg (px.c P).toArray] H (fun r H'=>r=.agg (Fz F).toArray/\aG H H'/\(∀c,H'.fz c=H.fz c)):=by
 refine aj.told ?_
 refine ni (l:=[_]) _ mixed Tryz.func14 amf [.cell 2 38] (show 1<=28 by decide) rfl fun hf=>?_
 simp only [Tryz.f14,Option.getD_some]
 have hX:∀{c:Nat},H.next<=c->H.fz c=false:=fun h=>hf.fresh h
 unfold I9 at he
 cases ZM:Mm fuel P with
 | none=>rw [ZM] at he;cases he
 | some S=>
 rw [ZM] at he
 simp only at he
 have q9:=hz.d
 have tf:¬H.next=H.next+1:=by omega
 simp only [go_sem,tf]
 obtain ⟨H1,cu⟩:∃H1,H1=((H.push ⟨px.c P,31,false,false⟩).push ⟨[.int .i64 0,.int .i64 0,.int .i64 0],38,false,false⟩).af H.fz:=⟨_,rfl⟩
 rw [<-cu]
 have o1:aG H H1:=by rw [cu];exact ((((Fr.refl [] H).push _).push _).af _).au
 have p1:H1.get H.next=some ⟨px.c P,31,false,false⟩:=by rw [cu,bG,aZ,bI,if_neg (by omega),aZ,if_pos rfl]
 have f1:H1.get (H.next+1)=some ⟨[.int .i64 0,.int .i64 0,.int .i64 0],38,false,false⟩:=by rw [cu,bG,aZ];exact if_pos rfl
 have n1:H1.next=H.next+1+1:=by rw [cu];rfl
 clear cu
 refine ag.by (abJ (lI.ae o1) hz yu ZM) ?_
 rintro v2 H2 - ⟨o2,z2,fS,hS,ZN⟩
 have p2:=(o2.get H.next (by omega)).trans p1
 have f2:=(o2.get (H.next+1) (by omega)).trans f1
 have n2:=o2.nx
 have DA:=o1.trans o2
 have ey:H.fz (H.next+1)=false:=hX (by omega)
 simp only [go_sem,p2]
 refine kC 134213744 P.defs.length (fun i V H3=>V 12=iV (i:Nat)/\aG H2 H3/\L5 fuel P S (P.defs.length - i)=some F)
  ⟨by simp only [go_sem] <;> rfl,(((Fr.refl [] H2).af _).af _).au,he⟩ ?_ ?_ (by rfl)
 ·rintro i V H3 hi ⟨ei,o3,hc⟩
  rw [show P.defs.length - i=(P.defs.length - (i+1))+1 by omega,L5,show P.defs.length - (P.defs.length - (i+1)+1)=i by omega] at hc
  have cH:IntKind.wrap .i64 (((i:Nat):Int)+1)=((i+1:Nat):Int):=cG hi (by omega)
  have n3:=o3.nx
  have p3:=(o3.get H.next (by omega)).trans p2
  have f3:=(o3.get (H.next+1) (by omega)).trans f2
  cases jj:JU fuel P ((i:Nat):Int) S with
  | none=>rw [jj] at hc;cases hc
  | some W=>
  rw [jj] at hc
  simp only at hc
  simp only [go_sem,ei,hi,p3]
  refine ag.by (acj (lI.ae (((DA.trans o3).fr []).af _).au) hz yu (hS.ae (H':=H3.af H.fz) fun c hc=>o3.get c (ZN c hc).2) (fun c hc=>Nat.lt_of_lt_of_le (ZN c hc).2 n3) jj) ?_
  rintro _ H5 - ⟨o5,z5,v5,rfl,hW⟩
  have n5:H3.next<=H5.next:=o5.nx
  have jg:H.fz H5.next=false:=hX (by omega)
  have K4:H5.get (H.next+1)=some ⟨[.int .i64 0,.int .i64 0,.int .i64 0],38,false,false⟩:=(o5.get (H.next+1) (by show H.next+1 < H3.next;omega)).trans f3
  have hn5:¬H.next+1=H5.next:=by omega
  have Ph:aG H3 ((H5.push ⟨Fz W.2,38,false,false⟩).af H.fz):=⟨by show H3.next<=H5.next+1;omega,fun c hc=>(bO (by omega)).trans (o5.get c hc),fun c B hB hr=>by
   rw [bG,aZ] at hB
   split at hB
   ·cases hB;cases hr
   ·exact o5.ro c B hB hr⟩
  by_cases ke:W.2.code=0
  ·rw [if_pos ke] at hc
   simp only [go_sem,jg,ei,cH,ke]
   exact ⟨o3.trans Ph,hc⟩
  ·rw [if_neg ke] at hc
   cases hc
   simp only [go_sem,jg,ei,cH,ke,K4,ey,hn5]
   exact ⟨((((((DA.trans o3).trans Ph).fr []).ai (.inr (by omega)) _).af _)).au,fun _=>trivial⟩
 ·rintro V H3 ⟨ei,o3,hc⟩
  rw [Nat.sub_self,L5] at hc
  cases hc
  have f3:=(o3.get (H.next+1) (by omega)).trans f2
  simp only [go_sem,ei,f3,ey]
  exact ⟨(((((DA.trans o3).fr []).af _).ai (.inr (by omega)) _).af _).au,fun _=>trivial⟩
set_option maxRecDepth 1000000
def ndB (n:aJ):Bool:=decide (n.args.length < 1000000)&&(decide (n.ak.length < 1000000)&&n.ak.all fun x=>decide (x.aY.length < 100000))
def NL (P:cC):Bool:=decide (P.msgs.length < 1000000)&&(decide (P.defs.length < 1000000)&&(decide (P.nodes.length < 100000)&&(P.nodes.all ndB&&(P.msgs.all (fun x=>decide (x.types.length < 1000000))&&P.defs.all fun x=>decide (x.params.length < 1000000)))))
theorem Uv {P:cC} (h:NL P=true):tP P:=by
 unfold NL at h
 simp only [Bool.and_eq_true,decide_eq_true_eq,List.all_eq_true] at h
 obtain ⟨h1,h2,h3,h4,h5,h6⟩:=h
 refine ⟨h1,h2,h3,fun n hn=>?_,h5,h6⟩
 have:=h4 n hn
 unfold ndB at this
 simp only [Bool.and_eq_true,decide_eq_true_eq,List.all_eq_true] at this
 exact ⟨this.1,this.2.1,this.2.2⟩
set_option maxRecDepth 100000
theorem wk.qv {H:ad} {v:Value} {P:cC} {g:List Nat} (h:wk H v P g) (hl:∀c∈g,c < H.next):∃px:wz,v=.agg (px.c P).toArray/\qu H P px/\∀c∈px.gM++(px.gD++px.gN),c∈g:=by
 obtain ⟨vM,vR,vD,vN,gM,gR,gD,gN,rfl,h1,h2,h3,h4,rfl⟩:=h
 obtain ⟨aM,kM,rfl⟩:=h1.val
 obtain ⟨aR,kR,rfl⟩:=h2.val
 obtain ⟨aD,kD,rfl⟩:=h3.val
 obtain ⟨aN,kN,rfl⟩:=h4.val
 have mem:∀c∈gM++(gD++gN),c∈gM++(gR++(gD++gN)):=fun c hc=>by
  simp only [List.mem_append] at hc ⊢
  rcases hc with e | e | e
  ·exact .inl e
  ·exact .inr (.inr (.inl e))
  ·exact .inr (.inr (.inr e))
 exact ⟨⟨aM,aR,aD,aN,P.dk.length,kM,kR,kD,kN,gM,gD,gN⟩,rfl,⟨h1,h3,h4,fun c hc=>hl c (mem c hc)⟩,mem⟩
theorem aav {H:ad} {s:bC} (hs:s.length < 999000) {P:cC} (he:Gd 60 s=some (some P)):
  aj Tryz.prog 10 #[ah s] H (fun r H'=>aG H H'/\(∀c,H'.fz c=H.fz c)/\∃px:wz,r=.tuple #[.agg (px.c P).toArray,.bool true]/\qu H' P px):=by
 refine aj.told ?_
 refine ni (l:=[_]) _ mixed Tryz.func10 amd [.cell 2 31,.tmp 3] (show 1<=18 by decide) rfl fun hf=>?_
 simp only [Tryz.f10,Option.getD_some]
 have hX:∀{c:Nat},H.next<=c->H.fz c=false:=fun h=>hf.fresh h
 simp only [go_sem,hX (Nat.le_refl H.next)]
 have o1:aG H ((H.push ⟨[.slice none 0 0,.slice none 0 0,.slice none 0 0,.slice none 0 0],31,false,false⟩).af H.fz):=(((Fr.refl [] H).push _).af _).au
 have g1:((H.push ⟨[.slice none 0 0,.slice none 0 0,.slice none 0 0,.slice none 0 0],31,false,false⟩).af H.fz).get H.next=some ⟨[.slice none 0 0,.slice none 0 0,.slice none 0 0,.slice none 0 0],31,false,false⟩:=by rw [bG,aZ,if_pos rfl]
 have n1:((H.push ⟨[.slice none 0 0,.slice none 0 0,.slice none 0 0,.slice none 0 0],31,false,false⟩).af H.fz).next=H.next+1:=rfl
 generalize ((H.push ⟨[.slice none 0 0,.slice none 0 0,.slice none 0 0,.slice none 0 0],31,false,false⟩).af H.fz)=H1 at o1 g1 n1 ⊢
 refine ag.by (alr hs he) ?_
 rintro _ H2 - ⟨o2,v,g,rfl,hpg,gu⟩
 obtain ⟨px,rfl,lI,py⟩:=hpg.qv fun c hc=>(gu c hc).2
 have n2:=o2.nx
 have g2:=(o2.get H.next (by omega)).trans g1
 have dw:H.fz H2.next=false:=hX (by omega)
 have hn:¬H.next=H2.next:=by omega
 have hXh:=hX (Nat.le_refl H.next)
 simp only [go_sem,dw,hXh,g2,hn]
 refine ⟨(((((o1.trans o2).fr []).push _).af _).ai (.inr (Nat.le_refl _)) _ |>.af _).au,fun _=>trivial,px,rfl,?_⟩
 refine lI.fr (M:=[H.next]) (((((Fr.refl [H.next] H2).push _).af _).ai (.inl (by simp)) _).af _) fun c hc=>?_
 rw [List.mem_singleton] at hc
 subst hc
 exact fun e=>by have:=(gu _ (py _ e)).1;omega
theorem aht {h:KH}:dS Tryz.prog .eql 38 (.agg #[.int .i64 0,.int .i64 0,.int .i64 0]) (.agg #[.int .i64 0,.int .i64 0,.int .i64 0]) h=.ok (.bool true) h:=by
 kernel_rfl
def adw:bC:=[100,101,102,32,109,97,105,110,40,41,32,123,32,100,111,110,101,32,125]
def adx:Bool:=match Gd 60 adw with
 | some (some P)=>NL P&&(match Mm 100 P,I9 100 P with
  | some S,some F=>decide (S=[[]])&&decide (F=⟨0,0,0⟩)
  | _,_=>false)
 | _=>false
theorem ahu:adx=true:=by kernel_rfl
theorem afL {H:ad}:aj Tryz.prog 16 #[] H (fun r H'=>r=.bool true/\aG H H'):=by
 refine aj.told ?_
 refine ni (l:=[]) _ mixed Tryz.func16 amg [.tmp 0] (show 0<=29 by decide) rfl fun hf=>?_
 simp only [Tryz.f16,Option.getD_some]
 have hX:∀{c:Nat},H.next<=c->H.fz c=false:=fun h=>hf.fresh h
 have hw:=ahu
 unfold adx at hw
 split at hw
 ·rename_i P hP
  rw [Bool.and_eq_true] at hw
  obtain ⟨hz,hw⟩:=hw
  split at hw
  ·rename_i S F hS hF
   rw [Bool.and_eq_true,decide_eq_true_eq,decide_eq_true_eq] at hw
   obtain ⟨rfl,rfl⟩:=hw
   simp only [go_sem]
   refine ag.by (aav (s:=adw) (by decide) hP) ?_
   rintro _ H1 - ⟨o1,z1,px,rfl,lI⟩
   have rV:H.next<=H1.next:=o1.nx
   simp only [go_sem,hX rV]
   have o2:OF H ((H1.push ⟨px.c P,31,false,false⟩).af H.fz):=⟨((o1.fr []).push _ |>.af _).au,fun _ _=>rfl⟩
   have p2:((H1.push ⟨px.c P,31,false,false⟩).af H.fz).get H1.next=some ⟨px.c P,31,false,false⟩:=by rw [bG,aZ,if_pos rfl]
   have BS:qu ((H1.push ⟨px.c P,31,false,false⟩).af H.fz) P px:=lI.ae (((Fr.refl [] H1).push _ |>.af _).au)
   have n2:((H1.push ⟨px.c P,31,false,false⟩).af H.fz).next=H1.next+1:=rfl
   generalize ((H1.push ⟨px.c P,31,false,false⟩).af H.fz)=H2 at o2 p2 BS n2 ⊢
   refine ag.by (abJ BS (Uv hz) (by decide) hS) ?_
   rintro v3 H3 - ⟨o3,z3,fS,hS3,ZN⟩
   obtain ⟨b,o,c,B,gx,hv,hB,dI,df,cb,hE⟩:=hS3.at (i:=0) (x:=[]) rfl
   subst hv
   obtain ⟨vs,bg,nu⟩:=hE
   obtain ⟨a0,k0,rfl⟩:=nu.val
   have ke:B.cells[o]?=some (.slice a0 0 k0):=by
    have:=vg (i:=0) bg (by decide)
    rw [Nat.add_zero,Nat.zero_mul,Nat.add_zero] at this
    exact this
   have Ky:(((1:Nat):Int)=1):=rfl
   have p3:=(o3.get H1.next (by omega)).trans p2
   have Dt:(((0:Nat):Int)=0):=rfl
   have h01:(0:Nat) < 1:=by decide
   simp only [go_sem,List.length_cons,List.length_nil,Ky,h01,hB,ke,Dt,p3]
   refine ag.by (abc (BS.ae (((o3.fr []).af _).au)) (Uv hz) (by decide) hF) ?_
   rintro _ H4 - ⟨rfl,o4,z4⟩
   have xl:dS Tryz.prog .eql 38 (.agg (Fz ⟨0,0,0⟩).toArray) (.agg #[.int .i64 0,.int .i64 0,.int .i64 0]) h0=.ok (.bool true) h0:=aht
   simp only [go_sem,xl]
   exact ((((o2.au.trans o3).fr []).af _).then (o4.fr []) |>.af _).au
  ·cases hw
 ·cases hw
set_option maxRecDepth 1000000
@[reducible] def aCo:bC:=[109,115,103,32,97,40,41,59,32,100,101,102,32,112,40,120,58,32,63,40,97,41,44,32,121,58,32,33,40,97,41,41,32,123,32,103,117,97,114,100,32,120,32,58,32,97,32,123,32,97,40,41,32,97,115,32,122,32,123,32,121,32,33,32,97,40,41,59,32,103,117,97,114,100,32,122,32,58,32,49,32,123,32,102,114,101,101,32,123,32,100,111,110,101,32,125,32,125,32,125,32,125,32,125,32,100,101,102,32,113,40,120,58,32,63,40,97,41,41,32,123,32,103,117,97,114,100,32,120,32,58,32,97,32,123,32,97,40,41,32,97,115,32,122,32,123,32,103,117,97,114,100,32,122,32,58,32,49,32,123,32,102,114,101,101,32,123,32,100,111,110,101,32,125,32,125,32,125,32,125,32,125,32,100,101,102,32,109,97,105,110,40,41,32,123,32]
@[reducible] def aft:bC:=[108,101,116,32,120]
@[reducible] def atP:bC:=[32,61,32,110,101,119,59,32]
@[reducible] def KE:bC:=[115,112,97,119,110,32,112,40,120]
@[reducible] def acV:bC:=[44,32,120]
@[reducible] def aA2:bC:=[41,59,32]
@[reducible] def agA:bC:=[120]
@[reducible] def alA:bC:=[115,112,97,119,110,32,112,40]
@[reducible] def aCj:bC:=[44,32,120,48,41,59,32,100,111,110,101,32,125]
@[reducible] def apK:bC:=[115,112,97,119,110,32,113,40]
@[reducible] def aCk:bC:=[41,59,32,120,48,32,33,32,97,40,41,59,32,100,111,110,101,32,125]
def gZ (i:Nat):bC:=[UInt8.ofNat (48+i)]
def asx:Nat->bC
 | 0=>aCo
 | i+1=>asx i++(aft++gZ i++atP)
def adv (n:Nat):Nat->bC
 | 0=>asx n
 | i+1=>adv n i++(KE++gZ i++acV++gZ (i+1)++aA2)
def qX (n:Nat) (c:Bool):bC:=adv n (n - 1)++(if c=true then alA++(agA++gZ (n - 1))++aCj else apK++(agA++gZ (n - 1))++aCk)
def tW (n:Nat) (c:Bool):Bool:=match Gd 60 (qX n c) with
 | some (some P)=>NL P&&(match I9 100 P with
  | some F=>if c=true then decide (F.code=14)&&(decide (F.d=2)&&(decide (0<=F.place)&&(decide (F.place < ((P.nodes.length:Nat):Int))&&decide ((P.nodes.getD F.place.toNat {}).kind=10)))) else decide (F.code=0)
  | none=>false)
 | _=>false
def tXq (n:Nat) (c:Bool):Bool:=tW n c&&decide ((qX n c).length < 5000)
theorem rnA:tXq 2 true=true:=by kernel_rfl
theorem rnB:tXq 2 false=true:=by kernel_rfl
theorem rnC:tXq 3 true=true:=by kernel_rfl
theorem rnD:tXq 3 false=true:=by kernel_rfl
theorem rnE:tXq 4 true=true:=by kernel_rfl
theorem rnF:tXq 4 false=true:=by kernel_rfl
theorem rnG:tXq 5 true=true:=by kernel_rfl
theorem rnH:tXq 5 false=true:=by kernel_rfl
theorem rnI:tXq 6 true=true:=by kernel_rfl
theorem rnJ:tXq 6 false=true:=by kernel_rfl
theorem rnK:tXq 7 true=true:=by kernel_rfl
theorem rnL:tXq 7 false=true:=by kernel_rfl
theorem rnM:tXq 8 true=true:=by kernel_rfl
theorem rnN:tXq 8 false=true:=by kernel_rfl
theorem aCJ {H:ad} {i:Nat} (hi:i < 10):aj Tryz.prog 46 #[iV (i:Nat)] H (fun r H'=>r=ah (gZ i)/\aG H H'):=by
 refine aj.told ?_
 refine fw_46 (Nat.le_refl _) fun hf=>?_
 simp only [Tryz.f46,Option.getD_some]
 simp only [go_sem]
 refine qA 1048569 (fun k V H2=>aG H H2/\((k=1/\V 0=iV (i:Nat)/\V 3=ah [])∨(k=0/\V 0=iV 0/\V 3=ah (gZ i)))) (n:=1)
  ⟨aG.refl _,.inl ⟨rfl,by simp only [go_sem] <;> rfl,by simp only [go_sem] <;> rfl⟩⟩ ?_ (by rfl)
 rintro k V H2 ⟨o2,⟨rfl,e0,e3⟩ | ⟨rfl,e0,e3⟩⟩
 ·have ht:Int.tmod ((i:Nat):Int) 10=((i:Nat):Int):=Int.tmod_eq_of_lt (by omega) (by omega)
  have hq:Int.tdiv ((i:Nat):Int) 10=0:=Int.tdiv_eq_zero_of_lt (by omega) (by omega)
  have h10:(10:Int)≠0:=by decide
  have fP:IntKind.wrap .i64 (48+((i:Nat):Int))=((48+i:Nat):Int):=by rw [FM (by omega) (by omega)];omega
  have iE:IntKind.wrap .i64 0=0:=rfl
  have c8:∀{H:ad},yZ Tryz.prog 3 5 (.int .i64 ((48+i:Nat):Int)) H=.ok (.int .u8 ((48+i:Nat):Int)) H:=fun {H}=>by
   rw [Ug (ks:=.i64) (kd:=.u8) (by kernel_rfl) (by kernel_rfl)]
   rw [show IntKind.wrap .u8 ((48+i:Nat):Int)=((48+i:Nat):Int) from by
    match i,hi with
    | 0,_=>rfl
    | 1,_=>rfl
    | 2,_=>rfl
    | 3,_=>rfl
    | 4,_=>rfl
    | 5,_=>rfl
    | 6,_=>rfl
    | 7,_=>rfl
    | 8,_=>rfl
    | 9,_=>rfl]
  have cb:∀{H:ad},yZ Tryz.prog 116 9 (.slice (some ⟨H.next,0,none⟩) 1 1) (H.push ⟨[.int .u8 ((48+i:Nat):Int)],5,false,false⟩)=.ok (ah (gZ i)) (H.push ⟨[.int .u8 ((48+i:Nat):Int)],5,false,false⟩):=fun {H}=>by
   have MU:qG 1 (.slice (some ⟨H.next,0,none⟩) 1 1) (H.push ⟨[.int .u8 ((48+i:Nat):Int)],5,false,false⟩)=some (1,[.int .u8 ((48+i:Nat):Int)]):=FI (c:=1) (B:=⟨[.int .u8 ((48+i:Nat):Int)],5,false,false⟩) (by rw [aZ,if_pos rfl]) rfl
   rw [conv_byte (e:=5) (n:=((48+i:Nat):Int)) (by kernel_rfl) (by kernel_rfl) (by kernel_rfl) MU]
   rfl
  have sa:∀{h:KH},dS Tryz.prog .add 9 (ah (gZ i)) (ah []) h=.ok (ah (gZ i)) h:=fun {h}=>by rw [abr (by unfold gZ;simp),List.append_nil]
  by_cases j9:0 < i
  ·have nG:(0:Int) < ((i:Nat):Int):=by omega
   simp only [go_sem,e0,e3,nG,ht,hq,h10,fP,iE,c8,eX ap_116 (by decide) (by decide),cb,sa]
   exact ⟨0,by omega,o2.trans (aG.push _ _),.inr rfl⟩
  ·have nG:¬(0:Int) < ((i:Nat):Int):=by omega
   simp only [go_sem,e0,e3,nG,aaP,ht,hq,h10,fP,iE,c8,eX ap_116 (by decide) (by decide),cb,sa]
   exact ⟨0,by omega,o2.trans (aG.push _ _),.inr rfl⟩
 ·have dd:¬gZ i=[]:=by unfold gZ;simp
  simp only [go_sem,e0,e3,aaP,dd]
  exact ((o2.fr []).af _).au
theorem aCm {H:ad} {i:Nat} (hi:i < 10):aj Tryz.prog 24 #[iV (i:Nat)] H (fun r H'=>r=ah (gZ i)/\aG H H'):=by
 refine aj.told ?_
 refine fw_24 (Nat.le_refl _) fun hf=>?_
 simp only [Tryz.f24,Option.getD_some]
 have hw:Iz ((i:Nat):Int) 1000=((i:Nat):Int):=by
  have:Int.tmod ((i:Nat):Int) 1000=((i:Nat):Int):=Int.tmod_eq_of_lt (by omega) (by omega)
  unfold Iz
  rw [if_neg (by decide),this,if_neg (by omega)]
 simp only [go_sem]
 refine ag.by (ag6 (v:=((i:Nat):Int)) (n:=1000) (by decide)) ?_
 rintro _ _ - ⟨rfl,rfl⟩
 rw [hw]
 simp only [go_sem]
 refine ag.by (aCJ hi) ?_
 rintro _ H2 - ⟨rfl,o2⟩
 simp only [go_sem]
 exact ((o2.fr []).af _).au
theorem aCZ {n:Nat} {c:Bool} (h:tW n c=true):∃P F,Gd 60 (qX n c)=some (some P)/\NL P=true/\I9 100 P=some F/\(if c=true then F.code=14/\F.d=2/\0<=F.place/\F.place < ((P.nodes.length:Nat):Int)/\(P.nodes.getD F.place.toNat {}).kind=10 else F.code=0):=by
 unfold tW at h
 cases hl:Gd 60 (qX n c) with
 | none=>rw [hl] at h;cases h
 | some o=>
  rw [hl] at h
  cases o with
  | none=>cases h
  | some P=>
   simp only [Bool.and_eq_true] at h
   obtain ⟨hz,h⟩:=h
   cases hd:I9 100 P with
   | none=>rw [hd] at h;cases h
   | some F=>
    rw [hd] at h
    refine ⟨P,F,rfl,hz,hd,?_⟩
    cases c with
    | true=>
     simp only [if_true,Bool.and_eq_true,decide_eq_true_eq] at h ⊢
     exact h
    | false=>
     simp only [if_false,decide_eq_true_eq,Bool.false_eq_true] at h ⊢
     exact h
theorem aCbq (n:Nat) (h1:2<=n) (h2:n < 9) (c:Bool):tXq n c=true:=by
 match n,c,h1,h2 with
 | 2,true,_,_=>exact rnA
 | 2,false,_,_=>exact rnB
 | 3,true,_,_=>exact rnC
 | 3,false,_,_=>exact rnD
 | 4,true,_,_=>exact rnE
 | 4,false,_,_=>exact rnF
 | 5,true,_,_=>exact rnG
 | 5,false,_,_=>exact rnH
 | 6,true,_,_=>exact rnI
 | 6,false,_,_=>exact rnJ
 | 7,true,_,_=>exact rnK
 | 7,false,_,_=>exact rnL
 | 8,true,_,_=>exact rnM
 | 8,false,_,_=>exact rnN
theorem aC0 (n:Nat) (h1:2<=n) (h2:n < 9) (c:Bool):tW n c=true/\(qX n c).length < 5000:=by
 have h:=aCbq n h1 h2 c
 unfold tXq at h
 rw [Bool.and_eq_true,decide_eq_true_eq] at h
 exact h
theorem aCY:Tryz.prog.underlying 4=some .bool:=by kernel_rfl
theorem ahw {a b:Bool} {h:KH}:dS Tryz.prog .eql 4 (.bool a) (.bool b) h=.ok (.bool (a==b)) h:=by
 simp only [dS,kO,UB,aCY]
 cases a <;> cases b <;> rfl
theorem BA {P:Program} {X:Nat->Bool} {H:ad} {r:KO} {v:Value} {K:Value->ad->Prop} {tg:Tag K} (hr:r=.ok v h0) (hk:K v H):fe P X H (iq r H) K tg:=by
 rw [hr]
 exact ⟨fun _ _ _=>rfl,hk⟩
theorem depRound_walk {H:ad} {a0:Int} {a1:Bool}:aj Tryz.prog 5 #[.int .i64 a0,.bool a1] H (fun w _=>w=.bool true):=by
 refine aj.told ?_
 refine ni (l:=[_,_]) _ mixed Tryz.func5 ok_5 [.tmp 4] (show 2<=116 by decide) rfl fun hf=>?_
 simp only [Tryz.f5,Option.getD_some]
 have hX:∀{c:Nat},H.next<=c->H.fz c=false:=fun h=>hf.fresh h
 simp only [go_sem]
 refine ag.by (ag6 (v:=a0) (n:=7) (by decide)) ?_
 rintro _ _ - ⟨rfl,rfl⟩
 have hb:=als a0 7 (by decide)
 obtain ⟨m,hm⟩:=Int.eq_ofNat_of_zero_le hb.1
 rw [hm] at hb ⊢
 have hwn:IntKind.wrap .i64 (((m:Nat):Int)+2)=((m+2:Nat):Int):=by rw [FM (by omega) (by omega)];omega
 simp only [go_sem,hwn]
 obtain ⟨n,hn⟩:∃n,n=m+2:=⟨_,rfl⟩
 rw [<-hn]
 have jF:2<=n:=by omega
 have HC:n < 9:=by omega
 obtain ⟨iv,hlen⟩:=aC0 n jF HC a1
 obtain ⟨P,F,hP,hzp,hF,BJ⟩:=aCZ iv
 have dl:∀i,(gZ i).length=1:=fun i=>rfl
 have aCs:∀i,i<=n->(asx i).length<=aCo.length+i * 40:=fun i=>by
  induction i with
  | zero=>intro _;simp [asx]
  | succ i ih=>
   intro h
   have:=ih (by omega)
   rw [asx]
   have hB:aft.length=5:=rfl
   have hC:atP.length=8:=rfl
   rw [zAp,zAp,zAp,dl,hB,hC]
   omega
 have hlA:aCo.length < 1000:=of_decide_eq_true (by kernel_rfl)
 refine kC 67076192 n (fun i V H1=>V 6=iV (i:Nat)/\V 5=ah (asx i)/\aG H H1)
  ⟨by simp only [go_sem] <;> rfl,by simp only [go_sem] <;> rfl,((Fr.refl [] H).af _).au⟩ ?_ ?_ (by rfl)
 ·rintro i V H1 hi ⟨ei,e5,o1⟩
  have hi10:i < 10:=by omega
  have cH:IntKind.wrap .i64 (((i:Nat):Int)+1)=((i+1:Nat):Int):=cG hi (by omega)
  simp only [go_sem,ei,hi]
  refine ag.by (aCm hi10) ?_
  rintro _ H2 - ⟨rfl,o2⟩
  have hLi:=aCs i (by omega)
  have hB:aft.length=5:=rfl
  have hC:atP.length=8:=rfl
  have s1:∀{h:KH},dS Tryz.prog .add 9 (ah aft) (ah (gZ i)) h=.ok (ah (aft++gZ i)) h:=abr (by rw [dl,hB];decide)
  have s2:∀{h:KH},dS Tryz.prog .add 9 (ah (aft++gZ i)) (ah atP) h=.ok (ah (aft++gZ i++atP)) h:=abr (by rw [zAp,dl,hB,hC];decide)
  have s3:∀{h:KH},dS Tryz.prog .add 9 (ah (asx i)) (ah (aft++gZ i++atP)) h=.ok (ah (asx (i+1))) h:=abr (by rw [zAp,zAp,dl,hB,hC];omega)
  simp only [go_sem]
  refine BA s1 ?_
  generalize aft++gZ i=x1 at s2 s3 ⊢
  simp only [go_sem]
  refine BA s2 ?_
  generalize x1++atP=x2 at s3 ⊢
  simp only [go_sem,e5]
  refine BA s3 ?_
  simp only [go_sem,ei,cH]
  exact (((o1.fr []).af _).then (o2.fr []) |>.af _).au
 ·rintro V H1 ⟨ei,e5,o1⟩
  have hnn:¬n < n:=by omega
  have fP:IntKind.wrap .i64 (((n:Nat):Int) - 1)=((n - 1:Nat):Int):=by rw [FM (by omega) (by omega)];omega
  simp only [go_sem,ei,e5,hnn]
  have aCt:∀i,(adv n i).length<=(asx n).length+i * 40:=fun i=>by
   induction i with
   | zero=>simp [adv]
   | succ i ih=>
    rw [adv]
    have hD:KE.length=9:=rfl
    have hE:acV.length=3:=rfl
    have hF:aA2.length=3:=rfl
    rw [zAp,zAp,zAp,zAp,zAp,dl,dl,hD,hE,hF]
    omega
  have hLn:=aCs n (Nat.le_refl n)
  refine kC 8796025913504 (n - 1) (fun i V2 H2=>V2 7=iV (i:Nat)/\V2 5=ah (adv n i)/\aG H H2)
   ⟨by simp only [go_sem] <;> rfl,by simp only [go_sem,e5] <;> rfl,((o1.fr []).af _ |>.af _).au⟩ ?_ ?_ (by rfl)
  ·rintro i V2 H2 hi ⟨HY,e52,o2⟩
   have hi10:i < 10:=by omega
   have hi11:i+1 < 10:=by omega
   have cH:IntKind.wrap .i64 (((i:Nat):Int)+1)=((i+1:Nat):Int):=cG hi (by omega)
   have bf:i+1 < n:=by omega
   have hSi:=aCt i
   have hD:KE.length=9:=rfl
   have hE:acV.length=3:=rfl
   have hF:aA2.length=3:=rfl
   have s1:∀{h:KH},dS Tryz.prog .add 9 (ah KE) (ah (gZ i)) h=.ok (ah (KE++gZ i)) h:=abr (by rw [dl,hD];decide)
   have s2:∀{h:KH},dS Tryz.prog .add 9 (ah (KE++gZ i)) (ah acV) h=.ok (ah (KE++gZ i++acV)) h:=abr (by rw [zAp,dl,hD,hE];decide)
   have s3:∀{h:KH},dS Tryz.prog .add 9 (ah (KE++gZ i++acV)) (ah (gZ (i+1))) h=.ok (ah (KE++gZ i++acV++gZ (i+1))) h:=abr (by rw [zAp,zAp,dl,dl,hD,hE];decide)
   have s4:∀{h:KH},dS Tryz.prog .add 9 (ah (KE++gZ i++acV++gZ (i+1))) (ah aA2) h=.ok (ah (KE++gZ i++acV++gZ (i+1)++aA2)) h:=abr (by rw [zAp,zAp,zAp,dl,dl,hD,hE,hF];decide)
   have s5:∀{h:KH},dS Tryz.prog .add 9 (ah (adv n i)) (ah (KE++gZ i++acV++gZ (i+1)++aA2)) h=.ok (ah (adv n (i+1))) h:=abr (by rw [zAp,zAp,zAp,zAp,dl,dl,hD,hE,hF];omega)
   simp only [go_sem,HY,cH,bf]
   refine ag.by (aCm hi10) ?_
   rintro _ H3 - ⟨rfl,o3⟩
   simp only [go_sem]
   refine BA s1 ?_
   generalize KE++gZ i=x1 at s2 s3 s4 s5 ⊢
   simp only [go_sem]
   refine BA s2 ?_
   generalize x1++acV=x2 at s3 s4 s5 ⊢
   simp only [go_sem,HY,cH]
   refine ag.by (aCm hi11) ?_
   rintro _ H4 - ⟨rfl,o4⟩
   simp only [go_sem]
   refine BA s3 ?_
   generalize x2++gZ (i+1)=x3 at s4 s5 ⊢
   simp only [go_sem]
   refine BA s4 ?_
   generalize x3++aA2=x4 at s5 ⊢
   simp only [go_sem,e52]
   refine BA s5 ?_
   simp only [go_sem,HY,cH]
   exact (((((o2.fr []).af _).then (o3.fr [])).then (o4.fr [])).af _).au
  ·rintro V2 H2 ⟨HY,e52,o2⟩
   have qP:IntKind.wrap .i64 (((n - 1:Nat):Int)+1)=((n:Nat):Int):=by rw [FM (by omega) (by omega)];omega
   simp only [go_sem,HY,e52,qP,hnn,fP]
   refine ag.by (aCm (i:=n - 1) (by omega)) ?_
   rintro _ H3 - ⟨rfl,o3⟩
   have n3:H.next<=H3.next:=Nat.le_trans o2.nx o3.nx
   have hXl:agA.length=1:=rfl
   have s1:∀{h:KH},dS Tryz.prog .add 9 (ah agA) (ah (gZ (n - 1))) h=.ok (ah (agA++gZ (n - 1))) h:=abr (by rw [dl,hXl];decide)
   have Le:(agA++gZ (n - 1)).length=2:=by rw [zAp,dl,hXl]
   have hSn:=aCt (n - 1)
   have hT:qX n a1=adv n (n - 1)++(if a1=true then alA++(agA++gZ (n - 1))++aCj else apK++(agA++gZ (n - 1))++aCk):=rfl
   simp only [go_sem]
   refine BA s1 ?_
   generalize agA++gZ (n - 1)=lx at Le hT ⊢
   generalize hSS:adv n (n - 1)=sS at *
   have ZO:sS.length < 100000:=by omega
   cases a1 with
   | true=>
    rw [if_pos rfl] at hT BJ
    obtain ⟨c1,c2,c3,c4,c5⟩:=BJ
    have hG:alA.length=8:=rfl
    have hH:aCj.length=13:=rfl
    have s2:∀{h:KH},dS Tryz.prog .add 9 (ah alA) (ah lx) h=.ok (ah (alA++lx)) h:=abr (by rw [Le,hG];decide)
    have s3:∀{h:KH},dS Tryz.prog .add 9 (ah (alA++lx)) (ah aCj) h=.ok (ah (alA++lx++aCj)) h:=abr (by rw [zAp,Le,hG,hH];decide)
    have s4:∀{h:KH},dS Tryz.prog .add 9 (ah sS) (ah (alA++lx++aCj)) h=.ok (ah (qX n true)) h:=fun {h}=>by rw [hT];exact abr (by rw [zAp,zAp,Le,hG,hH];omega)
    simp only [go_sem]
    refine BA s2 ?_
    generalize alA++lx=x1 at s3 s4 ⊢
    simp only [go_sem]
    refine BA s3 ?_
    generalize x1++aCj=x2 at s4 ⊢
    simp only [go_sem,e52]
    refine BA s4 ?_
    simp only [go_sem]
    refine ag.by (aav (by omega) hP) ?_
    rintro _ H4 - ⟨o4,z4,px,rfl,lI⟩
    have n4:H3.next<=H4.next:=o4.nx
    have EV:H.fz H4.next=false:=hX (by omega)
    simp only [go_sem,EV]
    have o5:aG H4 ((H4.push ⟨px.c P,31,false,false⟩).af H.fz):=(((Fr.refl [] H4).push _).af _).au
    have p5:((H4.push ⟨px.c P,31,false,false⟩).af H.fz).get H4.next=some ⟨px.c P,31,false,false⟩:=by rw [bG,aZ,if_pos rfl]
    have n5:((H4.push ⟨px.c P,31,false,false⟩).af H.fz).next=H4.next+1:=rfl
    generalize ((H4.push ⟨px.c P,31,false,false⟩).af H.fz)=H5 at o5 p5 n5 ⊢
    refine ag.by (abc (lI.ae o5) (Uv hzp) (by decide) hF) ?_
    rintro _ H6 - ⟨rfl,o6,z6⟩
    have n6:=o6.nx
    have p6:=(o6.get H4.next (by omega)).trans p5
    have tH:H.fz H6.next=false:=hX (by omega)
    have hn6:¬H4.next=H6.next:=by omega
    obtain ⟨pl,dZ⟩:=Int.eq_ofNat_of_zero_le c3
    rw [dZ] at c3 c4 c5
    rw [Int.toNat_natCast] at c5
    have hpn:pl < P.nodes.length:=by omega
    have ZF:P.nodes[pl]?=some (P.nodes[pl]'hpn):=zEq hpn
    rw [List.getD_eq_getElem?_getD,ZF,Option.getD_some] at c5
    obtain ⟨dW,oy,cy,By,gy,wy,oJ,Nz,wu,Er,Dv⟩:=((lI.ae o5).ae o6).hN.at ZF
    simp only [Value.slice.injEq] at wy
    have oI:=wy.1
    obtain ⟨wA,wQ,wB,w1,w2,w3,lp,rfl,q1,q2,q3⟩:=Dv
    have ke:By.cells[oy+pl * 20]?=some (iV 10):=by
     have:=vg (i:=0) lp (by decide)
     rw [Nat.add_zero] at this
     exact this.trans (by show some (iV _)=_;rw [c5])
    have aC7:¬dW=H6.next:=by have:=((lI.ae o5).ae o6).lt dW (by simp [Nz]);omega
    have lk:(true==true)=true:=rfl
    have dI:(false==false)=true:=rfl
    simp only [go_sem,tH,c1,c2,dZ,c3,c4,hn6,p6,hpn,oI,oJ,aC7,ke,ahw,lk,dI]
    refine ag.by afL ?_
    rintro _ H7 - ⟨rfl,o7⟩
    simp only [go_sem]
   | false=>
    rw [if_neg (by decide)] at hT BJ
    have hG:apK.length=8:=rfl
    have hH:aCk.length=19:=rfl
    have s2:∀{h:KH},dS Tryz.prog .add 9 (ah apK) (ah lx) h=.ok (ah (apK++lx)) h:=abr (by rw [Le,hG];decide)
    have s3:∀{h:KH},dS Tryz.prog .add 9 (ah (apK++lx)) (ah aCk) h=.ok (ah (apK++lx++aCk)) h:=abr (by rw [zAp,Le,hG,hH];decide)
    have s4:∀{h:KH},dS Tryz.prog .add 9 (ah sS) (ah (apK++lx++aCk)) h=.ok (ah (qX n false)) h:=fun {h}=>by rw [hT];exact abr (by rw [zAp,zAp,Le,hG,hH];omega)
    simp only [go_sem]
    refine BA s2 ?_
    generalize apK++lx=x1 at s3 s4 ⊢
    simp only [go_sem]
    refine BA s3 ?_
    generalize x1++aCk=x2 at s4 ⊢
    simp only [go_sem,e52]
    refine BA s4 ?_
    simp only [go_sem]
    refine ag.by (aav (by omega) hP) ?_
    rintro _ H4 - ⟨o4,z4,px,rfl,lI⟩
    have n4:H3.next<=H4.next:=o4.nx
    have EV:H.fz H4.next=false:=hX (by omega)
    simp only [go_sem,EV]
    have o5:aG H4 ((H4.push ⟨px.c P,31,false,false⟩).af H.fz):=(((Fr.refl [] H4).push _).af _).au
    have p5:((H4.push ⟨px.c P,31,false,false⟩).af H.fz).get H4.next=some ⟨px.c P,31,false,false⟩:=by rw [bG,aZ,if_pos rfl]
    have n5:((H4.push ⟨px.c P,31,false,false⟩).af H.fz).next=H4.next+1:=rfl
    generalize ((H4.push ⟨px.c P,31,false,false⟩).af H.fz)=H5 at o5 p5 n5 ⊢
    refine ag.by (abc (lI.ae o5) (Uv hzp) (by decide) hF) ?_
    rintro _ H6 - ⟨rfl,o6,z6⟩
    have n6:=o6.nx
    have p6:=(o6.get H4.next (by omega)).trans p5
    have tH:H.fz H6.next=false:=hX (by omega)
    have hn6:¬H4.next=H6.next:=by omega
    have lk:(true==true)=true:=rfl
    have dI:(false==false)=true:=rfl
    simp only [go_sem,tH,BJ,hn6,p6,ahw,lk,dI]
    refine ag.by afL ?_
    rintro _ H7 - ⟨rfl,o7⟩
    simp only [go_sem]
end Go.Proofs.YtebibeaobhcfkaaGreat.Ab
