/- Lemmas for the walk, part 7. -/
import Derived.Test.YtinjmfblebpnnaaGreatC6
set_option linter.unusedVariables false
set_option linter.unusedSimpArgs false
set_option maxRecDepth 100000
set_option maxHeartbeats 16000000
namespace Go.Proofs.YtinjmfblebpnnaaGreat.Ab
open Go
def u9 (H:ad) (v:Value) (l:List Int) (b:Nat):Prop:=
 ∃c ds op,v=.slice (some ⟨b,0,none⟩) l.length c/\H.get b=some ⟨l.map iV++ds,3,op,false⟩/\(l.map iV++ds).length=c
theorem u9.af {H H':ad} {v:Value} {l:List Int} {b:Nat} (h:u9 H v l b) (hk:H'.get b=H.get b):u9 H' v l b:=by
 obtain ⟨c,ds,op,h1,h2,h3⟩:=h
 exact ⟨c,ds,op,h1,by rw [hk];exact h2,h3⟩
theorem YT {H:ad} {x:Value} {b sl sc n:Nat} {cs new:List Value} {op:Bool} (hs:nK 1 x H=some (n,new)) (rX:new.length=n) (hB:H.get b=some ⟨cs,3,op,false⟩) (hl:cs.length=sc) (hle:sl<=sc) (hn:sl+n < 10000000000000) (h0:0 < n) (I6:kh new=true):
  iS Tryz.prog 22 (.slice (some ⟨b,0,none⟩) sl sc) x H=if sl+n<=sc then .ok (.slice (some ⟨b,0,none⟩) (sl+n) sc) (H.ah b ⟨cW cs sl new,3,op,false⟩) else if op=true then .ok (.slice (some ⟨H.next,0,none⟩) (sl+n) (sl+n)) (H.grow b ⟨cs.take sl++new,3,true,false⟩) else .ok (.slice (some ⟨H.next,0,none⟩) (sl+n) (sl+n)) (H.push ⟨cs.take sl++new,3,true,false⟩):=by
 obtain ⟨hu,i,z,hi,hz,h1,h2,fM,I3⟩:=A0 rI
 have dd:nK i.size x H=some (n,new):=by rw [fM];exact hs
 simp only [iS,hu,hi,hz,dd,hB]
 rw [fM] at h1
 rw [I3,fM]
 rw [if_pos ⟨h1,by omega,by omega,by decide⟩]
 by_cases hc:sl+n<=sc
 ·rw [if_pos hc,if_pos hc,if_pos (by omega)]
  simp only [qx,hB]
  rw [if_pos ⟨by omega,I6,trivial⟩]
  simp
 ·rw [if_neg hc,if_neg hc]
  rw [if_pos ⟨by omega,by omega,by omega,hle,trivial,trivial⟩]
  cases op with
  | true=>rw [if_pos rfl,if_pos rfl,if_pos ⟨trivial,I6⟩,Nat.mul_one]
  | false=>rw [if_neg (by decide),if_neg (by decide),List.drop_zero,Nat.mul_one];rfl
theorem YU {X:Nat->Bool} {H:ad} {v:Value} {l xs:List Int} {b b':Nat} {e':TypeId} {o':Bool} {K:Value->ad->Prop} {tg:Tag K} (h:u9 H v l b) (hb:b < H.next) (hX:X b=false) (hB:H.get b'=some ⟨xs.map iV,e',o',false⟩) (hx:xs≠[]) (hl:l.length+xs.length < 10000000000000)
  (hk:∀v' H' b2,u9 H' v' (l++xs) b2->(b2=b∨b2=H.next)->b2 < H'.next->Fr [b] H H'->K v' H'):ew Tryz.prog X H (iS Tryz.prog 22 v (.slice (some ⟨b',0,none⟩) xs.length xs.length) H) K tg:=by
 obtain ⟨c,ds,op,rfl,h2,h3⟩:=h
 have mJ:0 < xs.length:=List.length_pos_iff.2 hx
 have hs:nK 1 (.slice (some ⟨b',0,none⟩) xs.length xs.length) H=some (xs.length,xs.map iV):=by
  simp only [nK]
  rw [if_neg (by omega)]
  simp only [hB]
  rw [if_pos (by simp),List.drop_zero,Nat.mul_one,List.take_of_length_le (by simp)]
 have hlen:l.length<=c:=by rw [<-h3];simp
 rw [YT hs (by simp) h2 h3 hlen hl mJ (J5 xs)]
 have iF:(l.map iV++ds).take l.length=l.map iV:=by rw [List.take_append_of_le_length (by simp),List.take_of_length_le (by simp)]
 by_cases hc:l.length+xs.length<=c
 ·rw [if_pos hc,ED hX]
  have df:xs.length<=ds.length:=by rw [List.length_append,List.length_map] at h3;omega
  refine hk _ _ b ⟨c,ds.drop xs.length,op,by rw [List.length_append],by rw [az,if_pos rfl];congr 2;unfold cW;rw [iF];simp [<-List.drop_drop],?_⟩ (.inl rfl) hb ((Fr.refl _ _).ah (.inl (by simp)) _)
  rw [<-h3];simp;omega
 ·rw [if_neg hc,iF]
  cases op with
  | true=>
   rw [if_pos rfl,Kb hX]
   refine hk _ _ H.next ⟨_,[],true,by rw [List.length_append],by rw [ve,if_pos rfl];simp,by simp⟩ (.inr rfl) (Nat.lt_succ_self _) ⟨Nat.le_succ _,fun c hc yY=>by rw [ve,if_neg (by omega),if_neg (fun e=>yY (by simp [e]))],fun c C hC hr=>by
    rw [ve] at hC
    (repeat' split at hC)
    ·cases hC;cases hr
    ·cases hC
    ·exact hC⟩
  | false=>
   rw [if_neg (by decide),wK]
   exact hk _ _ H.next ⟨_,[],true,by rw [List.length_append],by rw [aV,if_pos rfl];simp,by simp⟩ (.inr rfl) (Nat.lt_succ_self _) ((Fr.refl _ _).push _)
def Al (ns:List aG) (d:Nat):Nat->List Int->List Int->Option (List Int)
 | 0,todo,out=>if todo.length=0 then some out else none
 | k+1,todo,out=>if todo.length=0 then some out else
   let at_:=todo.getD (todo.length - 1) 0
   if at_ < 0∨((out.length:Nat):Int)<=at_∨0<=out.getD at_.toNat 0 then Al ns d k (todo.take (todo.length - 1)) out
   else
    let n:=ns.getD at_.toNat {}
    Al ns d k ((todo.take (todo.length - 1)++[n.a,n.b,n.next])++n.au.map (·.body)) (out.set at_.toNat (d:Nat))
def LF (ns:List aG) (fuel:Nat):List eo->Nat->List Int->Option (List Int)
 | [],_,out=>some out
 | x::l,d,out=>match Al ns d fuel [x.body] out with
  | some vw=>LF ns fuel l (d+1) vw
  | none=>none
def Oh (fuel:Nat) (ns:List aG) (ds:List eo):Option (List Int):=LF ns fuel ds 0 (List.replicate ns.length (-1))
theorem HT {H:ad} {a:Int}:sw Tryz.prog 22 1 [(0,.int .i64 a)] H=.ok (.slice (some ⟨H.next,0,none⟩) 1 1) (H.push ⟨[.int .i64 a],3,false,false⟩):=
 Hz rI (z:=[.int .i64 0]) (by kernel_rfl) (by decide) (by decide) rfl
theorem YV {H:ad} {a b c:Int}:sw Tryz.prog 22 3 [(0,.int .i64 a),(1,.int .i64 b),(2,.int .i64 c)] H=.ok (.slice (some ⟨H.next,0,none⟩) 3 3) (H.push ⟨[.int .i64 a,.int .i64 b,.int .i64 c],3,false,false⟩):=
 Hz rI (z:=[.int .i64 0]) (by kernel_rfl) (by decide) (by decide) rfl
theorem zW {o:List Int} {i:Nat} (h:i < o.length):(o.map iV)[i]?=some (iV (o.getD i 0)):=by
 rw [List.getElem?_map,List.getD_eq_getElem?_getD,List.getElem?_eq_getElem h];rfl
theorem aeJ {H:ad} {aM aR aD aN:Option Addr} {nM nR kM kR kD kN:Nat} {ns:List aG} {gN gD:List Nat} {ds:List eo} (hN:Sl kr H (.slice aN ns.length kN) ns gN) (hg:∀c∈gN,c < H.next) (hD:Sl jq H (.slice aD ds.length kD) ds gD) (Qq:∀c∈gD,c < H.next) (hl:ns.length < 100000) (hlD:ds.length < 1000000) (gi:∀n∈ns,n.au.length < 1000000) {fuel:Nat} (wg:fuel<=100000) {out:List Int} (he:Oh fuel ns ds=some out):
  ak Tryz.prog 48 #[.agg #[.slice aM nM kM,.slice aR nR kR,.slice aD ds.length kD,.slice aN ns.length kN]] H (fun v H'=>ba H H'/\out.length=ns.length/\∃b,v=.slice (some ⟨b,0,none⟩) ns.length ns.length/\H.next<=b/\b < H'.next/\H'.get b=some ⟨out.map iV,3,false,false⟩):=by
 refine ak.told ?_
 refine aiA (Nat.le_refl _) fun hf=>?_
 simp only [Tryz.f48,Option.getD_some]
 have hX:∀{c:Nat},H.next<=c->H.fz c=false:=fun h=>hf.fresh h
 simp only [go_sem,HT]
 obtain ⟨H1,cH⟩:∃H1,H1=(H.push ⟨[.slice aM nM kM,.slice aR nR kR,.slice aD ds.length kD,.slice aN ns.length kN],28,false,false⟩).push ⟨[.int .i64 (-1)],3,false,false⟩:=⟨_,rfl⟩
 have g1:H1.get (H.next+1)=some ⟨[.int .i64 (-1)],3,false,false⟩:=by rw [cH,aV,bJ,if_pos rfl]
 have p1:H1.get H.next=some ⟨[.slice aM nM kM,.slice aR nR kR,.slice aD ds.length kD,.slice aN ns.length kN],28,false,false⟩:=by rw [cH,aV,bJ,if_neg (by omega),aV,if_pos rfl]
 have n1:H1.next=H.next+1+1:=by rw [cH];rfl
 have f1:Fr [] H H1:=by rw [cH];exact ((Fr.refl [] H).push _).push _
 rw [<-cH]
 clear cH
 refine ag.by (ad0 (x:= -1) (n:=ns.length) g1 rfl hl) ?_
 rintro _ H2 - ⟨o2,rfl,n2,g2⟩
 rw [n1] at n2 g2
 obtain ⟨bo,jt⟩:∃bo,bo=H.next+1+1:=⟨_,rfl⟩
 rw [n1,<-jt]
 rw [<-jt] at n2 g2
 have p2:=(o2.get H.next (by omega)).trans p1
 have f2:Fr [] H H2:=f1.then (o2.fr [])
 clear g1 p1 n1 f1 o2
 simp only [go_sem,p2]
 refine iw 309485009821345068724258288 ds.length (fun d V H3=>V 19=iV (d:Nat)/\∃o,LF ns fuel (ds.drop d) d o=some out/\o.length=ns.length/\Fr [] H H3/\bo < H3.next/\H3.get H.next=some ⟨[.slice aM nM kM,.slice aR nR kR,.slice aD ds.length kD,.slice aN ns.length kN],28,false,false⟩/\H3.get bo=some ⟨o.map iV,3,false,false⟩)
  ⟨by simp only [go_sem] <;> rfl,_,he,List.length_replicate ..,f2,n2,p2,g2⟩ ?_ ?_ (by rfl)
 ·rintro d V H3 hd ⟨ed,o,CP,oD,f3,n3,p3,g3⟩
  have hx:ds[d]?=some (ds[d]'hd):=List.getElem?_eq_getElem hd
  have Es:ds.drop d=(ds[d]'hd)::ds.drop (d+1):=(List.getElem_cons_drop hd).symm
  generalize (ds[d]'hd)=x at hx Es
  rw [Es,LF] at CP
  cases gH:Al ns d fuel [x.body] o with
  | none=>rw [gH] at CP;cases CP
  | some o'=>
  rw [gH] at CP
  simp only at CP
  obtain ⟨b,oo,c,B,gx,hv,hB,ep,dj,cm,hE⟩:=(hD.af (H':=H3) fun y hy=>f3.get y (Qq y hy) (by simp)).at hx
  simp only [Value.slice.injEq] at hv
  have G9:=hv.1
  obtain ⟨vA,vQ,vB,u1,u2,u3,aX,rfl,t1,t2,t3⟩:=hE
  obtain ⟨a1,k1,rfl⟩:=t1.val
  obtain ⟨a2,k2,rfl⟩:=t2.val
  obtain ⟨a3,k3,rfl⟩:=t3.val
  have ez:oo+d * 9+9<=B.cells.length:=cm
  have aX:(B.cells.drop (oo+d * 9)).take 9=[ae x.name,.slice a1 x.params.length k1,iV x.aY,iV x.body,iV x.line,iV x.aj,.bool x.sy,.slice a2 x.pat.length k2,.slice a3 x.on.length k3]:=aX
  have W1:H.fz H3.next=false:=hX (by omega)
  simp only [go_sem,ed,p3,hd,G9,hB,ez,aX,W1,HT]
  obtain ⟨Ha,Hg⟩:∃Ha,Ha=(H3.push ⟨[ae x.name,.slice a1 x.params.length k1,iV x.aY,iV x.body,iV x.line,iV x.aj,.bool x.sy,.slice a2 x.pat.length k2,.slice a3 x.on.length k3],38,false,false⟩).push ⟨[.int .i64 x.body],3,false,false⟩:=⟨_,rfl⟩
  rw [<-Hg]
  have na:Ha.next=H3.next+1+1:=by rw [Hg];rfl
  have fa:Fr [] H Ha:=by rw [Hg];exact (f3.push _).push _
  have ga:Ha.get bo=some ⟨o.map iV,3,false,false⟩:=by rw [Hg,aV,bJ,if_neg (by omega),aV,if_neg (by omega)];exact g3
  have pa:Ha.get H.next=some ⟨[.slice aM nM kM,.slice aR nR kR,.slice aD ds.length kD,.slice aN ns.length kN],28,false,false⟩:=by rw [Hg,aV,bJ,if_neg (by omega),aV,if_neg (by omega)];exact p3
  have ta:u9 Ha (.slice (some ⟨H3.next+1,0,none⟩) 1 1) [x.body] (H3.next+1):=⟨1,[],false,rfl,by rw [Hg,aV,bJ,if_pos rfl];rfl,rfl⟩
  clear Hg
  refine la 154742504910672534228174272 (fun k V2 H4=>k<=fuel/\∃todo o4 bt,u9 H4 (V2 6) todo bt/\bo < bt/\bt < H4.next/\todo.length+k * 1000003<=1+fuel * 1000003/\Al ns d k todo o4=some o'/\o4.length=ns.length/\Fr [] H H4/\H4.get H.next=some ⟨[.slice aM nM kM,.slice aR nR kR,.slice aD ds.length kD,.slice aN ns.length kN],28,false,false⟩/\H4.get bo=some ⟨o4.map iV,3,false,false⟩) (n:=fuel)
   ⟨Nat.le_refl _,[x.body],o,H3.next+1,by simp only [go_sem];exact ta,by omega,by omega,Nat.le_refl _,gH,oD,fa,pa,ga⟩ ?_ (by rfl)
  rintro k V2 H4 ⟨hkf,todo,o4,bt,ht,Ni,Ue,fY,qt,FO,f4,p4,g4⟩
  obtain ⟨c4,ds4,op4,MN,Me,Ql⟩:=ht
  by_cases h0:todo.length=0
  ·have hoe:Al ns d k todo o4=some o4:=by
    cases k with
    | zero=>rw [Al,if_pos h0]
    | succ k=>rw [Al,if_pos h0]
   rw [hoe] at qt
   cases qt
   have CO:¬(0:Int) < ((0:Nat):Int):=by omega
   have hwd:IntKind.wrap .i64 (((d:Nat):Int)+1)=((d+1:Nat):Int):=cZ hd (by omega)
   simp only [go_sem,MN,h0,CO,ed,hwd]
   exact ⟨_,CP,FO,f4,by omega,p4,g4⟩
  ·cases k with
   | zero=>rw [Al,if_neg h0] at qt;cases qt
   | succ k=>
   rw [Al,if_neg h0] at qt
   obtain ⟨t,og⟩:∃t,todo.length=t+1:=⟨todo.length - 1,by omega⟩
   have mJ:0 < ((todo.length:Nat):Int):=by omega
   have eV:IntKind.wrap .i64 (((todo.length:Nat):Int) - 1)=((t:Nat):Int):=by rw [lF (by omega) (by omega)];omega
   have LH:t < todo.length:=by omega
   have Nj:(todo.map iV++ds4)[t]?=some (iV (todo.getD t 0)):=by rw [List.getElem?_append_left (by simp;omega)];exact zW LH
   rw [show todo.length - 1=t by omega] at qt
   obtain ⟨at_,ee⟩:∃at_,at_=todo.getD t 0:=⟨_,rfl⟩
   rw [<-ee] at Nj qt
   have eL:iZ Tryz.prog 22=some (3,1):=by kernel_rfl
   have W2:t<=c4:=by rw [<-Ql];simp;omega
   simp only [go_sem,Option.map_some,Option.map_none,MN,mJ,eV,LH,Me,Nj,NH (b:=bt) (o:=0) (n:=todo.length) (c:=c4) eL W2]
   have i6:∀{H5},H5.get bt=H4.get bt->u9 H5 (.slice (some ⟨bt,0,none⟩) t c4) (todo.take t) bt:=fun {H5} h=>⟨c4,(todo.drop t).map iV++ds4,op4,by rw [List.length_take,Nat.min_eq_left (by omega)],by rw [h,Me,<-List.append_assoc,<-List.map_append,List.take_append_drop],by rw [<-List.append_assoc,<-List.map_append,List.take_append_drop];exact Ql⟩
   have abC:(todo.take t).length=t:=by rw [List.length_take,Nat.min_eq_left (by omega)]
   by_cases h1:at_ < 0
   ·rw [if_pos (.inl h1)] at qt
    simp only [go_sem,h1]
    refine ⟨k,by omega,by omega,todo.take t,o4,bt,?_,Ni,Ue,by omega,qt,FO,f4,p4,g4⟩
    exact i6 rfl
   by_cases h2:((ns.length:Nat):Int)<=at_
   ·rw [if_pos (.inr (.inl (by rw [FO];exact h2)))] at qt
    simp only [go_sem,h1,h2]
    refine ⟨k,by omega,by omega,todo.take t,o4,bt,?_,Ni,Ue,by omega,qt,FO,f4,p4,g4⟩
    exact i6 rfl
   obtain ⟨a,rfl⟩:=Int.eq_ofNat_of_zero_le (by omega:0<=at_)
   have ha:a < ns.length:=by omega
   have sb:(0:Int)<=((a:Nat):Int):=by omega
   have hca:=zW (o:=o4) (i:=a) (by omega)
   by_cases h3:0<=o4.getD a 0
   ·rw [if_pos (.inr (.inr h3))] at qt
    simp only [go_sem,h1,h2,ha,g4,hca,h3]
    refine ⟨k,by omega,by omega,todo.take t,o4,bt,?_,Ni,Ue,by omega,qt,FO,f4,p4,rfl⟩
    exact i6 rfl
   rw [if_neg (by rw [FO];simp only [Int.toNat_natCast];exact fun h=>h.elim h1 fun h=>h.elim h2 h3)] at qt
   simp only [Int.toNat_natCast] at qt
   have W3:ns[a]?=some (ns[a]'ha):=List.getElem?_eq_getElem ha
   have fP:ns.getD a {}=ns[a]'ha:=by rw [List.getD_eq_getElem?_getD,W3];rfl
   rw [fP] at qt
   have cY:=gi _ (List.getElem_mem ha)
   generalize (ns[a]'ha)=y at W3 qt cY
   obtain ⟨el,oy,cy,By,gy,hvy,hBy,anl,WV,anm,hEy⟩:=(hN.af (H':=H4) fun c hc=>f4.get c (hg c hc) (by simp)).at W3
   simp only [Value.slice.injEq] at hvy
   have haY:=hvy.1
   obtain ⟨wA,wQ,wB,w1,w2,w3,Uf,rfl,q1,q2,q3⟩:=hEy
   obtain ⟨b1,j1,rfl⟩:=q1.val
   obtain ⟨b2,j2,rfl⟩:=q2.val
   obtain ⟨b3,j3,rfl⟩:=q3.val
   have akm:oy+a * 20+20<=By.cells.length:=anm
   have Uf:(By.cells.drop (oy+a * 20)).take 20=aJ y (.slice b1 y.args.length j1) (.slice b2 y.pat.length j2) (.slice b3 y.au.length j3):=Uf
   have W4:H.fz bo=false:=hX (by omega)
   have AB:H.fz H4.next=false:=hX (by omega)
   have I3:el < bo:=by have:=hg el anl;omega
   have gW:¬el=bo:=by omega
   have D3:¬H.next=bo:=by omega
   have Gi:a < (o4.map iV).length:=by rw [List.length_map];omega
   have hlb:a+1<=(o4.map iV).length:=by rw [List.length_map];omega
   have eU:∀A B C:cw,((H4.ah bo A).push B).ah H4.next C=(H4.ah bo A).push C:=fun A _ _=>Yf (H:=H4.ah bo A)
   simp only [go_sem,eU,h1,h2,ha,g4,hca,h3,W4,AB,D3,p4,haY,hBy,akm,Uf,gW,Gi,hlb,YV]
   obtain ⟨Hb,CS⟩:∃Hb,Hb=((H4.ah bo ⟨(o4.map iV).set a (iV (d:Nat)),3,false,false⟩).push ⟨aJ y (.slice b1 y.args.length j1) (.slice b2 y.pat.length j2) (.slice b3 y.au.length j3),42,false,false⟩).push ⟨[.int .i64 y.a,.int .i64 y.b,.int .i64 y.next],3,false,false⟩:=⟨_,rfl⟩
   rw [<-CS]
   have nb:Hb.next=H4.next+1+1:=by rw [CS];rfl
   have fb:Fr [] H Hb:=by rw [CS];exact ((f4.ah (.inr (by omega)) _).push _).push _
   have gb:Hb.get bo=some ⟨(o4.set a (d:Nat)).map iV,3,false,false⟩:=by rw [CS,aV,bJ,oO,if_neg (by omega),aV,oO,if_neg (by omega),az,if_pos rfl,List.map_set]
   have pb:Hb.get H.next=some ⟨[.slice aM nM kM,.slice aR nR kR,.slice aD ds.length kD,.slice aN ns.length kN],28,false,false⟩:=by rw [CS,aV,bJ,oO,if_neg (by omega),aV,oO,if_neg (by omega),az,if_neg D3];exact p4
   have yb:Hb.get H4.next=some ⟨aJ y (.slice b1 y.args.length j1) (.slice b2 y.pat.length j2) (.slice b3 y.au.length j3),42,false,false⟩:=by rw [CS,aV,bJ,oO,if_neg (by omega),aV,oO,if_pos rfl]
   have lb:Hb.get (H4.next+1)=some ⟨[.int .i64 y.a,.int .i64 y.b,.int .i64 y.next],3,false,false⟩:=by rw [CS,aV,bJ,oO,if_pos rfl]
   have tb:Hb.get bt=H4.get bt:=by rw [CS,aV,bJ,oO,if_neg (by omega),aV,oO,if_neg (by omega),az,if_neg (by omega)]
   clear CS
   refine YU (xs:=[y.a,y.b,y.next]) (i6 tb) (by omega) (hX (by omega)) lb (by simp) (by rw [abC];have:=Nat.mul_le_mul wg (Nat.le_refl 1000003);simp only [List.length_cons,List.length_nil];omega) ?_
   intro v5 H5 b5 VQ iG ann f5
   have gk:∀c,c < Hb.next->c≠bt->H5.get c=Hb.get c:=fun c hc hn=>f5.get c hc (by simp [hn])
   have n5:=f5.nx
   have y5:=(gk H4.next (by omega) (by omega)).trans yb
   have p5:=(gk H.next (by omega) (by omega)).trans pb
   have g5:=(gk bo (by omega) (by omega)).trans gb
   have ff5:Fr [] H H5:=by
    refine ⟨Nat.le_trans fb.nx f5.nx,fun c hc _=>(gk c (by omega) (by omega)).trans (fb.get c hc (by simp)),fun c B hB hr=>fb.ro c B (f5.ro c B hB hr) hr⟩
   simp only [go_sem,y5]
   have oq:todo.length+(k+1) * 1000003<=1+100000 * 1000003:=Nat.le_trans fY (by have:=Nat.mul_le_mul wg (Nat.le_refl 1000003);omega)
   refine iw 154591389183220705715553344 y.au.length (fun j V6 H6=>V6 77=iV (j:Nat)/\∃b6,u9 H6 (V6 6) ((todo.take t++[y.a,y.b,y.next])++(y.au.take j).map (·.body)) b6/\bo < b6/\b6 < H6.next/\H4.next < H6.next/\b6≠H4.next/\Fr [] H H6/\H6.get H.next=some ⟨[.slice aM nM kM,.slice aR nR kR,.slice aD ds.length kD,.slice aN ns.length kN],28,false,false⟩/\H6.get bo=some ⟨(o4.set a (d:Nat)).map iV,3,false,false⟩)
    ⟨by simp only [go_sem] <;> rfl,b5,by simp only [go_sem,List.take_zero,List.map_nil,List.append_nil];exact VQ,by omega,ann,by omega,by omega,ff5,p5,g5⟩ ?_ ?_ (by rfl)
   ·rintro j V6 H6 hj ⟨ej,b6,Jn,GB,Ug,n6,ano,f6,p6,g6⟩
    have hz:y.au[j]?=some (y.au[j]'hj):=List.getElem?_eq_getElem hj
    have iF:y.au.take (j+1)=y.au.take j++[y.au[j]'hj]:=by rw [List.take_add_one,hz];rfl
    generalize (y.au[j]'hj)=z at hz iF
    obtain ⟨bz,oz,cz,Bz,gz,hvz,hBz,axi,hgz,anp,hEz⟩:=(q3.af (H':=H6) fun c hc=>(f6.get c (hg c (WV c (by simp [hc]))) (by simp)).trans (f4.get c (hg c (WV c (by simp [hc]))) (by simp)).symm).at hz
    simp only [Value.slice.injEq] at hvz
    have haZ:=hvz.1
    obtain ⟨vS,vW,x1,x2,Uh,rfl,r1,r2⟩:=hEz
    obtain ⟨aS,kS,rfl⟩:=r1.val
    obtain ⟨aW,kW,rfl⟩:=r2.val
    have akn:oz+j * 7+7<=Bz.cells.length:=anp
    have Uh:(Bz.cells.drop (oz+j * 7)).take 7=cG z (.slice aS z.aY.length kS) (.slice aW z.names.length kW):=Uh
    have wE:IntKind.wrap .i64 (((j:Nat):Int)+1)=((j+1:Nat):Int):=cZ hj (by omega)
    have CA:H.fz H6.next=false:=hX (by have:=f6.nx;omega)
    simp only [go_sem,ej,hj,haZ,hBz,akn,Uh,CA,HT]
    obtain ⟨H7,cU⟩:∃H7,H7=(H6.push ⟨cG z (.slice aS z.aY.length kS) (.slice aW z.names.length kW),52,false,false⟩).push ⟨[.int .i64 z.body],3,false,false⟩:=⟨_,rfl⟩
    rw [<-cU]
    have n7:H7.next=H6.next+1+1:=by rw [cU];rfl
    have k7:∀c,c < H6.next->H7.get c=H6.get c:=fun c hc=>by rw [cU,aV,bJ,if_neg (by omega),aV,if_neg (by omega)]
    have l7:H7.get (H6.next+1)=some ⟨[.int .i64 z.body],3,false,false⟩:=by rw [cU,aV,bJ,if_pos rfl]
    have f7:Fr [] H H7:=by rw [cU];exact (f6.push _).push _
    clear cU
    refine YU (xs:=[z.body]) (Jn.af (k7 b6 Ug)) (by omega) (hX (by omega)) l7 (by simp) (by
     simp only [List.length_append,List.length_map,List.length_take,List.length_cons,List.length_nil];omega) ?_
    intro v8 H8 b8 ht8 AJ anq f8
    have W5:∀c,c < H7.next->c≠b6->H8.get c=H7.get c:=fun c hc hn=>f8.get c hc (by simp [hn])
    have n8:=f8.nx
    simp only [go_sem,ej,wE]
    refine ⟨b8,?_,by omega,anq,by omega,by omega,⟨by omega,fun c hc _=>(W5 c (by omega) (by omega)).trans (f7.get c hc (by simp)),fun c B hB hr=>f7.ro c B (f8.ro c B hB hr) hr⟩,(W5 H.next (by omega) (by omega)).trans ((k7 H.next (by omega)).trans p6),(W5 bo (by omega) (by omega)).trans ((k7 bo (by omega)).trans g6)⟩
    rw [iF,List.map_append,<-List.append_assoc]
    exact ht8
   ·rintro V6 H6 ⟨ej,b6,Jn,GB,Ug,n6,ano,f6,p6,g6⟩
    rw [List.take_length] at Jn
    have hjj:¬y.au.length < y.au.length:=by omega
    simp only [go_sem,ej,hjj]
    refine ⟨k,by omega,by omega,_,_,b6,Jn,GB,Ug,?_,qt,by rw [List.length_set];exact FO,f6,p6,g6⟩
    simp only [List.length_append,List.length_map,List.length_cons,List.length_nil]
    omega
 ·rintro V H3 ⟨ed,o,CP,oD,f3,n3,p3,g3⟩
  rw [List.drop_length,LF] at CP
  cases CP
  simp only [go_sem,ed]
  exact ⟨(f3.ai _).aH,oD,bo,rfl,by omega,n3,g3⟩
theorem ako {cs l:List Value} {k n i:Nat} (h:(cs.drop k).take n=l) (hi:i < n):cs[k+i]?=l[i]?:=by
 rw [<-h,List.getElem?_take,if_pos hi,List.getElem?_drop]
structure jj where
 aM:Option Addr
 aR:Option Addr
 aD:Option Addr
 aN:Option Addr
 nR:Nat
 kM:Nat
 kR:Nat
 kD:Nat
 kN:Nat
 gM:List Nat
 gD:List Nat
 gN:List Nat
abbrev jj.c (x:jj) (P:bw):List Value:=[.slice x.aM P.msgs.length x.kM,.slice x.aR x.nR x.kR,.slice x.aD P.defs.length x.kD,.slice x.aN P.nodes.length x.kN]
structure sk (H:ad) (P:bw) (x:jj):Prop where
 hM:Sl pI H (.slice x.aM P.msgs.length x.kM) P.msgs x.gM
 hD:Sl jq H (.slice x.aD P.defs.length x.kD) P.defs x.gD
 hN:Sl kr H (.slice x.aN P.nodes.length x.kN) P.nodes x.gN
 lt:∀c∈x.gM++(x.gD++x.gN),c < H.next
structure AU (P:bw):Prop where
 m:P.msgs.length < 1000000
 d:P.defs.length < 1000000
 n:P.nodes.length < 100000
 nd:∀n∈P.nodes,anj n
 mt:∀x∈P.msgs,x.types.length < 1000000
 dp:∀x∈P.defs,x.params.length < 1000000
theorem sk.af {H H':ad} {P:bw} {x:jj} (h:sk H P x) (o:ba H H'):sk H' P x:=
 ⟨h.hM.af fun c hc=>o.get c (h.lt c (by simp [hc])),h.hD.af fun c hc=>o.get c (h.lt c (by simp [hc])),h.hN.af fun c hc=>o.get c (h.lt c (by simp [hc])),fun c hc=>Nat.lt_of_lt_of_le (h.lt c hc) o.nx⟩
theorem sk.fr {H H':ad} {P:bw} {x:jj} {M:List Nat} (h:sk H P x) (o:Fr M H H') (hM:∀c∈M,c∉x.gM++(x.gD++x.gN)):sk H' P x:=
 have k:∀c∈x.gM++(x.gD++x.gN),H'.get c=H.get c:=fun c hc=>o.get c (h.lt c hc) fun e=>hM c e hc
 ⟨h.hM.af fun c hc=>k c (by simp [hc]),h.hD.af fun c hc=>k c (by simp [hc]),h.hN.af fun c hc=>k c (by simp [hc]),fun c hc=>Nat.lt_of_lt_of_le (h.lt c hc) o.nx⟩
structure TS where
 kv:List (Int × Int)
 ok:Bool
def uA (n:Int):Bool:=decide (0<=n)&&decide (n<=1152921504606846976)
def uB (a b:Int):Int × Bool:=if uA a=true/\uA b=true/\a<=1152921504606846976 - b then (a+b,true) else (0,false)
def mulM (a b:Int):Int × Bool:=if uA a=true/\uA b=true/\¬(0 < b/\(1152921504606846976:Int).tdiv b < a) then (a * b,true) else (0,false)
def xj (a b:Int) (t:TS):Int × TS:=((uB a b).1,⟨t.kv,t.ok&&(uB a b).2⟩)
def FP (a b:Int) (t:TS):Int × TS:=((mulM a b).1,⟨t.kv,t.ok&&(mulM a b).2⟩)
abbrev TB:=Int->TS->Option (Int × TS)
def Fb (ds:List eo) (bd:TB) (d:Int) (t:TS):Option (Int × TS):=
 if d < 0∨((ds.length:Nat):Int)<=d then some (0,t)
 else match getM t.kv d with
  | some n=>some (n,t)
  | none=>(bd ((ds.map (·.body)).getD d.toNat 0) t).map fun x=>(x.1,⟨Bv x.2.kv d x.1,x.2.ok⟩)
def FQ (bd:TB):List eY->Int->TS->Option (Int × TS)
 | [],m,t=>some (m,t)
 | b::l,m,t=>(bd b.body t).bind fun x=>FQ bd l (if m < x.1 then x.1 else m) x.2
def DH (ds:List eo) (bd:TB) (n:aG) (t:TS):Option (Int × TS):=
 if n.kind=8 then bd n.a t
 else if n.kind=11 then (bd n.a t).map fun x=>FP n.n x.1 x.2
 else if n.kind=10∨n.kind=13 then Fb ds bd n.f t
 else if n.kind=16 then (bd n.a t).bind fun x=>(bd n.b x.2).map fun y=>(if x.1 < y.1 then y.1 else x.1,y.2)
 else if n.kind=15 then FQ bd n.au 0 t
 else some (0,t)
def OG (n:aG) (place:Int):Bool:=([n.a,n.b,n.next]++n.au.map (·.body)).any fun to=>decide (0<=to)&&decide (to<=place)
def Am (ns:List aG) (aK:aG->TS->Option (Int × TS)):Nat->Int->Int->TS->Option (Int × TS)
 | 0,_,_,_=>none
 | j+1,sum,place,t=>
  if t.ok=true/\0<=place/\place < ((ns.length:Nat):Int) then
   (if OG (ns.getD place.toNat {}) place=true then some (sum,⟨t.kv,false⟩)
   else (aK (ns.getD place.toNat {}) t).bind fun x=>Am ns aK j (xj sum (xj 1 x.1 x.2).1 (xj 1 x.1 x.2).2).1 (ns.getD place.toNat {}).next (xj sum (xj 1 x.1 x.2).1 (xj 1 x.1 x.2).2).2)
  else some (sum,t)
def JS (ns:List aG) (ds:List eo):Nat->TB
 | 0=>fun _ _=>none
 | k+1=>fun place t=>Am ns (DH ds (JS ns ds k)) 402 0 place t
def DI:List Int->Int->List Int
 | [],x=>[x]
 | y::l,x=>if x < y then y::DI l x else x::y::l
def x7:List Int->List Int->List Int
 | [],acc=>acc
 | x::l,acc=>x7 l (DI acc x)
def C6 (l:List Int):List Int:=(x7 l []).reverse
def ma:List Int->List Int
 | []=>[]
 | [x]=>[x]
 | x::y::l=>if x=y then ma (y::l) else x::ma (y::l)
def BX (own:List Int) (d:Int):List aG->Nat->List Int
 | [],_=>[]
 | n::l,i=>if own.getD i 0=d/\(n.kind=10∨n.kind=13) then n.f::BX own d l (i+1) else BX own d l (i+1)
def C7 (fuel:Nat) (P:bw) (d:Int):Option (List Int):=
 if d < 0∨((P.defs.length:Nat):Int)<=d then some []
 else (Oh fuel P.nodes P.defs).bind fun own=>if (BX own d P.nodes 0).length<=12 then some (ma (C6 (BX own d P.nodes 0))) else none
def Ie (fuel:Nat) (P:bw):Nat->List Int->List Bool->Option (List Bool)
 | 0,_,_=>none
 | k+1,todo,out=>if todo.length=0 then some out else
  (let d:=todo.getD (todo.length - 1) 0
  if d < 0∨((out.length:Nat):Int)<=d∨out.getD d.toNat false=true then Ie fuel P k (todo.take (todo.length - 1)) out
  else (C7 fuel P d).bind fun cs=>Ie fuel P k (todo.take (todo.length - 1)++cs) (out.set d.toNat true))
def If (fuel:Nat) (P:bw) (d:Int):Option (List Bool):=(C7 fuel P d).bind fun cs=>Ie fuel P fuel cs (List.replicate P.defs.length false)
def Ig (fuel:Nat) (P:bw):List Bool->Nat->Option Bool
 | [],_=>some true
 | b::l,d=>if b=true then (If fuel P ((d:Nat):Int)).bind fun o=>if o.getD d false=true then some false else Ig fuel P l (d+1) else Ig fuel P l (d+1)
def Bt (fuel:Nat) (P:bw):Option Bool:=(If fuel P (pJ P.defs)).bind fun to=>Ig fuel P to 0
def IF (fuel:Nat) (P:bw):Option (Int × Bool):=
 if pJ P.defs < 0 then some (0,false)
 else (Bt fuel P).bind fun e=>if e=false then some (0,false)
 else (Fb P.defs (JS P.nodes P.defs fuel) (pJ P.defs) ⟨[],true⟩).map fun x=>if x.2.ok=true then (x.1,true) else (0,false)
theorem OH {H:ad} {n:Int}:ak Tryz.prog 155 #[iV n] H (fun r H'=>r=.bool (uA n)/\H=H'):=by
 refine agw (Nat.le_refl _) fun hf=>?_
 simp only [Tryz.f155,Option.getD_some]
 unfold uA
 by_cases h1:0<=n
 ·simp only [go_sem,h1,decide_true,Bool.true_and]
 ·simp only [go_sem,h1,decide_false,Bool.false_and]
theorem NO {n:Int}:uA n=true↔0<=n/\n<=1152921504606846976:=by unfold uA;simp
theorem ahI {H:ad} {a b:Int}:ak Tryz.prog 128 #[iV a,iV b] H (fun r H'=>r=.tuple #[iV (uB a b).1,.bool (uB a b).2]/\H=H'):=by
 refine afT (Nat.le_refl _) fun hf=>?_
 simp only [Tryz.f128,Option.getD_some]
 simp only [go_sem]
 refine ag.by OH ?_
 rintro _ _ - ⟨rfl,rfl⟩
 by_cases h1:uA a=true
 ·simp only [go_sem,h1]
  refine ag.by OH ?_
  rintro _ _ - ⟨rfl,rfl⟩
  by_cases h2:uA b=true
  ·have hb:=NO.1 h2
   have ha:=NO.1 h1
   have hw:IntKind.wrap .i64 (1152921504606846976 - b)=1152921504606846976 - b:=lF (by omega) (by omega)
   have mY:a<=1152921504606846976 - b->IntKind.wrap .i64 (a+b)=a+b:=fun h=>lF (by omega) (by omega)
   by_cases h3:a<=1152921504606846976 - b
   ·have h4:¬(1152921504606846976 - b < a):=by omega
    rw [show uB a b=(a+b,true) from by unfold uB;rw [if_pos ⟨h1,h2,h3⟩]]
    simp only [go_sem,h2,hw,h4,mY h3]
   ·have h4:1152921504606846976 - b < a:=by omega
    rw [show uB a b=(0,false) from by unfold uB;rw [if_neg (fun h=>h3 h.2.2)]]
    simp only [go_sem,h2,hw,h4]
  ·rw [show uB a b=(0,false) from by unfold uB;rw [if_neg (fun h=>h2 h.2.1)]]
   simp only [go_sem,h2]
 ·rw [show uB a b=(0,false) from by unfold uB;rw [if_neg (fun h=>h1 h.1)]]
  simp only [go_sem,h1]
theorem ahJ {H:ad} {a b:Int}:ak Tryz.prog 156 #[iV a,iV b] H (fun r H'=>r=.tuple #[iV (mulM a b).1,.bool (mulM a b).2]/\H=H'):=by
 refine agy (Nat.le_refl _) fun hf=>?_
 simp only [Tryz.f156,Option.getD_some]
 simp only [go_sem]
 refine ag.by OH ?_
 rintro _ _ - ⟨rfl,rfl⟩
 by_cases h1:uA a=true
 ·simp only [go_sem,h1]
  refine ag.by OH ?_
  rintro _ _ - ⟨rfl,rfl⟩
  by_cases h2:uA b=true
  ·have hb:=NO.1 h2
   have ha:=NO.1 h1
   by_cases h3:0 < b
   ·have o9:b≠0:=by omega
    have hq:(1152921504606846976:Int).tdiv b=1152921504606846976 / b:=Int.tdiv_eq_ediv_of_nonneg (by decide)
    have Gg:(1152921504606846976:Int) / b<=1152921504606846976:=Int.ediv_le_self _ (by decide)
    have xG:0<=(1152921504606846976:Int) / b:=Int.ediv_nonneg (by decide) hb.1
    have hw:IntKind.wrap .i64 ((1152921504606846976:Int).tdiv b)=(1152921504606846976:Int).tdiv b:=lF (by rw [hq];omega) (by rw [hq];omega)
    by_cases h4:(1152921504606846976:Int).tdiv b < a
    ·rw [show mulM a b=(0,false) from by unfold mulM;rw [if_neg (fun h=>h.2.2 ⟨h3,h4⟩)]]
     simp only [go_sem,h2,h3,o9,hw,h4]
    ·have hab:a * b<=1152921504606846976:=by
      rw [hq] at h4
      exact Int.le_trans (Int.mul_le_mul_of_nonneg_right (by omega) hb.1) (Int.ediv_mul_le _ o9)
     have axj:0<=a * b:=Int.mul_nonneg ha.1 hb.1
     have mY:IntKind.wrap .i64 (a * b)=a * b:=lF (by omega) (by omega)
     rw [show mulM a b=(a * b,true) from by unfold mulM;rw [if_pos ⟨h1,h2,fun h=>h4 h.2⟩]]
     simp only [go_sem,h2,h3,o9,hw,h4,mY]
   ·have o9:b=0:=by omega
    subst o9
    have mY:IntKind.wrap .i64 (a * 0)=a * 0:=by rw [Int.mul_zero];rfl
    rw [show mulM a 0=(a * 0,true) from by unfold mulM;rw [if_pos ⟨h1,h2,fun h=>h3 h.1⟩]]
    simp only [go_sem,h2,h3,mY]
  ·rw [show mulM a b=(0,false) from by unfold mulM;rw [if_neg (fun h=>h2 h.2.1)]]
   simp only [go_sem,h2]
 ·rw [show mulM a b=(0,false) from by unfold mulM;rw [if_neg (fun h=>h1 h.1)]]
  simp only [go_sem,h1]
abbrev QN (x:jj) (P:bw) (m:Nat) (ok:Bool):List Value:=[.slice x.aM P.msgs.length x.kM,.slice x.aR x.nR x.kR,.slice x.aD P.defs.length x.kD,.slice x.aN P.nodes.length x.kN,.map (some m),.bool ok]
structure CQ0 (H:ad) (P:bw) (x:jj) (c m:Nat) (t:TS):Prop where
 hc:H.get c=some ⟨QN x P m t.ok,86,false,false⟩
 hm:H.get m=some ⟨vu t.kv,48,false,false⟩
 so:sk H P x
 ne:c≠m
 cl:c < H.next
 ml:m < H.next
 cg:c∉x.gM++(x.gD++x.gN)
 mg:m∉x.gM++(x.gD++x.gN)
structure CQ (H:ad) (P:bw) (x:jj) (c m:Nat) (t:TS):Prop extends CQ0 H P x c m t where
 fc:H.fz c=false
 fm:H.fz m=false
def yh (H:ad) (P:bw) (x:jj) (c m:Nat) (n:Int) (t:TS) (v:Value) (H':ad):Prop:=v=iV n/\Fr [c,m] H H'/\(∀b,H'.fz b=H.fz b)/\CQ0 H' P x c m t
theorem CQ0.fr {H H':ad} {P:bw} {x:jj} {c m:Nat} {t:TS} (h:CQ0 H P x c m t) (o:ba H H'):CQ0 H' P x c m t:=
 ⟨(o.get c h.cl).trans h.hc,(o.get m h.ml).trans h.hm,h.so.af o,h.ne,Nat.lt_of_lt_of_le h.cl o.nx,Nat.lt_of_lt_of_le h.ml o.nx,h.cg,h.mg⟩
theorem CQ0.set {H:ad} {P:bw} {x:jj} {c m:Nat} {t:TS} (h:CQ0 H P x c m t) (ok:Bool):CQ0 (H.ah c ⟨QN x P m ok,86,false,false⟩) P x c m ⟨t.kv,ok⟩:=
 ⟨by rw [az,if_pos rfl],by rw [az,if_neg (fun e=>h.ne e.symm)];exact h.hm,h.so.fr (M:=[c]) ((Fr.refl _ _).ah (.inl (by simp)) _) (fun d hd=>by rw [List.mem_singleton] at hd;subst hd;exact h.cg),h.ne,h.cl,h.ml,h.cg,h.mg⟩
theorem CQ0.put {H:ad} {P:bw} {x:jj} {c m:Nat} {t:TS} (h:CQ0 H P x c m t) (kv:List (Int × Int)):CQ0 (H.ah m ⟨vu kv,48,false,false⟩) P x c m ⟨kv,t.ok⟩:=
 ⟨by rw [az,if_neg h.ne];exact h.hc,by rw [az,if_pos rfl],h.so.fr (M:=[m]) ((Fr.refl _ _).ah (.inl (by simp)) _) (fun d hd=>by rw [List.mem_singleton] at hd;subst hd;exact h.mg),h.ne,h.cl,h.ml,h.cg,h.mg⟩
theorem CQ0.ai {H:ad} {P:bw} {x:jj} {c m:Nat} {t:TS} (h:CQ0 H P x c m t) (z:Nat->Bool):CQ0 (H.ai z) P x c m t:=
 ⟨h.hc,h.hm,⟨h.so.hM.af fun _ _=>rfl,h.so.hD.af fun _ _=>rfl,h.so.hN.af fun _ _=>rfl,h.so.lt⟩,h.ne,h.cl,h.ml,h.cg,h.mg⟩
theorem Zm {H:ad} {P:bw} {x:jj} {c m:Nat} {t:TS} {a b:Int} (h:CQ H P x c m t):ak Tryz.prog 93 #[pV c,iV a,iV b] H (yh H P x c m (xj a b t).1 (xj a b t).2):=by
 refine ak.told ?_
 refine ajt (Nat.le_refl _) fun hf=>?_
 simp only [Tryz.f93,Option.getD_some]
 simp only [go_sem]
 refine ag.by ahI ?_
 rintro _ _ - ⟨rfl,rfl⟩
 have hc:=h.hc
 have fc:=h.fc
 unfold xj
 cases hk:t.ok with
 | true=>
  rw [hk] at hc
  simp only [go_sem,hc,fc,hk]
  exact ⟨rfl,((Fr.refl _ _).ah (.inl (by simp)) _).ai _,fun _=>rfl,(h.toCQ0.set _).ai _⟩
 | false=>
  rw [hk] at hc
  simp only [go_sem,hc,fc,hk]
  exact ⟨rfl,((Fr.refl _ _).ah (.inl (by simp)) _).ai _,fun _=>rfl,(h.toCQ0.set _).ai _⟩
theorem ad1 {H:ad} {P:bw} {x:jj} {c m:Nat} {t:TS} {a b:Int} (h:CQ H P x c m t):ak Tryz.prog 129 #[pV c,iV a,iV b] H (yh H P x c m (FP a b t).1 (FP a b t).2):=by
 refine ak.told ?_
 refine afV (Nat.le_refl _) fun hf=>?_
 simp only [Tryz.f129,Option.getD_some]
 simp only [go_sem]
 refine ag.by ahJ ?_
 rintro _ _ - ⟨rfl,rfl⟩
 have hc:=h.hc
 have fc:=h.fc
 unfold FP
 cases hk:t.ok with
 | true=>
  rw [hk] at hc
  simp only [go_sem,hc,fc,hk]
  exact ⟨rfl,((Fr.refl _ _).ah (.inl (by simp)) _).ai _,fun _=>rfl,(h.toCQ0.set _).ai _⟩
 | false=>
  rw [hk] at hc
  simp only [go_sem,hc,fc,hk]
  exact ⟨rfl,((Fr.refl _ _).ah (.inl (by simp)) _).ai _,fun _=>rfl,(h.toCQ0.set _).ai _⟩
theorem akp {H:ad} {a:Int}:ak Tryz.prog 138 #[iV a] H (fun r H'=>r=.bool false/\H=H'):=by
 refine afZ (Nat.le_refl _) fun hf=>?_
 simp only [Tryz.f138,Option.getD_some]
 simp only [go_sem]
theorem ahK {H:ad} {a b:Int}:ak Tryz.prog 104 #[iV a,iV b] H (fun r H'=>r=.bool (decide (a < b))/\H=H'):=by
 refine aff (Nat.le_refl _) fun hf=>?_
 simp only [Tryz.f104,Option.getD_some]
 simp only [go_sem]
 refine ag.by akp ?_
 rintro _ _ - ⟨rfl,rfl⟩
 simp only [go_sem]
theorem aeK {H:ad} {n:Nat} (hn:n < 256):ak Tryz.prog 108 #[.int .u64 (n:Nat)] H (fun r H'=>(∃k:Int,r=iV k)/\H=H'):=by
 refine afh (Nat.le_refl _) fun hf=>?_
 simp only [Tryz.f108,Option.getD_some]
 have h1:¬((4294967296:Int)<=((n:Nat):Int)):=by omega
 have h2:¬((65536:Int)<=((n:Nat):Int)):=by omega
 have h3:¬((256:Int)<=((n:Nat):Int)):=by omega
 have eA:∀{H:ad},oR Tryz.prog 72 5 (.int .u64 ((n:Nat):Int)) H=.ok (.int .u8 (IntKind.wrap .u8 ((n:Nat):Int))) H:=CV (ks:=.u64) (by kernel_rfl) (by kernel_rfl)
 have eV:IntKind.wrap .u8 ((n:Nat):Int)=((n:Nat):Int):=by
  show (((n:Nat):Int) % 256)=_
  omega
 have il:∀{x:Int} {H:ad},oR Tryz.prog 5 3 (.int .u8 x) H=.ok (iV (IntKind.wrap .i64 x)) H:=CV (ks:=.u8) (by kernel_rfl) (by kernel_rfl)
 have hix:∀(s:List UInt8) (h:KH),n < s.length->xY Tryz.prog 9 (.string ⟨s.toArray⟩) (.int .u8 ((n:Nat):Int)) h=.ok (.int .u8 (((s.getD n 0).toNat:Nat):Int)) h:=fun s h hl=>by
  unfold xY
  rw [show Tryz.prog.underlying 9=some .string by kernel_rfl]
  show (match pK (ByteArray.mk s.toArray).data.toList n with
   | some c=>KO.ok (.int .u8 (.ofNat c.toNat)) h
   | none=>.no)=_
  rw [wL,Ex,List.getD_eq_getElem?_getD,List.getElem?_eq_getElem hl]
  rfl
 simp only [go_sem,h1,h2,h3,eA,eV,hix,il,List.append_eq,List.length_append,List.length_cons,List.length_nil,Nat.reduceAdd,hn]
 exact ⟨_,rfl⟩
theorem aae {H:ad} {n:Nat} (hn:n < 256):ak Tryz.prog 75 #[.int .u64 (n:Nat)] H (fun r H'=>(∃k:Int,r=iV k)/\H=H'):=by
 refine aiZ (Nat.le_refl _) fun hf=>?_
 simp only [Tryz.f75,Option.getD_some]
 simp only [go_sem]
 refine ag.by (aeK hn) ?_
 rintro _ _ - ⟨⟨k,rfl⟩,rfl⟩
 simp only [go_sem]
 exact ⟨k,rfl⟩
theorem Yv (x:Int) (B:List Int):∀A:List Int,(∀a∈A,x < a)->DI (A++B) x=A++DI B x
 | [],_=>rfl
 | a::A,h=>by
  rw [List.cons_append,DI,if_pos (h a (by simp)),Yv x B A fun b hb=>h b (by simp [hb])];rfl
theorem Yw (x:Int):∀l:List Int,(DI l x).length=l.length+1
 | []=>rfl
 | y::l=>by
  rw [DI]
  split
  ·rw [List.length_cons,Yw x l];rfl
  ·rfl
theorem Xx:∀l acc:List Int,(x7 l acc).length=l.length+acc.length
 | [],acc=>by rw [x7];simp
 | x::l,acc=>by rw [x7,Xx l,Yw];simp;omega
theorem XT (l:List Int):(C6 l).length=l.length:=by unfold C6;rw [List.length_reverse,Xx];simp
theorem aeL (B R:List Int) (x y:Int):((B.reverse++(y::x::R)).set (B.length+1) y).set B.length x=B.reverse++(x::y::R):=by
 rw [List.set_append_right _ _ (by simp),List.set_append_right _ _ (by simp)]
 simp
theorem abD (B R:List Int) (y:Int):(B.reverse++(y::R)).getD B.length 0=y:=by
 rw [List.getD_eq_getElem?_getD,List.getElem?_append_right (by simp)];simp
theorem Ro (l:List Int) (j:Nat) (y:Int):(l.map iV).set j (iV y)=(l.set j y).map iV:=by rw [List.map_set]
abbrev yO (l:List Int) (op:Bool):cw:=⟨l.map iV,3,op,false⟩
abbrev DJ (b n:Nat):Value:=.slice (some ⟨b,0,none⟩) n n
theorem akq {H:ad} {b:Nat} {l:List Int} {op:Bool} (h:H.get b=some (yO l op)) (hX:H.fz b=false) (hl:l.length < 1000000):
  ak Tryz.prog 98 #[DJ b l.length,iV 0,iV (l.length:Nat)] H (fun _ H'=>H'.get b=some (yO (C6 l) op)/\we [b] H H'):=by
 have oE:∀c∈[b],∀B,H.get c=some B->B.ro=false:=fun c hc B hB=>by
  rw [List.mem_singleton] at hc
  subst hc
  rw [h] at hB;cases hB;rfl
 refine ZG (Nat.le_refl _) fun hf=>?_
 simp only [Tryz.f98,Option.getD_some]
 simp only [go_sem]
 refine la 562949953420480 (fun k V H1=>∃i acc,1<=i/\k=l.length - i/\V 6=iV (i:Nat)/\x7 (l.drop i) acc=x7 l []/\acc.length=min i l.length/\H1.get b=some (yO (acc.reverse++l.drop i) op)/\we [b] H H1) (n:=l.length - 1)
  ?_ ?_ (by rfl)
 ·cases l with
  | nil=>exact ⟨1,[],Nat.le_refl _,rfl,by simp only [go_sem] <;> rfl,rfl,rfl,h,.refl oE⟩
  | cons x r=>exact ⟨1,[x],Nat.le_refl _,rfl,by simp only [go_sem] <;> rfl,rfl,by simp,h,.refl oE⟩
 ·rintro k V H1 ⟨i,acc,hi,rfl,ei,hs,BY,eK,hu⟩
  by_cases hc:i < l.length
  ·have hx:l[i]?=some (l[i]'hc):=List.getElem?_eq_getElem hc
   have Es:l.drop i=(l[i]'hc)::l.drop (i+1):=(List.getElem_cons_drop hc).symm
   generalize (l[i]'hc)=x at hx Es
   rw [Es] at hs eK
   rw [x7] at hs
   have IX:acc.length=i:=by omega
   have sY:((i:Nat):Int) < ((l.length:Nat):Int):=by omega
   have ct:IntKind.wrap .i64 (((i:Nat):Int)+1)=((i+1:Nat):Int):=cZ hc (by omega)
   simp only [go_sem,ei,sY]
   refine la 562949953355904 (fun j V2 H2=>V2 7=iV (j:Nat)/\∃A B,acc=A++B/\B.length=j/\(∀a∈A,x < a)/\H2.get b=some (yO (B.reverse++(x::(A.reverse++l.drop (i+1)))) op)/\we [b] H H2) (n:=i)
    ⟨by simp only [go_sem,ei] <;> rfl,[],acc,rfl,IX,by simp,by simpa using eK,hu⟩ ?_ (by rfl)
   rintro j V2 H2 ⟨ej,A,B,IY,W6,hA,IZ,rW⟩
   have Dr:(∀y∈B.head?,¬x < y)->x7 (l.drop (i+1)) (A++(x::B))=x7 l []:=fun hB=>by
    rw [<-hs,IY,Yv x B A hA]
    congr 2
    cases B with
    | nil=>rfl
    | cons y B=>rw [DI,if_neg (hB y rfl)]
   have abE:(A++(x::B)).reverse++l.drop (i+1)=B.reverse++(x::(A.reverse++l.drop (i+1))):=by simp
   have aaf:(A++(x::B)).length=min (i+1) l.length:=by
    rw [List.length_append,List.length_cons]
    rw [IY,List.length_append] at IX
    omega
   cases B with
   | nil=>
    have hj0:j=0:=by simpa using W6.symm
    subst hj0
    have CO:¬(0:Int) < ((0:Nat):Int):=by omega
    simp only [go_sem,ej,ei,ct,CO]
    exact ⟨l.length - (i+1),by omega,i+1,A++[x],by omega,rfl,rfl,Dr (by simp),aaf,by rw [abE];exact IZ,rW⟩
   | cons y B=>
    obtain ⟨j,rfl⟩:∃j',j=j'+1:=⟨B.length,by simpa using W6.symm⟩
    have Pp:B.length=j:=by simpa using W6
    rw [List.reverse_cons,List.append_assoc,List.singleton_append] at IZ
    obtain ⟨q,hq⟩:∃q,q=B.reverse++(y::x::(A.reverse++l.drop (i+1))):=⟨_,rfl⟩
    have hL:q.length=l.length:=by
     rw [hq];simp;rw [IY] at IX;simp at IX;omega
    have e1:q.getD (j+1) 0=x:=by
     have:=abD (y::B) (A.reverse++l.drop (i+1)) x
     rw [List.reverse_cons,List.append_assoc,List.singleton_append,List.length_cons,Pp] at this
     rw [hq];exact this
    have e2:q.getD j 0=y:=by rw [<-Pp,hq];exact abD _ _ _
    have fh:((q.set (j+1) y).set j x)=B.reverse++(x::y::(A.reverse++l.drop (i+1))):=by
     rw [hq,<-Pp];exact aeL _ _ _ _
    rw [<-hq] at IZ
    have be:j+1 < q.length:=by rw [hq];simp;omega
    have iC:=zW be
    have Sd:=zW (o:=q) (i:=j) (by omega)
    rw [e1] at iC
    rw [e2] at Sd
    have hjp:(0:Int) < ((j+1:Nat):Int):=by omega
    have wE:IntKind.wrap .i64 (((j+1:Nat):Int) - 1)=((j:Nat):Int):=by
     rw [show (((j+1:Nat):Int) - 1)=((j:Nat):Int) by omega];exact lF (by omega) (by omega)
    have AS:j+1 < l.length:=by omega
    have tO:j < l.length:=by omega
    simp only [go_sem,ej,hjp,AS,tO,IZ,iC,wE,Sd]
    refine ag.by ahK ?_
    rintro _ _ - ⟨rfl,rfl⟩
    by_cases Ee:x < y
    ·have Gg:j+1 < (q.map iV).length:=by rw [List.length_map];exact be
     have tp:j < ((q.map iV).set (j+1) (iV y)).length:=by rw [List.length_set,List.length_map];omega
     have anr:j+1+1<=(q.map iV).length:=Gg
     have ans:j+1<=((q.map iV).set (j+1) (iV y)).length:=tp
     simp only [go_sem,Ee,ej,AS,tO,IZ,iC,wE,Sd,hX,Gg,tp,anr,ans]
     refine ⟨j,by omega,rfl,A++[y],B,by rw [IY];simp,Pp,fun a ha=>?_,?_,(rW.ah (by simp) rfl).ah (by simp) rfl⟩
     ·rcases List.mem_append.1 ha with e | e
      ·exact hA a e
      ·rw [List.mem_singleton] at e;rw [e];exact Ee
     ·rw [Ro,Ro,fh];simp
    ·simp only [go_sem,Ee,ei,ct]
     exact ⟨l.length - (i+1),by omega,i+1,A++(x::y::B),by omega,rfl,rfl,Dr (by simpa using Ee),aaf,by rw [abE];simpa [hq] using IZ,rW⟩
  ·have sY:¬((i:Nat):Int) < ((l.length:Nat):Int):=by omega
   simp only [go_sem,ei,sY]
   have hd:l.drop i=[]:=List.drop_eq_nil_of_le (by omega)
   rw [hd] at hs eK
   rw [x7] at hs
   rw [List.append_nil,hs] at eK
   exact ⟨eK,hu⟩
theorem aeM {H:ad} {b:Nat} {B:cw} {x p:Int} (hB:H.get b=some B) (hc:B.cells[0]?=some (iV p)):ak Tryz.prog 92 #[iV x,pV b] H (fun r H'=>r=.bool (decide (0<=x)&&decide (x<=p))/\H=H'):=by
 refine ajr (Nat.le_refl _) fun hf=>?_
 simp only [Tryz.f92,Option.getD_some]
 by_cases h1:0<=x
 ·simp only [go_sem,h1,hB,hc,decide_true,Bool.true_and]
 ·simp only [go_sem,h1,decide_false,Bool.false_and]
theorem aeN {H:ad} {w:Value} {l:List Int} {g:List Nat} {b:Nat} {q:Int->Bool} (hg:Sl .int H w l g) (hl:l.length < 2000000)
  (hq:∀x,ak Tryz.prog 92 #[iV x,pV b] H (fun r H'=>r=.bool (q x)/\H=H')):
  ak Tryz.prog 127 #[w,.func (.func 92) #[] #[pV b]] H (fun r H'=>(∃k:Int,r=iV k/\decide (0<=k)=l.any q)/\H=H'):=by
 refine afR (Nat.le_refl _) fun hf=>?_
 simp only [Tryz.f127,Option.getD_some]
 obtain ⟨a1,c1,sZ⟩:=hg.val
 simp only [go_sem,sZ]
 refine iw 524080 l.length (fun i V H1=>V 8=iV (i:Nat)/\H=H1/\l.any q=(l.drop i).any q) ⟨by simp only [go_sem];rfl,rfl,rfl⟩ ?_ ?_ (by rfl)
 ·rintro i V H1 hi ⟨e8,rfl,iU⟩
  obtain ⟨b2,o2,c2,B2,nT,pX,_,ahL⟩:=hg.afc hi
  rw [sZ] at nT
  cases nT
  simp only [go_sem,e8,hi,pX,ahL]
  refine ag.by (hq _) ?_
  rintro _ _ - ⟨rfl,rfl⟩
  rw [AY hi,List.any_cons] at iU
  cases ht:q (l.getD i 0) with
  | false=>
   rw [ht,Bool.false_or] at iU
   simp only [go_sem,e8,cZ hi (by omega)]
   exact iU
  | true=>
   rw [ht,Bool.true_or] at iU
   simp only [go_sem,e8]
   exact ⟨_,rfl,by rw [iU];simp⟩
 ·rintro V H1 ⟨e8,rfl,iU⟩
  simp only [go_sem,e8]
  exact ⟨_,rfl,by rw [iU,List.drop_length];rfl⟩
theorem aeO {H:ad} {w:Value} {l:List Int} {g:List Nat} {b:Nat} {q:Int->Bool} (hg:Sl .int H w l g) (hl:l.length < 2000000)
  (hq:∀x,ak Tryz.prog 92 #[iV x,pV b] H (fun r H'=>r=.bool (q x)/\H=H')):
  ak Tryz.prog 90 #[w,.func (.func 92) #[] #[pV b]] H (fun r H'=>r=.bool (l.any q)/\H=H'):=by
 refine ajo (Nat.le_refl _) fun hf=>?_
 simp only [Tryz.f90,Option.getD_some]
 simp only [go_sem]
 refine ag.by (aeN hg hl hq) ?_
 rintro _ _ - ⟨⟨k,rfl,hk⟩,rfl⟩
 simp only [go_sem,hk]
theorem ad2 {H:ad} {n:aG} {vA vQ vB:Value} {gB:List Nat} {aA aQ:Option Addr} {nA kA nQ kQ:Nat} (hA:vA=.slice aA nA kA) (hQ:vQ=.slice aQ nQ kQ) (hB:Sl dG H vB n.au gB) (Jj:∀c∈gB,c < H.next) (hl:n.au.length < 1000000):
  ak Tryz.prog 91 #[.agg (aJ n vA vQ vB).toArray] H (fun r H'=>ba H H'/\(∀c,H'.fz c=H.fz c)/\∃f',Ow .int 3 H' r (n.au.map (·.body)) f'/\B9 H.next H' f'):=by
 refine ak.told ?_
 refine qz (l:=[_]) _ mixed Tryz.func91 ajp [.tmp 2] (show 1<=20 by decide) rfl fun hf=>?_
 simp only [Tryz.f91,Option.getD_some]
 have hX:∀{c:Nat},H.next<=c->H.fz c=false:=fun h=>hf.fresh h
 subst hA
 subst hQ
 obtain ⟨aB,kB,rfl⟩:=hB.val
 simp only [go_sem]
 obtain ⟨H1,cH⟩:∃H1,H1=(H.push ⟨aJ n (.slice aA nA kA) (.slice aQ nQ kQ) (.slice aB n.au.length kB),42,false,false⟩).ai H.fz:=⟨_,rfl⟩
 have W7:OF H H1:=by rw [cH];exact ⟨(((Fr.refl [] H).push _).ai _).aH,fun _ _=>rfl⟩
 have n1:H1.next=H.next+1:=by rw [cH];rfl
 have z1:∀c,H1.fz c=H.fz c:=fun c=>by rw [cH];rfl
 have pW:=hB.af (H':=H1) fun c hc=>W7.aH.get c (Jj c hc)
 rw [<-cH]
 clear cH
 refine qH 523816 n.au.length (fun i V H2=>V 9=iV (i:Nat)/\OF H H2/\ba H1 H2/\∃fa,Ow .int 3 H2 (V 3) ((n.au.take i).map (·.body)) fa/\B9 H1.next H2 fa)
  ⟨by simp only [go_sem] <;> rfl,W7,ba.refl _,[],by simp only [go_sem];exact Ow.nil _ _ _,⟨List.nodup_nil,by simp,by simp⟩⟩ ?_ ?_ (by rfl)
 ·rintro i V H2 hi ⟨ei,of2,o2,fa,jC,fG⟩
  have hx:n.au[i]?=some (n.au[i]'hi):=List.getElem?_eq_getElem hi
  have iF:n.au.take (i+1)=n.au.take i++[n.au[i]'hi]:=List.take_succ_eq_append_getElem hi
  generalize (n.au[i]'hi)=x at hx iF
  obtain ⟨b,o,c,B,gx,hv,Hh,ep,dj,cm,hE⟩:=(pW.af fun c hc=>o2.get c (by have:=Jj c hc;omega)).at hx
  simp only [Value.slice.injEq] at hv
  have G9:=hv.1
  obtain ⟨vS,vN,u1,u2,aX,rfl,s1,s2⟩:=hE
  obtain ⟨a1,k1,rfl⟩:=s1.val
  obtain ⟨a2,k2,rfl⟩:=s2.val
  have aX:(B.cells.drop (o+i * 7)).take 7=cG x (.slice a1 x.aY.length k1) (.slice a2 x.names.length k2):=aX
  have ez:o+i * 7+7<=B.cells.length:=cm
  have n2:=o2.nx
  have ct:IntKind.wrap .i64 (((i:Nat):Int)+1)=((i+1:Nat):Int):=cZ hi (by omega)
  have er:H.fz H2.next=false:=hX (by omega)
  simp only [go_sem,ei,hi,G9,Hh,ez,aX,er,HT]
  obtain ⟨H3,dN⟩:∃H3,H3=(((H2.ai H.fz).push ⟨cG x (.slice a1 x.aY.length k1) (.slice a2 x.names.length k2),52,false,false⟩).ai H.fz).push ⟨[.int .i64 x.body],3,false,false⟩:=⟨_,rfl⟩
  have g3:H3.get (H2.next+1)=some ⟨[.int .i64 x.body],3,false,false⟩:=by rw [dN,aV];exact if_pos rfl
  have n3:H3.next=H2.next+1+1:=by rw [dN];rfl
  have o3:ba H2 H3:=by rw [dN];exact (((((Fr.refl [] H2).ai _).push _).ai _).push _).aH
  have z3:∀c,c < H.next->H3.fz c=H.fz c:=fun c hc=>by
   rw [dN]
   show (c==H2.next+1||H.fz c)=_
   rw [show (c==H2.next+1)=false from by rw [beq_eq_false_iff_ne];omega,Bool.false_or]
  have ant:Ow .int 3 H3 (V 3) ((n.au.take i).map (·.body)) fa:=jC.af fun c hc=>o3.get c (fG.hi c hc)
  rw [<-dN]
  clear dN
  refine HA (Hb:=H1) (r:=.int) (x:=x.body) (g:=[]) rI ant (o2.trans o3) ⟨fG.nd,fG.lo,fun y hy=>Nat.lt_of_lt_of_le (fG.hi y hy) o3.nx⟩ ⟨List.nodup_nil,by simp,by simp⟩ (by simp) (fun y hy=>hX (by have:=fG.lo y hy;omega)) g3 ⟨rfl,rfl⟩ rfl (by simp;omega) ?_
  intro v' H4 f' FR om iR GW ir o4
  simp only [go_sem,ei,ct]
  rw [<-List.map_singleton,<-List.map_append,<-iF] at FR
  exact ⟨⟨((o4.fr []).ai _ |>.aH |> fun o=>(W7.aH.trans o)),fun _ _=>rfl⟩,((o4.fr []).ai _).aH,f',FR.af fun _ _=>rfl,om.nd,om.lo,om.hi⟩
 ·rintro V H2 ⟨ei,of2,o2,fa,jC,fG⟩
  simp only [go_sem,ei]
  rw [List.take_of_length_le (Nat.le_refl _)] at jC
  exact ⟨((of2.aH.fr []).ai _).aH,fun _=>trivial,fa,jC.af fun _ _=>rfl,fG.nd,fun y hy=>by have:=fG.lo y hy;omega,fG.hi⟩
structure gZ (H:ad) (P:bw) (x:jj) (c m:Nat) (H1:ad) (t:TS):Prop where
 cq:CQ0 H1 P x c m t
 fr:Fr [c,m] H H1
 fz:∀b,b < H.next->H1.fz b=H.fz b
 lc:c < H.next
 lm:m < H.next
 zc:H.fz c=false
 zm:H.fz m=false
 zn:∀b,H.next<=b->H.fz b=false
section
variable {H H1 H2:ad} {P:bw} {x:jj} {c m:Nat} {t t1 t2:TS}
theorem gZ.start (h:CQ H P x c m t) (hf:bV H):gZ H P x c m H t:=⟨h.toCQ0,.refl _ _,fun _ _=>rfl,h.cl,h.ml,h.fc,h.fm,fun _ hb=>hf.fresh hb⟩
theorem gZ.q (h:gZ H P x c m H1 t):CQ H1 P x c m t:={h.cq with fc:=by rw [h.fz _ h.lc];exact h.zc,fm:=by rw [h.fz _ h.lm];exact h.zm}
theorem gZ.of (h:gZ H P x c m H1 t) (o:OF H1 H2):gZ H P x c m H2 t:=
 ⟨h.cq.fr o.aH,h.fr.trans (o.aH.fr []) (by simp),fun b hb=>(o.fz b (Nat.lt_of_lt_of_le hb h.fr.nx)).trans (h.fz b hb),h.lc,h.lm,h.zc,h.zm,h.zn⟩
theorem gZ.told (h:gZ H P x c m H1 t):gZ H P x c m (H1.ai H.fz) t:=⟨h.cq.ai _,h.fr.ai _,fun _ _=>rfl,h.lc,h.lm,h.zc,h.zm,h.zn⟩
theorem gZ.call {n:Int} {v:Value} (h:gZ H P x c m H1 t) (p:yh H1 P x c m n t2 v H2):gZ H P x c m H2 t2:=
 ⟨p.2.2.2,h.fr.then p.2.1,fun b hb=>(p.2.2.1 b).trans (h.fz b hb),h.lc,h.lm,h.zc,h.zm,h.zn⟩
theorem gZ.post (h:gZ H P x c m H1 t) (n:Int):yh H P x c m n t (iV n) (H1.ai H.fz):=⟨rfl,h.fr.ai _,fun _=>rfl,h.cq.ai _⟩
theorem gZ.push (h:gZ H P x c m H1 t) (B:cw) (hB:B.ro=false:=by rfl):gZ H P x c m (H1.push B) t:=h.of ((OF.refl _).push B hB)
theorem gZ.own (h:gZ H P x c m H1 t) {b:Nat} (hb:H.next<=b) (hg:b∉x.gM++(x.gD++x.gN)) (B:cw) (hB:B.ro=false:=by rfl):gZ H P x c m (H1.ah b B) t:=by
 have h1:c≠b:=by have:=h.lc;omega
 have h2:m≠b:=by have:=h.lm;omega
 exact ⟨⟨by rw [az,if_neg h1];exact h.cq.hc,by rw [az,if_neg h2];exact h.cq.hm,h.cq.so.fr (M:=[b]) ((Fr.refl _ _).ah (.inl (by simp)) _ hB) (fun d hd=>by rw [List.mem_singleton] at hd;subst hd;exact hg),h.cq.ne,h.cq.cl,h.cq.ml,h.cq.cg,h.cq.mg⟩,
  h.fr.ah (.inr hb) _ hB,h.fz,h.lc,h.lm,h.zc,h.zm,h.zn⟩
theorem gZ.put (h:gZ H P x c m H1 t) (kv:List (Int × Int)):gZ H P x c m (H1.ah m ⟨vu kv,48,false,false⟩) ⟨kv,t.ok⟩:=
 ⟨h.cq.put kv,h.fr.ah (.inl (by simp)) _,h.fz,h.lc,h.lm,h.zc,h.zm,h.zn⟩
theorem gZ.set (h:gZ H P x c m H1 t) (ok:Bool):gZ H P x c m (H1.ah c ⟨QN x P m ok,86,false,false⟩) ⟨t.kv,ok⟩:=
 ⟨h.cq.set ok,h.fr.ah (.inl (by simp)) _,h.fz,h.lc,h.lm,h.zc,h.zm,h.zn⟩
end
def QO (P:bw) (x:jj) (bd:TB):Prop:=∀{H:ad} {c m:Nat} {t:TS} {place n:Int} {t':TS},CQ H P x c m t->bd place t=some (n,t')->
 ak Tryz.prog 71 #[pV c,iV place] H (yh H P x c m n t')
theorem Se {P:bw} {x:jj} (hz:AU P) {bd:TB} (jx:QO P x bd) {H:ad} {c m:Nat} {t:TS} (h:CQ H P x c m t) {d n:Int} {t':TS} (he:Fb P.defs bd d t=some (n,t')):
  ak Tryz.prog 43 #[pV c,iV d] H (yh H P x c m n t'):=by
 refine qz (l:=[_,_]) _ mixed Tryz.func43 aiv [.tmp 4] (show 2<=48 by decide) rfl fun hf=>?_
 simp only [Tryz.f43,Option.getD_some]
 have r0:=gZ.start h hf
 have hc:=h.hc
 have hm:=h.hm
 unfold Fb at he
 by_cases h1:d < 0
 ·rw [if_pos (.inl h1)] at he
  cases he
  simp only [go_sem,h1]
  exact r0.post 0
 by_cases h2:((P.defs.length:Nat):Int)<=d
 ·rw [if_pos (.inr h2)] at he
  cases he
  simp only [go_sem,h1,hc,h2]
  exact r0.post 0
 rw [if_neg (fun e=>e.elim h1 h2)] at he
 obtain ⟨k,rfl⟩:=Int.eq_ofNat_of_zero_le (by omega:0<=d)
 have hk:k < P.defs.length:=by omega
 have wa:(0:Int)<=((k:Nat):Int):=by omega
 cases hg:getM t.kv ((k:Nat):Int) with
 | some v=>
  rw [hg] at he
  cases he
  simp only [go_sem,h1,hc,h2,hm,hg,Option.getD_some,Option.isSome_some]
  exact r0.told.post _
 | none=>
  rw [hg] at he
  simp only at he
  have hy:P.defs[k]?=some (P.defs[k]'hk):=List.getElem?_eq_getElem hk
  have anu:(P.defs.map (·.body)).getD k 0=(P.defs[k]'hk).body:=by rw [List.getD_eq_getElem?_getD,List.getElem?_map,hy];rfl
  simp only [Int.toNat_natCast] at he
  rw [anu] at he
  generalize (P.defs[k]'hk)=y at hy he
  cases hb:bd y.body t with
  | none=>rw [hb] at he;cases he
  | some r=>
  rw [hb] at he
  cases he
  obtain ⟨b,o,cc,B,gx,hv,hB,ep,dj,cm,hE⟩:=h.so.hD.at hy
  simp only [Value.slice.injEq] at hv
  have GN:=hv.1
  obtain ⟨vA,vQ,vB,u1,u2,u3,aX,rfl,s1,s2,s3⟩:=hE
  have i7:B.cells[o+k * 9+3]?=some (iV y.body):=ako (i:=3) aX (by decide)
  simp only [go_sem,h1,hc,h2,hm,hg,Option.getD_none,Option.isSome_none,GN,hk,hB,i7]
  refine ag.by (jx r0.told.q hb) ?_
  rintro _ H2 - p2
  obtain ⟨rfl, -⟩:=id p2
  have r2:=r0.told.call p2
  have il:=r2.cq.hc
  have Uv:=r2.cq.hm
  have zm:=h.fm
  simp only [go_sem,il,Uv,zm]
  exact ((r2.told.put _).told).post _
theorem Zo {k k':IntKind} {a b:Int} {h:KH}:yi true (.int k a) (.int k' b) h=.ok (.int k (if a < b then b else a)) h:=by
 simp only [yi,xZ,cond_true]
 by_cases hb:a < b
 ·simp only [hb,decide_true,cond_true,if_true]
 ·simp only [hb,decide_false,cond_false,if_false]
structure anv (H:ad) (x:jj) (n:aG) (vA vQ vB:Value) (gB:List Nat):Prop where
 hA:∃a k c,vA=.slice a k c
 hQ:∃a k c,vQ=.slice a k c
 hB:Sl dG H vB n.au gB
 gB:∀b∈gB,b∈x.gM++(x.gD++x.gN)
 bl:n.au.length < 1000000
theorem akr {P:bw} {x:jj} (hz:AU P) {bd:TB} (jx:QO P x bd) {H:ad} {c m:Nat} {t:TS} (h:CQ H P x c m t) {nd:aG} {vA vQ vB:Value} {gB:List Nat} (hn:anv H x nd vA vQ vB gB) {n:Int} {t':TS} (he:DH P.defs bd nd t=some (n,t')):
  ak Tryz.prog 94 #[pV c,.agg (aJ nd vA vQ vB).toArray] H (yh H P x c m n t'):=by
 refine qz (l:=[_,_]) _ mixed Tryz.func94 aju [.tmp 4] (show 2<=61 by decide) rfl fun hf=>?_
 simp only [Tryz.f94,Option.getD_some]
 have r0:=gZ.start h hf
 obtain ⟨aA,nA,kA,rfl⟩:=hn.hA
 obtain ⟨aQ,nQ,kQ,rfl⟩:=hn.hQ
 obtain ⟨aB,kB,Nb⟩:=hn.hB.val
 subst Nb
 unfold DH at he
 simp only [go_sem]
 obtain ⟨H1,cH⟩:∃H1,H1=(H.push ⟨aJ nd (.slice aA nA kA) (.slice aQ nQ kQ) (.slice aB nd.au.length kB),42,false,false⟩).ai H.fz:=⟨_,rfl⟩
 have r1:gZ H P x c m H1 t:=by rw [cH];exact (r0.push _).told
 have y1:H1.get H.next=some ⟨aJ nd (.slice aA nA kA) (.slice aQ nQ kQ) (.slice aB nd.au.length kB),42,false,false⟩:=by rw [cH,bg,aV,if_pos rfl]
 have n1:H1.next=H.next+1:=by rw [cH];rfl
 rw [<-cH]
 clear cH
 have lc:=r0.lc
 have lm:=r0.lm
 have own:∀{H2:ad} {t2:TS} {v:Value} {k:Int},yh (H1.ai H.fz) P x c m k t2 v H2->H2.get H.next=some ⟨aJ nd (.slice aA nA kA) (.slice aQ nQ kQ) (.slice aB nd.au.length kB),42,false,false⟩:=fun p=>
  (p.2.1.get _ (by show H.next < H1.next;omega) (by simp;omega)).trans y1
 by_cases k8:nd.kind=8
 ·rw [if_pos k8] at he
  simp only [go_sem,y1,k8]
  refine ag.by (jx r1.q he) ?_
  rintro _ H2 - p2
  obtain ⟨rfl, -⟩:=id p2
  simp only [go_sem]
  exact (r1.call p2).post _
 rw [if_neg k8] at he
 by_cases Jt:nd.kind=11
 ·rw [if_pos Jt] at he
  cases hb:bd nd.a t with
  | none=>rw [hb] at he;cases he
  | some r=>
  rw [hb] at he
  cases he
  simp only [go_sem,y1,Jt]
  refine ag.by (jx r1.told.q hb) ?_
  rintro _ H2 - p2
  obtain ⟨rfl, -⟩:=id p2
  have y2:=own p2
  have r2:=r1.told.call p2
  simp only [go_sem,y1,y2]
  refine ag.by (ad1 r2.q) ?_
  rintro _ H3 - p3
  obtain ⟨rfl, -⟩:=id p3
  simp only [go_sem]
  exact (r2.call p3).post _
 rw [if_neg Jt] at he
 by_cases qo:nd.kind=10∨nd.kind=13
 ·rw [if_pos qo] at he
  have fin:∀{H3:ad} {v:Value},yh (H1.ai H.fz) P x c m n t' v H3->yh H P x c m n t' v (H3.ai H.fz):=fun p=>by
   obtain ⟨rfl, -⟩:=id p
   exact (r1.told.call p).post _
  rcases qo with qo | qo
  ·simp only [go_sem,y1,qo]
   refine ag.by (Se hz jx r1.told.q he) ?_
   rintro _ H3 - p3
   simp only [go_sem]
   exact fin p3
  ·simp only [go_sem,y1,qo]
   refine ag.by (Se hz jx r1.told.q he) ?_
   rintro _ H3 - p3
   simp only [go_sem]
   exact fin p3
 rw [if_neg qo] at he
 have anw:¬nd.kind=10:=fun e=>qo (.inl e)
 have anx:¬nd.kind=13:=fun e=>qo (.inr e)
 by_cases QP:nd.kind=16
 ·rw [if_pos QP] at he
  cases hb:bd nd.a t with
  | none=>rw [hb] at he;cases he
  | some r=>
  rw [hb,Option.bind_some] at he
  cases ft:bd nd.b r.2 with
  | none=>rw [ft] at he;cases he
  | some r2=>
  rw [ft] at he
  cases he
  simp only [go_sem,y1,QP]
  refine ag.by (jx r1.told.q hb) ?_
  rintro _ H2 - p2
  obtain ⟨rfl, -⟩:=id p2
  have y2:=own p2
  have q2:=r1.told.call p2
  simp only [go_sem,y1,y2]
  refine ag.by (jx q2.q ft) ?_
  rintro _ H3 - p3
  obtain ⟨rfl, -⟩:=id p3
  simp only [go_sem,Zo]
  exact (q2.call p3).post _
 rw [if_neg QP] at he
 by_cases wG:nd.kind=15
 ·rw [if_pos wG] at he
  simp only [go_sem,y1,wG]
  have kX:∀b∈gB,b < H.next/\b≠c/\b≠m:=fun b hb=>⟨h.so.lt b (hn.gB b hb),fun e=>h.cg (e▸hn.gB b hb),fun e=>h.mg (e▸hn.gB b hb)⟩
  refine qH 1152358554653425824 nd.au.length (fun i V H2=>V 49=iV (i:Nat)/\∃mx t2,V 5=iV mx/\gZ H P x c m H2 t2/\FQ bd (nd.au.drop i) mx t2=some (n,t'))
   ⟨by simp only [go_sem] <;> rfl,0,t,by simp only [go_sem] <;> rfl,r1.told,he⟩ ?_ ?_ (by rfl)
  ·rintro i V H2 hi ⟨ei,mx,t2,em,r2,im⟩
   have hx:nd.au[i]?=some (nd.au[i]'hi):=List.getElem?_eq_getElem hi
   have Es:nd.au.drop i=(nd.au[i]'hi)::nd.au.drop (i+1):=(List.getElem_cons_drop hi).symm
   generalize (nd.au[i]'hi)=y at hx Es
   rw [Es,FQ] at im
   cases hb:bd y.body t2 with
   | none=>rw [hb] at im;cases im
   | some r=>
   rw [hb,Option.bind_some] at im
   obtain ⟨b,o,cc,B,gx,hv,Hh,ep,dj,cm,hE⟩:=(hn.hB.af (H':=H2) fun b hb=>r2.fr.get b (kX b hb).1 (by simp [(kX b hb).2.1,(kX b hb).2.2])).at hx
   simp only [Value.slice.injEq] at hv
   have G9:=hv.1
   obtain ⟨vS,vN,u1,u2,aX,rfl,s1,s2⟩:=hE
   obtain ⟨a1,k1,rfl⟩:=s1.val
   obtain ⟨a2,k2,rfl⟩:=s2.val
   have aX:(B.cells.drop (o+i * 7)).take 7=cG y (.slice a1 y.aY.length k1) (.slice a2 y.names.length k2):=aX
   have ez:o+i * 7+7<=B.cells.length:=cm
   have n2:=r2.fr.nx
   have Tj:=hn.bl
   have ct:IntKind.wrap .i64 (((i:Nat):Int)+1)=((i+1:Nat):Int):=cZ hi (by omega)
   have er:H.fz H2.next=false:=r0.zn _ n2
   simp only [go_sem,ei,hi,G9,Hh,ez,aX,er]
   obtain ⟨H3,dN⟩:∃H3,H3=((H2.ai H.fz).push ⟨cG y (.slice a1 y.aY.length k1) (.slice a2 y.names.length k2),52,false,false⟩).ai H.fz:=⟨_,rfl⟩
   have r3:gZ H P x c m H3 t2:=by rw [dN];exact (r2.told.push _).told
   rw [<-dN]
   clear dN
   refine ag.by (jx r3.q hb) ?_
   rintro _ H4 - p4
   obtain ⟨rfl, -⟩:=id p4
   simp only [go_sem,em,Zo,ei,ct]
   exact ⟨_,r.2,rfl,(r3.call p4).told,im⟩
  ·rintro V H2 ⟨ei,mx,t2,em,r2,im⟩
   rw [List.drop_length,FQ] at im
   cases im
   simp only [go_sem,ei,em]
   exact r2.post _
 ·rw [if_neg wG] at he
  cases he
  simp only [go_sem,y1,k8,Jt,anw,anx,QP,wG]
  exact r1.post 0
theorem ad3 {X:Nat->Bool} {H:ad} {x:Value} {b:Nat} {l m:List Int} {g:List Nat} {K:Value->ad->Prop} {tg:Tag K} (hB:H.get b=some ⟨l.map iV,3,false,false⟩) (h0:l≠[]) (hX:X b=false) (hs:Sl .int H x m g) (hn:l.length+m.length < 10000000000)
  (hk:∀v' H' b',Sl .int H' v' (l++m) [b']->(b'=b∨b'=H.next)->Fr [b] H H'->(∀c,c < H.next->H'.fz c=H.fz c)->K v' H'):ew Tryz.prog X H (iS Tryz.prog 22 (.slice (some ⟨b,0,none⟩) l.length l.length) x H) K tg:=by
 obtain ⟨cs,g2,e1,e2,e3,_⟩:=hs.src (size:=1) rfl
 have:=Oe e3;subst this
 have e2':cs.length=m.length:=by rw [e2];exact Nat.mul_one _
 by_cases hm:m=[]
 ·subst hm
  have aX:cs=[]:=List.length_eq_zero_iff.1 (by simpa using e2)
  subst aX
  rw [Ku (n:=0) (new:=[]) (sz:=1) (o:=0) (sl:=l.length) (sc:=l.length) rI e1 rfl hB rfl (by show 0+l.length * 1<=(l.map iV).length;simp) (by decide) (Nat.le_refl _) rfl,ED hX]
  have eJ:cW (l.map iV) (0+l.length * 1) []=l.map iV:=by unfold cW;simp
  simp only
  rw [eJ]
  exact hk _ _ b (.inr (.inr ⟨b,0,l.length,_,[],by simp,by simpa using h0,by simp,rfl,by rw [az,if_pos rfl],by rw [List.append_nil];exact ND _ _⟩)) (.inl rfl) ((Fr.refl _ _).ah (.inl (by simp)) _) fun _ _=>rfl
 ·have QF:0 < m.length:=List.length_pos_iff.2 hm
  rw [Kc (n:=m.length) (new:=cs) (sz:=1) (o:=0) (sl:=l.length) (sc:=l.length) rI e1 hB (by simp) (Nat.le_refl _) (by omega) (by omega),wK]
  have ht:((l.map iV).drop 0).take (l.length * 1)=l.map iV:=by rw [List.drop_zero,Nat.mul_one];exact List.take_of_length_le (by simp)
  rw [ht]
  refine hk _ _ H.next (.inr (.inr ⟨H.next,0,l.length+m.length,⟨l.map iV++cs,3,true,false⟩,[],by simp,by simp [h0],by simp,rfl,by rw [aV,if_pos rfl],?_⟩)) (.inr rfl) ((Fr.refl _ _).push _) (fun c hc=>?_)
  ·exact (dV.join (f1:=[]) (f2:=[]) (by simp [Rp.int]) (ND _ l) (e3.af (by simp)))
  ·show (c==H.next||H.fz c)=_
   rw [show (c==H.next)=false from by rw [beq_eq_false_iff_ne];omega,Bool.false_or]
theorem gZ.frm {H H1 H2:ad} {P:bw} {x:jj} {c m:Nat} {t:TS} (h:gZ H P x c m H1 t) {b:Nat} (hb:H.next<=b) (hg:b∉x.gM++(x.gD++x.gN)) (o:Fr [b] H1 H2) (hz:∀d,d < H1.next->H2.fz d=H1.fz d):gZ H P x c m H2 t:=by
 have h1:c≠b:=by have:=h.lc;omega
 have h2:m≠b:=by have:=h.lm;omega
 exact ⟨⟨(o.get c h.cq.cl (by simp [h1])).trans h.cq.hc,(o.get m h.cq.ml (by simp [h2])).trans h.cq.hm,h.cq.so.fr o (fun d hd=>by rw [List.mem_singleton] at hd;subst hd;exact hg),h.cq.ne,Nat.lt_of_lt_of_le h.cq.cl o.nx,Nat.lt_of_lt_of_le h.cq.ml o.nx,h.cq.cg,h.cq.mg⟩,
  h.fr.trans o fun d hd=>by rw [List.mem_singleton] at hd;subst hd;exact .inr hb,fun d hd=>(hz d (Nat.lt_of_lt_of_le hd h.fr.nx)).trans (h.fz d hd),h.lc,h.lm,h.zc,h.zm,h.zn⟩
theorem ad4 {P:bw} {x:jj} (hz:AU P) {bd:TB} (jx:QO P x bd) {H:ad} {c m:Nat} {t:TS} (h:CQ H P x c m t) {place n:Int} {t':TS} {j:Nat} (he:Am P.nodes (DH P.defs bd) j 0 place t=some (n,t')):
  ak Tryz.prog 71 #[pV c,iV place] H (yh H P x c m n t'):=by
 refine qz (l:=[_,_]) _ mixed Tryz.func71 aiU [.tmp 4] (show 2<=59 by decide) rfl fun hf=>?_
 simp only [Tryz.f71,Option.getD_some]
 have r0:=gZ.start h hf
 simp only [go_sem]
 obtain ⟨H1,cH⟩:∃H1,H1=(H.push ⟨[.int .i64 place],3,false,false⟩).ai H.fz:=⟨_,rfl⟩
 have r1:gZ H P x c m H1 t:=by rw [cH];exact (r0.push _).told
 have y1:H1.get H.next=some ⟨[.int .i64 place],3,false,false⟩:=by rw [cH,bg,aV,if_pos rfl]
 have n1:H1.next=H.next+1:=by rw [cH];rfl
 rw [<-cH]
 clear cH
 have lc:=r0.lc
 have lm:=r0.lm
 refine RH 288230376151711712 (fun k V H2=>∃sum pl t2,V 5=iV sum/\gZ H P x c m H2 t2/\H.next < H2.next/\H2.get H.next=some ⟨[.int .i64 pl],3,false,false⟩/\Am P.nodes (DH P.defs bd) k sum pl t2=some (n,t')) (n:=j)
  ⟨0,place,t,by simp only [go_sem] <;> rfl,r1,by show H.next < H1.next;omega,y1,he⟩ ?_ (by rfl)
 rintro k V H2 ⟨sum,pl,t2,es,r2,n2,y2,im⟩
 cases k with
 | zero=>rw [Am] at im;cases im
 | succ k=>
 rw [Am] at im
 have il:=r2.cq.hc
 by_cases gi:t2.ok=true
 rotate_left
 ·rw [if_neg (fun e=>gi e.1)] at im
  cases im
  rw [Bool.not_eq_true] at gi
  rw [gi] at il
  simp only [go_sem,il,es]
  exact r2.told.post _
 by_cases Cr:0<=pl
 rotate_left
 ·rw [if_neg (fun e=>Cr e.2.1)] at im
  cases im
  rw [gi] at il
  simp only [go_sem,il,es,y2,Cr]
  exact r2.told.post _
 by_cases te:pl < ((P.nodes.length:Nat):Int)
 rotate_left
 ·rw [if_neg (fun e=>te e.2.2)] at im
  cases im
  rw [gi] at il
  simp only [go_sem,il,es,y2,Cr,te]
  exact r2.told.post _
 rw [if_pos ⟨gi,Cr,te⟩] at im
 obtain ⟨p,rfl⟩:=Int.eq_ofNat_of_zero_le Cr
 have hp:p < P.nodes.length:=by omega
 have hy:P.nodes[p]?=some (P.nodes[p]'hp):=List.getElem?_eq_getElem hp
 have fP:P.nodes.getD p {}=P.nodes[p]'hp:=by rw [List.getD_eq_getElem?_getD,hy];rfl
 simp only [Int.toNat_natCast] at im
 rw [fP] at im
 have cQ:=hz.nd _ (List.getElem_mem hp)
 generalize (P.nodes[p]'hp)=y at hy im cQ
 obtain ⟨b,o,cc,B,gx,hv,Hh,ep,dj,cm,hE⟩:=r2.cq.so.hN.at hy
 simp only [Value.slice.injEq] at hv
 have wH:=hv.1
 obtain ⟨wA,wQ,wB,w1,w2,w3,aX,rfl,q1,q2,q3⟩:=hE
 obtain ⟨b1,j1,rfl⟩:=q1.val
 obtain ⟨b2,j2,rfl⟩:=q2.val
 obtain ⟨b3,j3,hv3⟩:=q3.val
 subst hv3
 have ez:o+p * 20+20<=B.cells.length:=cm
 have aX:(B.cells.drop (o+p * 20)).take 20=aJ y (.slice b1 y.args.length j1) (.slice b2 y.pat.length j2) (.slice b3 y.au.length j3):=aX
 have er:H.fz H2.next=false:=r0.zn _ (by omega)
 have Fv:=il
 rw [gi] at Fv
 simp only [go_sem,Fv,es,y2,Cr,te,wH,hp,Hh,ez,aX,er]
 obtain ⟨H3,dN⟩:∃H3,H3=((H2.ai H.fz).push ⟨aJ y (.slice b1 y.args.length j1) (.slice b2 y.pat.length j2) (.slice b3 y.au.length j3),42,false,false⟩).ai H.fz:=⟨_,rfl⟩
 have r3:gZ H P x c m H3 t2:=by rw [dN];exact (r2.told.push _).told
 have z3:H3.get H2.next=some ⟨aJ y (.slice b1 y.args.length j1) (.slice b2 y.pat.length j2) (.slice b3 y.au.length j3),42,false,false⟩:=by rw [dN,bg,aV];exact if_pos rfl
 have y3:H3.get H.next=some ⟨[.int .i64 ((p:Nat):Int)],3,false,false⟩:=by rw [dN,bg,aV,if_neg (by show¬H.next=H2.next;omega)];exact y2
 have n3:H3.next=H2.next+1:=by rw [dN];rfl
 have o23:ba H2 H3:=by rw [dN];exact ((((Fr.refl [] H2).ai _).push _).ai _).aH
 rw [<-dN]
 clear dN
 have dv:¬H2.next=H3.next:=by omega
 have Nk:∀d∈x.gM++(x.gD++x.gN),d < H.next:=h.so.lt
 have n0:H.next<=H3.next:=by omega
 simp only [go_sem,YV,dv,z3]
 obtain ⟨H4,dB⟩:∃H4,H4=H3.push ⟨[.int .i64 y.a,.int .i64 y.b,.int .i64 y.next],3,false,false⟩:=⟨_,rfl⟩
 have r4:gZ H P x c m H4 t2:=by rw [dB];exact r3.push _
 have l4:H4.get H3.next=some ⟨[y.a,y.b,y.next].map iV,3,false,false⟩:=by rw [dB,aV,if_pos rfl];rfl
 have z4:H4.get H2.next=some ⟨aJ y (.slice b1 y.args.length j1) (.slice b2 y.pat.length j2) (.slice b3 y.au.length j3),42,false,false⟩:=by rw [dB,aV,if_neg dv];exact z3
 have y4:H4.get H.next=some ⟨[.int .i64 ((p:Nat):Int)],3,false,false⟩:=by rw [dB,aV,if_neg (by omega)];exact y3
 have n4:H4.next=H3.next+1:=by rw [dB];rfl
 have QQ:∀d∈w3,d∈x.gM++(x.gD++x.gN):=fun d hd=>by
  have:=dj d (by simp [hd])
  simp [this]
 have q34:Sl dG H4 (.slice b3 y.au.length j3) y.au w3:=q3.af fun d hd=>by
  have:=Nk d (QQ d hd)
  rw [dB,bX (by omega)]
  exact o23.get d (by omega)
 rw [<-dB]
 refine ag.by (ad2 rfl rfl q34 (fun d hd=>by have:=Nk d (QQ d hd);omega) cQ.b) ?_
 rintro vB H5 - ⟨o5,u5,f5,LI,axk⟩
 clear dB
 have r5:=r4.of (ba.of o5 u5)
 have n5:=o5.nx
 have l5:=(o5.get H3.next (by omega)).trans l4
 have z5:=(o5.get H2.next (by omega)).trans z4
 have y5:=(o5.get H.next (by omega)).trans y4
 simp only [go_sem,z4,z5]
 have hXl:H.fz H3.next=false:=r0.zn _ n0
 have kX:H3.next∉x.gM++(x.gD++x.gN):=fun e=>by have:=Nk _ e;omega
 refine ad3 (l:=[y.a,y.b,y.next]) l5 (by simp) hXl LI.sl (by have:=cQ.b;simp;omega) ?_
 intro v6 H6 b6 s6 GB f6 u6
 have r6:=r5.frm n0 kX f6 u6
 have n6:=f6.nx
 have z6:=(f6.get H2.next (by omega) (by simp;omega)).trans z5
 have y6:=(f6.get H.next (by omega) (by simp;omega)).trans y5
 simp only [go_sem]
 refine ag.by (aeO s6 (by have:=cQ.b;simp;omega) fun w=>aeM y6 rfl) ?_
 rintro _ _ - ⟨rfl,rfl⟩
 have Ni:([y.a,y.b,y.next]++y.au.map (·.body)).any (fun to=>decide (0<=to)&&decide (to<=((p:Nat):Int)))=OG y ((p:Nat):Int):=rfl
 rw [Ni]
 by_cases hb:OG y ((p:Nat):Int)=true
 ·rw [if_pos hb] at im
  cases im
  have hc6:=r6.cq.hc
  have fc:=h.fc
  simp only [go_sem,hb,hc6,fc,es]
  exact ((r6.told.set false)).post _
 rw [if_neg hb] at im
 rw [Bool.not_eq_true] at hb
 cases hi:DH P.defs bd y t2 with
 | none=>rw [hi] at im;cases im
 | some r=>
 rw [hi,Option.bind_some] at im
 have q36:Sl dG H6 (.slice b3 y.au.length j3) y.au w3:=q34.af fun d hd=>by
  have:=Nk d (QQ d hd)
  rw [f6.get d (by omega) (by simp;omega)]
  exact o5.get d (by omega)
 simp only [go_sem,hb,z6]
 refine ag.by (akr hz jx r6.told.q ⟨⟨_,_,_,rfl⟩,⟨_,_,_,rfl⟩,q36.af fun _ _=>rfl,QQ,cQ.b⟩ hi) ?_
 rintro _ H7 - p7
 obtain ⟨rfl, -⟩:=id p7
 have r7:=r6.told.call p7
 simp only [go_sem]
 refine ag.by (Zm r7.q) ?_
 rintro _ H8 - p8
 obtain ⟨rfl, -⟩:=id p8
 have r8:=r7.call p8
 simp only [go_sem,es]
 refine ag.by (Zm r8.q) ?_
 rintro _ H9 - p9
 obtain ⟨rfl, -⟩:=id p9
 have r9:=r8.call p9
 have f9:Fr [c,m] (H6.ai H.fz) H9:=(p7.2.1.then p8.2.1).then p9.2.1
 have z9:=(f9.get H2.next (by show H2.next < H6.next;omega) (by simp;omega)).trans z6
 have y9:=(f9.get H.next (by show H.next < H6.next;omega) (by simp;omega)).trans y6
 have W8:H.fz H.next=false:=r0.zn _ (Nat.le_refl _)
 simp only [go_sem,z9,y9,W8]
 exact ⟨k,by omega,_,y.next,_,rfl,(r9.told.own (Nat.le_refl _) (fun e=>Nat.lt_irrefl _ (Nk _ e)) _).told,by have:=r9.fr.nx;have:=f9.nx;have:H6.next<=H9.next:=this;omega,rfl,im⟩
theorem abF {P:bw} {x:jj} (hz:AU P):∀k,QO P x (JS P.nodes P.defs k)
 | 0=>fun h he=>by cases he
 | k+1=>fun h he=>ad4 hz (abF hz k) h he
theorem aks {H:ad} {b:Nat} {l:List Int} {op:Bool} {k:Int} (h:H.get b=some (yO l op)) (hX:H.fz b=false) (hl:l.length<=12):
  ak Tryz.prog 74 #[DJ b l.length,iV 0,iV (l.length:Nat),iV k] H (fun _ H'=>H'.get b=some (yO (C6 l) op)/\we [b] H H'):=by
 refine ZF (Nat.le_refl _) fun hf=>?_
 simp only [Tryz.f74,Option.getD_some]
 simp only [go_sem]
 refine la 21778071482940061661655974875633165532942 (fun _ V H1=>V 1=iV 0/\V 2=iV (l.length:Nat)/\H=H1) (n:=0) ⟨by simp only [go_sem] <;> rfl,by simp only [go_sem] <;> rfl,rfl⟩ ?_ (by rfl)
 rintro _ V H1 ⟨e1,e2,rfl⟩
 have hw:IntKind.wrap .i64 (((l.length:Nat):Int) - 0)=((l.length:Nat):Int):=by rw [Int.sub_zero];exact lF (by omega) (by omega)
 have nf:((l.length:Nat):Int)<=12:=by omega
 simp only [go_sem,e1,e2,hw,nf]
 refine ag.by (akq h hX (by omega)) ?_
 rintro _ H2 - ⟨h2,h3⟩
 simp only [go_sem]
 exact ⟨h2,h3⟩
theorem ahM {H:ad} {b:Nat} {l:List Int} {op:Bool} (h:H.get b=some (yO l op)) (hX:H.fz b=false) (hl:l.length<=12):
  ak Tryz.prog 49 #[DJ b l.length] H (fun _ H'=>H'.get b=some (yO (C6 l) op)/\we [b] H H'):=by
 refine ZD (Nat.le_refl _) fun hf=>?_
 simp only [Tryz.f49,Option.getD_some]
 have hc:∀{x:Int} {H:ad},oR Tryz.prog 3 120 (iV x) H=.ok (.int .u64 (IntKind.wrap .u64 x)) H:=CV (ks:=.i64) (by kernel_rfl) (by kernel_rfl)
 have hw:IntKind.wrap .u64 ((l.length:Nat):Int)=((l.length:Nat):Int):=by
  show (((l.length:Nat):Int) % 18446744073709551616)=_
  omega
 simp only [go_sem,hc,hw]
 refine ag.by (aae (by omega)) ?_
 rintro _ _ - ⟨⟨k,rfl⟩,rfl⟩
 simp only [go_sem]
 refine ag.by (aks h hX hl) ?_
 rintro _ H2 - ⟨h2,h3⟩
 simp only [go_sem]
 exact ⟨h2,h3⟩
theorem aeP {H:ad} {v:Value}:ak Tryz.prog 98 #[v,iV 0,iV (0:Nat)] H (fun _ H'=>H=H'):=by
 refine ZG (Nat.le_refl _) fun hf=>?_
 simp only [Tryz.f98,Option.getD_some]
 simp only [go_sem]
 refine la 562949953420480 (fun _ V H1=>V 6=iV (1:Nat)/\H=H1) (n:=0) ⟨by simp only [go_sem] <;> rfl,rfl⟩ ?_ (by rfl)
 rintro _ V H1 ⟨e6,rfl⟩
 have CO:¬((1:Nat):Int) < ((0:Nat):Int):=by omega
 simp only [go_sem,e6,CO]
theorem ad5 {H:ad}:ak Tryz.prog 49 #[.slice none 0 0] H (fun _ H'=>H=H'):=by
 refine ZD (Nat.le_refl _) fun hf=>?_
 simp only [Tryz.f49,Option.getD_some]
 have hc:∀{x:Int} {H:ad},oR Tryz.prog 3 120 (iV x) H=.ok (.int .u64 (IntKind.wrap .u64 x)) H:=CV (ks:=.i64) (by kernel_rfl) (by kernel_rfl)
 have hw:IntKind.wrap .u64 ((0:Nat):Int)=((0:Nat):Int):=rfl
 simp only [go_sem,hc,hw]
 refine ag.by (aae (n:=0) (by omega)) ?_
 rintro _ _ - ⟨⟨k,rfl⟩,rfl⟩
 simp only [go_sem]
 refine ag.by (K':=fun _ H'=>H=H') ?_ ?_
 ·refine ZF (Nat.le_refl _) fun hf=>?_
  simp only [Tryz.f74,Option.getD_some]
  simp only [go_sem]
  refine la 21778071482940061661655974875633165532942 (fun _ V H1=>V 1=iV 0/\V 2=iV (0:Nat)/\H=H1) (n:=0) ⟨by simp only [go_sem] <;> rfl,by simp only [go_sem] <;> rfl,rfl⟩ ?_ (by rfl)
  rintro _ V H1 ⟨e1,e2,rfl⟩
  have hw:IntKind.wrap .i64 (((0:Nat):Int) - 0)=((0:Nat):Int):=rfl
  have nf:((0:Nat):Int)<=12:=by omega
  simp only [go_sem,e1,e2,hw,nf]
  refine ag.by aeP ?_
  rintro _ _ - rfl
  simp only [go_sem]
 ·rintro _ _ - rfl
  simp only [go_sem]
theorem ad6 {H:ad}:ak Tryz.prog 50 #[.slice none 0 0] H (fun r H'=>r=.slice none 0 0/\H=H'):=by
 refine ZE (Nat.le_refl _) fun hf=>?_
 simp only [Tryz.f50,Option.getD_some]
 have h2:((0:Nat):Int) < 2:=by omega
 simp only [go_sem,h2]
theorem Rq {a b:Int} {r:List Int} (h:¬a=b):ma (a::b::r)=a::ma (b::r):=by rw [ma,if_neg h]
theorem Rr {a:Int} {r:List Int}:ma (a::a::r)=ma (a::r):=by rw [ma,if_pos rfl]
theorem Rs:∀(r:List Int) (a:Int),∃t,ma (a::r)=a::t
 | [],a=>⟨[],rfl⟩
 | b::r,a=>by
  by_cases h:a=b
  ·subst h
   rw [Rr]
   exact Rs r a
  ·rw [Rq h];exact ⟨_,rfl⟩
theorem aag {l:List Int} {i:Nat} (h:i+1 < l.length):l.drop i=l.getD i 0::l.getD (i+1) 0::l.drop (i+2):=by
 rw [AY (by omega),AY h]
theorem ahN {H:ad} {b:Nat} {l:List Int} {op:Bool} (h:H.get b=some (yO l op)) (hX:H.fz b=false) (hl:l.length < 1000000) (rV:l≠[]):
  ak Tryz.prog 50 #[DJ b l.length] H (fun r H'=>u9 H' r (ma l) b/\we [b] H H'):=by
 have oE:∀c∈[b],∀B,H.get c=some B->B.ro=false:=fun c hc B hB=>by
  rw [List.mem_singleton] at hc
  subst hc
  rw [h] at hB;cases hB;rfl
 have slb:∀{H':ad},H'.get b=some (yO l op)->u9 H' (DJ b l.length) l b:=fun hb=>⟨l.length,[],op,rfl,by rw [List.append_nil];exact hb,by simp⟩
 have AS:0 < l.length:=List.length_pos_iff.2 rV
 refine ZE (Nat.le_refl _) fun hf=>?_
 simp only [Tryz.f50,Option.getD_some]
 by_cases h2:((l.length:Nat):Int) < 2
 ·simp only [go_sem,h2]
  have hc:ma l=l:=by
   cases l with
   | nil=>rfl
   | cons a r=>cases r with
    | nil=>rfl
    | cons b r=>simp at h2;omega
  rw [hc]
  exact ⟨slb h,.refl oE⟩
 simp only [go_sem,h2]
 refine la 1152921504606846012 (fun m V H1=>∃k,1<=k/\k+m=l.length/\V 3=iV (k:Nat)/\H=H1/\ma l=l.take (k - 1)++ma (l.drop (k - 1))) (n:=l.length - 1)
  ⟨1,Nat.le_refl _,by omega,by simp only [go_sem] <;> rfl,rfl,rfl⟩ ?_ (by rfl)
 rintro m V H1 ⟨k,zF,xl,e3,rfl,Ch⟩
 obtain ⟨i,rfl⟩:∃i,k=i+1:=⟨k - 1,by omega⟩
 rw [Nat.add_sub_cancel] at Ch
 by_cases hk:i+1 < l.length
 rotate_left
 ·have FX:¬((i+1:Nat):Int) < ((l.length:Nat):Int):=by omega
  simp only [go_sem,e3,FX]
  have de:i < l.length:=by omega
  have hd:l.drop i=[l.getD i 0]:=by rw [AY de,List.drop_of_length_le (by omega)]
  rw [hd] at Ch
  have:ma l=l:=by
   rw [Ch]
   show l.take i++[l.getD i 0]=l
   rw [<-hd,List.take_append_drop]
  rw [this]
  exact ⟨slb h,.refl oE⟩
 have FX:((i+1:Nat):Int) < ((l.length:Nat):Int):=by omega
 have eV:IntKind.wrap .i64 (((i+1:Nat):Int) - 1)=((i:Nat):Int):=by rw [show (((i+1:Nat):Int) - 1)=((i:Nat):Int) by omega];exact lF (by omega) (by omega)
 have mY:IntKind.wrap .i64 (((i+1:Nat):Int)+1)=((i+1+1:Nat):Int):=cZ hk (by omega)
 have c1:=zW hk
 have c0:=zW (o:=l) (i:=i) (by omega)
 have de:i < l.length:=by omega
 rw [aag hk] at Ch
 by_cases he:l.getD (i+1) 0=l.getD i 0
 rotate_left
 ·rw [Rq (fun e=>he e.symm)] at Ch
  simp only [go_sem,e3,FX,hk,de,h,c1,c0,eV,he,mY]
  refine ⟨m - 1,by omega,i+1+1,by omega,by omega,rfl,?_⟩
  rw [Ch,Nat.add_sub_cancel,AY hk]
  rw [show l.take (i+1)=l.take i++[l.getD i 0] by rw [List.take_succ_eq_append_getElem de,List.getD_eq_getElem?_getD,List.getElem?_eq_getElem de];rfl]
  simp
 have eL:iZ Tryz.prog 22=some (3,1):=by kernel_rfl
 have zI:gf Tryz.prog 3=some [iV 0]:=by kernel_rfl
 have dw:l9 Tryz.prog 22 (DJ b l.length) (some (iV ((i+1:Nat):Int))) none none h0=.ok (.slice (some ⟨b,i+1,none⟩) (l.length - (i+1)) (l.length - (i+1))) h0:=by
  have:=Q0 (P:=Tryz.prog) (b:=b) (o:=0) (n:=l.length) (c:=l.length) (lo:=i+1) eL (by omega) (Nat.le_refl _) (.inl hk)
  rw [Nat.zero_add,Nat.mul_one] at this
  exact this
 simp only [go_sem,e3,FX,hk,de,h,c1,c0,eV,he,Option.map_some,Option.map_none,dw]
 obtain ⟨a,ha⟩:∃a,a=l.getD i 0:=⟨_,rfl⟩
 have akt:ma l=l.take (i+1)++(ma (l.drop (i+1))).tail:=by
  rw [he,Rr] at Ch
  rw [Ch,AY hk,he]
  obtain ⟨t,ht⟩:=Rs (l.drop (i+2)) (l.getD i 0)
  rw [show l.drop (i+1+1)=l.drop (i+2) from rfl,ht,show l.take (i+1)=l.take i++[l.getD i 0] by rw [List.take_succ_eq_append_getElem de,List.getD_eq_getElem?_getD,List.getElem?_eq_getElem de];rfl]
  simp
 refine la 18014397972611112 (fun m V2 H2=>∃s k cur,i+1+(s+1)+m=l.length/\i+1<=k/\k<=i+1+s/\V2 3=iV (k:Nat)/\V2 5=iV ((s+1:Nat):Int)/\cur.length=l.length/\H2.get b=some (yO cur op)/\(∀q,i+1+s<=q->q < l.length->cur.getD q 0=l.getD q 0)/\ma l=cur.take k++(ma (l.drop (i+1+s))).tail/\we [b] H H2) (n:=l.length - (i+1) - 1)
  ⟨0,i+1,l,by omega,Nat.le_refl _,Nat.le_refl _,by simp only [go_sem,e3] <;> rfl,by simp only [go_sem] <;> rfl,rfl,h,fun _ _ _=>rfl,akt,.refl oE⟩ ?_ (by rfl)
 rintro m2 V2 H2 ⟨s,k,cur,DU,zF,fX,ek,es,fk,hB,OI,lv,hu⟩
 cases m2 with
 | zero=>
  have uH:¬((s+1:Nat):Int) < ((l.length - (i+1):Nat):Int):=by omega
  have nW:k < l.length:=by omega
  have jT:l9 Tryz.prog 22 (DJ b l.length) (some (iV ((k:Nat):Int))) none none h0=.ok (.slice (some ⟨b,k,none⟩) (l.length - k) (l.length - k)) h0:=by
   have:=Q0 (P:=Tryz.prog) (b:=b) (o:=0) (n:=l.length) (c:=l.length) (lo:=k) eL (by omega) (Nat.le_refl _) (.inl nW)
   rw [Nat.zero_add,Nat.mul_one] at this
   exact this
  have sd:l9 Tryz.prog 22 (DJ b l.length) none (some (iV ((k:Nat):Int))) none h0=.ok (.slice (some ⟨b,0,none⟩) k l.length) h0:=NH eL (by omega)
  have nz:∀n,ff [iV 0] n=(List.replicate n 0).map iV:=Po
  have Vo:Bf Tryz.prog 22 (.slice (some ⟨b,k,none⟩) (l.length - k) (l.length - k)) H2=.ok (.tuple #[]) (H2.ah b ⟨cW (cur.map iV) k (ff [iV 0] (l.length - k)),3,op,false⟩):=
   adN eL zI (by omega) (by decide) hB (by show k+(l.length - k) * 1<=(cur.map iV).length;rw [List.length_map,fk];omega) (by rw [nz];exact J5 _) rfl
  simp only [go_sem,es,uH,ek,Option.map_some,Option.map_none,jT,Vo,hX,sd]
  have hd:l.drop (i+1+s)=[l.getD (i+1+s) 0]:=by rw [AY (by omega),List.drop_of_length_le (by omega)]
  rw [hd] at lv
  have lv:ma l=cur.take k:=by rw [lv];simp [ma]
  have hlen:(cur.take k).length=k:=by rw [List.length_take];omega
  have yY:cW (cur.map iV) k (ff [iV 0] (l.length - k))=(cur.take k).map iV++(ff [iV 0] (l.length - k)++(cur.map iV).drop (k+(ff [iV 0] (l.length - k)).length)):=by unfold cW;rw [List.map_take]
  refine ⟨⟨l.length,ff [iV 0] (l.length - k)++(cur.map iV).drop (k+(ff [iV 0] (l.length - k)).length),op,by rw [lv,hlen],by rw [az,if_pos rfl,yY,lv],?_⟩,hu.ah (by simp) rfl⟩
  rw [lv,nz]
  simp;omega
 | succ m2=>
  have dd:((s+1:Nat):Int) < ((l.length - (i+1):Nat):Int):=by omega
  have abG:s+1 < l.length - (i+1):=by omega
  have me:s < l.length - (i+1):=by omega
  have cX:IntKind.wrap .i64 (((s+1:Nat):Int) - 1)=((s:Nat):Int):=by rw [show (((s+1:Nat):Int) - 1)=((s:Nat):Int) by omega];exact lF (by omega) (by omega)
  have GQ:IntKind.wrap .i64 (((k:Nat):Int)+1)=((k+1:Nat):Int):=cZ (n:=l.length) (by omega) (by omega)
  have abH:IntKind.wrap .i64 (((s+1:Nat):Int)+1)=((s+1+1:Nat):Int):=cZ (n:=l.length) (by omega) (by omega)
  have d1:=zW (o:=cur) (i:=i+1+(s+1)) (by omega)
  have d0:=zW (o:=cur) (i:=i+1+s) (by omega)
  rw [OI _ (by omega) (by omega)] at d1
  rw [OI _ (by omega) (by omega)] at d0
  have nW:k < l.length:=by omega
  have hkc:k < (cur.map iV).length:=by rw [List.length_map];omega
  have anz:k+1<=(cur.map iV).length:=hkc
  rw [aag (i:=i+1+s) (by omega)] at lv
  by_cases hq:l.getD (i+1+(s+1)) 0=l.getD (i+1+s) 0
  ·simp only [go_sem,es,dd,abG,me,hB,d1,d0,cX,hq,abH]
   refine ⟨m2,by omega,s+1,k,cur,by omega,zF,by omega,ek,rfl,fk,rfl,fun q h1 h2=>OI q (by omega) h2,?_,hu⟩
   rw [lv,show l.getD (i+1+s+1) 0=l.getD (i+1+s) 0 from hq,Rr,AY (i:=i+1+(s+1)) (by omega),hq]
   rfl
  ·simp only [go_sem,es,dd,abG,me,hB,d1,d0,cX,hq,ek,nW,hkc,anz,hX,GQ,abH]
   refine ⟨m2,by omega,s+1,k+1,cur.set k (l.getD (i+1+(s+1)) 0),by omega,by omega,by omega,rfl,rfl,by rw [List.length_set];exact fk,by rw [Ro],fun q h1 h2=>?_,?_,hu.ah (by simp) rfl⟩
   ·rw [adZ (by omega),if_neg (by omega)];exact OI q (by omega) h2
   ·rw [show l.getD (i+1+s+1) 0=l.getD (i+1+(s+1)) 0 from rfl] at lv
    rw [lv,Rq (fun e=>hq e.symm),List.tail_cons,AY (i:=i+1+(s+1)) (by omega)]
    obtain ⟨t,ht⟩:=Rs (l.drop (i+1+(s+1)+1)) (l.getD (i+1+(s+1)) 0)
    rw [show l.drop (i+1+s+2)=l.drop (i+1+(s+1)+1) from rfl,ht,List.tail_cons]
    rw [List.take_succ_eq_append_getElem (by rw [List.length_set];omega),List.take_set,List.set_eq_of_length_le (by rw [List.length_take];omega)]
    simp
theorem Sf {H:ad}:∀{cs:List Value} {l:List Int} {f:List Nat},dV .int H cs l f->cs.length=l.length->cs=l.map iV
 | cs,[],f,_,h=>by rw [List.length_eq_zero_iff.1 h];rfl
 | cs,x::l,f,h,hl=>by
  obtain ⟨c1,c2,f1,f2,rfl,rfl,h1,h2⟩:=h
  rw [(Rp.ZA.1 h1).1] at hl ⊢
  simp only [List.length_append,List.length_cons,List.length_nil] at hl
  rw [List.singleton_append,List.map_cons,Sf h2 (by omega)]
theorem u9.sl {H:ad} {v:Value} {l:List Int} {b:Nat} (h:u9 H v l b):∃f,Sl .int H v l f/\∀c∈f,c=b:=by
 obtain ⟨c,ds,op,rfl,h2,h3⟩:=h
 by_cases hl:l=[]
 ·subst hl
  exact ⟨[],.inr (.inl ⟨_,c,rfl,rfl,rfl⟩),by simp⟩
 ·rw [List.length_append,List.length_map] at h3
  exact ⟨[b],.inr (.inr ⟨b,0,c,_,[],rfl,hl,by omega,rfl,h2,(ND H l).more ds⟩),by simp⟩
def TD (n:Nat) (H:ad) (v:Value) (l:List Int):Prop:=(v=.slice none 0 0/\l=[])∨∃b,n<=b/\b < H.next/\u9 H v l b
theorem TD.sl {n:Nat} {H:ad} {v:Value} {l:List Int} (h:TD n H v l):∃f,Sl .int H v l f/\∀c∈f,n<=c/\c < H.next:=by
 rcases h with ⟨rfl,rfl⟩ | ⟨b,h1,h2,h3⟩
 ·exact ⟨[],.inl ⟨rfl,rfl,rfl⟩,by simp⟩
 ·obtain ⟨f,h4,h5⟩:=h3.sl
  exact ⟨f,h4,fun c hc=>by rw [h5 c hc];exact ⟨h1,h2⟩⟩
theorem TD.ai {n:Nat} {H:ad} {v:Value} {l:List Int} {z:Nat->Bool} (h:TD n H v l):TD n (H.ai z) v l:=by
 rcases h with h | ⟨b,h1,h2,h3⟩
 ·exact .inl h
 ·exact .inr ⟨b,h1,h2,h3.af rfl⟩
theorem YW {H:ad} {P:bw} {x:jj} (hp:sk H P x) (hz:AU P) {fuel:Nat} (wg:fuel<=100000) {d:Int} {cs:List Int} (he:C7 fuel P d=some cs):
  ak Tryz.prog 25 #[.agg (x.c P).toArray,iV d] H (fun v H'=>ba H H'/\(∀c,H'.fz c=H.fz c)/\TD H.next H' v cs):=by
 refine ak.told ?_
 refine qz (l:=[_,_]) _ mixed Tryz.func25 ain [.tmp 4] (show 2<=54 by decide) rfl fun hf=>?_
 simp only [Tryz.f25,Option.getD_some]
 have hX:∀{c:Nat},H.next<=c->H.fz c=false:=fun h=>hf.fresh h
 simp only [go_sem]
 obtain ⟨H1,cH⟩:∃H1,H1=(H.push ⟨x.c P,28,false,false⟩).ai H.fz:=⟨_,rfl⟩
 have o1:OF H H1:=by rw [cH];exact ⟨(((Fr.refl [] H).push _).ai _).aH,fun _ _=>rfl⟩
 have y1:H1.get H.next=some ⟨x.c P,28,false,false⟩:=by rw [cH,bg,aV,if_pos rfl]
 have n1:H1.next=H.next+1:=by rw [cH];rfl
 rw [<-cH]
 clear cH
 unfold C7 at he
 by_cases h1:d < 0
 ·rw [if_pos (.inl h1)] at he
  cases he
  simp only [go_sem,h1]
  exact ⟨((o1.aH.fr []).ai _).aH,fun _=>trivial,.inl ⟨rfl,rfl⟩⟩
 by_cases h2:((P.defs.length:Nat):Int)<=d
 ·rw [if_pos (.inr h2)] at he
  cases he
  simp only [go_sem,h1,y1,h2]
  exact ⟨((o1.aH.fr []).ai _).aH,fun _=>trivial,.inl ⟨rfl,rfl⟩⟩
 rw [if_neg (fun e=>e.elim h1 h2)] at he
 cases ho:Oh fuel P.nodes P.defs with
 | none=>rw [ho] at he;cases he
 | some own=>
 rw [ho,Option.bind_some] at he
 split at he
 case isFalse=>cases he
 rename_i nf
 cases he
 simp only [go_sem,h1,y1,h2]
 have te:sk (H1.ai H.fz) P x:=hp.af (((o1.aH.fr []).ai _).aH)
 refine ag.by (ak.fzd (aeJ te.hN (fun c hc=>te.lt c (by simp [hc])) te.hD (fun c hc=>te.lt c (by simp [hc])) hz.n hz.d (fun n hn=>(hz.nd n hn).b) wg ho) fun v H' fz ⟨h1,h2,b,h3,h4,h5,h6⟩=>⟨((h1.fr []).ai _).aH,h2,b,h3,h4,h5,h6⟩) ?_
 rintro _ H2 - ⟨⟨o2,oD,bo,rfl,b0,b1,b2⟩,u2⟩
 have o2':ba H1 H2:=⟨o2.nx,o2.get,o2.ro⟩
 have oH:OF H H2:=⟨o1.aH.trans o2',fun c _=>u2 c⟩
 have n2:H1.next<=H2.next:=o2.nx
 have b0':H1.next<=bo:=b0
 have y2:=(o2'.get H.next (by omega)).trans y1
 have hN2:=(hp.af oH.aH).hN
 have gh:=hp.lt
 obtain ⟨R,hR⟩:∃R,R=BX own d P.nodes 0:=⟨_,rfl⟩
 rw [<-hR] at nf
 rw [<-hR]
 simp only [go_sem,y2]
 refine qH 1125899898454432 P.nodes.length (fun i V H3=>V 23=iV (i:Nat)/\OF H H3/\ba H2 H3/\∃acc fa,Ow .int 3 H3 (V 5) acc fa/\B9 H2.next H3 fa/\acc.length<=i/\R=acc++BX own d (P.nodes.drop i) i)
  ⟨by simp only [go_sem] <;> rfl,oH.told,((Fr.refl [] H2).ai _).aH,[],[],by simp only [go_sem];exact Ow.nil _ _ _,⟨List.nodup_nil,by simp,by simp⟩,Nat.le_refl _,hR⟩ ?_ ?_ (by rfl)
 ·rintro i V H3 hi ⟨ei,JT,o3,acc,fa,jC,fG,IY,xP⟩
  have hy:P.nodes[i]?=some (P.nodes[i]'hi):=List.getElem?_eq_getElem hi
  have Nh:P.nodes.drop i=(P.nodes[i]'hi)::P.nodes.drop (i+1):=(List.getElem_cons_drop hi).symm
  generalize (P.nodes[i]'hi)=y at hy Nh
  rw [Nh,BX] at xP
  have n3:=o3.nx
  obtain ⟨b,o,cc,B,gx,hv,Hh,ep,dj,cm,hE⟩:=((hp.af JT.aH).hN).at hy
  simp only [Value.slice.injEq] at hv
  have wH:=hv.1
  obtain ⟨wA,wQ,wB,w1,w2,w3,aX,rfl,q1,q2,q3⟩:=hE
  obtain ⟨c1,j1,rfl⟩:=q1.val
  obtain ⟨c2,j2,rfl⟩:=q2.val
  obtain ⟨c3,j3,rfl⟩:=q3.val
  have ez:o+i * 20+20<=B.cells.length:=cm
  have aX:(B.cells.drop (o+i * 20)).take 20=aJ y (.slice c1 y.args.length j1) (.slice c2 y.pat.length j2) (.slice c3 y.au.length j3):=aX
  have W1:H.fz H3.next=false:=hX (by have:=JT.aH.nx;omega)
  have hzn:=hz.n
  have ct:IntKind.wrap .i64 (((i:Nat):Int)+1)=((i+1:Nat):Int):=cZ hi (by omega)
  have b3:=(o3.get bo b1).trans b2
  have de:i < own.length:=by omega
  have uK:=zW de
  obtain ⟨H4,dB⟩:∃H4,H4=((H3.ai H.fz).push ⟨aJ y (.slice c1 y.args.length j1) (.slice c2 y.pat.length j2) (.slice c3 y.au.length j3),42,false,false⟩).ai H.fz:=⟨_,rfl⟩
  have o4:ba H3 H4:=by rw [dB];exact ((((Fr.refl [] H3).ai _).push _).ai _).aH
  have oH4:OF H H4:=by rw [dB];exact (JT.told.push _).told
  have z4:H4.get H3.next=some ⟨aJ y (.slice c1 y.args.length j1) (.slice c2 y.pat.length j2) (.slice c3 y.au.length j3),42,false,false⟩:=by rw [dB,bg,aV];exact if_pos rfl
  have n4:H4.next=H3.next+1:=by rw [dB];rfl
  have b4:=(o4.get bo (by omega)).trans b3
  have FR:Ow .int 3 H4 (V 5) acc fa:=jC.af fun c hc=>o4.get c (fG.hi c hc)
  have om:B9 H2.next H4 fa:=⟨fG.nd,fG.lo,fun y hy=>Nat.lt_of_lt_of_le (fG.hi y hy) o4.nx⟩
  have qc:¬bo=H3.next:=by omega
  simp only [go_sem,ei,hi,wH,Hh,ez,aX,W1,qc,b3,uK]
  rw [<-dB]
  clear dB
  by_cases k1:own.getD i 0=d
  rotate_left
  ·rw [if_neg (fun e=>k1 e.1)] at xP
   simp only [go_sem,hi,b4,uK,k1,ei,ct]
   exact ⟨oH4.told,(((o3.trans o4).fr []).ai _).aH,acc,fa,FR.af fun _ _=>rfl,⟨om.nd,om.lo,om.hi⟩,by omega,xP⟩
  have tail:∀{H5:ad},(y.kind=10∨y.kind=13)->True:=fun _=>trivial
  by_cases k2:y.kind=10
  ·rw [if_pos ⟨k1,.inl k2⟩] at xP
   simp only [go_sem,hi,b4,uK,k1,z4,k2,ei,ct,HT]
   obtain ⟨H5,jK⟩:∃H5,H5=(H4.ai H.fz).push ⟨[.int .i64 y.f],3,false,false⟩:=⟨_,rfl⟩
   have g5:H5.get H4.next=some ⟨[.int .i64 y.f],3,false,false⟩:=by rw [jK,aV];exact if_pos rfl
   have n5:H5.next=H4.next+1:=by rw [jK];rfl
   have o5:ba H4 H5:=by rw [jK];exact (((Fr.refl [] H4).ai _).push _).aH
   have LI:=FR.af (H':=H5) fun c hc=>o5.get c (om.hi c hc)
   rw [<-jK]
   clear jK
   refine HA (Hb:=H2) (r:=.int) (x:=y.f) (g:=[]) rI LI ((o3.trans o4).trans o5) ⟨om.nd,om.lo,fun y hy=>Nat.lt_of_lt_of_le (om.hi y hy) o5.nx⟩ ⟨List.nodup_nil,by simp,by simp⟩ (by simp) (fun y hy=>hX (by have:=om.lo y hy;have:=oH.aH.nx;omega)) g5 ⟨rfl,rfl⟩ rfl (by omega) ?_
   intro v' H6 f' Ui Fc iR UT M4 o6
   simp only [go_sem,ei,ct]
   exact ⟨⟨((oH.aH.trans o6).fr [] |>.ai _).aH,fun _ _=>rfl⟩,((o6.fr []).ai _).aH,acc++[y.f],f',Ui.af fun _ _=>rfl,⟨Fc.nd,Fc.lo,Fc.hi⟩,by rw [List.length_append,List.length_singleton];omega,by rw [xP];simp⟩
  by_cases k3:y.kind=13
  ·rw [if_pos ⟨k1,.inr k3⟩] at xP
   simp only [go_sem,hi,b4,uK,k1,z4,k2,k3,ei,ct,HT]
   obtain ⟨H5,jK⟩:∃H5,H5=(H4.ai H.fz).push ⟨[.int .i64 y.f],3,false,false⟩:=⟨_,rfl⟩
   have g5:H5.get H4.next=some ⟨[.int .i64 y.f],3,false,false⟩:=by rw [jK,aV];exact if_pos rfl
   have n5:H5.next=H4.next+1:=by rw [jK];rfl
   have o5:ba H4 H5:=by rw [jK];exact (((Fr.refl [] H4).ai _).push _).aH
   have LI:=FR.af (H':=H5) fun c hc=>o5.get c (om.hi c hc)
   rw [<-jK]
   clear jK
   refine HA (Hb:=H2) (r:=.int) (x:=y.f) (g:=[]) rI LI ((o3.trans o4).trans o5) ⟨om.nd,om.lo,fun y hy=>Nat.lt_of_lt_of_le (om.hi y hy) o5.nx⟩ ⟨List.nodup_nil,by simp,by simp⟩ (by simp) (fun y hy=>hX (by have:=om.lo y hy;have:=oH.aH.nx;omega)) g5 ⟨rfl,rfl⟩ rfl (by omega) ?_
   intro v' H6 f' Ui Fc iR UT M4 o6
   simp only [go_sem,ei,ct]
   exact ⟨⟨((oH.aH.trans o6).fr [] |>.ai _).aH,fun _ _=>rfl⟩,((o6.fr []).ai _).aH,acc++[y.f],f',Ui.af fun _ _=>rfl,⟨Fc.nd,Fc.lo,Fc.hi⟩,by rw [List.length_append,List.length_singleton];omega,by rw [xP];simp⟩
  ·rw [if_neg (fun e=>e.2.elim k2 k3)] at xP
   simp only [go_sem,hi,b4,uK,k1,z4,k2,k3,ei,ct]
   exact ⟨oH4.told,(((o3.trans o4).fr []).ai _).aH,acc,fa,FR.af fun _ _=>rfl,⟨om.nd,om.lo,om.hi⟩,by omega,xP⟩
 ·rintro V H3 ⟨ei,JT,o3,acc,fa,jC,fG,IY,xP⟩
  rw [List.drop_length,BX,List.append_nil] at xP
  subst xP
  simp only [go_sem,ei]
  have n3:=o3.nx
  have nH:=oH.aH.nx
  rcases jC with ⟨e5,rfl,rfl⟩ | ⟨b,cs,g,e5,dv,rfl,hB,fk,hA⟩
  ·rw [e5]
   refine ag.by ad5 ?_
   rintro _ _ - rfl
   simp only [go_sem,e5]
   refine ag.by ad6 ?_
   rintro _ _ - ⟨rfl,rfl⟩
   simp only [go_sem]
   exact ⟨((JT.aH.fr []).ai _).aH,fun _=>trivial,.inl ⟨rfl,rfl⟩⟩
  ·have hg:=Oe hA
   subst hg
   have aX:=Sf hA (by rw [fk];exact Nat.mul_one _)
   subst aX
   have ft:H2.next<=b:=fG.lo b (by simp)
   have fB:b < H3.next:=fG.hi b (by simp)
   have fx:H.fz b=false:=hX (by omega)
   rw [e5]
   refine ag.by (ahM (H:=H3.ai H.fz) (op:=true) hB fx nf) ?_
   rintro v6 H6 - ⟨h6,u6⟩
   simp only [go_sem,e5]
   have de:(C6 R).length=R.length:=XT R
   rw [<-de]
   refine ag.by (ahN (H:=H6.ai H.fz) (op:=true) h6 fx (by rw [de];omega) (fun e=>dv (List.length_eq_zero_iff.1 (by rw [<-de,e];rfl)))) ?_
   rintro v7 H7 - ⟨h7,u7⟩
   simp only [go_sem]
   have ot:∀y∈[b],H.next<=y:=fun y hy=>by rw [List.mem_singleton] at hy;subst hy;omega
   have o6:ba H H6:=(((JT.aH.fr []).ai H.fz).aH).sL u6 ot
   have o7:ba H H7:=(((o6.fr []).ai H.fz).aH).sL u7 ot
   have nn:H7.next=H3.next:=by rw [u7.nx];show H6.next=_;rw [u6.nx];rfl
   exact ⟨((o7.fr []).ai _).aH,fun _=>trivial,.inr ⟨b,by omega,by show b < H7.next;omega,h7.af rfl⟩⟩
def KZ (d:eo):Bool:=decide (d.name=[109,97,105,110])&&decide (d.params.length=0)
theorem aeQ {H:ad} {d:eo} {a1 a2 a3:Option Addr} {k1 k2 k3 n2 n3:Nat}:ak Tryz.prog 52 #[.agg (dP d (.slice a1 d.params.length k1) (.slice a2 n2 k2) (.slice a3 n3 k3)).toArray] H (fun r H'=>r=.bool (KZ d)/\ba H H'/\∀c,H'.fz c=H.fz c):=by
 refine ak.told ?_
 refine aiG (Nat.le_refl _) fun hf=>?_
 simp only [Tryz.f52,Option.getD_some]
 have o:ba H ((H.push ⟨dP d (.slice a1 d.params.length k1) (.slice a2 n2 k2) (.slice a3 n3 k3),38,false,false⟩).ai H.fz):=(((Fr.refl [] H).push _).ai _).aH
 unfold KZ
 by_cases h1:d.name=[109,97,105,110]
 ·by_cases h2:d.params.length=0
  ·have vU:(((d.params.length:Nat):Int)=0):=by omega
   simp only [go_sem,h1,vU,h2,decide_true,Bool.true_and]
   exact ⟨rfl,by have:=o;rw [h2] at this;exact this,fun _=>trivial⟩
  ·have vU:¬(((d.params.length:Nat):Int)=0):=by omega
   simp only [go_sem,h1,vU,h2,decide_true,decide_false,Bool.true_and]
   exact ⟨o,fun _=>trivial⟩
 ·simp only [go_sem,h1,decide_false,Bool.false_and]
  exact ⟨o,fun _=>trivial⟩
theorem aeR {H:ad} {vD:Value} {l:List eo} {g:List Nat} (h:Sl jq H vD l g) (hl:l.length < 1000000) (hg:∀b∈g,b < H.next):
  ak Tryz.prog 51 #[vD,.func (.func 52) #[] #[]] H (fun r H'=>r=iV (pJ l)/\ba H H'/\∀c,H'.fz c=H.fz c):=by
 refine ak.told ?_
 refine aiE (Nat.le_refl _) fun hf=>?_
 simp only [Tryz.f51,Option.getD_some]
 obtain ⟨a,c,rfl⟩:=h.val
 simp only [go_sem]
 refine iw 524080 l.length (fun i V H2=>V 8=iV (i:Nat)/\ba H H2/\pJ l=E3 i (l.drop i)) ⟨by simp only [go_sem] <;> rfl,ba.refl _,rfl⟩ ?_ ?_ (by rfl)
 ·rintro i V H2 hi ⟨ei,ho,gY⟩
  have hx:l[i]?=some (l[i]'hi):=List.getElem?_eq_getElem hi
  have cE:l.drop i=(l[i]'hi)::l.drop (i+1):=(List.getElem_cons_drop hi).symm
  generalize (l[i]'hi)=x at hx cE
  obtain ⟨b,o,c',B,gx,hv,hB,ep,dj,cm,hE⟩:=(h.af (H':=H2) fun b hb=>ho.get b (hg b hb)).at hx
  cases hv
  obtain ⟨v5,v6,VP,f5,f6,f7,aX,rfl,fC,wz,uT⟩:=hE
  obtain ⟨a5,k5,rfl⟩:=fC.val
  obtain ⟨a6,k6,rfl⟩:=wz.val
  obtain ⟨a7,k7,rfl⟩:=uT.val
  have ez:o+i * 9+9<=B.cells.length:=cm
  have aX:(B.cells.drop (o+i * 9)).take 9=dP x (.slice a5 x.params.length k5) (.slice a6 x.pat.length k6) (.slice a7 x.on.length k7):=aX
  have ct:IntKind.wrap .i64 (((i:Nat):Int)+1)=((i+1:Nat):Int):=cZ hi (by omega)
  rw [cE,E3] at gY
  simp only [go_sem,ei,hi,hB,ez,aX]
  refine ag.by aeQ ?_
  rintro _ H3 - ⟨rfl,o3,z3⟩
  cases hb:KZ x with
  | true=>
   have:x.name=[109,97,105,110]/\x.params.length=0:=by unfold KZ at hb;simpa using hb
   rw [if_pos this] at gY
   simp only [go_sem,ei]
   rw [gY]
   exact ⟨rfl,(((ho.trans o3).fr []).ai _).aH,fun _=>trivial⟩
  | false=>
   have:¬(x.name=[109,97,105,110]/\x.params.length=0):=fun e=>by unfold KZ at hb;rw [e.1,e.2] at hb;simp at hb
   rw [if_neg this] at gY
   simp only [go_sem,ei,ct]
   exact ⟨ho.trans o3,gY⟩
 ·rintro V H2 ⟨ei,ho,gY⟩
  rw [List.drop_length,E3] at gY
  rw [gY]
  simp only [go_sem,ei]
  exact ⟨((ho.fr []).ai _).aH,fun _=>trivial⟩
theorem YX {H:ad} {P:bw} {x:jj} (hp:sk H P x) (hz:AU P):ak Tryz.prog 26 #[.agg (x.c P).toArray] H (fun r H'=>r=iV (pJ P.defs)/\ba H H'/\∀c,H'.fz c=H.fz c):=by
 refine ak.told ?_
 refine qz (l:=[_]) _ mixed Tryz.func26 aio [.tmp 2] (show 1<=6 by decide) rfl fun hf=>?_
 simp only [Tryz.f26,Option.getD_some]
 simp only [go_sem]
 have o1:ba H ((H.push ⟨x.c P,28,false,false⟩).ai H.fz):=(((Fr.refl [] H).push _).ai _).aH
 have te:=hp.af o1
 refine ag.by (aeR (H:=(H.push ⟨x.c P,28,false,false⟩).ai H.fz) te.hD hz.d (fun c hc=>te.lt c (by simp [hc]))) ?_
 rintro _ H2 - ⟨rfl,o2,z2⟩
 simp only [go_sem]
 exact ⟨((o1.trans o2).fr [] |>.ai _).aH,fun _=>trivial⟩
theorem XU:∀l:List Int,(ma l).length<=l.length
 | []=>Nat.le_refl _
 | [x]=>Nat.le_refl _
 | x::y::l=>by
  have:=XU (y::l)
  rw [ma]
  split
  ·simp only [List.length_cons] at this ⊢;omega
  ·simp only [List.length_cons] at this ⊢;omega
theorem Xy {fuel:Nat} {P:bw} {d:Int} {cs:List Int} (h:C7 fuel P d=some cs):cs.length<=12:=by
 unfold C7 at h
 split at h
 ·cases h;decide
 ·cases ho:Oh fuel P.nodes P.defs with
  | none=>rw [ho] at h;cases h
  | some own=>
   rw [ho,Option.bind_some] at h
   split at h
   ·rename_i nf
    cases h
    have h1:=XU (C6 (BX own d P.nodes 0))
    rw [XT] at h1
    omega
   ·cases h
theorem abI:∀n,ff [.bool false] n=(List.replicate n false).map Value.bool
 | 0=>rfl
 | n+1=>by
  rw [List.replicate_succ,List.map_cons,<-abI n];rfl
theorem Sg {o:List Bool} {i:Nat} (h:i < o.length):(o.map Value.bool)[i]?=some (.bool (o.getD i false)):=by
 rw [List.getElem?_map,List.getD_eq_getElem?_getD,List.getElem?_eq_getElem h];rfl
theorem ahO {X:Nat->Bool} {Hb H:ad} {v x:Value} {l m:List Int} {g:List Nat} {K:Value->ad->Prop} {tg:Tag K} (h:TD Hb.next H v l) (ho:ba Hb H) (hX:∀b,Hb.next<=b->X b=false) (hs:Sl .int H x m g) (hn:l.length+m.length < 1000000000)
  (hk:∀v' H',TD Hb.next H' v' (l++m)->ba Hb H'->K v' H'):ew Tryz.prog X H (iS Tryz.prog 22 v x H) K tg:=by
 obtain ⟨cs,g2,e1,e2,e3,_⟩:=hs.src (size:=1) rfl
 have:=Oe e3;subst this
 have e2':cs.length=m.length:=by rw [e2];exact Nat.mul_one _
 have aX:=Sf e3 e2'
 subst aX
 have nb:=ho.nx
 by_cases hm:m=[]
 ·subst hm
  rw [List.append_nil] at hk
  rcases h with ⟨rfl,rfl⟩ | ⟨b,h1,h2,c,ds,op,rfl,hB,hc⟩
  ·rw [Yg rI e1,adK]
   exact hk _ _ (.inl ⟨rfl,rfl⟩) ho
  ·rw [Ku (n:=0) (new:=[]) (sz:=1) (o:=0) (sl:=l.length) (sc:=c) rI e1 rfl hB rfl (by show 0+c * 1<=_;rw [hc];omega) (by decide) (by rw [<-hc];simp) rfl,ED (hX b h1)]
   have eJ:cW (l.map iV++ds) (0+l.length * 1) []=l.map iV++ds:=by unfold cW;simp
   simp only
   rw [eJ]
   exact hk _ _ (.inr ⟨b,h1,h2,c,ds,op,rfl,by rw [az,if_pos rfl],hc⟩) (ho.ah h1 _)
 ·have mJ:0 < m.length:=List.length_pos_iff.2 hm
  rcases h with ⟨rfl,rfl⟩ | ⟨b,h1,h2,c,ds,op,rfl,hB,hc⟩
  ·rw [HL rI e1 (by simp at hn;omega) mJ,wK]
   exact hk _ _ (.inr ⟨H.next,nb,Nat.lt_succ_self _,m.length,[],true,by simp,by rw [aV,if_pos rfl,List.append_nil];rfl,by simp⟩) (ho.trans (ba.push _ _))
  ·have hlc:l.length<=c:=by rw [<-hc];simp
   have Fj:nK 1 x H=some (m.length,m.map iV):=e1
   rw [YT Fj (by simp) hB hc hlc (by omega) mJ (J5 m)]
   have iF:(l.map iV++ds).take l.length=l.map iV:=by rw [List.take_append_of_le_length (by simp),List.take_of_length_le (by simp)]
   by_cases lv:l.length+m.length<=c
   ·rw [if_pos lv,ED (hX b h1)]
    have df:m.length<=ds.length:=by rw [List.length_append,List.length_map] at hc;omega
    refine hk _ _ (.inr ⟨b,h1,h2,c,ds.drop m.length,op,by rw [List.length_append],by rw [az,if_pos rfl];congr 2;unfold cW;rw [iF];simp [<-List.drop_drop],?_⟩) (ho.ah h1 _)
    rw [<-hc];simp;omega
   ·rw [if_neg lv,iF]
    cases op with
    | true=>
     rw [if_pos rfl,Kb (hX b h1)]
     exact hk _ _ (.inr ⟨H.next,nb,Nat.lt_succ_self _,_,[],true,by rw [List.length_append],by rw [ve,if_pos rfl];simp,by simp⟩) (ho.grow h1 _)
    | false=>
     rw [if_neg (by decide),wK]
     exact hk _ _ (.inr ⟨H.next,nb,Nat.lt_succ_self _,_,[],true,by rw [List.length_append],by rw [aV,if_pos rfl];simp,by simp⟩) (ho.trans (ba.push _ _))
theorem YY {H:ad} {P:bw} {x:jj} (hp:sk H P x) (hz:AU P) {fuel:Nat} (wg:fuel<=100000) {d:Int} {R:List Bool} (he:If fuel P d=some R):
  ak Tryz.prog 46 #[.agg (x.c P).toArray,iV d] H (fun v H'=>ba H H'/\(∀c,H'.fz c=H.fz c)/\R.length=P.defs.length/\∃b,v=.slice (some ⟨b,0,none⟩) R.length R.length/\H.next<=b/\b < H'.next/\H'.get b=some ⟨R.map Value.bool,4,false,false⟩):=by
 refine ak.told ?_
 refine qz (l:=[_,_]) _ mixed Tryz.func46 aiy [.tmp 4] (show 2<=52 by decide) rfl fun hf=>?_
 simp only [Tryz.f46,Option.getD_some]
 have hX:∀{c:Nat},H.next<=c->H.fz c=false:=fun h=>hf.fresh h
 unfold If at he
 cases j5:C7 fuel P d with
 | none=>rw [j5] at he;cases he
 | some wF=>
 rw [j5,Option.bind_some] at he
 have nv:=hz.d
 have hmk:∀{H:ad},CU Tryz.prog 60 (iV (P.defs.length:Nat)) (iV (P.defs.length:Nat)) H=.ok (.slice (some ⟨H.next,0,none⟩) P.defs.length P.defs.length) (H.push ⟨(List.replicate P.defs.length false).map Value.bool,4,false,false⟩):=fun {H}=>by
  rw [<-abI]
  exact RD aif (by kernel_rfl:gf Tryz.prog 4=some [.bool false]) (by decide) (Nat.le_refl _) (by omega) (by omega)
 simp only [go_sem,hmk]
 obtain ⟨H1,cH⟩:∃H1,H1=(((H.push ⟨x.c P,28,false,false⟩).ai H.fz).push ⟨(List.replicate P.defs.length false).map Value.bool,4,false,false⟩).ai H.fz:=⟨_,rfl⟩
 have o1:OF H H1:=by rw [cH];exact ⟨((((Fr.refl [] H).push _ |>.ai _).push _).ai _).aH,fun _ _=>rfl⟩
 have y1:H1.get H.next=some ⟨x.c P,28,false,false⟩:=by rw [cH,bg,aV,if_neg (by show¬H.next=H.next+1;omega),bg,aV,if_pos rfl]
 have n1:H1.next=H.next+1+1:=by rw [cH];rfl
 have z1:∀c,H1.fz c=H.fz c:=fun c=>by rw [cH];rfl
 have b1:H1.get (H.next+1)=some ⟨(List.replicate P.defs.length false).map Value.bool,4,false,false⟩:=by rw [cH,bg,aV];exact if_pos rfl
 rw [<-cH]
 clear cH
 refine ag.by (YW (hp.af o1.aH) hz wg j5) ?_
 rintro v2 H2 - ⟨o2,z2,t2⟩
 have n2:=o2.nx
 simp only [go_sem]
 have B4:=Xy j5
 refine RH 2251799813652672 (fun k V H3=>k<=fuel/\∃todo out,TD H1.next H3 (V 6) todo/\todo.length+12 * k<=12+12 * fuel/\Ie fuel P k todo out=some R/\out.length=P.defs.length/\OF H H3/\H1.next<=H3.next/\(∀c,c < H1.next->c≠(H.next+1)->H3.get c=H1.get c)/\H3.get (H.next+1)=some ⟨out.map Value.bool,4,false,false⟩) (n:=fuel)
  ⟨Nat.le_refl _,wF,_,by simp only [go_sem];exact t2.ai,by omega,he,List.length_replicate,⟨((o1.aH.trans o2).fr [] |>.ai _).aH,fun _ _=>rfl⟩,n2,fun c hc _=>o2.get c hc,(o2.get (H.next+1) (by omega)).trans b1⟩ ?_ (by rfl)
 rintro k V H3 ⟨hkf,todo,out,ht,fY,hg,oD,o3,n3,k3,b3⟩
 cases k with
 | zero=>rw [Ie] at hg;cases hg
 | succ k=>
 rw [Ie] at hg
 by_cases h0:todo.length=0
 ·rw [if_pos h0] at hg
  cases hg
  obtain ⟨f,eK, -⟩:=ht.sl
  obtain ⟨a,c,hv⟩:=eK.val
  have CO:¬(0:Int) < ((0:Nat):Int):=by omega
  rw [h0] at hv
  simp only [go_sem,hv,CO]
  exact ⟨((o3.aH.fr []).ai _ |>.ai _).aH,fun _=>trivial,oD,H.next+1,by rw [oD],by omega,by show H.next+1 < H3.next;omega,b3⟩
 rw [if_neg h0] at hg
 rcases ht with ⟨e6,rfl⟩ | ⟨bt,ik,ft,c,ds,op,e6,hB,hc⟩
 ·exact absurd rfl h0
 obtain ⟨t,og⟩:∃t,todo.length=t+1:=⟨todo.length - 1,by omega⟩
 have mJ:0 < ((todo.length:Nat):Int):=by omega
 have eV:IntKind.wrap .i64 (((todo.length:Nat):Int) - 1)=((t:Nat):Int):=by rw [lF (by omega) (by omega)];omega
 have LH:t < todo.length:=by omega
 have Nj:(todo.map iV++ds)[t]?=some (iV (todo.getD t 0)):=by rw [List.getElem?_append_left (by simp;omega)];exact zW LH
 rw [show todo.length - 1=t by omega] at hg
 dsimp only at hg
 obtain ⟨at_,ee⟩:∃at_,at_=todo.getD t 0:=⟨_,rfl⟩
 rw [<-ee] at Nj hg
 have eL:iZ Tryz.prog 22=some (3,1):=by kernel_rfl
 have W2:t<=c:=by rw [<-hc];simp;omega
 have hXt:H.fz bt=false:=hX (by omega)
 have W4:H.fz (H.next+1)=false:=hX (by omega)
 simp only [go_sem,Option.map_some,Option.map_none,e6,mJ,eV,LH,hB,Nj,NH (b:=bt) (o:=0) (n:=todo.length) (c:=c) eL W2]
 have i6:∀{H5:ad},H3.next<=H5.next->H5.get bt=H3.get bt->TD H1.next H5 (.slice (some ⟨bt,0,none⟩) t c) (todo.take t):=fun {H5} hn h=>.inr ⟨bt,ik,by omega,c,(todo.drop t).map iV++ds,op,by rw [List.length_take,Nat.min_eq_left (by omega)],by rw [h,hB,<-List.append_assoc,<-List.map_append,List.take_append_drop],by rw [<-List.append_assoc,<-List.map_append,List.take_append_drop];exact hc⟩
 have abC:(todo.take t).length=t:=by rw [List.length_take,Nat.min_eq_left (by omega)]
 have ot:OF H (H3.ai H.fz):=o3.told
 by_cases h1:at_ < 0
 ·rw [if_pos (.inl h1)] at hg
  simp only [go_sem,h1]
  exact ⟨k,by omega,by omega,todo.take t,out,i6 (Nat.le_refl _) rfl,by omega,hg,oD,ot,n3,k3,b3⟩
 by_cases h2:((P.defs.length:Nat):Int)<=at_
 ·rw [if_pos (.inr (.inl (by rw [oD];exact h2)))] at hg
  simp only [go_sem,h1,h2]
  exact ⟨k,by omega,by omega,todo.take t,out,i6 (Nat.le_refl _) rfl,by omega,hg,oD,ot,n3,k3,b3⟩
 obtain ⟨a,rfl⟩:=Int.eq_ofNat_of_zero_le (by omega:0<=at_)
 have ha:a < P.defs.length:=by omega
 have i7:=Sg (o:=out) (i:=a) (by omega)
 by_cases h3:out.getD a false=true
 ·rw [if_pos (.inr (.inr h3))] at hg
  rw [h3] at i7
  simp only [go_sem,h1,h2,ha,b3,i7]
  exact ⟨k,by omega,by omega,todo.take t,out,i6 (Nat.le_refl _) rfl,by omega,hg,oD,ot,n3,k3,rfl⟩
 rw [if_neg (by rw [oD];simp only [Int.toNat_natCast];exact fun h=>h.elim h1 fun h=>h.elim h2 h3)] at hg
 simp only [Int.toNat_natCast] at hg
 rw [Bool.not_eq_true] at h3
 rw [h3] at i7
 cases aX:C7 fuel P ((a:Nat):Int) with
 | none=>rw [aX] at hg;cases hg
 | some cs=>
 rw [aX,Option.bind_some] at hg
 have BY:a < (out.map Value.bool).length:=by rw [List.length_map];omega
 have IX:a+1<=(out.map Value.bool).length:=BY
 have y3:=(k3 H.next (by omega) (by omega)).trans y1
 have mX:¬H.next=H.next+1:=by omega
 have hnt:¬bt=H.next+1:=by omega
 simp only [go_sem,h1,h2,ha,b3,i7,W4,BY,IX,y3,mX]
 obtain ⟨H4,dB⟩:∃H4,H4=((H3.ai H.fz).ah (H.next+1) ⟨(out.map Value.bool).set a (.bool true),4,false,false⟩).ai H.fz:=⟨_,rfl⟩
 have o4:OF H H4:=by rw [dB];exact ⟨((((o3.aH.fr []).ai _).ah (.inr (by omega)) _).ai _).aH,fun _ _=>rfl⟩
 have g4:∀c,c≠H.next+1->H4.get c=H3.get c:=fun c hc=>by rw [dB,bg,az,if_neg hc,bg]
 have b4:H4.get (H.next+1)=some ⟨(out.set a true).map Value.bool,4,false,false⟩:=by rw [dB,bg,az,if_pos rfl,List.map_set]
 have n4:H4.next=H3.next:=by rw [dB];rfl
 have z4:∀c,H4.fz c=H.fz c:=fun c=>by rw [dB];rfl
 rw [<-dB]
 clear dB
 refine ag.by (YW (hp.af o4.aH) hz wg aX) ?_
 rintro v5 H5 - ⟨o5,z5,t5⟩
 have n5:=o5.nx
 obtain ⟨f5,s5, -⟩:=t5.sl
 have Cd:=Xy aX
 simp only [go_sem]
 refine ahO (Hb:=⟨H1.next,H5.get,H5.fz⟩) (i6 (by omega) ((o5.get bt (by omega)).trans (g4 bt hnt))) ⟨by show H1.next<=H5.next;omega,fun _ _=>rfl,fun _ _ h _=>h⟩ (fun b hb=>hX (by have:H1.next<=b:=hb;omega)) s5 (by omega) ?_
 intro v6 H6 t6 o6
 simp only [go_sem]
 have n6:H1.next<=H6.next:=o6.nx
 refine ⟨k,by omega,by omega,todo.take t++cs,out.set a true,t6.ai,by rw [List.length_append];omega,hg,by rw [List.length_set];exact oD,⟨⟨by show H.next<=H6.next;omega,fun c hc=>?_,fun c B hB hr=>?_⟩,fun _ _=>rfl⟩,n6,fun c h1 h2=>?_,?_⟩
 ·have e6:H6.get c=H5.get c:=o6.get c (by show c < H1.next;omega)
  exact e6.trans ((o5.get c (by omega)).trans (o4.aH.get c hc))
 ·have e1:H5.get c=some B:=o6.ro c B hB hr
  exact o4.aH.ro c B (o5.ro c B e1 hr) hr
 ·have e6:H6.get c=H5.get c:=o6.get c h1
  exact e6.trans ((o5.get c (by omega)).trans ((g4 c h2).trans (k3 c h1 h2)))
 ·have e6:H6.get (H.next+1)=H5.get (H.next+1):=o6.get _ (by show H.next+1 < H1.next;omega)
  exact e6.trans ((o5.get _ (by omega)).trans b4)
theorem Zp {H:ad} {P:bw} {x:jj} (hp:sk H P x) (hz:AU P) {fuel:Nat} (wg:fuel<=100000) {R:Bool} (he:Bt fuel P=some R):
  ak Tryz.prog 22 #[.agg (x.c P).toArray] H (fun v H'=>v=.bool R/\ba H H'/\∀c,H'.fz c=H.fz c):=by
 refine ak.told ?_
 refine qz (l:=[_]) _ mixed Tryz.func22 ail [.tmp 2] (show 1<=27 by decide) rfl fun hf=>?_
 simp only [Tryz.f22,Option.getD_some]
 have hX:∀{c:Nat},H.next<=c->H.fz c=false:=fun h=>hf.fresh h
 unfold Bt at he
 cases hl:If fuel P (pJ P.defs) with
 | none=>rw [hl] at he;cases he
 | some to=>
 rw [hl,Option.bind_some] at he
 simp only [go_sem]
 obtain ⟨H1,cH⟩:∃H1,H1=(H.push ⟨x.c P,28,false,false⟩).ai H.fz:=⟨_,rfl⟩
 have o1:OF H H1:=by rw [cH];exact ⟨(((Fr.refl [] H).push _).ai _).aH,fun _ _=>rfl⟩
 have y1:H1.get H.next=some ⟨x.c P,28,false,false⟩:=by rw [cH,bg,aV,if_pos rfl]
 have n1:H1.next=H.next+1:=by rw [cH];rfl
 rw [<-cH]
 clear cH
 refine ag.by (YX (hp.af o1.aH) hz) ?_
 rintro _ H2 - ⟨rfl,o2,z2⟩
 have y2:=(o2.get H.next (by omega)).trans y1
 have n2:=o2.nx
 simp only [go_sem,y1,y2]
 refine ag.by (YY ((hp.af o1.aH).af o2) hz wg hl) ?_
 rintro _ H3 - ⟨o3,z3,iq,b,rfl,ik,ft,b3⟩
 have n3:=o3.nx
 have y3:=(o3.get H.next (by omega)).trans y2
 simp only [go_sem]
 refine qH 134213684 to.length (fun i V H4=>V 12=iV (i:Nat)/\OF H H4/\ba H3 H4/\Ig fuel P (to.drop i) i=some R)
  ⟨by simp only [go_sem] <;> rfl,⟨(((o1.aH.trans o2).trans o3).fr [] |>.ai _).aH,fun _ _=>rfl⟩,((Fr.refl [] H3).ai _).aH,he⟩ ?_ ?_ (by rfl)
 ·rintro i V H4 hi ⟨ei,o4,JU,hg⟩
  rw [show to.drop i=to.getD i false::to.drop (i+1) by rw [List.getD_eq_getElem?_getD,List.getElem?_eq_getElem hi];exact (List.getElem_cons_drop hi).symm,Ig] at hg
  have nv:=hz.d
  have ct:IntKind.wrap .i64 (((i:Nat):Int)+1)=((i+1:Nat):Int):=cZ hi (by omega)
  have b4:=(JU.get b ft).trans b3
  have i7:=Sg hi
  have n4:=JU.nx
  have y4:=(JU.get H.next (by omega)).trans y3
  cases hb:to.getD i false with
  | false=>
   rw [hb,if_neg (by decide)] at hg
   rw [hb] at i7
   simp only [go_sem,ei,hi,b4,i7,ct]
   exact ⟨o4.told,((JU.fr []).ai _).aH,hg⟩
  | true=>
   rw [hb,if_pos rfl] at hg
   rw [hb] at i7
   cases tO:If fuel P ((i:Nat):Int) with
   | none=>rw [tO] at hg;cases hg
   | some o=>
   rw [tO,Option.bind_some] at hg
   simp only [go_sem,ei,hi,b4,i7,y4]
   refine ag.by (YY (hp.af o4.told.aH) hz wg tO) ?_
   rintro _ H5 - ⟨o5,z5,oD,b',rfl,axl,axm,b5⟩
   have W9:i < o.length:=by omega
   have Pq:=Sg W9
   have Xa:ba H4 H5:=⟨o5.nx,o5.get,o5.ro⟩
   cases dY:o.getD i false with
   | true=>
    rw [dY,if_pos rfl] at hg
    cases hg
    rw [dY] at Pq
    simp only [go_sem,W9,b5,Pq]
    exact ⟨(((o4.aH.trans Xa).fr []).ai _ |>.ai _).aH,fun _=>trivial⟩
   | false=>
    rw [dY,if_neg (by decide)] at hg
    rw [dY] at Pq
    simp only [go_sem,W9,b5,Pq,ei,ct]
    exact ⟨⟨((o4.aH.trans Xa).fr [] |>.ai _).aH,fun _ _=>rfl⟩,((JU.trans Xa).fr [] |>.ai _).aH,hg⟩
 ·rintro V H4 ⟨ei,o4,JU,hg⟩
  rw [List.drop_length,Ig] at hg
  cases hg
  simp only [go_sem,ei]
  exact ⟨((o4.aH.fr []).ai _).aH,fun _=>trivial⟩
theorem Zq {H:ad} {P:bw} {x:jj} (hp:sk H P x) (hz:AU P) {fuel:Nat} (wg:fuel<=100000) {R:Int × Bool} (he:IF fuel P=some R):
  ak Tryz.prog 20 #[.agg (x.c P).toArray] H (fun v H'=>v=.tuple #[iV R.1,.bool R.2]/\ba H H'/\∀c,H'.fz c=H.fz c):=by
 refine ak.told ?_
 refine qz (l:=[_]) _ mixed Tryz.func20 aik [.tmp 2,.tmp 3] (show 1<=28 by decide) rfl fun hf=>?_
 simp only [Tryz.f20,Option.getD_some]
 have hX:∀{c:Nat},H.next<=c->H.fz c=false:=fun h=>hf.fresh h
 simp only [go_sem]
 obtain ⟨H1,cH⟩:∃H1,H1=(H.push ⟨x.c P,28,false,false⟩).ai H.fz:=⟨_,rfl⟩
 have o1:OF H H1:=by rw [cH];exact ⟨(((Fr.refl [] H).push _).ai _).aH,fun _ _=>rfl⟩
 have y1:H1.get H.next=some ⟨x.c P,28,false,false⟩:=by rw [cH,bg,aV,if_pos rfl]
 have n1:H1.next=H.next+1:=by rw [cH];rfl
 rw [<-cH]
 clear cH
 refine ag.by (YX (hp.af o1.aH) hz) ?_
 rintro _ H2 - ⟨rfl,o2,z2⟩
 have n2:=o2.nx
 have y2:=(o2.get H.next (by omega)).trans y1
 unfold IF at he
 have Xb:ba H (H2.ai H.fz):=((o1.aH.trans o2).fr [] |>.ai _).aH
 by_cases h1:pJ P.defs < 0
 ·rw [if_pos h1] at he
  cases he
  simp only [go_sem,h1]
  exact ⟨Xb,fun _=>trivial⟩
 rw [if_neg h1] at he
 cases F3:Bt fuel P with
 | none=>rw [F3] at he;cases he
 | some e=>
 rw [F3,Option.bind_some] at he
 simp only [go_sem,h1,y2]
 refine ag.by (Zp (hp.af Xb) hz wg F3) ?_
 rintro _ H3 - ⟨rfl,o3,z3⟩
 have n3:H2.next<=H3.next:=o3.nx
 have y3:H3.get H.next=_:=(o3.get H.next (by show H.next < H2.next;omega)).trans y2
 have Xc:ba H H3:=Xb.trans o3
 cases e with
 | false=>
  rw [if_pos rfl] at he
  cases he
  simp only [go_sem]
  exact ⟨((Xc.fr []).ai _ |>.ai _).aH,fun _=>trivial⟩
 | true=>
 rw [if_neg (by decide)] at he
 cases ht:Fb P.defs (JS P.nodes P.defs fuel) (pJ P.defs) ⟨[],true⟩ with
 | none=>rw [ht] at he;cases he
 | some r=>
 rw [ht] at he
 cases he
 simp only [go_sem,y3]
 obtain ⟨H4,dB⟩:∃H4,H4=(((H3.ai H.fz).push ⟨vu [],48,false,false⟩).push ⟨QN x P H3.next true,86,false,false⟩).ai H.fz:=⟨_,rfl⟩
 have o4:ba H3 H4:=by rw [dB];exact (((((Fr.refl [] H3).ai _).push _).push _).ai _).aH
 have oF4:=Xc.trans o4
 have hp4:=hp.af oF4
 have n03:=Xc.nx
 have gl:∀d∈x.gM++(x.gD++x.gN),d < H.next:=hp.lt
 have q4:CQ H4 P x (H3.next+1) H3.next ⟨[],true⟩:=by
  refine {hc:=?_,hm:=?_,so:=hp4,ne:=by omega,cl:=?_,ml:=?_,cg:=fun e=>by have:=gl _ e;omega,mg:=fun e=>by have:=gl _ e;omega,fc:=?_,fm:=?_}
  ·rw [dB,bg,aV];exact if_pos rfl
  ·rw [dB,bg,aV,if_neg (by show¬H3.next=H3.next+1;omega),aV];exact if_pos rfl
  ·rw [dB];show H3.next+1 < H3.next+1+1;omega
  ·rw [dB];show H3.next < H3.next+1+1;omega
  ·rw [dB];exact hX (by omega)
  ·rw [dB];exact hX (by omega)
 rw [<-dB]
 clear dB
 refine ag.by (Se hz (abF hz fuel) q4 ht) ?_
 rintro _ H5 - ⟨rfl,f5,z5,q5⟩
 have tz:=q5.hc
 have oF5:ba H H5:=((oF4.fr []).trans f5 fun c hc=>by right;simp at hc;omega).aH
 cases hk:r.2.ok with
 | true=>
  rw [hk] at tz
  simp only [go_sem,tz,if_true]
  exact ⟨((oF5.fr []).ai _ |>.ai _).aH,fun _=>trivial⟩
 | false=>
  rw [hk] at tz
  simp only [go_sem,tz]
  exact ⟨((oF5.fr []).ai _ |>.ai _).aH,fun _=>trivial⟩
end Go.Proofs.YtinjmfblebpnnaaGreat.Ab
set_option maxRecDepth 1000000
namespace Go.Proofs.YtinjmfblebpnnaaGreat.Ab
open Go
def ndB (n:aG):Bool:=decide (n.args.length < 1000000)&&(decide (n.au.length < 1000000)&&n.au.all fun x=>decide (x.aY.length < 100000))
def LJ (P:bw):Bool:=decide (P.msgs.length < 1000000)&&(decide (P.defs.length < 1000000)&&(decide (P.nodes.length < 100000)&&(P.nodes.all ndB&&(P.msgs.all (fun x=>decide (x.types.length < 1000000))&&P.defs.all fun x=>decide (x.params.length < 1000000)))))
theorem RK {P:bw} (h:LJ P=true):AU P:=by
 unfold LJ at h
 simp only [Bool.and_eq_true,decide_eq_true_eq,List.all_eq_true] at h
 obtain ⟨h1,h2,h3,h4,h5,h6⟩:=h
 refine ⟨h1,h2,h3,fun n hn=>?_,h5,h6⟩
 have:=h4 n hn
 unfold ndB at this
 simp only [Bool.and_eq_true,decide_eq_true_eq,List.all_eq_true] at this
 exact ⟨this.1,this.2.1,this.2.2⟩
theorem uY.so {H:ad} {v:Value} {P:bw} {g:List Nat} (h:uY H v P g) (hl:∀c∈g,c < H.next):∃px:jj,v=.agg (px.c P).toArray/\sk H P px/\∀c∈px.gM++(px.gD++px.gN),c∈g:=by
 obtain ⟨vM,vR,vD,vN,gM,gR,gD,gN,rfl,h1,h2,h3,h4,rfl⟩:=h
 obtain ⟨aM,kM,rfl⟩:=h1.val
 obtain ⟨aR,kR,rfl⟩:=h2.val
 obtain ⟨aD,kD,rfl⟩:=h3.val
 obtain ⟨aN,kN,rfl⟩:=h4.val
 have mem:∀c∈gM++(gD++gN),c∈gM++(gR++(gD++gN)):=fun c hc=>by
  simp only [List.mem_append] at hc ⊢
  rcases hc with e | e | e
  ·exact .inl e
  ·exact .inr (.inr (.inl e))
  ·exact .inr (.inr (.inr e))
 exact ⟨⟨aM,aR,aD,aN,P.bZ.length,kM,kR,kD,kN,gM,gD,gN⟩,rfl,⟨h1,h3,h4,fun c hc=>hl c (mem c hc)⟩,mem⟩
theorem XV {H:ad} {s:bf} (hs:s.length < 999000) {P:bw} (he:Fa 60 s=some (some P)):
  ak Tryz.prog 11 #[ae s] H (fun r H'=>ba H H'/\(∀c,H'.fz c=H.fz c)/\∃px:jj,r=.tuple #[.agg (px.c P).toArray,.bool true]/\sk H' P px):=by
 refine ak.told ?_
 refine qz (l:=[_]) _ mixed Tryz.func11 aih [.cell 2 28,.tmp 3] (show 1<=18 by decide) rfl fun hf=>?_
 simp only [Tryz.f11,Option.getD_some]
 have hX:∀{c:Nat},H.next<=c->H.fz c=false:=fun h=>hf.fresh h
 simp only [go_sem,hX (Nat.le_refl H.next)]
 have o1:ba H ((H.push ⟨[.slice none 0 0,.slice none 0 0,.slice none 0 0,.slice none 0 0],28,false,false⟩).ai H.fz):=(((Fr.refl [] H).push _).ai _).aH
 have g1:((H.push ⟨[.slice none 0 0,.slice none 0 0,.slice none 0 0,.slice none 0 0],28,false,false⟩).ai H.fz).get H.next=some ⟨[.slice none 0 0,.slice none 0 0,.slice none 0 0,.slice none 0 0],28,false,false⟩:=by rw [bg,aV,if_pos rfl]
 have n1:((H.push ⟨[.slice none 0 0,.slice none 0 0,.slice none 0 0,.slice none 0 0],28,false,false⟩).ai H.fz).next=H.next+1:=rfl
 generalize ((H.push ⟨[.slice none 0 0,.slice none 0 0,.slice none 0 0,.slice none 0 0],28,false,false⟩).ai H.fz)=H1 at o1 g1 n1 ⊢
 refine ag.by (ahG hs he) ?_
 rintro _ H2 - ⟨o2,v,g,rfl,hpg,kX⟩
 obtain ⟨px,rfl,LK,vv⟩:=hpg.so fun c hc=>(kX c hc).2
 have n2:=o2.nx
 have g2:=(o2.get H.next (by omega)).trans g1
 have er:H.fz H2.next=false:=hX (by omega)
 have hn:¬H.next=H2.next:=by omega
 have W8:=hX (Nat.le_refl H.next)
 simp only [go_sem,er,W8,g2,hn]
 refine ⟨(((((o1.trans o2).fr []).push _).ai _).ah (.inr (Nat.le_refl _)) _ |>.ai _).aH,fun _=>trivial,px,rfl,?_⟩
 refine LK.fr (M:=[H.next]) (((((Fr.refl [H.next] H2).push _).ai _).ah (.inl (by simp)) _).ai _) fun c hc=>?_
 rw [List.mem_singleton] at hc
 subst hc
 exact fun e=>by have:=(kX _ (vv _ e)).1;omega
def aah:bf:=[100,101,102,32,109,97,105,110,40,41,32,123,32,100,111,110,101,32,125]
def aai:Bool:=match Fa 60 aah with
 | some (some P)=>LJ P&&(match IF 100 P,Bt 100 P with
  | some R,some e=>decide (R.1=1)&&R.2&&e
  | _,_=>false)
 | _=>false
theorem ad7:aai=true:=by kernel_rfl
theorem ab5 {H:ad}:ak Tryz.prog 24 #[] H (fun r H'=>r=.bool true/\ba H H'):=by
 refine ak.told ?_
 refine qz (l:=[]) _ mixed Tryz.func24 aim [.tmp 0] (show 0<=26 by decide) rfl fun hf=>?_
 simp only [Tryz.f24,Option.getD_some]
 have hX:∀{c:Nat},H.next<=c->H.fz c=false:=fun h=>hf.fresh h
 have hw:=ad7
 unfold aai at hw
 split at hw
 ·rename_i P hP
  rw [Bool.and_eq_true] at hw
  obtain ⟨hz,hw⟩:=hw
  split at hw
  ·rename_i R e hR hE
   rw [Bool.and_eq_true,Bool.and_eq_true,decide_eq_true_eq] at hw
   obtain ⟨⟨h1,h2⟩,rfl⟩:=hw
   simp only [go_sem]
   refine ag.by (XV (s:=aah) (by decide) hP) ?_
   rintro _ H1 - ⟨o1,z1,px,rfl,LK⟩
   have BZ:H.next<=H1.next:=o1.nx
   simp only [go_sem,hX BZ]
   have o2:OF H ((H1.push ⟨px.c P,28,false,false⟩).ai H.fz):=⟨((o1.fr []).push _ |>.ai _).aH,fun _ _=>rfl⟩
   have p2:((H1.push ⟨px.c P,28,false,false⟩).ai H.fz).get H1.next=some ⟨px.c P,28,false,false⟩:=by rw [bg,aV,if_pos rfl]
   have L4:sk ((H1.push ⟨px.c P,28,false,false⟩).ai H.fz) P px:=LK.af (((Fr.refl [] H1).push _ |>.ai _).aH)
   have n2:((H1.push ⟨px.c P,28,false,false⟩).ai H.fz).next=H1.next+1:=rfl
   generalize ((H1.push ⟨px.c P,28,false,false⟩).ai H.fz)=H2 at o2 p2 L4 n2 ⊢
   refine ag.by (Zq L4 (RK hz) (by decide) hR) ?_
   rintro _ H3 - ⟨rfl,o3,z3⟩
   have p3:=(o3.get H1.next (by omega)).trans p2
   simp only [go_sem,p3]
   refine ag.by (Zp (L4.af (((o3.fr []).ai _).aH)) (RK hz) (by decide) hE) ?_
   rintro _ H4 - ⟨rfl,o4,z4⟩
   simp only [go_sem,h1,h2]
   exact ((((o2.aH.trans o3).fr []).ai _).then (o4.fr []) |>.ai _).aH
  ·cases hw
 ·cases hw
end Go.Proofs.YtinjmfblebpnnaaGreat.Ab
set_option maxRecDepth 100000
namespace Go.Proofs.YtinjmfblebpnnaaGreat.Ab
open Go
def Sh (s:bf):Option (Int × Nat):=match zR s with
 | none=>none
 | some (kind,w)=>if kind≠3/\s.length<=w then none else some (kind,w)
def uE:Nat->bf->Int->Int->List bc->Option (List bc × Int × Int)
 | 0,_,_,_,_=>none
 | k+1,[],line,aj,acc=>some (acc,line,aj)
 | k+1,c::r,line,aj,acc=>
  if c=10 then uE k r (line+1) 1 acc
  else if c=32∨c=9 then uE k r line (aj+1) acc
  else if c=35 then none
  else match Sh (c::r) with
   | none=>none
   | some (kind,w)=>uE k ((c::r).drop w) line (aj+(w:Nat)) (acc++[⟨kind,if kind=2 then (mE ((c::r).take w):Nat) else 0,line,aj,(c::r).take w⟩])
theorem Rd (p:UInt8->Bool):∀(u X:bf),(u.takeWhile p).length < u.length->(u++X).takeWhile p=u.takeWhile p
 | [],X,h=>absurd h (by simp)
 | c::u,X,h=>by
  rw [List.cons_append,List.takeWhile_cons,List.takeWhile_cons]
  cases hp:p c with
  | false=>rfl
  | true=>
   rw [List.takeWhile_cons,hp] at h
   simp only [if_true,List.length_cons] at h ⊢
   rw [Rd p u X (by omega)]
theorem acB {u X:bf} {kind:Int} {w:Nat} (h:Sh u=some (kind,w)):zR (u++X)=some (kind,w)/\1<=w/\w<=u.length:=by
 unfold Sh at h
 split at h
 ·cases h
 ·rename_i k0 w0 hp
  split at h
  ·cases h
  ·rename_i hn
   cases h
   obtain ⟨l1,l2,_⟩:=J1 hp
   refine ⟨?_,l1,l2⟩
   cases u with
   | nil=>cases hp
   | cons c r=>
    show vg c ((c::r)++X)=_
    replace hp:vg c (c::r)=some (kind,w):=hp
    unfold vg at hp ⊢
    by_cases h1:nC c=true
    ·rw [if_pos h1] at hp ⊢
     split at hp
     ·cases hp
     ·rename_i oG
      cases hp
      rw [Rd kj (c::r) X (by have:=hn;simp at this;simp;omega)]
      rw [if_neg oG]
    rw [if_neg h1] at hp ⊢
    by_cases h2:isDigit c=true
    ·rw [if_pos h2] at hp ⊢
     split at hp
     ·cases hp
     ·rename_i h9
      cases hp
      rw [Rd isDigit (c::r) X (by have:=hn;simp at this;simp;omega)]
      rw [if_neg h9]
    rw [if_neg h2] at hp ⊢
    exact hp
theorem J6:∀(k:Nat) (s:bf) (line aj:Int) (acc L:List bc),ey k s line aj acc=.ok L->ey (k+1) s line aj acc=.ok L
 | 0,s,line,aj,acc,L,h=>by cases h
 | k+1,[],line,aj,acc,L,h=>by rw [ey] at h ⊢;exact h
 | k+1,c::r,line,aj,acc,L,h=>by
  rw [ey] at h ⊢
  split at h
  ·rename_i h1;rw [if_pos h1];exact J6 k _ _ _ _ _ h
  rename_i h1;rw [if_neg h1]
  split at h
  ·rename_i h2;rw [if_pos h2];exact J6 k _ _ _ _ _ h
  rename_i h2;rw [if_neg h2]
  split at h
  ·rename_i h3;rw [if_pos h3];exact J6 k _ _ _ _ _ h
  rename_i h3;rw [if_neg h3]
  split at h
  ·cases h
  ·rename_i kind w hp
   exact J6 k _ _ _ _ _ h
theorem RM {k:Nat} {s:bf} {line aj:Int} {acc L:List bc} (h:ey k s line aj acc=.ok L):∀m,ey (k+m) s line aj acc=.ok L
 | 0=>h
 | m+1=>J6 _ _ _ _ _ _ (RM h m)
theorem HG:∀(j:Nat) (u:bf) (line aj:Int) (acc T:List bc) (l' c':Int) (X:bf) (k:Nat) (L:List bc),uE j u line aj acc=some (T,l',c')->ey k X l' c' T=.ok L->ey (k+j) (u++X) line aj acc=.ok L
 | 0,u,line,aj,acc,T,l',c',X,k,L,h,hx=>by cases h
 | j+1,[],line,aj,acc,T,l',c',X,k,L,h,hx=>by
  rw [uE] at h
  cases h
  exact RM hx _
 | j+1,c::r,line,aj,acc,T,l',c',X,k,L,h,hx=>by
  rw [uE] at h
  show ey (k+j+1) (c::(r++X)) line aj acc=.ok L
  rw [ey]
  split at h
  ·rename_i h1;rw [if_pos h1];exact HG j _ _ _ _ _ _ _ _ _ _ h hx
  rename_i h1;rw [if_neg h1]
  split at h
  ·rename_i h2;rw [if_pos h2];exact HG j _ _ _ _ _ _ _ _ _ _ h hx
  rename_i h2;rw [if_neg h2]
  split at h
  ·cases h
  rename_i h3;rw [if_neg h3]
  split at h
  ·cases h
  ·rename_i kind w hp
   obtain ⟨e1,e2,e3⟩:=acB (X:=X) hp
   rw [List.cons_append] at e1
   rw [e1]
   simp only
   have:=HG j _ _ _ _ _ _ _ X k L h hx
   rw [<-List.cons_append,List.drop_append_of_le_length e3,List.take_append_of_le_length e3]
   exact this
theorem J7:∀(n:Nat) (s:bf) (k1 k2:Nat) (line aj:Int) (acc:List bc),s.length<=n->s.length+1<=k1->s.length+1<=k2->ey k1 s line aj acc=ey k2 s line aj acc
 | n,s,0,k2,line,aj,acc,hn,h1,h2=>absurd h1 (by omega)
 | n,s,k1,0,line,aj,acc,hn,h1,h2=>absurd h2 (by omega)
 | n,[],k1+1,k2+1,line,aj,acc,hn,h1,h2=>by rw [ey,ey]
 | 0,c::r,k1+1,k2+1,line,aj,acc,hn,h1,h2=>absurd hn (by simp)
 | n+1,c::r,k1+1,k2+1,line,aj,acc,hn,h1,h2=>by
  rw [List.length_cons] at hn h1 h2
  rw [ey,ey]
  split
  ·exact J7 n _ _ _ _ _ _ (by omega) (by omega) (by omega)
  split
  ·exact J7 n _ _ _ _ _ _ (by omega) (by omega) (by omega)
  split
  ·rename_i _ _ h3
   have hl:((c::r).dropWhile (·≠10)).length<=r.length:=by
    rw [List.dropWhile_cons,if_pos (by rw [h3];decide)]
    exact (List.dropWhile_suffix _).length_le
   exact J7 n _ _ _ _ _ _ (by omega) (by omega) (by omega)
  split
  ·rfl
  ·rename_i kind w hp
   obtain ⟨l1,l2,_⟩:=J1 hp
   have hl:((c::r).drop w).length<=r.length:=by rw [List.length_drop,List.length_cons];omega
   exact J7 n _ _ _ _ _ _ (by omega) (by omega) (by omega)
theorem acC {k:Nat} {s:bf} {L:List bc} (hs:s.length<=16384) (h:ey k s 1 1 []=.ok L):ua s=.ok L:=by
 unfold ua
 rw [if_neg (by omega),J7 s.length s (s.length+1) (k+(s.length+1)) 1 1 [] (Nat.le_refl _) (Nat.le_refl _) (by omega)]
 exact RM h _
theorem YZ {ds:bf} {c:UInt8} {X:bf} {line aj:Int} {acc L:List bc} {k:Nat} (hd:ds.all isDigit=true) (hc:isDigit c=false) (hl:ds.length<=9) (h0:ds≠[]) (hz:ds.length=1∨ds.head?≠some 48)
  (h:ey k (c::X) line (aj+(ds.length:Nat)) (acc++[⟨2,(mE ds:Nat),line,aj,ds⟩])=.ok L):ey (k+1) (ds++c::X) line aj acc=.ok L:=by
 cases ds with
 | nil=>exact absurd rfl h0
 | cons d r=>
  rw [List.all_cons,Bool.and_eq_true] at hd
  have tw:(d::r++c::X).takeWhile isDigit=d::r:=by
   have:∀u:bf,u.all isDigit=true->(u++c::X).takeWhile isDigit=u:=by
    intro u
    induction u with
    | nil=>intro _;rw [List.nil_append,List.takeWhile_cons,hc];rfl
    | cons x u ih=>
     intro h
     rw [List.all_cons,Bool.and_eq_true] at h
     rw [List.cons_append,List.takeWhile_cons,h.1,if_pos rfl,ih h.2]
   exact this _ (by rw [List.all_cons,hd.1,hd.2];rfl)
  have Et:48<=d.toNat/\d.toNat<=57:=by have:=hd.1;unfold isDigit at this;simpa using this
  have Wa:d≠10:=fun e=>by rw [e] at Et;exact absurd Et.1 (by decide)
  have n32:¬(d=32∨d=9):=fun e=>by
   rcases e with e | e
   ·rw [e] at Et;exact absurd Et.1 (by decide)
   ·rw [e] at Et;exact absurd Et.1 (by decide)
  have Qa:d≠35:=fun e=>by rw [e] at Et;exact absurd Et.1 (by decide)
  have nl:nC d=false:=by
   unfold nC
   rw [decide_eq_false (by omega),Bool.false_and]
  have hp:zR (d::(r++c::X))=some (2,(d::r).length):=by
   show vg d (d::r++c::X)=_
   unfold vg
   rw [if_neg (by rw [nl];decide),if_pos hd.1,tw,if_neg]
   rintro (e | ⟨e1,e2⟩)
   ·omega
   ·rcases hz with h | h
    ·omega
    ·exact h (by rw [List.head?_cons,e2])
  rw [List.cons_append,ey,if_neg Wa,if_neg n32,if_neg Qa,hp]
  simp only [if_true]
  rw [<-List.cons_append,List.drop_left,List.take_left]
  exact h
def FT (n:Nat):UInt8:=UInt8.ofNat (48+n % 10)
def An:Nat->Nat->bf
 | 0,_=>[]
 | k+1,n=>if n < 10 then [FT n] else An k (n / 10)++[FT n]
def dS (n:Nat):bf:=An 3 n
theorem Rt:∀k n,(An k n).length<=k
 | 0,n=>Nat.le_refl _
 | k+1,n=>by
  rw [An]
  split
  ·simp
  ·rw [List.length_append,List.length_singleton];have:=Rt k (n / 10);omega
theorem adk {H:ad} {n:Nat} (hn:n < 1000):ak Tryz.prog 53 #[iV (n:Nat)] H (fun r H'=>r=ae (dS n)/\ba H H'):=by
 refine ak.told ?_
 refine aiI (Nat.le_refl _) fun hf=>?_
 simp only [Tryz.f53,Option.getD_some]
 simp only [go_sem]
 refine la 1048569 (fun k V H2=>ba H H2/\∃m s,V 0=iV (m:Nat)/\V 3=ae s/\s.length+k<=3/\(m < 10∨m < 100/\2<=k∨m < 1000/\3<=k)/\((s=[]/\dS n=An k m/\1<=k)∨(s≠[]/\((m=0/\dS n=s)∨(0 < m/\1<=k/\dS n=An k m++s))))) (n:=3)
  ⟨ba.refl _,n,[],by simp only [go_sem] <;> rfl,by simp only [go_sem] <;> rfl,by simp,.inr (.inr ⟨hn,Nat.le_refl _⟩),.inl ⟨rfl,rfl,by decide⟩⟩ ?_ (by rfl)
 rintro k V H2 ⟨o2,m,s,e0,e3,eK,hm,iR⟩
 have hm3:m < 1000:=by omega
 by_cases pO:m=0/\s≠[]
 ·obtain ⟨rfl,hs⟩:=pO
  rcases iR with ⟨h, -⟩ | ⟨-,⟨-,hd⟩ | ⟨h, -⟩⟩
  ·exact absurd h hs
  ·have h0:¬(0:Int) < ((0:Nat):Int):=by omega
   simp only [go_sem,e0,e3,h0,NI,hs]
   rw [hd]
   exact ⟨rfl,((o2.fr []).ai _).aH⟩
  ·exact absurd h (by omega)
 have hk:1<=k:=by
  rcases iR with ⟨-, -,h⟩ | ⟨hs,⟨h, -⟩ | ⟨-,h, -⟩⟩
  ·exact h
  ·exact absurd ⟨h,hs⟩ pO
  ·exact h
 obtain ⟨k,rfl⟩:∃j,k=j+1:=⟨k - 1,by omega⟩
 have LL:dS n=An (k+1) m++s:=by
  rcases iR with ⟨rfl,h, -⟩ | ⟨hs,⟨h, -⟩ | ⟨-, -,h⟩⟩
  ·rw [List.append_nil];exact h
  ·exact absurd ⟨h,hs⟩ pO
  ·exact h
 have ht:Int.tmod ((m:Nat):Int) 10=((m % 10:Nat):Int):=by rw [Int.tmod_eq_emod_of_nonneg (by omega)];omega
 have hq:Int.tdiv ((m:Nat):Int) 10=((m / 10:Nat):Int):=by rw [Int.tdiv_eq_ediv_of_nonneg (by omega)];omega
 have UN:(10:Int)≠0:=by decide
 have eV:IntKind.wrap .i64 (48+((m % 10:Nat):Int))=((48+m % 10:Nat):Int):=by rw [lF (by omega) (by omega)];omega
 have pY:IntKind.wrap .i64 ((m / 10:Nat):Int)=((m / 10:Nat):Int):=lF (by omega) (by omega)
 have c8:∀{H:ad},oR Tryz.prog 3 5 (.int .i64 ((48+m % 10:Nat):Int)) H=.ok (.int .u8 ((48+m % 10:Nat):Int)) H:=fun {H}=>by
  rw [CV (ks:=.i64) (kd:=.u8) (by kernel_rfl) (by kernel_rfl)]
  rw [show IntKind.wrap .u8 ((48+m % 10:Nat):Int)=((48+m % 10:Nat):Int) from by
   show (((48+m % 10:Nat):Int) % 256)=_
   omega]
 have cb:∀{H:ad},oR Tryz.prog 121 9 (.slice (some ⟨H.next,0,none⟩) 1 1) (H.push ⟨[.int .u8 ((48+m % 10:Nat):Int)],5,false,false⟩)=.ok (ae [FT m]) (H.push ⟨[.int .u8 ((48+m % 10:Nat):Int)],5,false,false⟩):=fun {H}=>by
  have Fj:nK 1 (.slice (some ⟨H.next,0,none⟩) 1 1) (H.push ⟨[.int .u8 ((48+m % 10:Nat):Int)],5,false,false⟩)=some (1,[.int .u8 ((48+m % 10:Nat):Int)]):=EE (c:=1) (B:=⟨[.int .u8 ((48+m % 10:Nat):Int)],5,false,false⟩) (by rw [aV,if_pos rfl]) rfl
  rw [acZ (e:=5) (n:=((48+m % 10:Nat):Int)) (by kernel_rfl) (by kernel_rfl) (by kernel_rfl) Fj]
  rfl
 have sa:∀{h:KH},eC Tryz.prog .add 9 (ae [FT m]) (ae s) h=.ok (ae ([FT m]++s)) h:=A9 (by simp;omega)
 have next:∀{H5:ad},ba H H5->∃j,j < k+1/\ba H H5/\∃m' s',(iV ((m / 10:Nat):Int):Value)=iV (m':Nat)/\ae ([FT m]++s)=ae s'/\s'.length+j<=3/\(m' < 10∨m' < 100/\2<=j∨m' < 1000/\3<=j)/\((s'=[]/\dS n=An j m'/\1<=j)∨(s'≠[]/\((m'=0/\dS n=s')∨(0 < m'/\1<=j/\dS n=An j m'++s')))):=fun {H5} o5=>by
  refine ⟨k,by omega,o5,m / 10,[FT m]++s,rfl,rfl,by simp;omega,by omega,.inr ⟨by simp,?_⟩⟩
  rw [An] at LL
  by_cases h:m < 10
  ·rw [if_pos h] at LL
   exact .inl ⟨by omega,LL⟩
  ·rw [if_neg h] at LL
   refine .inr ⟨by omega,by omega,?_⟩
   rw [LL];simp
 by_cases hm0:0 < m
 ·have Xd:(0:Int) < ((m:Nat):Int):=by omega
  simp only [go_sem,e0,e3,Xd,ht,hq,UN,eV,pY,c8,eB Za (by decide) (by decide),cb,sa]
  exact next (o2.trans (ba.push _ _))
 ·have Xd:¬(0:Int) < ((m:Nat):Int):=by omega
  have me:s=[]:=Classical.byContradiction fun e=>pO ⟨by omega,e⟩
  subst me
  simp only [go_sem,e0,e3,Xd,NI,ht,hq,UN,eV,pY,c8,eB Za (by decide) (by decide),cb,sa]
  exact next (o2.trans (ba.push _ _))
theorem Ru {H:ad} {i:Nat} (hi:i < 1000):ak Tryz.prog 27 #[iV (i:Nat)] H (fun r H'=>r=ae (dS i)/\ba H H'):=by
 refine ak.told ?_
 refine aiq (Nat.le_refl _) fun hf=>?_
 simp only [Tryz.f27,Option.getD_some]
 have hw:CN ((i:Nat):Int) 1000=((i:Nat):Int):=by
  have:Int.tmod ((i:Nat):Int) 1000=((i:Nat):Int):=Int.tmod_eq_of_lt (by omega) (by omega)
  unfold CN
  rw [if_neg (by decide),this,if_neg (by omega)]
 simp only [go_sem]
 refine ag.by (NN (v:=((i:Nat):Int)) (n:=1000) (by decide)) ?_
 rintro _ _ - ⟨rfl,rfl⟩
 rw [hw]
 simp only [go_sem]
 refine ag.by (adk hi) ?_
 rintro _ H2 - ⟨rfl,o2⟩
 simp only [go_sem]
 exact ((o2.fr []).ai _).aH
def IG (L:List bc) (s:aE):aE:=if (tk L s).kind≠2 then eX 2 s else s
def Si (L:List bc) (aU:lx) (st:aE) (ns:List aG) (k:Nat):Option (aE × List aG):=
 (aU 1 (if c9 (IG L (aC st))=true then aC (IG L (aC st)) else IG L (aC st),ns)).map fun x=>(x.2.1,oV x.2.2 k {kind:=11,n:=if c9 (IG L (aC st))=true then (tk L (aC st)).n else 0,a:=x.1,b:= -1})
def Sj (L:List bc) (aU:lx) (st:aE) (ns:List aG) (k:Nat):Option (aE × List aG):=
 if cP L [108,111,111,112] st=true then Si L aU st ns k else ug L aU st ns k
def NP (L:List bc) (aU:lx) (fuel:Nat) (kind:Int):Nat->Bool->Option (Nat × Nat)->aE->List aG->Option (Int × aE × List aG)
 | 0,_,_,_,_=>none
 | j+1,vl,fl,st,ns=>
  if c9 st=true/\vl=false then
   (if kind=1/\ea L [125] st=true then some (fV fl,st,ns)
   else if qG L kind st=false/\rB L st=false then some (fV fl,eX 2 st,ns)
   else if c9 (iT L st ns).2.1=true then
    (if qG L kind st=true then yd L aU fuel st (iT L st ns).2.2 ns.length else Sj L aU st (iT L st ns).2.2 ns.length).bind fun x=>
     NP L aU fuel kind j (qG L kind st) (ZU fl ns.length) x.1 (Oz fl x.2 ns.length)
   else some (fV fl,(iT L st ns).2.1,(iT L st ns).2.2))
  else some (fV fl,st,ns)
def RN (L:List bc):Nat->lx
 | 0=>fun _ _=>none
 | k+1=>fun kind s=>(NP L (RN L k) k kind 402 false none (sC L s.1) s.2).map fun x=>(x.1,EF L x.2.1,x.2.2)
def NZ (L:List bc) (fuel:Nat):Nat->aE->bw->Option (aE × bw)
 | 0,_,_=>none
 | k+1,st,P=>if c9 st=true/\(tk L st).kind≠4 then (E0 L (RN L fuel) fuel st P).bind fun x=>NZ L fuel k x.1 x.2 else some (st,P)
def SQ (fuel:Nat) (L:List bc):Option (Option bw):=
 ((NZ L fuel fuel ⟨0,0,0⟩ {}).map fun x=>if c9 x.1=true then some x.2 else none).bind fun a=>match a with
  | none=>some none
  | some P=>(Kz fuel P).bind fun b=>match b with
   | none=>some none
   | some Q=>NM fuel Q
section
variable {L:List bc} (hn:∀t∈L,t.kind=2->t.n<=99)
include hn
theorem ad8 (s:aE):wO L s=IG L s:=by
 unfold wO IG
 split
 ·rfl
 ·rename_i h
  rw [if_neg]
  intro h99
  have hk:(tk L s).kind=2:=Classical.byContradiction h
  have hm:tk L s∈L∨tk L s=eot:=by
   unfold tk
   rw [List.getD_eq_getElem?_getD]
   cases hg:L[s.at_]? with
   | none=>exact .inr rfl
   | some t=>exact .inl (List.mem_of_getElem? hg)
  rcases hm with e | e
  ·have:=hn _ e hk;omega
  ·rw [e] at hk;exact absurd hk (by decide)
theorem adl (aU:lx) (st:aE) (ns:List aG) (k:Nat):KQ L aU st ns k=Si L aU st ns k:=by
 unfold KQ Si Iw KP
 rw [ad8 hn]
theorem adm (aU:lx) (st:aE) (ns:List aG) (k:Nat):ug L aU st ns k=Sj L aU st ns k:=by
 unfold Sj
 split
 ·rename_i h
  rw [<-adl hn]
  have ht:(tk L st).text=[108,111,111,112]:=by unfold cP at h;rw [Bool.and_eq_true,decide_eq_true_eq,decide_eq_true_eq] at h;exact h.2
  have nw:∀s:bf,s≠[108,111,111,112]->¬cP L s st=true:=fun s hs e=>by
   unfold cP at e
   rw [Bool.and_eq_true,decide_eq_true_eq,decide_eq_true_eq,ht] at e
   exact hs e.2.symm
  unfold ug
  rw [if_neg (nw _ (by decide)),if_neg (nw _ (by decide)),if_neg (nw _ (by decide)),if_pos h]
 ·rfl
theorem Xl (aU:lx) (fuel:Nat) (kind:Int):∀(j:Nat) (vl:Bool) (fl:Option (Nat × Nat)) (st:aE) (ns:List aG),Bb L aU fuel kind j vl fl st ns=NP L aU fuel kind j vl fl st ns
 | 0,_,_,_,_=>rfl
 | j+1,vl,fl,st,ns=>by
  rw [Bb,NP,adm hn]
  simp only [Xl aU fuel kind j]
theorem Xz:∀k,C2 L k=RN L k
 | 0=>rfl
 | k+1=>by
  funext kind s
  show (Bb L (C2 L k) k kind 402 false none (sC L s.1) s.2).map _=_
  rw [Xz k,Xl hn]
  rfl
theorem XA (fuel:Nat):∀(k:Nat) (st:aE) (P:bw),EN L fuel k st P=NZ L fuel k st P
 | 0,_,_=>rfl
 | k+1,st,P=>by
  rw [EN,NZ,Xz hn]
  simp only [XA fuel k]
theorem aeS {fuel:Nat} {s:bf} (ht:ua s=.ok L):Fa fuel s=SQ fuel L:=by
 unfold Fa SQ Kw
 rw [ht]
 simp only
 rw [XA hn]
 rfl
end
abbrev JV:=List (Bool × Int × Int)
structure TU where
 kv:List (Int × Int)
 log:JV
def AV (e:Bool × Int × Int):Prop:=if e.1=true then mulM e.2.1 e.2.2=(e.2.1 * e.2.2,true) else uB e.2.1 e.2.2=(e.2.1+e.2.2,true)
abbrev UB:=Int->TU->Option (Int × TU)
def yP (a b:Int) (t:TU):Int × TU:=(a+b,⟨t.kv,(false,a,b)::t.log⟩)
def Pr (a b:Int) (t:TU):Int × TU:=(a * b,⟨t.kv,(true,a,b)::t.log⟩)
def K0 (ds:List eo) (bd:UB) (d:Int) (t:TU):Option (Int × TU):=
 if d < 0∨((ds.length:Nat):Int)<=d then some (0,t)
 else match getM t.kv d with
  | some n=>some (n,t)
  | none=>(bd ((ds.map (·.body)).getD d.toNat 0) t).map fun x=>(x.1,⟨Bv x.2.kv d x.1,x.2.log⟩)
def Ps (bd:UB):List eY->Int->TU->Option (Int × TU)
 | [],m,t=>some (m,t)
 | b::l,m,t=>(bd b.body t).bind fun x=>Ps bd l (if m < x.1 then x.1 else m) x.2
def Uj (ds:List eo) (bd:UB) (n:aG) (t:TU):Option (Int × TU):=
 if n.kind=8 then bd n.a t
 else if n.kind=11 then (bd n.a t).map fun x=>Pr n.n x.1 x.2
 else if n.kind=10∨n.kind=13 then K0 ds bd n.f t
 else if n.kind=16 then (bd n.a t).bind fun x=>(bd n.b x.2).map fun y=>(if x.1 < y.1 then y.1 else x.1,y.2)
 else if n.kind=15 then Ps bd n.au 0 t
 else some (0,t)
def Pt (ns:List aG) (aK:aG->TU->Option (Int × TU)):Nat->Int->Int->TU->Option (Int × TU)
 | 0,_,_,_=>none
 | j+1,sum,place,t=>
  if 0<=place/\place < ((ns.length:Nat):Int) then
   (if OG (ns.getD place.toNat {}) place=true then none
   else (aK (ns.getD place.toNat {}) t).bind fun x=>Pt ns aK j (yP sum (yP 1 x.1 x.2).1 (yP 1 x.1 x.2).2).1 (ns.getD place.toNat {}).next (yP sum (yP 1 x.1 x.2).1 (yP 1 x.1 x.2).2).2)
  else some (sum,t)
def Nl (ns:List aG) (ds:List eo):Nat->UB
 | 0=>fun _ _=>none
 | k+1=>fun place t=>Pt ns (Uj ds (Nl ns ds k)) 402 0 place t
def sq (u u':TU) (n:Int) (r:Option (Int × TS)):Prop:=(∃l,u'.log=l++u.log)/\((∀e∈u'.log,AV e)->r=some (n,⟨u'.kv,true⟩))
def Pu (bu:UB) (bt:TB):Prop:=∀place u n u',bu place u=some (n,u')->sq u u' n (bt place ⟨u.kv,true⟩)
theorem sq.refl (u:TU) (n:Int):sq u u n (some (n,⟨u.kv,true⟩)):=⟨⟨[],rfl⟩,fun _=>rfl⟩
theorem sq.sub {u u':TU} {n:Int} {r:Option (Int × TS)} (h:sq u u' n r) {e:Bool × Int × Int} (he:e∈u.log):e∈u'.log:=by
 obtain ⟨⟨l,hl⟩, -⟩:=h
 rw [hl];exact List.mem_append_right _ he
theorem sq.bind {u u1 u2:TU} {n1 n2:Int} {r:Option (Int × TS)} {f:Int × TS->Option (Int × TS)} (h:sq u u1 n1 r) (h2:sq u1 u2 n2 (f (n1,⟨u1.kv,true⟩))):sq u u2 n2 (r.bind f):=by
 refine ⟨?_,fun ha=>?_⟩
 ·obtain ⟨l1,e1⟩:=h.1
  obtain ⟨l2,e2⟩:=h2.1
  exact ⟨l2++l1,by rw [e2,e1,List.append_assoc]⟩
 ·rw [h.2 fun e he=>ha e (h2.sub he),Option.bind_some]
  exact h2.2 ha
theorem Y0 {u:TU} {a b:Int} {t:Option (Int × TS)} (ht:t=some (xj a b ⟨u.kv,true⟩)):sq u (yP a b u).2 (yP a b u).1 t:=by
 refine ⟨⟨[(false,a,b)],rfl⟩,fun ha=>?_⟩
 have:=ha (false,a,b) (by simp [yP])
 unfold AV at this
 rw [if_neg (show¬(false=true) by decide)] at this
 rw [ht];unfold xj
 rw [this];rfl
theorem aeT {u:TU} {a b:Int} {t:Option (Int × TS)} (ht:t=some (FP a b ⟨u.kv,true⟩)):sq u (Pr a b u).2 (Pr a b u).1 t:=by
 refine ⟨⟨[(true,a,b)],rfl⟩,fun ha=>?_⟩
 have:=ha (true,a,b) (by simp [Pr])
 unfold AV at this
 rw [if_pos rfl] at this
 rw [ht];unfold FP
 rw [this];rfl
theorem abJ {ds:List eo} {bu:UB} {bt:TB} (hb:Pu bu bt) {d:Int} {u u':TU} {n:Int} (h:K0 ds bu d u=some (n,u')):sq u u' n (Fb ds bt d ⟨u.kv,true⟩):=by
 unfold K0 at h
 unfold Fb
 split at h
 ·rename_i h1
  cases h
  rw [if_pos h1];exact .refl _ _
 ·rename_i h1
  rw [if_neg h1]
  cases hg:getM u.kv d with
  | some v=>rw [hg] at h;cases h;exact .refl _ _
  | none=>
   rw [hg] at h
   simp only at h ⊢
   cases hx:bu ((ds.map (·.body)).getD d.toNat 0) u with
   | none=>rw [hx] at h;cases h
   | some x=>
    rw [hx] at h
    cases h
    have hs:=hb _ _ _ _ hx
    refine ⟨hs.1,fun ha=>?_⟩
    rw [hs.2 ha];rfl
theorem aaj {bu:UB} {bt:TB} (hb:Pu bu bt):∀(l:List eY) (m:Int) (u u':TU) (n:Int),Ps bu l m u=some (n,u')->sq u u' n (FQ bt l m ⟨u.kv,true⟩)
 | [],m,u,u',n,h=>by cases h;exact .refl _ _
 | b::l,m,u,u',n,h=>by
  rw [Ps] at h
  cases hx:bu b.body u with
  | none=>rw [hx] at h;cases h
  | some x=>
   rw [hx,Option.bind_some] at h
   rw [FQ]
   exact (hb _ _ _ _ hx).bind (aaj hb l _ _ _ _ h)
theorem aku {ds:List eo} {bu:UB} {bt:TB} (hb:Pu bu bt) {nd:aG} {u u':TU} {n:Int} (h:Uj ds bu nd u=some (n,u')):sq u u' n (DH ds bt nd ⟨u.kv,true⟩):=by
 unfold Uj at h
 unfold DH
 split at h
 ·rename_i h1;rw [if_pos h1];exact hb _ _ _ _ h
 rename_i h1;rw [if_neg h1]
 split at h
 ·rename_i h2;rw [if_pos h2]
  cases hx:bu nd.a u with
  | none=>rw [hx] at h;cases h
  | some x=>
   rw [hx] at h
   cases h
   have:=(hb _ _ _ _ hx).bind (f:=fun x=>some (FP nd.n x.1 x.2)) (aeT (u:=x.2) (a:=nd.n) (b:=x.1) rfl)
   rw [Option.map_eq_bind]
   exact this
 rename_i h2;rw [if_neg h2]
 split at h
 ·rename_i h3;rw [if_pos h3];exact abJ hb h
 rename_i h3;rw [if_neg h3]
 split at h
 ·rename_i h4;rw [if_pos h4]
  cases hx:bu nd.a u with
  | none=>rw [hx] at h;cases h
  | some x=>
   rw [hx,Option.bind_some] at h
   cases hy:bu nd.b x.2 with
   | none=>rw [hy] at h;cases h
   | some y=>
    rw [hy] at h
    cases h
    refine (hb _ _ _ _ hx).bind ?_
    rw [Option.map_eq_bind]
    exact (hb _ _ _ _ hy).bind (.refl _ _)
 rename_i h4;rw [if_neg h4]
 split at h
 ·rename_i h5;rw [if_pos h5];exact aaj hb _ _ _ _ _ h
 ·rename_i h5;rw [if_neg h5];cases h;exact .refl _ _
theorem aak {ns:List aG} {iu:aG->TU->Option (Int × TU)} {it:aG->TS->Option (Int × TS)} (hi:∀nd u n u',iu nd u=some (n,u')->sq u u' n (it nd ⟨u.kv,true⟩)):∀(j:Nat) (sum place:Int) (u u':TU) (n:Int),Pt ns iu j sum place u=some (n,u')->sq u u' n (Am ns it j sum place ⟨u.kv,true⟩)
 | 0,_,_,_,_,_,h=>by cases h
 | j+1,sum,place,u,u',n,h=>by
  rw [Pt] at h
  rw [Am]
  split at h
  ·rename_i h1
   rw [if_pos ⟨rfl,h1.1,h1.2⟩]
   split at h
   ·cases h
   ·rename_i h2
    rw [if_neg h2]
    cases hx:iu (ns.getD place.toNat {}) u with
    | none=>rw [hx] at h;cases h
    | some x=>
     rw [hx,Option.bind_some] at h
     refine (hi _ _ _ _ hx).bind ?_
     have s1:=Y0 (u:=x.2) (a:=1) (b:=x.1) rfl
     have s2:=Y0 (u:=(yP 1 x.1 x.2).2) (a:=sum) (b:=(yP 1 x.1 x.2).1) rfl
     have s3:=aak hi j _ _ _ _ _ h
     have s23:=s2.bind (f:=fun y=>Am ns it j y.1 (ns.getD place.toNat {}).next y.2) s3
     have:=s1.bind (f:=fun y=>(some (xj sum y.1 y.2)).bind fun y=>Am ns it j y.1 (ns.getD place.toNat {}).next y.2) s23
     exact this
  ·rename_i h1
   rw [if_neg (fun e=>h1 ⟨e.2.1,e.2.2⟩)]
   cases h
   exact .refl _ _
theorem abK {ns:List aG} {ds:List eo}:∀k,Pu (Nl ns ds k) (JS ns ds k)
 | 0=>fun _ _ _ _ h=>by cases h
 | k+1=>fun place u n u' h=>by
  rw [Nl] at h;rw [JS]
  exact aak (fun nd u n u' h=>aku (abK k) h) 402 0 place u u' n h
def SR (fuel:Nat) (P:bw):Option (Int × JV):=
 if pJ P.defs < 0 then none
 else (Bt fuel P).bind fun e=>if e=false then none
 else (K0 P.defs (Nl P.nodes P.defs fuel) (pJ P.defs) ⟨[],[]⟩).map fun x=>(x.1,x.2.log)
theorem ad9 {fuel:Nat} {P:bw} {n:Int} {lg:JV} (h:SR fuel P=some (n,lg)) (hl:∀e∈lg,AV e):IF fuel P=some (n,true):=by
 unfold SR at h
 unfold IF
 split at h
 ·cases h
 ·rename_i h1
  rw [if_neg h1]
  cases he:Bt fuel P with
  | none=>rw [he] at h;cases h
  | some e=>
   rw [he,Option.bind_some] at h
   rw [Option.bind_some]
   split at h
   ·cases h
   ·rename_i h2
    rw [if_neg h2]
    cases hx:K0 P.defs (Nl P.nodes P.defs fuel) (pJ P.defs) ⟨[],[]⟩ with
    | none=>rw [hx] at h;cases h
    | some x=>
     rw [hx] at h
     cases h
     have:=(abJ (abK fuel) hx).2 hl
     rw [this]
     rfl
end Go.Proofs.YtinjmfblebpnnaaGreat.Ab
set_option maxRecDepth 1000000
namespace Go.Proofs.YtinjmfblebpnnaaGreat.Ab
open Go
def tT (d:Int) (T:List bc):List bc:=T.map fun t=>⟨t.kind,t.n,t.line,t.aj+d,t.text⟩
theorem RP {d:Int} {A:List bc}:∀(k:Nat) (u:bf) (line aj:Int) (acc T:List bc) (l' c':Int),u.all (fun x=>decide (x≠10))=true->uE k u line aj acc=some (T,l',c')->uE k u line (aj+d) (A++tT d acc)=some (A++tT d T,l',c'+d)
 | 0,_,_,_,_,_,_,_,_,h=>by cases h
 | k+1,[],line,aj,acc,T,l',c',_,h=>by cases h;rfl
 | k+1,c::r,line,aj,acc,T,l',c',hn,h=>by
  have iL:=hn
  rw [List.all_cons,Bool.and_eq_true,decide_eq_true_eq] at hn
  obtain ⟨h1,hr⟩:=hn
  rw [uE,if_neg h1] at h
  rw [uE,if_neg h1]
  split at h
  ·rename_i h2
   rw [if_pos h2,show aj+d+1=aj+1+d from by omega]
   exact RP k r _ _ _ _ _ _ hr h
  ·rename_i h2
   rw [if_neg h2]
   split at h
   ·cases h
   ·rename_i h3
    rw [if_neg h3]
    split at h
    ·cases h
    ·rename_i kind w hp
     have e1:aj+d+((w:Nat):Int)=aj+(w:Nat)+d:=by omega
     simp only [hp,e1]
     have:=RP (d:=d) (A:=A) k ((c::r).drop w) line (aj+(w:Nat)) _ T l' c' (by
      rw [List.all_eq_true] at iL ⊢
      exact fun x hx=>iL x (List.mem_of_mem_drop hx)) h
     rw [tT,List.map_append,<-List.append_assoc] at this
     exact this
def pT (u:bf):List bc:=match uE 600 u 1 1 [] with
 | some x=>x.1
 | none=>[]
def pC (u:bf):Int:=match uE 600 u 1 1 [] with
 | some x=>x.2.2
 | none=>0
def pB (u:bf):Bool:=match uE 600 u 1 1 [] with
 | some x=>decide (x.2.1=1)&&u.all fun c=>decide (c≠10)
 | none=>false
theorem SU {u:bf} (h:pB u=true) (d:Int) (A:List bc):uE 600 u 1 (1+d) A=some (A++tT d (pT u),1,pC u+d):=by
 unfold pB at h
 unfold pT pC
 split at h
 ·rename_i x hx
  rw [Bool.and_eq_true,decide_eq_true_eq] at h
  have:=RP (d:=d) (A:=A) 600 u 1 1 [] x.1 1 x.2.2 h.2 (by rw [hx,<-h.1])
  rw [show A++tT d []=A from List.append_nil _] at this
  exact this
 ·cases h
def tU:bf:=[100,101,102,32,102,40,110,58,32,105,110,116,41,32,123,32,108,111,111,112,32]
def tV:bf:=[32,123,32,108,101,116,32,121,32,61,32,110,32,43,32,49,59,32,108,101,116,32,122,32,61,32,121,32,43,32,49,59,32,125,32,105,102,32,110,32,123,32,100,111,110,101,32,125,32,101,108,115,101,32,123,32,108,101,116,32,113,32,61,32,49,59,32,108,101,116,32,119,32,61,32,50,59,32,100,111,110,101,32,125,32,125,32,100,101,102,32,109,97,105,110,40,41,32,123,32,108,111,111,112,32]
def Nm:bf:=[32,123,32]
def Eu:bf:=[115,112,97,119,110,32,102,40]
def JW:bf:=[41,59,32]
def Ev:bf:=[125,32,100,111,110,101,32,125]
def rA (h:bf):Nat->bf
 | 0=>h
 | i+1=>rA h i++((Eu++dS i)++JW)
theorem RS (h x:bf):∀i,rA (h++x) i=h++rA x i
 | 0=>rfl
 | i+1=>by rw [rA,RS h x i,List.append_assoc];rfl
def ss (c:Nat):bf:=rA Nm c++Ev
def su (c:Nat) (b a:Int) (tb ta:bf) (d2 d3 e2 e3 e4:Int):List bc:=((((tT 0 (pT tU)++[⟨2,b,1,e2,tb⟩])++tT d2 (pT tV))++[⟨2,a,1,e3,ta⟩])++tT d3 (pT (ss c)))++[⟨4,0,1,e4,[]⟩]
def vc (L:List bc):Option (Int × JV):=match SQ 60 L with
 | some (some P)=>if LJ P=true/\Bt 100 P=some true then SR 100 P else none
 | _=>none
def JX (b:Int):Int:=0+(1+b * 2)+(1+3)
def tW (b:Int):Nat->Int
 | 0=>0
 | i+1=>tW b i+(1+JX b)
def Nn (b:Int):Nat->JV
 | 0=>[(false,0+(1+b * 2),1+3),(false,1,3),(false,2,1),(false,1,0),(false,1,1),(false,1,0),(false,0,1),(false,1,0),(false,0,1),(false,1,0),(false,0,1+b * 2),(false,1,b * 2),(true,b,2),(false,1,1),(false,1,0),(false,0,1),(false,1,0)]
 | i+1=>(false,tW b i,1+JX b)::(false,1,JX b)::Nn b i
def tX (c:Nat) (b a:Int):JV:=(false,0+(1+a * tW b c),1+0)::(false,1,0)::(false,0,1+a * tW b c)::(false,1,a * tW b c)::(true,a,tW b c)::match c with
 | 0=>[]
 | i+1=>Nn b (i+1)
def sv (c:Nat) (b a:Int):Int:=0+(1+a * tW b c)+(1+0)
section
variable (b a:Int) (tb ta:bf) (d2 d3 e2 e3 e4:Int)
theorem ahP:vc (su 0 b a tb ta d2 d3 e2 e3 e4)=some (sv 0 b a,tX 0 b a):=by kernel_rfl
theorem ahQ:vc (su 1 b a tb ta d2 d3 e2 e3 e4)=some (sv 1 b a,tX 1 b a):=by kernel_rfl
theorem ahR:vc (su 2 b a tb ta d2 d3 e2 e3 e4)=some (sv 2 b a,tX 2 b a):=by kernel_rfl
theorem ahS:vc (su 3 b a tb ta d2 d3 e2 e3 e4)=some (sv 3 b a,tX 3 b a):=by kernel_rfl
theorem ahT:vc (su 4 b a tb ta d2 d3 e2 e3 e4)=some (sv 4 b a,tX 4 b a):=by kernel_rfl
theorem ahU:vc (su 5 b a tb ta d2 d3 e2 e3 e4)=some (sv 5 b a,tX 5 b a):=by kernel_rfl
theorem ahV:vc (su 6 b a tb ta d2 d3 e2 e3 e4)=some (sv 6 b a,tX 6 b a):=by kernel_rfl
theorem ahW:vc (su 7 b a tb ta d2 d3 e2 e3 e4)=some (sv 7 b a,tX 7 b a):=by kernel_rfl
theorem ahX:vc (su 8 b a tb ta d2 d3 e2 e3 e4)=some (sv 8 b a,tX 8 b a):=by kernel_rfl
theorem ahY:vc (su 9 b a tb ta d2 d3 e2 e3 e4)=some (sv 9 b a,tX 9 b a):=by kernel_rfl
theorem aeU:vc (su 10 b a tb ta d2 d3 e2 e3 e4)=some (sv 10 b a,tX 10 b a):=by kernel_rfl
theorem aeV:vc (su 11 b a tb ta d2 d3 e2 e3 e4)=some (sv 11 b a,tX 11 b a):=by kernel_rfl
theorem akv:∀c,c < 12->vc (su c b a tb ta d2 d3 e2 e3 e4)=some (sv c b a,tX c b a)
 | 0,_=>ahP b a tb ta d2 d3 e2 e3 e4
 | 1,_=>ahQ b a tb ta d2 d3 e2 e3 e4
 | 2,_=>ahR b a tb ta d2 d3 e2 e3 e4
 | 3,_=>ahS b a tb ta d2 d3 e2 e3 e4
 | 4,_=>ahT b a tb ta d2 d3 e2 e3 e4
 | 5,_=>ahU b a tb ta d2 d3 e2 e3 e4
 | 6,_=>ahV b a tb ta d2 d3 e2 e3 e4
 | 7,_=>ahW b a tb ta d2 d3 e2 e3 e4
 | 8,_=>ahX b a tb ta d2 d3 e2 e3 e4
 | 9,_=>ahY b a tb ta d2 d3 e2 e3 e4
 | 10,_=>aeU b a tb ta d2 d3 e2 e3 e4
 | 11,_=>aeV b a tb ta d2 d3 e2 e3 e4
 | n+12,h=>absurd h (by omega)
end
def Xe (c:Nat):Bool:=pB (ss c)&&(pT tU++(pT tV++pT (ss c))).all fun t=>decide (t.kind=2->t.n<=99)
theorem Zr:∀c,c < 12->Xe c=true
 | 0,_=>by kernel_rfl
 | 1,_=>by kernel_rfl
 | 2,_=>by kernel_rfl
 | 3,_=>by kernel_rfl
 | 4,_=>by kernel_rfl
 | 5,_=>by kernel_rfl
 | 6,_=>by kernel_rfl
 | 7,_=>by kernel_rfl
 | 8,_=>by kernel_rfl
 | 9,_=>by kernel_rfl
 | 10,_=>by kernel_rfl
 | 11,_=>by kernel_rfl
 | n+12,h=>absurd h (by omega)
theorem aeW:(pB tU&&pB tV)=true:=by kernel_rfl
theorem ES {a b:Int} (h1:0<=a) (h2:a<=1000000000) (h3:0<=b) (h4:b<=1000000000):AV (false,a,b):=by
 unfold AV
 rw [if_neg (show¬(false=true) by decide)]
 unfold uB uA
 rw [if_pos]
 simp only [Bool.and_eq_true,decide_eq_true_eq]
 omega
theorem Zs {a b:Int} (h1:0<=a) (h2:a<=100) (h3:0<=b) (h4:b<=1000000000):AV (true,a,b):=by
 unfold AV
 rw [if_pos rfl]
 unfold mulM uA
 rw [if_pos]
 simp only [Bool.and_eq_true,decide_eq_true_eq]
 refine ⟨by omega,by omega,fun h=>?_⟩
 have h5:(1152921504606846976:Int).tdiv 1000000000<=(1152921504606846976:Int).tdiv b:=by
  rw [Int.tdiv_eq_ediv_of_nonneg (by decide),Int.tdiv_eq_ediv_of_nonneg (by decide)]
  refine Int.le_ediv_of_mul_le h.1 ?_
  have:(1152921504606846976:Int) / 1000000000 * b<=(1152921504606846976:Int) / 1000000000 * 1000000000:=Int.mul_le_mul_of_nonneg_left h4 (by decide)
  exact Int.le_trans this (by decide)
 have h6:(1152921504606846976:Int).tdiv 1000000000=1152921504:=by decide
 omega
theorem Sk (b:Int):∀i:Nat,tW b i=(i:Int) * (6+2 * b)
 | 0=>by rw [tW];simp
 | i+1=>by
  rw [tW,Sk b i,Int.natCast_add,Int.add_mul]
  unfold JX
  show (i:Int) * (6+2 * b)+_=(i:Int) * (6+2 * b)+1 * (6+2 * b)
  omega
theorem Zt {b:Int} (h1:0<=b) (h2:b < 100) {i:Nat} (hi:i<=12):0<=tW b i/\tW b i<=3000:=by
 rw [Sk]
 have h3:(i:Int) * (6+2 * b)<=12 * (6+2 * b):=Int.mul_le_mul_of_nonneg_right (by omega) (by omega)
 exact ⟨Int.mul_nonneg (by omega) (by omega),by omega⟩
theorem Zu {b:Int} (h1:0<=b) (h2:b < 100):∀i,i<=12->∀e∈Nn b i,AV e
 | 0,_,e,he=>by
  simp only [Nn,List.mem_cons,List.not_mem_nil,or_false] at he
  rcases he with rfl | rfl | rfl | rfl | rfl | rfl | rfl | rfl | rfl | rfl | rfl | rfl | rfl | rfl | rfl | rfl | rfl
  all_goals first | exact ES (by omega) (by omega) (by omega) (by omega) | exact Zs (by omega) (by omega) (by omega) (by omega)
 | i+1,hi,e,he=>by
  rw [Nn,List.mem_cons,List.mem_cons] at he
  have hp:=Zt h1 h2 (i:=i) (by omega)
  have hf:JX b=5+2 * b:=by unfold JX;omega
  rcases he with rfl | rfl | he
  ·exact ES (by omega) (by omega) (by omega) (by omega)
  ·exact ES (by omega) (by omega) (by omega) (by omega)
  ·exact Zu h1 h2 i (by omega) e he
theorem ahZ {c:Nat} (hc:c < 12) {b a:Int} (h1:0<=b) (h2:b < 100) (h3:0<=a) (h4:a < 100):∀e∈tX c b a,AV e:=by
 intro e he
 have hp:=Zt h1 h2 (i:=c) (by omega)
 have k1:0<=a * tW b c:=Int.mul_nonneg h3 hp.1
 have k2:a * tW b c<=100 * tW b c:=Int.mul_le_mul_of_nonneg_right (by omega) hp.1
 unfold tX at he
 simp only [List.mem_cons] at he
 rcases he with rfl | rfl | rfl | rfl | rfl | he
 ·exact ES (by omega) (by omega) (by omega) (by omega)
 ·exact ES (by omega) (by omega) (by omega) (by omega)
 ·exact ES (by omega) (by omega) (by omega) (by omega)
 ·exact ES (by omega) (by omega) (by omega) (by omega)
 ·exact Zs (by omega) (by omega) (by omega) (by omega)
 ·split at he
  ·cases he
  ·exact Zu h1 h2 _ (by omega) e he
def dgB (n:Nat):Bool:=((dS n).all isDigit&&decide ((dS n).length<=3))&&(decide (dS n≠[])&&((decide ((dS n).length=1)||decide ((dS n).head?≠some 48))&&decide (mE (dS n)=n)))
theorem aeX:(List.range 100).all dgB=true:=by kernel_rfl
theorem aal {n:Nat} (h:n < 100):(dS n).all isDigit=true/\(dS n).length<=3/\dS n≠[]/\((dS n).length=1∨(dS n).head?≠some 48)/\mE (dS n)=n:=by
 have:=List.all_eq_true.1 aeX n (List.mem_range.2 h)
 unfold dgB at this
 simp only [Bool.and_eq_true,Bool.or_eq_true,decide_eq_true_eq] at this
 obtain ⟨⟨h1,h2⟩,h3,h4,h5⟩:=this
 exact ⟨h1,h2,h3,h4,h5⟩
theorem ah0 (c:Nat):∃X,ss c=32::X:=by
 refine ⟨rA [123,32] c++Ev,?_⟩
 unfold ss
 rw [show Nm=[32]++[123,32] from rfl,RS]
 rfl
theorem Y1 (h:bf):∀i,(rA h i).length<=h.length+14 * i
 | 0=>Nat.le_refl _
 | i+1=>by
  rw [rA,List.length_append,List.length_append,List.length_append]
  have:=Y1 h i
  have d:(dS i).length<=3:=Rt 3 i
  have e1:Eu.length=8:=rfl
  have e2:JW.length=3:=rfl
  omega
theorem ah1 {c a b:Nat} (hc:c < 12) (ha:a < 100) (hb:b < 100):∃d2 d3 e2 e3 e4 k,ey k (tU++(dS b++(tV++(dS a++ss c)))) 1 1 []=.ok (su c (b:Nat) (a:Nat) (dS b) (dS a) d2 d3 e2 e3 e4):=by
 have nf:=aeW
 rw [Bool.and_eq_true] at nf
 have lv:=Zr c hc
 unfold Xe at lv
 rw [Bool.and_eq_true] at lv
 obtain ⟨b1,b2,b3,b4,b5⟩:=aal hb
 obtain ⟨a1,a2,a3,a4,a5⟩:=aal ha
 obtain ⟨X,hX⟩:=ah0 c
 have P1:=SU nf.1 0 []
 rw [show ([]:List bc)++tT 0 (pT tU)=tT 0 (pT tU) from rfl,show (1:Int)+0=1 from rfl] at P1
 obtain ⟨A1,Qb⟩:∃A1,A1=tT 0 (pT tU):=⟨_,rfl⟩
 obtain ⟨C1,hC1⟩:∃C1,C1=pC tU+0:=⟨_,rfl⟩
 rw [<-Qb,<-hC1] at P1
 obtain ⟨A2,hA2⟩:∃A2,A2=A1++[⟨2,((b:Nat):Int),1,C1,dS b⟩]:=⟨_,rfl⟩
 obtain ⟨d2,DR⟩:∃d2:Int,d2=C1+((dS b).length:Nat) - 1:=⟨_,rfl⟩
 have P2:=SU nf.2 d2 A2
 rw [show (1:Int)+d2=C1+((dS b).length:Nat) from by omega] at P2
 obtain ⟨A3,hA3⟩:∃A3,A3=A2++tT d2 (pT tV):=⟨_,rfl⟩
 obtain ⟨C3,hC3⟩:∃C3,C3=pC tV+d2:=⟨_,rfl⟩
 rw [<-hA3,<-hC3] at P2
 obtain ⟨A4,Jo⟩:∃A4,A4=A3++[⟨2,((a:Nat):Int),1,C3,dS a⟩]:=⟨_,rfl⟩
 obtain ⟨d3,PI⟩:∃d3:Int,d3=C3+((dS a).length:Nat) - 1:=⟨_,rfl⟩
 have P3:=SU lv.1 d3 A4
 rw [show (1:Int)+d3=C3+((dS a).length:Nat) from by omega] at P3
 obtain ⟨A5,hA5⟩:∃A5,A5=A4++tT d3 (pT (ss c)):=⟨_,rfl⟩
 obtain ⟨C5,hC5⟩:∃C5,C5=pC (ss c)+d3:=⟨_,rfl⟩
 rw [<-hA5,<-hC5] at P3
 have f5:ey 1 [] 1 C5 A5=.ok (A5++[⟨4,0,1,C5,[]⟩]):=rfl
 have f4:=HG 600 (ss c) 1 (C3+((dS a).length:Nat)) A4 A5 1 C5 [] 1 _ P3 f5
 rw [List.append_nil,hX,Jo] at f4
 have f3:=YZ (ds:=dS a) (c:=32) (X:=X) (line:=1) (aj:=C3) (acc:=A3) a1 (by decide) (by omega) a3 a4 (by rw [a5];exact f4)
 rw [<-hX] at f3
 have f2:=HG 600 tV 1 (C1+((dS b).length:Nat)) A2 A3 1 C3 (dS a++ss c) _ _ P2 f3
 rw [hA2] at f2
 have f1:=YZ (ds:=dS b) (c:=32) (X:=tV.tail++(dS a++ss c)) (line:=1) (aj:=C1) (acc:=A1) b1 (by decide) (by omega) b3 b4 (by rw [b5];exact f2)
 have f0:=HG 600 tU 1 1 [] A1 1 C1 (dS b++(tV++(dS a++ss c))) _ _ P1 f1
 refine ⟨d2,d3,C1,C3,C5,_,f0.trans ?_⟩
 rw [hA5,Jo,hA3,hA2,Qb]
 rfl
theorem aeY {c a b:Nat} (hc:c < 12) (ha:a < 100) (hb:b < 100) {s:bf} (hs:s=tU++(dS b++(tV++(dS a++ss c)))) (hl:s.length<=16384):
  ∃P,Fa 60 s=some (some P)/\LJ P=true/\Bt 100 P=some true/\IF 100 P=some (sv c (b:Nat) (a:Nat),true):=by
 obtain ⟨d2,d3,e2,e3,e4,k,hlx⟩:=ah1 hc ha hb
 have ht:=acC (s:=s) hl (by rw [hs];exact hlx)
 have lv:=Zr c hc
 unfold Xe at lv
 rw [Bool.and_eq_true,List.all_eq_true] at lv
 have hn:∀t∈su c (b:Nat) (a:Nat) (dS b) (dS a) d2 d3 e2 e3 e4,t.kind=2->t.n<=99:=by
  intro t hm hk
  have fin:∀{d:Int} {T:List bc},(∀x∈T,x∈pT tU++(pT tV++pT (ss c)))->t∈tT d T->t.n<=99:=fun {d T} hT hx=>by
   unfold tT at hx
   obtain ⟨x,mh,rfl⟩:=List.mem_map.1 hx
   have:=lv.2 x (hT x mh)
   rw [decide_eq_true_eq] at this
   exact this hk
  unfold su at hm
  simp only [List.mem_append,List.mem_singleton] at hm
  rcases hm with ((((hm | hm) | hm) | hm) | hm) | hm
  ·exact fin (fun x hx=>by simp [hx]) hm
  ·rw [hm];show ((b:Nat):Int)<=99;omega
  ·exact fin (fun x hx=>by simp [hx]) hm
  ·rw [hm];show ((a:Nat):Int)<=99;omega
  ·exact fin (fun x hx=>by simp [hx]) hm
  ·rw [hm] at hk;exact absurd hk (show¬((4:Int)=2) by decide)
 have hv:=akv (b:Nat) (a:Nat) (dS b) (dS a) d2 d3 e2 e3 e4 c hc
 rw [aeS hn ht]
 unfold vc at hv
 split at hv
 ·rename_i P hP
  split at hv
  ·rename_i hz
   exact ⟨P,hP,hz.1,hz.2,ad9 hv (ahZ hc (by omega) (by omega) (by omega) (by omega))⟩
  ·cases hv
 ·cases hv
theorem CY {P:Program} {X:Nat->Bool} {H:ad} {r:KO} {v:Value} {K:Value->ad->Prop} {tg:Tag K} (hr:r=.ok v h0) (hk:K v H):ew P X H (ia r H) K tg:=by
 rw [hr]
 exact ⟨fun _ _ _=>rfl,hk⟩
theorem ah2 {c a b:Nat} (hc:c < 12) (ha:a < 100) (hb:b < 100):IntKind.wrap .i64 (IntKind.wrap .i64 (1+IntKind.wrap .i64 (IntKind.wrap .i64 (((a:Nat):Int) * ((c:Nat):Int)) * IntKind.wrap .i64 (1+IntKind.wrap .i64 (IntKind.wrap .i64 (IntKind.wrap .i64 (1+IntKind.wrap .i64 (2 * ((b:Nat):Int)))+1)+3))))+1)=sv c (b:Nat) (a:Nat):=by
 have h1:a * c<=100 * c:=Nat.mul_le_mul_right c (by omega)
 have e0:((a:Nat):Int) * ((c:Nat):Int)=((a * c:Nat):Int):=by rw [Int.natCast_mul]
 rw [e0,lF (n:=2 * ((b:Nat):Int)) (by omega) (by omega),lF (n:=((a * c:Nat):Int)) (by omega) (by omega)]
 rw [lF (n:=1+2 * ((b:Nat):Int)) (by omega) (by omega),lF (n:=1+2 * ((b:Nat):Int)+1) (by omega) (by omega),lF (n:=1+2 * ((b:Nat):Int)+1+3) (by omega) (by omega),lF (n:=1+(1+2 * ((b:Nat):Int)+1+3)) (by omega) (by omega)]
 have e1:(((a * c:Nat):Int)) * (1+(1+2 * ((b:Nat):Int)+1+3))=((a * c * (6+2 * b):Nat):Int):=by
  rw [Int.natCast_mul (a * c),show (1+(1+2 * ((b:Nat):Int)+1+3))=((6+2 * b:Nat):Int) from by omega]
 have h2:a * c * (6+2 * b)<=1200 * (6+2 * b):=Nat.mul_le_mul_right _ (by omega)
 rw [e1,lF (n:=((a * c * (6+2 * b):Nat):Int)) (by omega) (by omega),lF (n:=1+((a * c * (6+2 * b):Nat):Int)) (by omega) (by omega),lF (n:=1+((a * c * (6+2 * b):Nat):Int)+1) (by omega) (by omega)]
 unfold sv
 rw [Sk,show ((a:Nat):Int) * (((c:Nat):Int) * (6+2 * ((b:Nat):Int)))=((a * c * (6+2 * b):Nat):Int) from by
  rw [Nat.mul_assoc,Int.natCast_mul,Int.natCast_mul,show (6+2 * ((b:Nat):Int))=((6+2 * b:Nat):Int) from by omega]]
 omega
theorem termCounts_walk {H:ad} {a0 a1 a2:Int}:ak Tryz.prog 7 #[.int .i64 a0,.int .i64 a1,.int .i64 a2] H (fun w _=>w=.bool true):=by
 refine ak.told ?_
 refine qz (l:=[_,_,_]) _ mixed Tryz.func7 akT [.tmp 6] (show 3<=74 by decide) rfl fun hf=>?_
 simp only [Tryz.f7,Option.getD_some]
 have hX:∀{c:Nat},H.next<=c->H.fz c=false:=fun h=>hf.fresh h
 simp only [go_sem]
 refine ag.by (NN (v:=a0) (n:=100) (by decide)) ?_
 rintro _ _ - ⟨rfl,rfl⟩
 simp only [go_sem]
 refine ag.by (NN (v:=a1) (n:=100) (by decide)) ?_
 rintro _ _ - ⟨rfl,rfl⟩
 simp only [go_sem]
 refine ag.by (NN (v:=a2) (n:=12) (by decide)) ?_
 rintro _ _ - ⟨rfl,rfl⟩
 have hba:=Sa a0 100 (by decide)
 have iB:=Sa a1 100 (by decide)
 have hbc:=Sa a2 12 (by decide)
 obtain ⟨a,ha⟩:=Int.eq_ofNat_of_zero_le hba.1
 obtain ⟨b,hb⟩:=Int.eq_ofNat_of_zero_le iB.1
 obtain ⟨c,hc⟩:=Int.eq_ofNat_of_zero_le hbc.1
 rw [ha] at hba ⊢
 rw [hb] at iB ⊢
 rw [hc] at hbc ⊢
 have ha1:a < 100:=by omega
 have ik:b < 100:=by omega
 have eA:c < 12:=by omega
 have dl:∀n,(dS n).length<=3:=fun n=>Rt 3 n
 have l1:tU.length=21:=rfl
 have l2:tV.length=105:=rfl
 have l3:Nm.length=3:=rfl
 have lA:Eu.length=8:=rfl
 have lB:JW.length=3:=rfl
 have l5:Ev.length=8:=rfl
 have da:=dl a
 have db:=dl b
 simp only [go_sem]
 refine ag.by (Ru (i:=b) (by omega)) ?_
 rintro _ H1 - ⟨rfl,o1⟩
 obtain ⟨x1,fA⟩:∃x,x=tU++dS b:=⟨_,rfl⟩
 obtain ⟨x2,mh⟩:∃x,x=x1++tV:=⟨_,rfl⟩
 obtain ⟨x3,Xf⟩:∃x,x=x2++dS a:=⟨_,rfl⟩
 obtain ⟨hd,Xg⟩:∃x,x=x3++Nm:=⟨_,rfl⟩
 have z1:x1.length<=24:=by rw [fA,List.length_append];omega
 have z2:x2.length<=129:=by rw [mh,List.length_append];omega
 have z3:x3.length<=132:=by rw [Xf,List.length_append];omega
 have df:hd.length<=200:=by rw [Xg,List.length_append];omega
 have s1:∀{h:KH},eC Tryz.prog .add 9 (ae tU) (ae (dS b)) h=.ok (ae x1) h:=by rw [fA];exact A9 (by omega)
 have s2:∀{h:KH},eC Tryz.prog .add 9 (ae x1) (ae tV) h=.ok (ae x2) h:=by rw [mh];exact A9 (by omega)
 have s3:∀{h:KH},eC Tryz.prog .add 9 (ae x2) (ae (dS a)) h=.ok (ae x3) h:=by rw [Xf];exact A9 (by omega)
 have s4:∀{h:KH},eC Tryz.prog .add 9 (ae x3) (ae Nm) h=.ok (ae hd) h:=by rw [Xg];exact A9 (by omega)
 simp only [go_sem]
 refine CY s1 ?_
 simp only [go_sem]
 refine CY s2 ?_
 simp only [go_sem]
 refine ag.by (Ru (i:=a) (by omega)) ?_
 rintro _ H2 - ⟨rfl,o2⟩
 simp only [go_sem]
 refine CY s3 ?_
 simp only [go_sem]
 refine CY s4 ?_
 simp only [go_sem]
 have o12:ba H H2:=o1.trans o2
 have fk:∀i,(rA hd i).length<=200+14 * i:=fun i=>Nat.le_trans (Y1 hd i) (by omega)
 refine qH 549487378816 c (fun i V H1=>V 8=iV (i:Nat)/\V 7=ae (rA hd i)/\ba H H1)
  ⟨by simp only [go_sem] <;> rfl,by simp only [go_sem] <;> rfl,((o12.fr []).ai _).aH⟩ ?_ ?_ (by rfl)
 ·rintro i V H3 hi ⟨e8,e7,o3⟩
  have ct:IntKind.wrap .i64 (((i:Nat):Int)+1)=((i+1:Nat):Int):=cZ hi (by omega)
  simp only [go_sem,e8,e7,hi]
  refine ag.by (Ru (i:=i) (by omega)) ?_
  rintro _ H4 - ⟨rfl,o4⟩
  have di:=dl i
  have uK:=fk i
  have t1:∀{h:KH},eC Tryz.prog .add 9 (ae Eu) (ae (dS i)) h=.ok (ae (Eu++dS i)) h:=A9 (by omega)
  have t2:∀{h:KH},eC Tryz.prog .add 9 (ae (Eu++dS i)) (ae JW) h=.ok (ae ((Eu++dS i)++JW)) h:=A9 (by simp only [List.length_append];omega)
  have t3:∀{h:KH},eC Tryz.prog .add 9 (ae (rA hd i)) (ae ((Eu++dS i)++JW)) h=.ok (ae (rA hd (i+1))) h:=A9 (by simp only [List.length_append];omega)
  simp only [go_sem,e7]
  refine CY t1 ?_
  simp only [go_sem]
  refine CY t2 ?_
  simp only [go_sem]
  rw [e7]
  refine CY t3 ?_
  simp only [go_sem,e8,ct]
  exact ((((o3.fr []).ai H.fz).aH.trans o4).fr [] |>.ai _ |>.ai _).aH
 ·rintro V H3 ⟨e8,e7,o3⟩
  have lv:¬c < c:=by omega
  have axn:=fk c
  have t4:∀{h:KH},eC Tryz.prog .add 9 (ae (rA hd c)) (ae Ev) h=.ok (ae (rA hd c++Ev)) h:=A9 (by omega)
  simp only [go_sem,e8,e7,lv]
  refine CY t4 ?_
  have hs:rA hd c++Ev=tU++(dS b++(tV++(dS a++ss c))):=by
   rw [Xg,Xf,mh,fA,RS]
   unfold ss
   simp only [List.append_assoc]
  have hlen:(rA hd c++Ev).length<=16384:=by rw [List.length_append];omega
  obtain ⟨P,hP,hzp,hE,hM⟩:=aeY eA ha1 ik hs hlen
  generalize rA hd c++Ev=txt at hP hlen ⊢
  simp only [go_sem]
  refine ag.by (XV (by omega) hP) ?_
  rintro _ H4 - ⟨o4,z4,px,rfl,LK⟩
  have n4:H3.next<=H4.next:=o4.nx
  have n24:H.next<=H4.next:=Nat.le_trans o3.nx n4
  have Gy:H.fz H4.next=false:=hX n24
  simp only [go_sem,Gy]
  obtain ⟨H5,jK⟩:∃H5,H5=(H4.push ⟨px.c P,28,false,false⟩).ai H.fz:=⟨_,rfl⟩
  have o5:ba H4 H5:=by rw [jK];exact (((Fr.refl [] H4).push _).ai _).aH
  have p5:H5.get H4.next=some ⟨px.c P,28,false,false⟩:=by rw [jK,bg,aV,if_pos rfl]
  have n5:H5.next=H4.next+1:=by rw [jK];rfl
  rw [<-jK]
  clear jK
  refine ag.by (Zq (LK.af o5) (RK hzp) (by decide) hM) ?_
  rintro _ H6 - ⟨rfl,o6,z6⟩
  have S0:=ah2 eA ha1 ik
  simp only [go_sem,S0]
  refine ag.by ab5 ?_
  rintro _ H8 - ⟨rfl,o8⟩
  simp only [go_sem]
end Go.Proofs.YtinjmfblebpnnaaGreat.Ab
