/- Lemmas for the walk, part 2. -/
import Derived.Attr
import Derived.Below
import Derived.ChangeArms
import Derived.ChangeSlices
import Derived.DataReads
import Derived.Deep.Slices
import Derived.KernelRfl
import Derived.Test.YtinjmfblebpnnaaGreatProg
import Derived.WideShapes
import Derived.Test.YtinjmfblebpnnaaGreatC1
set_option linter.unusedVariables false
set_option linter.unusedSimpArgs false
set_option maxHeartbeats 16000000
namespace Go.Proofs.YtinjmfblebpnnaaGreat.Ab
open Go Classical
abbrev Env:=Nat->Value
def nL (E:Env) (d:Option Nat) (v:Value):Env:=match d with
 | some d=>fun i=>if i=d then v else E i
 | none=>E
def jz (E:Env) (x:Operand):Value:=match x with
 | .tmp i=>E i
 | .const v=>v
 | .func f=>.func (.func f) #[] #[]
 | .global g=>.pointer (some ⟨g,0,none⟩)
def b7 (l:List Value):Env:=fun i=>l.getD i undef
structure TE (n:Nat) (t:Act) (E:Env):Prop where
 get:∀i,t.tmps.getD i undef=E i
 size:t.tmps.size=n
 LQ:t.defers=[]
theorem TE.ev {n:Nat} {t:Act} {E:Env} (h:TE n t E):jz E=t.eval:=by
 funext x
 cases x with
 | tmp i=>exact (h.get i).symm
 | const v=>rfl
 | func f=>rfl
 | global g=>rfl
theorem TE.put {n:Nat} {t:Act} {E:Env} (h:TE n t E) {d:Option Nat} (hd:∀x,d=some x->x < n) (v:Value):TE n (t.put d v) (nL E d v):=by
 refine ⟨fun i=>?_,by rw [J9];exact h.size,by rw [JY];exact h.LQ⟩
 rw [J8]
 cases d with
 | none=>rw [if_neg (fun hx=>by cases hx.1)];exact h.get i
 | some x=>
  have hx:=hd x rfl
  rw [h.size]
  show _=if i=x then v else E i
  by_cases hi:i=x
  ·subst hi;simp [hx]
  ·have:¬(some x=some i/\i < n):=fun hh=>hi (Option.some.inj hh.1).symm
   rw [if_neg this,if_neg hi];exact h.get i
def Io (v:Value) (want:Bool):Bool:=match v with
 | .bool b=>b==want
 | _=>false
def zY (E:Env) (want:Bool) (d:Option (Option Nat)):Bool:=match d with
 | some (some d)=>Io (E d) want
 | _=>false
def Ip (ds:List (Option Nat)) (E:Env) (gd:Option (Nat × Bool)):Bool:=match gd with
 | none=>true
 | some (j,want)=>zY E want ds[j]?
theorem NA {n:Nat} {t:Act} {E:Env} (h:TE n t E) (ops:Array Oper) (o:Oper):Ip (ops.toList.map (·.dst)) E o.guard=Region.wanted o (yielded ops t.tmps):=by
 unfold Region.wanted Ip
 cases hg:o.guard with
 | none=>rfl
 | some jw=>
  obtain ⟨j,want⟩:=jw
  simp only [List.getElem?_map,Array.getElem?_toList,yielded]
  cases ho:ops[j]? with
  | none=>simp [zY]
  | some o2=>
   simp only [Option.map_some,Option.bind_some]
   cases hd:o2.dst with
   | none=>simp [zY]
   | some d=>
    simp only [Option.bind_some]
    have hh:=h.get d
    by_cases be:d < t.tmps.size
    ·have:t.tmps.getD d undef=t.tmps[d]:=by simp [Array.getD,be]
     rw [this] at hh
     simp only [zY,Array.getElem?_eq_getElem be,<-hh]
     cases t.tmps[d] <;> simp [Io]
    ·have:t.tmps.getD d undef=undef:=by simp [Array.getD,be]
     rw [this] at hh
     simp only [zY,Array.getElem?_eq_none (Nat.le_of_not_lt be),<-hh]
     simp [Io,undef]
structure bV (H:ad):Prop where
 wf:H.wf
 fz:∀b,H.fz b=true->b < H.next
structure KX (X:Nat->Bool) (H H':ad):Prop where
 nx:H.next<=H'.next
 get:∀b,X b=true->H'.get b=H.get b
 fz:∀b,X b=true->H'.fz b=true
 iy:bV H'
def ak (P:Program) (f:FuncId) (args:Array Value) (H:ad) (K:Value->ad->Prop):Prop:=
 bV H->∃v H',i5 dT H H'/\Up P f args H v H'/\KX H.fz H H'/\K v H'
theorem ak.mono {P:Program} {f:FuncId} {args:Array Value} {H:ad} {K K':Value->ad->Prop} (h:ak P f args H K) (hk:∀v H',KX H.fz H H'->K v H'->K' v H'):ak P f args H K':=fun hf=>by
 obtain ⟨v,H',h1,h2,h3,h4⟩:=h hf
 exact ⟨v,H',h1,h2,h3,hk v H' h3 h4⟩
def ad.ai (H:ad) (fz:Nat->Bool):ad:=⟨H.next,H.get,fz⟩
theorem ak.ai {P:Program} {f:FuncId} {args:Array Value} {H:ad} {K:Value->ad->Prop}
  (h:ak P f args H fun v H'=>∃L6:Nat->Bool,(∀b,H.fz b=true->L6 b=true)/\(∀b,L6 b=true->b < H'.next)/\K v (H'.ai L6)):ak P f args H K:=fun hf=>by
 obtain ⟨v,H',h1,h2,h3,L6,h4,h5,h6⟩:=h hf
 exact ⟨v,H'.ai L6,⟨h1.next,h1.wf,h1.same⟩,fun σ w C9 hr bj ha=>(h2 σ w C9 hr bj ha).mono fun e w' ⟨σ',v',h,p,hv⟩=>⟨σ',v',h,⟨p.rel,p.ext,p.size,p.af,p.oZ,p.uF,p.rest⟩,hv⟩,⟨h3.nx,h3.get,h4,⟨h3.iy.wf,h5⟩⟩,h6⟩
def jL (P:Program) (op:Op):Nat:=match op with
 | .move _ | .assign _ | .pick _ _ _ | .nilCheck _ | .binOp _ _ _ _ _ | .unOp _ _ _ | .fieldAddr _ _ _ | .field _ _ _ | .indexAddr _ _ _ | .index _ _ _ | .extract _ _ | .build _ _ | .makeFunc _ _ _ | .slice _ _ _ _ _=>0
 | .load _ _=>1
 | .alloc _ | .box _ _ | .buildSlice _ _ _ | .makeSlice _ _ _ | .makeMap _ _=>2
 | .convert s _ _=>(match P.underlying s with
  | some (.int _)=>0
  | _=>4)
 | .call c=>(match c.callee with
  | .value _=>3
  | .builtin .len | .builtin .min | .builtin .max=>0
  | _=>4)
 | _=>4
def X7 (a b:Nat):Bool:=a==0||b==0||(a==1&&(b==1||b==2))||(a==2&&(b==2||b==3))||((a==3||a==4)&&b==2)
def X8 (a b:Nat):Bool:=(a==1&&(b==3||b==4))||((a==3||a==4||a==2)&&b==1)||(a==2&&b==4)
def oS (P:Program) (ops:Array Oper) (i:Nat):Nat:=match ops[i]? with
 | some o=>jL P o.op
 | none=>0
def N4 (P:Program) (ops:Array Oper) (tb:List (Nat × Nat)):Bool:=
 (List.range ops.size).all fun k=>(List.range k).all fun i=>((yj ops ops.size).getD k 0).testBit i||X7 (oS P ops i) (oS P ops k)||(X8 (oS P ops i) (oS P ops k)&&tb.contains (i,k))
structure Rec where
 ob:mf
 nw:Option Nat
 h:ad
 h':ad
noncomputable def lG (P:Program) (ev:Operand->Value) (op:Op):mf:=match op with
 | .load ty a=>(match ev a with
  | .pointer (some ⟨b,o,none⟩)=>some (b,uo P ty o)
  | _=>none)
 | _=>none
def vi (P:Program) (op:Op) (H:ad):Option Nat:=if jL P op=2 then some H.next else none
def ym (ob:mf) (H H':ad):Prop:=match ob with
 | some (b,π)=>π (H'.get b)=π (H.get b)
 | none=>True
def OM (nw:Option Nat) (H H':ad):Prop:=match nw with
 | some a=>H'.get a=H.get a
 | none=>True
def K3 (r:Option Rec) (ob:mf) (H H':ad):Prop:=match r with
 | some r=>ym ob r.h r.h'/\ym r.ob H H'/\OM r.nw H H'
 | none=>True
def look (acc:List (Nat × Rec)) (i:Nat):Option Rec:=match acc with
 | []=>none
 | p::acc=>if p.1=i then some p.2 else look acc i
def uq (tb:List (Nat × Nat)) (k:Nat) (acc:List (Nat × Rec)) (ob:mf) (H H':ad):Prop:=match tb with
 | []=>True
 | p::tb=>(if p.2=k then K3 (look acc p.1) ob H H' else True)/\uq tb k acc ob H H'
def told (tb:List (Nat × Nat)) (i:Nat):Bool:=tb.any fun p=>p.1==i
def note (tb:List (Nat × Nat)) (i:Nat) (r:Rec) (acc:List (Nat × Rec)):List (Nat × Rec):=if told tb i=true then (i,r)::acc else acc
section
variable (P:Program) (X:Nat->Bool)
def fH (ev:Operand->Value) (op:Op) (H:ad) (K:Value->ad->Prop):Prop:=match oB P ev op H with
 | .ok v H'=>(∀b,b < H.next->X b=true->H'.get b=H.get b)/\K v H'
 | .call f args=>ak P f args H K
 | .no=>False
def lk (ds:List (Option Nat)):List Oper->Env->ad->(Env->ad->Prop)->Prop
 | [],E,H,K=>K E H
 | o::l,E,H,K=>if Ip ds E o.guard=true then fH P X (jz E) o.op H (fun v H'=>lk ds l (nL E o.dst v) H' K) else lk ds l (nL E o.dst undef) H K
def jc (tb:List (Nat × Nat)) (ds:List (Option Nat)):List Oper->Nat->List (Nat × Rec)->Env->ad->(Env->ad->Prop)->Prop
 | [],_,_,E,H,K=>K E H
 | o::l,k,acc,E,H,K=>if Ip ds E o.guard=true then fH P X (jz E) o.op H (fun v H'=>uq tb k acc (lG P (jz E) o.op) H H'/\
   jc tb ds l (k+1) (note tb k ⟨lG P (jz E) o.op,vi P o.op H,H,H'⟩ acc) (nL E o.dst v) H' K) else jc tb ds l (k+1) acc (nL E o.dst undef) H K
def oT (k:Env->ad->Prop) (Q:Exit->Env->ad->Prop):Exit->Env->ad->Prop
 | .normal,E,H=>k E H
 | e,E,H=>Q e E H
def vx (id:Nat) (Q:Exit->Env->ad->Prop):Exit->Env->ad->Prop
 | .exit i,E,H=>if i=id then Q .normal E H else Q (.exit i) E H
 | e,E,H=>Q e E H
def Bw (v:Value) (x y:Prop):Prop:=match v with
 | .bool b=>if b=true then x else y
 | _=>False
def qd (step:Env->ad->(Exit->Env->ad->Prop)->Prop):Nat->Env->ad->(Exit->Env->ad->Prop)->Prop
 | 0,_,_,_=>False
 | n+1,E,H,Q=>step E H (oT (fun E H=>qd step n E H Q) Q)
abbrev oF:=List (Nat × List (Nat × Nat))
def Aw (T:oF) (id:Nat):List (Nat × Nat):=match T with
 | []=>[]
 | p::T=>if p.1=id then p.2 else Aw T id
def wC (T:oF):Code->Env->ad->(Exit->Env->ad->Prop)->Prop
 | .skip,E,H,Q=>Q .normal E H
 | .label _,E,H,Q=>Q .normal E H
 | .exit id,E,H,Q=>Q (.exit id) E H
 | .ret,E,H,Q=>Q .ret E H
 | .seq a b,E,H,Q=>wC T a E H (oT (fun E H=>wC T b E H Q) Q)
 | .cond c a b,E,H,Q=>Bw (jz E c) (wC T a E H Q) (wC T b E H Q)
 | .block id a,E,H,Q=>wC T a E H (vx id Q)
 | .loop a,E,H,Q=>∃n,qd (wC T a) n E H Q
 | .region _ ops false,E,H,Q=>lk P X (ops.toList.map (·.dst)) ops.toList E H (Q .normal)
 | .region id ops true,E,H,Q=>jc P X (Aw T id) (ops.toList.map (·.dst)) ops.toList 0 [] E H (Q .normal)
 | _,_,_,_=>False
def mH (T:oF) (n:Nat):Code->Bool
 | .skip | .exit _ | .ret | .label _=>true
 | .seq a b=>mH T n a&&mH T n b
 | .cond c a b=>tY c&&mH T n a&&mH T n b
 | .block _ a | .loop a=>mH T n a
 | .region id ops draw=>Kg n ops&&(!draw||(Nv ops&&N4 P ops (Aw T id)))
 | _=>false
noncomputable def xe (rs:List ResultVar) (E:Env) (H:ad):Option (List Value):=match rs with
 | []=>some []
 | r::rs=>match xe rs E H with
  | some l=>(match r with
   | .tmp t=>some (E t::l)
   | .cell a t=>match sx P t (E a) H with
    | .ok v _=>some (v::l)
    | _=>none)
  | none=>none
def BA (rs:List ResultVar) (E:Env) (H:ad) (K:Value->ad->Prop):Prop:=match xe P rs E H with
 | some l=>K (II l) H
 | none=>False
def cj (rs:List ResultVar) (K:Value->ad->Prop):Exit->Env->ad->Prop
 | .normal,E,H=>BA P rs E H K
 | .ret,E,H=>BA P rs E H K
 | _,_,_=>False
end
section
variable {P:Program} {X:Nat->Bool}
structure yn (X:Nat->Bool) (H:ad):Prop where
 iy:bV H
 sub:∀b,X b=true->H.fz b=true
theorem KX.refl {H:ad} (h:yn X H):KX X H H:=⟨Nat.le_refl _,fun _ _=>rfl,h.sub,h.iy⟩
theorem KX.trans {H H1 H2:ad} (h:KX X H H1) (h':KX X H1 H2):KX X H H2:=
 ⟨Nat.le_trans h.nx h'.nx,fun b hb=>(h'.get b hb).trans (h.get b hb),h'.fz,h'.iy⟩
theorem KX.inv {H H':ad} (h:KX X H H'):yn X H':=⟨h.iy,h.fz⟩
structure wU (H H':ad):Prop where
 nx:H.next<=H'.next
 fz:∀b,H.fz b=true->H'.fz b=true
 fw:(∀b,H.fz b=true->b < H.next)->∀b,H'.fz b=true->b < H'.next
theorem wU.refl (H:ad):wU H H:=⟨Nat.le_refl _,fun _ h=>h,fun h=>h⟩
theorem wU.ah (H:ad) (b:Nat) (B:cw):wU H (H.ah b B):=⟨Nat.le_refl _,fun _ h=>h,fun h=>h⟩
theorem wU.push (H:ad) (B:cw):wU H (H.push B):=by
 refine ⟨Nat.le_succ _,fun b h=>?_,fun h b hb=>?_⟩
 ·show (b==H.next||H.fz b)=true
  rw [h,Bool.or_true]
 ·have dY:(b==H.next||H.fz b)=true:=hb
  show b < H.next+1
  rw [Bool.or_eq_true,beq_iff_eq] at dY
  rcases dY with h1 | h1
  ·omega
  ·have:=h b h1;omega
theorem wU.grow (H:ad) (c:Nat) (B:cw):wU H (H.grow c B):=by
 refine ⟨Nat.le_succ _,fun b h=>?_,fun h b hb=>?_⟩
 ·show (b==H.next||H.fz b)=true
  rw [h,Bool.or_true]
 ·have dY:(b==H.next||H.fz b)=true:=hb
  show b < H.next+1
  rw [Bool.or_eq_true,beq_iff_eq] at dY
  rcases dY with h1 | h1
  ·omega
  ·have:=h b h1;omega
theorem QY {r:KO} {H H':ad} {v:Value} (h:ia r H=.ok v H'):wU H H':=by
 obtain ⟨_,_,rfl⟩:=oP h;exact .refl _
theorem No {b o:Nat} {vs:List Value} {v v':Value} {H H':ad} (hh:qx b o vs v H=.ok v' H'):wU H H':=by
 unfold qx at hh
 (repeat' split at hh) <;> cases hh
 exact .ah _ _ _
theorem J4 {cs:List Value} {e:TypeId} {hV:Bool} {k:Nat->Value} {H H':ad} {v:Value} (hh:rK cs e hV k H=.ok v H'):wU H H':=by
 cases hh;exact .push _ _
theorem adF {ev:Operand->Value} {op:Op} {H H':ad} {v:Value} (hh:oB P ev op H=.ok v H'):wU H H':=by
 cases op <;> simp only [oB] at hh <;> first
  | (cases hh;done)
  | (cases hh;exact .refl _)
  | exact QY hh
  | exact J4 hh
  | skip
 case alloc=>unfold C0 at hh;split at hh <;> first | exact J4 hh | (cases hh;done)
 case buildSlice=>unfold sw at hh;(repeat' split at hh) <;> first | exact J4 hh | (cases hh;done)
 case makeSlice=>unfold CU at hh;(repeat' split at hh) <;> first | exact J4 hh | (cases hh;done)
 case load=>unfold sx at hh;(repeat' split at hh) <;> cases hh <;> exact .refl _
 case makeMap t r=>cases r <;> cases hh;exact .push _ _
 case lookup=>unfold EU at hh;(repeat' split at hh) <;> cases hh <;> exact .refl _
 case mapUpdate=>unfold Fi at hh;(repeat' split at hh) <;> cases hh <;> exact .ah _ _ _
 case store=>unfold Be at hh;(repeat' split at hh) <;> first | exact No hh | (cases hh;done)
 case convert=>
  unfold oR at hh;(repeat' split at hh) <;> first | (cases hh;done) | (cases hh;exact .refl _) | (unfold Hr at hh;(repeat' split at hh) <;> first | (cases hh;done) | (cases hh;exact .refl _))
 case call=>
  unfold Im at hh
  split at hh
  ·exact QY hh
  ·unfold LY at hh
   (repeat' split at hh) <;> first
    | (cases hh;done)
    | exact QY hh
    | (unfold iS at hh;(repeat' split at hh) <;> first | (cases hh;done) | (cases hh;exact .refl _) | exact J4 hh | exact No hh | (cases hh;exact .grow _ _ _))
    | (unfold Bk at hh;(repeat' split at hh) <;> first | (cases hh;done) | (cases hh;exact .refl _) | exact No hh)
    | (unfold Bf at hh;(repeat' split at hh) <;> first | (cases hh;done) | (cases hh;exact .refl _) | exact No hh)
  ·cases hh
theorem XE {ev:Operand->Value} {op:Op} {H:ad} {f:FuncId} {args:Array Value} (hh:oB P ev op H=.call f args):LM P ev op h0=.call f args/\aeh op=false:=by
 have nl:∀{r:KO},r.x4=false->ia r H≠.call f args:=fun {r} hr he=>by
  cases r with
  | call=>cases hr
  | ok=>cases he
  | no=>cases he
 cases op <;> simp only [oB] at hh
 case call c=>
  refine ⟨?_,rfl⟩
  unfold Im at hh
  show Ij P ev c h0=_
  unfold Ij
  split at hh
  ·rename_i fv hc
   try rw [hc]
   try simp only
   cases hk:x9 P (ev fv) (pS ev c.args.toList).toArray with
   | call f1 a1=>rw [hk] at hh;cases hh;rfl
   | ok=>rw [hk] at hh;cases hh
   | no=>rw [hk] at hh;cases hh
  ·exfalso
   unfold LY at hh
   (repeat' split at hh) <;> first
    | (cases hh;done)
    | exact nl (YG _ _ _) hh
    | exact nl (YH _ _ _ _) hh
    | (unfold iS rK qx at hh;(repeat' split at hh) <;> cases hh)
    | (unfold Bk qx at hh;(repeat' split at hh) <;> cases hh)
    | (unfold Bf qx at hh;(repeat' split at hh) <;> cases hh)
  ·cases hh
 all_goals exfalso
 case makeMap t r=>cases r <;> cases hh
 case lookup=>unfold EU at hh;(repeat' split at hh) <;> cases hh
 case mapUpdate=>unfold Fi at hh;(repeat' split at hh) <;> cases hh
 all_goals first
  | (cases hh;done)
  | (unfold C0 rK at hh;(repeat' split at hh) <;> cases hh;done)
  | (unfold sw rK at hh;(repeat' split at hh) <;> cases hh;done)
  | (unfold CU rK at hh;(repeat' split at hh) <;> cases hh;done)
  | (unfold sx at hh;(repeat' split at hh) <;> cases hh;done)
  | (unfold Be qx at hh;(repeat' split at hh) <;> cases hh;done)
  | (unfold oR Hr at hh;(repeat' split at hh) <;> cases hh;done)
  | skip
 all_goals
  have hc:∀{r:KO},ia r H=.call f args->r=.call f args:=fun {r} he=>by
   cases r with
   | call=>cases he;rfl
   | ok=>cases he
   | no=>cases he
  have h2:=hc hh
  first
  | (unfold C8 at h2;split at h2 <;> cases h2;done)
  | (unfold fQ at h2;(repeat' split at h2) <;> cases h2;done)
  | (unfold Dn at h2;(repeat' split at h2) <;> cases h2;done)
  | (unfold eC at h2;(repeat' split at h2) <;> cases h2;done)
  | (unfold DL at h2;(repeat' split at h2) <;> cases h2;done)
  | (unfold AZ at h2;(repeat' split at h2) <;> cases h2;done)
  | (unfold Bc at h2;(repeat' split at h2) <;> cases h2;done)
  | (unfold AW at h2;simp only [cond_eq_ite] at h2;(repeat' split at h2) <;> cases h2;done)
  | (unfold AX at h2;simp only [cond_eq_ite] at h2;(repeat' split at h2) <;> cases h2;done)
  | (unfold xY at h2;simp only [cond_eq_ite] at h2;(repeat' split at h2) <;> cases h2;done)
  | (unfold l9 at h2;simp only [nJ,cond_eq_ite] at h2;(repeat' split at h2) <;> cases h2;done)
end
end Go.Proofs.YtinjmfblebpnnaaGreat.Ab
namespace Go.Proofs.YtinjmfblebpnnaaGreat.Ab
open Go Classical
section
variable {P:Program} {X:Nat->Bool}
structure aib (P:Program) (X:Nat->Bool) (o:Oper) (t:Act) (H:ad) (v:Value) (H':ad):Prop where
 op:w9 P (fun x=>x < H.next) o t H v H'
 kx:KX X H H'
 fz:∀b,H.fz b=true->H'.fz b=true
 pure:jL P o.op=0->H'=H/\w9 P (fun _=>False) o t H v H'
 load:jL P o.op=1->H'=H/\∀b π,lG P t.eval o.op=some (b,π)->b < H.next/\∀H2:ad,π (H2.get b)=π (H.get b)->Uk P o t H2 v
 ob:jL P o.op=1->∃b π,lG P t.eval o.op=some (b,π)
 new:jL P o.op=2->w9 P (fun _=>False) o t H v H'/\∃B,H'=H.push B
 call:jL P o.op=3->KX H.fz H H'
theorem adG {ev:Operand->Value} {op:Op} {H H':ad} {v:Value} (hw:H.wf) (hh:oB P ev op H=.ok v H'):∀b,Dc P ev op H.next b->b < H.next:=by
 intro b hb
 cases op <;> simp only [Dc] at hb <;> first
  | (exact hb.elim)
  | exact hb
  | skip
 case load ty a=>
  simp only [oB] at hh
  unfold sx at hh
  split at hh
  ·rename_i b0 o0 ha
   rw [ha] at hb
   obtain rfl:b=b0:=hb
   split at hh
   ·rename_i v0 hv;obtain ⟨B,hB⟩:=X1 hv;exact ad.Da hw hB
   ·cases hh
  ·cases hh
 case convert s d x=>
  cases h:P.underlying s with
  | none=>rw [h] at hb;exact hb
  | some u=>rw [h] at hb;cases u <;> first | exact hb | exact hb.elim
 case call c=>
  cases h:c.callee with
  | builtin u=>rw [h] at hb;cases u <;> first | exact hb | exact hb.elim
  | _=>rw [h] at hb;exact hb
 case store ty a x=>
  simp only [oB] at hh
  unfold Be at hh
  split at hh
  ·rename_i b0 o0 ha
   rw [ha] at hb
   obtain rfl:b=b0:=hb
   split at hh
   ·split at hh
    ·exact (J0 (P:=P) hw hh).2.1
    ·cases hh
   ·cases hh
  ·cases hh
theorem NB {cs:List Value} {e:TypeId} {hV:Bool} {k:Nat->Value} {H H':ad} {v:Value} (hh:rK cs e hV k H=.ok v H'):∃B,H'=H.push B:=by cases hh;exact ⟨_,rfl⟩
theorem acn {F:Nat->Prop} {o:Oper} {t:Act} {H H':ad} {v:Value} (hw:H.wf) (h:w9 P F o t H v H') (hF:∀b,F b->b < H.next):w9 P (fun x=>x < H.next) o t H v H':=
 ⟨⟨h.mV.next,h.mV.wf,fun b hb hn=>absurd hb hn⟩,sW.wide hw h.mV hF h.op⟩
theorem acT {ev:Operand->Value} {op:Op} {n:Nat} (hc:jL P op=0):Dc P ev op n=fun _=>False:=by
 cases op <;> simp only [jL,Dc] at hc ⊢ <;> first
  | (cases hc;done)
  | skip
 case convert s d x=>split at hc <;> first | (cases hc;done) | (rename_i h;first | rw [h] | rfl)
 case call c=>split at hc <;> first | (cases hc;done) | (rename_i h;first | rw [h] | rfl)
theorem adH {ev:Operand->Value} {op:Op} {n:Nat} (hc:jL P op=2):Dc P ev op n=fun _=>False:=by
 cases op <;> simp only [jL,Dc] at hc ⊢ <;> first
  | (cases hc;done)
  | skip
 case convert s d x=>split at hc <;> first | (cases hc;done) | (rename_i h;first | rw [h] | rfl)
 case call c=>split at hc <;> first | (cases hc;done) | (rename_i h;first | rw [h] | rfl)
theorem acU {ev:Operand->Value} {op:Op} {H H':ad} {v:Value} (hc:jL P op=0) (hh:oB P ev op H=.ok v H'):H'=H:=by
 cases op <;> simp only [jL] at hc <;> simp only [oB] at hh <;> first
  | (cases hc;done)
  | (cases hh;rfl)
  | exact (oP hh).elim fun _ h=>h.2
  | skip
 case convert s d x=>
  split at hc
  ·rename_i k hs
   unfold oR at hh
   rw [hs] at hh
   split at hh
   ·split at hh <;> cases hh;rfl
   ·rename_i e h1 h2;cases h1
   ·cases hh
  ·cases hc
 case call c=>
  unfold Im at hh
  split at hc <;> first | (cases hc;done) | skip
  all_goals
   rename_i SY
   rw [SY] at hh
   simp only at hh
   unfold LY at hh
   (repeat' split at hh) <;> first
    | exact (oP hh).elim fun _ h=>h.2
    | (cases hh;done)
    | contradiction
theorem adI {ev:Operand->Value} {op:Op} {H H':ad} {v:Value} (hc:jL P op=2) (hh:oB P ev op H=.ok v H'):∃B,H'=H.push B:=by
 cases op <;> simp only [jL] at hc <;> simp only [oB] at hh <;> first
  | (cases hc;done)
  | exact NB hh
  | skip
 case alloc=>unfold C0 at hh;split at hh <;> first | exact NB hh | (cases hh;done)
 case buildSlice=>unfold sw at hh;(repeat' split at hh) <;> first | exact NB hh | (cases hh;done)
 case makeSlice=>unfold CU at hh;(repeat' split at hh) <;> first | exact NB hh | (cases hh;done)
 case makeMap t r=>cases r <;> cases hh;exact ⟨_,rfl⟩
 case convert s d x=>split at hc <;> cases hc
 case call c=>split at hc <;> cases hc
theorem XF {op:Op} (hc:jL P op=1):∃ty a,op=.load ty a:=by
 cases op <;> simp only [jL] at hc <;> first
  | (cases hc;done)
  | exact ⟨_,_,rfl⟩
  | skip
 case convert s d x=>split at hc <;> cases hc
 case call c=>split at hc <;> cases hc
theorem adJ {ev:Operand->Value} {op:Op} {H:ad} {f:FuncId} {args:Array Value} (hh:oB P ev op H=.call f args):jL P op=3:=by
 obtain ⟨iz,_⟩:=XE hh
 obtain ⟨c,fv,rfl,hc,_⟩:=YI iz
 simp only [jL,hc]
theorem ab1 {ev:Operand->Value} {op:Op} {H H':ad} {v:Value} (hc:jL P op=3) (hh:oB P ev op H=.ok v H'):False:=by
 cases op <;> simp only [jL] at hc <;> first
  | (cases hc;done)
  | skip
 case convert s d x=>split at hc <;> cases hc
 case call c=>
  simp only [oB] at hh
  unfold Im at hh
  split at hc <;> first | (cases hc;done) | skip
  rename_i fv SY
  rw [SY] at hh
  obtain ⟨h',hk,_⟩:=oP hh
  unfold x9 at hk
  simp only [cond_eq_ite] at hk
  (repeat' split at hk) <;> cases hk
theorem X9 {n:Nat} {o:Oper} {t:Act} {E:Env} {H:ad} {K:Value->ad->Prop} (ht:TE n t E) (hi:yn X H) (gi:o.op.operands.all tY=true)
  (h:fH P X (jz E) o.op H K):∃v H',aib P X o t H v H'/\K v H':=by
 unfold fH at h
 rw [ht.ev] at h
 cases iz:oB P t.eval o.op H with
 | no=>rw [iz] at h;exact h.elim
 | ok v H'=>
  rw [iz] at h
  obtain ⟨h1,h2⟩:=h
  have hs:=acS (P:=P) hi.iy.wf gi iz
  have hg:=adF iz
  refine ⟨v,H',⟨acn hi.iy.wf hs (adG hi.iy.wf iz),⟨hg.nx,fun b hb=>h1 b (hi.iy.fz b (hi.sub b hb)) hb,fun b hb=>hg.fz b (hi.sub b hb),⟨hs.mV.wf,hg.fw hi.iy.fz⟩⟩,hg.fz,
   fun hc=>⟨acU hc iz,by rw [<-acT (ev:=t.eval) (n:=H.next) hc];exact hs⟩,fun hc=>?_,fun hc=>?_,fun hc=>⟨by rw [<-adH (ev:=t.eval) (n:=H.next) hc];exact hs,adI hc iz⟩,fun hc=>(ab1 hc iz).elim⟩,h2⟩
  ·obtain ⟨ty,ao,he⟩:=XF hc
   rw [he] at iz
   simp only [oB] at iz
   refine ⟨(X2 hi.iy.wf he iz).1,fun b π lr=>?_⟩
   rw [he] at lr
   simp only [lG] at lr
   unfold sx at iz
   split at iz
   ·rename_i b0 o0 ha
    rw [ha] at lr
    cases lr
    split at iz
    ·rename_i v0 qS
     cases iz
     obtain ⟨B,hB⟩:=X1 qS
     exact ⟨ad.Da hi.iy.wf hB,fun H2 h2=>abZ he ha (h2.trans qS)⟩
    ·cases iz
   ·cases iz
  ·obtain ⟨ty,ao,he⟩:=XF hc
   rw [he] at iz
   simp only [oB] at iz
   unfold sx at iz
   split at iz
   ·rename_i b0 o0 ha
    rw [he]
    simp only [lG]
    rw [ha]
    exact ⟨_,_,rfl⟩
   ·cases iz
 | call f args=>
  rw [iz] at h
  obtain ⟨v,H',h1,h2,h3,h4⟩:=h hi.iy
  obtain ⟨akO,eH⟩:=XE iz
  have fk:=adJ iz
  exact ⟨v,H',⟨EC hi.iy.wf h1 (aee akO h2),⟨h3.nx,fun b hb=>h3.get b (hi.sub b hb),fun b hb=>h3.fz b (hi.sub b hb),h3.iy⟩,h3.fz,fun hc=>(by rw [fk] at hc;cases hc),
   fun hc=>(by rw [fk] at hc;cases hc),fun hc=>(by rw [fk] at hc;cases hc),fun hc=>(by rw [fk] at hc;cases hc),fun _=>h3⟩,h4⟩
theorem QZ {n:Nat} {ops:Array Oper} (w8:Kg n ops=true):∀(l:List Oper) (i:Nat) (t:Act) (E:Env) (H:ad) (K:Env->ad->Prop),ops.toList.drop i=l->TE n t E->yn X H->
  lk P X (ops.toList.map (·.dst)) l E H K->RO P ops (List.range' i l.length) t H fun e t' H'=>e=.normal/\∃E',TE n t' E'/\KX X H H'/\K E' H'
 | [],i,t,E,H,K,_,ht,hi,h=>ae2 hi.iy.wf ⟨rfl,E,ht,.refl hi,h⟩
 | o::l,i,t,E,H,K,hd,ht,hi,h=>by
  have ho:ops[i]?=some o:=by
   have:=List.getElem?_drop (xs:=ops.toList) (i:=i) (j:=0)
   rw [hd] at this
   simpa using this.symm
  have I4:ops.toList.drop (i+1)=l:=by
   rw [<-List.drop_drop,hd];rfl
  rw [List.length_cons,List.range'_succ]
  obtain ⟨nU,fO⟩:=Xh w8 ho
  rw [lk] at h
  split at h
  ·rename_i hw
   obtain ⟨v,H',dI,hk⟩:=X9 ht hi nU h
   have hs:=dI.op
   refine YF ho hs.mV.all nU ?_ ((QZ w8 l (i+1) _ _ H' K I4 (ht.put fO v) dI.kx.inv hk).mono fun e t' H2 _ ⟨he,E',h1,h2,h3⟩=>⟨he,E',h1,dI.kx.trans h2,h3⟩)
   unfold um
   rw [<-NA ht,if_pos hw]
   exact sW.wide hi.iy.wf hs.mV (fun _ _=>trivial) hs.op
  ·rename_i hw
   refine YF ho (.refl hi.iy.wf) nU ?_ (QZ w8 l (i+1) _ _ H K I4 (ht.put fO undef) hi h)
   unfold um
   rw [<-NA ht,if_neg hw]
   exact ⟨rfl,rfl⟩
structure PD (P:Program) (ops:Array Oper) (m:Nat) where
 t:Nat->Act
 H:Nat->ad
 v:Nat->Value
 F:Nat->Nat->Prop
 nO:Nat->mf
 wf:(H 0).wf
 step:∀(i:Nat) (o:Oper),i < m->ops[i]?=some o->nO i=none->um P ops (F i) o (t i) (H i) (v i) (H (i+1))
 put:∀(i:Nat) (o:Oper),i < m->ops[i]?=some o->t (i+1)=(t i).put o.dst (v i)
 mV:∀i,i < m->i5 (F i) (H i) (H (i+1))
 hV:∀(i:Nat) (o:Oper),i < m->ops[i]?=some o->o.op.operands.all tY=true
 lt:∀i b,i < m->F i b->b < (H i).next
 IJ:∀(i:Nat) (o:Oper),i < m->ops[i]?=some o->Ik P ops (nO i) (F i) o (t i) (H i) (v i) (H (i+1))
def PD.start (ops:Array Oper) (t:Act) (H:ad) (hw:H.wf):PD P ops 0:=⟨fun _=>t,fun _=>H,fun _=>undef,fun _ _=>False,fun _=>none,hw,
 fun i o h=>absurd h (by omega),fun i o h=>absurd h (by omega),fun i h=>absurd h (by omega),fun i o h=>absurd h (by omega),fun i b h=>absurd h (by omega),fun i o h=>absurd h (by omega)⟩
noncomputable def PD.more {ops:Array Oper} {m:Nat} (T:PD P ops m) (o:Oper) (ho:ops[m]?=some o) (F:Nat->Prop) (ob:mf) (v:Value) (H':ad) (h1:ob=none->um P ops F o (T.t m) (T.H m) v H')
  (h2:i5 F (T.H m) H') (h3:o.op.operands.all tY=true) (h4:∀b,F b->b < (T.H m).next) (h5:Ik P ops ob F o (T.t m) (T.H m) v H'):PD P ops (m+1) where
 t:=fun j=>if j<=m then T.t j else (T.t m).put o.dst v
 H:=fun j=>if j<=m then T.H j else H'
 v:=fun j=>if j < m then T.v j else v
 F:=fun j=>if j < m then T.F j else F
 nO:=fun j=>if j < m then T.nO j else ob
 wf:=by rw [if_pos (Nat.zero_le _)];exact T.wf
 step:=fun i o2 hi fO lr=>by
  by_cases hc:i < m
  ·have h5:i<=m:=by omega
   have h6:i+1<=m:=by omega
   simp only [hc,h5,h6,if_true] at lr ⊢
   exact T.step i o2 hc fO lr
  ·obtain rfl:i=m:=by omega
   have h6:¬(i+1<=i):=by omega
   simp only [Nat.lt_irrefl,Nat.le_refl,h6,if_true,if_false] at lr ⊢
   rw [ho] at fO;cases fO;exact h1 lr
 put:=fun i o2 hi fO=>by
  by_cases hc:i < m
  ·have h5:i<=m:=by omega
   have h6:i+1<=m:=by omega
   simp only [hc,h5,h6,if_true]
   exact T.put i o2 hc fO
  ·obtain rfl:i=m:=by omega
   have h6:¬(i+1<=i):=by omega
   simp only [Nat.lt_irrefl,Nat.le_refl,h6,if_true,if_false]
   rw [ho] at fO;cases fO;rfl
 mV:=fun i hi=>by
  by_cases hc:i < m
  ·have h5:i<=m:=by omega
   have h6:i+1<=m:=by omega
   simp only [hc,h5,h6,if_true]
   exact T.mV i hc
  ·obtain rfl:i=m:=by omega
   have h6:¬(i+1<=i):=by omega
   simp only [Nat.lt_irrefl,Nat.le_refl,h6,if_true,if_false]
   exact h2
 hV:=fun i o2 hi fO=>by
  by_cases hc:i < m
  ·exact T.hV i o2 hc fO
  ·obtain rfl:i=m:=by omega
   rw [ho] at fO;cases fO;exact h3
 lt:=fun i b hi hF=>by
  by_cases hc:i < m
  ·have h5:i<=m:=by omega
   simp only [hc,h5,if_true] at hF ⊢
   exact T.lt i b hc hF
  ·obtain rfl:i=m:=by omega
   simp only [Nat.lt_irrefl,Nat.le_refl,if_true,if_false] at hF ⊢
   exact h4 b hF
 IJ:=fun i o2 hi fO=>by
  by_cases hc:i < m
  ·have h5:i<=m:=by omega
   have h6:i+1<=m:=by omega
   simp only [hc,h5,h6,if_true]
   exact T.IJ i o2 hc fO
  ·obtain rfl:i=m:=by omega
   have h6:¬(i+1<=i):=by omega
   simp only [Nat.lt_irrefl,Nat.le_refl,h6,if_true,if_false]
   rw [ho] at fO;cases fO;exact h5
def PD.done {ops:Array Oper} (T:PD P ops ops.size):sX P ops where
 t:=T.t
 H:=T.H
 v:=T.v
 F:=T.F
 wf:=T.wf
 nO:=T.nO
 step:=fun i o ho lr=>T.step i o (Array.getElem?_eq_some_iff.1 ho).1 ho lr
 put:=fun i o ho=>T.put i o (Array.getElem?_eq_some_iff.1 ho).1 ho
 mV:=T.mV
 hV:=fun i o ho=>T.hV i o (Array.getElem?_eq_some_iff.1 ho).1 ho
 lt:=T.lt
 IJ:=fun i o ho=>T.IJ i o (Array.getElem?_eq_some_iff.1 ho).1 ho
structure Ss (c:Nat) (ob:mf) (F:Nat->Prop) (H H':ad):Prop where
 pure:c=0->H'=H/\∀b,¬F b
 load:c=1->H'=H/\(∀b,¬F b)/\∀b π,ob=some (b,π)->b < H.next
 new:c=2->(∀b,¬F b)/\(H'=H∨∃B,H'=H.push B)
 call:c=3->H'=H∨KX H.fz H H'
 Ax:c≠1->ob=none
 fz:∀b,H.fz b=true->H'.fz b=true
 akP:∀b,F b->b < H.next
structure Ok (ci:Nat) (obi obk:mf) (Hi Hi' Hk Hk':ad):Prop where
 a:ym obk Hi Hi'
 b:ym obi Hk Hk'
 c:ci=2->Hi'=Hi∨Hk'.get Hi.next=Hk.get Hi.next
structure EW (P:Program) (ops:Array Oper) (tb:List (Nat × Nat)) (m:Nat) (T:PD P ops m) (acc:List (Nat × Rec)):Prop where
 idx:∀j,j < m->Ss (oS P ops j) (T.nO j) (T.F j) (T.H j) (T.H (j+1))
 two:∀i k,i < k->k < m->(i,k)∈tb->Ok (oS P ops i) (T.nO i) (T.nO k) (T.H i) (T.H (i+1)) (T.H k) (T.H (k+1))
 acc:∀j,j < m->told tb j=true->look acc j=some ⟨T.nO j,if oS P ops j=2 then some (T.H j).next else none,T.H j,T.H (j+1)⟩∨(T.nO j=none/\T.H (j+1)=T.H j)
theorem aem {tb:List (Nat × Nat)} {i k:Nat} (h:(i,k)∈tb):told tb i=true:=by
 unfold told;rw [List.any_eq_true];exact ⟨_,h,by simp⟩
theorem acV {tb:List (Nat × Nat)} {k:Nat} {acc:List (Nat × Rec)} {ob:mf} {H H':ad} (h:uq tb k acc ob H H'):∀i,(i,k)∈tb->K3 (look acc i) ob H H':=by
 induction tb with
 | nil=>intro i hi;cases hi
 | cons p tb ih=>
  intro i hi
  rw [uq] at h
  rcases List.mem_cons.1 hi with rfl | hi
  ·have:=h.1;rwa [if_pos rfl] at this
  ·exact ih h.2 i hi
theorem EW.next {ops:Array Oper} {tb:List (Nat × Nat)} {i:Nat} {T:PD P ops i} {acc qI:List (Nat × Rec)} (d:EW P ops tb i T acc) {o:Oper} (ho:ops[i]?=some o) {F:Nat->Prop} {ob:mf} {v:Value} {H':ad} (h1:ob=none->um P ops F o (T.t i) (T.H i) v H')
  (h2:i5 F (T.H i) H') (h3:o.op.operands.all tY=true) (h4:∀b,F b->b < (T.H i).next) (h5:Ik P ops ob F o (T.t i) (T.H i) v H')
  (hx:Ss (oS P ops i) ob F (T.H i) H') (ht:∀j,j < i->(j,i)∈tb->Ok (oS P ops j) (T.nO j) ob (T.H j) (T.H (j+1)) (T.H i) H')
  (ha:∀j,j < i->told tb j=true->look qI j=look acc j) (PB:told tb i=true->look qI i=some ⟨ob,if oS P ops i=2 then some (T.H i).next else none,T.H i,H'⟩∨(ob=none/\H'=T.H i)):
  EW P ops tb (i+1) (T.more o ho F ob v H' h1 h2 h3 h4 h5) qI:=by
 have low:∀j,j < i->(if j<=i then T.H j else H')=T.H j/\(if j+1<=i then T.H (j+1) else H')=T.H (j+1):=fun j hj=>⟨if_pos (by omega),if_pos (by omega)⟩
 refine ⟨fun j hj=>?_,fun j k F6 hk hm=>?_,fun j hj fY=>?_⟩
 ·simp only [PD.more]
  by_cases yW:j < i
  ·rw [if_pos yW,if_pos yW,(low j yW).1,(low j yW).2];exact d.idx j yW
  ·obtain rfl:j=i:=by omega
   rw [if_neg (by omega),if_neg (by omega),if_pos (Nat.le_refl _),if_neg (by omega)];exact hx
 ·simp only [PD.more]
  by_cases PC:k < i
  ·rw [if_pos PC,if_pos (by omega:j < i),(low j (by omega)).1,(low j (by omega)).2,(low k PC).1,(low k PC).2];exact d.two j k F6 PC hm
  ·obtain rfl:k=i:=by omega
   rw [if_pos F6,if_neg (by omega),(low j F6).1,(low j F6).2,if_pos (Nat.le_refl _),if_neg (by omega)];exact ht j F6 hm
 ·simp only [PD.more]
  by_cases yW:j < i
  ·rw [if_pos yW,(low j yW).1,(low j yW).2,ha j yW fY];exact d.acc j yW fY
  ·obtain rfl:j=i:=by omega
   have h6:¬(j+1<=j):=by omega
   simp only [Nat.lt_irrefl,Nat.le_refl,h6,if_true,if_false];exact PB fY
theorem NW {tb:List (Nat × Nat)} {i:Nat} {r:Rec} {acc:List (Nat × Rec)} {j:Nat} (hj:j < i):look (note tb i r acc) j=look acc j:=by
 unfold note
 split
 ·rw [look,if_neg (by simp only;omega)]
 ·rfl
theorem aen {tb:List (Nat × Nat)} {i:Nat} {r:Rec} {acc:List (Nat × Rec)} (h:told tb i=true):look (note tb i r acc) i=some r:=by
 unfold note
 rw [if_pos h,look,if_pos rfl]
theorem Xk {n:Nat} {ops:Array Oper} {tb:List (Nat × Nat)} (w8:Kg n ops=true):∀(l:List Oper) (i:Nat) (acc:List (Nat × Rec)) (E:Env) (K:Env->ad->Prop) (T:PD P ops i),ops.toList.drop i=l->i+l.length=ops.size->EW P ops tb i T acc->TE n (T.t i) E->yn X (T.H i)->
  jc P X tb (ops.toList.map (·.dst)) l i acc E (T.H i) K->∃(T':PD P ops ops.size) (qI:List (Nat × Rec)),T'.t 0=T.t 0/\T'.H 0=T.H 0/\EW P ops tb ops.size T' qI/\∃E',TE n (T'.t ops.size) E'/\KX X (T.H i) (T'.H ops.size)/\K E' (T'.H ops.size)
 | [],i,acc,E,K,T,hd,hl,d,ht,hi,h=>by
  obtain rfl:i=ops.size:=by simpa using hl
  exact ⟨T,acc,rfl,rfl,d,E,ht,.refl hi,h⟩
 | o::l,i,acc,E,K,T,hd,hl,d,ht,hi,h=>by
  have ho:ops[i]?=some o:=by
   have:=List.getElem?_drop (xs:=ops.toList) (i:=i) (j:=0)
   rw [hd] at this
   simpa using this.symm
  have I4:ops.toList.drop (i+1)=l:=by
   rw [<-List.drop_drop,hd];rfl
  have lX:i+1+l.length=ops.size:=by simp at hl;omega
  obtain ⟨nU,fO⟩:=Xh w8 ho
  have fk:oS P ops i=jL P o.op:=by unfold oS;rw [ho]
  have more:∀(F:Nat->Prop) (ob:mf) (v:Value) (H':ad) (qI:List (Nat × Rec)) (h1:ob=none->um P ops F o (T.t i) (T.H i) v H') (h2:i5 F (T.H i) H') (h4:∀b,F b->b < (T.H i).next) (h5:Ik P ops ob F o (T.t i) (T.H i) v H'),KX X (T.H i) H'->
    Ss (oS P ops i) ob F (T.H i) H'->(∀j,j < i->(j,i)∈tb->Ok (oS P ops j) (T.nO j) ob (T.H j) (T.H (j+1)) (T.H i) H')->(∀j,j < i->told tb j=true->look qI j=look acc j)->
    (told tb i=true->look qI i=some ⟨ob,if oS P ops i=2 then some (T.H i).next else none,T.H i,H'⟩∨(ob=none/\H'=T.H i))->
    jc P X tb (ops.toList.map (·.dst)) l (i+1) qI (nL E o.dst v) H' K->∃(T':PD P ops ops.size) (qI:List (Nat × Rec)),T'.t 0=T.t 0/\T'.H 0=T.H 0/\EW P ops tb ops.size T' qI/\∃E',TE n (T'.t ops.size) E'/\KX X (T.H i) (T'.H ops.size)/\K E' (T'.H ops.size):=by
   intro F ob v H' qI h1 h2 h4 h5 hkx hx uJ ha PB hk
   have et:(T.more o ho F ob v H' h1 h2 nU h4 h5).t (i+1)=(T.t i).put o.dst v:=by simp only [PD.more];rw [if_neg (by omega)]
   have eh:(T.more o ho F ob v H' h1 h2 nU h4 h5).H (i+1)=H':=by simp only [PD.more];rw [if_neg (by omega)]
   have et0:(T.more o ho F ob v H' h1 h2 nU h4 h5).t 0=T.t 0:=by simp only [PD.more];rw [if_pos (Nat.zero_le _)]
   have eh0:(T.more o ho F ob v H' h1 h2 nU h4 h5).H 0=T.H 0:=by simp only [PD.more];rw [if_pos (Nat.zero_le _)]
   obtain ⟨T',akQ,a1,a2,a3,E',a4,a5,a6⟩:=Xk w8 l (i+1) qI (nL E o.dst v) K (T.more o ho F ob v H' h1 h2 nU h4 h5) I4 lX (d.next ho h1 h2 nU h4 h5 hx uJ ha PB) (by rw [et];exact ht.put fO v) (by rw [eh];exact hkx.inv) (by rw [eh];exact hk)
   rw [eh] at a5
   exact ⟨T',akQ,by rw [a1,et0],by rw [a2,eh0],a3,E',a4,hkx.trans a5,a6⟩
  rw [jc] at h
  split at h
  ·rename_i hw
   have F0:Region.wanted o (yielded ops (T.t i).tmps)=true:=by rw [<-NA ht];exact hw
   obtain ⟨v,H',dI,aaB,hk⟩:=X9 ht hi nU h
   rw [ht.ev] at aaB hk
   have ON:∀ob:mf,ob=lG P (T.t i).eval o.op->∀j,j < i->(j,i)∈tb->Ok (oS P ops j) (T.nO j) ob (T.H j) (T.H (j+1)) (T.H i) H':=fun ob lr j hj hm=>by
    have h6:=acV aaB j hm
    rcases d.acc j hj (aem hm) with h7 | ⟨h7,h8⟩
    ·rw [h7] at h6
     obtain ⟨q1,q2,q3⟩:=h6
     refine ⟨lr▸q1,q2,fun hc=>?_⟩
     simp only [if_pos hc] at q3
     exact .inr q3
    ·refine ⟨?_,by rw [h7];exact trivial,fun _=>.inl h8⟩
     rw [h8]
     unfold ym
     split
     ·rfl
     ·trivial
   have KI:told tb i=true->look (note tb i ⟨lG P (T.t i).eval o.op,vi P o.op (T.H i),T.H i,H'⟩ acc) i=some ⟨lG P (T.t i).eval o.op,if oS P ops i=2 then some (T.H i).next else none,T.H i,H'⟩:=fun h=>by
    rw [aen h];unfold vi;rw [fk]
   have St:∀{F:Nat->Prop},sW P F o (T.t i) (T.H i) v H'->um P ops F o (T.t i) (T.H i) v H':=fun {F} h=>by
    unfold um;rw [if_pos F0];exact h
   by_cases eA:jL P o.op=1
   ·obtain ⟨b,π,lr⟩:=dI.ob eA
    obtain ⟨UE,hq⟩:=dI.load eA
    subst UE
    refine more (fun _=>False) (lG P (T.t i).eval o.op) v (T.H i) _ (fun he=>by rw [lr] at he;cases he) (.refl hi.iy.wf) (fun b hb=>hb.elim) (fun b π hb=>⟨rfl,fun _ h=>h,fun _=>(hq b π hb).2,fun hn=>absurd F0 hn⟩) dI.kx
     ⟨fun hc=>(by rw [fk,eA] at hc;cases hc),fun _=>⟨rfl,fun _ h=>h,fun b π hb=>(hq b π hb).1⟩,fun hc=>(by rw [fk,eA] at hc;cases hc),fun hc=>(by rw [fk,eA] at hc;cases hc),fun hc=>absurd (fk.trans eA) hc,fun _ h=>h,fun b hb=>hb.elim⟩
     (ON _ rfl) (fun j hj _=>NW hj) (fun h=>.inl (KI h)) hk
   ·have OO:lG P (T.t i).eval o.op=none:=by
     unfold lG
     split
     ·rename_i ty a he;rw [he] at eA;exact absurd rfl eA
     ·rfl
    have aaC:Ik P ops none (fun _=>False) o (T.t i) (T.H i) v H':=fun b π h=>by cases h
    rw [OO] at hk KI
    by_cases j5:jL P o.op=0
    ·obtain ⟨UE,hs⟩:=dI.pure j5
     exact more (fun _=>False) none v H' _ (fun _=>St hs.op) hs.mV (fun b hb=>hb.elim) aaC dI.kx
      ⟨fun _=>⟨UE,fun _ h=>h⟩,fun hc=>(by rw [fk,j5] at hc;cases hc),fun hc=>(by rw [fk,j5] at hc;cases hc),fun hc=>(by rw [fk,j5] at hc;cases hc),fun _=>rfl,dI.fz,fun b hb=>hb.elim⟩
      (ON _ OO.symm) (fun j hj _=>NW hj) (fun h=>.inl (KI h)) hk
    ·by_cases il:jL P o.op=2
     ·obtain ⟨hs,hB⟩:=dI.new il
      exact more (fun _=>False) none v H' _ (fun _=>St hs.op) hs.mV (fun b hb=>hb.elim) aaC dI.kx
       ⟨fun hc=>(by rw [fk,il] at hc;cases hc),fun hc=>(by rw [fk,il] at hc;cases hc),fun _=>⟨fun _ h=>h,.inr hB⟩,fun hc=>(by rw [fk,il] at hc;cases hc),fun _=>rfl,dI.fz,fun b hb=>hb.elim⟩
       (ON _ OO.symm) (fun j hj _=>NW hj) (fun h=>.inl (KI h)) hk
     ·exact more (fun x=>x < (T.H i).next) none v H' _ (fun _=>St dI.op.op) dI.op.mV (fun b hb=>hb) (fun b π h=>by cases h) dI.kx
       ⟨fun hc=>absurd (fk.symm.trans hc) j5,fun hc=>absurd (fk.symm.trans hc) eA,fun hc=>absurd (fk.symm.trans hc) il,fun hc=>.inr (dI.call (fk.symm.trans hc)),fun _=>rfl,dI.fz,fun b hb=>hb⟩
       (ON _ OO.symm) (fun j hj _=>NW hj) (fun h=>.inl (KI h)) hk
  ·rename_i hw
   have F0:¬Region.wanted o (yielded ops (T.t i).tmps)=true:=by rw [<-NA ht];exact hw
   refine more (fun _=>False) none undef (T.H i) acc ?_ (.refl hi.iy.wf) (fun b hb=>hb.elim) (fun b π h=>by cases h) (.refl hi)
    ⟨fun _=>⟨rfl,fun _ h=>h⟩,fun _=>⟨rfl,fun _ h=>h,fun b π h=>by cases h⟩,fun _=>⟨fun _ h=>h,.inl rfl⟩,fun _=>.inl rfl,fun _=>rfl,fun _ h=>h,fun b hb=>hb.elim⟩
    (fun j hj hm=>⟨trivial,?_,fun _=>.inr rfl⟩) (fun _ _ _=>rfl) (fun _=>.inr ⟨rfl,rfl⟩) h
   ·intro _
    unfold um
    rw [if_neg F0]
    exact ⟨rfl,rfl⟩
   ·unfold ym
    split
    ·rfl
    ·trivial
theorem XG {ob:mf} {H H':ad} (h:ym ob H H') {b:Nat} {π:Option cw->Option Value} (lr:ob=some (b,π)):π (H'.get b)=π (H.get b):=by
 rw [lr] at h;exact h
theorem bX {H:ad} {B:cw} {b:Nat} (h:b < H.next):(H.push B).get b=H.get b:=by
 show (if b=H.next then some B else H.get b)=_
 rw [if_neg (by omega)]
theorem PD.UF {ops:Array Oper} {m:Nat} (T:PD P ops m) {i k:Nat} (h:i<=k) (hk:k<=m):(T.H i).next<=(T.H k).next:=by
 induction h with
 | refl=>exact Nat.le_refl _
 | @step k LP ih=>
  have FX:k+1<=m:=hk
  exact Nat.le_trans (ih (by omega)) (T.mV k (by omega)).next
theorem acW {ops:Array Oper} {tb:List (Nat × Nat)} {T:PD P ops ops.size} {acc:List (Nat × Rec)} (d:EW P ops tb ops.size T acc) (hl:N4 P ops tb=true):CX T.done:=by
 intro i k LP hk hb
 unfold N4 at hl
 have h1:=List.all_eq_true.1 (List.all_eq_true.1 hl k (List.mem_range.2 hk)) i (List.mem_range.2 LP)
 rw [Bool.or_eq_true,Bool.or_eq_true] at h1
 have hi:=d.idx i (by omega)
 have hx:=d.idx k hk
 have n1:=T.UF (show i<=k by omega) (Nat.le_of_lt hk)
 have n2:=T.UF (show i+1<=k by omega) (Nat.le_of_lt hk)
 have aaD:=d.two i k LP hk
 generalize oS P ops i=ci at h1 hi aaD
 generalize oS P ops k=ck at h1 hx
 have zP:∀{c:Nat} {ob:mf} {b:Nat} {π:Option cw->Option Value},(c≠1->ob=none)->ob=some (b,π)->c=1:=fun {c ob b π} h he=>by
  by_cases hc:c=1
  ·exact hc
  ·rw [h hc] at he;cases he
 have IK:∀{b},T.H (i+1)=T.H i->¬fresh (T.H i) (T.H (i+1)) b:=fun {b} he hf=>by
  have:=hf.1;have:=hf.2;rw [he] at this;omega
 have SZ:∀{b},ck=2->b < (T.H k).next->(T.H (k+1)).get b=(T.H k).get b:=fun {b} hc be=>by
  rcases (hx.new hc).2 with h | ⟨B,h⟩
  ·rw [h]
  ·rw [h,bX be]
 rcases h1 with (h1 | h1) | h1
 ·exact absurd (Nx ops _ _ _ h1) hb
 ·unfold X7 at h1
  simp only [Bool.or_eq_true,Bool.and_eq_true,beq_iff_eq] at h1
  rcases h1 with (((h1 | h1) | h1) | h1) | h1
  ·-- i asks nothing
   obtain ⟨e,hF⟩:=hi.pure h1
   exact ⟨fun b _ _=>by show (T.H (i+1)).get b=_;rw [e];rfl,fun b hb=>(hb.elim (fun h=>absurd h (hF b)) (fun h=>absurd h (IK e))),fun b π _=>by show π ((T.H (i+1)).get b)=_;rw [e];rfl,
    fun b π ho=>by have:=zP hi.Ax ho;omega⟩
  ·obtain ⟨e,hF⟩:=hx.pure h1
   exact ⟨fun b hb=>absurd hb (hF b),fun b _=>by show (T.H (k+1)).get b=_;rw [e];rfl,fun b π ho=>by have:=zP hx.Ax ho;omega,fun b π _=>by show π ((T.H (k+1)).get b)=_;rw [e];rfl⟩
  ·obtain ⟨h1,h2⟩:=h1
   obtain ⟨e,hF,be⟩:=hi.load h1
   refine ⟨fun b _ _=>by show (T.H (i+1)).get b=_;rw [e];rfl,fun b hb=>(hb.elim (fun h=>absurd h (hF b)) (fun h=>absurd h (IK e))),fun b π _=>by show π ((T.H (i+1)).get b)=_;rw [e];rfl,fun b π ho=>?_⟩
   show π ((T.H (k+1)).get b)=π ((T.H k).get b)
   rcases h2 with h2 | h2
   ·rw [(hx.load h2).1]
   ·rw [SZ h2 (Nat.lt_of_lt_of_le (be b π ho) n1)]
  ·obtain ⟨h1,h2⟩:=h1
   obtain ⟨hF,hB⟩:=hi.new h1
   have hold:∀b,b < (T.H i).next->(T.H (i+1)).get b=(T.H i).get b:=fun b be=>by
    rcases hB with h | ⟨B,h⟩
    ·rw [h]
    ·rw [h,bX be]
   have yX:ck≠1:=by rcases h2 with h | h <;> omega
   have uK:ci≠1:=by omega
   refine ⟨fun b _ be=>hold b be,fun b hb=>?_,fun b π ho=>absurd (zP hx.Ax ho) yX,fun b π ho=>absurd (zP hi.Ax ho) uK⟩
   have bj:=hb.resolve_left (hF b)
   show (T.H (k+1)).get b=(T.H k).get b
   rcases h2 with h2 | h2
   ·exact SZ h2 (Nat.lt_of_lt_of_le bj.2 n2)
   ·rcases hx.call h2 with h | h
    ·rw [h]
    ·refine h.get b ?_
     -- FV block has awj told since it was made
     have mZ:∀j,i+1<=j->j<=k->(T.H j).fz b=true:=by
      intro j hj
      induction hj with
      | refl=>
       intro _
       rcases hB with h | ⟨B,h⟩
       ·exact absurd bj (IK h)
       ·have:b=(T.H i).next:=by
         have h3:(T.H i).next<=b:=bj.1
         have h4:b < (T.H (i+1)).next:=bj.2
         rw [h] at h4
         have h5:b < (T.H i).next+1:=h4
         omega
        rw [h,this]
        show ((T.H i).next==(T.H i).next||(T.H i).fz (T.H i).next)=true
        simp
      | @step j hj ih=>
       intro F6
       have Py:i+1<=j:=hj
       have awk:j+1<=k:=F6
       exact (d.idx j (by omega)).fz b (ih (by omega))
     exact mZ k (by omega) (Nat.le_refl _)
  ·obtain ⟨h1,h2⟩:=h1
   have yX:ck≠1:=by omega
   have uK:ci≠1:=by rcases h1 with h | h <;> omega
   refine ⟨fun b hb=>absurd hb ((hx.new h2).1 b),fun b hb=>?_,fun b π ho=>absurd (zP hx.Ax ho) yX,fun b π ho=>absurd (zP hi.Ax ho) uK⟩
   refine SZ h2 ?_
   rcases hb with hb | hb
   ·exact Nat.lt_of_lt_of_le (hi.akP b hb) n1
   ·exact Nat.lt_of_lt_of_le hb.2 n2
 ·rw [Bool.and_eq_true] at h1
  obtain ⟨h1,vv⟩:=h1
  have uJ:=aaD (by simpa using vv)
  unfold X8 at h1
  simp only [Bool.or_eq_true,Bool.and_eq_true,beq_iff_eq] at h1
  rcases h1 with (h1 | h1) | h1
  ·obtain ⟨h1,h2⟩:=h1
   obtain ⟨e,hF,be⟩:=hi.load h1
   have yX:ck≠1:=by rcases h2 with h | h <;> omega
   exact ⟨fun b _ _=>by show (T.H (i+1)).get b=_;rw [e];rfl,fun b hb=>(hb.elim (fun h=>absurd h (hF b)) (fun h=>absurd h (IK e))),fun b π ho=>absurd (zP hx.Ax ho) yX,fun b π ho=>XG uJ.b ho⟩
  ·obtain ⟨h1,h2⟩:=h1
   obtain ⟨e,hF,be⟩:=hx.load h2
   have uK:ci≠1:=by rcases h1 with (h | h) | h <;> omega
   exact ⟨fun b hb=>absurd hb (hF b),fun b _=>by show (T.H (k+1)).get b=_;rw [e];rfl,fun b π ho=>XG uJ.a ho,fun b π ho=>absurd (zP hi.Ax ho) uK⟩
  ·obtain ⟨h1,h2⟩:=h1
   obtain ⟨hF,hB⟩:=hi.new h1
   have yX:ck≠1:=by omega
   have uK:ci≠1:=by omega
   refine ⟨fun b _ be=>?_,fun b hb=>?_,fun b π ho=>absurd (zP hx.Ax ho) yX,fun b π ho=>absurd (zP hi.Ax ho) uK⟩
   ·show (T.H (i+1)).get b=(T.H i).get b
    rcases hB with h | ⟨B,h⟩
    ·rw [h]
    ·rw [h];exact bX be
   ·have bj:=hb.resolve_left (hF b)
    rcases uJ.c h1 with h | h
    ·exact absurd bj (IK h)
    ·rcases hB with h3 | ⟨B,h3⟩
     ·exact absurd bj (IK h3)
     ·have:b=(T.H i).next:=by
       have h4:(T.H i).next<=b:=bj.1
       have h5:b < (T.H (i+1)).next:=bj.2
       rw [h3] at h5
       have h6:b < (T.H i).next+1:=h5
       omega
      rw [this];exact h
def Fk (X:Nat->Bool) (n:Nat) (H:ad) (Q:Exit->Env->ad->Prop) (e:Exit) (t':Act) (H':ad):Prop:=∃E',TE n t' E'/\KX X H H'/\Q e E' H'
theorem Ya (hm:P.follows .mixedOrders=true) {T:oF} {n id:Nat} {ops:Array Oper} {draw:Bool} {t:Act} {E:Env} {H:ad} {Q:Exit->Env->ad->Prop} (hc:mH P T n (.region id ops draw)=true) (ht:TE n t E) (hi:yn X H)
  (h:wC P X T (.region id ops draw) E H Q):RC P (.region id ops draw) t H (Fk X n H Q):=by
 simp only [mH,Bool.and_eq_true,Bool.or_eq_true] at hc
 obtain ⟨w8,cE⟩:=hc
 cases draw with
 | false=>
  rw [wC] at h
  refine acE ?_
  have:=QZ (P:=P) (X:=X) w8 ops.toList 0 t E H (Q .normal) rfl ht hi h
  rw [List.range_eq_range']
  have e:ops.toList.length=ops.size:=by simp
  rw [e] at this
  exact this.mono fun e t' H' _ ⟨he,E',h1,h2,h3⟩=>by subst he;exact ⟨E',h1,h2,h3⟩
 | true=>
  rw [wC] at h
  have ur:Nv ops=true/\N4 P ops (Aw T id)=true:=by simpa using cE
  obtain ⟨T',qI,e1,e2,d,E',h1,h2,h3⟩:=Xk (P:=P) (X:=X) w8 ops.toList 0 [] E (Q .normal) (PD.start ops t H hi.iy.wf) rfl (by simp) ⟨fun j hj=>absurd hj (Nat.not_lt_zero j),fun j k _ hk=>absurd hk (Nat.not_lt_zero k),fun j hj=>absurd hj (Nat.not_lt_zero j)⟩ ht hi h
  have aaE:=abR T'.done hm (abO ur.1) (acW d ur.2) id
  have h7:T'.done.t 0=t:=e1
  have h8:T'.done.H 0=H:=e2
  rw [h7,h8] at aaE
  have h9:i5 dT H (T'.H ops.size):=⟨h2.nx,h2.iy.wf,fun b _ hn=>absurd trivial hn⟩
  exact ⟨.normal,T'.t ops.size,T'.H ops.size,h9,aaE,E',h1,h2,h3⟩
theorem Fk.after {n:Nat} {H H1:ad} {Q:Exit->Env->ad->Prop} {e:Exit} {t':Act} {H':ad} (h:KX X H H1) (h':Fk X n H1 Q e t' H'):Fk X n H Q e t' H':=by
 obtain ⟨E',h1,h2,h3⟩:=h'
 exact ⟨E',h1,h.trans h2,h3⟩
theorem Yb (hm:P.follows .mixedOrders=true) {T:oF} {n:Nat}:∀(c:Code) (t:Act) (E:Env) (H:ad) (Q:Exit->Env->ad->Prop),mH P T n c=true->TE n t E->yn X H->wC P X T c E H Q->RC P c t H (Fk X n H Q):=by
 intro c
 induction c with
 | skip=>intro t E H Q _ ht hi h;exact YA hi.iy.wf ⟨E,ht,.refl hi,h⟩
 | label l=>intro t E H Q _ ht hi h;exact XW hi.iy.wf ⟨E,ht,.refl hi,h⟩
 | exit id=>intro t E H Q _ ht hi h;exact YB hi.iy.wf ⟨E,ht,.refl hi,h⟩
 | ret=>intro t E H Q _ ht hi h;exact Y7 hi.iy.wf ⟨E,ht,.refl hi,h⟩
 | region id ops draw=>intro t E H Q hc ht hi h;exact Ya hm hc ht hi h
 | seq a b fo mj=>
  intro t E H Q hc ht hi h
  simp only [mH,Bool.and_eq_true] at hc
  rw [wC] at h
  refine RU ((fo t E H _ hc.1 ht hi h).mono fun e t' H' _ hf=>?_)
  obtain ⟨E',h1,h2,h3⟩:=hf
  cases e with
  | normal=>exact (mj t' E' H' Q hc.2 h1 h2.inv h3).mono fun e2 t2 H2 _ rY=>rY.after h2
  | _=>exact ⟨E',h1,h2,h3⟩
 | cond x a b fo mj=>
  intro t E H Q hc ht hi h
  simp only [mH,Bool.and_eq_true] at hc
  rw [wC] at h
  unfold Bw at h
  split at h
  ·rename_i v hx
   rw [ht.ev] at hx
   refine YE hx hc.1.1 ?_
   cases v
   ·exact mj t E H Q hc.2 ht hi h
   ·exact fo t E H Q hc.1.2 ht hi h
  ·exact h.elim
 | block id a fo=>
  intro t E H Q hc ht hi h
  rw [wC] at h
  refine XX ((fo t E H _ hc ht hi h).mono fun e t' H' _ hf=>?_)
  obtain ⟨E',h1,h2,h3⟩:=hf
  cases e with
  | exit i=>
   simp only [vx] at h3
   simp only
   split
   ·rename_i he;rw [if_pos he] at h3;exact ⟨E',h1,h2,h3⟩
   ·rename_i he;rw [if_neg he] at h3;exact ⟨E',h1,h2,h3⟩
  | _=>exact ⟨E',h1,h2,h3⟩
 | loop a fo=>
  intro t E H Q hc ht hi h
  rw [wC] at h
  obtain ⟨m,h⟩:=h
  refine YD ?_
  induction m generalizing t E H with
  | zero=>exact h.elim
  | succ m ih=>
   rw [qd] at h
   refine YC ((fo t E H _ hc ht hi h).mono fun e t' H' _ hf=>?_)
   obtain ⟨E',h1,h2,h3⟩:=hf
   cases e with
   | normal=>exact (ih t' E' H' h1 h2.inv h3).mono fun e2 t2 H2 _ rY=>rY.after h2
   | _=>exact ⟨E',h1,h2,h3⟩
 | rangeFunc f ps x y=>intro t E H Q hc;cases hc
 | scope b=>intro t E H Q hc;cases hc
 | goto l=>intro t E H Q hc;cases hc
 | refuse w=>intro t E H Q hc;cases hc
theorem Yc {n:Nat} {t:Act} {E:Env} {H:ad} (hw:H.wf) (ht:TE n t E) {σ:bG} {w:World} {a:Act} (hr:Rel P σ dT H.get w) (F5:TR σ t a):
  ∀{rs:List ResultVar} {l:List Value},xe P rs E H=some l->∃l',VL σ l l'/\(rs.mapM (Px a)).run P w=.ok l' w
 | [],l,hh=>by cases hh;exact ⟨[],.nil σ,by simp⟩
 | r::rs,l,hh=>by
  have h2:=hh
  rw [xe] at h2
  clear hh
  split at h2
  ·rename_i l0 B4
   obtain ⟨l',hv,eu⟩:=Yc hw ht hr F5 B4
   split at h2
   ·rename_i d
    cases h2
    refine ⟨a.tmps.getD d undef::l',.cons ?_ hv,?_⟩
    ·rw [<-ht.get];exact F5.tm.at d
    ·rw [List.mapM_cons]
     simp only [Sem.run_bind,Px,Sem.run_pure,Result.andThen_ok,eu]
   ·rename_i d ty
    split at h2
    ·rename_i v h3 hl
     cases h2
     have Au:VR σ (E d) (a.tmps.getD d undef):=by rw [<-ht.get];exact F5.tm.at d
     unfold sx at hl
     split at hl
     ·rename_i b off ha
      rw [ha] at Au
      obtain ⟨L,⟨hL,hW⟩,had⟩:=Au.HK
      split at hl
      ·rename_i v0 qS
       cases hl
       obtain ⟨v',FZ,aic⟩:=Rx qS trivial hr hL hW
       refine ⟨v'::l',.cons FZ hv,?_⟩
       rw [List.mapM_cons]
       simp only [Sem.run_bind,Px,had,asAddr,Sem.run_pure,Result.andThen_ok,aic,eu]
      ·cases hl
     ·cases hl
    ·cases h2
  ·cases h2
theorem Yd {n:Nat} {t:Act} {E:Env} {H:ad} {fn:Func} {l:List Value} (hw:H.wf) (ht:TE n t E) (hl:xe P fn.results.toList E H=some l):aat P fn t H (II l):=by
 intro σ w a hr F5
 obtain ⟨l',hv,eu⟩:=Yc hw ht hr F5 hl
 have hm:(results fn a.tmps).run P w=.ok (if h:l'.toArray.size=1 then l'.toArray[0] else .tuple l'.toArray) w:=by
  have e:results fn a.tmps=(do let vs<-fn.results.mapM (Px a);pure (if h:vs.size=1 then vs[0] else .tuple vs)):=rfl
  rw [e,Sem.run_bind,Array.mapM_eq_mapM_toList,Sem.run_map,eu]
  rfl
 refine ⟨_,hm,?_⟩
 unfold II
 split
 ·rename_i v
  obtain ⟨v',a',rfl,sZ,ha⟩:=hv.of_cons
  rw [ha.of_nil]
  exact sZ
 ·rename_i dv
  have hlen:=hv.1
  have:¬l'.toArray.size=1:=by
   intro h1
   have h2:l.length=1:=by simpa [hlen] using h1
   obtain ⟨v,rfl⟩:=List.length_eq_one_iff.1 h2
   exact dv v rfl
  rw [dif_neg this]
  exact .tuple hv.xp.1 hv.xp.2
theorem Ye {fn:Func} {args:Array Value} (hle:args.size<=fn.ntmps):TE fn.ntmps (start fn args) (b7 args.toList):=by
 refine ⟨fun i=>?_,by simp [start];omega,rfl⟩
 simp only [start,b7]
 by_cases hi:i < args.size
 ·simp [Array.getD,hi,Array.getElem_append,List.getD_eq_getElem?_getD,Nat.lt_add_right _ hi]
 ·by_cases iY:i < args.size+(fn.ntmps - args.size)
  ·simp [Array.getD,hi,iY,Array.getElem_append]
  ·simp [Array.getD,hi,iY]
def bI (P:Program) (T:oF) (f:Nat):Bool:=match P.funcs[f]? with
 | some fn=>(match fn.body with
  | some c=>mH P T fn.ntmps c
  | none=>false)
 | none=>false
theorem ae8 {f:FuncId} (T:oF) {fn:Func} {c:Code} {l:List Value} {H:ad} {K:Value->ad->Prop} (hm:P.follows .mixedOrders=true) (hf:P.funcs[f]?=some fn) (hb:fn.body=some c) (hc:mH P T fn.ntmps c=true)
  (hl:l.length<=fn.ntmps) (h:bV H->wC P H.fz T c (b7 l) H (cj P fn.results.toList K)):ak P f l.toArray H K:=by
 intro zZ
 have hi:yn H.fz H:=⟨zZ,fun _ h=>h⟩
 have iA:=Yb (T:=T) hm c (start fn l.toArray) (b7 l) H _ hc (Ye (by simpa using hl)) hi (h zZ)
 have vZ:Uq P f l.toArray H fun v H'=>KX H.fz H H'/\K v H':=by
  refine Zx hf hb (iA.mono fun e t' H' _ hE=>?_)
  obtain ⟨E',h1,h2,h3⟩:=hE
  have Su:∀{e:Exit},cj P fn.results.toList K e E' H'->(e=.normal∨e=.ret)/\BA P fn.results.toList E' H' K:=fun {e} hq=>by
   cases e with
   | normal=>exact ⟨.inl rfl,hq⟩
   | ret=>exact ⟨.inr rfl,hq⟩
   | _=>exact hq.elim
  obtain ⟨he,hw⟩:=Su h3
  refine ⟨he,?_⟩
  unfold BA at hw
  split at hw
  ·rename_i vs pU
   exact ⟨_,Yd h2.iy.wf h1 pU,h2,hw⟩
  ·exact hw.elim
 obtain ⟨v,H',h1,h2,h3,h4⟩:=vZ
 exact ⟨v,H',h1,h2,h3,h4⟩
theorem Ka {T:oF} {f:FuncId} {fn:Func} (h:bI P T f=true) (hf:P.funcs[f]?=some fn):∃c,fn.body=some c/\mH P T fn.ntmps c=true:=by
 unfold bI at h
 rw [hf] at h
 simp only at h
 split at h
 ·rename_i c hc;exact ⟨c,hc,h⟩
 ·cases h
theorem cF {f:FuncId} {fn:Func} {l:List Value} {H:ad} {K:Value->ad->Prop} (T:oF) (hm:P.follows .mixedOrders=true) (hf:P.funcs[f]?=some fn) (hc:bI P T f=true) {m:Nat} (hl:l.length<=m) (hn:m<=fn.ntmps) {rs:List ResultVar} (hr:fn.results.toList=rs)
  (h:bV H->wC P H.fz T (fn.body.getD .skip) (b7 l) H (cj P rs K)):ak P f l.toArray H K:=by
 obtain ⟨c,hb,hc⟩:=Ka hc hf
 rw [hb] at h
 exact ae8 T hm hf hb hc (Nat.le_trans hl hn) (hr▸h)
end
end Go.Proofs.YtinjmfblebpnnaaGreat.Ab
namespace Go.Proofs.YtinjmfblebpnnaaGreat.Ab
open Go Classical
universe u
inductive Tag {α:Sort u} (a:α):Type
 | mk
def Dq (b:Bool) (x y:Prop) (_:Tag x) (_:Tag y):Prop:=if b=true then x else y
section
variable {P:Program} {X:Nat->Bool} {T:oF} {E:Env} {H:ad} {Q:Exit->Env->ad->Prop}
@[go_sem] theorem an9 {x y:Prop} {t:Tag x} {s:Tag y}:Dq true x y t s=x:=nr rfl
@[go_sem] theorem anP {x y:Prop} {t:Tag x} {s:Tag y}:Dq false x y t s=y:=by simp [Dq]
@[congr] theorem anQ {b b':Bool} {x y:Prop} {t:Tag x} {s:Tag y} (h:b=b'):Dq b x y t s=Dq b' x y t s:=by rw [h]
def K4 (v:Value) (x y:Prop) (_:Tag x) (_:Tag y):Prop:=Bw v x y
@[congr] theorem anR {v v':Value} {x y:Prop} {t:Tag x} {s:Tag y} (h:v=v'):K4 v x y t s=K4 v' x y t s:=by rw [h]
@[go_sem] theorem aoa {b:Bool} {x y:Prop} {t:Tag x} {s:Tag y}:K4 (.bool b) x y t s=Dq b x y t s:=nr rfl
@[go_sem ↓] theorem ary:wC P X T .skip E H Q=Q .normal E H:=nr rfl
@[go_sem ↓] theorem arz {i:Nat}:wC P X T (.exit i) E H Q=Q (.exit i) E H:=nr rfl
@[go_sem ↓] theorem atG:wC P X T .ret E H Q=Q .ret E H:=nr rfl
@[go_sem ↓] theorem atH {a b:Code}:wC P X T (.seq a b) E H Q=wC P X T a E H (oT (fun E H=>wC P X T b E H Q) Q):=nr rfl
@[go_sem ↓] theorem aqe {id:Nat} {a:Code}:wC P X T (.block id a) E H Q=wC P X T a E H (vx id Q):=nr rfl
@[go_sem ↓] theorem arA {c:Operand} {a b:Code}:wC P X T (.cond c a b) E H Q=K4 (jz E c) (wC P X T a E H Q) (wC P X T b E H Q) .mk .mk:=nr rfl
@[go_sem ↓] theorem aoJ {id:Nat} {l:List Oper}:wC P X T (.region id (List.toArray l) false) E H Q=lk P X (l.map (·.dst)) l E H (Q .normal):=nr rfl
theorem XH:∀(ds:List (Option Nat)) (l:List Oper) (k:Nat) (acc:List (Nat × Rec)) (E:Env) (H:ad) (K:Env->ad->Prop),jc P X [] ds l k acc E H K=lk P X ds l E H K
 | ds,[],k,acc,E,H,K=>rfl
 | ds,o::l,k,acc,E,H,K=>by
  rw [jc,lk]
  simp only [XH ds l,uq,true_and]
noncomputable def Iq (P:Program) (X:Nat->Bool) (tb:List (Nat × Nat)) (l:List Oper) (E:Env) (H:ad) (K:Env->ad->Prop):Prop:=jc P X tb (l.map (·.dst)) l 0 [] E H K
@[congr] theorem anD {tb tb':List (Nat × Nat)} {l:List Oper} {K:Env->ad->Prop} (h:tb=tb'):Iq P X tb l E H K=Iq P X tb' l E H K:=by rw [h]
@[go_sem ↓] theorem arB {id:Nat} {l:List Oper}:wC P X T (.region id (List.toArray l) true) E H Q=Iq P X (Aw T id) l E H (Q .normal):=nr rfl
@[go_sem] theorem anS {l:List Oper} {K:Env->ad->Prop}:Iq P X [] l E H K=lk P X (l.map (·.dst)) l E H K:=XH _ _ _ _ _ _ _
@[go_sem] theorem anE {p:Nat × Nat} {tb:List (Nat × Nat)} {l:List Oper} {K:Env->ad->Prop}:Iq P X (p::tb) l E H K=jc P X (p::tb) (l.map (·.dst)) l 0 [] E H K:=nr rfl
@[go_sem] theorem aqf {id:Nat}:Aw [] id=[]:=nr rfl
@[go_sem] theorem aoK {p:Nat × List (Nat × Nat)} {T:oF} {id:Nat}:Aw (p::T) id=if p.1=id then p.2 else Aw T id:=nr rfl
@[congr] theorem anF {tb:List (Nat × Nat)} {ds ds':List (Option Nat)} {l:List Oper} {k k':Nat} {acc qI:List (Nat × Rec)} {K:Env->ad->Prop} (h:ds=ds') (hk:k=k') (ha:acc=qI):jc P X tb ds l k acc E H K=jc P X tb ds' l k' qI E H K:=by rw [h,hk,ha]
@[go_sem] theorem anB {k:Env->ad->Prop}:oT k Q .normal E H=k E H:=nr rfl
@[go_sem] theorem aob {k:Env->ad->Prop}:oT k Q .ret E H=Q .ret E H:=nr rfl
@[go_sem] theorem anT {k:Env->ad->Prop} {i:Nat}:oT k Q (.exit i) E H=Q (.exit i) E H:=nr rfl
@[go_sem] theorem anG {id:Nat}:vx id Q .normal E H=Q .normal E H:=nr rfl
@[go_sem] theorem aoL {id:Nat}:vx id Q .ret E H=Q .ret E H:=nr rfl
@[go_sem] theorem aoc {id i:Nat}:vx id Q (.exit i) E H=if i=id then Q .normal E H else Q (.exit i) E H:=nr rfl
def ew (P:Program) (X:Nat->Bool) (H:ad) (r:AO) (K:Value->ad->Prop) (_:Tag K):Prop:=match r with
 | .ok v H'=>(∀b,b < H.next->X b=true->H'.get b=H.get b)/\K v H'
 | .call f args=>ak P f args H K
 | .no=>False
def ag (P:Program) (f:FuncId) (args:Array Value) (H:ad) (K:Value->ad->Prop) (_:Tag K):Prop:=ak P f args H K
theorem ag.by {P:Program} {f:FuncId} {args:Array Value} {H:ad} {K K':Value->ad->Prop} {t:Tag K} (h:ak P f args H K') (hk:∀v H',KX H.fz H H'->K' v H'->K v H'):ag P f args H K t:=h.mono hk
@[congr] theorem anU {r r':AO} {K:Value->ad->Prop} {t:Tag K} (h:r=r'):ew P X H r K t=ew P X H r' K t:=by rw [h]
@[congr] theorem aod {f:FuncId} {args C9:Array Value} {K:Value->ad->Prop} {t:Tag K} (h:args=C9):ag P f args H K t=ag P f C9 H K t:=by rw [h]
@[go_sem] theorem adK {v:Value} {K:Value->ad->Prop} {t:Tag K}:ew P X H (.ok v H) K t=K v H:=propext ⟨fun h=>h.2,fun h=>⟨fun _ _ _=>rfl,h⟩⟩
@[go_sem] theorem wK {v:Value} {B:cw} {K:Value->ad->Prop} {t:Tag K}:ew P X H (.ok v (H.push B)) K t=K v (H.push B):=propext ⟨fun h=>h.2,fun h=>⟨fun b hb _=>bX hb,h⟩⟩
@[go_sem] theorem ED {v:Value} {b:Nat} {B:cw} {K:Value->ad->Prop} {t:Tag K} (hx:X b=false):ew P X H (.ok v (H.ah b B)) K t=K v (H.ah b B):=propext ⟨fun h=>h.2,fun h=>⟨fun c _ hc=>by
 show (if c=b then some B else H.get c)=_
 rw [if_neg (fun e=>by rw [e,hx] at hc;cases hc)],h⟩⟩
@[go_sem] theorem Kb {v:Value} {b:Nat} {B:cw} {K:Value->ad->Prop} {t:Tag K} (hx:X b=false):ew P X H (.ok v (H.grow b B)) K t=K v (H.grow b B):=propext ⟨fun h=>h.2,fun h=>⟨fun c hc I5=>by
 show (if c=H.next then some B else if c=b then none else H.get c)=_
 rw [if_neg (by omega),if_neg (fun e=>by rw [e,hx] at I5;cases I5)],h⟩⟩
@[go_sem] theorem anV {v:Value} {B C:cw} {K:Value->ad->Prop} {t:Tag K} (hx:X H.next=false):ew P X (H.push B) (.ok v (H.push C)) K t=K v (H.push C):=propext ⟨fun h=>h.2,fun h=>⟨fun c _ I5=>by
 show (if c=H.next then some C else H.get c)=(if c=H.next then some B else H.get c)
 have:c≠H.next:=fun e=>by rw [e,hx] at I5;cases I5
 rw [if_neg this,if_neg this],h⟩⟩
@[go_sem] theorem aoM {f:FuncId} {args:Array Value} {K:Value->ad->Prop} {t:Tag K}:ew P X H (.call f args) K t=ag P f args H K t:=nr rfl
@[go_sem ↓] theorem aoN {ds:List (Option Nat)} {K:Env->ad->Prop}:lk P X ds [] E H K=K E H:=nr rfl
@[go_sem ↓] theorem aqg {ds:List (Option Nat)} {d:Option Nat} {op:Op} {ty:TypeId} {pos:String} {B6:Array Edge} {l:List Oper} {K:Env->ad->Prop}:
  lk P X ds (⟨d,op,ty,pos,B6,none⟩::l) E H K=fH P X (jz E) op H (fun v H=>lk P X ds l (nL E d v) H K):=by rw [lk];simp [Ip]
@[go_sem ↓] theorem anW {ds:List (Option Nat)} {d:Option Nat} {op:Op} {ty:TypeId} {pos:String} {B6:Array Edge} {l:List Oper} {j:Nat} {want:Bool} {K:Env->ad->Prop}:
  lk P X ds (⟨d,op,ty,pos,B6,some (j,want)⟩::l) E H K=Dq (zY E want ds[j]?) (fH P X (jz E) op H (fun v H=>lk P X ds l (nL E d v) H K)) (lk P X ds l (nL E d undef) H K) .mk .mk:=by rw [lk];rfl
@[go_sem ↓] theorem aoe {tb:List (Nat × Nat)} {ds:List (Option Nat)} {k:Nat} {acc:List (Nat × Rec)} {K:Env->ad->Prop}:jc P X tb ds [] k acc E H K=K E H:=nr rfl
def Bl (tb:List (Nat × Nat)) (k:Nat):Bool:=tb.any fun p=>p.2==k
theorem adL {tb:List (Nat × Nat)} {k:Nat} {acc:List (Nat × Rec)} {ob:mf} {H H':ad} (h:Bl tb k=false):uq tb k acc ob H H'=True:=by
 induction tb with
 | nil=>rfl
 | cons p tb ih=>
  simp only [Bl,List.any_cons,Bool.or_eq_false_iff] at h
  have h1:¬p.2=k:=by simpa using h.1
  rw [uq,if_neg h1,ih h.2];simp
noncomputable def uL (P:Program) (X:Nat->Bool) (b1 b2:Bool) (tb:List (Nat × Nat)) (ds:List (Option Nat)) (d:Option Nat) (op:Op) (l:List Oper) (k:Nat) (acc:List (Nat × Rec)) (E:Env) (H:ad) (K:Env->ad->Prop) (_:Tag (l,op,K,E)):Prop:=
 fH P X (jz E) op H (fun v H'=>(if b2=true then uq tb k acc (lG P (jz E) op) H H' else True)/\jc P X tb ds l (k+1) (if b1=true then (k,⟨lG P (jz E) op,vi P op H,H,H'⟩)::acc else acc) (nL E d v) H' K)
@[congr] theorem aof {b1 b1' b2 b2':Bool} {tb:List (Nat × Nat)} {ds:List (Option Nat)} {d:Option Nat} {op:Op} {l:List Oper} {k:Nat} {acc:List (Nat × Rec)} {K:Env->ad->Prop} {t:Tag (l,op,K,E)} (h1:b1=b1') (h2:b2=b2'):uL P X b1 b2 tb ds d op l k acc E H K t=uL P X b1' b2' tb ds d op l k acc E H K t:=by rw [h1,h2]
theorem Y9 {tb:List (Nat × Nat)} {ds:List (Option Nat)} {d:Option Nat} {op:Op} {l:List Oper} {k:Nat} {acc:List (Nat × Rec)} {K:Env->ad->Prop}:
  fH P X (jz E) op H (fun v H'=>uq tb k acc (lG P (jz E) op) H H'/\jc P X tb ds l (k+1) (note tb k ⟨lG P (jz E) op,vi P op H,H,H'⟩ acc) (nL E d v) H' K)=uL P X (told tb k) (Bl tb k) tb ds d op l k acc E H K .mk:=by
 unfold uL note
 cases hc:Bl tb k
 ·simp only [adL hc,Bool.false_eq_true,if_false]
 ·simp only [if_true]
@[go_sem] theorem arC {tb:List (Nat × Nat)} {ds:List (Option Nat)} {d:Option Nat} {op:Op} {l:List Oper} {k:Nat} {acc:List (Nat × Rec)} {K:Env->ad->Prop} {t:Tag (l,op,K,E)}:uL P X false false tb ds d op l k acc E H K t=fH P X (jz E) op H (fun v H'=>jc P X tb ds l (k+1) acc (nL E d v) H' K):=by
 unfold uL;simp
@[go_sem] theorem arD {tb:List (Nat × Nat)} {ds:List (Option Nat)} {d:Option Nat} {op:Op} {l:List Oper} {k:Nat} {acc:List (Nat × Rec)} {K:Env->ad->Prop} {t:Tag (l,op,K,E)}:uL P X true false tb ds d op l k acc E H K t=fH P X (jz E) op H (fun v H'=>jc P X tb ds l (k+1) ((k,⟨lG P (jz E) op,vi P op H,H,H'⟩)::acc) (nL E d v) H' K):=by
 unfold uL;simp
@[go_sem] theorem arE {tb:List (Nat × Nat)} {ds:List (Option Nat)} {d:Option Nat} {op:Op} {l:List Oper} {k:Nat} {acc:List (Nat × Rec)} {K:Env->ad->Prop} {t:Tag (l,op,K,E)}:uL P X false true tb ds d op l k acc E H K t=fH P X (jz E) op H (fun v H'=>uq tb k acc (lG P (jz E) op) H H'/\jc P X tb ds l (k+1) acc (nL E d v) H' K):=by
 unfold uL;simp
@[go_sem] theorem arF {tb:List (Nat × Nat)} {ds:List (Option Nat)} {d:Option Nat} {op:Op} {l:List Oper} {k:Nat} {acc:List (Nat × Rec)} {K:Env->ad->Prop} {t:Tag (l,op,K,E)}:uL P X true true tb ds d op l k acc E H K t=fH P X (jz E) op H (fun v H'=>uq tb k acc (lG P (jz E) op) H H'/\jc P X tb ds l (k+1) ((k,⟨lG P (jz E) op,vi P op H,H,H'⟩)::acc) (nL E d v) H' K):=by
 unfold uL;simp
@[go_sem ↓] theorem aoO {tb:List (Nat × Nat)} {ds:List (Option Nat)} {d:Option Nat} {op:Op} {ty:TypeId} {pos:String} {B6:Array Edge} {l:List Oper} {k:Nat} {acc:List (Nat × Rec)} {K:Env->ad->Prop}:
  jc P X tb ds (⟨d,op,ty,pos,B6,none⟩::l) k acc E H K=uL P X (told tb k) (Bl tb k) tb ds d op l k acc E H K .mk:=by
 rw [<-Y9,jc];simp [Ip]
@[go_sem ↓] theorem anH {tb:List (Nat × Nat)} {ds:List (Option Nat)} {d:Option Nat} {op:Op} {ty:TypeId} {pos:String} {B6:Array Edge} {l:List Oper} {k:Nat} {acc:List (Nat × Rec)} {j:Nat} {want:Bool} {K:Env->ad->Prop}:
  jc P X tb ds (⟨d,op,ty,pos,B6,some (j,want)⟩::l) k acc E H K=Dq (zY E want ds[j]?) (uL P X (told tb k) (Bl tb k) tb ds d op l k acc E H K .mk) (jc P X tb ds l (k+1) acc (nL E d undef) H K) .mk .mk:=by rw [<-Y9,jc];rfl
@[go_sem] theorem aog {i:Nat}:Bl [] i=false:=nr rfl
@[go_sem] theorem anX {p:Nat × Nat} {tb:List (Nat × Nat)} {i:Nat}:Bl (p::tb) i=(p.2==i||Bl tb i):=nr rfl
attribute [go_sem] aef ae5
@[congr] theorem anI {want:Bool} {d d':Option (Option Nat)} (h:d=d'):zY E want d=zY E want d':=by rw [h]
@[go_sem] theorem anY {want:Bool} {d:Nat}:zY E want (some (some d))=Io (E d) want:=nr rfl
@[go_sem] theorem anZ {b w:Bool}:Io (.bool b) w=(b==w):=nr rfl
@[go_sem] theorem arG {b:Bool}:(b==true)=b:=by cases b <;> rfl
@[go_sem] theorem arH {b:Bool}:(b==false)=!b:=by cases b <;> rfl
attribute [go_sem] Bool.not_true Bool.not_false List.getElem?_cons_succ List.getElem?_cons_zero
@[go_sem ↓] theorem aqh {i:Nat}:jz E (.tmp i)=E i:=nr rfl
@[go_sem ↓] theorem aoh {v:Value}:jz E (.const v)=v:=nr rfl
@[go_sem ↓] theorem aoP {f:FuncId}:jz E (.func f)=.func (.func f) #[] #[]:=nr rfl
@[go_sem ↓] theorem aoi {v:Value}:nL E none v=E:=nr rfl
@[go_sem ↓] theorem aoj {d:Nat} {v:Value}:nL E (some d) v d=v:=if_pos rfl
@[go_sem ↓] theorem an0 {d i:Nat} {v:Value} (h:i≠d):nL E (some d) v i=E i:=if_neg h
@[go_sem] theorem aoQ {l:List Value} {i:Nat}:b7 l i=l.getD i undef:=nr rfl
attribute [go_sem] List.getD_cons_zero List.getD_cons_succ ne_eq not_false_eq_true Nat.reduceEqDiff
section ops
variable {K:Value->ad->Prop} {ev:Operand->Value}
@[go_sem ↓] theorem arI {x:Operand}:fH P X ev (.move x) H K=ew P X H (.ok (ev x) H) K .mk:=nr rfl
@[go_sem ↓] theorem aoR {x:Operand}:fH P X ev (.assign x) H K=ew P X H (.ok (ev x) H) K .mk:=nr rfl
@[go_sem ↓] theorem arJ {c a b:Operand}:fH P X ev (.pick c a b) H K=ew P X H (ia (C8 (ev c) (ev a) (ev b) h0) H) K .mk:=nr rfl
@[go_sem ↓] theorem aqi {t:TypeId}:fH P X ev (.alloc t) H K=ew P X H (C0 P t H) K .mk:=nr rfl
@[go_sem ↓] theorem atI {t:TypeId} {x:Operand}:fH P X ev (.box t x) H K=ew P X H (rK (ev x).cells.toList t false ptrTo H) K .mk:=nr rfl
@[go_sem ↓] theorem aqj {t:TypeId} {l:List (Nat × Operand)}:fH P X ev (.build t (List.toArray l)) H K=ew P X H (ia (fQ P t (parts ev l) h0) H) K .mk:=nr rfl
@[go_sem ↓] theorem anC {t:TypeId} {n:Nat} {l:List (Nat × Operand)}:fH P X ev (.buildSlice t n (List.toArray l)) H K=ew P X H (sw P t n (parts ev l) H) K .mk:=nr rfl
@[go_sem ↓] theorem arK {t:TypeId} {a:Operand}:fH P X ev (.load t a) H K=ew P X H (sx P t (ev a) H) K .mk:=nr rfl
@[go_sem ↓] theorem aqk {t:TypeId} {a x:Operand}:fH P X ev (.store t a x) H K=ew P X H (Be P t (ev a) (ev x) H) K .mk:=nr rfl
@[go_sem ↓] theorem atJ {x:Operand}:fH P X ev (.nilCheck x) H K=ew P X H (ia (Dn (ev x) h0) H) K .mk:=nr rfl
@[go_sem ↓] theorem atK {op:BinOp} {t s:TypeId} {x y:Operand}:fH P X ev (.binOp op t x y s) H K=ew P X H (ia (eC P op t (ev x) (ev y) h0) H) K .mk:=nr rfl
@[go_sem ↓] theorem awl {op:UnOp} {t:TypeId} {x:Operand}:fH P X ev (.unOp op t x) H K=ew P X H (ia (DL op (ev x) h0) H) K .mk:=nr rfl
@[go_sem ↓] theorem arL {s d:TypeId} {x:Operand}:fH P X ev (.convert s d x) H K=ew P X H (oR P s d (ev x) H) K .mk:=nr rfl
@[go_sem ↓] theorem an1 {f:Fn} {a b:List Operand}:fH P X ev (.makeFunc f (List.toArray a) (List.toArray b)) H K=ew P X H (.ok (.func f (pS ev a).toArray (pS ev b).toArray) H) K .mk:=nr rfl
@[go_sem ↓] theorem anJ {t:TypeId} {l c:Operand}:fH P X ev (.makeSlice t l c) H K=ew P X H (CU P t (ev l) (ev c) H) K .mk:=nr rfl
@[go_sem ↓] theorem aql {t:TypeId} {x:Operand} {lo hi mx:Option Operand}:fH P X ev (.slice t x lo hi mx) H K=ew P X H (ia (l9 P t (ev x) (lo.map ev) (hi.map ev) (mx.map ev) h0) H) K .mk:=nr rfl
@[go_sem ↓] theorem anK {t:TypeId} {x:Operand} {f:Nat}:fH P X ev (.fieldAddr t x f) H K=ew P X H (ia (AW P t (ev x) f h0) H) K .mk:=nr rfl
@[go_sem ↓] theorem aqm {t:TypeId} {x:Operand} {f:Nat}:fH P X ev (.field t x f) H K=ew P X H (ia (Bc P t (ev x) f h0) H) K .mk:=nr rfl
@[go_sem ↓] theorem anL {t:TypeId} {x i:Operand}:fH P X ev (.indexAddr t x i) H K=ew P X H (ia (AX P t (ev x) (ev i) h0) H) K .mk:=nr rfl
@[go_sem ↓] theorem aqn {t:TypeId} {x i:Operand}:fH P X ev (.index t x i) H K=ew P X H (ia (xY P t (ev x) (ev i) h0) H) K .mk:=nr rfl
@[go_sem ↓] theorem aok {x:Operand} {i:Nat}:fH P X ev (.extract x i) H K=ew P X H (ia (AZ (ev x) i h0) H) K .mk:=nr rfl
@[go_sem ↓] theorem arM {x:Operand} {l:List Operand} {ts:Array TypeId}:fH P X ev (.call {callee:=.value x,args:=List.toArray l,argTypes:=ts}) H K=ew P X H (ia (x9 P (ev x) (pS ev l).toArray) H) K .mk:=nr rfl
@[go_sem ↓] theorem atL {t:TypeId} {x:Operand} {ts:List TypeId}:fH P X ev (.call {callee:=.builtin .len,args:=#[x],argTypes:=⟨t::ts⟩}) H K=ew P X H (ia (w4 P t (ev x) h0) H) K .mk:=nr rfl
@[go_sem ↓] theorem aoS {t t2:TypeId} {x y:Operand}:fH P X ev (.call {callee:=.builtin .append,args:=#[x,y],argTypes:=#[t,t2]}) H K=ew P X H (match P.underlying t2 with
   | some (.slice _)=>iS P t (ev x) (ev y) H
   | _=>.no) K .mk:=nr rfl
@[go_sem ↓] theorem arN {t:TypeId} {x y:Operand} {ts:List TypeId}:fH P X ev (.call {callee:=.builtin .copy,args:=#[x,y],argTypes:=⟨t::ts⟩}) H K=ew P X H (Bk P t (ev x) (ev y) H) K .mk:=nr rfl
@[go_sem ↓] theorem aqo {t:TypeId} {x:Operand} {ts:List TypeId}:fH P X ev (.call {callee:=.builtin .clear,args:=#[x],argTypes:=⟨t::ts⟩}) H K=ew P X H (Bf P t (ev x) H) K .mk:=nr rfl
@[go_sem ↓] theorem atM {x y:Operand} {ts:Array TypeId}:fH P X ev (.call {callee:=.builtin .max,args:=#[x,y],argTypes:=ts}) H K=ew P X H (ia (yi true (ev x) (ev y) h0) H) K .mk:=nr rfl
@[go_sem ↓] theorem aol {t:TypeId}:fH P X ev (.makeMap t none) H K=ew P X H (NT t H) K .mk:=nr rfl
@[go_sem ↓] theorem aoT {t:TypeId} {x i:Operand} {ok:Bool}:fH P X ev (.lookup t x i ok) H K=ew P X H (EU P t (ev x) (ev i) ok H) K .mk:=nr rfl
@[go_sem ↓] theorem atN {t:TypeId} {m k x:Operand}:fH P X ev (.mapUpdate t m k x) H K=ew P X H (Fi P t (ev m) (ev k) (ev x) H) K .mk:=nr rfl
end ops
@[go_sem] theorem aom {t:TypeId}:NT t H=.ok (.map (some H.next)) (H.push ⟨vu [],t,false,false⟩):=nr rfl
noncomputable def L7 (P:Program) (t:TypeId) (B:Option cw) (n:Int) (ok:Bool) (H:ad):AO:=match B with
 | some B=>if Ae P t then (match Fh B.cells with
   | some kv=>.ok (if ok=true then .tuple #[.int .i64 ((getM kv n).getD 0),.bool (getM kv n).isSome] else .int .i64 ((getM kv n).getD 0)) H
   | none=>.no) else .no
 | none=>.no
@[congr] theorem aon {t:TypeId} {B B':Option cw} {n:Int} {ok:Bool} (h:B=B'):L7 P t B n ok H=L7 P t B' n ok H:=by rw [h]
@[go_sem] theorem aoU {t:TypeId} {b:Nat} {n:Int} {ok:Bool}:EU P t (.map (some b)) (.int .i64 n) ok H=L7 P t (H.get b) n ok H:=nr rfl
@[go_sem] theorem aqp {t e:TypeId} {kv:List (Int × Int)} {o r:Bool} {n:Int} (h:Ae P t):L7 P t (some ⟨vu kv,e,o,r⟩) n true H=.ok (.tuple #[.int .i64 ((getM kv n).getD 0),.bool (getM kv n).isSome]) H:=by
 unfold L7
 simp only [if_pos h,Ki,if_true]
noncomputable def L8 (P:Program) (t:TypeId) (B:Option cw) (b:Nat) (n v:Int) (H:ad):AO:=match B with
 | some B=>if Ae P t/\B.ro=false then (match Fh B.cells with
   | some kv=>.ok undef (H.ah b ⟨vu (Bv kv n v),B.elem,B.hV,false⟩)
   | none=>.no) else .no
 | none=>.no
@[congr] theorem aoo {t:TypeId} {B B':Option cw} {b:Nat} {n v:Int} (h:B=B'):L8 P t B b n v H=L8 P t B' b n v H:=by rw [h]
@[go_sem] theorem arO {t:TypeId} {b:Nat} {n v:Int}:Fi P t (.map (some b)) (.int .i64 n) (.int .i64 v) H=L8 P t (H.get b) b n v H:=nr rfl
@[go_sem] theorem aqq {t e:TypeId} {kv:List (Int × Int)} {o:Bool} {b:Nat} {n v:Int} (h:Ae P t):L8 P t (some ⟨vu kv,e,o,false⟩) b n v H=.ok undef (H.ah b ⟨vu (Bv kv n v),e,o,false⟩):=by
 unfold L8
 dsimp only
 rw [if_pos ⟨h,rfl⟩,Ki]
attribute [go_sem] aei adA
@[go_sem] theorem aop {ev:Operand->Value}:parts ev []=[]:=nr rfl
@[go_sem] theorem an2 {ev:Operand->Value} {p:Nat × Operand} {l:List (Nat × Operand)}:parts ev (p::l)=(p.1,ev p.2)::parts ev l:=nr rfl
@[congr] theorem anM {r r':KO} (h:r=r'):ia r H=ia r' H:=by rw [h]
@[go_sem] theorem aqr {v:Value} {h:KH}:ia (.ok v h) H=.ok v H:=nr rfl
@[go_sem] theorem aoq {f:FuncId} {args:Array Value}:ia (.call f args) H=.call f args:=nr rfl
section akR
variable {h:KH}
attribute [go_sem] acO acj ae6 aeg
@[go_sem] theorem atO {t:TypeId} {k:IntKind} {a b:Int}:eC P .lss t (.int k a) (.int k b) h=.ok (.bool (decide (a < b))) h:=by simp [eC,nI,uk,xZ]
@[go_sem] theorem atP {t:TypeId} {k:IntKind} {a b:Int}:eC P .leq t (.int k a) (.int k b) h=.ok (.bool (decide (a<=b))) h:=by
 simp only [eC,nI,uk,decide_true,cond_true,xZ]
 congr 2;rw [Bool.eq_iff_iff];simp
@[go_sem] theorem atQ {t:TypeId} {k:IntKind} {a b:Int}:eC P .gtr t (.int k a) (.int k b) h=.ok (.bool (decide (b < a))) h:=by simp [eC,nI,uk,xZ]
@[go_sem] theorem atS {t:TypeId} {k:IntKind} {a b:Int}:eC P .geq t (.int k a) (.int k b) h=.ok (.bool (decide (b<=a))) h:=by
 simp only [eC,nI,uk,decide_true,cond_true,xZ]
 congr 2;rw [Bool.eq_iff_iff];simp
@[go_sem] theorem atT {t:TypeId} {k:IntKind} {a b:Int}:eC P .eql t (.int k a) (.int k b) h=.ok (.bool (decide (a=b))) h:=by simp [eC,nI,uk,Bd]
@[go_sem] theorem atU {t:TypeId} {k:IntKind} {a b:Int}:eC P .neq t (.int k a) (.int k b) h=.ok (.bool (!decide (a=b))) h:=by simp [eC,nI,uk,Bd]
@[go_sem] theorem atV {t:TypeId} {k:IntKind} {a b:Int}:eC P .add t (.int k a) (.int k b) h=.ok (.int k (k.wrap (a+b))) h:=by simp [eC,nI,uk,qu]
@[go_sem] theorem atW {t:TypeId} {k:IntKind} {a b:Int}:eC P .sub t (.int k a) (.int k b) h=.ok (.int k (k.wrap (a - b))) h:=by simp [eC,nI,uk,qu]
@[go_sem] theorem atX {t:TypeId} {k:IntKind} {a b:Int}:eC P .mul t (.int k a) (.int k b) h=.ok (.int k (k.wrap (a * b))) h:=by simp [eC,nI,uk,qu]
@[go_sem] theorem atY {t:TypeId} {k:IntKind} {a b:Int} (hb:b≠0):eC P .quo t (.int k a) (.int k b) h=.ok (.int k (k.wrap (a.tdiv b))) h:=by simp [eC,nI,uk,qu,Bd,hb]
@[go_sem] theorem atZ {t:TypeId} {k:IntKind} {a b:Int} (hb:b≠0):eC P .rem t (.int k a) (.int k b) h=.ok (.int k (a.tmod b)) h:=by simp [eC,nI,uk,Bd,hb]
@[go_sem] theorem aid {t:TypeId} {a b:ByteArray}:eC P .eql t (.string a) (.string b) h=.ok (.bool (decide (a.data.toList=b.data.toList))) h:=by simp [eC,nI,IH,Hj]
@[go_sem] theorem at0 {t:TypeId} {a b:ByteArray}:eC P .neq t (.string a) (.string b) h=.ok (.bool (!decide (a.data.toList=b.data.toList))) h:=by simp [eC,nI,IH,Hj]
noncomputable def cJ (P:Program) (s:TypeId) (f:Nat):Option Nat:=match P.underlying s with
 | some (.struct fs)=>match pK fs.toList f with
  | some f=>match du P f.type with
   | some n=>bif Nat.blt 0 n then some f.offset else none
   | none=>none
  | none=>none
 | _=>none
def foA (off:Option Nat) (b o:Nat) (h:KH):KO:=match off with
 | some off=>.ok (.pointer (some ⟨b,o+off,none⟩)) h
 | none=>.no
@[go_sem] theorem aoV {off b o:Nat}:foA (some off) b o h=.ok (.pointer (some ⟨b,o+off,none⟩)) h:=nr rfl
@[go_sem] theorem aoW {s:TypeId} {b o f:Nat}:AW P s (.pointer (some ⟨b,o,none⟩)) f h=foA (cJ P s f) b o h:=by
 unfold AW cJ
 cases hu:P.underlying s with
 | none=>rfl
 | some d=>
  cases d with
  | struct fs=>
   simp only
   cases pK fs.toList f with
   | none=>rfl
   | some f1=>
    simp only
    cases du P f1.type with
    | none=>rfl
    | some n=>simp only;cases Nat.blt 0 n <;> rfl
  | _=>rfl
noncomputable def IL (P:Program) (s:TypeId) (f:Nat):Option (TypeId × Nat):=match P.underlying s with
 | some (.struct fs)=>match pK fs.toList f with
  | some f=>some (f.type,f.offset)
  | none=>none
 | _=>none
def PE (a:Option Bool) (n:Option Nat) (l:List Value) (off:Nat) (h:KH):KO:=match a with
 | some true=>(match n with
  | some n=>.ok (.agg ((l.drop off).take n).toArray) h
  | none=>.no)
 | some false=>(match l[off]? with
  | some v=>.ok v h
  | none=>.no)
 | none=>.no
noncomputable def UG (P:Program) (q:Option (TypeId × Nat)) (l:List Value) (h:KH):KO:=match q with
 | some (ty,off)=>PE (hJ P ty) (du P ty) l off h
 | none=>.no
@[go_sem] theorem aoX {ty:TypeId} {off:Nat} {l:List Value}:UG P (some (ty,off)) l h=PE (hJ P ty) (du P ty) l off h:=nr rfl
def UH (v:Option Value) (h:KH):KO:=match v with
 | some v=>.ok v h
 | none=>.no
@[go_sem] theorem aoY {v:Value}:UH (some v) h=.ok v h:=nr rfl
@[go_sem] theorem aqs {n:Option Nat} {l:List Value} {off:Nat}:PE (some false) n l off h=UH l[off]? h:=by
 show (match l[off]? with | some v=>KO.ok v h | none=>.no)=_
 cases l[off]? <;> rfl
@[go_sem] theorem aqt {s:TypeId} {f:Nat} {l:List Value}:Bc P s (.agg (List.toArray l)) f h=UG P (IL P s f) l h:=by
 unfold Bc IL
 cases hu:P.underlying s with
 | none=>rfl
 | some d=>
  cases d with
  | struct fs=>
   simp only
   cases pK fs.toList f with
   | none=>rfl
   | some f1=>
    simp only [UG,Bj,PE]
    cases hJ P f1.type with
    | none=>rfl
    | some a=>
     cases a
     ·simp only [wL]
      cases l[f1.offset]? <;> rfl
     ·simp only [Hw,Hv]
      cases du P f1.type <;> rfl
  | _=>rfl
noncomputable def iZ (P:Program) (t:TypeId):Option (TypeId × Nat):=match P.underlying t with
 | some (.slice e)=>match du P e with
  | some s=>some (e,s)
  | none=>none
 | _=>none
def UI (q:Option (TypeId × Nat)) (b o n:Nat) (i:Int) (h:KH):KO:=match q with
 | some (_,s)=>if 0<=i/\i.toNat < n then .ok (.pointer (some ⟨b,o+i.toNat * s,none⟩)) h else .no
 | none=>.no
@[go_sem] theorem aoZ {e:TypeId} {s b o n:Nat} {i:Int}:UI (some (e,s)) b o n i h=if 0<=i/\i.toNat < n then .ok (.pointer (some ⟨b,o+i.toNat * s,none⟩)) h else .no:=nr rfl
@[go_sem] theorem ao0 {t:TypeId} {b o n c:Nat} {k:IntKind} {i:Int} (he:(iZ P t).isSome=true):
  AX P t (.slice (some ⟨b,o,none⟩) n c) (.int k i) h=UI (iZ P t) b o n i h:=by
 unfold iZ at he ⊢
 unfold AX
 cases hu:P.underlying t with
 | none=>rw [hu] at he;cases he
 | some d=>
  rw [hu] at he
  cases d with
  | slice e=>
   simp only at he ⊢
   cases hs:du P e with
   | none=>rw [hs] at he;cases he
   | some s=>
    simp only [UI]
    cases i with
    | ofNat j=>
     simp only
     rw [blt_eq]
     by_cases hj:j < n
     ·simp [hj,hs]
     ·simp [hj,hs]
    | negSucc j=>
     simp only
     rw [if_neg (by intro h;have:=h.1;simp at this)]
  | _=>cases he
def leA (q:Option (TypeId × Nat)) (n:Nat) (h:KH):KO:=match q with
 | some _=>.ok (.int .i64 ((n:Nat):Int)) h
 | none=>.no
@[go_sem] theorem ao1 {q:TypeId × Nat} {n:Nat}:leA (some q) n h=.ok (.int .i64 ((n:Nat):Int)) h:=nr rfl
@[go_sem] theorem aor {t:TypeId} {a:Option Addr} {n c:Nat} (he:(iZ P t).isSome=true):w4 P t (.slice a n c) h=leA (iZ P t) n h:=by
 unfold iZ at he ⊢
 unfold w4
 cases hu:P.underlying t with
 | none=>rw [hu] at he;cases he
 | some d=>
  rw [hu] at he
  cases d with
  | slice e=>
   simp only at he ⊢
   cases hs:du P e with
   | none=>rw [hs] at he;cases he
   | some s=>rfl
  | _=>cases he
@[go_sem] theorem aco {t:TypeId} {s:ByteArray} (hu:P.underlying t=some .string):w4 P t (.string s) h=.ok (.int .i64 ((s.data.toList.length:Nat):Int)) h:=by
 unfold w4;rw [hu];simp [xU]
@[go_sem] theorem arP {l:List Value} {i:Nat}:AZ (.tuple (List.toArray l)) i h=UH l[i]? h:=by
 simp only [AZ,wL]
 cases l[i]? <;> rfl
attribute [go_sem] Option.isSome_some Int.natCast_nonneg Int.toNat_natCast
theorem bS {f:FuncId} {fn:Func} {cap:List Value} {args:List Value} (hf:P.funcs[f]?=some fn) (hn:decide (fn.name= "runtime.NumGoroutine")=false) (hb:fn.body.isNone=false):
  x9 P (.func (.func f) #[] (List.toArray cap)) (List.toArray args)=.call f (List.toArray (args++cap)):=by
 simp only [x9,hf,hn,hb,Bool.or_self,cond_false]
 simp
end akR
def okA (v:Option Value) (H:ad):AO:=match v with
 | some v=>.ok v H
 | none=>.no
@[go_sem] theorem ao2 {v:Value}:okA (some v) H=.ok v H:=nr rfl
@[go_sem] theorem aqu {t:TypeId} {b o:Nat}:sx P t (.pointer (some ⟨b,o,none⟩)) H=okA (uo P t o (H.get b)) H:=by
 show (match uo P t o (H.get b) with | some v=>AO.ok v H | none=>.no)=_
 cases uo P t o (H.get b) <;> rfl
def OP (a:Option Bool) (n:Option Nat) (cs:List Value) (o:Nat):Option Value:=match a with
 | some true=>(match n with
  | some n=>if o+n<=cs.length then some (.agg ((cs.drop o).take n).toArray) else none
  | none=>none)
 | some false=>cs[o]?
 | none=>none
@[go_sem] theorem aos {t:TypeId} {o:Nat} {B:cw}:uo P t o (some B)=OP (hJ P t) (du P t) B.cells o:=by
 unfold uo OP;rfl
@[go_sem] theorem aqv {n:Option Nat} {cs:List Value} {o:Nat}:OP (some false) n cs o=cs[o]?:=nr rfl
@[go_sem] theorem aqw {n:Nat} {cs:List Value} {o:Nat}:OP (some true) (some n) cs o=if o+n<=cs.length then some (.agg ((cs.drop o).take n).toArray) else none:=nr rfl
noncomputable def UJ (n:Option Nat) (x:List Value) (B:Option cw) (b o:Nat) (H:ad):AO:=match n,B with
 | some n,some B=>if x.length=n/\o+n<=B.cells.length/\kh x=true/\B.ro=false then .ok undef (H.ah b ⟨cW B.cells o x,B.elem,B.hV,false⟩) else .no
 | _,_=>.no
@[go_sem] theorem ao3 {t:TypeId} {b o:Nat} {x:Value}:Be P t (.pointer (some ⟨b,o,none⟩)) x H=UJ (du P t) x.cells.toList (H.get b) b o H:=by
 unfold Be UJ
 simp only
 cases du P t with
 | none=>rfl
 | some n=>
  simp only [qx]
  cases H.get b with
  | none=>simp
  | some B=>
   simp only
   by_cases h1:x.cells.toList.length=n
   ·subst h1;simp
   ·rw [if_neg h1,if_neg (fun h=>h1 h.1)]
@[go_sem] theorem ao4 {n:Nat} {x:List Value} {B:cw} {b o:Nat}:UJ (some n) x (some B) b o H=if x.length=n/\o+n<=B.cells.length/\kh x=true/\B.ro=false then .ok undef (H.ah b ⟨cW B.cells o x,B.elem,B.hV,false⟩) else .no:=nr rfl
@[go_sem] theorem ao5:kh []=true:=nr rfl
@[go_sem] theorem aot {v:Value} {l:List Value}:kh (v::l)=(Ad v&&kh l):=by
 rw [QW];cases Ad v <;> rfl
@[go_sem] theorem aqx {k:IntKind} {n:Int}:Ad (.int k n)=true:=nr rfl
@[go_sem] theorem ao6 {b:Bool}:Ad (.bool b)=true:=nr rfl
@[go_sem] theorem an3 {s:ByteArray}:Ad (.string s)=true:=nr rfl
@[go_sem] theorem aou {a:Option Addr} {n c:Nat}:Ad (.slice a n c)=true:=nr rfl
attribute [go_sem] List.length_cons List.length_nil List.drop_succ_cons List.drop_zero List.take_succ_cons List.take_zero List.take_nil Nat.zero_add Nat.reduceAdd Nat.reduceLeDiff if_true if_false true_and and_true and_self Bool.and_self Nat.le_refl List.set_cons_zero List.set_cons_succ
@[go_sem] theorem eW {cs:List Value} {o:Nat} {v:Value} (h:o < cs.length):cW cs o [v]=cs.set o v:=by
 unfold cW
 rw [List.set_eq_take_append_cons_drop,if_pos h];rfl
@[go_sem] theorem Yf {B C:cw}:(H.push B).ah H.next C=H.push C:=by
 unfold ad.push ad.ah
 congr 1
 funext x
 by_cases h:x=H.next
 ·simp [h]
 ·simp [h]
@[go_sem] theorem aV {B:cw} {b:Nat}:(H.push B).get b=if b=H.next then some B else H.get b:=nr rfl
@[go_sem] theorem az {B:cw} {b c:Nat}:(H.ah c B).get b=if b=c then some B else H.get b:=nr rfl
@[go_sem] theorem ve {B:cw} {b c:Nat}:(H.grow c B).get b=if b=H.next then some B else if b=c then none else H.get b:=nr rfl
@[go_sem] theorem bg {b:Nat} {fz:Nat->Bool}:(H.ai fz).get b=H.get b:=nr rfl
@[go_sem] theorem bJ {B:cw}:(H.push B).next=H.next+1:=nr rfl
@[go_sem] theorem oO {B:cw} {c:Nat}:(H.ah c B).next=H.next:=nr rfl
@[go_sem] theorem acX {B:cw} {c:Nat}:(H.grow c B).next=H.next+1:=nr rfl
@[go_sem] theorem Ey {fz:Nat->Bool}:(H.ai fz).next=H.next:=nr rfl
@[go_sem] theorem qw {B:cw} {b:Nat}:(H.push B).fz b=(b==H.next||H.fz b):=nr rfl
@[go_sem] theorem aeo {B:cw} {b c:Nat}:(H.grow c B).fz b=(b==H.next||H.fz b):=nr rfl
@[go_sem] theorem aqy {b:Nat} {fz:Nat->Bool}:(H.ai fz).fz b=fz b:=nr rfl
noncomputable def UK (z:Option (List Value)) (t:TypeId) (H:ad):AO:=match z with
 | some z=>.ok (.pointer (some ⟨H.next,0,none⟩)) (H.push ⟨z,t,false,false⟩)
 | none=>.no
@[go_sem] theorem ao7 {t:TypeId}:C0 P t H=UK (gf P t) t H:=by
 unfold C0 UK
 cases gf P t <;> rfl
@[go_sem] theorem ao8 {z:List Value} {t:TypeId}:UK (some z) t H=.ok (.pointer (some ⟨H.next,0,none⟩)) (H.push ⟨z,t,false,false⟩):=nr rfl
@[go_sem] theorem aqz {cs:List Value} {t:TypeId}:rK cs t false ptrTo H=.ok (.pointer (some ⟨H.next,0,none⟩)) (H.push ⟨cs,t,false,false⟩):=nr rfl
@[go_sem] theorem ao9 {a:Value} {cs vs:List Value}:cW (a::cs) 0 vs=vs++(a::cs).drop vs.length:=by simp [cW]
@[go_sem] theorem apa {a:Value} {cs vs:List Value} {o:Nat}:cW (a::cs) (o+1) vs=a::cW cs o vs:=by simp [cW,Nat.add_right_comm]
attribute [go_sem] List.cons_append List.nil_append List.append_nil
noncomputable def xq (P:Program) (t:TypeId):Option (List (Nat × Nat)):=match P.underlying t with
 | some (.struct fs)=>Ke P fs.toList
 | _=>none
noncomputable def UL (q:Option (Nat × Nat)) (vs:List Value) (k:List Value->Option (List Value)) (cs:List Value):Option (List Value):=match q with
 | some (off,size)=>if vs.length=size/\off+size<=cs.length then k (cW cs off vs) else none
 | none=>none
@[go_sem] theorem apb {off size:Nat} {vs:List Value} {k:List Value->Option (List Value)} {cs:List Value}:UL (some (off,size)) vs k cs=if vs.length=size/\off+size<=cs.length then k (cW cs off vs) else none:=nr rfl
noncomputable def KJ (pl:List (Nat × Nat)) (ps:List (Nat × Value)) (cs:List Value):Option (List Value):=Bi (fun i=>pK pl i) ps cs
@[go_sem] theorem apc {pl:List (Nat × Nat)} {cs:List Value}:KJ pl [] cs=some cs:=nr rfl
@[go_sem] theorem aov {pl:List (Nat × Nat)} {p:Nat × Value} {ps:List (Nat × Value)} {cs:List Value}:KJ pl (p::ps) cs=UL pl[p.1]? p.2.cells.toList (KJ pl ps) cs:=by
 show (match pK pl p.1 with
  | some (off,size)=>bif Nat.beq (j4 p.2.cells.toList) size&&Nat.ble (off+size) (j4 cs) then Bi (fun i=>pK pl i) ps (HI cs off p.2.cells.toList) else none
  | none=>none)=_
 rw [wL]
 cases pl[p.1]? with
 | none=>rfl
 | some q=>
  obtain ⟨off,size⟩:=q
  simp only [UL,beq_eq,ble_eq,xU,QV]
  by_cases h:p.2.cells.toList.length=size/\off+size<=cs.length
  ·rw [if_pos h];simp only [h.1,h.2,decide_true,Bool.and_self,cond_true];rw [<-h.1];rfl
  ·rw [if_neg h]
   cases hc:decide (p.2.cells.toList.length=size)&&decide (off+size<=cs.length)
   ·rfl
   ·rw [Bool.and_eq_true,decide_eq_true_eq,decide_eq_true_eq] at hc;exact absurd hc h
noncomputable def PF (z:Option (List Value)) (pl:Option (List (Nat × Nat))) (ps:List (Nat × Value)) (h:KH):KO:=match z,pl with
 | some z,some pl=>(match KJ pl ps z with
  | some cs=>.ok (.agg cs.toArray) h
  | none=>.no)
 | _,_=>.no
def UM (cs:Option (List Value)) (h:KH):KO:=match cs with
 | some cs=>.ok (.agg cs.toArray) h
 | none=>.no
@[go_sem] theorem apd {cs:List Value} {h:KH}:UM (some cs) h=.ok (.agg cs.toArray) h:=nr rfl
@[go_sem] theorem ape {z:List Value} {pl:List (Nat × Nat)} {ps:List (Nat × Value)} {h:KH}:PF (some z) (some pl) ps h=UM (KJ pl ps z) h:=by
 simp only [PF,UM]
@[go_sem] theorem apf {t:TypeId} {ps:List (Nat × Value)} {h:KH} (hp:(xq P t).isSome=true):fQ P t ps h=PF (gf P t) (xq P t) ps h:=by
 unfold xq at hp ⊢
 unfold fQ PF
 cases hu:P.underlying t with
 | none=>rw [hu] at hp;cases hp
 | some d=>
  rw [hu] at hp
  cases d with
  | struct fs=>
   simp only at hp ⊢
   cases gf P t with
   | none=>rfl
   | some z=>
    simp only
    cases Ke P fs.toList with
    | none=>rfl
    | some pl=>rfl
  | _=>cases hp
section told
@[go_sem] theorem apg {k:Nat} {acc:List (Nat × Rec)} {ob:mf} {H H':ad}:uq [] k acc ob H H'=True:=nr rfl
@[go_sem] theorem aow {p:Nat × Nat} {tb:List (Nat × Nat)} {k:Nat} {acc:List (Nat × Rec)} {ob:mf} {H H':ad}:uq (p::tb) k acc ob H H'=((if p.2=k then K3 (look acc p.1) ob H H' else True)/\uq tb k acc ob H H'):=nr rfl
@[go_sem] theorem aph {i:Nat}:told [] i=false:=nr rfl
@[go_sem] theorem aox {p:Nat × Nat} {tb:List (Nat × Nat)} {i:Nat}:told (p::tb) i=(p.1==i||told tb i):=nr rfl
@[go_sem] theorem api {i:Nat}:look [] i=none:=nr rfl
@[go_sem] theorem aoy {p:Nat × Rec} {acc:List (Nat × Rec)} {i:Nat}:look (p::acc) i=if p.1=i then some p.2 else look acc i:=nr rfl
@[go_sem] theorem aoz {ob:mf} {H H':ad}:K3 none ob H H'=True:=nr rfl
@[go_sem] theorem aoA {r:Rec} {ob:mf} {H H':ad}:K3 (some r) ob H H'=(ym ob r.h r.h'/\ym r.ob H H'/\OM r.nw H H'):=nr rfl
@[go_sem] theorem aoB {H H':ad}:ym none H H'=True:=nr rfl
@[go_sem] theorem aoC {b:Nat} {π:Option cw->Option Value} {H H':ad}:ym (some (b,π)) H H'=(π (H'.get b)=π (H.get b)):=nr rfl
@[go_sem] theorem aoD {H H':ad}:OM none H H'=True:=nr rfl
@[go_sem] theorem aoE {a:Nat} {H H':ad}:OM (some a) H H'=(H'.get a=H.get a):=nr rfl
noncomputable def aaF (P:Program) (t:TypeId) (v:Value):mf:=match v with
 | .pointer (some ⟨b,o,none⟩)=>some (b,uo P t o)
 | _=>none
@[go_sem] theorem apj {ev:Operand->Value} {t:TypeId} {a:Operand}:lG P ev (.load t a)=aaF P t (ev a):=nr rfl
@[go_sem] theorem apk {t:TypeId} {b o:Nat}:aaF P t (.pointer (some ⟨b,o,none⟩))=some (b,uo P t o):=nr rfl
@[go_sem] theorem apl {ev:Operand->Value} {c:Call}:lG P ev (.call c)=none:=nr rfl
@[go_sem] theorem aoF {ev:Operand->Value} {t:TypeId} {a x:Operand}:lG P ev (.store t a x)=none:=nr rfl
@[go_sem] theorem arQ {ev:Operand->Value} {t:TypeId} {n:Nat} {l:Array (Nat × Operand)}:lG P ev (.buildSlice t n l)=none:=nr rfl
@[go_sem] theorem an4 {t:TypeId} {a:Operand}:vi P (.load t a) H=none:=nr (by unfold vi;rw [if_neg (by simp [jL])])
@[go_sem] theorem an5 {c:Call}:vi P (.call c) H=none:=nr (by
 unfold vi;rw [if_neg]
 simp only [jL]
 split <;> decide)
@[go_sem] theorem apm {t:TypeId} {n:Nat} {l:Array (Nat × Operand)}:vi P (.buildSlice t n l) H=some H.next:=nr (by unfold vi;rw [if_pos (by simp [jL])])
attribute [go_sem] Nat.reduceBEq Bool.or_false Bool.false_or Bool.or_true Bool.true_or Bool.false_eq_true and_true true_and
end told
section res
variable {K:Value->ad->Prop}
@[go_sem] theorem apn {rs:List ResultVar}:cj P rs K .ret E H=BA P rs E H K:=nr rfl
@[go_sem] theorem anN {rs:List ResultVar}:cj P rs K .normal E H=BA P rs E H K:=nr rfl
noncomputable def yp (P:Program) (rs:List ResultVar) (E:Env) (H:ad) (k:List Value->Prop):Prop:=match rs with
 | []=>k []
 | .tmp t::rs=>yp P rs E H (fun l=>k (E t::l))
 | .cell a t::rs=>match sx P t (E a) H with
  | .ok v _=>yp P rs E H (fun l=>k (v::l))
  | _=>False
theorem Ry:∀(rs:List ResultVar) (k:List Value->Prop),yp P rs E H k=match xe P rs E H with
  | some l=>k l
  | none=>False
 | [],k=>rfl
 | .tmp t::rs,k=>by
  rw [yp,Ry rs,xe]
  cases xe P rs E H <;> rfl
 | .cell a t::rs,k=>by
  rw [yp,xe]
  cases h:sx P t (E a) H with
  | ok v H1=>
   simp only
   rw [Ry rs]
   cases xe P rs E H <;> simp only [h]
  | call f args=>simp only;cases xe P rs E H <;> simp only [h]
  | no=>simp only;cases xe P rs E H <;> simp only [h]
@[go_sem] theorem aqA {rs:List ResultVar}:BA P rs E H K=yp P rs E H (fun l=>K (II l) H):=by rw [Ry];rfl
@[go_sem] theorem apo {k:List Value->Prop}:yp P [] E H k=k []:=nr rfl
@[go_sem] theorem apq {t:Nat} {rs:List ResultVar} {k:List Value->Prop}:yp P (.tmp t::rs) E H k=yp P rs E H (fun l=>k (E t::l)):=nr rfl
def OQ (r:AO) (k:Value->Prop):Prop:=match r with
 | .ok v _=>k v
 | _=>False
@[congr] theorem an6 {r r':AO} {k:Value->Prop} (h:r=r'):OQ r k=OQ r' k:=by rw [h]
@[go_sem] theorem aqB {v:Value} {k:Value->Prop}:OQ (.ok v H) k=k v:=nr rfl
@[go_sem] theorem aoG {a:Nat} {t:TypeId} {rs:List ResultVar} {k:List Value->Prop}:yp P (.cell a t::rs) E H k=OQ (sx P t (E a) H) (fun v=>yp P rs E H (fun l=>k (v::l))):=nr rfl
@[go_sem] theorem aqC {v:Value}:II [v]=v:=nr rfl
@[go_sem] theorem aqD {v w:Value} {l:List Value}:II (v::w::l)=.tuple (v::w::l).toArray:=nr rfl
end res
theorem NC {ev:Operand->Value} {op:Op} {K K':Value->ad->Prop} (hk:∀v H,K v H->K' v H) (h:fH P X ev op H K):fH P X ev op H K':=by
 unfold fH at h ⊢
 split
 ·rename_i v H' he;rw [he] at h;exact ⟨h.1,hk _ _ h.2⟩
 ·rename_i f args he;rw [he] at h;exact h.mono fun v H' _ hh=>hk v H' hh
 ·rename_i he;rw [he] at h;exact h
theorem Nt {ds:List (Option Nat)}:∀{l:List Oper} {E:Env} {H:ad} {K K':Env->ad->Prop},(∀E H,K E H->K' E H)->lk P X ds l E H K->lk P X ds l E H K'
 | [],E,H,K,K',hk,h=>hk E H h
 | o::l,E,H,K,K',hk,h=>by
  rw [lk] at h ⊢
  split
  ·rename_i hw;rw [if_pos hw] at h;exact NC (fun v H h=>Nt hk h) h
  ·rename_i hw;rw [if_neg hw] at h;exact Nt hk h
theorem Nr {tb:List (Nat × Nat)} {ds:List (Option Nat)}:∀{l:List Oper} {k:Nat} {acc:List (Nat × Rec)} {E:Env} {H:ad} {K K':Env->ad->Prop},(∀E H,K E H->K' E H)->jc P X tb ds l k acc E H K->jc P X tb ds l k acc E H K'
 | [],k,acc,E,H,K,K',hk,h=>hk E H h
 | o::l,k,acc,E,H,K,K',hk,h=>by
  rw [jc] at h ⊢
  split
  ·rename_i hw;rw [if_pos hw] at h;exact NC (fun v H h=>⟨h.1,Nr hk h.2⟩) h
  ·rename_i hw;rw [if_neg hw] at h;exact Nr hk h
theorem Ri {step:Env->ad->(Exit->Env->ad->Prop)->Prop} (hs:∀E H Q Q',(∀e E H,Q e E H->Q' e E H)->step E H Q->step E H Q'):∀{n:Nat} {E:Env} {H:ad} {Q Q':Exit->Env->ad->Prop},(∀e E H,Q e E H->Q' e E H)->qd step n E H Q->qd step n E H Q'
 | 0,E,H,Q,Q',hq,h=>h
 | n+1,E,H,Q,Q',hq,h=>by
  rw [qd] at h ⊢
  refine hs E H _ _ (fun e E H h=>?_) h
  cases e with
  | normal=>exact Ri hs hq h
  | _=>exact hq _ _ _ h
theorem Rz:∀{c:Code} {E:Env} {H:ad} {Q Q':Exit->Env->ad->Prop},(∀e E H,Q e E H->Q' e E H)->wC P X T c E H Q->wC P X T c E H Q':=by
 intro c
 induction c with
 | skip=>intro E H Q Q' hq h;exact hq _ _ _ h
 | label l=>intro E H Q Q' hq h;exact hq _ _ _ h
 | exit id=>intro E H Q Q' hq h;exact hq _ _ _ h
 | ret=>intro E H Q Q' hq h;exact hq _ _ _ h
 | region id ops draw=>
  intro E H Q Q' hq h
  cases draw
  ·exact Nt (hq .normal) h
  ·exact Nr (hq .normal) h
 | seq a b fo mj=>
  intro E H Q Q' hq h
  rw [wC] at h ⊢
  refine fo (fun e E H h=>?_) h
  cases e with
  | normal=>exact mj hq h
  | _=>exact hq _ _ _ h
 | cond x a b fo mj=>
  intro E H Q Q' hq h
  rw [wC] at h ⊢
  unfold Bw at h ⊢
  split
  ·rename_i v hv
   rw [hv] at h
   simp only at h
   split
   ·rename_i hb;rw [if_pos hb] at h;exact fo hq h
   ·rename_i hb;rw [if_neg hb] at h;exact mj hq h
  ·rename_i hv
   split at h
   ·rename_i v nT;exact (hv _ nT).elim
   ·exact h
 | block id a fo=>
  intro E H Q Q' hq h
  rw [wC] at h ⊢
  refine fo (fun e E H h=>?_) h
  cases e with
  | exit i=>
   simp only [vx] at h ⊢
   split
   ·rename_i he;rw [if_pos he] at h;exact hq _ _ _ h
   ·rename_i he;rw [if_neg he] at h;exact hq _ _ _ h
  | _=>exact hq _ _ _ h
 | loop a fo=>
  intro E H Q Q' hq h
  rw [wC] at h ⊢
  obtain ⟨n,h⟩:=h
  exact ⟨n,Ri (step:=wC P X T a) (fun E H Q Q'=>fo) hq h⟩
 | rangeFunc f ps x y=>intro E H Q Q' hq h;cases h
 | scope b=>intro E H Q Q' hq h;cases h
 | goto l=>intro E H Q Q' hq h;cases h
 | refuse w=>intro E H Q Q' hq h;cases h
theorem ae9 {a:Code} (I:Nat->Env->ad->Prop) {n:Nat} (h0:I n E H) (hr:∀n E H,I n E H->wC P X T a E H (oT (fun E' H'=>∃m,m < n/\I m E' H') Q)):wC P X T (.loop a) E H Q:=by
 rw [wC]
 refine ⟨n+1,?_⟩
 have key:∀k n E H,n < k->I n E H->qd (wC P X T a) k E H Q:=by
  intro k
  induction k with
  | zero=>intro n E H hn;omega
  | succ k ih=>
   intro n E H hn hI
   rw [qd]
   refine Rz (fun e E' H' h=>?_) (hr n E H hI)
   cases e with
   | normal=>
    obtain ⟨m,hm,h⟩:=h
    exact ih m E' H' (by omega) h
   | _=>exact h
 exact key (n+1) n E H (by omega) h0
end
end Go.Proofs.YtinjmfblebpnnaaGreat.Ab
namespace Go.Proofs.YtinjmfblebpnnaaGreat.Ab
open Go Classical
structure Dd where
 a:Option Addr
 cells:List Value
 ty:TypeId
def Bm (tb:List Dd):bG:=fun i=>(tb[i]?).bind fun r=>r.a.map fun a=>⟨a.block,a.off,0,true,false⟩
def HU (tb:List Dd):ad:=⟨tb.length,fun i=>(tb[i]?).bind fun r=>if r.cells=[] then none else some ⟨r.cells,r.ty,false,true⟩,fun i=>decide (i < tb.length)⟩
def InOk (tb:List Dd) (w:World):Prop:=∀(i:Nat) (r:Dd) (a:Addr),tb[i]?=some r->r.a=some a->a.spot=none/\a.block < w.heap.size/\∀j,j < r.cells.length->∃v',w.cell? (a.add j)=some v'/\VR (Bm tb) (r.cells.getD j undef) v'
theorem ab2 (tb:List Dd):bV (HU tb):=by
 refine ⟨fun b hb=>?_,fun b hb=>by simpa [HU] using hb⟩
 have:tb.length<=b:=hb
 simp [HU,List.getElem?_eq_none this]
theorem Xs {w:World} {a:Addr} {v:Value} (h:w.cell? a=some v):∃cs e fr,w.heap[a.block]?=some (.cells cs e fr)/\cs[a.off]?=some v:=by
 unfold World.cell? at h
 split at h
 ·rename_i cs e fr hb
  split at h
  ·cases h
  ·exact ⟨cs,e,fr,hb,h⟩
 ·cases h
theorem XI {a:Addr} (h:a.spot=none) (j:Nat):a.add j=⟨a.block,a.off+j,none⟩:=by
 obtain ⟨b,o,s⟩:=a
 subst h
 exact zM b o j
theorem N5 {tb:List Dd} {b:Nat} {l:Loc} (hs:Bm tb b=some l):∃r a,tb[b]?=some r/\r.a=some a/\l=⟨a.block,a.off,0,true,false⟩:=by
 unfold Bm at hs
 cases hr:tb[b]? with
 | none=>rw [hr] at hs;cases hs
 | some r=>
  rw [hr] at hs
  simp only [Option.bind_some] at hs
  cases ha:r.a with
  | none=>rw [ha] at hs;cases hs
  | some a=>rw [ha] at hs;cases hs;exact ⟨r,a,rfl,ha,rfl⟩
theorem afa (P:Program) {tb:List Dd} {w:World} (h:InOk tb w):Rel P (Bm tb) dT (HU tb).get w:=by
 have ro:∀b l,Bm tb b=some l->l.ro=true:=fun b l hs=>(N5 hs).elim fun r h=>h.elim fun a h=>h.2.2▸rfl
 refine ⟨fun b l B _ hs hg=>?_,fun b b' l l' _ _ hs _ _ _ ho=>?_,fun b b' l l' _ hs _ _ ho=>?_,fun b l hs _=>?_⟩
 ·obtain ⟨r,a,hr,ha,rfl⟩:=N5 hs
  simp only [HU,hr,Option.bind_some] at hg
  split at hg
  ·cases hg
  ·rename_i dv
   cases hg
   obtain ⟨eJ,be,hc⟩:=h b r a hr ha
   have mJ:0 < r.cells.length:=List.length_pos_iff.2 dv
   have iU:∀cs e fr,w.heap[a.block]?=some (.cells cs e fr)->∀j,j < r.cells.length->a.off+j < cs.size/\VR (Bm tb) (r.cells.getD j undef) (cs.getD (a.off+j) undef):=fun cs e fr hb j hj=>by
    obtain ⟨v',hv,Au⟩:=hc j hj
    rw [XI eJ] at hv
    obtain ⟨fW,e',fr',dY,DP⟩:=Xs hv
    simp only at dY DP
    rw [hb] at dY
    cases dY
    obtain ⟨h1,h2⟩:=Array.getElem?_eq_some_iff.1 DP
    refine ⟨h1,?_⟩
    have:cs.getD (a.off+j) undef=v':=by simp [Array.getD,h1,h2]
    rw [this];exact Au
   obtain ⟨v',hv,_⟩:=hc 0 mJ
   rw [XI eJ] at hv
   obtain ⟨cs,e,fr,hb,_⟩:=Xs hv
   refine ⟨fun e=>(by cases e),fun _=>⟨cs,e,fr,hb,?_,fun i hi=>(iU cs e fr hb i hi).2,fun hl=>by cases hl⟩,fun _=>rfl,fun hl=>by cases hl⟩
   have:=(iU cs e fr hb (r.cells.length - 1) (by omega)).1
   show a.off+r.cells.length<=cs.size
   omega
 ·rw [ro b l hs] at ho;cases ho
 ·rw [ro b l hs] at ho;cases ho
 ·obtain ⟨r,a,hr,ha,rfl⟩:=N5 hs
  exact (h b r a hr ha).2.1
theorem law_calls {P:Program} {f:FuncId} {vs td:List Value} {tb:List Dd} {W:World} (i6:InOk tb W) (zX:VL (Bm tb) vs td)
  (h:ak P f vs.toArray (HU tb) fun v _=>v=.bool true):Calls P f td.toArray W fun e W'=>e=.returned (.bool true)/\Go.RowKit.Below W.heap.size W W':=by
 obtain ⟨v,H',dI,rZ,_,rfl⟩:=h (ab2 tb)
 refine (rZ (Bm tb) W td.toArray (afa P i6) (fun b hb=>?_) zX.xp).mono ?_
 ·have h1:tb.length<=b:=hb.1
  simp [Bm,List.getElem?_eq_none h1]
 ·rintro e W' ⟨σ',v',rfl,hp,hv⟩
  rw [hv.bool]
  refine ⟨rfl,hp.rest.1,hp.rest.2.1,hp.rest.2.2,hp.size,fun k hk=>hp.af k hk ?_⟩
  rintro ⟨b,l,_,hs,_,ho,_⟩
  obtain ⟨r,a,_,_,rfl⟩:=N5 hs
  cases ho
structure Rp (α:Type) where
 sz:Nat
 pos:0 < sz
 E:ad->List Value->α->List Nat->Prop
 len:∀{H cs x f},E H cs x f->cs.length=sz
 af:∀{H H' cs x f},E H cs x f->(∀b∈f,H'.get b=H.get b)->E H' cs x f
def Rp.int:Rp Int:=⟨1,by decide,fun _ cs x f=>cs=[.int .i64 x]/\f=[],fun h=>by rw [h.1];rfl,fun h _=>h⟩
def Rp.str:Rp (List UInt8):=⟨1,by decide,fun _ cs x f=>cs=[.string ⟨x.toArray⟩]/\f=[],fun h=>by rw [h.1];rfl,fun h _=>h⟩
def dV {α:Type} (r:Rp α) (H:ad):List Value->List α->List Nat->Prop
 | cs,[],f=>f=[]
 | cs,x::l,f=>∃c fW f1 f2,cs=c++fW/\f=f1++f2/\r.E H c x f1/\dV r H fW l f2
theorem dV.len {α:Type} {r:Rp α} {H:ad}:∀{cs:List Value} {l:List α} {f:List Nat},dV r H cs l f->l.length * r.sz<=cs.length
 | cs,[],f,h=>by simp
 | cs,x::l,f,h=>by
  obtain ⟨c,fW,f1,f2,rfl,_,h1,h2⟩:=h
  have e1:=r.len h1
  have e2:=dV.len h2
  rw [List.length_cons,Nat.add_mul,List.length_append];omega
theorem dV.af {α:Type} {r:Rp α} {H H':ad}:∀{cs:List Value} {l:List α} {f:List Nat},dV r H cs l f->(∀b∈f,H'.get b=H.get b)->dV r H' cs l f
 | cs,[],f,h,_=>h
 | cs,x::l,f,h,hk=>by
  obtain ⟨c,fW,f1,f2,rfl,rfl,h1,h2⟩:=h
  exact ⟨c,fW,f1,f2,rfl,rfl,r.af h1 fun b hb=>hk b (by simp [hb]),h2.af fun b hb=>hk b (by simp [hb])⟩
theorem dV.more {α:Type} {r:Rp α} {H:ad}:∀{cs:List Value} {l:List α} {f:List Nat} (ds:List Value),dV r H cs l f->dV r H (cs++ds) l f
 | cs,[],f,ds,h=>h
 | cs,x::l,f,ds,h=>by
  obtain ⟨c,fW,f1,f2,rfl,rfl,h1,h2⟩:=h
  exact ⟨c,fW++ds,f1,f2,by simp,rfl,h1,h2.more ds⟩
theorem dV.split {α:Type} {r:Rp α} {H:ad}:∀{l1 l2:List α} {cs:List Value} {f:List Nat},dV r H cs (l1++l2) f->∃c1 c2 f1 f2,cs=c1++c2/\f=f1++f2/\c1.length=l1.length * r.sz/\dV r H c1 l1 f1/\dV r H c2 l2 f2
 | [],l2,cs,f,h=>⟨[],cs,[],f,rfl,rfl,by simp,rfl,h⟩
 | x::l1,l2,cs,f,h=>by
  obtain ⟨c,fW,f1,f2,rfl,rfl,h1,h2⟩:=h
  obtain ⟨c1,c2,g1,g2,rfl,rfl,e,h3,h4⟩:=h2.split
  exact ⟨c++c1,c2,f1++g1,g2,by simp,by simp,by rw [List.length_append,e,r.len h1,List.length_cons,Nat.add_mul];omega,⟨c,c1,f1,g1,rfl,rfl,h1,h3⟩,h4⟩
theorem dV.join {α:Type} {r:Rp α} {H:ad}:∀{l1 l2:List α} {c1 c2:List Value} {f1 f2:List Nat},c1.length=l1.length * r.sz->dV r H c1 l1 f1->dV r H c2 l2 f2->dV r H (c1++c2) (l1++l2) (f1++f2)
 | [],l2,c1,c2,f1,f2,e,h1,h2=>by
  have:c1=[]:=List.length_eq_zero_iff.1 (by simpa using e)
  have h3:f1=[]:=h1
  rw [this,h3];exact h2
 | x::l1,l2,c1,c2,f1,f2,e,h1,h2=>by
  obtain ⟨c,fW,g1,g2,rfl,rfl,h3,h4⟩:=h1
  have e1:=r.len h3
  exact ⟨c,fW++c2,g1,g2++f2,by simp,by simp,h3,h4.join (by rw [List.length_append,List.length_cons,Nat.add_mul] at e;omega) h2⟩
theorem dV.one {α:Type} {r:Rp α} {H:ad} {c:List Value} {x:α} {f:List Nat} (h:r.E H c x f):dV r H c [x] f:=⟨c,[],f,[],by simp,by simp,h,rfl⟩
theorem dV.at {α:Type} {r:Rp α} {H:ad} {cs:List Value} {l:List α} {f:List Nat} (h:dV r H cs l f) {i:Nat} {x:α} (hi:l[i]?=some x):
  ∃f1 f2 f3,f=f1++(f2++f3)/\i * r.sz+r.sz<=cs.length/\r.E H ((cs.drop (i * r.sz)).take r.sz) x f2:=by
 obtain ⟨be,rfl⟩:=List.getElem?_eq_some_iff.1 hi
 have hl:l=l.take i++(l[i]::l.drop (i+1)):=by simp
 rw [hl] at h
 obtain ⟨c1,c2,f1,f2,rfl,rfl,e,_,h2⟩:=h.split
 have e1:(l.take i).length=i:=by simp;omega
 rw [e1] at e
 obtain ⟨c,fW,g1,g2,rfl,rfl,h3,h4⟩:=h2
 have e2:=r.len h3
 refine ⟨f1,g1,g2,rfl,by simp;omega,?_⟩
 rw [List.drop_append_of_le_length (by omega),<-e,List.drop_length,List.nil_append,List.take_append_of_le_length (by omega),List.take_of_length_le (by omega)]
 exact h3
theorem dV.put {α:Type} {r:Rp α} {H:ad} {cs:List Value} {l:List α} {f:List Nat} (h:dV r H cs l f) {i:Nat} (hi:i < l.length):
  ∃f1 f2 f3,f=f1++(f2++f3)/\i * r.sz+r.sz<=cs.length/\r.E H ((cs.drop (i * r.sz)).take r.sz) l[i] f2/\
   ∀(H':ad) c' y f',(∀b,b∈f1∨b∈f3->H'.get b=H.get b)->r.E H' c' y f'->dV r H' (cW cs (i * r.sz) c') (l.set i y) (f1++(f'++f3)):=by
 have hl:l=l.take i++(l[i]::l.drop (i+1)):=by simp
 rw [hl] at h
 obtain ⟨c1,c2,f1,f2,rfl,rfl,e,h1,h2⟩:=h.split
 have e1:(l.take i).length=i:=by simp;omega
 rw [e1] at e
 obtain ⟨c,fW,g1,g2,rfl,rfl,h3,h4⟩:=h2
 have e2:=r.len h3
 refine ⟨f1,g1,g2,rfl,by simp;omega,?_,fun H' c' y f' hk h'=>?_⟩
 ·rw [List.drop_append_of_le_length (by omega),<-e,List.drop_length,List.nil_append,List.take_append_of_le_length (by omega),List.take_of_length_le (by omega)]
  exact h3
 ·have e3:=r.len h'
  have hs:cW (c1++(c++fW)) (i * r.sz) c'=c1++(c'++fW):=by
   unfold cW
   rw [List.take_append_of_le_length (by omega),List.take_of_length_le (by omega),List.drop_append,List.drop_eq_nil_of_le (by omega),List.nil_append,List.drop_append_of_le_length (by omega),List.drop_eq_nil_of_le (by omega)]
   rfl
  rw [hs,List.set_eq_take_append_cons_drop,if_pos hi]
  exact dV.join (by rw [e1];exact e) (h1.af fun b hb=>hk b (.inl hb)) ⟨c',fW,f',g2,rfl,rfl,h',h4.af fun b hb=>hk b (.inr hb)⟩
def Sl {α:Type} (r:Rp α) (H:ad) (v:Value) (l:List α) (f:List Nat):Prop:=
 (v=.slice none 0 0/\l=[]/\f=[])∨(∃a c,v=.slice (some a) 0 c/\l=[]/\f=[])∨
  ∃b o c B g,v=.slice (some ⟨b,o,none⟩) l.length c/\l≠[]/\l.length<=c/\f=b::g/\H.get b=some B/\dV r H (B.cells.drop o) l g
theorem Sl.af {α:Type} {r:Rp α} {H H':ad} {v:Value} {l:List α} {f:List Nat} (h:Sl r H v l f) (hk:∀b∈f,H'.get b=H.get b):Sl r H' v l f:=by
 rcases h with h | h | ⟨b,o,c,B,g,h1,h2,h3,rfl,h4,h5⟩
 ·exact .inl h
 ·exact .inr (.inl h)
 ·exact .inr (.inr ⟨b,o,c,B,g,h1,h2,h3,rfl,by rw [hk b (by simp)];exact h4,h5.af fun x hx=>hk x (by simp [hx])⟩)
def Rp.slice {α:Type} (r:Rp α):Rp (List α):=⟨1,by decide,fun H cs l f=>∃v,cs=[v]/\Sl r H v l f,fun ⟨v,h,_⟩=>by rw [h];rfl,fun ⟨v,h,hs⟩ hk=>⟨v,h,hs.af hk⟩⟩
theorem Sl.val {α:Type} {r:Rp α} {H:ad} {v:Value} {l:List α} {f:List Nat} (h:Sl r H v l f):∃a c,v=.slice a l.length c:=by
 rcases h with ⟨rfl,rfl,_⟩ | ⟨a,c,rfl,rfl,_⟩ | ⟨b,o,c,B,g,rfl,_⟩ <;> exact ⟨_,_,rfl⟩
theorem Sl.at {α:Type} {r:Rp α} {H:ad} {v:Value} {l:List α} {f:List Nat} (h:Sl r H v l f) {i:Nat} {x:α} (hi:l[i]?=some x):
  ∃b o c B g,v=.slice (some ⟨b,o,none⟩) l.length c/\H.get b=some B/\b∈f/\(∀y∈g,y∈f)/\o+i * r.sz+r.sz<=B.cells.length/\r.E H ((B.cells.drop (o+i * r.sz)).take r.sz) x g:=by
 have be:=(List.getElem?_eq_some_iff.1 hi).1
 rcases h with ⟨_,rfl,_⟩ | ⟨a,c,_,rfl,_⟩ | ⟨b,o,c,B,g,rfl,h2,h3,rfl,h4,h5⟩
 ·simp at be
 ·simp at be
 ·obtain ⟨f1,f2,f3,rfl,h6,h7⟩:=h5.at hi
  rw [List.length_drop] at h6
  rw [List.drop_drop] at h7
  exact ⟨b,o,c,B,f2,rfl,h4,by simp,fun y hy=>by simp [hy],by have:=r.pos;omega,h7⟩
theorem Sl.src {α:Type} {r:Rp α} {H:ad} {v:Value} {l:List α} {f:List Nat} (h:Sl r H v l f) {size:Nat} (hs:size=r.sz):∃cs g,nK size v H=some (l.length,cs)/\cs.length=l.length * r.sz/\dV r H cs l g/\(∀y∈g,y∈f):=by
 subst hs
 rcases h with ⟨rfl,rfl,_⟩ | ⟨a,c,rfl,rfl,_⟩ | ⟨b,o,c,B,g,rfl,h2,h3,rfl,h4,h5⟩
 ·exact ⟨[],[],rfl,by simp,rfl,by simp⟩
 ·exact ⟨[],[],rfl,by simp,rfl,by simp⟩
 ·have e:=h5.len
  rw [List.length_drop] at e
  have mJ:0 < l.length:=List.length_pos_iff.2 h2
  have h6:0 < l.length * r.sz:=Nat.mul_pos mJ r.pos
  have eJ:B.cells.drop o=(B.cells.drop o).take (l.length * r.sz)++(B.cells.drop o).drop (l.length * r.sz):=(List.take_append_drop _ _).symm
  have h7:=h5
  rw [<-List.append_nil l] at h7
  obtain ⟨c1,c2,f1,f2,h8,h9,UN,PG,nf⟩:=h7.split
  have h13:f2=[]:=nf
  refine ⟨(B.cells.drop o).take (l.length * r.sz),g,?_,by simp;omega,?_,fun y hy=>by simp [hy]⟩
  ·simp only [nK]
   rw [if_neg (by omega),h4]
   simp only
   rw [if_pos (by omega)]
  ·rw [h8,List.take_append_of_le_length (by omega),List.take_of_length_le (by omega),h9,h13,List.append_nil]
   exact PG
section
variable {P:Program} {X:Nat->Bool} {H:ad}
attribute [go_sem] Option.isNone_none Option.isNone_some
noncomputable def iM (P:Program) (t:TypeId):Option (TypeId × Nat × Nat):=match P.underlying t with
 | some (.slice e)=>match P.info? e,gf P e with
  | some i,some z=>bif Nat.beq (j4 z) i.size&&Nat.blt 0 i.bytes then some (e,i.size,i.bytes) else none
  | _,_=>none
 | _=>none
theorem A0 {t e:TypeId} {sz el:Nat} (h:iM P t=some (e,sz,el)):P.underlying t=some (.slice e)/\∃i z,P.info? e=some i/\gf P e=some z/\z.length=i.size/\0 < i.bytes/\i.size=sz/\i.bytes=el:=by
 unfold iM at h
 split at h
 ·rename_i e1 hu
  split at h
  ·rename_i i z hi hz
   cases hc:Nat.beq (j4 z) i.size&&Nat.blt 0 i.bytes
   ·rw [hc] at h;cases h
   ·rw [hc] at h
    rw [Bool.and_eq_true,beq_eq,blt_eq,decide_eq_true_eq,decide_eq_true_eq,xU] at hc
    cases h
    exact ⟨hu,i,z,hi,hz,hc.1,hc.2,rfl,rfl⟩
  ·cases h
 ·cases h
theorem HL {t e:TypeId} {sz el n:Nat} {x:Value} {new:List Value} (ha:iM P t=some (e,sz,el)) (hs:nK sz x H=some (n,new)) (hn:n * el < 140737488355328) (h0:0 < n):
  iS P t (.slice none 0 0) x H=.ok (.slice (some ⟨H.next,0,none⟩) n n) (H.push ⟨new,e,true,false⟩):=by
 obtain ⟨hu,i,z,hi,hz,h1,h2,rfl,rfl⟩:=A0 ha
 have h3:n<=n * i.bytes:=Nat.le_mul_of_pos_right _ h2
 simp only [iS,hu,hi,hz,hs]
 rw [if_pos ⟨h1,hn,by omega,h2⟩,if_pos (by simp),if_neg (by omega)]
 rfl
theorem Yg {t e:TypeId} {sz el:Nat} {x:Value} {new:List Value} (ha:iM P t=some (e,sz,el)) (hs:nK sz x H=some (0,new)):
  iS P t (.slice none 0 0) x H=.ok (.slice none 0 0) H:=by
 obtain ⟨hu,i,z,hi,hz,h1,h2,rfl,rfl⟩:=A0 ha
 simp only [iS,hu,hi,hz,hs]
 rw [if_pos ⟨h1,by omega,by omega,h2⟩,if_pos (by simp)]
 rfl
theorem Q8 {t e:TypeId} {sz el n b sl:Nat} {x:Value} {new cs:List Value} (ha:iM P t=some (e,sz,el)) (hs:nK sz x H=some (n,new)) (hB:H.get b=some ⟨cs,e,true,false⟩) (hl:cs.length=sl * sz)
  (hn:(sl+n) * el < 140737488355328) (h0:0 < n) (I6:kh new=true):
  iS P t (.slice (some ⟨b,0,none⟩) sl sl) x H=.ok (.slice (some ⟨H.next,0,none⟩) (sl+n) (sl+n)) (H.grow b ⟨cs++new,e,true,false⟩):=by
 obtain ⟨hu,i,z,hi,hz,h1,h2,rfl,rfl⟩:=A0 ha
 have h3:sl+n<=(sl+n) * i.bytes:=Nat.le_mul_of_pos_right _ h2
 have h4:n * i.bytes<=(sl+n) * i.bytes:=Nat.mul_le_mul_right _ (by omega)
 have h5:cs.take (sl * i.size)=cs:=List.take_of_length_le (by omega)
 simp only [iS,hu,hi,hz,hs,hB]
 rw [if_pos ⟨h1,by omega,by omega,h2⟩,if_neg (by omega),if_pos ⟨hn,by omega,by omega,Nat.le_refl _,trivial,trivial⟩,if_pos trivial,if_pos ⟨trivial,I6⟩,h5]
theorem Kc {t e:TypeId} {sz el n b o sl sc:Nat} {x:Value} {new cs:List Value} (ha:iM P t=some (e,sz,el)) (hs:nK sz x H=some (n,new)) (hB:H.get b=some ⟨cs,e,false,false⟩) (hl:cs.length=o+sc * sz)
  (eK:sl<=sc) (hn:(sl+n) * el < 140737488355328) (h0:sc < sl+n):
  iS P t (.slice (some ⟨b,o,none⟩) sl sc) x H=.ok (.slice (some ⟨H.next,0,none⟩) (sl+n) (sl+n)) (H.push ⟨(cs.drop o).take (sl * sz)++new,e,true,false⟩):=by
 obtain ⟨hu,i,z,hi,hz,h1,h2,rfl,rfl⟩:=A0 ha
 have h3:sl+n<=(sl+n) * i.bytes:=Nat.le_mul_of_pos_right _ h2
 have h4:n * i.bytes<=(sl+n) * i.bytes:=Nat.mul_le_mul_right _ (by omega)
 simp only [iS,hu,hi,hz,hs,hB]
 rw [if_pos ⟨h1,by omega,by omega,h2⟩,if_neg (by omega),if_pos ⟨hn,by omega,by omega,eK,trivial,trivial⟩,if_neg (by decide)]
 rfl
theorem Ku {t e:TypeId} {sz el n b o sl sc:Nat} {x:Value} {new:List Value} {B:cw} (ha:iM P t=some (e,sz,el)) (hs:nK sz x H=some (n,new)) (rX:new.length=n * sz) (hB:H.get b=some B) (oE:B.ro=false) (hl:o+sc * sz<=B.cells.length)
  (hn:n * el < 140737488355328) (h0:sl+n<=sc) (I6:kh new=true):
  iS P t (.slice (some ⟨b,o,none⟩) sl sc) x H=.ok (.slice (some ⟨b,o,none⟩) (sl+n) sc) (H.ah b ⟨cW B.cells (o+sl * sz) new,B.elem,B.hV,false⟩):=by
 obtain ⟨hu,i,z,hi,hz,h1,h2,rfl,rfl⟩:=A0 ha
 have h3:n<=n * i.bytes:=Nat.le_mul_of_pos_right _ h2
 have h5:(sl+n) * i.size<=sc * i.size:=Nat.mul_le_mul_right _ h0
 rw [Nat.add_mul] at h5
 simp only [iS,hu,hi,hz,hs,hB]
 rw [if_pos ⟨h1,hn,by omega,h2⟩,if_pos h0,if_pos hl]
 simp only [qx,hB]
 rw [if_pos ⟨by omega,I6,oE⟩]
structure ba (H H':ad):Prop where
 nx:H.next<=H'.next
 get:∀b,b < H.next->H'.get b=H.get b
 ro:∀b B,H'.get b=some B->B.ro=true->H.get b=some B
theorem ba.refl (H:ad):ba H H:=⟨Nat.le_refl _,fun _ _=>rfl,fun _ _ h _=>h⟩
theorem ba.trans {H H1 H2:ad} (h:ba H H1) (h':ba H1 H2):ba H H2:=⟨Nat.le_trans h.nx h'.nx,fun b hb=>(h'.get b (Nat.lt_of_lt_of_le hb h.nx)).trans (h.get b hb),fun b B hb hr=>h.ro b B (h'.ro b B hb hr) hr⟩
theorem ba.push (H:ad) (B:cw) (hB:B.ro=false:=by rfl):ba H (H.push B):=⟨Nat.le_succ _,fun b hb=>bX hb,fun b C hb hr=>by
 rw [aV] at hb
 split at hb
 ·cases hb;rw [hB] at hr;cases hr
 ·exact hb⟩
theorem ba.ah {H H1:ad} (h:ba H H1) {b:Nat} (hb:H.next<=b) (B:cw) (hB:B.ro=false:=by rfl):ba H (H1.ah b B):=⟨h.nx,fun c hc=>by
 show (if c=b then some B else H1.get c)=_
 rw [if_neg (by omega)];exact h.get c hc,fun c C hc hr=>by
 have hc:(if c=b then some B else H1.get c)=some C:=hc
 split at hc
 ·cases hc;rw [hB] at hr;cases hr
 ·exact h.ro c C hc hr⟩
theorem ba.grow {H H1:ad} (h:ba H H1) {b:Nat} (hb:H.next<=b) (B:cw) (hB:B.ro=false:=by rfl):ba H (H1.grow b B):=⟨Nat.le_succ_of_le h.nx,fun c hc=>by
 have:=h.nx
 show (if c=H1.next then some B else if c=b then none else H1.get c)=_
 rw [if_neg (by omega),if_neg (by omega)];exact h.get c hc,fun c C hc hr=>by
 have hc:(if c=H1.next then some B else if c=b then none else H1.get c)=some C:=hc
 (repeat' split at hc)
 ·cases hc;rw [hB] at hr;cases hr
 ·cases hc
 ·exact h.ro c C hc hr⟩
theorem bV.Da {H:ad} (h:bV H) {b:Nat} {B:cw} (hb:H.get b=some B):b < H.next:=ad.Da h.wf hb
theorem bV.fresh {H:ad} (h:bV H) {b:Nat} (hb:H.next<=b):H.fz b=false:=by
 cases hz:H.fz b
 ·rfl
 ·have:=h.fz b hz;omega
def Ow {α:Type} (r:Rp α) (ty:TypeId) (H:ad) (v:Value) (l:List α) (f:List Nat):Prop:=
 (v=.slice none 0 0/\l=[]/\f=[])∨
  ∃b cs g,v=.slice (some ⟨b,0,none⟩) l.length l.length/\l≠[]/\f=b::g/\H.get b=some ⟨cs,ty,true,false⟩/\cs.length=l.length * r.sz/\dV r H cs l g
theorem Ow.nil {α:Type} (r:Rp α) (ty:TypeId) (H:ad):Ow r ty H (.slice none 0 0) [] []:=.inl ⟨rfl,rfl,rfl⟩
theorem Ow.sl {α:Type} {r:Rp α} {ty:TypeId} {H:ad} {v:Value} {l:List α} {f:List Nat} (h:Ow r ty H v l f):Sl r H v l f:=by
 rcases h with h | ⟨b,cs,g,h1,h2,h3,h4,h5,h6⟩
 ·exact .inl h
 ·exact .inr (.inr ⟨b,0,_,_,g,h1,h2,Nat.le_refl _,h3,h4,h6⟩)
theorem Ow.af {α:Type} {r:Rp α} {ty:TypeId} {H H':ad} {v:Value} {l:List α} {f:List Nat} (h:Ow r ty H v l f) (hk:∀b∈f,H'.get b=H.get b):Ow r ty H' v l f:=by
 rcases h with h | ⟨b,cs,g,h1,h2,rfl,h4,h5,h6⟩
 ·exact .inl h
 ·exact .inr ⟨b,cs,g,h1,h2,rfl,by rw [hk b (by simp)];exact h4,h5,h6.af fun x hx=>hk x (by simp [hx])⟩
theorem Rp.ZA {H:ad} {cs:List Value} {x:Int} {f:List Nat}:Rp.int.E H cs x f↔cs=[.int .i64 x]/\f=[]:=Iff.rfl
theorem Hz {t e:TypeId} {sz el n:Nat} {z:List Value} {ps:List (Nat × Value)} {cs:List Value} (ha:iM P t=some (e,sz,el)) (hz:gf P e=some z) (hp:0 < sz) (hn:n * sz<=16777216) (hf:Bi (fun i=>some (i * sz,sz)) ps (ff z n)=some cs):
  sw P t n ps H=.ok (.slice (some ⟨H.next,0,none⟩) n n) (H.push ⟨cs,e,false,false⟩):=by
 obtain ⟨hu,i,z',hi,L9,h1,h2,rfl,rfl⟩:=A0 ha
 rw [hz] at L9;cases L9
 have hs:du P e=some i.size:=by unfold du;rw [hi]
 simp only [sw,hu,hs,hz]
 rw [if_pos ⟨hn,hp,h1⟩,hf]
 rfl
theorem RD {t e:TypeId} {sz el n c:Nat} {z:List Value} (ha:iM P t=some (e,sz,el)) (hz:gf P e=some z) (hp:0 < sz) (hn:n<=c) (hc:el * c<=281474976710656) (vY:c < 9223372036854775808):
  CU P t (.int .i64 ((n:Nat):Int)) (.int .i64 ((c:Nat):Int)) H=.ok (.slice (some ⟨H.next,0,none⟩) n c) (H.push ⟨ff z c,e,false,false⟩):=by
 obtain ⟨hu,i,z',hi,L9,h1,h2,rfl,rfl⟩:=A0 ha
 rw [hz] at L9;cases L9
 show (match P.underlying t,Value.int .i64 (.ofNat n),Value.int .i64 (.ofNat c) with
  | some (.slice e),.int .i64 (.ofNat l),.int .i64 (.ofNat c)=>(match P.info? e,gf P e with
   | some i,some z=>if l<=c/\i.bytes * c<=281474976710656/\0 < i.size/\c < 9223372036854775808/\z.length=i.size then rK (ff z c) e false (fun b=>.slice (some ⟨b,0,none⟩) l c) H else .no
   | _,_=>.no)
  | _,_,_=>.no)=_
 rw [hu]
 simp only [hi,hz]
 rw [if_pos ⟨hn,hc,hp,vY,h1⟩]
 rfl
theorem eB {t e:TypeId} {sz el:Nat} {v:Value} (ha:iM P t=some (e,sz,el)) (hp:0 < sz) (UO:sz<=16777216) (hv:v.cells.toList.length=sz):sw P t 1 [(0,v)] H=.ok (.slice (some ⟨H.next,0,none⟩) 1 1) (H.push ⟨v.cells.toList,e,false,false⟩):=by
 obtain ⟨hu,i,z,hi,hz,h1,h2,rfl,rfl⟩:=A0 ha
 refine Hz ha hz hp (by omega) ?_
 have e1:ff z 1=z:=by show z++[]=z;simp
 rw [e1]
 show (bif Nat.beq (j4 v.cells.toList) i.size&&Nat.ble (0 * i.size+i.size) (j4 z) then some (HI z (0 * i.size) v.cells.toList) else none)=_
 have e2:(Nat.beq (j4 v.cells.toList) i.size&&Nat.ble (0 * i.size+i.size) (j4 z))=true:=by
  rw [Bool.and_eq_true,beq_eq,ble_eq,decide_eq_true_eq,decide_eq_true_eq,xU,xU];omega
 rw [e2,cond_true,QV]
 simp only [Nat.zero_mul,List.take_zero,List.nil_append,Nat.zero_add]
 rw [List.drop_eq_nil_of_le (by omega),List.append_nil]
theorem EE {b c sz:Nat} {B:cw} (hB:H.get b=some B) (hl:B.cells.length=sz):nK sz (.slice (some ⟨b,0,none⟩) 1 c) H=some (1,B.cells):=by
 simp only [nK]
 rw [if_neg (by decide),hB]
 simp only
 rw [if_pos (by omega),List.drop_zero,List.take_of_length_le (by omega)]
theorem vf {n:Nat} (h:n < 9223372036854775808):IntKind.wrap .i64 ((n:Nat):Int)=((n:Nat):Int):=by
 have:A8 (Int.ofNat n)=true:=by
  show Nat.blt n 9223372036854775808=true
  rw [blt_eq];simpa using h
 exact J2 this
theorem wrap_add {n k:Nat} (h:n+k < 9223372036854775808):IntKind.wrap .i64 (((n:Nat):Int)+((k:Nat):Int))=((n+k:Nat):Int):=by
 rw [<-Int.natCast_add];exact vf h
structure B9 (n:Nat) (H:ad) (f:List Nat):Prop where
 nd:f.Nodup
 lo:∀y∈f,n<=y
 hi:∀y∈f,y < H.next
theorem aep {α:Type} {r:Rp α} {t e:TypeId} {el:Nat} {v x:Value} {l m:List α} {f g:List Nat} {new:List Value} {K:Value->ad->Prop} (ha:iM P t=some (e,r.sz,el)) (jC:Ow r e H v l f) (hf:∀y∈f,y < H.next) (cQ:(f++g).Nodup) (hg:∀y∈g,y < H.next) (hX:∀y∈f,X y=false)
  (hs:nK r.sz x H=some (m.length,new)) (rX:new.length=m.length * r.sz) (h1:kh new=true) (hm:dV r H new m g) (dv:m≠[]) (hn:(l.length+m.length) * el < 140737488355328)
  (hk:∀v' H' f',Ow r e H' v' (l++m) f'->f'.Nodup->(∀y∈f',y=H.next∨y∈f∨y∈g)->(∀y∈f',y < H'.next)->H'.next=H.next+1->(∀c,c < H.next->c∉f->H'.get c=H.get c)->(∀c,H.fz c=true->H'.fz c=true)->(∀c B,H'.get c=some B->B.ro=true->H.get c=some B)->K v' H') {tg:Tag K}:ew P X H (iS P t v x H) K tg:=by
 have mJ:0 < m.length:=List.length_pos_iff.2 dv
 rcases jC with ⟨rfl,rfl,rfl⟩ | ⟨b,cs,g0,rfl,h2,rfl,h3,h4,h5⟩
 ·rw [HL ha hs (by simpa using hn) mJ,wK]
  refine hk _ _ (H.next::g) (.inr ⟨H.next,new,g,by simp,by simpa using dv,rfl,by rw [aV,if_pos rfl],by simpa using rX,hm.af fun y hy=>bX (hg y hy)⟩) ?_ ?_ ?_ rfl (fun c hc _=>bX hc) (fun c hc=>by rw [qw,hc,Bool.or_true]) (ba.push H _).ro
  ·rw [List.nodup_cons];exact ⟨fun h=>Nat.lt_irrefl _ (hg _ h),by simpa using cQ⟩
  ·intro y hy;rcases List.mem_cons.1 hy with h | h
   ·exact .inl h
   ·exact .inr (.inr h)
  ·intro y hy;rw [bJ];rcases List.mem_cons.1 hy with h | h
   ·omega
   ·have:=hg y h;omega
 ·have hb:=hf b (by simp)
  rw [Q8 ha hs h3 h4 hn mJ h1,Kb (hX b (by simp))]
  have De:∀c,c < H.next->c≠b->(H.grow b ⟨cs++new,e,true,false⟩).get c=H.get c:=fun c hc i7=>by rw [ve,if_neg (by omega),if_neg i7]
  rw [List.cons_append,List.nodup_cons] at cQ
  have PH:b∉g0++g:=cQ.1
  refine hk _ _ (H.next::(g0++g)) (.inr ⟨H.next,cs++new,g0++g,by simp,by simp [h2],rfl,by rw [ve,if_pos rfl],by rw [List.length_append,List.length_append,h4,rX,Nat.add_mul],?_⟩) ?_ ?_ ?_ rfl (fun c hc Ma=>De c hc (fun h=>Ma (by simp [h]))) (fun c hc=>by rw [aeo,hc,Bool.or_true]) (fun c C hc hr=>by
   rw [ve] at hc
   (repeat' split at hc)
   ·cases hc;cases hr
   ·cases hc
   ·exact hc)
  ·refine (h5.af fun y hy=>De y (hf y (by simp [hy])) (fun h=>PH (by rw [<-h];simp [hy]))).join h4 (hm.af fun y hy=>De y (hg y hy) (fun h=>PH (by rw [<-h];simp [hy])))
  ·rw [List.nodup_cons]
   refine ⟨fun h=>?_,cQ.2⟩
   rcases List.mem_append.1 h with h | h
   ·exact Nat.lt_irrefl _ (hf _ (by simp [h]))
   ·exact Nat.lt_irrefl _ (hg _ h)
  ·intro y hy
   rcases List.mem_cons.1 hy with h | h
   ·exact .inl h
   ·rcases List.mem_append.1 h with h | h
    ·exact .inr (.inl (by simp [h]))
    ·exact .inr (.inr h)
  ·intro y hy;rw [acX];rcases List.mem_cons.1 hy with h | h
   ·omega
   ·rcases List.mem_append.1 h with h | h
    ·have:=hf y (by simp [h]);omega
    ·have:=hg y h;omega
theorem adM {α:Type} {r:Rp α} {t e:TypeId} {el b:Nat} {v:Value} {l:List α} {x:α} {f g:List Nat} {B:cw} {K:Value->ad->Prop} (ha:iM P t=some (e,r.sz,el)) (jC:Ow r e H v l f) (hf:∀y∈f,y < H.next) (cQ:(f++g).Nodup) (hg:∀y∈g,y < H.next) (hX:∀y∈f,X y=false)
  (hB:H.get b=some B) (hE:r.E H B.cells x g) (h1:kh B.cells=true) (hn:(l.length+1) * el < 140737488355328) {tg:Tag K}
  (hk:∀v' H' f',Ow r e H' v' (l++[x]) f'->f'.Nodup->(∀y∈f',y=H.next∨y∈f∨y∈g)->(∀y∈f',y < H'.next)->H'.next=H.next+1->(∀c,c < H.next->c∉f->H'.get c=H.get c)->(∀c,H.fz c=true->H'.fz c=true)->(∀c B,H'.get c=some B->B.ro=true->H.get c=some B)->K v' H'):ew P X H (iS P t v (.slice (some ⟨b,0,none⟩) 1 1) H) K tg:=
 aep (m:=[x]) (new:=B.cells) ha jC hf cQ hg hX (EE hB (r.len hE)) (by simp [r.len hE]) h1 (dV.one hE) (by simp) hn hk
end
theorem Xt {cs vs:List Value} {o:Nat} (h:o+vs.length<=cs.length):(cW cs o vs).length=cs.length:=by
 simp [cW];omega
theorem dV.acY {α:Type} {r:Rp α} {H:ad} {cs:List Value} {l:List α} {f:List Nat} (h:dV r H cs l f) (k:Nat):∃g,dV r H cs (l.take k) g/\∀y∈g,y∈f:=by
 have h1:=h
 rw [<-List.take_append_drop k l] at h1
 obtain ⟨c1,c2,f1,f2,rfl,rfl,e,h2,h3⟩:=h1.split
 exact ⟨f1,h2.more c2,fun y hy=>by simp [hy]⟩
section
variable {P:Program} {H:ad}
theorem Sl.to {α:Type} {r:Rp α} {v:Value} {l:List α} {f:List Nat} {t e:TypeId} {k:Nat} (h:Sl r H v l f) (he:iZ P t=some (e,r.sz)) (hk:k<=l.length):
  ∃v' g,l9 P t v none (some (.int .i64 (k:Nat))) none h0=.ok v' h0/\Sl r H v' (l.take k) g/\∀y∈g,y∈f:=by
 have hu:P.underlying t=some (.slice e)/\du P e=some r.sz:=by
  unfold iZ at he
  split at he
  ·rename_i e1 hu
   split at he
   ·rename_i s hs;cases he;exact ⟨hu,hs⟩
   ·cases he
  ·cases he
 have hlen:(l.take k).length=k:=by simp;omega
 have key:∀(b o n c:Nat),k<=c->l9 P t (.slice (some ⟨b,o,none⟩) n c) none (some (.int .i64 (k:Nat))) none h0=.ok (.slice (some ⟨b,o,none⟩) k c) h0:=fun b o n c hc=>by
  simp only [l9,hu.1,hu.2,nJ]
  show (bif Nat.ble 0 k&&Nat.ble k c then (bif Nat.blt 0 c||Nat.beq 0 0 then KO.ok _ _ else _) else .no)=_
  have h1:(Nat.ble 0 k&&Nat.ble k c)=true:=by simp [ble_eq];omega
  have h2:(Nat.blt 0 c||Nat.beq 0 0)=true:=by simp [beq_eq]
  rw [h1,cond_true,h2,cond_true];simp
 rcases h with ⟨rfl,rfl,rfl⟩ | ⟨⟨b,o,sp⟩,c,rfl,rfl,rfl⟩ | ⟨b,o,c,B,g,rfl,h2,h3,rfl,h4,h5⟩
 ·have:k=0:=by simpa using hk
  subst this
  refine ⟨.slice none 0 0,[],?_,.inl ⟨rfl,rfl,rfl⟩,by simp⟩
  simp only [l9,hu.1,hu.2,nJ]
  rfl
 ·have:k=0:=by simpa using hk
  subst this
  cases sp with
  | none=>exact ⟨_,[],key b o 0 c (Nat.zero_le _),.inr (.inl ⟨_,c,rfl,by simp,rfl⟩),by simp⟩
  | some sp=>
   refine ⟨.slice (some ⟨b,o,some sp⟩) 0 0,[],?_,.inr (.inl ⟨_,0,rfl,by simp,rfl⟩),by simp⟩
   simp only [l9,hu.1,hu.2,nJ]
   rfl
 ·refine (by
   obtain ⟨g2,h6,h7⟩:=h5.acY k
   by_cases wa:k=0
   ·subst wa
    exact ⟨_,[],key b o _ c (Nat.zero_le _),.inr (.inl ⟨_,c,rfl,by simp,rfl⟩),by simp⟩
   ·refine ⟨_,b::g2,key b o _ c (by omega),.inr (.inr ⟨b,o,c,B,g2,by rw [hlen],fun e=>?_,by omega,rfl,h4,h6⟩),fun y hy=>?_⟩
    ·have:=congrArg List.length e;rw [hlen] at this;exact wa (by simpa using this)
    ·rcases List.mem_cons.1 hy with e | e
     ·simp [e]
     ·simp [h7 y e])
end
theorem ND (H:ad):∀xs:List Int,dV .int H (xs.map (.int .i64)) xs []
 | []=>rfl
 | x::xs=>⟨[.int .i64 x],xs.map (.int .i64),[],[],rfl,rfl,⟨rfl,rfl⟩,ND H xs⟩
attribute [go_sem] Int.reduceEq Int.reduceLT Int.reduceLE decide_true decide_false Nat.left_eq_add Nat.add_eq_left Nat.add_left_cancel_iff Nat.reduceEqDiff Nat.add_zero Nat.mul_one
end Go.Proofs.YtinjmfblebpnnaaGreat.Ab
namespace Go.Proofs.YtinjmfblebpnnaaGreat.Ab
open Go Classical
def UP (m t:Nat):Bool:=Nat.beq ((m >>> t) % 2) 1
def K5 (m:Nat) (d:Option Nat):Bool:=match d with
 | none=>true
 | some d=>UP m d
def qT (m:Nat):Code->Bool
 | .seq a b=>qT m a&&qT m b
 | .cond _ a b=>qT m a&&qT m b
 | .block _ a=>qT m a
 | .loop a=>qT m a
 | .region _ ops _=>ops.toList.all fun o=>K5 m o.dst
 | _=>true
def Ir (n:Nat) (x y:Value):Value:=if n=1 then x else y
@[go_sem] theorem aoH {x y:Value}:Ir 1 x y=x:=nr (if_pos rfl)
@[go_sem] theorem an7 {x y:Value}:Ir 0 x y=y:=nr (if_neg (by decide))
def wb (m:Nat) (V E:Env):Env:=fun t=>Ir ((m >>> t) % 2) (V t) (E t)
@[go_sem ↓] theorem arR {m t:Nat} {V E:Env}:wb m V E t=Ir ((m >>> t) % 2) (V t) (E t):=nr rfl
attribute [go_sem] Nat.reduceShiftRight Nat.reduceMod
section
variable {P:Program} {X:Nat->Bool} {T:oF} {E:Env} {H:ad} {Q:Exit->Env->ad->Prop}
def nh (m:Nat) (E E':Env):Prop:=∀t,UP m t=false->E' t=E t
theorem nh.refl (m:Nat) (E:Env):nh m E E:=fun _ _=>rfl
theorem nh.trans {m:Nat} {E E1 E2:Env} (h:nh m E E1) (h':nh m E1 E2):nh m E E2:=fun t ht=>(h' t ht).trans (h t ht)
theorem nh.put {m:Nat} {E:Env} {d:Option Nat} {v:Value} (h:K5 m d=true):nh m E (nL E d v):=fun t ht=>by
 cases d with
 | none=>rfl
 | some d=>
  show (if t=d then v else E t)=E t
  rw [if_neg]
  rintro rfl
  rw [show K5 m (some t)=UP m t from rfl,ht] at h
  cases h
theorem nh.wb {m:Nat} {E E':Env} (h:nh m E E'):E'=wb m E' E:=by
 funext t
 show E' t=Ir ((m >>> t) % 2) (E' t) (E t)
 unfold Ir
 split
 ·rfl
 ·rename_i hn
  refine h t ?_
  show Nat.beq ((m >>> t) % 2) 1=false
  rw [beq_eq];exact decide_eq_false hn
theorem NF {m:Nat} {ds:List (Option Nat)}:∀{l:List Oper} {E:Env} {H:ad} {K K':Env->ad->Prop},(l.all fun o=>K5 m o.dst)=true->(∀E' H',nh m E E'->K E' H'->K' E' H')->lk P X ds l E H K->lk P X ds l E H K'
 | [],E,H,K,K',hc,hk,h=>hk E H (.refl m E) h
 | o::l,E,H,K,K',hc,hk,h=>by
  rw [List.all_cons,Bool.and_eq_true] at hc
  rw [lk] at h ⊢
  split
  ·rename_i hw;rw [if_pos hw] at h;exact NC (fun v H h=>NF hc.2 (fun E' H' ho=>hk E' H' ((nh.put hc.1).trans ho)) h) h
  ·rename_i hw;rw [if_neg hw] at h;exact NF hc.2 (fun E' H' ho=>hk E' H' ((nh.put hc.1).trans ho)) h
theorem Nu {m:Nat} {tb:List (Nat × Nat)} {ds:List (Option Nat)}:∀{l:List Oper} {k:Nat} {acc:List (Nat × Rec)} {E:Env} {H:ad} {K K':Env->ad->Prop},(l.all fun o=>K5 m o.dst)=true->(∀E' H',nh m E E'->K E' H'->K' E' H')->jc P X tb ds l k acc E H K->jc P X tb ds l k acc E H K'
 | [],k,acc,E,H,K,K',hc,hk,h=>hk E H (.refl m E) h
 | o::l,k,acc,E,H,K,K',hc,hk,h=>by
  rw [List.all_cons,Bool.and_eq_true] at hc
  rw [jc] at h ⊢
  split
  ·rename_i hw;rw [if_pos hw] at h;exact NC (fun v H h=>⟨h.1,Nu hc.2 (fun E' H' ho=>hk E' H' ((nh.put hc.1).trans ho)) h.2⟩) h
  ·rename_i hw;rw [if_neg hw] at h;exact Nu hc.2 (fun E' H' ho=>hk E' H' ((nh.put hc.1).trans ho)) h
theorem afb {m:Nat}:∀{c:Code} {E:Env} {H:ad} {Q Q':Exit->Env->ad->Prop},qT m c=true->(∀e E' H',nh m E E'->Q e E' H'->Q' e E' H')->wC P X T c E H Q->wC P X T c E H Q':=by
 intro c
 induction c with
 | skip=>intro E H Q Q' hc hq h;exact hq _ _ _ (.refl m E) h
 | label l=>intro E H Q Q' hc hq h;exact hq _ _ _ (.refl m E) h
 | exit id=>intro E H Q Q' hc hq h;exact hq _ _ _ (.refl m E) h
 | ret=>intro E H Q Q' hc hq h;exact hq _ _ _ (.refl m E) h
 | region id ops draw=>
  intro E H Q Q' hc hq h
  cases draw
  ·exact NF hc (hq .normal) h
  ·exact Nu hc (hq .normal) h
 | seq a b fo mj=>
  intro E H Q Q' hc hq h
  rw [qT,Bool.and_eq_true] at hc
  rw [wC] at h ⊢
  refine fo hc.1 (fun e E1 H1 ho h=>?_) h
  cases e with
  | normal=>exact mj hc.2 (fun e E2 H2 fO h=>hq _ _ _ (ho.trans fO) h) h
  | _=>exact hq _ _ _ ho h
 | cond x a b fo mj=>
  intro E H Q Q' hc hq h
  rw [qT,Bool.and_eq_true] at hc
  rw [wC] at h ⊢
  unfold Bw at h ⊢
  split
  ·rename_i v hv
   rw [hv] at h
   simp only at h
   split
   ·rename_i hb;rw [if_pos hb] at h;exact fo hc.1 hq h
   ·rename_i hb;rw [if_neg hb] at h;exact mj hc.2 hq h
  ·rename_i hv
   split at h
   ·rename_i v nT;exact (hv _ nT).elim
   ·exact h
 | block id a fo=>
  intro E H Q Q' hc hq h
  rw [wC] at h ⊢
  refine fo hc (fun e E1 H1 ho h=>?_) h
  cases e with
  | exit i=>
   simp only [vx] at h ⊢
   split
   ·rename_i he;rw [if_pos he] at h;exact hq _ _ _ ho h
   ·rename_i he;rw [if_neg he] at h;exact hq _ _ _ ho h
  | _=>exact hq _ _ _ ho h
 | loop a fo=>
  intro E H Q Q' hc hq h
  rw [wC] at h ⊢
  obtain ⟨n,h⟩:=h
  refine ⟨n,?_⟩
  have key:∀n E1 H1,nh m E E1->qd (wC P X T a) n E1 H1 Q->qd (wC P X T a) n E1 H1 Q':=by
   intro n
   induction n with
   | zero=>intro E1 H1 ho h;exact h
   | succ n ih=>
    intro E1 H1 ho h
    rw [qd] at h ⊢
    refine fo hc (fun e E2 H2 fO h=>?_) h
    cases e with
    | normal=>exact ih E2 H2 (ho.trans fO) h
    | _=>exact hq _ _ _ (ho.trans fO) h
  exact key n E H (.refl m E) h
 | rangeFunc f ps x y=>intro E H Q Q' hc hq h;cases h
 | scope b=>intro E H Q Q' hc hq h;cases h
 | goto l=>intro E H Q Q' hc hq h;cases h
 | refuse w=>intro E H Q Q' hc hq h;cases h
theorem la {a:Code} (m:Nat) (I:Nat->Env->ad->Prop) {n:Nat} (h0:I n E H) (hr:∀n V H1,I n V H1->wC P X T a (wb m V E) H1 (oT (fun E' H'=>∃k,k < n/\I k E' H') Q)) (hc:qT m a=true):wC P X T (.loop a) E H Q:=by
 refine ae9 (fun n E' H'=>I n E' H'/\nh m E E') ⟨h0,.refl m E⟩ fun n E1 H1 ⟨hI,ho⟩=>?_
 have:=hr n E1 H1 hI
 rw [<-ho.wb] at this
 refine afb hc (fun e E2 H2 fO h=>?_) this
 cases e with
 | normal=>
  obtain ⟨k,hk,h⟩:=h
  exact ⟨k,hk,h,ho.trans fO⟩
 | _=>exact h
theorem iw {a:Code} (m n:Nat) (I:Nat->Env->ad->Prop) (h0:I 0 E H) (hr:∀i V H1,i < n->I i V H1->wC P X T a (wb m V E) H1 (oT (fun E' H'=>I (i+1) E' H') Q))
  (he:∀V H1,I n V H1->wC P X T a (wb m V E) H1 (oT (fun _ _=>False) Q)) (hc:qT m a=true):wC P X T (.loop a) E H Q:=by
 refine la m (fun k E' H'=>∃i,i+k=n/\I i E' H') (n:=n) ⟨0,by omega,h0⟩ (fun k V H1 ⟨i,hi,hI⟩=>?_) hc
 cases k with
 | zero=>
  obtain rfl:i=n:=by omega
  refine Rz (fun e E2 H2 h=>?_) (he V H1 hI)
  cases e with
  | normal=>exact h.elim
  | _=>exact h
 | succ k=>
  refine Rz (fun e E2 H2 h=>?_) (hr i V H1 (by omega) hI)
  cases e with
  | normal=>exact ⟨k,by omega,i+1,by omega,h⟩
  | _=>exact h
end
structure we (f:List Nat) (H H':ad):Prop where
 nx:H'.next=H.next
 get:∀c,c∉f->H'.get c=H.get c
 fz:∀c,H'.fz c=H.fz c
 ro:∀c∈f,∀B,H'.get c=some B->B.ro=false
theorem we.refl {f:List Nat} {H:ad} (oE:∀c∈f,∀B,H.get c=some B->B.ro=false):we f H H:=⟨rfl,fun _ _=>rfl,fun _=>rfl,oE⟩
theorem we.ah {f:List Nat} {H H1:ad} (h:we f H H1) {b:Nat} {B:cw} (hb:b∈f) (hB:B.ro=false):we f H (H1.ah b B):=⟨h.nx,fun c hc=>by
 rw [az,if_neg (fun e=>hc (by rw [e];exact hb))];exact h.get c hc,h.fz,fun c hc C hC=>by
 rw [az] at hC
 split at hC
 ·cases hC;exact hB
 ·exact h.ro c hc C hC⟩
theorem ba.sL {f:List Nat} {H H1 H2:ad} (h:ba H H1) (hu:we f H1 H2) (hf:∀y∈f,H.next<=y):ba H H2:=⟨by rw [hu.nx];exact h.nx,fun b hb=>by
 rw [hu.get b (fun hm=>by have:=hf b hm;omega)];exact h.get b hb,fun b B hB hr=>by
 by_cases hm:b∈f
 ·rw [hu.ro b hm B hB] at hr;cases hr
 ·rw [hu.get b hm] at hB;exact h.ro b B hB hr⟩
section
variable {H:ad}
theorem cZ {i n:Nat} (hi:i < n) (hn:n < 4611686018427387904):IntKind.wrap .i64 (((i:Nat):Int)+1)=((i+1:Nat):Int):=wrap_add (k:=1) (by omega)
theorem Sl.afc {v:Value} {xs:List Int} {f:List Nat} (h:Sl .int H v xs f) {i:Nat} (hi:i < xs.length):
  ∃b o c B,v=.slice (some ⟨b,o,none⟩) xs.length c/\H.get b=some B/\b∈f/\B.cells[o+i]?=some (.int .i64 (xs.getD i 0)):=by
 have jg:xs[i]?=some xs[i]:=List.getElem?_eq_getElem hi
 obtain ⟨b,o,c,B,gx,hv,hB,ep,Ca,cm,hE⟩:=h.at jg
 have iK:=(Rp.ZA.1 hE).1
 refine ⟨b,o,c,B,hv,hB,ep,?_⟩
 have:((B.cells.drop (o+i * 1)).take 1)[0]?=some (.int .i64 xs[i]):=by
  rw [show (B.cells.drop (o+i * 1)).take 1=_ from iK];rfl
 rw [List.getElem?_take,if_pos (by decide),List.getElem?_drop,Nat.mul_one,Nat.add_zero] at this
 rw [this,List.getD_eq_getElem?_getD,jg];rfl
end
theorem xQ {cs row vs:List Value} {o k sz:Nat} (hr:(cs.drop o).take sz=row) (hk:k+vs.length<=sz) (ho:o+sz<=cs.length):cW cs (o+k) vs=cW cs o (cW row k vs):=by
 subst hr
 have h1:cs.take (o+k)=cs.take o++(cs.drop o).take k:=by rw [List.take_add]
 have h2:((cs.drop o).take sz).take k=(cs.drop o).take k:=by rw [List.take_take,Nat.min_eq_left (by omega)]
 have h3:((cs.drop o).take sz).drop (k+vs.length)++cs.drop (o+sz)=cs.drop (o+k+vs.length):=by
  have e:cs.drop (o+sz)=(cs.drop o).drop sz:=by rw [List.drop_drop]
  have e2:cs.drop (o+k+vs.length)=(cs.drop o).drop (k+vs.length):=by rw [List.drop_drop,Nat.add_assoc]
  rw [e,e2]
  have e3:(cs.drop o)=(cs.drop o).take sz++(cs.drop o).drop sz:=(List.take_append_drop _ _).symm
  conv=>rhs;rw [e3]
  rw [List.drop_append_of_le_length (by simp;omega)]
 have hl:(cW ((cs.drop o).take sz) k vs).length=sz:=by
  unfold cW
  simp;omega
 unfold cW at hl ⊢
 rw [hl,h1,h2,List.append_assoc,List.append_assoc,List.append_assoc,h3]
theorem HA {P:Program} {X:Nat->Bool} {Hb H:ad} {α:Type} {r:Rp α} {t e:TypeId} {el b:Nat} {v:Value} {l:List α} {x:α} {f g:List Nat} {B:cw} {K:Value->ad->Prop} (ha:iM P t=some (e,r.sz,el)) (jC:Ow r e H v l f) (hold:ba Hb H)
  (hf:B9 Hb.next H f) (hg:B9 Hb.next H g) (hd:∀y∈f,y∉g) (hX:∀y∈f,X y=false) (hB:H.get b=some B) (hE:r.E H B.cells x g) (h1:kh B.cells=true) (hn:(l.length+1) * el < 140737488355328) {tg:Tag K}
  (hk:∀v' H' f',Ow r e H' v' (l++[x]) f'->B9 Hb.next H' f'->(∀y∈f',y=H.next∨y∈f∨y∈g)->H'.next=H.next+1->(∀c,c < H.next->c∉f->H'.get c=H.get c)->ba Hb H'->K v' H'):ew P X H (iS P t v (.slice (some ⟨b,0,none⟩) 1 1) H) K tg:=by
 refine adM ha jC hf.hi (by rw [List.nodup_append];exact ⟨hf.nd,hg.nd,fun a ha b hb e=>hd a ha (e▸hb)⟩) hg.hi hX hB hE h1 hn ?_
 intro v' H' f' h1 h2 h3 h4 h5 h6 h7 h8
 have dU:=hold.nx
 refine hk v' H' f' h1 ⟨h2,fun y hy=>?_,h4⟩ h3 h5 h6 ⟨by omega,fun y hy=>?_,fun y B hB hr=>hold.ro y B (h8 y B hB hr) hr⟩
 ·rcases h3 y hy with e | e | e
  ·omega
  ·exact hf.lo y e
  ·exact hg.lo y e
 ·rw [h6 y (by omega) (fun e=>by have:=hf.lo y e;omega)];exact hold.get y hy
section akS
variable {P:Program} {t e:TypeId} {s b o n c:Nat}
theorem NG (he:iZ P t=some (e,s)):P.underlying t=some (.slice e)/\du P e=some s:=by
 unfold iZ at he
 split at he
 ·rename_i e1 hu
  split at he
  ·rename_i s hs;cases he;exact ⟨hu,hs⟩
  ·cases he
 ·cases he
theorem NH {hi:Nat} (he:iZ P t=some (e,s)) (h2:hi<=c):
  l9 P t (.slice (some ⟨b,o,none⟩) n c) none (some (.int .i64 (hi:Nat))) none h0=.ok (.slice (some ⟨b,o,none⟩) hi c) h0:=by
 obtain ⟨hu,hs⟩:=NG he
 simp only [l9,hu,hs,nJ]
 show (bif Nat.ble 0 hi&&Nat.ble hi c then (bif Nat.blt 0 c||Nat.beq 0 0 then KO.ok _ _ else _) else .no)=_
 have e1:(Nat.ble 0 hi&&Nat.ble hi c)=true:=by simp [ble_eq];omega
 have e2:(Nat.blt 0 c||Nat.beq 0 0)=true:=by simp [beq_eq]
 rw [e1,cond_true,e2,cond_true];simp
theorem Q0 {lo:Nat} (he:iZ P t=some (e,s)) (h1:lo<=n) (h2:n<=c) (h3:lo < c∨lo=0):
  l9 P t (.slice (some ⟨b,o,none⟩) n c) (some (.int .i64 (lo:Nat))) none none h0=.ok (.slice (some ⟨b,o+lo * s,none⟩) (n - lo) (c - lo)) h0:=by
 obtain ⟨hu,hs⟩:=NG he
 simp only [l9,hu,hs,nJ]
 show (bif Nat.ble lo n&&Nat.ble n c then (bif Nat.blt lo c||Nat.beq lo 0 then KO.ok _ _ else _) else .no)=_
 have e1:(Nat.ble lo n&&Nat.ble n c)=true:=by simp [ble_eq];omega
 have e2:(Nat.blt lo c||Nat.beq lo 0)=true:=by simp [blt_eq,beq_eq];omega
 rw [e1,cond_true,e2,cond_true]
theorem adN {H:ad} {B:cw} {z:List Value} (he:iZ P t=some (e,s)) (hz:gf P e=some z) (h0:0 < n) (B8:0 < z.length) (hB:H.get b=some B) (hl:o+n * z.length<=B.cells.length) (h1:kh (ff z n)=true) (oE:B.ro=false):
  Bf P t (.slice (some ⟨b,o,none⟩) n c) H=.ok (.tuple #[]) (H.ah b ⟨cW B.cells o (ff z n),B.elem,B.hV,false⟩):=by
 obtain ⟨hu,hs⟩:=NG he
 simp only [Bf,hu,hz]
 rw [if_neg (by omega),if_pos B8]
 simp only [qx,hB]
 rw [if_pos ⟨by rw [QX];exact hl,h1,oE⟩]
end akS
@[go_sem] theorem anO {w:Bool}:Io undef w=false:=nr rfl
attribute [go_sem] Int.ofNat_lt Int.ofNat_le Nat.lt_irrefl Int.natCast_inj Int.reduceToNat
end Go.Proofs.YtinjmfblebpnnaaGreat.Ab
namespace Go.Proofs.YtinjmfblebpnnaaGreat.Ab
open Go Classical
section
variable {P:Program} {X:Nat->Bool}
theorem CT.ai {run:(Exit->Act->World->Prop)->Act->World->Prop} {t t':Act} {H H':ad} {e:Exit} (fz:Nat->Bool) (h:CT P run t H e t' H'):CT P run t H e t' (H'.ai fz):=fun σ w a Q hr hf ht hq=>
 h σ w a Q hr hf ht fun σ' a' w' p LW=>hq σ' a' w' ⟨p.rel,p.ext,p.size,p.af,p.oZ,p.uF,p.rest⟩ LW
def wS (P:Program) (X:Nat->Bool) (n:Nat) (c:Code) (E:Env) (H:ad) (Q:Exit->Env->ad->Prop):Prop:=∀t,TE n t E->yn X H->RC P c t H (Fk X n H Q)
theorem wS.of {T:oF} {n:Nat} {c:Code} {E:Env} {H:ad} {Q:Exit->Env->ad->Prop} (hm:P.follows .mixedOrders=true) (hc:mH P T n c=true) (h:wC P X T c E H Q):wS P X n c E H Q:=fun t ht hi=>Yb hm c t E H Q hc ht hi h
theorem wS.seq {n:Nat} {a b:Code} {E:Env} {H:ad} {Q:Exit->Env->ad->Prop} (h:wS P X n a E H (oT (fun E H=>wS P X n b E H Q) Q)):wS P X n (.seq a b) E H Q:=fun t ht hi=>by
 refine RU ((h t ht hi).mono fun e t' H' _ hf=>?_)
 obtain ⟨E',h1,h2,h3⟩:=hf
 cases e with
 | normal=>exact (h3 t' h1 h2.inv).mono fun e2 t2 H2 _ rY=>rY.after h2
 | _=>exact ⟨E',h1,h2,h3⟩
theorem wS.told {n:Nat} {c:Code} {E:Env} {H:ad} {Q:Exit->Env->ad->Prop}
  (h:wS P X n c E H fun e E' H'=>∃fz:Nat->Bool,(∀b,X b=true->fz b=true)/\(∀b,fz b=true->b < H'.next)/\Q e E' (H'.ai fz)):wS P X n c E H Q:=fun t ht hi=>by
 obtain ⟨e,t',H',h1,h2,E',h3,h4,fz,h5,h6,h7⟩:=h t ht hi
 exact ⟨e,t',H'.ai fz,⟨h1.next,h1.wf,h1.same⟩,h2.ai fz,E',h3,⟨h4.nx,h4.get,h5,⟨h4.iy.wf,h6⟩⟩,h7⟩
theorem Ol {f:FuncId} {fn:Func} {c:Code} {l:List Value} {H:ad} {K:Value->ad->Prop} (hf:P.funcs[f]?=some fn) (hb:fn.body=some c)
  (hl:l.length<=fn.ntmps) (h:bV H->wS P H.fz fn.ntmps c (b7 l) H (cj P fn.results.toList K)):ak P f l.toArray H K:=by
 intro zZ
 have hi:yn H.fz H:=⟨zZ,fun _ h=>h⟩
 have iA:=h zZ (start fn l.toArray) (Ye (by simpa using hl)) hi
 have vZ:Uq P f l.toArray H fun v H'=>KX H.fz H H'/\K v H':=by
  refine Zx hf hb (iA.mono fun e t' H' _ hE=>?_)
  obtain ⟨E',h1,h2,h3⟩:=hE
  have Su:∀{e:Exit},cj P fn.results.toList K e E' H'->(e=.normal∨e=.ret)/\BA P fn.results.toList E' H' K:=fun {e} hq=>by
   cases e with
   | normal=>exact ⟨.inl rfl,hq⟩
   | ret=>exact ⟨.inr rfl,hq⟩
   | _=>exact hq.elim
  obtain ⟨he,hw⟩:=Su h3
  refine ⟨he,?_⟩
  unfold BA at hw
  split at hw
  ·rename_i vs pU
   exact ⟨_,Yd h2.iy.wf h1 pU,h2,hw⟩
  ·exact hw.elim
 obtain ⟨v,H',h1,h2,h3,h4⟩:=vZ
 exact ⟨v,H',h1,h2,h3,h4⟩
theorem aeq {f:FuncId} {fn:Func} {a b:Code} {l:List Value} {H:ad} {K:Value->ad->Prop} (T:oF) (hm:P.follows .mixedOrders=true) (hf:P.funcs[f]?=some fn) (hc:bI P T f=true) {m:Nat} (hl:l.length<=m) (hn:m<=fn.ntmps) {rs:List ResultVar} (hr:fn.results.toList=rs) (hb:fn.body=some (.seq a b))
  (h:bV H->wC P H.fz T a (b7 l) H (oT (fun E1 H1=>H.next<=H1.next->wC P H.fz T b E1 (H1.ai H.fz) (cj P rs K)) (cj P rs K))):ak P f l.toArray H K:=by
 obtain ⟨c,dY,hc⟩:=Ka hc hf
 rw [hb] at dY
 cases dY
 simp only [mH,Bool.and_eq_true] at hc
 subst hr
 refine Ol hf hb (Nat.le_trans hl hn) fun zZ=>.seq (.told fun t ht hi=>?_)
 refine ((wS.of hm hc.1 (h zZ)) t ht hi).mono fun e t' H' dI hE=>?_
 obtain ⟨E',h1,h2,h3⟩:=hE
 cases e with
 | normal=>exact ⟨E',h1,h2,H.fz,fun _ h=>h,fun b hb=>Nat.lt_of_lt_of_le (zZ.fz b hb) h2.nx,wS.of hm hc.2 (h3 h2.nx)⟩
 | _=>exact ⟨E',h1,h2,H'.fz,h2.fz,h2.iy.fz,h3⟩
end
abbrev bf:=List UInt8
structure bc where
 kind:Int
 n:Int
 line:Int
 aj:Int
 text:bf
deriving DecidableEq
def nC (c:UInt8):Bool:=decide (97<=c.toNat)&&decide (c.toNat<=122)
def isDigit (c:UInt8):Bool:=decide (48<=c.toNat)&&decide (c.toNat<=57)
def ub:bf:=[40,41,123,125,91,93,44,59,58,61,46,43,45,42,60,94,33,63]
def EJ (c:UInt8):Bool:=ub.contains c
def kj (c:UInt8):Bool:=nC c||isDigit c||c==95
def vg (c:UInt8) (s:bf):Option (Int × Nat):=
 if nC c then (if 16 < (s.takeWhile kj).length then none else some (1,(s.takeWhile kj).length))
 else if isDigit c then (if 9 < (s.takeWhile isDigit).length∨1 < (s.takeWhile isDigit).length/\c=48 then none else some (2,(s.takeWhile isDigit).length))
 else if EJ c then some (3,1) else none
def zR:bf->Option (Int × Nat)
 | []=>none
 | c::r=>vg c (c::r)
def mE (s:bf):Nat:=s.foldl (fun n c=>10 * n+(c.toNat - 48)) 0
inductive OR where
 | ok (l:List bc)
 | bad
deriving DecidableEq
def ey:Nat->bf->Int->Int->List bc->OR
 | 0,_,_,_,_=>.bad
 | k+1,[],line,aj,acc=>.ok (acc++[⟨4,0,line,aj,[]⟩])
 | k+1,c::r,line,aj,acc=>
  if c=10 then ey k r (line+1) 1 acc
  else if c=32∨c=9 then ey k r line (aj+1) acc
  else if c=35 then ey k ((c::r).dropWhile (·≠10)) line (aj+(((c::r).takeWhile (·≠10)).length:Nat)) acc
  else match zR (c::r) with
   | none=>.bad
   | some (kind,w)=>ey k ((c::r).drop w) line (aj+(w:Nat)) (acc++[⟨kind,if kind=2 then (mE ((c::r).take w):Nat) else 0,line,aj,(c::r).take w⟩])
def ua (s:bf):OR:=if 16384 < s.length then .bad else ey (s.length+1) s 1 1 []
def z7:List bf:=[[109,115,103],[114,101,99],[100,101,102],[97,99,116,111,114],[111,110],[108,101,116],[110,101,119],[115,116,97,114,116],[103,101,116],[115,101,116],[115,119,97,112],[114,101,99,111,118,101,114],[103,105,118,101],[108,111,111,112],[115,112,97,119,110],[99,97,108,108],[97,103,97,105,110],[103,117,97,114,100],[102,114,101,101],[97,115],[105,102],[101,108,115,101],[100,111,110,101],[109,111,118,101],[105,110,116],[97,114,114],[105,115,111],[118,97,108],[114,101,102],[116,97,103]]
def isKey (s:bf):Bool:=z7.contains s
def isWord (s:bf):Bool:=(match s with
 | []=>false
 | c::r=>nC c&&r.all kj)&&decide (s.length<=16)
def EK (s:bf):Bool:=isWord s&&!isKey s
theorem J1 {s:bf} {kind:Int} {k:Nat} (h:zR s=some (kind,k)):1<=k/\k<=s.length/\(kind=1∨kind=2∨kind=3)/\(kind=2->k<=9/\(s.take k).all isDigit=true):=by
 cases s with
 | nil=>cases h
 | cons c r=>
  replace h:vg c (c::r)=some (kind,k):=h
  unfold vg at h
  have tw:∀p:UInt8->Bool,p c=true->1<=((c::r).takeWhile p).length:=fun p hp=>by rw [List.takeWhile_cons,if_pos hp];simp
  have tl:∀p:UInt8->Bool,((c::r).takeWhile p).length<=(c::r).length:=fun p=>(List.takeWhile_prefix p).length_le
  by_cases h1:nC c=true
  ·rw [if_pos h1] at h
   split at h
   ·cases h
   ·cases h
    exact ⟨tw _ (by simp [kj,h1]),tl _,.inl rfl,fun h=>by cases h⟩
  rw [if_neg h1] at h
  by_cases h2:isDigit c=true
  ·rw [if_pos h2] at h
   split at h
   ·cases h
   ·rename_i hn
    cases h
    refine ⟨tw _ h2,tl _,.inr (.inl rfl),fun _=>⟨by omega,?_⟩⟩
    have hp:=List.takeWhile_prefix (l:=c::r) isDigit
    rw [<-List.prefix_iff_eq_take.1 hp]
    exact List.all_takeWhile
  rw [if_neg h2] at h
  split at h
  ·cases h;exact ⟨Nat.le_refl _,by simp,.inr (.inr rfl),fun h=>by cases h⟩
  ·cases h
def Mb (l:List bc):Prop:=∃l' e,l=l'++[e]/\e.kind=4/\∀t∈l',t.kind≠4
theorem Mb.next {l:List bc} (h:Mb l) {i:Nat} {t:bc} (hi:l[i]?=some t) (ht:t.kind≠4):i+1 < l.length:=by
 obtain ⟨l',e,rfl,h1,h2⟩:=h
 have be:=(List.getElem?_eq_some_iff.1 hi).1
 rw [List.length_append,List.length_singleton] at be ⊢
 by_cases he:i=l'.length
 ·subst he
  rw [List.getElem?_append_right (Nat.le_refl _),Nat.sub_self] at hi
  cases hi
  exact absurd h1 ht
 ·omega
theorem Kj:∀(k:Nat) (s:bf) (line aj:Int) (acc l:List bc),(∀t∈acc,t.kind≠4)->ey k s line aj acc=.ok l->Mb l
 | 0,s,line,aj,acc,l,ha,h=>by cases h
 | k+1,[],line,aj,acc,l,ha,h=>by
  rw [ey] at h
  cases h
  exact ⟨acc,_,rfl,rfl,ha⟩
 | k+1,c::r,line,aj,acc,l,ha,h=>by
  rw [ey] at h
  split at h
  ·exact Kj k _ _ _ _ _ ha h
  split at h
  ·exact Kj k _ _ _ _ _ ha h
  split at h
  ·exact Kj k _ _ _ _ _ ha h
  split at h
  ·cases h
  ·rename_i kind w hp
   refine Kj k _ _ _ _ _ (fun t ht=>?_) h
   rcases List.mem_append.1 ht with e | e
   ·exact ha t e
   ·rw [List.mem_singleton] at e
    subst e
    have:=(J1 hp).2.2.1
    show kind≠4
    omega
theorem acp {s:bf} {l:List bc} (h:ua s=.ok l):Mb l:=by
 unfold ua at h
 split at h
 ·cases h
 ·exact Kj _ _ _ _ _ _ (by simp) h
section
variable {P:Program} {h:KH}
abbrev ae (s:List UInt8):Value:=.string ⟨s.toArray⟩
@[go_sem] theorem Ex {s:List UInt8}:(ByteArray.mk s.toArray).data.toList=s:=nr (List.toList_toArray ..)
theorem xT {t:TypeId} {s:List UInt8} {i:Nat} {c:UInt8} (hu:P.underlying t=some .string) (hc:s[i]?=some c):xY P t (ae s) (.int .i64 ((i:Nat):Int)) h=.ok (.int .u8 ((c.toNat:Nat):Int)) h:=by
 unfold xY
 rw [hu]
 show (match pK (ByteArray.mk s.toArray).data.toList i with
  | some c=>KO.ok (.int .u8 (.ofNat c.toNat)) h
  | none=>.no)=_
 rw [wL,Ex,hc]
 rfl
theorem HM {t:TypeId} {s:List UInt8} (hu:P.underlying t=some .string):w4 P t (ae s) h=.ok (.int .i64 ((s.length:Nat):Int)) h:=by
 rw [aco hu,Ex]
theorem A9 {t:TypeId} {a b:List UInt8} (hl:a.length+b.length < 4611686018427387904):eC P .add t (ae a) (ae b) h=.ok (ae (a++b)) h:=by
 simp only [eC,nI,IH,Ex,xU]
 rw [show Nat.blt (a.length+b.length) 4611686018427387904=true from by rw [blt_eq,decide_eq_true_eq];exact hl,cond_true]
theorem NI {t:TypeId} {a b:List UInt8}:eC P .eql t (ae a) (ae b) h=.ok (.bool (decide (a=b))) h:=by
 rw [aid,Ex,Ex]
theorem aer {t:TypeId} {s:List UInt8} {lo hi:Nat} (hu:P.underlying t=some .string) (h1:lo<=hi) (h2:hi<=s.length):l9 P t (ae s) (some (.int .i64 ((lo:Nat):Int))) (some (.int .i64 ((hi:Nat):Int))) none h=.ok (ae ((s.drop lo).take (hi - lo))) h:=by
 unfold l9
 rw [hu]
 show (bif Nat.ble lo hi&&Nat.ble hi (j4 (ByteArray.mk s.toArray).data.toList) then KO.ok (.string ⟨(Ii (Ih (ByteArray.mk s.toArray).data.toList lo) (hi - lo)).toArray⟩) h else .no)=_
 rw [Ex,xU,show (Nat.ble lo hi&&Nat.ble hi s.length)=true from by simp [ble_eq];omega,cond_true,Hw,Hv]
theorem CV {s d:TypeId} {ks kd k:IntKind} {n:Int} {H:ad} (hs:P.underlying s=some (.int ks)) (hd:P.underlying d=some (.int kd)):oR P s d (.int k n) H=.ok (.int kd (kd.wrap n)) H:=by
 unfold oR
 rw [hs,hd]
 simp only [qu]
theorem acZ {s d e:TypeId} {n:Int} {H:ad} {x:Value} (hs:P.underlying s=some (.slice e)) (he:P.underlying e=some (.int .u8)) (hd:P.underlying d=some .string) (hx:nK 1 x H=some (1,[.int .u8 n])):oR P s d x H=.ok (ae [UInt8.ofNat n.toNat]) H:=by
 unfold oR
 rw [hs,hd]
 simp only [he]
 unfold Hr
 rw [hx]
 rfl
end
structure PN where
 kind:Int
 a:Int
 b:Int
 n:Int
 name:bf
deriving DecidableEq
structure Ty where
 kind:Int
 cap:Int
 rc:Int
 name:bf
 pat:List PN
deriving DecidableEq
structure tf where
 name:bf
 ty:Ty
deriving DecidableEq
structure BC where
 name:bf
 types:List Ty
 line:Int
 aj:Int
deriving DecidableEq
structure BE where
 name:bf
 fields:List tf
 line:Int
 aj:Int
deriving DecidableEq
structure sN where
 kind:Int
 n:Int
 name:bf
deriving DecidableEq
structure eY where
 tag:Int
 Ay:Int
 body:Int
 name:bf
 ld:bf
 aY:List Int
 names:List bf
deriving DecidableEq
structure aG where
 kind:Int:=0
 x:Int:=0
 y:Int:=0
 f:Int:=0
 n:Int:=0
 cap:Int:=0
 rc:Int:=0
 op:Int:=0
 a:Int:=0
 b:Int:=0
 next:Int:=0
 line:Int:=0
 aj:Int:=0
 mI:bf:=[]
 gu:bf:=[]
 hU:bf:=[]
 jy:bf:=[]
 args:List sN:=[]
 pat:List PN:=[]
 au:List eY:=[]
deriving DecidableEq
structure eo where
 name:bf
 params:List tf
 aY:Int
 body:Int
 line:Int
 aj:Int
 sy:Bool
 pat:List PN
 on:List eY
deriving DecidableEq
abbrev iV (n:Int):Value:=.int .i64 n
def Rp.flat {α:Type} (n:Nat) (hn:0 < n) (qU:α->List Value) (hl:∀x,(qU x).length=n):Rp α:=⟨n,hn,fun _ cs x f=>cs=qU x/\f=[],fun h=>by rw [h.1];exact hl _,fun h _=>h⟩
def Rp.Om {α β:Type} (n:Nat) (hn:0 < n) (qU:α->Value->List Value) (hl:∀x v,(qU x v).length=n) (r:Rp β) (g:α->List β):Rp α:=
 ⟨n,hn,fun H cs x f=>∃v,cs=qU x v/\Sl r H v (g x) f,fun ⟨v,h,_⟩=>by rw [h];exact hl _ _,fun ⟨v,h,hs⟩ hk=>⟨v,h,hs.af hk⟩⟩
def Rp.aie {α β γ:Type} (n:Nat) (hn:0 < n) (qU:α->Value->Value->List Value) (hl:∀x v w,(qU x v w).length=n) (r:Rp β) (g:α->List β) (r2:Rp γ) (g2:α->List γ):Rp α:=
 ⟨n,hn,fun H cs x f=>∃v w f1 f2,cs=qU x v w/\f=f1++f2/\Sl r H v (g x) f1/\Sl r2 H w (g2 x) f2,fun ⟨v,w,f1,f2,h,_⟩=>by rw [h];exact hl _ _ _,
  fun ⟨v,w,f1,f2,h,hf,h1,h2⟩ hk=>⟨v,w,f1,f2,h,hf,h1.af fun b hb=>hk b (by rw [hf];simp [hb]),h2.af fun b hb=>hk b (by rw [hf];simp [hb])⟩⟩
def Rp.ZC {α β γ δ:Type} (n:Nat) (hn:0 < n) (qU:α->Value->Value->Value->List Value) (hl:∀x v w u,(qU x v w u).length=n) (r:Rp β) (g:α->List β) (r2:Rp γ) (g2:α->List γ) (r3:Rp δ) (g3:α->List δ):Rp α:=
 ⟨n,hn,fun H cs x f=>∃v w u f1 f2 f3,cs=qU x v w u/\f=f1++(f2++f3)/\Sl r H v (g x) f1/\Sl r2 H w (g2 x) f2/\Sl r3 H u (g3 x) f3,fun ⟨v,w,u,f1,f2,f3,h,_⟩=>by rw [h];exact hl _ _ _ _,
  fun ⟨v,w,u,f1,f2,f3,h,hf,h1,h2,h3⟩ hk=>⟨v,w,u,f1,f2,f3,h,hf,h1.af fun b hb=>hk b (by rw [hf];simp [hb]),h2.af fun b hb=>hk b (by rw [hf];simp [hb]),h3.af fun b hb=>hk b (by rw [hf];simp [hb])⟩⟩
abbrev Fl:Rp bc:=.flat 5 (by decide) (fun t=>[iV t.kind,iV t.n,iV t.line,iV t.aj,ae t.text]) fun _=>rfl
abbrev fJ:Rp PN:=.flat 5 (by decide) (fun t=>[iV t.kind,iV t.a,iV t.b,iV t.n,ae t.name]) fun _=>rfl
abbrev jO:Rp sN:=.flat 3 (by decide) (fun t=>[iV t.kind,iV t.n,ae t.name]) fun _=>rfl
abbrev xr:Rp Ty:=.Om 5 (by decide) (fun t v=>[iV t.kind,iV t.cap,iV t.rc,ae t.name,v]) (fun _ _=>rfl) fJ (·.pat)
abbrev lH:Rp tf:=.Om 6 (by decide) (fun t v=>[ae t.name,iV t.ty.kind,iV t.ty.cap,iV t.ty.rc,ae t.ty.name,v]) (fun _ _=>rfl) fJ (·.ty.pat)
abbrev pI:Rp BC:=.Om 4 (by decide) (fun t v=>[ae t.name,v,iV t.line,iV t.aj]) (fun _ _=>rfl) xr (·.types)
abbrev qC:Rp BE:=.Om 4 (by decide) (fun t v=>[ae t.name,v,iV t.line,iV t.aj]) (fun _ _=>rfl) lH (·.fields)
abbrev dG:Rp eY:=.aie 7 (by decide) (fun t v w=>[iV t.tag,iV t.Ay,iV t.body,ae t.name,ae t.ld,v,w]) (fun _ _ _=>rfl) .int (·.aY) .str (·.names)
abbrev kr:Rp aG:=.ZC 20 (by decide) (fun t v w u=>[iV t.kind,iV t.x,iV t.y,iV t.f,iV t.n,iV t.cap,iV t.rc,iV t.op,iV t.a,iV t.b,iV t.next,iV t.line,iV t.aj,ae t.mI,ae t.gu,ae t.hU,ae t.jy,v,w,u]) (fun _ _ _ _=>rfl) jO (·.args) fJ (·.pat) dG (·.au)
abbrev jq:Rp eo:=.ZC 9 (by decide) (fun t v w u=>[ae t.name,v,iV t.aY,iV t.body,iV t.line,iV t.aj,.bool t.sy,w,u]) (fun _ _ _ _=>rfl) lH (·.params) fJ (·.pat) dG (·.on)
structure Fr (M:List Nat) (H H':ad):Prop where
 nx:H.next<=H'.next
 get:∀c,c < H.next->c∉M->H'.get c=H.get c
 ro:∀c B,H'.get c=some B->B.ro=true->H.get c=some B
theorem Fr.refl (M:List Nat) (H:ad):Fr M H H:=⟨Nat.le_refl _,fun _ _ _=>rfl,fun _ _ h _=>h⟩
theorem Fr.trans {M M1:List Nat} {H H1 H2:ad} (h:Fr M H H1) (h':Fr M1 H1 H2) (hm:∀c∈M1,c∈M∨H.next<=c):Fr M H H2:=
 ⟨Nat.le_trans h.nx h'.nx,fun c hc hn=>(h'.get c (Nat.lt_of_lt_of_le hc h.nx) fun e=>(hm c e).elim hn fun e=>by omega).trans (h.get c hc hn),fun c B hB hr=>h.ro c B (h'.ro c B hB hr) hr⟩
theorem Fr.then {M:List Nat} {H H1 H2:ad} (h:Fr M H H1) (h':Fr M H1 H2):Fr M H H2:=h.trans h' fun _ h=>.inl h
theorem ba.fr {H H':ad} (h:ba H H') (M:List Nat):Fr M H H':=⟨h.nx,fun c hc _=>h.get c hc,h.ro⟩
theorem Fr.aH {H H':ad} (h:Fr [] H H'):ba H H':=⟨h.nx,fun c hc=>h.get c hc (by simp),h.ro⟩
theorem Fr.push {M:List Nat} {H H1:ad} (h:Fr M H H1) (B:cw) (hB:B.ro=false:=by rfl):Fr M H (H1.push B):=h.then ((ba.push H1 B hB).fr M)
theorem Fr.ah {M:List Nat} {H H1:ad} (h:Fr M H H1) {b:Nat} (hb:b∈M∨H.next<=b) (B:cw) (hB:B.ro=false:=by rfl):Fr M H (H1.ah b B):=
 ⟨h.nx,fun c hc hn=>by
  rw [az,if_neg]
  ·exact h.get c hc hn
  ·rintro rfl;rcases hb with e | e
   ·exact hn e
   ·omega,fun c C hC hr=>by
  rw [az] at hC
  split at hC
  ·cases hC;rw [hB] at hr;cases hr
  ·exact h.ro c C hC hr⟩
theorem Fr.ai {M:List Nat} {H H1:ad} (h:Fr M H H1) (fz:Nat->Bool):Fr M H (H1.ai fz):=⟨h.nx,h.get,h.ro⟩
theorem Fr.sub {M M':List Nat} {H H1:ad} (h:Fr M H H1) (hm:∀c∈M,c∈M'∨H.next<=c):Fr M' H H1:=⟨h.nx,fun c hc hn=>h.get c hc fun e=>(hm c e).elim hn fun e=>by omega,h.ro⟩
def Gr {α:Type} (r:Rp α) (ty:TypeId) (H:ad) (v:Value) (l:List α) (m g:List Nat):Prop:=
 (v=.slice none 0 0/\l=[]/\m=[]/\g=[])∨∃b cs,v=.slice (some ⟨b,0,none⟩) l.length l.length/\l≠[]/\m=[b]/\H.get b=some ⟨cs,ty,true,false⟩/\cs.length=l.length * r.sz/\dV r H cs l g/\b∉g
theorem Gr.nil {α:Type} (r:Rp α) (ty:TypeId) (H:ad):Gr r ty H (.slice none 0 0) [] [] []:=.inl ⟨rfl,rfl,rfl,rfl⟩
theorem Gr.sl {α:Type} {r:Rp α} {ty:TypeId} {H:ad} {v:Value} {l:List α} {m g:List Nat} (h:Gr r ty H v l m g):Sl r H v l (m++g):=by
 rcases h with ⟨rfl,rfl,rfl,rfl⟩ | ⟨b,cs,rfl,h2,rfl,h3,h4,h5,_⟩
 ·exact .inl ⟨rfl,rfl,rfl⟩
 ·exact .inr (.inr ⟨b,0,_,_,g,rfl,h2,Nat.le_refl _,rfl,h3,h5⟩)
theorem Gr.af {α:Type} {r:Rp α} {ty:TypeId} {H H':ad} {v:Value} {l:List α} {m g:List Nat} (h:Gr r ty H v l m g) (hm:∀b∈m,H'.get b=H.get b) (hg:∀b∈g,H'.get b=H.get b):Gr r ty H' v l m g:=by
 rcases h with h | ⟨b,cs,h1,h2,rfl,h3,h4,h5,h6⟩
 ·exact .inl h
 ·exact .inr ⟨b,cs,h1,h2,rfl,by rw [hm b (by simp)];exact h3,h4,h5.af hg,h6⟩
theorem Gr.val {α:Type} {r:Rp α} {ty:TypeId} {H:ad} {v:Value} {l:List α} {m g:List Nat} (h:Gr r ty H v l m g):∃a,v=.slice a l.length l.length:=by
 rcases h with ⟨rfl,rfl,_⟩ | ⟨b,cs,rfl,_⟩ <;> exact ⟨_,rfl⟩
theorem jZ {P:Program} {X:Nat->Bool} {H:ad} {α:Type} {r:Rp α} {t e:TypeId} {el b':Nat} {v:Value} {l:List α} {x:α} {m g g':List Nat} {B:cw} {K:Value->ad->Prop} {tg:Tag K} (ha:iM P t=some (e,r.sz,el)) (jC:Gr r e H v l m g)
  (hm:∀c∈m,c < H.next) (hg:∀c∈g,c < H.next) (fj:∀c∈g',c < H.next/\c∉m) (hX:∀c∈m,X c=false) (hB:H.get b'=some B) (hE:r.E H B.cells x g') (h1:kh B.cells=true) (hn:(l.length+1) * el < 140737488355328)
  (hk:∀v' H',Gr r e H' v' (l++[x]) [H.next] (g++g')->H'.next=H.next+1->(∀c,c < H.next->c∉m->H'.get c=H.get c)->Fr m H H'->(∀c,H'.fz c=(c==H.next||H.fz c))->K v' H'):ew P X H (iS P t v (.slice (some ⟨b',0,none⟩) 1 1) H) K tg:=by
 have hs:=EE (c:=1) hB (r.len hE)
 rcases jC with ⟨rfl,rfl,rfl,rfl⟩ | ⟨b,cs,rfl,h2,rfl,h3,h4,h5,h6⟩
 ·rw [HL ha hs (by simpa using hn) (by decide),wK]
  refine hk _ _ (.inr ⟨H.next,B.cells,by simp,by simp,rfl,by rw [aV,if_pos rfl],by simp [r.len hE],?_,?_⟩) rfl (fun c hc _=>bX hc) ((ba.push H _).fr _) (fun c=>rfl)
  ·rw [List.nil_append,List.nil_append]
   exact dV.one (r.af hE fun c hc=>bX (fj c hc).1)
  ·intro h;rw [List.nil_append] at h;exact Nat.lt_irrefl _ (fj _ h).1
 ·have hb:=hm b (by simp)
  have De:∀c,c < H.next->c≠b->(H.grow b ⟨cs++B.cells,e,true,false⟩).get c=H.get c:=fun c hc i7=>by rw [ve,if_neg (by omega),if_neg i7]
  rw [Q8 ha hs h3 h4 (by simpa using hn) (by decide) h1,Kb (hX b (by simp))]
  refine hk _ _ (.inr ⟨H.next,cs++B.cells,by simp,by simp,rfl,by rw [ve,if_pos rfl],by rw [List.length_append,List.length_append,h4,r.len hE,Nat.add_mul];simp,?_,?_⟩) rfl (fun c hc yY=>De c hc fun h=>yY (by simp [h])) ⟨Nat.le_succ _,fun c hc yY=>De c hc fun h=>yY (by simp [h]),fun c C hC hr=>by
   rw [ve] at hC
   (repeat' split at hC)
   ·cases hC;cases hr
   ·cases hC
   ·exact hC⟩ (fun c=>rfl)
  ·refine (h5.af fun y hy=>De y (hg y hy) fun h=>h6 (by rw [<-h];exact hy)).join h4 (dV.one (r.af hE fun y hy=>De y (fj y hy).1 fun h=>(fj y hy).2 (by simp [h])))
  ·intro h
   rcases List.mem_append.1 h with h | h
   ·exact Nat.lt_irrefl _ (hg _ h)
   ·exact Nat.lt_irrefl _ (fj _ h).1
end Go.Proofs.YtinjmfblebpnnaaGreat.Ab
set_option maxRecDepth 100000
namespace Go.Proofs.YtinjmfblebpnnaaGreat.Ab
open Go
theorem mixed:Tryz.prog.follows .mixedOrders=true:=by kernel_rfl
@[go_sem] theorem awm:hJ Tryz.prog 3=some false:=by kernel_rfl
@[go_sem] theorem awn:du Tryz.prog 3=some 1:=by kernel_rfl
@[go_sem] theorem awo:hJ Tryz.prog 4=some false:=by kernel_rfl
@[go_sem] theorem awp:du Tryz.prog 4=some 1:=by kernel_rfl
@[go_sem] theorem awq:hJ Tryz.prog 9=some false:=by kernel_rfl
@[go_sem] theorem awr:du Tryz.prog 9=some 1:=by kernel_rfl
@[go_sem] theorem at1:hJ Tryz.prog 22=some false:=by kernel_rfl
@[go_sem] theorem at2:du Tryz.prog 22=some 1:=by kernel_rfl
@[go_sem] theorem at3:hJ Tryz.prog 23=some false:=by kernel_rfl
@[go_sem] theorem at4:du Tryz.prog 23=some 1:=by kernel_rfl
@[go_sem] theorem at5:hJ Tryz.prog 24=some false:=by kernel_rfl
@[go_sem] theorem at6:du Tryz.prog 24=some 1:=by kernel_rfl
@[go_sem] theorem at7:hJ Tryz.prog 25=some false:=by kernel_rfl
@[go_sem] theorem at8:du Tryz.prog 25=some 1:=by kernel_rfl
@[go_sem] theorem at9:hJ Tryz.prog 26=some false:=by kernel_rfl
@[go_sem] theorem aua:du Tryz.prog 26=some 1:=by kernel_rfl
@[go_sem] theorem aub:hJ Tryz.prog 28=some true:=by kernel_rfl
@[go_sem] theorem auc:du Tryz.prog 28=some 4:=by kernel_rfl
@[go_sem] theorem aud:hJ Tryz.prog 33=some false:=by kernel_rfl
@[go_sem] theorem aue:du Tryz.prog 33=some 1:=by kernel_rfl
@[go_sem] theorem auf:hJ Tryz.prog 35=some false:=by kernel_rfl
@[go_sem] theorem aug:du Tryz.prog 35=some 1:=by kernel_rfl
@[go_sem] theorem auh:hJ Tryz.prog 36=some false:=by kernel_rfl
@[go_sem] theorem aui:du Tryz.prog 36=some 1:=by kernel_rfl
@[go_sem] theorem auj:hJ Tryz.prog 38=some true:=by kernel_rfl
@[go_sem] theorem auk:du Tryz.prog 38=some 9:=by kernel_rfl
@[go_sem] theorem aul:hJ Tryz.prog 40=some false:=by kernel_rfl
@[go_sem] theorem aum:du Tryz.prog 40=some 1:=by kernel_rfl
@[go_sem] theorem aun:hJ Tryz.prog 42=some true:=by kernel_rfl
@[go_sem] theorem auo:du Tryz.prog 42=some 20:=by kernel_rfl
@[go_sem] theorem aup:hJ Tryz.prog 44=some true:=by kernel_rfl
@[go_sem] theorem auq:du Tryz.prog 44=some 3:=by kernel_rfl
@[go_sem] theorem aur:hJ Tryz.prog 48=some false:=by kernel_rfl
@[go_sem] theorem aus:du Tryz.prog 48=some 1:=by kernel_rfl
@[go_sem] theorem aut:hJ Tryz.prog 50=some false:=by kernel_rfl
@[go_sem] theorem auu:du Tryz.prog 50=some 1:=by kernel_rfl
@[go_sem] theorem auv:hJ Tryz.prog 52=some true:=by kernel_rfl
@[go_sem] theorem auw:du Tryz.prog 52=some 7:=by kernel_rfl
@[go_sem] theorem auy:hJ Tryz.prog 77=some false:=by kernel_rfl
@[go_sem] theorem auz:du Tryz.prog 77=some 1:=by kernel_rfl
@[go_sem] theorem auA:hJ Tryz.prog 82=some true:=by kernel_rfl
@[go_sem] theorem auB:du Tryz.prog 82=some 5:=by kernel_rfl
@[go_sem] theorem auC:hJ Tryz.prog 99=some true:=by kernel_rfl
@[go_sem] theorem auD:du Tryz.prog 99=some 5:=by kernel_rfl
@[go_sem] theorem arS:hJ Tryz.prog 101=some true:=by kernel_rfl
@[go_sem] theorem arT:du Tryz.prog 101=some 6:=by kernel_rfl
@[go_sem] theorem arU:hJ Tryz.prog 105=some false:=by kernel_rfl
@[go_sem] theorem arV:du Tryz.prog 105=some 1:=by kernel_rfl
@[go_sem] theorem arW:hJ Tryz.prog 107=some true:=by kernel_rfl
@[go_sem] theorem arX:du Tryz.prog 107=some 4:=by kernel_rfl
@[go_sem] theorem arY:hJ Tryz.prog 123=some false:=by kernel_rfl
@[go_sem] theorem arZ:du Tryz.prog 123=some 1:=by kernel_rfl
@[go_sem] theorem ar0:hJ Tryz.prog 134=some false:=by kernel_rfl
@[go_sem] theorem ar1:du Tryz.prog 134=some 1:=by kernel_rfl
@[go_sem] theorem ar2:hJ Tryz.prog 139=some true:=by kernel_rfl
@[go_sem] theorem ar3:du Tryz.prog 139=some 2:=by kernel_rfl
@[go_sem] theorem ar4:hJ Tryz.prog 164=some true:=by kernel_rfl
@[go_sem] theorem ar5:du Tryz.prog 164=some 4:=by kernel_rfl
@[go_sem] theorem ar6:hJ Tryz.prog 199=some true:=by kernel_rfl
@[go_sem] theorem ar7:du Tryz.prog 199=some 5:=by kernel_rfl
@[go_sem] theorem aqE:cJ Tryz.prog 28 0=some 0:=by kernel_rfl
@[go_sem] theorem aqF:cJ Tryz.prog 28 1=some 1:=by kernel_rfl
@[go_sem] theorem aqG:cJ Tryz.prog 28 2=some 2:=by kernel_rfl
@[go_sem] theorem aqH:cJ Tryz.prog 28 3=some 3:=by kernel_rfl
@[go_sem] theorem aqI:cJ Tryz.prog 38 0=some 0:=by kernel_rfl
@[go_sem] theorem aqJ:cJ Tryz.prog 38 1=some 1:=by kernel_rfl
@[go_sem] theorem aqK:cJ Tryz.prog 38 2=some 2:=by kernel_rfl
@[go_sem] theorem aqL:cJ Tryz.prog 38 3=some 3:=by kernel_rfl
@[go_sem] theorem aqM:cJ Tryz.prog 38 4=some 4:=by kernel_rfl
@[go_sem] theorem aqN:cJ Tryz.prog 38 5=some 5:=by kernel_rfl
@[go_sem] theorem aqO:cJ Tryz.prog 38 6=some 6:=by kernel_rfl
@[go_sem] theorem aqP:cJ Tryz.prog 38 7=some 7:=by kernel_rfl
@[go_sem] theorem aqQ:cJ Tryz.prog 38 8=some 8:=by kernel_rfl
@[go_sem] theorem aqR:cJ Tryz.prog 42 0=some 0:=by kernel_rfl
@[go_sem] theorem aqS:cJ Tryz.prog 42 1=some 1:=by kernel_rfl
@[go_sem] theorem aqT:cJ Tryz.prog 42 2=some 2:=by kernel_rfl
@[go_sem] theorem aqU:cJ Tryz.prog 42 3=some 3:=by kernel_rfl
@[go_sem] theorem aqV:cJ Tryz.prog 42 4=some 4:=by kernel_rfl
@[go_sem] theorem aqW:cJ Tryz.prog 42 5=some 5:=by kernel_rfl
@[go_sem] theorem aqX:cJ Tryz.prog 42 6=some 6:=by kernel_rfl
@[go_sem] theorem aqY:cJ Tryz.prog 42 7=some 7:=by kernel_rfl
@[go_sem] theorem aqZ:cJ Tryz.prog 42 8=some 8:=by kernel_rfl
@[go_sem] theorem aq0:cJ Tryz.prog 42 9=some 9:=by kernel_rfl
@[go_sem] theorem apr:cJ Tryz.prog 42 10=some 10:=by kernel_rfl
@[go_sem] theorem aps:cJ Tryz.prog 42 11=some 11:=by kernel_rfl
@[go_sem] theorem apt:cJ Tryz.prog 42 12=some 12:=by kernel_rfl
@[go_sem] theorem apu:cJ Tryz.prog 42 13=some 13:=by kernel_rfl
@[go_sem] theorem apv:cJ Tryz.prog 42 14=some 14:=by kernel_rfl
@[go_sem] theorem apw:cJ Tryz.prog 42 15=some 15:=by kernel_rfl
@[go_sem] theorem apx:cJ Tryz.prog 42 16=some 16:=by kernel_rfl
@[go_sem] theorem apy:cJ Tryz.prog 42 17=some 17:=by kernel_rfl
@[go_sem] theorem apz:cJ Tryz.prog 42 18=some 18:=by kernel_rfl
@[go_sem] theorem apA:cJ Tryz.prog 42 19=some 19:=by kernel_rfl
@[go_sem] theorem aq1:cJ Tryz.prog 44 0=some 0:=by kernel_rfl
@[go_sem] theorem aq2:cJ Tryz.prog 44 1=some 1:=by kernel_rfl
@[go_sem] theorem aq3:cJ Tryz.prog 44 2=some 2:=by kernel_rfl
@[go_sem] theorem aq4:cJ Tryz.prog 52 0=some 0:=by kernel_rfl
@[go_sem] theorem aq5:cJ Tryz.prog 52 1=some 1:=by kernel_rfl
@[go_sem] theorem aq6:cJ Tryz.prog 52 2=some 2:=by kernel_rfl
@[go_sem] theorem aq7:cJ Tryz.prog 52 3=some 3:=by kernel_rfl
@[go_sem] theorem aq8:cJ Tryz.prog 52 4=some 4:=by kernel_rfl
@[go_sem] theorem aq9:cJ Tryz.prog 52 5=some 5:=by kernel_rfl
@[go_sem] theorem ara:cJ Tryz.prog 52 6=some 6:=by kernel_rfl
@[go_sem] theorem arb:cJ Tryz.prog 82 0=some 0:=by kernel_rfl
@[go_sem] theorem arc:cJ Tryz.prog 82 1=some 1:=by kernel_rfl
@[go_sem] theorem ard:cJ Tryz.prog 82 2=some 2:=by kernel_rfl
@[go_sem] theorem arf:cJ Tryz.prog 82 3=some 3:=by kernel_rfl
@[go_sem] theorem arh:cJ Tryz.prog 82 4=some 4:=by kernel_rfl
@[go_sem] theorem ari:cJ Tryz.prog 86 0=some 0:=by kernel_rfl
@[go_sem] theorem arj:cJ Tryz.prog 86 1=some 4:=by kernel_rfl
@[go_sem] theorem ark:cJ Tryz.prog 86 2=some 5:=by kernel_rfl
@[go_sem] theorem arl:cJ Tryz.prog 99 0=some 0:=by kernel_rfl
@[go_sem] theorem arn:cJ Tryz.prog 99 1=some 1:=by kernel_rfl
@[go_sem] theorem aro:cJ Tryz.prog 99 2=some 2:=by kernel_rfl
@[go_sem] theorem arp:cJ Tryz.prog 99 3=some 3:=by kernel_rfl
@[go_sem] theorem arq:cJ Tryz.prog 99 4=some 4:=by kernel_rfl
@[go_sem] theorem apB:cJ Tryz.prog 101 0=some 0:=by kernel_rfl
@[go_sem] theorem apC:cJ Tryz.prog 101 1=some 1:=by kernel_rfl
@[go_sem] theorem apD:cJ Tryz.prog 107 0=some 0:=by kernel_rfl
@[go_sem] theorem apE:cJ Tryz.prog 107 1=some 1:=by kernel_rfl
@[go_sem] theorem apF:cJ Tryz.prog 107 2=some 2:=by kernel_rfl
@[go_sem] theorem apG:cJ Tryz.prog 107 3=some 3:=by kernel_rfl
@[go_sem] theorem apH:cJ Tryz.prog 125 0=some 0:=by kernel_rfl
@[go_sem] theorem apI:cJ Tryz.prog 125 1=some 1:=by kernel_rfl
@[go_sem] theorem apJ:cJ Tryz.prog 125 2=some 2:=by kernel_rfl
@[go_sem] theorem apL:cJ Tryz.prog 125 3=some 3:=by kernel_rfl
@[go_sem] theorem apM:cJ Tryz.prog 125 4=some 4:=by kernel_rfl
@[go_sem] theorem apN:cJ Tryz.prog 125 5=some 5:=by kernel_rfl
@[go_sem] theorem apO:cJ Tryz.prog 125 6=some 6:=by kernel_rfl
@[go_sem] theorem apP:cJ Tryz.prog 127 0=some 0:=by kernel_rfl
@[go_sem] theorem apQ:cJ Tryz.prog 127 1=some 1:=by kernel_rfl
@[go_sem] theorem apR:cJ Tryz.prog 131 0=some 0:=by kernel_rfl
@[go_sem] theorem apS:cJ Tryz.prog 131 1=some 4:=by kernel_rfl
@[go_sem] theorem apT:cJ Tryz.prog 131 2=some 8:=by kernel_rfl
@[go_sem] theorem apU:cJ Tryz.prog 136 0=some 0:=by kernel_rfl
@[go_sem] theorem apV:cJ Tryz.prog 136 1=some 4:=by kernel_rfl
@[go_sem] theorem apW:cJ Tryz.prog 136 2=some 5:=by kernel_rfl
@[go_sem] theorem apX:cJ Tryz.prog 136 3=some 6:=by kernel_rfl
@[go_sem] theorem apY:cJ Tryz.prog 136 4=some 7:=by kernel_rfl
@[go_sem] theorem apZ:cJ Tryz.prog 136 5=some 8:=by kernel_rfl
@[go_sem] theorem ap0:cJ Tryz.prog 136 6=some 9:=by kernel_rfl
@[go_sem] theorem ap1:cJ Tryz.prog 139 0=some 0:=by kernel_rfl
@[go_sem] theorem ap2:cJ Tryz.prog 139 1=some 1:=by kernel_rfl
@[go_sem] theorem ap3:cJ Tryz.prog 164 0=some 0:=by kernel_rfl
@[go_sem] theorem ap4:cJ Tryz.prog 164 1=some 1:=by kernel_rfl
@[go_sem] theorem ap5:cJ Tryz.prog 164 2=some 2:=by kernel_rfl
@[go_sem] theorem ap6:cJ Tryz.prog 164 3=some 3:=by kernel_rfl
@[go_sem] theorem ap7:cJ Tryz.prog 199 0=some 0:=by kernel_rfl
@[go_sem] theorem ap8:cJ Tryz.prog 199 1=some 1:=by kernel_rfl
@[go_sem] theorem ap9:cJ Tryz.prog 199 3=some 3:=by kernel_rfl
@[go_sem] theorem aqa:cJ Tryz.prog 199 4=some 4:=by kernel_rfl
@[go_sem] theorem ars:IL Tryz.prog 82 0=some (3,0):=by kernel_rfl
@[go_sem] theorem art:IL Tryz.prog 82 2=some (3,2):=by kernel_rfl
@[go_sem] theorem aru:IL Tryz.prog 82 3=some (3,3):=by kernel_rfl
@[go_sem] theorem arv:IL Tryz.prog 82 4=some (9,4):=by kernel_rfl
@[go_sem] theorem auE:iZ Tryz.prog 22=some (3,1):=by kernel_rfl
@[go_sem] theorem auF:iZ Tryz.prog 23=some (107,4):=by kernel_rfl
@[go_sem] theorem auG:iZ Tryz.prog 24=some (164,4):=by kernel_rfl
@[go_sem] theorem auH:iZ Tryz.prog 25=some (38,9):=by kernel_rfl
@[go_sem] theorem auI:iZ Tryz.prog 26=some (42,20):=by kernel_rfl
@[go_sem] theorem auJ:iZ Tryz.prog 33=some (101,6):=by kernel_rfl
@[go_sem] theorem auK:iZ Tryz.prog 35=some (199,5):=by kernel_rfl
@[go_sem] theorem auL:iZ Tryz.prog 36=some (52,7):=by kernel_rfl
@[go_sem] theorem auM:iZ Tryz.prog 40=some (44,3):=by kernel_rfl
@[go_sem] theorem On:iZ Tryz.prog 50=some (9,1):=by kernel_rfl
@[go_sem] theorem auN:iZ Tryz.prog 60=some (4,1):=by kernel_rfl
@[go_sem] theorem auO:iZ Tryz.prog 77=some (82,5):=by kernel_rfl
@[go_sem] theorem ar8:iZ Tryz.prog 105=some (99,5):=by kernel_rfl
@[go_sem] theorem ar9:iZ Tryz.prog 134=some (139,2):=by kernel_rfl
@[go_sem] theorem asa:iZ Tryz.prog 201=some (134,1):=by kernel_rfl
theorem rI:iM Tryz.prog 22=some (3,1,8):=by kernel_rfl
theorem Oo:iM Tryz.prog 23=some (107,4,56):=by kernel_rfl
theorem Oq:iM Tryz.prog 24=some (164,4,56):=by kernel_rfl
theorem ue:iM Tryz.prog 25=some (38,9,128):=by kernel_rfl
theorem KK:iM Tryz.prog 26=some (42,20,240):=by kernel_rfl
theorem Bo:iM Tryz.prog 33=some (101,6,80):=by kernel_rfl
theorem Sv:iM Tryz.prog 35=some (199,5,48):=by kernel_rfl
theorem sA:iM Tryz.prog 36=some (52,7,104):=by kernel_rfl
theorem qE:iM Tryz.prog 40=some (44,3,32):=by kernel_rfl
theorem vj:iM Tryz.prog 50=some (9,1,16):=by kernel_rfl
theorem aif:iM Tryz.prog 60=some (4,1,1):=by kernel_rfl
theorem Is:iM Tryz.prog 77=some (82,5,48):=by kernel_rfl
theorem RY:iM Tryz.prog 105=some (99,5,64):=by kernel_rfl
theorem Za:iM Tryz.prog 121=some (5,1,1):=by kernel_rfl
theorem zT:iM Tryz.prog 134=some (139,2,24):=by kernel_rfl
theorem afd:iM Tryz.prog 201=some (134,1,24):=by kernel_rfl
@[go_sem] theorem auP:xq Tryz.prog 28=some [(0,1),(1,1),(2,1),(3,1)]:=by kernel_rfl
@[go_sem] theorem auQ:xq Tryz.prog 42=some [(0,1),(1,1),(2,1),(3,1),(4,1),(5,1),(6,1),(7,1),(8,1),(9,1),(10,1),(11,1),(12,1),(13,1),(14,1),(15,1),(16,1),(17,1),(18,1),(19,1)]:=by kernel_rfl
@[go_sem] theorem auR:xq Tryz.prog 44=some [(0,1),(1,1),(2,1)]:=by kernel_rfl
@[go_sem] theorem auS:xq Tryz.prog 52=some [(0,1),(1,1),(2,1),(3,1),(4,1),(5,1),(6,1)]:=by kernel_rfl
@[go_sem] theorem auT:xq Tryz.prog 86=some [(0,4),(4,1),(5,1)]:=by kernel_rfl
@[go_sem] theorem auU:xq Tryz.prog 99=some [(0,1),(1,1),(2,1),(3,1),(4,1)]:=by kernel_rfl
@[go_sem] theorem asb:xq Tryz.prog 125=some [(0,1),(1,1),(2,1),(3,1),(4,1),(5,1),(6,1)]:=by kernel_rfl
@[go_sem] theorem asd:xq Tryz.prog 127=some [(0,1),(1,4)]:=by kernel_rfl
@[go_sem] theorem ase:xq Tryz.prog 199=some [(0,1),(1,1),(2,1),(3,1),(4,1)]:=by kernel_rfl
@[go_sem] theorem auV:gf Tryz.prog 28=some [.slice none 0 0,.slice none 0 0,.slice none 0 0,.slice none 0 0]:=by kernel_rfl
@[go_sem] theorem auW:gf Tryz.prog 38=some [.string ⟨#[]⟩,.slice none 0 0,.int .i64 0,.int .i64 0,.int .i64 0,.int .i64 0,.bool false,.slice none 0 0,.slice none 0 0]:=by kernel_rfl
@[go_sem] theorem auX:gf Tryz.prog 42=some [.int .i64 0,.int .i64 0,.int .i64 0,.int .i64 0,.int .i64 0,.int .i64 0,.int .i64 0,.int .i64 0,.int .i64 0,.int .i64 0,.int .i64 0,.int .i64 0,.int .i64 0,.string ⟨#[]⟩,.string ⟨#[]⟩,.string ⟨#[]⟩,.string ⟨#[]⟩,.slice none 0 0,.slice none 0 0,.slice none 0 0]:=by kernel_rfl
@[go_sem] theorem auY:gf Tryz.prog 44=some [.int .i64 0,.int .i64 0,.string ⟨#[]⟩]:=by kernel_rfl
@[go_sem] theorem auZ:gf Tryz.prog 52=some [.int .i64 0,.int .i64 0,.int .i64 0,.string ⟨#[]⟩,.string ⟨#[]⟩,.slice none 0 0,.slice none 0 0]:=by kernel_rfl
@[go_sem] theorem au0:gf Tryz.prog 82=some [.int .i64 0,.int .i64 0,.int .i64 0,.int .i64 0,.string ⟨#[]⟩]:=by kernel_rfl
@[go_sem] theorem au1:gf Tryz.prog 86=some [.slice none 0 0,.slice none 0 0,.slice none 0 0,.slice none 0 0,.map none,.bool false]:=by kernel_rfl
@[go_sem] theorem au2:gf Tryz.prog 99=some [.int .i64 0,.int .i64 0,.int .i64 0,.string ⟨#[]⟩,.slice none 0 0]:=by kernel_rfl
@[go_sem] theorem asf:gf Tryz.prog 101=some [.string ⟨#[]⟩,.int .i64 0,.int .i64 0,.int .i64 0,.string ⟨#[]⟩,.slice none 0 0]:=by kernel_rfl
@[go_sem] theorem asg:gf Tryz.prog 107=some [.string ⟨#[]⟩,.slice none 0 0,.int .i64 0,.int .i64 0]:=by kernel_rfl
@[go_sem] theorem ash:gf Tryz.prog 125=some [.slice none 0 0,.int .i64 0,.slice none 0 0,.bool false,.int .i64 0,.int .i64 0,.slice none 0 0]:=by kernel_rfl
@[go_sem] theorem asi:gf Tryz.prog 127=some [.pointer none,.slice none 0 0,.slice none 0 0,.slice none 0 0,.slice none 0 0]:=by kernel_rfl
@[go_sem] theorem asj:gf Tryz.prog 139=some [.string ⟨#[]⟩,.int .i64 0]:=by kernel_rfl
@[go_sem] theorem asl:gf Tryz.prog 164=some [.string ⟨#[]⟩,.slice none 0 0,.int .i64 0,.int .i64 0]:=by kernel_rfl
@[go_sem] theorem asm:gf Tryz.prog 199=some [.int .i64 0,.int .i64 0,.int .i64 0,.int .i64 0,.string ⟨#[]⟩]:=by kernel_rfl
@[go_sem] theorem au3:Tryz.prog.underlying 22=some (Go.TypeDesc.slice 3):=by kernel_rfl
@[go_sem] theorem au4:Tryz.prog.underlying 23=some (Go.TypeDesc.slice 107):=by kernel_rfl
@[go_sem] theorem au5:Tryz.prog.underlying 24=some (Go.TypeDesc.slice 164):=by kernel_rfl
@[go_sem] theorem au6:Tryz.prog.underlying 25=some (Go.TypeDesc.slice 38):=by kernel_rfl
@[go_sem] theorem au7:Tryz.prog.underlying 26=some (Go.TypeDesc.slice 42):=by kernel_rfl
@[go_sem] theorem au8:Tryz.prog.underlying 33=some (Go.TypeDesc.slice 101):=by kernel_rfl
@[go_sem] theorem au9:Tryz.prog.underlying 35=some (Go.TypeDesc.slice 199):=by kernel_rfl
@[go_sem] theorem ava:Tryz.prog.underlying 36=some (Go.TypeDesc.slice 52):=by kernel_rfl
@[go_sem] theorem avb:Tryz.prog.underlying 40=some (Go.TypeDesc.slice 44):=by kernel_rfl
@[go_sem] theorem avc:Tryz.prog.underlying 50=some (Go.TypeDesc.slice 9):=by kernel_rfl
@[go_sem] theorem avd:Tryz.prog.underlying 77=some (Go.TypeDesc.slice 82):=by kernel_rfl
@[go_sem] theorem asn:Tryz.prog.underlying 105=some (Go.TypeDesc.slice 99):=by kernel_rfl
@[go_sem] theorem aso:Tryz.prog.underlying 134=some (Go.TypeDesc.slice 139):=by kernel_rfl
@[go_sem] theorem ave:Ae Tryz.prog 48:=aej (by kernel_rfl)
abbrev bU (n:FuncId) (c a:List Value):Prop:=x9 Tryz.prog (.func (.func n) #[] (List.toArray c)) (List.toArray a)=.call n (List.toArray (a++c))
section
variable {l c a:List Value} {H:ad} {K:Value->ad->Prop}
theorem akT:bI Tryz.prog [] 7=true:=by kernel_rfl
theorem aih:bI Tryz.prog [] 11=true:=by kernel_rfl
@[go_sem] theorem avf:bU 11 c a:=bS Tryz.func11 (by kernel_rfl) (by kernel_rfl)
theorem aii:bI Tryz.prog [] 16=true:=by kernel_rfl
@[go_sem] theorem avg:bU 16 c a:=bS Tryz.func16 (by kernel_rfl) (by kernel_rfl)
theorem aij (hl:l.length<=2) (h:bV H->wC Tryz.prog H.fz [] (Tryz.f16.body.getD .skip) (b7 l) H (cj Tryz.prog [.tmp 4] K)):ak Tryz.prog 16 l.toArray H K:=cF [] mixed Tryz.func16 aii hl (by decide) rfl h
theorem aik:bI Tryz.prog [] 20=true:=by kernel_rfl
@[go_sem] theorem avh:bU 20 c a:=bS Tryz.func20 (by kernel_rfl) (by kernel_rfl)
theorem ail:bI Tryz.prog [(1,[(0,2)])] 22=true:=by kernel_rfl
@[go_sem] theorem avi:bU 22 c a:=bS Tryz.func22 (by kernel_rfl) (by kernel_rfl)
theorem aim:bI Tryz.prog [] 24=true:=by kernel_rfl
@[go_sem] theorem avj:bU 24 c a:=bS Tryz.func24 (by kernel_rfl) (by kernel_rfl)
theorem ain:bI Tryz.prog [] 25=true:=by kernel_rfl
@[go_sem] theorem avk:bU 25 c a:=bS Tryz.func25 (by kernel_rfl) (by kernel_rfl)
theorem aio:bI Tryz.prog [] 26=true:=by kernel_rfl
@[go_sem] theorem avl:bU 26 c a:=bS Tryz.func26 (by kernel_rfl) (by kernel_rfl)
theorem aip:bI Tryz.prog [] 27=true:=by kernel_rfl
@[go_sem] theorem avm:bU 27 c a:=bS Tryz.func27 (by kernel_rfl) (by kernel_rfl)
theorem aiq (hl:l.length<=1) (h:bV H->wC Tryz.prog H.fz [] (Tryz.f27.body.getD .skip) (b7 l) H (cj Tryz.prog [.tmp 2] K)):ak Tryz.prog 27 l.toArray H K:=cF [] mixed Tryz.func27 aip hl (by decide) rfl h
theorem air:bI Tryz.prog [] 36=true:=by kernel_rfl
@[go_sem] theorem avn:bU 36 c a:=bS Tryz.func36 (by kernel_rfl) (by kernel_rfl)
theorem ais (hl:l.length<=1) (h:bV H->wC Tryz.prog H.fz [] (Tryz.f36.body.getD .skip) (b7 l) H (cj Tryz.prog [.cell 2 28,.tmp 3,.tmp 4,.tmp 5] K)):ak Tryz.prog 36 l.toArray H K:=cF [] mixed Tryz.func36 air hl (by decide) rfl h
theorem ait:bI Tryz.prog [] 40=true:=by kernel_rfl
@[go_sem] theorem avo:bU 40 c a:=bS Tryz.func40 (by kernel_rfl) (by kernel_rfl)
theorem aiu (hl:l.length<=1) (h:bV H->wC Tryz.prog H.fz [] (Tryz.f40.body.getD .skip) (b7 l) H (cj Tryz.prog [.tmp 2,.tmp 3,.tmp 4,.tmp 5] K)):ak Tryz.prog 40 l.toArray H K:=cF [] mixed Tryz.func40 ait hl (by decide) rfl h
theorem aiv:bI Tryz.prog [] 43=true:=by kernel_rfl
@[go_sem] theorem avp:bU 43 c a:=bS Tryz.func43 (by kernel_rfl) (by kernel_rfl)
theorem aiw:bI Tryz.prog [] 44=true:=by kernel_rfl
@[go_sem] theorem avq:bU 44 c a:=bS Tryz.func44 (by kernel_rfl) (by kernel_rfl)
theorem aix (hl:l.length<=1) (h:bV H->wC Tryz.prog H.fz [] (Tryz.f44.body.getD .skip) (b7 l) H (cj Tryz.prog [.tmp 2] K)):ak Tryz.prog 44 l.toArray H K:=cF [] mixed Tryz.func44 aiw hl (by decide) rfl h
theorem aiy:bI Tryz.prog [] 46=true:=by kernel_rfl
@[go_sem] theorem avr:bU 46 c a:=bS Tryz.func46 (by kernel_rfl) (by kernel_rfl)
theorem aiz:bI Tryz.prog [] 48=true:=by kernel_rfl
@[go_sem] theorem avs:bU 48 c a:=bS Tryz.func48 (by kernel_rfl) (by kernel_rfl)
theorem aiA (hl:l.length<=1) (h:bV H->wC Tryz.prog H.fz [] (Tryz.f48.body.getD .skip) (b7 l) H (cj Tryz.prog [.tmp 2] K)):ak Tryz.prog 48 l.toArray H K:=cF [] mixed Tryz.func48 aiz hl (by decide) rfl h
theorem aiB:bI Tryz.prog [] 49=true:=by kernel_rfl
@[go_sem] theorem avt:bU 49 c a:=bS Tryz.func49 (by kernel_rfl) (by kernel_rfl)
theorem ZD (hl:l.length<=1) (h:bV H->wC Tryz.prog H.fz [] (Tryz.f49.body.getD .skip) (b7 l) H (cj Tryz.prog [] K)):ak Tryz.prog 49 l.toArray H K:=cF [] mixed Tryz.func49 aiB hl (by decide) rfl h
theorem aiC:bI Tryz.prog [] 50=true:=by kernel_rfl
@[go_sem] theorem avu:bU 50 c a:=bS Tryz.func50 (by kernel_rfl) (by kernel_rfl)
theorem ZE (hl:l.length<=1) (h:bV H->wC Tryz.prog H.fz [] (Tryz.f50.body.getD .skip) (b7 l) H (cj Tryz.prog [.tmp 2] K)):ak Tryz.prog 50 l.toArray H K:=cF [] mixed Tryz.func50 aiC hl (by decide) rfl h
theorem aiD:bI Tryz.prog [] 51=true:=by kernel_rfl
@[go_sem] theorem avv:bU 51 c a:=bS Tryz.func51 (by kernel_rfl) (by kernel_rfl)
theorem aiE (hl:l.length<=2) (h:bV H->wC Tryz.prog H.fz [] (Tryz.f51.body.getD .skip) (b7 l) H (cj Tryz.prog [.tmp 4] K)):ak Tryz.prog 51 l.toArray H K:=cF [] mixed Tryz.func51 aiD hl (by decide) rfl h
theorem aiF:bI Tryz.prog [] 52=true:=by kernel_rfl
@[go_sem] theorem avw:bU 52 c a:=bS Tryz.func52 (by kernel_rfl) (by kernel_rfl)
theorem aiG (hl:l.length<=1) (h:bV H->wC Tryz.prog H.fz [] (Tryz.f52.body.getD .skip) (b7 l) H (cj Tryz.prog [.tmp 2] K)):ak Tryz.prog 52 l.toArray H K:=cF [] mixed Tryz.func52 aiF hl (by decide) rfl h
theorem aiH:bI Tryz.prog [] 53=true:=by kernel_rfl
@[go_sem] theorem avx:bU 53 c a:=bS Tryz.func53 (by kernel_rfl) (by kernel_rfl)
theorem aiI (hl:l.length<=1) (h:bV H->wC Tryz.prog H.fz [] (Tryz.f53.body.getD .skip) (b7 l) H (cj Tryz.prog [.tmp 2] K)):ak Tryz.prog 53 l.toArray H K:=cF [] mixed Tryz.func53 aiH hl (by decide) rfl h
theorem aiJ:bI Tryz.prog [] 55=true:=by kernel_rfl
@[go_sem] theorem avy:bU 55 c a:=bS Tryz.func55 (by kernel_rfl) (by kernel_rfl)
theorem aiK (hl:l.length<=2) (h:bV H->wC Tryz.prog H.fz [] (Tryz.f55.body.getD .skip) (b7 l) H (cj Tryz.prog [.tmp 4] K)):ak Tryz.prog 55 l.toArray H K:=cF [] mixed Tryz.func55 aiJ hl (by decide) rfl h
theorem aiL:bI Tryz.prog [(8,[(2,10),(5,10),(2,13),(5,13),(10,14),(13,14)])] 59=true:=by kernel_rfl
@[go_sem] theorem avz:bU 59 c a:=bS Tryz.func59 (by kernel_rfl) (by kernel_rfl)
theorem aiM:bI Tryz.prog [(4,[(5,8)]),(5,[(2,5),(4,5)]),(8,[(5,9)]),(13,[(5,8)]),(23,[(2,5),(4,5)]),(29,[(2,5),(4,5)])] 60=true:=by kernel_rfl
@[go_sem] theorem avA:bU 60 c a:=bS Tryz.func60 (by kernel_rfl) (by kernel_rfl)
theorem aiN:bI Tryz.prog [(19,[(4,13),(8,13),(12,13)])] 61=true:=by kernel_rfl
@[go_sem] theorem avB:bU 61 c a:=bS Tryz.func61 (by kernel_rfl) (by kernel_rfl)
theorem aiO:bI Tryz.prog [] 68=true:=by kernel_rfl
@[go_sem] theorem avC:bU 68 c a:=bS Tryz.func68 (by kernel_rfl) (by kernel_rfl)
theorem aiP (hl:l.length<=2) (h:bV H->wC Tryz.prog H.fz [] (Tryz.f68.body.getD .skip) (b7 l) H (cj Tryz.prog [.tmp 4,.tmp 5] K)):ak Tryz.prog 68 l.toArray H K:=cF [] mixed Tryz.func68 aiO hl (by decide) rfl h
theorem aiQ:bI Tryz.prog [] 69=true:=by kernel_rfl
@[go_sem] theorem avD:bU 69 c a:=bS Tryz.func69 (by kernel_rfl) (by kernel_rfl)
theorem aiR (hl:l.length<=1) (h:bV H->wC Tryz.prog H.fz [] (Tryz.f69.body.getD .skip) (b7 l) H (cj Tryz.prog [.tmp 2] K)):ak Tryz.prog 69 l.toArray H K:=cF [] mixed Tryz.func69 aiQ hl (by decide) rfl h
theorem aiS:bI Tryz.prog [] 70=true:=by kernel_rfl
@[go_sem] theorem avE:bU 70 c a:=bS Tryz.func70 (by kernel_rfl) (by kernel_rfl)
theorem aiT (hl:l.length<=1) (h:bV H->wC Tryz.prog H.fz [] (Tryz.f70.body.getD .skip) (b7 l) H (cj Tryz.prog [.tmp 2] K)):ak Tryz.prog 70 l.toArray H K:=cF [] mixed Tryz.func70 aiS hl (by decide) rfl h
theorem aiU:bI Tryz.prog [(4,[(6,7),(1,8),(3,8),(5,8)])] 71=true:=by kernel_rfl
@[go_sem] theorem avF:bU 71 c a:=bS Tryz.func71 (by kernel_rfl) (by kernel_rfl)
theorem aiV:bI Tryz.prog [] 73=true:=by kernel_rfl
@[go_sem] theorem avG:bU 73 c a:=bS Tryz.func73 (by kernel_rfl) (by kernel_rfl)
theorem aiW (hl:l.length<=2) (h:bV H->wC Tryz.prog H.fz [] (Tryz.f73.body.getD .skip) (b7 l) H (cj Tryz.prog [.tmp 4] K)):ak Tryz.prog 73 l.toArray H K:=cF [] mixed Tryz.func73 aiV hl (by decide) rfl h
theorem aiX:bI Tryz.prog [] 74=true:=by kernel_rfl
@[go_sem] theorem avH:bU 74 c a:=bS Tryz.func74 (by kernel_rfl) (by kernel_rfl)
theorem ZF (hl:l.length<=4) (h:bV H->wC Tryz.prog H.fz [] (Tryz.f74.body.getD .skip) (b7 l) H (cj Tryz.prog [] K)):ak Tryz.prog 74 l.toArray H K:=cF [] mixed Tryz.func74 aiX hl (by decide) rfl h
theorem aiY:bI Tryz.prog [] 75=true:=by kernel_rfl
@[go_sem] theorem avI:bU 75 c a:=bS Tryz.func75 (by kernel_rfl) (by kernel_rfl)
theorem aiZ (hl:l.length<=1) (h:bV H->wC Tryz.prog H.fz [] (Tryz.f75.body.getD .skip) (b7 l) H (cj Tryz.prog [.tmp 2] K)):ak Tryz.prog 75 l.toArray H K:=cF [] mixed Tryz.func75 aiY hl (by decide) rfl h
theorem ai0:bI Tryz.prog [] 76=true:=by kernel_rfl
@[go_sem] theorem avJ:bU 76 c a:=bS Tryz.func76 (by kernel_rfl) (by kernel_rfl)
theorem ai1 (hl:l.length<=1) (h:bV H->wC Tryz.prog H.fz [] (Tryz.f76.body.getD .skip) (b7 l) H (cj Tryz.prog [.tmp 2] K)):ak Tryz.prog 76 l.toArray H K:=cF [] mixed Tryz.func76 ai0 hl (by decide) rfl h
theorem ai2:bI Tryz.prog [] 77=true:=by kernel_rfl
@[go_sem] theorem avK:bU 77 c a:=bS Tryz.func77 (by kernel_rfl) (by kernel_rfl)
theorem ai3 (hl:l.length<=1) (h:bV H->wC Tryz.prog H.fz [] (Tryz.f77.body.getD .skip) (b7 l) H (cj Tryz.prog [.cell 2 82] K)):ak Tryz.prog 77 l.toArray H K:=cF [] mixed Tryz.func77 ai2 hl (by decide) rfl h
theorem ai4:bI Tryz.prog [(6,[(1,5),(3,5)]),(14,[(1,5),(3,5)])] 78=true:=by kernel_rfl
@[go_sem] theorem avL:bU 78 c a:=bS Tryz.func78 (by kernel_rfl) (by kernel_rfl)
theorem ai5 (hl:l.length<=1) (h:bV H->wC Tryz.prog H.fz [(6,[(1,5),(3,5)]),(14,[(1,5),(3,5)])] (Tryz.f78.body.getD .skip) (b7 l) H (cj Tryz.prog [] K)):ak Tryz.prog 78 l.toArray H K:=cF [(6,[(1,5),(3,5)]),(14,[(1,5),(3,5)])] mixed Tryz.func78 ai4 hl (by decide) rfl h
theorem ai6:bI Tryz.prog [(14,[(4,11),(6,11)])] 79=true:=by kernel_rfl
@[go_sem] theorem avM:bU 79 c a:=bS Tryz.func79 (by kernel_rfl) (by kernel_rfl)
theorem ai7 (hl:l.length<=2) (h:bV H->wC Tryz.prog H.fz [(14,[(4,11),(6,11)])] (Tryz.f79.body.getD .skip) (b7 l) H (cj Tryz.prog [.cell 4 38] K)):ak Tryz.prog 79 l.toArray H K:=cF [(14,[(4,11),(6,11)])] mixed Tryz.func79 ai6 hl (by decide) rfl h
theorem ai8:bI Tryz.prog [] 80=true:=by kernel_rfl
@[go_sem] theorem avN:bU 80 c a:=bS Tryz.func80 (by kernel_rfl) (by kernel_rfl)
theorem ai9 (hl:l.length<=2) (h:bV H->wC Tryz.prog H.fz [] (Tryz.f80.body.getD .skip) (b7 l) H (cj Tryz.prog [.tmp 4] K)):ak Tryz.prog 80 l.toArray H K:=cF [] mixed Tryz.func80 ai8 hl (by decide) rfl h
theorem aja:bI Tryz.prog [(1,[(3,6),(3,10),(7,10)]),(12,[(1,9)])] 81=true:=by kernel_rfl
@[go_sem] theorem avO:bU 81 c a:=bS Tryz.func81 (by kernel_rfl) (by kernel_rfl)
theorem ajb:bI Tryz.prog [] 82=true:=by kernel_rfl
@[go_sem] theorem avP:bU 82 c a:=bS Tryz.func82 (by kernel_rfl) (by kernel_rfl)
theorem ajc (hl:l.length<=4) (h:bV H->wC Tryz.prog H.fz [] (Tryz.f82.body.getD .skip) (b7 l) H (cj Tryz.prog [] K)):ak Tryz.prog 82 l.toArray H K:=cF [] mixed Tryz.func82 ajb hl (by decide) rfl h
theorem ajd:bI Tryz.prog [] 83=true:=by kernel_rfl
@[go_sem] theorem avQ:bU 83 c a:=bS Tryz.func83 (by kernel_rfl) (by kernel_rfl)
theorem aje (hl:l.length<=2) (h:bV H->wC Tryz.prog H.fz [] (Tryz.f83.body.getD .skip) (b7 l) H (cj Tryz.prog [] K)):ak Tryz.prog 83 l.toArray H K:=cF [] mixed Tryz.func83 ajd hl (by decide) rfl h
theorem ajf:bI Tryz.prog [] 86=true:=by kernel_rfl
@[go_sem] theorem avR:bU 86 c a:=bS Tryz.func86 (by kernel_rfl) (by kernel_rfl)
theorem ajg (hl:l.length<=1) (h:bV H->wC Tryz.prog H.fz [] (Tryz.f86.body.getD .skip) (b7 l) H (cj Tryz.prog [.tmp 2] K)):ak Tryz.prog 86 l.toArray H K:=cF [] mixed Tryz.func86 ajf hl (by decide) rfl h
theorem ajh:bI Tryz.prog [] 87=true:=by kernel_rfl
@[go_sem] theorem avS:bU 87 c a:=bS Tryz.func87 (by kernel_rfl) (by kernel_rfl)
theorem aji (hl:l.length<=1) (h:bV H->wC Tryz.prog H.fz [] (Tryz.f87.body.getD .skip) (b7 l) H (cj Tryz.prog [.tmp 2] K)):ak Tryz.prog 87 l.toArray H K:=cF [] mixed Tryz.func87 ajh hl (by decide) rfl h
theorem ajj:bI Tryz.prog [] 88=true:=by kernel_rfl
@[go_sem] theorem avT:bU 88 c a:=bS Tryz.func88 (by kernel_rfl) (by kernel_rfl)
theorem ajk (hl:l.length<=1) (h:bV H->wC Tryz.prog H.fz [] (Tryz.f88.body.getD .skip) (b7 l) H (cj Tryz.prog [.tmp 2] K)):ak Tryz.prog 88 l.toArray H K:=cF [] mixed Tryz.func88 ajj hl (by decide) rfl h
theorem ajl:bI Tryz.prog [] 89=true:=by kernel_rfl
@[go_sem] theorem avU:bU 89 c a:=bS Tryz.func89 (by kernel_rfl) (by kernel_rfl)
theorem ajm (hl:l.length<=0) (h:bV H->wC Tryz.prog H.fz [] (Tryz.f89.body.getD .skip) (b7 l) H (cj Tryz.prog [.tmp 0] K)):ak Tryz.prog 89 l.toArray H K:=cF [] mixed Tryz.func89 ajl hl (by decide) rfl h
theorem ajn:bI Tryz.prog [] 90=true:=by kernel_rfl
@[go_sem] theorem avV:bU 90 c a:=bS Tryz.func90 (by kernel_rfl) (by kernel_rfl)
theorem ajo (hl:l.length<=2) (h:bV H->wC Tryz.prog H.fz [] (Tryz.f90.body.getD .skip) (b7 l) H (cj Tryz.prog [.tmp 4] K)):ak Tryz.prog 90 l.toArray H K:=cF [] mixed Tryz.func90 ajn hl (by decide) rfl h
theorem ajp:bI Tryz.prog [] 91=true:=by kernel_rfl
@[go_sem] theorem avW:bU 91 c a:=bS Tryz.func91 (by kernel_rfl) (by kernel_rfl)
theorem ajq:bI Tryz.prog [] 92=true:=by kernel_rfl
@[go_sem] theorem avX:bU 92 c a:=bS Tryz.func92 (by kernel_rfl) (by kernel_rfl)
theorem ajr (hl:l.length<=2) (h:bV H->wC Tryz.prog H.fz [] (Tryz.f92.body.getD .skip) (b7 l) H (cj Tryz.prog [.tmp 3] K)):ak Tryz.prog 92 l.toArray H K:=cF [] mixed Tryz.func92 ajq hl (by decide) rfl h
theorem ajs:bI Tryz.prog [] 93=true:=by kernel_rfl
@[go_sem] theorem avY:bU 93 c a:=bS Tryz.func93 (by kernel_rfl) (by kernel_rfl)
theorem ajt (hl:l.length<=3) (h:bV H->wC Tryz.prog H.fz [] (Tryz.f93.body.getD .skip) (b7 l) H (cj Tryz.prog [.tmp 6] K)):ak Tryz.prog 93 l.toArray H K:=cF [] mixed Tryz.func93 ajs hl (by decide) rfl h
theorem aju:bI Tryz.prog [(5,[(2,6)]),(10,[(3,6)])] 94=true:=by kernel_rfl
@[go_sem] theorem avZ:bU 94 c a:=bS Tryz.func94 (by kernel_rfl) (by kernel_rfl)
theorem ajv:bI Tryz.prog [] 97=true:=by kernel_rfl
@[go_sem] theorem av0:bU 97 c a:=bS Tryz.func97 (by kernel_rfl) (by kernel_rfl)
theorem ajw (hl:l.length<=2) (h:bV H->wC Tryz.prog H.fz [] (Tryz.f97.body.getD .skip) (b7 l) H (cj Tryz.prog [.tmp 4,.tmp 5] K)):ak Tryz.prog 97 l.toArray H K:=cF [] mixed Tryz.func97 ajv hl (by decide) rfl h
theorem ajx:bI Tryz.prog [] 98=true:=by kernel_rfl
@[go_sem] theorem av1:bU 98 c a:=bS Tryz.func98 (by kernel_rfl) (by kernel_rfl)
theorem ZG (hl:l.length<=3) (h:bV H->wC Tryz.prog H.fz [] (Tryz.f98.body.getD .skip) (b7 l) H (cj Tryz.prog [] K)):ak Tryz.prog 98 l.toArray H K:=cF [] mixed Tryz.func98 ajx hl (by decide) rfl h
theorem afe:bI Tryz.prog [] 104=true:=by kernel_rfl
@[go_sem] theorem asp:bU 104 c a:=bS Tryz.func104 (by kernel_rfl) (by kernel_rfl)
theorem aff (hl:l.length<=2) (h:bV H->wC Tryz.prog H.fz [] (Tryz.f104.body.getD .skip) (b7 l) H (cj Tryz.prog [.tmp 4] K)):ak Tryz.prog 104 l.toArray H K:=cF [] mixed Tryz.func104 afe hl (by decide) rfl h
theorem afg:bI Tryz.prog [] 108=true:=by kernel_rfl
@[go_sem] theorem asq:bU 108 c a:=bS Tryz.func108 (by kernel_rfl) (by kernel_rfl)
theorem afh (hl:l.length<=1) (h:bV H->wC Tryz.prog H.fz [] (Tryz.f108.body.getD .skip) (b7 l) H (cj Tryz.prog [.tmp 2] K)):ak Tryz.prog 108 l.toArray H K:=cF [] mixed Tryz.func108 afg hl (by decide) rfl h
theorem afi:bI Tryz.prog [] 109=true:=by kernel_rfl
@[go_sem] theorem asr:bU 109 c a:=bS Tryz.func109 (by kernel_rfl) (by kernel_rfl)
theorem afj (hl:l.length<=2) (h:bV H->wC Tryz.prog H.fz [] (Tryz.f109.body.getD .skip) (b7 l) H (cj Tryz.prog [.tmp 4] K)):ak Tryz.prog 109 l.toArray H K:=cF [] mixed Tryz.func109 afi hl (by decide) rfl h
theorem afk:bI Tryz.prog [] 110=true:=by kernel_rfl
@[go_sem] theorem ass:bU 110 c a:=bS Tryz.func110 (by kernel_rfl) (by kernel_rfl)
theorem afl (hl:l.length<=2) (h:bV H->wC Tryz.prog H.fz [] (Tryz.f110.body.getD .skip) (b7 l) H (cj Tryz.prog [] K)):ak Tryz.prog 110 l.toArray H K:=cF [] mixed Tryz.func110 afk hl (by decide) rfl h
theorem afm:bI Tryz.prog [] 111=true:=by kernel_rfl
@[go_sem] theorem ast:bU 111 c a:=bS Tryz.func111 (by kernel_rfl) (by kernel_rfl)
theorem afn (hl:l.length<=1) (h:bV H->wC Tryz.prog H.fz [] (Tryz.f111.body.getD .skip) (b7 l) H (cj Tryz.prog [.tmp 2] K)):ak Tryz.prog 111 l.toArray H K:=cF [] mixed Tryz.func111 afm hl (by decide) rfl h
theorem afo:bI Tryz.prog [] 112=true:=by kernel_rfl
@[go_sem] theorem asu:bU 112 c a:=bS Tryz.func112 (by kernel_rfl) (by kernel_rfl)
theorem afp (hl:l.length<=1) (h:bV H->wC Tryz.prog H.fz [] (Tryz.f112.body.getD .skip) (b7 l) H (cj Tryz.prog [.tmp 2] K)):ak Tryz.prog 112 l.toArray H K:=cF [] mixed Tryz.func112 afo hl (by decide) rfl h
theorem afq:bI Tryz.prog [] 113=true:=by kernel_rfl
@[go_sem] theorem asv:bU 113 c a:=bS Tryz.func113 (by kernel_rfl) (by kernel_rfl)
theorem afr (hl:l.length<=2) (h:bV H->wC Tryz.prog H.fz [] (Tryz.f113.body.getD .skip) (b7 l) H (cj Tryz.prog [] K)):ak Tryz.prog 113 l.toArray H K:=cF [] mixed Tryz.func113 afq hl (by decide) rfl h
theorem afs:bI Tryz.prog [] 114=true:=by kernel_rfl
@[go_sem] theorem asw:bU 114 c a:=bS Tryz.func114 (by kernel_rfl) (by kernel_rfl)
theorem afu (hl:l.length<=1) (h:bV H->wC Tryz.prog H.fz [] (Tryz.f114.body.getD .skip) (b7 l) H (cj Tryz.prog [.tmp 2] K)):ak Tryz.prog 114 l.toArray H K:=cF [] mixed Tryz.func114 afs hl (by decide) rfl h
theorem afv:bI Tryz.prog [(1,[(1,5),(3,5)])] 115=true:=by kernel_rfl
@[go_sem] theorem asx:bU 115 c a:=bS Tryz.func115 (by kernel_rfl) (by kernel_rfl)
theorem afw (hl:l.length<=1) (h:bV H->wC Tryz.prog H.fz [(1,[(1,5),(3,5)])] (Tryz.f115.body.getD .skip) (b7 l) H (cj Tryz.prog [] K)):ak Tryz.prog 115 l.toArray H K:=cF [(1,[(1,5),(3,5)])] mixed Tryz.func115 afv hl (by decide) rfl h
theorem afx:bI Tryz.prog [] 116=true:=by kernel_rfl
@[go_sem] theorem asy:bU 116 c a:=bS Tryz.func116 (by kernel_rfl) (by kernel_rfl)
theorem afy (hl:l.length<=4) (h:bV H->wC Tryz.prog H.fz [] (Tryz.f116.body.getD .skip) (b7 l) H (cj Tryz.prog [.tmp 8] K)):ak Tryz.prog 116 l.toArray H K:=cF [] mixed Tryz.func116 afx hl (by decide) rfl h
theorem afz:bI Tryz.prog [(4,[(2,5),(3,5)]),(9,[(0,3),(1,3)])] 117=true:=by kernel_rfl
@[go_sem] theorem asz:bU 117 c a:=bS Tryz.func117 (by kernel_rfl) (by kernel_rfl)
theorem afA (hl:l.length<=2) (h:bV H->wC Tryz.prog H.fz [(4,[(2,5),(3,5)]),(9,[(0,3),(1,3)])] (Tryz.f117.body.getD .skip) (b7 l) H (cj Tryz.prog [.tmp 4,.tmp 5] K)):ak Tryz.prog 117 l.toArray H K:=cF [(4,[(2,5),(3,5)]),(9,[(0,3),(1,3)])] mixed Tryz.func117 afz hl (by decide) rfl h
theorem afB:bI Tryz.prog [] 118=true:=by kernel_rfl
@[go_sem] theorem asA:bU 118 c a:=bS Tryz.func118 (by kernel_rfl) (by kernel_rfl)
theorem afC (hl:l.length<=1) (h:bV H->wC Tryz.prog H.fz [] (Tryz.f118.body.getD .skip) (b7 l) H (cj Tryz.prog [.tmp 2] K)):ak Tryz.prog 118 l.toArray H K:=cF [] mixed Tryz.func118 afB hl (by decide) rfl h
theorem afD:bI Tryz.prog [] 119=true:=by kernel_rfl
@[go_sem] theorem asB:bU 119 c a:=bS Tryz.func119 (by kernel_rfl) (by kernel_rfl)
theorem afE (hl:l.length<=1) (h:bV H->wC Tryz.prog H.fz [] (Tryz.f119.body.getD .skip) (b7 l) H (cj Tryz.prog [.tmp 2] K)):ak Tryz.prog 119 l.toArray H K:=cF [] mixed Tryz.func119 afD hl (by decide) rfl h
theorem afF:bI Tryz.prog [] 120=true:=by kernel_rfl
@[go_sem] theorem asC:bU 120 c a:=bS Tryz.func120 (by kernel_rfl) (by kernel_rfl)
theorem afG (hl:l.length<=1) (h:bV H->wC Tryz.prog H.fz [] (Tryz.f120.body.getD .skip) (b7 l) H (cj Tryz.prog [.tmp 2] K)):ak Tryz.prog 120 l.toArray H K:=cF [] mixed Tryz.func120 afF hl (by decide) rfl h
theorem afH:bI Tryz.prog [] 121=true:=by kernel_rfl
@[go_sem] theorem asD:bU 121 c a:=bS Tryz.func121 (by kernel_rfl) (by kernel_rfl)
theorem afI (hl:l.length<=2) (h:bV H->wC Tryz.prog H.fz [] (Tryz.f121.body.getD .skip) (b7 l) H (cj Tryz.prog [.tmp 4] K)):ak Tryz.prog 121 l.toArray H K:=cF [] mixed Tryz.func121 afH hl (by decide) rfl h
theorem afJ:bI Tryz.prog [(5,[(4,6)])] 122=true:=by kernel_rfl
@[go_sem] theorem asE:bU 122 c a:=bS Tryz.func122 (by kernel_rfl) (by kernel_rfl)
theorem afK (hl:l.length<=4) (h:bV H->wC Tryz.prog H.fz [(5,[(4,6)])] (Tryz.f122.body.getD .skip) (b7 l) H (cj Tryz.prog [.cell 8 99] K)):ak Tryz.prog 122 l.toArray H K:=cF [(5,[(4,6)])] mixed Tryz.func122 afJ hl (by decide) rfl h
theorem afL:bI Tryz.prog [] 123=true:=by kernel_rfl
@[go_sem] theorem asF:bU 123 c a:=bS Tryz.func123 (by kernel_rfl) (by kernel_rfl)
theorem afM (hl:l.length<=5) (h:bV H->wC Tryz.prog H.fz [] (Tryz.f123.body.getD .skip) (b7 l) H (cj Tryz.prog [.tmp 10] K)):ak Tryz.prog 123 l.toArray H K:=cF [] mixed Tryz.func123 afL hl (by decide) rfl h
theorem afN:bI Tryz.prog [(13,[(1,6)]),(19,[(4,6)]),(25,[(4,6)]),(34,[(4,6)]),(39,[(10,12)])] 124=true:=by kernel_rfl
@[go_sem] theorem asG:bU 124 c a:=bS Tryz.func124 (by kernel_rfl) (by kernel_rfl)
theorem afO:bI Tryz.prog [(14,[(4,10)])] 125=true:=by kernel_rfl
@[go_sem] theorem asH:bU 125 c a:=bS Tryz.func125 (by kernel_rfl) (by kernel_rfl)
theorem afP (hl:l.length<=2) (h:bV H->wC Tryz.prog H.fz [(14,[(4,10)])] (Tryz.f125.body.getD .skip) (b7 l) H (cj Tryz.prog [] K)):ak Tryz.prog 125 l.toArray H K:=cF [(14,[(4,10)])] mixed Tryz.func125 afO hl (by decide) rfl h
theorem afQ:bI Tryz.prog [] 127=true:=by kernel_rfl
@[go_sem] theorem asI:bU 127 c a:=bS Tryz.func127 (by kernel_rfl) (by kernel_rfl)
theorem afR (hl:l.length<=2) (h:bV H->wC Tryz.prog H.fz [] (Tryz.f127.body.getD .skip) (b7 l) H (cj Tryz.prog [.tmp 4] K)):ak Tryz.prog 127 l.toArray H K:=cF [] mixed Tryz.func127 afQ hl (by decide) rfl h
theorem afS:bI Tryz.prog [] 128=true:=by kernel_rfl
@[go_sem] theorem asJ:bU 128 c a:=bS Tryz.func128 (by kernel_rfl) (by kernel_rfl)
theorem afT (hl:l.length<=2) (h:bV H->wC Tryz.prog H.fz [] (Tryz.f128.body.getD .skip) (b7 l) H (cj Tryz.prog [.tmp 4,.tmp 5] K)):ak Tryz.prog 128 l.toArray H K:=cF [] mixed Tryz.func128 afS hl (by decide) rfl h
theorem afU:bI Tryz.prog [] 129=true:=by kernel_rfl
@[go_sem] theorem asK:bU 129 c a:=bS Tryz.func129 (by kernel_rfl) (by kernel_rfl)
theorem afV (hl:l.length<=3) (h:bV H->wC Tryz.prog H.fz [] (Tryz.f129.body.getD .skip) (b7 l) H (cj Tryz.prog [.tmp 6] K)):ak Tryz.prog 129 l.toArray H K:=cF [] mixed Tryz.func129 afU hl (by decide) rfl h
theorem afW:bI Tryz.prog [] 132=true:=by kernel_rfl
@[go_sem] theorem asL:bU 132 c a:=bS Tryz.func132 (by kernel_rfl) (by kernel_rfl)
theorem afX (hl:l.length<=2) (h:bV H->wC Tryz.prog H.fz [] (Tryz.f132.body.getD .skip) (b7 l) H (cj Tryz.prog [.tmp 4,.tmp 5] K)):ak Tryz.prog 132 l.toArray H K:=cF [] mixed Tryz.func132 afW hl (by decide) rfl h
theorem afY:bI Tryz.prog [] 138=true:=by kernel_rfl
@[go_sem] theorem asM:bU 138 c a:=bS Tryz.func138 (by kernel_rfl) (by kernel_rfl)
theorem afZ (hl:l.length<=1) (h:bV H->wC Tryz.prog H.fz [] (Tryz.f138.body.getD .skip) (b7 l) H (cj Tryz.prog [.tmp 2] K)):ak Tryz.prog 138 l.toArray H K:=cF [] mixed Tryz.func138 afY hl (by decide) rfl h
theorem af0:bI Tryz.prog [] 139=true:=by kernel_rfl
@[go_sem] theorem asN:bU 139 c a:=bS Tryz.func139 (by kernel_rfl) (by kernel_rfl)
theorem af1 (hl:l.length<=1) (h:bV H->wC Tryz.prog H.fz [] (Tryz.f139.body.getD .skip) (b7 l) H (cj Tryz.prog [.tmp 2] K)):ak Tryz.prog 139 l.toArray H K:=cF [] mixed Tryz.func139 af0 hl (by decide) rfl h
theorem af2:bI Tryz.prog [] 140=true:=by kernel_rfl
@[go_sem] theorem asO:bU 140 c a:=bS Tryz.func140 (by kernel_rfl) (by kernel_rfl)
theorem af3 (hl:l.length<=3) (h:bV H->wC Tryz.prog H.fz [] (Tryz.f140.body.getD .skip) (b7 l) H (cj Tryz.prog [.tmp 6] K)):ak Tryz.prog 140 l.toArray H K:=cF [] mixed Tryz.func140 af2 hl (by decide) rfl h
theorem af4:bI Tryz.prog [] 141=true:=by kernel_rfl
@[go_sem] theorem asP:bU 141 c a:=bS Tryz.func141 (by kernel_rfl) (by kernel_rfl)
theorem af5 (hl:l.length<=1) (h:bV H->wC Tryz.prog H.fz [] (Tryz.f141.body.getD .skip) (b7 l) H (cj Tryz.prog [.cell 2 99] K)):ak Tryz.prog 141 l.toArray H K:=cF [] mixed Tryz.func141 af4 hl (by decide) rfl h
theorem af6:bI Tryz.prog [] 142=true:=by kernel_rfl
@[go_sem] theorem asQ:bU 142 c a:=bS Tryz.func142 (by kernel_rfl) (by kernel_rfl)
theorem af7 (hl:l.length<=2) (h:bV H->wC Tryz.prog H.fz [] (Tryz.f142.body.getD .skip) (b7 l) H (cj Tryz.prog [.tmp 4] K)):ak Tryz.prog 142 l.toArray H K:=cF [] mixed Tryz.func142 af6 hl (by decide) rfl h
theorem af8:bI Tryz.prog [] 143=true:=by kernel_rfl
@[go_sem] theorem asR:bU 143 c a:=bS Tryz.func143 (by kernel_rfl) (by kernel_rfl)
theorem af9 (hl:l.length<=2) (h:bV H->wC Tryz.prog H.fz [] (Tryz.f143.body.getD .skip) (b7 l) H (cj Tryz.prog [.tmp 4] K)):ak Tryz.prog 143 l.toArray H K:=cF [] mixed Tryz.func143 af8 hl (by decide) rfl h
theorem aga:bI Tryz.prog [] 144=true:=by kernel_rfl
@[go_sem] theorem asS:bU 144 c a:=bS Tryz.func144 (by kernel_rfl) (by kernel_rfl)
theorem agb (hl:l.length<=1) (h:bV H->wC Tryz.prog H.fz [] (Tryz.f144.body.getD .skip) (b7 l) H (cj Tryz.prog [.tmp 2] K)):ak Tryz.prog 144 l.toArray H K:=cF [] mixed Tryz.func144 aga hl (by decide) rfl h
theorem agc:bI Tryz.prog [] 145=true:=by kernel_rfl
@[go_sem] theorem asT:bU 145 c a:=bS Tryz.func145 (by kernel_rfl) (by kernel_rfl)
theorem agd (hl:l.length<=1) (h:bV H->wC Tryz.prog H.fz [] (Tryz.f145.body.getD .skip) (b7 l) H (cj Tryz.prog [] K)):ak Tryz.prog 145 l.toArray H K:=cF [] mixed Tryz.func145 agc hl (by decide) rfl h
theorem age:bI Tryz.prog [] 146=true:=by kernel_rfl
@[go_sem] theorem asU:bU 146 c a:=bS Tryz.func146 (by kernel_rfl) (by kernel_rfl)
theorem agf (hl:l.length<=1) (h:bV H->wC Tryz.prog H.fz [] (Tryz.f146.body.getD .skip) (b7 l) H (cj Tryz.prog [.tmp 2] K)):ak Tryz.prog 146 l.toArray H K:=cF [] mixed Tryz.func146 age hl (by decide) rfl h
theorem agh:bI Tryz.prog [] 147=true:=by kernel_rfl
@[go_sem] theorem asV:bU 147 c a:=bS Tryz.func147 (by kernel_rfl) (by kernel_rfl)
theorem agi (hl:l.length<=1) (h:bV H->wC Tryz.prog H.fz [] (Tryz.f147.body.getD .skip) (b7 l) H (cj Tryz.prog [] K)):ak Tryz.prog 147 l.toArray H K:=cF [] mixed Tryz.func147 agh hl (by decide) rfl h
theorem agj:bI Tryz.prog [] 148=true:=by kernel_rfl
@[go_sem] theorem asW:bU 148 c a:=bS Tryz.func148 (by kernel_rfl) (by kernel_rfl)
theorem agk (hl:l.length<=1) (h:bV H->wC Tryz.prog H.fz [] (Tryz.f148.body.getD .skip) (b7 l) H (cj Tryz.prog [.cell 2 44] K)):ak Tryz.prog 148 l.toArray H K:=cF [] mixed Tryz.func148 agj hl (by decide) rfl h
theorem agl:bI Tryz.prog [] 149=true:=by kernel_rfl
@[go_sem] theorem asX:bU 149 c a:=bS Tryz.func149 (by kernel_rfl) (by kernel_rfl)
theorem agm (hl:l.length<=2) (h:bV H->wC Tryz.prog H.fz [] (Tryz.f149.body.getD .skip) (b7 l) H (cj Tryz.prog [.tmp 4,.tmp 5] K)):ak Tryz.prog 149 l.toArray H K:=cF [] mixed Tryz.func149 agl hl (by decide) rfl h
theorem agn:bI Tryz.prog [] 150=true:=by kernel_rfl
@[go_sem] theorem asY:bU 150 c a:=bS Tryz.func150 (by kernel_rfl) (by kernel_rfl)
theorem ago (hl:l.length<=1) (h:bV H->wC Tryz.prog H.fz [] (Tryz.f150.body.getD .skip) (b7 l) H (cj Tryz.prog [.tmp 2] K)):ak Tryz.prog 150 l.toArray H K:=cF [] mixed Tryz.func150 agn hl (by decide) rfl h
theorem agp:bI Tryz.prog [] 151=true:=by kernel_rfl
@[go_sem] theorem asZ:bU 151 c a:=bS Tryz.func151 (by kernel_rfl) (by kernel_rfl)
theorem agq (hl:l.length<=3) (h:bV H->wC Tryz.prog H.fz [] (Tryz.f151.body.getD .skip) (b7 l) H (cj Tryz.prog [.tmp 6] K)):ak Tryz.prog 151 l.toArray H K:=cF [] mixed Tryz.func151 agp hl (by decide) rfl h
theorem agr:bI Tryz.prog [] 152=true:=by kernel_rfl
@[go_sem] theorem as1:bU 152 c a:=bS Tryz.func152 (by kernel_rfl) (by kernel_rfl)
theorem ags (hl:l.length<=4) (h:bV H->wC Tryz.prog H.fz [] (Tryz.f152.body.getD .skip) (b7 l) H (cj Tryz.prog [] K)):ak Tryz.prog 152 l.toArray H K:=cF [] mixed Tryz.func152 agr hl (by decide) rfl h
theorem agt:bI Tryz.prog [] 153=true:=by kernel_rfl
@[go_sem] theorem as2:bU 153 c a:=bS Tryz.func153 (by kernel_rfl) (by kernel_rfl)
theorem agu:bI Tryz.prog [(32,[(6,10)])] 154=true:=by kernel_rfl
@[go_sem] theorem as3:bU 154 c a:=bS Tryz.func154 (by kernel_rfl) (by kernel_rfl)
theorem agv:bI Tryz.prog [] 155=true:=by kernel_rfl
@[go_sem] theorem as4:bU 155 c a:=bS Tryz.func155 (by kernel_rfl) (by kernel_rfl)
theorem agw (hl:l.length<=1) (h:bV H->wC Tryz.prog H.fz [] (Tryz.f155.body.getD .skip) (b7 l) H (cj Tryz.prog [.tmp 2] K)):ak Tryz.prog 155 l.toArray H K:=cF [] mixed Tryz.func155 agv hl (by decide) rfl h
theorem agx:bI Tryz.prog [] 156=true:=by kernel_rfl
@[go_sem] theorem as5:bU 156 c a:=bS Tryz.func156 (by kernel_rfl) (by kernel_rfl)
theorem agy (hl:l.length<=2) (h:bV H->wC Tryz.prog H.fz [] (Tryz.f156.body.getD .skip) (b7 l) H (cj Tryz.prog [.tmp 4,.tmp 5] K)):ak Tryz.prog 156 l.toArray H K:=cF [] mixed Tryz.func156 agx hl (by decide) rfl h
theorem agz:bI Tryz.prog [] 158=true:=by kernel_rfl
@[go_sem] theorem as6:bU 158 c a:=bS Tryz.func158 (by kernel_rfl) (by kernel_rfl)
theorem agB (hl:l.length<=1) (h:bV H->wC Tryz.prog H.fz [] (Tryz.f158.body.getD .skip) (b7 l) H (cj Tryz.prog [.tmp 2] K)):ak Tryz.prog 158 l.toArray H K:=cF [] mixed Tryz.func158 agz hl (by decide) rfl h
theorem agC:bI Tryz.prog [] 159=true:=by kernel_rfl
@[go_sem] theorem as7:bU 159 c a:=bS Tryz.func159 (by kernel_rfl) (by kernel_rfl)
theorem agD (hl:l.length<=2) (h:bV H->wC Tryz.prog H.fz [] (Tryz.f159.body.getD .skip) (b7 l) H (cj Tryz.prog [.tmp 4] K)):ak Tryz.prog 159 l.toArray H K:=cF [] mixed Tryz.func159 agC hl (by decide) rfl h
theorem agE:bI Tryz.prog [] 160=true:=by kernel_rfl
@[go_sem] theorem as8:bU 160 c a:=bS Tryz.func160 (by kernel_rfl) (by kernel_rfl)
theorem agF (hl:l.length<=1) (h:bV H->wC Tryz.prog H.fz [] (Tryz.f160.body.getD .skip) (b7 l) H (cj Tryz.prog [.tmp 2] K)):ak Tryz.prog 160 l.toArray H K:=cF [] mixed Tryz.func160 agE hl (by decide) rfl h
theorem agG:bI Tryz.prog [] 161=true:=by kernel_rfl
@[go_sem] theorem as9:bU 161 c a:=bS Tryz.func161 (by kernel_rfl) (by kernel_rfl)
theorem agH (hl:l.length<=1) (h:bV H->wC Tryz.prog H.fz [] (Tryz.f161.body.getD .skip) (b7 l) H (cj Tryz.prog [.tmp 2] K)):ak Tryz.prog 161 l.toArray H K:=cF [] mixed Tryz.func161 agG hl (by decide) rfl h
theorem agI:bI Tryz.prog [] 162=true:=by kernel_rfl
@[go_sem] theorem ata:bU 162 c a:=bS Tryz.func162 (by kernel_rfl) (by kernel_rfl)
theorem agJ (hl:l.length<=1) (h:bV H->wC Tryz.prog H.fz [] (Tryz.f162.body.getD .skip) (b7 l) H (cj Tryz.prog [.tmp 2] K)):ak Tryz.prog 162 l.toArray H K:=cF [] mixed Tryz.func162 agI hl (by decide) rfl h
theorem agK:bI Tryz.prog [(5,[(5,7),(5,10)])] 163=true:=by kernel_rfl
@[go_sem] theorem atb:bU 163 c a:=bS Tryz.func163 (by kernel_rfl) (by kernel_rfl)
theorem agL (hl:l.length<=1) (h:bV H->wC Tryz.prog H.fz [(5,[(5,7),(5,10)])] (Tryz.f163.body.getD .skip) (b7 l) H (cj Tryz.prog [.tmp 2] K)):ak Tryz.prog 163 l.toArray H K:=cF [(5,[(5,7),(5,10)])] mixed Tryz.func163 agK hl (by decide) rfl h
theorem agM:bI Tryz.prog [] 164=true:=by kernel_rfl
@[go_sem] theorem atc:bU 164 c a:=bS Tryz.func164 (by kernel_rfl) (by kernel_rfl)
theorem agN (hl:l.length<=2) (h:bV H->wC Tryz.prog H.fz [] (Tryz.f164.body.getD .skip) (b7 l) H (cj Tryz.prog [] K)):ak Tryz.prog 164 l.toArray H K:=cF [] mixed Tryz.func164 agM hl (by decide) rfl h
theorem agO:bI Tryz.prog [(15,[(1,3)])] 165=true:=by kernel_rfl
@[go_sem] theorem atd:bU 165 c a:=bS Tryz.func165 (by kernel_rfl) (by kernel_rfl)
theorem agP:bI Tryz.prog [] 166=true:=by kernel_rfl
@[go_sem] theorem ate:bU 166 c a:=bS Tryz.func166 (by kernel_rfl) (by kernel_rfl)
theorem agQ (hl:l.length<=2) (h:bV H->wC Tryz.prog H.fz [] (Tryz.f166.body.getD .skip) (b7 l) H (cj Tryz.prog [.tmp 4] K)):ak Tryz.prog 166 l.toArray H K:=cF [] mixed Tryz.func166 agP hl (by decide) rfl h
theorem agR:bI Tryz.prog [(9,[(4,6)])] 167=true:=by kernel_rfl
@[go_sem] theorem atf:bU 167 c a:=bS Tryz.func167 (by kernel_rfl) (by kernel_rfl)
theorem agS (hl:l.length<=4) (h:bV H->wC Tryz.prog H.fz [(9,[(4,6)])] (Tryz.f167.body.getD .skip) (b7 l) H (cj Tryz.prog [.cell 8 52] K)):ak Tryz.prog 167 l.toArray H K:=cF [(9,[(4,6)])] mixed Tryz.func167 agR hl (by decide) rfl h
theorem agT:bI Tryz.prog [] 168=true:=by kernel_rfl
@[go_sem] theorem atg:bU 168 c a:=bS Tryz.func168 (by kernel_rfl) (by kernel_rfl)
theorem agU (hl:l.length<=1) (h:bV H->wC Tryz.prog H.fz [] (Tryz.f168.body.getD .skip) (b7 l) H (cj Tryz.prog [.tmp 2] K)):ak Tryz.prog 168 l.toArray H K:=cF [] mixed Tryz.func168 agT hl (by decide) rfl h
theorem agV:bI Tryz.prog [] 169=true:=by kernel_rfl
@[go_sem] theorem ath:bU 169 c a:=bS Tryz.func169 (by kernel_rfl) (by kernel_rfl)
theorem agW (hl:l.length<=1) (h:bV H->wC Tryz.prog H.fz [] (Tryz.f169.body.getD .skip) (b7 l) H (cj Tryz.prog [.tmp 2] K)):ak Tryz.prog 169 l.toArray H K:=cF [] mixed Tryz.func169 agV hl (by decide) rfl h
theorem agX:bI Tryz.prog [] 170=true:=by kernel_rfl
@[go_sem] theorem ati:bU 170 c a:=bS Tryz.func170 (by kernel_rfl) (by kernel_rfl)
theorem agY (hl:l.length<=1) (h:bV H->wC Tryz.prog H.fz [] (Tryz.f170.body.getD .skip) (b7 l) H (cj Tryz.prog [.cell 2 44] K)):ak Tryz.prog 170 l.toArray H K:=cF [] mixed Tryz.func170 agX hl (by decide) rfl h
theorem agZ:bI Tryz.prog [] 171=true:=by kernel_rfl
@[go_sem] theorem atj:bU 171 c a:=bS Tryz.func171 (by kernel_rfl) (by kernel_rfl)
theorem ag0 (hl:l.length<=1) (h:bV H->wC Tryz.prog H.fz [] (Tryz.f171.body.getD .skip) (b7 l) H (cj Tryz.prog [.tmp 2] K)):ak Tryz.prog 171 l.toArray H K:=cF [] mixed Tryz.func171 agZ hl (by decide) rfl h
theorem ag1:bI Tryz.prog [(2,[(3,7),(5,7),(5,9)])] 172=true:=by kernel_rfl
@[go_sem] theorem atk:bU 172 c a:=bS Tryz.func172 (by kernel_rfl) (by kernel_rfl)
theorem ag2 (hl:l.length<=3) (h:bV H->wC Tryz.prog H.fz [(2,[(3,7),(5,7),(5,9)])] (Tryz.f172.body.getD .skip) (b7 l) H (cj Tryz.prog [] K)):ak Tryz.prog 172 l.toArray H K:=cF [(2,[(3,7),(5,7),(5,9)])] mixed Tryz.func172 ag1 hl (by decide) rfl h
theorem ag3:bI Tryz.prog [] 173=true:=by kernel_rfl
@[go_sem] theorem atl:bU 173 c a:=bS Tryz.func173 (by kernel_rfl) (by kernel_rfl)
theorem ag4 (hl:l.length<=2) (h:bV H->wC Tryz.prog H.fz [] (Tryz.f173.body.getD .skip) (b7 l) H (cj Tryz.prog [] K)):ak Tryz.prog 173 l.toArray H K:=cF [] mixed Tryz.func173 ag3 hl (by decide) rfl h
theorem ag5:bI Tryz.prog [] 174=true:=by kernel_rfl
@[go_sem] theorem atm:bU 174 c a:=bS Tryz.func174 (by kernel_rfl) (by kernel_rfl)
theorem ag6 (hl:l.length<=2) (h:bV H->wC Tryz.prog H.fz [] (Tryz.f174.body.getD .skip) (b7 l) H (cj Tryz.prog [] K)):ak Tryz.prog 174 l.toArray H K:=cF [] mixed Tryz.func174 ag5 hl (by decide) rfl h
theorem ag7:bI Tryz.prog [] 175=true:=by kernel_rfl
@[go_sem] theorem atn:bU 175 c a:=bS Tryz.func175 (by kernel_rfl) (by kernel_rfl)
theorem ag8 (hl:l.length<=2) (h:bV H->wC Tryz.prog H.fz [] (Tryz.f175.body.getD .skip) (b7 l) H (cj Tryz.prog [] K)):ak Tryz.prog 175 l.toArray H K:=cF [] mixed Tryz.func175 ag7 hl (by decide) rfl h
theorem ag9:bI Tryz.prog [] 176=true:=by kernel_rfl
@[go_sem] theorem ato:bU 176 c a:=bS Tryz.func176 (by kernel_rfl) (by kernel_rfl)
theorem aha (hl:l.length<=2) (h:bV H->wC Tryz.prog H.fz [] (Tryz.f176.body.getD .skip) (b7 l) H (cj Tryz.prog [.tmp 4] K)):ak Tryz.prog 176 l.toArray H K:=cF [] mixed Tryz.func176 ag9 hl (by decide) rfl h
theorem ahb:bI Tryz.prog [] 177=true:=by kernel_rfl
@[go_sem] theorem atp:bU 177 c a:=bS Tryz.func177 (by kernel_rfl) (by kernel_rfl)
theorem ahc (hl:l.length<=2) (h:bV H->wC Tryz.prog H.fz [] (Tryz.f177.body.getD .skip) (b7 l) H (cj Tryz.prog [.tmp 4] K)):ak Tryz.prog 177 l.toArray H K:=cF [] mixed Tryz.func177 ahb hl (by decide) rfl h
theorem ahd:bI Tryz.prog [] 178=true:=by kernel_rfl
@[go_sem] theorem atq:bU 178 c a:=bS Tryz.func178 (by kernel_rfl) (by kernel_rfl)
theorem ahe (hl:l.length<=3) (h:bV H->wC Tryz.prog H.fz [] (Tryz.f178.body.getD .skip) (b7 l) H (cj Tryz.prog [] K)):ak Tryz.prog 178 l.toArray H K:=cF [] mixed Tryz.func178 ahd hl (by decide) rfl h
theorem ahf:bI Tryz.prog [(8,[(4,6)])] 179=true:=by kernel_rfl
@[go_sem] theorem atr:bU 179 c a:=bS Tryz.func179 (by kernel_rfl) (by kernel_rfl)
theorem ahg (hl:l.length<=2) (h:bV H->wC Tryz.prog H.fz [(8,[(4,6)])] (Tryz.f179.body.getD .skip) (b7 l) H (cj Tryz.prog [] K)):ak Tryz.prog 179 l.toArray H K:=cF [(8,[(4,6)])] mixed Tryz.func179 ahf hl (by decide) rfl h
theorem ahh:bI Tryz.prog [] 180=true:=by kernel_rfl
@[go_sem] theorem ats:bU 180 c a:=bS Tryz.func180 (by kernel_rfl) (by kernel_rfl)
theorem ahi (hl:l.length<=2) (h:bV H->wC Tryz.prog H.fz [] (Tryz.f180.body.getD .skip) (b7 l) H (cj Tryz.prog [.tmp 4] K)):ak Tryz.prog 180 l.toArray H K:=cF [] mixed Tryz.func180 ahh hl (by decide) rfl h
theorem ahj:bI Tryz.prog [] 181=true:=by kernel_rfl
@[go_sem] theorem att:bU 181 c a:=bS Tryz.func181 (by kernel_rfl) (by kernel_rfl)
theorem ahk (hl:l.length<=2) (h:bV H->wC Tryz.prog H.fz [] (Tryz.f181.body.getD .skip) (b7 l) H (cj Tryz.prog [.tmp 4] K)):ak Tryz.prog 181 l.toArray H K:=cF [] mixed Tryz.func181 ahj hl (by decide) rfl h
theorem ahl:bI Tryz.prog [(8,[(1,3)])] 182=true:=by kernel_rfl
@[go_sem] theorem atu:bU 182 c a:=bS Tryz.func182 (by kernel_rfl) (by kernel_rfl)
theorem ahm (hl:l.length<=2) (h:bV H->wC Tryz.prog H.fz [(8,[(1,3)])] (Tryz.f182.body.getD .skip) (b7 l) H (cj Tryz.prog [.tmp 4] K)):ak Tryz.prog 182 l.toArray H K:=cF [(8,[(1,3)])] mixed Tryz.func182 ahl hl (by decide) rfl h
theorem ahn:bI Tryz.prog [] 183=true:=by kernel_rfl
@[go_sem] theorem atv:bU 183 c a:=bS Tryz.func183 (by kernel_rfl) (by kernel_rfl)
theorem aho (hl:l.length<=2) (h:bV H->wC Tryz.prog H.fz [] (Tryz.f183.body.getD .skip) (b7 l) H (cj Tryz.prog [.tmp 4,.tmp 5] K)):ak Tryz.prog 183 l.toArray H K:=cF [] mixed Tryz.func183 ahn hl (by decide) rfl h
end
end Go.Proofs.YtinjmfblebpnnaaGreat.Ab
