/- Lemmas for the walk, part 2. -/
import Derived.Attr
import Derived.Below
import Derived.ChangeArms
import Derived.ChangeSlices
import Derived.DataReads
import Derived.Deep.Slices
import Derived.KernelRfl
import Derived.Test.YtinjmfblebpnnaaGreatProg
import Derived.WideShapes
import Derived.Test.YtinjmfblebpnnaaGreatF1
set_option linter.unusedVariables false
set_option linter.unusedSimpArgs false
namespace Go.Proofs.YtinjmfblebpnnaaGreat.Ab
open Go Classical
abbrev Env:=Nat->Value
def nh (E:Env) (d:Option Nat) (v:Value):Env:=match d with
 | some d=>fun i=>if i=d then v else E i
 | none=>E
def jr (E:Env) (x:Operand):Value:=match x with
 | .tmp i=>E i
 | .const v=>v
 | .func f=>.func (.func f) #[] #[]
 | .global g=>.pointer (some ⟨g,0,none⟩)
def cb (l:List Value):Env:=fun i=>l.getD i undef
structure TE (n:Nat) (t:Act) (E:Env):Prop where
 get:∀i,t.tmps.getD i undef=E i
 size:t.tmps.size=n
 K4:t.defers=[]
theorem TE.ev {n:Nat} {t:Act} {E:Env} (h:TE n t E):jr E=t.eval:=by
 funext x
 cases x with
 | tmp i=>exact (h.get i).symm
 | const v=>rfl
 | func f=>rfl
 | global g=>rfl
theorem TE.put {n:Nat} {t:Act} {E:Env} (h:TE n t E) {d:Option Nat} (hd:∀x,d=some x->x < n) (v:Value):TE n (t.put d v) (nh E d v):=by
 refine ⟨fun i=>?_,by rw [Jt];exact h.size,by rw [Jk];exact h.K4⟩
 rw [Js]
 cases d with
 | none=>rw [if_neg (fun hx=>by cases hx.1)];exact h.get i
 | some x=>
  have hx:=hd x rfl
  rw [h.size]
  show _=if i=x then v else E i
  by_cases hi:i=x
  ·subst hi;simp [hx]
  ·have:¬(some x=some i/\i < n):=fun hh=>hi (Option.some.inj hh.1).symm
   rw [if_neg this,if_neg hi];exact h.get i
def Ht (v:Value) (want:Bool):Bool:=match v with
 | .bool b=>b==want
 | _=>false
def zA (E:Env) (want:Bool) (d:Option (Option Nat)):Bool:=match d with
 | some (some d)=>Ht (E d) want
 | _=>false
def Hv (ds:List (Option Nat)) (E:Env) (gd:Option (Nat × Bool)):Bool:=match gd with
 | none=>true
 | some (j,want)=>zA E want ds[j]?
theorem MQ {n:Nat} {t:Act} {E:Env} (h:TE n t E) (ops:Array Oper) (o:Oper):Hv (ops.toList.map (·.dst)) E o.guard=Region.wanted o (yielded ops t.tmps):=by
 unfold Region.wanted Hv
 cases hg:o.guard with
 | none=>rfl
 | some jw=>
  obtain ⟨j,want⟩:=jw
  simp only [List.getElem?_map,Array.getElem?_toList,yielded]
  cases ho:ops[j]? with
  | none=>simp [zA]
  | some o2=>
   simp only [Option.map_some,Option.bind_some]
   cases hd:o2.dst with
   | none=>simp [zA]
   | some d=>
    simp only [Option.bind_some]
    have hh:=h.get d
    by_cases aZ:d < t.tmps.size
    ·have:t.tmps.getD d undef=t.tmps[d]:=by simp [Array.getD,aZ]
     rw [this] at hh
     simp only [zA,Array.getElem?_eq_getElem aZ,<-hh]
     cases t.tmps[d] <;> simp [Ht]
    ·have:t.tmps.getD d undef=undef:=by simp [Array.getD,aZ]
     rw [this] at hh
     simp only [zA,Array.getElem?_eq_none (Nat.le_of_not_lt aZ),<-hh]
     simp [Ht,undef]
structure bW (H:ad):Prop where
 wf:H.wf
 fz:∀b,H.fz b=true->b < H.next
structure KX (X:Nat->Bool) (H H':ad):Prop where
 nx:H.next<=H'.next
 get:∀b,X b=true->H'.get b=H.get b
 fz:∀b,X b=true->H'.fz b=true
 iq:bW H'
def aj (P:Program) (f:FuncId) (args:Array Value) (H:ad) (K:Value->ad->Prop):Prop:=
 bW H->∃v H',iR dN H H'/\Ti P f args H v H'/\KX H.fz H H'/\K v H'
theorem aj.mono {P:Program} {f:FuncId} {args:Array Value} {H:ad} {K K':Value->ad->Prop} (h:aj P f args H K) (hk:∀v H',KX H.fz H H'->K v H'->K' v H'):aj P f args H K':=fun hf=>by
 obtain ⟨v,H',h1,h2,h3,h4⟩:=h hf
 exact ⟨v,H',h1,h2,h3,hk v H' h3 h4⟩
def ad.ai (H:ad) (fz:Nat->Bool):ad:=⟨H.next,H.get,fz⟩
theorem aj.ai {P:Program} {f:FuncId} {args:Array Value} {H:ad} {K:Value->ad->Prop}
  (h:aj P f args H fun v H'=>∃Li:Nat->Bool,(∀b,H.fz b=true->Li b=true)/\(∀b,Li b=true->b < H'.next)/\K v (H'.ai Li)):aj P f args H K:=fun hf=>by
 obtain ⟨v,H',h1,h2,h3,Li,h4,h5,h6⟩:=h hf
 exact ⟨v,H'.ai Li,⟨h1.next,h1.wf,h1.same⟩,fun σ w Cv hr bg ha=>(h2 σ w Cv hr bg ha).mono fun e w' ⟨σ',v',h,p,hv⟩=>⟨σ',v',h,⟨p.rel,p.ext,p.size,p.ae,p.oI,p.ua,p.rest⟩,hv⟩,⟨h3.nx,h3.get,h4,⟨h3.iq.wf,h5⟩⟩,h6⟩
def jE (P:Program) (op:Op):Nat:=match op with
 | .move _ | .assign _ | .pick _ _ _ | .nilCheck _ | .binOp _ _ _ _ _ | .unOp _ _ _ | .fieldAddr _ _ _ | .field _ _ _ | .indexAddr _ _ _ | .index _ _ _ | .extract _ _ | .build _ _ | .makeFunc _ _ _ | .slice _ _ _ _ _=>0
 | .load _ _=>1
 | .alloc _ | .box _ _ | .buildSlice _ _ _ | .makeSlice _ _ _ | .makeMap _ _=>2
 | .convert s _ _=>(match P.underlying s with
  | some (.int _)=>0
  | _=>4)
 | .call c=>(match c.callee with
  | .value _=>3
  | .builtin .len | .builtin .min | .builtin .max=>0
  | _=>4)
 | _=>4
def W2 (a b:Nat):Bool:=a==0||b==0||(a==1&&(b==1||b==2))||(a==2&&(b==2||b==3))||((a==3||a==4)&&b==2)
def W3 (a b:Nat):Bool:=(a==1&&(b==3||b==4))||((a==3||a==4||a==2)&&b==1)||(a==2&&b==4)
def oA (P:Program) (ops:Array Oper) (i:Nat):Nat:=match ops[i]? with
 | some o=>jE P o.op
 | none=>0
def Ng (P:Program) (ops:Array Oper) (tb:List (Nat × Nat)):Bool:=
 (List.range ops.size).all fun k=>(List.range k).all fun i=>((xT ops ops.size).getD k 0).testBit i||W2 (oA P ops i) (oA P ops k)||(W3 (oA P ops i) (oA P ops k)&&tb.contains (i,k))
structure Rec where
 ob:lX
 nw:Option Nat
 h:ad
 h':ad
noncomputable def lr (P:Program) (ev:Operand->Value) (op:Op):lX:=match op with
 | .load ty a=>(match ev a with
  | .pointer (some ⟨b,o,none⟩)=>some (b,tP P ty o)
  | _=>none)
 | _=>none
def uB (P:Program) (op:Op) (H:ad):Option Nat:=if jE P op=2 then some H.next else none
def xW (ob:lX) (H H':ad):Prop:=match ob with
 | some (b,π)=>π (H'.get b)=π (H.get b)
 | none=>True
def NW (nw:Option Nat) (H H':ad):Prop:=match nw with
 | some a=>H'.get a=H.get a
 | none=>True
def Ki (r:Option Rec) (ob:lX) (H H':ad):Prop:=match r with
 | some r=>xW ob r.h r.h'/\xW r.ob H H'/\NW r.nw H H'
 | none=>True
def look (acc:List (Nat × Rec)) (i:Nat):Option Rec:=match acc with
 | []=>none
 | p::acc=>if p.1=i then some p.2 else look acc i
def tQ (tb:List (Nat × Nat)) (k:Nat) (acc:List (Nat × Rec)) (ob:lX) (H H':ad):Prop:=match tb with
 | []=>True
 | p::tb=>(if p.2=k then Ki (look acc p.1) ob H H' else True)/\tQ tb k acc ob H H'
def told (tb:List (Nat × Nat)) (i:Nat):Bool:=tb.any fun p=>p.1==i
def note (tb:List (Nat × Nat)) (i:Nat) (r:Rec) (acc:List (Nat × Rec)):List (Nat × Rec):=if told tb i=true then (i,r)::acc else acc
section
variable (P:Program) (X:Nat->Bool)
def fx (ev:Operand->Value) (op:Op) (H:ad) (K:Value->ad->Prop):Prop:=match nV P ev op H with
 | .ok v H'=>(∀b,b < H.next->X b=true->H'.get b=H.get b)/\K v H'
 | .call f args=>aj P f args H K
 | .no=>False
def kX (ds:List (Option Nat)):List Oper->Env->ad->(Env->ad->Prop)->Prop
 | [],E,H,K=>K E H
 | o::l,E,H,K=>if Hv ds E o.guard=true then fx P X (jr E) o.op H (fun v H'=>kX ds l (nh E o.dst v) H' K) else kX ds l (nh E o.dst undef) H K
def iY (tb:List (Nat × Nat)) (ds:List (Option Nat)):List Oper->Nat->List (Nat × Rec)->Env->ad->(Env->ad->Prop)->Prop
 | [],_,_,E,H,K=>K E H
 | o::l,k,acc,E,H,K=>if Hv ds E o.guard=true then fx P X (jr E) o.op H (fun v H'=>tQ tb k acc (lr P (jr E) o.op) H H'/\
   iY tb ds l (k+1) (note tb k ⟨lr P (jr E) o.op,uB P o.op H,H,H'⟩ acc) (nh E o.dst v) H' K) else iY tb ds l (k+1) acc (nh E o.dst undef) H K
def oB (k:Env->ad->Prop) (Q:Exit->Env->ad->Prop):Exit->Env->ad->Prop
 | .normal,E,H=>k E H
 | e,E,H=>Q e E H
def uK (id:Nat) (Q:Exit->Env->ad->Prop):Exit->Env->ad->Prop
 | .exit i,E,H=>if i=id then Q .normal E H else Q (.exit i) E H
 | e,E,H=>Q e E H
def AZ (v:Value) (x y:Prop):Prop:=match v with
 | .bool b=>if b=true then x else y
 | _=>False
def pC (step:Env->ad->(Exit->Env->ad->Prop)->Prop):Nat->Env->ad->(Exit->Env->ad->Prop)->Prop
 | 0,_,_,_=>False
 | n+1,E,H,Q=>step E H (oB (fun E H=>pC step n E H Q) Q)
abbrev oc:=List (Nat × List (Nat × Nat))
def zZ (T:oc) (id:Nat):List (Nat × Nat):=match T with
 | []=>[]
 | p::T=>if p.1=id then p.2 else zZ T id
def wC (T:oc):Code->Env->ad->(Exit->Env->ad->Prop)->Prop
 | .skip,E,H,Q=>Q .normal E H
 | .label _,E,H,Q=>Q .normal E H
 | .exit id,E,H,Q=>Q (.exit id) E H
 | .ret,E,H,Q=>Q .ret E H
 | .seq a b,E,H,Q=>wC T a E H (oB (fun E H=>wC T b E H Q) Q)
 | .cond c a b,E,H,Q=>AZ (jr E c) (wC T a E H Q) (wC T b E H Q)
 | .block id a,E,H,Q=>wC T a E H (uK id Q)
 | .loop a,E,H,Q=>∃n,pC (wC T a) n E H Q
 | .region _ ops false,E,H,Q=>kX P X (ops.toList.map (·.dst)) ops.toList E H (Q .normal)
 | .region id ops true,E,H,Q=>iY P X (zZ T id) (ops.toList.map (·.dst)) ops.toList 0 [] E H (Q .normal)
 | _,_,_,_=>False
def me (T:oc) (n:Nat):Code->Bool
 | .skip | .exit _ | .ret | .label _=>true
 | .seq a b=>me T n a&&me T n b
 | .cond c a b=>tp c&&me T n a&&me T n b
 | .block _ a | .loop a=>me T n a
 | .region id ops draw=>JA n ops&&(!draw||(MK ops&&Ng P ops (zZ T id)))
 | _=>false
noncomputable def wu (rs:List ResultVar) (E:Env) (H:ad):Option (List Value):=match rs with
 | []=>some []
 | r::rs=>match wu rs E H with
  | some l=>(match r with
   | .tmp t=>some (E t::l)
   | .cell a t=>match rT P t (E a) H with
    | .ok v _=>some (v::l)
    | _=>none)
  | none=>none
def A0 (rs:List ResultVar) (E:Env) (H:ad) (K:Value->ad->Prop):Prop:=match wu P rs E H with
 | some l=>K (HR l) H
 | none=>False
def cm (rs:List ResultVar) (K:Value->ad->Prop):Exit->Env->ad->Prop
 | .normal,E,H=>A0 P rs E H K
 | .ret,E,H=>A0 P rs E H K
 | _,_,_=>False
end
section
variable {P:Program} {X:Nat->Bool}
structure xX (X:Nat->Bool) (H:ad):Prop where
 iq:bW H
 sub:∀b,X b=true->H.fz b=true
theorem KX.refl {H:ad} (h:xX X H):KX X H H:=⟨Nat.le_refl _,fun _ _=>rfl,h.sub,h.iq⟩
theorem KX.trans {H H1 H2:ad} (h:KX X H H1) (h':KX X H1 H2):KX X H H2:=
 ⟨Nat.le_trans h.nx h'.nx,fun b hb=>(h'.get b hb).trans (h.get b hb),h'.fz,h'.iq⟩
theorem KX.inv {H H':ad} (h:KX X H H'):xX X H':=⟨h.iq,h.fz⟩
structure wg (H H':ad):Prop where
 nx:H.next<=H'.next
 fz:∀b,H.fz b=true->H'.fz b=true
 fw:(∀b,H.fz b=true->b < H.next)->∀b,H'.fz b=true->b < H'.next
theorem wg.refl (H:ad):wg H H:=⟨Nat.le_refl _,fun _ h=>h,fun h=>h⟩
theorem wg.ah (H:ad) (b:Nat) (B:ct):wg H (H.ah b B):=⟨Nat.le_refl _,fun _ h=>h,fun h=>h⟩
theorem wg.push (H:ad) (B:ct):wg H (H.push B):=by
 refine ⟨Nat.le_succ _,fun b h=>?_,fun h b hb=>?_⟩
 ·show (b==H.next||H.fz b)=true
  rw [h,Bool.or_true]
 ·have dT:(b==H.next||H.fz b)=true:=hb
  show b < H.next+1
  rw [Bool.or_eq_true,beq_iff_eq] at dT
  rcases dT with h1 | h1
  ·omega
  ·have:=h b h1;omega
theorem wg.grow (H:ad) (c:Nat) (B:ct):wg H (H.grow c B):=by
 refine ⟨Nat.le_succ _,fun b h=>?_,fun h b hb=>?_⟩
 ·show (b==H.next||H.fz b)=true
  rw [h,Bool.or_true]
 ·have dT:(b==H.next||H.fz b)=true:=hb
  show b < H.next+1
  rw [Bool.or_eq_true,beq_iff_eq] at dT
  rcases dT with h1 | h1
  ·omega
  ·have:=h b h1;omega
theorem Qa {r:KO} {H H':ad} {v:Value} (h:hU r H=.ok v H'):wg H H':=by
 obtain ⟨_,_,rfl⟩:=oq h;exact .refl _
theorem MC {b o:Nat} {vs:List Value} {v v':Value} {H H':ad} (hh:qg b o vs v H=.ok v' H'):wg H H':=by
 unfold qg at hh
 (repeat' split at hh) <;> cases hh
 exact .ah _ _ _
theorem Jq {cs:List Value} {e:TypeId} {gW:Bool} {k:Nat->Value} {H H':ad} {v:Value} (hh:ri cs e gW k H=.ok v H'):wg H H':=by
 cases hh;exact .push _ _
theorem acb {ev:Operand->Value} {op:Op} {H H':ad} {v:Value} (hh:nV P ev op H=.ok v H'):wg H H':=by
 cases op <;> simp only [nV] at hh <;> first
  | (cases hh;done)
  | (cases hh;exact .refl _)
  | exact Qa hh
  | exact Jq hh
  | skip
 case alloc=>unfold Cp at hh;split at hh <;> first | exact Jq hh | (cases hh;done)
 case buildSlice=>unfold rL at hh;(repeat' split at hh) <;> first | exact Jq hh | (cases hh;done)
 case makeSlice=>unfold Cl at hh;(repeat' split at hh) <;> first | exact Jq hh | (cases hh;done)
 case load=>unfold rT at hh;(repeat' split at hh) <;> cases hh <;> exact .refl _
 case makeMap t r=>cases r <;> cases hh;exact .push _ _
 case lookup=>unfold Ec at hh;(repeat' split at hh) <;> cases hh <;> exact .refl _
 case mapUpdate=>unfold Ex at hh;(repeat' split at hh) <;> cases hh <;> exact .ah _ _ _
 case store=>unfold AJ at hh;(repeat' split at hh) <;> first | exact MC hh | (cases hh;done)
 case convert=>
  unfold rV at hh;(repeat' split at hh) <;> first | (cases hh;done) | (cases hh;exact .refl _) | (unfold Jp at hh;(repeat' split at hh) <;> first | (cases hh;done) | (cases hh;exact .refl _))
 case call=>
  unfold Hr at hh
  split at hh
  ·exact Qa hh
  ·unfold La at hh
   (repeat' split at hh) <;> first
    | (cases hh;done)
    | exact Qa hh
    | (unfold iG at hh;(repeat' split at hh) <;> first | (cases hh;done) | (cases hh;exact .refl _) | exact Jq hh | exact MC hh | (cases hh;exact .grow _ _ _))
    | (unfold AQ at hh;(repeat' split at hh) <;> first | (cases hh;done) | (cases hh;exact .refl _) | exact MC hh)
    | (unfold AK at hh;(repeat' split at hh) <;> first | (cases hh;done) | (cases hh;exact .refl _) | exact MC hh)
  ·cases hh
theorem Wy {ev:Operand->Value} {op:Op} {H:ad} {f:FuncId} {args:Array Value} (hh:nV P ev op H=.call f args):K1 P ev op h0=.call f args/\acR op=false:=by
 have nl:∀{r:KO},r.xE=false->hU r H≠.call f args:=fun {r} hr he=>by
  cases r with
  | call=>cases hr
  | ok=>cases he
  | no=>cases he
 cases op <;> simp only [nV] at hh
 case call c=>
  refine ⟨?_,rfl⟩
  unfold Hr at hh
  show Hl P ev c h0=_
  unfold Hl
  split at hh
  ·rename_i fv hc
   try rw [hc]
   try simp only
   cases hk:xJ P (ev fv) (pk ev c.args.toList).toArray with
   | call f1 a1=>rw [hk] at hh;cases hh;rfl
   | ok=>rw [hk] at hh;cases hh
   | no=>rw [hk] at hh;cases hh
  ·exfalso
   unfold La at hh
   (repeat' split at hh) <;> first
    | (cases hh;done)
    | exact nl (XB _ _ _) hh
    | exact nl (XC _ _ _ _) hh
    | (unfold iG ri qg at hh;(repeat' split at hh) <;> cases hh)
    | (unfold AQ qg at hh;(repeat' split at hh) <;> cases hh)
    | (unfold AK qg at hh;(repeat' split at hh) <;> cases hh)
  ·cases hh
 all_goals exfalso
 case makeMap t r=>cases r <;> cases hh
 case lookup=>unfold Ec at hh;(repeat' split at hh) <;> cases hh
 case mapUpdate=>unfold Ex at hh;(repeat' split at hh) <;> cases hh
 all_goals first
  | (cases hh;done)
  | (unfold Cp ri at hh;(repeat' split at hh) <;> cases hh;done)
  | (unfold rL ri at hh;(repeat' split at hh) <;> cases hh;done)
  | (unfold Cl ri at hh;(repeat' split at hh) <;> cases hh;done)
  | (unfold rT at hh;(repeat' split at hh) <;> cases hh;done)
  | (unfold AJ qg at hh;(repeat' split at hh) <;> cases hh;done)
  | (unfold rV Jp at hh;(repeat' split at hh) <;> cases hh;done)
  | skip
 all_goals
  have hc:∀{r:KO},hU r H=.call f args->r=.call f args:=fun {r} he=>by
   cases r with
   | call=>cases he;rfl
   | ok=>cases he
   | no=>cases he
  have h2:=hc hh
  first
  | (unfold Cu at h2;split at h2 <;> cases h2;done)
  | (unfold fH at h2;(repeat' split at h2) <;> cases h2;done)
  | (unfold CJ at h2;(repeat' split at h2) <;> cases h2;done)
  | (unfold eB at h2;(repeat' split at h2) <;> cases h2;done)
  | (unfold C8 at h2;(repeat' split at h2) <;> cases h2;done)
  | (unfold AA at h2;(repeat' split at h2) <;> cases h2;done)
  | (unfold AH at h2;(repeat' split at h2) <;> cases h2;done)
  | (unfold Ax at h2;simp only [cond_eq_ite] at h2;(repeat' split at h2) <;> cases h2;done)
  | (unfold Ay at h2;simp only [cond_eq_ite] at h2;(repeat' split at h2) <;> cases h2;done)
  | (unfold xA at h2;simp only [cond_eq_ite] at h2;(repeat' split at h2) <;> cases h2;done)
  | (unfold lT at h2;simp only [nf,cond_eq_ite] at h2;(repeat' split at h2) <;> cases h2;done)
end
end Go.Proofs.YtinjmfblebpnnaaGreat.Ab
namespace Go.Proofs.YtinjmfblebpnnaaGreat.Ab
open Go Classical
section
variable {P:Program} {X:Nat->Bool}
structure agH (P:Program) (X:Nat->Bool) (o:Oper) (t:Act) (H:ad) (v:Value) (H':ad):Prop where
 op:wt P (fun x=>x < H.next) o t H v H'
 kx:KX X H H'
 fz:∀b,H.fz b=true->H'.fz b=true
 pure:jE P o.op=0->H'=H/\wt P (fun _=>False) o t H v H'
 load:jE P o.op=1->H'=H/\∀b π,lr P t.eval o.op=some (b,π)->b < H.next/\∀H2:ad,π (H2.get b)=π (H.get b)->Td P o t H2 v
 ob:jE P o.op=1->∃b π,lr P t.eval o.op=some (b,π)
 new:jE P o.op=2->wt P (fun _=>False) o t H v H'/\∃B,H'=H.push B
 call:jE P o.op=3->KX H.fz H H'
theorem acd {ev:Operand->Value} {op:Op} {H H':ad} {v:Value} (hw:H.wf) (hh:nV P ev op H=.ok v H'):∀b,Cy P ev op H.next b->b < H.next:=by
 intro b hb
 cases op <;> simp only [Cy] at hb <;> first
  | (exact hb.elim)
  | exact hb
  | skip
 case load ty a=>
  simp only [nV] at hh
  unfold rT at hh
  split at hh
  ·rename_i b0 o0 ha
   rw [ha] at hb
   obtain rfl:b=b0:=hb
   split at hh
   ·rename_i v0 hv;obtain ⟨B,hB⟩:=WW hv;exact ad.Cw hw hB
   ·cases hh
  ·cases hh
 case convert s d x=>
  cases h:P.underlying s with
  | none=>rw [h] at hb;exact hb
  | some u=>rw [h] at hb;cases u <;> first | exact hb | exact hb.elim
 case call c=>
  cases h:c.callee with
  | builtin u=>rw [h] at hb;cases u <;> first | exact hb | exact hb.elim
  | _=>rw [h] at hb;exact hb
 case store ty a x=>
  simp only [nV] at hh
  unfold AJ at hh
  split at hh
  ·rename_i b0 o0 ha
   rw [ha] at hb
   obtain rfl:b=b0:=hb
   split at hh
   ·split at hh
    ·exact (Jm (P:=P) hw hh).2.1
    ·cases hh
   ·cases hh
  ·cases hh
theorem MR {cs:List Value} {e:TypeId} {gW:Bool} {k:Nat->Value} {H H':ad} {v:Value} (hh:ri cs e gW k H=.ok v H'):∃B,H'=H.push B:=by cases hh;exact ⟨_,rfl⟩
theorem aa2 {F:Nat->Prop} {o:Oper} {t:Act} {H H':ad} {v:Value} (hw:H.wf) (h:wt P F o t H v H') (hF:∀b,F b->b < H.next):wt P (fun x=>x < H.next) o t H v H':=
 ⟨⟨h.mw.next,h.mw.wf,fun b hb hn=>absurd hb hn⟩,sx.wide hw h.mw hF h.op⟩
theorem abw {ev:Operand->Value} {op:Op} {n:Nat} (hc:jE P op=0):Cy P ev op n=fun _=>False:=by
 cases op <;> simp only [jE,Cy] at hc ⊢ <;> first
  | (cases hc;done)
  | skip
 case convert s d x=>split at hc <;> first | (cases hc;done) | (rename_i h;first | rw [h] | rfl)
 case call c=>split at hc <;> first | (cases hc;done) | (rename_i h;first | rw [h] | rfl)
theorem ace {ev:Operand->Value} {op:Op} {n:Nat} (hc:jE P op=2):Cy P ev op n=fun _=>False:=by
 cases op <;> simp only [jE,Cy] at hc ⊢ <;> first
  | (cases hc;done)
  | skip
 case convert s d x=>split at hc <;> first | (cases hc;done) | (rename_i h;first | rw [h] | rfl)
 case call c=>split at hc <;> first | (cases hc;done) | (rename_i h;first | rw [h] | rfl)
theorem abx {ev:Operand->Value} {op:Op} {H H':ad} {v:Value} (hc:jE P op=0) (hh:nV P ev op H=.ok v H'):H'=H:=by
 cases op <;> simp only [jE] at hc <;> simp only [nV] at hh <;> first
  | (cases hc;done)
  | (cases hh;rfl)
  | exact (oq hh).elim fun _ h=>h.2
  | skip
 case convert s d x=>
  split at hc
  ·rename_i k hs
   unfold rV at hh
   rw [hs] at hh
   split at hh
   ·split at hh <;> cases hh;rfl
   ·rename_i e h1 h2;cases h1
   ·cases hh
  ·cases hc
 case call c=>
  unfold Hr at hh
  split at hc <;> first | (cases hc;done) | skip
  all_goals
   rename_i RW
   rw [RW] at hh
   simp only at hh
   unfold La at hh
   (repeat' split at hh) <;> first
    | exact (oq hh).elim fun _ h=>h.2
    | (cases hh;done)
    | contradiction
theorem acf {ev:Operand->Value} {op:Op} {H H':ad} {v:Value} (hc:jE P op=2) (hh:nV P ev op H=.ok v H'):∃B,H'=H.push B:=by
 cases op <;> simp only [jE] at hc <;> simp only [nV] at hh <;> first
  | (cases hc;done)
  | exact MR hh
  | skip
 case alloc=>unfold Cp at hh;split at hh <;> first | exact MR hh | (cases hh;done)
 case buildSlice=>unfold rL at hh;(repeat' split at hh) <;> first | exact MR hh | (cases hh;done)
 case makeSlice=>unfold Cl at hh;(repeat' split at hh) <;> first | exact MR hh | (cases hh;done)
 case makeMap t r=>cases r <;> cases hh;exact ⟨_,rfl⟩
 case convert s d x=>split at hc <;> cases hc
 case call c=>split at hc <;> cases hc
theorem Wz {op:Op} (hc:jE P op=1):∃ty a,op=.load ty a:=by
 cases op <;> simp only [jE] at hc <;> first
  | (cases hc;done)
  | exact ⟨_,_,rfl⟩
  | skip
 case convert s d x=>split at hc <;> cases hc
 case call c=>split at hc <;> cases hc
theorem acg {ev:Operand->Value} {op:Op} {H:ad} {f:FuncId} {args:Array Value} (hh:nV P ev op H=.call f args):jE P op=3:=by
 obtain ⟨ir,_⟩:=Wy hh
 obtain ⟨c,fv,rfl,hc,_⟩:=XD ir
 simp only [jE,hc]
theorem aaJ {ev:Operand->Value} {op:Op} {H H':ad} {v:Value} (hc:jE P op=3) (hh:nV P ev op H=.ok v H'):False:=by
 cases op <;> simp only [jE] at hc <;> first
  | (cases hc;done)
  | skip
 case convert s d x=>split at hc <;> cases hc
 case call c=>
  simp only [nV] at hh
  unfold Hr at hh
  split at hc <;> first | (cases hc;done) | skip
  rename_i fv RW
  rw [RW] at hh
  obtain ⟨h',hk,_⟩:=oq hh
  unfold xJ at hk
  simp only [cond_eq_ite] at hk
  (repeat' split at hk) <;> cases hk
theorem W4 {n:Nat} {o:Oper} {t:Act} {E:Env} {H:ad} {K:Value->ad->Prop} (ht:TE n t E) (hi:xX X H) (fX:o.op.operands.all tp=true)
  (h:fx P X (jr E) o.op H K):∃v H',agH P X o t H v H'/\K v H':=by
 unfold fx at h
 rw [ht.ev] at h
 cases ir:nV P t.eval o.op H with
 | no=>rw [ir] at h;exact h.elim
 | ok v H'=>
  rw [ir] at h
  obtain ⟨h1,h2⟩:=h
  have hs:=abv (P:=P) hi.iq.wf fX ir
  have hg:=acb ir
  refine ⟨v,H',⟨aa2 hi.iq.wf hs (acd hi.iq.wf ir),⟨hg.nx,fun b hb=>h1 b (hi.iq.fz b (hi.sub b hb)) hb,fun b hb=>hg.fz b (hi.sub b hb),⟨hs.mw.wf,hg.fw hi.iq.fz⟩⟩,hg.fz,
   fun hc=>⟨abx hc ir,by rw [<-abw (ev:=t.eval) (n:=H.next) hc];exact hs⟩,fun hc=>?_,fun hc=>?_,fun hc=>⟨by rw [<-ace (ev:=t.eval) (n:=H.next) hc];exact hs,acf hc ir⟩,fun hc=>(aaJ hc ir).elim⟩,h2⟩
  ·obtain ⟨ty,ao,he⟩:=Wz hc
   rw [he] at ir
   simp only [nV] at ir
   refine ⟨(WX hi.iq.wf he ir).1,fun b π la=>?_⟩
   rw [he] at la
   simp only [lr] at la
   unfold rT at ir
   split at ir
   ·rename_i b0 o0 ha
    rw [ha] at la
    cases la
    split at ir
    ·rename_i v0 qz
     cases ir
     obtain ⟨B,hB⟩:=WW qz
     exact ⟨ad.Cw hi.iq.wf hB,fun H2 h2=>aaH he ha (h2.trans qz)⟩
    ·cases ir
   ·cases ir
  ·obtain ⟨ty,ao,he⟩:=Wz hc
   rw [he] at ir
   simp only [nV] at ir
   unfold rT at ir
   split at ir
   ·rename_i b0 o0 ha
    rw [he]
    simp only [lr]
    rw [ha]
    exact ⟨_,_,rfl⟩
   ·cases ir
 | call f args=>
  rw [ir] at h
  obtain ⟨v,H',h1,h2,h3,h4⟩:=h hi.iq
  obtain ⟨ajf,er⟩:=Wy ir
  have fE:=acg ir
  exact ⟨v,H',⟨DY hi.iq.wf h1 (acO ajf h2),⟨h3.nx,fun b hb=>h3.get b (hi.sub b hb),fun b hb=>h3.fz b (hi.sub b hb),h3.iq⟩,h3.fz,fun hc=>(by rw [fE] at hc;cases hc),
   fun hc=>(by rw [fE] at hc;cases hc),fun hc=>(by rw [fE] at hc;cases hc),fun hc=>(by rw [fE] at hc;cases hc),fun _=>h3⟩,h4⟩
theorem Qb {n:Nat} {ops:Array Oper} (wq:JA n ops=true):∀(l:List Oper) (i:Nat) (t:Act) (E:Env) (H:ad) (K:Env->ad->Prop),ops.toList.drop i=l->TE n t E->xX X H->
  kX P X (ops.toList.map (·.dst)) l E H K->RO P ops (List.range' i l.length) t H fun e t' H'=>e=.normal/\∃E',TE n t' E'/\KX X H H'/\K E' H'
 | [],i,t,E,H,K,_,ht,hi,h=>adI hi.iq.wf ⟨rfl,E,ht,.refl hi,h⟩
 | o::l,i,t,E,H,K,hd,ht,hi,h=>by
  have ho:ops[i]?=some o:=by
   have:=List.getElem?_drop (xs:=ops.toList) (i:=i) (j:=0)
   rw [hd] at this
   simpa using this.symm
  have Ir:ops.toList.drop (i+1)=l:=by
   rw [<-List.drop_drop,hd];rfl
  rw [List.length_cons,List.range'_succ]
  obtain ⟨ny,fD⟩:=We wq ho
  rw [kX] at h
  split at h
  ·rename_i hw
   obtain ⟨v,H',dE,hk⟩:=W4 ht hi ny h
   have hs:=dE.op
   refine XA ho hs.mw.all ny ?_ ((Qb wq l (i+1) _ _ H' K Ir (ht.put fD v) dE.kx.inv hk).mono fun e t' H2 _ ⟨he,E',h1,h2,h3⟩=>⟨he,E',h1,dE.kx.trans h2,h3⟩)
   unfold tO
   rw [<-MQ ht,if_pos hw]
   exact sx.wide hi.iq.wf hs.mw (fun _ _=>trivial) hs.op
  ·rename_i hw
   refine XA ho (.refl hi.iq.wf) ny ?_ (Qb wq l (i+1) _ _ H K Ir (ht.put fD undef) hi h)
   unfold tO
   rw [<-MQ ht,if_neg hw]
   exact ⟨rfl,rfl⟩
structure PD (P:Program) (ops:Array Oper) (m:Nat) where
 t:Nat->Act
 H:Nat->ad
 v:Nat->Value
 F:Nat->Nat->Prop
 nk:Nat->lX
 wf:(H 0).wf
 step:∀(i:Nat) (o:Oper),i < m->ops[i]?=some o->nk i=none->tO P ops (F i) o (t i) (H i) (v i) (H (i+1))
 put:∀(i:Nat) (o:Oper),i < m->ops[i]?=some o->t (i+1)=(t i).put o.dst (v i)
 mw:∀i,i < m->iR (F i) (H i) (H (i+1))
 gW:∀(i:Nat) (o:Oper),i < m->ops[i]?=some o->o.op.operands.all tp=true
 lt:∀i b,i < m->F i b->b < (H i).next
 HS:∀(i:Nat) (o:Oper),i < m->ops[i]?=some o->Hm P ops (nk i) (F i) o (t i) (H i) (v i) (H (i+1))
def PD.start (ops:Array Oper) (t:Act) (H:ad) (hw:H.wf):PD P ops 0:=⟨fun _=>t,fun _=>H,fun _=>undef,fun _ _=>False,fun _=>none,hw,
 fun i o h=>absurd h (by omega),fun i o h=>absurd h (by omega),fun i h=>absurd h (by omega),fun i o h=>absurd h (by omega),fun i b h=>absurd h (by omega),fun i o h=>absurd h (by omega)⟩
noncomputable def PD.more {ops:Array Oper} {m:Nat} (T:PD P ops m) (o:Oper) (ho:ops[m]?=some o) (F:Nat->Prop) (ob:lX) (v:Value) (H':ad) (h1:ob=none->tO P ops F o (T.t m) (T.H m) v H')
  (h2:iR F (T.H m) H') (h3:o.op.operands.all tp=true) (h4:∀b,F b->b < (T.H m).next) (h5:Hm P ops ob F o (T.t m) (T.H m) v H'):PD P ops (m+1) where
 t:=fun j=>if j<=m then T.t j else (T.t m).put o.dst v
 H:=fun j=>if j<=m then T.H j else H'
 v:=fun j=>if j < m then T.v j else v
 F:=fun j=>if j < m then T.F j else F
 nk:=fun j=>if j < m then T.nk j else ob
 wf:=by rw [if_pos (Nat.zero_le _)];exact T.wf
 step:=fun i o2 hi fD la=>by
  by_cases hc:i < m
  ·have h5:i<=m:=by omega
   have h6:i+1<=m:=by omega
   simp only [hc,h5,h6,if_true] at la ⊢
   exact T.step i o2 hc fD la
  ·obtain rfl:i=m:=by omega
   have h6:¬(i+1<=i):=by omega
   simp only [Nat.lt_irrefl,Nat.le_refl,h6,if_true,if_false] at la ⊢
   rw [ho] at fD;cases fD;exact h1 la
 put:=fun i o2 hi fD=>by
  by_cases hc:i < m
  ·have h5:i<=m:=by omega
   have h6:i+1<=m:=by omega
   simp only [hc,h5,h6,if_true]
   exact T.put i o2 hc fD
  ·obtain rfl:i=m:=by omega
   have h6:¬(i+1<=i):=by omega
   simp only [Nat.lt_irrefl,Nat.le_refl,h6,if_true,if_false]
   rw [ho] at fD;cases fD;rfl
 mw:=fun i hi=>by
  by_cases hc:i < m
  ·have h5:i<=m:=by omega
   have h6:i+1<=m:=by omega
   simp only [hc,h5,h6,if_true]
   exact T.mw i hc
  ·obtain rfl:i=m:=by omega
   have h6:¬(i+1<=i):=by omega
   simp only [Nat.lt_irrefl,Nat.le_refl,h6,if_true,if_false]
   exact h2
 gW:=fun i o2 hi fD=>by
  by_cases hc:i < m
  ·exact T.gW i o2 hc fD
  ·obtain rfl:i=m:=by omega
   rw [ho] at fD;cases fD;exact h3
 lt:=fun i b hi hF=>by
  by_cases hc:i < m
  ·have h5:i<=m:=by omega
   simp only [hc,h5,if_true] at hF ⊢
   exact T.lt i b hc hF
  ·obtain rfl:i=m:=by omega
   simp only [Nat.lt_irrefl,Nat.le_refl,if_true,if_false] at hF ⊢
   exact h4 b hF
 HS:=fun i o2 hi fD=>by
  by_cases hc:i < m
  ·have h5:i<=m:=by omega
   have h6:i+1<=m:=by omega
   simp only [hc,h5,h6,if_true]
   exact T.HS i o2 hc fD
  ·obtain rfl:i=m:=by omega
   have h6:¬(i+1<=i):=by omega
   simp only [Nat.lt_irrefl,Nat.le_refl,h6,if_true,if_false]
   rw [ho] at fD;cases fD;exact h5
def PD.done {ops:Array Oper} (T:PD P ops ops.size):sy P ops where
 t:=T.t
 H:=T.H
 v:=T.v
 F:=T.F
 wf:=T.wf
 nk:=T.nk
 step:=fun i o ho la=>T.step i o (Array.getElem?_eq_some_iff.1 ho).1 ho la
 put:=fun i o ho=>T.put i o (Array.getElem?_eq_some_iff.1 ho).1 ho
 mw:=T.mw
 gW:=fun i o ho=>T.gW i o (Array.getElem?_eq_some_iff.1 ho).1 ho
 lt:=T.lt
 HS:=fun i o ho=>T.HS i o (Array.getElem?_eq_some_iff.1 ho).1 ho
structure Ri (c:Nat) (ob:lX) (F:Nat->Prop) (H H':ad):Prop where
 pure:c=0->H'=H/\∀b,¬F b
 load:c=1->H'=H/\(∀b,¬F b)/\∀b π,ob=some (b,π)->b < H.next
 new:c=2->(∀b,¬F b)/\(H'=H∨∃B,H'=H.push B)
 call:c=3->H'=H∨KX H.fz H H'
 Aa:c≠1->ob=none
 fz:∀b,H.fz b=true->H'.fz b=true
 ajg:∀b,F b->b < H.next
structure Ny (ci:Nat) (obi obk:lX) (Hi Hi' Hk Hk':ad):Prop where
 a:xW obk Hi Hi'
 b:xW obi Hk Hk'
 c:ci=2->Hi'=Hi∨Hk'.get Hi.next=Hk.get Hi.next
structure Ee (P:Program) (ops:Array Oper) (tb:List (Nat × Nat)) (m:Nat) (T:PD P ops m) (acc:List (Nat × Rec)):Prop where
 idx:∀j,j < m->Ri (oA P ops j) (T.nk j) (T.F j) (T.H j) (T.H (j+1))
 two:∀i k,i < k->k < m->(i,k)∈tb->Ny (oA P ops i) (T.nk i) (T.nk k) (T.H i) (T.H (i+1)) (T.H k) (T.H (k+1))
 acc:∀j,j < m->told tb j=true->look acc j=some ⟨T.nk j,if oA P ops j=2 then some (T.H j).next else none,T.H j,T.H (j+1)⟩∨(T.nk j=none/\T.H (j+1)=T.H j)
theorem acW {tb:List (Nat × Nat)} {i k:Nat} (h:(i,k)∈tb):told tb i=true:=by
 unfold told;rw [List.any_eq_true];exact ⟨_,h,by simp⟩
theorem aby {tb:List (Nat × Nat)} {k:Nat} {acc:List (Nat × Rec)} {ob:lX} {H H':ad} (h:tQ tb k acc ob H H'):∀i,(i,k)∈tb->Ki (look acc i) ob H H':=by
 induction tb with
 | nil=>intro i hi;cases hi
 | cons p tb ih=>
  intro i hi
  rw [tQ] at h
  rcases List.mem_cons.1 hi with rfl | hi
  ·have:=h.1;rwa [if_pos rfl] at this
  ·exact ih h.2 i hi
theorem Ee.next {ops:Array Oper} {tb:List (Nat × Nat)} {i:Nat} {T:PD P ops i} {acc qq:List (Nat × Rec)} (d:Ee P ops tb i T acc) {o:Oper} (ho:ops[i]?=some o) {F:Nat->Prop} {ob:lX} {v:Value} {H':ad} (h1:ob=none->tO P ops F o (T.t i) (T.H i) v H')
  (h2:iR F (T.H i) H') (h3:o.op.operands.all tp=true) (h4:∀b,F b->b < (T.H i).next) (h5:Hm P ops ob F o (T.t i) (T.H i) v H')
  (hx:Ri (oA P ops i) ob F (T.H i) H') (ht:∀j,j < i->(j,i)∈tb->Ny (oA P ops j) (T.nk j) ob (T.H j) (T.H (j+1)) (T.H i) H')
  (ha:∀j,j < i->told tb j=true->look qq j=look acc j) (ON:told tb i=true->look qq i=some ⟨ob,if oA P ops i=2 then some (T.H i).next else none,T.H i,H'⟩∨(ob=none/\H'=T.H i)):
  Ee P ops tb (i+1) (T.more o ho F ob v H' h1 h2 h3 h4 h5) qq:=by
 have low:∀j,j < i->(if j<=i then T.H j else H')=T.H j/\(if j+1<=i then T.H (j+1) else H')=T.H (j+1):=fun j hj=>⟨if_pos (by omega),if_pos (by omega)⟩
 refine ⟨fun j hj=>?_,fun j k Fi hk hm=>?_,fun j hj fO=>?_⟩
 ·simp only [PD.more]
  by_cases yA:j < i
  ·rw [if_pos yA,if_pos yA,(low j yA).1,(low j yA).2];exact d.idx j yA
  ·obtain rfl:j=i:=by omega
   rw [if_neg (by omega),if_neg (by omega),if_pos (Nat.le_refl _),if_neg (by omega)];exact hx
 ·simp only [PD.more]
  by_cases OO:k < i
  ·rw [if_pos OO,if_pos (by omega:j < i),(low j (by omega)).1,(low j (by omega)).2,(low k OO).1,(low k OO).2];exact d.two j k Fi OO hm
  ·obtain rfl:k=i:=by omega
   rw [if_pos Fi,if_neg (by omega),(low j Fi).1,(low j Fi).2,if_pos (Nat.le_refl _),if_neg (by omega)];exact ht j Fi hm
 ·simp only [PD.more]
  by_cases yA:j < i
  ·rw [if_pos yA,(low j yA).1,(low j yA).2,ha j yA fO];exact d.acc j yA fO
  ·obtain rfl:j=i:=by omega
   have h6:¬(j+1<=j):=by omega
   simp only [Nat.lt_irrefl,Nat.le_refl,h6,if_true,if_false];exact ON fO
theorem M7 {tb:List (Nat × Nat)} {i:Nat} {r:Rec} {acc:List (Nat × Rec)} {j:Nat} (hj:j < i):look (note tb i r acc) j=look acc j:=by
 unfold note
 split
 ·rw [look,if_neg (by simp only;omega)]
 ·rfl
theorem acX {tb:List (Nat × Nat)} {i:Nat} {r:Rec} {acc:List (Nat × Rec)} (h:told tb i=true):look (note tb i r acc) i=some r:=by
 unfold note
 rw [if_pos h,look,if_pos rfl]
theorem Wh {n:Nat} {ops:Array Oper} {tb:List (Nat × Nat)} (wq:JA n ops=true):∀(l:List Oper) (i:Nat) (acc:List (Nat × Rec)) (E:Env) (K:Env->ad->Prop) (T:PD P ops i),ops.toList.drop i=l->i+l.length=ops.size->Ee P ops tb i T acc->TE n (T.t i) E->xX X (T.H i)->
  iY P X tb (ops.toList.map (·.dst)) l i acc E (T.H i) K->∃(T':PD P ops ops.size) (qq:List (Nat × Rec)),T'.t 0=T.t 0/\T'.H 0=T.H 0/\Ee P ops tb ops.size T' qq/\∃E',TE n (T'.t ops.size) E'/\KX X (T.H i) (T'.H ops.size)/\K E' (T'.H ops.size)
 | [],i,acc,E,K,T,hd,hl,d,ht,hi,h=>by
  obtain rfl:i=ops.size:=by simpa using hl
  exact ⟨T,acc,rfl,rfl,d,E,ht,.refl hi,h⟩
 | o::l,i,acc,E,K,T,hd,hl,d,ht,hi,h=>by
  have ho:ops[i]?=some o:=by
   have:=List.getElem?_drop (xs:=ops.toList) (i:=i) (j:=0)
   rw [hd] at this
   simpa using this.symm
  have Ir:ops.toList.drop (i+1)=l:=by
   rw [<-List.drop_drop,hd];rfl
  have lJ:i+1+l.length=ops.size:=by simp at hl;omega
  obtain ⟨ny,fD⟩:=We wq ho
  have fE:oA P ops i=jE P o.op:=by unfold oA;rw [ho]
  have more:∀(F:Nat->Prop) (ob:lX) (v:Value) (H':ad) (qq:List (Nat × Rec)) (h1:ob=none->tO P ops F o (T.t i) (T.H i) v H') (h2:iR F (T.H i) H') (h4:∀b,F b->b < (T.H i).next) (h5:Hm P ops ob F o (T.t i) (T.H i) v H'),KX X (T.H i) H'->
    Ri (oA P ops i) ob F (T.H i) H'->(∀j,j < i->(j,i)∈tb->Ny (oA P ops j) (T.nk j) ob (T.H j) (T.H (j+1)) (T.H i) H')->(∀j,j < i->told tb j=true->look qq j=look acc j)->
    (told tb i=true->look qq i=some ⟨ob,if oA P ops i=2 then some (T.H i).next else none,T.H i,H'⟩∨(ob=none/\H'=T.H i))->
    iY P X tb (ops.toList.map (·.dst)) l (i+1) qq (nh E o.dst v) H' K->∃(T':PD P ops ops.size) (qq:List (Nat × Rec)),T'.t 0=T.t 0/\T'.H 0=T.H 0/\Ee P ops tb ops.size T' qq/\∃E',TE n (T'.t ops.size) E'/\KX X (T.H i) (T'.H ops.size)/\K E' (T'.H ops.size):=by
   intro F ob v H' qq h1 h2 h4 h5 hkx hx ue ha ON hk
   have et:(T.more o ho F ob v H' h1 h2 ny h4 h5).t (i+1)=(T.t i).put o.dst v:=by simp only [PD.more];rw [if_neg (by omega)]
   have eh:(T.more o ho F ob v H' h1 h2 ny h4 h5).H (i+1)=H':=by simp only [PD.more];rw [if_neg (by omega)]
   have et0:(T.more o ho F ob v H' h1 h2 ny h4 h5).t 0=T.t 0:=by simp only [PD.more];rw [if_pos (Nat.zero_le _)]
   have eh0:(T.more o ho F ob v H' h1 h2 ny h4 h5).H 0=T.H 0:=by simp only [PD.more];rw [if_pos (Nat.zero_le _)]
   obtain ⟨T',ajh,a1,a2,a3,E',a4,a5,a6⟩:=Wh wq l (i+1) qq (nh E o.dst v) K (T.more o ho F ob v H' h1 h2 ny h4 h5) Ir lJ (d.next ho h1 h2 ny h4 h5 hx ue ha ON) (by rw [et];exact ht.put fD v) (by rw [eh];exact hkx.inv) (by rw [eh];exact hk)
   rw [eh] at a5
   exact ⟨T',ajh,by rw [a1,et0],by rw [a2,eh0],a3,E',a4,hkx.trans a5,a6⟩
  rw [iY] at h
  split at h
  ·rename_i hw
   have Fb:Region.wanted o (yielded ops (T.t i).tmps)=true:=by rw [<-MQ ht];exact hw
   obtain ⟨v,H',dE,Zg,hk⟩:=W4 ht hi ny h
   rw [ht.ev] at Zg hk
   have NX:∀ob:lX,ob=lr P (T.t i).eval o.op->∀j,j < i->(j,i)∈tb->Ny (oA P ops j) (T.nk j) ob (T.H j) (T.H (j+1)) (T.H i) H':=fun ob la j hj hm=>by
    have h6:=aby Zg j hm
    rcases d.acc j hj (acW hm) with h7 | ⟨h7,h8⟩
    ·rw [h7] at h6
     obtain ⟨q1,q2,q3⟩:=h6
     refine ⟨la▸q1,q2,fun hc=>?_⟩
     simp only [if_pos hc] at q3
     exact .inr q3
    ·refine ⟨?_,by rw [h7];exact trivial,fun _=>.inl h8⟩
     rw [h8]
     unfold xW
     split
     ·rfl
     ·trivial
   have JY:told tb i=true->look (note tb i ⟨lr P (T.t i).eval o.op,uB P o.op (T.H i),T.H i,H'⟩ acc) i=some ⟨lr P (T.t i).eval o.op,if oA P ops i=2 then some (T.H i).next else none,T.H i,H'⟩:=fun h=>by
    rw [acX h];unfold uB;rw [fE]
   have Rj:∀{F:Nat->Prop},sx P F o (T.t i) (T.H i) v H'->tO P ops F o (T.t i) (T.H i) v H':=fun {F} h=>by
    unfold tO;rw [if_pos Fb];exact h
   by_cases eC:jE P o.op=1
   ·obtain ⟨b,π,la⟩:=dE.ob eC
    obtain ⟨Tw,hq⟩:=dE.load eC
    subst Tw
    refine more (fun _=>False) (lr P (T.t i).eval o.op) v (T.H i) _ (fun he=>by rw [la] at he;cases he) (.refl hi.iq.wf) (fun b hb=>hb.elim) (fun b π hb=>⟨rfl,fun _ h=>h,fun _=>(hq b π hb).2,fun hn=>absurd Fb hn⟩) dE.kx
     ⟨fun hc=>(by rw [fE,eC] at hc;cases hc),fun _=>⟨rfl,fun _ h=>h,fun b π hb=>(hq b π hb).1⟩,fun hc=>(by rw [fE,eC] at hc;cases hc),fun hc=>(by rw [fE,eC] at hc;cases hc),fun hc=>absurd (fE.trans eC) hc,fun _ h=>h,fun b hb=>hb.elim⟩
     (NX _ rfl) (fun j hj _=>M7 hj) (fun h=>.inl (JY h)) hk
   ·have NY:lr P (T.t i).eval o.op=none:=by
     unfold lr
     split
     ·rename_i ty a he;rw [he] at eC;exact absurd rfl eC
     ·rfl
    have Zh:Hm P ops none (fun _=>False) o (T.t i) (T.H i) v H':=fun b π h=>by cases h
    rw [NY] at hk JY
    by_cases jW:jE P o.op=0
    ·obtain ⟨Tw,hs⟩:=dE.pure jW
     exact more (fun _=>False) none v H' _ (fun _=>Rj hs.op) hs.mw (fun b hb=>hb.elim) Zh dE.kx
      ⟨fun _=>⟨Tw,fun _ h=>h⟩,fun hc=>(by rw [fE,jW] at hc;cases hc),fun hc=>(by rw [fE,jW] at hc;cases hc),fun hc=>(by rw [fE,jW] at hc;cases hc),fun _=>rfl,dE.fz,fun b hb=>hb.elim⟩
      (NX _ NY.symm) (fun j hj _=>M7 hj) (fun h=>.inl (JY h)) hk
    ·by_cases ic:jE P o.op=2
     ·obtain ⟨hs,hB⟩:=dE.new ic
      exact more (fun _=>False) none v H' _ (fun _=>Rj hs.op) hs.mw (fun b hb=>hb.elim) Zh dE.kx
       ⟨fun hc=>(by rw [fE,ic] at hc;cases hc),fun hc=>(by rw [fE,ic] at hc;cases hc),fun _=>⟨fun _ h=>h,.inr hB⟩,fun hc=>(by rw [fE,ic] at hc;cases hc),fun _=>rfl,dE.fz,fun b hb=>hb.elim⟩
       (NX _ NY.symm) (fun j hj _=>M7 hj) (fun h=>.inl (JY h)) hk
     ·exact more (fun x=>x < (T.H i).next) none v H' _ (fun _=>Rj dE.op.op) dE.op.mw (fun b hb=>hb) (fun b π h=>by cases h) dE.kx
       ⟨fun hc=>absurd (fE.symm.trans hc) jW,fun hc=>absurd (fE.symm.trans hc) eC,fun hc=>absurd (fE.symm.trans hc) ic,fun hc=>.inr (dE.call (fE.symm.trans hc)),fun _=>rfl,dE.fz,fun b hb=>hb⟩
       (NX _ NY.symm) (fun j hj _=>M7 hj) (fun h=>.inl (JY h)) hk
  ·rename_i hw
   have Fb:¬Region.wanted o (yielded ops (T.t i).tmps)=true:=by rw [<-MQ ht];exact hw
   refine more (fun _=>False) none undef (T.H i) acc ?_ (.refl hi.iq.wf) (fun b hb=>hb.elim) (fun b π h=>by cases h) (.refl hi)
    ⟨fun _=>⟨rfl,fun _ h=>h⟩,fun _=>⟨rfl,fun _ h=>h,fun b π h=>by cases h⟩,fun _=>⟨fun _ h=>h,.inl rfl⟩,fun _=>.inl rfl,fun _=>rfl,fun _ h=>h,fun b hb=>hb.elim⟩
    (fun j hj hm=>⟨trivial,?_,fun _=>.inr rfl⟩) (fun _ _ _=>rfl) (fun _=>.inr ⟨rfl,rfl⟩) h
   ·intro _
    unfold tO
    rw [if_neg Fb]
    exact ⟨rfl,rfl⟩
   ·unfold xW
    split
    ·rfl
    ·trivial
theorem WA {ob:lX} {H H':ad} (h:xW ob H H') {b:Nat} {π:Option ct->Option Value} (la:ob=some (b,π)):π (H'.get b)=π (H.get b):=by
 rw [la] at h;exact h
theorem bS {H:ad} {B:ct} {b:Nat} (h:b < H.next):(H.push B).get b=H.get b:=by
 show (if b=H.next then some B else H.get b)=_
 rw [if_neg (by omega)]
theorem PD.Tx {ops:Array Oper} {m:Nat} (T:PD P ops m) {i k:Nat} (h:i<=k) (hk:k<=m):(T.H i).next<=(T.H k).next:=by
 induction h with
 | refl=>exact Nat.le_refl _
 | @step k K3 ih=>
  have E8:k+1<=m:=hk
  exact Nat.le_trans (ih (by omega)) (T.mw k (by omega)).next
theorem abz {ops:Array Oper} {tb:List (Nat × Nat)} {T:PD P ops ops.size} {acc:List (Nat × Rec)} (d:Ee P ops tb ops.size T acc) (hl:Ng P ops tb=true):Cn T.done:=by
 intro i k K3 hk hb
 unfold Ng at hl
 have h1:=List.all_eq_true.1 (List.all_eq_true.1 hl k (List.mem_range.2 hk)) i (List.mem_range.2 K3)
 rw [Bool.or_eq_true,Bool.or_eq_true] at h1
 have hi:=d.idx i (by omega)
 have hx:=d.idx k hk
 have n1:=T.Tx (show i<=k by omega) (Nat.le_of_lt hk)
 have n2:=T.Tx (show i+1<=k by omega) (Nat.le_of_lt hk)
 have Zi:=d.two i k K3 hk
 generalize oA P ops i=ci at h1 hi Zi
 generalize oA P ops k=ck at h1 hx
 have zp:∀{c:Nat} {ob:lX} {b:Nat} {π:Option ct->Option Value},(c≠1->ob=none)->ob=some (b,π)->c=1:=fun {c ob b π} h he=>by
  by_cases hc:c=1
  ·exact hc
  ·rw [h hc] at he;cases he
 have HT:∀{b},T.H (i+1)=T.H i->¬fresh (T.H i) (T.H (i+1)) b:=fun {b} he hf=>by
  have:=hf.1;have:=hf.2;rw [he] at this;omega
 have RX:∀{b},ck=2->b < (T.H k).next->(T.H (k+1)).get b=(T.H k).get b:=fun {b} hc aZ=>by
  rcases (hx.new hc).2 with h | ⟨B,h⟩
  ·rw [h]
  ·rw [h,bS aZ]
 rcases h1 with (h1 | h1) | h1
 ·exact absurd (MM ops _ _ _ h1) hb
 ·unfold W2 at h1
  simp only [Bool.or_eq_true,Bool.and_eq_true,beq_iff_eq] at h1
  rcases h1 with (((h1 | h1) | h1) | h1) | h1
  ·-- i asks nothing
   obtain ⟨e,hF⟩:=hi.pure h1
   exact ⟨fun b _ _=>by show (T.H (i+1)).get b=_;rw [e];rfl,fun b hb=>(hb.elim (fun h=>absurd h (hF b)) (fun h=>absurd h (HT e))),fun b π _=>by show π ((T.H (i+1)).get b)=_;rw [e];rfl,
    fun b π ho=>by have:=zp hi.Aa ho;omega⟩
  ·obtain ⟨e,hF⟩:=hx.pure h1
   exact ⟨fun b hb=>absurd hb (hF b),fun b _=>by show (T.H (k+1)).get b=_;rw [e];rfl,fun b π ho=>by have:=zp hx.Aa ho;omega,fun b π _=>by show π ((T.H (k+1)).get b)=_;rw [e];rfl⟩
  ·obtain ⟨h1,h2⟩:=h1
   obtain ⟨e,hF,aZ⟩:=hi.load h1
   refine ⟨fun b _ _=>by show (T.H (i+1)).get b=_;rw [e];rfl,fun b hb=>(hb.elim (fun h=>absurd h (hF b)) (fun h=>absurd h (HT e))),fun b π _=>by show π ((T.H (i+1)).get b)=_;rw [e];rfl,fun b π ho=>?_⟩
   show π ((T.H (k+1)).get b)=π ((T.H k).get b)
   rcases h2 with h2 | h2
   ·rw [(hx.load h2).1]
   ·rw [RX h2 (Nat.lt_of_lt_of_le (aZ b π ho) n1)]
  ·obtain ⟨h1,h2⟩:=h1
   obtain ⟨hF,hB⟩:=hi.new h1
   have hold:∀b,b < (T.H i).next->(T.H (i+1)).get b=(T.H i).get b:=fun b aZ=>by
    rcases hB with h | ⟨B,h⟩
    ·rw [h]
    ·rw [h,bS aZ]
   have yB:ck≠1:=by rcases h2 with h | h <;> omega
   have vg:ci≠1:=by omega
   refine ⟨fun b _ aZ=>hold b aZ,fun b hb=>?_,fun b π ho=>absurd (zp hx.Aa ho) yB,fun b π ho=>absurd (zp hi.Aa ho) vg⟩
   have bg:=hb.resolve_left (hF b)
   show (T.H (k+1)).get b=(T.H k).get b
   rcases h2 with h2 | h2
   ·exact RX h2 (Nat.lt_of_lt_of_le bg.2 n2)
   ·rcases hx.call h2 with h | h
    ·rw [h]
    ·refine h.get b ?_
     -- E6 block has auL told since it was made
     have mG:∀j,i+1<=j->j<=k->(T.H j).fz b=true:=by
      intro j hj
      induction hj with
      | refl=>
       intro _
       rcases hB with h | ⟨B,h⟩
       ·exact absurd bg (HT h)
       ·have:b=(T.H i).next:=by
         have h3:(T.H i).next<=b:=bg.1
         have h4:b < (T.H (i+1)).next:=bg.2
         rw [h] at h4
         have h5:b < (T.H i).next+1:=h4
         omega
        rw [h,this]
        show ((T.H i).next==(T.H i).next||(T.H i).fz (T.H i).next)=true
        simp
      | @step j hj ih=>
       intro Fi
       have OK:i+1<=j:=hj
       have auM:j+1<=k:=Fi
       exact (d.idx j (by omega)).fz b (ih (by omega))
     exact mG k (by omega) (Nat.le_refl _)
  ·obtain ⟨h1,h2⟩:=h1
   have yB:ck≠1:=by omega
   have vg:ci≠1:=by rcases h1 with h | h <;> omega
   refine ⟨fun b hb=>absurd hb ((hx.new h2).1 b),fun b hb=>?_,fun b π ho=>absurd (zp hx.Aa ho) yB,fun b π ho=>absurd (zp hi.Aa ho) vg⟩
   refine RX h2 ?_
   rcases hb with hb | hb
   ·exact Nat.lt_of_lt_of_le (hi.ajg b hb) n1
   ·exact Nat.lt_of_lt_of_le hb.2 n2
 ·rw [Bool.and_eq_true] at h1
  obtain ⟨h1,uI⟩:=h1
  have ue:=Zi (by simpa using uI)
  unfold W3 at h1
  simp only [Bool.or_eq_true,Bool.and_eq_true,beq_iff_eq] at h1
  rcases h1 with (h1 | h1) | h1
  ·obtain ⟨h1,h2⟩:=h1
   obtain ⟨e,hF,aZ⟩:=hi.load h1
   have yB:ck≠1:=by rcases h2 with h | h <;> omega
   exact ⟨fun b _ _=>by show (T.H (i+1)).get b=_;rw [e];rfl,fun b hb=>(hb.elim (fun h=>absurd h (hF b)) (fun h=>absurd h (HT e))),fun b π ho=>absurd (zp hx.Aa ho) yB,fun b π ho=>WA ue.b ho⟩
  ·obtain ⟨h1,h2⟩:=h1
   obtain ⟨e,hF,aZ⟩:=hx.load h2
   have vg:ci≠1:=by rcases h1 with (h | h) | h <;> omega
   exact ⟨fun b hb=>absurd hb (hF b),fun b _=>by show (T.H (k+1)).get b=_;rw [e];rfl,fun b π ho=>WA ue.a ho,fun b π ho=>absurd (zp hi.Aa ho) vg⟩
  ·obtain ⟨h1,h2⟩:=h1
   obtain ⟨hF,hB⟩:=hi.new h1
   have yB:ck≠1:=by omega
   have vg:ci≠1:=by omega
   refine ⟨fun b _ aZ=>?_,fun b hb=>?_,fun b π ho=>absurd (zp hx.Aa ho) yB,fun b π ho=>absurd (zp hi.Aa ho) vg⟩
   ·show (T.H (i+1)).get b=(T.H i).get b
    rcases hB with h | ⟨B,h⟩
    ·rw [h]
    ·rw [h];exact bS aZ
   ·have bg:=hb.resolve_left (hF b)
    rcases ue.c h1 with h | h
    ·exact absurd bg (HT h)
    ·rcases hB with h3 | ⟨B,h3⟩
     ·exact absurd bg (HT h3)
     ·have:b=(T.H i).next:=by
       have h4:(T.H i).next<=b:=bg.1
       have h5:b < (T.H (i+1)).next:=bg.2
       rw [h3] at h5
       have h6:b < (T.H i).next+1:=h5
       omega
      rw [this];exact h
def Ey (X:Nat->Bool) (n:Nat) (H:ad) (Q:Exit->Env->ad->Prop) (e:Exit) (t':Act) (H':ad):Prop:=∃E',TE n t' E'/\KX X H H'/\Q e E' H'
theorem W5 (hm:P.follows .mixedOrders=true) {T:oc} {n id:Nat} {ops:Array Oper} {draw:Bool} {t:Act} {E:Env} {H:ad} {Q:Exit->Env->ad->Prop} (hc:me P T n (.region id ops draw)=true) (ht:TE n t E) (hi:xX X H)
  (h:wC P X T (.region id ops draw) E H Q):RC P (.region id ops draw) t H (Ey X n H Q):=by
 simp only [me,Bool.and_eq_true,Bool.or_eq_true] at hc
 obtain ⟨wq,cB⟩:=hc
 cases draw with
 | false=>
  rw [wC] at h
  refine abg ?_
  have:=Qb (P:=P) (X:=X) wq ops.toList 0 t E H (Q .normal) rfl ht hi h
  rw [List.range_eq_range']
  have e:ops.toList.length=ops.size:=by simp
  rw [e] at this
  exact this.mono fun e t' H' _ ⟨he,E',h1,h2,h3⟩=>by subst he;exact ⟨E',h1,h2,h3⟩
 | true=>
  rw [wC] at h
  have tT:MK ops=true/\Ng P ops (zZ T id)=true:=by simpa using cB
  obtain ⟨T',qq,e1,e2,d,E',h1,h2,h3⟩:=Wh (P:=P) (X:=X) wq ops.toList 0 [] E (Q .normal) (PD.start ops t H hi.iq.wf) rfl (by simp) ⟨fun j hj=>absurd hj (Nat.not_lt_zero j),fun j k _ hk=>absurd hk (Nat.not_lt_zero k),fun j hj=>absurd hj (Nat.not_lt_zero j)⟩ ht hi h
  have Zj:=aaz T'.done hm (aaw tT.1) (abz d tT.2) id
  have h7:T'.done.t 0=t:=e1
  have h8:T'.done.H 0=H:=e2
  rw [h7,h8] at Zj
  have h9:iR dN H (T'.H ops.size):=⟨h2.nx,h2.iq.wf,fun b _ hn=>absurd trivial hn⟩
  exact ⟨.normal,T'.t ops.size,T'.H ops.size,h9,Zj,E',h1,h2,h3⟩
theorem Ey.after {n:Nat} {H H1:ad} {Q:Exit->Env->ad->Prop} {e:Exit} {t':Act} {H':ad} (h:KX X H H1) (h':Ey X n H1 Q e t' H'):Ey X n H Q e t' H':=by
 obtain ⟨E',h1,h2,h3⟩:=h'
 exact ⟨E',h1,h.trans h2,h3⟩
theorem W6 (hm:P.follows .mixedOrders=true) {T:oc} {n:Nat}:∀(c:Code) (t:Act) (E:Env) (H:ad) (Q:Exit->Env->ad->Prop),me P T n c=true->TE n t E->xX X H->wC P X T c E H Q->RC P c t H (Ey X n H Q):=by
 intro c
 induction c with
 | skip=>intro t E H Q _ ht hi h;exact Xv hi.iq.wf ⟨E,ht,.refl hi,h⟩
 | label l=>intro t E H Q _ ht hi h;exact WR hi.iq.wf ⟨E,ht,.refl hi,h⟩
 | exit id=>intro t E H Q _ ht hi h;exact Xw hi.iq.wf ⟨E,ht,.refl hi,h⟩
 | ret=>intro t E H Q _ ht hi h;exact X0 hi.iq.wf ⟨E,ht,.refl hi,h⟩
 | region id ops draw=>intro t E H Q hc ht hi h;exact W5 hm hc ht hi h
 | seq a b eY lY=>
  intro t E H Q hc ht hi h
  simp only [me,Bool.and_eq_true] at hc
  rw [wC] at h
  refine QP ((eY t E H _ hc.1 ht hi h).mono fun e t' H' _ hf=>?_)
  obtain ⟨E',h1,h2,h3⟩:=hf
  cases e with
  | normal=>exact (lY t' E' H' Q hc.2 h1 h2.inv h3).mono fun e2 t2 H2 _ ry=>ry.after h2
  | _=>exact ⟨E',h1,h2,h3⟩
 | cond x a b eY lY=>
  intro t E H Q hc ht hi h
  simp only [me,Bool.and_eq_true] at hc
  rw [wC] at h
  unfold AZ at h
  split at h
  ·rename_i v hx
   rw [ht.ev] at hx
   refine Xz hx hc.1.1 ?_
   cases v
   ·exact lY t E H Q hc.2 ht hi h
   ·exact eY t E H Q hc.1.2 ht hi h
  ·exact h.elim
 | block id a eY=>
  intro t E H Q hc ht hi h
  rw [wC] at h
  refine WS ((eY t E H _ hc ht hi h).mono fun e t' H' _ hf=>?_)
  obtain ⟨E',h1,h2,h3⟩:=hf
  cases e with
  | exit i=>
   simp only [uK] at h3
   simp only
   split
   ·rename_i he;rw [if_pos he] at h3;exact ⟨E',h1,h2,h3⟩
   ·rename_i he;rw [if_neg he] at h3;exact ⟨E',h1,h2,h3⟩
  | _=>exact ⟨E',h1,h2,h3⟩
 | loop a eY=>
  intro t E H Q hc ht hi h
  rw [wC] at h
  obtain ⟨m,h⟩:=h
  refine Xy ?_
  induction m generalizing t E H with
  | zero=>exact h.elim
  | succ m ih=>
   rw [pC] at h
   refine Xx ((eY t E H _ hc ht hi h).mono fun e t' H' _ hf=>?_)
   obtain ⟨E',h1,h2,h3⟩:=hf
   cases e with
   | normal=>exact (ih t' E' H' h1 h2.inv h3).mono fun e2 t2 H2 _ ry=>ry.after h2
   | _=>exact ⟨E',h1,h2,h3⟩
 | rangeFunc f ps x y=>intro t E H Q hc;cases hc
 | scope b=>intro t E H Q hc;cases hc
 | goto l=>intro t E H Q hc;cases hc
 | refuse w=>intro t E H Q hc;cases hc
theorem W7 {n:Nat} {t:Act} {E:Env} {H:ad} (hw:H.wf) (ht:TE n t E) {σ:bw} {w:World} {a:Act} (hr:Rel P σ dN H.get w) (Fh:TR σ t a):
  ∀{rs:List ResultVar} {l:List Value},wu P rs E H=some l->∃l',VL σ l l'/\(rs.mapM (OJ a)).run P w=.ok l' w
 | [],l,hh=>by cases hh;exact ⟨[],.nil σ,by simp⟩
 | r::rs,l,hh=>by
  have h2:=hh
  rw [wu] at h2
  clear hh
  split at h2
  ·rename_i l0 Bl
   obtain ⟨l',hv,eg⟩:=W7 hw ht hr Fh Bl
   split at h2
   ·rename_i d
    cases h2
    refine ⟨a.tmps.getD d undef::l',.cons ?_ hv,?_⟩
    ·rw [<-ht.get];exact Fh.tm.at d
    ·rw [List.mapM_cons]
     simp only [Sem.run_bind,OJ,Sem.run_pure,Result.andThen_ok,eg]
   ·rename_i d ty
    split at h2
    ·rename_i v h3 hl
     cases h2
     have zX:VR σ (E d) (a.tmps.getD d undef):=by rw [<-ht.get];exact Fh.tm.at d
     unfold rT at hl
     split at hl
     ·rename_i b off ha
      rw [ha] at zX
      obtain ⟨L,⟨hL,gX⟩,had⟩:=zX.GK
      split at hl
      ·rename_i v0 qz
       cases hl
       obtain ⟨v',Fa,agI⟩:=QE qz trivial hr hL gX
       refine ⟨v'::l',.cons Fa hv,?_⟩
       rw [List.mapM_cons]
       simp only [Sem.run_bind,OJ,had,asAddr,Sem.run_pure,Result.andThen_ok,agI,eg]
      ·cases hl
     ·cases hl
    ·cases h2
  ·cases h2
theorem W8 {n:Nat} {t:Act} {E:Env} {H:ad} {fn:Func} {l:List Value} (hw:H.wf) (ht:TE n t E) (hl:wu P fn.results.toList E H=some l):Y7 P fn t H (HR l):=by
 intro σ w a hr Fh
 obtain ⟨l',hv,eg⟩:=W7 hw ht hr Fh hl
 have hm:(results fn a.tmps).run P w=.ok (if h:l'.toArray.size=1 then l'.toArray[0] else .tuple l'.toArray) w:=by
  have e:results fn a.tmps=(do let vs<-fn.results.mapM (OJ a);pure (if h:vs.size=1 then vs[0] else .tuple vs)):=rfl
  rw [e,Sem.run_bind,Array.mapM_eq_mapM_toList,Sem.run_map,eg]
  rfl
 refine ⟨_,hm,?_⟩
 unfold HR
 split
 ·rename_i v
  obtain ⟨v',a',rfl,sB,ha⟩:=hv.of_cons
  rw [ha.of_nil]
  exact sB
 ·rename_i dk
  have hlen:=hv.1
  have:¬l'.toArray.size=1:=by
   intro h1
   have h2:l.length=1:=by simpa [hlen] using h1
   obtain ⟨v,rfl⟩:=List.length_eq_one_iff.1 h2
   exact dk v rfl
  rw [dif_neg this]
  exact .tuple hv.wJ.1 hv.wJ.2
theorem W9 {fn:Func} {args:Array Value} (hle:args.size<=fn.ntmps):TE fn.ntmps (start fn args) (cb args.toList):=by
 refine ⟨fun i=>?_,by simp [start];omega,rfl⟩
 simp only [start,cb]
 by_cases hi:i < args.size
 ·simp [Array.getD,hi,Array.getElem_append,List.getD_eq_getElem?_getD,Nat.lt_add_right _ hi]
 ·by_cases iK:i < args.size+(fn.ntmps - args.size)
  ·simp [Array.getD,hi,iK,Array.getElem_append]
  ·simp [Array.getD,hi,iK]
def bI (P:Program) (T:oc) (f:Nat):Bool:=match P.funcs[f]? with
 | some fn=>(match fn.body with
  | some c=>me P T fn.ntmps c
  | none=>false)
 | none=>false
theorem adO {f:FuncId} (T:oc) {fn:Func} {c:Code} {l:List Value} {H:ad} {K:Value->ad->Prop} (hm:P.follows .mixedOrders=true) (hf:P.funcs[f]?=some fn) (hb:fn.body=some c) (hc:me P T fn.ntmps c=true)
  (hl:l.length<=fn.ntmps) (h:bW H->wC P H.fz T c (cb l) H (cm P fn.results.toList K)):aj P f l.toArray H K:=by
 intro zB
 have hi:xX H.fz H:=⟨zB,fun _ h=>h⟩
 have iu:=W6 (T:=T) hm c (start fn l.toArray) (cb l) H _ hc (W9 (by simpa using hl)) hi (h zB)
 have vc:Tj P f l.toArray H fun v H'=>KX H.fz H H'/\K v H':=by
  refine Yi hf hb (iu.mono fun e t' H' _ hE=>?_)
  obtain ⟨E',h1,h2,h3⟩:=hE
  have Rk:∀{e:Exit},cm P fn.results.toList K e E' H'->(e=.normal∨e=.ret)/\A0 P fn.results.toList E' H' K:=fun {e} hq=>by
   cases e with
   | normal=>exact ⟨.inl rfl,hq⟩
   | ret=>exact ⟨.inr rfl,hq⟩
   | _=>exact hq.elim
  obtain ⟨he,hw⟩:=Rk h3
  refine ⟨he,?_⟩
  unfold A0 at hw
  split at hw
  ·rename_i vs po
   exact ⟨_,W8 h2.iq.wf h1 po,h2,hw⟩
  ·exact hw.elim
 obtain ⟨v,H',h1,h2,h3,h4⟩:=vc
 exact ⟨v,H',h1,h2,h3,h4⟩
theorem Ju {T:oc} {f:FuncId} {fn:Func} (h:bI P T f=true) (hf:P.funcs[f]?=some fn):∃c,fn.body=some c/\me P T fn.ntmps c=true:=by
 unfold bI at h
 rw [hf] at h
 simp only at h
 split at h
 ·rename_i c hc;exact ⟨c,hc,h⟩
 ·cases h
theorem cE {f:FuncId} {fn:Func} {l:List Value} {H:ad} {K:Value->ad->Prop} (T:oc) (hm:P.follows .mixedOrders=true) (hf:P.funcs[f]?=some fn) (hc:bI P T f=true) {m:Nat} (hl:l.length<=m) (hn:m<=fn.ntmps) {rs:List ResultVar} (hr:fn.results.toList=rs)
  (h:bW H->wC P H.fz T (fn.body.getD .skip) (cb l) H (cm P rs K)):aj P f l.toArray H K:=by
 obtain ⟨c,hb,hc⟩:=Ju hc hf
 rw [hb] at h
 exact adO T hm hf hb hc (Nat.le_trans hl hn) (hr▸h)
end
end Go.Proofs.YtinjmfblebpnnaaGreat.Ab
namespace Go.Proofs.YtinjmfblebpnnaaGreat.Ab
open Go Classical
universe u
inductive Tag {α:Sort u} (a:α):Type
 | mk
def CM (b:Bool) (x y:Prop) (_:Tag x) (_:Tag y):Prop:=if b=true then x else y
section
variable {P:Program} {X:Nat->Bool} {T:oc} {E:Env} {H:ad} {Q:Exit->Env->ad->Prop}
@[go_sem] theorem amA {x y:Prop} {t:Tag x} {s:Tag y}:CM true x y t s=x:=nr rfl
@[go_sem] theorem amg {x y:Prop} {t:Tag x} {s:Tag y}:CM false x y t s=y:=by simp [CM]
@[congr] theorem amh {b b':Bool} {x y:Prop} {t:Tag x} {s:Tag y} (h:b=b'):CM b x y t s=CM b' x y t s:=by rw [h]
def Kj (v:Value) (x y:Prop) (_:Tag x) (_:Tag y):Prop:=AZ v x y
@[congr] theorem ami {v v':Value} {x y:Prop} {t:Tag x} {s:Tag y} (h:v=v'):Kj v x y t s=Kj v' x y t s:=by rw [h]
@[go_sem] theorem amB {b:Bool} {x y:Prop} {t:Tag x} {s:Tag y}:Kj (.bool b) x y t s=CM b x y t s:=nr rfl
@[go_sem ↓] theorem apY:wC P X T .skip E H Q=Q .normal E H:=nr rfl
@[go_sem ↓] theorem apZ {i:Nat}:wC P X T (.exit i) E H Q=Q (.exit i) E H:=nr rfl
@[go_sem ↓] theorem ar7:wC P X T .ret E H Q=Q .ret E H:=nr rfl
@[go_sem ↓] theorem ar8 {a b:Code}:wC P X T (.seq a b) E H Q=wC P X T a E H (oB (fun E H=>wC P X T b E H Q) Q):=nr rfl
@[go_sem ↓] theorem aoG {id:Nat} {a:Code}:wC P X T (.block id a) E H Q=wC P X T a E H (uK id Q):=nr rfl
@[go_sem ↓] theorem ap0 {c:Operand} {a b:Code}:wC P X T (.cond c a b) E H Q=Kj (jr E c) (wC P X T a E H Q) (wC P X T b E H Q) .mk .mk:=nr rfl
@[go_sem ↓] theorem anb {id:Nat} {l:List Oper}:wC P X T (.region id (List.toArray l) false) E H Q=kX P X (l.map (·.dst)) l E H (Q .normal):=nr rfl
theorem WB:∀(ds:List (Option Nat)) (l:List Oper) (k:Nat) (acc:List (Nat × Rec)) (E:Env) (H:ad) (K:Env->ad->Prop),iY P X [] ds l k acc E H K=kX P X ds l E H K
 | ds,[],k,acc,E,H,K=>rfl
 | ds,o::l,k,acc,E,H,K=>by
  rw [iY,kX]
  simp only [WB ds l,tQ,true_and]
noncomputable def Hw (P:Program) (X:Nat->Bool) (tb:List (Nat × Nat)) (l:List Oper) (E:Env) (H:ad) (K:Env->ad->Prop):Prop:=iY P X tb (l.map (·.dst)) l 0 [] E H K
@[congr] theorem al4 {tb tb':List (Nat × Nat)} {l:List Oper} {K:Env->ad->Prop} (h:tb=tb'):Hw P X tb l E H K=Hw P X tb' l E H K:=by rw [h]
@[go_sem ↓] theorem ap1 {id:Nat} {l:List Oper}:wC P X T (.region id (List.toArray l) true) E H Q=Hw P X (zZ T id) l E H (Q .normal):=nr rfl
@[go_sem] theorem amj {l:List Oper} {K:Env->ad->Prop}:Hw P X [] l E H K=kX P X (l.map (·.dst)) l E H K:=WB _ _ _ _ _ _ _
@[go_sem] theorem al5 {p:Nat × Nat} {tb:List (Nat × Nat)} {l:List Oper} {K:Env->ad->Prop}:Hw P X (p::tb) l E H K=iY P X (p::tb) (l.map (·.dst)) l 0 [] E H K:=nr rfl
@[go_sem] theorem aoH {id:Nat}:zZ [] id=[]:=nr rfl
@[go_sem] theorem anc {p:Nat × List (Nat × Nat)} {T:oc} {id:Nat}:zZ (p::T) id=if p.1=id then p.2 else zZ T id:=nr rfl
@[congr] theorem al6 {tb:List (Nat × Nat)} {ds ds':List (Option Nat)} {l:List Oper} {k k':Nat} {acc qq:List (Nat × Rec)} {K:Env->ad->Prop} (h:ds=ds') (hk:k=k') (ha:acc=qq):iY P X tb ds l k acc E H K=iY P X tb ds' l k' qq E H K:=by rw [h,hk,ha]
@[go_sem] theorem al2 {k:Env->ad->Prop}:oB k Q .normal E H=k E H:=nr rfl
@[go_sem] theorem amC {k:Env->ad->Prop}:oB k Q .ret E H=Q .ret E H:=nr rfl
@[go_sem] theorem amk {k:Env->ad->Prop} {i:Nat}:oB k Q (.exit i) E H=Q (.exit i) E H:=nr rfl
@[go_sem] theorem al7 {id:Nat}:uK id Q .normal E H=Q .normal E H:=nr rfl
@[go_sem] theorem ane {id:Nat}:uK id Q .ret E H=Q .ret E H:=nr rfl
@[go_sem] theorem amD {id i:Nat}:uK id Q (.exit i) E H=if i=id then Q .normal E H else Q (.exit i) E H:=nr rfl
def el (P:Program) (X:Nat->Bool) (H:ad) (r:AO) (K:Value->ad->Prop) (_:Tag K):Prop:=match r with
 | .ok v H'=>(∀b,b < H.next->X b=true->H'.get b=H.get b)/\K v H'
 | .call f args=>aj P f args H K
 | .no=>False
def af (P:Program) (f:FuncId) (args:Array Value) (H:ad) (K:Value->ad->Prop) (_:Tag K):Prop:=aj P f args H K
theorem af.by {P:Program} {f:FuncId} {args:Array Value} {H:ad} {K K':Value->ad->Prop} {t:Tag K} (h:aj P f args H K') (hk:∀v H',KX H.fz H H'->K' v H'->K v H'):af P f args H K t:=h.mono hk
@[congr] theorem aml {r r':AO} {K:Value->ad->Prop} {t:Tag K} (h:r=r'):el P X H r K t=el P X H r' K t:=by rw [h]
@[congr] theorem amE {f:FuncId} {args Cv:Array Value} {K:Value->ad->Prop} {t:Tag K} (h:args=Cv):af P f args H K t=af P f Cv H K t:=by rw [h]
@[go_sem] theorem ach {v:Value} {K:Value->ad->Prop} {t:Tag K}:el P X H (.ok v H) K t=K v H:=propext ⟨fun h=>h.2,fun h=>⟨fun _ _ _=>rfl,h⟩⟩
@[go_sem] theorem wa {v:Value} {B:ct} {K:Value->ad->Prop} {t:Tag K}:el P X H (.ok v (H.push B)) K t=K v (H.push B):=propext ⟨fun h=>h.2,fun h=>⟨fun b hb _=>bS hb,h⟩⟩
@[go_sem] theorem DZ {v:Value} {b:Nat} {B:ct} {K:Value->ad->Prop} {t:Tag K} (hx:X b=false):el P X H (.ok v (H.ah b B)) K t=K v (H.ah b B):=propext ⟨fun h=>h.2,fun h=>⟨fun c _ hc=>by
 show (if c=b then some B else H.get c)=_
 rw [if_neg (fun e=>by rw [e,hx] at hc;cases hc)],h⟩⟩
@[go_sem] theorem Jv {v:Value} {b:Nat} {B:ct} {K:Value->ad->Prop} {t:Tag K} (hx:X b=false):el P X H (.ok v (H.grow b B)) K t=K v (H.grow b B):=propext ⟨fun h=>h.2,fun h=>⟨fun c hc Is=>by
 show (if c=H.next then some B else if c=b then none else H.get c)=_
 rw [if_neg (by omega),if_neg (fun e=>by rw [e,hx] at Is;cases Is)],h⟩⟩
@[go_sem] theorem amm {v:Value} {B C:ct} {K:Value->ad->Prop} {t:Tag K} (hx:X H.next=false):el P X (H.push B) (.ok v (H.push C)) K t=K v (H.push C):=propext ⟨fun h=>h.2,fun h=>⟨fun c _ Is=>by
 show (if c=H.next then some C else H.get c)=(if c=H.next then some B else H.get c)
 have:c≠H.next:=fun e=>by rw [e,hx] at Is;cases Is
 rw [if_neg this,if_neg this],h⟩⟩
@[go_sem] theorem anf {f:FuncId} {args:Array Value} {K:Value->ad->Prop} {t:Tag K}:el P X H (.call f args) K t=af P f args H K t:=nr rfl
@[go_sem ↓] theorem ang {ds:List (Option Nat)} {K:Env->ad->Prop}:kX P X ds [] E H K=K E H:=nr rfl
@[go_sem ↓] theorem aoI {ds:List (Option Nat)} {d:Option Nat} {op:Op} {ty:TypeId} {pos:String} {Bm:Array Edge} {l:List Oper} {K:Env->ad->Prop}:
  kX P X ds (⟨d,op,ty,pos,Bm,none⟩::l) E H K=fx P X (jr E) op H (fun v H=>kX P X ds l (nh E d v) H K):=by rw [kX];simp [Hv]
@[go_sem ↓] theorem amn {ds:List (Option Nat)} {d:Option Nat} {op:Op} {ty:TypeId} {pos:String} {Bm:Array Edge} {l:List Oper} {j:Nat} {want:Bool} {K:Env->ad->Prop}:
  kX P X ds (⟨d,op,ty,pos,Bm,some (j,want)⟩::l) E H K=CM (zA E want ds[j]?) (fx P X (jr E) op H (fun v H=>kX P X ds l (nh E d v) H K)) (kX P X ds l (nh E d undef) H K) .mk .mk:=by rw [kX];rfl
@[go_sem ↓] theorem amF {tb:List (Nat × Nat)} {ds:List (Option Nat)} {k:Nat} {acc:List (Nat × Rec)} {K:Env->ad->Prop}:iY P X tb ds [] k acc E H K=K E H:=nr rfl
def AR (tb:List (Nat × Nat)) (k:Nat):Bool:=tb.any fun p=>p.2==k
theorem aci {tb:List (Nat × Nat)} {k:Nat} {acc:List (Nat × Rec)} {ob:lX} {H H':ad} (h:AR tb k=false):tQ tb k acc ob H H'=True:=by
 induction tb with
 | nil=>rfl
 | cons p tb ih=>
  simp only [AR,List.any_cons,Bool.or_eq_false_iff] at h
  have h1:¬p.2=k:=by simpa using h.1
  rw [tQ,if_neg h1,ih h.2];simp
noncomputable def uf (P:Program) (X:Nat->Bool) (b1 b2:Bool) (tb:List (Nat × Nat)) (ds:List (Option Nat)) (d:Option Nat) (op:Op) (l:List Oper) (k:Nat) (acc:List (Nat × Rec)) (E:Env) (H:ad) (K:Env->ad->Prop) (_:Tag (l,op,K,E)):Prop:=
 fx P X (jr E) op H (fun v H'=>(if b2=true then tQ tb k acc (lr P (jr E) op) H H' else True)/\iY P X tb ds l (k+1) (if b1=true then (k,⟨lr P (jr E) op,uB P op H,H,H'⟩)::acc else acc) (nh E d v) H' K)
@[congr] theorem amG {b1 b1' b2 b2':Bool} {tb:List (Nat × Nat)} {ds:List (Option Nat)} {d:Option Nat} {op:Op} {l:List Oper} {k:Nat} {acc:List (Nat × Rec)} {K:Env->ad->Prop} {t:Tag (l,op,K,E)} (h1:b1=b1') (h2:b2=b2'):uf P X b1 b2 tb ds d op l k acc E H K t=uf P X b1' b2' tb ds d op l k acc E H K t:=by rw [h1,h2]
theorem X2 {tb:List (Nat × Nat)} {ds:List (Option Nat)} {d:Option Nat} {op:Op} {l:List Oper} {k:Nat} {acc:List (Nat × Rec)} {K:Env->ad->Prop}:
  fx P X (jr E) op H (fun v H'=>tQ tb k acc (lr P (jr E) op) H H'/\iY P X tb ds l (k+1) (note tb k ⟨lr P (jr E) op,uB P op H,H,H'⟩ acc) (nh E d v) H' K)=uf P X (told tb k) (AR tb k) tb ds d op l k acc E H K .mk:=by
 unfold uf note
 cases hc:AR tb k
 ·simp only [aci hc,Bool.false_eq_true,if_false]
 ·simp only [if_true]
@[go_sem] theorem ap2 {tb:List (Nat × Nat)} {ds:List (Option Nat)} {d:Option Nat} {op:Op} {l:List Oper} {k:Nat} {acc:List (Nat × Rec)} {K:Env->ad->Prop} {t:Tag (l,op,K,E)}:uf P X false false tb ds d op l k acc E H K t=fx P X (jr E) op H (fun v H'=>iY P X tb ds l (k+1) acc (nh E d v) H' K):=by
 unfold uf;simp
@[go_sem] theorem ap3 {tb:List (Nat × Nat)} {ds:List (Option Nat)} {d:Option Nat} {op:Op} {l:List Oper} {k:Nat} {acc:List (Nat × Rec)} {K:Env->ad->Prop} {t:Tag (l,op,K,E)}:uf P X true false tb ds d op l k acc E H K t=fx P X (jr E) op H (fun v H'=>iY P X tb ds l (k+1) ((k,⟨lr P (jr E) op,uB P op H,H,H'⟩)::acc) (nh E d v) H' K):=by
 unfold uf;simp
@[go_sem] theorem ap4 {tb:List (Nat × Nat)} {ds:List (Option Nat)} {d:Option Nat} {op:Op} {l:List Oper} {k:Nat} {acc:List (Nat × Rec)} {K:Env->ad->Prop} {t:Tag (l,op,K,E)}:uf P X false true tb ds d op l k acc E H K t=fx P X (jr E) op H (fun v H'=>tQ tb k acc (lr P (jr E) op) H H'/\iY P X tb ds l (k+1) acc (nh E d v) H' K):=by
 unfold uf;simp
@[go_sem] theorem ap5 {tb:List (Nat × Nat)} {ds:List (Option Nat)} {d:Option Nat} {op:Op} {l:List Oper} {k:Nat} {acc:List (Nat × Rec)} {K:Env->ad->Prop} {t:Tag (l,op,K,E)}:uf P X true true tb ds d op l k acc E H K t=fx P X (jr E) op H (fun v H'=>tQ tb k acc (lr P (jr E) op) H H'/\iY P X tb ds l (k+1) ((k,⟨lr P (jr E) op,uB P op H,H,H'⟩)::acc) (nh E d v) H' K):=by
 unfold uf;simp
@[go_sem ↓] theorem anh {tb:List (Nat × Nat)} {ds:List (Option Nat)} {d:Option Nat} {op:Op} {ty:TypeId} {pos:String} {Bm:Array Edge} {l:List Oper} {k:Nat} {acc:List (Nat × Rec)} {K:Env->ad->Prop}:
  iY P X tb ds (⟨d,op,ty,pos,Bm,none⟩::l) k acc E H K=uf P X (told tb k) (AR tb k) tb ds d op l k acc E H K .mk:=by
 rw [<-X2,iY];simp [Hv]
@[go_sem ↓] theorem al8 {tb:List (Nat × Nat)} {ds:List (Option Nat)} {d:Option Nat} {op:Op} {ty:TypeId} {pos:String} {Bm:Array Edge} {l:List Oper} {k:Nat} {acc:List (Nat × Rec)} {j:Nat} {want:Bool} {K:Env->ad->Prop}:
  iY P X tb ds (⟨d,op,ty,pos,Bm,some (j,want)⟩::l) k acc E H K=CM (zA E want ds[j]?) (uf P X (told tb k) (AR tb k) tb ds d op l k acc E H K .mk) (iY P X tb ds l (k+1) acc (nh E d undef) H K) .mk .mk:=by rw [<-X2,iY];rfl
@[go_sem] theorem amH {i:Nat}:AR [] i=false:=nr rfl
@[go_sem] theorem amo {p:Nat × Nat} {tb:List (Nat × Nat)} {i:Nat}:AR (p::tb) i=(p.2==i||AR tb i):=nr rfl
attribute [go_sem] acP adL
@[congr] theorem al9 {want:Bool} {d d':Option (Option Nat)} (h:d=d'):zA E want d=zA E want d':=by rw [h]
@[go_sem] theorem amp {want:Bool} {d:Nat}:zA E want (some (some d))=Ht (E d) want:=nr rfl
@[go_sem] theorem amq {b w:Bool}:Ht (.bool b) w=(b==w):=nr rfl
@[go_sem] theorem ap6 {b:Bool}:(b==true)=b:=by cases b <;> rfl
@[go_sem] theorem ap7 {b:Bool}:(b==false)=!b:=by cases b <;> rfl
attribute [go_sem] Bool.not_true Bool.not_false List.getElem?_cons_succ List.getElem?_cons_zero
@[go_sem ↓] theorem aoJ {i:Nat}:jr E (.tmp i)=E i:=nr rfl
@[go_sem ↓] theorem amI {v:Value}:jr E (.const v)=v:=nr rfl
@[go_sem ↓] theorem ani {f:FuncId}:jr E (.func f)=.func (.func f) #[] #[]:=nr rfl
@[go_sem ↓] theorem amJ {v:Value}:nh E none v=E:=nr rfl
@[go_sem ↓] theorem amK {d:Nat} {v:Value}:nh E (some d) v d=v:=if_pos rfl
@[go_sem ↓] theorem amr {d i:Nat} {v:Value} (h:i≠d):nh E (some d) v i=E i:=if_neg h
@[go_sem] theorem anj {l:List Value} {i:Nat}:cb l i=l.getD i undef:=nr rfl
attribute [go_sem] List.getD_cons_zero List.getD_cons_succ ne_eq not_false_eq_true Nat.reduceEqDiff
section ops
variable {K:Value->ad->Prop} {ev:Operand->Value}
@[go_sem ↓] theorem ap8 {x:Operand}:fx P X ev (.move x) H K=el P X H (.ok (ev x) H) K .mk:=nr rfl
@[go_sem ↓] theorem ank {x:Operand}:fx P X ev (.assign x) H K=el P X H (.ok (ev x) H) K .mk:=nr rfl
@[go_sem ↓] theorem ap9 {c a b:Operand}:fx P X ev (.pick c a b) H K=el P X H (hU (Cu (ev c) (ev a) (ev b) h0) H) K .mk:=nr rfl
@[go_sem ↓] theorem aoK {t:TypeId}:fx P X ev (.alloc t) H K=el P X H (Cp P t H) K .mk:=nr rfl
@[go_sem ↓] theorem ar9 {t:TypeId} {x:Operand}:fx P X ev (.box t x) H K=el P X H (ri (ev x).cells.toList t false ptrTo H) K .mk:=nr rfl
@[go_sem ↓] theorem aoL {t:TypeId} {l:List (Nat × Operand)}:fx P X ev (.build t (List.toArray l)) H K=el P X H (hU (fH P t (parts ev l) h0) H) K .mk:=nr rfl
@[go_sem ↓] theorem al3 {t:TypeId} {n:Nat} {l:List (Nat × Operand)}:fx P X ev (.buildSlice t n (List.toArray l)) H K=el P X H (rL P t n (parts ev l) H) K .mk:=nr rfl
@[go_sem ↓] theorem aqa {t:TypeId} {a:Operand}:fx P X ev (.load t a) H K=el P X H (rT P t (ev a) H) K .mk:=nr rfl
@[go_sem ↓] theorem aoM {t:TypeId} {a x:Operand}:fx P X ev (.store t a x) H K=el P X H (AJ P t (ev a) (ev x) H) K .mk:=nr rfl
@[go_sem ↓] theorem asa {x:Operand}:fx P X ev (.nilCheck x) H K=el P X H (hU (CJ (ev x) h0) H) K .mk:=nr rfl
@[go_sem ↓] theorem asb {op:BinOp} {t s:TypeId} {x y:Operand}:fx P X ev (.binOp op t x y s) H K=el P X H (hU (eB P op t (ev x) (ev y) h0) H) K .mk:=nr rfl
@[go_sem ↓] theorem auN {op:UnOp} {t:TypeId} {x:Operand}:fx P X ev (.unOp op t x) H K=el P X H (hU (C8 op (ev x) h0) H) K .mk:=nr rfl
@[go_sem ↓] theorem aqb {s d:TypeId} {x:Operand}:fx P X ev (.convert s d x) H K=el P X H (rV P s d (ev x) H) K .mk:=nr rfl
@[go_sem ↓] theorem ams {f:Fn} {a b:List Operand}:fx P X ev (.makeFunc f (List.toArray a) (List.toArray b)) H K=el P X H (.ok (.func f (pk ev a).toArray (pk ev b).toArray) H) K .mk:=nr rfl
@[go_sem ↓] theorem ama {t:TypeId} {l c:Operand}:fx P X ev (.makeSlice t l c) H K=el P X H (Cl P t (ev l) (ev c) H) K .mk:=nr rfl
@[go_sem ↓] theorem aoN {t:TypeId} {x:Operand} {lo hi mx:Option Operand}:fx P X ev (.slice t x lo hi mx) H K=el P X H (hU (lT P t (ev x) (lo.map ev) (hi.map ev) (mx.map ev) h0) H) K .mk:=nr rfl
@[go_sem ↓] theorem amb {t:TypeId} {x:Operand} {f:Nat}:fx P X ev (.fieldAddr t x f) H K=el P X H (hU (Ax P t (ev x) f h0) H) K .mk:=nr rfl
@[go_sem ↓] theorem aoO {t:TypeId} {x:Operand} {f:Nat}:fx P X ev (.field t x f) H K=el P X H (hU (AH P t (ev x) f h0) H) K .mk:=nr rfl
@[go_sem ↓] theorem amc {t:TypeId} {x i:Operand}:fx P X ev (.indexAddr t x i) H K=el P X H (hU (Ay P t (ev x) (ev i) h0) H) K .mk:=nr rfl
@[go_sem ↓] theorem aoP {t:TypeId} {x i:Operand}:fx P X ev (.index t x i) H K=el P X H (hU (xA P t (ev x) (ev i) h0) H) K .mk:=nr rfl
@[go_sem ↓] theorem amL {x:Operand} {i:Nat}:fx P X ev (.extract x i) H K=el P X H (hU (AA (ev x) i h0) H) K .mk:=nr rfl
@[go_sem ↓] theorem aqc {x:Operand} {l:List Operand} {ts:Array TypeId}:fx P X ev (.call {callee:=.value x,args:=List.toArray l,argTypes:=ts}) H K=el P X H (hU (xJ P (ev x) (pk ev l).toArray) H) K .mk:=nr rfl
@[go_sem ↓] theorem asd {t:TypeId} {x:Operand} {ts:List TypeId}:fx P X ev (.call {callee:=.builtin .len,args:=#[x],argTypes:=⟨t::ts⟩}) H K=el P X H (hU (wo P t (ev x) h0) H) K .mk:=nr rfl
@[go_sem ↓] theorem anl {t t2:TypeId} {x y:Operand}:fx P X ev (.call {callee:=.builtin .append,args:=#[x,y],argTypes:=#[t,t2]}) H K=el P X H (match P.underlying t2 with
   | some (.slice _)=>iG P t (ev x) (ev y) H
   | _=>.no) K .mk:=nr rfl
@[go_sem ↓] theorem aqd {t:TypeId} {x y:Operand} {ts:List TypeId}:fx P X ev (.call {callee:=.builtin .copy,args:=#[x,y],argTypes:=⟨t::ts⟩}) H K=el P X H (AQ P t (ev x) (ev y) H) K .mk:=nr rfl
@[go_sem ↓] theorem aoQ {t:TypeId} {x:Operand} {ts:List TypeId}:fx P X ev (.call {callee:=.builtin .clear,args:=#[x],argTypes:=⟨t::ts⟩}) H K=el P X H (AK P t (ev x) H) K .mk:=nr rfl
@[go_sem ↓] theorem ase {x y:Operand} {ts:Array TypeId}:fx P X ev (.call {callee:=.builtin .max,args:=#[x,y],argTypes:=ts}) H K=el P X H (hU (xS true (ev x) (ev y) h0) H) K .mk:=nr rfl
@[go_sem ↓] theorem amM {t:TypeId}:fx P X ev (.makeMap t none) H K=el P X H (M4 t H) K .mk:=nr rfl
@[go_sem ↓] theorem anm {t:TypeId} {x i:Operand} {ok:Bool}:fx P X ev (.lookup t x i ok) H K=el P X H (Ec P t (ev x) (ev i) ok H) K .mk:=nr rfl
@[go_sem ↓] theorem asf {t:TypeId} {m k x:Operand}:fx P X ev (.mapUpdate t m k x) H K=el P X H (Ex P t (ev m) (ev k) (ev x) H) K .mk:=nr rfl
end ops
@[go_sem] theorem amN {t:TypeId}:M4 t H=.ok (.map (some H.next)) (H.push ⟨uH [],t,false,false⟩):=nr rfl
noncomputable def Lj (P:Program) (t:TypeId) (B:Option ct) (n:Int) (ok:Bool) (H:ad):AO:=match B with
 | some B=>if zJ P t then (match Ew B.cells with
   | some kv=>.ok (if ok=true then .tuple #[.int .i64 ((getM kv n).getD 0),.bool (getM kv n).isSome] else .int .i64 ((getM kv n).getD 0)) H
   | none=>.no) else .no
 | none=>.no
@[congr] theorem amO {t:TypeId} {B B':Option ct} {n:Int} {ok:Bool} (h:B=B'):Lj P t B n ok H=Lj P t B' n ok H:=by rw [h]
@[go_sem] theorem ann {t:TypeId} {b:Nat} {n:Int} {ok:Bool}:Ec P t (.map (some b)) (.int .i64 n) ok H=Lj P t (H.get b) n ok H:=nr rfl
@[go_sem] theorem aoR {t e:TypeId} {kv:List (Int × Int)} {o r:Bool} {n:Int} (h:zJ P t):Lj P t (some ⟨uH kv,e,o,r⟩) n true H=.ok (.tuple #[.int .i64 ((getM kv n).getD 0),.bool (getM kv n).isSome]) H:=by
 unfold Lj
 simp only [if_pos h,JC,if_true]
noncomputable def Lk (P:Program) (t:TypeId) (B:Option ct) (b:Nat) (n v:Int) (H:ad):AO:=match B with
 | some B=>if zJ P t/\B.ro=false then (match Ew B.cells with
   | some kv=>.ok undef (H.ah b ⟨uH (CL kv n v),B.elem,B.gW,false⟩)
   | none=>.no) else .no
 | none=>.no
@[congr] theorem amP {t:TypeId} {B B':Option ct} {b:Nat} {n v:Int} (h:B=B'):Lk P t B b n v H=Lk P t B' b n v H:=by rw [h]
@[go_sem] theorem aqe {t:TypeId} {b:Nat} {n v:Int}:Ex P t (.map (some b)) (.int .i64 n) (.int .i64 v) H=Lk P t (H.get b) b n v H:=nr rfl
@[go_sem] theorem aoS {t e:TypeId} {kv:List (Int × Int)} {o:Bool} {b:Nat} {n v:Int} (h:zJ P t):Lk P t (some ⟨uH kv,e,o,false⟩) b n v H=.ok undef (H.ah b ⟨uH (CL kv n v),e,o,false⟩):=by
 unfold Lk
 dsimp only
 rw [if_pos ⟨h,rfl⟩,JC]
attribute [go_sem] acS ab6
@[go_sem] theorem amQ {ev:Operand->Value}:parts ev []=[]:=nr rfl
@[go_sem] theorem amt {ev:Operand->Value} {p:Nat × Operand} {l:List (Nat × Operand)}:parts ev (p::l)=(p.1,ev p.2)::parts ev l:=nr rfl
@[congr] theorem amd {r r':KO} (h:r=r'):hU r H=hU r' H:=by rw [h]
@[go_sem] theorem aoT {v:Value} {h:KH}:hU (.ok v h) H=.ok v H:=nr rfl
@[go_sem] theorem amR {f:FuncId} {args:Array Value}:hU (.call f args) H=.call f args:=nr rfl
section aji
variable {h:KH}
attribute [go_sem] abq aaZ adM acQ
@[go_sem] theorem asg {t:TypeId} {k:IntKind} {a b:Int}:eB P .lss t (.int k a) (.int k b) h=.ok (.bool (decide (a < b))) h:=by simp [eB,mh,tN,xB]
@[go_sem] theorem ash {t:TypeId} {k:IntKind} {a b:Int}:eB P .leq t (.int k a) (.int k b) h=.ok (.bool (decide (a<=b))) h:=by
 simp only [eB,mh,tN,decide_true,cond_true,xB]
 congr 2;rw [Bool.eq_iff_iff];simp
@[go_sem] theorem asi {t:TypeId} {k:IntKind} {a b:Int}:eB P .gtr t (.int k a) (.int k b) h=.ok (.bool (decide (b < a))) h:=by simp [eB,mh,tN,xB]
@[go_sem] theorem asj {t:TypeId} {k:IntKind} {a b:Int}:eB P .geq t (.int k a) (.int k b) h=.ok (.bool (decide (b<=a))) h:=by
 simp only [eB,mh,tN,decide_true,cond_true,xB]
 congr 2;rw [Bool.eq_iff_iff];simp
@[go_sem] theorem asl {t:TypeId} {k:IntKind} {a b:Int}:eB P .eql t (.int k a) (.int k b) h=.ok (.bool (decide (a=b))) h:=by simp [eB,mh,tN,AI]
@[go_sem] theorem asm {t:TypeId} {k:IntKind} {a b:Int}:eB P .neq t (.int k a) (.int k b) h=.ok (.bool (!decide (a=b))) h:=by simp [eB,mh,tN,AI]
@[go_sem] theorem asn {t:TypeId} {k:IntKind} {a b:Int}:eB P .add t (.int k a) (.int k b) h=.ok (.int k (k.wrap (a+b))) h:=by simp [eB,mh,tN,qd]
@[go_sem] theorem aso {t:TypeId} {k:IntKind} {a b:Int}:eB P .sub t (.int k a) (.int k b) h=.ok (.int k (k.wrap (a - b))) h:=by simp [eB,mh,tN,qd]
@[go_sem] theorem asp {t:TypeId} {k:IntKind} {a b:Int}:eB P .mul t (.int k a) (.int k b) h=.ok (.int k (k.wrap (a * b))) h:=by simp [eB,mh,tN,qd]
@[go_sem] theorem asq {t:TypeId} {k:IntKind} {a b:Int} (hb:b≠0):eB P .quo t (.int k a) (.int k b) h=.ok (.int k (k.wrap (a.tdiv b))) h:=by simp [eB,mh,tN,qd,AI,hb]
@[go_sem] theorem asr {t:TypeId} {k:IntKind} {a b:Int} (hb:b≠0):eB P .rem t (.int k a) (.int k b) h=.ok (.int k (a.tmod b)) h:=by simp [eB,mh,tN,AI,hb]
@[go_sem] theorem agJ {t:TypeId} {a b:ByteArray}:eB P .eql t (.string a) (.string b) h=.ok (.bool (decide (a.data.toList=b.data.toList))) h:=by simp [eB,mh,HO,Gq]
@[go_sem] theorem ass {t:TypeId} {a b:ByteArray}:eB P .neq t (.string a) (.string b) h=.ok (.bool (!decide (a.data.toList=b.data.toList))) h:=by simp [eB,mh,HO,Gq]
noncomputable def cG (P:Program) (s:TypeId) (f:Nat):Option Nat:=match P.underlying s with
 | some (.struct fs)=>match pg fs.toList f with
  | some f=>match dj P f.type with
   | some n=>bif Nat.blt 0 n then some f.offset else none
   | none=>none
  | none=>none
 | _=>none
def foA (off:Option Nat) (b o:Nat) (h:KH):KO:=match off with
 | some off=>.ok (.pointer (some ⟨b,o+off,none⟩)) h
 | none=>.no
@[go_sem] theorem ano {off b o:Nat}:foA (some off) b o h=.ok (.pointer (some ⟨b,o+off,none⟩)) h:=nr rfl
@[go_sem] theorem anp {s:TypeId} {b o f:Nat}:Ax P s (.pointer (some ⟨b,o,none⟩)) f h=foA (cG P s f) b o h:=by
 unfold Ax cG
 cases hu:P.underlying s with
 | none=>rfl
 | some d=>
  cases d with
  | struct fs=>
   simp only
   cases pg fs.toList f with
   | none=>rfl
   | some f1=>
    simp only
    cases dj P f1.type with
    | none=>rfl
    | some n=>simp only;cases Nat.blt 0 n <;> rfl
  | _=>rfl
noncomputable def HU (P:Program) (s:TypeId) (f:Nat):Option (TypeId × Nat):=match P.underlying s with
 | some (.struct fs)=>match pg fs.toList f with
  | some f=>some (f.type,f.offset)
  | none=>none
 | _=>none
def OP (a:Option Bool) (n:Option Nat) (l:List Value) (off:Nat) (h:KH):KO:=match a with
 | some true=>(match n with
  | some n=>.ok (.agg ((l.drop off).take n).toArray) h
  | none=>.no)
 | some false=>(match l[off]? with
  | some v=>.ok v h
  | none=>.no)
 | none=>.no
noncomputable def Tz (P:Program) (q:Option (TypeId × Nat)) (l:List Value) (h:KH):KO:=match q with
 | some (ty,off)=>OP (gU P ty) (dj P ty) l off h
 | none=>.no
@[go_sem] theorem anq {ty:TypeId} {off:Nat} {l:List Value}:Tz P (some (ty,off)) l h=OP (gU P ty) (dj P ty) l off h:=nr rfl
def TA (v:Option Value) (h:KH):KO:=match v with
 | some v=>.ok v h
 | none=>.no
@[go_sem] theorem anr {v:Value}:TA (some v) h=.ok v h:=nr rfl
@[go_sem] theorem aoU {n:Option Nat} {l:List Value} {off:Nat}:OP (some false) n l off h=TA l[off]? h:=by
 show (match l[off]? with | some v=>KO.ok v h | none=>.no)=_
 cases l[off]? <;> rfl
@[go_sem] theorem aoV {s:TypeId} {f:Nat} {l:List Value}:AH P s (.agg (List.toArray l)) f h=Tz P (HU P s f) l h:=by
 unfold AH HU
 cases hu:P.underlying s with
 | none=>rfl
 | some d=>
  cases d with
  | struct fs=>
   simp only
   cases pg fs.toList f with
   | none=>rfl
   | some f1=>
    simp only [Tz,AP,OP]
    cases gU P f1.type with
    | none=>rfl
    | some a=>
     cases a
     ·simp only [wb]
      cases l[f1.offset]? <;> rfl
     ·simp only [Gx,Gw]
      cases dj P f1.type <;> rfl
  | _=>rfl
noncomputable def iL (P:Program) (t:TypeId):Option (TypeId × Nat):=match P.underlying t with
 | some (.slice e)=>match dj P e with
  | some s=>some (e,s)
  | none=>none
 | _=>none
def TC (q:Option (TypeId × Nat)) (b o n:Nat) (i:Int) (h:KH):KO:=match q with
 | some (_,s)=>if 0<=i/\i.toNat < n then .ok (.pointer (some ⟨b,o+i.toNat * s,none⟩)) h else .no
 | none=>.no
@[go_sem] theorem ans {e:TypeId} {s b o n:Nat} {i:Int}:TC (some (e,s)) b o n i h=if 0<=i/\i.toNat < n then .ok (.pointer (some ⟨b,o+i.toNat * s,none⟩)) h else .no:=nr rfl
@[go_sem] theorem ant {t:TypeId} {b o n c:Nat} {k:IntKind} {i:Int} (he:(iL P t).isSome=true):
  Ay P t (.slice (some ⟨b,o,none⟩) n c) (.int k i) h=TC (iL P t) b o n i h:=by
 unfold iL at he ⊢
 unfold Ay
 cases hu:P.underlying t with
 | none=>rw [hu] at he;cases he
 | some d=>
  rw [hu] at he
  cases d with
  | slice e=>
   simp only at he ⊢
   cases hs:dj P e with
   | none=>rw [hs] at he;cases he
   | some s=>
    simp only [TC]
    cases i with
    | ofNat j=>
     simp only
     rw [blt_eq]
     by_cases hj:j < n
     ·simp [hj,hs]
     ·simp [hj,hs]
    | negSucc j=>
     simp only
     rw [if_neg (by intro h;have:=h.1;simp at this)]
  | _=>cases he
def leA (q:Option (TypeId × Nat)) (n:Nat) (h:KH):KO:=match q with
 | some _=>.ok (.int .i64 ((n:Nat):Int)) h
 | none=>.no
@[go_sem] theorem anu {q:TypeId × Nat} {n:Nat}:leA (some q) n h=.ok (.int .i64 ((n:Nat):Int)) h:=nr rfl
@[go_sem] theorem amS {t:TypeId} {a:Option Addr} {n c:Nat} (he:(iL P t).isSome=true):wo P t (.slice a n c) h=leA (iL P t) n h:=by
 unfold iL at he ⊢
 unfold wo
 cases hu:P.underlying t with
 | none=>rw [hu] at he;cases he
 | some d=>
  rw [hu] at he
  cases d with
  | slice e=>
   simp only at he ⊢
   cases hs:dj P e with
   | none=>rw [hs] at he;cases he
   | some s=>rfl
  | _=>cases he
@[go_sem] theorem aa3 {t:TypeId} {s:ByteArray} (hu:P.underlying t=some .string):wo P t (.string s) h=.ok (.int .i64 ((s.data.toList.length:Nat):Int)) h:=by
 unfold wo;rw [hu];simp [xu]
@[go_sem] theorem aqf {l:List Value} {i:Nat}:AA (.tuple (List.toArray l)) i h=TA l[i]? h:=by
 simp only [AA,wb]
 cases l[i]? <;> rfl
attribute [go_sem] Option.isSome_some Int.natCast_nonneg Int.toNat_natCast
theorem bU {f:FuncId} {fn:Func} {cap:List Value} {args:List Value} (hf:P.funcs[f]?=some fn) (hn:decide (fn.name= "runtime.NumGoroutine")=false) (hb:fn.body.isNone=false):
  xJ P (.func (.func f) #[] (List.toArray cap)) (List.toArray args)=.call f (List.toArray (args++cap)):=by
 simp only [xJ,hf,hn,hb,Bool.or_self,cond_false]
 simp
end aji
def okA (v:Option Value) (H:ad):AO:=match v with
 | some v=>.ok v H
 | none=>.no
@[go_sem] theorem anv {v:Value}:okA (some v) H=.ok v H:=nr rfl
@[go_sem] theorem aoW {t:TypeId} {b o:Nat}:rT P t (.pointer (some ⟨b,o,none⟩)) H=okA (tP P t o (H.get b)) H:=by
 show (match tP P t o (H.get b) with | some v=>AO.ok v H | none=>.no)=_
 cases tP P t o (H.get b) <;> rfl
def NZ (a:Option Bool) (n:Option Nat) (cs:List Value) (o:Nat):Option Value:=match a with
 | some true=>(match n with
  | some n=>if o+n<=cs.length then some (.agg ((cs.drop o).take n).toArray) else none
  | none=>none)
 | some false=>cs[o]?
 | none=>none
@[go_sem] theorem amT {t:TypeId} {o:Nat} {B:ct}:tP P t o (some B)=NZ (gU P t) (dj P t) B.cells o:=by
 unfold tP NZ;rfl
@[go_sem] theorem aoX {n:Option Nat} {cs:List Value} {o:Nat}:NZ (some false) n cs o=cs[o]?:=nr rfl
@[go_sem] theorem aoY {n:Nat} {cs:List Value} {o:Nat}:NZ (some true) (some n) cs o=if o+n<=cs.length then some (.agg ((cs.drop o).take n).toArray) else none:=nr rfl
noncomputable def TF (n:Option Nat) (x:List Value) (B:Option ct) (b o:Nat) (H:ad):AO:=match n,B with
 | some n,some B=>if x.length=n/\o+n<=B.cells.length/\j5 x=true/\B.ro=false then .ok undef (H.ah b ⟨cT B.cells o x,B.elem,B.gW,false⟩) else .no
 | _,_=>.no
@[go_sem] theorem anw {t:TypeId} {b o:Nat} {x:Value}:AJ P t (.pointer (some ⟨b,o,none⟩)) x H=TF (dj P t) x.cells.toList (H.get b) b o H:=by
 unfold AJ TF
 simp only
 cases dj P t with
 | none=>rfl
 | some n=>
  simp only [qg]
  cases H.get b with
  | none=>simp
  | some B=>
   simp only
   by_cases h1:x.cells.toList.length=n
   ·subst h1;simp
   ·rw [if_neg h1,if_neg (fun h=>h1 h.1)]
@[go_sem] theorem anx {n:Nat} {x:List Value} {B:ct} {b o:Nat}:TF (some n) x (some B) b o H=if x.length=n/\o+n<=B.cells.length/\j5 x=true/\B.ro=false then .ok undef (H.ah b ⟨cT B.cells o x,B.elem,B.gW,false⟩) else .no:=nr rfl
@[go_sem] theorem anz:j5 []=true:=nr rfl
@[go_sem] theorem amU {v:Value} {l:List Value}:j5 (v::l)=(zH v&&j5 l):=by
 rw [P8];cases zH v <;> rfl
@[go_sem] theorem aoZ {k:IntKind} {n:Int}:zH (.int k n)=true:=nr rfl
@[go_sem] theorem anA {b:Bool}:zH (.bool b)=true:=nr rfl
@[go_sem] theorem amu {s:ByteArray}:zH (.string s)=true:=nr rfl
@[go_sem] theorem amV {a:Option Addr} {n c:Nat}:zH (.slice a n c)=true:=nr rfl
attribute [go_sem] List.length_cons List.length_nil List.drop_succ_cons List.drop_zero List.take_succ_cons List.take_zero List.take_nil Nat.zero_add Nat.reduceAdd Nat.reduceLeDiff if_true if_false true_and and_true and_self Bool.and_self Nat.le_refl List.set_cons_zero List.set_cons_succ
@[go_sem] theorem eG {cs:List Value} {o:Nat} {v:Value} (h:o < cs.length):cT cs o [v]=cs.set o v:=by
 unfold cT
 rw [List.set_eq_take_append_cons_drop,if_pos h];rfl
@[go_sem] theorem Xa {B C:ct}:(H.push B).ah H.next C=H.push C:=by
 unfold ad.push ad.ah
 congr 1
 funext x
 by_cases h:x=H.next
 ·simp [h]
 ·simp [h]
@[go_sem] theorem aU {B:ct} {b:Nat}:(H.push B).get b=if b=H.next then some B else H.get b:=nr rfl
@[go_sem] theorem az {B:ct} {b c:Nat}:(H.ah c B).get b=if b=c then some B else H.get b:=nr rfl
@[go_sem] theorem ux {B:ct} {b c:Nat}:(H.grow c B).get b=if b=H.next then some B else if b=c then none else H.get b:=nr rfl
@[go_sem] theorem be {b:Nat} {fz:Nat->Bool}:(H.ai fz).get b=H.get b:=nr rfl
@[go_sem] theorem bH {B:ct}:(H.push B).next=H.next+1:=nr rfl
@[go_sem] theorem om {B:ct} {c:Nat}:(H.ah c B).next=H.next:=nr rfl
@[go_sem] theorem abA {B:ct} {c:Nat}:(H.grow c B).next=H.next+1:=nr rfl
@[go_sem] theorem DT {fz:Nat->Bool}:(H.ai fz).next=H.next:=nr rfl
@[go_sem] theorem qf {B:ct} {b:Nat}:(H.push B).fz b=(b==H.next||H.fz b):=nr rfl
@[go_sem] theorem acY {B:ct} {b c:Nat}:(H.grow c B).fz b=(b==H.next||H.fz b):=nr rfl
@[go_sem] theorem ao0 {b:Nat} {fz:Nat->Bool}:(H.ai fz).fz b=fz b:=nr rfl
noncomputable def TH (z:Option (List Value)) (t:TypeId) (H:ad):AO:=match z with
 | some z=>.ok (.pointer (some ⟨H.next,0,none⟩)) (H.push ⟨z,t,false,false⟩)
 | none=>.no
@[go_sem] theorem anB {t:TypeId}:Cp P t H=TH (fQ P t) t H:=by
 unfold Cp TH
 cases fQ P t <;> rfl
@[go_sem] theorem anC {z:List Value} {t:TypeId}:TH (some z) t H=.ok (.pointer (some ⟨H.next,0,none⟩)) (H.push ⟨z,t,false,false⟩):=nr rfl
@[go_sem] theorem ao1 {cs:List Value} {t:TypeId}:ri cs t false ptrTo H=.ok (.pointer (some ⟨H.next,0,none⟩)) (H.push ⟨cs,t,false,false⟩):=nr rfl
@[go_sem] theorem anD {a:Value} {cs vs:List Value}:cT (a::cs) 0 vs=vs++(a::cs).drop vs.length:=by simp [cT]
@[go_sem] theorem anE {a:Value} {cs vs:List Value} {o:Nat}:cT (a::cs) (o+1) vs=a::cT cs o vs:=by simp [cT,Nat.add_right_comm]
attribute [go_sem] List.cons_append List.nil_append List.append_nil
noncomputable def wK (P:Program) (t:TypeId):Option (List (Nat × Nat)):=match P.underlying t with
 | some (.struct fs)=>Jz P fs.toList
 | _=>none
noncomputable def TI (q:Option (Nat × Nat)) (vs:List Value) (k:List Value->Option (List Value)) (cs:List Value):Option (List Value):=match q with
 | some (off,size)=>if vs.length=size/\off+size<=cs.length then k (cT cs off vs) else none
 | none=>none
@[go_sem] theorem anF {off size:Nat} {vs:List Value} {k:List Value->Option (List Value)} {cs:List Value}:TI (some (off,size)) vs k cs=if vs.length=size/\off+size<=cs.length then k (cT cs off vs) else none:=nr rfl
noncomputable def JZ (pl:List (Nat × Nat)) (ps:List (Nat × Value)) (cs:List Value):Option (List Value):=AN (fun i=>pg pl i) ps cs
@[go_sem] theorem anG {pl:List (Nat × Nat)} {cs:List Value}:JZ pl [] cs=some cs:=nr rfl
@[go_sem] theorem amW {pl:List (Nat × Nat)} {p:Nat × Value} {ps:List (Nat × Value)} {cs:List Value}:JZ pl (p::ps) cs=TI pl[p.1]? p.2.cells.toList (JZ pl ps) cs:=by
 show (match pg pl p.1 with
  | some (off,size)=>bif Nat.beq (jV p.2.cells.toList) size&&Nat.ble (off+size) (jV cs) then AN (fun i=>pg pl i) ps (GH cs off p.2.cells.toList) else none
  | none=>none)=_
 rw [wb]
 cases pl[p.1]? with
 | none=>rfl
 | some q=>
  obtain ⟨off,size⟩:=q
  simp only [TI,beq_eq,ble_eq,xu,P7]
  by_cases h:p.2.cells.toList.length=size/\off+size<=cs.length
  ·rw [if_pos h];simp only [h.1,h.2,decide_true,Bool.and_self,cond_true];rw [<-h.1];rfl
  ·rw [if_neg h]
   cases hc:decide (p.2.cells.toList.length=size)&&decide (off+size<=cs.length)
   ·rfl
   ·rw [Bool.and_eq_true,decide_eq_true_eq,decide_eq_true_eq] at hc;exact absurd hc h
noncomputable def OQ (z:Option (List Value)) (pl:Option (List (Nat × Nat))) (ps:List (Nat × Value)) (h:KH):KO:=match z,pl with
 | some z,some pl=>(match JZ pl ps z with
  | some cs=>.ok (.agg cs.toArray) h
  | none=>.no)
 | _,_=>.no
def TJ (cs:Option (List Value)) (h:KH):KO:=match cs with
 | some cs=>.ok (.agg cs.toArray) h
 | none=>.no
@[go_sem] theorem anH {cs:List Value} {h:KH}:TJ (some cs) h=.ok (.agg cs.toArray) h:=nr rfl
@[go_sem] theorem anI {z:List Value} {pl:List (Nat × Nat)} {ps:List (Nat × Value)} {h:KH}:OQ (some z) (some pl) ps h=TJ (JZ pl ps z) h:=by
 simp only [OQ,TJ]
@[go_sem] theorem anJ {t:TypeId} {ps:List (Nat × Value)} {h:KH} (hp:(wK P t).isSome=true):fH P t ps h=OQ (fQ P t) (wK P t) ps h:=by
 unfold wK at hp ⊢
 unfold fH OQ
 cases hu:P.underlying t with
 | none=>rw [hu] at hp;cases hp
 | some d=>
  rw [hu] at hp
  cases d with
  | struct fs=>
   simp only at hp ⊢
   cases fQ P t with
   | none=>rfl
   | some z=>
    simp only
    cases Jz P fs.toList with
    | none=>rfl
    | some pl=>rfl
  | _=>cases hp
section told
@[go_sem] theorem anK {k:Nat} {acc:List (Nat × Rec)} {ob:lX} {H H':ad}:tQ [] k acc ob H H'=True:=nr rfl
@[go_sem] theorem amX {p:Nat × Nat} {tb:List (Nat × Nat)} {k:Nat} {acc:List (Nat × Rec)} {ob:lX} {H H':ad}:tQ (p::tb) k acc ob H H'=((if p.2=k then Ki (look acc p.1) ob H H' else True)/\tQ tb k acc ob H H'):=nr rfl
@[go_sem] theorem anL {i:Nat}:told [] i=false:=nr rfl
@[go_sem] theorem amY {p:Nat × Nat} {tb:List (Nat × Nat)} {i:Nat}:told (p::tb) i=(p.1==i||told tb i):=nr rfl
@[go_sem] theorem anM {i:Nat}:look [] i=none:=nr rfl
@[go_sem] theorem amZ {p:Nat × Rec} {acc:List (Nat × Rec)} {i:Nat}:look (p::acc) i=if p.1=i then some p.2 else look acc i:=nr rfl
@[go_sem] theorem am0 {ob:lX} {H H':ad}:Ki none ob H H'=True:=nr rfl
@[go_sem] theorem am1 {r:Rec} {ob:lX} {H H':ad}:Ki (some r) ob H H'=(xW ob r.h r.h'/\xW r.ob H H'/\NW r.nw H H'):=nr rfl
@[go_sem] theorem am2 {H H':ad}:xW none H H'=True:=nr rfl
@[go_sem] theorem am3 {b:Nat} {π:Option ct->Option Value} {H H':ad}:xW (some (b,π)) H H'=(π (H'.get b)=π (H.get b)):=nr rfl
@[go_sem] theorem am4 {H H':ad}:NW none H H'=True:=nr rfl
@[go_sem] theorem am5 {a:Nat} {H H':ad}:NW (some a) H H'=(H'.get a=H.get a):=nr rfl
noncomputable def Zk (P:Program) (t:TypeId) (v:Value):lX:=match v with
 | .pointer (some ⟨b,o,none⟩)=>some (b,tP P t o)
 | _=>none
@[go_sem] theorem anN {ev:Operand->Value} {t:TypeId} {a:Operand}:lr P ev (.load t a)=Zk P t (ev a):=nr rfl
@[go_sem] theorem anO {t:TypeId} {b o:Nat}:Zk P t (.pointer (some ⟨b,o,none⟩))=some (b,tP P t o):=nr rfl
@[go_sem] theorem anP {ev:Operand->Value} {c:Call}:lr P ev (.call c)=none:=nr rfl
@[go_sem] theorem am6 {ev:Operand->Value} {t:TypeId} {a x:Operand}:lr P ev (.store t a x)=none:=nr rfl
@[go_sem] theorem aqg {ev:Operand->Value} {t:TypeId} {n:Nat} {l:Array (Nat × Operand)}:lr P ev (.buildSlice t n l)=none:=nr rfl
@[go_sem] theorem amv {t:TypeId} {a:Operand}:uB P (.load t a) H=none:=nr (by unfold uB;rw [if_neg (by simp [jE])])
@[go_sem] theorem amw {c:Call}:uB P (.call c) H=none:=nr (by
 unfold uB;rw [if_neg]
 simp only [jE]
 split <;> decide)
@[go_sem] theorem anQ {t:TypeId} {n:Nat} {l:Array (Nat × Operand)}:uB P (.buildSlice t n l) H=some H.next:=nr (by unfold uB;rw [if_pos (by simp [jE])])
attribute [go_sem] Nat.reduceBEq Bool.or_false Bool.false_or Bool.or_true Bool.true_or Bool.false_eq_true and_true true_and
end told
section res
variable {K:Value->ad->Prop}
@[go_sem] theorem anR {rs:List ResultVar}:cm P rs K .ret E H=A0 P rs E H K:=nr rfl
@[go_sem] theorem ame {rs:List ResultVar}:cm P rs K .normal E H=A0 P rs E H K:=nr rfl
noncomputable def xY (P:Program) (rs:List ResultVar) (E:Env) (H:ad) (k:List Value->Prop):Prop:=match rs with
 | []=>k []
 | .tmp t::rs=>xY P rs E H (fun l=>k (E t::l))
 | .cell a t::rs=>match rT P t (E a) H with
  | .ok v _=>xY P rs E H (fun l=>k (v::l))
  | _=>False
theorem QF:∀(rs:List ResultVar) (k:List Value->Prop),xY P rs E H k=match wu P rs E H with
  | some l=>k l
  | none=>False
 | [],k=>rfl
 | .tmp t::rs,k=>by
  rw [xY,QF rs,wu]
  cases wu P rs E H <;> rfl
 | .cell a t::rs,k=>by
  rw [xY,wu]
  cases h:rT P t (E a) H with
  | ok v H1=>
   simp only
   rw [QF rs]
   cases wu P rs E H <;> simp only [h]
  | call f args=>simp only;cases wu P rs E H <;> simp only [h]
  | no=>simp only;cases wu P rs E H <;> simp only [h]
@[go_sem] theorem ao2 {rs:List ResultVar}:A0 P rs E H K=xY P rs E H (fun l=>K (HR l) H):=by rw [QF];rfl
@[go_sem] theorem anS {k:List Value->Prop}:xY P [] E H k=k []:=nr rfl
@[go_sem] theorem anT {t:Nat} {rs:List ResultVar} {k:List Value->Prop}:xY P (.tmp t::rs) E H k=xY P rs E H (fun l=>k (E t::l)):=nr rfl
def N0 (r:AO) (k:Value->Prop):Prop:=match r with
 | .ok v _=>k v
 | _=>False
@[congr] theorem amx {r r':AO} {k:Value->Prop} (h:r=r'):N0 r k=N0 r' k:=by rw [h]
@[go_sem] theorem ao3 {v:Value} {k:Value->Prop}:N0 (.ok v H) k=k v:=nr rfl
@[go_sem] theorem am7 {a:Nat} {t:TypeId} {rs:List ResultVar} {k:List Value->Prop}:xY P (.cell a t::rs) E H k=N0 (rT P t (E a) H) (fun v=>xY P rs E H (fun l=>k (v::l))):=nr rfl
@[go_sem] theorem ao4 {v:Value}:HR [v]=v:=nr rfl
@[go_sem] theorem ao5 {v w:Value} {l:List Value}:HR (v::w::l)=.tuple (v::w::l).toArray:=nr rfl
end res
theorem MS {ev:Operand->Value} {op:Op} {K K':Value->ad->Prop} (hk:∀v H,K v H->K' v H) (h:fx P X ev op H K):fx P X ev op H K':=by
 unfold fx at h ⊢
 split
 ·rename_i v H' he;rw [he] at h;exact ⟨h.1,hk _ _ h.2⟩
 ·rename_i f args he;rw [he] at h;exact h.mono fun v H' _ hh=>hk v H' hh
 ·rename_i he;rw [he] at h;exact h
theorem MI {ds:List (Option Nat)}:∀{l:List Oper} {E:Env} {H:ad} {K K':Env->ad->Prop},(∀E H,K E H->K' E H)->kX P X ds l E H K->kX P X ds l E H K'
 | [],E,H,K,K',hk,h=>hk E H h
 | o::l,E,H,K,K',hk,h=>by
  rw [kX] at h ⊢
  split
  ·rename_i hw;rw [if_pos hw] at h;exact MS (fun v H h=>MI hk h) h
  ·rename_i hw;rw [if_neg hw] at h;exact MI hk h
theorem MF {tb:List (Nat × Nat)} {ds:List (Option Nat)}:∀{l:List Oper} {k:Nat} {acc:List (Nat × Rec)} {E:Env} {H:ad} {K K':Env->ad->Prop},(∀E H,K E H->K' E H)->iY P X tb ds l k acc E H K->iY P X tb ds l k acc E H K'
 | [],k,acc,E,H,K,K',hk,h=>hk E H h
 | o::l,k,acc,E,H,K,K',hk,h=>by
  rw [iY] at h ⊢
  split
  ·rename_i hw;rw [if_pos hw] at h;exact MS (fun v H h=>⟨h.1,MF hk h.2⟩) h
  ·rename_i hw;rw [if_neg hw] at h;exact MF hk h
theorem Qr {step:Env->ad->(Exit->Env->ad->Prop)->Prop} (hs:∀E H Q Q',(∀e E H,Q e E H->Q' e E H)->step E H Q->step E H Q'):∀{n:Nat} {E:Env} {H:ad} {Q Q':Exit->Env->ad->Prop},(∀e E H,Q e E H->Q' e E H)->pC step n E H Q->pC step n E H Q'
 | 0,E,H,Q,Q',hq,h=>h
 | n+1,E,H,Q,Q',hq,h=>by
  rw [pC] at h ⊢
  refine hs E H _ _ (fun e E H h=>?_) h
  cases e with
  | normal=>exact Qr hs hq h
  | _=>exact hq _ _ _ h
theorem QG:∀{c:Code} {E:Env} {H:ad} {Q Q':Exit->Env->ad->Prop},(∀e E H,Q e E H->Q' e E H)->wC P X T c E H Q->wC P X T c E H Q':=by
 intro c
 induction c with
 | skip=>intro E H Q Q' hq h;exact hq _ _ _ h
 | label l=>intro E H Q Q' hq h;exact hq _ _ _ h
 | exit id=>intro E H Q Q' hq h;exact hq _ _ _ h
 | ret=>intro E H Q Q' hq h;exact hq _ _ _ h
 | region id ops draw=>
  intro E H Q Q' hq h
  cases draw
  ·exact MI (hq .normal) h
  ·exact MF (hq .normal) h
 | seq a b eY lY=>
  intro E H Q Q' hq h
  rw [wC] at h ⊢
  refine eY (fun e E H h=>?_) h
  cases e with
  | normal=>exact lY hq h
  | _=>exact hq _ _ _ h
 | cond x a b eY lY=>
  intro E H Q Q' hq h
  rw [wC] at h ⊢
  unfold AZ at h ⊢
  split
  ·rename_i v hv
   rw [hv] at h
   simp only at h
   split
   ·rename_i hb;rw [if_pos hb] at h;exact eY hq h
   ·rename_i hb;rw [if_neg hb] at h;exact lY hq h
  ·rename_i hv
   split at h
   ·rename_i v nv;exact (hv _ nv).elim
   ·exact h
 | block id a eY=>
  intro E H Q Q' hq h
  rw [wC] at h ⊢
  refine eY (fun e E H h=>?_) h
  cases e with
  | exit i=>
   simp only [uK] at h ⊢
   split
   ·rename_i he;rw [if_pos he] at h;exact hq _ _ _ h
   ·rename_i he;rw [if_neg he] at h;exact hq _ _ _ h
  | _=>exact hq _ _ _ h
 | loop a eY=>
  intro E H Q Q' hq h
  rw [wC] at h ⊢
  obtain ⟨n,h⟩:=h
  exact ⟨n,Qr (step:=wC P X T a) (fun E H Q Q'=>eY) hq h⟩
 | rangeFunc f ps x y=>intro E H Q Q' hq h;cases h
 | scope b=>intro E H Q Q' hq h;cases h
 | goto l=>intro E H Q Q' hq h;cases h
 | refuse w=>intro E H Q Q' hq h;cases h
theorem adP {a:Code} (I:Nat->Env->ad->Prop) {n:Nat} (h0:I n E H) (hr:∀n E H,I n E H->wC P X T a E H (oB (fun E' H'=>∃m,m < n/\I m E' H') Q)):wC P X T (.loop a) E H Q:=by
 rw [wC]
 refine ⟨n+1,?_⟩
 have key:∀k n E H,n < k->I n E H->pC (wC P X T a) k E H Q:=by
  intro k
  induction k with
  | zero=>intro n E H hn;omega
  | succ k ih=>
   intro n E H hn hI
   rw [pC]
   refine QG (fun e E' H' h=>?_) (hr n E H hI)
   cases e with
   | normal=>
    obtain ⟨m,hm,h⟩:=h
    exact ih m E' H' (by omega) h
   | _=>exact h
 exact key (n+1) n E H (by omega) h0
end
end Go.Proofs.YtinjmfblebpnnaaGreat.Ab
namespace Go.Proofs.YtinjmfblebpnnaaGreat.Ab
open Go Classical
structure Cz where
 a:Option Addr
 cells:List Value
 ty:TypeId
def AS (tb:List Cz):bw:=fun i=>(tb[i]?).bind fun r=>r.a.map fun a=>⟨a.block,a.off,0,true,false⟩
def GW (tb:List Cz):ad:=⟨tb.length,fun i=>(tb[i]?).bind fun r=>if r.cells=[] then none else some ⟨r.cells,r.ty,false,true⟩,fun i=>decide (i < tb.length)⟩
def Zl (tb:List Cz) (w:World):Prop:=∀(i:Nat) (r:Cz) (a:Addr),tb[i]?=some r->r.a=some a->a.spot=none/\a.block < w.heap.size/\∀j,j < r.cells.length->∃v',w.cell? (a.add j)=some v'/\VR (AS tb) (r.cells.getD j undef) v'
theorem aaK (tb:List Cz):bW (GW tb):=by
 refine ⟨fun b hb=>?_,fun b hb=>by simpa [GW] using hb⟩
 have:tb.length<=b:=hb
 simp [GW,List.getElem?_eq_none this]
theorem Wo {w:World} {a:Addr} {v:Value} (h:w.cell? a=some v):∃cs e fr,w.heap[a.block]?=some (.cells cs e fr)/\cs[a.off]?=some v:=by
 unfold World.cell? at h
 split at h
 ·rename_i cs e fr hb
  split at h
  ·cases h
  ·exact ⟨cs,e,fr,hb,h⟩
 ·cases h
theorem WC {a:Addr} (h:a.spot=none) (j:Nat):a.add j=⟨a.block,a.off+j,none⟩:=by
 obtain ⟨b,o,s⟩:=a
 subst h
 exact zj b o j
theorem Nh {tb:List Cz} {b:Nat} {l:Loc} (hs:AS tb b=some l):∃r a,tb[b]?=some r/\r.a=some a/\l=⟨a.block,a.off,0,true,false⟩:=by
 unfold AS at hs
 cases hr:tb[b]? with
 | none=>rw [hr] at hs;cases hs
 | some r=>
  rw [hr] at hs
  simp only [Option.bind_some] at hs
  cases ha:r.a with
  | none=>rw [ha] at hs;cases hs
  | some a=>rw [ha] at hs;cases hs;exact ⟨r,a,rfl,ha,rfl⟩
theorem adQ (P:Program) {tb:List Cz} {w:World} (h:Zl tb w):Rel P (AS tb) dN (GW tb).get w:=by
 have ro:∀b l,AS tb b=some l->l.ro=true:=fun b l hs=>(Nh hs).elim fun r h=>h.elim fun a h=>h.2.2▸rfl
 refine ⟨fun b l B _ hs hg=>?_,fun b b' l l' _ _ hs _ _ _ ho=>?_,fun b b' l l' _ hs _ _ ho=>?_,fun b l hs _=>?_⟩
 ·obtain ⟨r,a,hr,ha,rfl⟩:=Nh hs
  simp only [GW,hr,Option.bind_some] at hg
  split at hg
  ·cases hg
  ·rename_i dk
   cases hg
   obtain ⟨eu,aZ,hc⟩:=h b r a hr ha
   have mj:0 < r.cells.length:=List.length_pos_iff.2 dk
   have iH:∀cs e fr,w.heap[a.block]?=some (.cells cs e fr)->∀j,j < r.cells.length->a.off+j < cs.size/\VR (AS tb) (r.cells.getD j undef) (cs.getD (a.off+j) undef):=fun cs e fr hb j hj=>by
    obtain ⟨v',hv,zX⟩:=hc j hj
    rw [WC eu] at hv
    obtain ⟨fL,e',fr',dT,Dc⟩:=Wo hv
    simp only at dT Dc
    rw [hb] at dT
    cases dT
    obtain ⟨h1,h2⟩:=Array.getElem?_eq_some_iff.1 Dc
    refine ⟨h1,?_⟩
    have:cs.getD (a.off+j) undef=v':=by simp [Array.getD,h1,h2]
    rw [this];exact zX
   obtain ⟨v',hv,_⟩:=hc 0 mj
   rw [WC eu] at hv
   obtain ⟨cs,e,fr,hb,_⟩:=Wo hv
   refine ⟨fun e=>(by cases e),fun _=>⟨cs,e,fr,hb,?_,fun i hi=>(iH cs e fr hb i hi).2,fun hl=>by cases hl⟩,fun _=>rfl,fun hl=>by cases hl⟩
   have:=(iH cs e fr hb (r.cells.length - 1) (by omega)).1
   show a.off+r.cells.length<=cs.size
   omega
 ·rw [ro b l hs] at ho;cases ho
 ·rw [ro b l hs] at ho;cases ho
 ·obtain ⟨r,a,hr,ha,rfl⟩:=Nh hs
  exact (h b r a hr ha).2.1
theorem am8 {P:Program} {f:FuncId} {vs sG:List Value} {tb:List Cz} {W:World} (iS:Zl tb W) (zy:VL (AS tb) vs sG)
  (h:aj P f vs.toArray (GW tb) fun v _=>v=.bool true):Calls P f sG.toArray W fun e W'=>e=.returned (.bool true)/\Go.RowKit.Below W.heap.size W W':=by
 obtain ⟨v,H',dE,rz,_,rfl⟩:=h (aaK tb)
 refine (rz (AS tb) W sG.toArray (adQ P iS) (fun b hb=>?_) zy.wJ).mono ?_
 ·have h1:tb.length<=b:=hb.1
  simp [AS,List.getElem?_eq_none h1]
 ·rintro e W' ⟨σ',v',rfl,hp,hv⟩
  rw [hv.bool]
  refine ⟨rfl,hp.rest.1,hp.rest.2.1,hp.rest.2.2,hp.size,fun k hk=>hp.ae k hk ?_⟩
  rintro ⟨b,l,_,hs,_,ho,_⟩
  obtain ⟨r,a,_,_,rfl⟩:=Nh hs
  cases ho
structure Rp (α:Type) where
 sz:Nat
 pos:0 < sz
 E:ad->List Value->α->List Nat->Prop
 len:∀{H cs x f},E H cs x f->cs.length=sz
 ae:∀{H H' cs x f},E H cs x f->(∀b∈f,H'.get b=H.get b)->E H' cs x f
def Rp.int:Rp Int:=⟨1,by decide,fun _ cs x f=>cs=[.int .i64 x]/\f=[],fun h=>by rw [h.1];rfl,fun h _=>h⟩
def Rp.str:Rp (List UInt8):=⟨1,by decide,fun _ cs x f=>cs=[.string ⟨x.toArray⟩]/\f=[],fun h=>by rw [h.1];rfl,fun h _=>h⟩
def dP {α:Type} (r:Rp α) (H:ad):List Value->List α->List Nat->Prop
 | cs,[],f=>f=[]
 | cs,x::l,f=>∃c fL f1 f2,cs=c++fL/\f=f1++f2/\r.E H c x f1/\dP r H fL l f2
theorem dP.len {α:Type} {r:Rp α} {H:ad}:∀{cs:List Value} {l:List α} {f:List Nat},dP r H cs l f->l.length * r.sz<=cs.length
 | cs,[],f,h=>by simp
 | cs,x::l,f,h=>by
  obtain ⟨c,fL,f1,f2,rfl,_,h1,h2⟩:=h
  have e1:=r.len h1
  have e2:=dP.len h2
  rw [List.length_cons,Nat.add_mul,List.length_append];omega
theorem dP.ae {α:Type} {r:Rp α} {H H':ad}:∀{cs:List Value} {l:List α} {f:List Nat},dP r H cs l f->(∀b∈f,H'.get b=H.get b)->dP r H' cs l f
 | cs,[],f,h,_=>h
 | cs,x::l,f,h,hk=>by
  obtain ⟨c,fL,f1,f2,rfl,rfl,h1,h2⟩:=h
  exact ⟨c,fL,f1,f2,rfl,rfl,r.ae h1 fun b hb=>hk b (by simp [hb]),h2.ae fun b hb=>hk b (by simp [hb])⟩
theorem dP.more {α:Type} {r:Rp α} {H:ad}:∀{cs:List Value} {l:List α} {f:List Nat} (ds:List Value),dP r H cs l f->dP r H (cs++ds) l f
 | cs,[],f,ds,h=>h
 | cs,x::l,f,ds,h=>by
  obtain ⟨c,fL,f1,f2,rfl,rfl,h1,h2⟩:=h
  exact ⟨c,fL++ds,f1,f2,by simp,rfl,h1,h2.more ds⟩
theorem dP.split {α:Type} {r:Rp α} {H:ad}:∀{l1 l2:List α} {cs:List Value} {f:List Nat},dP r H cs (l1++l2) f->∃c1 c2 f1 f2,cs=c1++c2/\f=f1++f2/\c1.length=l1.length * r.sz/\dP r H c1 l1 f1/\dP r H c2 l2 f2
 | [],l2,cs,f,h=>⟨[],cs,[],f,rfl,rfl,by simp,rfl,h⟩
 | x::l1,l2,cs,f,h=>by
  obtain ⟨c,fL,f1,f2,rfl,rfl,h1,h2⟩:=h
  obtain ⟨c1,c2,g1,g2,rfl,rfl,e,h3,h4⟩:=h2.split
  exact ⟨c++c1,c2,f1++g1,g2,by simp,by simp,by rw [List.length_append,e,r.len h1,List.length_cons,Nat.add_mul];omega,⟨c,c1,f1,g1,rfl,rfl,h1,h3⟩,h4⟩
theorem dP.join {α:Type} {r:Rp α} {H:ad}:∀{l1 l2:List α} {c1 c2:List Value} {f1 f2:List Nat},c1.length=l1.length * r.sz->dP r H c1 l1 f1->dP r H c2 l2 f2->dP r H (c1++c2) (l1++l2) (f1++f2)
 | [],l2,c1,c2,f1,f2,e,h1,h2=>by
  have:c1=[]:=List.length_eq_zero_iff.1 (by simpa using e)
  have h3:f1=[]:=h1
  rw [this,h3];exact h2
 | x::l1,l2,c1,c2,f1,f2,e,h1,h2=>by
  obtain ⟨c,fL,g1,g2,rfl,rfl,h3,h4⟩:=h1
  have e1:=r.len h3
  exact ⟨c,fL++c2,g1,g2++f2,by simp,by simp,h3,h4.join (by rw [List.length_append,List.length_cons,Nat.add_mul] at e;omega) h2⟩
theorem dP.one {α:Type} {r:Rp α} {H:ad} {c:List Value} {x:α} {f:List Nat} (h:r.E H c x f):dP r H c [x] f:=⟨c,[],f,[],by simp,by simp,h,rfl⟩
theorem dP.at {α:Type} {r:Rp α} {H:ad} {cs:List Value} {l:List α} {f:List Nat} (h:dP r H cs l f) {i:Nat} {x:α} (hi:l[i]?=some x):
  ∃f1 f2 f3,f=f1++(f2++f3)/\i * r.sz+r.sz<=cs.length/\r.E H ((cs.drop (i * r.sz)).take r.sz) x f2:=by
 obtain ⟨aZ,rfl⟩:=List.getElem?_eq_some_iff.1 hi
 have hl:l=l.take i++(l[i]::l.drop (i+1)):=by simp
 rw [hl] at h
 obtain ⟨c1,c2,f1,f2,rfl,rfl,e,_,h2⟩:=h.split
 have e1:(l.take i).length=i:=by simp;omega
 rw [e1] at e
 obtain ⟨c,fL,g1,g2,rfl,rfl,h3,h4⟩:=h2
 have e2:=r.len h3
 refine ⟨f1,g1,g2,rfl,by simp;omega,?_⟩
 rw [List.drop_append_of_le_length (by omega),<-e,List.drop_length,List.nil_append,List.take_append_of_le_length (by omega),List.take_of_length_le (by omega)]
 exact h3
theorem dP.put {α:Type} {r:Rp α} {H:ad} {cs:List Value} {l:List α} {f:List Nat} (h:dP r H cs l f) {i:Nat} (hi:i < l.length):
  ∃f1 f2 f3,f=f1++(f2++f3)/\i * r.sz+r.sz<=cs.length/\r.E H ((cs.drop (i * r.sz)).take r.sz) l[i] f2/\
   ∀(H':ad) c' y f',(∀b,b∈f1∨b∈f3->H'.get b=H.get b)->r.E H' c' y f'->dP r H' (cT cs (i * r.sz) c') (l.set i y) (f1++(f'++f3)):=by
 have hl:l=l.take i++(l[i]::l.drop (i+1)):=by simp
 rw [hl] at h
 obtain ⟨c1,c2,f1,f2,rfl,rfl,e,h1,h2⟩:=h.split
 have e1:(l.take i).length=i:=by simp;omega
 rw [e1] at e
 obtain ⟨c,fL,g1,g2,rfl,rfl,h3,h4⟩:=h2
 have e2:=r.len h3
 refine ⟨f1,g1,g2,rfl,by simp;omega,?_,fun H' c' y f' hk h'=>?_⟩
 ·rw [List.drop_append_of_le_length (by omega),<-e,List.drop_length,List.nil_append,List.take_append_of_le_length (by omega),List.take_of_length_le (by omega)]
  exact h3
 ·have e3:=r.len h'
  have hs:cT (c1++(c++fL)) (i * r.sz) c'=c1++(c'++fL):=by
   unfold cT
   rw [List.take_append_of_le_length (by omega),List.take_of_length_le (by omega),List.drop_append,List.drop_eq_nil_of_le (by omega),List.nil_append,List.drop_append_of_le_length (by omega),List.drop_eq_nil_of_le (by omega)]
   rfl
  rw [hs,List.set_eq_take_append_cons_drop,if_pos hi]
  exact dP.join (by rw [e1];exact e) (h1.ae fun b hb=>hk b (.inl hb)) ⟨c',fL,f',g2,rfl,rfl,h',h4.ae fun b hb=>hk b (.inr hb)⟩
def Sl {α:Type} (r:Rp α) (H:ad) (v:Value) (l:List α) (f:List Nat):Prop:=
 (v=.slice none 0 0/\l=[]/\f=[])∨(∃a c,v=.slice (some a) 0 c/\l=[]/\f=[])∨
  ∃b o c B g,v=.slice (some ⟨b,o,none⟩) l.length c/\l≠[]/\l.length<=c/\f=b::g/\H.get b=some B/\dP r H (B.cells.drop o) l g
theorem Sl.ae {α:Type} {r:Rp α} {H H':ad} {v:Value} {l:List α} {f:List Nat} (h:Sl r H v l f) (hk:∀b∈f,H'.get b=H.get b):Sl r H' v l f:=by
 rcases h with h | h | ⟨b,o,c,B,g,h1,h2,h3,rfl,h4,h5⟩
 ·exact .inl h
 ·exact .inr (.inl h)
 ·exact .inr (.inr ⟨b,o,c,B,g,h1,h2,h3,rfl,by rw [hk b (by simp)];exact h4,h5.ae fun x hx=>hk x (by simp [hx])⟩)
def Rp.slice {α:Type} (r:Rp α):Rp (List α):=⟨1,by decide,fun H cs l f=>∃v,cs=[v]/\Sl r H v l f,fun ⟨v,h,_⟩=>by rw [h];rfl,fun ⟨v,h,hs⟩ hk=>⟨v,h,hs.ae hk⟩⟩
theorem Sl.val {α:Type} {r:Rp α} {H:ad} {v:Value} {l:List α} {f:List Nat} (h:Sl r H v l f):∃a c,v=.slice a l.length c:=by
 rcases h with ⟨rfl,rfl,_⟩ | ⟨a,c,rfl,rfl,_⟩ | ⟨b,o,c,B,g,rfl,_⟩ <;> exact ⟨_,_,rfl⟩
theorem Sl.at {α:Type} {r:Rp α} {H:ad} {v:Value} {l:List α} {f:List Nat} (h:Sl r H v l f) {i:Nat} {x:α} (hi:l[i]?=some x):
  ∃b o c B g,v=.slice (some ⟨b,o,none⟩) l.length c/\H.get b=some B/\b∈f/\(∀y∈g,y∈f)/\o+i * r.sz+r.sz<=B.cells.length/\r.E H ((B.cells.drop (o+i * r.sz)).take r.sz) x g:=by
 have aZ:=(List.getElem?_eq_some_iff.1 hi).1
 rcases h with ⟨_,rfl,_⟩ | ⟨a,c,_,rfl,_⟩ | ⟨b,o,c,B,g,rfl,h2,h3,rfl,h4,h5⟩
 ·simp at aZ
 ·simp at aZ
 ·obtain ⟨f1,f2,f3,rfl,h6,h7⟩:=h5.at hi
  rw [List.length_drop] at h6
  rw [List.drop_drop] at h7
  exact ⟨b,o,c,B,f2,rfl,h4,by simp,fun y hy=>by simp [hy],by have:=r.pos;omega,h7⟩
theorem Sl.src {α:Type} {r:Rp α} {H:ad} {v:Value} {l:List α} {f:List Nat} (h:Sl r H v l f) {size:Nat} (hs:size=r.sz):∃cs g,oC size v H=some (l.length,cs)/\cs.length=l.length * r.sz/\dP r H cs l g/\(∀y∈g,y∈f):=by
 subst hs
 rcases h with ⟨rfl,rfl,_⟩ | ⟨a,c,rfl,rfl,_⟩ | ⟨b,o,c,B,g,rfl,h2,h3,rfl,h4,h5⟩
 ·exact ⟨[],[],rfl,by simp,rfl,by simp⟩
 ·exact ⟨[],[],rfl,by simp,rfl,by simp⟩
 ·have e:=h5.len
  rw [List.length_drop] at e
  have mj:0 < l.length:=List.length_pos_iff.2 h2
  have h6:0 < l.length * r.sz:=Nat.mul_pos mj r.pos
  have eu:B.cells.drop o=(B.cells.drop o).take (l.length * r.sz)++(B.cells.drop o).drop (l.length * r.sz):=(List.take_append_drop _ _).symm
  have h7:=h5
  rw [<-List.append_nil l] at h7
  obtain ⟨c1,c2,f1,f2,h8,h9,h10,OR,pE⟩:=h7.split
  have h13:f2=[]:=pE
  refine ⟨(B.cells.drop o).take (l.length * r.sz),g,?_,by simp;omega,?_,fun y hy=>by simp [hy]⟩
  ·simp only [oC]
   rw [if_neg (by omega),h4]
   simp only
   rw [if_pos (by omega)]
  ·rw [h8,List.take_append_of_le_length (by omega),List.take_of_length_le (by omega),h9,h13,List.append_nil]
   exact OR
section
variable {P:Program} {X:Nat->Bool} {H:ad}
theorem adR {t:TypeId} {x y:Value}:wH P 10000 t x y=(match P.underlying t with
  | some .bool=>GV x y
  | some (.int _)=>Hh x y
  | some .string=>eqStr x y
  | some (.slice _)=>GI x y
  | some (.pointer _)=>Hj x y
  | some (.struct fs)=>match x,y with
   | .agg xs,.agg ys=>bif P.stoodInHeld t||P.eqGuardType P.depth t then none else MG P (wH P 9999) xs.toList ys.toList fs.toList
   | _,_=>none
  | _=>none):=MN 9999 t x y
attribute [go_sem] Option.isNone_none Option.isNone_some
noncomputable def iM (P:Program) (t:TypeId):Option (TypeId × Nat × Nat):=match P.underlying t with
 | some (.slice e)=>match P.info? e,fQ P e with
  | some i,some z=>bif Nat.beq (jV z) i.size&&Nat.blt 0 i.bytes then some (e,i.size,i.bytes) else none
  | _,_=>none
 | _=>none
theorem AB {t e:TypeId} {sz dZ:Nat} (h:iM P t=some (e,sz,dZ)):P.underlying t=some (.slice e)/\∃i z,P.info? e=some i/\fQ P e=some z/\z.length=i.size/\0 < i.bytes/\i.size=sz/\i.bytes=dZ:=by
 unfold iM at h
 split at h
 ·rename_i e1 hu
  split at h
  ·rename_i i z hi hz
   cases hc:Nat.beq (jV z) i.size&&Nat.blt 0 i.bytes
   ·rw [hc] at h;cases h
   ·rw [hc] at h
    rw [Bool.and_eq_true,beq_eq,blt_eq,decide_eq_true_eq,decide_eq_true_eq,xu] at hc
    cases h
    exact ⟨hu,i,z,hi,hz,hc.1,hc.2,rfl,rfl⟩
  ·cases h
 ·cases h
theorem GL {t e:TypeId} {sz dZ n:Nat} {x:Value} {new:List Value} (ha:iM P t=some (e,sz,dZ)) (hs:oC sz x H=some (n,new)) (hn:n * dZ < 140737488355328) (h0:0 < n):
  iG P t (.slice none 0 0) x H=.ok (.slice (some ⟨H.next,0,none⟩) n n) (H.push ⟨new,e,true,false⟩):=by
 obtain ⟨hu,i,z,hi,hz,h1,h2,rfl,rfl⟩:=AB ha
 have h3:n<=n * i.bytes:=Nat.le_mul_of_pos_right _ h2
 simp only [iG,hu,hi,hz,hs]
 rw [if_pos ⟨h1,hn,by omega,h2⟩,if_pos (by simp),if_neg (by omega)]
 rfl
theorem Xb {t e:TypeId} {sz dZ:Nat} {x:Value} {new:List Value} (ha:iM P t=some (e,sz,dZ)) (hs:oC sz x H=some (0,new)):
  iG P t (.slice none 0 0) x H=.ok (.slice none 0 0) H:=by
 obtain ⟨hu,i,z,hi,hz,h1,h2,rfl,rfl⟩:=AB ha
 simp only [iG,hu,hi,hz,hs]
 rw [if_pos ⟨h1,by omega,by omega,h2⟩,if_pos (by simp)]
 rfl
theorem Qk {t e:TypeId} {sz dZ n b sl:Nat} {x:Value} {new cs:List Value} (ha:iM P t=some (e,sz,dZ)) (hs:oC sz x H=some (n,new)) (hB:H.get b=some ⟨cs,e,true,false⟩) (hl:cs.length=sl * sz)
  (hn:(sl+n) * dZ < 140737488355328) (h0:0 < n) (Iu:j5 new=true):
  iG P t (.slice (some ⟨b,0,none⟩) sl sl) x H=.ok (.slice (some ⟨H.next,0,none⟩) (sl+n) (sl+n)) (H.grow b ⟨cs++new,e,true,false⟩):=by
 obtain ⟨hu,i,z,hi,hz,h1,h2,rfl,rfl⟩:=AB ha
 have h3:sl+n<=(sl+n) * i.bytes:=Nat.le_mul_of_pos_right _ h2
 have h4:n * i.bytes<=(sl+n) * i.bytes:=Nat.mul_le_mul_right _ (by omega)
 have h5:cs.take (sl * i.size)=cs:=List.take_of_length_le (by omega)
 simp only [iG,hu,hi,hz,hs,hB]
 rw [if_pos ⟨h1,by omega,by omega,h2⟩,if_neg (by omega),if_pos ⟨hn,by omega,by omega,Nat.le_refl _,trivial,trivial⟩,if_pos trivial,if_pos ⟨trivial,Iu⟩,h5]
theorem Jw {t e:TypeId} {sz dZ n b o sl sc:Nat} {x:Value} {new cs:List Value} (ha:iM P t=some (e,sz,dZ)) (hs:oC sz x H=some (n,new)) (hB:H.get b=some ⟨cs,e,false,false⟩) (hl:cs.length=o+sc * sz)
  (eF:sl<=sc) (hn:(sl+n) * dZ < 140737488355328) (h0:sc < sl+n):
  iG P t (.slice (some ⟨b,o,none⟩) sl sc) x H=.ok (.slice (some ⟨H.next,0,none⟩) (sl+n) (sl+n)) (H.push ⟨(cs.drop o).take (sl * sz)++new,e,true,false⟩):=by
 obtain ⟨hu,i,z,hi,hz,h1,h2,rfl,rfl⟩:=AB ha
 have h3:sl+n<=(sl+n) * i.bytes:=Nat.le_mul_of_pos_right _ h2
 have h4:n * i.bytes<=(sl+n) * i.bytes:=Nat.mul_le_mul_right _ (by omega)
 simp only [iG,hu,hi,hz,hs,hB]
 rw [if_pos ⟨h1,by omega,by omega,h2⟩,if_neg (by omega),if_pos ⟨hn,by omega,by omega,eF,trivial,trivial⟩,if_neg (by decide)]
 rfl
theorem JP {t e:TypeId} {sz dZ n b o sl sc:Nat} {x:Value} {new:List Value} {B:ct} (ha:iM P t=some (e,sz,dZ)) (hs:oC sz x H=some (n,new)) (rv:new.length=n * sz) (hB:H.get b=some B) (oa:B.ro=false) (hl:o+sc * sz<=B.cells.length)
  (hn:n * dZ < 140737488355328) (h0:sl+n<=sc) (Iu:j5 new=true):
  iG P t (.slice (some ⟨b,o,none⟩) sl sc) x H=.ok (.slice (some ⟨b,o,none⟩) (sl+n) sc) (H.ah b ⟨cT B.cells (o+sl * sz) new,B.elem,B.gW,false⟩):=by
 obtain ⟨hu,i,z,hi,hz,h1,h2,rfl,rfl⟩:=AB ha
 have h3:n<=n * i.bytes:=Nat.le_mul_of_pos_right _ h2
 have h5:(sl+n) * i.size<=sc * i.size:=Nat.mul_le_mul_right _ h0
 rw [Nat.add_mul] at h5
 simp only [iG,hu,hi,hz,hs,hB]
 rw [if_pos ⟨h1,hn,by omega,h2⟩,if_pos h0,if_pos hl]
 simp only [qg,hB]
 rw [if_pos ⟨by omega,Iu,oa⟩]
structure bc (H H':ad):Prop where
 nx:H.next<=H'.next
 get:∀b,b < H.next->H'.get b=H.get b
 ro:∀b B,H'.get b=some B->B.ro=true->H.get b=some B
theorem bc.refl (H:ad):bc H H:=⟨Nat.le_refl _,fun _ _=>rfl,fun _ _ h _=>h⟩
theorem bc.trans {H H1 H2:ad} (h:bc H H1) (h':bc H1 H2):bc H H2:=⟨Nat.le_trans h.nx h'.nx,fun b hb=>(h'.get b (Nat.lt_of_lt_of_le hb h.nx)).trans (h.get b hb),fun b B hb hr=>h.ro b B (h'.ro b B hb hr) hr⟩
theorem bc.push (H:ad) (B:ct) (hB:B.ro=false:=by rfl):bc H (H.push B):=⟨Nat.le_succ _,fun b hb=>bS hb,fun b C hb hr=>by
 rw [aU] at hb
 split at hb
 ·cases hb;rw [hB] at hr;cases hr
 ·exact hb⟩
theorem bc.ah {H H1:ad} (h:bc H H1) {b:Nat} (hb:H.next<=b) (B:ct) (hB:B.ro=false:=by rfl):bc H (H1.ah b B):=⟨h.nx,fun c hc=>by
 show (if c=b then some B else H1.get c)=_
 rw [if_neg (by omega)];exact h.get c hc,fun c C hc hr=>by
 have hc:(if c=b then some B else H1.get c)=some C:=hc
 split at hc
 ·cases hc;rw [hB] at hr;cases hr
 ·exact h.ro c C hc hr⟩
theorem bc.grow {H H1:ad} (h:bc H H1) {b:Nat} (hb:H.next<=b) (B:ct) (hB:B.ro=false:=by rfl):bc H (H1.grow b B):=⟨Nat.le_succ_of_le h.nx,fun c hc=>by
 have:=h.nx
 show (if c=H1.next then some B else if c=b then none else H1.get c)=_
 rw [if_neg (by omega),if_neg (by omega)];exact h.get c hc,fun c C hc hr=>by
 have hc:(if c=H1.next then some B else if c=b then none else H1.get c)=some C:=hc
 (repeat' split at hc)
 ·cases hc;rw [hB] at hr;cases hr
 ·cases hc
 ·exact h.ro c C hc hr⟩
theorem bW.Cw {H:ad} (h:bW H) {b:Nat} {B:ct} (hb:H.get b=some B):b < H.next:=ad.Cw h.wf hb
theorem bW.fresh {H:ad} (h:bW H) {b:Nat} (hb:H.next<=b):H.fz b=false:=by
 cases hz:H.fz b
 ·rfl
 ·have:=h.fz b hz;omega
def Ow {α:Type} (r:Rp α) (ty:TypeId) (H:ad) (v:Value) (l:List α) (f:List Nat):Prop:=
 (v=.slice none 0 0/\l=[]/\f=[])∨
  ∃b cs g,v=.slice (some ⟨b,0,none⟩) l.length l.length/\l≠[]/\f=b::g/\H.get b=some ⟨cs,ty,true,false⟩/\cs.length=l.length * r.sz/\dP r H cs l g
theorem Ow.nil {α:Type} (r:Rp α) (ty:TypeId) (H:ad):Ow r ty H (.slice none 0 0) [] []:=.inl ⟨rfl,rfl,rfl⟩
theorem Ow.sl {α:Type} {r:Rp α} {ty:TypeId} {H:ad} {v:Value} {l:List α} {f:List Nat} (h:Ow r ty H v l f):Sl r H v l f:=by
 rcases h with h | ⟨b,cs,g,h1,h2,h3,h4,h5,h6⟩
 ·exact .inl h
 ·exact .inr (.inr ⟨b,0,_,_,g,h1,h2,Nat.le_refl _,h3,h4,h6⟩)
theorem Ow.ae {α:Type} {r:Rp α} {ty:TypeId} {H H':ad} {v:Value} {l:List α} {f:List Nat} (h:Ow r ty H v l f) (hk:∀b∈f,H'.get b=H.get b):Ow r ty H' v l f:=by
 rcases h with h | ⟨b,cs,g,h1,h2,rfl,h4,h5,h6⟩
 ·exact .inl h
 ·exact .inr ⟨b,cs,g,h1,h2,rfl,by rw [hk b (by simp)];exact h4,h5,h6.ae fun x hx=>hk x (by simp [hx])⟩
theorem Rp.Ym {H:ad} {cs:List Value} {x:Int} {f:List Nat}:Rp.int.E H cs x f↔cs=[.int .i64 x]/\f=[]:=Iff.rfl
theorem Gy {t e:TypeId} {sz dZ n:Nat} {z:List Value} {ps:List (Nat × Value)} {cs:List Value} (ha:iM P t=some (e,sz,dZ)) (hz:fQ P e=some z) (hp:0 < sz) (hn:n * sz<=16777216) (hf:AN (fun i=>some (i * sz,sz)) ps (eO z n)=some cs):
  rL P t n ps H=.ok (.slice (some ⟨H.next,0,none⟩) n n) (H.push ⟨cs,e,false,false⟩):=by
 obtain ⟨hu,i,z',hi,Ll,h1,h2,rfl,rfl⟩:=AB ha
 rw [hz] at Ll;cases Ll
 have hs:dj P e=some i.size:=by unfold dj;rw [hi]
 simp only [rL,hu,hs,hz]
 rw [if_pos ⟨hn,hp,h1⟩,hf]
 rfl
theorem QH {t e:TypeId} {sz dZ n c:Nat} {z:List Value} (ha:iM P t=some (e,sz,dZ)) (hz:fQ P e=some z) (hp:0 < sz) (hn:n<=c) (hc:dZ * c<=281474976710656) (u9:c < 9223372036854775808):
  Cl P t (.int .i64 ((n:Nat):Int)) (.int .i64 ((c:Nat):Int)) H=.ok (.slice (some ⟨H.next,0,none⟩) n c) (H.push ⟨eO z c,e,false,false⟩):=by
 obtain ⟨hu,i,z',hi,Ll,h1,h2,rfl,rfl⟩:=AB ha
 rw [hz] at Ll;cases Ll
 show (match P.underlying t,Value.int .i64 (.ofNat n),Value.int .i64 (.ofNat c) with
  | some (.slice e),.int .i64 (.ofNat l),.int .i64 (.ofNat c)=>(match P.info? e,fQ P e with
   | some i,some z=>if l<=c/\i.bytes * c<=281474976710656/\0 < i.size/\c < 9223372036854775808/\z.length=i.size then ri (eO z c) e false (fun b=>.slice (some ⟨b,0,none⟩) l c) H else .no
   | _,_=>.no)
  | _,_,_=>.no)=_
 rw [hu]
 simp only [hi,hz]
 rw [if_pos ⟨hn,hc,hp,u9,h1⟩]
 rfl
theorem eA {t e:TypeId} {sz dZ:Nat} {v:Value} (ha:iM P t=some (e,sz,dZ)) (hp:0 < sz) (TL:sz<=16777216) (hv:v.cells.toList.length=sz):rL P t 1 [(0,v)] H=.ok (.slice (some ⟨H.next,0,none⟩) 1 1) (H.push ⟨v.cells.toList,e,false,false⟩):=by
 obtain ⟨hu,i,z,hi,hz,h1,h2,rfl,rfl⟩:=AB ha
 refine Gy ha hz hp (by omega) ?_
 have e1:eO z 1=z:=by show z++[]=z;simp
 rw [e1]
 show (bif Nat.beq (jV v.cells.toList) i.size&&Nat.ble (0 * i.size+i.size) (jV z) then some (GH z (0 * i.size) v.cells.toList) else none)=_
 have e2:(Nat.beq (jV v.cells.toList) i.size&&Nat.ble (0 * i.size+i.size) (jV z))=true:=by
  rw [Bool.and_eq_true,beq_eq,ble_eq,decide_eq_true_eq,decide_eq_true_eq,xu,xu];omega
 rw [e2,cond_true,P7]
 simp only [Nat.zero_mul,List.take_zero,List.nil_append,Nat.zero_add]
 rw [List.drop_eq_nil_of_le (by omega),List.append_nil]
theorem GM {b c sz:Nat} {B:ct} (hB:H.get b=some B) (hl:B.cells.length=sz):oC sz (.slice (some ⟨b,0,none⟩) 1 c) H=some (1,B.cells):=by
 simp only [oC]
 rw [if_neg (by decide),hB]
 simp only
 rw [if_pos (by omega),List.drop_zero,List.take_of_length_le (by omega)]
theorem uy {n:Nat} (h:n < 9223372036854775808):IntKind.wrap .i64 ((n:Nat):Int)=((n:Nat):Int):=by
 have:AF (Int.ofNat n)=true:=by
  show Nat.blt n 9223372036854775808=true
  rw [blt_eq];simpa using h
 exact Jn this
theorem wrap_add {n k:Nat} (h:n+k < 9223372036854775808):IntKind.wrap .i64 (((n:Nat):Int)+((k:Nat):Int))=((n+k:Nat):Int):=by
 rw [<-Int.natCast_add];exact uy h
structure Bq (n:Nat) (H:ad) (f:List Nat):Prop where
 nd:f.Nodup
 lo:∀y∈f,n<=y
 hi:∀y∈f,y < H.next
theorem acZ {α:Type} {r:Rp α} {t e:TypeId} {dZ:Nat} {v x:Value} {l m:List α} {f g:List Nat} {new:List Value} {K:Value->ad->Prop} (ha:iM P t=some (e,r.sz,dZ)) (js:Ow r e H v l f) (hf:∀y∈f,y < H.next) (cK:(f++g).Nodup) (hg:∀y∈g,y < H.next) (hX:∀y∈f,X y=false)
  (hs:oC r.sz x H=some (m.length,new)) (rv:new.length=m.length * r.sz) (h1:j5 new=true) (hm:dP r H new m g) (dk:m≠[]) (hn:(l.length+m.length) * dZ < 140737488355328)
  (hk:∀v' H' f',Ow r e H' v' (l++m) f'->f'.Nodup->(∀y∈f',y=H.next∨y∈f∨y∈g)->(∀y∈f',y < H'.next)->H'.next=H.next+1->(∀c,c < H.next->c∉f->H'.get c=H.get c)->(∀c,H.fz c=true->H'.fz c=true)->(∀c B,H'.get c=some B->B.ro=true->H.get c=some B)->K v' H') {tg:Tag K}:el P X H (iG P t v x H) K tg:=by
 have mj:0 < m.length:=List.length_pos_iff.2 dk
 rcases js with ⟨rfl,rfl,rfl⟩ | ⟨b,cs,g0,rfl,h2,rfl,h3,h4,h5⟩
 ·rw [GL ha hs (by simpa using hn) mj,wa]
  refine hk _ _ (H.next::g) (.inr ⟨H.next,new,g,by simp,by simpa using dk,rfl,by rw [aU,if_pos rfl],by simpa using rv,hm.ae fun y hy=>bS (hg y hy)⟩) ?_ ?_ ?_ rfl (fun c hc _=>bS hc) (fun c hc=>by rw [qf,hc,Bool.or_true]) (bc.push H _).ro
  ·rw [List.nodup_cons];exact ⟨fun h=>Nat.lt_irrefl _ (hg _ h),by simpa using cK⟩
  ·intro y hy;rcases List.mem_cons.1 hy with h | h
   ·exact .inl h
   ·exact .inr (.inr h)
  ·intro y hy;rw [bH];rcases List.mem_cons.1 hy with h | h
   ·omega
   ·have:=hg y h;omega
 ·have hb:=hf b (by simp)
  rw [Qk ha hs h3 h4 hn mj h1,Jv (hX b (by simp))]
  have CA:∀c,c < H.next->c≠b->(H.grow b ⟨cs++new,e,true,false⟩).get c=H.get c:=fun c hc iT=>by rw [ux,if_neg (by omega),if_neg iT]
  rw [List.cons_append,List.nodup_cons] at cK
  have OS:b∉g0++g:=cK.1
  refine hk _ _ (H.next::(g0++g)) (.inr ⟨H.next,cs++new,g0++g,by simp,by simp [h2],rfl,by rw [ux,if_pos rfl],by rw [List.length_append,List.length_append,h4,rv,Nat.add_mul],?_⟩) ?_ ?_ ?_ rfl (fun c hc Lm=>CA c hc (fun h=>Lm (by simp [h]))) (fun c hc=>by rw [acY,hc,Bool.or_true]) (fun c C hc hr=>by
   rw [ux] at hc
   (repeat' split at hc)
   ·cases hc;cases hr
   ·cases hc
   ·exact hc)
  ·refine (h5.ae fun y hy=>CA y (hf y (by simp [hy])) (fun h=>OS (by rw [<-h];simp [hy]))).join h4 (hm.ae fun y hy=>CA y (hg y hy) (fun h=>OS (by rw [<-h];simp [hy])))
  ·rw [List.nodup_cons]
   refine ⟨fun h=>?_,cK.2⟩
   rcases List.mem_append.1 h with h | h
   ·exact Nat.lt_irrefl _ (hf _ (by simp [h]))
   ·exact Nat.lt_irrefl _ (hg _ h)
  ·intro y hy
   rcases List.mem_cons.1 hy with h | h
   ·exact .inl h
   ·rcases List.mem_append.1 h with h | h
    ·exact .inr (.inl (by simp [h]))
    ·exact .inr (.inr h)
  ·intro y hy;rw [abA];rcases List.mem_cons.1 hy with h | h
   ·omega
   ·rcases List.mem_append.1 h with h | h
    ·have:=hf y (by simp [h]);omega
    ·have:=hg y h;omega
theorem acj {α:Type} {r:Rp α} {t e:TypeId} {dZ b:Nat} {v:Value} {l:List α} {x:α} {f g:List Nat} {B:ct} {K:Value->ad->Prop} (ha:iM P t=some (e,r.sz,dZ)) (js:Ow r e H v l f) (hf:∀y∈f,y < H.next) (cK:(f++g).Nodup) (hg:∀y∈g,y < H.next) (hX:∀y∈f,X y=false)
  (hB:H.get b=some B) (hE:r.E H B.cells x g) (h1:j5 B.cells=true) (hn:(l.length+1) * dZ < 140737488355328) {tg:Tag K}
  (hk:∀v' H' f',Ow r e H' v' (l++[x]) f'->f'.Nodup->(∀y∈f',y=H.next∨y∈f∨y∈g)->(∀y∈f',y < H'.next)->H'.next=H.next+1->(∀c,c < H.next->c∉f->H'.get c=H.get c)->(∀c,H.fz c=true->H'.fz c=true)->(∀c B,H'.get c=some B->B.ro=true->H.get c=some B)->K v' H'):el P X H (iG P t v (.slice (some ⟨b,0,none⟩) 1 1) H) K tg:=
 acZ (m:=[x]) (new:=B.cells) ha js hf cK hg hX (GM hB (r.len hE)) (by simp [r.len hE]) h1 (dP.one hE) (by simp) hn hk
end
theorem Wp {cs vs:List Value} {o:Nat} (h:o+vs.length<=cs.length):(cT cs o vs).length=cs.length:=by
 simp [cT];omega
theorem dP.abB {α:Type} {r:Rp α} {H:ad} {cs:List Value} {l:List α} {f:List Nat} (h:dP r H cs l f) (k:Nat):∃g,dP r H cs (l.take k) g/\∀y∈g,y∈f:=by
 have h1:=h
 rw [<-List.take_append_drop k l] at h1
 obtain ⟨c1,c2,f1,f2,rfl,rfl,e,h2,h3⟩:=h1.split
 exact ⟨f1,h2.more c2,fun y hy=>by simp [hy]⟩
section
variable {P:Program} {H:ad}
theorem Sl.to {α:Type} {r:Rp α} {v:Value} {l:List α} {f:List Nat} {t e:TypeId} {k:Nat} (h:Sl r H v l f) (he:iL P t=some (e,r.sz)) (hk:k<=l.length):
  ∃v' g,lT P t v none (some (.int .i64 (k:Nat))) none h0=.ok v' h0/\Sl r H v' (l.take k) g/\∀y∈g,y∈f:=by
 have hu:P.underlying t=some (.slice e)/\dj P e=some r.sz:=by
  unfold iL at he
  split at he
  ·rename_i e1 hu
   split at he
   ·rename_i s hs;cases he;exact ⟨hu,hs⟩
   ·cases he
  ·cases he
 have hlen:(l.take k).length=k:=by simp;omega
 have key:∀(b o n c:Nat),k<=c->lT P t (.slice (some ⟨b,o,none⟩) n c) none (some (.int .i64 (k:Nat))) none h0=.ok (.slice (some ⟨b,o,none⟩) k c) h0:=fun b o n c hc=>by
  simp only [lT,hu.1,hu.2,nf]
  show (bif Nat.ble 0 k&&Nat.ble k c then (bif Nat.blt 0 c||Nat.beq 0 0 then KO.ok _ _ else _) else .no)=_
  have h1:(Nat.ble 0 k&&Nat.ble k c)=true:=by simp [ble_eq];omega
  have h2:(Nat.blt 0 c||Nat.beq 0 0)=true:=by simp [beq_eq]
  rw [h1,cond_true,h2,cond_true];simp
 rcases h with ⟨rfl,rfl,rfl⟩ | ⟨⟨b,o,sp⟩,c,rfl,rfl,rfl⟩ | ⟨b,o,c,B,g,rfl,h2,h3,rfl,h4,h5⟩
 ·have:k=0:=by simpa using hk
  subst this
  refine ⟨.slice none 0 0,[],?_,.inl ⟨rfl,rfl,rfl⟩,by simp⟩
  simp only [lT,hu.1,hu.2,nf]
  rfl
 ·have:k=0:=by simpa using hk
  subst this
  cases sp with
  | none=>exact ⟨_,[],key b o 0 c (Nat.zero_le _),.inr (.inl ⟨_,c,rfl,by simp,rfl⟩),by simp⟩
  | some sp=>
   refine ⟨.slice (some ⟨b,o,some sp⟩) 0 0,[],?_,.inr (.inl ⟨_,0,rfl,by simp,rfl⟩),by simp⟩
   simp only [lT,hu.1,hu.2,nf]
   rfl
 ·refine (by
   obtain ⟨g2,h6,h7⟩:=h5.abB k
   by_cases vf:k=0
   ·subst vf
    exact ⟨_,[],key b o _ c (Nat.zero_le _),.inr (.inl ⟨_,c,rfl,by simp,rfl⟩),by simp⟩
   ·refine ⟨_,b::g2,key b o _ c (by omega),.inr (.inr ⟨b,o,c,B,g2,by rw [hlen],fun e=>?_,by omega,rfl,h4,h6⟩),fun y hy=>?_⟩
    ·have:=congrArg List.length e;rw [hlen] at this;exact vf (by simpa using this)
    ·rcases List.mem_cons.1 hy with e | e
     ·simp [e]
     ·simp [h7 y e])
end
theorem MT (H:ad):∀xs:List Int,dP .int H (xs.map (.int .i64)) xs []
 | []=>rfl
 | x::xs=>⟨[.int .i64 x],xs.map (.int .i64),[],[],rfl,rfl,⟨rfl,rfl⟩,MT H xs⟩
attribute [go_sem] Int.reduceEq Int.reduceLT Int.reduceLE decide_true decide_false Nat.left_eq_add Nat.add_eq_left Nat.add_left_cancel_iff Nat.reduceEqDiff Nat.add_zero Nat.mul_one
end Go.Proofs.YtinjmfblebpnnaaGreat.Ab
namespace Go.Proofs.YtinjmfblebpnnaaGreat.Ab
open Go Classical
def TM (m t:Nat):Bool:=Nat.beq ((m >>> t) % 2) 1
def Kk (m:Nat) (d:Option Nat):Bool:=match d with
 | none=>true
 | some d=>TM m d
def qB (m:Nat):Code->Bool
 | .seq a b=>qB m a&&qB m b
 | .cond _ a b=>qB m a&&qB m b
 | .block _ a=>qB m a
 | .loop a=>qB m a
 | .region _ ops _=>ops.toList.all fun o=>Kk m o.dst
 | _=>true
def Hz (n:Nat) (x y:Value):Value:=if n=1 then x else y
@[go_sem] theorem am9 {x y:Value}:Hz 1 x y=x:=nr (if_pos rfl)
@[go_sem] theorem amy {x y:Value}:Hz 0 x y=y:=nr (if_neg (by decide))
def vh (m:Nat) (V E:Env):Env:=fun t=>Hz ((m >>> t) % 2) (V t) (E t)
@[go_sem ↓] theorem aqh {m t:Nat} {V E:Env}:vh m V E t=Hz ((m >>> t) % 2) (V t) (E t):=nr rfl
attribute [go_sem] Nat.reduceShiftRight Nat.reduceMod
section
variable {P:Program} {X:Nat->Bool} {T:oc} {E:Env} {H:ad} {Q:Exit->Env->ad->Prop}
def mH (m:Nat) (E E':Env):Prop:=∀t,TM m t=false->E' t=E t
theorem mH.refl (m:Nat) (E:Env):mH m E E:=fun _ _=>rfl
theorem mH.trans {m:Nat} {E E1 E2:Env} (h:mH m E E1) (h':mH m E1 E2):mH m E E2:=fun t ht=>(h' t ht).trans (h t ht)
theorem mH.put {m:Nat} {E:Env} {d:Option Nat} {v:Value} (h:Kk m d=true):mH m E (nh E d v):=fun t ht=>by
 cases d with
 | none=>rfl
 | some d=>
  show (if t=d then v else E t)=E t
  rw [if_neg]
  rintro rfl
  rw [show Kk m (some t)=TM m t from rfl,ht] at h
  cases h
theorem mH.vh {m:Nat} {E E':Env} (h:mH m E E'):E'=vh m E' E:=by
 funext t
 show E' t=Hz ((m >>> t) % 2) (E' t) (E t)
 unfold Hz
 split
 ·rfl
 ·rename_i hn
  refine h t ?_
  show Nat.beq ((m >>> t) % 2) 1=false
  rw [beq_eq];exact decide_eq_false hn
theorem MU {m:Nat} {ds:List (Option Nat)}:∀{l:List Oper} {E:Env} {H:ad} {K K':Env->ad->Prop},(l.all fun o=>Kk m o.dst)=true->(∀E' H',mH m E E'->K E' H'->K' E' H')->kX P X ds l E H K->kX P X ds l E H K'
 | [],E,H,K,K',hc,hk,h=>hk E H (.refl m E) h
 | o::l,E,H,K,K',hc,hk,h=>by
  rw [List.all_cons,Bool.and_eq_true] at hc
  rw [kX] at h ⊢
  split
  ·rename_i hw;rw [if_pos hw] at h;exact MS (fun v H h=>MU hc.2 (fun E' H' ho=>hk E' H' ((mH.put hc.1).trans ho)) h) h
  ·rename_i hw;rw [if_neg hw] at h;exact MU hc.2 (fun E' H' ho=>hk E' H' ((mH.put hc.1).trans ho)) h
theorem MJ {m:Nat} {tb:List (Nat × Nat)} {ds:List (Option Nat)}:∀{l:List Oper} {k:Nat} {acc:List (Nat × Rec)} {E:Env} {H:ad} {K K':Env->ad->Prop},(l.all fun o=>Kk m o.dst)=true->(∀E' H',mH m E E'->K E' H'->K' E' H')->iY P X tb ds l k acc E H K->iY P X tb ds l k acc E H K'
 | [],k,acc,E,H,K,K',hc,hk,h=>hk E H (.refl m E) h
 | o::l,k,acc,E,H,K,K',hc,hk,h=>by
  rw [List.all_cons,Bool.and_eq_true] at hc
  rw [iY] at h ⊢
  split
  ·rename_i hw;rw [if_pos hw] at h;exact MS (fun v H h=>⟨h.1,MJ hc.2 (fun E' H' ho=>hk E' H' ((mH.put hc.1).trans ho)) h.2⟩) h
  ·rename_i hw;rw [if_neg hw] at h;exact MJ hc.2 (fun E' H' ho=>hk E' H' ((mH.put hc.1).trans ho)) h
theorem adS {m:Nat}:∀{c:Code} {E:Env} {H:ad} {Q Q':Exit->Env->ad->Prop},qB m c=true->(∀e E' H',mH m E E'->Q e E' H'->Q' e E' H')->wC P X T c E H Q->wC P X T c E H Q':=by
 intro c
 induction c with
 | skip=>intro E H Q Q' hc hq h;exact hq _ _ _ (.refl m E) h
 | label l=>intro E H Q Q' hc hq h;exact hq _ _ _ (.refl m E) h
 | exit id=>intro E H Q Q' hc hq h;exact hq _ _ _ (.refl m E) h
 | ret=>intro E H Q Q' hc hq h;exact hq _ _ _ (.refl m E) h
 | region id ops draw=>
  intro E H Q Q' hc hq h
  cases draw
  ·exact MU hc (hq .normal) h
  ·exact MJ hc (hq .normal) h
 | seq a b eY lY=>
  intro E H Q Q' hc hq h
  rw [qB,Bool.and_eq_true] at hc
  rw [wC] at h ⊢
  refine eY hc.1 (fun e E1 H1 ho h=>?_) h
  cases e with
  | normal=>exact lY hc.2 (fun e E2 H2 fD h=>hq _ _ _ (ho.trans fD) h) h
  | _=>exact hq _ _ _ ho h
 | cond x a b eY lY=>
  intro E H Q Q' hc hq h
  rw [qB,Bool.and_eq_true] at hc
  rw [wC] at h ⊢
  unfold AZ at h ⊢
  split
  ·rename_i v hv
   rw [hv] at h
   simp only at h
   split
   ·rename_i hb;rw [if_pos hb] at h;exact eY hc.1 hq h
   ·rename_i hb;rw [if_neg hb] at h;exact lY hc.2 hq h
  ·rename_i hv
   split at h
   ·rename_i v nv;exact (hv _ nv).elim
   ·exact h
 | block id a eY=>
  intro E H Q Q' hc hq h
  rw [wC] at h ⊢
  refine eY hc (fun e E1 H1 ho h=>?_) h
  cases e with
  | exit i=>
   simp only [uK] at h ⊢
   split
   ·rename_i he;rw [if_pos he] at h;exact hq _ _ _ ho h
   ·rename_i he;rw [if_neg he] at h;exact hq _ _ _ ho h
  | _=>exact hq _ _ _ ho h
 | loop a eY=>
  intro E H Q Q' hc hq h
  rw [wC] at h ⊢
  obtain ⟨n,h⟩:=h
  refine ⟨n,?_⟩
  have key:∀n E1 H1,mH m E E1->pC (wC P X T a) n E1 H1 Q->pC (wC P X T a) n E1 H1 Q':=by
   intro n
   induction n with
   | zero=>intro E1 H1 ho h;exact h
   | succ n ih=>
    intro E1 H1 ho h
    rw [pC] at h ⊢
    refine eY hc (fun e E2 H2 fD h=>?_) h
    cases e with
    | normal=>exact ih E2 H2 (ho.trans fD) h
    | _=>exact hq _ _ _ (ho.trans fD) h
  exact key n E H (.refl m E) h
 | rangeFunc f ps x y=>intro E H Q Q' hc hq h;cases h
 | scope b=>intro E H Q Q' hc hq h;cases h
 | goto l=>intro E H Q Q' hc hq h;cases h
 | refuse w=>intro E H Q Q' hc hq h;cases h
theorem lp {a:Code} (m:Nat) (I:Nat->Env->ad->Prop) {n:Nat} (h0:I n E H) (hr:∀n V H1,I n V H1->wC P X T a (vh m V E) H1 (oB (fun E' H'=>∃k,k < n/\I k E' H') Q)) (hc:qB m a=true):wC P X T (.loop a) E H Q:=by
 refine adP (fun n E' H'=>I n E' H'/\mH m E E') ⟨h0,.refl m E⟩ fun n E1 H1 ⟨hI,ho⟩=>?_
 have:=hr n E1 H1 hI
 rw [<-ho.vh] at this
 refine adS hc (fun e E2 H2 fD h=>?_) this
 cases e with
 | normal=>
  obtain ⟨k,hk,h⟩:=h
  exact ⟨k,hk,h,ho.trans fD⟩
 | _=>exact h
theorem il {a:Code} (m n:Nat) (I:Nat->Env->ad->Prop) (h0:I 0 E H) (hr:∀i V H1,i < n->I i V H1->wC P X T a (vh m V E) H1 (oB (fun E' H'=>I (i+1) E' H') Q))
  (he:∀V H1,I n V H1->wC P X T a (vh m V E) H1 (oB (fun _ _=>False) Q)) (hc:qB m a=true):wC P X T (.loop a) E H Q:=by
 refine lp m (fun k E' H'=>∃i,i+k=n/\I i E' H') (n:=n) ⟨0,by omega,h0⟩ (fun k V H1 ⟨i,hi,hI⟩=>?_) hc
 cases k with
 | zero=>
  obtain rfl:i=n:=by omega
  refine QG (fun e E2 H2 h=>?_) (he V H1 hI)
  cases e with
  | normal=>exact h.elim
  | _=>exact h
 | succ k=>
  refine QG (fun e E2 H2 h=>?_) (hr i V H1 (by omega) hI)
  cases e with
  | normal=>exact ⟨k,by omega,i+1,by omega,h⟩
  | _=>exact h
end
structure vi (f:List Nat) (H H':ad):Prop where
 nx:H'.next=H.next
 get:∀c,c∉f->H'.get c=H.get c
 fz:∀c,H'.fz c=H.fz c
 ro:∀c∈f,∀B,H'.get c=some B->B.ro=false
theorem vi.refl {f:List Nat} {H:ad} (oa:∀c∈f,∀B,H.get c=some B->B.ro=false):vi f H H:=⟨rfl,fun _ _=>rfl,fun _=>rfl,oa⟩
theorem vi.ah {f:List Nat} {H H1:ad} (h:vi f H H1) {b:Nat} {B:ct} (hb:b∈f) (hB:B.ro=false):vi f H (H1.ah b B):=⟨h.nx,fun c hc=>by
 rw [az,if_neg (fun e=>hc (by rw [e];exact hb))];exact h.get c hc,h.fz,fun c hc C hC=>by
 rw [az] at hC
 split at hC
 ·cases hC;exact hB
 ·exact h.ro c hc C hC⟩
theorem bc.sk {f:List Nat} {H H1 H2:ad} (h:bc H H1) (hu:vi f H1 H2) (hf:∀y∈f,H.next<=y):bc H H2:=⟨by rw [hu.nx];exact h.nx,fun b hb=>by
 rw [hu.get b (fun hm=>by have:=hf b hm;omega)];exact h.get b hb,fun b B hB hr=>by
 by_cases hm:b∈f
 ·rw [hu.ro b hm B hB] at hr;cases hr
 ·rw [hu.get b hm] at hB;exact h.ro b B hB hr⟩
section
variable {H:ad}
theorem cW {i n:Nat} (hi:i < n) (hn:n < 4611686018427387904):IntKind.wrap .i64 (((i:Nat):Int)+1)=((i+1:Nat):Int):=wrap_add (k:=1) (by omega)
theorem Sl.adT {v:Value} {xs:List Int} {f:List Nat} (h:Sl .int H v xs f) {i:Nat} (hi:i < xs.length):
  ∃b o c B,v=.slice (some ⟨b,o,none⟩) xs.length c/\H.get b=some B/\b∈f/\B.cells[o+i]?=some (.int .i64 (xs.getD i 0)):=by
 have i7:xs[i]?=some xs[i]:=List.getElem?_eq_getElem hi
 obtain ⟨b,o,c,B,gx,hv,hB,ee,Br,b7,hE⟩:=h.at i7
 have iC:=(Rp.Ym.1 hE).1
 refine ⟨b,o,c,B,hv,hB,ee,?_⟩
 have:((B.cells.drop (o+i * 1)).take 1)[0]?=some (.int .i64 xs[i]):=by
  rw [show (B.cells.drop (o+i * 1)).take 1=_ from iC];rfl
 rw [List.getElem?_take,if_pos (by decide),List.getElem?_drop,Nat.mul_one,Nat.add_zero] at this
 rw [this,List.getD_eq_getElem?_getD,i7];rfl
end
theorem xq {cs row vs:List Value} {o k sz:Nat} (hr:(cs.drop o).take sz=row) (hk:k+vs.length<=sz) (ho:o+sz<=cs.length):cT cs (o+k) vs=cT cs o (cT row k vs):=by
 subst hr
 have h1:cs.take (o+k)=cs.take o++(cs.drop o).take k:=by rw [List.take_add]
 have h2:((cs.drop o).take sz).take k=(cs.drop o).take k:=by rw [List.take_take,Nat.min_eq_left (by omega)]
 have h3:((cs.drop o).take sz).drop (k+vs.length)++cs.drop (o+sz)=cs.drop (o+k+vs.length):=by
  have e:cs.drop (o+sz)=(cs.drop o).drop sz:=by rw [List.drop_drop]
  have e2:cs.drop (o+k+vs.length)=(cs.drop o).drop (k+vs.length):=by rw [List.drop_drop,Nat.add_assoc]
  rw [e,e2]
  have e3:(cs.drop o)=(cs.drop o).take sz++(cs.drop o).drop sz:=(List.take_append_drop _ _).symm
  conv=>rhs;rw [e3]
  rw [List.drop_append_of_le_length (by simp;omega)]
 have hl:(cT ((cs.drop o).take sz) k vs).length=sz:=by
  unfold cT
  simp;omega
 unfold cT at hl ⊢
 rw [hl,h1,h2,List.append_assoc,List.append_assoc,List.append_assoc,h3]
theorem Gz {P:Program} {X:Nat->Bool} {Hb H:ad} {α:Type} {r:Rp α} {t e:TypeId} {dZ b:Nat} {v:Value} {l:List α} {x:α} {f g:List Nat} {B:ct} {K:Value->ad->Prop} (ha:iM P t=some (e,r.sz,dZ)) (js:Ow r e H v l f) (hold:bc Hb H)
  (hf:Bq Hb.next H f) (hg:Bq Hb.next H g) (hd:∀y∈f,y∉g) (hX:∀y∈f,X y=false) (hB:H.get b=some B) (hE:r.E H B.cells x g) (h1:j5 B.cells=true) (hn:(l.length+1) * dZ < 140737488355328) {tg:Tag K}
  (hk:∀v' H' f',Ow r e H' v' (l++[x]) f'->Bq Hb.next H' f'->(∀y∈f',y=H.next∨y∈f∨y∈g)->H'.next=H.next+1->(∀c,c < H.next->c∉f->H'.get c=H.get c)->bc Hb H'->K v' H'):el P X H (iG P t v (.slice (some ⟨b,0,none⟩) 1 1) H) K tg:=by
 refine acj ha js hf.hi (by rw [List.nodup_append];exact ⟨hf.nd,hg.nd,fun a ha b hb e=>hd a ha (e▸hb)⟩) hg.hi hX hB hE h1 hn ?_
 intro v' H' f' h1 h2 h3 h4 h5 h6 h7 h8
 have dO:=hold.nx
 refine hk v' H' f' h1 ⟨h2,fun y hy=>?_,h4⟩ h3 h5 h6 ⟨by omega,fun y hy=>?_,fun y B hB hr=>hold.ro y B (h8 y B hB hr) hr⟩
 ·rcases h3 y hy with e | e | e
  ·omega
  ·exact hf.lo y e
  ·exact hg.lo y e
 ·rw [h6 y (by omega) (fun e=>by have:=hf.lo y e;omega)];exact hold.get y hy
section ajj
variable {P:Program} {t e:TypeId} {s b o n c:Nat}
theorem MV (he:iL P t=some (e,s)):P.underlying t=some (.slice e)/\dj P e=some s:=by
 unfold iL at he
 split at he
 ·rename_i e1 hu
  split at he
  ·rename_i s hs;cases he;exact ⟨hu,hs⟩
  ·cases he
 ·cases he
theorem MW {hi:Nat} (he:iL P t=some (e,s)) (h2:hi<=c):
  lT P t (.slice (some ⟨b,o,none⟩) n c) none (some (.int .i64 (hi:Nat))) none h0=.ok (.slice (some ⟨b,o,none⟩) hi c) h0:=by
 obtain ⟨hu,hs⟩:=MV he
 simp only [lT,hu,hs,nf]
 show (bif Nat.ble 0 hi&&Nat.ble hi c then (bif Nat.blt 0 c||Nat.beq 0 0 then KO.ok _ _ else _) else .no)=_
 have e1:(Nat.ble 0 hi&&Nat.ble hi c)=true:=by simp [ble_eq];omega
 have e2:(Nat.blt 0 c||Nat.beq 0 0)=true:=by simp [beq_eq]
 rw [e1,cond_true,e2,cond_true];simp
theorem Qc {lo:Nat} (he:iL P t=some (e,s)) (h1:lo<=n) (h2:n<=c) (h3:lo < c∨lo=0):
  lT P t (.slice (some ⟨b,o,none⟩) n c) (some (.int .i64 (lo:Nat))) none none h0=.ok (.slice (some ⟨b,o+lo * s,none⟩) (n - lo) (c - lo)) h0:=by
 obtain ⟨hu,hs⟩:=MV he
 simp only [lT,hu,hs,nf]
 show (bif Nat.ble lo n&&Nat.ble n c then (bif Nat.blt lo c||Nat.beq lo 0 then KO.ok _ _ else _) else .no)=_
 have e1:(Nat.ble lo n&&Nat.ble n c)=true:=by simp [ble_eq];omega
 have e2:(Nat.blt lo c||Nat.beq lo 0)=true:=by simp [blt_eq,beq_eq];omega
 rw [e1,cond_true,e2,cond_true]
theorem ack {H:ad} {B:ct} {z:List Value} (he:iL P t=some (e,s)) (hz:fQ P e=some z) (h0:0 < n) (Bp:0 < z.length) (hB:H.get b=some B) (hl:o+n * z.length<=B.cells.length) (h1:j5 (eO z n)=true) (oa:B.ro=false):
  AK P t (.slice (some ⟨b,o,none⟩) n c) H=.ok (.tuple #[]) (H.ah b ⟨cT B.cells o (eO z n),B.elem,B.gW,false⟩):=by
 obtain ⟨hu,hs⟩:=MV he
 simp only [AK,hu,hz]
 rw [if_neg (by omega),if_pos Bp]
 simp only [qg,hB]
 rw [if_pos ⟨by rw [P9];exact hl,h1,oa⟩]
end ajj
@[go_sem] theorem amf {w:Bool}:Ht undef w=false:=nr rfl
attribute [go_sem] Int.ofNat_lt Int.ofNat_le Nat.lt_irrefl Int.natCast_inj Int.reduceToNat
end Go.Proofs.YtinjmfblebpnnaaGreat.Ab
namespace Go.Proofs.YtinjmfblebpnnaaGreat.Ab
open Go Classical
section
variable {P:Program} {X:Nat->Bool}
theorem CT.ai {run:(Exit->Act->World->Prop)->Act->World->Prop} {t t':Act} {H H':ad} {e:Exit} (fz:Nat->Bool) (h:CT P run t H e t' H'):CT P run t H e t' (H'.ai fz):=fun σ w a Q hr hf ht hq=>
 h σ w a Q hr hf ht fun σ' a' w' p K8=>hq σ' a' w' ⟨p.rel,p.ext,p.size,p.ae,p.oI,p.ua,p.rest⟩ K8
def wS (P:Program) (X:Nat->Bool) (n:Nat) (c:Code) (E:Env) (H:ad) (Q:Exit->Env->ad->Prop):Prop:=∀t,TE n t E->xX X H->RC P c t H (Ey X n H Q)
theorem wS.of {T:oc} {n:Nat} {c:Code} {E:Env} {H:ad} {Q:Exit->Env->ad->Prop} (hm:P.follows .mixedOrders=true) (hc:me P T n c=true) (h:wC P X T c E H Q):wS P X n c E H Q:=fun t ht hi=>W6 hm c t E H Q hc ht hi h
theorem wS.seq {n:Nat} {a b:Code} {E:Env} {H:ad} {Q:Exit->Env->ad->Prop} (h:wS P X n a E H (oB (fun E H=>wS P X n b E H Q) Q)):wS P X n (.seq a b) E H Q:=fun t ht hi=>by
 refine QP ((h t ht hi).mono fun e t' H' _ hf=>?_)
 obtain ⟨E',h1,h2,h3⟩:=hf
 cases e with
 | normal=>exact (h3 t' h1 h2.inv).mono fun e2 t2 H2 _ ry=>ry.after h2
 | _=>exact ⟨E',h1,h2,h3⟩
theorem wS.told {n:Nat} {c:Code} {E:Env} {H:ad} {Q:Exit->Env->ad->Prop}
  (h:wS P X n c E H fun e E' H'=>∃fz:Nat->Bool,(∀b,X b=true->fz b=true)/\(∀b,fz b=true->b < H'.next)/\Q e E' (H'.ai fz)):wS P X n c E H Q:=fun t ht hi=>by
 obtain ⟨e,t',H',h1,h2,E',h3,h4,fz,h5,h6,h7⟩:=h t ht hi
 exact ⟨e,t',H'.ai fz,⟨h1.next,h1.wf,h1.same⟩,h2.ai fz,E',h3,⟨h4.nx,h4.get,h5,⟨h4.iq.wf,h6⟩⟩,h7⟩
theorem Nz {f:FuncId} {fn:Func} {c:Code} {l:List Value} {H:ad} {K:Value->ad->Prop} (hf:P.funcs[f]?=some fn) (hb:fn.body=some c)
  (hl:l.length<=fn.ntmps) (h:bW H->wS P H.fz fn.ntmps c (cb l) H (cm P fn.results.toList K)):aj P f l.toArray H K:=by
 intro zB
 have hi:xX H.fz H:=⟨zB,fun _ h=>h⟩
 have iu:=h zB (start fn l.toArray) (W9 (by simpa using hl)) hi
 have vc:Tj P f l.toArray H fun v H'=>KX H.fz H H'/\K v H':=by
  refine Yi hf hb (iu.mono fun e t' H' _ hE=>?_)
  obtain ⟨E',h1,h2,h3⟩:=hE
  have Rk:∀{e:Exit},cm P fn.results.toList K e E' H'->(e=.normal∨e=.ret)/\A0 P fn.results.toList E' H' K:=fun {e} hq=>by
   cases e with
   | normal=>exact ⟨.inl rfl,hq⟩
   | ret=>exact ⟨.inr rfl,hq⟩
   | _=>exact hq.elim
  obtain ⟨he,hw⟩:=Rk h3
  refine ⟨he,?_⟩
  unfold A0 at hw
  split at hw
  ·rename_i vs po
   exact ⟨_,W8 h2.iq.wf h1 po,h2,hw⟩
  ·exact hw.elim
 obtain ⟨v,H',h1,h2,h3,h4⟩:=vc
 exact ⟨v,H',h1,h2,h3,h4⟩
theorem ac0 {f:FuncId} {fn:Func} {a b:Code} {l:List Value} {H:ad} {K:Value->ad->Prop} (T:oc) (hm:P.follows .mixedOrders=true) (hf:P.funcs[f]?=some fn) (hc:bI P T f=true) {m:Nat} (hl:l.length<=m) (hn:m<=fn.ntmps) {rs:List ResultVar} (hr:fn.results.toList=rs) (hb:fn.body=some (.seq a b))
  (h:bW H->wC P H.fz T a (cb l) H (oB (fun E1 H1=>H.next<=H1.next->wC P H.fz T b E1 (H1.ai H.fz) (cm P rs K)) (cm P rs K))):aj P f l.toArray H K:=by
 obtain ⟨c,dT,hc⟩:=Ju hc hf
 rw [hb] at dT
 cases dT
 simp only [me,Bool.and_eq_true] at hc
 subst hr
 refine Nz hf hb (Nat.le_trans hl hn) fun zB=>.seq (.told fun t ht hi=>?_)
 refine ((wS.of hm hc.1 (h zB)) t ht hi).mono fun e t' H' dE hE=>?_
 obtain ⟨E',h1,h2,h3⟩:=hE
 cases e with
 | normal=>exact ⟨E',h1,h2,H.fz,fun _ h=>h,fun b hb=>Nat.lt_of_lt_of_le (zB.fz b hb) h2.nx,wS.of hm hc.2 (h3 h2.nx)⟩
 | _=>exact ⟨E',h1,h2,H'.fz,h2.fz,h2.iq.fz,h3⟩
end
abbrev bj:=List UInt8
structure bh where
 kind:Int
 n:Int
 line:Int
 au:Int
 text:bj
deriving DecidableEq
def oW (c:UInt8):Bool:=decide (97<=c.toNat)&&decide (c.toNat<=122)
def isDigit (c:UInt8):Bool:=decide (48<=c.toNat)&&decide (c.toNat<=57)
def tr:bj:=[40,41,123,125,91,93,44,59,58,61,46,43,45,42,60,94,33,63]
def D3 (c:UInt8):Bool:=tr.contains c
def kU (c:UInt8):Bool:=oW c||isDigit c||c==95
def Cq (c:UInt8) (s:bj):Option (Int × Nat):=
 if oW c then (if 16 < (s.takeWhile kU).length then none else some (1,(s.takeWhile kU).length))
 else if isDigit c then (if 9 < (s.takeWhile isDigit).length∨1 < (s.takeWhile isDigit).length/\c=48 then none else some (2,(s.takeWhile isDigit).length))
 else if D3 c then some (3,1) else none
def D4:bj->Option (Int × Nat)
 | []=>none
 | c::r=>Cq c (c::r)
def oX (s:bj):Nat:=s.foldl (fun n c=>10 * n+(c.toNat - 48)) 0
inductive N1 where
 | ok (l:List bh)
 | bad
deriving DecidableEq
def i3:Nat->bj->Int->Int->List bh->N1
 | 0,_,_,_,_=>.bad
 | k+1,[],line,au,acc=>.ok (acc++[⟨4,0,line,au,[]⟩])
 | k+1,c::r,line,au,acc=>
  if c=10 then i3 k r (line+1) 1 acc
  else if c=32∨c=9 then i3 k r line (au+1) acc
  else if c=35 then i3 k ((c::r).dropWhile (·≠10)) line (au+(((c::r).takeWhile (·≠10)).length:Nat)) acc
  else match D4 (c::r) with
   | none=>.bad
   | some (kind,w)=>i3 k ((c::r).drop w) line (au+(w:Nat)) (acc++[⟨kind,if kind=2 then (oX ((c::r).take w):Nat) else 0,line,au,(c::r).take w⟩])
def xv (s:bj):N1:=if 16384 < s.length then .bad else i3 (s.length+1) s 1 1 []
def zD:List bj:=[[109,115,103],[114,101,99],[100,101,102],[97,99,116,111,114],[111,110],[108,101,116],[110,101,119],[115,116,97,114,116],[103,101,116],[115,101,116],[115,119,97,112],[114,101,99,111,118,101,114],[103,105,118,101],[108,111,111,112],[115,112,97,119,110],[99,97,108,108],[97,103,97,105,110],[103,117,97,114,100],[102,114,101,101],[97,115],[105,102],[101,108,115,101],[100,111,110,101],[109,111,118,101],[105,110,116],[97,114,114],[105,115,111],[118,97,108],[114,101,102],[116,97,103]]
def isKey (s:bj):Bool:=zD.contains s
def isWord (s:bj):Bool:=(match s with
 | []=>false
 | c::r=>oW c&&r.all kU)&&decide (s.length<=16)
def D5 (s:bj):Bool:=isWord s&&!isKey s
theorem Qd {s:bj} {kind:Int} {k:Nat} (h:D4 s=some (kind,k)):1<=k/\k<=s.length/\(kind=1∨kind=2∨kind=3)/\(kind=2->k<=9/\(s.take k).all isDigit=true):=by
 cases s with
 | nil=>cases h
 | cons c r=>
  replace h:Cq c (c::r)=some (kind,k):=h
  unfold Cq at h
  have tw:∀p:UInt8->Bool,p c=true->1<=((c::r).takeWhile p).length:=fun p hp=>by rw [List.takeWhile_cons,if_pos hp];simp
  have tl:∀p:UInt8->Bool,((c::r).takeWhile p).length<=(c::r).length:=fun p=>(List.takeWhile_prefix p).length_le
  by_cases h1:oW c=true
  ·rw [if_pos h1] at h
   split at h
   ·cases h
   ·cases h
    exact ⟨tw _ (by simp [kU,h1]),tl _,.inl rfl,fun h=>by cases h⟩
  rw [if_neg h1] at h
  by_cases h2:isDigit c=true
  ·rw [if_pos h2] at h
   split at h
   ·cases h
   ·rename_i hn
    cases h
    refine ⟨tw _ h2,tl _,.inr (.inl rfl),fun _=>⟨by omega,?_⟩⟩
    have hp:=List.takeWhile_prefix (l:=c::r) isDigit
    rw [<-List.prefix_iff_eq_take.1 hp]
    exact List.all_takeWhile
  rw [if_neg h2] at h
  split at h
  ·cases h;exact ⟨Nat.le_refl _,by simp,.inr (.inr rfl),fun h=>by cases h⟩
  ·cases h
def Lo (l:List bh):Prop:=∃l' e,l=l'++[e]/\e.kind=4/\∀t∈l',t.kind≠4
theorem Lo.next {l:List bh} (h:Lo l) {i:Nat} {t:bh} (hi:l[i]?=some t) (ht:t.kind≠4):i+1 < l.length:=by
 obtain ⟨l',e,rfl,h1,h2⟩:=h
 have aZ:=(List.getElem?_eq_some_iff.1 hi).1
 rw [List.length_append,List.length_singleton] at aZ ⊢
 by_cases he:i=l'.length
 ·subst he
  rw [List.getElem?_append_right (Nat.le_refl _),Nat.sub_self] at hi
  cases hi
  exact absurd h1 ht
 ·omega
theorem JD:∀(k:Nat) (s:bj) (line au:Int) (acc l:List bh),(∀t∈acc,t.kind≠4)->i3 k s line au acc=.ok l->Lo l
 | 0,s,line,au,acc,l,ha,h=>by cases h
 | k+1,[],line,au,acc,l,ha,h=>by
  rw [i3] at h
  cases h
  exact ⟨acc,_,rfl,rfl,ha⟩
 | k+1,c::r,line,au,acc,l,ha,h=>by
  rw [i3] at h
  split at h
  ·exact JD k _ _ _ _ _ ha h
  split at h
  ·exact JD k _ _ _ _ _ ha h
  split at h
  ·exact JD k _ _ _ _ _ ha h
  split at h
  ·cases h
  ·rename_i kind w hp
   refine JD k _ _ _ _ _ (fun t ht=>?_) h
   rcases List.mem_append.1 ht with e | e
   ·exact ha t e
   ·rw [List.mem_singleton] at e
    subst e
    have:=(Qd hp).2.2.1
    show kind≠4
    omega
theorem aa4 {s:bj} {l:List bh} (h:xv s=.ok l):Lo l:=by
 unfold xv at h
 split at h
 ·cases h
 ·exact JD _ _ _ _ _ _ (by simp) h
section
variable {P:Program} {h:KH}
abbrev ag (s:List UInt8):Value:=.string ⟨s.toArray⟩
@[go_sem] theorem DS {s:List UInt8}:(ByteArray.mk s.toArray).data.toList=s:=nr (List.toList_toArray ..)
theorem xt {t:TypeId} {s:List UInt8} {i:Nat} {c:UInt8} (hu:P.underlying t=some .string) (hc:s[i]?=some c):xA P t (ag s) (.int .i64 ((i:Nat):Int)) h=.ok (.int .u8 ((c.toNat:Nat):Int)) h:=by
 unfold xA
 rw [hu]
 show (match pg (ByteArray.mk s.toArray).data.toList i with
  | some c=>KO.ok (.int .u8 (.ofNat c.toNat)) h
  | none=>.no)=_
 rw [wb,DS,hc]
 rfl
theorem GN {t:TypeId} {s:List UInt8} (hu:P.underlying t=some .string):wo P t (ag s) h=.ok (.int .i64 ((s.length:Nat):Int)) h:=by
 rw [aa3 hu,DS]
theorem JE {t:TypeId} {a b:List UInt8} (hl:a.length+b.length < 4611686018427387904):eB P .add t (ag a) (ag b) h=.ok (ag (a++b)) h:=by
 simp only [eB,mh,HO,DS,xu]
 rw [show Nat.blt (a.length+b.length) 4611686018427387904=true from by rw [blt_eq,decide_eq_true_eq];exact hl,cond_true]
theorem Xc {t:TypeId} {a b:List UInt8}:eB P .eql t (ag a) (ag b) h=.ok (.bool (decide (a=b))) h:=by
 rw [agJ,DS,DS]
theorem ac1 {t:TypeId} {s:List UInt8} {lo hi:Nat} (hu:P.underlying t=some .string) (h1:lo<=hi) (h2:hi<=s.length):lT P t (ag s) (some (.int .i64 ((lo:Nat):Int))) (some (.int .i64 ((hi:Nat):Int))) none h=.ok (ag ((s.drop lo).take (hi - lo))) h:=by
 unfold lT
 rw [hu]
 show (bif Nat.ble lo hi&&Nat.ble hi (jV (ByteArray.mk s.toArray).data.toList) then KO.ok (.string ⟨(Hg (He (ByteArray.mk s.toArray).data.toList lo) (hi - lo)).toArray⟩) h else .no)=_
 rw [DS,xu,show (Nat.ble lo hi&&Nat.ble hi s.length)=true from by simp [ble_eq];omega,cond_true,Gx,Gw]
theorem DW {s d:TypeId} {ks kd k:IntKind} {n:Int} {H:ad} (hs:P.underlying s=some (.int ks)) (hd:P.underlying d=some (.int kd)):rV P s d (.int k n) H=.ok (.int kd (kd.wrap n)) H:=by
 unfold rV
 rw [hs,hd]
 simp only [qd]
end
structure PN where
 kind:Int
 a:Int
 b:Int
 n:Int
 name:bj
deriving DecidableEq
structure Ty where
 kind:Int
 cap:Int
 rc:Int
 name:bj
 pat:List PN
deriving DecidableEq
structure sJ where
 name:bj
 ty:Ty
deriving DecidableEq
structure A1 where
 name:bj
 types:List Ty
 line:Int
 au:Int
deriving DecidableEq
structure A2 where
 name:bj
 fields:List sJ
 line:Int
 au:Int
deriving DecidableEq
structure so where
 kind:Int
 n:Int
 name:bj
deriving DecidableEq
structure eZ where
 tag:Int
 Ac:Int
 body:Int
 name:bj
 kJ:bj
 aX:List Int
 names:List bj
deriving DecidableEq
structure aH where
 kind:Int:=0
 x:Int:=0
 y:Int:=0
 f:Int:=0
 n:Int:=0
 cap:Int:=0
 rc:Int:=0
 op:Int:=0
 a:Int:=0
 b:Int:=0
 next:Int:=0
 line:Int:=0
 au:Int:=0
 mf:bj:=[]
 gf:bj:=[]
 gV:bj:=[]
 jq:bj:=[]
 args:List so:=[]
 pat:List PN:=[]
 ak:List eZ:=[]
deriving DecidableEq
structure eH where
 name:bj
 params:List sJ
 aX:Int
 body:Int
 line:Int
 au:Int
 rW:Bool
 pat:List PN
 on:List eZ
deriving DecidableEq
abbrev iV (n:Int):Value:=.int .i64 n
def Rp.flat {α:Type} (n:Nat) (hn:0 < n) (qC:α->List Value) (hl:∀x,(qC x).length=n):Rp α:=⟨n,hn,fun _ cs x f=>cs=qC x/\f=[],fun h=>by rw [h.1];exact hl _,fun h _=>h⟩
def Rp.NA {α β:Type} (n:Nat) (hn:0 < n) (qC:α->Value->List Value) (hl:∀x v,(qC x v).length=n) (r:Rp β) (g:α->List β):Rp α:=
 ⟨n,hn,fun H cs x f=>∃v,cs=qC x v/\Sl r H v (g x) f,fun ⟨v,h,_⟩=>by rw [h];exact hl _ _,fun ⟨v,h,hs⟩ hk=>⟨v,h,hs.ae hk⟩⟩
def Rp.agK {α β γ:Type} (n:Nat) (hn:0 < n) (qC:α->Value->Value->List Value) (hl:∀x v w,(qC x v w).length=n) (r:Rp β) (g:α->List β) (r2:Rp γ) (g2:α->List γ):Rp α:=
 ⟨n,hn,fun H cs x f=>∃v w f1 f2,cs=qC x v w/\f=f1++f2/\Sl r H v (g x) f1/\Sl r2 H w (g2 x) f2,fun ⟨v,w,f1,f2,h,_⟩=>by rw [h];exact hl _ _ _,
  fun ⟨v,w,f1,f2,h,hf,h1,h2⟩ hk=>⟨v,w,f1,f2,h,hf,h1.ae fun b hb=>hk b (by rw [hf];simp [hb]),h2.ae fun b hb=>hk b (by rw [hf];simp [hb])⟩⟩
def Rp.Yn {α β γ δ:Type} (n:Nat) (hn:0 < n) (qC:α->Value->Value->Value->List Value) (hl:∀x v w u,(qC x v w u).length=n) (r:Rp β) (g:α->List β) (r2:Rp γ) (g2:α->List γ) (r3:Rp δ) (g3:α->List δ):Rp α:=
 ⟨n,hn,fun H cs x f=>∃v w u f1 f2 f3,cs=qC x v w u/\f=f1++(f2++f3)/\Sl r H v (g x) f1/\Sl r2 H w (g2 x) f2/\Sl r3 H u (g3 x) f3,fun ⟨v,w,u,f1,f2,f3,h,_⟩=>by rw [h];exact hl _ _ _ _,
  fun ⟨v,w,u,f1,f2,f3,h,hf,h1,h2,h3⟩ hk=>⟨v,w,u,f1,f2,f3,h,hf,h1.ae fun b hb=>hk b (by rw [hf];simp [hb]),h2.ae fun b hb=>hk b (by rw [hf];simp [hb]),h3.ae fun b hb=>hk b (by rw [hf];simp [hb])⟩⟩
abbrev Ez:Rp bh:=.flat 5 (by decide) (fun t=>[iV t.kind,iV t.n,iV t.line,iV t.au,ag t.text]) fun _=>rfl
abbrev fy:Rp PN:=.flat 5 (by decide) (fun t=>[iV t.kind,iV t.a,iV t.b,iV t.n,ag t.name]) fun _=>rfl
abbrev jG:Rp so:=.flat 3 (by decide) (fun t=>[iV t.kind,iV t.n,ag t.name]) fun _=>rfl
abbrev wL:Rp Ty:=.NA 5 (by decide) (fun t v=>[iV t.kind,iV t.cap,iV t.rc,ag t.name,v]) (fun _ _=>rfl) fy (·.pat)
abbrev ls:Rp sJ:=.NA 6 (by decide) (fun t v=>[ag t.name,iV t.ty.kind,iV t.ty.cap,iV t.ty.rc,ag t.ty.name,v]) (fun _ _=>rfl) fy (·.ty.pat)
abbrev o9:Rp A1:=.NA 4 (by decide) (fun t v=>[ag t.name,v,iV t.line,iV t.au]) (fun _ _=>rfl) wL (·.types)
abbrev qm:Rp A2:=.NA 4 (by decide) (fun t v=>[ag t.name,v,iV t.line,iV t.au]) (fun _ _=>rfl) ls (·.fields)
abbrev dB:Rp eZ:=.agK 7 (by decide) (fun t v w=>[iV t.tag,iV t.Ac,iV t.body,ag t.name,ag t.kJ,v,w]) (fun _ _ _=>rfl) .int (·.aX) .str (·.names)
abbrev j6:Rp aH:=.Yn 20 (by decide) (fun t v w u=>[iV t.kind,iV t.x,iV t.y,iV t.f,iV t.n,iV t.cap,iV t.rc,iV t.op,iV t.a,iV t.b,iV t.next,iV t.line,iV t.au,ag t.mf,ag t.gf,ag t.gV,ag t.jq,v,w,u]) (fun _ _ _ _=>rfl) jG (·.args) fy (·.pat) dB (·.ak)
abbrev jh:Rp eH:=.Yn 9 (by decide) (fun t v w u=>[ag t.name,v,iV t.aX,iV t.body,iV t.line,iV t.au,.bool t.rW,w,u]) (fun _ _ _ _=>rfl) ls (·.params) fy (·.pat) dB (·.on)
structure Fr (M:List Nat) (H H':ad):Prop where
 nx:H.next<=H'.next
 get:∀c,c < H.next->c∉M->H'.get c=H.get c
 ro:∀c B,H'.get c=some B->B.ro=true->H.get c=some B
theorem Fr.refl (M:List Nat) (H:ad):Fr M H H:=⟨Nat.le_refl _,fun _ _ _=>rfl,fun _ _ h _=>h⟩
theorem Fr.trans {M M1:List Nat} {H H1 H2:ad} (h:Fr M H H1) (h':Fr M1 H1 H2) (hm:∀c∈M1,c∈M∨H.next<=c):Fr M H H2:=
 ⟨Nat.le_trans h.nx h'.nx,fun c hc hn=>(h'.get c (Nat.lt_of_lt_of_le hc h.nx) fun e=>(hm c e).elim hn fun e=>by omega).trans (h.get c hc hn),fun c B hB hr=>h.ro c B (h'.ro c B hB hr) hr⟩
theorem Fr.then {M:List Nat} {H H1 H2:ad} (h:Fr M H H1) (h':Fr M H1 H2):Fr M H H2:=h.trans h' fun _ h=>.inl h
theorem bc.fr {H H':ad} (h:bc H H') (M:List Nat):Fr M H H':=⟨h.nx,fun c hc _=>h.get c hc,h.ro⟩
theorem Fr.aE {H H':ad} (h:Fr [] H H'):bc H H':=⟨h.nx,fun c hc=>h.get c hc (by simp),h.ro⟩
theorem Fr.push {M:List Nat} {H H1:ad} (h:Fr M H H1) (B:ct) (hB:B.ro=false:=by rfl):Fr M H (H1.push B):=h.then ((bc.push H1 B hB).fr M)
theorem Fr.ah {M:List Nat} {H H1:ad} (h:Fr M H H1) {b:Nat} (hb:b∈M∨H.next<=b) (B:ct) (hB:B.ro=false:=by rfl):Fr M H (H1.ah b B):=
 ⟨h.nx,fun c hc hn=>by
  rw [az,if_neg]
  ·exact h.get c hc hn
  ·rintro rfl;rcases hb with e | e
   ·exact hn e
   ·omega,fun c C hC hr=>by
  rw [az] at hC
  split at hC
  ·cases hC;rw [hB] at hr;cases hr
  ·exact h.ro c C hC hr⟩
theorem Fr.ai {M:List Nat} {H H1:ad} (h:Fr M H H1) (fz:Nat->Bool):Fr M H (H1.ai fz):=⟨h.nx,h.get,h.ro⟩
theorem Fr.sub {M M':List Nat} {H H1:ad} (h:Fr M H H1) (hm:∀c∈M,c∈M'∨H.next<=c):Fr M' H H1:=⟨h.nx,fun c hc hn=>h.get c hc fun e=>(hm c e).elim hn fun e=>by omega,h.ro⟩
def Gr {α:Type} (r:Rp α) (ty:TypeId) (H:ad) (v:Value) (l:List α) (m g:List Nat):Prop:=
 (v=.slice none 0 0/\l=[]/\m=[]/\g=[])∨∃b cs,v=.slice (some ⟨b,0,none⟩) l.length l.length/\l≠[]/\m=[b]/\H.get b=some ⟨cs,ty,true,false⟩/\cs.length=l.length * r.sz/\dP r H cs l g/\b∉g
theorem Gr.nil {α:Type} (r:Rp α) (ty:TypeId) (H:ad):Gr r ty H (.slice none 0 0) [] [] []:=.inl ⟨rfl,rfl,rfl,rfl⟩
theorem Gr.sl {α:Type} {r:Rp α} {ty:TypeId} {H:ad} {v:Value} {l:List α} {m g:List Nat} (h:Gr r ty H v l m g):Sl r H v l (m++g):=by
 rcases h with ⟨rfl,rfl,rfl,rfl⟩ | ⟨b,cs,rfl,h2,rfl,h3,h4,h5,_⟩
 ·exact .inl ⟨rfl,rfl,rfl⟩
 ·exact .inr (.inr ⟨b,0,_,_,g,rfl,h2,Nat.le_refl _,rfl,h3,h5⟩)
theorem Gr.ae {α:Type} {r:Rp α} {ty:TypeId} {H H':ad} {v:Value} {l:List α} {m g:List Nat} (h:Gr r ty H v l m g) (hm:∀b∈m,H'.get b=H.get b) (hg:∀b∈g,H'.get b=H.get b):Gr r ty H' v l m g:=by
 rcases h with h | ⟨b,cs,h1,h2,rfl,h3,h4,h5,h6⟩
 ·exact .inl h
 ·exact .inr ⟨b,cs,h1,h2,rfl,by rw [hm b (by simp)];exact h3,h4,h5.ae hg,h6⟩
theorem Gr.val {α:Type} {r:Rp α} {ty:TypeId} {H:ad} {v:Value} {l:List α} {m g:List Nat} (h:Gr r ty H v l m g):∃a,v=.slice a l.length l.length:=by
 rcases h with ⟨rfl,rfl,_⟩ | ⟨b,cs,rfl,_⟩ <;> exact ⟨_,rfl⟩
theorem jT {P:Program} {X:Nat->Bool} {H:ad} {α:Type} {r:Rp α} {t e:TypeId} {dZ b':Nat} {v:Value} {l:List α} {x:α} {m g g':List Nat} {B:ct} {K:Value->ad->Prop} {tg:Tag K} (ha:iM P t=some (e,r.sz,dZ)) (js:Gr r e H v l m g)
  (hm:∀c∈m,c < H.next) (hg:∀c∈g,c < H.next) (eW:∀c∈g',c < H.next/\c∉m) (hX:∀c∈m,X c=false) (hB:H.get b'=some B) (hE:r.E H B.cells x g') (h1:j5 B.cells=true) (hn:(l.length+1) * dZ < 140737488355328)
  (hk:∀v' H',Gr r e H' v' (l++[x]) [H.next] (g++g')->H'.next=H.next+1->(∀c,c < H.next->c∉m->H'.get c=H.get c)->Fr m H H'->(∀c,H'.fz c=(c==H.next||H.fz c))->K v' H'):el P X H (iG P t v (.slice (some ⟨b',0,none⟩) 1 1) H) K tg:=by
 have hs:=GM (c:=1) hB (r.len hE)
 rcases js with ⟨rfl,rfl,rfl,rfl⟩ | ⟨b,cs,rfl,h2,rfl,h3,h4,h5,h6⟩
 ·rw [GL ha hs (by simpa using hn) (by decide),wa]
  refine hk _ _ (.inr ⟨H.next,B.cells,by simp,by simp,rfl,by rw [aU,if_pos rfl],by simp [r.len hE],?_,?_⟩) rfl (fun c hc _=>bS hc) ((bc.push H _).fr _) (fun c=>rfl)
  ·rw [List.nil_append,List.nil_append]
   exact dP.one (r.ae hE fun c hc=>bS (eW c hc).1)
  ·intro h;rw [List.nil_append] at h;exact Nat.lt_irrefl _ (eW _ h).1
 ·have hb:=hm b (by simp)
  have CA:∀c,c < H.next->c≠b->(H.grow b ⟨cs++B.cells,e,true,false⟩).get c=H.get c:=fun c hc iT=>by rw [ux,if_neg (by omega),if_neg iT]
  rw [Qk ha hs h3 h4 (by simpa using hn) (by decide) h1,Jv (hX b (by simp))]
  refine hk _ _ (.inr ⟨H.next,cs++B.cells,by simp,by simp,rfl,by rw [ux,if_pos rfl],by rw [List.length_append,List.length_append,h4,r.len hE,Nat.add_mul];simp,?_,?_⟩) rfl (fun c hc yC=>CA c hc fun h=>yC (by simp [h])) ⟨Nat.le_succ _,fun c hc yC=>CA c hc fun h=>yC (by simp [h]),fun c C hC hr=>by
   rw [ux] at hC
   (repeat' split at hC)
   ·cases hC;cases hr
   ·cases hC
   ·exact hC⟩ (fun c=>rfl)
  ·refine (h5.ae fun y hy=>CA y (hg y hy) fun h=>h6 (by rw [<-h];exact hy)).join h4 (dP.one (r.ae hE fun y hy=>CA y (eW y hy).1 fun h=>(eW y hy).2 (by simp [h])))
  ·intro h
   rcases List.mem_append.1 h with h | h
   ·exact Nat.lt_irrefl _ (hg _ h)
   ·exact Nat.lt_irrefl _ (eW _ h).1
end Go.Proofs.YtinjmfblebpnnaaGreat.Ab
set_option maxRecDepth 100000
namespace Go.Proofs.YtinjmfblebpnnaaGreat.Ab
open Go
theorem mixed:Tryz.prog.follows .mixedOrders=true:=by kernel_rfl
@[go_sem] theorem auO:gU Tryz.prog 3=some false:=by kernel_rfl
@[go_sem] theorem auP:dj Tryz.prog 3=some 1:=by kernel_rfl
@[go_sem] theorem auQ:gU Tryz.prog 4=some false:=by kernel_rfl
@[go_sem] theorem auR:dj Tryz.prog 4=some 1:=by kernel_rfl
@[go_sem] theorem auS:gU Tryz.prog 9=some false:=by kernel_rfl
@[go_sem] theorem auT:dj Tryz.prog 9=some 1:=by kernel_rfl
@[go_sem] theorem ast:gU Tryz.prog 22=some false:=by kernel_rfl
@[go_sem] theorem asu:dj Tryz.prog 22=some 1:=by kernel_rfl
@[go_sem] theorem asv:gU Tryz.prog 23=some false:=by kernel_rfl
@[go_sem] theorem asw:dj Tryz.prog 23=some 1:=by kernel_rfl
@[go_sem] theorem asx:gU Tryz.prog 24=some false:=by kernel_rfl
@[go_sem] theorem asy:dj Tryz.prog 24=some 1:=by kernel_rfl
@[go_sem] theorem asz:gU Tryz.prog 25=some false:=by kernel_rfl
@[go_sem] theorem asA:dj Tryz.prog 25=some 1:=by kernel_rfl
@[go_sem] theorem asB:gU Tryz.prog 26=some false:=by kernel_rfl
@[go_sem] theorem asC:dj Tryz.prog 26=some 1:=by kernel_rfl
@[go_sem] theorem asD:gU Tryz.prog 28=some true:=by kernel_rfl
@[go_sem] theorem asE:dj Tryz.prog 28=some 4:=by kernel_rfl
@[go_sem] theorem asF:gU Tryz.prog 33=some false:=by kernel_rfl
@[go_sem] theorem asG:dj Tryz.prog 33=some 1:=by kernel_rfl
@[go_sem] theorem asH:gU Tryz.prog 35=some false:=by kernel_rfl
@[go_sem] theorem asI:dj Tryz.prog 35=some 1:=by kernel_rfl
@[go_sem] theorem asJ:gU Tryz.prog 36=some false:=by kernel_rfl
@[go_sem] theorem asK:dj Tryz.prog 36=some 1:=by kernel_rfl
@[go_sem] theorem asL:gU Tryz.prog 38=some true:=by kernel_rfl
@[go_sem] theorem asM:dj Tryz.prog 38=some 9:=by kernel_rfl
@[go_sem] theorem asN:gU Tryz.prog 40=some false:=by kernel_rfl
@[go_sem] theorem asO:dj Tryz.prog 40=some 1:=by kernel_rfl
@[go_sem] theorem asP:gU Tryz.prog 42=some true:=by kernel_rfl
@[go_sem] theorem asQ:dj Tryz.prog 42=some 20:=by kernel_rfl
@[go_sem] theorem asR:gU Tryz.prog 44=some true:=by kernel_rfl
@[go_sem] theorem asS:dj Tryz.prog 44=some 3:=by kernel_rfl
@[go_sem] theorem asT:gU Tryz.prog 48=some false:=by kernel_rfl
@[go_sem] theorem asU:dj Tryz.prog 48=some 1:=by kernel_rfl
@[go_sem] theorem asV:gU Tryz.prog 50=some false:=by kernel_rfl
@[go_sem] theorem asW:dj Tryz.prog 50=some 1:=by kernel_rfl
@[go_sem] theorem asX:gU Tryz.prog 52=some true:=by kernel_rfl
@[go_sem] theorem asY:dj Tryz.prog 52=some 7:=by kernel_rfl
@[go_sem] theorem asZ:gU Tryz.prog 77=some false:=by kernel_rfl
@[go_sem] theorem as1:dj Tryz.prog 77=some 1:=by kernel_rfl
@[go_sem] theorem as2:gU Tryz.prog 82=some true:=by kernel_rfl
@[go_sem] theorem as3:dj Tryz.prog 82=some 5:=by kernel_rfl
@[go_sem] theorem as4:gU Tryz.prog 99=some true:=by kernel_rfl
@[go_sem] theorem as5:dj Tryz.prog 99=some 5:=by kernel_rfl
@[go_sem] theorem aqi:gU Tryz.prog 101=some true:=by kernel_rfl
@[go_sem] theorem aqj:dj Tryz.prog 101=some 6:=by kernel_rfl
@[go_sem] theorem aqk:gU Tryz.prog 105=some false:=by kernel_rfl
@[go_sem] theorem aql:dj Tryz.prog 105=some 1:=by kernel_rfl
@[go_sem] theorem aqm:gU Tryz.prog 107=some true:=by kernel_rfl
@[go_sem] theorem aqn:dj Tryz.prog 107=some 4:=by kernel_rfl
@[go_sem] theorem aqo:gU Tryz.prog 123=some false:=by kernel_rfl
@[go_sem] theorem aqp:dj Tryz.prog 123=some 1:=by kernel_rfl
@[go_sem] theorem aqq:gU Tryz.prog 134=some false:=by kernel_rfl
@[go_sem] theorem aqr:dj Tryz.prog 134=some 1:=by kernel_rfl
@[go_sem] theorem aqs:gU Tryz.prog 139=some true:=by kernel_rfl
@[go_sem] theorem aqt:dj Tryz.prog 139=some 2:=by kernel_rfl
@[go_sem] theorem aqu:gU Tryz.prog 164=some true:=by kernel_rfl
@[go_sem] theorem aqv:dj Tryz.prog 164=some 4:=by kernel_rfl
@[go_sem] theorem aqw:gU Tryz.prog 199=some true:=by kernel_rfl
@[go_sem] theorem aqx:dj Tryz.prog 199=some 5:=by kernel_rfl
@[go_sem] theorem ao6:cG Tryz.prog 28 0=some 0:=by kernel_rfl
@[go_sem] theorem ao7:cG Tryz.prog 28 1=some 1:=by kernel_rfl
@[go_sem] theorem ao8:cG Tryz.prog 28 2=some 2:=by kernel_rfl
@[go_sem] theorem ao9:cG Tryz.prog 28 3=some 3:=by kernel_rfl
@[go_sem] theorem apa:cG Tryz.prog 38 0=some 0:=by kernel_rfl
@[go_sem] theorem apb:cG Tryz.prog 38 1=some 1:=by kernel_rfl
@[go_sem] theorem apc:cG Tryz.prog 38 2=some 2:=by kernel_rfl
@[go_sem] theorem apd:cG Tryz.prog 38 3=some 3:=by kernel_rfl
@[go_sem] theorem ape:cG Tryz.prog 38 4=some 4:=by kernel_rfl
@[go_sem] theorem apf:cG Tryz.prog 38 5=some 5:=by kernel_rfl
@[go_sem] theorem apg:cG Tryz.prog 38 6=some 6:=by kernel_rfl
@[go_sem] theorem aph:cG Tryz.prog 38 7=some 7:=by kernel_rfl
@[go_sem] theorem api:cG Tryz.prog 38 8=some 8:=by kernel_rfl
@[go_sem] theorem apj:cG Tryz.prog 42 0=some 0:=by kernel_rfl
@[go_sem] theorem apk:cG Tryz.prog 42 1=some 1:=by kernel_rfl
@[go_sem] theorem apl:cG Tryz.prog 42 2=some 2:=by kernel_rfl
@[go_sem] theorem apm:cG Tryz.prog 42 3=some 3:=by kernel_rfl
@[go_sem] theorem apn:cG Tryz.prog 42 4=some 4:=by kernel_rfl
@[go_sem] theorem apo:cG Tryz.prog 42 5=some 5:=by kernel_rfl
@[go_sem] theorem apq:cG Tryz.prog 42 6=some 6:=by kernel_rfl
@[go_sem] theorem apr:cG Tryz.prog 42 7=some 7:=by kernel_rfl
@[go_sem] theorem aps:cG Tryz.prog 42 8=some 8:=by kernel_rfl
@[go_sem] theorem apt:cG Tryz.prog 42 9=some 9:=by kernel_rfl
@[go_sem] theorem anU:cG Tryz.prog 42 10=some 10:=by kernel_rfl
@[go_sem] theorem anV:cG Tryz.prog 42 11=some 11:=by kernel_rfl
@[go_sem] theorem anW:cG Tryz.prog 42 12=some 12:=by kernel_rfl
@[go_sem] theorem anX:cG Tryz.prog 42 13=some 13:=by kernel_rfl
@[go_sem] theorem anY:cG Tryz.prog 42 14=some 14:=by kernel_rfl
@[go_sem] theorem anZ:cG Tryz.prog 42 15=some 15:=by kernel_rfl
@[go_sem] theorem an0:cG Tryz.prog 42 16=some 16:=by kernel_rfl
@[go_sem] theorem an1:cG Tryz.prog 42 17=some 17:=by kernel_rfl
@[go_sem] theorem an2:cG Tryz.prog 42 18=some 18:=by kernel_rfl
@[go_sem] theorem an3:cG Tryz.prog 42 19=some 19:=by kernel_rfl
@[go_sem] theorem apu:cG Tryz.prog 44 0=some 0:=by kernel_rfl
@[go_sem] theorem apv:cG Tryz.prog 44 1=some 1:=by kernel_rfl
@[go_sem] theorem apw:cG Tryz.prog 44 2=some 2:=by kernel_rfl
@[go_sem] theorem apx:cG Tryz.prog 52 0=some 0:=by kernel_rfl
@[go_sem] theorem apy:cG Tryz.prog 52 1=some 1:=by kernel_rfl
@[go_sem] theorem apz:cG Tryz.prog 52 2=some 2:=by kernel_rfl
@[go_sem] theorem apA:cG Tryz.prog 52 3=some 3:=by kernel_rfl
@[go_sem] theorem apB:cG Tryz.prog 52 4=some 4:=by kernel_rfl
@[go_sem] theorem apC:cG Tryz.prog 52 5=some 5:=by kernel_rfl
@[go_sem] theorem apD:cG Tryz.prog 52 6=some 6:=by kernel_rfl
@[go_sem] theorem apE:cG Tryz.prog 82 0=some 0:=by kernel_rfl
@[go_sem] theorem apF:cG Tryz.prog 82 1=some 1:=by kernel_rfl
@[go_sem] theorem apG:cG Tryz.prog 82 2=some 2:=by kernel_rfl
@[go_sem] theorem apH:cG Tryz.prog 82 3=some 3:=by kernel_rfl
@[go_sem] theorem apI:cG Tryz.prog 82 4=some 4:=by kernel_rfl
@[go_sem] theorem apJ:cG Tryz.prog 86 0=some 0:=by kernel_rfl
@[go_sem] theorem apL:cG Tryz.prog 86 1=some 4:=by kernel_rfl
@[go_sem] theorem apM:cG Tryz.prog 86 2=some 5:=by kernel_rfl
@[go_sem] theorem apN:cG Tryz.prog 99 0=some 0:=by kernel_rfl
@[go_sem] theorem apO:cG Tryz.prog 99 1=some 1:=by kernel_rfl
@[go_sem] theorem apP:cG Tryz.prog 99 2=some 2:=by kernel_rfl
@[go_sem] theorem apQ:cG Tryz.prog 99 3=some 3:=by kernel_rfl
@[go_sem] theorem apR:cG Tryz.prog 99 4=some 4:=by kernel_rfl
@[go_sem] theorem an4:cG Tryz.prog 101 0=some 0:=by kernel_rfl
@[go_sem] theorem an5:cG Tryz.prog 101 1=some 1:=by kernel_rfl
@[go_sem] theorem an6:cG Tryz.prog 107 0=some 0:=by kernel_rfl
@[go_sem] theorem an7:cG Tryz.prog 107 1=some 1:=by kernel_rfl
@[go_sem] theorem an8:cG Tryz.prog 107 2=some 2:=by kernel_rfl
@[go_sem] theorem an9:cG Tryz.prog 107 3=some 3:=by kernel_rfl
@[go_sem] theorem aoa:cG Tryz.prog 125 0=some 0:=by kernel_rfl
@[go_sem] theorem aob:cG Tryz.prog 125 1=some 1:=by kernel_rfl
@[go_sem] theorem aoc:cG Tryz.prog 125 2=some 2:=by kernel_rfl
@[go_sem] theorem aod:cG Tryz.prog 125 3=some 3:=by kernel_rfl
@[go_sem] theorem aoe:cG Tryz.prog 125 4=some 4:=by kernel_rfl
@[go_sem] theorem aof:cG Tryz.prog 125 5=some 5:=by kernel_rfl
@[go_sem] theorem aog:cG Tryz.prog 125 6=some 6:=by kernel_rfl
@[go_sem] theorem aoh:cG Tryz.prog 127 0=some 0:=by kernel_rfl
@[go_sem] theorem aoi:cG Tryz.prog 127 1=some 1:=by kernel_rfl
@[go_sem] theorem aoj:cG Tryz.prog 131 0=some 0:=by kernel_rfl
@[go_sem] theorem aok:cG Tryz.prog 131 1=some 4:=by kernel_rfl
@[go_sem] theorem aol:cG Tryz.prog 131 2=some 8:=by kernel_rfl
@[go_sem] theorem aom:cG Tryz.prog 136 0=some 0:=by kernel_rfl
@[go_sem] theorem aon:cG Tryz.prog 136 1=some 4:=by kernel_rfl
@[go_sem] theorem aoo:cG Tryz.prog 136 2=some 5:=by kernel_rfl
@[go_sem] theorem aop:cG Tryz.prog 136 3=some 6:=by kernel_rfl
@[go_sem] theorem aoq:cG Tryz.prog 136 4=some 7:=by kernel_rfl
@[go_sem] theorem aor:cG Tryz.prog 136 5=some 8:=by kernel_rfl
@[go_sem] theorem aos:cG Tryz.prog 136 6=some 9:=by kernel_rfl
@[go_sem] theorem aot:cG Tryz.prog 139 0=some 0:=by kernel_rfl
@[go_sem] theorem aou:cG Tryz.prog 139 1=some 1:=by kernel_rfl
@[go_sem] theorem aov:cG Tryz.prog 164 0=some 0:=by kernel_rfl
@[go_sem] theorem aow:cG Tryz.prog 164 1=some 1:=by kernel_rfl
@[go_sem] theorem aox:cG Tryz.prog 164 2=some 2:=by kernel_rfl
@[go_sem] theorem aoy:cG Tryz.prog 164 3=some 3:=by kernel_rfl
@[go_sem] theorem aoz:cG Tryz.prog 199 0=some 0:=by kernel_rfl
@[go_sem] theorem aoA:cG Tryz.prog 199 1=some 1:=by kernel_rfl
@[go_sem] theorem aoB:cG Tryz.prog 199 3=some 3:=by kernel_rfl
@[go_sem] theorem aoC:cG Tryz.prog 199 4=some 4:=by kernel_rfl
@[go_sem] theorem apS:HU Tryz.prog 82 0=some (3,0):=by kernel_rfl
@[go_sem] theorem apT:HU Tryz.prog 82 2=some (3,2):=by kernel_rfl
@[go_sem] theorem apU:HU Tryz.prog 82 3=some (3,3):=by kernel_rfl
@[go_sem] theorem apV:HU Tryz.prog 82 4=some (9,4):=by kernel_rfl
@[go_sem] theorem as6:iL Tryz.prog 22=some (3,1):=by kernel_rfl
@[go_sem] theorem as7:iL Tryz.prog 23=some (107,4):=by kernel_rfl
@[go_sem] theorem as8:iL Tryz.prog 24=some (164,4):=by kernel_rfl
@[go_sem] theorem as9:iL Tryz.prog 25=some (38,9):=by kernel_rfl
@[go_sem] theorem ata:iL Tryz.prog 26=some (42,20):=by kernel_rfl
@[go_sem] theorem atb:iL Tryz.prog 33=some (101,6):=by kernel_rfl
@[go_sem] theorem atc:iL Tryz.prog 35=some (199,5):=by kernel_rfl
@[go_sem] theorem atd:iL Tryz.prog 36=some (52,7):=by kernel_rfl
@[go_sem] theorem ate:iL Tryz.prog 40=some (44,3):=by kernel_rfl
@[go_sem] theorem NB:iL Tryz.prog 50=some (9,1):=by kernel_rfl
@[go_sem] theorem atf:iL Tryz.prog 60=some (4,1):=by kernel_rfl
@[go_sem] theorem atg:iL Tryz.prog 77=some (82,5):=by kernel_rfl
@[go_sem] theorem aqy:iL Tryz.prog 105=some (99,5):=by kernel_rfl
@[go_sem] theorem aqz:iL Tryz.prog 134=some (139,2):=by kernel_rfl
@[go_sem] theorem aqA:iL Tryz.prog 201=some (134,1):=by kernel_rfl
theorem q9:iM Tryz.prog 22=some (3,1,8):=by kernel_rfl
theorem NC:iM Tryz.prog 23=some (107,4,56):=by kernel_rfl
theorem ND:iM Tryz.prog 24=some (164,4,56):=by kernel_rfl
theorem tz:iM Tryz.prog 25=some (38,9,128):=by kernel_rfl
theorem J0:iM Tryz.prog 26=some (42,20,240):=by kernel_rfl
theorem AT:iM Tryz.prog 33=some (101,6,80):=by kernel_rfl
theorem Rl:iM Tryz.prog 35=some (199,5,48):=by kernel_rfl
theorem rX:iM Tryz.prog 36=some (52,7,104):=by kernel_rfl
theorem qn:iM Tryz.prog 40=some (44,3,32):=by kernel_rfl
theorem uE:iM Tryz.prog 50=some (9,1,16):=by kernel_rfl
theorem agL:iM Tryz.prog 60=some (4,1,1):=by kernel_rfl
theorem HA:iM Tryz.prog 77=some (82,5,48):=by kernel_rfl
theorem QT:iM Tryz.prog 105=some (99,5,64):=by kernel_rfl
theorem zs:iM Tryz.prog 134=some (139,2,24):=by kernel_rfl
theorem adU:iM Tryz.prog 201=some (134,1,24):=by kernel_rfl
@[go_sem] theorem ath:wK Tryz.prog 28=some [(0,1),(1,1),(2,1),(3,1)]:=by kernel_rfl
@[go_sem] theorem ati:wK Tryz.prog 42=some [(0,1),(1,1),(2,1),(3,1),(4,1),(5,1),(6,1),(7,1),(8,1),(9,1),(10,1),(11,1),(12,1),(13,1),(14,1),(15,1),(16,1),(17,1),(18,1),(19,1)]:=by kernel_rfl
@[go_sem] theorem atj:wK Tryz.prog 44=some [(0,1),(1,1),(2,1)]:=by kernel_rfl
@[go_sem] theorem atk:wK Tryz.prog 52=some [(0,1),(1,1),(2,1),(3,1),(4,1),(5,1),(6,1)]:=by kernel_rfl
@[go_sem] theorem atl:wK Tryz.prog 86=some [(0,4),(4,1),(5,1)]:=by kernel_rfl
@[go_sem] theorem atm:wK Tryz.prog 99=some [(0,1),(1,1),(2,1),(3,1),(4,1)]:=by kernel_rfl
@[go_sem] theorem aqB:wK Tryz.prog 125=some [(0,1),(1,1),(2,1),(3,1),(4,1),(5,1),(6,1)]:=by kernel_rfl
@[go_sem] theorem aqC:wK Tryz.prog 127=some [(0,1),(1,4)]:=by kernel_rfl
@[go_sem] theorem aqD:wK Tryz.prog 199=some [(0,1),(1,1),(2,1),(3,1),(4,1)]:=by kernel_rfl
@[go_sem] theorem atn:fQ Tryz.prog 28=some [.slice none 0 0,.slice none 0 0,.slice none 0 0,.slice none 0 0]:=by kernel_rfl
@[go_sem] theorem ato:fQ Tryz.prog 38=some [.string ⟨#[]⟩,.slice none 0 0,.int .i64 0,.int .i64 0,.int .i64 0,.int .i64 0,.bool false,.slice none 0 0,.slice none 0 0]:=by kernel_rfl
@[go_sem] theorem atp:fQ Tryz.prog 42=some [.int .i64 0,.int .i64 0,.int .i64 0,.int .i64 0,.int .i64 0,.int .i64 0,.int .i64 0,.int .i64 0,.int .i64 0,.int .i64 0,.int .i64 0,.int .i64 0,.int .i64 0,.string ⟨#[]⟩,.string ⟨#[]⟩,.string ⟨#[]⟩,.string ⟨#[]⟩,.slice none 0 0,.slice none 0 0,.slice none 0 0]:=by kernel_rfl
@[go_sem] theorem atq:fQ Tryz.prog 44=some [.int .i64 0,.int .i64 0,.string ⟨#[]⟩]:=by kernel_rfl
@[go_sem] theorem atr:fQ Tryz.prog 52=some [.int .i64 0,.int .i64 0,.int .i64 0,.string ⟨#[]⟩,.string ⟨#[]⟩,.slice none 0 0,.slice none 0 0]:=by kernel_rfl
@[go_sem] theorem ats:fQ Tryz.prog 82=some [.int .i64 0,.int .i64 0,.int .i64 0,.int .i64 0,.string ⟨#[]⟩]:=by kernel_rfl
@[go_sem] theorem att:fQ Tryz.prog 86=some [.slice none 0 0,.slice none 0 0,.slice none 0 0,.slice none 0 0,.map none,.bool false]:=by kernel_rfl
@[go_sem] theorem atu:fQ Tryz.prog 99=some [.int .i64 0,.int .i64 0,.int .i64 0,.string ⟨#[]⟩,.slice none 0 0]:=by kernel_rfl
@[go_sem] theorem aqE:fQ Tryz.prog 101=some [.string ⟨#[]⟩,.int .i64 0,.int .i64 0,.int .i64 0,.string ⟨#[]⟩,.slice none 0 0]:=by kernel_rfl
@[go_sem] theorem aqF:fQ Tryz.prog 107=some [.string ⟨#[]⟩,.slice none 0 0,.int .i64 0,.int .i64 0]:=by kernel_rfl
@[go_sem] theorem aqG:fQ Tryz.prog 125=some [.slice none 0 0,.int .i64 0,.slice none 0 0,.bool false,.int .i64 0,.int .i64 0,.slice none 0 0]:=by kernel_rfl
@[go_sem] theorem aqH:fQ Tryz.prog 127=some [.pointer none,.slice none 0 0,.slice none 0 0,.slice none 0 0,.slice none 0 0]:=by kernel_rfl
@[go_sem] theorem aqI:fQ Tryz.prog 139=some [.string ⟨#[]⟩,.int .i64 0]:=by kernel_rfl
@[go_sem] theorem aqJ:fQ Tryz.prog 164=some [.string ⟨#[]⟩,.slice none 0 0,.int .i64 0,.int .i64 0]:=by kernel_rfl
@[go_sem] theorem aqK:fQ Tryz.prog 199=some [.int .i64 0,.int .i64 0,.int .i64 0,.int .i64 0,.string ⟨#[]⟩]:=by kernel_rfl
@[go_sem] theorem atv:Tryz.prog.underlying 22=some (Go.TypeDesc.slice 3):=by kernel_rfl
@[go_sem] theorem atw:Tryz.prog.underlying 23=some (Go.TypeDesc.slice 107):=by kernel_rfl
@[go_sem] theorem atx:Tryz.prog.underlying 24=some (Go.TypeDesc.slice 164):=by kernel_rfl
@[go_sem] theorem aty:Tryz.prog.underlying 25=some (Go.TypeDesc.slice 38):=by kernel_rfl
@[go_sem] theorem atz:Tryz.prog.underlying 26=some (Go.TypeDesc.slice 42):=by kernel_rfl
@[go_sem] theorem atA:Tryz.prog.underlying 33=some (Go.TypeDesc.slice 101):=by kernel_rfl
@[go_sem] theorem atB:Tryz.prog.underlying 35=some (Go.TypeDesc.slice 199):=by kernel_rfl
@[go_sem] theorem atC:Tryz.prog.underlying 36=some (Go.TypeDesc.slice 52):=by kernel_rfl
@[go_sem] theorem atD:Tryz.prog.underlying 40=some (Go.TypeDesc.slice 44):=by kernel_rfl
@[go_sem] theorem atE:Tryz.prog.underlying 50=some (Go.TypeDesc.slice 9):=by kernel_rfl
@[go_sem] theorem atF:Tryz.prog.underlying 77=some (Go.TypeDesc.slice 82):=by kernel_rfl
@[go_sem] theorem aqL:Tryz.prog.underlying 105=some (Go.TypeDesc.slice 99):=by kernel_rfl
@[go_sem] theorem aqM:Tryz.prog.underlying 134=some (Go.TypeDesc.slice 139):=by kernel_rfl
@[go_sem] theorem atG:zJ Tryz.prog 48:=acT (by kernel_rfl)
abbrev bV (n:FuncId) (c a:List Value):Prop:=xJ Tryz.prog (.func (.func n) #[] (List.toArray c)) (List.toArray a)=.call n (List.toArray (a++c))
section
variable {l c a:List Value} {H:ad} {K:Value->ad->Prop}
theorem ajk:bI Tryz.prog [] 8=true:=by kernel_rfl
theorem agM:bI Tryz.prog [] 11=true:=by kernel_rfl
@[go_sem] theorem atH:bV 11 c a:=bU Tryz.func11 (by kernel_rfl) (by kernel_rfl)
theorem agN:bI Tryz.prog [] 16=true:=by kernel_rfl
@[go_sem] theorem atI:bV 16 c a:=bU Tryz.func16 (by kernel_rfl) (by kernel_rfl)
theorem agO (hl:l.length<=2) (h:bW H->wC Tryz.prog H.fz [] (Tryz.f16.body.getD .skip) (cb l) H (cm Tryz.prog [.tmp 4] K)):aj Tryz.prog 16 l.toArray H K:=cE [] mixed Tryz.func16 agN hl (by decide) rfl h
theorem agP:bI Tryz.prog [] 20=true:=by kernel_rfl
@[go_sem] theorem atJ:bV 20 c a:=bU Tryz.func20 (by kernel_rfl) (by kernel_rfl)
theorem agQ:bI Tryz.prog [(1,[(0,2)])] 22=true:=by kernel_rfl
@[go_sem] theorem atK:bV 22 c a:=bU Tryz.func22 (by kernel_rfl) (by kernel_rfl)
theorem agR:bI Tryz.prog [] 24=true:=by kernel_rfl
@[go_sem] theorem atL:bV 24 c a:=bU Tryz.func24 (by kernel_rfl) (by kernel_rfl)
theorem agS:bI Tryz.prog [] 25=true:=by kernel_rfl
@[go_sem] theorem atM:bV 25 c a:=bU Tryz.func25 (by kernel_rfl) (by kernel_rfl)
theorem agT:bI Tryz.prog [] 26=true:=by kernel_rfl
@[go_sem] theorem atN:bV 26 c a:=bU Tryz.func26 (by kernel_rfl) (by kernel_rfl)
theorem agU:bI Tryz.prog [] 36=true:=by kernel_rfl
@[go_sem] theorem atO:bV 36 c a:=bU Tryz.func36 (by kernel_rfl) (by kernel_rfl)
theorem agV (hl:l.length<=1) (h:bW H->wC Tryz.prog H.fz [] (Tryz.f36.body.getD .skip) (cb l) H (cm Tryz.prog [.cell 2 28,.tmp 3,.tmp 4,.tmp 5] K)):aj Tryz.prog 36 l.toArray H K:=cE [] mixed Tryz.func36 agU hl (by decide) rfl h
theorem agW:bI Tryz.prog [] 40=true:=by kernel_rfl
@[go_sem] theorem atP:bV 40 c a:=bU Tryz.func40 (by kernel_rfl) (by kernel_rfl)
theorem agX (hl:l.length<=1) (h:bW H->wC Tryz.prog H.fz [] (Tryz.f40.body.getD .skip) (cb l) H (cm Tryz.prog [.tmp 2,.tmp 3,.tmp 4,.tmp 5] K)):aj Tryz.prog 40 l.toArray H K:=cE [] mixed Tryz.func40 agW hl (by decide) rfl h
theorem agY:bI Tryz.prog [] 43=true:=by kernel_rfl
@[go_sem] theorem atQ:bV 43 c a:=bU Tryz.func43 (by kernel_rfl) (by kernel_rfl)
theorem agZ:bI Tryz.prog [] 44=true:=by kernel_rfl
@[go_sem] theorem atS:bV 44 c a:=bU Tryz.func44 (by kernel_rfl) (by kernel_rfl)
theorem ag0 (hl:l.length<=1) (h:bW H->wC Tryz.prog H.fz [] (Tryz.f44.body.getD .skip) (cb l) H (cm Tryz.prog [.tmp 2] K)):aj Tryz.prog 44 l.toArray H K:=cE [] mixed Tryz.func44 agZ hl (by decide) rfl h
theorem ag1:bI Tryz.prog [] 46=true:=by kernel_rfl
@[go_sem] theorem atT:bV 46 c a:=bU Tryz.func46 (by kernel_rfl) (by kernel_rfl)
theorem ag2:bI Tryz.prog [] 48=true:=by kernel_rfl
@[go_sem] theorem atU:bV 48 c a:=bU Tryz.func48 (by kernel_rfl) (by kernel_rfl)
theorem ag3 (hl:l.length<=1) (h:bW H->wC Tryz.prog H.fz [] (Tryz.f48.body.getD .skip) (cb l) H (cm Tryz.prog [.tmp 2] K)):aj Tryz.prog 48 l.toArray H K:=cE [] mixed Tryz.func48 ag2 hl (by decide) rfl h
theorem ag4:bI Tryz.prog [] 49=true:=by kernel_rfl
@[go_sem] theorem atV:bV 49 c a:=bU Tryz.func49 (by kernel_rfl) (by kernel_rfl)
theorem Yo (hl:l.length<=1) (h:bW H->wC Tryz.prog H.fz [] (Tryz.f49.body.getD .skip) (cb l) H (cm Tryz.prog [] K)):aj Tryz.prog 49 l.toArray H K:=cE [] mixed Tryz.func49 ag4 hl (by decide) rfl h
theorem ag5:bI Tryz.prog [] 50=true:=by kernel_rfl
@[go_sem] theorem atW:bV 50 c a:=bU Tryz.func50 (by kernel_rfl) (by kernel_rfl)
theorem Yp (hl:l.length<=1) (h:bW H->wC Tryz.prog H.fz [] (Tryz.f50.body.getD .skip) (cb l) H (cm Tryz.prog [.tmp 2] K)):aj Tryz.prog 50 l.toArray H K:=cE [] mixed Tryz.func50 ag5 hl (by decide) rfl h
theorem ag6:bI Tryz.prog [] 51=true:=by kernel_rfl
@[go_sem] theorem atX:bV 51 c a:=bU Tryz.func51 (by kernel_rfl) (by kernel_rfl)
theorem ag7 (hl:l.length<=2) (h:bW H->wC Tryz.prog H.fz [] (Tryz.f51.body.getD .skip) (cb l) H (cm Tryz.prog [.tmp 4] K)):aj Tryz.prog 51 l.toArray H K:=cE [] mixed Tryz.func51 ag6 hl (by decide) rfl h
theorem ag8:bI Tryz.prog [] 52=true:=by kernel_rfl
@[go_sem] theorem atY:bV 52 c a:=bU Tryz.func52 (by kernel_rfl) (by kernel_rfl)
theorem ag9 (hl:l.length<=1) (h:bW H->wC Tryz.prog H.fz [] (Tryz.f52.body.getD .skip) (cb l) H (cm Tryz.prog [.tmp 2] K)):aj Tryz.prog 52 l.toArray H K:=cE [] mixed Tryz.func52 ag8 hl (by decide) rfl h
theorem aha:bI Tryz.prog [] 55=true:=by kernel_rfl
@[go_sem] theorem atZ:bV 55 c a:=bU Tryz.func55 (by kernel_rfl) (by kernel_rfl)
theorem ahb (hl:l.length<=2) (h:bW H->wC Tryz.prog H.fz [] (Tryz.f55.body.getD .skip) (cb l) H (cm Tryz.prog [.tmp 4] K)):aj Tryz.prog 55 l.toArray H K:=cE [] mixed Tryz.func55 aha hl (by decide) rfl h
theorem ahc:bI Tryz.prog [(8,[(2,10),(5,10),(2,13),(5,13),(10,14),(13,14)])] 59=true:=by kernel_rfl
@[go_sem] theorem at0:bV 59 c a:=bU Tryz.func59 (by kernel_rfl) (by kernel_rfl)
theorem ahd:bI Tryz.prog [(4,[(5,8)]),(5,[(2,5),(4,5)]),(8,[(5,9)]),(13,[(5,8)]),(23,[(2,5),(4,5)]),(29,[(2,5),(4,5)])] 60=true:=by kernel_rfl
@[go_sem] theorem at1:bV 60 c a:=bU Tryz.func60 (by kernel_rfl) (by kernel_rfl)
theorem ahe:bI Tryz.prog [(19,[(4,13),(8,13),(12,13)])] 61=true:=by kernel_rfl
@[go_sem] theorem at2:bV 61 c a:=bU Tryz.func61 (by kernel_rfl) (by kernel_rfl)
theorem ahf:bI Tryz.prog [] 68=true:=by kernel_rfl
@[go_sem] theorem at3:bV 68 c a:=bU Tryz.func68 (by kernel_rfl) (by kernel_rfl)
theorem ahg (hl:l.length<=2) (h:bW H->wC Tryz.prog H.fz [] (Tryz.f68.body.getD .skip) (cb l) H (cm Tryz.prog [.tmp 4,.tmp 5] K)):aj Tryz.prog 68 l.toArray H K:=cE [] mixed Tryz.func68 ahf hl (by decide) rfl h
theorem ahh:bI Tryz.prog [] 69=true:=by kernel_rfl
@[go_sem] theorem at4:bV 69 c a:=bU Tryz.func69 (by kernel_rfl) (by kernel_rfl)
theorem ahi (hl:l.length<=1) (h:bW H->wC Tryz.prog H.fz [] (Tryz.f69.body.getD .skip) (cb l) H (cm Tryz.prog [.tmp 2] K)):aj Tryz.prog 69 l.toArray H K:=cE [] mixed Tryz.func69 ahh hl (by decide) rfl h
theorem ahj:bI Tryz.prog [] 70=true:=by kernel_rfl
@[go_sem] theorem at5:bV 70 c a:=bU Tryz.func70 (by kernel_rfl) (by kernel_rfl)
theorem ahk (hl:l.length<=1) (h:bW H->wC Tryz.prog H.fz [] (Tryz.f70.body.getD .skip) (cb l) H (cm Tryz.prog [.tmp 2] K)):aj Tryz.prog 70 l.toArray H K:=cE [] mixed Tryz.func70 ahj hl (by decide) rfl h
theorem ahl:bI Tryz.prog [(4,[(6,7),(1,8),(3,8),(5,8)])] 71=true:=by kernel_rfl
@[go_sem] theorem at6:bV 71 c a:=bU Tryz.func71 (by kernel_rfl) (by kernel_rfl)
theorem ahm:bI Tryz.prog [] 73=true:=by kernel_rfl
@[go_sem] theorem at7:bV 73 c a:=bU Tryz.func73 (by kernel_rfl) (by kernel_rfl)
theorem ahn (hl:l.length<=2) (h:bW H->wC Tryz.prog H.fz [] (Tryz.f73.body.getD .skip) (cb l) H (cm Tryz.prog [.tmp 4] K)):aj Tryz.prog 73 l.toArray H K:=cE [] mixed Tryz.func73 ahm hl (by decide) rfl h
theorem aho:bI Tryz.prog [] 74=true:=by kernel_rfl
@[go_sem] theorem at8:bV 74 c a:=bU Tryz.func74 (by kernel_rfl) (by kernel_rfl)
theorem Yq (hl:l.length<=4) (h:bW H->wC Tryz.prog H.fz [] (Tryz.f74.body.getD .skip) (cb l) H (cm Tryz.prog [] K)):aj Tryz.prog 74 l.toArray H K:=cE [] mixed Tryz.func74 aho hl (by decide) rfl h
theorem ahp:bI Tryz.prog [] 75=true:=by kernel_rfl
@[go_sem] theorem at9:bV 75 c a:=bU Tryz.func75 (by kernel_rfl) (by kernel_rfl)
theorem ahq (hl:l.length<=1) (h:bW H->wC Tryz.prog H.fz [] (Tryz.f75.body.getD .skip) (cb l) H (cm Tryz.prog [.tmp 2] K)):aj Tryz.prog 75 l.toArray H K:=cE [] mixed Tryz.func75 ahp hl (by decide) rfl h
theorem ahr:bI Tryz.prog [] 76=true:=by kernel_rfl
@[go_sem] theorem aua:bV 76 c a:=bU Tryz.func76 (by kernel_rfl) (by kernel_rfl)
theorem ahs (hl:l.length<=1) (h:bW H->wC Tryz.prog H.fz [] (Tryz.f76.body.getD .skip) (cb l) H (cm Tryz.prog [.tmp 2] K)):aj Tryz.prog 76 l.toArray H K:=cE [] mixed Tryz.func76 ahr hl (by decide) rfl h
theorem aht:bI Tryz.prog [] 77=true:=by kernel_rfl
@[go_sem] theorem aub:bV 77 c a:=bU Tryz.func77 (by kernel_rfl) (by kernel_rfl)
theorem ahu (hl:l.length<=1) (h:bW H->wC Tryz.prog H.fz [] (Tryz.f77.body.getD .skip) (cb l) H (cm Tryz.prog [.cell 2 82] K)):aj Tryz.prog 77 l.toArray H K:=cE [] mixed Tryz.func77 aht hl (by decide) rfl h
theorem ahv:bI Tryz.prog [(6,[(1,5),(3,5)]),(14,[(1,5),(3,5)])] 78=true:=by kernel_rfl
@[go_sem] theorem auc:bV 78 c a:=bU Tryz.func78 (by kernel_rfl) (by kernel_rfl)
theorem ahw (hl:l.length<=1) (h:bW H->wC Tryz.prog H.fz [(6,[(1,5),(3,5)]),(14,[(1,5),(3,5)])] (Tryz.f78.body.getD .skip) (cb l) H (cm Tryz.prog [] K)):aj Tryz.prog 78 l.toArray H K:=cE [(6,[(1,5),(3,5)]),(14,[(1,5),(3,5)])] mixed Tryz.func78 ahv hl (by decide) rfl h
theorem ahx:bI Tryz.prog [(14,[(4,11),(6,11)])] 79=true:=by kernel_rfl
@[go_sem] theorem aud:bV 79 c a:=bU Tryz.func79 (by kernel_rfl) (by kernel_rfl)
theorem ahy (hl:l.length<=2) (h:bW H->wC Tryz.prog H.fz [(14,[(4,11),(6,11)])] (Tryz.f79.body.getD .skip) (cb l) H (cm Tryz.prog [.cell 4 38] K)):aj Tryz.prog 79 l.toArray H K:=cE [(14,[(4,11),(6,11)])] mixed Tryz.func79 ahx hl (by decide) rfl h
theorem ahz:bI Tryz.prog [] 80=true:=by kernel_rfl
@[go_sem] theorem aue:bV 80 c a:=bU Tryz.func80 (by kernel_rfl) (by kernel_rfl)
theorem ahA (hl:l.length<=2) (h:bW H->wC Tryz.prog H.fz [] (Tryz.f80.body.getD .skip) (cb l) H (cm Tryz.prog [.tmp 4] K)):aj Tryz.prog 80 l.toArray H K:=cE [] mixed Tryz.func80 ahz hl (by decide) rfl h
theorem ahB:bI Tryz.prog [(1,[(3,6),(3,10),(7,10)]),(12,[(1,9)])] 81=true:=by kernel_rfl
@[go_sem] theorem auf:bV 81 c a:=bU Tryz.func81 (by kernel_rfl) (by kernel_rfl)
theorem ahC:bI Tryz.prog [] 82=true:=by kernel_rfl
@[go_sem] theorem aug:bV 82 c a:=bU Tryz.func82 (by kernel_rfl) (by kernel_rfl)
theorem ahD (hl:l.length<=4) (h:bW H->wC Tryz.prog H.fz [] (Tryz.f82.body.getD .skip) (cb l) H (cm Tryz.prog [] K)):aj Tryz.prog 82 l.toArray H K:=cE [] mixed Tryz.func82 ahC hl (by decide) rfl h
theorem ahE:bI Tryz.prog [] 83=true:=by kernel_rfl
@[go_sem] theorem auh:bV 83 c a:=bU Tryz.func83 (by kernel_rfl) (by kernel_rfl)
theorem ahF (hl:l.length<=2) (h:bW H->wC Tryz.prog H.fz [] (Tryz.f83.body.getD .skip) (cb l) H (cm Tryz.prog [] K)):aj Tryz.prog 83 l.toArray H K:=cE [] mixed Tryz.func83 ahE hl (by decide) rfl h
theorem ahG:bI Tryz.prog [] 86=true:=by kernel_rfl
@[go_sem] theorem aui:bV 86 c a:=bU Tryz.func86 (by kernel_rfl) (by kernel_rfl)
theorem ahH (hl:l.length<=1) (h:bW H->wC Tryz.prog H.fz [] (Tryz.f86.body.getD .skip) (cb l) H (cm Tryz.prog [.tmp 2] K)):aj Tryz.prog 86 l.toArray H K:=cE [] mixed Tryz.func86 ahG hl (by decide) rfl h
theorem ahI:bI Tryz.prog [] 87=true:=by kernel_rfl
@[go_sem] theorem auj:bV 87 c a:=bU Tryz.func87 (by kernel_rfl) (by kernel_rfl)
theorem ahJ (hl:l.length<=1) (h:bW H->wC Tryz.prog H.fz [] (Tryz.f87.body.getD .skip) (cb l) H (cm Tryz.prog [.tmp 2] K)):aj Tryz.prog 87 l.toArray H K:=cE [] mixed Tryz.func87 ahI hl (by decide) rfl h
theorem ahK:bI Tryz.prog [] 88=true:=by kernel_rfl
@[go_sem] theorem auk:bV 88 c a:=bU Tryz.func88 (by kernel_rfl) (by kernel_rfl)
theorem ahL (hl:l.length<=1) (h:bW H->wC Tryz.prog H.fz [] (Tryz.f88.body.getD .skip) (cb l) H (cm Tryz.prog [.tmp 2] K)):aj Tryz.prog 88 l.toArray H K:=cE [] mixed Tryz.func88 ahK hl (by decide) rfl h
theorem ahM:bI Tryz.prog [] 89=true:=by kernel_rfl
@[go_sem] theorem aul:bV 89 c a:=bU Tryz.func89 (by kernel_rfl) (by kernel_rfl)
theorem ahN (hl:l.length<=0) (h:bW H->wC Tryz.prog H.fz [] (Tryz.f89.body.getD .skip) (cb l) H (cm Tryz.prog [.tmp 0] K)):aj Tryz.prog 89 l.toArray H K:=cE [] mixed Tryz.func89 ahM hl (by decide) rfl h
theorem ahO:bI Tryz.prog [] 90=true:=by kernel_rfl
@[go_sem] theorem aum:bV 90 c a:=bU Tryz.func90 (by kernel_rfl) (by kernel_rfl)
theorem ahP (hl:l.length<=2) (h:bW H->wC Tryz.prog H.fz [] (Tryz.f90.body.getD .skip) (cb l) H (cm Tryz.prog [.tmp 4] K)):aj Tryz.prog 90 l.toArray H K:=cE [] mixed Tryz.func90 ahO hl (by decide) rfl h
theorem ahQ:bI Tryz.prog [] 91=true:=by kernel_rfl
@[go_sem] theorem aun:bV 91 c a:=bU Tryz.func91 (by kernel_rfl) (by kernel_rfl)
theorem ahR:bI Tryz.prog [] 92=true:=by kernel_rfl
@[go_sem] theorem auo:bV 92 c a:=bU Tryz.func92 (by kernel_rfl) (by kernel_rfl)
theorem ahS (hl:l.length<=2) (h:bW H->wC Tryz.prog H.fz [] (Tryz.f92.body.getD .skip) (cb l) H (cm Tryz.prog [.tmp 3] K)):aj Tryz.prog 92 l.toArray H K:=cE [] mixed Tryz.func92 ahR hl (by decide) rfl h
theorem ahT:bI Tryz.prog [] 93=true:=by kernel_rfl
@[go_sem] theorem aup:bV 93 c a:=bU Tryz.func93 (by kernel_rfl) (by kernel_rfl)
theorem ahU (hl:l.length<=3) (h:bW H->wC Tryz.prog H.fz [] (Tryz.f93.body.getD .skip) (cb l) H (cm Tryz.prog [.tmp 6] K)):aj Tryz.prog 93 l.toArray H K:=cE [] mixed Tryz.func93 ahT hl (by decide) rfl h
theorem ahV:bI Tryz.prog [(5,[(2,6)]),(10,[(3,6)])] 94=true:=by kernel_rfl
@[go_sem] theorem auq:bV 94 c a:=bU Tryz.func94 (by kernel_rfl) (by kernel_rfl)
theorem ahW:bI Tryz.prog [] 97=true:=by kernel_rfl
@[go_sem] theorem aur:bV 97 c a:=bU Tryz.func97 (by kernel_rfl) (by kernel_rfl)
theorem ahX (hl:l.length<=2) (h:bW H->wC Tryz.prog H.fz [] (Tryz.f97.body.getD .skip) (cb l) H (cm Tryz.prog [.tmp 4,.tmp 5] K)):aj Tryz.prog 97 l.toArray H K:=cE [] mixed Tryz.func97 ahW hl (by decide) rfl h
theorem ahY:bI Tryz.prog [] 98=true:=by kernel_rfl
@[go_sem] theorem aus:bV 98 c a:=bU Tryz.func98 (by kernel_rfl) (by kernel_rfl)
theorem Yr (hl:l.length<=3) (h:bW H->wC Tryz.prog H.fz [] (Tryz.f98.body.getD .skip) (cb l) H (cm Tryz.prog [] K)):aj Tryz.prog 98 l.toArray H K:=cE [] mixed Tryz.func98 ahY hl (by decide) rfl h
theorem adV:bI Tryz.prog [] 104=true:=by kernel_rfl
@[go_sem] theorem aqN:bV 104 c a:=bU Tryz.func104 (by kernel_rfl) (by kernel_rfl)
theorem adW (hl:l.length<=2) (h:bW H->wC Tryz.prog H.fz [] (Tryz.f104.body.getD .skip) (cb l) H (cm Tryz.prog [.tmp 4] K)):aj Tryz.prog 104 l.toArray H K:=cE [] mixed Tryz.func104 adV hl (by decide) rfl h
theorem adX:bI Tryz.prog [] 108=true:=by kernel_rfl
@[go_sem] theorem aqO:bV 108 c a:=bU Tryz.func108 (by kernel_rfl) (by kernel_rfl)
theorem adY (hl:l.length<=1) (h:bW H->wC Tryz.prog H.fz [] (Tryz.f108.body.getD .skip) (cb l) H (cm Tryz.prog [.tmp 2] K)):aj Tryz.prog 108 l.toArray H K:=cE [] mixed Tryz.func108 adX hl (by decide) rfl h
theorem adZ:bI Tryz.prog [] 109=true:=by kernel_rfl
@[go_sem] theorem aqP:bV 109 c a:=bU Tryz.func109 (by kernel_rfl) (by kernel_rfl)
theorem ad0 (hl:l.length<=2) (h:bW H->wC Tryz.prog H.fz [] (Tryz.f109.body.getD .skip) (cb l) H (cm Tryz.prog [.tmp 4] K)):aj Tryz.prog 109 l.toArray H K:=cE [] mixed Tryz.func109 adZ hl (by decide) rfl h
theorem ad1:bI Tryz.prog [] 110=true:=by kernel_rfl
@[go_sem] theorem aqQ:bV 110 c a:=bU Tryz.func110 (by kernel_rfl) (by kernel_rfl)
theorem ad2 (hl:l.length<=2) (h:bW H->wC Tryz.prog H.fz [] (Tryz.f110.body.getD .skip) (cb l) H (cm Tryz.prog [] K)):aj Tryz.prog 110 l.toArray H K:=cE [] mixed Tryz.func110 ad1 hl (by decide) rfl h
theorem ad3:bI Tryz.prog [] 111=true:=by kernel_rfl
@[go_sem] theorem aqR:bV 111 c a:=bU Tryz.func111 (by kernel_rfl) (by kernel_rfl)
theorem ad4 (hl:l.length<=1) (h:bW H->wC Tryz.prog H.fz [] (Tryz.f111.body.getD .skip) (cb l) H (cm Tryz.prog [.tmp 2] K)):aj Tryz.prog 111 l.toArray H K:=cE [] mixed Tryz.func111 ad3 hl (by decide) rfl h
theorem ad5:bI Tryz.prog [] 112=true:=by kernel_rfl
@[go_sem] theorem aqS:bV 112 c a:=bU Tryz.func112 (by kernel_rfl) (by kernel_rfl)
theorem ad6 (hl:l.length<=1) (h:bW H->wC Tryz.prog H.fz [] (Tryz.f112.body.getD .skip) (cb l) H (cm Tryz.prog [.tmp 2] K)):aj Tryz.prog 112 l.toArray H K:=cE [] mixed Tryz.func112 ad5 hl (by decide) rfl h
theorem ad7:bI Tryz.prog [] 113=true:=by kernel_rfl
@[go_sem] theorem aqT:bV 113 c a:=bU Tryz.func113 (by kernel_rfl) (by kernel_rfl)
theorem ad8 (hl:l.length<=2) (h:bW H->wC Tryz.prog H.fz [] (Tryz.f113.body.getD .skip) (cb l) H (cm Tryz.prog [] K)):aj Tryz.prog 113 l.toArray H K:=cE [] mixed Tryz.func113 ad7 hl (by decide) rfl h
theorem ad9:bI Tryz.prog [] 114=true:=by kernel_rfl
@[go_sem] theorem aqU:bV 114 c a:=bU Tryz.func114 (by kernel_rfl) (by kernel_rfl)
theorem aea (hl:l.length<=1) (h:bW H->wC Tryz.prog H.fz [] (Tryz.f114.body.getD .skip) (cb l) H (cm Tryz.prog [.tmp 2] K)):aj Tryz.prog 114 l.toArray H K:=cE [] mixed Tryz.func114 ad9 hl (by decide) rfl h
theorem aeb:bI Tryz.prog [(1,[(1,5),(3,5)])] 115=true:=by kernel_rfl
@[go_sem] theorem aqV:bV 115 c a:=bU Tryz.func115 (by kernel_rfl) (by kernel_rfl)
theorem aec (hl:l.length<=1) (h:bW H->wC Tryz.prog H.fz [(1,[(1,5),(3,5)])] (Tryz.f115.body.getD .skip) (cb l) H (cm Tryz.prog [] K)):aj Tryz.prog 115 l.toArray H K:=cE [(1,[(1,5),(3,5)])] mixed Tryz.func115 aeb hl (by decide) rfl h
theorem aed:bI Tryz.prog [] 116=true:=by kernel_rfl
@[go_sem] theorem aqW:bV 116 c a:=bU Tryz.func116 (by kernel_rfl) (by kernel_rfl)
theorem aee (hl:l.length<=4) (h:bW H->wC Tryz.prog H.fz [] (Tryz.f116.body.getD .skip) (cb l) H (cm Tryz.prog [.tmp 8] K)):aj Tryz.prog 116 l.toArray H K:=cE [] mixed Tryz.func116 aed hl (by decide) rfl h
theorem aef:bI Tryz.prog [(4,[(2,5),(3,5)]),(9,[(0,3),(1,3)])] 117=true:=by kernel_rfl
@[go_sem] theorem aqX:bV 117 c a:=bU Tryz.func117 (by kernel_rfl) (by kernel_rfl)
theorem aeg (hl:l.length<=2) (h:bW H->wC Tryz.prog H.fz [(4,[(2,5),(3,5)]),(9,[(0,3),(1,3)])] (Tryz.f117.body.getD .skip) (cb l) H (cm Tryz.prog [.tmp 4,.tmp 5] K)):aj Tryz.prog 117 l.toArray H K:=cE [(4,[(2,5),(3,5)]),(9,[(0,3),(1,3)])] mixed Tryz.func117 aef hl (by decide) rfl h
theorem aeh:bI Tryz.prog [] 118=true:=by kernel_rfl
@[go_sem] theorem aqY:bV 118 c a:=bU Tryz.func118 (by kernel_rfl) (by kernel_rfl)
theorem aei (hl:l.length<=1) (h:bW H->wC Tryz.prog H.fz [] (Tryz.f118.body.getD .skip) (cb l) H (cm Tryz.prog [.tmp 2] K)):aj Tryz.prog 118 l.toArray H K:=cE [] mixed Tryz.func118 aeh hl (by decide) rfl h
theorem aej:bI Tryz.prog [] 119=true:=by kernel_rfl
@[go_sem] theorem aqZ:bV 119 c a:=bU Tryz.func119 (by kernel_rfl) (by kernel_rfl)
theorem aek (hl:l.length<=1) (h:bW H->wC Tryz.prog H.fz [] (Tryz.f119.body.getD .skip) (cb l) H (cm Tryz.prog [.tmp 2] K)):aj Tryz.prog 119 l.toArray H K:=cE [] mixed Tryz.func119 aej hl (by decide) rfl h
theorem ael:bI Tryz.prog [] 120=true:=by kernel_rfl
@[go_sem] theorem aq0:bV 120 c a:=bU Tryz.func120 (by kernel_rfl) (by kernel_rfl)
theorem aem (hl:l.length<=1) (h:bW H->wC Tryz.prog H.fz [] (Tryz.f120.body.getD .skip) (cb l) H (cm Tryz.prog [.tmp 2] K)):aj Tryz.prog 120 l.toArray H K:=cE [] mixed Tryz.func120 ael hl (by decide) rfl h
theorem aen:bI Tryz.prog [] 121=true:=by kernel_rfl
@[go_sem] theorem aq1:bV 121 c a:=bU Tryz.func121 (by kernel_rfl) (by kernel_rfl)
theorem aeo (hl:l.length<=2) (h:bW H->wC Tryz.prog H.fz [] (Tryz.f121.body.getD .skip) (cb l) H (cm Tryz.prog [.tmp 4] K)):aj Tryz.prog 121 l.toArray H K:=cE [] mixed Tryz.func121 aen hl (by decide) rfl h
theorem aep:bI Tryz.prog [(5,[(4,6)])] 122=true:=by kernel_rfl
@[go_sem] theorem aq2:bV 122 c a:=bU Tryz.func122 (by kernel_rfl) (by kernel_rfl)
theorem aeq (hl:l.length<=4) (h:bW H->wC Tryz.prog H.fz [(5,[(4,6)])] (Tryz.f122.body.getD .skip) (cb l) H (cm Tryz.prog [.cell 8 99] K)):aj Tryz.prog 122 l.toArray H K:=cE [(5,[(4,6)])] mixed Tryz.func122 aep hl (by decide) rfl h
theorem aer:bI Tryz.prog [] 123=true:=by kernel_rfl
@[go_sem] theorem aq3:bV 123 c a:=bU Tryz.func123 (by kernel_rfl) (by kernel_rfl)
theorem aes (hl:l.length<=5) (h:bW H->wC Tryz.prog H.fz [] (Tryz.f123.body.getD .skip) (cb l) H (cm Tryz.prog [.tmp 10] K)):aj Tryz.prog 123 l.toArray H K:=cE [] mixed Tryz.func123 aer hl (by decide) rfl h
theorem aet:bI Tryz.prog [(13,[(1,6)]),(19,[(4,6)]),(25,[(4,6)]),(34,[(4,6)]),(39,[(10,12)])] 124=true:=by kernel_rfl
@[go_sem] theorem aq4:bV 124 c a:=bU Tryz.func124 (by kernel_rfl) (by kernel_rfl)
theorem aeu:bI Tryz.prog [(14,[(4,10)])] 125=true:=by kernel_rfl
@[go_sem] theorem aq5:bV 125 c a:=bU Tryz.func125 (by kernel_rfl) (by kernel_rfl)
theorem aev (hl:l.length<=2) (h:bW H->wC Tryz.prog H.fz [(14,[(4,10)])] (Tryz.f125.body.getD .skip) (cb l) H (cm Tryz.prog [] K)):aj Tryz.prog 125 l.toArray H K:=cE [(14,[(4,10)])] mixed Tryz.func125 aeu hl (by decide) rfl h
theorem aew:bI Tryz.prog [] 127=true:=by kernel_rfl
@[go_sem] theorem aq6:bV 127 c a:=bU Tryz.func127 (by kernel_rfl) (by kernel_rfl)
theorem aex (hl:l.length<=2) (h:bW H->wC Tryz.prog H.fz [] (Tryz.f127.body.getD .skip) (cb l) H (cm Tryz.prog [.tmp 4] K)):aj Tryz.prog 127 l.toArray H K:=cE [] mixed Tryz.func127 aew hl (by decide) rfl h
theorem aey:bI Tryz.prog [] 128=true:=by kernel_rfl
@[go_sem] theorem aq7:bV 128 c a:=bU Tryz.func128 (by kernel_rfl) (by kernel_rfl)
theorem aez (hl:l.length<=2) (h:bW H->wC Tryz.prog H.fz [] (Tryz.f128.body.getD .skip) (cb l) H (cm Tryz.prog [.tmp 4,.tmp 5] K)):aj Tryz.prog 128 l.toArray H K:=cE [] mixed Tryz.func128 aey hl (by decide) rfl h
theorem aeA:bI Tryz.prog [] 129=true:=by kernel_rfl
@[go_sem] theorem aq8:bV 129 c a:=bU Tryz.func129 (by kernel_rfl) (by kernel_rfl)
theorem aeB (hl:l.length<=3) (h:bW H->wC Tryz.prog H.fz [] (Tryz.f129.body.getD .skip) (cb l) H (cm Tryz.prog [.tmp 6] K)):aj Tryz.prog 129 l.toArray H K:=cE [] mixed Tryz.func129 aeA hl (by decide) rfl h
theorem aeC:bI Tryz.prog [] 132=true:=by kernel_rfl
@[go_sem] theorem aq9:bV 132 c a:=bU Tryz.func132 (by kernel_rfl) (by kernel_rfl)
theorem aeD (hl:l.length<=2) (h:bW H->wC Tryz.prog H.fz [] (Tryz.f132.body.getD .skip) (cb l) H (cm Tryz.prog [.tmp 4,.tmp 5] K)):aj Tryz.prog 132 l.toArray H K:=cE [] mixed Tryz.func132 aeC hl (by decide) rfl h
theorem aeE:bI Tryz.prog [] 138=true:=by kernel_rfl
@[go_sem] theorem ara:bV 138 c a:=bU Tryz.func138 (by kernel_rfl) (by kernel_rfl)
theorem aeF (hl:l.length<=1) (h:bW H->wC Tryz.prog H.fz [] (Tryz.f138.body.getD .skip) (cb l) H (cm Tryz.prog [.tmp 2] K)):aj Tryz.prog 138 l.toArray H K:=cE [] mixed Tryz.func138 aeE hl (by decide) rfl h
theorem aeG:bI Tryz.prog [] 139=true:=by kernel_rfl
@[go_sem] theorem arb:bV 139 c a:=bU Tryz.func139 (by kernel_rfl) (by kernel_rfl)
theorem aeH (hl:l.length<=1) (h:bW H->wC Tryz.prog H.fz [] (Tryz.f139.body.getD .skip) (cb l) H (cm Tryz.prog [.tmp 2] K)):aj Tryz.prog 139 l.toArray H K:=cE [] mixed Tryz.func139 aeG hl (by decide) rfl h
theorem aeI:bI Tryz.prog [] 140=true:=by kernel_rfl
@[go_sem] theorem arc:bV 140 c a:=bU Tryz.func140 (by kernel_rfl) (by kernel_rfl)
theorem aeJ (hl:l.length<=3) (h:bW H->wC Tryz.prog H.fz [] (Tryz.f140.body.getD .skip) (cb l) H (cm Tryz.prog [.tmp 6] K)):aj Tryz.prog 140 l.toArray H K:=cE [] mixed Tryz.func140 aeI hl (by decide) rfl h
theorem aeK:bI Tryz.prog [] 141=true:=by kernel_rfl
@[go_sem] theorem ard:bV 141 c a:=bU Tryz.func141 (by kernel_rfl) (by kernel_rfl)
theorem aeL (hl:l.length<=1) (h:bW H->wC Tryz.prog H.fz [] (Tryz.f141.body.getD .skip) (cb l) H (cm Tryz.prog [.cell 2 99] K)):aj Tryz.prog 141 l.toArray H K:=cE [] mixed Tryz.func141 aeK hl (by decide) rfl h
theorem aeM:bI Tryz.prog [] 142=true:=by kernel_rfl
@[go_sem] theorem arf:bV 142 c a:=bU Tryz.func142 (by kernel_rfl) (by kernel_rfl)
theorem aeN (hl:l.length<=2) (h:bW H->wC Tryz.prog H.fz [] (Tryz.f142.body.getD .skip) (cb l) H (cm Tryz.prog [.tmp 4] K)):aj Tryz.prog 142 l.toArray H K:=cE [] mixed Tryz.func142 aeM hl (by decide) rfl h
theorem aeO:bI Tryz.prog [] 143=true:=by kernel_rfl
@[go_sem] theorem arh:bV 143 c a:=bU Tryz.func143 (by kernel_rfl) (by kernel_rfl)
theorem aeP (hl:l.length<=2) (h:bW H->wC Tryz.prog H.fz [] (Tryz.f143.body.getD .skip) (cb l) H (cm Tryz.prog [.tmp 4] K)):aj Tryz.prog 143 l.toArray H K:=cE [] mixed Tryz.func143 aeO hl (by decide) rfl h
theorem aeQ:bI Tryz.prog [] 144=true:=by kernel_rfl
@[go_sem] theorem ari:bV 144 c a:=bU Tryz.func144 (by kernel_rfl) (by kernel_rfl)
theorem aeR (hl:l.length<=1) (h:bW H->wC Tryz.prog H.fz [] (Tryz.f144.body.getD .skip) (cb l) H (cm Tryz.prog [.tmp 2] K)):aj Tryz.prog 144 l.toArray H K:=cE [] mixed Tryz.func144 aeQ hl (by decide) rfl h
theorem aeS:bI Tryz.prog [] 145=true:=by kernel_rfl
@[go_sem] theorem arj:bV 145 c a:=bU Tryz.func145 (by kernel_rfl) (by kernel_rfl)
theorem aeT (hl:l.length<=1) (h:bW H->wC Tryz.prog H.fz [] (Tryz.f145.body.getD .skip) (cb l) H (cm Tryz.prog [] K)):aj Tryz.prog 145 l.toArray H K:=cE [] mixed Tryz.func145 aeS hl (by decide) rfl h
theorem aeU:bI Tryz.prog [] 146=true:=by kernel_rfl
@[go_sem] theorem ark:bV 146 c a:=bU Tryz.func146 (by kernel_rfl) (by kernel_rfl)
theorem aeV (hl:l.length<=1) (h:bW H->wC Tryz.prog H.fz [] (Tryz.f146.body.getD .skip) (cb l) H (cm Tryz.prog [.tmp 2] K)):aj Tryz.prog 146 l.toArray H K:=cE [] mixed Tryz.func146 aeU hl (by decide) rfl h
theorem aeW:bI Tryz.prog [] 147=true:=by kernel_rfl
@[go_sem] theorem arl:bV 147 c a:=bU Tryz.func147 (by kernel_rfl) (by kernel_rfl)
theorem aeX (hl:l.length<=1) (h:bW H->wC Tryz.prog H.fz [] (Tryz.f147.body.getD .skip) (cb l) H (cm Tryz.prog [] K)):aj Tryz.prog 147 l.toArray H K:=cE [] mixed Tryz.func147 aeW hl (by decide) rfl h
theorem aeY:bI Tryz.prog [] 148=true:=by kernel_rfl
@[go_sem] theorem arn:bV 148 c a:=bU Tryz.func148 (by kernel_rfl) (by kernel_rfl)
theorem aeZ (hl:l.length<=1) (h:bW H->wC Tryz.prog H.fz [] (Tryz.f148.body.getD .skip) (cb l) H (cm Tryz.prog [.cell 2 44] K)):aj Tryz.prog 148 l.toArray H K:=cE [] mixed Tryz.func148 aeY hl (by decide) rfl h
theorem ae0:bI Tryz.prog [] 149=true:=by kernel_rfl
@[go_sem] theorem aro:bV 149 c a:=bU Tryz.func149 (by kernel_rfl) (by kernel_rfl)
theorem ae1 (hl:l.length<=2) (h:bW H->wC Tryz.prog H.fz [] (Tryz.f149.body.getD .skip) (cb l) H (cm Tryz.prog [.tmp 4,.tmp 5] K)):aj Tryz.prog 149 l.toArray H K:=cE [] mixed Tryz.func149 ae0 hl (by decide) rfl h
theorem ae2:bI Tryz.prog [] 150=true:=by kernel_rfl
@[go_sem] theorem arp:bV 150 c a:=bU Tryz.func150 (by kernel_rfl) (by kernel_rfl)
theorem ae3 (hl:l.length<=1) (h:bW H->wC Tryz.prog H.fz [] (Tryz.f150.body.getD .skip) (cb l) H (cm Tryz.prog [.tmp 2] K)):aj Tryz.prog 150 l.toArray H K:=cE [] mixed Tryz.func150 ae2 hl (by decide) rfl h
theorem ae4:bI Tryz.prog [] 151=true:=by kernel_rfl
@[go_sem] theorem arq:bV 151 c a:=bU Tryz.func151 (by kernel_rfl) (by kernel_rfl)
theorem ae5 (hl:l.length<=3) (h:bW H->wC Tryz.prog H.fz [] (Tryz.f151.body.getD .skip) (cb l) H (cm Tryz.prog [.tmp 6] K)):aj Tryz.prog 151 l.toArray H K:=cE [] mixed Tryz.func151 ae4 hl (by decide) rfl h
theorem ae6:bI Tryz.prog [] 152=true:=by kernel_rfl
@[go_sem] theorem ars:bV 152 c a:=bU Tryz.func152 (by kernel_rfl) (by kernel_rfl)
theorem ae7 (hl:l.length<=4) (h:bW H->wC Tryz.prog H.fz [] (Tryz.f152.body.getD .skip) (cb l) H (cm Tryz.prog [] K)):aj Tryz.prog 152 l.toArray H K:=cE [] mixed Tryz.func152 ae6 hl (by decide) rfl h
theorem ae8:bI Tryz.prog [] 153=true:=by kernel_rfl
@[go_sem] theorem art:bV 153 c a:=bU Tryz.func153 (by kernel_rfl) (by kernel_rfl)
theorem ae9:bI Tryz.prog [(32,[(6,10)])] 154=true:=by kernel_rfl
@[go_sem] theorem aru:bV 154 c a:=bU Tryz.func154 (by kernel_rfl) (by kernel_rfl)
theorem afa:bI Tryz.prog [] 155=true:=by kernel_rfl
@[go_sem] theorem arv:bV 155 c a:=bU Tryz.func155 (by kernel_rfl) (by kernel_rfl)
theorem afb (hl:l.length<=1) (h:bW H->wC Tryz.prog H.fz [] (Tryz.f155.body.getD .skip) (cb l) H (cm Tryz.prog [.tmp 2] K)):aj Tryz.prog 155 l.toArray H K:=cE [] mixed Tryz.func155 afa hl (by decide) rfl h
theorem afc:bI Tryz.prog [] 156=true:=by kernel_rfl
@[go_sem] theorem arw:bV 156 c a:=bU Tryz.func156 (by kernel_rfl) (by kernel_rfl)
theorem afd (hl:l.length<=2) (h:bW H->wC Tryz.prog H.fz [] (Tryz.f156.body.getD .skip) (cb l) H (cm Tryz.prog [.tmp 4,.tmp 5] K)):aj Tryz.prog 156 l.toArray H K:=cE [] mixed Tryz.func156 afc hl (by decide) rfl h
theorem afe:bI Tryz.prog [] 158=true:=by kernel_rfl
@[go_sem] theorem arx:bV 158 c a:=bU Tryz.func158 (by kernel_rfl) (by kernel_rfl)
theorem aff (hl:l.length<=1) (h:bW H->wC Tryz.prog H.fz [] (Tryz.f158.body.getD .skip) (cb l) H (cm Tryz.prog [.tmp 2] K)):aj Tryz.prog 158 l.toArray H K:=cE [] mixed Tryz.func158 afe hl (by decide) rfl h
theorem afg:bI Tryz.prog [] 159=true:=by kernel_rfl
@[go_sem] theorem ary:bV 159 c a:=bU Tryz.func159 (by kernel_rfl) (by kernel_rfl)
theorem afh (hl:l.length<=2) (h:bW H->wC Tryz.prog H.fz [] (Tryz.f159.body.getD .skip) (cb l) H (cm Tryz.prog [.tmp 4] K)):aj Tryz.prog 159 l.toArray H K:=cE [] mixed Tryz.func159 afg hl (by decide) rfl h
theorem afi:bI Tryz.prog [] 160=true:=by kernel_rfl
@[go_sem] theorem arz:bV 160 c a:=bU Tryz.func160 (by kernel_rfl) (by kernel_rfl)
theorem afj (hl:l.length<=1) (h:bW H->wC Tryz.prog H.fz [] (Tryz.f160.body.getD .skip) (cb l) H (cm Tryz.prog [.tmp 2] K)):aj Tryz.prog 160 l.toArray H K:=cE [] mixed Tryz.func160 afi hl (by decide) rfl h
theorem afk:bI Tryz.prog [] 161=true:=by kernel_rfl
@[go_sem] theorem arA:bV 161 c a:=bU Tryz.func161 (by kernel_rfl) (by kernel_rfl)
theorem afl (hl:l.length<=1) (h:bW H->wC Tryz.prog H.fz [] (Tryz.f161.body.getD .skip) (cb l) H (cm Tryz.prog [.tmp 2] K)):aj Tryz.prog 161 l.toArray H K:=cE [] mixed Tryz.func161 afk hl (by decide) rfl h
theorem afm:bI Tryz.prog [] 162=true:=by kernel_rfl
@[go_sem] theorem arB:bV 162 c a:=bU Tryz.func162 (by kernel_rfl) (by kernel_rfl)
theorem afn (hl:l.length<=1) (h:bW H->wC Tryz.prog H.fz [] (Tryz.f162.body.getD .skip) (cb l) H (cm Tryz.prog [.tmp 2] K)):aj Tryz.prog 162 l.toArray H K:=cE [] mixed Tryz.func162 afm hl (by decide) rfl h
theorem afo:bI Tryz.prog [(5,[(5,7),(5,10)])] 163=true:=by kernel_rfl
@[go_sem] theorem arC:bV 163 c a:=bU Tryz.func163 (by kernel_rfl) (by kernel_rfl)
theorem afp (hl:l.length<=1) (h:bW H->wC Tryz.prog H.fz [(5,[(5,7),(5,10)])] (Tryz.f163.body.getD .skip) (cb l) H (cm Tryz.prog [.tmp 2] K)):aj Tryz.prog 163 l.toArray H K:=cE [(5,[(5,7),(5,10)])] mixed Tryz.func163 afo hl (by decide) rfl h
theorem afq:bI Tryz.prog [] 164=true:=by kernel_rfl
@[go_sem] theorem arD:bV 164 c a:=bU Tryz.func164 (by kernel_rfl) (by kernel_rfl)
theorem afr (hl:l.length<=2) (h:bW H->wC Tryz.prog H.fz [] (Tryz.f164.body.getD .skip) (cb l) H (cm Tryz.prog [] K)):aj Tryz.prog 164 l.toArray H K:=cE [] mixed Tryz.func164 afq hl (by decide) rfl h
theorem afs:bI Tryz.prog [(15,[(1,3)])] 165=true:=by kernel_rfl
@[go_sem] theorem arE:bV 165 c a:=bU Tryz.func165 (by kernel_rfl) (by kernel_rfl)
theorem afu:bI Tryz.prog [] 166=true:=by kernel_rfl
@[go_sem] theorem arF:bV 166 c a:=bU Tryz.func166 (by kernel_rfl) (by kernel_rfl)
theorem afv (hl:l.length<=2) (h:bW H->wC Tryz.prog H.fz [] (Tryz.f166.body.getD .skip) (cb l) H (cm Tryz.prog [.tmp 4] K)):aj Tryz.prog 166 l.toArray H K:=cE [] mixed Tryz.func166 afu hl (by decide) rfl h
theorem afw:bI Tryz.prog [(9,[(4,6)])] 167=true:=by kernel_rfl
@[go_sem] theorem arG:bV 167 c a:=bU Tryz.func167 (by kernel_rfl) (by kernel_rfl)
theorem afx (hl:l.length<=4) (h:bW H->wC Tryz.prog H.fz [(9,[(4,6)])] (Tryz.f167.body.getD .skip) (cb l) H (cm Tryz.prog [.cell 8 52] K)):aj Tryz.prog 167 l.toArray H K:=cE [(9,[(4,6)])] mixed Tryz.func167 afw hl (by decide) rfl h
theorem afy:bI Tryz.prog [] 168=true:=by kernel_rfl
@[go_sem] theorem arH:bV 168 c a:=bU Tryz.func168 (by kernel_rfl) (by kernel_rfl)
theorem afz (hl:l.length<=1) (h:bW H->wC Tryz.prog H.fz [] (Tryz.f168.body.getD .skip) (cb l) H (cm Tryz.prog [.tmp 2] K)):aj Tryz.prog 168 l.toArray H K:=cE [] mixed Tryz.func168 afy hl (by decide) rfl h
theorem afA:bI Tryz.prog [] 169=true:=by kernel_rfl
@[go_sem] theorem arI:bV 169 c a:=bU Tryz.func169 (by kernel_rfl) (by kernel_rfl)
theorem afB (hl:l.length<=1) (h:bW H->wC Tryz.prog H.fz [] (Tryz.f169.body.getD .skip) (cb l) H (cm Tryz.prog [.tmp 2] K)):aj Tryz.prog 169 l.toArray H K:=cE [] mixed Tryz.func169 afA hl (by decide) rfl h
theorem afC:bI Tryz.prog [] 170=true:=by kernel_rfl
@[go_sem] theorem arJ:bV 170 c a:=bU Tryz.func170 (by kernel_rfl) (by kernel_rfl)
theorem afD (hl:l.length<=1) (h:bW H->wC Tryz.prog H.fz [] (Tryz.f170.body.getD .skip) (cb l) H (cm Tryz.prog [.cell 2 44] K)):aj Tryz.prog 170 l.toArray H K:=cE [] mixed Tryz.func170 afC hl (by decide) rfl h
theorem afE:bI Tryz.prog [] 171=true:=by kernel_rfl
@[go_sem] theorem arK:bV 171 c a:=bU Tryz.func171 (by kernel_rfl) (by kernel_rfl)
theorem afF (hl:l.length<=1) (h:bW H->wC Tryz.prog H.fz [] (Tryz.f171.body.getD .skip) (cb l) H (cm Tryz.prog [.tmp 2] K)):aj Tryz.prog 171 l.toArray H K:=cE [] mixed Tryz.func171 afE hl (by decide) rfl h
theorem afG:bI Tryz.prog [(2,[(3,7),(5,7),(5,9)])] 172=true:=by kernel_rfl
@[go_sem] theorem arL:bV 172 c a:=bU Tryz.func172 (by kernel_rfl) (by kernel_rfl)
theorem afH (hl:l.length<=3) (h:bW H->wC Tryz.prog H.fz [(2,[(3,7),(5,7),(5,9)])] (Tryz.f172.body.getD .skip) (cb l) H (cm Tryz.prog [] K)):aj Tryz.prog 172 l.toArray H K:=cE [(2,[(3,7),(5,7),(5,9)])] mixed Tryz.func172 afG hl (by decide) rfl h
theorem afI:bI Tryz.prog [] 173=true:=by kernel_rfl
@[go_sem] theorem arM:bV 173 c a:=bU Tryz.func173 (by kernel_rfl) (by kernel_rfl)
theorem afJ (hl:l.length<=2) (h:bW H->wC Tryz.prog H.fz [] (Tryz.f173.body.getD .skip) (cb l) H (cm Tryz.prog [] K)):aj Tryz.prog 173 l.toArray H K:=cE [] mixed Tryz.func173 afI hl (by decide) rfl h
theorem afK:bI Tryz.prog [] 174=true:=by kernel_rfl
@[go_sem] theorem arN:bV 174 c a:=bU Tryz.func174 (by kernel_rfl) (by kernel_rfl)
theorem afL (hl:l.length<=2) (h:bW H->wC Tryz.prog H.fz [] (Tryz.f174.body.getD .skip) (cb l) H (cm Tryz.prog [] K)):aj Tryz.prog 174 l.toArray H K:=cE [] mixed Tryz.func174 afK hl (by decide) rfl h
theorem afM:bI Tryz.prog [] 175=true:=by kernel_rfl
@[go_sem] theorem arO:bV 175 c a:=bU Tryz.func175 (by kernel_rfl) (by kernel_rfl)
theorem afN (hl:l.length<=2) (h:bW H->wC Tryz.prog H.fz [] (Tryz.f175.body.getD .skip) (cb l) H (cm Tryz.prog [] K)):aj Tryz.prog 175 l.toArray H K:=cE [] mixed Tryz.func175 afM hl (by decide) rfl h
theorem afO:bI Tryz.prog [] 176=true:=by kernel_rfl
@[go_sem] theorem arP:bV 176 c a:=bU Tryz.func176 (by kernel_rfl) (by kernel_rfl)
theorem afP (hl:l.length<=2) (h:bW H->wC Tryz.prog H.fz [] (Tryz.f176.body.getD .skip) (cb l) H (cm Tryz.prog [.tmp 4] K)):aj Tryz.prog 176 l.toArray H K:=cE [] mixed Tryz.func176 afO hl (by decide) rfl h
theorem afQ:bI Tryz.prog [] 177=true:=by kernel_rfl
@[go_sem] theorem arQ:bV 177 c a:=bU Tryz.func177 (by kernel_rfl) (by kernel_rfl)
theorem afR (hl:l.length<=2) (h:bW H->wC Tryz.prog H.fz [] (Tryz.f177.body.getD .skip) (cb l) H (cm Tryz.prog [.tmp 4] K)):aj Tryz.prog 177 l.toArray H K:=cE [] mixed Tryz.func177 afQ hl (by decide) rfl h
theorem afS:bI Tryz.prog [] 178=true:=by kernel_rfl
@[go_sem] theorem arR:bV 178 c a:=bU Tryz.func178 (by kernel_rfl) (by kernel_rfl)
theorem afT (hl:l.length<=3) (h:bW H->wC Tryz.prog H.fz [] (Tryz.f178.body.getD .skip) (cb l) H (cm Tryz.prog [] K)):aj Tryz.prog 178 l.toArray H K:=cE [] mixed Tryz.func178 afS hl (by decide) rfl h
theorem afU:bI Tryz.prog [(8,[(4,6)])] 179=true:=by kernel_rfl
@[go_sem] theorem arS:bV 179 c a:=bU Tryz.func179 (by kernel_rfl) (by kernel_rfl)
theorem afV (hl:l.length<=2) (h:bW H->wC Tryz.prog H.fz [(8,[(4,6)])] (Tryz.f179.body.getD .skip) (cb l) H (cm Tryz.prog [] K)):aj Tryz.prog 179 l.toArray H K:=cE [(8,[(4,6)])] mixed Tryz.func179 afU hl (by decide) rfl h
theorem afW:bI Tryz.prog [] 180=true:=by kernel_rfl
@[go_sem] theorem arT:bV 180 c a:=bU Tryz.func180 (by kernel_rfl) (by kernel_rfl)
theorem afX (hl:l.length<=2) (h:bW H->wC Tryz.prog H.fz [] (Tryz.f180.body.getD .skip) (cb l) H (cm Tryz.prog [.tmp 4] K)):aj Tryz.prog 180 l.toArray H K:=cE [] mixed Tryz.func180 afW hl (by decide) rfl h
theorem afY:bI Tryz.prog [] 181=true:=by kernel_rfl
@[go_sem] theorem arU:bV 181 c a:=bU Tryz.func181 (by kernel_rfl) (by kernel_rfl)
theorem afZ (hl:l.length<=2) (h:bW H->wC Tryz.prog H.fz [] (Tryz.f181.body.getD .skip) (cb l) H (cm Tryz.prog [.tmp 4] K)):aj Tryz.prog 181 l.toArray H K:=cE [] mixed Tryz.func181 afY hl (by decide) rfl h
theorem af0:bI Tryz.prog [(8,[(1,3)])] 182=true:=by kernel_rfl
@[go_sem] theorem arV:bV 182 c a:=bU Tryz.func182 (by kernel_rfl) (by kernel_rfl)
theorem af1 (hl:l.length<=2) (h:bW H->wC Tryz.prog H.fz [(8,[(1,3)])] (Tryz.f182.body.getD .skip) (cb l) H (cm Tryz.prog [.tmp 4] K)):aj Tryz.prog 182 l.toArray H K:=cE [(8,[(1,3)])] mixed Tryz.func182 af0 hl (by decide) rfl h
theorem af2:bI Tryz.prog [] 183=true:=by kernel_rfl
@[go_sem] theorem arW:bV 183 c a:=bU Tryz.func183 (by kernel_rfl) (by kernel_rfl)
theorem af3 (hl:l.length<=2) (h:bW H->wC Tryz.prog H.fz [] (Tryz.f183.body.getD .skip) (cb l) H (cm Tryz.prog [.tmp 4,.tmp 5] K)):aj Tryz.prog 183 l.toArray H K:=cE [] mixed Tryz.func183 af2 hl (by decide) rfl h
end
end Go.Proofs.YtinjmfblebpnnaaGreat.Ab
