/- Lemmas for the walk, part 2. -/
import Derived.Attr
import Derived.Below
import Derived.ChangeArms
import Derived.ChangeSlices
import Derived.DataReads
import Derived.Deep.Slices
import Derived.KernelRfl
import Derived.Test.YtebibeaobhcfkaaGreatProg
import Derived.WideShapes
import Derived.Test.YtebibeaobhcfkaaGreatR1
set_option linter.unusedVariables false
set_option linter.unusedSimpArgs false
namespace Go.Proofs.YtebibeaobhcfkaaGreat.Ab
open Go Classical
section
variable {P:Program} {X:Nat->Bool}
structure al6 (P:Program) (X:Nat->Bool) (o:Oper) (t:Act) (H:ad) (v:Value) (H':ad):Prop where
 op:zg P (fun x=>x < H.next) o t H v H'
 kx:KX X H H'
 fz:∀b,H.fz b=true->H'.fz b=true
 pure:kt P o.op=0->H'=H/\zg P (fun _=>False) o t H v H'
 load:kt P o.op=1->H'=H/\∀b π,mC P t.eval o.op=some (b,π)->b < H.next/\∀H2:ad,π (H2.get b)=π (H.get b)->W7 P o t H2 v
 ob:kt P o.op=1->∃b π,mC P t.eval o.op=some (b,π)
 new:kt P o.op=2->zg P (fun _=>False) o t H v H'/\∃B,H'=H.push B
 call:kt P o.op=3->KX H.fz H H'
theorem agO {ev:Operand->Value} {op:Op} {H H':ad} {v:Value} (hw:H.wf) (hh:pB P ev op H=.ok v H'):∀b,DT P ev op H.next b->b < H.next:=by
 intro b hb
 cases op <;> simp only [DT] at hb <;> first
  | (exact hb.elim)
  | exact hb
  | skip
 case load ty a=>
  simp only [pB] at hh
  unfold tU at hh
  split at hh
  ·rename_i b0 o0 ha
   rw [ha] at hb
   obtain rfl:b=b0:=hb
   split at hh
   ·rename_i v0 hv;obtain ⟨B,hB⟩:=aaB hv;exact ad.AZ hw hB
   ·cases hh
  ·cases hh
 case convert s d x=>
  cases h:P.underlying s with
  | none=>rw [h] at hb;exact hb
  | some u=>rw [h] at hb;cases u <;> first | exact hb | exact hb.elim
 case call c=>
  cases h:c.callee with
  | builtin u=>rw [h] at hb;cases u <;> first | exact hb | exact hb.elim
  | _=>rw [h] at hb;exact hb
 case store ty a x=>
  simp only [pB] at hh
  unfold Ci at hh
  split at hh
  ·rename_i b0 o0 ha
   rw [ha] at hb
   obtain rfl:b=b0:=hb
   split at hh
   ·split at hh
    ·exact (LF (P:=P) hw hh).2.1
    ·cases hh
   ·cases hh
  ·cases hh
theorem PM {cs:List Value} {e:TypeId} {iD:Bool} {k:Nat->Value} {H H':ad} {v:Value} (hh:s0 cs e iD k H=.ok v H'):∃B,H'=H.push B:=by cases hh;exact ⟨_,rfl⟩
theorem afz {F:Nat->Prop} {o:Oper} {t:Act} {H H':ad} {v:Value} (hw:H.wf) (h:zg P F o t H v H') (hF:∀b,F b->b < H.next):zg P (fun x=>x < H.next) o t H v H':=
 ⟨⟨h.om.next,h.om.wf,fun b hb hn=>absurd hb hn⟩,wW.wide hw h.om hF h.op⟩
theorem af1 {ev:Operand->Value} {op:Op} {n:Nat} (hc:kt P op=0):DT P ev op n=fun _=>False:=by
 cases op <;> simp only [kt,DT] at hc ⊢ <;> first
  | (cases hc;done)
  | skip
 case convert s d x=>split at hc <;> first | (cases hc;done) | (rename_i h;first | rw [h] | rfl)
 case call c=>split at hc <;> first | (cases hc;done) | (rename_i h;first | rw [h] | rfl)
theorem agP {ev:Operand->Value} {op:Op} {n:Nat} (hc:kt P op=2):DT P ev op n=fun _=>False:=by
 cases op <;> simp only [kt,DT] at hc ⊢ <;> first
  | (cases hc;done)
  | skip
 case convert s d x=>split at hc <;> first | (cases hc;done) | (rename_i h;first | rw [h] | rfl)
 case call c=>split at hc <;> first | (cases hc;done) | (rename_i h;first | rw [h] | rfl)
theorem af2 {ev:Operand->Value} {op:Op} {H H':ad} {v:Value} (hc:kt P op=0) (hh:pB P ev op H=.ok v H'):H'=H:=by
 cases op <;> simp only [kt] at hc <;> simp only [pB] at hh <;> first
  | (cases hc;done)
  | (cases hh;rfl)
  | exact (pS hh).elim fun _ h=>h.2
  | skip
 case convert s d x=>
  split at hc
  ·rename_i k hs
   unfold yZ at hh
   rw [hs] at hh
   split at hh
   ·split at hh <;> cases hh;rfl
   ·rename_i e h1 h2;cases h1
   ·cases hh
  ·cases hc
 case call c=>
  unfold JB at hh
  split at hc <;> first | (cases hc;done) | skip
  all_goals
   rename_i Vw
   rw [Vw] at hh
   simp only at hh
   unfold NY at hh
   (repeat' split at hh) <;> first
    | exact (pS hh).elim fun _ h=>h.2
    | (cases hh;done)
    | contradiction
theorem agQ {ev:Operand->Value} {op:Op} {H H':ad} {v:Value} (hc:kt P op=2) (hh:pB P ev op H=.ok v H'):∃B,H'=H.push B:=by
 cases op <;> simp only [kt] at hc <;> simp only [pB] at hh <;> first
  | (cases hc;done)
  | exact PM hh
  | skip
 case alloc=>unfold DJ at hh;split at hh <;> first | exact PM hh | (cases hh;done)
 case buildSlice=>unfold qx at hh;(repeat' split at hh) <;> first | exact PM hh | (cases hh;done)
 case makeSlice=>unfold FB at hh;(repeat' split at hh) <;> first | exact PM hh | (cases hh;done)
 case convert s d x=>split at hc <;> cases hc
 case call c=>split at hc <;> cases hc
theorem aai {op:Op} (hc:kt P op=1):∃ty a,op=.load ty a:=by
 cases op <;> simp only [kt] at hc <;> first
  | (cases hc;done)
  | exact ⟨_,_,rfl⟩
  | skip
 case convert s d x=>split at hc <;> cases hc
 case call c=>split at hc <;> cases hc
theorem agR {ev:Operand->Value} {op:Op} {H:ad} {f:FuncId} {args:Array Value} (hh:pB P ev op H=.call f args):kt P op=3:=by
 obtain ⟨iK,_⟩:=aah hh
 obtain ⟨c,fv,rfl,hc,_⟩:=abo iK
 simp only [kt,hc]
theorem aff {ev:Operand->Value} {op:Op} {H H':ad} {v:Value} (hc:kt P op=3) (hh:pB P ev op H=.ok v H'):False:=by
 cases op <;> simp only [kt] at hc <;> first
  | (cases hc;done)
  | skip
 case convert s d x=>split at hc <;> cases hc
 case call c=>
  simp only [pB] at hh
  unfold JB at hh
  split at hc <;> first | (cases hc;done) | skip
  rename_i fv Vw
  rw [Vw] at hh
  obtain ⟨h',hk,_⟩:=pS hh
  unfold xS at hk
  simp only [cond_eq_ite] at hk
  (repeat' split at hk) <;> cases hk
theorem aaG {n:Nat} {o:Oper} {t:Act} {E:Env} {H:ad} {K:Value->ad->Prop} (ht:TE n t E) (hi:zj X H) (iv:o.op.operands.all uQ=true)
  (h:ia P X (kf E) o.op H K):∃v H',al6 P X o t H v H'/\K v H':=by
 unfold ia at h
 rw [ht.ev] at h
 cases iK:pB P t.eval o.op H with
 | no=>rw [iK] at h;exact h.elim
 | ok v H'=>
  rw [iK] at h
  obtain ⟨h1,h2⟩:=h
  have hs:=af0 (P:=P) hi.iI.wf iv iK
  have hg:=agN iK
  refine ⟨v,H',⟨afz hi.iI.wf hs (agO hi.iI.wf iK),⟨hg.nx,fun b hb=>h1 b (hi.iI.fz b (hi.sub b hb)) hb,fun b hb=>hg.fz b (hi.sub b hb),⟨hs.om.wf,hg.fw hi.iI.fz⟩⟩,hg.fz,
   fun hc=>⟨af2 hc iK,by rw [<-af1 (ev:=t.eval) (n:=H.next) hc];exact hs⟩,fun hc=>?_,fun hc=>?_,fun hc=>⟨by rw [<-agP (ev:=t.eval) (n:=H.next) hc];exact hs,agQ hc iK⟩,fun hc=>(aff hc iK).elim⟩,h2⟩
  ·obtain ⟨ty,ao,he⟩:=aai hc
   rw [he] at iK
   simp only [pB] at iK
   refine ⟨(aaC hi.iI.wf he iK).1,fun b π l5=>?_⟩
   rw [he] at l5
   simp only [mC] at l5
   unfold tU at iK
   split at iK
   ·rename_i b0 o0 ha
    rw [ha] at l5
    cases l5
    split at iK
    ·rename_i v0 gj
     cases iK
     obtain ⟨B,hB⟩:=aaB gj
     exact ⟨ad.AZ hi.iI.wf hB,fun H2 h2=>afd he ha (h2.trans gj)⟩
    ·cases iK
   ·cases iK
  ·obtain ⟨ty,ao,he⟩:=aai hc
   rw [he] at iK
   simp only [pB] at iK
   unfold tU at iK
   split at iK
   ·rename_i b0 o0 ha
    rw [he]
    simp only [mC]
    rw [ha]
    exact ⟨_,_,rfl⟩
   ·cases iK
 | call f args=>
  rw [iK] at h
  obtain ⟨v,H',h1,h2,h3,h4⟩:=h hi.iI
  obtain ⟨ao8,eO⟩:=aah iK
  have gJ:=agR iK
  exact ⟨v,H',⟨LX hi.iI.wf h1 (ahB ao8 h2),⟨h3.nx,fun b hb=>h3.get b (hi.sub b hb),fun b hb=>h3.fz b (hi.sub b hb),h3.iI⟩,h3.fz,fun hc=>(by rw [gJ] at hc;cases hc),
   fun hc=>(by rw [gJ] at hc;cases hc),fun hc=>(by rw [gJ] at hc;cases hc),fun hc=>(by rw [gJ] at hc;cases hc),fun _=>h3⟩,h4⟩
theorem TT {n:Nat} {ops:Array Oper} (x5:LV n ops=true):∀(l:List Oper) (i:Nat) (t:Act) (E:Env) (H:ad) (K:Env->ad->Prop),ops.toList.drop i=l->TE n t E->zj X H->
  lZ P X (ops.toList.map (·.dst)) l E H K->RO P ops (List.range' i l.length) t H fun e t' H'=>e=.normal/\∃E',TE n t' E'/\KX X H H'/\K E' H'
 | [],i,t,E,H,K,_,ht,hi,h=>aiA hi.iI.wf ⟨rfl,E,ht,.refl hi,h⟩
 | o::l,i,t,E,H,K,hd,ht,hi,h=>by
  have ho:ops[i]?=some o:=by
   have:=List.getElem?_drop (xs:=ops.toList) (i:=i) (j:=0)
   rw [hd] at this
   simpa using this.symm
  have Kv:ops.toList.drop (i+1)=l:=by
   rw [<-List.drop_drop,hd];rfl
  rw [List.length_cons,List.range'_succ]
  obtain ⟨jd,dh⟩:=ZP x5 ho
  rw [lZ] at h
  split at h
  ·rename_i hw
   obtain ⟨v,H',dB,hk⟩:=aaG ht hi jd h
   have hs:=dB.op
   refine abl ho hs.om.all jd ?_ ((TT x5 l (i+1) _ _ H' K Kv (ht.put dh v) dB.kx.inv hk).mono fun e t' H2 _ ⟨he,E',h1,h2,h3⟩=>⟨he,E',h1,dB.kx.trans h2,h3⟩)
   unfold vh
   rw [<-PK ht,if_pos hw]
   exact wW.wide hi.iI.wf hs.om (fun _ _=>trivial) hs.op
  ·rename_i hw
   refine abl ho (.refl hi.iI.wf) jd ?_ (TT x5 l (i+1) _ _ H K Kv (ht.put dh undef) hi h)
   unfold vh
   rw [<-PK ht,if_neg hw]
   exact ⟨rfl,rfl⟩
structure PD (P:Program) (ops:Array Oper) (m:Nat) where
 t:Nat->Act
 H:Nat->ad
 v:Nat->Value
 F:Nat->Nat->Prop
 oW:Nat->nv
 wf:(H 0).wf
 step:∀(i:Nat) (o:Oper),i < m->ops[i]?=some o->oW i=none->vh P ops (F i) o (t i) (H i) (v i) (H (i+1))
 put:∀(i:Nat) (o:Oper),i < m->ops[i]?=some o->t (i+1)=(t i).put o.dst (v i)
 om:∀i,i < m->jE (F i) (H i) (H (i+1))
 iD:∀(i:Nat) (o:Oper),i < m->ops[i]?=some o->o.op.operands.all uQ=true
 lt:∀i b,i < m->F i b->b < (H i).next
 J7:∀(i:Nat) (o:Oper),i < m->ops[i]?=some o->Jz P ops (oW i) (F i) o (t i) (H i) (v i) (H (i+1))
def PD.start (ops:Array Oper) (t:Act) (H:ad) (hw:H.wf):PD P ops 0:=⟨fun _=>t,fun _=>H,fun _=>undef,fun _ _=>False,fun _=>none,hw,
 fun i o h=>absurd h (by omega),fun i o h=>absurd h (by omega),fun i h=>absurd h (by omega),fun i o h=>absurd h (by omega),fun i b h=>absurd h (by omega),fun i o h=>absurd h (by omega)⟩
noncomputable def PD.more {ops:Array Oper} {m:Nat} (T:PD P ops m) (o:Oper) (ho:ops[m]?=some o) (F:Nat->Prop) (ob:nv) (v:Value) (H':ad) (h1:ob=none->vh P ops F o (T.t m) (T.H m) v H')
  (h2:jE F (T.H m) H') (h3:o.op.operands.all uQ=true) (h4:∀b,F b->b < (T.H m).next) (h5:Jz P ops ob F o (T.t m) (T.H m) v H'):PD P ops (m+1) where
 t:=fun j=>if j<=m then T.t j else (T.t m).put o.dst v
 H:=fun j=>if j<=m then T.H j else H'
 v:=fun j=>if j < m then T.v j else v
 F:=fun j=>if j < m then T.F j else F
 oW:=fun j=>if j < m then T.oW j else ob
 wf:=by rw [if_pos (Nat.zero_le _)];exact T.wf
 step:=fun i o2 hi dh l5=>by
  by_cases hc:i < m
  ·have h5:i<=m:=by omega
   have h6:i+1<=m:=by omega
   simp only [hc,h5,h6,if_true] at l5 ⊢
   exact T.step i o2 hc dh l5
  ·obtain rfl:i=m:=by omega
   have h6:¬(i+1<=i):=by omega
   simp only [Nat.lt_irrefl,Nat.le_refl,h6,if_true,if_false] at l5 ⊢
   rw [ho] at dh;cases dh;exact h1 l5
 put:=fun i o2 hi dh=>by
  by_cases hc:i < m
  ·have h5:i<=m:=by omega
   have h6:i+1<=m:=by omega
   simp only [hc,h5,h6,if_true]
   exact T.put i o2 hc dh
  ·obtain rfl:i=m:=by omega
   have h6:¬(i+1<=i):=by omega
   simp only [Nat.lt_irrefl,Nat.le_refl,h6,if_true,if_false]
   rw [ho] at dh;cases dh;rfl
 om:=fun i hi=>by
  by_cases hc:i < m
  ·have h5:i<=m:=by omega
   have h6:i+1<=m:=by omega
   simp only [hc,h5,h6,if_true]
   exact T.om i hc
  ·obtain rfl:i=m:=by omega
   have h6:¬(i+1<=i):=by omega
   simp only [Nat.lt_irrefl,Nat.le_refl,h6,if_true,if_false]
   exact h2
 iD:=fun i o2 hi dh=>by
  by_cases hc:i < m
  ·exact T.iD i o2 hc dh
  ·obtain rfl:i=m:=by omega
   rw [ho] at dh;cases dh;exact h3
 lt:=fun i b hi hF=>by
  by_cases hc:i < m
  ·have h5:i<=m:=by omega
   simp only [hc,h5,if_true] at hF ⊢
   exact T.lt i b hc hF
  ·obtain rfl:i=m:=by omega
   simp only [Nat.lt_irrefl,Nat.le_refl,if_true,if_false] at hF ⊢
   exact h4 b hF
 J7:=fun i o2 hi dh=>by
  by_cases hc:i < m
  ·have h5:i<=m:=by omega
   have h6:i+1<=m:=by omega
   simp only [hc,h5,h6,if_true]
   exact T.J7 i o2 hc dh
  ·obtain rfl:i=m:=by omega
   have h6:¬(i+1<=i):=by omega
   simp only [Nat.lt_irrefl,Nat.le_refl,h6,if_true,if_false]
   rw [ho] at dh;cases dh;exact h5
def PD.done {ops:Array Oper} (T:PD P ops ops.size):um P ops where
 t:=T.t
 H:=T.H
 v:=T.v
 F:=T.F
 wf:=T.wf
 oW:=T.oW
 step:=fun i o ho l5=>T.step i o (Array.getElem?_eq_some_iff.1 ho).1 ho l5
 put:=fun i o ho=>T.put i o (Array.getElem?_eq_some_iff.1 ho).1 ho
 om:=T.om
 iD:=fun i o ho=>T.iD i o (Array.getElem?_eq_some_iff.1 ho).1 ho
 lt:=T.lt
 J7:=fun i o ho=>T.J7 i o (Array.getElem?_eq_some_iff.1 ho).1 ho
structure UY (c:Nat) (ob:nv) (F:Nat->Prop) (H H':ad):Prop where
 pure:c=0->H'=H/\∀b,¬F b
 load:c=1->H'=H/\(∀b,¬F b)/\∀b π,ob=some (b,π)->b < H.next
 new:c=2->(∀b,¬F b)/\(H'=H∨∃B,H'=H.push B)
 call:c=3->H'=H∨KX H.fz H H'
 Bo:c≠1->ob=none
 fz:∀b,H.fz b=true->H'.fz b=true
 ao9:∀b,F b->b < H.next
structure QF (ci:Nat) (obi obk:nv) (Hi Hi' Hk Hk':ad):Prop where
 a:zh obk Hi Hi'
 b:zh obi Hk Hk'
 c:ci=2->Hi'=Hi∨Hk'.get Hi.next=Hk.get Hi.next
structure F3 (P:Program) (ops:Array Oper) (tb:List (Nat × Nat)) (m:Nat) (T:PD P ops m) (acc:List (Nat × Rec)):Prop where
 idx:∀j,j < m->UY (pW P ops j) (T.oW j) (T.F j) (T.H j) (T.H (j+1))
 two:∀i k,i < k->k < m->(i,k)∈tb->QF (pW P ops i) (T.oW i) (T.oW k) (T.H i) (T.H (i+1)) (T.H k) (T.H (k+1))
 acc:∀j,j < m->told tb j=true->look acc j=some ⟨T.oW j,if pW P ops j=2 then some (T.H j).next else none,T.H j,T.H (j+1)⟩∨(T.oW j=none/\T.H (j+1)=T.H j)
theorem ahH {tb:List (Nat × Nat)} {i k:Nat} (h:(i,k)∈tb):told tb i=true:=by
 unfold told;rw [List.any_eq_true];exact ⟨_,h,by simp⟩
theorem af3 {tb:List (Nat × Nat)} {k:Nat} {acc:List (Nat × Rec)} {ob:nv} {H H':ad} (h:vj tb k acc ob H H'):∀i,(i,k)∈tb->MV (look acc i) ob H H':=by
 induction tb with
 | nil=>intro i hi;cases hi
 | cons p tb ih=>
  intro i hi
  rw [vj] at h
  rcases List.mem_cons.1 hi with rfl | hi
  ·have:=h.1;rwa [if_pos rfl] at this
  ·exact ih h.2 i hi
theorem F3.next {ops:Array Oper} {tb:List (Nat × Nat)} {i:Nat} {T:PD P ops i} {acc rG:List (Nat × Rec)} (d:F3 P ops tb i T acc) {o:Oper} (ho:ops[i]?=some o) {F:Nat->Prop} {ob:nv} {v:Value} {H':ad} (h1:ob=none->vh P ops F o (T.t i) (T.H i) v H')
  (h2:jE F (T.H i) H') (h3:o.op.operands.all uQ=true) (h4:∀b,F b->b < (T.H i).next) (h5:Jz P ops ob F o (T.t i) (T.H i) v H')
  (hx:UY (pW P ops i) ob F (T.H i) H') (ht:∀j,j < i->(j,i)∈tb->QF (pW P ops j) (T.oW j) ob (T.H j) (T.H (j+1)) (T.H i) H')
  (ha:∀j,j < i->told tb j=true->look rG j=look acc j) (Kw:told tb i=true->look rG i=some ⟨ob,if pW P ops i=2 then some (T.H i).next else none,T.H i,H'⟩∨(ob=none/\H'=T.H i)):
  F3 P ops tb (i+1) (T.more o ho F ob v H' h1 h2 h3 h4 h5) rG:=by
 have low:∀j,j < i->(if j<=i then T.H j else H')=T.H j/\(if j+1<=i then T.H (j+1) else H')=T.H (j+1):=fun j hj=>⟨if_pos (by omega),if_pos (by omega)⟩
 refine ⟨fun j hj=>?_,fun j k xg hk hm=>?_,fun j hj eF=>?_⟩
 ·simp only [PD.more]
  by_cases lr:j < i
  ·rw [if_pos lr,if_pos lr,(low j lr).1,(low j lr).2];exact d.idx j lr
  ·obtain rfl:j=i:=by omega
   rw [if_neg (by omega),if_neg (by omega),if_pos (Nat.le_refl _),if_neg (by omega)];exact hx
 ·simp only [PD.more]
  by_cases R9:k < i
  ·rw [if_pos R9,if_pos (by omega:j < i),(low j (by omega)).1,(low j (by omega)).2,(low k R9).1,(low k R9).2];exact d.two j k xg R9 hm
  ·obtain rfl:k=i:=by omega
   rw [if_pos xg,if_neg (by omega),(low j xg).1,(low j xg).2,if_pos (Nat.le_refl _),if_neg (by omega)];exact ht j xg hm
 ·simp only [PD.more]
  by_cases lr:j < i
  ·rw [if_pos lr,(low j lr).1,(low j lr).2,ha j lr eF];exact d.acc j lr eF
  ·obtain rfl:j=i:=by omega
   have h6:¬(j+1<=j):=by omega
   simp only [Nat.lt_irrefl,Nat.le_refl,h6,if_true,if_false];exact Kw eF
theorem P9 {tb:List (Nat × Nat)} {i:Nat} {r:Rec} {acc:List (Nat × Rec)} {j:Nat} (hj:j < i):look (note tb i r acc) j=look acc j:=by
 unfold note
 split
 ·rw [look,if_neg (by simp only;omega)]
 ·rfl
theorem ahI {tb:List (Nat × Nat)} {i:Nat} {r:Rec} {acc:List (Nat × Rec)} (h:told tb i=true):look (note tb i r acc) i=some r:=by
 unfold note
 rw [if_pos h,look,if_pos rfl]
theorem ZV {n:Nat} {ops:Array Oper} {tb:List (Nat × Nat)} (x5:LV n ops=true):∀(l:List Oper) (i:Nat) (acc:List (Nat × Rec)) (E:Env) (K:Env->ad->Prop) (T:PD P ops i),ops.toList.drop i=l->i+l.length=ops.size->F3 P ops tb i T acc->TE n (T.t i) E->zj X (T.H i)->
  ju P X tb (ops.toList.map (·.dst)) l i acc E (T.H i) K->∃(T':PD P ops ops.size) (rG:List (Nat × Rec)),T'.t 0=T.t 0/\T'.H 0=T.H 0/\F3 P ops tb ops.size T' rG/\∃E',TE n (T'.t ops.size) E'/\KX X (T.H i) (T'.H ops.size)/\K E' (T'.H ops.size)
 | [],i,acc,E,K,T,hd,hl,d,ht,hi,h=>by
  obtain rfl:i=ops.size:=by simpa using hl
  exact ⟨T,acc,rfl,rfl,d,E,ht,.refl hi,h⟩
 | o::l,i,acc,E,K,T,hd,hl,d,ht,hi,h=>by
  have ho:ops[i]?=some o:=by
   have:=List.getElem?_drop (xs:=ops.toList) (i:=i) (j:=0)
   rw [hd] at this
   simpa using this.symm
  have Kv:ops.toList.drop (i+1)=l:=by
   rw [<-List.drop_drop,hd];rfl
  have mV:i+1+l.length=ops.size:=by simp at hl;omega
  obtain ⟨jd,dh⟩:=ZP x5 ho
  have gJ:pW P ops i=kt P o.op:=by unfold pW;rw [ho]
  have more:∀(F:Nat->Prop) (ob:nv) (v:Value) (H':ad) (rG:List (Nat × Rec)) (h1:ob=none->vh P ops F o (T.t i) (T.H i) v H') (h2:jE F (T.H i) H') (h4:∀b,F b->b < (T.H i).next) (h5:Jz P ops ob F o (T.t i) (T.H i) v H'),KX X (T.H i) H'->
    UY (pW P ops i) ob F (T.H i) H'->(∀j,j < i->(j,i)∈tb->QF (pW P ops j) (T.oW j) ob (T.H j) (T.H (j+1)) (T.H i) H')->(∀j,j < i->told tb j=true->look rG j=look acc j)->
    (told tb i=true->look rG i=some ⟨ob,if pW P ops i=2 then some (T.H i).next else none,T.H i,H'⟩∨(ob=none/\H'=T.H i))->
    ju P X tb (ops.toList.map (·.dst)) l (i+1) rG (oS E o.dst v) H' K->∃(T':PD P ops ops.size) (rG:List (Nat × Rec)),T'.t 0=T.t 0/\T'.H 0=T.H 0/\F3 P ops tb ops.size T' rG/\∃E',TE n (T'.t ops.size) E'/\KX X (T.H i) (T'.H ops.size)/\K E' (T'.H ops.size):=by
   intro F ob v H' rG h1 h2 h4 h5 Xj hx vU ha Kw hk
   have et:(T.more o ho F ob v H' h1 h2 jd h4 h5).t (i+1)=(T.t i).put o.dst v:=by simp only [PD.more];rw [if_neg (by omega)]
   have eh:(T.more o ho F ob v H' h1 h2 jd h4 h5).H (i+1)=H':=by simp only [PD.more];rw [if_neg (by omega)]
   have et0:(T.more o ho F ob v H' h1 h2 jd h4 h5).t 0=T.t 0:=by simp only [PD.more];rw [if_pos (Nat.zero_le _)]
   have eh0:(T.more o ho F ob v H' h1 h2 jd h4 h5).H 0=T.H 0:=by simp only [PD.more];rw [if_pos (Nat.zero_le _)]
   obtain ⟨T',Gk,a1,a2,a3,E',a4,a5,a6⟩:=ZV x5 l (i+1) rG (oS E o.dst v) K (T.more o ho F ob v H' h1 h2 jd h4 h5) Kv mV (d.next ho h1 h2 jd h4 h5 hx vU ha Kw) (by rw [et];exact ht.put dh v) (by rw [eh];exact Xj.inv) (by rw [eh];exact hk)
   rw [eh] at a5
   exact ⟨T',Gk,by rw [a1,et0],by rw [a2,eh0],a3,E',a4,Xj.trans a5,a6⟩
  rw [ju] at h
  split at h
  ·rename_i hw
   have G4:Region.wanted o (yielded ops (T.t i).tmps)=true:=by rw [<-PK ht];exact hw
   obtain ⟨v,H',dB,adO,hk⟩:=aaG ht hi jd h
   rw [ht.ev] at adO hk
   have Q5:∀ob:nv,ob=mC P (T.t i).eval o.op->∀j,j < i->(j,i)∈tb->QF (pW P ops j) (T.oW j) ob (T.H j) (T.H (j+1)) (T.H i) H':=fun ob l5 j hj hm=>by
    have h6:=af3 adO j hm
    rcases d.acc j hj (ahH hm) with h7 | ⟨h7,h8⟩
    ·rw [h7] at h6
     obtain ⟨q1,q2,q3⟩:=h6
     refine ⟨l5▸q1,q2,fun hc=>?_⟩
     simp only [if_pos hc] at q3
     exact .inr q3
    ·refine ⟨?_,by rw [h7];exact trivial,fun _=>.inl h8⟩
     rw [h8]
     unfold zh
     split
     ·rfl
     ·trivial
   have Mp:told tb i=true->look (note tb i ⟨mC P (T.t i).eval o.op,wF P o.op (T.H i),T.H i,H'⟩ acc) i=some ⟨mC P (T.t i).eval o.op,if pW P ops i=2 then some (T.H i).next else none,T.H i,H'⟩:=fun h=>by
    rw [ahI h];unfold wF;rw [gJ]
   have UZ:∀{F:Nat->Prop},wW P F o (T.t i) (T.H i) v H'->vh P ops F o (T.t i) (T.H i) v H':=fun {F} h=>by
    unfold vh;rw [if_pos G4];exact h
   by_cases fg:kt P o.op=1
   ·obtain ⟨b,π,l5⟩:=dB.ob fg
    obtain ⟨Xk,hq⟩:=dB.load fg
    subst Xk
    refine more (fun _=>False) (mC P (T.t i).eval o.op) v (T.H i) _ (fun he=>by rw [l5] at he;cases he) (.refl hi.iI.wf) (fun b hb=>hb.elim) (fun b π hb=>⟨rfl,fun _ h=>h,fun _=>(hq b π hb).2,fun hn=>absurd G4 hn⟩) dB.kx
     ⟨fun hc=>(by rw [gJ,fg] at hc;cases hc),fun _=>⟨rfl,fun _ h=>h,fun b π hb=>(hq b π hb).1⟩,fun hc=>(by rw [gJ,fg] at hc;cases hc),fun hc=>(by rw [gJ,fg] at hc;cases hc),fun hc=>absurd (gJ.trans fg) hc,fun _ h=>h,fun b hb=>hb.elim⟩
     (Q5 _ rfl) (fun j hj _=>P9 hj) (fun h=>.inl (Mp h)) hk
   ·have Q6:mC P (T.t i).eval o.op=none:=by
     unfold mC
     split
     ·rename_i ty a he;rw [he] at fg;exact absurd rfl fg
     ·rfl
    have adP:Jz P ops none (fun _=>False) o (T.t i) (T.H i) v H':=fun b π h=>by cases h
    rw [Q6] at hk Mp
    by_cases ke:kt P o.op=0
    ·obtain ⟨Xk,hs⟩:=dB.pure ke
     exact more (fun _=>False) none v H' _ (fun _=>UZ hs.op) hs.om (fun b hb=>hb.elim) adP dB.kx
      ⟨fun _=>⟨Xk,fun _ h=>h⟩,fun hc=>(by rw [gJ,ke] at hc;cases hc),fun hc=>(by rw [gJ,ke] at hc;cases hc),fun hc=>(by rw [gJ,ke] at hc;cases hc),fun _=>rfl,dB.fz,fun b hb=>hb.elim⟩
      (Q5 _ Q6.symm) (fun j hj _=>P9 hj) (fun h=>.inl (Mp h)) hk
    ·by_cases jI:kt P o.op=2
     ·obtain ⟨hs,hB⟩:=dB.new jI
      exact more (fun _=>False) none v H' _ (fun _=>UZ hs.op) hs.om (fun b hb=>hb.elim) adP dB.kx
       ⟨fun hc=>(by rw [gJ,jI] at hc;cases hc),fun hc=>(by rw [gJ,jI] at hc;cases hc),fun _=>⟨fun _ h=>h,.inr hB⟩,fun hc=>(by rw [gJ,jI] at hc;cases hc),fun _=>rfl,dB.fz,fun b hb=>hb.elim⟩
       (Q5 _ Q6.symm) (fun j hj _=>P9 hj) (fun h=>.inl (Mp h)) hk
     ·exact more (fun x=>x < (T.H i).next) none v H' _ (fun _=>UZ dB.op.op) dB.op.om (fun b hb=>hb) (fun b π h=>by cases h) dB.kx
       ⟨fun hc=>absurd (gJ.symm.trans hc) ke,fun hc=>absurd (gJ.symm.trans hc) fg,fun hc=>absurd (gJ.symm.trans hc) jI,fun hc=>.inr (dB.call (gJ.symm.trans hc)),fun _=>rfl,dB.fz,fun b hb=>hb⟩
       (Q5 _ Q6.symm) (fun j hj _=>P9 hj) (fun h=>.inl (Mp h)) hk
  ·rename_i hw
   have G4:¬Region.wanted o (yielded ops (T.t i).tmps)=true:=by rw [<-PK ht];exact hw
   refine more (fun _=>False) none undef (T.H i) acc ?_ (.refl hi.iI.wf) (fun b hb=>hb.elim) (fun b π h=>by cases h) (.refl hi)
    ⟨fun _=>⟨rfl,fun _ h=>h⟩,fun _=>⟨rfl,fun _ h=>h,fun b π h=>by cases h⟩,fun _=>⟨fun _ h=>h,.inl rfl⟩,fun _=>.inl rfl,fun _=>rfl,fun _ h=>h,fun b hb=>hb.elim⟩
    (fun j hj hm=>⟨trivial,?_,fun _=>.inr rfl⟩) (fun _ _ _=>rfl) (fun _=>.inr ⟨rfl,rfl⟩) h
   ·intro _
    unfold vh
    rw [if_neg G4]
    exact ⟨rfl,rfl⟩
   ·unfold zh
    split
    ·rfl
    ·trivial
theorem aaj {ob:nv} {H H':ad} (h:zh ob H H') {b:Nat} {π:Option cO->Option Value} (l5:ob=some (b,π)):π (H'.get b)=π (H.get b):=by
 rw [l5] at h;exact h
theorem bO {H:ad} {B:cO} {b:Nat} (h:b < H.next):(H.push B).get b=H.get b:=by
 show (if b=H.next then some B else H.get b)=_
 rw [if_neg (by omega)]
theorem PD.Xl {ops:Array Oper} {m:Nat} (T:PD P ops m) {i k:Nat} (h:i<=k) (hk:k<=m):(T.H i).next<=(T.H k).next:=by
 induction h with
 | refl=>exact Nat.le_refl _
 | @step k Kq ih=>
  have hk':k+1<=m:=hk
  exact Nat.le_trans (ih (by omega)) (T.om k (by omega)).next
theorem af4 {ops:Array Oper} {tb:List (Nat × Nat)} {T:PD P ops ops.size} {acc:List (Nat × Rec)} (d:F3 P ops tb ops.size T acc) (hl:Qo P ops tb=true):DD T.done:=by
 intro i k Kq hk hb
 unfold Qo at hl
 have h1:=List.all_eq_true.1 (List.all_eq_true.1 hl k (List.mem_range.2 hk)) i (List.mem_range.2 Kq)
 rw [Bool.or_eq_true,Bool.or_eq_true] at h1
 have hi:=d.idx i (by omega)
 have hx:=d.idx k hk
 have n1:=T.Xl (show i<=k by omega) (Nat.le_of_lt hk)
 have n2:=T.Xl (show i+1<=k by omega) (Nat.le_of_lt hk)
 have adQ:=d.two i k Kq hk
 generalize pW P ops i=ci at h1 hi adQ
 generalize pW P ops k=ck at h1 hx
 have AM:∀{c:Nat} {ob:nv} {b:Nat} {π:Option cO->Option Value},(c≠1->ob=none)->ob=some (b,π)->c=1:=fun {c ob b π} h he=>by
  by_cases hc:c=1
  ·exact hc
  ·rw [h hc] at he;cases he
 have J8:∀{b},T.H (i+1)=T.H i->¬fresh (T.H i) (T.H (i+1)) b:=fun {b} he hf=>by
  have:=hf.1;have:=hf.2;rw [he] at this;omega
 have Vx:∀{b},ck=2->b < (T.H k).next->(T.H (k+1)).get b=(T.H k).get b:=fun {b} hc bf=>by
  rcases (hx.new hc).2 with h | ⟨B,h⟩
  ·rw [h]
  ·rw [h,bO bf]
 rcases h1 with (h1 | h1) | h1
 ·exact absurd (PH ops _ _ _ h1) hb
 ·unfold aaE at h1
  simp only [Bool.or_eq_true,Bool.and_eq_true,beq_iff_eq] at h1
  rcases h1 with (((h1 | h1) | h1) | h1) | h1
  ·-- i asks nothing
   obtain ⟨e,hF⟩:=hi.pure h1
   exact ⟨fun b _ _=>by show (T.H (i+1)).get b=_;rw [e];rfl,fun b hb=>(hb.elim (fun h=>absurd h (hF b)) (fun h=>absurd h (J8 e))),fun b π _=>by show π ((T.H (i+1)).get b)=_;rw [e];rfl,
    fun b π ho=>by have:=AM hi.Bo ho;omega⟩
  ·obtain ⟨e,hF⟩:=hx.pure h1
   exact ⟨fun b hb=>absurd hb (hF b),fun b _=>by show (T.H (k+1)).get b=_;rw [e];rfl,fun b π ho=>by have:=AM hx.Bo ho;omega,fun b π _=>by show π ((T.H (k+1)).get b)=_;rw [e];rfl⟩
  ·obtain ⟨h1,h2⟩:=h1
   obtain ⟨e,hF,bf⟩:=hi.load h1
   refine ⟨fun b _ _=>by show (T.H (i+1)).get b=_;rw [e];rfl,fun b hb=>(hb.elim (fun h=>absurd h (hF b)) (fun h=>absurd h (J8 e))),fun b π _=>by show π ((T.H (i+1)).get b)=_;rw [e];rfl,fun b π ho=>?_⟩
   show π ((T.H (k+1)).get b)=π ((T.H k).get b)
   rcases h2 with h2 | h2
   ·rw [(hx.load h2).1]
   ·rw [Vx h2 (Nat.lt_of_lt_of_le (bf b π ho) n1)]
  ·obtain ⟨h1,h2⟩:=h1
   obtain ⟨hF,hB⟩:=hi.new h1
   have hold:∀b,b < (T.H i).next->(T.H (i+1)).get b=(T.H i).get b:=fun b bf=>by
    rcases hB with h | ⟨B,h⟩
    ·rw [h]
    ·rw [h,bO bf]
   have zY:ck≠1:=by rcases h2 with h | h <;> omega
   have Bp:ci≠1:=by omega
   refine ⟨fun b _ bf=>hold b bf,fun b hb=>?_,fun b π ho=>absurd (AM hx.Bo ho) zY,fun b π ho=>absurd (AM hi.Bo ho) Bp⟩
   have bk:=hb.resolve_left (hF b)
   show (T.H (k+1)).get b=(T.H k).get b
   rcases h2 with h2 | h2
   ·exact Vx h2 (Nat.lt_of_lt_of_le bk.2 n2)
   ·rcases hx.call h2 with h | h
    ·rw [h]
    ·refine h.get b ?_
     -- GZ block has aA7 told since it was made
     have mW:∀j,i+1<=j->j<=k->(T.H j).fz b=true:=by
      intro j hj
      induction hj with
      | refl=>
       intro _
       rcases hB with h | ⟨B,h⟩
       ·exact absurd bk (J8 h)
       ·have:b=(T.H i).next:=by
         have h3:(T.H i).next<=b:=bk.1
         have h4:b < (T.H (i+1)).next:=bk.2
         rw [h] at h4
         have h5:b < (T.H i).next+1:=h4
         omega
        rw [h,this]
        show ((T.H i).next==(T.H i).next||(T.H i).fz (T.H i).next)=true
        simp
      | @step j hj ih=>
       intro xg
       have R7:i+1<=j:=hj
       have aA8:j+1<=k:=xg
       exact (d.idx j (by omega)).fz b (ih (by omega))
     exact mW k (by omega) (Nat.le_refl _)
  ·obtain ⟨h1,h2⟩:=h1
   have zY:ck≠1:=by omega
   have Bp:ci≠1:=by rcases h1 with h | h <;> omega
   refine ⟨fun b hb=>absurd hb ((hx.new h2).1 b),fun b hb=>?_,fun b π ho=>absurd (AM hx.Bo ho) zY,fun b π ho=>absurd (AM hi.Bo ho) Bp⟩
   refine Vx h2 ?_
   rcases hb with hb | hb
   ·exact Nat.lt_of_lt_of_le (hi.ao9 b hb) n1
   ·exact Nat.lt_of_lt_of_le hb.2 n2
 ·rw [Bool.and_eq_true] at h1
  obtain ⟨h1,py⟩:=h1
  have vU:=adQ (by simpa using py)
  unfold aaF at h1
  simp only [Bool.or_eq_true,Bool.and_eq_true,beq_iff_eq] at h1
  rcases h1 with (h1 | h1) | h1
  ·obtain ⟨h1,h2⟩:=h1
   obtain ⟨e,hF,bf⟩:=hi.load h1
   have zY:ck≠1:=by rcases h2 with h | h <;> omega
   exact ⟨fun b _ _=>by show (T.H (i+1)).get b=_;rw [e];rfl,fun b hb=>(hb.elim (fun h=>absurd h (hF b)) (fun h=>absurd h (J8 e))),fun b π ho=>absurd (AM hx.Bo ho) zY,fun b π ho=>aaj vU.b ho⟩
  ·obtain ⟨h1,h2⟩:=h1
   obtain ⟨e,hF,bf⟩:=hx.load h2
   have Bp:ci≠1:=by rcases h1 with (h | h) | h <;> omega
   exact ⟨fun b hb=>absurd hb (hF b),fun b _=>by show (T.H (k+1)).get b=_;rw [e];rfl,fun b π ho=>aaj vU.a ho,fun b π ho=>absurd (AM hi.Bo ho) Bp⟩
  ·obtain ⟨h1,h2⟩:=h1
   obtain ⟨hF,hB⟩:=hi.new h1
   have zY:ck≠1:=by omega
   have Bp:ci≠1:=by omega
   refine ⟨fun b _ bf=>?_,fun b hb=>?_,fun b π ho=>absurd (AM hx.Bo ho) zY,fun b π ho=>absurd (AM hi.Bo ho) Bp⟩
   ·show (T.H (i+1)).get b=(T.H i).get b
    rcases hB with h | ⟨B,h⟩
    ·rw [h]
    ·rw [h];exact bO bf
   ·have bk:=hb.resolve_left (hF b)
    rcases vU.c h1 with h | h
    ·exact absurd bk (J8 h)
    ·rcases hB with h3 | ⟨B,h3⟩
     ·exact absurd bk (J8 h3)
     ·have:b=(T.H i).next:=by
       have h4:(T.H i).next<=b:=bk.1
       have h5:b < (T.H (i+1)).next:=bk.2
       rw [h3] at h5
       have h6:b < (T.H i).next+1:=h5
       omega
      rw [this];exact h
def Gl (X:Nat->Bool) (n:Nat) (H:ad) (Q:Exit->Env->ad->Prop) (e:Exit) (t':Act) (H':ad):Prop:=∃E',TE n t' E'/\KX X H H'/\Q e E' H'
theorem aaH (hm:P.follows .mixedOrders=true) {T:pE} {n id:Nat} {ops:Array Oper} {draw:Bool} {t:Act} {E:Env} {H:ad} {Q:Exit->Env->ad->Prop} (hc:oc P T n (.region id ops draw)=true) (ht:TE n t E) (hi:zj X H)
  (h:wC P X T (.region id ops draw) E H Q):RC P (.region id ops draw) t H (Gl X n H Q):=by
 simp only [oc,Bool.and_eq_true,Bool.or_eq_true] at hc
 obtain ⟨x5,cT⟩:=hc
 cases draw with
 | false=>
  rw [wC] at h
  refine afN ?_
  have:=TT (P:=P) (X:=X) x5 ops.toList 0 t E H (Q .normal) rfl ht hi h
  rw [List.range_eq_range']
  have e:ops.toList.length=ops.size:=by simp
  rw [e] at this
  exact this.mono fun e t' H' _ ⟨he,E',h1,h2,h3⟩=>by subst he;exact ⟨E',h1,h2,h3⟩
 | true=>
  rw [wC] at h
  have vk:PF ops=true/\Qo P ops (Bm T id)=true:=by simpa using cT
  obtain ⟨T',rG,e1,e2,d,E',h1,h2,h3⟩:=ZV (P:=P) (X:=X) x5 ops.toList 0 [] E (Q .normal) (PD.start ops t H hi.iI.wf) rfl (by simp) ⟨fun j hj=>absurd hj (Nat.not_lt_zero j),fun j k _ hk=>absurd hk (Nat.not_lt_zero k),fun j hj=>absurd hj (Nat.not_lt_zero j)⟩ ht hi h
  have adR:=ae5 T'.done hm (ae2 vk.1) (af4 d vk.2) id
  have h7:T'.done.t 0=t:=e1
  have h8:T'.done.H 0=H:=e2
  rw [h7,h8] at adR
  have h9:jE eg H (T'.H ops.size):=⟨h2.nx,h2.iI.wf,fun b _ hn=>absurd trivial hn⟩
  exact ⟨.normal,T'.t ops.size,T'.H ops.size,h9,adR,E',h1,h2,h3⟩
theorem Gl.after {n:Nat} {H H1:ad} {Q:Exit->Env->ad->Prop} {e:Exit} {t':Act} {H':ad} (h:KX X H H1) (h':Gl X n H1 Q e t' H'):Gl X n H Q e t' H':=by
 obtain ⟨E',h1,h2,h3⟩:=h'
 exact ⟨E',h1,h.trans h2,h3⟩
theorem aaI (hm:P.follows .mixedOrders=true) {T:pE} {n:Nat}:∀(c:Code) (t:Act) (E:Env) (H:ad) (Q:Exit->Env->ad->Prop),oc P T n c=true->TE n t E->zj X H->wC P X T c E H Q->RC P c t H (Gl X n H Q):=by
 intro c
 induction c with
 | skip=>intro t E H Q _ ht hi h;exact abg hi.iI.wf ⟨E,ht,.refl hi,h⟩
 | label l=>intro t E H Q _ ht hi h;exact aaw hi.iI.wf ⟨E,ht,.refl hi,h⟩
 | exit id=>intro t E H Q _ ht hi h;exact abh hi.iI.wf ⟨E,ht,.refl hi,h⟩
 | ret=>intro t E H Q _ ht hi h;exact ab1 hi.iI.wf ⟨E,ht,.refl hi,h⟩
 | region id ops draw=>intro t E H Q hc ht hi h;exact aaH hm hc ht hi h
 | seq a b fJ nH=>
  intro t E H Q hc ht hi h
  simp only [oc,Bool.and_eq_true] at hc
  rw [wC] at h
  refine Ux ((fJ t E H _ hc.1 ht hi h).mono fun e t' H' _ hf=>?_)
  obtain ⟨E',h1,h2,h3⟩:=hf
  cases e with
  | normal=>exact (nH t' E' H' Q hc.2 h1 h2.inv h3).mono fun e2 t2 H2 _ pF=>pF.after h2
  | _=>exact ⟨E',h1,h2,h3⟩
 | cond x a b fJ nH=>
  intro t E H Q hc ht hi h
  simp only [oc,Bool.and_eq_true] at hc
  rw [wC] at h
  unfold Cz at h
  split at h
  ·rename_i v hx
   rw [ht.ev] at hx
   refine abk hx hc.1.1 ?_
   cases v
   ·exact nH t E H Q hc.2 ht hi h
   ·exact fJ t E H Q hc.1.2 ht hi h
  ·exact h.elim
 | block id a fJ=>
  intro t E H Q hc ht hi h
  rw [wC] at h
  refine aax ((fJ t E H _ hc ht hi h).mono fun e t' H' _ hf=>?_)
  obtain ⟨E',h1,h2,h3⟩:=hf
  cases e with
  | exit i=>
   simp only [wO] at h3
   simp only
   split
   ·rename_i he;rw [if_pos he] at h3;exact ⟨E',h1,h2,h3⟩
   ·rename_i he;rw [if_neg he] at h3;exact ⟨E',h1,h2,h3⟩
  | _=>exact ⟨E',h1,h2,h3⟩
 | loop a fJ=>
  intro t E H Q hc ht hi h
  rw [wC] at h
  obtain ⟨m,h⟩:=h
  refine abj ?_
  induction m generalizing t E H with
  | zero=>exact h.elim
  | succ m ih=>
   rw [qQ] at h
   refine abi ((fJ t E H _ hc ht hi h).mono fun e t' H' _ hf=>?_)
   obtain ⟨E',h1,h2,h3⟩:=hf
   cases e with
   | normal=>exact (ih t' E' H' h1 h2.inv h3).mono fun e2 t2 H2 _ pF=>pF.after h2
   | _=>exact ⟨E',h1,h2,h3⟩
 | rangeFunc f ps x y=>intro t E H Q hc;cases hc
 | scope b=>intro t E H Q hc;cases hc
 | goto l=>intro t E H Q hc;cases hc
 | refuse w=>intro t E H Q hc;cases hc
theorem aaJ {n:Nat} {t:Act} {E:Env} {H:ad} (hw:H.wf) (ht:TE n t E) {σ:cg} {w:World} {a:Act} (hr:Rel P σ eg H.get w) (G8:TR σ t a):
  ∀{rs:List ResultVar} {l:List Value},x7 P rs E H=some l->∃l',VL σ l l'/\(rs.mapM (R5 a)).run P w=.ok l' w
 | [],l,hh=>by cases hh;exact ⟨[],.nil σ,by simp⟩
 | r::rs,l,hh=>by
  have h2:=hh
  rw [x7] at h2
  clear hh
  split at h2
  ·rename_i l0 uq
   obtain ⟨l',hv,eY⟩:=aaJ hw ht hr G8 uq
   split at h2
   ·rename_i d
    cases h2
    refine ⟨a.tmps.getD d undef::l',.cons ?_ hv,?_⟩
    ·rw [<-ht.get];exact G8.tm.at d
    ·rw [List.mapM_cons]
     simp only [Sem.run_bind,R5,Sem.run_pure,Result.andThen_ok,eY]
   ·rename_i d ty
    split at h2
    ·rename_i v h3 hl
     cases h2
     have Bk:VR σ (E d) (a.tmps.getD d undef):=by rw [<-ht.get];exact G8.tm.at d
     unfold tU at hl
     split at hl
     ·rename_i b off ha
      rw [ha] at Bk
      obtain ⟨L,hL,had⟩:=Bk.I0
      split at hl
      ·rename_i v0 gj
       cases hl
       obtain ⟨v',Bj,al7⟩:=Uo gj trivial hr hL
       refine ⟨v'::l',.cons Bj hv,?_⟩
       rw [List.mapM_cons]
       simp only [Sem.run_bind,R5,had,asAddr,Sem.run_pure,Result.andThen_ok,al7,eY]
      ·cases hl
     ·cases hl
    ·cases h2
  ·cases h2
theorem aaK {n:Nat} {t:Act} {E:Env} {H:ad} {fn:Func} {l:List Value} (hw:H.wf) (ht:TE n t E) (hl:x7 P fn.results.toList E H=some l):adG P fn t H (J6 l):=by
 intro σ w a hr G8
 obtain ⟨l',hv,eY⟩:=aaJ hw ht hr G8 hl
 have hm:(results fn a.tmps).run P w=.ok (if h:l'.toArray.size=1 then l'.toArray[0] else .tuple l'.toArray) w:=by
  have e:results fn a.tmps=(do let vs<-fn.results.mapM (R5 a);pure (if h:vs.size=1 then vs[0] else .tuple vs)):=rfl
  rw [e,Sem.run_bind,Array.mapM_eq_mapM_toList,Sem.run_map,eY]
  rfl
 refine ⟨_,hm,?_⟩
 unfold J6
 split
 ·rename_i v
  obtain ⟨v',a',rfl,nC,ha⟩:=hv.of_cons
  rw [ha.of_nil]
  exact nC
 ·rename_i dd
  have hlen:=hv.1
  have:¬l'.toArray.size=1:=by
   intro h1
   have h2:l.length=1:=by simpa [hlen] using h1
   obtain ⟨v,rfl⟩:=List.length_eq_one_iff.1 h2
   exact dd v rfl
  rw [dif_neg this]
  exact .tuple hv.yj.1 hv.yj.2
theorem aaL {fn:Func} {args:Array Value} (hle:args.size<=fn.ntmps):TE fn.ntmps (start fn args) (cj args.toList):=by
 refine ⟨fun i=>?_,by simp [start];omega,rfl⟩
 simp only [start,cj]
 by_cases hi:i < args.size
 ·simp [Array.getD,hi,Array.getElem_append,List.getD_eq_getElem?_getD,Nat.lt_add_right _ hi]
 ·by_cases gY:i < args.size+(fn.ntmps - args.size)
  ·simp [Array.getD,hi,gY,Array.getElem_append]
  ·simp [Array.getD,hi,gY]
def bK (P:Program) (T:pE) (f:Nat):Bool:=match P.funcs[f]? with
 | some fn=>(match fn.body with
  | some c=>oc P T fn.ntmps c
  | none=>false)
 | none=>false
theorem aiG {f:FuncId} (T:pE) {fn:Func} {c:Code} {l:List Value} {H:ad} {K:Value->ad->Prop} (hm:P.follows .mixedOrders=true) (hf:P.funcs[f]?=some fn) (hb:fn.body=some c) (hc:oc P T fn.ntmps c=true)
  (hl:l.length<=fn.ntmps) (h:bY H->wC P H.fz T c (cj l) H (cm P fn.results.toList K)):aj P f l.toArray H K:=by
 intro A1
 have hi:zj H.fz H:=⟨A1,fun _ h=>h⟩
 have yn:=aaI (T:=T) hm c (start fn l.toArray) (cj l) H _ hc (aaL (by simpa using hl)) hi (h A1)
 have ym:Xd P f l.toArray H fun v H'=>KX H.fz H H'/\K v H':=by
  refine acK hf hb (yn.mono fun e t' H' _ hE=>?_)
  obtain ⟨E',h1,h2,h3⟩:=hE
  have U0:∀{e:Exit},cm P fn.results.toList K e E' H'->(e=.normal∨e=.ret)/\CA P fn.results.toList E' H' K:=fun {e} hq=>by
   cases e with
   | normal=>exact ⟨.inl rfl,hq⟩
   | ret=>exact ⟨.inr rfl,hq⟩
   | _=>exact hq.elim
  obtain ⟨he,hw⟩:=U0 h3
  refine ⟨he,?_⟩
  unfold CA at hw
  split at hw
  ·rename_i vs l8
   exact ⟨_,aaK h2.iI.wf h1 l8,h2,hw⟩
  ·exact hw.elim
 obtain ⟨v,H',h1,h2,h3,h4⟩:=ym
 exact ⟨v,H',h1,h2,h3,h4⟩
theorem LP {T:pE} {f:FuncId} {fn:Func} (h:bK P T f=true) (hf:P.funcs[f]?=some fn):∃c,fn.body=some c/\oc P T fn.ntmps c=true:=by
 unfold bK at h
 rw [hf] at h
 simp only at h
 split at h
 ·rename_i c hc;exact ⟨c,hc,h⟩
 ·cases h
theorem cE {f:FuncId} {fn:Func} {l:List Value} {H:ad} {K:Value->ad->Prop} (T:pE) (hm:P.follows .mixedOrders=true) (hf:P.funcs[f]?=some fn) (hc:bK P T f=true) {m:Nat} (hl:l.length<=m) (hn:m<=fn.ntmps) {rs:List ResultVar} (hr:fn.results.toList=rs)
  (h:bY H->wC P H.fz T (fn.body.getD .skip) (cj l) H (cm P rs K)):aj P f l.toArray H K:=by
 obtain ⟨c,hb,hc⟩:=LP hc hf
 rw [hb] at h
 exact aiG T hm hf hb hc (Nat.le_trans hl hn) (hr▸h)
end
end Go.Proofs.YtebibeaobhcfkaaGreat.Ab
namespace Go.Proofs.YtebibeaobhcfkaaGreat.Ab
open Go Classical
universe u
inductive Tag {α:Sort u} (a:α):Type
 | mk
def Ec (b:Bool) (x y:Prop) (_:Tag x) (_:Tag y):Prop:=if b=true then x else y
section
variable {P:Program} {X:Nat->Bool} {T:pE} {E:Env} {H:ad} {Q:Exit->Env->ad->Prop}
@[go_sem] theorem asB {x y:Prop} {t:Tag x} {s:Tag y}:Ec true x y t s=x:=nr rfl
@[go_sem] theorem asd {x y:Prop} {t:Tag x} {s:Tag y}:Ec false x y t s=y:=by simp [Ec]
@[congr] theorem ase {b b':Bool} {x y:Prop} {t:Tag x} {s:Tag y} (h:b=b'):Ec b x y t s=Ec b' x y t s:=by rw [h]
def MW (v:Value) (x y:Prop) (_:Tag x) (_:Tag y):Prop:=Cz v x y
@[congr] theorem asf {v v':Value} {x y:Prop} {t:Tag x} {s:Tag y} (h:v=v'):MW v x y t s=MW v' x y t s:=by rw [h]
@[go_sem] theorem asC {b:Bool} {x y:Prop} {t:Tag x} {s:Tag y}:MW (.bool b) x y t s=Ec b x y t s:=nr rfl
@[go_sem ↓] theorem avX:wC P X T .skip E H Q=Q .normal E H:=nr rfl
@[go_sem ↓] theorem avY {i:Nat}:wC P X T (.exit i) E H Q=Q (.exit i) E H:=nr rfl
@[go_sem ↓] theorem ayp:wC P X T .ret E H Q=Q .ret E H:=nr rfl
@[go_sem ↓] theorem ayq {a b:Code}:wC P X T (.seq a b) E H Q=wC P X T a E H (pX (fun E H=>wC P X T b E H Q) Q):=nr rfl
@[go_sem ↓] theorem auS {id:Nat} {a:Code}:wC P X T (.block id a) E H Q=wC P X T a E H (wO id Q):=nr rfl
@[go_sem ↓] theorem avZ {c:Operand} {a b:Code}:wC P X T (.cond c a b) E H Q=MW (kf E c) (wC P X T a E H Q) (wC P X T b E H Q) .mk .mk:=nr rfl
@[go_sem ↓] theorem ata {id:Nat} {l:List Oper}:wC P X T (.region id (List.toArray l) false) E H Q=lZ P X (l.map (·.dst)) l E H (Q .normal):=nr rfl
theorem aak:∀(ds:List (Option Nat)) (l:List Oper) (k:Nat) (acc:List (Nat × Rec)) (E:Env) (H:ad) (K:Env->ad->Prop),ju P X [] ds l k acc E H K=lZ P X ds l E H K
 | ds,[],k,acc,E,H,K=>rfl
 | ds,o::l,k,acc,E,H,K=>by
  rw [ju,lZ]
  simp only [aak ds l,vj,true_and]
noncomputable def JE (P:Program) (X:Nat->Bool) (tb:List (Nat × Nat)) (l:List Oper) (E:Env) (H:ad) (K:Env->ad->Prop):Prop:=ju P X tb (l.map (·.dst)) l 0 [] E H K
@[congr] theorem ar0 {tb tb':List (Nat × Nat)} {l:List Oper} {K:Env->ad->Prop} (h:tb=tb'):JE P X tb l E H K=JE P X tb' l E H K:=by rw [h]
@[go_sem ↓] theorem av0 {id:Nat} {l:List Oper}:wC P X T (.region id (List.toArray l) true) E H Q=JE P X (Bm T id) l E H (Q .normal):=nr rfl
@[go_sem] theorem asg {l:List Oper} {K:Env->ad->Prop}:JE P X [] l E H K=lZ P X (l.map (·.dst)) l E H K:=aak _ _ _ _ _ _ _
@[go_sem] theorem ar1 {p:Nat × Nat} {tb:List (Nat × Nat)} {l:List Oper} {K:Env->ad->Prop}:JE P X (p::tb) l E H K=ju P X (p::tb) (l.map (·.dst)) l 0 [] E H K:=nr rfl
@[go_sem] theorem auT {id:Nat}:Bm [] id=[]:=nr rfl
@[go_sem] theorem atb {p:Nat × List (Nat × Nat)} {T:pE} {id:Nat}:Bm (p::T) id=if p.1=id then p.2 else Bm T id:=nr rfl
@[congr] theorem ar2 {tb:List (Nat × Nat)} {ds ds':List (Option Nat)} {l:List Oper} {k k':Nat} {acc rG:List (Nat × Rec)} {K:Env->ad->Prop} (h:ds=ds') (hk:k=k') (ha:acc=rG):ju P X tb ds l k acc E H K=ju P X tb ds' l k' rG E H K:=by rw [h,hk,ha]
@[go_sem] theorem arY {k:Env->ad->Prop}:pX k Q .normal E H=k E H:=nr rfl
@[go_sem] theorem asD {k:Env->ad->Prop}:pX k Q .ret E H=Q .ret E H:=nr rfl
@[go_sem] theorem ash {k:Env->ad->Prop} {i:Nat}:pX k Q (.exit i) E H=Q (.exit i) E H:=nr rfl
@[go_sem] theorem ar3 {id:Nat}:wO id Q .normal E H=Q .normal E H:=nr rfl
@[go_sem] theorem atc {id:Nat}:wO id Q .ret E H=Q .ret E H:=nr rfl
@[go_sem] theorem asE {id i:Nat}:wO id Q (.exit i) E H=if i=id then Q .normal E H else Q (.exit i) E H:=nr rfl
def fe (P:Program) (X:Nat->Bool) (H:ad) (r:AO) (K:Value->ad->Prop) (_:Tag K):Prop:=match r with
 | .ok v H'=>(∀b,b < H.next->X b=true->H'.get b=H.get b)/\K v H'
 | .call f args=>aj P f args H K
 | .no=>False
def ag (P:Program) (f:FuncId) (args:Array Value) (H:ad) (K:Value->ad->Prop) (_:Tag K):Prop:=aj P f args H K
theorem ag.by {P:Program} {f:FuncId} {args:Array Value} {H:ad} {K K':Value->ad->Prop} {t:Tag K} (h:aj P f args H K') (hk:∀v H',KX H.fz H H'->K' v H'->K v H'):ag P f args H K t:=h.mono hk
@[congr] theorem asj {r r':AO} {K:Value->ad->Prop} {t:Tag K} (h:r=r'):fe P X H r K t=fe P X H r' K t:=by rw [h]
@[congr] theorem asF {f:FuncId} {args DR:Array Value} {K:Value->ad->Prop} {t:Tag K} (h:args=DR):ag P f args H K t=ag P f DR H K t:=by rw [h]
@[go_sem] theorem agS {v:Value} {K:Value->ad->Prop} {t:Tag K}:fe P X H (.ok v H) K t=K v H:=propext ⟨fun h=>h.2,fun h=>⟨fun _ _ _=>rfl,h⟩⟩
@[go_sem] theorem AI {v:Value} {B:cO} {K:Value->ad->Prop} {t:Tag K}:fe P X H (.ok v (H.push B)) K t=K v (H.push B):=propext ⟨fun h=>h.2,fun h=>⟨fun b hb _=>bO hb,h⟩⟩
@[go_sem] theorem Qa {v:Value} {b:Nat} {B:cO} {K:Value->ad->Prop} {t:Tag K} (hx:X b=false):fe P X H (.ok v (H.ai b B)) K t=K v (H.ai b B):=propext ⟨fun h=>h.2,fun h=>⟨fun c _ hc=>by
 show (if c=b then some B else H.get c)=_
 rw [if_neg (fun e=>by rw [e,hx] at hc;cases hc)],h⟩⟩
@[go_sem] theorem PO {v:Value} {b:Nat} {B:cO} {K:Value->ad->Prop} {t:Tag K} (hx:X b=false):fe P X H (.ok v (H.grow b B)) K t=K v (H.grow b B):=propext ⟨fun h=>h.2,fun h=>⟨fun c hc Kx=>by
 show (if c=H.next then some B else if c=b then none else H.get c)=_
 rw [if_neg (by omega),if_neg (fun e=>by rw [e,hx] at Kx;cases Kx)],h⟩⟩
@[go_sem] theorem asl {v:Value} {B C:cO} {K:Value->ad->Prop} {t:Tag K} (hx:X H.next=false):fe P X (H.push B) (.ok v (H.push C)) K t=K v (H.push C):=propext ⟨fun h=>h.2,fun h=>⟨fun c _ Kx=>by
 show (if c=H.next then some C else H.get c)=(if c=H.next then some B else H.get c)
 have:c≠H.next:=fun e=>by rw [e,hx] at Kx;cases Kx
 rw [if_neg this,if_neg this],h⟩⟩
@[go_sem] theorem atd {f:FuncId} {args:Array Value} {K:Value->ad->Prop} {t:Tag K}:fe P X H (.call f args) K t=ag P f args H K t:=nr rfl
@[go_sem ↓] theorem ate {ds:List (Option Nat)} {K:Env->ad->Prop}:lZ P X ds [] E H K=K E H:=nr rfl
@[go_sem ↓] theorem auU {ds:List (Option Nat)} {d:Option Nat} {op:Op} {ty:TypeId} {pos:String} {CW:Array Edge} {l:List Oper} {K:Env->ad->Prop}:
  lZ P X ds (⟨d,op,ty,pos,CW,none⟩::l) E H K=ia P X (kf E) op H (fun v H=>lZ P X ds l (oS E d v) H K):=by rw [lZ];simp [JD]
@[go_sem ↓] theorem asm {ds:List (Option Nat)} {d:Option Nat} {op:Op} {ty:TypeId} {pos:String} {CW:Array Edge} {l:List Oper} {j:Nat} {want:Bool} {K:Env->ad->Prop}:
  lZ P X ds (⟨d,op,ty,pos,CW,some (j,want)⟩::l) E H K=Ec (A0 E want ds[j]?) (ia P X (kf E) op H (fun v H=>lZ P X ds l (oS E d v) H K)) (lZ P X ds l (oS E d undef) H K) .mk .mk:=by rw [lZ];rfl
@[go_sem ↓] theorem asG {tb:List (Nat × Nat)} {ds:List (Option Nat)} {k:Nat} {acc:List (Nat × Rec)} {K:Env->ad->Prop}:ju P X tb ds [] k acc E H K=K E H:=nr rfl
def Cr (tb:List (Nat × Nat)) (k:Nat):Bool:=tb.any fun p=>p.2==k
theorem agT {tb:List (Nat × Nat)} {k:Nat} {acc:List (Nat × Rec)} {ob:nv} {H H':ad} (h:Cr tb k=false):vj tb k acc ob H H'=True:=by
 induction tb with
 | nil=>rfl
 | cons p tb ih=>
  simp only [Cr,List.any_cons,Bool.or_eq_false_iff] at h
  have h1:¬p.2=k:=by simpa using h.1
  rw [vj,if_neg h1,ih h.2];simp
noncomputable def vV (P:Program) (X:Nat->Bool) (b1 b2:Bool) (tb:List (Nat × Nat)) (ds:List (Option Nat)) (d:Option Nat) (op:Op) (l:List Oper) (k:Nat) (acc:List (Nat × Rec)) (E:Env) (H:ad) (K:Env->ad->Prop) (_:Tag (l,op,K,E)):Prop:=
 ia P X (kf E) op H (fun v H'=>(if b2=true then vj tb k acc (mC P (kf E) op) H H' else True)/\ju P X tb ds l (k+1) (if b1=true then (k,⟨mC P (kf E) op,wF P op H,H,H'⟩)::acc else acc) (oS E d v) H' K)
@[congr] theorem asH {b1 b1' b2 b2':Bool} {tb:List (Nat × Nat)} {ds:List (Option Nat)} {d:Option Nat} {op:Op} {l:List Oper} {k:Nat} {acc:List (Nat × Rec)} {K:Env->ad->Prop} {t:Tag (l,op,K,E)} (h1:b1=b1') (h2:b2=b2'):vV P X b1 b2 tb ds d op l k acc E H K t=vV P X b1' b2' tb ds d op l k acc E H K t:=by rw [h1,h2]
theorem ab3 {tb:List (Nat × Nat)} {ds:List (Option Nat)} {d:Option Nat} {op:Op} {l:List Oper} {k:Nat} {acc:List (Nat × Rec)} {K:Env->ad->Prop}:
  ia P X (kf E) op H (fun v H'=>vj tb k acc (mC P (kf E) op) H H'/\ju P X tb ds l (k+1) (note tb k ⟨mC P (kf E) op,wF P op H,H,H'⟩ acc) (oS E d v) H' K)=vV P X (told tb k) (Cr tb k) tb ds d op l k acc E H K .mk:=by
 unfold vV note
 cases hc:Cr tb k
 ·simp only [agT hc,Bool.false_eq_true,if_false]
 ·simp only [if_true]
@[go_sem] theorem av1 {tb:List (Nat × Nat)} {ds:List (Option Nat)} {d:Option Nat} {op:Op} {l:List Oper} {k:Nat} {acc:List (Nat × Rec)} {K:Env->ad->Prop} {t:Tag (l,op,K,E)}:vV P X false false tb ds d op l k acc E H K t=ia P X (kf E) op H (fun v H'=>ju P X tb ds l (k+1) acc (oS E d v) H' K):=by
 unfold vV;simp
@[go_sem] theorem av2 {tb:List (Nat × Nat)} {ds:List (Option Nat)} {d:Option Nat} {op:Op} {l:List Oper} {k:Nat} {acc:List (Nat × Rec)} {K:Env->ad->Prop} {t:Tag (l,op,K,E)}:vV P X true false tb ds d op l k acc E H K t=ia P X (kf E) op H (fun v H'=>ju P X tb ds l (k+1) ((k,⟨mC P (kf E) op,wF P op H,H,H'⟩)::acc) (oS E d v) H' K):=by
 unfold vV;simp
@[go_sem] theorem av3 {tb:List (Nat × Nat)} {ds:List (Option Nat)} {d:Option Nat} {op:Op} {l:List Oper} {k:Nat} {acc:List (Nat × Rec)} {K:Env->ad->Prop} {t:Tag (l,op,K,E)}:vV P X false true tb ds d op l k acc E H K t=ia P X (kf E) op H (fun v H'=>vj tb k acc (mC P (kf E) op) H H'/\ju P X tb ds l (k+1) acc (oS E d v) H' K):=by
 unfold vV;simp
@[go_sem] theorem av4 {tb:List (Nat × Nat)} {ds:List (Option Nat)} {d:Option Nat} {op:Op} {l:List Oper} {k:Nat} {acc:List (Nat × Rec)} {K:Env->ad->Prop} {t:Tag (l,op,K,E)}:vV P X true true tb ds d op l k acc E H K t=ia P X (kf E) op H (fun v H'=>vj tb k acc (mC P (kf E) op) H H'/\ju P X tb ds l (k+1) ((k,⟨mC P (kf E) op,wF P op H,H,H'⟩)::acc) (oS E d v) H' K):=by
 unfold vV;simp
@[go_sem ↓] theorem atf {tb:List (Nat × Nat)} {ds:List (Option Nat)} {d:Option Nat} {op:Op} {ty:TypeId} {pos:String} {CW:Array Edge} {l:List Oper} {k:Nat} {acc:List (Nat × Rec)} {K:Env->ad->Prop}:
  ju P X tb ds (⟨d,op,ty,pos,CW,none⟩::l) k acc E H K=vV P X (told tb k) (Cr tb k) tb ds d op l k acc E H K .mk:=by
 rw [<-ab3,ju];simp [JD]
@[go_sem ↓] theorem ar4 {tb:List (Nat × Nat)} {ds:List (Option Nat)} {d:Option Nat} {op:Op} {ty:TypeId} {pos:String} {CW:Array Edge} {l:List Oper} {k:Nat} {acc:List (Nat × Rec)} {j:Nat} {want:Bool} {K:Env->ad->Prop}:
  ju P X tb ds (⟨d,op,ty,pos,CW,some (j,want)⟩::l) k acc E H K=Ec (A0 E want ds[j]?) (vV P X (told tb k) (Cr tb k) tb ds d op l k acc E H K .mk) (ju P X tb ds l (k+1) acc (oS E d undef) H K) .mk .mk:=by rw [<-ab3,ju];rfl
@[go_sem] theorem asI {i:Nat}:Cr [] i=false:=nr rfl
@[go_sem] theorem asn {p:Nat × Nat} {tb:List (Nat × Nat)} {i:Nat}:Cr (p::tb) i=(p.2==i||Cr tb i):=nr rfl
attribute [go_sem] ahC aiD
@[congr] theorem ar5 {want:Bool} {d d':Option (Option Nat)} (h:d=d'):A0 E want d=A0 E want d':=by rw [h]
@[go_sem] theorem aso {want:Bool} {d:Nat}:A0 E want (some (some d))=JC (E d) want:=nr rfl
@[go_sem] theorem asp {b w:Bool}:JC (.bool b) w=(b==w):=nr rfl
@[go_sem] theorem av5 {b:Bool}:(b==true)=b:=by cases b <;> rfl
@[go_sem] theorem av6 {b:Bool}:(b==false)=!b:=by cases b <;> rfl
attribute [go_sem] Bool.not_true Bool.not_false List.getElem?_cons_succ List.getElem?_cons_zero
@[go_sem ↓] theorem auV {i:Nat}:kf E (.tmp i)=E i:=nr rfl
@[go_sem ↓] theorem asJ {v:Value}:kf E (.const v)=v:=nr rfl
@[go_sem ↓] theorem atg {f:FuncId}:kf E (.func f)=.func (.func f) #[] #[]:=nr rfl
@[go_sem ↓] theorem asK {v:Value}:oS E none v=E:=nr rfl
@[go_sem ↓] theorem asL {d:Nat} {v:Value}:oS E (some d) v d=v:=if_pos rfl
@[go_sem ↓] theorem asq {d i:Nat} {v:Value} (h:i≠d):oS E (some d) v i=E i:=if_neg h
@[go_sem] theorem ath {l:List Value} {i:Nat}:cj l i=l.getD i undef:=nr rfl
attribute [go_sem] List.getD_cons_zero List.getD_cons_succ ne_eq not_false_eq_true Nat.reduceEqDiff
section ops
variable {K:Value->ad->Prop} {ev:Operand->Value}
@[go_sem ↓] theorem av7 {x:Operand}:ia P X ev (.move x) H K=fe P X H (.ok (ev x) H) K .mk:=nr rfl
@[go_sem ↓] theorem ati {x:Operand}:ia P X ev (.assign x) H K=fe P X H (.ok (ev x) H) K .mk:=nr rfl
@[go_sem ↓] theorem av8 {c a b:Operand}:ia P X ev (.pick c a b) H K=fe P X H (iq (DP (ev c) (ev a) (ev b) h0) H) K .mk:=nr rfl
@[go_sem ↓] theorem auW {t:TypeId}:ia P X ev (.alloc t) H K=fe P X H (DJ P t H) K .mk:=nr rfl
@[go_sem ↓] theorem ayr {t:TypeId} {x:Operand}:ia P X ev (.box t x) H K=fe P X H (s0 (ev x).cells.toList t false ptrTo H) K .mk:=nr rfl
@[go_sem ↓] theorem auX {t:TypeId} {l:List (Nat × Operand)}:ia P X ev (.build t (List.toArray l)) H K=fe P X H (iq (iA P t (parts ev l) h0) H) K .mk:=nr rfl
@[go_sem ↓] theorem arZ {t:TypeId} {n:Nat} {l:List (Nat × Operand)}:ia P X ev (.buildSlice t n (List.toArray l)) H K=fe P X H (qx P t n (parts ev l) H) K .mk:=nr rfl
@[go_sem ↓] theorem av9 {t:TypeId} {a:Operand}:ia P X ev (.load t a) H K=fe P X H (tU P t (ev a) H) K .mk:=nr rfl
@[go_sem ↓] theorem auY {t:TypeId} {a x:Operand}:ia P X ev (.store t a x) H K=fe P X H (Ci P t (ev a) (ev x) H) K .mk:=nr rfl
@[go_sem ↓] theorem ays {x:Operand}:ia P X ev (.nilCheck x) H K=fe P X H (iq (Ea (ev x) h0) H) K .mk:=nr rfl
@[go_sem ↓] theorem ayt {op:BinOp} {t s:TypeId} {x y:Operand}:ia P X ev (.binOp op t x y s) H K=fe P X H (iq (dS P op t (ev x) (ev y) h0) H) K .mk:=nr rfl
@[go_sem ↓] theorem aA9 {op:UnOp} {t:TypeId} {x:Operand}:ia P X ev (.unOp op t x) H K=fe P X H (iq (Ew op (ev x) h0) H) K .mk:=nr rfl
@[go_sem ↓] theorem awa {s d:TypeId} {x:Operand}:ia P X ev (.convert s d x) H K=fe P X H (yZ P s d (ev x) H) K .mk:=nr rfl
@[go_sem ↓] theorem asr {f:Fn} {a b:List Operand}:ia P X ev (.makeFunc f (List.toArray a) (List.toArray b)) H K=fe P X H (.ok (.func f (qL ev a).toArray (qL ev b).toArray) H) K .mk:=nr rfl
@[go_sem ↓] theorem ar6 {t:TypeId} {l c:Operand}:ia P X ev (.makeSlice t l c) H K=fe P X H (FB P t (ev l) (ev c) H) K .mk:=nr rfl
@[go_sem ↓] theorem auZ {t:TypeId} {x:Operand} {lo hi mx:Option Operand}:ia P X ev (.slice t x lo hi mx) H K=fe P X H (iq (pk P t (ev x) (lo.map ev) (hi.map ev) (mx.map ev) h0) H) K .mk:=nr rfl
@[go_sem ↓] theorem ar7 {t:TypeId} {x:Operand} {f:Nat}:ia P X ev (.fieldAddr t x f) H K=fe P X H (iq (BX P t (ev x) f h0) H) K .mk:=nr rfl
@[go_sem ↓] theorem au0 {t:TypeId} {x:Operand} {f:Nat}:ia P X ev (.field t x f) H K=fe P X H (iq (Cg P t (ev x) f h0) H) K .mk:=nr rfl
@[go_sem ↓] theorem ar8 {t:TypeId} {x i:Operand}:ia P X ev (.indexAddr t x i) H K=fe P X H (iq (BY P t (ev x) (ev i) h0) H) K .mk:=nr rfl
@[go_sem ↓] theorem au1 {t:TypeId} {x i:Operand}:ia P X ev (.index t x i) H K=fe P X H (iq (Ch P t (ev x) (ev i) h0) H) K .mk:=nr rfl
@[go_sem ↓] theorem asM {x:Operand} {i:Nat}:ia P X ev (.extract x i) H K=fe P X H (iq (Ca (ev x) i h0) H) K .mk:=nr rfl
@[go_sem ↓] theorem awb {x:Operand} {l:List Operand} {ts:Array TypeId}:ia P X ev (.call {callee:=.value x,args:=List.toArray l,argTypes:=ts}) H K=fe P X H (iq (xS P (ev x) (qL ev l).toArray) H) K .mk:=nr rfl
@[go_sem ↓] theorem ayu {t:TypeId} {x:Operand} {ts:List TypeId}:ia P X ev (.call {callee:=.builtin .len,args:=#[x],argTypes:=⟨t::ts⟩}) H K=fe P X H (iq (x4 P t (ev x) h0) H) K .mk:=nr rfl
@[go_sem ↓] theorem atj {t t2:TypeId} {x y:Operand}:ia P X ev (.call {callee:=.builtin .append,args:=#[x,y],argTypes:=#[t,t2]}) H K=fe P X H (match P.underlying t2 with
   | some (.slice _)=>iZ P t (ev x) (ev y) H
   | _=>.no) K .mk:=nr rfl
@[go_sem ↓] theorem awc {t:TypeId} {x y:Operand} {ts:List TypeId}:ia P X ev (.call {callee:=.builtin .copy,args:=#[x,y],argTypes:=⟨t::ts⟩}) H K=fe P X H (Cq P t (ev x) (ev y) H) K .mk:=nr rfl
@[go_sem ↓] theorem ayv {x y:Operand} {ts:Array TypeId}:ia P X ev (.call {callee:=.builtin .min,args:=#[x,y],argTypes:=ts}) H K=fe P X H (iq (zd false (ev x) (ev y) h0) H) K .mk:=nr rfl
end ops
attribute [go_sem] ahF agL
@[go_sem] theorem asN {ev:Operand->Value}:parts ev []=[]:=nr rfl
@[go_sem] theorem ass {ev:Operand->Value} {p:Nat × Operand} {l:List (Nat × Operand)}:parts ev (p::l)=(p.1,ev p.2)::parts ev l:=nr rfl
@[congr] theorem ar9 {r r':KO} (h:r=r'):iq r H=iq r' H:=by rw [h]
@[go_sem] theorem au2 {v:Value} {h:KH}:iq (.ok v h) H=.ok v H:=nr rfl
@[go_sem] theorem asO {f:FuncId} {args:Array Value}:iq (.call f args) H=.call f args:=nr rfl
section apa
variable {h:KH}
attribute [go_sem] afX afx aiE ahD
@[go_sem] theorem ayw {t:TypeId} {k:IntKind} {a b:Int}:dS P .lss t (.int k a) (.int k b) h=.ok (.bool (decide (a < b))) h:=by simp [dS,kO,wK,yU]
@[go_sem] theorem ayx {t:TypeId} {k:IntKind} {a b:Int}:dS P .leq t (.int k a) (.int k b) h=.ok (.bool (decide (a<=b))) h:=by
 simp only [dS,kO,wK,decide_true,cond_true,yU]
 congr 2;rw [Bool.eq_iff_iff];simp
@[go_sem] theorem ayy {t:TypeId} {k:IntKind} {a b:Int}:dS P .gtr t (.int k a) (.int k b) h=.ok (.bool (decide (b < a))) h:=by simp [dS,kO,wK,yU]
@[go_sem] theorem ayz {t:TypeId} {k:IntKind} {a b:Int}:dS P .geq t (.int k a) (.int k b) h=.ok (.bool (decide (b<=a))) h:=by
 simp only [dS,kO,wK,decide_true,cond_true,yU]
 congr 2;rw [Bool.eq_iff_iff];simp
@[go_sem] theorem ayA {t:TypeId} {k:IntKind} {a b:Int}:dS P .eql t (.int k a) (.int k b) h=.ok (.bool (decide (a=b))) h:=by simp [dS,kO,wK,DG]
@[go_sem] theorem ayB {t:TypeId} {k:IntKind} {a b:Int}:dS P .neq t (.int k a) (.int k b) h=.ok (.bool (!decide (a=b))) h:=by simp [dS,kO,wK,DG]
@[go_sem] theorem ayC {t:TypeId} {k:IntKind} {a b:Int}:dS P .add t (.int k a) (.int k b) h=.ok (.int k (k.wrap (a+b))) h:=by simp [dS,kO,wK,sL]
@[go_sem] theorem ayD {t:TypeId} {k:IntKind} {a b:Int}:dS P .sub t (.int k a) (.int k b) h=.ok (.int k (k.wrap (a - b))) h:=by simp [dS,kO,wK,sL]
@[go_sem] theorem ayE {t:TypeId} {k:IntKind} {a b:Int}:dS P .mul t (.int k a) (.int k b) h=.ok (.int k (k.wrap (a * b))) h:=by simp [dS,kO,wK,sL]
@[go_sem] theorem b_quo {t:TypeId} {k:IntKind} {a b:Int} (hb:b≠0):dS P .quo t (.int k a) (.int k b) h=.ok (.int k (k.wrap (a.tdiv b))) h:=by simp [dS,kO,wK,sL,DG,hb]
@[go_sem] theorem ayF {t:TypeId} {k:IntKind} {a b:Int} (hb:b≠0):dS P .rem t (.int k a) (.int k b) h=.ok (.int k (a.tmod b)) h:=by simp [dS,kO,wK,DG,hb]
@[go_sem] theorem al8 {t:TypeId} {a b:ByteArray}:dS P .eql t (.string a) (.string b) h=.ok (.bool (decide (a.data.toList=b.data.toList))) h:=by simp [dS,kO,J5,IF]
@[go_sem] theorem ayG {t:TypeId} {a b:ByteArray}:dS P .neq t (.string a) (.string b) h=.ok (.bool (!decide (a.data.toList=b.data.toList))) h:=by simp [dS,kO,J5,IF]
noncomputable def cK (P:Program) (s:TypeId) (f:Nat):Option Nat:=match P.underlying s with
 | some (.struct fs)=>match rF fs.toList f with
  | some f=>match dm P f.type with
   | some n=>bif Nat.blt 0 n then some f.offset else none
   | none=>none
  | none=>none
 | _=>none
def foA (off:Option Nat) (b o:Nat) (h:KH):KO:=match off with
 | some off=>.ok (.pointer (some ⟨b,o+off,none⟩)) h
 | none=>.no
@[go_sem] theorem atk {off b o:Nat}:foA (some off) b o h=.ok (.pointer (some ⟨b,o+off,none⟩)) h:=nr rfl
@[go_sem] theorem atl {s:TypeId} {b o f:Nat}:BX P s (.pointer (some ⟨b,o,none⟩)) f h=foA (cK P s f) b o h:=by
 unfold BX cK
 cases hu:P.underlying s with
 | none=>rfl
 | some d=>
  cases d with
  | struct fs=>
   simp only
   cases rF fs.toList f with
   | none=>rfl
   | some f1=>
    simp only
    cases dm P f1.type with
    | none=>rfl
    | some n=>simp only;cases Nat.blt 0 n <;> rfl
  | _=>rfl
noncomputable def Gm (P:Program) (s:TypeId) (f:Nat):Option (TypeId × Nat):=match P.underlying s with
 | some (.struct fs)=>match rF fs.toList f with
  | some f=>some (f.type,f.offset)
  | none=>none
 | _=>none
def Sa (a:Option Bool) (n:Option Nat) (l:List Value) (off:Nat) (h:KH):KO:=match a with
 | some true=>(match n with
  | some n=>.ok (.agg ((l.drop off).take n).toArray) h
  | none=>.no)
 | some false=>(match l[off]? with
  | some v=>.ok v h
  | none=>.no)
 | none=>.no
noncomputable def Xm (P:Program) (q:Option (TypeId × Nat)) (l:List Value) (h:KH):KO:=match q with
 | some (ty,off)=>Sa (gg P ty) (dm P ty) l off h
 | none=>.no
@[go_sem] theorem atm {ty:TypeId} {off:Nat} {l:List Value}:Xm P (some (ty,off)) l h=Sa (gg P ty) (dm P ty) l off h:=nr rfl
def Xn (v:Option Value) (h:KH):KO:=match v with
 | some v=>.ok v h
 | none=>.no
@[go_sem] theorem atn {v:Value}:Xn (some v) h=.ok v h:=nr rfl
@[go_sem] theorem au3 {n:Option Nat} {l:List Value} {off:Nat}:Sa (some false) n l off h=Xn l[off]? h:=by
 show (match l[off]? with | some v=>KO.ok v h | none=>.no)=_
 cases l[off]? <;> rfl
@[go_sem] theorem au4 {s:TypeId} {f:Nat} {l:List Value}:Cg P s (.agg (List.toArray l)) f h=Xm P (Gm P s f) l h:=by
 unfold Cg Gm
 cases hu:P.underlying s with
 | none=>rfl
 | some d=>
  cases d with
  | struct fs=>
   simp only
   cases rF fs.toList f with
   | none=>rfl
   | some f1=>
    simp only [Xm,Cp,Sa]
    cases gg P f1.type with
    | none=>rfl
    | some a=>
     cases a
     ·simp only [yP]
      cases l[f1.offset]? <;> rfl
     ·simp only [IP,IN]
      cases dm P f1.type <;> rfl
  | _=>rfl
noncomputable def iF (P:Program) (t:TypeId):Option (TypeId × Nat):=match P.underlying t with
 | some (.slice e)=>match dm P e with
  | some s=>some (e,s)
  | none=>none
 | _=>none
def Xo (q:Option (TypeId × Nat)) (b o n:Nat) (i:Int) (h:KH):KO:=match q with
 | some (_,s)=>if 0<=i/\i.toNat < n then .ok (.pointer (some ⟨b,o+i.toNat * s,none⟩)) h else .no
 | none=>.no
@[go_sem] theorem ato {e:TypeId} {s b o n:Nat} {i:Int}:Xo (some (e,s)) b o n i h=if 0<=i/\i.toNat < n then .ok (.pointer (some ⟨b,o+i.toNat * s,none⟩)) h else .no:=nr rfl
@[go_sem] theorem atp {t:TypeId} {b o n c:Nat} {k:IntKind} {i:Int} (he:(iF P t).isSome=true):
  BY P t (.slice (some ⟨b,o,none⟩) n c) (.int k i) h=Xo (iF P t) b o n i h:=by
 unfold iF at he ⊢
 unfold BY
 cases hu:P.underlying t with
 | none=>rw [hu] at he;cases he
 | some d=>
  rw [hu] at he
  cases d with
  | slice e=>
   simp only at he ⊢
   cases hs:dm P e with
   | none=>rw [hs] at he;cases he
   | some s=>
    simp only [Xo]
    cases i with
    | ofNat j=>
     simp only
     rw [blt_eq]
     by_cases hj:j < n
     ·simp [hj,hs]
     ·simp [hj,hs]
    | negSucc j=>
     simp only
     rw [if_neg (by intro h;have:=h.1;simp at this)]
  | _=>cases he
def leA (q:Option (TypeId × Nat)) (n:Nat) (h:KH):KO:=match q with
 | some _=>.ok (.int .i64 ((n:Nat):Int)) h
 | none=>.no
@[go_sem] theorem atq {q:TypeId × Nat} {n:Nat}:leA (some q) n h=.ok (.int .i64 ((n:Nat):Int)) h:=nr rfl
@[go_sem] theorem asP {t:TypeId} {a:Option Addr} {n c:Nat} (he:(iF P t).isSome=true):x4 P t (.slice a n c) h=leA (iF P t) n h:=by
 unfold iF at he ⊢
 unfold x4
 cases hu:P.underlying t with
 | none=>rw [hu] at he;cases he
 | some d=>
  rw [hu] at he
  cases d with
  | slice e=>
   simp only at he ⊢
   cases hs:dm P e with
   | none=>rw [hs] at he;cases he
   | some s=>rfl
  | _=>cases he
@[go_sem] theorem afA {t:TypeId} {s:ByteArray} (hu:P.underlying t=some .string):x4 P t (.string s) h=.ok (.int .i64 ((s.data.toList.length:Nat):Int)) h:=by
 unfold x4;rw [hu];simp [yQ]
@[go_sem] theorem awd {l:List Value} {i:Nat}:Ca (.tuple (List.toArray l)) i h=Xn l[i]? h:=by
 simp only [Ca,yP]
 cases l[i]? <;> rfl
attribute [go_sem] Option.isSome_some Int.natCast_nonneg Int.toNat_natCast
theorem bU {f:FuncId} {fn:Func} {cap:List Value} {args:List Value} (hf:P.funcs[f]?=some fn) (hn:decide (fn.name= "runtime.NumGoroutine")=false) (hb:fn.body.isNone=false):
  xS P (.func (.func f) #[] (List.toArray cap)) (List.toArray args)=.call f (List.toArray (args++cap)):=by
 simp only [xS,hf,hn,hb,Bool.or_self,cond_false]
 simp
end apa
def okA (v:Option Value) (H:ad):AO:=match v with
 | some v=>.ok v H
 | none=>.no
@[go_sem] theorem atr {v:Value}:okA (some v) H=.ok v H:=nr rfl
@[go_sem] theorem au5 {t:TypeId} {b o:Nat}:tU P t (.pointer (some ⟨b,o,none⟩)) H=okA (vi P t o (H.get b)) H:=by
 show (match vi P t o (H.get b) with | some v=>AO.ok v H | none=>.no)=_
 cases vi P t o (H.get b) <;> rfl
def Q7 (a:Option Bool) (n:Option Nat) (cs:List Value) (o:Nat):Option Value:=match a with
 | some true=>(match n with
  | some n=>if o+n<=cs.length then some (.agg ((cs.drop o).take n).toArray) else none
  | none=>none)
 | some false=>cs[o]?
 | none=>none
@[go_sem] theorem asQ {t:TypeId} {o:Nat} {B:cO}:vi P t o (some B)=Q7 (gg P t) (dm P t) B.cells o:=by
 unfold vi Q7;rfl
@[go_sem] theorem au6 {n:Option Nat} {cs:List Value} {o:Nat}:Q7 (some false) n cs o=cs[o]?:=nr rfl
@[go_sem] theorem au7 {n:Nat} {cs:List Value} {o:Nat}:Q7 (some true) (some n) cs o=if o+n<=cs.length then some (.agg ((cs.drop o).take n).toArray) else none:=nr rfl
noncomputable def Xp (n:Option Nat) (x:List Value) (B:Option cO) (b o:Nat) (H:ad):AO:=match n,B with
 | some n,some B=>if x.length=n/\o+n<=B.cells.length/\lC x=true/\B.ro=false then .ok undef (H.ai b ⟨cY B.cells o x,B.elem,B.iD,false⟩) else .no
 | _,_=>.no
@[go_sem] theorem ats {t:TypeId} {b o:Nat} {x:Value}:Ci P t (.pointer (some ⟨b,o,none⟩)) x H=Xp (dm P t) x.cells.toList (H.get b) b o H:=by
 unfold Ci Xp
 simp only
 cases dm P t with
 | none=>rfl
 | some n=>
  simp only [sT]
  cases H.get b with
  | none=>simp
  | some B=>
   simp only
   by_cases h1:x.cells.toList.length=n
   ·subst h1;simp
   ·rw [if_neg h1,if_neg (fun h=>h1 h.1)]
@[go_sem] theorem att {n:Nat} {x:List Value} {B:cO} {b o:Nat}:Xp (some n) x (some B) b o H=if x.length=n/\o+n<=B.cells.length/\lC x=true/\B.ro=false then .ok undef (H.ai b ⟨cY B.cells o x,B.elem,B.iD,false⟩) else .no:=nr rfl
@[go_sem] theorem atu:lC []=true:=nr rfl
@[go_sem] theorem asR {v:Value} {l:List Value}:lC (v::l)=(Ba v&&lC l):=by
 rw [Px];cases Ba v <;> rfl
@[go_sem] theorem au8 {k:IntKind} {n:Int}:Ba (.int k n)=true:=nr rfl
@[go_sem] theorem atv {b:Bool}:Ba (.bool b)=true:=nr rfl
@[go_sem] theorem ast {s:ByteArray}:Ba (.string s)=true:=nr rfl
@[go_sem] theorem asS {a:Option Addr} {n c:Nat}:Ba (.slice a n c)=true:=nr rfl
attribute [go_sem] List.length_cons List.length_nil List.drop_succ_cons List.drop_zero List.take_succ_cons List.take_zero List.take_nil Nat.zero_add Nat.reduceAdd Nat.reduceLeDiff if_true if_false true_and and_true and_self Bool.and_self Nat.le_refl List.set_cons_zero List.set_cons_succ
@[go_sem] theorem fL {cs:List Value} {o:Nat} {v:Value} (h:o < cs.length):cY cs o [v]=cs.set o v:=by
 unfold cY
 rw [List.set_eq_take_append_cons_drop,if_pos h];rfl
@[go_sem] theorem aaM {B C:cO}:(H.push B).ai H.next C=H.push C:=by
 unfold ad.push ad.ai
 congr 1
 funext x
 by_cases h:x=H.next
 ·simp [h]
 ·simp [h]
@[go_sem] theorem aZ {B:cO} {b:Nat}:(H.push B).get b=if b=H.next then some B else H.get b:=nr rfl
@[go_sem] theorem aH {B:cO} {b c:Nat}:(H.ai c B).get b=if b=c then some B else H.get b:=nr rfl
@[go_sem] theorem xO {B:cO} {b c:Nat}:(H.grow c B).get b=if b=H.next then some B else if b=c then none else H.get b:=nr rfl
@[go_sem] theorem bG {b:Nat} {fz:Nat->Bool}:(H.af fz).get b=H.get b:=nr rfl
@[go_sem] theorem bI {B:cO}:(H.push B).next=H.next+1:=nr rfl
@[go_sem] theorem uT {B:cO} {c:Nat}:(H.ai c B).next=H.next:=nr rfl
@[go_sem] theorem af5 {B:cO} {c:Nat}:(H.grow c B).next=H.next+1:=nr rfl
@[go_sem] theorem BZ {fz:Nat->Bool}:(H.af fz).next=H.next:=nr rfl
@[go_sem] theorem rv {B:cO} {b:Nat}:(H.push B).fz b=(b==H.next||H.fz b):=nr rfl
@[go_sem] theorem ahJ {B:cO} {b c:Nat}:(H.grow c B).fz b=(b==H.next||H.fz b):=nr rfl
@[go_sem] theorem au9 {b:Nat} {fz:Nat->Bool}:(H.af fz).fz b=fz b:=nr rfl
noncomputable def Xq (z:Option (List Value)) (t:TypeId) (H:ad):AO:=match z with
 | some z=>.ok (.pointer (some ⟨H.next,0,none⟩)) (H.push ⟨z,t,false,false⟩)
 | none=>.no
@[go_sem] theorem atw {t:TypeId}:DJ P t H=Xq (fx P t) t H:=by
 unfold DJ Xq
 cases fx P t <;> rfl
@[go_sem] theorem atx {z:List Value} {t:TypeId}:Xq (some z) t H=.ok (.pointer (some ⟨H.next,0,none⟩)) (H.push ⟨z,t,false,false⟩):=nr rfl
@[go_sem] theorem ava {cs:List Value} {t:TypeId}:s0 cs t false ptrTo H=.ok (.pointer (some ⟨H.next,0,none⟩)) (H.push ⟨cs,t,false,false⟩):=nr rfl
@[go_sem] theorem asu {o:Nat} {vs:List Value}:cY [] o vs=vs:=by simp [cY]
@[go_sem] theorem aty {a:Value} {cs vs:List Value}:cY (a::cs) 0 vs=vs++(a::cs).drop vs.length:=by simp [cY]
@[go_sem] theorem atz {a:Value} {cs vs:List Value} {o:Nat}:cY (a::cs) (o+1) vs=a::cY cs o vs:=by simp [cY,Nat.add_right_comm]
attribute [go_sem] List.cons_append List.nil_append List.append_nil
noncomputable def xh (P:Program) (t:TypeId):Option (List (Nat × Nat)):=match P.underlying t with
 | some (.struct fs)=>LU P fs.toList
 | _=>none
noncomputable def Xr (q:Option (Nat × Nat)) (vs:List Value) (k:List Value->Option (List Value)) (cs:List Value):Option (List Value):=match q with
 | some (off,size)=>if vs.length=size/\off+size<=cs.length then k (cY cs off vs) else none
 | none=>none
@[go_sem] theorem atA {off size:Nat} {vs:List Value} {k:List Value->Option (List Value)} {cs:List Value}:Xr (some (off,size)) vs k cs=if vs.length=size/\off+size<=cs.length then k (cY cs off vs) else none:=nr rfl
noncomputable def Mq (pl:List (Nat × Nat)) (ps:List (Nat × Value)) (cs:List Value):Option (List Value):=Co (fun i=>rF pl i) ps cs
@[go_sem] theorem atB {pl:List (Nat × Nat)} {cs:List Value}:Mq pl [] cs=some cs:=nr rfl
@[go_sem] theorem asT {pl:List (Nat × Nat)} {p:Nat × Value} {ps:List (Nat × Value)} {cs:List Value}:Mq pl (p::ps) cs=Xr pl[p.1]? p.2.cells.toList (Mq pl ps) cs:=by
 show (match rF pl p.1 with
  | some (off,size)=>bif Nat.beq (ll p.2.cells.toList) size&&Nat.ble (off+size) (ll cs) then Co (fun i=>rF pl i) ps (IX cs off p.2.cells.toList) else none
  | none=>none)=_
 rw [yP]
 cases pl[p.1]? with
 | none=>rfl
 | some q=>
  obtain ⟨off,size⟩:=q
  simp only [Xr,beq_eq,ble_eq,yQ,TQ]
  by_cases h:p.2.cells.toList.length=size/\off+size<=cs.length
  ·rw [if_pos h];simp only [h.1,h.2,decide_true,Bool.and_self,cond_true];rw [<-h.1];rfl
  ·rw [if_neg h]
   cases hc:decide (p.2.cells.toList.length=size)&&decide (off+size<=cs.length)
   ·rfl
   ·rw [Bool.and_eq_true,decide_eq_true_eq,decide_eq_true_eq] at hc;exact absurd hc h
noncomputable def Sb (z:Option (List Value)) (pl:Option (List (Nat × Nat))) (ps:List (Nat × Value)) (h:KH):KO:=match z,pl with
 | some z,some pl=>(match Mq pl ps z with
  | some cs=>.ok (.agg cs.toArray) h
  | none=>.no)
 | _,_=>.no
def Xs (cs:Option (List Value)) (h:KH):KO:=match cs with
 | some cs=>.ok (.agg cs.toArray) h
 | none=>.no
@[go_sem] theorem atC {cs:List Value} {h:KH}:Xs (some cs) h=.ok (.agg cs.toArray) h:=nr rfl
@[go_sem] theorem atD {z:List Value} {pl:List (Nat × Nat)} {ps:List (Nat × Value)} {h:KH}:Sb (some z) (some pl) ps h=Xs (Mq pl ps z) h:=by
 simp only [Sb,Xs]
@[go_sem] theorem atE {t:TypeId} {ps:List (Nat × Value)} {h:KH} (hp:(xh P t).isSome=true):iA P t ps h=Sb (fx P t) (xh P t) ps h:=by
 unfold xh at hp ⊢
 unfold iA Sb
 cases hu:P.underlying t with
 | none=>rw [hu] at hp;cases hp
 | some d=>
  rw [hu] at hp
  cases d with
  | struct fs=>
   simp only at hp ⊢
   cases fx P t with
   | none=>rfl
   | some z=>
    simp only
    cases LU P fs.toList with
    | none=>rfl
    | some pl=>rfl
  | _=>cases hp
section told
@[go_sem] theorem atF {k:Nat} {acc:List (Nat × Rec)} {ob:nv} {H H':ad}:vj [] k acc ob H H'=True:=nr rfl
@[go_sem] theorem asU {p:Nat × Nat} {tb:List (Nat × Nat)} {k:Nat} {acc:List (Nat × Rec)} {ob:nv} {H H':ad}:vj (p::tb) k acc ob H H'=((if p.2=k then MV (look acc p.1) ob H H' else True)/\vj tb k acc ob H H'):=nr rfl
@[go_sem] theorem atG {i:Nat}:told [] i=false:=nr rfl
@[go_sem] theorem asV {p:Nat × Nat} {tb:List (Nat × Nat)} {i:Nat}:told (p::tb) i=(p.1==i||told tb i):=nr rfl
@[go_sem] theorem atH {i:Nat}:look [] i=none:=nr rfl
@[go_sem] theorem asW {p:Nat × Rec} {acc:List (Nat × Rec)} {i:Nat}:look (p::acc) i=if p.1=i then some p.2 else look acc i:=nr rfl
@[go_sem] theorem asX {ob:nv} {H H':ad}:MV none ob H H'=True:=nr rfl
@[go_sem] theorem asY {r:Rec} {ob:nv} {H H':ad}:MV (some r) ob H H'=(zh ob r.h r.h'/\zh r.ob H H'/\Q4 r.nw H H'):=nr rfl
@[go_sem] theorem asZ {H H':ad}:zh none H H'=True:=nr rfl
@[go_sem] theorem as1 {b:Nat} {π:Option cO->Option Value} {H H':ad}:zh (some (b,π)) H H'=(π (H'.get b)=π (H.get b)):=nr rfl
@[go_sem] theorem as2 {H H':ad}:Q4 none H H'=True:=nr rfl
@[go_sem] theorem as3 {a:Nat} {H H':ad}:Q4 (some a) H H'=(H'.get a=H.get a):=nr rfl
noncomputable def adS (P:Program) (t:TypeId) (v:Value):nv:=match v with
 | .pointer (some ⟨b,o,none⟩)=>some (b,vi P t o)
 | _=>none
@[go_sem] theorem atI {ev:Operand->Value} {t:TypeId} {a:Operand}:mC P ev (.load t a)=adS P t (ev a):=nr rfl
@[go_sem] theorem atJ {t:TypeId} {b o:Nat}:adS P t (.pointer (some ⟨b,o,none⟩))=some (b,vi P t o):=nr rfl
@[go_sem] theorem atK {ev:Operand->Value} {c:Call}:mC P ev (.call c)=none:=nr rfl
@[go_sem] theorem as4 {ev:Operand->Value} {t:TypeId} {a x:Operand}:mC P ev (.store t a x)=none:=nr rfl
@[go_sem] theorem awe {ev:Operand->Value} {t:TypeId} {n:Nat} {l:Array (Nat × Operand)}:mC P ev (.buildSlice t n l)=none:=nr rfl
@[go_sem] theorem asv {t:TypeId} {a:Operand}:wF P (.load t a) H=none:=nr (by unfold wF;rw [if_neg (by simp [kt])])
@[go_sem] theorem asw {c:Call}:wF P (.call c) H=none:=nr (by
 unfold wF;rw [if_neg]
 simp only [kt]
 split <;> decide)
@[go_sem] theorem atL {t:TypeId} {n:Nat} {l:Array (Nat × Operand)}:wF P (.buildSlice t n l) H=some H.next:=nr (by unfold wF;rw [if_pos (by simp [kt])])
attribute [go_sem] Nat.reduceBEq Bool.or_false Bool.false_or Bool.or_true Bool.true_or Bool.false_eq_true and_true true_and
end told
section res
variable {K:Value->ad->Prop}
@[go_sem] theorem atM {rs:List ResultVar}:cm P rs K .ret E H=CA P rs E H K:=nr rfl
@[go_sem] theorem asa {rs:List ResultVar}:cm P rs K .normal E H=CA P rs E H K:=nr rfl
noncomputable def zk (P:Program) (rs:List ResultVar) (E:Env) (H:ad) (k:List Value->Prop):Prop:=match rs with
 | []=>k []
 | .tmp t::rs=>zk P rs E H (fun l=>k (E t::l))
 | .cell a t::rs=>match tU P t (E a) H with
  | .ok v _=>zk P rs E H (fun l=>k (v::l))
  | _=>False
theorem Up:∀(rs:List ResultVar) (k:List Value->Prop),zk P rs E H k=match x7 P rs E H with
  | some l=>k l
  | none=>False
 | [],k=>rfl
 | .tmp t::rs,k=>by
  rw [zk,Up rs,x7]
  cases x7 P rs E H <;> rfl
 | .cell a t::rs,k=>by
  rw [zk,x7]
  cases h:tU P t (E a) H with
  | ok v H1=>
   simp only
   rw [Up rs]
   cases x7 P rs E H <;> simp only [h]
  | call f args=>simp only;cases x7 P rs E H <;> simp only [h]
  | no=>simp only;cases x7 P rs E H <;> simp only [h]
@[go_sem] theorem avb {rs:List ResultVar}:CA P rs E H K=zk P rs E H (fun l=>K (J6 l) H):=by rw [Up];rfl
@[go_sem] theorem atN {k:List Value->Prop}:zk P [] E H k=k []:=nr rfl
@[go_sem] theorem atO {t:Nat} {rs:List ResultVar} {k:List Value->Prop}:zk P (.tmp t::rs) E H k=zk P rs E H (fun l=>k (E t::l)):=nr rfl
def Q8 (r:AO) (k:Value->Prop):Prop:=match r with
 | .ok v _=>k v
 | _=>False
@[congr] theorem asy {r r':AO} {k:Value->Prop} (h:r=r'):Q8 r k=Q8 r' k:=by rw [h]
@[go_sem] theorem avc {v:Value} {k:Value->Prop}:Q8 (.ok v H) k=k v:=nr rfl
@[go_sem] theorem as5 {a:Nat} {t:TypeId} {rs:List ResultVar} {k:List Value->Prop}:zk P (.cell a t::rs) E H k=Q8 (tU P t (E a) H) (fun v=>zk P rs E H (fun l=>k (v::l))):=nr rfl
@[go_sem] theorem avd {v:Value}:J6 [v]=v:=nr rfl
@[go_sem] theorem ave {v w:Value} {l:List Value}:J6 (v::w::l)=.tuple (v::w::l).toArray:=nr rfl
end res
theorem PS {ev:Operand->Value} {op:Op} {K K':Value->ad->Prop} (hk:∀v H,K v H->K' v H) (h:ia P X ev op H K):ia P X ev op H K':=by
 unfold ia at h ⊢
 split
 ·rename_i v H' he;rw [he] at h;exact ⟨h.1,hk _ _ h.2⟩
 ·rename_i f args he;rw [he] at h;exact h.mono fun v H' _ hh=>hk v H' hh
 ·rename_i he;rw [he] at h;exact h
theorem PC {ds:List (Option Nat)}:∀{l:List Oper} {E:Env} {H:ad} {K K':Env->ad->Prop},(∀E H,K E H->K' E H)->lZ P X ds l E H K->lZ P X ds l E H K'
 | [],E,H,K,K',hk,h=>hk E H h
 | o::l,E,H,K,K',hk,h=>by
  rw [lZ] at h ⊢
  split
  ·rename_i hw;rw [if_pos hw] at h;exact PS (fun v H h=>PC hk h) h
  ·rename_i hw;rw [if_neg hw] at h;exact PC hk h
theorem Py {tb:List (Nat × Nat)} {ds:List (Option Nat)}:∀{l:List Oper} {k:Nat} {acc:List (Nat × Rec)} {E:Env} {H:ad} {K K':Env->ad->Prop},(∀E H,K E H->K' E H)->ju P X tb ds l k acc E H K->ju P X tb ds l k acc E H K'
 | [],k,acc,E,H,K,K',hk,h=>hk E H h
 | o::l,k,acc,E,H,K,K',hk,h=>by
  rw [ju] at h ⊢
  split
  ·rename_i hw;rw [if_pos hw] at h;exact PS (fun v H h=>⟨h.1,Py hk h.2⟩) h
  ·rename_i hw;rw [if_neg hw] at h;exact Py hk h
theorem Ud {step:Env->ad->(Exit->Env->ad->Prop)->Prop} (hs:∀E H Q Q',(∀e E H,Q e E H->Q' e E H)->step E H Q->step E H Q'):∀{n:Nat} {E:Env} {H:ad} {Q Q':Exit->Env->ad->Prop},(∀e E H,Q e E H->Q' e E H)->qQ step n E H Q->qQ step n E H Q'
 | 0,E,H,Q,Q',hq,h=>h
 | n+1,E,H,Q,Q',hq,h=>by
  rw [qQ] at h ⊢
  refine hs E H _ _ (fun e E H h=>?_) h
  cases e with
  | normal=>exact Ud hs hq h
  | _=>exact hq _ _ _ h
theorem Uq:∀{c:Code} {E:Env} {H:ad} {Q Q':Exit->Env->ad->Prop},(∀e E H,Q e E H->Q' e E H)->wC P X T c E H Q->wC P X T c E H Q':=by
 intro c
 induction c with
 | skip=>intro E H Q Q' hq h;exact hq _ _ _ h
 | label l=>intro E H Q Q' hq h;exact hq _ _ _ h
 | exit id=>intro E H Q Q' hq h;exact hq _ _ _ h
 | ret=>intro E H Q Q' hq h;exact hq _ _ _ h
 | region id ops draw=>
  intro E H Q Q' hq h
  cases draw
  ·exact PC (hq .normal) h
  ·exact Py (hq .normal) h
 | seq a b fJ nH=>
  intro E H Q Q' hq h
  rw [wC] at h ⊢
  refine fJ (fun e E H h=>?_) h
  cases e with
  | normal=>exact nH hq h
  | _=>exact hq _ _ _ h
 | cond x a b fJ nH=>
  intro E H Q Q' hq h
  rw [wC] at h ⊢
  unfold Cz at h ⊢
  split
  ·rename_i v hv
   rw [hv] at h
   simp only at h
   split
   ·rename_i hb;rw [if_pos hb] at h;exact fJ hq h
   ·rename_i hb;rw [if_neg hb] at h;exact nH hq h
  ·rename_i hv
   split at h
   ·rename_i v jm;exact (hv _ jm).elim
   ·exact h
 | block id a fJ=>
  intro E H Q Q' hq h
  rw [wC] at h ⊢
  refine fJ (fun e E H h=>?_) h
  cases e with
  | exit i=>
   simp only [wO] at h ⊢
   split
   ·rename_i he;rw [if_pos he] at h;exact hq _ _ _ h
   ·rename_i he;rw [if_neg he] at h;exact hq _ _ _ h
  | _=>exact hq _ _ _ h
 | loop a fJ=>
  intro E H Q Q' hq h
  rw [wC] at h ⊢
  obtain ⟨n,h⟩:=h
  exact ⟨n,Ud (step:=wC P X T a) (fun E H Q Q'=>fJ) hq h⟩
 | rangeFunc f ps x y=>intro E H Q Q' hq h;cases h
 | scope b=>intro E H Q Q' hq h;cases h
 | goto l=>intro E H Q Q' hq h;cases h
 | refuse w=>intro E H Q Q' hq h;cases h
theorem aiH {a:Code} (I:Nat->Env->ad->Prop) {n:Nat} (h0:I n E H) (hr:∀n E H,I n E H->wC P X T a E H (pX (fun E' H'=>∃m,m < n/\I m E' H') Q)):wC P X T (.loop a) E H Q:=by
 rw [wC]
 refine ⟨n+1,?_⟩
 have key:∀k n E H,n < k->I n E H->qQ (wC P X T a) k E H Q:=by
  intro k
  induction k with
  | zero=>intro n E H hn;omega
  | succ k ih=>
   intro n E H hn hI
   rw [qQ]
   refine Uq (fun e E' H' h=>?_) (hr n E H hI)
   cases e with
   | normal=>
    obtain ⟨m,hm,h⟩:=h
    exact ih m E' H' (by omega) h
   | _=>exact h
 exact key (n+1) n E H (by omega) h0
end
end Go.Proofs.YtebibeaobhcfkaaGreat.Ab
namespace Go.Proofs.YtebibeaobhcfkaaGreat.Ab
open Go Classical
structure DU where
 a:Option Addr
 cells:List Value
 ty:TypeId
def Cs (tb:List DU):cg:=fun i=>(tb[i]?).bind fun r=>r.a.map fun a=>⟨a.block,a.off,0,true⟩
def Jb (tb:List DU):ad:=⟨tb.length,fun i=>(tb[i]?).bind fun r=>if r.cells=[] then none else some ⟨r.cells,r.ty,false,true⟩,fun i=>decide (i < tb.length)⟩
def InOk (tb:List DU) (w:World):Prop:=∀(i:Nat) (r:DU) (a:Addr),tb[i]?=some r->r.a=some a->a.spot=none/\a.block < w.heap.size/\∀j,j < r.cells.length->∃v',w.cell? (a.add j)=some v'/\VR (Cs tb) (r.cells.getD j undef) v'
theorem afg (tb:List DU):bY (Jb tb):=by
 refine ⟨fun b hb=>?_,fun b hb=>by simpa [Jb] using hb⟩
 have:tb.length<=b:=hb
 simp [Jb,List.getElem?_eq_none this]
theorem Z3 {w:World} {a:Addr} {v:Value} (h:w.cell? a=some v):∃cs e fr,w.heap[a.block]?=some (.cells cs e fr)/\cs[a.off]?=some v:=by
 unfold World.cell? at h
 split at h
 ·rename_i cs e fr hb
  split at h
  ·cases h
  ·exact ⟨cs,e,fr,hb,h⟩
 ·cases h
theorem aal {a:Addr} (h:a.spot=none) (j:Nat):a.add j=⟨a.block,a.off+j,none⟩:=by
 obtain ⟨b,o,s⟩:=a
 subst h
 exact AH b o j
theorem Qp {tb:List DU} {b:Nat} {l:Loc} (hs:Cs tb b=some l):∃r a,tb[b]?=some r/\r.a=some a/\l=⟨a.block,a.off,0,true⟩:=by
 unfold Cs at hs
 cases hr:tb[b]? with
 | none=>rw [hr] at hs;cases hs
 | some r=>
  rw [hr] at hs
  simp only [Option.bind_some] at hs
  cases ha:r.a with
  | none=>rw [ha] at hs;cases hs
  | some a=>rw [ha] at hs;cases hs;exact ⟨r,a,rfl,ha,rfl⟩
theorem aiI (P:Program) {tb:List DU} {w:World} (h:InOk tb w):Rel P (Cs tb) eg (Jb tb).get w:=by
 have ro:∀b l,Cs tb b=some l->l.ro=true:=fun b l hs=>(Qp hs).elim fun r h=>h.elim fun a h=>h.2.2▸rfl
 refine ⟨fun b l B _ hs hg=>?_,fun b b' l l' _ _ hs _ _ _ ho=>?_,fun b b' l l' _ hs _ _ ho=>?_,fun b l hs _=>?_⟩
 ·obtain ⟨r,a,hr,ha,rfl⟩:=Qp hs
  simp only [Jb,hr,Option.bind_some] at hg
  split at hg
  ·cases hg
  ·rename_i dd
   cases hg
   obtain ⟨fR,bf,hc⟩:=h b r a hr ha
   have oR:0 < r.cells.length:=List.length_pos_iff.2 dd
   have fG:∀cs e fr,w.heap[a.block]?=some (.cells cs e fr)->∀j,j < r.cells.length->a.off+j < cs.size/\VR (Cs tb) (r.cells.getD j undef) (cs.getD (a.off+j) undef):=fun cs e fr hb j hj=>by
    obtain ⟨v',hv,Bk⟩:=hc j hj
    rw [aal fR] at hv
    obtain ⟨gi,e',fr',dX,EB⟩:=Z3 hv
    simp only at dX EB
    rw [hb] at dX
    cases dX
    obtain ⟨h1,h2⟩:=Array.getElem?_eq_some_iff.1 EB
    refine ⟨h1,?_⟩
    have:cs.getD (a.off+j) undef=v':=by simp [Array.getD,h1,h2]
    rw [this];exact Bk
   obtain ⟨v',hv,_⟩:=hc 0 oR
   rw [aal fR] at hv
   obtain ⟨cs,e,fr,hb,_⟩:=Z3 hv
   refine ⟨⟨cs,e,fr,hb,?_,fun i hi=>(fG cs e fr hb i hi).2,fun hl=>by cases hl⟩,fun _=>rfl,fun hl=>by cases hl⟩
   have:=(fG cs e fr hb (r.cells.length - 1) (by omega)).1
   show a.off+r.cells.length<=cs.size
   omega
 ·rw [ro b l hs] at ho;cases ho
 ·rw [ro b l hs] at ho;cases ho
 ·obtain ⟨r,a,hr,ha,rfl⟩:=Qp hs
  exact (h b r a hr ha).2.1
theorem law_calls {P:Program} {f:FuncId} {vs vs':List Value} {tb:List DU} {W:World} (fH:InOk tb W) (AY:VL (Cs tb) vs vs')
  (h:aj P f vs.toArray (Jb tb) fun v _=>v=.bool true):Calls P f vs'.toArray W fun e W'=>e=.returned (.bool true)/\Go.RowKit.Below W.heap.size W W':=by
 obtain ⟨v,H',dB,zZ,_,rfl⟩:=h (afg tb)
 refine (zZ (Cs tb) W vs'.toArray (aiI P fH) (fun b hb=>?_) AY.yj).mono ?_
 ·have h1:tb.length<=b:=hb.1
  simp [Cs,List.getElem?_eq_none h1]
 ·rintro e W' ⟨σ',v',rfl,hp,hv⟩
  rw [hv.bool]
  refine ⟨rfl,hp.rest.1,hp.rest.2.1,hp.rest.2.2,hp.size,fun k hk=>hp.ae k hk ?_⟩
  rintro ⟨b,l,_,hs,_,ho,_⟩
  obtain ⟨r,a,_,_,rfl⟩:=Qp hs
  cases ho
structure Rp (α:Type) where
 sz:Nat
 pos:0 < sz
 E:ad->List Value->α->List Nat->Prop
 len:∀{H cs x f},E H cs x f->cs.length=sz
 ae:∀{H H' cs x f},E H cs x f->(∀b∈f,H'.get b=H.get b)->E H' cs x f
def Rp.int:Rp Int:=⟨1,by decide,fun _ cs x f=>cs=[.int .i64 x]/\f=[],fun h=>by rw [h.1];rfl,fun h _=>h⟩
def Rp.bool:Rp Bool:=⟨1,by decide,fun _ cs x f=>cs=[.bool x]/\f=[],fun h=>by rw [h.1];rfl,fun h _=>h⟩
def Rp.str:Rp (List UInt8):=⟨1,by decide,fun _ cs x f=>cs=[.string ⟨x.toArray⟩]/\f=[],fun h=>by rw [h.1];rfl,fun h _=>h⟩
def dT {α:Type} (r:Rp α) (H:ad):List Value->List α->List Nat->Prop
 | cs,[],f=>f=[]
 | cs,x::l,f=>∃c gi f1 f2,cs=c++gi/\f=f1++f2/\r.E H c x f1/\dT r H gi l f2
theorem dT.len {α:Type} {r:Rp α} {H:ad}:∀{cs:List Value} {l:List α} {f:List Nat},dT r H cs l f->l.length * r.sz<=cs.length
 | cs,[],f,h=>by simp
 | cs,x::l,f,h=>by
  obtain ⟨c,gi,f1,f2,rfl,_,h1,h2⟩:=h
  have e1:=r.len h1
  have e2:=dT.len h2
  rw [List.length_cons,Nat.add_mul,List.length_append];omega
theorem dT.ae {α:Type} {r:Rp α} {H H':ad}:∀{cs:List Value} {l:List α} {f:List Nat},dT r H cs l f->(∀b∈f,H'.get b=H.get b)->dT r H' cs l f
 | cs,[],f,h,_=>h
 | cs,x::l,f,h,hk=>by
  obtain ⟨c,gi,f1,f2,rfl,rfl,h1,h2⟩:=h
  exact ⟨c,gi,f1,f2,rfl,rfl,r.ae h1 fun b hb=>hk b (by simp [hb]),h2.ae fun b hb=>hk b (by simp [hb])⟩
theorem dT.more {α:Type} {r:Rp α} {H:ad}:∀{cs:List Value} {l:List α} {f:List Nat} (ds:List Value),dT r H cs l f->dT r H (cs++ds) l f
 | cs,[],f,ds,h=>h
 | cs,x::l,f,ds,h=>by
  obtain ⟨c,gi,f1,f2,rfl,rfl,h1,h2⟩:=h
  exact ⟨c,gi++ds,f1,f2,by simp,rfl,h1,h2.more ds⟩
theorem dT.split {α:Type} {r:Rp α} {H:ad}:∀{l1 l2:List α} {cs:List Value} {f:List Nat},dT r H cs (l1++l2) f->∃c1 c2 f1 f2,cs=c1++c2/\f=f1++f2/\c1.length=l1.length * r.sz/\dT r H c1 l1 f1/\dT r H c2 l2 f2
 | [],l2,cs,f,h=>⟨[],cs,[],f,rfl,rfl,by simp,rfl,h⟩
 | x::l1,l2,cs,f,h=>by
  obtain ⟨c,gi,f1,f2,rfl,rfl,h1,h2⟩:=h
  obtain ⟨c1,c2,g1,g2,rfl,rfl,e,h3,h4⟩:=h2.split
  exact ⟨c++c1,c2,f1++g1,g2,by simp,by simp,by rw [List.length_append,e,r.len h1,List.length_cons,Nat.add_mul];omega,⟨c,c1,f1,g1,rfl,rfl,h1,h3⟩,h4⟩
theorem dT.join {α:Type} {r:Rp α} {H:ad}:∀{l1 l2:List α} {c1 c2:List Value} {f1 f2:List Nat},c1.length=l1.length * r.sz->dT r H c1 l1 f1->dT r H c2 l2 f2->dT r H (c1++c2) (l1++l2) (f1++f2)
 | [],l2,c1,c2,f1,f2,e,h1,h2=>by
  have:c1=[]:=List.length_eq_zero_iff.1 (by simpa using e)
  have h3:f1=[]:=h1
  rw [this,h3];exact h2
 | x::l1,l2,c1,c2,f1,f2,e,h1,h2=>by
  obtain ⟨c,gi,g1,g2,rfl,rfl,h3,h4⟩:=h1
  have e1:=r.len h3
  exact ⟨c,gi++c2,g1,g2++f2,by simp,by simp,h3,h4.join (by rw [List.length_append,List.length_cons,Nat.add_mul] at e;omega) h2⟩
theorem dT.one {α:Type} {r:Rp α} {H:ad} {c:List Value} {x:α} {f:List Nat} (h:r.E H c x f):dT r H c [x] f:=⟨c,[],f,[],by simp,by simp,h,rfl⟩
theorem dT.at {α:Type} {r:Rp α} {H:ad} {cs:List Value} {l:List α} {f:List Nat} (h:dT r H cs l f) {i:Nat} {x:α} (hi:l[i]?=some x):
  ∃f1 f2 f3,f=f1++(f2++f3)/\i * r.sz+r.sz<=cs.length/\r.E H ((cs.drop (i * r.sz)).take r.sz) x f2:=by
 obtain ⟨bf,rfl⟩:=List.getElem?_eq_some_iff.1 hi
 have hl:l=l.take i++(l[i]::l.drop (i+1)):=by simp
 rw [hl] at h
 obtain ⟨c1,c2,f1,f2,rfl,rfl,e,_,h2⟩:=h.split
 have e1:(l.take i).length=i:=by simp;omega
 rw [e1] at e
 obtain ⟨c,gi,g1,g2,rfl,rfl,h3,h4⟩:=h2
 have e2:=r.len h3
 refine ⟨f1,g1,g2,rfl,by simp;omega,?_⟩
 rw [List.drop_append_of_le_length (by omega),<-e,List.drop_length,List.nil_append,List.take_append_of_le_length (by omega),List.take_of_length_le (by omega)]
 exact h3
theorem dT.put {α:Type} {r:Rp α} {H:ad} {cs:List Value} {l:List α} {f:List Nat} (h:dT r H cs l f) {i:Nat} (hi:i < l.length):
  ∃f1 f2 f3,f=f1++(f2++f3)/\i * r.sz+r.sz<=cs.length/\r.E H ((cs.drop (i * r.sz)).take r.sz) l[i] f2/\
   ∀(H':ad) c' y f',(∀b,b∈f1∨b∈f3->H'.get b=H.get b)->r.E H' c' y f'->dT r H' (cY cs (i * r.sz) c') (l.set i y) (f1++(f'++f3)):=by
 have hl:l=l.take i++(l[i]::l.drop (i+1)):=by simp
 rw [hl] at h
 obtain ⟨c1,c2,f1,f2,rfl,rfl,e,h1,h2⟩:=h.split
 have e1:(l.take i).length=i:=by simp;omega
 rw [e1] at e
 obtain ⟨c,gi,g1,g2,rfl,rfl,h3,h4⟩:=h2
 have e2:=r.len h3
 refine ⟨f1,g1,g2,rfl,by simp;omega,?_,fun H' c' y f' hk h'=>?_⟩
 ·rw [List.drop_append_of_le_length (by omega),<-e,List.drop_length,List.nil_append,List.take_append_of_le_length (by omega),List.take_of_length_le (by omega)]
  exact h3
 ·have e3:=r.len h'
  have hs:cY (c1++(c++gi)) (i * r.sz) c'=c1++(c'++gi):=by
   unfold cY
   rw [List.take_append_of_le_length (by omega),List.take_of_length_le (by omega),List.drop_append,List.drop_eq_nil_of_le (by omega),List.nil_append,List.drop_append_of_le_length (by omega),List.drop_eq_nil_of_le (by omega)]
   rfl
  rw [hs,List.set_eq_take_append_cons_drop,if_pos hi]
  exact dT.join (by rw [e1];exact e) (h1.ae fun b hb=>hk b (.inl hb)) ⟨c',gi,f',g2,rfl,rfl,h',h4.ae fun b hb=>hk b (.inr hb)⟩
def Sl {α:Type} (r:Rp α) (H:ad) (v:Value) (l:List α) (f:List Nat):Prop:=
 (v=.slice none 0 0/\l=[]/\f=[])∨(∃a c,v=.slice (some a) 0 c/\l=[]/\f=[])∨
  ∃b o c B g,v=.slice (some ⟨b,o,none⟩) l.length c/\l≠[]/\l.length<=c/\f=b::g/\H.get b=some B/\dT r H (B.cells.drop o) l g
theorem Sl.ae {α:Type} {r:Rp α} {H H':ad} {v:Value} {l:List α} {f:List Nat} (h:Sl r H v l f) (hk:∀b∈f,H'.get b=H.get b):Sl r H' v l f:=by
 rcases h with h | h | ⟨b,o,c,B,g,h1,h2,h3,rfl,h4,h5⟩
 ·exact .inl h
 ·exact .inr (.inl h)
 ·exact .inr (.inr ⟨b,o,c,B,g,h1,h2,h3,rfl,by rw [hk b (by simp)];exact h4,h5.ae fun x hx=>hk x (by simp [hx])⟩)
def Rp.slice {α:Type} (r:Rp α):Rp (List α):=⟨1,by decide,fun H cs l f=>∃v,cs=[v]/\Sl r H v l f,fun ⟨v,h,_⟩=>by rw [h];rfl,fun ⟨v,h,hs⟩ hk=>⟨v,h,hs.ae hk⟩⟩
theorem Sl.val {α:Type} {r:Rp α} {H:ad} {v:Value} {l:List α} {f:List Nat} (h:Sl r H v l f):∃a c,v=.slice a l.length c:=by
 rcases h with ⟨rfl,rfl,_⟩ | ⟨a,c,rfl,rfl,_⟩ | ⟨b,o,c,B,g,rfl,_⟩ <;> exact ⟨_,_,rfl⟩
theorem Sl.at {α:Type} {r:Rp α} {H:ad} {v:Value} {l:List α} {f:List Nat} (h:Sl r H v l f) {i:Nat} {x:α} (hi:l[i]?=some x):
  ∃b o c B g,v=.slice (some ⟨b,o,none⟩) l.length c/\H.get b=some B/\b∈f/\(∀y∈g,y∈f)/\o+i * r.sz+r.sz<=B.cells.length/\r.E H ((B.cells.drop (o+i * r.sz)).take r.sz) x g:=by
 have bf:=(List.getElem?_eq_some_iff.1 hi).1
 rcases h with ⟨_,rfl,_⟩ | ⟨a,c,_,rfl,_⟩ | ⟨b,o,c,B,g,rfl,h2,h3,rfl,h4,h5⟩
 ·simp at bf
 ·simp at bf
 ·obtain ⟨f1,f2,f3,rfl,h6,h7⟩:=h5.at hi
  rw [List.length_drop] at h6
  rw [List.drop_drop] at h7
  exact ⟨b,o,c,B,f2,rfl,h4,by simp,fun y hy=>by simp [hy],by have:=r.pos;omega,h7⟩
theorem Sl.src {α:Type} {r:Rp α} {H:ad} {v:Value} {l:List α} {f:List Nat} (h:Sl r H v l f) {size:Nat} (hs:size=r.sz):∃cs g,qG size v H=some (l.length,cs)/\cs.length=l.length * r.sz/\dT r H cs l g/\(∀y∈g,y∈f):=by
 subst hs
 rcases h with ⟨rfl,rfl,_⟩ | ⟨a,c,rfl,rfl,_⟩ | ⟨b,o,c,B,g,rfl,h2,h3,rfl,h4,h5⟩
 ·exact ⟨[],[],rfl,by simp,rfl,by simp⟩
 ·exact ⟨[],[],rfl,by simp,rfl,by simp⟩
 ·have e:=h5.len
  rw [List.length_drop] at e
  have oR:0 < l.length:=List.length_pos_iff.2 h2
  have h6:0 < l.length * r.sz:=Nat.mul_pos oR r.pos
  have fR:B.cells.drop o=(B.cells.drop o).take (l.length * r.sz)++(B.cells.drop o).drop (l.length * r.sz):=(List.take_append_drop _ _).symm
  have h7:=h5
  rw [<-List.append_nil l] at h7
  obtain ⟨c1,c2,f1,f2,h8,h9,h10,Ky,yp⟩:=h7.split
  have h13:f2=[]:=yp
  refine ⟨(B.cells.drop o).take (l.length * r.sz),g,?_,by simp;omega,?_,fun y hy=>by simp [hy]⟩
  ·simp only [qG]
   rw [if_neg (by omega),h4]
   simp only
   rw [if_pos (by omega)]
  ·rw [h8,List.take_append_of_le_length (by omega),List.take_of_length_le (by omega),h9,h13,List.append_nil]
   exact Ky
section
variable {P:Program} {X:Nat->Bool} {H:ad}
theorem UB {t:TypeId} {x y:Value}:yg P 10000 t x y=(match P.underlying t with
  | some .bool=>Ja x y
  | some (.int _)=>Jw x y
  | some .string=>eqStr x y
  | some (.slice _)=>IY x y
  | some (.pointer _)=>Jx x y
  | some (.struct fs)=>match x,y with
   | .agg xs,.agg ys=>bif P.stoodInHeld t||P.eqGuardType P.depth t then none else PA P (yg P 9999) xs.toList ys.toList fs.toList
   | _,_=>none
  | _=>none):=PI 9999 t x y
@[go_sem] theorem as6 {t:TypeId} {a:Option Addr} {n c:Nat} {h:KH} (he:(iF P t).isSome=true):dS P .eql t (.slice a n c) (.slice none 0 0) h=.ok (.bool a.isNone) h:=by
 unfold iF at he
 simp only [dS,kO,UB]
 cases hu:P.underlying t with
 | none=>rw [hu] at he;cases he
 | some d=>
  rw [hu] at he
  cases d with
  | slice e=>cases a <;> rfl
  | _=>cases he
@[go_sem] theorem as7 {t:TypeId} {a:Option Addr} {n c:Nat} {h:KH} (he:(iF P t).isSome=true):dS P .neq t (.slice a n c) (.slice none 0 0) h=.ok (.bool (!a.isNone)) h:=by
 unfold iF at he
 simp only [dS,kO,UB]
 cases hu:P.underlying t with
 | none=>rw [hu] at he;cases he
 | some d=>
  rw [hu] at he
  cases d with
  | slice e=>cases a <;> rfl
  | _=>cases he
attribute [go_sem] Option.isNone_none Option.isNone_some
noncomputable def iL (P:Program) (t:TypeId):Option (TypeId × Nat × Nat):=match P.underlying t with
 | some (.slice e)=>match P.info? e,fx P e with
  | some i,some z=>bif Nat.beq (ll z) i.size&&Nat.blt 0 i.bytes then some (e,i.size,i.bytes) else none
  | _,_=>none
 | _=>none
theorem AJ {t e:TypeId} {sz dW:Nat} (h:iL P t=some (e,sz,dW)):P.underlying t=some (.slice e)/\∃i z,P.info? e=some i/\fx P e=some z/\z.length=i.size/\0 < i.bytes/\i.size=sz/\i.bytes=dW:=by
 unfold iL at h
 split at h
 ·rename_i e1 hu
  split at h
  ·rename_i i z hi hz
   cases hc:Nat.beq (ll z) i.size&&Nat.blt 0 i.bytes
   ·rw [hc] at h;cases h
   ·rw [hc] at h
    rw [Bool.and_eq_true,beq_eq,blt_eq,decide_eq_true_eq,decide_eq_true_eq,yQ] at hc
    cases h
    exact ⟨hu,i,z,hi,hz,hc.1,hc.2,rfl,rfl⟩
  ·cases h
 ·cases h
theorem LY {t e:TypeId} {sz dW n:Nat} {x:Value} {new:List Value} (ha:iL P t=some (e,sz,dW)) (hs:qG sz x H=some (n,new)) (hn:n * dW < 140737488355328) (h0:0 < n):
  iZ P t (.slice none 0 0) x H=.ok (.slice (some ⟨H.next,0,none⟩) n n) (H.push ⟨new,e,true,false⟩):=by
 obtain ⟨hu,i,z,hi,hz,h1,h2,rfl,rfl⟩:=AJ ha
 have h3:n<=n * i.bytes:=Nat.le_mul_of_pos_right _ h2
 simp only [iZ,hu,hi,hz,hs]
 rw [if_pos ⟨h1,hn,by omega,h2⟩,if_pos (by simp),if_neg (by omega)]
 rfl
theorem aaN {t e:TypeId} {sz dW:Nat} {x:Value} {new:List Value} (ha:iL P t=some (e,sz,dW)) (hs:qG sz x H=some (0,new)):
  iZ P t (.slice none 0 0) x H=.ok (.slice none 0 0) H:=by
 obtain ⟨hu,i,z,hi,hz,h1,h2,rfl,rfl⟩:=AJ ha
 simp only [iZ,hu,hi,hz,hs]
 rw [if_pos ⟨h1,by omega,by omega,h2⟩,if_pos (by simp)]
 rfl
theorem T0 {t e:TypeId} {sz dW n b sl:Nat} {x:Value} {new cs:List Value} (ha:iL P t=some (e,sz,dW)) (hs:qG sz x H=some (n,new)) (hB:H.get b=some ⟨cs,e,true,false⟩) (hl:cs.length=sl * sz)
  (hn:(sl+n) * dW < 140737488355328) (h0:0 < n) (Kz:lC new=true):
  iZ P t (.slice (some ⟨b,0,none⟩) sl sl) x H=.ok (.slice (some ⟨H.next,0,none⟩) (sl+n) (sl+n)) (H.grow b ⟨cs++new,e,true,false⟩):=by
 obtain ⟨hu,i,z,hi,hz,h1,h2,rfl,rfl⟩:=AJ ha
 have h3:sl+n<=(sl+n) * i.bytes:=Nat.le_mul_of_pos_right _ h2
 have h4:n * i.bytes<=(sl+n) * i.bytes:=Nat.mul_le_mul_right _ (by omega)
 have h5:cs.take (sl * i.size)=cs:=List.take_of_length_le (by omega)
 simp only [iZ,hu,hi,hz,hs,hB]
 rw [if_pos ⟨h1,by omega,by omega,h2⟩,if_neg (by omega),if_pos ⟨hn,by omega,by omega,Nat.le_refl _,trivial,trivial⟩,if_pos trivial,if_pos ⟨trivial,Kz⟩,h5]
theorem FF {t e:TypeId} {sz dW n b o sl sc:Nat} {x:Value} {new cs:List Value} (ha:iL P t=some (e,sz,dW)) (hs:qG sz x H=some (n,new)) (hB:H.get b=some ⟨cs,e,false,false⟩) (hl:cs.length=o+sc * sz)
  (ea:sl<=sc) (hn:(sl+n) * dW < 140737488355328) (h0:sc < sl+n):
  iZ P t (.slice (some ⟨b,o,none⟩) sl sc) x H=.ok (.slice (some ⟨H.next,0,none⟩) (sl+n) (sl+n)) (H.push ⟨(cs.drop o).take (sl * sz)++new,e,true,false⟩):=by
 obtain ⟨hu,i,z,hi,hz,h1,h2,rfl,rfl⟩:=AJ ha
 have h3:sl+n<=(sl+n) * i.bytes:=Nat.le_mul_of_pos_right _ h2
 have h4:n * i.bytes<=(sl+n) * i.bytes:=Nat.mul_le_mul_right _ (by omega)
 simp only [iZ,hu,hi,hz,hs,hB]
 rw [if_pos ⟨h1,by omega,by omega,h2⟩,if_neg (by omega),if_pos ⟨hn,by omega,by omega,ea,trivial,trivial⟩,if_neg (by decide)]
 rfl
theorem Mc {t e:TypeId} {sz dW n b o sl sc:Nat} {x:Value} {new:List Value} {B:cO} (ha:iL P t=some (e,sz,dW)) (hs:qG sz x H=some (n,new)) (oX:new.length=n * sz) (hB:H.get b=some B) (vX:B.ro=false) (hl:o+sc * sz<=B.cells.length)
  (hn:n * dW < 140737488355328) (h0:sl+n<=sc) (Kz:lC new=true):
  iZ P t (.slice (some ⟨b,o,none⟩) sl sc) x H=.ok (.slice (some ⟨b,o,none⟩) (sl+n) sc) (H.ai b ⟨cY B.cells (o+sl * sz) new,B.elem,B.iD,false⟩):=by
 obtain ⟨hu,i,z,hi,hz,h1,h2,rfl,rfl⟩:=AJ ha
 have h3:n<=n * i.bytes:=Nat.le_mul_of_pos_right _ h2
 have h5:(sl+n) * i.size<=sc * i.size:=Nat.mul_le_mul_right _ h0
 rw [Nat.add_mul] at h5
 simp only [iZ,hu,hi,hz,hs,hB]
 rw [if_pos ⟨h1,hn,by omega,h2⟩,if_pos h0,if_pos hl]
 simp only [sT,hB]
 rw [if_pos ⟨by omega,Kz,vX⟩]
structure aG (H H':ad):Prop where
 nx:H.next<=H'.next
 get:∀b,b < H.next->H'.get b=H.get b
 ro:∀b B,H'.get b=some B->B.ro=true->H.get b=some B
theorem aG.refl (H:ad):aG H H:=⟨Nat.le_refl _,fun _ _=>rfl,fun _ _ h _=>h⟩
theorem aG.trans {H H1 H2:ad} (h:aG H H1) (h':aG H1 H2):aG H H2:=⟨Nat.le_trans h.nx h'.nx,fun b hb=>(h'.get b (Nat.lt_of_lt_of_le hb h.nx)).trans (h.get b hb),fun b B hb hr=>h.ro b B (h'.ro b B hb hr) hr⟩
theorem aG.push (H:ad) (B:cO) (hB:B.ro=false:=by rfl):aG H (H.push B):=⟨Nat.le_succ _,fun b hb=>bO hb,fun b C hb hr=>by
 rw [aZ] at hb
 split at hb
 ·cases hb;rw [hB] at hr;cases hr
 ·exact hb⟩
theorem aG.ai {H H1:ad} (h:aG H H1) {b:Nat} (hb:H.next<=b) (B:cO) (hB:B.ro=false:=by rfl):aG H (H1.ai b B):=⟨h.nx,fun c hc=>by
 show (if c=b then some B else H1.get c)=_
 rw [if_neg (by omega)];exact h.get c hc,fun c C hc hr=>by
 have hc:(if c=b then some B else H1.get c)=some C:=hc
 split at hc
 ·cases hc;rw [hB] at hr;cases hr
 ·exact h.ro c C hc hr⟩
theorem bY.AZ {H:ad} (h:bY H) {b:Nat} {B:cO} (hb:H.get b=some B):b < H.next:=ad.AZ h.wf hb
theorem aG.free {H H1:ad} (h:aG H H1) (hf:bY H) {b:Nat} (hb:H.next<=b) {B:cO} (hB:H1.get b=some B):B.ro=false:=by
 cases hr:B.ro
 ·rfl
 ·have:=ad.AZ hf.wf (h.ro b B hB hr);omega
theorem bY.fresh {H:ad} (h:bY H) {b:Nat} (hb:H.next<=b):H.fz b=false:=by
 cases hz:H.fz b
 ·rfl
 ·have:=h.fz b hz;omega
def Ow {α:Type} (r:Rp α) (ty:TypeId) (H:ad) (v:Value) (l:List α) (f:List Nat):Prop:=
 (v=.slice none 0 0/\l=[]/\f=[])∨
  ∃b cs g,v=.slice (some ⟨b,0,none⟩) l.length l.length/\l≠[]/\f=b::g/\H.get b=some ⟨cs,ty,true,false⟩/\cs.length=l.length * r.sz/\dT r H cs l g
theorem Ow.nil {α:Type} (r:Rp α) (ty:TypeId) (H:ad):Ow r ty H (.slice none 0 0) [] []:=.inl ⟨rfl,rfl,rfl⟩
theorem Ow.sl {α:Type} {r:Rp α} {ty:TypeId} {H:ad} {v:Value} {l:List α} {f:List Nat} (h:Ow r ty H v l f):Sl r H v l f:=by
 rcases h with h | ⟨b,cs,g,h1,h2,h3,h4,h5,h6⟩
 ·exact .inl h
 ·exact .inr (.inr ⟨b,0,_,_,g,h1,h2,Nat.le_refl _,h3,h4,h6⟩)
theorem Ow.ae {α:Type} {r:Rp α} {ty:TypeId} {H H':ad} {v:Value} {l:List α} {f:List Nat} (h:Ow r ty H v l f) (hk:∀b∈f,H'.get b=H.get b):Ow r ty H' v l f:=by
 rcases h with h | ⟨b,cs,g,h1,h2,rfl,h4,h5,h6⟩
 ·exact .inl h
 ·exact .inr ⟨b,cs,g,h1,h2,rfl,by rw [hk b (by simp)];exact h4,h5,h6.ae fun x hx=>hk x (by simp [hx])⟩
theorem Rp.wG {H:ad} {cs:List Value} {x:Int} {f:List Nat}:Rp.int.E H cs x f↔cs=[.int .i64 x]/\f=[]:=Iff.rfl
theorem Rp.aiJ {H:ad} {cs:List Value} {x:Bool} {f:List Nat}:Rp.bool.E H cs x f↔cs=[.bool x]/\f=[]:=Iff.rfl
theorem AK {t e:TypeId} {sz dW n:Nat} {z:List Value} {ps:List (Nat × Value)} {cs:List Value} (ha:iL P t=some (e,sz,dW)) (hz:fx P e=some z) (hp:0 < sz) (hn:n * sz<=16777216) (hf:Co (fun i=>some (i * sz,sz)) ps (fW z n)=some cs):
  qx P t n ps H=.ok (.slice (some ⟨H.next,0,none⟩) n n) (H.push ⟨cs,e,false,false⟩):=by
 obtain ⟨hu,i,z',hi,N3,h1,h2,rfl,rfl⟩:=AJ ha
 rw [hz] at N3;cases N3
 have hs:dm P e=some i.size:=by unfold dm;rw [hi]
 simp only [qx,hu,hs,hz]
 rw [if_pos ⟨hn,hp,h1⟩,hf]
 rfl
theorem Pz {t e:TypeId} {sz dW:Nat} (ha:iL P t=some (e,sz,dW)) (hp:0 < sz):qx P t 0 [] H=.ok (.slice (some ⟨H.next,0,none⟩) 0 0) (H.push ⟨[],e,false,false⟩):=by
 obtain ⟨hu,i,z,hi,hz,h1,h2,rfl,rfl⟩:=AJ ha
 exact AK ha hz hp (by omega) rfl
theorem I1 {t e:TypeId} {sz dW n c:Nat} {z:List Value} (ha:iL P t=some (e,sz,dW)) (hz:fx P e=some z) (hp:0 < sz) (hn:n<=c) (hc:dW * c<=281474976710656) (w8:c < 9223372036854775808):
  FB P t (.int .i64 ((n:Nat):Int)) (.int .i64 ((c:Nat):Int)) H=.ok (.slice (some ⟨H.next,0,none⟩) n c) (H.push ⟨fW z c,e,false,false⟩):=by
 obtain ⟨hu,i,z',hi,N3,h1,h2,rfl,rfl⟩:=AJ ha
 rw [hz] at N3;cases N3
 show (match P.underlying t,Value.int .i64 (.ofNat n),Value.int .i64 (.ofNat c) with
  | some (.slice e),.int .i64 (.ofNat l),.int .i64 (.ofNat c)=>(match P.info? e,fx P e with
   | some i,some z=>if l<=c/\i.bytes * c<=281474976710656/\0 < i.size/\c < 9223372036854775808/\z.length=i.size then s0 (fW z c) e false (fun b=>.slice (some ⟨b,0,none⟩) l c) H else .no
   | _,_=>.no)
  | _,_,_=>.no)=_
 rw [hu]
 simp only [hi,hz]
 rw [if_pos ⟨hn,hc,hp,w8,h1⟩]
 rfl
theorem T2 {α:Type} {r:Rp α} {z:List Value} {x:α} (hE:r.E H z x []):∀n,dT r H (fW z n) (List.replicate n x) []
 | 0=>rfl
 | n+1=>⟨z,fW z n,[],[],rfl,rfl,hE,T2 hE n⟩
theorem eX {t e:TypeId} {sz dW:Nat} {v:Value} (ha:iL P t=some (e,sz,dW)) (hp:0 < sz) (Xt:sz<=16777216) (hv:v.cells.toList.length=sz):qx P t 1 [(0,v)] H=.ok (.slice (some ⟨H.next,0,none⟩) 1 1) (H.push ⟨v.cells.toList,e,false,false⟩):=by
 obtain ⟨hu,i,z,hi,hz,h1,h2,rfl,rfl⟩:=AJ ha
 refine AK ha hz hp (by omega) ?_
 have e1:fW z 1=z:=by show z++[]=z;simp
 rw [e1]
 show (bif Nat.beq (ll v.cells.toList) i.size&&Nat.ble (0 * i.size+i.size) (ll z) then some (IX z (0 * i.size) v.cells.toList) else none)=_
 have e2:(Nat.beq (ll v.cells.toList) i.size&&Nat.ble (0 * i.size+i.size) (ll z))=true:=by
  rw [Bool.and_eq_true,beq_eq,ble_eq,decide_eq_true_eq,decide_eq_true_eq,yQ,yQ];omega
 rw [e2,cond_true,TQ]
 simp only [Nat.zero_mul,List.take_zero,List.nil_append,Nat.zero_add]
 rw [List.drop_eq_nil_of_le (by omega),List.append_nil]
theorem FI {b c sz:Nat} {B:cO} (hB:H.get b=some B) (hl:B.cells.length=sz):qG sz (.slice (some ⟨b,0,none⟩) 1 c) H=some (1,B.cells):=by
 simp only [qG]
 rw [if_neg (by decide),hB]
 simp only
 rw [if_pos (by omega),List.drop_zero,List.take_of_length_le (by omega)]
theorem tT {n:Nat} (h:n < 9223372036854775808):IntKind.wrap .i64 ((n:Nat):Int)=((n:Nat):Int):=by
 have:Ce (Int.ofNat n)=true:=by
  show Nat.blt n 9223372036854775808=true
  rw [blt_eq];simpa using h
 exact LH this
theorem wrap_add {n k:Nat} (h:n+k < 9223372036854775808):IntKind.wrap .i64 (((n:Nat):Int)+((k:Nat):Int))=((n+k:Nat):Int):=by
 rw [<-Int.natCast_add];exact tT h
structure iM (n:Nat) (H:ad) (f:List Nat):Prop where
 nd:f.Nodup
 lo:∀y∈f,n<=y
 hi:∀y∈f,y < H.next
theorem abq {α:Type} {r:Rp α} {t e:TypeId} {dW:Nat} {v x:Value} {l m:List α} {f g:List Nat} {new:List Value} {K:Value->ad->Prop} (ha:iL P t=some (e,r.sz,dW)) (en:Ow r e H v l f) (hf:∀y∈f,y < H.next) (cP:(f++g).Nodup) (hg:∀y∈g,y < H.next) (hX:∀y∈f,X y=false)
  (hs:qG r.sz x H=some (m.length,new)) (oX:new.length=m.length * r.sz) (h1:lC new=true) (hm:dT r H new m g) (dd:m≠[]) (hn:(l.length+m.length) * dW < 140737488355328)
  (hk:∀v' H' f',Ow r e H' v' (l++m) f'->f'.Nodup->(∀y∈f',y=H.next∨y∈f∨y∈g)->(∀y∈f',y < H'.next)->H'.next=H.next+1->(∀c,c < H.next->c∉f->H'.get c=H.get c)->(∀c,H.fz c=true->H'.fz c=true)->(∀c B,H'.get c=some B->B.ro=true->H.get c=some B)->K v' H') {tg:Tag K}:fe P X H (iZ P t v x H) K tg:=by
 have oR:0 < m.length:=List.length_pos_iff.2 dd
 rcases en with ⟨rfl,rfl,rfl⟩ | ⟨b,cs,g0,rfl,h2,rfl,h3,h4,h5⟩
 ·rw [LY ha hs (by simpa using hn) oR,AI]
  refine hk _ _ (H.next::g) (.inr ⟨H.next,new,g,by simp,by simpa using dd,rfl,by rw [aZ,if_pos rfl],by simpa using oX,hm.ae fun y hy=>bO (hg y hy)⟩) ?_ ?_ ?_ rfl (fun c hc _=>bO hc) (fun c hc=>by rw [rv,hc,Bool.or_true]) (aG.push H _).ro
  ·rw [List.nodup_cons];exact ⟨fun h=>Nat.lt_irrefl _ (hg _ h),by simpa using cP⟩
  ·intro y hy;rcases List.mem_cons.1 hy with h | h
   ·exact .inl h
   ·exact .inr (.inr h)
  ·intro y hy;rw [bI];rcases List.mem_cons.1 hy with h | h
   ·omega
   ·have:=hg y h;omega
 ·have hb:=hf b (by simp)
  rw [T0 ha hs h3 h4 hn oR h1,PO (hX b (by simp))]
  have DV:∀c,c < H.next->c≠b->(H.grow b ⟨cs++new,e,true,false⟩).get c=H.get c:=fun c hc oY=>by rw [xO,if_neg (by omega),if_neg oY]
  rw [List.cons_append,List.nodup_cons] at cP
  have Sc:b∉g0++g:=cP.1
  refine hk _ _ (H.next::(g0++g)) (.inr ⟨H.next,cs++new,g0++g,by simp,by simp [h2],rfl,by rw [xO,if_pos rfl],by rw [List.length_append,List.length_append,h4,oX,Nat.add_mul],?_⟩) ?_ ?_ ?_ rfl (fun c hc N4=>DV c hc (fun h=>N4 (by simp [h]))) (fun c hc=>by rw [ahJ,hc,Bool.or_true]) (fun c C hc hr=>by
   rw [xO] at hc
   (repeat' split at hc)
   ·cases hc;cases hr
   ·cases hc
   ·exact hc)
  ·refine (h5.ae fun y hy=>DV y (hf y (by simp [hy])) (fun h=>Sc (by rw [<-h];simp [hy]))).join h4 (hm.ae fun y hy=>DV y (hg y hy) (fun h=>Sc (by rw [<-h];simp [hy])))
  ·rw [List.nodup_cons]
   refine ⟨fun h=>?_,cP.2⟩
   rcases List.mem_append.1 h with h | h
   ·exact Nat.lt_irrefl _ (hf _ (by simp [h]))
   ·exact Nat.lt_irrefl _ (hg _ h)
  ·intro y hy
   rcases List.mem_cons.1 hy with h | h
   ·exact .inl h
   ·rcases List.mem_append.1 h with h | h
    ·exact .inr (.inl (by simp [h]))
    ·exact .inr (.inr h)
  ·intro y hy;rw [af5];rcases List.mem_cons.1 hy with h | h
   ·omega
   ·rcases List.mem_append.1 h with h | h
    ·have:=hf y (by simp [h]);omega
    ·have:=hg y h;omega
theorem FG {α:Type} {r:Rp α} {t e:TypeId} {dW b:Nat} {v:Value} {l:List α} {x:α} {f g:List Nat} {B:cO} {K:Value->ad->Prop} (ha:iL P t=some (e,r.sz,dW)) (en:Ow r e H v l f) (hf:∀y∈f,y < H.next) (cP:(f++g).Nodup) (hg:∀y∈g,y < H.next) (hX:∀y∈f,X y=false)
  (hB:H.get b=some B) (hE:r.E H B.cells x g) (h1:lC B.cells=true) (hn:(l.length+1) * dW < 140737488355328) {tg:Tag K}
  (hk:∀v' H' f',Ow r e H' v' (l++[x]) f'->f'.Nodup->(∀y∈f',y=H.next∨y∈f∨y∈g)->(∀y∈f',y < H'.next)->H'.next=H.next+1->(∀c,c < H.next->c∉f->H'.get c=H.get c)->(∀c,H.fz c=true->H'.fz c=true)->(∀c B,H'.get c=some B->B.ro=true->H.get c=some B)->K v' H'):fe P X H (iZ P t v (.slice (some ⟨b,0,none⟩) 1 1) H) K tg:=
 abq (m:=[x]) (new:=B.cells) ha en hf cP hg hX (FI hB (r.len hE)) (by simp [r.len hE]) h1 (dT.one hE) (by simp) hn hk
end
theorem afh {cs vs:List Value} {o k:Nat}:(cY cs (o+k) vs).drop o=cY (cs.drop o) k vs∨cs.length < o+k:=by
 by_cases h:o+k<=cs.length
 ·left
  unfold cY
  rw [List.drop_append_of_le_length (by simp;omega),List.drop_take,List.drop_drop]
  congr 1
  ·congr 1;omega
  ·rw [Nat.add_assoc]
 ·right;omega
theorem Z4 {cs vs:List Value} {o:Nat} (h:o+vs.length<=cs.length):(cY cs o vs).length=cs.length:=by
 simp [cY];omega
theorem Sl.put {α:Type} {r:Rp α} {H:ad} {v:Value} {l:List α} {f:List Nat} (h:Sl r H v l f) {i:Nat} (hi:i < l.length):
  ∃b o c B f1 f2 f3,v=.slice (some ⟨b,o,none⟩) l.length c/\l.length<=c/\H.get b=some B/\f=b::(f1++(f2++f3))/\o+i * r.sz+r.sz<=B.cells.length/\r.E H ((B.cells.drop (o+i * r.sz)).take r.sz) l[i] f2/\
   ∀(H':ad) (B':cO) c' y f',(∀z,z∈f1∨z∈f3->H'.get z=H.get z)->H'.get b=some B'->B'.cells=cY B.cells (o+i * r.sz) c'->r.E H' c' y f'->Sl r H' v (l.set i y) (b::(f1++(f'++f3))):=by
 rcases h with ⟨_,rfl,_⟩ | ⟨a,c,_,rfl,_⟩ | ⟨b,o,c,B,g,rfl,h2,h3,rfl,h4,h5⟩
 ·simp at hi
 ·simp at hi
 ·obtain ⟨f1,f2,f3,rfl,h6,h7,h8⟩:=h5.put hi
  rw [List.length_drop] at h6
  rw [List.drop_drop] at h7
  have hp:=r.pos
  refine ⟨b,o,c,B,f1,f2,f3,rfl,h3,h4,rfl,by omega,h7,fun H' B' c' y f' hk KA bg hE=>?_⟩
  refine .inr (.inr ⟨b,o,c,B',f1++(f'++f3),by simp,by rw [Ne,<-List.length_eq_zero_iff];simp;omega,by simpa using h3,rfl,KA,?_⟩)
  have:=h8 H' c' y f' hk hE
  rw [bg]
  rcases afh (cs:=B.cells) (vs:=c') (o:=o) (k:=i * r.sz) with e | e
  ·rw [e];exact this
  ·omega
theorem dT.af6 {α:Type} {r:Rp α} {H:ad} {cs:List Value} {l:List α} {f:List Nat} (h:dT r H cs l f) (k:Nat):∃g,dT r H cs (l.take k) g/\∀y∈g,y∈f:=by
 have h1:=h
 rw [<-List.take_append_drop k l] at h1
 obtain ⟨c1,c2,f1,f2,rfl,rfl,e,h2,h3⟩:=h1.split
 exact ⟨f1,h2.more c2,fun y hy=>by simp [hy]⟩
section
variable {P:Program} {H:ad}
theorem Sl.to {α:Type} {r:Rp α} {v:Value} {l:List α} {f:List Nat} {t e:TypeId} {k:Nat} (h:Sl r H v l f) (he:iF P t=some (e,r.sz)) (hk:k<=l.length):
  ∃v' g,pk P t v none (some (.int .i64 (k:Nat))) none h0=.ok v' h0/\Sl r H v' (l.take k) g/\∀y∈g,y∈f:=by
 have hu:P.underlying t=some (.slice e)/\dm P e=some r.sz:=by
  unfold iF at he
  split at he
  ·rename_i e1 hu
   split at he
   ·rename_i s hs;cases he;exact ⟨hu,hs⟩
   ·cases he
  ·cases he
 have hlen:(l.take k).length=k:=by simp;omega
 have key:∀(b o n c:Nat),k<=c->pk P t (.slice (some ⟨b,o,none⟩) n c) none (some (.int .i64 (k:Nat))) none h0=.ok (.slice (some ⟨b,o,none⟩) k c) h0:=fun b o n c hc=>by
  simp only [pk,hu.1,hu.2,oQ]
  show (bif Nat.ble 0 k&&Nat.ble k c then (bif Nat.blt 0 c||Nat.beq 0 0 then KO.ok _ _ else _) else .no)=_
  have h1:(Nat.ble 0 k&&Nat.ble k c)=true:=by simp [ble_eq];omega
  have h2:(Nat.blt 0 c||Nat.beq 0 0)=true:=by simp [beq_eq]
  rw [h1,cond_true,h2,cond_true];simp
 rcases h with ⟨rfl,rfl,rfl⟩ | ⟨⟨b,o,sp⟩,c,rfl,rfl,rfl⟩ | ⟨b,o,c,B,g,rfl,h2,h3,rfl,h4,h5⟩
 ·have:k=0:=by simpa using hk
  subst this
  refine ⟨.slice none 0 0,[],?_,.inl ⟨rfl,rfl,rfl⟩,by simp⟩
  simp only [pk,hu.1,hu.2,oQ]
  rfl
 ·have:k=0:=by simpa using hk
  subst this
  cases sp with
  | none=>exact ⟨_,[],key b o 0 c (Nat.zero_le _),.inr (.inl ⟨_,c,rfl,by simp,rfl⟩),by simp⟩
  | some sp=>
   refine ⟨.slice (some ⟨b,o,some sp⟩) 0 0,[],?_,.inr (.inl ⟨_,0,rfl,by simp,rfl⟩),by simp⟩
   simp only [pk,hu.1,hu.2,oQ]
   rfl
 ·refine (by
   obtain ⟨g2,h6,h7⟩:=h5.af6 k
   by_cases yq:k=0
   ·subst yq
    exact ⟨_,[],key b o _ c (Nat.zero_le _),.inr (.inl ⟨_,c,rfl,by simp,rfl⟩),by simp⟩
   ·refine ⟨_,b::g2,key b o _ c (by omega),.inr (.inr ⟨b,o,c,B,g2,by rw [hlen],fun e=>?_,by omega,rfl,h4,h6⟩),fun y hy=>?_⟩
    ·have:=congrArg List.length e;rw [hlen] at this;exact yq (by simpa using this)
    ·rcases List.mem_cons.1 hy with e | e
     ·simp [e]
     ·simp [h7 y e])
end
theorem PU (H:ad):∀xs:List Int,dT .int H (xs.map (.int .i64)) xs []
 | []=>rfl
 | x::xs=>⟨[.int .i64 x],xs.map (.int .i64),[],[],rfl,rfl,⟨rfl,rfl⟩,PU H xs⟩
attribute [go_sem] Int.reduceEq Int.reduceLT Int.reduceLE decide_true decide_false Nat.left_eq_add Nat.add_eq_left Nat.add_left_cancel_iff Nat.reduceEqDiff Nat.add_zero Nat.mul_one
end Go.Proofs.YtebibeaobhcfkaaGreat.Ab
namespace Go.Proofs.YtebibeaobhcfkaaGreat.Ab
open Go Classical
def Xu (m t:Nat):Bool:=Nat.beq ((m >>> t) % 2) 1
def MX (m:Nat) (d:Option Nat):Bool:=match d with
 | none=>true
 | some d=>Xu m d
def rX (m:Nat):Code->Bool
 | .seq a b=>rX m a&&rX m b
 | .cond _ a b=>rX m a&&rX m b
 | .block _ a=>rX m a
 | .loop a=>rX m a
 | .region _ ops _=>ops.toList.all fun o=>MX m o.dst
 | _=>true
def JF (n:Nat) (x y:Value):Value:=if n=1 then x else y
@[go_sem] theorem as8 {x y:Value}:JF 1 x y=x:=nr (if_pos rfl)
@[go_sem] theorem asz {x y:Value}:JF 0 x y=y:=nr (if_neg (by decide))
def xi (m:Nat) (V E:Env):Env:=fun t=>JF ((m >>> t) % 2) (V t) (E t)
@[go_sem ↓] theorem awf {m t:Nat} {V E:Env}:xi m V E t=JF ((m >>> t) % 2) (V t) (E t):=nr rfl
attribute [go_sem] Nat.reduceShiftRight Nat.reduceMod
section
variable {P:Program} {X:Nat->Bool} {T:pE} {E:Env} {H:ad} {Q:Exit->Env->ad->Prop}
def ou (m:Nat) (E E':Env):Prop:=∀t,Xu m t=false->E' t=E t
theorem ou.refl (m:Nat) (E:Env):ou m E E:=fun _ _=>rfl
theorem ou.trans {m:Nat} {E E1 E2:Env} (h:ou m E E1) (h':ou m E1 E2):ou m E E2:=fun t ht=>(h' t ht).trans (h t ht)
theorem ou.put {m:Nat} {E:Env} {d:Option Nat} {v:Value} (h:MX m d=true):ou m E (oS E d v):=fun t ht=>by
 cases d with
 | none=>rfl
 | some d=>
  show (if t=d then v else E t)=E t
  rw [if_neg]
  rintro rfl
  rw [show MX m (some t)=Xu m t from rfl,ht] at h
  cases h
theorem ou.xi {m:Nat} {E E':Env} (h:ou m E E'):E'=xi m E' E:=by
 funext t
 show E' t=JF ((m >>> t) % 2) (E' t) (E t)
 unfold JF
 split
 ·rfl
 ·rename_i hn
  refine h t ?_
  show Nat.beq ((m >>> t) % 2) 1=false
  rw [beq_eq];exact decide_eq_false hn
theorem PV {m:Nat} {ds:List (Option Nat)}:∀{l:List Oper} {E:Env} {H:ad} {K K':Env->ad->Prop},(l.all fun o=>MX m o.dst)=true->(∀E' H',ou m E E'->K E' H'->K' E' H')->lZ P X ds l E H K->lZ P X ds l E H K'
 | [],E,H,K,K',hc,hk,h=>hk E H (.refl m E) h
 | o::l,E,H,K,K',hc,hk,h=>by
  rw [List.all_cons,Bool.and_eq_true] at hc
  rw [lZ] at h ⊢
  split
  ·rename_i hw;rw [if_pos hw] at h;exact PS (fun v H h=>PV hc.2 (fun E' H' ho=>hk E' H' ((ou.put hc.1).trans ho)) h) h
  ·rename_i hw;rw [if_neg hw] at h;exact PV hc.2 (fun E' H' ho=>hk E' H' ((ou.put hc.1).trans ho)) h
theorem PE {m:Nat} {tb:List (Nat × Nat)} {ds:List (Option Nat)}:∀{l:List Oper} {k:Nat} {acc:List (Nat × Rec)} {E:Env} {H:ad} {K K':Env->ad->Prop},(l.all fun o=>MX m o.dst)=true->(∀E' H',ou m E E'->K E' H'->K' E' H')->ju P X tb ds l k acc E H K->ju P X tb ds l k acc E H K'
 | [],k,acc,E,H,K,K',hc,hk,h=>hk E H (.refl m E) h
 | o::l,k,acc,E,H,K,K',hc,hk,h=>by
  rw [List.all_cons,Bool.and_eq_true] at hc
  rw [ju] at h ⊢
  split
  ·rename_i hw;rw [if_pos hw] at h;exact PS (fun v H h=>⟨h.1,PE hc.2 (fun E' H' ho=>hk E' H' ((ou.put hc.1).trans ho)) h.2⟩) h
  ·rename_i hw;rw [if_neg hw] at h;exact PE hc.2 (fun E' H' ho=>hk E' H' ((ou.put hc.1).trans ho)) h
theorem aiK {m:Nat}:∀{c:Code} {E:Env} {H:ad} {Q Q':Exit->Env->ad->Prop},rX m c=true->(∀e E' H',ou m E E'->Q e E' H'->Q' e E' H')->wC P X T c E H Q->wC P X T c E H Q':=by
 intro c
 induction c with
 | skip=>intro E H Q Q' hc hq h;exact hq _ _ _ (.refl m E) h
 | label l=>intro E H Q Q' hc hq h;exact hq _ _ _ (.refl m E) h
 | exit id=>intro E H Q Q' hc hq h;exact hq _ _ _ (.refl m E) h
 | ret=>intro E H Q Q' hc hq h;exact hq _ _ _ (.refl m E) h
 | region id ops draw=>
  intro E H Q Q' hc hq h
  cases draw
  ·exact PV hc (hq .normal) h
  ·exact PE hc (hq .normal) h
 | seq a b fJ nH=>
  intro E H Q Q' hc hq h
  rw [rX,Bool.and_eq_true] at hc
  rw [wC] at h ⊢
  refine fJ hc.1 (fun e E1 H1 ho h=>?_) h
  cases e with
  | normal=>exact nH hc.2 (fun e E2 H2 dh h=>hq _ _ _ (ho.trans dh) h) h
  | _=>exact hq _ _ _ ho h
 | cond x a b fJ nH=>
  intro E H Q Q' hc hq h
  rw [rX,Bool.and_eq_true] at hc
  rw [wC] at h ⊢
  unfold Cz at h ⊢
  split
  ·rename_i v hv
   rw [hv] at h
   simp only at h
   split
   ·rename_i hb;rw [if_pos hb] at h;exact fJ hc.1 hq h
   ·rename_i hb;rw [if_neg hb] at h;exact nH hc.2 hq h
  ·rename_i hv
   split at h
   ·rename_i v jm;exact (hv _ jm).elim
   ·exact h
 | block id a fJ=>
  intro E H Q Q' hc hq h
  rw [wC] at h ⊢
  refine fJ hc (fun e E1 H1 ho h=>?_) h
  cases e with
  | exit i=>
   simp only [wO] at h ⊢
   split
   ·rename_i he;rw [if_pos he] at h;exact hq _ _ _ ho h
   ·rename_i he;rw [if_neg he] at h;exact hq _ _ _ ho h
  | _=>exact hq _ _ _ ho h
 | loop a fJ=>
  intro E H Q Q' hc hq h
  rw [wC] at h ⊢
  obtain ⟨n,h⟩:=h
  refine ⟨n,?_⟩
  have key:∀n E1 H1,ou m E E1->qQ (wC P X T a) n E1 H1 Q->qQ (wC P X T a) n E1 H1 Q':=by
   intro n
   induction n with
   | zero=>intro E1 H1 ho h;exact h
   | succ n ih=>
    intro E1 H1 ho h
    rw [qQ] at h ⊢
    refine fJ hc (fun e E2 H2 dh h=>?_) h
    cases e with
    | normal=>exact ih E2 H2 (ho.trans dh) h
    | _=>exact hq _ _ _ (ho.trans dh) h
  exact key n E H (.refl m E) h
 | rangeFunc f ps x y=>intro E H Q Q' hc hq h;cases h
 | scope b=>intro E H Q Q' hc hq h;cases h
 | goto l=>intro E H Q Q' hc hq h;cases h
 | refuse w=>intro E H Q Q' hc hq h;cases h
theorem qA {a:Code} (m:Nat) (I:Nat->Env->ad->Prop) {n:Nat} (h0:I n E H) (hr:∀n V H1,I n V H1->wC P X T a (xi m V E) H1 (pX (fun E' H'=>∃k,k < n/\I k E' H') Q)) (hc:rX m a=true):wC P X T (.loop a) E H Q:=by
 refine aiH (fun n E' H'=>I n E' H'/\ou m E E') ⟨h0,.refl m E⟩ fun n E1 H1 ⟨hI,ho⟩=>?_
 have:=hr n E1 H1 hI
 rw [<-ho.xi] at this
 refine aiK hc (fun e E2 H2 dh h=>?_) this
 cases e with
 | normal=>
  obtain ⟨k,hk,h⟩:=h
  exact ⟨k,hk,h,ho.trans dh⟩
 | _=>exact h
theorem ft {a:Code} (m n:Nat) (I:Nat->Env->ad->Prop) (h0:I 0 E H) (hr:∀i V H1,i < n->I i V H1->wC P X T a (xi m V E) H1 (pX (fun E' H'=>I (i+1) E' H') Q))
  (he:∀V H1,I n V H1->wC P X T a (xi m V E) H1 (pX (fun _ _=>False) Q)) (hc:rX m a=true):wC P X T (.loop a) E H Q:=by
 refine qA m (fun k E' H'=>∃i,i+k=n/\I i E' H') (n:=n) ⟨0,by omega,h0⟩ (fun k V H1 ⟨i,hi,hI⟩=>?_) hc
 cases k with
 | zero=>
  obtain rfl:i=n:=by omega
  refine Uq (fun e E2 H2 h=>?_) (he V H1 hI)
  cases e with
  | normal=>exact h.elim
  | _=>exact h
 | succ k=>
  refine Uq (fun e E2 H2 h=>?_) (hr i V H1 (by omega) hI)
  cases e with
  | normal=>exact ⟨k,by omega,i+1,by omega,h⟩
  | _=>exact h
end
structure qi (f:List Nat) (H H':ad):Prop where
 nx:H'.next=H.next
 get:∀c,c∉f->H'.get c=H.get c
 fz:∀c,H'.fz c=H.fz c
 ro:∀c∈f,∀B,H'.get c=some B->B.ro=false
theorem qi.refl {f:List Nat} {H:ad} (vX:∀c∈f,∀B,H.get c=some B->B.ro=false):qi f H H:=⟨rfl,fun _ _=>rfl,fun _=>rfl,vX⟩
theorem qi.trans {f:List Nat} {H H1 H2:ad} (h:qi f H H1) (h':qi f H1 H2):qi f H H2:=⟨h'.nx.trans h.nx,fun c hc=>(h'.get c hc).trans (h.get c hc),fun c=>(h'.fz c).trans (h.fz c),h'.ro⟩
theorem qi.ai {f:List Nat} {H H1:ad} (h:qi f H H1) {b:Nat} {B:cO} (hb:b∈f) (hB:B.ro=false):qi f H (H1.ai b B):=⟨h.nx,fun c hc=>by
 rw [aH,if_neg (fun e=>hc (by rw [e];exact hb))];exact h.get c hc,h.fz,fun c hc C hC=>by
 rw [aH] at hC
 split at hC
 ·cases hC;exact hB
 ·exact h.ro c hc C hC⟩
theorem aG.oT {f:List Nat} {H H1 H2:ad} (h:aG H H1) (hu:qi f H1 H2) (hf:∀y∈f,H.next<=y):aG H H2:=⟨by rw [hu.nx];exact h.nx,fun b hb=>by
 rw [hu.get b (fun hm=>by have:=hf b hm;omega)];exact h.get b hb,fun b B hB hr=>by
 by_cases hm:b∈f
 ·rw [hu.ro b hm B hB] at hr;cases hr
 ·rw [hu.get b hm] at hB;exact h.ro b B hB hr⟩
section
variable {H:ad}
theorem cG {i n:Nat} (hi:i < n) (hn:n < 4611686018427387904):IntKind.wrap .i64 (((i:Nat):Int)+1)=((i+1:Nat):Int):=wrap_add (k:=1) (by omega)
theorem Sl.j0 {v:Value} {xs:List Int} {f:List Nat} (h:Sl .int H v xs f) {i:Nat} (hi:i < xs.length):
  ∃b o c B,v=.slice (some ⟨b,o,none⟩) xs.length c/\H.get b=some B/\b∈f/\B.cells[o+i]?=some (.int .i64 (xs.getD i 0)):=by
 have jJ:xs[i]?=some xs[i]:=List.getElem?_eq_getElem hi
 obtain ⟨b,o,c,B,gx,hv,hB,dI,CZ,cb,hE⟩:=h.at jJ
 have er:=(Rp.wG.1 hE).1
 refine ⟨b,o,c,B,hv,hB,dI,?_⟩
 have:((B.cells.drop (o+i * 1)).take 1)[0]?=some (.int .i64 xs[i]):=by
  rw [show (B.cells.drop (o+i * 1)).take 1=_ from er];rfl
 rw [List.getElem?_take,if_pos (by decide),List.getElem?_drop,Nat.mul_one,Nat.add_zero] at this
 rw [this,List.getD_eq_getElem?_getD,jJ];rfl
theorem Sl.AR {v:Value} {xs:List Int} {f:List Nat} (h:Sl .int H v xs f):f=[]∨∃b,f=[b]:=by
 have key:∀{l:List Int} {cs:List Value} {f:List Nat},dT Rp.int H cs l f->f=[]:=by
  intro l
  induction l with
  | nil=>intro cs f h;exact h
  | cons x l ih=>
   intro cs f h
   obtain ⟨c,gi,f1,f2,rfl,rfl,⟨rfl,rfl⟩,h2⟩:=h
   rw [ih h2];rfl
 rcases h with ⟨_,_,rfl⟩ | ⟨a,c,_,_,rfl⟩ | ⟨b,o,c,B,g,rfl,h2,h3,rfl,h4,h5⟩
 ·exact .inl rfl
 ·exact .inl rfl
 ·rw [key h5];exact .inr ⟨b,rfl⟩
theorem Sl.Qb {v:Value} {xs:List Int} {f:List Nat} (h:Sl .int H v xs f) {i:Nat} (hi:i < xs.length):
  ∃b o c B,v=.slice (some ⟨b,o,none⟩) xs.length c/\H.get b=some B/\f=[b]/\o+i < B.cells.length/\B.cells[o+i]?=some (.int .i64 (xs.getD i 0))/\
   ∀(H':ad) x,H'.get b=some ⟨B.cells.set (o+i) (.int .i64 x),B.elem,B.iD,false⟩->Sl .int H' v (xs.set i x) [b]:=by
 obtain ⟨b',o',c',B',Bj,KA,_,dN⟩:=h.j0 hi
 obtain ⟨b,o,c,B,f1,f2,f3,hv,Sd,hB,kZ,cb,hE,jk⟩:=h.put hi
 have xl:f1++(f2++f3)=[]:=by
  rcases h.AR with e | ⟨b2,e⟩
  ·rw [kZ] at e;cases e
  ·rw [kZ] at e;exact (List.cons.inj e).2
 obtain ⟨rfl,h23⟩:=List.append_eq_nil_iff.1 xl
 obtain ⟨rfl,rfl⟩:=List.append_eq_nil_iff.1 h23
 rw [hv] at Bj
 cases Bj
 rw [hB] at KA
 cases KA
 have bf:o'+i < B'.cells.length:=by have:o'+i * 1+1<=B'.cells.length:=cb;omega
 refine ⟨b',o',c',B',hv,hB,kZ,bf,dN,fun H' x jH=>?_⟩
 refine jk H' _ [.int .i64 x] x [] (by simp) jH ?_ (Rp.wG.2 ⟨rfl,rfl⟩)
 show B'.cells.set (o'+i) (.int .i64 x)=cY B'.cells (o'+i * 1) [.int .i64 x]
 rw [Nat.mul_one,fL bf]
end
theorem AE {cs row vs:List Value} {o k sz:Nat} (hr:(cs.drop o).take sz=row) (hk:k+vs.length<=sz) (ho:o+sz<=cs.length):cY cs (o+k) vs=cY cs o (cY row k vs):=by
 subst hr
 have h1:cs.take (o+k)=cs.take o++(cs.drop o).take k:=by rw [List.take_add]
 have h2:((cs.drop o).take sz).take k=(cs.drop o).take k:=by rw [List.take_take,Nat.min_eq_left (by omega)]
 have h3:((cs.drop o).take sz).drop (k+vs.length)++cs.drop (o+sz)=cs.drop (o+k+vs.length):=by
  have e:cs.drop (o+sz)=(cs.drop o).drop sz:=by rw [List.drop_drop]
  have e2:cs.drop (o+k+vs.length)=(cs.drop o).drop (k+vs.length):=by rw [List.drop_drop,Nat.add_assoc]
  rw [e,e2]
  have e3:(cs.drop o)=(cs.drop o).take sz++(cs.drop o).drop sz:=(List.take_append_drop _ _).symm
  conv=>rhs;rw [e3]
  rw [List.drop_append_of_le_length (by simp;omega)]
 have hl:(cY ((cs.drop o).take sz) k vs).length=sz:=by
  unfold cY
  simp;omega
 unfold cY at hl ⊢
 rw [hl,h1,h2,List.append_assoc,List.append_assoc,List.append_assoc,h3]
theorem Ue {P:Program} {X:Nat->Bool} {Hb H:ad} {α:Type} {r:Rp α} {t e:TypeId} {dW b:Nat} {v:Value} {l:List α} {x:α} {f g:List Nat} {B:cO} {K:Value->ad->Prop} (ha:iL P t=some (e,r.sz,dW)) (en:Ow r e H v l f) (hold:aG Hb H)
  (hf:iM Hb.next H f) (hg:iM Hb.next H g) (hd:∀y∈f,y∉g) (hX:∀y∈f,X y=false) (hB:H.get b=some B) (hE:r.E H B.cells x g) (h1:lC B.cells=true) (hn:(l.length+1) * dW < 140737488355328) {tg:Tag K}
  (hk:∀v' H' f',Ow r e H' v' (l++[x]) f'->iM Hb.next H' f'->(∀y∈f',y=H.next∨y∈f∨y∈g)->H'.next=H.next+1->(∀c,c < H.next->c∉f->H'.get c=H.get c)->aG Hb H'->K v' H'):fe P X H (iZ P t v (.slice (some ⟨b,0,none⟩) 1 1) H) K tg:=by
 refine FG ha en hf.hi (by rw [List.nodup_append];exact ⟨hf.nd,hg.nd,fun a ha b hb e=>hd a ha (e▸hb)⟩) hg.hi hX hB hE h1 hn ?_
 intro v' H' f' h1 h2 h3 h4 h5 h6 h7 h8
 have dH:=hold.nx
 refine hk v' H' f' h1 ⟨h2,fun y hy=>?_,h4⟩ h3 h5 h6 ⟨by omega,fun y hy=>?_,fun y B hB hr=>hold.ro y B (h8 y B hB hr) hr⟩
 ·rcases h3 y hy with e | e | e
  ·omega
  ·exact hf.lo y e
  ·exact hg.lo y e
 ·rw [h6 y (by omega) (fun e=>by have:=hf.lo y e;omega)];exact hold.get y hy
section apb
variable {P:Program} {t e:TypeId} {s b o n c:Nat}
theorem Uf (he:iF P t=some (e,s)):P.underlying t=some (.slice e)/\dm P e=some s:=by
 unfold iF at he
 split at he
 ·rename_i e1 hu
  split at he
  ·rename_i s hs;cases he;exact ⟨hu,hs⟩
  ·cases he
 ·cases he
theorem aaO {hi:Nat} (he:iF P t=some (e,s)) (h2:hi<=c):
  pk P t (.slice (some ⟨b,o,none⟩) n c) none (some (.int .i64 (hi:Nat))) none h0=.ok (.slice (some ⟨b,o,none⟩) hi c) h0:=by
 obtain ⟨hu,hs⟩:=Uf he
 simp only [pk,hu,hs,oQ]
 show (bif Nat.ble 0 hi&&Nat.ble hi c then (bif Nat.blt 0 c||Nat.beq 0 0 then KO.ok _ _ else _) else .no)=_
 have e1:(Nat.ble 0 hi&&Nat.ble hi c)=true:=by simp [ble_eq];omega
 have e2:(Nat.blt 0 c||Nat.beq 0 0)=true:=by simp [beq_eq]
 rw [e1,cond_true,e2,cond_true];simp
theorem afB {lo:Nat} (he:iF P t=some (e,s)) (h1:lo<=n) (h2:n<=c) (h3:lo < c∨lo=0):
  pk P t (.slice (some ⟨b,o,none⟩) n c) (some (.int .i64 (lo:Nat))) none none h0=.ok (.slice (some ⟨b,o+lo * s,none⟩) (n - lo) (c - lo)) h0:=by
 obtain ⟨hu,hs⟩:=Uf he
 simp only [pk,hu,hs,oQ]
 show (bif Nat.ble lo n&&Nat.ble n c then (bif Nat.blt lo c||Nat.beq lo 0 then KO.ok _ _ else _) else .no)=_
 have e1:(Nat.ble lo n&&Nat.ble n c)=true:=by simp [ble_eq];omega
 have e2:(Nat.blt lo c||Nat.beq lo 0)=true:=by simp [blt_eq,beq_eq];omega
 rw [e1,cond_true,e2,cond_true]
end apb
@[go_sem] theorem asb {w:Bool}:JC undef w=false:=nr rfl
attribute [go_sem] Int.ofNat_lt Int.ofNat_le Nat.lt_irrefl Int.natCast_inj Int.reduceToNat
end Go.Proofs.YtebibeaobhcfkaaGreat.Ab
namespace Go.Proofs.YtebibeaobhcfkaaGreat.Ab
open Go Classical
section
variable {P:Program} {X:Nat->Bool}
theorem CT.af {run:(Exit->Act->World->Prop)->Act->World->Prop} {t t':Act} {H H':ad} {e:Exit} (fz:Nat->Bool) (h:CT P run t H e t' H'):CT P run t H e t' (H'.af fz):=fun σ w a Q hr hf ht hq=>
 h σ w a Q hr hf ht fun σ' a' w' p NW=>hq σ' a' w' ⟨p.rel,p.ext,p.size,p.ae,p.qg,p.vG,p.rest⟩ NW
def wS (P:Program) (X:Nat->Bool) (n:Nat) (c:Code) (E:Env) (H:ad) (Q:Exit->Env->ad->Prop):Prop:=∀t,TE n t E->zj X H->RC P c t H (Gl X n H Q)
theorem wS.of {T:pE} {n:Nat} {c:Code} {E:Env} {H:ad} {Q:Exit->Env->ad->Prop} (hm:P.follows .mixedOrders=true) (hc:oc P T n c=true) (h:wC P X T c E H Q):wS P X n c E H Q:=fun t ht hi=>aaI hm c t E H Q hc ht hi h
theorem wS.seq {n:Nat} {a b:Code} {E:Env} {H:ad} {Q:Exit->Env->ad->Prop} (h:wS P X n a E H (pX (fun E H=>wS P X n b E H Q) Q)):wS P X n (.seq a b) E H Q:=fun t ht hi=>by
 refine Ux ((h t ht hi).mono fun e t' H' _ hf=>?_)
 obtain ⟨E',h1,h2,h3⟩:=hf
 cases e with
 | normal=>exact (h3 t' h1 h2.inv).mono fun e2 t2 H2 _ pF=>pF.after h2
 | _=>exact ⟨E',h1,h2,h3⟩
theorem wS.told {n:Nat} {c:Code} {E:Env} {H:ad} {Q:Exit->Env->ad->Prop}
  (h:wS P X n c E H fun e E' H'=>∃fz:Nat->Bool,(∀b,X b=true->fz b=true)/\(∀b,fz b=true->b < H'.next)/\Q e E' (H'.af fz)):wS P X n c E H Q:=fun t ht hi=>by
 obtain ⟨e,t',H',h1,h2,E',h3,h4,fz,h5,h6,h7⟩:=h t ht hi
 exact ⟨e,t',H'.af fz,⟨h1.next,h1.wf,h1.same⟩,h2.af fz,E',h3,⟨h4.nx,h4.get,h5,⟨h4.iI.wf,h6⟩⟩,h7⟩
theorem QG {f:FuncId} {fn:Func} {c:Code} {l:List Value} {H:ad} {K:Value->ad->Prop} (hf:P.funcs[f]?=some fn) (hb:fn.body=some c)
  (hl:l.length<=fn.ntmps) (h:bY H->wS P H.fz fn.ntmps c (cj l) H (cm P fn.results.toList K)):aj P f l.toArray H K:=by
 intro A1
 have hi:zj H.fz H:=⟨A1,fun _ h=>h⟩
 have yn:=h A1 (start fn l.toArray) (aaL (by simpa using hl)) hi
 have ym:Xd P f l.toArray H fun v H'=>KX H.fz H H'/\K v H':=by
  refine acK hf hb (yn.mono fun e t' H' _ hE=>?_)
  obtain ⟨E',h1,h2,h3⟩:=hE
  have U0:∀{e:Exit},cm P fn.results.toList K e E' H'->(e=.normal∨e=.ret)/\CA P fn.results.toList E' H' K:=fun {e} hq=>by
   cases e with
   | normal=>exact ⟨.inl rfl,hq⟩
   | ret=>exact ⟨.inr rfl,hq⟩
   | _=>exact hq.elim
  obtain ⟨he,hw⟩:=U0 h3
  refine ⟨he,?_⟩
  unfold CA at hw
  split at hw
  ·rename_i vs l8
   exact ⟨_,aaK h2.iI.wf h1 l8,h2,hw⟩
  ·exact hw.elim
 obtain ⟨v,H',h1,h2,h3,h4⟩:=ym
 exact ⟨v,H',h1,h2,h3,h4⟩
theorem ahK {f:FuncId} {fn:Func} {a b:Code} {l:List Value} {H:ad} {K:Value->ad->Prop} (T:pE) (hm:P.follows .mixedOrders=true) (hf:P.funcs[f]?=some fn) (hc:bK P T f=true) {m:Nat} (hl:l.length<=m) (hn:m<=fn.ntmps) {rs:List ResultVar} (hr:fn.results.toList=rs) (hb:fn.body=some (.seq a b))
  (h:bY H->wC P H.fz T a (cj l) H (pX (fun E1 H1=>H.next<=H1.next->wC P H.fz T b E1 (H1.af H.fz) (cm P rs K)) (cm P rs K))):aj P f l.toArray H K:=by
 obtain ⟨c,dX,hc⟩:=LP hc hf
 rw [hb] at dX
 cases dX
 simp only [oc,Bool.and_eq_true] at hc
 subst hr
 refine QG hf hb (Nat.le_trans hl hn) fun A1=>.seq (.told fun t ht hi=>?_)
 refine ((wS.of hm hc.1 (h A1)) t ht hi).mono fun e t' H' dB hE=>?_
 obtain ⟨E',h1,h2,h3⟩:=hE
 cases e with
 | normal=>exact ⟨E',h1,h2,H.fz,fun _ h=>h,fun b hb=>Nat.lt_of_lt_of_le (A1.fz b hb) h2.nx,wS.of hm hc.2 (h3 h2.nx)⟩
 | _=>exact ⟨E',h1,h2,H'.fz,h2.fz,h2.iI.fz,h3⟩
end
abbrev bC:=List UInt8
structure bJ where
 kind:Int
 n:Int
 line:Int
 az:Int
 text:bC
deriving DecidableEq
def qz (c:UInt8):Bool:=decide (97<=c.toNat)&&decide (c.toNat<=122)
def isDigit (c:UInt8):Bool:=decide (48<=c.toNat)&&decide (c.toNat<=57)
def uU:bC:=[40,41,123,125,91,93,44,59,58,61,46,43,45,42,60,94,33,63]
def FR (c:UInt8):Bool:=uU.contains c
def lW (c:UInt8):Bool:=qz c||isDigit c||c==95
def DK (c:UInt8) (s:bC):Option (Int × Nat):=
 if qz c then (if 16 < (s.takeWhile lW).length then none else some (1,(s.takeWhile lW).length))
 else if isDigit c then (if 9 < (s.takeWhile isDigit).length∨1 < (s.takeWhile isDigit).length/\c=48 then none else some (2,(s.takeWhile isDigit).length))
 else if FR c then some (3,1) else none
def FT:bC->Option (Int × Nat)
 | []=>none
 | c::r=>DK c (c::r)
def qB (s:bC):Nat:=s.foldl (fun n c=>10 * n+(c.toNat - 48)) 0
inductive Q9 where
 | ok (l:List bJ)
 | bad
deriving DecidableEq
def jx:Nat->bC->Int->Int->List bJ->Q9
 | 0,_,_,_,_=>.bad
 | k+1,[],line,az,acc=>.ok (acc++[⟨4,0,line,az,[]⟩])
 | k+1,c::r,line,az,acc=>
  if c=10 then jx k r (line+1) 1 acc
  else if c=32∨c=9 then jx k r line (az+1) acc
  else if c=35 then jx k ((c::r).dropWhile (·≠10)) line (az+(((c::r).takeWhile (·≠10)).length:Nat)) acc
  else match FT (c::r) with
   | none=>.bad
   | some (kind,w)=>jx k ((c::r).drop w) line (az+(w:Nat)) (acc++[⟨kind,if kind=2 then (qB ((c::r).take w):Nat) else 0,line,az,(c::r).take w⟩])
def yR (s:bC):Q9:=if 16384 < s.length then .bad else jx (s.length+1) s 1 1 []
def A2:List bC:=[[109,115,103],[114,101,99],[100,101,102],[97,99,116,111,114],[111,110],[108,101,116],[110,101,119],[115,116,97,114,116],[103,101,116],[115,101,116],[115,119,97,112],[114,101,99,111,118,101,114],[103,105,118,101],[108,111,111,112],[115,112,97,119,110],[99,97,108,108],[97,103,97,105,110],[103,117,97,114,100],[102,114,101,101],[97,115],[105,102],[101,108,115,101],[100,111,110,101],[109,111,118,101],[105,110,116],[97,114,114],[105,115,111],[118,97,108],[114,101,102],[116,97,103]]
def isKey (s:bC):Bool:=A2.contains s
def isWord (s:bC):Bool:=(match s with
 | []=>false
 | c::r=>qz c&&r.all lW)&&decide (s.length<=16)
def FU (s:bC):Bool:=isWord s&&!isKey s
theorem TU {s:bC} {kind:Int} {k:Nat} (h:FT s=some (kind,k)):1<=k/\k<=s.length/\(kind=1∨kind=2∨kind=3)/\(kind=2->k<=9/\(s.take k).all isDigit=true):=by
 cases s with
 | nil=>cases h
 | cons c r=>
  replace h:DK c (c::r)=some (kind,k):=h
  unfold DK at h
  have tw:∀p:UInt8->Bool,p c=true->1<=((c::r).takeWhile p).length:=fun p hp=>by rw [List.takeWhile_cons,if_pos hp];simp
  have tl:∀p:UInt8->Bool,((c::r).takeWhile p).length<=(c::r).length:=fun p=>(List.takeWhile_prefix p).length_le
  by_cases h1:qz c=true
  ·rw [if_pos h1] at h
   split at h
   ·cases h
   ·cases h
    exact ⟨tw _ (by simp [lW,h1]),tl _,.inl rfl,fun h=>by cases h⟩
  rw [if_neg h1] at h
  by_cases h2:isDigit c=true
  ·rw [if_pos h2] at h
   split at h
   ·cases h
   ·rename_i hn
    cases h
    refine ⟨tw _ h2,tl _,.inr (.inl rfl),fun _=>⟨by omega,?_⟩⟩
    have hp:=List.takeWhile_prefix (l:=c::r) isDigit
    rw [<-List.prefix_iff_eq_take.1 hp]
    exact List.all_takeWhile
  rw [if_neg h2] at h
  split at h
  ·cases h;exact ⟨Nat.le_refl _,by simp,.inr (.inr rfl),fun h=>by cases h⟩
  ·cases h
def N5 (l:List bJ):Prop:=∃l' e,l=l'++[e]/\e.kind=4/\∀t∈l',t.kind≠4
theorem N5.next {l:List bJ} (h:N5 l) {i:Nat} {t:bJ} (hi:l[i]?=some t) (ht:t.kind≠4):i+1 < l.length:=by
 obtain ⟨l',e,rfl,h1,h2⟩:=h
 have bf:=(List.getElem?_eq_some_iff.1 hi).1
 rw [List.length_append,List.length_singleton] at bf ⊢
 by_cases he:i=l'.length
 ·subst he
  rw [List.getElem?_append_right (Nat.le_refl _),Nat.sub_self] at hi
  cases hi
  exact absurd h1 ht
 ·omega
theorem LZ:∀(k:Nat) (s:bC) (line az:Int) (acc l:List bJ),(∀t∈acc,t.kind≠4)->jx k s line az acc=.ok l->N5 l
 | 0,s,line,az,acc,l,ha,h=>by cases h
 | k+1,[],line,az,acc,l,ha,h=>by
  rw [jx] at h
  cases h
  exact ⟨acc,_,rfl,rfl,ha⟩
 | k+1,c::r,line,az,acc,l,ha,h=>by
  rw [jx] at h
  split at h
  ·exact LZ k _ _ _ _ _ ha h
  split at h
  ·exact LZ k _ _ _ _ _ ha h
  split at h
  ·exact LZ k _ _ _ _ _ ha h
  split at h
  ·cases h
  ·rename_i kind w hp
   refine LZ k _ _ _ _ _ (fun t ht=>?_) h
   rcases List.mem_append.1 ht with e | e
   ·exact ha t e
   ·rw [List.mem_singleton] at e
    subst e
    have:=(TU hp).2.2.1
    show kind≠4
    omega
theorem afC {s:bC} {l:List bJ} (h:yR s=.ok l):N5 l:=by
 unfold yR at h
 split at h
 ·cases h
 ·exact LZ _ _ _ _ _ _ (by simp) h
section
variable {P:Program} {h:KH}
abbrev ah (s:List UInt8):Value:=.string ⟨s.toArray⟩
@[go_sem] theorem II {s:List UInt8}:(ByteArray.mk s.toArray).data.toList=s:=nr (List.toList_toArray ..)
theorem yO {t:TypeId} {s:List UInt8} {i:Nat} {c:UInt8} (hu:P.underlying t=some .string) (hc:s[i]?=some c):Ch P t (ah s) (.int .i64 ((i:Nat):Int)) h=.ok (.int .u8 ((c.toNat:Nat):Int)) h:=by
 unfold Ch
 rw [hu]
 show (match rF (ByteArray.mk s.toArray).data.toList i with
  | some c=>KO.ok (.int .u8 (.ofNat c.toNat)) h
  | none=>.no)=_
 rw [yP,II,hc]
 rfl
theorem I2 {t:TypeId} {s:List UInt8} (hu:P.underlying t=some .string):x4 P t (ah s) h=.ok (.int .i64 ((s.length:Nat):Int)) h:=by
 rw [afA hu,II]
theorem abr {t:TypeId} {a b:List UInt8} (hl:a.length+b.length < 4611686018427387904):dS P .add t (ah a) (ah b) h=.ok (ah (a++b)) h:=by
 simp only [dS,kO,J5,II,yQ]
 rw [show Nat.blt (a.length+b.length) 4611686018427387904=true from by rw [blt_eq,decide_eq_true_eq];exact hl,cond_true]
theorem aaP {t:TypeId} {a b:List UInt8}:dS P .eql t (ah a) (ah b) h=.ok (.bool (decide (a=b))) h:=by
 rw [al8,II,II]
theorem ahL {t:TypeId} {s:List UInt8} {lo hi:Nat} (hu:P.underlying t=some .string) (h1:lo<=hi) (h2:hi<=s.length):pk P t (ah s) (some (.int .i64 ((lo:Nat):Int))) (some (.int .i64 ((hi:Nat):Int))) none h=.ok (ah ((s.drop lo).take (hi - lo))) h:=by
 unfold pk
 rw [hu]
 show (bif Nat.ble lo hi&&Nat.ble hi (ll (ByteArray.mk s.toArray).data.toList) then KO.ok (.string ⟨(Jv (Ju (ByteArray.mk s.toArray).data.toList lo) (hi - lo)).toArray⟩) h else .no)=_
 rw [II,yQ,show (Nat.ble lo hi&&Nat.ble hi s.length)=true from by simp [ble_eq];omega,cond_true,IP,IN]
theorem Ug {s d:TypeId} {ks kd k:IntKind} {n:Int} {H:ad} (hs:P.underlying s=some (.int ks)) (hd:P.underlying d=some (.int kd)):yZ P s d (.int k n) H=.ok (.int kd (kd.wrap n)) H:=by
 unfold yZ
 rw [hs,hd]
 simp only [sL]
theorem conv_byte {s d e:TypeId} {n:Int} {H:ad} {x:Value} (hs:P.underlying s=some (.slice e)) (he:P.underlying e=some (.int .u8)) (hd:P.underlying d=some .string) (hx:qG 1 x H=some (1,[.int .u8 n])):yZ P s d x H=.ok (ah [UInt8.ofNat n.toNat]) H:=by
 unfold yZ
 rw [hs,hd]
 simp only [he]
 unfold LJ
 rw [hx]
 rfl
end
structure PN where
 kind:Int
 a:Int
 b:Int
 n:Int
 name:bC
deriving DecidableEq
structure Ty where
 kind:Int
 cap:Int
 rc:Int
 name:bC
 pat:List PN
deriving DecidableEq
structure tn where
 name:bC
 ty:Ty
deriving DecidableEq
structure x8 where
 name:bC
 types:List Ty
 line:Int
 az:Int
deriving DecidableEq
structure CB where
 name:bC
 fields:List tn
 line:Int
 az:Int
deriving DecidableEq
structure oU where
 kind:Int
 n:Int
 name:bC
deriving DecidableEq
structure fu where
 tag:Int
 rY:Int
 body:Int
 name:bC
 ry:bC
 aY:List Int
 names:List bC
deriving DecidableEq
structure aJ where
 kind:Int:=0
 x:Int:=0
 y:Int:=0
 f:Int:=0
 n:Int:=0
 cap:Int:=0
 rc:Int:=0
 op:Int:=0
 a:Int:=0
 b:Int:=0
 next:Int:=0
 line:Int:=0
 az:Int:=0
 oe:bC:=[]
 ie:bC:=[]
 ik:bC:=[]
 j4:bC:=[]
 args:List oU:=[]
 pat:List PN:=[]
 ak:List fu:=[]
deriving DecidableEq
structure gh where
 name:bC
 params:List tn
 aY:Int
 body:Int
 line:Int
 az:Int
 lX:Bool
 pat:List PN
 on:List fu
deriving DecidableEq
abbrev iV (n:Int):Value:=.int .i64 n
def Rp.flat {α:Type} (n:Nat) (hn:0 < n) (rZ:α->List Value) (hl:∀x,(rZ x).length=n):Rp α:=⟨n,hn,fun _ cs x f=>cs=rZ x/\f=[],fun h=>by rw [h.1];exact hl _,fun h _=>h⟩
def Rp.QH {α β:Type} (n:Nat) (hn:0 < n) (rZ:α->Value->List Value) (hl:∀x v,(rZ x v).length=n) (r:Rp β) (g:α->List β):Rp α:=
 ⟨n,hn,fun H cs x f=>∃v,cs=rZ x v/\Sl r H v (g x) f,fun ⟨v,h,_⟩=>by rw [h];exact hl _ _,fun ⟨v,h,hs⟩ hk=>⟨v,h,hs.ae hk⟩⟩
def Rp.al9 {α β γ:Type} (n:Nat) (hn:0 < n) (rZ:α->Value->Value->List Value) (hl:∀x v w,(rZ x v w).length=n) (r:Rp β) (g:α->List β) (r2:Rp γ) (g2:α->List γ):Rp α:=
 ⟨n,hn,fun H cs x f=>∃v w f1 f2,cs=rZ x v w/\f=f1++f2/\Sl r H v (g x) f1/\Sl r2 H w (g2 x) f2,fun ⟨v,w,f1,f2,h,_⟩=>by rw [h];exact hl _ _ _,
  fun ⟨v,w,f1,f2,h,hf,h1,h2⟩ hk=>⟨v,w,f1,f2,h,hf,h1.ae fun b hb=>hk b (by rw [hf];simp [hb]),h2.ae fun b hb=>hk b (by rw [hf];simp [hb])⟩⟩
def Rp.acN {α β γ δ:Type} (n:Nat) (hn:0 < n) (rZ:α->Value->Value->Value->List Value) (hl:∀x v w u,(rZ x v w u).length=n) (r:Rp β) (g:α->List β) (r2:Rp γ) (g2:α->List γ) (r3:Rp δ) (g3:α->List δ):Rp α:=
 ⟨n,hn,fun H cs x f=>∃v w u f1 f2 f3,cs=rZ x v w u/\f=f1++(f2++f3)/\Sl r H v (g x) f1/\Sl r2 H w (g2 x) f2/\Sl r3 H u (g3 x) f3,fun ⟨v,w,u,f1,f2,f3,h,_⟩=>by rw [h];exact hl _ _ _ _,
  fun ⟨v,w,u,f1,f2,f3,h,hf,h1,h2,h3⟩ hk=>⟨v,w,u,f1,f2,f3,h,hf,h1.ae fun b hb=>hk b (by rw [hf];simp [hb]),h2.ae fun b hb=>hk b (by rw [hf];simp [hb]),h3.ae fun b hb=>hk b (by rw [hf];simp [hb])⟩⟩
abbrev Gn:Rp bJ:=.flat 5 (by decide) (fun t=>[iV t.kind,iV t.n,iV t.line,iV t.az,ah t.text]) fun _=>rfl
abbrev gU:Rp PN:=.flat 5 (by decide) (fun t=>[iV t.kind,iV t.a,iV t.b,iV t.n,ah t.name]) fun _=>rfl
abbrev jy:Rp oU:=.flat 3 (by decide) (fun t=>[iV t.kind,iV t.n,ah t.name]) fun _=>rfl
abbrev sb:Rp Ty:=.QH 5 (by decide) (fun t v=>[iV t.kind,iV t.cap,iV t.rc,ah t.name,v]) (fun _ _=>rfl) gU (·.pat)
abbrev oV:Rp tn:=.QH 6 (by decide) (fun t v=>[ah t.name,iV t.ty.kind,iV t.ty.cap,iV t.ty.rc,ah t.ty.name,v]) (fun _ _=>rfl) gU (·.ty.pat)
abbrev qF:Rp x8:=.QH 4 (by decide) (fun t v=>[ah t.name,v,iV t.line,iV t.az]) (fun _ _=>rfl) sb (·.types)
abbrev u9:Rp CB:=.QH 4 (by decide) (fun t v=>[ah t.name,v,iV t.line,iV t.az]) (fun _ _=>rfl) oV (·.fields)
abbrev eQ:Rp fu:=.al9 7 (by decide) (fun t v w=>[iV t.tag,iV t.rY,iV t.body,ah t.name,ah t.ry,v,w]) (fun _ _ _=>rfl) .int (·.aY) .str (·.names)
abbrev ku:Rp aJ:=.acN 20 (by decide) (fun t v w u=>[iV t.kind,iV t.x,iV t.y,iV t.f,iV t.n,iV t.cap,iV t.rc,iV t.op,iV t.a,iV t.b,iV t.next,iV t.line,iV t.az,ah t.oe,ah t.ie,ah t.ik,ah t.j4,v,w,u]) (fun _ _ _ _=>rfl) jy (·.args) gU (·.pat) eQ (·.ak)
abbrev kV:Rp gh:=.acN 9 (by decide) (fun t v w u=>[ah t.name,v,iV t.aY,iV t.body,iV t.line,iV t.az,.bool t.lX,w,u]) (fun _ _ _ _=>rfl) oV (·.params) gU (·.pat) eQ (·.on)
structure Fr (M:List Nat) (H H':ad):Prop where
 nx:H.next<=H'.next
 get:∀c,c < H.next->c∉M->H'.get c=H.get c
 ro:∀c B,H'.get c=some B->B.ro=true->H.get c=some B
theorem Fr.refl (M:List Nat) (H:ad):Fr M H H:=⟨Nat.le_refl _,fun _ _ _=>rfl,fun _ _ h _=>h⟩
theorem Fr.trans {M M1:List Nat} {H H1 H2:ad} (h:Fr M H H1) (h':Fr M1 H1 H2) (hm:∀c∈M1,c∈M∨H.next<=c):Fr M H H2:=
 ⟨Nat.le_trans h.nx h'.nx,fun c hc hn=>(h'.get c (Nat.lt_of_lt_of_le hc h.nx) fun e=>(hm c e).elim hn fun e=>by omega).trans (h.get c hc hn),fun c B hB hr=>h.ro c B (h'.ro c B hB hr) hr⟩
theorem Fr.then {M:List Nat} {H H1 H2:ad} (h:Fr M H H1) (h':Fr M H1 H2):Fr M H H2:=h.trans h' fun _ h=>.inl h
theorem aG.fr {H H':ad} (h:aG H H') (M:List Nat):Fr M H H':=⟨h.nx,fun c hc _=>h.get c hc,h.ro⟩
theorem Fr.au {H H':ad} (h:Fr [] H H'):aG H H':=⟨h.nx,fun c hc=>h.get c hc (by simp),h.ro⟩
theorem Fr.push {M:List Nat} {H H1:ad} (h:Fr M H H1) (B:cO) (hB:B.ro=false:=by rfl):Fr M H (H1.push B):=h.then ((aG.push H1 B hB).fr M)
theorem Fr.ai {M:List Nat} {H H1:ad} (h:Fr M H H1) {b:Nat} (hb:b∈M∨H.next<=b) (B:cO) (hB:B.ro=false:=by rfl):Fr M H (H1.ai b B):=
 ⟨h.nx,fun c hc hn=>by
  rw [aH,if_neg]
  ·exact h.get c hc hn
  ·rintro rfl;rcases hb with e | e
   ·exact hn e
   ·omega,fun c C hC hr=>by
  rw [aH] at hC
  split at hC
  ·cases hC;rw [hB] at hr;cases hr
  ·exact h.ro c C hC hr⟩
theorem Fr.af {M:List Nat} {H H1:ad} (h:Fr M H H1) (fz:Nat->Bool):Fr M H (H1.af fz):=⟨h.nx,h.get,h.ro⟩
theorem Fr.sub {M M':List Nat} {H H1:ad} (h:Fr M H H1) (hm:∀c∈M,c∈M'∨H.next<=c):Fr M' H H1:=⟨h.nx,fun c hc hn=>h.get c hc fun e=>(hm c e).elim hn fun e=>by omega,h.ro⟩
def Gr {α:Type} (r:Rp α) (ty:TypeId) (H:ad) (v:Value) (l:List α) (m g:List Nat):Prop:=
 (v=.slice none 0 0/\l=[]/\m=[]/\g=[])∨∃b cs,v=.slice (some ⟨b,0,none⟩) l.length l.length/\l≠[]/\m=[b]/\H.get b=some ⟨cs,ty,true,false⟩/\cs.length=l.length * r.sz/\dT r H cs l g/\b∉g
theorem Gr.nil {α:Type} (r:Rp α) (ty:TypeId) (H:ad):Gr r ty H (.slice none 0 0) [] [] []:=.inl ⟨rfl,rfl,rfl,rfl⟩
theorem Gr.sl {α:Type} {r:Rp α} {ty:TypeId} {H:ad} {v:Value} {l:List α} {m g:List Nat} (h:Gr r ty H v l m g):Sl r H v l (m++g):=by
 rcases h with ⟨rfl,rfl,rfl,rfl⟩ | ⟨b,cs,rfl,h2,rfl,h3,h4,h5,_⟩
 ·exact .inl ⟨rfl,rfl,rfl⟩
 ·exact .inr (.inr ⟨b,0,_,_,g,rfl,h2,Nat.le_refl _,rfl,h3,h5⟩)
theorem Gr.ae {α:Type} {r:Rp α} {ty:TypeId} {H H':ad} {v:Value} {l:List α} {m g:List Nat} (h:Gr r ty H v l m g) (hm:∀b∈m,H'.get b=H.get b) (hg:∀b∈g,H'.get b=H.get b):Gr r ty H' v l m g:=by
 rcases h with h | ⟨b,cs,h1,h2,rfl,h3,h4,h5,h6⟩
 ·exact .inl h
 ·exact .inr ⟨b,cs,h1,h2,rfl,by rw [hm b (by simp)];exact h3,h4,h5.ae hg,h6⟩
theorem Gr.val {α:Type} {r:Rp α} {ty:TypeId} {H:ad} {v:Value} {l:List α} {m g:List Nat} (h:Gr r ty H v l m g):∃a,v=.slice a l.length l.length:=by
 rcases h with ⟨rfl,rfl,_⟩ | ⟨b,cs,rfl,_⟩ <;> exact ⟨_,rfl⟩
theorem lA {P:Program} {X:Nat->Bool} {H:ad} {α:Type} {r:Rp α} {t e:TypeId} {dW b':Nat} {v:Value} {l:List α} {x:α} {m g g':List Nat} {B:cO} {K:Value->ad->Prop} {tg:Tag K} (ha:iL P t=some (e,r.sz,dW)) (en:Gr r e H v l m g)
  (hm:∀c∈m,c < H.next) (hg:∀c∈g,c < H.next) (fY:∀c∈g',c < H.next/\c∉m) (hX:∀c∈m,X c=false) (hB:H.get b'=some B) (hE:r.E H B.cells x g') (h1:lC B.cells=true) (hn:(l.length+1) * dW < 140737488355328)
  (hk:∀v' H',Gr r e H' v' (l++[x]) [H.next] (g++g')->H'.next=H.next+1->(∀c,c < H.next->c∉m->H'.get c=H.get c)->Fr m H H'->(∀c,H'.fz c=(c==H.next||H.fz c))->K v' H'):fe P X H (iZ P t v (.slice (some ⟨b',0,none⟩) 1 1) H) K tg:=by
 have hs:=FI (c:=1) hB (r.len hE)
 rcases en with ⟨rfl,rfl,rfl,rfl⟩ | ⟨b,cs,rfl,h2,rfl,h3,h4,h5,h6⟩
 ·rw [LY ha hs (by simpa using hn) (by decide),AI]
  refine hk _ _ (.inr ⟨H.next,B.cells,by simp,by simp,rfl,by rw [aZ,if_pos rfl],by simp [r.len hE],?_,?_⟩) rfl (fun c hc _=>bO hc) ((aG.push H _).fr _) (fun c=>rfl)
  ·rw [List.nil_append,List.nil_append]
   exact dT.one (r.ae hE fun c hc=>bO (fY c hc).1)
  ·intro h;rw [List.nil_append] at h;exact Nat.lt_irrefl _ (fY _ h).1
 ·have hb:=hm b (by simp)
  have DV:∀c,c < H.next->c≠b->(H.grow b ⟨cs++B.cells,e,true,false⟩).get c=H.get c:=fun c hc oY=>by rw [xO,if_neg (by omega),if_neg oY]
  rw [T0 ha hs h3 h4 (by simpa using hn) (by decide) h1,PO (hX b (by simp))]
  refine hk _ _ (.inr ⟨H.next,cs++B.cells,by simp,by simp,rfl,by rw [xO,if_pos rfl],by rw [List.length_append,List.length_append,h4,r.len hE,Nat.add_mul];simp,?_,?_⟩) rfl (fun c hc C0=>DV c hc fun h=>C0 (by simp [h])) ⟨Nat.le_succ _,fun c hc C0=>DV c hc fun h=>C0 (by simp [h]),fun c C hC hr=>by
   rw [xO] at hC
   (repeat' split at hC)
   ·cases hC;cases hr
   ·cases hC
   ·exact hC⟩ (fun c=>rfl)
  ·refine (h5.ae fun y hy=>DV y (hg y hy) fun h=>h6 (by rw [<-h];exact hy)).join h4 (dT.one (r.ae hE fun y hy=>DV y (fY y hy).1 fun h=>(fY y hy).2 (by simp [h])))
  ·intro h
   rcases List.mem_append.1 h with h | h
   ·exact Nat.lt_irrefl _ (hg _ h)
   ·exact Nat.lt_irrefl _ (fY _ h).1
end Go.Proofs.YtebibeaobhcfkaaGreat.Ab
set_option maxRecDepth 100000
namespace Go.Proofs.YtebibeaobhcfkaaGreat.Ab
open Go
theorem mixed:Tryz.prog.follows .mixedOrders=true:=by kernel_rfl
@[go_sem] theorem aBa:gg Tryz.prog 3=some false:=by kernel_rfl
@[go_sem] theorem aBb:dm Tryz.prog 3=some 1:=by kernel_rfl
@[go_sem] theorem aBc:gg Tryz.prog 4=some false:=by kernel_rfl
@[go_sem] theorem aBd:dm Tryz.prog 4=some 1:=by kernel_rfl
@[go_sem] theorem aBe:gg Tryz.prog 9=some false:=by kernel_rfl
@[go_sem] theorem aBf:dm Tryz.prog 9=some 1:=by kernel_rfl
@[go_sem] theorem ayH:gg Tryz.prog 22=some false:=by kernel_rfl
@[go_sem] theorem ayI:dm Tryz.prog 22=some 1:=by kernel_rfl
@[go_sem] theorem ayJ:gg Tryz.prog 25=some false:=by kernel_rfl
@[go_sem] theorem ayK:dm Tryz.prog 25=some 1:=by kernel_rfl
@[go_sem] theorem ayL:gg Tryz.prog 26=some false:=by kernel_rfl
@[go_sem] theorem ayM:dm Tryz.prog 26=some 1:=by kernel_rfl
@[go_sem] theorem ayN:gg Tryz.prog 27=some false:=by kernel_rfl
@[go_sem] theorem ayO:dm Tryz.prog 27=some 1:=by kernel_rfl
@[go_sem] theorem ayP:gg Tryz.prog 28=some false:=by kernel_rfl
@[go_sem] theorem ayQ:dm Tryz.prog 28=some 1:=by kernel_rfl
@[go_sem] theorem ayR:gg Tryz.prog 29=some false:=by kernel_rfl
@[go_sem] theorem ayS:dm Tryz.prog 29=some 1:=by kernel_rfl
@[go_sem] theorem ayT:gg Tryz.prog 31=some true:=by kernel_rfl
@[go_sem] theorem ayU:dm Tryz.prog 31=some 4:=by kernel_rfl
@[go_sem] theorem ayV:gg Tryz.prog 35=some false:=by kernel_rfl
@[go_sem] theorem ayW:dm Tryz.prog 35=some 1:=by kernel_rfl
@[go_sem] theorem ayX:gg Tryz.prog 38=some true:=by kernel_rfl
@[go_sem] theorem ayY:dm Tryz.prog 38=some 3:=by kernel_rfl
@[go_sem] theorem ayZ:gg Tryz.prog 42=some false:=by kernel_rfl
@[go_sem] theorem ay0:dm Tryz.prog 42=some 1:=by kernel_rfl
@[go_sem] theorem ay1:gg Tryz.prog 44=some false:=by kernel_rfl
@[go_sem] theorem ay2:dm Tryz.prog 44=some 1:=by kernel_rfl
@[go_sem] theorem ay3:gg Tryz.prog 45=some false:=by kernel_rfl
@[go_sem] theorem ay4:dm Tryz.prog 45=some 1:=by kernel_rfl
@[go_sem] theorem ay5:gg Tryz.prog 47=some true:=by kernel_rfl
@[go_sem] theorem ay6:dm Tryz.prog 47=some 9:=by kernel_rfl
@[go_sem] theorem ay7:gg Tryz.prog 57=some false:=by kernel_rfl
@[go_sem] theorem ay8:dm Tryz.prog 57=some 1:=by kernel_rfl
@[go_sem] theorem ay9:gg Tryz.prog 59=some true:=by kernel_rfl
@[go_sem] theorem aza:dm Tryz.prog 59=some 20:=by kernel_rfl
@[go_sem] theorem azd:gg Tryz.prog 67=some false:=by kernel_rfl
@[go_sem] theorem aze:dm Tryz.prog 67=some 1:=by kernel_rfl
@[go_sem] theorem azf:gg Tryz.prog 72=some true:=by kernel_rfl
@[go_sem] theorem azg:dm Tryz.prog 72=some 5:=by kernel_rfl
@[go_sem] theorem azh:gg Tryz.prog 79=some false:=by kernel_rfl
@[go_sem] theorem azi:dm Tryz.prog 79=some 1:=by kernel_rfl
@[go_sem] theorem awg:gg Tryz.prog 100=some false:=by kernel_rfl
@[go_sem] theorem awh:dm Tryz.prog 100=some 1:=by kernel_rfl
@[go_sem] theorem awi:gg Tryz.prog 102=some true:=by kernel_rfl
@[go_sem] theorem awj:dm Tryz.prog 102=some 5:=by kernel_rfl
@[go_sem] theorem awk:gg Tryz.prog 104=some true:=by kernel_rfl
@[go_sem] theorem awl:dm Tryz.prog 104=some 6:=by kernel_rfl
@[go_sem] theorem awm:gg Tryz.prog 109=some true:=by kernel_rfl
@[go_sem] theorem awn:dm Tryz.prog 109=some 7:=by kernel_rfl
@[go_sem] theorem awo:gg Tryz.prog 112=some false:=by kernel_rfl
@[go_sem] theorem awp:dm Tryz.prog 112=some 1:=by kernel_rfl
@[go_sem] theorem awq:gg Tryz.prog 114=some true:=by kernel_rfl
@[go_sem] theorem awr:dm Tryz.prog 114=some 4:=by kernel_rfl
@[go_sem] theorem aws:gg Tryz.prog 119=some false:=by kernel_rfl
@[go_sem] theorem awt:dm Tryz.prog 119=some 1:=by kernel_rfl
@[go_sem] theorem awu:gg Tryz.prog 131=some false:=by kernel_rfl
@[go_sem] theorem awv:dm Tryz.prog 131=some 1:=by kernel_rfl
@[go_sem] theorem aww:gg Tryz.prog 137=some true:=by kernel_rfl
@[go_sem] theorem awx:dm Tryz.prog 137=some 2:=by kernel_rfl
@[go_sem] theorem awy:gg Tryz.prog 145=some true:=by kernel_rfl
@[go_sem] theorem awz:dm Tryz.prog 145=some 3:=by kernel_rfl
@[go_sem] theorem awA:gg Tryz.prog 153=some true:=by kernel_rfl
@[go_sem] theorem awB:dm Tryz.prog 153=some 4:=by kernel_rfl
@[go_sem] theorem awC:gg Tryz.prog 186=some false:=by kernel_rfl
@[go_sem] theorem awD:dm Tryz.prog 186=some 1:=by kernel_rfl
@[go_sem] theorem awE:gg Tryz.prog 192=some true:=by kernel_rfl
@[go_sem] theorem awF:dm Tryz.prog 192=some 5:=by kernel_rfl
@[go_sem] theorem avf:cK Tryz.prog 31 0=some 0:=by kernel_rfl
@[go_sem] theorem avg:cK Tryz.prog 31 1=some 1:=by kernel_rfl
@[go_sem] theorem avh:cK Tryz.prog 31 2=some 2:=by kernel_rfl
@[go_sem] theorem avi:cK Tryz.prog 31 3=some 3:=by kernel_rfl
@[go_sem] theorem avj:cK Tryz.prog 38 0=some 0:=by kernel_rfl
@[go_sem] theorem of_38_1:cK Tryz.prog 38 1=some 1:=by kernel_rfl
@[go_sem] theorem of_38_2:cK Tryz.prog 38 2=some 2:=by kernel_rfl
@[go_sem] theorem avk:cK Tryz.prog 47 0=some 0:=by kernel_rfl
@[go_sem] theorem avl:cK Tryz.prog 47 1=some 1:=by kernel_rfl
@[go_sem] theorem avm:cK Tryz.prog 47 2=some 2:=by kernel_rfl
@[go_sem] theorem avn:cK Tryz.prog 47 3=some 3:=by kernel_rfl
@[go_sem] theorem avo:cK Tryz.prog 47 4=some 4:=by kernel_rfl
@[go_sem] theorem avp:cK Tryz.prog 47 5=some 5:=by kernel_rfl
@[go_sem] theorem avq:cK Tryz.prog 47 6=some 6:=by kernel_rfl
@[go_sem] theorem avr:cK Tryz.prog 47 7=some 7:=by kernel_rfl
@[go_sem] theorem avs:cK Tryz.prog 47 8=some 8:=by kernel_rfl
@[go_sem] theorem avt:cK Tryz.prog 59 0=some 0:=by kernel_rfl
@[go_sem] theorem avu:cK Tryz.prog 59 1=some 1:=by kernel_rfl
@[go_sem] theorem avv:cK Tryz.prog 59 2=some 2:=by kernel_rfl
@[go_sem] theorem avw:cK Tryz.prog 59 3=some 3:=by kernel_rfl
@[go_sem] theorem avx:cK Tryz.prog 59 4=some 4:=by kernel_rfl
@[go_sem] theorem avy:cK Tryz.prog 59 5=some 5:=by kernel_rfl
@[go_sem] theorem avz:cK Tryz.prog 59 6=some 6:=by kernel_rfl
@[go_sem] theorem avA:cK Tryz.prog 59 7=some 7:=by kernel_rfl
@[go_sem] theorem avB:cK Tryz.prog 59 8=some 8:=by kernel_rfl
@[go_sem] theorem avC:cK Tryz.prog 59 9=some 9:=by kernel_rfl
@[go_sem] theorem atQ:cK Tryz.prog 59 10=some 10:=by kernel_rfl
@[go_sem] theorem atS:cK Tryz.prog 59 11=some 11:=by kernel_rfl
@[go_sem] theorem atT:cK Tryz.prog 59 12=some 12:=by kernel_rfl
@[go_sem] theorem atU:cK Tryz.prog 59 13=some 13:=by kernel_rfl
@[go_sem] theorem atV:cK Tryz.prog 59 14=some 14:=by kernel_rfl
@[go_sem] theorem atW:cK Tryz.prog 59 15=some 15:=by kernel_rfl
@[go_sem] theorem atX:cK Tryz.prog 59 16=some 16:=by kernel_rfl
@[go_sem] theorem atY:cK Tryz.prog 59 17=some 17:=by kernel_rfl
@[go_sem] theorem atZ:cK Tryz.prog 59 18=some 18:=by kernel_rfl
@[go_sem] theorem at0:cK Tryz.prog 59 19=some 19:=by kernel_rfl
@[go_sem] theorem avF:cK Tryz.prog 72 0=some 0:=by kernel_rfl
@[go_sem] theorem avG:cK Tryz.prog 72 1=some 1:=by kernel_rfl
@[go_sem] theorem avH:cK Tryz.prog 72 2=some 2:=by kernel_rfl
@[go_sem] theorem avI:cK Tryz.prog 72 3=some 3:=by kernel_rfl
@[go_sem] theorem avJ:cK Tryz.prog 72 4=some 4:=by kernel_rfl
@[go_sem] theorem avK:cK Tryz.prog 82 0=some 0:=by kernel_rfl
@[go_sem] theorem avL:cK Tryz.prog 82 1=some 4:=by kernel_rfl
@[go_sem] theorem avM:cK Tryz.prog 82 2=some 5:=by kernel_rfl
@[go_sem] theorem avN:cK Tryz.prog 82 3=some 6:=by kernel_rfl
@[go_sem] theorem avO:cK Tryz.prog 82 4=some 7:=by kernel_rfl
@[go_sem] theorem avP:cK Tryz.prog 82 5=some 8:=by kernel_rfl
@[go_sem] theorem at2:cK Tryz.prog 102 0=some 0:=by kernel_rfl
@[go_sem] theorem at3:cK Tryz.prog 102 1=some 1:=by kernel_rfl
@[go_sem] theorem at4:cK Tryz.prog 102 2=some 2:=by kernel_rfl
@[go_sem] theorem at5:cK Tryz.prog 102 3=some 3:=by kernel_rfl
@[go_sem] theorem at6:cK Tryz.prog 102 4=some 4:=by kernel_rfl
@[go_sem] theorem at7:cK Tryz.prog 104 0=some 0:=by kernel_rfl
@[go_sem] theorem at8:cK Tryz.prog 104 1=some 1:=by kernel_rfl
@[go_sem] theorem at9:cK Tryz.prog 109 0=some 0:=by kernel_rfl
@[go_sem] theorem aua:cK Tryz.prog 109 1=some 1:=by kernel_rfl
@[go_sem] theorem aub:cK Tryz.prog 109 2=some 2:=by kernel_rfl
@[go_sem] theorem auc:cK Tryz.prog 109 3=some 3:=by kernel_rfl
@[go_sem] theorem aud:cK Tryz.prog 109 4=some 4:=by kernel_rfl
@[go_sem] theorem aue:cK Tryz.prog 109 5=some 5:=by kernel_rfl
@[go_sem] theorem auf:cK Tryz.prog 109 6=some 6:=by kernel_rfl
@[go_sem] theorem aug:cK Tryz.prog 114 0=some 0:=by kernel_rfl
@[go_sem] theorem auh:cK Tryz.prog 114 1=some 1:=by kernel_rfl
@[go_sem] theorem aui:cK Tryz.prog 114 2=some 2:=by kernel_rfl
@[go_sem] theorem auj:cK Tryz.prog 114 3=some 3:=by kernel_rfl
@[go_sem] theorem auk:cK Tryz.prog 121 0=some 0:=by kernel_rfl
@[go_sem] theorem aul:cK Tryz.prog 121 1=some 1:=by kernel_rfl
@[go_sem] theorem aum:cK Tryz.prog 121 2=some 2:=by kernel_rfl
@[go_sem] theorem aun:cK Tryz.prog 121 3=some 3:=by kernel_rfl
@[go_sem] theorem auo:cK Tryz.prog 121 4=some 4:=by kernel_rfl
@[go_sem] theorem aup:cK Tryz.prog 121 5=some 5:=by kernel_rfl
@[go_sem] theorem auq:cK Tryz.prog 121 6=some 6:=by kernel_rfl
@[go_sem] theorem aur:cK Tryz.prog 123 0=some 0:=by kernel_rfl
@[go_sem] theorem aus:cK Tryz.prog 123 1=some 1:=by kernel_rfl
@[go_sem] theorem aut:cK Tryz.prog 127 0=some 0:=by kernel_rfl
@[go_sem] theorem auu:cK Tryz.prog 127 1=some 4:=by kernel_rfl
@[go_sem] theorem auv:cK Tryz.prog 127 2=some 8:=by kernel_rfl
@[go_sem] theorem auw:cK Tryz.prog 133 0=some 0:=by kernel_rfl
@[go_sem] theorem auy:cK Tryz.prog 133 1=some 4:=by kernel_rfl
@[go_sem] theorem auz:cK Tryz.prog 133 2=some 5:=by kernel_rfl
@[go_sem] theorem auA:cK Tryz.prog 133 3=some 6:=by kernel_rfl
@[go_sem] theorem auB:cK Tryz.prog 133 4=some 7:=by kernel_rfl
@[go_sem] theorem auC:cK Tryz.prog 133 5=some 8:=by kernel_rfl
@[go_sem] theorem auD:cK Tryz.prog 133 6=some 9:=by kernel_rfl
@[go_sem] theorem auE:cK Tryz.prog 137 0=some 0:=by kernel_rfl
@[go_sem] theorem auF:cK Tryz.prog 137 1=some 1:=by kernel_rfl
@[go_sem] theorem auG:cK Tryz.prog 145 0=some 0:=by kernel_rfl
@[go_sem] theorem auH:cK Tryz.prog 145 1=some 1:=by kernel_rfl
@[go_sem] theorem auI:cK Tryz.prog 145 2=some 2:=by kernel_rfl
@[go_sem] theorem auJ:cK Tryz.prog 153 0=some 0:=by kernel_rfl
@[go_sem] theorem auK:cK Tryz.prog 153 1=some 1:=by kernel_rfl
@[go_sem] theorem auL:cK Tryz.prog 192 0=some 0:=by kernel_rfl
@[go_sem] theorem auM:cK Tryz.prog 192 1=some 1:=by kernel_rfl
@[go_sem] theorem auN:cK Tryz.prog 192 3=some 3:=by kernel_rfl
@[go_sem] theorem auO:cK Tryz.prog 192 4=some 4:=by kernel_rfl
@[go_sem] theorem avR:Gm Tryz.prog 72 0=some (3,0):=by kernel_rfl
@[go_sem] theorem avS:Gm Tryz.prog 72 2=some (3,2):=by kernel_rfl
@[go_sem] theorem avT:Gm Tryz.prog 72 3=some (3,3):=by kernel_rfl
@[go_sem] theorem avU:Gm Tryz.prog 72 4=some (9,4):=by kernel_rfl
@[go_sem] theorem ama:iF Tryz.prog 22=some (3,1):=by kernel_rfl
@[go_sem] theorem U1:iF Tryz.prog 25=some (9,1):=by kernel_rfl
@[go_sem] theorem azj:iF Tryz.prog 26=some (114,4):=by kernel_rfl
@[go_sem] theorem azk:iF Tryz.prog 27=some (153,4):=by kernel_rfl
@[go_sem] theorem azl:iF Tryz.prog 28=some (47,9):=by kernel_rfl
@[go_sem] theorem azm:iF Tryz.prog 29=some (59,20):=by kernel_rfl
@[go_sem] theorem azn:iF Tryz.prog 35=some (22,1):=by kernel_rfl
@[go_sem] theorem azo:iF Tryz.prog 42=some (104,6):=by kernel_rfl
@[go_sem] theorem azp:iF Tryz.prog 44=some (192,5):=by kernel_rfl
@[go_sem] theorem azq:iF Tryz.prog 45=some (109,7):=by kernel_rfl
@[go_sem] theorem azr:iF Tryz.prog 57=some (145,3):=by kernel_rfl
@[go_sem] theorem azt:iF Tryz.prog 67=some (72,5):=by kernel_rfl
@[go_sem] theorem azu:iF Tryz.prog 79=some (4,1):=by kernel_rfl
@[go_sem] theorem awG:iF Tryz.prog 112=some (102,5):=by kernel_rfl
@[go_sem] theorem awH:iF Tryz.prog 131=some (137,2):=by kernel_rfl
@[go_sem] theorem awI:iF Tryz.prog 186=some (100,1):=by kernel_rfl
@[go_sem] theorem awJ:iF Tryz.prog 194=some (131,1):=by kernel_rfl
theorem iR:iL Tryz.prog 22=some (3,1,8):=by kernel_rfl
theorem wH:iL Tryz.prog 25=some (9,1,16):=by kernel_rfl
theorem QI:iL Tryz.prog 26=some (114,4,56):=by kernel_rfl
theorem acO:iL Tryz.prog 27=some (153,4,56):=by kernel_rfl
theorem xU:iL Tryz.prog 28=some (47,9,128):=by kernel_rfl
theorem Mr:iL Tryz.prog 29=some (59,20,240):=by kernel_rfl
theorem acP:iL Tryz.prog 35=some (22,1,24):=by kernel_rfl
theorem F4:iL Tryz.prog 42=some (104,6,80):=by kernel_rfl
theorem U2:iL Tryz.prog 44=some (192,5,48):=by kernel_rfl
theorem A3:iL Tryz.prog 45=some (109,7,104):=by kernel_rfl
theorem rz:iL Tryz.prog 57=some (145,3,32):=by kernel_rfl
theorem JG:iL Tryz.prog 67=some (72,5,48):=by kernel_rfl
theorem amc:iL Tryz.prog 79=some (4,1,1):=by kernel_rfl
theorem Md:iL Tryz.prog 112=some (102,5,64):=by kernel_rfl
theorem ap_116:iL Tryz.prog 116=some (5,1,1):=by kernel_rfl
theorem AS:iL Tryz.prog 131=some (137,2,24):=by kernel_rfl
theorem aiL:iL Tryz.prog 186=some (100,1,8):=by kernel_rfl
theorem aiM:iL Tryz.prog 194=some (131,1,24):=by kernel_rfl
@[go_sem] theorem azv:xh Tryz.prog 31=some [(0,1),(1,1),(2,1),(3,1)]:=by kernel_rfl
@[go_sem] theorem azw:xh Tryz.prog 38=some [(0,1),(1,1),(2,1)]:=by kernel_rfl
@[go_sem] theorem azy:xh Tryz.prog 82=some [(0,4),(4,1),(5,1),(6,1),(7,1),(8,1)]:=by kernel_rfl
@[go_sem] theorem awK:xh Tryz.prog 102=some [(0,1),(1,1),(2,1),(3,1),(4,1)]:=by kernel_rfl
@[go_sem] theorem awL:xh Tryz.prog 109=some [(0,1),(1,1),(2,1),(3,1),(4,1),(5,1),(6,1)]:=by kernel_rfl
@[go_sem] theorem awM:xh Tryz.prog 121=some [(0,1),(1,1),(2,1),(3,1),(4,1),(5,1),(6,1)]:=by kernel_rfl
@[go_sem] theorem awN:xh Tryz.prog 123=some [(0,1),(1,4)]:=by kernel_rfl
@[go_sem] theorem awO:xh Tryz.prog 145=some [(0,1),(1,1),(2,1)]:=by kernel_rfl
@[go_sem] theorem awP:xh Tryz.prog 192=some [(0,1),(1,1),(2,1),(3,1),(4,1)]:=by kernel_rfl
@[go_sem] theorem aBg:fx Tryz.prog 3=some [.int .i64 0]:=by kernel_rfl
@[go_sem] theorem azz:fx Tryz.prog 22=some [.slice none 0 0]:=by kernel_rfl
@[go_sem] theorem azA:fx Tryz.prog 31=some [.slice none 0 0,.slice none 0 0,.slice none 0 0,.slice none 0 0]:=by kernel_rfl
@[go_sem] theorem azB:fx Tryz.prog 38=some [.int .i64 0,.int .i64 0,.int .i64 0]:=by kernel_rfl
@[go_sem] theorem azC:fx Tryz.prog 47=some [.string ⟨#[]⟩,.slice none 0 0,.int .i64 0,.int .i64 0,.int .i64 0,.int .i64 0,.bool false,.slice none 0 0,.slice none 0 0]:=by kernel_rfl
@[go_sem] theorem azD:fx Tryz.prog 59=some [.int .i64 0,.int .i64 0,.int .i64 0,.int .i64 0,.int .i64 0,.int .i64 0,.int .i64 0,.int .i64 0,.int .i64 0,.int .i64 0,.int .i64 0,.int .i64 0,.int .i64 0,.string ⟨#[]⟩,.string ⟨#[]⟩,.string ⟨#[]⟩,.string ⟨#[]⟩,.slice none 0 0,.slice none 0 0,.slice none 0 0]:=by kernel_rfl
@[go_sem] theorem azF:fx Tryz.prog 72=some [.int .i64 0,.int .i64 0,.int .i64 0,.int .i64 0,.string ⟨#[]⟩]:=by kernel_rfl
@[go_sem] theorem azG:fx Tryz.prog 82=some [.slice none 0 0,.slice none 0 0,.slice none 0 0,.slice none 0 0,.int .i64 0,.slice none 0 0,.slice none 0 0,.slice none 0 0,.slice none 0 0]:=by kernel_rfl
@[go_sem] theorem awQ:fx Tryz.prog 102=some [.int .i64 0,.int .i64 0,.int .i64 0,.string ⟨#[]⟩,.slice none 0 0]:=by kernel_rfl
@[go_sem] theorem awR:fx Tryz.prog 104=some [.string ⟨#[]⟩,.int .i64 0,.int .i64 0,.int .i64 0,.string ⟨#[]⟩,.slice none 0 0]:=by kernel_rfl
@[go_sem] theorem awS:fx Tryz.prog 109=some [.int .i64 0,.int .i64 0,.int .i64 0,.string ⟨#[]⟩,.string ⟨#[]⟩,.slice none 0 0,.slice none 0 0]:=by kernel_rfl
@[go_sem] theorem awT:fx Tryz.prog 114=some [.string ⟨#[]⟩,.slice none 0 0,.int .i64 0,.int .i64 0]:=by kernel_rfl
@[go_sem] theorem awU:fx Tryz.prog 121=some [.slice none 0 0,.int .i64 0,.slice none 0 0,.bool false,.int .i64 0,.int .i64 0,.slice none 0 0]:=by kernel_rfl
@[go_sem] theorem awV:fx Tryz.prog 123=some [.pointer none,.slice none 0 0,.slice none 0 0,.slice none 0 0,.slice none 0 0]:=by kernel_rfl
@[go_sem] theorem awW:fx Tryz.prog 137=some [.string ⟨#[]⟩,.int .i64 0]:=by kernel_rfl
@[go_sem] theorem awX:fx Tryz.prog 145=some [.int .i64 0,.int .i64 0,.string ⟨#[]⟩]:=by kernel_rfl
@[go_sem] theorem awY:fx Tryz.prog 153=some [.string ⟨#[]⟩,.slice none 0 0,.int .i64 0,.int .i64 0]:=by kernel_rfl
@[go_sem] theorem awZ:fx Tryz.prog 186=some [.slice none 0 0]:=by kernel_rfl
@[go_sem] theorem aw0:fx Tryz.prog 192=some [.int .i64 0,.int .i64 0,.int .i64 0,.int .i64 0,.string ⟨#[]⟩]:=by kernel_rfl
@[go_sem] theorem azH:Tryz.prog.underlying 22=some (Go.TypeDesc.slice 3):=by kernel_rfl
@[go_sem] theorem azI:Tryz.prog.underlying 25=some (Go.TypeDesc.slice 9):=by kernel_rfl
@[go_sem] theorem azJ:Tryz.prog.underlying 26=some (Go.TypeDesc.slice 114):=by kernel_rfl
@[go_sem] theorem azK:Tryz.prog.underlying 27=some (Go.TypeDesc.slice 153):=by kernel_rfl
@[go_sem] theorem azL:Tryz.prog.underlying 28=some (Go.TypeDesc.slice 47):=by kernel_rfl
@[go_sem] theorem azM:Tryz.prog.underlying 29=some (Go.TypeDesc.slice 59):=by kernel_rfl
@[go_sem] theorem azN:Tryz.prog.underlying 35=some (Go.TypeDesc.slice 22):=by kernel_rfl
@[go_sem] theorem azO:Tryz.prog.underlying 42=some (Go.TypeDesc.slice 104):=by kernel_rfl
@[go_sem] theorem azP:Tryz.prog.underlying 44=some (Go.TypeDesc.slice 192):=by kernel_rfl
@[go_sem] theorem azQ:Tryz.prog.underlying 45=some (Go.TypeDesc.slice 109):=by kernel_rfl
@[go_sem] theorem azR:Tryz.prog.underlying 57=some (Go.TypeDesc.slice 145):=by kernel_rfl
@[go_sem] theorem azS:Tryz.prog.underlying 67=some (Go.TypeDesc.slice 72):=by kernel_rfl
@[go_sem] theorem aw1:Tryz.prog.underlying 112=some (Go.TypeDesc.slice 102):=by kernel_rfl
@[go_sem] theorem aw2:Tryz.prog.underlying 131=some (Go.TypeDesc.slice 137):=by kernel_rfl
abbrev bV (n:FuncId) (c a:List Value):Prop:=xS Tryz.prog (.func (.func n) #[] (List.toArray c)) (List.toArray a)=.call n (List.toArray (a++c))
section
variable {l c a:List Value} {H:ad} {K:Value->ad->Prop}
theorem ok_5:bK Tryz.prog [] 5=true:=by kernel_rfl
theorem amd:bK Tryz.prog [] 10=true:=by kernel_rfl
@[go_sem] theorem azT:bV 10 c a:=bU Tryz.func10 (by kernel_rfl) (by kernel_rfl)
theorem ame:bK Tryz.prog [] 12=true:=by kernel_rfl
@[go_sem] theorem azU:bV 12 c a:=bU Tryz.func12 (by kernel_rfl) (by kernel_rfl)
theorem amf:bK Tryz.prog [] 14=true:=by kernel_rfl
@[go_sem] theorem azV:bV 14 c a:=bU Tryz.func14 (by kernel_rfl) (by kernel_rfl)
theorem amg:bK Tryz.prog [] 16=true:=by kernel_rfl
@[go_sem] theorem azW:bV 16 c a:=bU Tryz.func16 (by kernel_rfl) (by kernel_rfl)
theorem amh:bK Tryz.prog [] 19=true:=by kernel_rfl
@[go_sem] theorem azX:bV 19 c a:=bU Tryz.func19 (by kernel_rfl) (by kernel_rfl)
theorem ami (hl:l.length<=2) (h:bY H->wC Tryz.prog H.fz [] (Tryz.f19.body.getD .skip) (cj l) H (cm Tryz.prog [.tmp 4] K)):aj Tryz.prog 19 l.toArray H K:=cE [] mixed Tryz.func19 amh hl (by decide) rfl h
theorem amj:bK Tryz.prog [(4,[(0,5),(5,7),(0,9)]),(5,[(3,5)])] 21=true:=by kernel_rfl
@[go_sem] theorem azY:bV 21 c a:=bU Tryz.func21 (by kernel_rfl) (by kernel_rfl)
theorem ok_24:bK Tryz.prog [] 24=true:=by kernel_rfl
@[go_sem] theorem cl_24:bV 24 c a:=bU Tryz.func24 (by kernel_rfl) (by kernel_rfl)
theorem fw_24 (hl:l.length<=1) (h:bY H->wC Tryz.prog H.fz [] (Tryz.f24.body.getD .skip) (cj l) H (cm Tryz.prog [.tmp 2] K)):aj Tryz.prog 24 l.toArray H K:=cE [] mixed Tryz.func24 ok_24 hl (by decide) rfl h
theorem amk:bK Tryz.prog [] 25=true:=by kernel_rfl
@[go_sem] theorem azZ:bV 25 c a:=bU Tryz.func25 (by kernel_rfl) (by kernel_rfl)
theorem aml (hl:l.length<=1) (h:bY H->wC Tryz.prog H.fz [] (Tryz.f25.body.getD .skip) (cj l) H (cm Tryz.prog [.tmp 2] K)):aj Tryz.prog 25 l.toArray H K:=cE [] mixed Tryz.func25 amk hl (by decide) rfl h
theorem amm:bK Tryz.prog [] 26=true:=by kernel_rfl
@[go_sem] theorem az0:bV 26 c a:=bU Tryz.func26 (by kernel_rfl) (by kernel_rfl)
theorem amn (hl:l.length<=2) (h:bY H->wC Tryz.prog H.fz [] (Tryz.f26.body.getD .skip) (cj l) H (cm Tryz.prog [.tmp 4] K)):aj Tryz.prog 26 l.toArray H K:=cE [] mixed Tryz.func26 amm hl (by decide) rfl h
theorem amo:bK Tryz.prog [] 28=true:=by kernel_rfl
@[go_sem] theorem az1:bV 28 c a:=bU Tryz.func28 (by kernel_rfl) (by kernel_rfl)
theorem amp (hl:l.length<=1) (h:bY H->wC Tryz.prog H.fz [] (Tryz.f28.body.getD .skip) (cj l) H (cm Tryz.prog [.tmp 2,.tmp 3,.tmp 4,.tmp 5] K)):aj Tryz.prog 28 l.toArray H K:=cE [] mixed Tryz.func28 amo hl (by decide) rfl h
theorem amq:bK Tryz.prog [] 31=true:=by kernel_rfl
@[go_sem] theorem az2:bV 31 c a:=bU Tryz.func31 (by kernel_rfl) (by kernel_rfl)
theorem amr (hl:l.length<=1) (h:bY H->wC Tryz.prog H.fz [] (Tryz.f31.body.getD .skip) (cj l) H (cm Tryz.prog [.cell 2 31,.tmp 3,.tmp 4,.tmp 5] K)):aj Tryz.prog 31 l.toArray H K:=cE [] mixed Tryz.func31 amq hl (by decide) rfl h
theorem ams:bK Tryz.prog [] 33=true:=by kernel_rfl
@[go_sem] theorem az3:bV 33 c a:=bU Tryz.func33 (by kernel_rfl) (by kernel_rfl)
theorem amt (hl:l.length<=1) (h:bY H->wC Tryz.prog H.fz [] (Tryz.f33.body.getD .skip) (cj l) H (cm Tryz.prog [.tmp 2] K)):aj Tryz.prog 33 l.toArray H K:=cE [] mixed Tryz.func33 ams hl (by decide) rfl h
theorem amu:bK Tryz.prog [] 34=true:=by kernel_rfl
@[go_sem] theorem az4:bV 34 c a:=bU Tryz.func34 (by kernel_rfl) (by kernel_rfl)
theorem amv (hl:l.length<=2) (h:bY H->wC Tryz.prog H.fz [] (Tryz.f34.body.getD .skip) (cj l) H (cm Tryz.prog [.tmp 4] K)):aj Tryz.prog 34 l.toArray H K:=cE [] mixed Tryz.func34 amu hl (by decide) rfl h
theorem amw:bK Tryz.prog [] 39=true:=by kernel_rfl
@[go_sem] theorem az5:bV 39 c a:=bU Tryz.func39 (by kernel_rfl) (by kernel_rfl)
theorem amx (hl:l.length<=2) (h:bY H->wC Tryz.prog H.fz [] (Tryz.f39.body.getD .skip) (cj l) H (cm Tryz.prog [.tmp 4] K)):aj Tryz.prog 39 l.toArray H K:=cE [] mixed Tryz.func39 amw hl (by decide) rfl h
theorem amy:bK Tryz.prog [] 40=true:=by kernel_rfl
@[go_sem] theorem az6:bV 40 c a:=bU Tryz.func40 (by kernel_rfl) (by kernel_rfl)
theorem amz:bK Tryz.prog [] 41=true:=by kernel_rfl
@[go_sem] theorem az7:bV 41 c a:=bU Tryz.func41 (by kernel_rfl) (by kernel_rfl)
theorem amA:bK Tryz.prog [] 42=true:=by kernel_rfl
@[go_sem] theorem az8:bV 42 c a:=bU Tryz.func42 (by kernel_rfl) (by kernel_rfl)
theorem amB (hl:l.length<=1) (h:bY H->wC Tryz.prog H.fz [] (Tryz.f42.body.getD .skip) (cj l) H (cm Tryz.prog [.tmp 2] K)):aj Tryz.prog 42 l.toArray H K:=cE [] mixed Tryz.func42 amA hl (by decide) rfl h
theorem ok_46:bK Tryz.prog [] 46=true:=by kernel_rfl
@[go_sem] theorem cl_46:bV 46 c a:=bU Tryz.func46 (by kernel_rfl) (by kernel_rfl)
theorem fw_46 (hl:l.length<=1) (h:bY H->wC Tryz.prog H.fz [] (Tryz.f46.body.getD .skip) (cj l) H (cm Tryz.prog [.tmp 2] K)):aj Tryz.prog 46 l.toArray H K:=cE [] mixed Tryz.func46 ok_46 hl (by decide) rfl h
theorem amC:bK Tryz.prog [] 47=true:=by kernel_rfl
@[go_sem] theorem az9:bV 47 c a:=bU Tryz.func47 (by kernel_rfl) (by kernel_rfl)
theorem acQ (hl:l.length<=1) (h:bY H->wC Tryz.prog H.fz [] (Tryz.f47.body.getD .skip) (cj l) H (cm Tryz.prog [.tmp 2] K)):aj Tryz.prog 47 l.toArray H K:=cE [] mixed Tryz.func47 amC hl (by decide) rfl h
theorem amD:bK Tryz.prog [] 48=true:=by kernel_rfl
@[go_sem] theorem aAa:bV 48 c a:=bU Tryz.func48 (by kernel_rfl) (by kernel_rfl)
theorem amE (hl:l.length<=3) (h:bY H->wC Tryz.prog H.fz [] (Tryz.f48.body.getD .skip) (cj l) H (cm Tryz.prog [] K)):aj Tryz.prog 48 l.toArray H K:=cE [] mixed Tryz.func48 amD hl (by decide) rfl h
theorem amF:bK Tryz.prog [] 51=true:=by kernel_rfl
@[go_sem] theorem aAb:bV 51 c a:=bU Tryz.func51 (by kernel_rfl) (by kernel_rfl)
theorem amG (hl:l.length<=2) (h:bY H->wC Tryz.prog H.fz [] (Tryz.f51.body.getD .skip) (cj l) H (cm Tryz.prog [.tmp 4,.tmp 5] K)):aj Tryz.prog 51 l.toArray H K:=cE [] mixed Tryz.func51 amF hl (by decide) rfl h
theorem amH:bK Tryz.prog [] 52=true:=by kernel_rfl
@[go_sem] theorem aAc:bV 52 c a:=bU Tryz.func52 (by kernel_rfl) (by kernel_rfl)
theorem amI (hl:l.length<=1) (h:bY H->wC Tryz.prog H.fz [] (Tryz.f52.body.getD .skip) (cj l) H (cm Tryz.prog [.tmp 2] K)):aj Tryz.prog 52 l.toArray H K:=cE [] mixed Tryz.func52 amH hl (by decide) rfl h
theorem amJ:bK Tryz.prog [] 53=true:=by kernel_rfl
@[go_sem] theorem aAd:bV 53 c a:=bU Tryz.func53 (by kernel_rfl) (by kernel_rfl)
theorem amK (hl:l.length<=1) (h:bY H->wC Tryz.prog H.fz [] (Tryz.f53.body.getD .skip) (cj l) H (cm Tryz.prog [.tmp 2] K)):aj Tryz.prog 53 l.toArray H K:=cE [] mixed Tryz.func53 amJ hl (by decide) rfl h
theorem amL:bK Tryz.prog [(8,[(2,10),(5,10),(2,13),(5,13),(10,14),(13,14)])] 54=true:=by kernel_rfl
@[go_sem] theorem aAe:bV 54 c a:=bU Tryz.func54 (by kernel_rfl) (by kernel_rfl)
theorem amM:bK Tryz.prog [(4,[(5,8)]),(5,[(2,5),(4,5)]),(8,[(5,9)]),(13,[(5,8)]),(23,[(2,5),(4,5)]),(29,[(2,5),(4,5)])] 55=true:=by kernel_rfl
@[go_sem] theorem aAf:bV 55 c a:=bU Tryz.func55 (by kernel_rfl) (by kernel_rfl)
theorem amN:bK Tryz.prog [(19,[(4,13),(8,13),(12,13)])] 56=true:=by kernel_rfl
@[go_sem] theorem aAg:bV 56 c a:=bU Tryz.func56 (by kernel_rfl) (by kernel_rfl)
theorem amO:bK Tryz.prog [] 57=true:=by kernel_rfl
@[go_sem] theorem aAh:bV 57 c a:=bU Tryz.func57 (by kernel_rfl) (by kernel_rfl)
theorem amP (hl:l.length<=3) (h:bY H->wC Tryz.prog H.fz [] (Tryz.f57.body.getD .skip) (cj l) H (cm Tryz.prog [.tmp 6] K)):aj Tryz.prog 57 l.toArray H K:=cE [] mixed Tryz.func57 amO hl (by decide) rfl h
theorem amQ:bK Tryz.prog [] 58=true:=by kernel_rfl
@[go_sem] theorem aAi:bV 58 c a:=bU Tryz.func58 (by kernel_rfl) (by kernel_rfl)
theorem amR (hl:l.length<=2) (h:bY H->wC Tryz.prog H.fz [] (Tryz.f58.body.getD .skip) (cj l) H (cm Tryz.prog [.tmp 4] K)):aj Tryz.prog 58 l.toArray H K:=cE [] mixed Tryz.func58 amQ hl (by decide) rfl h
theorem amS:bK Tryz.prog [] 59=true:=by kernel_rfl
@[go_sem] theorem aAj:bV 59 c a:=bU Tryz.func59 (by kernel_rfl) (by kernel_rfl)
theorem amT (hl:l.length<=1) (h:bY H->wC Tryz.prog H.fz [] (Tryz.f59.body.getD .skip) (cj l) H (cm Tryz.prog [.tmp 2] K)):aj Tryz.prog 59 l.toArray H K:=cE [] mixed Tryz.func59 amS hl (by decide) rfl h
theorem amU:bK Tryz.prog [] 60=true:=by kernel_rfl
@[go_sem] theorem aAk:bV 60 c a:=bU Tryz.func60 (by kernel_rfl) (by kernel_rfl)
theorem amV (hl:l.length<=1) (h:bY H->wC Tryz.prog H.fz [] (Tryz.f60.body.getD .skip) (cj l) H (cm Tryz.prog [.tmp 2] K)):aj Tryz.prog 60 l.toArray H K:=cE [] mixed Tryz.func60 amU hl (by decide) rfl h
theorem amW:bK Tryz.prog [] 61=true:=by kernel_rfl
@[go_sem] theorem aAl:bV 61 c a:=bU Tryz.func61 (by kernel_rfl) (by kernel_rfl)
theorem amX (hl:l.length<=1) (h:bY H->wC Tryz.prog H.fz [] (Tryz.f61.body.getD .skip) (cj l) H (cm Tryz.prog [.tmp 2] K)):aj Tryz.prog 61 l.toArray H K:=cE [] mixed Tryz.func61 amW hl (by decide) rfl h
theorem amY:bK Tryz.prog [] 62=true:=by kernel_rfl
@[go_sem] theorem aAm:bV 62 c a:=bU Tryz.func62 (by kernel_rfl) (by kernel_rfl)
theorem amZ (hl:l.length<=2) (h:bY H->wC Tryz.prog H.fz [] (Tryz.f62.body.getD .skip) (cj l) H (cm Tryz.prog [.tmp 4] K)):aj Tryz.prog 62 l.toArray H K:=cE [] mixed Tryz.func62 amY hl (by decide) rfl h
theorem am0:bK Tryz.prog [(16,[(2,4)]),(17,[(2,4)]),(28,[(3,5)])] 63=true:=by kernel_rfl
@[go_sem] theorem aAn:bV 63 c a:=bU Tryz.func63 (by kernel_rfl) (by kernel_rfl)
theorem am1:bK Tryz.prog [] 64=true:=by kernel_rfl
@[go_sem] theorem aAo:bV 64 c a:=bU Tryz.func64 (by kernel_rfl) (by kernel_rfl)
theorem am2 (hl:l.length<=2) (h:bY H->wC Tryz.prog H.fz [] (Tryz.f64.body.getD .skip) (cj l) H (cm Tryz.prog [.tmp 4] K)):aj Tryz.prog 64 l.toArray H K:=cE [] mixed Tryz.func64 am1 hl (by decide) rfl h
theorem am3:bK Tryz.prog [] 70=true:=by kernel_rfl
@[go_sem] theorem aAp:bV 70 c a:=bU Tryz.func70 (by kernel_rfl) (by kernel_rfl)
theorem am4 (hl:l.length<=1) (h:bY H->wC Tryz.prog H.fz [] (Tryz.f70.body.getD .skip) (cj l) H (cm Tryz.prog [.tmp 2] K)):aj Tryz.prog 70 l.toArray H K:=cE [] mixed Tryz.func70 am3 hl (by decide) rfl h
theorem am5:bK Tryz.prog [] 71=true:=by kernel_rfl
@[go_sem] theorem aAq:bV 71 c a:=bU Tryz.func71 (by kernel_rfl) (by kernel_rfl)
theorem am6 (hl:l.length<=1) (h:bY H->wC Tryz.prog H.fz [] (Tryz.f71.body.getD .skip) (cj l) H (cm Tryz.prog [.tmp 2] K)):aj Tryz.prog 71 l.toArray H K:=cE [] mixed Tryz.func71 am5 hl (by decide) rfl h
theorem am7:bK Tryz.prog [] 72=true:=by kernel_rfl
@[go_sem] theorem aAr:bV 72 c a:=bU Tryz.func72 (by kernel_rfl) (by kernel_rfl)
theorem am8 (hl:l.length<=1) (h:bY H->wC Tryz.prog H.fz [] (Tryz.f72.body.getD .skip) (cj l) H (cm Tryz.prog [.tmp 2] K)):aj Tryz.prog 72 l.toArray H K:=cE [] mixed Tryz.func72 am7 hl (by decide) rfl h
theorem am9:bK Tryz.prog [] 73=true:=by kernel_rfl
@[go_sem] theorem aAs:bV 73 c a:=bU Tryz.func73 (by kernel_rfl) (by kernel_rfl)
theorem ana (hl:l.length<=0) (h:bY H->wC Tryz.prog H.fz [] (Tryz.f73.body.getD .skip) (cj l) H (cm Tryz.prog [.tmp 0] K)):aj Tryz.prog 73 l.toArray H K:=cE [] mixed Tryz.func73 am9 hl (by decide) rfl h
theorem anb:bK Tryz.prog [] 74=true:=by kernel_rfl
@[go_sem] theorem aAt:bV 74 c a:=bU Tryz.func74 (by kernel_rfl) (by kernel_rfl)
theorem anc (hl:l.length<=1) (h:bY H->wC Tryz.prog H.fz [] (Tryz.f74.body.getD .skip) (cj l) H (cm Tryz.prog [.tmp 2] K)):aj Tryz.prog 74 l.toArray H K:=cE [] mixed Tryz.func74 anb hl (by decide) rfl h
theorem ane:bK Tryz.prog [] 75=true:=by kernel_rfl
@[go_sem] theorem aAu:bV 75 c a:=bU Tryz.func75 (by kernel_rfl) (by kernel_rfl)
theorem anf (hl:l.length<=1) (h:bY H->wC Tryz.prog H.fz [] (Tryz.f75.body.getD .skip) (cj l) H (cm Tryz.prog [.cell 2 72] K)):aj Tryz.prog 75 l.toArray H K:=cE [] mixed Tryz.func75 ane hl (by decide) rfl h
theorem ang:bK Tryz.prog [(6,[(1,5),(3,5)]),(14,[(1,5),(3,5)])] 76=true:=by kernel_rfl
@[go_sem] theorem aAv:bV 76 c a:=bU Tryz.func76 (by kernel_rfl) (by kernel_rfl)
theorem anh (hl:l.length<=1) (h:bY H->wC Tryz.prog H.fz [(6,[(1,5),(3,5)]),(14,[(1,5),(3,5)])] (Tryz.f76.body.getD .skip) (cj l) H (cm Tryz.prog [] K)):aj Tryz.prog 76 l.toArray H K:=cE [(6,[(1,5),(3,5)]),(14,[(1,5),(3,5)])] mixed Tryz.func76 ang hl (by decide) rfl h
theorem ani:bK Tryz.prog [] 78=true:=by kernel_rfl
@[go_sem] theorem aAw:bV 78 c a:=bU Tryz.func78 (by kernel_rfl) (by kernel_rfl)
theorem anj (hl:l.length<=2) (h:bY H->wC Tryz.prog H.fz [] (Tryz.f78.body.getD .skip) (cj l) H (cm Tryz.prog [.tmp 4] K)):aj Tryz.prog 78 l.toArray H K:=cE [] mixed Tryz.func78 ani hl (by decide) rfl h
theorem ank:bK Tryz.prog [(1,[(3,6),(3,10),(7,10)]),(12,[(1,9)])] 79=true:=by kernel_rfl
@[go_sem] theorem aAx:bV 79 c a:=bU Tryz.func79 (by kernel_rfl) (by kernel_rfl)
theorem anl:bK Tryz.prog [] 80=true:=by kernel_rfl
@[go_sem] theorem aAy:bV 80 c a:=bU Tryz.func80 (by kernel_rfl) (by kernel_rfl)
theorem anm (hl:l.length<=1) (h:bY H->wC Tryz.prog H.fz [] (Tryz.f80.body.getD .skip) (cj l) H (cm Tryz.prog [.tmp 2] K)):aj Tryz.prog 80 l.toArray H K:=cE [] mixed Tryz.func80 anl hl (by decide) rfl h
theorem ann:bK Tryz.prog [] 81=true:=by kernel_rfl
@[go_sem] theorem aAz:bV 81 c a:=bU Tryz.func81 (by kernel_rfl) (by kernel_rfl)
theorem ano (hl:l.length<=4) (h:bY H->wC Tryz.prog H.fz [] (Tryz.f81.body.getD .skip) (cj l) H (cm Tryz.prog [] K)):aj Tryz.prog 81 l.toArray H K:=cE [] mixed Tryz.func81 ann hl (by decide) rfl h
theorem anp:bK Tryz.prog [] 82=true:=by kernel_rfl
@[go_sem] theorem aAA:bV 82 c a:=bU Tryz.func82 (by kernel_rfl) (by kernel_rfl)
theorem anq (hl:l.length<=2) (h:bY H->wC Tryz.prog H.fz [] (Tryz.f82.body.getD .skip) (cj l) H (cm Tryz.prog [] K)):aj Tryz.prog 82 l.toArray H K:=cE [] mixed Tryz.func82 anp hl (by decide) rfl h
theorem anr:bK Tryz.prog [] 83=true:=by kernel_rfl
@[go_sem] theorem aAB:bV 83 c a:=bU Tryz.func83 (by kernel_rfl) (by kernel_rfl)
theorem ans (hl:l.length<=2) (h:bY H->wC Tryz.prog H.fz [] (Tryz.f83.body.getD .skip) (cj l) H (cm Tryz.prog [.tmp 4] K)):aj Tryz.prog 83 l.toArray H K:=cE [] mixed Tryz.func83 anr hl (by decide) rfl h
theorem ant:bK Tryz.prog [] 84=true:=by kernel_rfl
@[go_sem] theorem aAC:bV 84 c a:=bU Tryz.func84 (by kernel_rfl) (by kernel_rfl)
theorem anu:bK Tryz.prog [] 85=true:=by kernel_rfl
@[go_sem] theorem aAD:bV 85 c a:=bU Tryz.func85 (by kernel_rfl) (by kernel_rfl)
theorem anv:bK Tryz.prog [] 86=true:=by kernel_rfl
@[go_sem] theorem aAE:bV 86 c a:=bU Tryz.func86 (by kernel_rfl) (by kernel_rfl)
theorem anw (hl:l.length<=2) (h:bY H->wC Tryz.prog H.fz [] (Tryz.f86.body.getD .skip) (cj l) H (cm Tryz.prog [.tmp 4] K)):aj Tryz.prog 86 l.toArray H K:=cE [] mixed Tryz.func86 anv hl (by decide) rfl h
theorem anx:bK Tryz.prog [] 87=true:=by kernel_rfl
@[go_sem] theorem aAF:bV 87 c a:=bU Tryz.func87 (by kernel_rfl) (by kernel_rfl)
theorem anz:bK Tryz.prog [(2,[(4,7)])] 88=true:=by kernel_rfl
@[go_sem] theorem aAG:bV 88 c a:=bU Tryz.func88 (by kernel_rfl) (by kernel_rfl)
theorem anA:bK Tryz.prog [] 89=true:=by kernel_rfl
@[go_sem] theorem aAH:bV 89 c a:=bU Tryz.func89 (by kernel_rfl) (by kernel_rfl)
theorem anB:bK Tryz.prog [] 94=true:=by kernel_rfl
@[go_sem] theorem aAI:bV 94 c a:=bU Tryz.func94 (by kernel_rfl) (by kernel_rfl)
theorem anC (hl:l.length<=2) (h:bY H->wC Tryz.prog H.fz [] (Tryz.f94.body.getD .skip) (cj l) H (cm Tryz.prog [.tmp 4] K)):aj Tryz.prog 94 l.toArray H K:=cE [] mixed Tryz.func94 anB hl (by decide) rfl h
theorem anD:bK Tryz.prog [] 95=true:=by kernel_rfl
@[go_sem] theorem aAJ:bV 95 c a:=bU Tryz.func95 (by kernel_rfl) (by kernel_rfl)
theorem anE (hl:l.length<=2) (h:bY H->wC Tryz.prog H.fz [] (Tryz.f95.body.getD .skip) (cj l) H (cm Tryz.prog [] K)):aj Tryz.prog 95 l.toArray H K:=cE [] mixed Tryz.func95 anD hl (by decide) rfl h
theorem anF:bK Tryz.prog [] 96=true:=by kernel_rfl
@[go_sem] theorem aAK:bV 96 c a:=bU Tryz.func96 (by kernel_rfl) (by kernel_rfl)
theorem anG (hl:l.length<=1) (h:bY H->wC Tryz.prog H.fz [] (Tryz.f96.body.getD .skip) (cj l) H (cm Tryz.prog [.tmp 2] K)):aj Tryz.prog 96 l.toArray H K:=cE [] mixed Tryz.func96 anF hl (by decide) rfl h
theorem anH:bK Tryz.prog [] 97=true:=by kernel_rfl
@[go_sem] theorem aAL:bV 97 c a:=bU Tryz.func97 (by kernel_rfl) (by kernel_rfl)
theorem anI (hl:l.length<=1) (h:bY H->wC Tryz.prog H.fz [] (Tryz.f97.body.getD .skip) (cj l) H (cm Tryz.prog [.tmp 2] K)):aj Tryz.prog 97 l.toArray H K:=cE [] mixed Tryz.func97 anH hl (by decide) rfl h
theorem anJ:bK Tryz.prog [] 98=true:=by kernel_rfl
@[go_sem] theorem aAM:bV 98 c a:=bU Tryz.func98 (by kernel_rfl) (by kernel_rfl)
theorem anK (hl:l.length<=2) (h:bY H->wC Tryz.prog H.fz [] (Tryz.f98.body.getD .skip) (cj l) H (cm Tryz.prog [] K)):aj Tryz.prog 98 l.toArray H K:=cE [] mixed Tryz.func98 anJ hl (by decide) rfl h
theorem anL:bK Tryz.prog [] 99=true:=by kernel_rfl
@[go_sem] theorem aAN:bV 99 c a:=bU Tryz.func99 (by kernel_rfl) (by kernel_rfl)
theorem anM (hl:l.length<=1) (h:bY H->wC Tryz.prog H.fz [] (Tryz.f99.body.getD .skip) (cj l) H (cm Tryz.prog [.tmp 2] K)):aj Tryz.prog 99 l.toArray H K:=cE [] mixed Tryz.func99 anL hl (by decide) rfl h
theorem aiN:bK Tryz.prog [(1,[(1,5),(3,5)])] 100=true:=by kernel_rfl
@[go_sem] theorem aw3:bV 100 c a:=bU Tryz.func100 (by kernel_rfl) (by kernel_rfl)
theorem aiO (hl:l.length<=1) (h:bY H->wC Tryz.prog H.fz [(1,[(1,5),(3,5)])] (Tryz.f100.body.getD .skip) (cj l) H (cm Tryz.prog [] K)):aj Tryz.prog 100 l.toArray H K:=cE [(1,[(1,5),(3,5)])] mixed Tryz.func100 aiN hl (by decide) rfl h
theorem aiP:bK Tryz.prog [] 101=true:=by kernel_rfl
@[go_sem] theorem aw4:bV 101 c a:=bU Tryz.func101 (by kernel_rfl) (by kernel_rfl)
theorem aiQ (hl:l.length<=4) (h:bY H->wC Tryz.prog H.fz [] (Tryz.f101.body.getD .skip) (cj l) H (cm Tryz.prog [.tmp 8] K)):aj Tryz.prog 101 l.toArray H K:=cE [] mixed Tryz.func101 aiP hl (by decide) rfl h
theorem aiR:bK Tryz.prog [(4,[(2,5),(3,5)]),(9,[(0,3),(1,3)])] 102=true:=by kernel_rfl
@[go_sem] theorem aw5:bV 102 c a:=bU Tryz.func102 (by kernel_rfl) (by kernel_rfl)
theorem aiS (hl:l.length<=2) (h:bY H->wC Tryz.prog H.fz [(4,[(2,5),(3,5)]),(9,[(0,3),(1,3)])] (Tryz.f102.body.getD .skip) (cj l) H (cm Tryz.prog [.tmp 4,.tmp 5] K)):aj Tryz.prog 102 l.toArray H K:=cE [(4,[(2,5),(3,5)]),(9,[(0,3),(1,3)])] mixed Tryz.func102 aiR hl (by decide) rfl h
theorem aiT:bK Tryz.prog [] 103=true:=by kernel_rfl
@[go_sem] theorem aw6:bV 103 c a:=bU Tryz.func103 (by kernel_rfl) (by kernel_rfl)
theorem aiU (hl:l.length<=1) (h:bY H->wC Tryz.prog H.fz [] (Tryz.f103.body.getD .skip) (cj l) H (cm Tryz.prog [.tmp 2] K)):aj Tryz.prog 103 l.toArray H K:=cE [] mixed Tryz.func103 aiT hl (by decide) rfl h
theorem aiV:bK Tryz.prog [] 104=true:=by kernel_rfl
@[go_sem] theorem aw7:bV 104 c a:=bU Tryz.func104 (by kernel_rfl) (by kernel_rfl)
theorem aiW (hl:l.length<=1) (h:bY H->wC Tryz.prog H.fz [] (Tryz.f104.body.getD .skip) (cj l) H (cm Tryz.prog [.tmp 2] K)):aj Tryz.prog 104 l.toArray H K:=cE [] mixed Tryz.func104 aiV hl (by decide) rfl h
theorem aiX:bK Tryz.prog [] 105=true:=by kernel_rfl
@[go_sem] theorem aw8:bV 105 c a:=bU Tryz.func105 (by kernel_rfl) (by kernel_rfl)
theorem aiY (hl:l.length<=1) (h:bY H->wC Tryz.prog H.fz [] (Tryz.f105.body.getD .skip) (cj l) H (cm Tryz.prog [.tmp 2] K)):aj Tryz.prog 105 l.toArray H K:=cE [] mixed Tryz.func105 aiX hl (by decide) rfl h
theorem aiZ:bK Tryz.prog [] 106=true:=by kernel_rfl
@[go_sem] theorem aw9:bV 106 c a:=bU Tryz.func106 (by kernel_rfl) (by kernel_rfl)
theorem ai0 (hl:l.length<=2) (h:bY H->wC Tryz.prog H.fz [] (Tryz.f106.body.getD .skip) (cj l) H (cm Tryz.prog [.tmp 4] K)):aj Tryz.prog 106 l.toArray H K:=cE [] mixed Tryz.func106 aiZ hl (by decide) rfl h
theorem ai1:bK Tryz.prog [(5,[(4,6)])] 107=true:=by kernel_rfl
@[go_sem] theorem axa:bV 107 c a:=bU Tryz.func107 (by kernel_rfl) (by kernel_rfl)
theorem ai2 (hl:l.length<=4) (h:bY H->wC Tryz.prog H.fz [(5,[(4,6)])] (Tryz.f107.body.getD .skip) (cj l) H (cm Tryz.prog [.cell 8 102] K)):aj Tryz.prog 107 l.toArray H K:=cE [(5,[(4,6)])] mixed Tryz.func107 ai1 hl (by decide) rfl h
theorem ai3:bK Tryz.prog [] 108=true:=by kernel_rfl
@[go_sem] theorem axb:bV 108 c a:=bU Tryz.func108 (by kernel_rfl) (by kernel_rfl)
theorem ai4 (hl:l.length<=5) (h:bY H->wC Tryz.prog H.fz [] (Tryz.f108.body.getD .skip) (cj l) H (cm Tryz.prog [.tmp 10] K)):aj Tryz.prog 108 l.toArray H K:=cE [] mixed Tryz.func108 ai3 hl (by decide) rfl h
theorem ai5:bK Tryz.prog [(13,[(1,6)]),(19,[(4,6)]),(25,[(4,6)]),(34,[(4,6)]),(39,[(10,12)])] 109=true:=by kernel_rfl
@[go_sem] theorem axc:bV 109 c a:=bU Tryz.func109 (by kernel_rfl) (by kernel_rfl)
theorem ai6:bK Tryz.prog [(14,[(4,10)])] 110=true:=by kernel_rfl
@[go_sem] theorem axd:bV 110 c a:=bU Tryz.func110 (by kernel_rfl) (by kernel_rfl)
theorem ai7 (hl:l.length<=2) (h:bY H->wC Tryz.prog H.fz [(14,[(4,10)])] (Tryz.f110.body.getD .skip) (cj l) H (cm Tryz.prog [] K)):aj Tryz.prog 110 l.toArray H K:=cE [(14,[(4,10)])] mixed Tryz.func110 ai6 hl (by decide) rfl h
theorem ai8:bK Tryz.prog [] 111=true:=by kernel_rfl
@[go_sem] theorem axe:bV 111 c a:=bU Tryz.func111 (by kernel_rfl) (by kernel_rfl)
theorem ai9 (hl:l.length<=2) (h:bY H->wC Tryz.prog H.fz [] (Tryz.f111.body.getD .skip) (cj l) H (cm Tryz.prog [.tmp 4,.tmp 5] K)):aj Tryz.prog 111 l.toArray H K:=cE [] mixed Tryz.func111 ai8 hl (by decide) rfl h
theorem aja:bK Tryz.prog [] 112=true:=by kernel_rfl
@[go_sem] theorem axf:bV 112 c a:=bU Tryz.func112 (by kernel_rfl) (by kernel_rfl)
theorem ajb (hl:l.length<=3) (h:bY H->wC Tryz.prog H.fz [] (Tryz.f112.body.getD .skip) (cj l) H (cm Tryz.prog [.tmp 6] K)):aj Tryz.prog 112 l.toArray H K:=cE [] mixed Tryz.func112 aja hl (by decide) rfl h
theorem ajc:bK Tryz.prog [] 113=true:=by kernel_rfl
@[go_sem] theorem ajd:bV 113 c a:=bU Tryz.func113 (by kernel_rfl) (by kernel_rfl)
theorem aje (hl:l.length<=1) (h:bY H->wC Tryz.prog H.fz [] (Tryz.f113.body.getD .skip) (cj l) H (cm Tryz.prog [.tmp 2] K)):aj Tryz.prog 113 l.toArray H K:=cE [] mixed Tryz.func113 ajc hl (by decide) rfl h
theorem ajf:bK Tryz.prog [] 114=true:=by kernel_rfl
@[go_sem] theorem axg:bV 114 c a:=bU Tryz.func114 (by kernel_rfl) (by kernel_rfl)
theorem ajg:bK Tryz.prog [] 115=true:=by kernel_rfl
@[go_sem] theorem ajh:bV 115 c a:=bU Tryz.func115 (by kernel_rfl) (by kernel_rfl)
theorem aji (hl:l.length<=3) (h:bY H->wC Tryz.prog H.fz [] (Tryz.f115.body.getD .skip) (cj l) H (cm Tryz.prog [.tmp 4] K)):aj Tryz.prog 115 l.toArray H K:=cE [] mixed Tryz.func115 ajg hl (by decide) rfl h
theorem ajj:bK Tryz.prog [] 116=true:=by kernel_rfl
@[go_sem] theorem axh:bV 116 c a:=bU Tryz.func116 (by kernel_rfl) (by kernel_rfl)
theorem ajk (hl:l.length<=2) (h:bY H->wC Tryz.prog H.fz [] (Tryz.f116.body.getD .skip) (cj l) H (cm Tryz.prog [.tmp 4] K)):aj Tryz.prog 116 l.toArray H K:=cE [] mixed Tryz.func116 ajj hl (by decide) rfl h
theorem ajl:bK Tryz.prog [] 117=true:=by kernel_rfl
@[go_sem] theorem axi:bV 117 c a:=bU Tryz.func117 (by kernel_rfl) (by kernel_rfl)
theorem ajm (hl:l.length<=1) (h:bY H->wC Tryz.prog H.fz [] (Tryz.f117.body.getD .skip) (cj l) H (cm Tryz.prog [.tmp 2] K)):aj Tryz.prog 117 l.toArray H K:=cE [] mixed Tryz.func117 ajl hl (by decide) rfl h
theorem ajn:bK Tryz.prog [] 118=true:=by kernel_rfl
@[go_sem] theorem axj:bV 118 c a:=bU Tryz.func118 (by kernel_rfl) (by kernel_rfl)
theorem ajo:bK Tryz.prog [] 119=true:=by kernel_rfl
@[go_sem] theorem axk:bV 119 c a:=bU Tryz.func119 (by kernel_rfl) (by kernel_rfl)
theorem ajp (hl:l.length<=2) (h:bY H->wC Tryz.prog H.fz [] (Tryz.f119.body.getD .skip) (cj l) H (cm Tryz.prog [.tmp 4] K)):aj Tryz.prog 119 l.toArray H K:=cE [] mixed Tryz.func119 ajo hl (by decide) rfl h
theorem ajq:bK Tryz.prog [] 120=true:=by kernel_rfl
@[go_sem] theorem axl:bV 120 c a:=bU Tryz.func120 (by kernel_rfl) (by kernel_rfl)
theorem ajr (hl:l.length<=2) (h:bY H->wC Tryz.prog H.fz [] (Tryz.f120.body.getD .skip) (cj l) H (cm Tryz.prog [.tmp 4] K)):aj Tryz.prog 120 l.toArray H K:=cE [] mixed Tryz.func120 ajq hl (by decide) rfl h
theorem ajs:bK Tryz.prog [] 122=true:=by kernel_rfl
@[go_sem] theorem axm:bV 122 c a:=bU Tryz.func122 (by kernel_rfl) (by kernel_rfl)
theorem ajt (hl:l.length<=1) (h:bY H->wC Tryz.prog H.fz [] (Tryz.f122.body.getD .skip) (cj l) H (cm Tryz.prog [.tmp 2] K)):aj Tryz.prog 122 l.toArray H K:=cE [] mixed Tryz.func122 ajs hl (by decide) rfl h
theorem aju:bK Tryz.prog [] 123=true:=by kernel_rfl
@[go_sem] theorem axn:bV 123 c a:=bU Tryz.func123 (by kernel_rfl) (by kernel_rfl)
theorem ajv (hl:l.length<=3) (h:bY H->wC Tryz.prog H.fz [] (Tryz.f123.body.getD .skip) (cj l) H (cm Tryz.prog [.tmp 6] K)):aj Tryz.prog 123 l.toArray H K:=cE [] mixed Tryz.func123 aju hl (by decide) rfl h
theorem ajw:bK Tryz.prog [] 124=true:=by kernel_rfl
@[go_sem] theorem axo:bV 124 c a:=bU Tryz.func124 (by kernel_rfl) (by kernel_rfl)
theorem ajx (hl:l.length<=1) (h:bY H->wC Tryz.prog H.fz [] (Tryz.f124.body.getD .skip) (cj l) H (cm Tryz.prog [.cell 2 102] K)):aj Tryz.prog 124 l.toArray H K:=cE [] mixed Tryz.func124 ajw hl (by decide) rfl h
theorem ajy:bK Tryz.prog [] 125=true:=by kernel_rfl
@[go_sem] theorem axp:bV 125 c a:=bU Tryz.func125 (by kernel_rfl) (by kernel_rfl)
theorem ajz (hl:l.length<=2) (h:bY H->wC Tryz.prog H.fz [] (Tryz.f125.body.getD .skip) (cj l) H (cm Tryz.prog [.tmp 4] K)):aj Tryz.prog 125 l.toArray H K:=cE [] mixed Tryz.func125 ajy hl (by decide) rfl h
theorem ajA:bK Tryz.prog [] 126=true:=by kernel_rfl
@[go_sem] theorem axq:bV 126 c a:=bU Tryz.func126 (by kernel_rfl) (by kernel_rfl)
theorem ajB (hl:l.length<=2) (h:bY H->wC Tryz.prog H.fz [] (Tryz.f126.body.getD .skip) (cj l) H (cm Tryz.prog [.tmp 4] K)):aj Tryz.prog 126 l.toArray H K:=cE [] mixed Tryz.func126 ajA hl (by decide) rfl h
theorem ajC:bK Tryz.prog [] 127=true:=by kernel_rfl
@[go_sem] theorem axr:bV 127 c a:=bU Tryz.func127 (by kernel_rfl) (by kernel_rfl)
theorem ajD (hl:l.length<=1) (h:bY H->wC Tryz.prog H.fz [] (Tryz.f127.body.getD .skip) (cj l) H (cm Tryz.prog [.tmp 2] K)):aj Tryz.prog 127 l.toArray H K:=cE [] mixed Tryz.func127 ajC hl (by decide) rfl h
theorem ajE:bK Tryz.prog [] 128=true:=by kernel_rfl
@[go_sem] theorem axs:bV 128 c a:=bU Tryz.func128 (by kernel_rfl) (by kernel_rfl)
theorem ajF (hl:l.length<=1) (h:bY H->wC Tryz.prog H.fz [] (Tryz.f128.body.getD .skip) (cj l) H (cm Tryz.prog [] K)):aj Tryz.prog 128 l.toArray H K:=cE [] mixed Tryz.func128 ajE hl (by decide) rfl h
theorem ajG:bK Tryz.prog [] 129=true:=by kernel_rfl
@[go_sem] theorem axt:bV 129 c a:=bU Tryz.func129 (by kernel_rfl) (by kernel_rfl)
theorem ajH (hl:l.length<=1) (h:bY H->wC Tryz.prog H.fz [] (Tryz.f129.body.getD .skip) (cj l) H (cm Tryz.prog [.tmp 2] K)):aj Tryz.prog 129 l.toArray H K:=cE [] mixed Tryz.func129 ajG hl (by decide) rfl h
theorem ajI:bK Tryz.prog [] 130=true:=by kernel_rfl
@[go_sem] theorem axu:bV 130 c a:=bU Tryz.func130 (by kernel_rfl) (by kernel_rfl)
theorem ajJ (hl:l.length<=1) (h:bY H->wC Tryz.prog H.fz [] (Tryz.f130.body.getD .skip) (cj l) H (cm Tryz.prog [] K)):aj Tryz.prog 130 l.toArray H K:=cE [] mixed Tryz.func130 ajI hl (by decide) rfl h
theorem ajK:bK Tryz.prog [] 131=true:=by kernel_rfl
@[go_sem] theorem axv:bV 131 c a:=bU Tryz.func131 (by kernel_rfl) (by kernel_rfl)
theorem ajL (hl:l.length<=1) (h:bY H->wC Tryz.prog H.fz [] (Tryz.f131.body.getD .skip) (cj l) H (cm Tryz.prog [.cell 2 145] K)):aj Tryz.prog 131 l.toArray H K:=cE [] mixed Tryz.func131 ajK hl (by decide) rfl h
theorem ajM:bK Tryz.prog [] 132=true:=by kernel_rfl
@[go_sem] theorem axw:bV 132 c a:=bU Tryz.func132 (by kernel_rfl) (by kernel_rfl)
theorem ajN (hl:l.length<=2) (h:bY H->wC Tryz.prog H.fz [] (Tryz.f132.body.getD .skip) (cj l) H (cm Tryz.prog [.tmp 4,.tmp 5] K)):aj Tryz.prog 132 l.toArray H K:=cE [] mixed Tryz.func132 ajM hl (by decide) rfl h
theorem ajO:bK Tryz.prog [] 133=true:=by kernel_rfl
@[go_sem] theorem axx:bV 133 c a:=bU Tryz.func133 (by kernel_rfl) (by kernel_rfl)
theorem ajP (hl:l.length<=1) (h:bY H->wC Tryz.prog H.fz [] (Tryz.f133.body.getD .skip) (cj l) H (cm Tryz.prog [.tmp 2] K)):aj Tryz.prog 133 l.toArray H K:=cE [] mixed Tryz.func133 ajO hl (by decide) rfl h
theorem ajQ:bK Tryz.prog [] 134=true:=by kernel_rfl
@[go_sem] theorem axy:bV 134 c a:=bU Tryz.func134 (by kernel_rfl) (by kernel_rfl)
theorem ajR (hl:l.length<=3) (h:bY H->wC Tryz.prog H.fz [] (Tryz.f134.body.getD .skip) (cj l) H (cm Tryz.prog [.tmp 6] K)):aj Tryz.prog 134 l.toArray H K:=cE [] mixed Tryz.func134 ajQ hl (by decide) rfl h
theorem ajS:bK Tryz.prog [] 135=true:=by kernel_rfl
@[go_sem] theorem axz:bV 135 c a:=bU Tryz.func135 (by kernel_rfl) (by kernel_rfl)
theorem ajT (hl:l.length<=4) (h:bY H->wC Tryz.prog H.fz [] (Tryz.f135.body.getD .skip) (cj l) H (cm Tryz.prog [] K)):aj Tryz.prog 135 l.toArray H K:=cE [] mixed Tryz.func135 ajS hl (by decide) rfl h
theorem ajU:bK Tryz.prog [] 136=true:=by kernel_rfl
@[go_sem] theorem axA:bV 136 c a:=bU Tryz.func136 (by kernel_rfl) (by kernel_rfl)
theorem ajV:bK Tryz.prog [(32,[(6,10)])] 137=true:=by kernel_rfl
@[go_sem] theorem axB:bV 137 c a:=bU Tryz.func137 (by kernel_rfl) (by kernel_rfl)
theorem ajW:bK Tryz.prog [] 139=true:=by kernel_rfl
@[go_sem] theorem axC:bV 139 c a:=bU Tryz.func139 (by kernel_rfl) (by kernel_rfl)
theorem ajX (hl:l.length<=2) (h:bY H->wC Tryz.prog H.fz [] (Tryz.f139.body.getD .skip) (cj l) H (cm Tryz.prog [.tmp 4,.tmp 5] K)):aj Tryz.prog 139 l.toArray H K:=cE [] mixed Tryz.func139 ajW hl (by decide) rfl h
theorem ajY:bK Tryz.prog [] 140=true:=by kernel_rfl
@[go_sem] theorem axD:bV 140 c a:=bU Tryz.func140 (by kernel_rfl) (by kernel_rfl)
theorem ajZ (hl:l.length<=1) (h:bY H->wC Tryz.prog H.fz [] (Tryz.f140.body.getD .skip) (cj l) H (cm Tryz.prog [.tmp 2] K)):aj Tryz.prog 140 l.toArray H K:=cE [] mixed Tryz.func140 ajY hl (by decide) rfl h
theorem aj0:bK Tryz.prog [] 141=true:=by kernel_rfl
@[go_sem] theorem axE:bV 141 c a:=bU Tryz.func141 (by kernel_rfl) (by kernel_rfl)
theorem UC (hl:l.length<=2) (h:bY H->wC Tryz.prog H.fz [] (Tryz.f141.body.getD .skip) (cj l) H (cm Tryz.prog [.tmp 4,.tmp 5] K)):aj Tryz.prog 141 l.toArray H K:=cE [] mixed Tryz.func141 aj0 hl (by decide) rfl h
theorem aj1:bK Tryz.prog [] 142=true:=by kernel_rfl
@[go_sem] theorem axF:bV 142 c a:=bU Tryz.func142 (by kernel_rfl) (by kernel_rfl)
theorem aj2 (hl:l.length<=2) (h:bY H->wC Tryz.prog H.fz [] (Tryz.f142.body.getD .skip) (cj l) H (cm Tryz.prog [.tmp 4] K)):aj Tryz.prog 142 l.toArray H K:=cE [] mixed Tryz.func142 aj1 hl (by decide) rfl h
theorem aj3:bK Tryz.prog [] 143=true:=by kernel_rfl
@[go_sem] theorem axG:bV 143 c a:=bU Tryz.func143 (by kernel_rfl) (by kernel_rfl)
theorem aj4 (hl:l.length<=2) (h:bY H->wC Tryz.prog H.fz [] (Tryz.f143.body.getD .skip) (cj l) H (cm Tryz.prog [.tmp 3] K)):aj Tryz.prog 143 l.toArray H K:=cE [] mixed Tryz.func143 aj3 hl (by decide) rfl h
theorem aj5:bK Tryz.prog [] 144=true:=by kernel_rfl
@[go_sem] theorem axH:bV 144 c a:=bU Tryz.func144 (by kernel_rfl) (by kernel_rfl)
theorem aj6 (hl:l.length<=2) (h:bY H->wC Tryz.prog H.fz [] (Tryz.f144.body.getD .skip) (cj l) H (cm Tryz.prog [.tmp 4] K)):aj Tryz.prog 144 l.toArray H K:=cE [] mixed Tryz.func144 aj5 hl (by decide) rfl h
theorem aj7:bK Tryz.prog [] 145=true:=by kernel_rfl
@[go_sem] theorem axI:bV 145 c a:=bU Tryz.func145 (by kernel_rfl) (by kernel_rfl)
theorem aj8 (hl:l.length<=1) (h:bY H->wC Tryz.prog H.fz [] (Tryz.f145.body.getD .skip) (cj l) H (cm Tryz.prog [.tmp 2] K)):aj Tryz.prog 145 l.toArray H K:=cE [] mixed Tryz.func145 aj7 hl (by decide) rfl h
theorem aj9:bK Tryz.prog [(10,[(2,7),(2,13),(8,13)]),(16,[(2,4)])] 146=true:=by kernel_rfl
@[go_sem] theorem axJ:bV 146 c a:=bU Tryz.func146 (by kernel_rfl) (by kernel_rfl)
theorem aka:bK Tryz.prog [] 147=true:=by kernel_rfl
@[go_sem] theorem axK:bV 147 c a:=bU Tryz.func147 (by kernel_rfl) (by kernel_rfl)
theorem akb (hl:l.length<=1) (h:bY H->wC Tryz.prog H.fz [] (Tryz.f147.body.getD .skip) (cj l) H (cm Tryz.prog [.tmp 2] K)):aj Tryz.prog 147 l.toArray H K:=cE [] mixed Tryz.func147 aka hl (by decide) rfl h
theorem akc:bK Tryz.prog [] 148=true:=by kernel_rfl
@[go_sem] theorem axL:bV 148 c a:=bU Tryz.func148 (by kernel_rfl) (by kernel_rfl)
theorem akd (hl:l.length<=1) (h:bY H->wC Tryz.prog H.fz [] (Tryz.f148.body.getD .skip) (cj l) H (cm Tryz.prog [.tmp 2] K)):aj Tryz.prog 148 l.toArray H K:=cE [] mixed Tryz.func148 akc hl (by decide) rfl h
theorem ake:bK Tryz.prog [] 149=true:=by kernel_rfl
@[go_sem] theorem axM:bV 149 c a:=bU Tryz.func149 (by kernel_rfl) (by kernel_rfl)
theorem akf (hl:l.length<=2) (h:bY H->wC Tryz.prog H.fz [] (Tryz.f149.body.getD .skip) (cj l) H (cm Tryz.prog [.tmp 4] K)):aj Tryz.prog 149 l.toArray H K:=cE [] mixed Tryz.func149 ake hl (by decide) rfl h
theorem akg:bK Tryz.prog [] 150=true:=by kernel_rfl
@[go_sem] theorem axN:bV 150 c a:=bU Tryz.func150 (by kernel_rfl) (by kernel_rfl)
theorem akh (hl:l.length<=1) (h:bY H->wC Tryz.prog H.fz [] (Tryz.f150.body.getD .skip) (cj l) H (cm Tryz.prog [.tmp 2] K)):aj Tryz.prog 150 l.toArray H K:=cE [] mixed Tryz.func150 akg hl (by decide) rfl h
theorem aki:bK Tryz.prog [] 151=true:=by kernel_rfl
@[go_sem] theorem axO:bV 151 c a:=bU Tryz.func151 (by kernel_rfl) (by kernel_rfl)
theorem akj (hl:l.length<=1) (h:bY H->wC Tryz.prog H.fz [] (Tryz.f151.body.getD .skip) (cj l) H (cm Tryz.prog [.tmp 2] K)):aj Tryz.prog 151 l.toArray H K:=cE [] mixed Tryz.func151 aki hl (by decide) rfl h
theorem akk:bK Tryz.prog [] 152=true:=by kernel_rfl
@[go_sem] theorem axP:bV 152 c a:=bU Tryz.func152 (by kernel_rfl) (by kernel_rfl)
theorem akl (hl:l.length<=1) (h:bY H->wC Tryz.prog H.fz [] (Tryz.f152.body.getD .skip) (cj l) H (cm Tryz.prog [.tmp 2] K)):aj Tryz.prog 152 l.toArray H K:=cE [] mixed Tryz.func152 akk hl (by decide) rfl h
theorem akm:bK Tryz.prog [(5,[(5,7),(5,10)])] 153=true:=by kernel_rfl
@[go_sem] theorem axQ:bV 153 c a:=bU Tryz.func153 (by kernel_rfl) (by kernel_rfl)
theorem akn (hl:l.length<=1) (h:bY H->wC Tryz.prog H.fz [(5,[(5,7),(5,10)])] (Tryz.f153.body.getD .skip) (cj l) H (cm Tryz.prog [.tmp 2] K)):aj Tryz.prog 153 l.toArray H K:=cE [(5,[(5,7),(5,10)])] mixed Tryz.func153 akm hl (by decide) rfl h
theorem ako:bK Tryz.prog [] 154=true:=by kernel_rfl
@[go_sem] theorem axR:bV 154 c a:=bU Tryz.func154 (by kernel_rfl) (by kernel_rfl)
theorem akp (hl:l.length<=2) (h:bY H->wC Tryz.prog H.fz [] (Tryz.f154.body.getD .skip) (cj l) H (cm Tryz.prog [] K)):aj Tryz.prog 154 l.toArray H K:=cE [] mixed Tryz.func154 ako hl (by decide) rfl h
theorem akq:bK Tryz.prog [(15,[(1,3)])] 155=true:=by kernel_rfl
@[go_sem] theorem axS:bV 155 c a:=bU Tryz.func155 (by kernel_rfl) (by kernel_rfl)
theorem akr:bK Tryz.prog [] 156=true:=by kernel_rfl
@[go_sem] theorem axT:bV 156 c a:=bU Tryz.func156 (by kernel_rfl) (by kernel_rfl)
theorem aks (hl:l.length<=2) (h:bY H->wC Tryz.prog H.fz [] (Tryz.f156.body.getD .skip) (cj l) H (cm Tryz.prog [.tmp 4] K)):aj Tryz.prog 156 l.toArray H K:=cE [] mixed Tryz.func156 akr hl (by decide) rfl h
theorem akt:bK Tryz.prog [(9,[(4,6)])] 157=true:=by kernel_rfl
@[go_sem] theorem axU:bV 157 c a:=bU Tryz.func157 (by kernel_rfl) (by kernel_rfl)
theorem aku (hl:l.length<=4) (h:bY H->wC Tryz.prog H.fz [(9,[(4,6)])] (Tryz.f157.body.getD .skip) (cj l) H (cm Tryz.prog [.cell 8 109] K)):aj Tryz.prog 157 l.toArray H K:=cE [(9,[(4,6)])] mixed Tryz.func157 akt hl (by decide) rfl h
theorem akv:bK Tryz.prog [] 158=true:=by kernel_rfl
@[go_sem] theorem axV:bV 158 c a:=bU Tryz.func158 (by kernel_rfl) (by kernel_rfl)
theorem akw (hl:l.length<=2) (h:bY H->wC Tryz.prog H.fz [] (Tryz.f158.body.getD .skip) (cj l) H (cm Tryz.prog [.tmp 4] K)):aj Tryz.prog 158 l.toArray H K:=cE [] mixed Tryz.func158 akv hl (by decide) rfl h
theorem akx:bK Tryz.prog [] 159=true:=by kernel_rfl
@[go_sem] theorem axW:bV 159 c a:=bU Tryz.func159 (by kernel_rfl) (by kernel_rfl)
theorem aky (hl:l.length<=2) (h:bY H->wC Tryz.prog H.fz [] (Tryz.f159.body.getD .skip) (cj l) H (cm Tryz.prog [.tmp 4] K)):aj Tryz.prog 159 l.toArray H K:=cE [] mixed Tryz.func159 akx hl (by decide) rfl h
theorem akz:bK Tryz.prog [] 160=true:=by kernel_rfl
@[go_sem] theorem axX:bV 160 c a:=bU Tryz.func160 (by kernel_rfl) (by kernel_rfl)
theorem akA (hl:l.length<=3) (h:bY H->wC Tryz.prog H.fz [] (Tryz.f160.body.getD .skip) (cj l) H (cm Tryz.prog [.tmp 5] K)):aj Tryz.prog 160 l.toArray H K:=cE [] mixed Tryz.func160 akz hl (by decide) rfl h
theorem akB:bK Tryz.prog [] 161=true:=by kernel_rfl
@[go_sem] theorem axY:bV 161 c a:=bU Tryz.func161 (by kernel_rfl) (by kernel_rfl)
theorem akC:bK Tryz.prog [] 162=true:=by kernel_rfl
@[go_sem] theorem axZ:bV 162 c a:=bU Tryz.func162 (by kernel_rfl) (by kernel_rfl)
theorem akD (hl:l.length<=1) (h:bY H->wC Tryz.prog H.fz [] (Tryz.f162.body.getD .skip) (cj l) H (cm Tryz.prog [.tmp 2] K)):aj Tryz.prog 162 l.toArray H K:=cE [] mixed Tryz.func162 akC hl (by decide) rfl h
theorem akE:bK Tryz.prog [] 163=true:=by kernel_rfl
@[go_sem] theorem ax0:bV 163 c a:=bU Tryz.func163 (by kernel_rfl) (by kernel_rfl)
theorem akF (hl:l.length<=1) (h:bY H->wC Tryz.prog H.fz [] (Tryz.f163.body.getD .skip) (cj l) H (cm Tryz.prog [.tmp 2] K)):aj Tryz.prog 163 l.toArray H K:=cE [] mixed Tryz.func163 akE hl (by decide) rfl h
theorem akG:bK Tryz.prog [] 164=true:=by kernel_rfl
@[go_sem] theorem ax1:bV 164 c a:=bU Tryz.func164 (by kernel_rfl) (by kernel_rfl)
theorem akH (hl:l.length<=1) (h:bY H->wC Tryz.prog H.fz [] (Tryz.f164.body.getD .skip) (cj l) H (cm Tryz.prog [.cell 2 145] K)):aj Tryz.prog 164 l.toArray H K:=cE [] mixed Tryz.func164 akG hl (by decide) rfl h
theorem akI:bK Tryz.prog [] 165=true:=by kernel_rfl
@[go_sem] theorem ax2:bV 165 c a:=bU Tryz.func165 (by kernel_rfl) (by kernel_rfl)
theorem akJ (hl:l.length<=1) (h:bY H->wC Tryz.prog H.fz [] (Tryz.f165.body.getD .skip) (cj l) H (cm Tryz.prog [.tmp 2] K)):aj Tryz.prog 165 l.toArray H K:=cE [] mixed Tryz.func165 akI hl (by decide) rfl h
theorem akK:bK Tryz.prog [(2,[(3,7),(5,7),(5,9)])] 166=true:=by kernel_rfl
@[go_sem] theorem ax3:bV 166 c a:=bU Tryz.func166 (by kernel_rfl) (by kernel_rfl)
theorem akL (hl:l.length<=3) (h:bY H->wC Tryz.prog H.fz [(2,[(3,7),(5,7),(5,9)])] (Tryz.f166.body.getD .skip) (cj l) H (cm Tryz.prog [] K)):aj Tryz.prog 166 l.toArray H K:=cE [(2,[(3,7),(5,7),(5,9)])] mixed Tryz.func166 akK hl (by decide) rfl h
theorem akM:bK Tryz.prog [] 167=true:=by kernel_rfl
@[go_sem] theorem ax4:bV 167 c a:=bU Tryz.func167 (by kernel_rfl) (by kernel_rfl)
theorem akN (hl:l.length<=2) (h:bY H->wC Tryz.prog H.fz [] (Tryz.f167.body.getD .skip) (cj l) H (cm Tryz.prog [] K)):aj Tryz.prog 167 l.toArray H K:=cE [] mixed Tryz.func167 akM hl (by decide) rfl h
theorem akO:bK Tryz.prog [] 168=true:=by kernel_rfl
@[go_sem] theorem ax5:bV 168 c a:=bU Tryz.func168 (by kernel_rfl) (by kernel_rfl)
theorem akP (hl:l.length<=2) (h:bY H->wC Tryz.prog H.fz [] (Tryz.f168.body.getD .skip) (cj l) H (cm Tryz.prog [] K)):aj Tryz.prog 168 l.toArray H K:=cE [] mixed Tryz.func168 akO hl (by decide) rfl h
theorem akQ:bK Tryz.prog [] 169=true:=by kernel_rfl
@[go_sem] theorem ax6:bV 169 c a:=bU Tryz.func169 (by kernel_rfl) (by kernel_rfl)
theorem akR (hl:l.length<=2) (h:bY H->wC Tryz.prog H.fz [] (Tryz.f169.body.getD .skip) (cj l) H (cm Tryz.prog [] K)):aj Tryz.prog 169 l.toArray H K:=cE [] mixed Tryz.func169 akQ hl (by decide) rfl h
theorem akS:bK Tryz.prog [] 170=true:=by kernel_rfl
@[go_sem] theorem ax7:bV 170 c a:=bU Tryz.func170 (by kernel_rfl) (by kernel_rfl)
theorem akT (hl:l.length<=2) (h:bY H->wC Tryz.prog H.fz [] (Tryz.f170.body.getD .skip) (cj l) H (cm Tryz.prog [.tmp 4] K)):aj Tryz.prog 170 l.toArray H K:=cE [] mixed Tryz.func170 akS hl (by decide) rfl h
theorem akU:bK Tryz.prog [] 171=true:=by kernel_rfl
@[go_sem] theorem ax8:bV 171 c a:=bU Tryz.func171 (by kernel_rfl) (by kernel_rfl)
theorem akV (hl:l.length<=2) (h:bY H->wC Tryz.prog H.fz [] (Tryz.f171.body.getD .skip) (cj l) H (cm Tryz.prog [.tmp 4] K)):aj Tryz.prog 171 l.toArray H K:=cE [] mixed Tryz.func171 akU hl (by decide) rfl h
theorem akW:bK Tryz.prog [] 172=true:=by kernel_rfl
@[go_sem] theorem ax9:bV 172 c a:=bU Tryz.func172 (by kernel_rfl) (by kernel_rfl)
theorem akX (hl:l.length<=1) (h:bY H->wC Tryz.prog H.fz [] (Tryz.f172.body.getD .skip) (cj l) H (cm Tryz.prog [.tmp 2] K)):aj Tryz.prog 172 l.toArray H K:=cE [] mixed Tryz.func172 akW hl (by decide) rfl h
theorem akY:bK Tryz.prog [] 173=true:=by kernel_rfl
@[go_sem] theorem aya:bV 173 c a:=bU Tryz.func173 (by kernel_rfl) (by kernel_rfl)
theorem akZ (hl:l.length<=3) (h:bY H->wC Tryz.prog H.fz [] (Tryz.f173.body.getD .skip) (cj l) H (cm Tryz.prog [] K)):aj Tryz.prog 173 l.toArray H K:=cE [] mixed Tryz.func173 akY hl (by decide) rfl h
theorem ak0:bK Tryz.prog [(8,[(4,6)])] 174=true:=by kernel_rfl
@[go_sem] theorem ayb:bV 174 c a:=bU Tryz.func174 (by kernel_rfl) (by kernel_rfl)
theorem ak1 (hl:l.length<=2) (h:bY H->wC Tryz.prog H.fz [(8,[(4,6)])] (Tryz.f174.body.getD .skip) (cj l) H (cm Tryz.prog [] K)):aj Tryz.prog 174 l.toArray H K:=cE [(8,[(4,6)])] mixed Tryz.func174 ak0 hl (by decide) rfl h
theorem ak2:bK Tryz.prog [] 175=true:=by kernel_rfl
@[go_sem] theorem ayc:bV 175 c a:=bU Tryz.func175 (by kernel_rfl) (by kernel_rfl)
theorem ak3 (hl:l.length<=2) (h:bY H->wC Tryz.prog H.fz [] (Tryz.f175.body.getD .skip) (cj l) H (cm Tryz.prog [.tmp 4] K)):aj Tryz.prog 175 l.toArray H K:=cE [] mixed Tryz.func175 ak2 hl (by decide) rfl h
theorem ak4:bK Tryz.prog [] 176=true:=by kernel_rfl
@[go_sem] theorem ayd:bV 176 c a:=bU Tryz.func176 (by kernel_rfl) (by kernel_rfl)
theorem ak5 (hl:l.length<=2) (h:bY H->wC Tryz.prog H.fz [] (Tryz.f176.body.getD .skip) (cj l) H (cm Tryz.prog [.tmp 4] K)):aj Tryz.prog 176 l.toArray H K:=cE [] mixed Tryz.func176 ak4 hl (by decide) rfl h
theorem ak6:bK Tryz.prog [(8,[(1,3)])] 177=true:=by kernel_rfl
@[go_sem] theorem aye:bV 177 c a:=bU Tryz.func177 (by kernel_rfl) (by kernel_rfl)
theorem ak7 (hl:l.length<=2) (h:bY H->wC Tryz.prog H.fz [(8,[(1,3)])] (Tryz.f177.body.getD .skip) (cj l) H (cm Tryz.prog [.tmp 4] K)):aj Tryz.prog 177 l.toArray H K:=cE [(8,[(1,3)])] mixed Tryz.func177 ak6 hl (by decide) rfl h
theorem ak8:bK Tryz.prog [] 178=true:=by kernel_rfl
@[go_sem] theorem ayf:bV 178 c a:=bU Tryz.func178 (by kernel_rfl) (by kernel_rfl)
theorem ak9 (hl:l.length<=2) (h:bY H->wC Tryz.prog H.fz [] (Tryz.f178.body.getD .skip) (cj l) H (cm Tryz.prog [.tmp 4,.tmp 5] K)):aj Tryz.prog 178 l.toArray H K:=cE [] mixed Tryz.func178 ak8 hl (by decide) rfl h
end
end Go.Proofs.YtebibeaobhcfkaaGreat.Ab
