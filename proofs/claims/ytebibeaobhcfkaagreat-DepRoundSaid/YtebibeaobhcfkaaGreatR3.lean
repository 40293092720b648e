/- Lemmas for the walk, part 3. -/
import Derived.Test.YtebibeaobhcfkaaGreatR2
set_option linter.unusedVariables false
set_option linter.unusedSimpArgs false
set_option maxRecDepth 100000
namespace Go.Proofs.YtebibeaobhcfkaaGreat.Ab
open Go
theorem qC:Tryz.prog.underlying 9=some .string:=by kernel_rfl
abbrev cV (c:UInt8):Value:=.int .u8 ((c.toNat:Nat):Int)
theorem PX {H:ad} {c:UInt8}:aj Tryz.prog 70 #[cV c] H (fun r H'=>r=.bool (qz c)/\H=H'):=by
 refine am4 (Nat.le_refl _) fun hf=>?_
 simp only [Tryz.f70,Option.getD_some]
 by_cases h1:(97:Int)<=((c.toNat:Nat):Int)
 ·have iJ:97<=c.toNat:=by omega
  by_cases h2:((c.toNat:Nat):Int)<=122
  ·have wY:c.toNat<=122:=by omega
   simp only [go_sem,h1,h2]
   simp [qz,iJ,wY]
  ·have wY:¬c.toNat<=122:=by omega
   simp only [go_sem,h1,h2]
   simp [qz,iJ,wY]
 ·have iJ:¬97<=c.toNat:=by omega
  simp only [go_sem,h1]
  simp [qz,iJ]
theorem I3 {H:ad} {c:UInt8}:aj Tryz.prog 71 #[cV c] H (fun r H'=>r=.bool (isDigit c)/\H=H'):=by
 refine am6 (Nat.le_refl _) fun hf=>?_
 simp only [Tryz.f71,Option.getD_some]
 by_cases h1:(48:Int)<=((c.toNat:Nat):Int)
 ·have iJ:48<=c.toNat:=by omega
  by_cases h2:((c.toNat:Nat):Int)<=57
  ·have wY:c.toNat<=57:=by omega
   simp only [go_sem,h1,h2]
   simp [isDigit,iJ,wY]
  ·have wY:¬c.toNat<=57:=by omega
   simp only [go_sem,h1,h2]
   simp [isDigit,iJ,wY]
 ·have iJ:¬48<=c.toNat:=by omega
  simp only [go_sem,h1]
  simp [isDigit,iJ]
theorem ala {H:ad} {c:UInt8}:aj Tryz.prog 72 #[cV c] H (fun r H'=>r=.bool (FR c)/\H=H'):=by
 refine am8 (Nat.le_refl _) fun hf=>?_
 simp only [Tryz.f72,Option.getD_some]
 simp only [go_sem]
 refine ft 65524 18 (fun i V H1=>V 4=.int .i64 (i:Nat)/\H=H1/\∀k,k < i->uU[k]?≠some c) ⟨by simp only [go_sem];rfl,rfl,by omega⟩ ?_ ?_ (by rfl)
 ·rintro i V H1 hi ⟨e4,rfl,mU⟩
  have dU:i < uU.length:=hi
  have hlen:(uU.length:Nat)=18:=rfl
  have jJ:uU[i]?=some uU[i]:=List.getElem?_eq_getElem dU
  have hS:((ByteArray.mk #[40,41,123,125,91,93,44,59,58,61,46,43,45,42,60,94,33,63]))=⟨uU.toArray⟩:=rfl
  have oh:=fun h=>yO (P:=Tryz.prog) (h:=h) qC jJ
  have iW:=fun h=>I2 (P:=Tryz.prog) (h:=h) (s:=uU) qC
  simp only [go_sem,e4,hS,iW,hlen,oh,hi]
  by_cases hd:uU[i].toNat=c.toNat
  ·have hc:uU[i]=c:=UInt8.toNat_inj.1 hd
   simp only [go_sem,hd]
   have:FR c=true:=by rw [<-hc,FR,List.contains_iff_mem];exact List.getElem_mem dU
   rw [this]
  ·have dd:uU[i]?≠some c:=fun h=>hd (by rw [jJ] at h;cases h;rfl)
   simp only [go_sem,hd,e4,cG hi (by omega)]
   intro k hk
   by_cases e:k=i
   ·subst e;exact dd
   ·exact mU k (by omega)
 ·rintro V H1 ⟨e4,rfl,mU⟩
  have hlen:(uU.length:Nat)=18:=rfl
  have hS:((ByteArray.mk #[40,41,123,125,91,93,44,59,58,61,46,43,45,42,60,94,33,63]))=⟨uU.toArray⟩:=rfl
  have iW:=fun h=>I2 (P:=Tryz.prog) (h:=h) (s:=uU) qC
  simp only [go_sem,e4,hS,iW,hlen]
  have:FR c=false:=by
   rw [Bool.eq_false_iff,FR,Ne,List.contains_iff_mem,List.mem_iff_getElem?]
   rintro ⟨k,hk⟩
   exact mU k (by have:=(List.getElem?_eq_some_iff.1 hk).1;rw [hlen] at this;exact this) hk
  rw [this]
theorem QJ {p:UInt8->Bool}:∀{l:bC} {j:Nat},j < (l.takeWhile p).length->∃d,l[j]?=some d/\p d=true
 | [],j,h=>by simp at h
 | c::l,j,h=>by
  rw [List.takeWhile_cons] at h
  split at h
  ·rename_i hc
   cases j with
   | zero=>exact ⟨c,rfl,hc⟩
   | succ j=>exact QJ (l:=l) (by simpa using h)
  ·simp at h
theorem Qq {p:UInt8->Bool}:∀{l:bC} {d:UInt8},l[(l.takeWhile p).length]?=some d->p d=false
 | [],d,h=>by simp at h
 | c::l,d,h=>by
  rw [List.takeWhile_cons] at h
  split at h
  ·exact Qq (l:=l) (by simpa using h)
  ·rename_i hc
   simp at h;subst h;simpa using hc
theorem IQ {a b:Nat} (h:b<=a) (ha:a < 9223372036854775808):IntKind.wrap .i64 (((a:Nat):Int) - ((b:Nat):Int))=((a - b:Nat):Int):=by
 rw [show ((a:Nat):Int) - ((b:Nat):Int)=((a - b:Nat):Int) from by omega]
 exact tT (by omega)
def pvO (i:Nat):Option (Int × Nat)->Int × Int
 | some (kind,k)=>(kind,((i+k:Nat):Int))
 | none=>(0,0)
def uW (s:bC) (i:Nat):Int × Int:=pvO i (FT (s.drop i))
theorem ahM {H:ad} {s:bC} {i:Nat} (hi:i < s.length) (hl:s.length < 1000000):
  aj Tryz.prog 51 #[ah s,iV (i:Nat)] H (fun r H'=>r=.tuple #[iV (uW s i).1,iV (uW s i).2]/\H=H'):=by
 refine amG (Nat.le_refl _) fun hf=>?_
 simp only [Tryz.f51,Option.getD_some]
 have jJ:s[i]?=some s[i]:=List.getElem?_eq_getElem hi
 have cT:s.drop i=s[i]::s.drop (i+1):=(List.getElem_cons_drop hi).symm
 have N6:FT (s.drop i)=DK s[i] (s.drop i):=by rw [cT];rfl
 generalize hc:s[i]=c at jJ cT N6
 have oh:=fun h=>yO (P:=Tryz.prog) (h:=h) qC jJ
 have iW:=fun h=>I2 (P:=Tryz.prog) (h:=h) (s:=s) qC
 simp only [go_sem,oh]
 refine ag.by PX ?_
 rintro _ _ - ⟨rfl,rfl⟩
 by_cases h1:qz c=true
 ·simp only [go_sem,h1]
  have eF:((s.drop i).takeWhile lW).length<=(s.drop i).length:=(List.takeWhile_prefix _).length_le
  rw [List.length_drop] at eF
  have uu:uW s i=if 16 < ((s.drop i).takeWhile lW).length then (0,0) else (1,((i+((s.drop i).takeWhile lW).length:Nat):Int)):=by
   rw [uW,N6,DK,if_pos h1]
   by_cases qS:16 < ((s.drop i).takeWhile lW).length
   ·rw [if_pos qS,if_pos qS];rfl
   ·rw [if_neg qS,if_neg qS];rfl
  generalize hk:((s.drop i).takeWhile lW).length=k at eF uu
  refine ft 137438945344 k (fun j V H1=>V 6=iV ((i+j:Nat):Int)/\H=H1) ⟨by simp only [go_sem] <;> rfl,rfl⟩ ?_ ?_ (by rfl)
  ·rintro j V H1 hj ⟨e6,rfl⟩
   obtain ⟨d,hd,hw⟩:=QJ (p:=lW) (l:=s.drop i) (by rw [hk];exact hj)
   rw [List.getElem?_drop] at hd
   have pG:i+j < s.length:=by omega
   have tV:=fun h=>yO (P:=Tryz.prog) (h:=h) qC hd
   have fP:IntKind.wrap .i64 (((i+j:Nat):Int)+1)=((i+(j+1):Nat):Int):=cG pG (by omega)
   simp only [go_sem,e6,iW,pG,tV]
   refine ag.by PX ?_
   rintro _ _ - ⟨rfl,rfl⟩
   by_cases vY:qz d=true
   ·simp only [go_sem,vY,e6,fP]
   ·simp only [go_sem,vY,e6,tV]
    refine ag.by I3 ?_
    rintro _ _ - ⟨rfl,rfl⟩
    by_cases G9:isDigit d=true
    ·simp only [go_sem,G9,e6,fP]
    ·have Xv:((d.toNat:Nat):Int)=95:=by
      have:d=95:=by simpa [lW,vY,G9] using hw
      rw [this];rfl
     simp only [go_sem,G9,e6,tV,Xv,fP]
  ·rintro V H1 ⟨e6,rfl⟩
   by_cases pG:i+k < s.length
   ·have hd:s[i+k]?=some s[i+k]:=List.getElem?_eq_getElem pG
    generalize s[i+k]=d at hd
    have hw:=Qq (p:=lW) (l:=s.drop i) (d:=d) (by rw [hk,List.getElem?_drop];exact hd)
    have tV:=fun h=>yO (P:=Tryz.prog) (h:=h) qC hd
    have vY:qz d=false:=by simp [lW] at hw;exact hw.1.1
    have G9:isDigit d=false:=by simp [lW] at hw;exact hw.1.2
    have Xv:¬((d.toNat:Nat):Int)=95:=fun e=>by
     simp [lW] at hw
     exact hw.2 (UInt8.toNat_inj.1 (by show d.toNat=95;omega))
    simp only [go_sem,e6,iW,pG,tV]
    refine ag.by PX ?_
    rintro _ _ - ⟨rfl,rfl⟩
    simp only [go_sem,vY,e6,tV]
    refine ag.by I3 ?_
    rintro _ _ - ⟨rfl,rfl⟩
    simp only [go_sem,G9,e6,tV,Xv]
    have rH:IntKind.wrap .i64 (((i+k:Nat):Int) - ((i:Nat):Int))=((k:Nat):Int):=by rw [IQ (by omega) (by omega),Nat.add_sub_cancel_left]
    rw [uu]
    by_cases qS:16 < k
    ·have Gp:(16:Int) < ((k:Nat):Int):=by omega
     simp only [go_sem,rH,Gp,qS]
    ·have Gp:¬(16:Int) < ((k:Nat):Int):=by omega
     simp only [go_sem,rH,Gp,qS,e6]
   ·have oi:¬i+k < s.length:=pG
    simp only [go_sem,e6,iW,oi]
    have rH:IntKind.wrap .i64 (((i+k:Nat):Int) - ((i:Nat):Int))=((k:Nat):Int):=by rw [IQ (by omega) (by omega),Nat.add_sub_cancel_left]
    rw [uu]
    by_cases qS:16 < k
    ·have Gp:(16:Int) < ((k:Nat):Int):=by omega
     simp only [go_sem,rH,Gp,qS]
    ·have Gp:¬(16:Int) < ((k:Nat):Int):=by omega
     simp only [go_sem,rH,Gp,qS,e6]
 simp only [go_sem,h1,oh]
 refine ag.by I3 ?_
 rintro _ _ - ⟨rfl,rfl⟩
 by_cases h2:isDigit c=true
 ·simp only [go_sem,h2]
  have eF:((s.drop i).takeWhile isDigit).length<=(s.drop i).length:=(List.takeWhile_prefix _).length_le
  rw [List.length_drop] at eF
  have uu:uW s i=if 9 < ((s.drop i).takeWhile isDigit).length∨1 < ((s.drop i).takeWhile isDigit).length/\c=48 then (0,0) else (2,((i+((s.drop i).takeWhile isDigit).length:Nat):Int)):=by
   rw [uW,N6,DK,if_neg h1,if_pos h2]
   by_cases qS:9 < ((s.drop i).takeWhile isDigit).length∨1 < ((s.drop i).takeWhile isDigit).length/\c=48
   ·rw [if_pos qS,if_pos qS];rfl
   ·rw [if_neg qS,if_neg qS];rfl
  generalize hk:((s.drop i).takeWhile isDigit).length=k at eF uu
  refine ft 576320014815068224 k (fun j V H1=>V 6=iV ((i+j:Nat):Int)/\H=H1) ⟨by simp only [go_sem] <;> rfl,rfl⟩ ?_ ?_ (by rfl)
  ·rintro j V H1 hj ⟨e6,rfl⟩
   obtain ⟨d,hd,hw⟩:=QJ (p:=isDigit) (l:=s.drop i) (by rw [hk];exact hj)
   rw [List.getElem?_drop] at hd
   have pG:i+j < s.length:=by omega
   have tV:=fun h=>yO (P:=Tryz.prog) (h:=h) qC hd
   have fP:IntKind.wrap .i64 (((i+j:Nat):Int)+1)=((i+(j+1):Nat):Int):=cG pG (by omega)
   simp only [go_sem,e6,iW,pG,tV]
   refine ag.by I3 ?_
   rintro _ _ - ⟨rfl,rfl⟩
   simp only [go_sem,hw,e6,fP]
  ·rintro V H1 ⟨e6,rfl⟩
   have rH:IntKind.wrap .i64 (((i+k:Nat):Int) - ((i:Nat):Int))=((k:Nat):Int):=by rw [IQ (by omega) (by omega),Nat.add_sub_cancel_left]
   have MY:∀{Q:Prop},(9 < k->Q)->(¬9 < k->¬1 < k->Q)->(¬9 < k->1 < k->c=48->Q)->(¬9 < k->1 < k->c≠48->Q)->Q:=fun a b c' d=>by
    by_cases x1:9 < k
    ·exact a x1
    by_cases x2:1 < k
    ·by_cases x3:c=48
     ·exact c' x1 x2 x3
     ·exact d x1 x2 x3
    ·exact b x1 x2
   by_cases pG:i+k < s.length
   ·have hd:s[i+k]?=some s[i+k]:=List.getElem?_eq_getElem pG
    generalize s[i+k]=d at hd
    have hw:=Qq (p:=isDigit) (l:=s.drop i) (d:=d) (by rw [hk,List.getElem?_drop];exact hd)
    have tV:=fun h=>yO (P:=Tryz.prog) (h:=h) qC hd
    simp only [go_sem,e6,iW,pG,tV]
    refine ag.by I3 ?_
    rintro _ _ - ⟨rfl,rfl⟩
    rw [uu]
    refine MY (fun a=>?_) (fun a b=>?_) (fun a b c'=>?_) (fun a b c'=>?_)
    ·rw [if_pos (.inl a)]
     have a':(9:Int) < ((k:Nat):Int):=by omega
     simp only [go_sem,hw,e6,rH,a']
    ·rw [if_neg fun h=>h.elim a fun h=>b h.1]
     have a':¬(9:Int) < ((k:Nat):Int):=by omega
     have b':¬(1:Int) < ((k:Nat):Int):=by omega
     simp only [go_sem,hw,e6,rH,a',b']
    ·rw [if_pos (.inr ⟨b,c'⟩)]
     have a':¬(9:Int) < ((k:Nat):Int):=by omega
     have b':(1:Int) < ((k:Nat):Int):=by omega
     have cc:((c.toNat:Nat):Int)=48:=by rw [c'];rfl
     simp only [go_sem,hw,e6,rH,a',b',oh,cc]
    ·rw [if_neg fun h=>h.elim a fun h=>c' h.2]
     have a':¬(9:Int) < ((k:Nat):Int):=by omega
     have b':(1:Int) < ((k:Nat):Int):=by omega
     have cc:¬((c.toNat:Nat):Int)=48:=fun e=>c' (UInt8.toNat_inj.1 (by show c.toNat=48;omega))
     simp only [go_sem,hw,e6,rH,a',b',oh,cc]
   ·simp only [go_sem,e6,iW,pG]
    rw [uu]
    refine MY (fun a=>?_) (fun a b=>?_) (fun a b c'=>?_) (fun a b c'=>?_)
    ·rw [if_pos (.inl a)]
     have a':(9:Int) < ((k:Nat):Int):=by omega
     simp only [go_sem,e6,rH,a']
    ·rw [if_neg fun h=>h.elim a fun h=>b h.1]
     have a':¬(9:Int) < ((k:Nat):Int):=by omega
     have b':¬(1:Int) < ((k:Nat):Int):=by omega
     simp only [go_sem,e6,rH,a',b']
    ·rw [if_pos (.inr ⟨b,c'⟩)]
     have a':¬(9:Int) < ((k:Nat):Int):=by omega
     have b':(1:Int) < ((k:Nat):Int):=by omega
     have cc:((c.toNat:Nat):Int)=48:=by rw [c'];rfl
     simp only [go_sem,e6,rH,a',b',oh,cc]
    ·rw [if_neg fun h=>h.elim a fun h=>c' h.2]
     have a':¬(9:Int) < ((k:Nat):Int):=by omega
     have b':(1:Int) < ((k:Nat):Int):=by omega
     have cc:¬((c.toNat:Nat):Int)=48:=fun e=>c' (UInt8.toNat_inj.1 (by show c.toNat=48;omega))
     simp only [go_sem,e6,rH,a',b',oh,cc]
 simp only [go_sem,h2,oh]
 refine ag.by ala ?_
 rintro _ _ - ⟨rfl,rfl⟩
 by_cases h3:FR c=true
 ·have uu:uW s i=(3,((i+1:Nat):Int)):=by rw [uW,N6,DK,if_neg h1,if_neg h2,if_pos h3];rfl
  rw [uu]
  simp only [go_sem,h3,cG hi (by omega)]
 ·have uu:uW s i=(0,0):=by rw [uW,N6,DK,if_neg h1,if_neg h2,if_neg h3];rfl
  rw [uu]
  simp only [go_sem,h3]
theorem ab4:∀{s:bC} {n:Nat},s.all isDigit=true->s.foldl (fun n c=>10 * n+(c.toNat - 48)) n < (n+1) * 10 ^ s.length
 | [],n,h=>by simp
 | c::s,n,h=>by
  simp only [List.all_cons,Bool.and_eq_true] at h
  have hc:c.toNat - 48<=9:=by have:=h.1;simp [isDigit] at this;omega
  rw [List.foldl_cons,List.length_cons,Nat.pow_succ]
  refine Nat.lt_of_lt_of_le (ab4 h.2) ?_
  have:(10 * n+(c.toNat - 48)+1)<=(n+1) * 10:=by omega
  calc (10 * n+(c.toNat - 48)+1) * 10 ^ s.length<=((n+1) * 10) * 10 ^ s.length:=Nat.mul_le_mul_right _ this
   _=(n+1) * (10 ^ s.length * 10):=by rw [Nat.mul_assoc,Nat.mul_comm 10]
theorem af7 {s:bC} (h:s.all isDigit=true) (hl:s.length<=9):qB s < 1000000000:=by
 have:=ab4 (n:=0) h
 refine Nat.lt_of_lt_of_le this ?_
 rw [Nat.zero_add,Nat.one_mul]
 exact Nat.pow_le_pow_right (by decide) hl
theorem wrap_u8 {n:Nat} (h:n < 256):IntKind.wrap .u8 ((n:Nat):Int)=((n:Nat):Int):=by
 unfold IntKind.wrap
 simp only [IntKind.bits,IntKind.signed,Bool.false_and]
 rw [if_neg (by decide)]
 omega
theorem agU {H:ad} {s:bC} (h:s.all isDigit=true) (hl:s.length<=9):aj Tryz.prog 52 #[ah s] H (fun r H'=>r=iV (qB s:Nat)/\H=H'):=by
 refine amI (Nat.le_refl _) fun hf=>?_
 simp only [Tryz.f52,Option.getD_some]
 have iW:=fun h=>I2 (P:=Tryz.prog) (h:=h) (s:=s) qC
 simp only [go_sem]
 refine ft 524280 s.length (fun i V H1=>V 4=iV (i:Nat)/\V 3=iV (qB (s.take i):Nat)/\H=H1) ⟨by simp only [go_sem] <;> rfl,by simp only [go_sem] <;> rfl,rfl⟩ ?_ ?_ (by rfl)
 ·rintro i V H1 hi ⟨e4,e3,rfl⟩
  have jJ:s[i]?=some s[i]:=List.getElem?_eq_getElem hi
  have hd:isDigit s[i]=true:=List.all_eq_true.1 h _ (List.getElem_mem hi)
  generalize s[i]=c at jJ hd
  have oh:=fun h=>yO (P:=Tryz.prog) (h:=h) qC jJ
  have hc:48<=c.toNat/\c.toNat<=57:=by simpa [isDigit] using hd
  have fG:(s.take i).all isDigit=true:=List.all_eq_true.2 fun x hx=>List.all_eq_true.1 h x (List.mem_of_mem_take hx)
  have hb:=af7 fG (by simp;omega)
  have iX:s.take (i+1)=s.take i++[c]:=by rw [List.take_add_one,jJ];rfl
  have apd:qB (s.take (i+1))=10 * qB (s.take i)+(c.toNat - 48):=by rw [iX,qB,List.foldl_append];rfl
  have fP:IntKind.wrap .u8 (((c.toNat:Nat):Int) - 48)=((c.toNat - 48:Nat):Int):=by
   rw [show ((c.toNat:Nat):Int) - 48=((c.toNat - 48:Nat):Int) from by omega]
   exact wrap_u8 (by omega)
  have qP:IntKind.wrap .i64 ((c.toNat - 48:Nat):Int)=((c.toNat - 48:Nat):Int):=tT (by omega)
  have ED:IntKind.wrap .i64 (10 * ((qB (s.take i):Nat):Int))=((10 * qB (s.take i):Nat):Int):=by
   rw [show (10:Int) * ((qB (s.take i):Nat):Int)=((10 * qB (s.take i):Nat):Int) from by omega]
   exact tT (by omega)
  have EE:IntKind.wrap .i64 (((10 * qB (s.take i):Nat):Int)+((c.toNat - 48:Nat):Int))=((qB (s.take (i+1)):Nat):Int):=by rw [apd];exact wrap_add (by omega)
  have EB:∀{n:Int} {H:ad},yZ Tryz.prog 5 3 (.int .u8 n) H=.ok (.int .i64 (IntKind.wrap .i64 n)) H:=fun {n H}=>Ug (ks:=.u8) (by kernel_rfl) (by kernel_rfl)
  simp only [go_sem,e4,e3,iW,hi,oh,fP,EB,qP,ED,EE,cG hi (by omega)]
 ·rintro V H1 ⟨e4,e3,rfl⟩
  simp only [go_sem,e4,e3,iW]
  rw [List.take_of_length_le (Nat.le_refl _)]
theorem abt {p:UInt8->Bool}:∀{l:bC},l.dropWhile p=l.drop (l.takeWhile p).length
 | []=>rfl
 | c::l=>by
  rw [List.dropWhile_cons,List.takeWhile_cons]
  split
  ·rw [abt (l:=l)];rfl
  ·rfl
theorem ahN {k:Nat} {r:bC} {line az:Int} {acc:List bJ}:jx (k+1) (10::r) line az acc=jx k r (line+1) 1 acc:=by rw [jx];simp
theorem ahO {k:Nat} {c:UInt8} {r:bC} {line az:Int} {acc:List bJ} (h:c=32∨c=9):jx (k+1) (c::r) line az acc=jx k r line (az+1) acc:=by
 rw [jx,if_neg (by rcases h with rfl | rfl <;> decide),if_pos h]
theorem ahP {k:Nat} {r:bC} {line az:Int} {acc:List bJ}:jx (k+1) (35::r) line az acc=jx k ((35::r).dropWhile (·≠10)) line (az+(((35::r).takeWhile (·≠10)).length:Nat)) acc:=by
 rw [jx,if_neg (by decide),if_neg (by decide),if_pos rfl]
def ape (k:Nat) (r:bC) (line az:Int) (acc:List bJ):Option (Int × Nat)->Q9
 | none=>.bad
 | some (kind,w)=>jx k (r.drop w) line (az+(w:Nat)) (acc++[⟨kind,if kind=2 then (qB (r.take w):Nat) else 0,line,az,r.take w⟩])
theorem ahQ {k:Nat} {c:UInt8} {r:bC} {line az:Int} {acc:List bJ} (h1:c≠10) (h2:¬(c=32∨c=9)) (h3:c≠35):jx (k+1) (c::r) line az acc=ape k (c::r) line az acc (FT (c::r)):=by
 rw [jx,if_neg h1,if_neg h2,if_neg h3]
 cases FT (c::r) <;> rfl
theorem af8 {a b c:Int} {s:bC} {h:KH}:iA Tryz.prog 72 [(0,iV a),(4,ah s),(2,iV b),(3,iV c)] h=.ok (.agg #[iV a,iV 0,iV b,iV c,ah s]) h:=by kernel_rfl
theorem af9 {a b c:Int} {h:KH}:iA Tryz.prog 72 [(0,iV a),(2,iV b),(3,iV c)] h=.ok (.agg #[iV a,iV 0,iV b,iV c,ah []]) h:=by kernel_rfl
def ahR (r:Q9) (H0:ad) (w:Value) (H':ad):Prop:=match r with
 | .ok l=>∃v f,w=.tuple #[v,iV 0,iV 0,iV 0]/\Sl Gn H' v l f/\iM H0.next H' f
 | .bad=>∃a b e,w=.tuple #[.slice none 0 0,iV a,iV b,iV e]/\e≠0
theorem agV {H:ad} {s:bC} (hl:s.length < 1000000):aj Tryz.prog 28 #[ah s] H (fun w H'=>aG H H'/\ahR (yR s) H w H'):=by
 refine amp (Nat.le_refl _) fun hf=>?_
 simp only [Tryz.f28,Option.getD_some]
 have iW:=fun h=>I2 (P:=Tryz.prog) (h:=h) (s:=s) qC
 by_cases ue:16384 < s.length
 ·have dX:(16384:Int) < ((s.length:Nat):Int):=by omega
  simp only [go_sem,iW,dX]
  rw [yR,if_pos ue]
  exact ⟨aG.refl H,0,0,3,rfl,by decide⟩
 have dX:¬(16384:Int) < ((s.length:Nat):Int):=by omega
 simp only [go_sem,iW,dX]
 have hR:yR s=jx (s.length+1) s 1 1 []:=by rw [yR,if_neg ue]
 generalize yR s=R at hR
 refine qA 79228162514264337593543892988 (fun n V H1=>∃(i from_ line fuel:Nat) (acc:List bJ) (vL:Value) (f:List Nat),V 9=iV (i:Nat)/\V 7=iV (line:Nat)/\V 8=iV (from_:Nat)/\V 6=vL/\Ow Gn 72 H1 vL acc f/\iM H.next H1 f/\aG H H1/\i<=s.length/\n=s.length - i/\from_<=i/\line<=i+1/\acc.length<=i/\s.length - i < fuel/\R=jx fuel (s.drop i) (line:Nat) ((i - from_+1:Nat):Int) acc) (n:=s.length)
  ⟨0,0,1,s.length+1,[],.slice none 0 0,[],by simp only [go_sem] <;> rfl,by simp only [go_sem] <;> rfl,by simp only [go_sem] <;> rfl,by simp only [go_sem] <;> rfl,Ow.nil _ _ _,⟨by simp,by simp,by simp⟩,aG.refl H,Nat.zero_le _,rfl,Nat.le_refl _,Nat.le_refl _,Nat.le_refl _,by omega,by simpa using hR⟩ ?_ (by rfl)
 rintro n V H1 ⟨i,from_,line,fuel,acc,vL,f,e9,e7,e8,e6,en,dr,hold,N7,hn,oZ,hli,Kw,yu,uf⟩
 by_cases hi:i < s.length
 ·have jJ:s[i]?=some s[i]:=List.getElem?_eq_getElem hi
  have cT:s.drop i=s[i]::s.drop (i+1):=(List.getElem_cons_drop hi).symm
  generalize hc:s[i]=c at jJ cT
  have oh:=fun h=>yO (P:=Tryz.prog) (h:=h) qC jJ
  obtain ⟨k,rfl⟩:∃k,fuel=k+1:=⟨fuel - 1,by omega⟩
  have ci:∀{d:UInt8},((c.toNat:Nat):Int)=((d.toNat:Nat):Int)->c=d:=fun e=>UInt8.toNat_inj.1 (by omega)
  by_cases c1:c=10
  ·have cc:((c.toNat:Nat):Int)=10:=by rw [c1];rfl
   have fP:IntKind.wrap .i64 (((line:Nat):Int)+1)=((line+1:Nat):Int):=wrap_add (k:=1) (by omega)
   simp only [go_sem,e9,e7,iW,hi,oh,cc,cG hi (by omega),fP]
   rw [cT,c1,ahN] at uf
   refine ⟨s.length - (i+1),by omega,i+1,i+1,line+1,k,acc,vL,f,rfl,rfl,rfl,e6,en,dr,hold,hi,rfl,Nat.le_refl _,by omega,by omega,by omega,?_⟩
   rw [uf,Nat.sub_self];rfl
  have n1:¬((c.toNat:Nat):Int)=10:=fun e=>c1 (ci (d:=10) e)
  by_cases c2:c=32∨c=9
  ·rw [cT,ahO c2] at uf
   have MY:R=jx k (s.drop (i+1)) (line:Nat) ((i+1 - from_+1:Nat):Int) acc:=by
    rw [uf,show ((i - from_+1:Nat):Int)+1=((i+1 - from_+1:Nat):Int) from by omega]
   rcases c2 with c2 | c2
   ·have cc:((c.toNat:Nat):Int)=32:=by rw [c2];rfl
    have C1:¬(32:Int)=10:=by decide
    simp only [go_sem,e9,iW,hi,oh,cc,C1,cG hi (by omega)]
    exact ⟨s.length - (i+1),by omega,i+1,from_,line,k,acc,vL,f,rfl,e7,e8,e6,en,dr,hold,hi,rfl,by omega,by omega,by omega,by omega,MY⟩
   ·have cc:((c.toNat:Nat):Int)=9:=by rw [c2];rfl
    have C1:¬(9:Int)=10:=by decide
    have n2':¬(9:Int)=32:=by decide
    simp only [go_sem,e9,iW,hi,oh,cc,C1,n2',cG hi (by omega)]
    exact ⟨s.length - (i+1),by omega,i+1,from_,line,k,acc,vL,f,rfl,e7,e8,e6,en,dr,hold,hi,rfl,by omega,by omega,by omega,by omega,MY⟩
  have n2:¬((c.toNat:Nat):Int)=32:=fun e=>c2 (.inl (ci (d:=32) e))
  have n3:¬((c.toNat:Nat):Int)=9:=fun e=>c2 (.inr (ci (d:=9) e))
  by_cases c3:c=35
  ·have cc:((c.toNat:Nat):Int)=35:=by rw [c3];rfl
   have m1:¬(35:Int)=10:=by decide
   have m2:¬(35:Int)=32:=by decide
   have m3:¬(35:Int)=9:=by decide
   simp only [go_sem,e9,iW,hi,oh,cc,m1,m2,m3]
   have eF:((s.drop i).takeWhile (·≠10)).length<=(s.drop i).length:=(List.takeWhile_prefix _).length_le
   rw [List.length_drop] at eF
   rw [cT,c3,ahP,<-c3,<-cT,abt,List.drop_drop] at uf
   have oR:1<=((s.drop i).takeWhile (·≠10)).length:=by rw [cT,List.takeWhile_cons,if_pos (by simpa using c1)];simp
   generalize hk:((s.drop i).takeWhile (·≠10)).length=q at eF uf oR
   refine ft 2305280059260273152 q (fun j V2 H2=>V2 9=iV ((i+j:Nat):Int)/\H1=H2) ⟨by simp only [go_sem,e9] <;> rfl,rfl⟩ ?_ ?_ (by rfl)
   ·rintro j V2 H2 hj ⟨KC,rfl⟩
    obtain ⟨d,hd,hw⟩:=QJ (p:=(·≠10)) (l:=s.drop i) (by rw [hk];exact hj)
    rw [List.getElem?_drop] at hd
    have pG:i+j < s.length:=by omega
    have tV:=fun h=>yO (P:=Tryz.prog) (h:=h) qC hd
    have vY:¬((d.toNat:Nat):Int)=10:=fun e=>by
     have:d=10:=UInt8.toNat_inj.1 (by show d.toNat=10;omega)
     simp [this] at hw
    have fP:IntKind.wrap .i64 (((i+j:Nat):Int)+1)=((i+(j+1):Nat):Int):=cG pG (by omega)
    simp only [go_sem,KC,iW,pG,tV,vY,fP]
   ·rintro V2 H2 ⟨KC,rfl⟩
    have acR:R=jx k (s.drop (i+q)) (line:Nat) ((i+q - from_+1:Nat):Int) acc:=by
     rw [uf,show ((i - from_+1:Nat):Int)+((q:Nat):Int)=((i+q - from_+1:Nat):Int) from by omega]
    by_cases pG:i+q < s.length
    ·have hd:s[i+q]?=some s[i+q]:=List.getElem?_eq_getElem pG
     generalize s[i+q]=d at hd
     have hw:=Qq (p:=(·≠10)) (l:=s.drop i) (d:=d) (by rw [hk,List.getElem?_drop];exact hd)
     have tV:=fun h=>yO (P:=Tryz.prog) (h:=h) qC hd
     have vY:((d.toNat:Nat):Int)=10:=by
      have:d=10:=by simpa using hw
      rw [this];rfl
     simp only [go_sem,KC,iW,pG,tV,vY]
     exact ⟨s.length - (i+q),by omega,i+q,from_,line,k,acc,vL,f,by first | rfl | exact KC,e7,e8,e6,en,dr,hold,by omega,rfl,by omega,by omega,by omega,by omega,acR⟩
    ·simp only [go_sem,KC,iW,pG]
     exact ⟨s.length - (i+q),by omega,i+q,from_,line,k,acc,vL,f,by first | rfl | exact KC,e7,e8,e6,en,dr,hold,by omega,rfl,by omega,by omega,by omega,by omega,acR⟩
  have n4:¬((c.toNat:Nat):Int)=35:=fun e=>c3 (ci (d:=35) e)
  simp only [go_sem,e9,iW,hi,oh,n1,n2,n3,n4]
  refine ag.by (ahM hi hl) ?_
  rintro _ _ - ⟨rfl,rfl⟩
  rw [cT,ahQ c1 c2 c3,<-cT] at uf
  cases hp:FT (s.drop i) with
  | none=>
   rw [hp] at uf
   have uu:uW s i=(0,0):=by rw [uW,hp];rfl
   have cZ:IntKind.wrap .i64 (((i:Nat):Int) - ((from_:Nat):Int))=((i - from_:Nat):Int):=IQ oZ (by omega)
   have fh:IntKind.wrap .i64 (((i - from_:Nat):Int)+1)=((i - from_+1:Nat):Int):=wrap_add (k:=1) (by omega)
   simp only [go_sem,uu,e9,e7,e8,cZ,fh]
   rw [uf]
   exact ⟨hold,_,_,2,rfl,by decide⟩
  | some kw=>
   obtain ⟨kind,w⟩:=kw
   rw [hp] at uf
   obtain ⟨p1,p2,p3,p4⟩:=TU hp
   rw [List.length_drop] at p2
   have uu:uW s i=(kind,((i+w:Nat):Int)):=by rw [uW,hp];rfl
   have cZ:IntKind.wrap .i64 (((i:Nat):Int) - ((from_:Nat):Int))=((i - from_:Nat):Int):=IQ oZ (by omega)
   have fh:IntKind.wrap .i64 (((i - from_:Nat):Int)+1)=((i - from_+1:Nat):Int):=wrap_add (k:=1) (by omega)
   have yq:¬kind=0:=by omega
   have adT:=ahL (P:=Tryz.prog) (h:=Ab.h0) (s:=s) qC (show i<=i+w by omega) (show i+w<=s.length by omega)
   rw [Nat.add_sub_cancel_left] at adT
   have ey:H.fz H1.next=false:=hf.fresh hold.nx
   simp only [go_sem,uu,yq,e9,e7,e8,cZ,fh,adT,ey,af8,Option.map_none,Option.map_some]
   by_cases k2:kind=2
   ·obtain ⟨q1,q2⟩:=p4 k2
    subst k2
    simp only [go_sem]
    refine ag.by (agU q2 (by rw [List.length_take];omega)) ?_
    rintro _ _ - ⟨rfl,rfl⟩
    simp only [go_sem,ey]
    generalize yv:(H1.push ⟨[iV 2,iV ((qB ((s.drop i).take w):Nat):Int),iV (line:Nat),iV ((i - from_+1:Nat):Int),ah ((s.drop i).take w)],72,false,false⟩)=B0
    have Xw:aG H B0:=hold.trans (by rw [<-yv];exact aG.push H1 _)
    have hnB:B0.next=H1.next+1:=by rw [<-yv];rfl
    have gB:B0.get H1.next=some ⟨[iV 2,iV ((qB ((s.drop i).take w):Nat):Int),iV (line:Nat),iV ((i - from_+1:Nat):Int),ah ((s.drop i).take w)],72,false,false⟩:=by rw [<-yv];rw [aZ,if_pos rfl]
    have UD:∀y∈f,B0.get y=H1.get y:=fun y hy=>by have:=dr.hi y hy;rw [<-yv];rw [bO (by omega)]
    simp only [go_sem,e6,gB,eX JG (by decide) (by decide)]
    refine Ue (Hb:=H) (r:=Gn) (x:=⟨2,((qB ((s.drop i).take w):Nat):Int),line,((i - from_+1:Nat):Int),(s.drop i).take w⟩) (g:=[]) JG (en.ae fun y hy=>by rw [bO (by have:=dr.hi y hy;omega)];exact UD y hy) (Xw.trans (aG.push _ _)) ⟨dr.nd,dr.lo,fun y hy=>by have:=dr.hi y hy;rw [bI];omega⟩ ⟨by simp,by simp,by simp⟩ (by simp) (fun y hy=>hf.fresh (dr.lo y hy)) (by rw [aZ,if_pos rfl]) ⟨rfl,rfl⟩ rfl (by omega) ?_
    intro v7 H7 f7 MZ sd _ eu _ Ms
    simp only [go_sem]
    refine ⟨s.length - (i+w),by omega,i+w,from_,line,k,acc++[⟨2,((qB ((s.drop i).take w):Nat):Int),line,((i - from_+1:Nat):Int),(s.drop i).take w⟩],v7,f7,rfl,e7,e8,rfl,MZ,sd,Ms,by omega,rfl,by omega,by omega,by rw [List.length_append,List.length_singleton];omega,by omega,?_⟩
    rw [uf]
    show jx k ((s.drop i).drop w) _ _ _=_
    rw [List.drop_drop,show ((i - from_+1:Nat):Int)+((w:Nat):Int)=((i+w - from_+1:Nat):Int) from by omega,if_pos rfl]
   ·simp only [go_sem,k2]
    generalize yv:(H1.push ⟨[iV kind,iV 0,iV (line:Nat),iV ((i - from_+1:Nat):Int),ah ((s.drop i).take w)],72,false,false⟩)=B0
    have Xw:aG H B0:=hold.trans (by rw [<-yv];exact aG.push H1 _)
    have hnB:B0.next=H1.next+1:=by rw [<-yv];rfl
    have gB:B0.get H1.next=some ⟨[iV kind,iV 0,iV (line:Nat),iV ((i - from_+1:Nat):Int),ah ((s.drop i).take w)],72,false,false⟩:=by rw [<-yv];rw [aZ,if_pos rfl]
    have UD:∀y∈f,B0.get y=H1.get y:=fun y hy=>by have:=dr.hi y hy;rw [<-yv];rw [bO (by omega)]
    simp only [go_sem,e6,gB,eX JG (by decide) (by decide)]
    refine Ue (Hb:=H) (r:=Gn) (x:=⟨kind,0,line,((i - from_+1:Nat):Int),(s.drop i).take w⟩) (g:=[]) JG (en.ae fun y hy=>by rw [bO (by have:=dr.hi y hy;omega)];exact UD y hy) (Xw.trans (aG.push _ _)) ⟨dr.nd,dr.lo,fun y hy=>by have:=dr.hi y hy;rw [bI];omega⟩ ⟨by simp,by simp,by simp⟩ (by simp) (fun y hy=>hf.fresh (dr.lo y hy)) (by rw [aZ,if_pos rfl]) ⟨rfl,rfl⟩ rfl (by omega) ?_
    intro v7 H7 f7 MZ sd _ eu _ Ms
    simp only [go_sem]
    refine ⟨s.length - (i+w),by omega,i+w,from_,line,k,acc++[⟨kind,0,line,((i - from_+1:Nat):Int),(s.drop i).take w⟩],v7,f7,rfl,e7,e8,rfl,MZ,sd,Ms,by omega,rfl,by omega,by omega,by rw [List.length_append,List.length_singleton];omega,by omega,?_⟩
    rw [uf]
    show jx k ((s.drop i).drop w) _ _ _=_
    rw [List.drop_drop,show ((i - from_+1:Nat):Int)+((w:Nat):Int)=((i+w - from_+1:Nat):Int) from by omega,if_neg k2]
 ·have hie:i=s.length:=by omega
  subst hie
  obtain ⟨k,rfl⟩:∃k,fuel=k+1:=⟨fuel - 1,by omega⟩
  rw [List.drop_length,jx] at uf
  have cZ:IntKind.wrap .i64 (((s.length:Nat):Int) - ((from_:Nat):Int))=((s.length - from_:Nat):Int):=IQ oZ (by omega)
  have fh:IntKind.wrap .i64 (((s.length - from_:Nat):Int)+1)=((s.length - from_+1:Nat):Int):=wrap_add (k:=1) (by omega)
  simp only [go_sem,e9,e7,e8,e6,iW,cZ,fh,af9,eX JG (by decide) (by decide)]
  refine Ue (Hb:=H) (r:=Gn) (x:=⟨4,0,line,((s.length - from_+1:Nat):Int),[]⟩) (g:=[]) JG (en.ae fun y hy=>bO (dr.hi y hy)) (hold.trans (aG.push _ _)) ⟨dr.nd,dr.lo,fun y hy=>by have:=dr.hi y hy;rw [bI];omega⟩ ⟨by simp,by simp,by simp⟩ (by simp) (fun y hy=>hf.fresh (dr.lo y hy)) (by rw [aZ,if_pos rfl]) ⟨rfl,rfl⟩ rfl (by omega) ?_
  intro v7 H7 f7 MZ sd _ eu _ Ms
  simp only [go_sem]
  rw [uf]
  exact ⟨Ms,v7,f7,rfl,MZ.sl,sd⟩
theorem aj.told {P:Program} {f:FuncId} {args:Array Value} {H:ad} {K:Value->ad->Prop} (h:aj P f args H fun v H'=>K v (H'.af H.fz)):aj P f args H K:=fun hf=>by
 refine aj.af (h.mono fun v H' hk hK=>?_) hf
 exact ⟨H.fz,fun _ h=>h,fun b hb=>Nat.lt_of_lt_of_le (hf.fz b hb) hk.nx,hK⟩
theorem sU {H:ad} {b:Nat} {B C:cO}:(H.ai b B).ai b C=H.ai b C:=by
 unfold ad.ai
 congr 1
 funext x
 by_cases h:x=b <;> simp [h]
structure aV where
 at_:Nat
 depth:Int
 bad:Int
deriving DecidableEq
abbrev iC (t:bJ):List Value:=[iV t.kind,iV t.n,iV t.line,iV t.az,ah t.text]
def eot:bJ:=⟨4,0,0,0,[]⟩
def tk (L:List bJ) (st:aV):bJ:=L.getD st.at_ eot
structure PP0 (L:List bJ) (F:List Nat) (H:ad) (q rb:Nat) (st:aV):Prop where
 hq:∃c1 c2 c3 c4,H.get q=some ⟨[.pointer (some ⟨rb,0,none⟩),c1,c2,c3,c4],123,false,false⟩
 hr:∃vL a n c,H.get rb=some ⟨[vL,iV (st.at_:Nat),.slice none 0 0,.bool true,iV st.depth,iV st.bad,.slice a n c],121,false,false⟩/\Sl Gn H vL L F
 hF:∀b∈F,b < H.next/\b≠rb/\b≠q
 qr:q≠rb
 at_:st.at_ < L.length
 ql:q < H.next
 rl:rb < H.next
structure PP (L:List bJ) (F:List Nat) (H:ad) (q rb:Nat) (st:aV):Prop extends PP0 L F H q rb st where
 fz:H.fz rb=false
def gW (L:List bJ) (F:List Nat) (H:ad) (q rb:Nat) (st:aV) (H':ad):Prop:=Fr [rb] H H'/\(∀c,H'.fz c=H.fz c)/\PP0 L F H' q rb st
theorem PP.post {L:List bJ} {F:List Nat} {H:ad} {q rb:Nat} {st bW:aV} {H':ad} (h:PP L F H q rb st) (hp:gW L F H q rb bW H'):PP L F H' q rb bW:={hp.2.2 with fz:=by rw [hp.2.1];exact h.fz}
theorem gW.refl {L:List bJ} {F:List Nat} {H:ad} {q rb:Nat} {st:aV} (h:PP0 L F H q rb st):gW L F H q rb st H:=⟨.refl _ _,fun _=>rfl,h⟩
theorem gW.trans {L:List bJ} {F:List Nat} {H H1 H2:ad} {q rb:Nat} {st bW:aV} (h:gW L F H q rb st H1) (h':gW L F H1 q rb bW H2):gW L F H q rb bW H2:=⟨h.1.then h'.1,fun c=>(h'.2.1 c).trans (h.2.1 c),h'.2.2⟩
theorem PP0.au {L:List bJ} {F:List Nat} {H H':ad} {q rb:Nat} {st:aV} (h:PP0 L F H q rb st) (ho:aG H H'):PP0 L F H' q rb st:=by
 obtain ⟨⟨c1,c2,c3,c4,hq⟩,⟨vL,a,n,c,hr,hs⟩,hf,h3,h4,h5,h6⟩:=h
 exact ⟨⟨c1,c2,c3,c4,(ho.get q h5).trans hq⟩,⟨vL,a,n,c,(ho.get rb h6).trans hr,hs.ae fun b hb=>ho.get b (hf b hb).1⟩,fun b hb=>⟨Nat.lt_of_lt_of_le (hf b hb).1 ho.nx,(hf b hb).2⟩,h3,h4,Nat.lt_of_lt_of_le h5 ho.nx,Nat.lt_of_lt_of_le h6 ho.nx⟩
theorem PP0.af {L:List bJ} {F:List Nat} {H:ad} {q rb:Nat} {st:aV} {fz:Nat->Bool} (h:PP0 L F H q rb st):PP0 L F (H.af fz) q rb st:=by
 obtain ⟨h1,⟨vL,a,n,c,hr,hs⟩,hf,h3,h4,h5,h6⟩:=h
 exact ⟨h1,⟨vL,a,n,c,hr,hs.ae fun _ _=>rfl⟩,hf,h3,h4,h5,h6⟩
theorem gW.same {L:List bJ} {F:List Nat} {H H':ad} {q rb:Nat} {st:aV} (h:PP0 L F H q rb st) (ho:aG H H'):gW L F H q rb st (H'.af H.fz):=⟨(ho.fr _).af _,fun _=>rfl,(h.au ho).af⟩
theorem gW.last {L:List bJ} {F:List Nat} {H H':ad} {q rb:Nat} {st:aV} (h:Fr [rb] H H') (hp:PP0 L F H' q rb st):gW L F H q rb st (H'.af H.fz):=⟨h.af _,fun _=>rfl,hp.af⟩
theorem PP0.fM {L:List bJ} {F:List Nat} {H:ad} {q rb:Nat} {st:aV} (h:PP0 L F H q rb st):∃c1 c2 c3 c4 bL oL cL BL a n c,H.get q=some ⟨[.pointer (some ⟨rb,0,none⟩),c1,c2,c3,c4],123,false,false⟩/\
  H.get rb=some ⟨[.slice (some ⟨bL,oL,none⟩) L.length cL,iV (st.at_:Nat),.slice none 0 0,.bool true,iV st.depth,iV st.bad,.slice a n c],121,false,false⟩/\H.get bL=some BL/\
  oL+st.at_ * 5+5<=BL.cells.length/\(BL.cells.drop (oL+st.at_ * 5)).take 5=iC (tk L st)/\BL.cells[oL+st.at_ * 5]?=some (iV (tk L st).kind)/\BL.cells[oL+st.at_ * 5+4]?=some (ah (tk L st).text)/\bL≠rb/\bL < H.next/\bL≠q:=by
 obtain ⟨⟨c1,c2,c3,c4,hq⟩,⟨vL,a,n,c,hr,hs⟩,hf,h3,h4,h5,h6⟩:=h
 obtain ⟨b,o,cc,B,g,hv,hB,dI,CZ,cb,hE⟩:=hs.at (List.getElem?_eq_getElem h4)
 subst hv
 have ht:tk L st=L[st.at_]:=by simp [tk,List.getD_eq_getElem?_getD,h4]
 have er:(B.cells.drop (o+st.at_ * 5)).take 5=iC (tk L st):=by rw [ht];exact hE.1
 have key:∀(j:Nat),j < 5->B.cells[o+st.at_ * 5+j]?=(iC (tk L st))[j]?:=fun j hj=>by
  rw [<-er,List.getElem?_take,if_pos hj,List.getElem?_drop]
 exact ⟨c1,c2,c3,c4,b,o,cc,B,a,n,c,hq,hr,hB,cb,er,key 0 (by decide),key 4 (by decide),(hf b dI).2.1,(hf b dI).1,(hf b dI).2.2⟩
theorem PP0.set {L:List bJ} {F:List Nat} {H:ad} {q rb:Nat} {st:aV} (h:PP0 L F H q rb st) {vL v1 v4 v5 vP:Value} (hr:H.get rb=some ⟨[vL,v1,.slice none 0 0,.bool true,v4,v5,vP],121,false,false⟩) (bW:aV) (ha:bW.at_ < L.length):
  PP0 L F (H.ai rb ⟨[vL,iV (bW.at_:Nat),.slice none 0 0,.bool true,iV bW.depth,iV bW.bad,vP],121,false,false⟩) q rb bW:=by
 obtain ⟨⟨c1,c2,c3,c4,hq⟩,⟨vL',a,n,c,iU,hs⟩,hf,h3,h4,h5,h6⟩:=h
 rw [hr] at iU
 cases iU
 refine ⟨⟨c1,c2,c3,c4,by rw [aH,if_neg h3];exact hq⟩,⟨vL,a,n,c,by rw [aH,if_pos rfl],hs.ae fun b hb=>by rw [aH,if_neg (hf b hb).2.1]⟩,hf,h3,ha,h5,h6⟩
theorem PP0.put {L:List bJ} {F:List Nat} {H:ad} {q rb:Nat} {st:aV} (h:PP0 L F H q rb st) {b:Nat} (B:cO) (hq:b≠q) (hr:b≠rb) (hF:b∉F):PP0 L F (H.ai b B) q rb st:=by
 obtain ⟨⟨c1,c2,c3,c4,nI⟩,⟨vL,a,n,c,iU,hs⟩,hf,h3,h4,h5,h6⟩:=h
 exact ⟨⟨c1,c2,c3,c4,by rw [aH,if_neg (Ne.symm hq)];exact nI⟩,⟨vL,a,n,c,by rw [aH,if_neg (Ne.symm hr)];exact iU,hs.ae fun x hx=>by rw [aH,if_neg (by rintro rfl;exact hF hx)]⟩,hf,h3,h4,h5,h6⟩
theorem PP0.fr {L:List bJ} {F:List Nat} {H H':ad} {q rb:Nat} {st:aV} (h:PP0 L F H q rb st) {M:List Nat} (bk:Fr M H H') (mq:q∉M) (mr:rb∉M) (mF:∀b∈F,b∉M):PP0 L F H' q rb st:=by
 obtain ⟨⟨c1,c2,c3,c4,nI⟩,⟨vL,a,n,c,iU,hs⟩,hf,h3,h4,h5,h6⟩:=h
 exact ⟨⟨c1,c2,c3,c4,(bk.get q h5 mq).trans nI⟩,⟨vL,a,n,c,(bk.get rb h6 mr).trans iU,hs.ae fun x hx=>bk.get x (hf x hx).1 (mF x hx)⟩,fun b hb=>⟨Nat.lt_of_lt_of_le (hf b hb).1 bk.nx,(hf b hb).2⟩,h3,h4,Nat.lt_of_lt_of_le h5 bk.nx,Nat.lt_of_lt_of_le h6 bk.nx⟩
theorem PP.push {L:List bJ} {F:List Nat} {H:ad} {q rb:Nat} {st:aV} (h:PP L F H q rb st) (B:cO) (hB:B.ro=false:=by rfl):PP L F (H.push B) q rb st:=
 {h.toPP0.au (aG.push H B hB) with fz:=(by have:=h.rl;rw [rv,h.fz,Bool.or_false,beq_eq_false_iff_ne];omega)}
theorem PP0.fresh {L:List bJ} {F:List Nat} {H:ad} {q rb:Nat} {st:aV} (h:PP0 L F H q rb st) {b:Nat} (hb:H.next<=b):b≠q/\b≠rb/\b∉F:=⟨by have:=h.ql;omega,by have:=h.rl;omega,fun e=>by have:=(h.hF b e).1;omega⟩
def dj (st:aV):Bool:=decide (st.bad=0)
def cW (L:List bJ) (s:bC) (st:aV):Bool:=decide ((tk L st).kind=1)&&decide ((tk L st).text=s)
def el (L:List bJ) (s:bC) (st:aV):Bool:=decide ((tk L st).kind=3)&&decide ((tk L st).text=s)
def fD (e:Int) (st:aV):aV:=if st.bad=0 then {st with bad:=e} else st
def aC (st:aV):aV:={st with at_:=st.at_+1}
def uX (L:List bJ) (st:aV):Bool:=decide ((tk L st).kind=1)&&FU (tk L st).text
def zo (L:List bJ) (s:bC) (st:aV):aV:=if dj st&&!cW L s st&&!el L s st then fD 2 st else st
def dO (L:List bJ) (s:bC) (st:aV):aV:=if dj (zo L s st) then aC (zo L s st) else zo L s st
def A4 (L:List bJ) (st:aV):aV:=if dj st&&!uX L st then fD 2 st else st
def cF (L:List bJ) (st:aV):bC × aV:=if dj (A4 L st) then ((tk L (A4 L st)).text,aC (A4 L st)) else ([],A4 L st)
section
variable {L:List bJ} {F:List Nat} {H:ad} {q rb:Nat} {st:aV}
abbrev pV (b:Nat):Value:=.pointer (some ⟨b,0,none⟩)
theorem fA (h:PP L F H q rb st):aj Tryz.prog 74 #[pV q] H (fun w H'=>w=.bool (dj st)/\H=H'):=by
 refine anc (Nat.le_refl _) fun hf=>?_
 simp only [Tryz.f74,Option.getD_some]
 obtain ⟨c1,c2,c3,c4,bL,oL,cL,BL,a,n,c,hq,hr,hB,hl,er,h0,h4,dd,cb,eO⟩:=h.fM
 simp only [go_sem,hq,hr,dj]
theorem oM (h:PP L F H q rb st) {s:bC}:aj Tryz.prog 125 #[pV rb,ah s] H (fun w H'=>w=.bool (el L s st)/\H=H'):=by
 refine ajz (Nat.le_refl _) fun hf=>?_
 simp only [Tryz.f125,Option.getD_some]
 obtain ⟨c1,c2,c3,c4,bL,oL,cL,BL,a,n,c,hq,hr,hB,hl,er,h0,h4,dd,cb,eO⟩:=h.fM
 have eB:=h.at_
 by_cases hk:(tk L st).kind=3
 ·rw [hk] at h0
  simp only [go_sem,hq,hr,hB,h0,h4,eB]
  simp [el,hk]
 ·simp only [go_sem,hq,hr,hB,h0,h4,eB,hk]
  simp [el,hk]
theorem sY (h:PP L F H q rb st):aj Tryz.prog 75 #[pV q] H (fun w H'=>w=.agg #[iV (tk L st).kind,iV (tk L st).n,iV (tk L st).line,iV (tk L st).az,ah (tk L st).text]/\gW L F H q rb st H'):=by
 refine aj.told ?_
 refine anf (Nat.le_refl _) fun hf=>?_
 simp only [Tryz.f75,Option.getD_some]
 obtain ⟨c1,c2,c3,c4,bL,oL,cL,BL,a,n,c,hq,hr,hB,hl,er,h0,h4,dd,cb,eO⟩:=h.fM
 have eB:=h.at_
 have nq:¬q=H.next:=by have:=h.ql;omega
 have nr:¬rb=H.next:=by have:=h.rl;omega
 have nb:¬bL=H.next:=by omega
 have hX:H.fz H.next=false:=hf.fresh (Nat.le_refl _)
 simp only [go_sem,hq,hr,hB,er,hl,eB,nq,nr,nb,hX]
 exact gW.same h.toPP0 (aG.push H _)
theorem gH (h:PP L F H q rb st) {s:bC}:aj Tryz.prog 94 #[pV q,ah s] H (fun w H'=>w=.bool (cW L s st)/\gW L F H q rb st H'):=by
 refine aj.told ?_
 refine anC (Nat.le_refl _) fun hf=>?_
 simp only [Tryz.f94,Option.getD_some]
 simp only [go_sem]
 refine ag.by (sY h) ?_
 rintro _ H1 - ⟨rfl,p1⟩
 by_cases hk:(tk L st).kind=1
 ·simp only [go_sem,hk]
  refine ag.by (sY (h.post p1)) ?_
  rintro _ H2 - ⟨rfl,p2⟩
  simp only [go_sem]
  exact ⟨by simp [cW,hk],.last (p1.trans p2).1 (p1.trans p2).2.2⟩
 ·simp only [go_sem,hk]
  exact ⟨by simp [cW,hk],.last p1.1 p1.2.2⟩
theorem lU (h:PP L F H q rb st) {e:Int}:aj Tryz.prog 95 #[pV q,iV e] H (fun w H'=>gW L F H q rb (fD e st) H'):=by
 refine aj.told ?_
 refine anE (Nat.le_refl _) fun hf=>?_
 simp only [Tryz.f95,Option.getD_some]
 obtain ⟨c1,c2,c3,c4,bL,oL,cL,BL,a,n,c,hq,hr,hB,hl,er,h0,h4,dd,cb,eO⟩:=h.fM
 have hz:=h.fz
 by_cases hb:st.bad=0
 ·simp only [go_sem,hq,hr,hb,hz]
  rw [fD,if_pos hb]
  refine .last ((Fr.refl _ _).ai (.inl (by simp)) _) ?_
  exact h.toPP0.set hr ⟨st.at_,st.depth,e⟩ h.at_
 ·simp only [go_sem,hq,hr,hb]
  rw [fD,if_neg hb]
  exact .last (.refl _ _) h.toPP0
theorem Xx:fx Tryz.prog 9=some [ah []]:=by kernel_rfl
theorem aaQ (H:ad):∀l:List bC,dT .str H (l.map ah) l []
 | []=>rfl
 | x::l=>⟨[ah x],l.map ah,[],[],rfl,rfl,⟨rfl,rfl⟩,aaQ H l⟩
theorem Sl.Me {v:Value} {l:List bC} {f:List Nat} (h:Sl .str H v l f) {i:Nat} {x:bC} (hi:l[i]?=some x):∃b o c B,v=.slice (some ⟨b,o,none⟩) l.length c/\H.get b=some B/\b∈f/\B.cells[o+i]?=some (ah x):=by
 obtain ⟨b,o,c,B,g,hv,hB,dI,_,cb,hE⟩:=h.at hi
 refine ⟨b,o,c,B,hv,hB,dI,?_⟩
 have:((B.cells.drop (o+i * 1)).take 1)[0]?=some (ah x):=by rw [show (B.cells.drop (o+i * 1)).take 1=_ from hE.1];rfl
 rw [List.getElem?_take,if_pos (by decide),List.getElem?_drop,Nat.mul_one,Nat.add_zero] at this
 exact this
theorem abu {l:List bC} (hl:l≠[]) {ty:TypeId}:Sl .str (H.push ⟨l.map ah,ty,false,false⟩) (.slice (some ⟨H.next,0,none⟩) l.length l.length) l [H.next]:=
 .inr (.inr ⟨H.next,0,_,_,[],rfl,hl,Nat.le_refl _,rfl,by rw [aZ,if_pos rfl],aaQ _ l⟩)
theorem alb:aj Tryz.prog 73 #[] H (fun w H'=>aG H H'/\Sl .str H' w A2 [H.next]/\H.next < H'.next):=by
 refine ana (Nat.le_refl _) fun hf=>?_
 simp only [Tryz.f73,Option.getD_some]
 have bl:∀{H':ad},qx Tryz.prog 25 30 ((List.range 30).map fun i=>(i,ah (A2.getD i []))) H'=.ok (.slice (some ⟨H'.next,0,none⟩) 30 30) (H'.push ⟨A2.map ah,9,false,false⟩):=fun {H'}=>
  AK wH Xx (by decide) (by decide) rfl
 have bl2:∀{H':ad},qx Tryz.prog 25 30 [(0,ah [109,115,103]),(1,ah [114,101,99]),(2,ah [100,101,102]),(3,ah [97,99,116,111,114]),(4,ah [111,110]),(5,ah [108,101,116]),(6,ah [110,101,119]),(7,ah [115,116,97,114,116]),(8,ah [103,101,116]),(9,ah [115,101,116]),(10,ah [115,119,97,112]),(11,ah [114,101,99,111,118,101,114]),(12,ah [103,105,118,101]),(13,ah [108,111,111,112]),(14,ah [115,112,97,119,110]),(15,ah [99,97,108,108]),(16,ah [97,103,97,105,110]),(17,ah [103,117,97,114,100]),(18,ah [102,114,101,101]),(19,ah [97,115]),(20,ah [105,102]),(21,ah [101,108,115,101]),(22,ah [100,111,110,101]),(23,ah [109,111,118,101]),(24,ah [105,110,116]),(25,ah [97,114,114]),(26,ah [105,115,111]),(27,ah [118,97,108]),(28,ah [114,101,102]),(29,ah [116,97,103])] H'=.ok (.slice (some ⟨H'.next,0,none⟩) 30 30) (H'.push ⟨A2.map ah,9,false,false⟩):=bl
 simp only [go_sem,bl2]
 exact ⟨aG.push H _,abu (by decide),Nat.lt_succ_self _⟩
theorem anN {s:bC}:aj Tryz.prog 53 #[ah s] H (fun w H'=>w=.bool (isKey s)/\aG H H'):=by
 refine amK (Nat.le_refl _) fun hf=>?_
 simp only [Tryz.f53,Option.getD_some]
 simp only [go_sem]
 refine ag.by alb ?_
 rintro v H1 - ⟨hold,hs,hn⟩
 obtain ⟨a0,c0,gj⟩:=hs.val
 have hlen:A2.length=30:=rfl
 rw [hlen] at gj
 simp only [go_sem,gj]
 refine ft 32660 30 (fun i V H2=>V 7=iV (i:Nat)/\H1=H2/\∀k,k < i->A2[k]?≠some s) ⟨by simp only [go_sem] <;> rfl,rfl,by omega⟩ ?_ ?_ (by rfl)
 ·rintro i V H2 hi ⟨e7,rfl,mU⟩
  have jJ:A2[i]?=some (A2[i]'(by rw [hlen];exact hi)):=List.getElem?_eq_getElem _
  generalize (A2[i]'(by rw [hlen];exact hi))=x at jJ
  obtain ⟨b,o,c,B,hv,hB,dI,hc⟩:=hs.Me jJ
  rw [gj,hlen] at hv
  cases hv
  by_cases hd:s=x
  ·subst hd
   simp only [go_sem,e7,hi,hB,hc,aaP]
   refine ⟨?_,hold⟩
   have:isKey s=true:=by rw [isKey,List.contains_iff_mem];exact List.mem_of_getElem? jJ
   rw [this]
  ·simp only [go_sem,e7,hi,hB,hc,aaP,hd,cG hi (by omega)]
   intro k hk
   by_cases e:k=i
   ·subst e;rw [jJ];intro h;cases h;exact hd rfl
   ·exact mU k (by omega)
 ·rintro V H2 ⟨e7,rfl,mU⟩
  simp only [go_sem,e7]
  refine ⟨?_,hold⟩
  have:isKey s=false:=by
   rw [Bool.eq_false_iff,isKey,Ne,List.contains_iff_mem,List.mem_iff_getElem?]
   rintro ⟨k,hk⟩
   exact mU k (by have:=(List.getElem?_eq_some_iff.1 hk).1;rw [hlen] at this;exact this) hk
  rw [this]
theorem TV {s:bC}:isWord s=true↔s≠[]/\s.length<=16/\∀(k:Nat) (c:UInt8),s[k]?=some c->qz c=true∨(k≠0/\lW c=true):=by
 cases s with
 | nil=>simp [isWord]
 | cons a r=>
  simp only [isWord,Bool.and_eq_true,decide_eq_true_eq,List.all_eq_true]
  constructor
  ·rintro ⟨⟨h1,h2⟩,h3⟩
   refine ⟨by simp,h3,fun k c hk=>?_⟩
   cases k with
   | zero=>cases hk;exact .inl h1
   | succ k=>exact .inr ⟨by omega,h2 c (List.mem_of_getElem? hk)⟩
  ·rintro ⟨_,h3,h⟩
   refine ⟨⟨?_,fun c hc=>?_⟩,h3⟩
   ·rcases h 0 a rfl with e | ⟨e,_⟩
    ·exact e
    ·exact absurd rfl e
   ·obtain ⟨k,hk⟩:=List.mem_iff_getElem?.1 hc
    rcases h (k+1) c hk with e | ⟨_,e⟩
    ·simp [lW,e]
    ·exact e
theorem alc {s:bC} (hl:s.length < 1000000):aj Tryz.prog 162 #[ah s] H (fun w H'=>w=.bool (isWord s)/\H=H'):=by
 refine akD (Nat.le_refl _) fun hf=>?_
 simp only [Tryz.f162,Option.getD_some]
 have iW:=fun h=>I2 (P:=Tryz.prog) (h:=h) (s:=s) qC
 simp only [go_sem]
 refine ft 4294967292 s.length (fun i V H1=>V 3=iV (i:Nat)/\H=H1/\∀(k:Nat) (c:UInt8),k < i->s[k]?=some c->qz c=true∨(k≠0/\lW c=true)) ⟨by simp only [go_sem] <;> rfl,rfl,by omega⟩ ?_ ?_ (by rfl)
 ·rintro i V H1 hi ⟨e3,rfl,fG⟩
  have jJ:s[i]?=some s[i]:=List.getElem?_eq_getElem hi
  generalize s[i]=c at jJ
  have oh:=fun h=>yO (P:=Tryz.prog) (h:=h) qC jJ
  have bw:(qz c=true∨(i≠0/\lW c=true))->∀(k:Nat) (d:UInt8),k < i+1->s[k]?=some d->qz d=true∨(k≠0/\lW d=true):=fun h k d hk hd=>by
   by_cases e:k=i
   ·subst e;rw [jJ] at hd;cases hd;exact h
   ·exact fG k d (by omega) hd
  have mU:¬(qz c=true∨(i≠0/\lW c=true))->isWord s=false:=fun h=>by
   rw [Bool.eq_false_iff,Ne,TV]
   rintro ⟨_,_,h2⟩
   exact h (h2 i c jJ)
  simp only [go_sem,e3,iW,hi,oh]
  refine ag.by PX ?_
  rintro _ _ - ⟨rfl,rfl⟩
  by_cases h1:qz c=true
  ·simp only [go_sem,h1,e3,cG hi (by omega)]
   exact bw (.inl h1)
  ·by_cases j9:i=0
   ·subst j9
    have e0:(((0:Nat):Int)=0)=True:=by simp
    simp only [go_sem,h1,e3,e0]
    rw [mU (by simp [h1])]
   ·have e0:¬((i:Nat):Int)=0:=by omega
    simp only [go_sem,h1,e3,e0,oh]
    refine ag.by I3 ?_
    rintro _ _ - ⟨rfl,rfl⟩
    by_cases h2:isDigit c=true
    ·simp only [go_sem,h2,e3,cG hi (by omega)]
     exact bw (.inr ⟨j9,by simp [lW,h2]⟩)
    ·by_cases h3:((c.toNat:Nat):Int)=95
     ·have hc:c=95:=UInt8.toNat_inj.1 (by show c.toNat=95;omega)
      simp only [go_sem,h2,e3,oh,h3,cG hi (by omega)]
      exact bw (.inr ⟨j9,by simp [lW,hc]⟩)
     ·have hc:c≠95:=fun e=>h3 (by rw [e];rfl)
      simp only [go_sem,h2,e3,oh,h3]
      rw [mU (by simp [h1,h2,lW,hc])]
 ·rintro V H1 ⟨e3,rfl,fG⟩
  have anO:∀(k:Nat) (c:UInt8),s[k]?=some c->qz c=true∨(k≠0/\lW c=true):=fun k c hk=>fG k c (List.getElem?_eq_some_iff.1 hk).1 hk
  by_cases h0:(1:Int)<=((s.length:Nat):Int)
  ·have dd:s≠[]:=List.length_pos_iff.1 (by omega)
   by_cases qS:((s.length:Nat):Int)<=16
   ·simp only [go_sem,e3,iW,h0,qS]
    rw [TV.2 ⟨dd,by omega,anO⟩]
   ·have:isWord s=false:=by rw [Bool.eq_false_iff,Ne,TV];rintro ⟨_,h,_⟩;omega
    simp only [go_sem,e3,iW,h0,qS,this]
  ·have:isWord s=false:=by
    have:s=[]:=List.length_eq_zero_iff.1 (by omega)
    rw [this];rfl
   simp only [go_sem,e3,iW,h0,this]
theorem ab5 {s:bC} (hl:s.length < 1000000):aj Tryz.prog 148 #[ah s] H (fun w H'=>w=.bool (FU s)/\aG H H'):=by
 refine akd (Nat.le_refl _) fun hf=>?_
 simp only [Tryz.f148,Option.getD_some]
 simp only [go_sem]
 refine ag.by (alc hl) ?_
 rintro _ _ - ⟨rfl,rfl⟩
 by_cases h:isWord s=true
 ·simp only [go_sem,h]
  refine ag.by anN ?_
  rintro _ H1 - ⟨rfl,hold⟩
  simp only [go_sem,FU,h,Bool.true_and]
  exact hold
 ·simp only [go_sem,h,FU,Bool.false_and]
  exact aG.refl H
structure LG (L:List bJ):Prop where
 ok:N5 L
 len:L.length < 1000000
 text:∀t∈L,t.text.length < 1000000
theorem abv (hL:LG L):(tk L st).text.length < 1000000:=by
 unfold tk
 rw [List.getD_eq_getElem?_getD]
 cases h:L[st.at_]? with
 | none=>decide
 | some t=>exact hL.text t (List.mem_of_getElem? h)
theorem oK (hL:LG L) (ha:st.at_ < L.length) (hk:(tk L st).kind≠4):st.at_+1 < L.length:=by
 have h:L[st.at_]?=some L[st.at_]:=List.getElem?_eq_getElem ha
 refine hL.ok.next h ?_
 have:tk L st=L[st.at_]:=by simp [tk,List.getD_eq_getElem?_getD,ha]
 rw [<-this];exact hk
theorem L0 (hL:LG L) (h:PP L F H q rb st):aj Tryz.prog 122 #[pV q] H (fun w H'=>w=.bool (uX L st)/\gW L F H q rb st H'):=by
 refine aj.told ?_
 refine ajt (Nat.le_refl _) fun hf=>?_
 simp only [Tryz.f122,Option.getD_some]
 simp only [go_sem]
 refine ag.by (sY h) ?_
 rintro _ H1 - ⟨rfl,p1⟩
 by_cases hk:(tk L st).kind=1
 ·simp only [go_sem,hk]
  refine ag.by (sY (h.post p1)) ?_
  rintro _ H2 - ⟨rfl,p2⟩
  simp only [go_sem]
  refine ag.by (ab5 (abv hL)) ?_
  rintro _ H3 - ⟨rfl,o3⟩
  simp only [go_sem]
  have dJ:=p1.trans p2
  exact ⟨by simp [uX,hk],.last (dJ.1.then (o3.fr _)) (dJ.2.2.au o3)⟩
 ·simp only [go_sem,hk]
  exact ⟨by simp [uX,hk],.last p1.1 p1.2.2⟩
theorem ahS:dj st=true↔st.bad=0:=by simp [dj]
theorem PY {e:Int} (he:e≠0) (hb:dj st=true):dj (fD e st)=false:=by
 rw [ahS] at hb
 simp [fD,hb,dj,he]
theorem jT {s:bC} (h:cW L s st=true):(tk L st).kind≠4:=by simp [cW] at h;omega
theorem xV {s:bC} (h:el L s st=true):(tk L st).kind≠4:=by simp [el] at h;omega
theorem anP (h:uX L st=true):(tk L st).kind≠4:=by simp [uX] at h;omega
theorem i3 (hL:LG L) (h:PP L F H q rb st) {s:bC}:aj Tryz.prog 98 #[pV q,ah s] H (fun w H'=>gW L F H q rb (dO L s st) H'):=by
 refine aj.told ?_
 refine anK (Nat.le_refl _) fun hf=>?_
 simp only [Tryz.f98,Option.getD_some]
 simp only [go_sem]
 have hz:=h.fz
 have fK:=hL.len
 have eB:=h.at_
 have db:IntKind.wrap .i64 (((st.at_:Nat):Int)+1)=((st.at_+1:Nat):Int):=cG eB (by omega)
 refine ag.by (fA h) ?_
 rintro _ _ - ⟨rfl,rfl⟩
 by_cases hb:dj st=true
 ·simp only [go_sem,hb]
  refine ag.by (gH h) ?_
  rintro _ H1 - ⟨rfl,p1⟩
  have h1:=h.post p1
  obtain ⟨c1,c2,c3,c4,bL,oL,cL,BL,a,n,c,hq,hr,hB,hl,er,h0,h4,dd,cb,eO⟩:=h1.fM
  by_cases hw:cW L s st=true
  ·have e1:zo L s st=st:=by simp [zo,hw]
   simp only [go_sem,hw]
   refine ag.by (fA h1) ?_
   rintro _ _ - ⟨rfl,rfl⟩
   simp only [go_sem,hb,hq,hr,hz,db]
   rw [dO,e1,if_pos hb]
   exact .last (p1.1.ai (.inl (by simp)) _) (h1.toPP0.set hr (aC st) (oK hL eB (jT hw)))
  ·simp only [go_sem,hw,hq]
   refine ag.by (oM h1) ?_
   rintro _ _ - ⟨rfl,rfl⟩
   by_cases hs:el L s st=true
   ·have e1:zo L s st=st:=by simp [zo,hs]
    simp only [go_sem,hs]
    refine ag.by (fA h1) ?_
    rintro _ _ - ⟨rfl,rfl⟩
    simp only [go_sem,hb,hq,hr,hz,db]
    rw [dO,e1,if_pos hb]
    exact .last (p1.1.ai (.inl (by simp)) _) (h1.toPP0.set hr (aC st) (oK hL eB (xV hs)))
   ·have e1:zo L s st=fD 2 st:=by simp [zo,hw,hs,hb]
    simp only [go_sem,hs]
    refine ag.by (lU h1) ?_
    rintro _ H2 - p2
    simp only [go_sem]
    refine ag.by (fA (h1.post p2)) ?_
    rintro _ _ - ⟨rfl,rfl⟩
    have dI:=PY (e:=2) (by decide) hb
    simp only [go_sem,dI]
    rw [dO,e1,dI]
    exact .last (p1.trans p2).1 p2.2.2
 ·have e1:zo L s st=st:=by simp [zo,hb]
  simp only [go_sem,hb]
  refine ag.by (fA h) ?_
  rintro _ _ - ⟨rfl,rfl⟩
  simp only [go_sem,hb]
  rw [dO,e1,if_neg hb]
  exact .last (.refl _ _) h.toPP0
theorem jS (hL:LG L) (h:PP L F H q rb st):aj Tryz.prog 96 #[pV q] H (fun w H'=>w=ah (cF L st).1/\gW L F H q rb (cF L st).2 H'):=by
 refine aj.told ?_
 refine anG (Nat.le_refl _) fun hf=>?_
 simp only [Tryz.f96,Option.getD_some]
 simp only [go_sem]
 have hz:=h.fz
 have fK:=hL.len
 have eB:=h.at_
 have db:IntKind.wrap .i64 (((st.at_:Nat):Int)+1)=((st.at_+1:Nat):Int):=cG eB (by omega)
 have hwb:IntKind.wrap .i64 (((st.at_+1:Nat):Int) - 1)=((st.at_:Nat):Int):=by rw [show ((st.at_+1:Nat):Int) - 1=((st.at_:Nat):Int) from by omega];exact tT (by omega)
 refine ag.by (fA h) ?_
 rintro _ _ - ⟨rfl,rfl⟩
 by_cases hb:dj st=true
 ·simp only [go_sem,hb]
  refine ag.by (L0 hL h) ?_
  rintro _ H1 - ⟨rfl,p1⟩
  have h1:=h.post p1
  obtain ⟨c1,c2,c3,c4,bL,oL,cL,BL,a,n,c,hq,hr,hB,hl,er,h0,h4,dd,cb,eO⟩:=h1.fM
  by_cases hn:uX L st=true
  ·have e1:A4 L st=st:=by simp [A4,hn]
   simp only [go_sem,hn]
   refine ag.by (fA h1) ?_
   rintro _ _ - ⟨rfl,rfl⟩
   have Aa:=h.qr
   simp only [go_sem,hb,hq,hr,hz,db,hwb,hB,eB,h4,Aa,dd]
   rw [cF,e1,if_pos hb]
   exact ⟨rfl,.last (p1.1.ai (.inl (by simp)) _) (h1.toPP0.set hr (aC st) (oK hL eB (anP hn)))⟩
  ·have e1:A4 L st=fD 2 st:=by simp [A4,hn,hb]
   simp only [go_sem,hn]
   refine ag.by (lU h1) ?_
   rintro _ H2 - p2
   simp only [go_sem]
   refine ag.by (fA (h1.post p2)) ?_
   rintro _ _ - ⟨rfl,rfl⟩
   have dI:=PY (e:=2) (by decide) hb
   simp only [go_sem,dI]
   rw [cF,e1,dI]
   exact ⟨rfl,.last (p1.trans p2).1 p2.2.2⟩
 ·have e1:A4 L st=st:=by simp [A4,hb]
  simp only [go_sem,hb]
  refine ag.by (fA h) ?_
  rintro _ _ - ⟨rfl,rfl⟩
  simp only [go_sem,hb]
  rw [cF,e1,if_neg hb]
  exact ⟨rfl,.last (.refl _ _) h.toPP0⟩
end
section
variable {L:List bJ} {F:List Nat} {H:ad} {q rb:Nat} {st:aV}
def A5 (L:List bJ) (st:aV):aV:=if dj st&&!el L [123] st then fD 2 st else st
def wI (L:List bJ) (st:aV):aV:=if dj (A5 L st)&&decide (12<=(A5 L st).depth) then fD 3 (A5 L st) else A5 L st
def wJ (L:List bJ) (st:aV):aV:=if dj (wI L st) then {(wI L st) with depth:=IntKind.wrap .i64 ((wI L st).depth+1),at_:=(wI L st).at_+1} else wI L st
def I4 (L:List bJ) (st:aV):aV:=if dj (dO L [125] st) then {(dO L [125] st) with depth:=IntKind.wrap .i64 ((dO L [125] st).depth - 1)} else dO L [125] st
theorem UE (hL:LG L) (h:PP L F H q rb st):aj Tryz.prog 128 #[pV q] H (fun w H'=>gW L F H q rb (wJ L st) H'):=by
 refine aj.told ?_
 refine ajF (Nat.le_refl _) fun hf=>?_
 simp only [Tryz.f128,Option.getD_some]
 simp only [go_sem]
 have hz:=h.fz
 have fK:=hL.len
 have eB:=h.at_
 have db:IntKind.wrap .i64 (((st.at_:Nat):Int)+1)=((st.at_+1:Nat):Int):=cG eB (by omega)
 obtain ⟨c1,c2,c3,c4,bL,oL,cL,BL,a,n,c,hq,hr,hB,hl,er,h0,h4,dd,cb,eO⟩:=h.fM
 refine ag.by (fA h) ?_
 rintro _ _ - ⟨rfl,rfl⟩
 by_cases hb:dj st=true
 ·simp only [go_sem,hb,hq]
  refine ag.by (oM h) ?_
  rintro _ _ - ⟨rfl,rfl⟩
  by_cases hs:el L [123] st=true
  ·have e1:A5 L st=st:=by simp [A5,hs]
   simp only [go_sem,hs]
   refine ag.by (fA h) ?_
   rintro _ _ - ⟨rfl,rfl⟩
   by_cases hd:(12:Int)<=st.depth
   ·have e2:wI L st=fD 3 st:=by simp [wI,e1,hb,hd]
    simp only [go_sem,hb,hq,hr,hd]
    refine ag.by (lU h) ?_
    rintro _ H2 - p2
    simp only [go_sem]
    refine ag.by (fA (h.post p2)) ?_
    rintro _ _ - ⟨rfl,rfl⟩
    have dI:=PY (e:=3) (by decide) hb
    simp only [go_sem,dI]
    rw [wJ,e2,dI]
    exact .last p2.1 p2.2.2
   ·have e2:wI L st=st:=by simp [wI,e1,hd]
    simp only [go_sem,hb,hq,hr,hd]
    refine ag.by (fA h) ?_
    rintro _ _ - ⟨rfl,rfl⟩
    have Aa:=h.qr
    simp only [go_sem,hb,hq,hr,hz,db,Aa]
    rw [wJ,e2,if_pos hb,sU]
    exact .last ((Fr.refl _ _).ai (.inl (by simp)) _) (h.toPP0.set hr ⟨st.at_+1,IntKind.wrap .i64 (st.depth+1),st.bad⟩ (oK hL eB (xV hs)))
  ·have e1:A5 L st=fD 2 st:=by simp [A5,hs,hb]
   have dI:=PY (e:=2) (by decide) hb
   have e2:wI L st=fD 2 st:=by simp [wI,e1,dI]
   simp only [go_sem,hs]
   refine ag.by (lU h) ?_
   rintro _ H2 - p2
   simp only [go_sem]
   have h2:=h.post p2
   refine ag.by (fA h2) ?_
   rintro _ _ - ⟨rfl,rfl⟩
   simp only [go_sem,dI]
   refine ag.by (fA h2) ?_
   rintro _ _ - ⟨rfl,rfl⟩
   simp only [go_sem,dI]
   rw [wJ,e2,dI]
   exact .last p2.1 p2.2.2
 ·have e1:A5 L st=st:=by simp [A5,hb]
  have e2:wI L st=st:=by simp [wI,e1,hb]
  simp only [go_sem,hb]
  refine ag.by (fA h) ?_
  rintro _ _ - ⟨rfl,rfl⟩
  simp only [go_sem,hb]
  refine ag.by (fA h) ?_
  rintro _ _ - ⟨rfl,rfl⟩
  simp only [go_sem,hb]
  rw [wJ,e2,if_neg hb]
  exact .last (.refl _ _) h.toPP0
theorem ru (hL:LG L) (h:PP L F H q rb st):aj Tryz.prog 130 #[pV q] H (fun w H'=>gW L F H q rb (I4 L st) H'):=by
 refine aj.told ?_
 refine ajJ (Nat.le_refl _) fun hf=>?_
 simp only [Tryz.f130,Option.getD_some]
 simp only [go_sem]
 refine ag.by (i3 hL h) ?_
 rintro _ H1 - p1
 have h1:=h.post p1
 have hz:=h.fz
 rw [I4]
 generalize dO L [125] st=s1 at p1 h1
 obtain ⟨c1,c2,c3,c4,bL,oL,cL,BL,a,n,c,hq,hr,hB,hl,er,h0,h4,dd,cb,eO⟩:=h1.fM
 simp only [go_sem]
 refine ag.by (fA h1) ?_
 rintro _ _ - ⟨rfl,rfl⟩
 by_cases hb:dj s1=true
 ·simp only [go_sem,hb,hq,hr,hz]
  exact .last (p1.1.ai (.inl (by simp)) _) (h1.toPP0.set hr ⟨s1.at_,IntKind.wrap .i64 (s1.depth - 1),s1.bad⟩ h1.at_)
 ·simp only [go_sem,hb]
  exact .last p1.1 p1.2.2
def vc:List bC:=[[105,115,111],[118,97,108],[114,101,102],[116,97,103]]
def Ed (L:List bJ) (st:aV):Int->List bC->Int
 | _,[]=>0
 | k,s::l=>if cW L s st then k else Ed L st (k+1) l
def mE (L:List bJ) (st:aV):Int:=Ed L st 1 vc
theorem QK (h:PP L F H q rb st):aj Tryz.prog 150 #[pV q] H (fun w H'=>w=iV (mE L st)/\gW L F H q rb st H'):=by
 refine aj.told ?_
 refine akh (Nat.le_refl _) fun hf=>?_
 simp only [Tryz.f150,Option.getD_some]
 have bl:∀{H':ad},qx Tryz.prog 25 4 [(0,ah [105,115,111]),(1,ah [118,97,108]),(2,ah [114,101,102]),(3,ah [116,97,103])] H'=.ok (.slice (some ⟨H'.next,0,none⟩) 4 4) (H'.push ⟨vc.map ah,9,false,false⟩):=fun {H'}=>
  AK wH Xx (by decide) (by decide) rfl
 simp only [go_sem,bl]
 have hs:=abu (H:=H) (l:=vc) (by decide) (ty:=9)
 have hlen:vc.length=4:=rfl
 generalize Xy:(H.push ⟨vc.map ah,9,false,false⟩)=H0 at hs
 have o0:aG H H0:=by rw [<-Xy];exact aG.push _ _
 have tf:H.next < H0.next:=by rw [<-Xy];exact Nat.lt_succ_self _
 have nr:H.next≠rb:=by have:=h.rl;omega
 have CY:H0.fz rb=false:=by rw [<-Xy,rv,h.fz];simp;omega
 refine ft 262044 4 (fun i V H2=>V 7=iV (i:Nat)/\Fr [rb] H H2/\PP L F H2 q rb st/\H2.get H.next=H0.get H.next/\H.next < H2.next/\mE L st=Ed L st ((i+1:Nat):Int) (vc.drop i)) ⟨by simp only [go_sem] <;> rfl,o0.fr _,{h.toPP0.au o0 with fz:=CY},rfl,tf,rfl⟩ ?_ ?_ (by rfl)
 ·rintro i V H2 hi ⟨e7,iN,h2,g2,n2,Gq⟩
  have jJ:vc[i]?=some (vc[i]'hi):=List.getElem?_eq_getElem hi
  have cT:vc.drop i=(vc[i]'hi)::vc.drop (i+1):=(List.getElem_cons_drop hi).symm
  generalize (vc[i]'hi)=s at jJ cT
  obtain ⟨b,o,c,B,hv,hB,dI,hc⟩:=(hs.ae (H':=H2) fun y hy=>by rw [List.mem_singleton] at hy;subst hy;exact g2).Me jJ
  rw [hlen] at hv
  cases hv
  rw [Nat.zero_add] at hc
  rw [cT,Ed] at Gq
  simp only [go_sem,e7,hi,hB,hc,Nat.zero_add]
  refine ag.by (gH h2) ?_
  rintro _ H3 - ⟨rfl,p3⟩
  by_cases hw:cW L s st=true
  ·rw [if_pos hw] at Gq
   simp only [go_sem,hw,cG hi (by omega)]
   exact ⟨by rw [Gq],.last (iN.then p3.1) p3.2.2⟩
  ·rw [if_neg hw] at Gq
   simp only [go_sem,hw,e7,cG hi (by omega)]
   exact ⟨iN.then p3.1,h2.post p3,by rw [p3.1.get _ n2 (by simpa using nr),g2],Nat.lt_of_lt_of_le n2 p3.1.nx,by rw [Gq];rfl⟩
 ·rintro V H2 ⟨e7,iN,h2,g2,n2,Gq⟩
  simp only [go_sem,e7]
  refine ⟨by rw [Gq];rfl,.last iN h2.toPP0⟩
def FJ (L:List bJ) (eK:Int) (st:aV):Bool:=
 if eK=0 then decide (0 < mE L st)||cW L [105,110,116] st||el L [33] st||el L [63] st
 else if eK=1 then uX L st
 else uX L st||cW L [109,111,118,101] st||cW L [116,97,103] st||decide ((tk L st).kind=2)
theorem aaR (hL:LG L) (h:PP L F H q rb st) {eK:Int}:aj Tryz.prog 149 #[pV q,iV eK] H (fun w H'=>w=.bool (FJ L eK st)/\gW L F H q rb st H'):=by
 refine aj.told ?_
 refine akf (Nat.le_refl _) fun hf=>?_
 simp only [Tryz.f149,Option.getD_some]
 by_cases w0:eK=0
 ·rw [FJ,if_pos w0]
  simp only [go_sem,w0]
  refine ag.by (QK h) ?_
  rintro _ H1 - ⟨rfl,p1⟩
  have h1:=h.post p1
  by_cases b1:0 < mE L st
  ·simp only [go_sem,b1]
   exact .last p1.1 p1.2.2
  simp only [go_sem,b1]
  refine ag.by (gH h1) ?_
  rintro _ H2 - ⟨rfl,p2⟩
  have h2:=h1.post p2
  have dJ:=p1.trans p2
  by_cases b2:cW L [105,110,116] st=true
  ·simp only [go_sem,b2]
   exact .last dJ.1 dJ.2.2
  obtain ⟨c1,c2,c3,c4,bL,oL,cL,BL,a,n,c,hq,hr,hB,hl,er,h0,h4,dd,cb,eO⟩:=h2.fM
  simp only [go_sem,b2,hq]
  refine ag.by (oM h2) ?_
  rintro _ _ - ⟨rfl,rfl⟩
  by_cases b3:el L [33] st=true
  ·simp only [go_sem,b3]
   exact .last dJ.1 dJ.2.2
  simp only [go_sem,b3,hq]
  refine ag.by (oM h2) ?_
  rintro _ _ - ⟨rfl,rfl⟩
  simp only [go_sem]
  exact ⟨by simp [b1,b2,b3],.last dJ.1 dJ.2.2⟩
 by_cases w1:eK=1
 ·rw [FJ,if_neg w0,if_pos w1]
  simp only [go_sem,w0,w1]
  refine ag.by (L0 hL h) ?_
  rintro _ H1 - ⟨rfl,p1⟩
  simp only [go_sem]
  exact .last p1.1 p1.2.2
 rw [FJ,if_neg w0,if_neg w1]
 simp only [go_sem,w0,w1]
 refine ag.by (L0 hL h) ?_
 rintro _ H1 - ⟨rfl,p1⟩
 have h1:=h.post p1
 by_cases b1:uX L st=true
 ·simp only [go_sem,b1]
  exact .last p1.1 p1.2.2
 simp only [go_sem,b1]
 refine ag.by (gH h1) ?_
 rintro _ H2 - ⟨rfl,p2⟩
 have h2:=h1.post p2
 have dJ:=p1.trans p2
 by_cases b2:cW L [109,111,118,101] st=true
 ·simp only [go_sem,b2]
  exact .last dJ.1 dJ.2.2
 simp only [go_sem,b2]
 refine ag.by (gH h2) ?_
 rintro _ H3 - ⟨rfl,p3⟩
 have h3:=h2.post p3
 have qj:=dJ.trans p3
 by_cases b3:cW L [116,97,103] st=true
 ·simp only [go_sem,b3]
  exact .last qj.1 qj.2.2
 simp only [go_sem,b3]
 refine ag.by (sY h3) ?_
 rintro _ H4 - ⟨rfl,p4⟩
 simp only [go_sem]
 exact ⟨by simp [b1,b2,b3],.last (qj.trans p4).1 (qj.trans p4).2.2⟩
end
section
variable {L:List bJ} {F:List Nat} {H:ad} {q rb:Nat} {st:aV}
def Ct (L:List bJ) (n:Nat) (eK:Int) (st:aV):Bool × aV:=
 if FJ L eK st=true then (if 6<=n then (false,fD 3 st) else (true,st)) else (false,fD 2 st)
def jv (L:List bJ) (n:Nat) (eK:Int) (st:aV):Bool × aV:=
 if dj st=true then (if n=0 then (if el L [41] st=true then (false,st) else Ct L n eK st) else if el L [44] st=true then Ct L n eK (aC st) else (false,st)) else (false,st)
theorem Qr (hL:LG L) (h:PP L F H q rb st) {n:Nat} {eK:Int}:aj Tryz.prog 123 #[pV q,iV (n:Nat),iV eK] H (fun w H'=>w=.bool (jv L n eK st).1/\gW L F H q rb (jv L n eK st).2 H'):=by
 refine aj.told ?_
 refine ajv (Nat.le_refl _) fun hf=>?_
 simp only [Tryz.f123,Option.getD_some]
 simp only [go_sem]
 have hz:=h.fz
 have fK:=hL.len
 have eB:=h.at_
 have db:IntKind.wrap .i64 (((st.at_:Nat):Int)+1)=((st.at_+1:Nat):Int):=cG eB (by omega)
 obtain ⟨c1,c2,c3,c4,bL,oL,cL,BL,a,m,c,hq,hr,hB,hl,er,h0,h4,dd,cb,eO⟩:=h.fM
 refine ag.by (fA h) ?_
 rintro _ _ - ⟨rfl,rfl⟩
 by_cases hb:dj st=true
 ·by_cases hn:n=0
  ·have Ac:((n:Nat):Int)=0:=by omega
   have jF:¬(0:Int) < ((n:Nat):Int):=by omega
   have hn6:¬(6:Int)<=((n:Nat):Int):=by omega
   simp only [go_sem,hb,Ac,hq]
   refine ag.by (oM h) ?_
   rintro _ _ - ⟨rfl,rfl⟩
   by_cases hs:el L [41] st=true
   ·have e:jv L n eK st=(false,st):=by rw [jv,if_pos hb,if_pos hn,if_pos hs]
    simp only [go_sem,hs,e]
    exact .last (.refl _ _) h.toPP0
   simp only [go_sem,hs,jF]
   refine ag.by (aaR hL h) ?_
   rintro _ H2 - ⟨rfl,p2⟩
   by_cases xp:FJ L eK st=true
   ·have e:jv L n eK st=(true,st):=by rw [jv,if_pos hb,if_pos hn,if_neg hs,Ct,if_pos xp,if_neg (by omega)]
    simp only [go_sem,xp,hn6,e]
    exact .last p2.1 p2.2.2
   ·have e:jv L n eK st=(false,fD 2 st):=by rw [jv,if_pos hb,if_pos hn,if_neg hs,Ct,if_neg xp]
    simp only [go_sem,xp]
    refine ag.by (lU (h.post p2)) ?_
    rintro _ H3 - p3
    simp only [go_sem,e]
    exact .last (p2.trans p3).1 p3.2.2
  ·have Ac:¬((n:Nat):Int)=0:=by omega
   have jF:(0:Int) < ((n:Nat):Int):=by omega
   simp only [go_sem,hb,Ac,jF,hq]
   refine ag.by (oM h) ?_
   rintro _ _ - ⟨rfl,rfl⟩
   by_cases hs:el L [44] st=true
   ·have e0:jv L n eK st=Ct L n eK (aC st):=by rw [jv,if_pos hb,if_neg hn,if_pos hs]
    simp only [go_sem,hs,hq,hr,hz,db,e0]
    have p1:gW L F H q rb (aC st) (H.ai rb ⟨[.slice (some ⟨bL,oL,none⟩) L.length cL,iV ((st.at_+1:Nat):Int),.slice none 0 0,.bool true,iV st.depth,iV st.bad,.slice a m c],121,false,false⟩):=
     ⟨(Fr.refl _ _).ai (.inl (by simp)) _,fun _=>rfl,h.toPP0.set hr (aC st) (oK hL eB (xV hs))⟩
    have Xz:(H.ai rb ⟨[.slice (some ⟨bL,oL,none⟩) L.length cL,iV ((st.at_+1:Nat):Int),.slice none 0 0,.bool true,iV st.depth,iV st.bad,.slice a m c],121,false,false⟩).fz=H.fz:=rfl
    generalize (H.ai rb ⟨[.slice (some ⟨bL,oL,none⟩) L.length cL,iV ((st.at_+1:Nat):Int),.slice none 0 0,.bool true,iV st.depth,iV st.bad,.slice a m c],121,false,false⟩)=H1 at p1 Xz
    have h1:=h.post p1
    refine ag.by (aaR hL h1) ?_
    rintro _ H2 - ⟨rfl,p2⟩
    have dJ:=p1.trans p2
    by_cases xp:FJ L eK (aC st)=true
    ·by_cases h6:6<=n
     ·have XA:(6:Int)<=((n:Nat):Int):=by omega
      have e:jv L n eK st=(false,fD 3 (aC st)):=by rw [e0,Ct,if_pos xp,if_pos h6]
      simp only [go_sem,xp,XA]
      refine ag.by (lU (h1.post p2)) ?_
      rintro _ H3 - p3
      simp only [go_sem,e]
      exact .last (dJ.trans p3).1 p3.2.2
     ·have XA:¬(6:Int)<=((n:Nat):Int):=by omega
      have e:jv L n eK st=(true,aC st):=by rw [e0,Ct,if_pos xp,if_neg h6]
      simp only [go_sem,xp,XA,e]
      exact .last dJ.1 dJ.2.2
    ·have e:jv L n eK st=(false,fD 2 (aC st)):=by rw [e0,Ct,if_neg xp]
     simp only [go_sem,xp]
     refine ag.by (lU (h1.post p2)) ?_
     rintro _ H3 - p3
     simp only [go_sem,e]
     exact .last (dJ.trans p3).1 p3.2.2
   ·have e:jv L n eK st=(false,st):=by rw [jv,if_pos hb,if_neg hn,if_neg hs]
    simp only [go_sem,hs,e]
    exact .last (.refl _ _) h.toPP0
 ·have e:jv L n eK st=(false,st):=by rw [jv,if_neg hb]
  simp only [go_sem,hb,e]
  exact .last (.refl _ _) h.toPP0
def ir (L:List bJ) (st:aV):oU × aV:=
 if dj st=true then (if (tk L st).kind=2 then (⟨1,(tk L st).n,[]⟩,aC st)
  else if cW L [109,111,118,101] st=true then (⟨3,0,(cF L (aC st)).1⟩,(cF L (aC st)).2)
  else if cW L [116,97,103] st=true then (⟨4,0,(cF L (aC st)).1⟩,(cF L (aC st)).2)
  else (⟨2,0,(cF L st).1⟩,(cF L st).2)) else (⟨0,0,[]⟩,st)
theorem T3 {k:Int} {s:bC} {h:KH}:iA Tryz.prog 145 [(0,iV k),(2,ah s)] h=.ok (.agg #[iV k,iV 0,ah s]) h:=by kernel_rfl
theorem afD {k n:Int} {h:KH}:iA Tryz.prog 145 [(0,iV k),(1,iV n)] h=.ok (.agg #[iV k,iV n,ah []]) h:=by kernel_rfl
theorem afE {h:KH}:iA Tryz.prog 145 [] h=.ok (.agg #[iV 0,iV 0,ah []]) h:=by kernel_rfl
abbrev apf (x:oU):Value:=.agg #[iV x.kind,iV x.n,ah x.name]
theorem DW (hL:LG L) (h:PP L F H q rb st):aj Tryz.prog 164 #[pV q] H (fun w H'=>w=apf (ir L st).1/\gW L F H q rb (ir L st).2 H'):=by
 refine aj.told ?_
 refine akH (Nat.le_refl _) fun hf=>?_
 simp only [Tryz.f164,Option.getD_some]
 simp only [go_sem]
 obtain ⟨fq,fr,fF⟩:=h.toPP0.fresh (Nat.le_refl H.next)
 have uv:H.fz H.next=false:=hf.fresh (Nat.le_refl _)
 have ma:=h.push ⟨[iV 0,iV 0,ah []],145,false,false⟩
 have Bq:Fr [rb] H (H.push ⟨[iV 0,iV 0,ah []],145,false,false⟩):=(aG.push H _).fr _
 have gA:(H.push ⟨[iV 0,iV 0,ah []],145,false,false⟩).get H.next=some ⟨[iV 0,iV 0,ah []],145,false,false⟩:=by rw [aZ,if_pos rfl]
 have nA:H.next < (H.push ⟨[iV 0,iV 0,ah []],145,false,false⟩).next:=Nat.lt_succ_self _
 generalize (H.push ⟨[iV 0,iV 0,ah []],145,false,false⟩)=Ha at ma Bq gA nA
 have hz:=h.fz
 have fK:=hL.len
 have eB:=h.at_
 have db:IntKind.wrap .i64 (((st.at_:Nat):Int)+1)=((st.at_+1:Nat):Int):=cG eB (by omega)
 -- eK is auP
 have fin:∀{H5:ad} {bW:aV},Fr [rb] Ha H5->PP0 L F H5 q rb bW->∀B:cO,B.ro=false->gW L F H q rb bW ((H5.ai H.next B).af H.fz):=fun f5 p5 B hB=>.last ((Bq.then f5).ai (.inr (Nat.le_refl _)) B hB) (p5.put B fq fr fF)
 have yw:∀{H5:ad},Fr [rb] Ha H5->H5.get H.next=some ⟨[iV 0,iV 0,ah []],145,false,false⟩:=fun f5=>by rw [f5.get _ nA (by simpa using fr)];exact gA
 refine ag.by (fA ma) ?_
 rintro _ _ - ⟨rfl,rfl⟩
 by_cases hb:dj st=true
 ·simp only [go_sem,hb]
  refine ag.by (sY ma) ?_
  rintro _ H1 - ⟨rfl,p1⟩
  have h1:=ma.post p1
  have f1:=p1.1
  have ey:H.fz H1.next=false:=hf.fresh (Nat.le_trans Bq.nx f1.nx)
  simp only [go_sem,ey]
  have h2:=h1.push ⟨[iV (tk L st).kind,iV (tk L st).n,iV (tk L st).line,iV (tk L st).az,ah (tk L st).text],72,false,false⟩
  have f2:Fr [rb] Ha (H1.push ⟨[iV (tk L st).kind,iV (tk L st).n,iV (tk L st).line,iV (tk L st).az,ah (tk L st).text],72,false,false⟩):=f1.push _
  have g2:(H1.push ⟨[iV (tk L st).kind,iV (tk L st).n,iV (tk L st).line,iV (tk L st).az,ah (tk L st).text],72,false,false⟩).get H1.next=some ⟨[iV (tk L st).kind,iV (tk L st).n,iV (tk L st).line,iV (tk L st).az,ah (tk L st).text],72,false,false⟩:=by rw [aZ,if_pos rfl]
  have nr1:¬H1.next=rb:=(h1.toPP0.fresh (Nat.le_refl _)).2.1
  generalize (H1.push ⟨[iV (tk L st).kind,iV (tk L st).n,iV (tk L st).line,iV (tk L st).az,ah (tk L st).text],72,false,false⟩)=H2 at h2 f2 g2
  obtain ⟨c1,c2,c3,c4,bL,oL,cL,BL,a,n,c,hq,hr,hB,hl,er,h0,h4,dd,cb,eO⟩:=h2.fM
  have XB:=yw f2
  have Se:¬H.next=rb:=fr
  -- one token on
  have i5:∀{H2:ad} {bL oL cL a n c},PP L F H2 q rb st->(tk L st).kind≠4->H2.get rb=some ⟨[.slice (some ⟨bL,oL,none⟩) L.length cL,iV (st.at_:Nat),.slice none 0 0,.bool true,iV st.depth,iV st.bad,.slice a n c],121,false,false⟩->PP L F (H2.ai rb ⟨[.slice (some ⟨bL,oL,none⟩) L.length cL,iV ((st.at_+1:Nat):Int),.slice none 0 0,.bool true,iV st.depth,iV st.bad,.slice a n c],121,false,false⟩) q rb (aC st):=fun h hk hr=>{h.toPP0.set hr (aC st) (oK hL eB hk) with fz:=h.fz}
  by_cases hk:(tk L st).kind=2
  ·have e:ir L st=(⟨1,(tk L st).n,[]⟩,aC st):=by rw [ir,if_pos hb,if_pos hk]
   have hp:=i5 h2 (by omega) hr
   have fp:=(f2.ai (.inl (by simp:rb∈[rb])) ⟨[.slice (some ⟨bL,oL,none⟩) L.length cL,iV ((st.at_+1:Nat):Int),.slice none 0 0,.bool true,iV st.depth,iV st.bad,.slice a n c],121,false,false⟩)
   simp only [go_sem,hk,g2,hq,hr,hz,db,nr1,Se,XB,uv,afD,e]
   exact fin fp hp.toPP0 _ rfl
  simp only [go_sem,hk,g2]
  refine ag.by (gH h2) ?_
  rintro _ H3 - ⟨rfl,p3⟩
  have h3:=h2.post p3
  have f3:=f2.then p3.1
  by_cases hm:cW L [109,111,118,101] st=true
  ·obtain ⟨c1,c2,c3,c4,bL,oL,cL,BL,a,n,c,hq,hr,hB,hl,er,h0,h4,dd,cb,eO⟩:=h3.fM
   have e:ir L st=(⟨3,0,(cF L (aC st)).1⟩,(cF L (aC st)).2):=by rw [ir,if_pos hb,if_neg hk,if_pos hm]
   have hp:=i5 h3 (jT hm) hr
   have fp:=(f3.ai (.inl (by simp:rb∈[rb])) ⟨[.slice (some ⟨bL,oL,none⟩) L.length cL,iV ((st.at_+1:Nat):Int),.slice none 0 0,.bool true,iV st.depth,iV st.bad,.slice a n c],121,false,false⟩)
   simp only [go_sem,hm,hq,hr,hz,db]
   refine ag.by (jS hL hp) ?_
   rintro _ H4 - ⟨rfl,p4⟩
   have yx:=yw (fp.then p4.1)
   simp only [go_sem,yx,uv,T3,e]
   exact fin (fp.then p4.1) p4.2.2 _ rfl
  simp only [go_sem,hm]
  refine ag.by (gH h3) ?_
  rintro _ H4 - ⟨rfl,p4⟩
  have oq:=h3.post p4
  have f4:=f3.then p4.1
  by_cases hg:cW L [116,97,103] st=true
  ·obtain ⟨c1,c2,c3,c4,bL,oL,cL,BL,a,n,c,hq,hr,hB,hl,er,h0,h4,dd,cb,eO⟩:=oq.fM
   have e:ir L st=(⟨4,0,(cF L (aC st)).1⟩,(cF L (aC st)).2):=by rw [ir,if_pos hb,if_neg hk,if_neg hm,if_pos hg]
   have hp:=i5 oq (jT hg) hr
   have fp:=(f4.ai (.inl (by simp:rb∈[rb])) ⟨[.slice (some ⟨bL,oL,none⟩) L.length cL,iV ((st.at_+1:Nat):Int),.slice none 0 0,.bool true,iV st.depth,iV st.bad,.slice a n c],121,false,false⟩)
   simp only [go_sem,hg,hq,hr,hz,db]
   refine ag.by (jS hL hp) ?_
   rintro _ H5 - ⟨rfl,p5⟩
   have yx:=yw (fp.then p5.1)
   simp only [go_sem,yx,uv,T3,e]
   exact fin (fp.then p5.1) p5.2.2 _ rfl
  have e:ir L st=(⟨2,0,(cF L st).1⟩,(cF L st).2):=by rw [ir,if_pos hb,if_neg hk,if_neg hm,if_neg hg]
  simp only [go_sem,hg]
  refine ag.by (jS hL oq) ?_
  rintro _ H5 - ⟨rfl,p5⟩
  have yx:=yw (f4.then p5.1)
  simp only [go_sem,yx,uv,T3,e]
  exact fin (f4.then p5.1) p5.2.2 _ rfl
 ·have e:ir L st=(⟨0,0,[]⟩,st):=by rw [ir,if_neg hb]
  simp only [go_sem,hb,gA,uv,afE,e]
  exact fin (.refl _ _) ma.toPP0 _ rfl
end
section
variable {L:List bJ} {F:List Nat} {H:ad} {q rb:Nat} {st:aV}
def oN {α:Type} (L:List bJ) (eK:Int) (item:aV->Option (α × aV)):Nat->aV->List α->Option (List α × aV)
 | 0,_,_=>none
 | k+1,st,l=>if (jv L l.length eK st).1=true then (item (jv L l.length eK st).2).bind fun x=>oN L eK item k x.2 (l++[x.1]) else some (l,(jv L l.length eK st).2)
theorem IS {n:Nat} {eK:Int} (h:(jv L n eK st).1=true):n < 6:=by
 unfold jv Ct at h
 (repeat' split at h) <;> first | omega | cases h
theorem Z5 {α:Type} {eK:Int} {item:aV->α × aV}:∀(k:Nat) (st:aV) (l:List α),7<=k+l.length->0 < k->∃R,oN L eK (fun s=>some (item s)) k st l=some R
 | 0,st,l,h,h0=>absurd h0 (by decide)
 | k+1,st,l,h,_=>by
  rw [oN]
  split
  ·rename_i hm
   have:=IS hm
   exact Z5 k _ _ (by rw [List.length_append,List.length_singleton];omega) (by omega)
  ·exact ⟨_,rfl⟩
def DX {α:Type} (L:List bJ) (eK:Int) (item:aV->α × aV) (st:aV):List α × aV:=(oN L eK (fun s=>some (item s)) 7 st []).getD ([],st)
theorem aaS {α:Type} {eK:Int} {item:aV->α × aV}:oN L eK (fun s=>some (item s)) 7 st []=some (DX L eK item st):=by
 obtain ⟨R,hR⟩:=Z5 (L:=L) (eK:=eK) (item:=item) 7 st [] (by simp) (by decide)
 rw [DX,hR];rfl
theorem LQ {α:Type} {eK:Int} {item:aV->Option (α × aV)}:∀{k:Nat} {st:aV} {l:List α} {R},oN L eK item k st l=some R->l.length<=6->R.1.length<=6
 | 0,st,l,R,h,_=>by cases h
 | k+1,st,l,R,h,hl=>by
  rw [oN] at h
  split at h
  ·rename_i hm
   have:=IS hm
   cases hi:item (jv L l.length eK st).2 with
   | none=>rw [hi] at h;cases h
   | some x=>rw [hi] at h;exact LQ h (by rw [List.length_append,List.length_singleton];omega)
  ·cases h;exact hl
def rA (L:List bJ) (st:aV):List oU × aV:=((DX L 2 (ir L) (dO L [40] st)).1,dO L [41] (DX L 2 (ir L) (dO L [40] st)).2)
def AT (L:List bJ) (st:aV):List bC × aV:=((DX L 1 (cF L) (dO L [40] st)).1,dO L [41] (DX L 1 (cF L) (dO L [40] st)).2)
def im (H H':ad) (g:List Nat):Prop:=∀c∈g,H.next<=c/\c < H'.next
theorem Jc (hL:LG L) (h:PP L F H q rb st):aj Tryz.prog 163 #[pV q] H (fun w H'=>(∃g,Sl jy H' w (rA L st).1 g/\im H H' g)/\gW L F H q rb (rA L st).2 H'):=by
 refine aj.told ?_
 refine akF (Nat.le_refl _) fun hf=>?_
 simp only [Tryz.f163,Option.getD_some]
 simp only [go_sem]
 refine ag.by (i3 hL h) ?_
 rintro _ H1 - p1
 have h1:=h.post p1
 rw [rA]
 generalize dO L [40] st=s1 at p1 h1
 have hR:=aaS (L:=L) (eK:=2) (item:=ir L) (st:=s1)
 generalize DX L 2 (ir L) s1=R at hR
 have qk:=LQ hR (by simp)
 simp only [go_sem]
 refine qA 32712 (fun n V H2=>∃bH l v m,V 3=v/\Gr jy 145 H2 v l m []/\im H H2 m/\Fr [rb] H H2/\PP L F H2 q rb bH/\l.length<=6/\oN L 2 (fun s=>some (ir L s)) n bH l=some R) (n:=7)
  ⟨s1,[],.slice none 0 0,[],by simp only [go_sem] <;> rfl,Gr.nil _ _ _,by simp [im],p1.1,h1,by simp,hR⟩ ?_ (by rfl)
 rintro n V H2 ⟨bH,l,v,m,e3,cw,cQ,iN,h2,qT,fX⟩
 cases n with
 | zero=>cases fX
 | succ n=>
  rw [oN] at fX
  obtain ⟨a,hv⟩:=cw.val
  have jY:∀c∈m,c∉[rb]:=fun c hc=>by have:=(cQ c hc).1;have:=h.rl;simp;omega
  simp only [go_sem,e3,hv]
  refine ag.by (Qr hL h2) ?_
  rintro _ H3 - ⟨rfl,p3⟩
  have h3:=h2.post p3
  have qH:=cw.ae (H':=H3) (fun b hb=>p3.1.get b (cQ b hb).2 (jY b hb)) (by simp)
  by_cases hm:(jv L l.length 2 bH).1=true
  ·rw [if_pos hm] at fX
   have EF:=IS hm
   generalize (jv L l.length 2 bH).2=yy at p3 h3 fX
   simp only [Option.bind_some] at fX
   simp only [go_sem,hm]
   refine ag.by (DW hL h3) ?_
   rintro _ H4 - ⟨rfl,p4⟩
   have h4:=h3.post p4
   have qU:=p4.1.nx
   have lK:=p3.1.nx
   have j5:=qH.ae (H':=H4) (fun b hb=>p4.1.get b (Nat.lt_of_lt_of_le (cQ b hb).2 lK) (jY b hb)) (by simp)
   generalize ir L yy=x at p4 h4 fX
   simp only [go_sem,e3,eX rz (by decide) (by decide)]
   refine lA (r:=jy) (x:=x.1) (g':=[]) rz (j5.ae (fun b hb=>bO (by have:=(cQ b hb).2;omega)) (by simp)) (fun c hc=>by have:=(cQ c hc).2;rw [bI];omega) (by simp) (by simp) (fun c hc=>hf.fresh (cQ c hc).1) (by rw [aZ,if_pos rfl]) ⟨rfl,rfl⟩ rfl (by omega) ?_
   intro v7 H7 cA eu jU dA kY
   have nF:=iN.nx
   rw [bI] at eu
   have He:Fr [rb] H H7:=((iN.then p3.1).then p4.1).push _ |>.trans dA (fun c hc=>.inr (cQ c hc).1)
   have oq:=h4.push ⟨[iV x.1.kind,iV x.1.n,ah x.1.name],145,false,false⟩
   have XC:=h.rl
   have XD:=h.ql
   have xq:∀c∈m,c∉F:=fun c hc e=>by have:=(h.hF c e).1;have:=(cQ c hc).1;omega
   have h7:PP L F H7 q rb x.2:={oq.toPP0.fr dA (fun e=>by have:=(cQ _ e).1;omega) (fun e=>by have:=(cQ _ e).1;omega) (fun c hc e=>xq c e hc) with fz:=(by rw [kY,oq.fz,Bool.or_false,beq_eq_false_iff_ne,bI];omega)}
   simp only [go_sem]
   refine ⟨n,by omega,x.2,l++[x.1],v7,_,rfl,by simpa using cA,fun c hc=>?_,He,h7,by rw [List.length_append,List.length_singleton];omega,fX⟩
   rw [List.mem_singleton,bI] at hc
   omega
  ·rw [if_neg hm] at fX
   cases fX
   simp only [go_sem,hm,e3,hv]
   refine ag.by (i3 hL h3) ?_
   rintro _ H4 - p4
   have lK:=p3.1.nx
   have qU:=p4.1.nx
   simp only [go_sem,e3,hv]
   refine ⟨⟨m,?_,fun c hc=>by have:=cQ c hc;show H.next<=c/\c < H4.next;omega⟩,.last ((iN.then p3.1).then p4.1) p4.2.2⟩
   have:=(qH.ae (H':=H4) (fun b hb=>p4.1.get b (Nat.lt_of_lt_of_le (cQ b hb).2 lK) (jY b hb)) (by simp)).sl
   rw [List.append_nil,hv] at this
   exact this.ae fun _ _=>rfl
theorem abw (hL:LG L) (h:PP L F H q rb st):aj Tryz.prog 129 #[pV q] H (fun w H'=>(∃g,Sl .str H' w (AT L st).1 g/\im H H' g)/\gW L F H q rb (AT L st).2 H'):=by
 refine aj.told ?_
 refine ajH (Nat.le_refl _) fun hf=>?_
 simp only [Tryz.f129,Option.getD_some]
 simp only [go_sem]
 refine ag.by (i3 hL h) ?_
 rintro _ H1 - p1
 have h1:=h.post p1
 rw [AT]
 generalize dO L [40] st=s1 at p1 h1
 have hR:=aaS (L:=L) (eK:=1) (item:=cF L) (st:=s1)
 generalize DX L 1 (cF L) s1=R at hR
 have qk:=LQ hR (by simp)
 simp only [go_sem]
 refine qA 32712 (fun n V H2=>∃bH l v m,V 3=v/\Gr .str 9 H2 v l m []/\im H H2 m/\Fr [rb] H H2/\PP L F H2 q rb bH/\l.length<=6/\oN L 1 (fun s=>some (cF L s)) n bH l=some R) (n:=7)
  ⟨s1,[],.slice none 0 0,[],by simp only [go_sem] <;> rfl,Gr.nil _ _ _,by simp [im],p1.1,h1,by simp,hR⟩ ?_ (by rfl)
 rintro n V H2 ⟨bH,l,v,m,e3,cw,cQ,iN,h2,qT,fX⟩
 cases n with
 | zero=>cases fX
 | succ n=>
  rw [oN] at fX
  obtain ⟨a,hv⟩:=cw.val
  have jY:∀c∈m,c∉[rb]:=fun c hc=>by have:=(cQ c hc).1;have:=h.rl;simp;omega
  simp only [go_sem,e3,hv]
  refine ag.by (Qr hL h2) ?_
  rintro _ H3 - ⟨rfl,p3⟩
  have h3:=h2.post p3
  have qH:=cw.ae (H':=H3) (fun b hb=>p3.1.get b (cQ b hb).2 (jY b hb)) (by simp)
  by_cases hm:(jv L l.length 1 bH).1=true
  ·rw [if_pos hm] at fX
   have EF:=IS hm
   generalize (jv L l.length 1 bH).2=yy at p3 h3 fX
   simp only [Option.bind_some] at fX
   simp only [go_sem,hm]
   refine ag.by (jS hL h3) ?_
   rintro _ H4 - ⟨rfl,p4⟩
   have h4:=h3.post p4
   have qU:=p4.1.nx
   have lK:=p3.1.nx
   have j5:=qH.ae (H':=H4) (fun b hb=>p4.1.get b (Nat.lt_of_lt_of_le (cQ b hb).2 lK) (jY b hb)) (by simp)
   generalize cF L yy=x at p4 h4 fX
   simp only [go_sem,e3,eX wH (by decide) (by decide)]
   refine lA (r:=.str) (x:=x.1) (g':=[]) wH (j5.ae (fun b hb=>bO (by have:=(cQ b hb).2;omega)) (by simp)) (fun c hc=>by have:=(cQ c hc).2;rw [bI];omega) (by simp) (by simp) (fun c hc=>hf.fresh (cQ c hc).1) (by rw [aZ,if_pos rfl]) ⟨rfl,rfl⟩ rfl (by omega) ?_
   intro v7 H7 cA eu jU dA kY
   have nF:=iN.nx
   rw [bI] at eu
   have He:Fr [rb] H H7:=((iN.then p3.1).then p4.1).push _ |>.trans dA (fun c hc=>.inr (cQ c hc).1)
   have oq:=h4.push ⟨[ah x.1],9,false,false⟩
   have XC:=h.rl
   have XD:=h.ql
   have xq:∀c∈m,c∉F:=fun c hc e=>by have:=(h.hF c e).1;have:=(cQ c hc).1;omega
   have h7:PP L F H7 q rb x.2:={oq.toPP0.fr dA (fun e=>by have:=(cQ _ e).1;omega) (fun e=>by have:=(cQ _ e).1;omega) (fun c hc e=>xq c e hc) with fz:=(by rw [kY,oq.fz,Bool.or_false,beq_eq_false_iff_ne,bI];omega)}
   simp only [go_sem]
   refine ⟨n,by omega,x.2,l++[x.1],v7,_,rfl,by simpa using cA,fun c hc=>?_,He,h7,by rw [List.length_append,List.length_singleton];omega,fX⟩
   rw [List.mem_singleton,bI] at hc
   omega
  ·rw [if_neg hm] at fX
   cases fX
   simp only [go_sem,hm,e3,hv]
   refine ag.by (i3 hL h3) ?_
   rintro _ H4 - p4
   have lK:=p3.1.nx
   have qU:=p4.1.nx
   simp only [go_sem,e3,hv]
   refine ⟨⟨m,?_,fun c hc=>by have:=cQ c hc;show H.next<=c/\c < H4.next;omega⟩,.last ((iN.then p3.1).then p4.1) p4.2.2⟩
   have:=(qH.ae (H':=H4) (fun b hb=>p4.1.get b (Nat.lt_of_lt_of_le (cQ b hb).2 lK) (jY b hb)) (by simp)).sl
   rw [List.append_nil,hv] at this
   exact this.ae fun _ _=>rfl
end
structure PQ0 (L:List bJ) (F:List Nat) (H:ad) (q rb:Nat) (st:aV) (p:List PN) (m:List Nat):Prop where
 hq:∃c1 c2 c3 c4,H.get q=some ⟨[.pointer (some ⟨rb,0,none⟩),c1,c2,c3,c4],123,false,false⟩
 hr:∃vL vP,H.get rb=some ⟨[vL,iV (st.at_:Nat),.slice none 0 0,.bool true,iV st.depth,iV st.bad,vP],121,false,false⟩/\Sl Gn H vL L F/\Gr gU 192 H vP p m []
 hF:∀b∈F,b < H.next/\b≠rb/\b≠q
 hm:∀b∈m,b < H.next/\b≠rb/\b≠q/\b∉F
 qr:q≠rb
 at_:st.at_ < L.length
 ql:q < H.next
 rl:rb < H.next
 pl:p.length<=st.at_
structure PQ (L:List bJ) (F:List Nat) (H:ad) (q rb:Nat) (st:aV) (p:List PN) (m:List Nat):Prop extends PQ0 L F H q rb st p m where
 fz:H.fz rb=false
 fm:∀b∈m,H.fz b=false
 fn:∀b,H.next<=b->H.fz b=false
section
variable {L:List bJ} {F:List Nat} {H H1 H2:ad} {q rb:Nat} {st bu bH:aV} {p p1 p2:List PN} {m m1 m2:List Nat}
theorem PQ0.pp (h:PQ0 L F H q rb st p m):PP0 L F H q rb st:=by
 obtain ⟨h1,⟨vL,vP,hr,hs,hg⟩,h3,h4,h5,h6,h7,h8,h9⟩:=h
 obtain ⟨a,rfl⟩:=hg.val
 exact ⟨h1,⟨vL,a,_,_,hr,hs⟩,h3,h5,h6,h7,h8⟩
theorem PQ.pp (h:PQ L F H q rb st p m):PP L F H q rb st:={h.toPQ0.pp with fz:=h.fz}
theorem PQ0.fr (h:PQ0 L F H q rb st p m) {M:List Nat} (bk:Fr M H H1) (mq:q∉M) (mr:rb∉M) (mF:∀b∈F,b∉M) (mm:∀b∈m,b∉M):PQ0 L F H1 q rb st p m:=by
 obtain ⟨⟨c1,c2,c3,c4,nI⟩,⟨vL,vP,iU,hs,hg⟩,hf,hm,h3,h4,h5,h6,h7⟩:=h
 exact ⟨⟨c1,c2,c3,c4,(bk.get q h5 mq).trans nI⟩,⟨vL,vP,(bk.get rb h6 mr).trans iU,hs.ae fun x hx=>bk.get x (hf x hx).1 (mF x hx),hg.ae (fun x hx=>bk.get x (hm x hx).1 (mm x hx)) (by simp)⟩,
  fun b hb=>⟨Nat.lt_of_lt_of_le (hf b hb).1 bk.nx,(hf b hb).2⟩,fun b hb=>⟨Nat.lt_of_lt_of_le (hm b hb).1 bk.nx,(hm b hb).2⟩,h3,h4,Nat.lt_of_lt_of_le h5 bk.nx,Nat.lt_of_lt_of_le h6 bk.nx,h7⟩
theorem PQ0.af (h:PQ0 L F H q rb st p m) (fz:Nat->Bool):PQ0 L F (H.af fz) q rb st p m:=h.fr (M:=[]) ((Fr.refl _ _).af _) (by simp) (by simp) (by simp) (by simp)
def FV (L:List bJ) (F:List Nat) (H:ad) (q rb:Nat) (m:List Nat) (bW:aV) (p':List PN) (H':ad):Prop:=
 Fr (rb::m) H H'/\(∀c,H'.fz c=H.fz c)/\∃m',PQ0 L F H' q rb bW p' m'/\∀b∈m',b∈m∨H.next<=b
structure PR (L:List bJ) (F:List Nat) (H:ad) (q rb:Nat) (m:List Nat) (H1:ad) (bu:aV) (p1:List PN) (m1:List Nat):Prop where
 fr:Fr (rb::m) H H1
 pq:PQ L F H1 q rb bu p1 m1
 sub:∀b∈m1,b∈m∨H.next<=b
theorem PR.start (h:PQ L F H q rb st p m):PR L F H q rb m H st p m:=⟨.refl _ _,h,fun _ h=>.inl h⟩
theorem PR.call (h:PR L F H q rb m H1 bu p1 m1) {bW:aV} {p':List PN} (hp:FV L F H1 q rb m1 bW p' H2):∃m2,PR L F H q rb m H2 bW p' m2:=by
 obtain ⟨hf,hz,m',h0,hs⟩:=hp
 refine ⟨m',h.fr.trans hf fun c hc=>?_,{h0 with fz:=by rw [hz];exact h.pq.fz,fm:=fun b hb=>?_,fn:=fun b hb=>by rw [hz];exact h.pq.fn b (Nat.le_trans hf.nx hb)},fun b hb=>?_⟩
 ·rcases List.mem_cons.1 hc with e | e
  ·exact .inl (by simp [e])
  ·exact (h.sub c e).imp (fun e=>by simp [e]) id
 ·rw [hz]
  rcases hs b hb with e | e
  ·exact h.pq.fm b e
  ·exact h.pq.fn b e
 ·rcases hs b hb with e | e
  ·exact h.sub b e
  ·exact .inr (Nat.le_trans h.fr.nx e)
theorem PR.au (h:PR L F H q rb m H1 bu p1 m1) (ho:aG H1 H2) (hz:∀c,c < H1.next∨H2.next<=c->H2.fz c=H1.fz c):PR L F H q rb m H2 bu p1 m1:=
 ⟨h.fr.then (ho.fr _),{h.pq.toPQ0.fr (ho.fr []) (by simp) (by simp) (by simp) (by simp) with fz:=by rw [hz _ (.inl h.pq.rl)];exact h.pq.fz,fm:=fun b hb=>by rw [hz _ (.inl (h.pq.hm b hb).1)];exact h.pq.fm b hb,fn:=fun b hb=>by rw [hz _ (.inr hb)];exact h.pq.fn b (Nat.le_trans ho.nx hb)},h.sub⟩
theorem PR.push (h:PR L F H q rb m H1 bu p1 m1) (B:cO) (hB:B.ro=false:=by rfl):PR L F H q rb m (H1.push B) bu p1 m1:=
 h.au (aG.push H1 B hB) fun c hc=>by
  rw [bI] at hc
  rw [rv,show (c==H1.next)=false from by rw [beq_eq_false_iff_ne];omega,Bool.false_or]
theorem PR.set (h:PR L F H q rb m H1 bu p1 m1) {vL v1 v4 v5 vP:Value} (hr:H1.get rb=some ⟨[vL,v1,.slice none 0 0,.bool true,v4,v5,vP],121,false,false⟩) (bW:aV) (ha:bW.at_ < L.length) (hl:p1.length<=bW.at_):
  PR L F H q rb m (H1.ai rb ⟨[vL,iV (bW.at_:Nat),.slice none 0 0,.bool true,iV bW.depth,iV bW.bad,vP],121,false,false⟩) bW p1 m1:=by
 refine ⟨h.fr.ai (.inl (by simp)) _,?_,h.sub⟩
 obtain ⟨⟨⟨c1,c2,c3,c4,nI⟩,⟨vL',qm,iU,hs,hg⟩,hf,hm,h3,h4,h5,h6,h7⟩,z1,z2,z3⟩:=h.pq
 rw [hr] at iU
 cases iU
 exact ⟨⟨⟨c1,c2,c3,c4,by rw [aH,if_neg h3];exact nI⟩,⟨vL,vP,by rw [aH,if_pos rfl],hs.ae fun b hb=>by rw [aH,if_neg (hf b hb).2.1],hg.ae (fun b hb=>by rw [aH,if_neg (hm b hb).2.1]) (by simp)⟩,hf,hm,h3,ha,h5,h6,hl⟩,z1,z2,z3⟩
theorem PR.put (h:PR L F H q rb m H1 bu p1 m1) {b:Nat} (B:cO) (hB:B.ro=false) (hb:H.next<=b) (hF:b∉F) (hq:b≠q) (hr:b≠rb) (hm:b∉m1):PR L F H q rb m (H1.ai b B) bu p1 m1:=by
 refine ⟨h.fr.ai (.inr hb) B hB,?_,h.sub⟩
 have bk:Fr [b] H1 (H1.ai b B):=(Fr.refl _ _).ai (.inl (by simp)) B hB
 exact {h.pq.toPQ0.fr bk (by simpa using hq.symm) (by simpa using hr.symm) (fun c hc=>by simp;rintro rfl;exact hF hc) (fun c hc=>by simp;rintro rfl;exact hm hc) with fz:=h.pq.fz,fm:=h.pq.fm,fn:=h.pq.fn}
theorem PR.last (h:PR L F H q rb m H1 bu p1 m1):FV L F H q rb m bu p1 (H1.af H.fz):=⟨h.fr.af _,fun _=>rfl,m1,h.pq.toPQ0.af _,h.sub⟩
theorem PQ0.fM (h:PQ0 L F H q rb st p m):∃c1 c2 c3 c4 bL oL cL BL vP,H.get q=some ⟨[.pointer (some ⟨rb,0,none⟩),c1,c2,c3,c4],123,false,false⟩/\
  H.get rb=some ⟨[.slice (some ⟨bL,oL,none⟩) L.length cL,iV (st.at_:Nat),.slice none 0 0,.bool true,iV st.depth,iV st.bad,vP],121,false,false⟩/\Gr gU 192 H vP p m []/\H.get bL=some BL/\
  oL+st.at_ * 5+5<=BL.cells.length/\(BL.cells.drop (oL+st.at_ * 5)).take 5=iC (tk L st)/\BL.cells[oL+st.at_ * 5]?=some (iV (tk L st).kind)/\BL.cells[oL+st.at_ * 5+4]?=some (ah (tk L st).text)/\bL≠rb/\bL < H.next/\bL≠q:=by
 obtain ⟨c1,c2,c3,c4,bL,oL,cL,BL,a,n,c,hq,hr,hB,hl,er,h0,h4,dd,cb,eO⟩:=h.pp.fM
 obtain ⟨vL,vP,iU,hs,hg⟩:=h.hr
 rw [hr] at iU
 cases iU
 exact ⟨c1,c2,c3,c4,bL,oL,cL,BL,_,hq,hr,hg,hB,hl,er,h0,h4,dd,cb,eO⟩
theorem ald {s:bC} (hl:s.length < 1000000):aj Tryz.prog 148 #[ah s] H (fun w H'=>w=.bool (FU s)/\aG H H'/\∀c,H'.fz c=H.fz c):=
 aj.told ((ab5 hl).mono fun w H' _ ⟨h1,h2⟩=>⟨h1,((h2.fr []).af _).au,fun _=>rfl⟩)
abbrev mc (n:PN):List Value:=[iV n.kind,iV n.a,iV n.b,iV n.n,ah n.name]
theorem F5 (hL:LG L) (h:PQ L F H q rb st p m) (dZ:p.length < st.at_) {n:PN}:aj Tryz.prog 171 #[pV rb,.agg (mc n).toArray] H (fun w H'=>w=iV (p.length:Nat)/\FV L F H q rb m st (p++[n]) H'):=by
 refine aj.told ?_
 refine akV (Nat.le_refl _) fun hf=>?_
 simp only [Tryz.f171,Option.getD_some]
 have hz:=h.fz
 have fK:=hL.len
 have eB:=h.at_
 have r1:=(PR.start h).push ⟨mc n,192,false,false⟩
 have g1:(H.push ⟨mc n,192,false,false⟩).get H.next=some ⟨mc n,192,false,false⟩:=by rw [aZ,if_pos rfl]
 simp only [go_sem]
 have nr:¬rb=H.next:=by have:=h.rl;omega
 obtain ⟨c1,c2,c3,c4,bL,oL,cL,BL,vP,hq,hr,hg,hB,hl,er,h0,h4,dd,cb,eO⟩:=h.toPQ0.fM
 obtain ⟨a,hv⟩:=hg.val
 simp only [go_sem,hr,nr,eX U2 (by decide) (by decide)]
 have Hg:=h.hm
 refine lA (r:=gU) (x:=n) (g':=[]) U2 (hg.ae (fun b hb=>by rw [bO (by have:=(Hg b hb).1;rw [bI];omega),bO (Hg b hb).1]) (by simp)) (fun c hc=>by have:=(Hg c hc).1;rw [bI,bI];omega) (by simp) (by simp) (fun c hc=>h.fm c hc) (by rw [aZ,if_pos (by rw [bI])]) ⟨rfl,rfl⟩ rfl (by omega) ?_
 intro v7 H7 cA eu jU dA kY
 rw [bI,bI] at eu
 have e1:H7.get rb=some ⟨[.slice (some ⟨bL,oL,none⟩) L.length cL,iV (st.at_:Nat),.slice none 0 0,.bool true,iV st.depth,iV st.bad,vP],121,false,false⟩:=by
  have:=h.rl
  rw [jU rb (by rw [bI,bI];omega) (fun e=>(Hg rb e).2.1 rfl),bO (by rw [bI];omega),bO this];exact hr
 obtain ⟨a7,uw⟩:=cA.val
 have acS:(p++[n]).length=p.length+1:=by simp
 have db:IntKind.wrap .i64 (((p.length+1:Nat):Int) - 1)=((p.length:Nat):Int):=by rw [show ((p.length+1:Nat):Int) - 1=((p.length:Nat):Int) from by omega];exact tT (by omega)
 rw [acS] at uw
 simp only [go_sem,e1,hz,hr,uw,db,nr]
 have jF:((H.push ⟨mc n,192,false,false⟩).push ⟨mc n,192,false,false⟩).next=H.next+2:=by rw [bI,bI]
 have l4:Gr gU 192 H7 (.slice a7 (p.length+1) (p.length+1)) (p++[n]) [H.next+2] []:=by rw [<-uw];exact cA
 have U3:Fr (rb::m) H H7:=(((Fr.refl (rb::m) H).push _).push _).then (dA.sub fun c hc=>.inl (by simp [hc]))
 obtain ⟨⟨d1,d2,d3,d4,nI⟩,⟨vL,qm,iU,hs,_⟩,hF,hm,Aa,aBh,Ad,qk,aBi⟩:=h.toPQ0
 rw [hr] at iU
 cases iU
 have Sg:q∉rb::m:=fun e=>by
  rcases List.mem_cons.1 e with e | e
  ·exact Aa e
  ·exact (hm q e).2.2.1 rfl
 have hF7:∀b∈F,b∉rb::m:=fun b hb e=>by
  rcases List.mem_cons.1 e with e | e
  ·exact (hF b hb).2.1 e
  ·exact (hm b e).2.2.2 hb
 refine ⟨(U3.ai (.inl (by simp)) _).af _,fun _=>rfl,[H.next+2],PQ0.af ⟨⟨d1,d2,d3,d4,?_⟩,⟨_,_,by rw [aH,if_pos rfl],?_,?_⟩,fun b hb=>⟨?_,(hF b hb).2⟩,fun b hb=>?_,Aa,eB,?_,?_,?_⟩ _,fun b hb=>.inr ?_⟩
 ·rw [aH,if_neg Aa,U3.get q Ad Sg];exact nI
 ·exact hs.ae fun b hb=>by rw [aH,if_neg (hF b hb).2.1,U3.get b (hF b hb).1 (hF7 b hb)]
 ·exact l4.ae (fun b hb=>by rw [List.mem_singleton] at hb;subst hb;rw [aH,if_neg (by omega)]) (by simp)
 ·show b < H7.next;have:=(hF b hb).1;omega
 ·rw [List.mem_singleton] at hb
  subst hb
  exact ⟨by show H.next+2 < H7.next;omega,by omega,by omega,fun e=>by have:=(hF _ e).1;omega⟩
 ·show q < H7.next;omega
 ·show rb < H7.next;omega
 ·rw [acS];omega
 ·rw [List.mem_singleton] at hb;omega
theorem agW (h:PQ L F H q rb st p m) {s:bC}:aj Tryz.prog 178 #[pV rb,ah s] H (fun w H'=>w=.tuple #[iV 0,.bool true]/\H=H'):=by
 refine ak9 (Nat.le_refl _) fun hf=>?_
 simp only [Tryz.f178,Option.getD_some]
 obtain ⟨c1,c2,c3,c4,bL,oL,cL,BL,vP,hq,hr,hg,hB,hl,er,h0,h4,dd,cb,eO⟩:=h.toPQ0.fM
 simp only [go_sem,hr]
 refine ft 8380656 0 (fun i V H1=>V 13=iV (i:Nat)/\H=H1) ⟨by simp only [go_sem] <;> rfl,rfl⟩ (fun i V H1 hi=>absurd hi (by omega)) ?_ (by rfl)
 rintro V H1 ⟨XE,rfl⟩
 simp only [go_sem,XE,hr]
def tc (L:List bJ) (t:bJ) (st:aV) (p:List PN):Int × aV × List PN:=
 if el L [94] (aC st)=true then
  (if (tk L (aC (aC st))).kind≠2∨(tk L (aC (aC st))).n < 1 then (0,{aC (aC st) with bad:=2},p)
  else ((p.length:Nat),aC (aC (aC st)),p++[⟨3,(tk L (aC (aC st))).n,0,0,t.text⟩]))
 else ((p.length:Nat),aC st,p++[⟨3,1,0,0,t.text⟩])
theorem aaT {a b:Int} {h:KH}:iA Tryz.prog 192 [(0,iV a),(1,iV b)] h=.ok (.agg #[iV a,iV b,iV 0,iV 0,ah []]) h:=by kernel_rfl
theorem aam {a b c:Int} {h:KH}:iA Tryz.prog 192 [(0,iV a),(1,iV b),(2,iV c)] h=.ok (.agg #[iV a,iV b,iV c,iV 0,ah []]) h:=by kernel_rfl
theorem aan {a:Int} {h:KH}:iA Tryz.prog 192 [(0,iV a)] h=.ok (.agg #[iV a,iV 0,iV 0,iV 0,ah []]) h:=by kernel_rfl
theorem anQ (hL:LG L) (h:PQ L F H q rb st p m) (hk:(tk L st).kind≠4) {t:bJ}:aj Tryz.prog 177 #[pV rb,.agg (iC t).toArray] H (fun w H'=>w=iV (tc L t st p).1/\FV L F H q rb m (tc L t st p).2.1 (tc L t st p).2.2 H'/\st.at_+(tc L t st p).2.2.length<=(tc L t st p).2.1.at_+p.length):=by
 refine aj.told ?_
 refine ak7 (Nat.le_refl _) fun hf=>?_
 simp only [Tryz.f177,Option.getD_some]
 have hz:=h.fz
 have fK:=hL.len
 have eB:=h.at_
 have db:IntKind.wrap .i64 (((st.at_:Nat):Int)+1)=((st.at_+1:Nat):Int):=cG eB (by omega)
 have ey:H.fz (H.next+1)=false:=hf.fresh (Nat.le_succ _)
 have nr:¬rb=H.next:=by have:=h.rl;omega
 have vZ:¬rb=H.next+1:=by have:=h.rl;omega
 obtain ⟨c1,c2,c3,c4,bL,oL,cL,BL,vP,hq,hr,hg,hB,hl,er,h0,h4,dd,cb,eO⟩:=h.toPQ0.fM
 simp only [go_sem,aaT,ey]
 refine ag.by (agW (((PR.start h).push ⟨iC t,72,false,false⟩).push ⟨mc ⟨3,1,0,0,[]⟩,192,false,false⟩).pq) ?_
 rintro _ _ - ⟨rfl,rfl⟩
 simp only [go_sem,ey,hr,nr,vZ,hz,db]
 have nF:H.next+1∉F:=fun e=>by have:=(h.hF _ e).1;omega
 have nq:H.next+1≠q:=by have:=h.ql;omega
 have ij:H.next+1≠rb:=by have:=h.rl;omega
 have nm:H.next+1∉m:=fun e=>by have:=(h.hm _ e).1;omega
 have r2:=(((((PR.start h).push ⟨iC t,72,false,false⟩).push ⟨mc ⟨3,1,0,0,[]⟩,192,false,false⟩).put (b:=H.next+1) ⟨[iV 3,iV 1,iV 0,iV 0,ah []],192,false,false⟩ rfl (Nat.le_succ _) nF nq ij nm).put (b:=H.next+1) ⟨[iV 3,iV 1,iV 0,iV 0,ah []],192,false,false⟩ rfl (Nat.le_succ _) nF nq ij nm).put (b:=H.next+1) ⟨mc ⟨3,1,0,0,t.text⟩,192,false,false⟩ rfl (Nat.le_succ _) nF nq ij nm
 have g2:(((((H.push ⟨iC t,72,false,false⟩).push ⟨mc ⟨3,1,0,0,[]⟩,192,false,false⟩).ai (H.next+1) ⟨[iV 3,iV 1,iV 0,iV 0,ah []],192,false,false⟩).ai (H.next+1) ⟨[iV 3,iV 1,iV 0,iV 0,ah []],192,false,false⟩).ai (H.next+1) ⟨mc ⟨3,1,0,0,t.text⟩,192,false,false⟩).get rb=some ⟨[.slice (some ⟨bL,oL,none⟩) L.length cL,iV (st.at_:Nat),.slice none 0 0,.bool true,iV st.depth,iV st.bad,vP],121,false,false⟩:=by
  rw [aH,if_neg vZ,aH,if_neg vZ,aH,if_neg vZ,bO (by have:=h.rl;rw [bI];omega),bO h.rl];exact hr
 have gB:(((((H.push ⟨iC t,72,false,false⟩).push ⟨mc ⟨3,1,0,0,[]⟩,192,false,false⟩).ai (H.next+1) ⟨[iV 3,iV 1,iV 0,iV 0,ah []],192,false,false⟩).ai (H.next+1) ⟨[iV 3,iV 1,iV 0,iV 0,ah []],192,false,false⟩).ai (H.next+1) ⟨mc ⟨3,1,0,0,t.text⟩,192,false,false⟩).get (H.next+1)=some ⟨mc ⟨3,1,0,0,t.text⟩,192,false,false⟩:=by rw [aH,if_pos rfl]
 have n2:(((((H.push ⟨iC t,72,false,false⟩).push ⟨mc ⟨3,1,0,0,[]⟩,192,false,false⟩).ai (H.next+1) ⟨[iV 3,iV 1,iV 0,iV 0,ah []],192,false,false⟩).ai (H.next+1) ⟨[iV 3,iV 1,iV 0,iV 0,ah []],192,false,false⟩).ai (H.next+1) ⟨mc ⟨3,1,0,0,t.text⟩,192,false,false⟩).next=H.next+2:=rfl
 generalize (((((H.push ⟨iC t,72,false,false⟩).push ⟨mc ⟨3,1,0,0,[]⟩,192,false,false⟩).ai (H.next+1) ⟨[iV 3,iV 1,iV 0,iV 0,ah []],192,false,false⟩).ai (H.next+1) ⟨[iV 3,iV 1,iV 0,iV 0,ah []],192,false,false⟩).ai (H.next+1) ⟨mc ⟨3,1,0,0,t.text⟩,192,false,false⟩)=H2 at r2 g2 gB n2
 have r3:=r2.set g2 (aC st) (oK hL eB hk) (by have:=h.pl;show p.length<=st.at_+1;omega)
 have XF:(H2.ai rb ⟨[.slice (some ⟨bL,oL,none⟩) L.length cL,iV (((aC st).at_:Nat):Int),.slice none 0 0,.bool true,iV (aC st).depth,iV (aC st).bad,vP],121,false,false⟩).get (H.next+1)=some ⟨mc ⟨3,1,0,0,t.text⟩,192,false,false⟩:=by rw [aH,if_neg ij];exact gB
 have n3:(H2.ai rb ⟨[.slice (some ⟨bL,oL,none⟩) L.length cL,iV (((aC st).at_:Nat):Int),.slice none 0 0,.bool true,iV (aC st).depth,iV (aC st).bad,vP],121,false,false⟩).next=H.next+2:=n2
 generalize dv:(H2.ai rb ⟨[.slice (some ⟨bL,oL,none⟩) L.length cL,iV (((aC st).at_:Nat):Int),.slice none 0 0,.bool true,iV (aC st).depth,iV (aC st).bad,vP],121,false,false⟩)=H3 at r3 XF n3
 have apg:(H2.ai rb ⟨[.slice (some ⟨bL,oL,none⟩) L.length cL,iV ((st.at_+1:Nat):Int),.slice none 0 0,.bool true,iV st.depth,iV st.bad,vP],121,false,false⟩)=H3:=dv
 rw [apg]
 have dZ:=h.pl
 refine ag.by (oM r3.pq.pp) ?_
 rintro _ _ - ⟨rfl,rfl⟩
 by_cases hs:el L [94] (aC st)=true
 ·obtain ⟨c1,c2,c3,c4,bL,oL,cL,BL,vP,hq,hr,hg,hB,hl,er,h0,h4,dd,cb,eO⟩:=r3.pq.toPQ0.fM
  have a1:(aC st).at_=st.at_+1:=rfl
  have a2:(aC (aC st)).at_=st.at_+2:=rfl
  have jF:=oK hL r3.pq.at_ (xV hs)
  rw [a1] at jF
  have M0:IntKind.wrap .i64 (((st.at_+1:Nat):Int)+1)=((st.at_+2:Nat):Int):=cG (n:=L.length) (by omega) (by omega)
  have r4:=r3.set hr (aC (aC st)) jF (by show p.length<=st.at_+2;omega)
  have Sh:(H3.ai rb ⟨[.slice (some ⟨bL,oL,none⟩) L.length cL,iV (((aC (aC st)).at_:Nat):Int),.slice none 0 0,.bool true,iV (aC (aC st)).depth,iV (aC (aC st)).bad,vP],121,false,false⟩).get (H.next+1)=some ⟨mc ⟨3,1,0,0,t.text⟩,192,false,false⟩:=by rw [aH,if_neg ij];exact XF
  have n4:(H3.ai rb ⟨[.slice (some ⟨bL,oL,none⟩) L.length cL,iV (((aC (aC st)).at_:Nat):Int),.slice none 0 0,.bool true,iV (aC (aC st)).depth,iV (aC (aC st)).bad,vP],121,false,false⟩).next=H.next+2:=n3
  have iU:H3.get rb=some ⟨[.slice (some ⟨bL,oL,none⟩) L.length cL,iV ((st.at_+1:Nat):Int),.slice none 0 0,.bool true,iV st.depth,iV st.bad,vP],121,false,false⟩:=hr
  have dw:H.fz (H.next+2)=false:=hf.fresh (by omega)
  have Hh:(H3.ai rb ⟨[.slice (some ⟨bL,oL,none⟩) L.length cL,iV (((aC (aC st)).at_:Nat):Int),.slice none 0 0,.bool true,iV (aC (aC st)).depth,iV (aC (aC st)).bad,vP],121,false,false⟩).get rb=some ⟨[.slice (some ⟨bL,oL,none⟩) L.length cL,iV (((aC (aC st)).at_:Nat):Int),.slice none 0 0,.bool true,iV (aC (aC st)).depth,iV (aC (aC st)).bad,vP],121,false,false⟩:=by rw [aH,if_pos rfl]
  simp only [go_sem,hs,iU,M0,hz]
  generalize jK:(H3.ai rb ⟨[.slice (some ⟨bL,oL,none⟩) L.length cL,iV (((aC (aC st)).at_:Nat):Int),.slice none 0 0,.bool true,iV (aC (aC st)).depth,iV (aC (aC st)).bad,vP],121,false,false⟩)=H4 at r4 Sh n4 Hh
  have Vy:(H3.ai rb ⟨[.slice (some ⟨bL,oL,none⟩) L.length cL,iV ((st.at_+2:Nat):Int),.slice none 0 0,.bool true,iV st.depth,iV st.bad,vP],121,false,false⟩)=H4:=jK
  rw [Vy]
  obtain ⟨d1,d2,d3,d4,bL4,oL4,cL4,BL4,Hj,hq4,hJ,nJ,qn,hl4,Mt,h04,h44,aph,adU,api⟩:=r4.pq.toPQ0.fM
  rw [Hh] at hJ
  cases hJ
  have Ra:H4.get rb=some ⟨[.slice (some ⟨bL,oL,none⟩) L.length cL,iV ((st.at_+2:Nat):Int),.slice none 0 0,.bool true,iV st.depth,iV st.bad,vP],121,false,false⟩:=Hh
  have apj:oL+(st.at_+2) * 5+5<=BL4.cells.length:=hl4
  have ab6:(BL4.cells.drop (oL+(st.at_+2) * 5)).take 5=iC (tk L (aC (aC st))):=Mt
  generalize hx:tk L (aC (aC st))=x at Mt ab6
  have Si:H4.next=H.next+2:=n4
  have Sj:¬H.next+1=H.next+2:=by omega
  have Ae:¬rb=H.next+2:=by have:=h.rl;omega
  have r5:=(r4.push ⟨[iV 0,iV 0,iV 0,iV 0,ah []],72,false,false⟩).put (b:=H.next+2) ⟨iC x,72,false,false⟩ rfl (by omega) (fun e=>by have:=(h.hF _ e).1;omega) (by have:=h.ql;omega) (by have:=h.rl;omega) (fun e=>by have:=(h.hm _ e).1;omega)
  have g5r:((H4.push ⟨[iV 0,iV 0,iV 0,iV 0,ah []],72,false,false⟩).ai (H.next+2) ⟨iC x,72,false,false⟩).get rb=some ⟨[.slice (some ⟨bL,oL,none⟩) L.length cL,iV ((st.at_+2:Nat):Int),.slice none 0 0,.bool true,iV st.depth,iV st.bad,vP],121,false,false⟩:=by rw [aH,if_neg Ae,bO (by have:=h.rl;omega)];exact Ra
  simp only [go_sem,jF,qn,apj,ab6,Si,dw]
  have eb:((tk L (aC (aC st))).kind≠2∨(tk L (aC (aC st))).n < 1)->tc L t st p=(0,{aC (aC st) with bad:=2},p):=fun hc=>by rw [tc,if_pos hs,if_pos hc]
  have ec:¬((tk L (aC (aC st))).kind≠2∨(tk L (aC (aC st))).n < 1)->tc L t st p=(((p.length:Nat):Int),aC (aC (aC st)),p++[⟨3,(tk L (aC (aC st))).n,0,0,t.text⟩]):=fun hc=>by rw [tc,if_pos hs,if_neg hc]
  rw [hx] at eb ec
  have adV:∀{H5:ad},H5=((H4.push ⟨[iV 0,iV 0,iV 0,iV 0,ah []],72,false,false⟩).ai (H.next+2) ⟨iC x,72,false,false⟩).ai rb ⟨[.slice (some ⟨bL,oL,none⟩) L.length cL,iV ((st.at_+2:Nat):Int),.slice none 0 0,.bool true,iV st.depth,iV 2,vP],121,false,false⟩->(x.kind≠2∨x.n < 1)->FV L F H q rb m (tc L t st p).2.1 (tc L t st p).2.2 (H5.af H.fz)/\st.at_+(tc L t st p).2.2.length<=(tc L t st p).2.1.at_+p.length:=fun e hc=>by
   rw [eb hc,e]
   exact ⟨(r5.set g5r {aC (aC st) with bad:=2} jF (by show p.length<=st.at_+2;omega)).last,by show st.at_+p.length<=st.at_+2+p.length;omega⟩
  by_cases k2:x.kind=2
  ·by_cases k3:x.n < 1
   ·have e1:=(eb (.inr k3))
    simp only [go_sem,k2,k3,Si,Ae,Ra,hz]
    refine ⟨by rw [e1],?_⟩
    exact adV rfl (.inr k3)
   ·have hx4:(tk L (aC (aC st))).kind≠4:=by rw [hx];omega
    have Af:=oK hL r4.pq.at_ hx4
    have a2:(aC (aC st)).at_=st.at_+2:=rfl
    rw [a2] at Af
    have Vz:IntKind.wrap .i64 (((st.at_+2:Nat):Int)+1)=((st.at_+3:Nat):Int):=cG (n:=L.length) (by omega) (by omega)
    have gB5:((H4.push ⟨[iV 0,iV 0,iV 0,iV 0,ah []],72,false,false⟩).ai (H.next+2) ⟨iC x,72,false,false⟩).get (H.next+1)=some ⟨mc ⟨3,1,0,0,t.text⟩,192,false,false⟩:=by rw [aH,if_neg Sj,bO (by omega)];exact Sh
    have nm5:H.next+1∉m:=nm
    have r6:=r5.put (b:=H.next+1) ⟨mc ⟨3,x.n,0,0,t.text⟩,192,false,false⟩ rfl (Nat.le_succ _) nF nq ij nm
    have g6r:(((H4.push ⟨[iV 0,iV 0,iV 0,iV 0,ah []],72,false,false⟩).ai (H.next+2) ⟨iC x,72,false,false⟩).ai (H.next+1) ⟨mc ⟨3,x.n,0,0,t.text⟩,192,false,false⟩).get rb=some ⟨[.slice (some ⟨bL,oL,none⟩) L.length cL,iV ((st.at_+2:Nat):Int),.slice none 0 0,.bool true,iV st.depth,iV st.bad,vP],121,false,false⟩:=by rw [aH,if_neg vZ];exact g5r
    have r7:=r6.set g6r (aC (aC (aC st))) Af (by show p.length<=st.at_+3;omega)
    have XG:((((H4.push ⟨[iV 0,iV 0,iV 0,iV 0,ah []],72,false,false⟩).ai (H.next+2) ⟨iC x,72,false,false⟩).ai (H.next+1) ⟨mc ⟨3,x.n,0,0,t.text⟩,192,false,false⟩).ai rb ⟨[.slice (some ⟨bL,oL,none⟩) L.length cL,iV (((aC (aC (aC st))).at_:Nat):Int),.slice none 0 0,.bool true,iV (aC (aC (aC st))).depth,iV (aC (aC (aC st))).bad,vP],121,false,false⟩).get (H.next+1)=some ⟨mc ⟨3,x.n,0,0,t.text⟩,192,false,false⟩:=by rw [aH,if_neg ij,aH,if_pos rfl]
    have ec1:=ec (by rintro (e | e);exact e k2;exact k3 e)
    simp only [go_sem,k2,k3,Si,Sj,Ae,vZ,ij,Sh,ey,Ra,hz,Vz]
    refine ag.by (F5 hL r7.pq (by show p.length < st.at_+3;omega) (n:=⟨3,x.n,0,0,t.text⟩)) ?_
    rintro _ H5 - ⟨rfl,p5⟩
    obtain ⟨m5,r9⟩:=r7.call p5
    simp only [go_sem,ec1]
    exact ⟨r9.last,by rw [List.length_append,List.length_singleton];show st.at_+(p.length+1)<=st.at_+3+p.length;omega⟩
  ·have e1:=(eb (.inl k2))
   simp only [go_sem,k2,Si,Ae,Ra,hz]
   refine ⟨by rw [e1],?_⟩
   exact adV rfl (.inl k2)
 ·have e:tc L t st p=(((p.length:Nat):Int),aC st,p++[⟨3,1,0,0,t.text⟩]):=by rw [tc,if_neg hs]
  simp only [go_sem,hs,XF]
  refine ag.by (F5 hL r3.pq (by show p.length < st.at_+1;omega) (n:=⟨3,1,0,0,t.text⟩)) ?_
  rintro _ H5 - ⟨rfl,p5⟩
  obtain ⟨m5,r5⟩:=r3.call p5
  simp only [go_sem,e]
  exact ⟨r5.last,by rw [List.length_append,List.length_singleton];show st.at_+(p.length+1)<=st.at_+1+p.length;omega⟩
end
abbrev wT:=Option (Int × aV × List PN)
section
variable {L:List bJ} {F:List Nat} {H H1 H2:ad} {q rb:Nat} {st bu bH:aV} {p p1 p2:List PN} {m m1 m2:List Nat}
def Gs (L:List bJ) (s:aV):aV:=if s.bad=0/\el L [41] s=false then {s with bad:=2} else s
def Gt (s:aV):aV:=if s.bad=0 then {s with at_:=s.at_+1,depth:=IntKind.wrap .i64 (s.depth - 1)} else s
def JH (L:List bJ) (sm:Bool->aV->List PN->wT) (star:Bool) (st:aV) (p:List PN):wT:=
 if st.bad≠0 then some (0,st,p)
 else if el L [40] st=true then
  (if 12<=st.depth then some (0,{st with bad:=3},p)
  else (sm star {st with at_:=st.at_+1,depth:=IntKind.wrap .i64 (st.depth+1)} p).map fun x=>(x.1,Gt (Gs L x.2.1),x.2.2))
 else if (tk L st).kind=2/\((tk L st).n=0∨(tk L st).n=1) then some ((p.length:Nat),aC st,p++[⟨1+(tk L st).n,0,0,0,[]⟩])
 else if (tk L st).kind=1/\FU (tk L st).text=true then some (tc L (tk L st) st p)
 else some (0,{st with bad:=2},p)
def yS (L:List bJ) (sm:Bool->aV->List PN->wT) (star:Bool) (st:aV) (p:List PN):wT:=
 if st.bad≠0∨el L [42] st=false then JH L sm star st p
 else if star=true then some (0,{st with bad:=2},p)
 else (JH L sm true (aC st) p).map fun x=>((x.2.2.length:Nat),x.2.1,x.2.2++[⟨6,x.1,0,0,[]⟩])
def yW (L:List bJ) (it:aV->List PN->wT) (sg:bC) (kind:Int):Nat->Int->aV->List PN->wT
 | 0,_,_,_=>none
 | k+1,a,st,p=>if st.bad=0/\el L sg st=true then (it (aC st) p).bind fun x=>yW L it sg kind k (x.2.2.length:Nat) x.2.1 (x.2.2++[⟨kind,a,x.1,0,[]⟩]) else some (a,st,p)
def Bb (L:List bJ) (sm:Bool->aV->List PN->wT) (n:Nat) (star:Bool) (st:aV) (p:List PN):wT:=(yS L sm star st p).bind fun x=>yW L (yS L sm star) [46] 5 n x.1 x.2.1 x.2.2
def x9 (L:List bJ):Nat->Bool->aV->List PN->wT
 | 0,_,_,_=>none
 | n+1,star,st,p=>(Bb L (x9 L n) n star st p).bind fun x=>yW L (Bb L (x9 L n) n star) [43] 4 n x.1 x.2.1 x.2.2
def PW (L:List bJ) (F:List Nat) (q rb:Nat) (f:FuncId) (fn:Bool->aV->List PN->wT):Prop:=∀{H:ad} {st:aV} {p:List PN} {m:List Nat} {star:Bool} {v:Int} {bW:aV} {p':List PN},PQ L F H q rb st p m->fn star st p=some (v,bW,p')->
 aj Tryz.prog f #[pV rb,.bool star] H fun w H'=>w=iV v/\FV L F H q rb m bW p' H'/\st.at_+p'.length<=bW.at_+p.length
theorem UF (hL:LG L) {sm:Bool->aV->List PN->wT} (hs:PW L F q rb 156 sm):PW L F q rb 176 (JH L sm):=by
 intro H st p m star v bW p' h he
 refine aj.told ?_
 refine ak5 (Nat.le_refl _) fun hf=>?_
 simp only [Tryz.f176,Option.getD_some]
 have hz:=h.fz
 have fK:=hL.len
 have eB:=h.at_
 have dZ:=h.pl
 have db:IntKind.wrap .i64 (((st.at_:Nat):Int)+1)=((st.at_+1:Nat):Int):=cG eB (by omega)
 obtain ⟨c1,c2,c3,c4,bL,oL,cL,BL,vP,hq,hr,hg,hB,hl,er,h0,h4,dd,cb,eO⟩:=h.toPQ0.fM
 by_cases hb:st.bad=0
 ·rw [JH,if_neg (by simpa using hb)] at he
  have ey:H.fz H.next=false:=h.fn _ (Nat.le_refl _)
  have dX:¬¬st.bad=0:=fun h=>h hb
  have r1:=(PR.start h).push ⟨iC (tk L st),72,false,false⟩
  have g1:(H.push ⟨iC (tk L st),72,false,false⟩).get H.next=some ⟨iC (tk L st),72,false,false⟩:=by rw [aZ,if_pos rfl]
  have xt:(H.push ⟨iC (tk L st),72,false,false⟩).get rb=some ⟨[.slice (some ⟨bL,oL,none⟩) L.length cL,iV (st.at_:Nat),.slice none 0 0,.bool true,iV st.depth,iV st.bad,vP],121,false,false⟩:=by rw [bO h.rl];exact hr
  have n1:H.next < (H.push ⟨iC (tk L st),72,false,false⟩).next:=Nat.lt_succ_self _
  have ij:¬H.next=rb:=by have:=h.rl;omega
  have Rc:¬rb=H.next:=by have:=h.rl;omega
  simp only [go_sem,hr,hb,hB,hl,er,eB,ey]
  generalize (H.push ⟨iC (tk L st),72,false,false⟩)=H1 at r1 g1 xt n1
  refine ag.by (oM r1.pq.pp) ?_
  rintro _ _ - ⟨rfl,rfl⟩
  by_cases cZ:el L [40] st=true
  ·rw [if_pos cZ] at he
   by_cases hd:(12:Int)<=st.depth
   ·rw [if_pos hd] at he
    cases he
    simp only [go_sem,cZ,xt,hd,hz]
    exact (r1.set xt {st with bad:=3} eB dZ).last
   ·rw [if_neg hd] at he
    have r2:=r1.set xt {st with at_:=st.at_+1,depth:=IntKind.wrap .i64 (st.depth+1)} (oK hL eB (xV cZ)) (by show p.length<=st.at_+1;omega)
    simp only [go_sem,cZ,xt,hd,hz,db]
    rw [sU]
    generalize xu:(H1.ai rb ⟨[.slice (some ⟨bL,oL,none⟩) L.length cL,iV ((st.at_+1:Nat):Int),.slice none 0 0,.bool true,iV (IntKind.wrap .i64 (st.depth+1)),iV st.bad,vP],121,false,false⟩)=H2
    have r2':PR L F H q rb m H2 {st with at_:=st.at_+1,depth:=IntKind.wrap .i64 (st.depth+1)} p m:=by rw [<-xu];exact r2
    cases yz:sm star {st with at_:=st.at_+1,depth:=IntKind.wrap .i64 (st.depth+1)} p with
    | none=>rw [yz] at he;cases he
    | some x=>
     obtain ⟨v3,s3,p3⟩:=x
     rw [yz] at he
     cases he
     refine ag.by (hs r2'.pq yz) ?_
     rintro _ H3 - ⟨rfl,q3,wa⟩
     obtain ⟨m3,r3⟩:=r2'.call q3
     have apk:st.at_+1+p3.length<=s3.at_+p.length:=wa
     obtain ⟨e1,e2,e3,e4,XH,XI,XJ,BL3,N8,wb,je,pC,qV,N9,anR,h03,h43,apl,apm,apn⟩:=r3.pq.toPQ0.fM
     have VA:=r3.pq.at_
     have apo:=r3.pq.pl
     have Vz:IntKind.wrap .i64 (((s3.at_:Nat):Int)+1)=((s3.at_+1:Nat):Int):=cG VA (by omega)
     by_cases fU:s3.bad=0
     ·simp only [go_sem,je,fU]
      refine ag.by (oM r3.pq.pp) ?_
      rintro _ _ - ⟨rfl,rfl⟩
      by_cases fZ:el L [41] s3=true
      ·have x1:Gs L s3=s3:=by rw [Gs,if_neg];rintro ⟨_,e⟩;rw [fZ] at e;cases e
       have x2:Gt s3={s3 with at_:=s3.at_+1,depth:=IntKind.wrap .i64 (s3.depth - 1)}:=by rw [Gt,if_pos fU]
       simp only [go_sem,fZ,je,fU,hz,Vz]
       rw [sU,x1,x2,<-fU]
       refine ⟨(r3.set je {s3 with at_:=s3.at_+1,depth:=IntKind.wrap .i64 (s3.depth - 1)} (oK hL VA (xV fZ)) (by show p3.length<=s3.at_+1;omega)).last,by show st.at_+p3.length<=s3.at_+1+p.length;omega⟩
      ·have apq:el L [41] s3=false:=by simpa using fZ
       have x1:Gs L s3={s3 with bad:=2}:=by rw [Gs,if_pos ⟨fU,apq⟩]
       have x2:Gt {s3 with bad:=2}={s3 with bad:=2}:=by rw [Gt,if_neg];show¬(2:Int)=0;decide
       simp only [go_sem,fZ,je,hz]
       rw [x1,x2]
       exact ⟨(r3.set je {s3 with bad:=2} VA apo).last,by show st.at_+p3.length<=s3.at_+p.length;omega⟩
     ·have x1:Gs L s3=s3:=by rw [Gs,if_neg];rintro ⟨e,_⟩;exact fU e
      have x2:Gt s3=s3:=by rw [Gt,if_neg fU]
      simp only [go_sem,je,fU]
      rw [x1,x2]
      exact ⟨r3.last,by omega⟩
  ·rw [if_neg cZ] at he
   simp only [go_sem,cZ,g1]
   have acT:∀{H5:ad},H5=H1.ai rb ⟨[.slice (some ⟨bL,oL,none⟩) L.length cL,iV (st.at_:Nat),.slice none 0 0,.bool true,iV st.depth,iV 2,vP],121,false,false⟩->FV L F H q rb m {st with bad:=2} p (H5.af H.fz):=fun e=>by
    rw [e];exact (r1.set xt {st with bad:=2} eB dZ).last
   by_cases k2:(tk L st).kind=2
   ·by_cases n0:(tk L st).n=0
    ·rw [if_pos ⟨k2,.inl n0⟩] at he
     cases he
     have iO:(tk L st).kind≠4:=by omega
     have r2:=r1.set xt (aC st) (oK hL eB iO) (by show p.length<=st.at_+1;omega)
     have g2:(H1.ai rb ⟨[.slice (some ⟨bL,oL,none⟩) L.length cL,iV (((aC st).at_:Nat):Int),.slice none 0 0,.bool true,iV (aC st).depth,iV (aC st).bad,vP],121,false,false⟩).get H.next=some ⟨iC (tk L st),72,false,false⟩:=by rw [aH,if_neg ij];exact g1
     have fP:IntKind.wrap .i64 (1+0)=1+0:=by decide
     simp only [go_sem,k2,n0,g1,xt,ij,hz,db,fP,aan]
     refine ag.by (F5 hL r2.pq (by show p.length < st.at_+1;omega) (n:=⟨1+0,0,0,0,[]⟩)) ?_
     rintro _ H5 - ⟨rfl,p5⟩
     obtain ⟨m5,r5⟩:=r2.call p5
     simp only [go_sem,n0]
     exact ⟨r5.last,by rw [List.length_append,List.length_singleton];show st.at_+(p.length+1)<=st.at_+1+p.length;omega⟩
    by_cases C1:(tk L st).n=1
    ·rw [if_pos ⟨k2,.inr C1⟩] at he
     cases he
     have iO:(tk L st).kind≠4:=by omega
     have r2:=r1.set xt (aC st) (oK hL eB iO) (by show p.length<=st.at_+1;omega)
     have g2:(H1.ai rb ⟨[.slice (some ⟨bL,oL,none⟩) L.length cL,iV (((aC st).at_:Nat):Int),.slice none 0 0,.bool true,iV (aC st).depth,iV (aC st).bad,vP],121,false,false⟩).get H.next=some ⟨iC (tk L st),72,false,false⟩:=by rw [aH,if_neg ij];exact g1
     have fP:IntKind.wrap .i64 (1+1)=1+1:=by decide
     simp only [go_sem,k2,C1,g1,xt,ij,hz,db,fP,aan]
     refine ag.by (F5 hL r2.pq (by show p.length < st.at_+1;omega) (n:=⟨1+1,0,0,0,[]⟩)) ?_
     rintro _ H5 - ⟨rfl,p5⟩
     obtain ⟨m5,r5⟩:=r2.call p5
     simp only [go_sem,C1]
     exact ⟨r5.last,by rw [List.length_append,List.length_singleton];show st.at_+(p.length+1)<=st.at_+1+p.length;omega⟩
    have k1:¬(tk L st).kind=1:=by omega
    rw [if_neg (by rintro ⟨_,e | e⟩;exact n0 e;exact C1 e),if_neg (by rintro ⟨e,_⟩;exact k1 e)] at he
    cases he
    have k1':¬(2:Int)=1:=by decide
    simp only [go_sem,k2,n0,C1,g1,k1',xt,hz]
    exact acT rfl
   rw [if_neg (by rintro ⟨e,_⟩;exact k2 e)] at he
   by_cases k1:(tk L st).kind=1
   ·have oA:¬(1:Int)=2:=by decide
    simp only [go_sem,k1,oA,g1]
    refine ag.by (ald (abv hL)) ?_
    rintro _ H3 - ⟨rfl,o3,z3⟩
    have r3:=r1.au o3 (fun c _=>z3 c)
    have g3:H3.get H.next=some ⟨iC (tk L st),72,false,false⟩:=by rw [o3.get _ n1];exact g1
    have g3r:H3.get rb=some ⟨[.slice (some ⟨bL,oL,none⟩) L.length cL,iV (st.at_:Nat),.slice none 0 0,.bool true,iV st.depth,iV st.bad,vP],121,false,false⟩:=by rw [o3.get _ r1.pq.rl];exact xt
    by_cases cQ:FU (tk L st).text=true
    ·rw [if_pos ⟨k1,cQ⟩] at he
     have G3:=Option.some.inj he
     simp only [go_sem,cQ,g3]
     have iO:(tk L st).kind≠4:=by omega
     have qW:=anQ hL r3.pq iO (t:=tk L st)
     rw [show (iC (tk L st)).toArray=#[iV (tk L st).kind,iV (tk L st).n,iV (tk L st).line,iV (tk L st).az,ah (tk L st).text] from rfl] at qW
     rw [G3] at qW
     refine ag.by qW ?_
     rintro _ H5 - ⟨rfl,p5,wa⟩
     obtain ⟨m5,r5⟩:=r3.call p5
     simp only [go_sem]
     exact ⟨r5.last,wa⟩
    ·rw [if_neg (by rintro ⟨_,e⟩;exact cQ e)] at he
     cases he
     simp only [go_sem,cQ,g3r,hz]
     exact (r3.set g3r {st with bad:=2} eB dZ).last
   ·rw [if_neg (by rintro ⟨e,_⟩;exact k1 e)] at he
    cases he
    simp only [go_sem,k2,k1,g1,xt,hz]
    exact acT rfl
 ·rw [JH,if_pos hb] at he
  cases he
  simp only [go_sem,hr,hb]
  exact (PR.start h).last
theorem aaU (hL:LG L) {sm:Bool->aV->List PN->wT} (hs:PW L F q rb 156 sm):PW L F q rb 175 (yS L sm):=by
 intro H st p m star v bW p' h he
 refine aj.told ?_
 refine ak3 (Nat.le_refl _) fun hf=>?_
 simp only [Tryz.f175,Option.getD_some]
 have hz:=h.fz
 have fK:=hL.len
 have eB:=h.at_
 have dZ:=h.pl
 have db:IntKind.wrap .i64 (((st.at_:Nat):Int)+1)=((st.at_+1:Nat):Int):=cG eB (by omega)
 obtain ⟨c1,c2,c3,c4,bL,oL,cL,BL,vP,hq,hr,hg,hB,hl,er,h0,h4,dd,cb,eO⟩:=h.toPQ0.fM
 by_cases hb:st.bad=0
 ·simp only [go_sem,hr,hb]
  refine ag.by (oM h.pp) ?_
  rintro _ _ - ⟨rfl,rfl⟩
  by_cases cZ:el L [42] st=true
  ·rw [yS,if_neg (by rintro (e | e);exact e hb;rw [cZ] at e;cases e)] at he
   cases star
   ·rw [if_neg (by decide)] at he
    have r2:=(PR.start h).set hr (aC st) (oK hL eB (xV cZ)) (by show p.length<=st.at_+1;omega)
    simp only [go_sem,cZ,hr,hz,db]
    cases VB:JH L sm true (aC st) p with
    | none=>rw [VB] at he;cases he
    | some x=>
     obtain ⟨v3,s3,p3⟩:=x
     rw [VB] at he
     cases he
     refine ag.by (UF hL hs r2.pq VB) ?_
     rintro _ H3 - ⟨rfl,q3,wa⟩
     obtain ⟨m3,r3⟩:=r2.call q3
     have apk:st.at_+1+p3.length<=s3.at_+p.length:=wa
     simp only [go_sem,aaT]
     refine ag.by (F5 hL r3.pq (by omega) (n:=⟨6,v3,0,0,[]⟩)) ?_
     rintro _ H5 - ⟨rfl,p5⟩
     obtain ⟨m5,r5⟩:=r3.call p5
     simp only [go_sem]
     exact ⟨r5.last,by rw [List.length_append,List.length_singleton];omega⟩
   ·rw [if_pos rfl] at he
    cases he
    simp only [go_sem,cZ,hr,hz]
    exact ((PR.start h).set hr {st with bad:=2} eB dZ).last
  ·have apr:el L [42] st=false:=by simpa using cZ
   rw [yS,if_pos (.inr apr)] at he
   simp only [go_sem,cZ]
   refine ag.by (UF hL hs h he) ?_
   rintro _ H3 - ⟨rfl,q3,wa⟩
   obtain ⟨m3,r3⟩:=(PR.start h).call q3
   simp only [go_sem]
   exact ⟨r3.last,wa⟩
 ·rw [yS,if_pos (.inl hb)] at he
  simp only [go_sem,hr,hb]
  refine ag.by (UF hL hs h he) ?_
  rintro _ H3 - ⟨rfl,q3,wa⟩
  obtain ⟨m3,r3⟩:=(PR.start h).call q3
  simp only [go_sem]
  exact ⟨r3.last,wa⟩
theorem acU (hL:LG L) {sm:Bool->aV->List PN->wT} (hs:PW L F q rb 156 sm) {n:Nat}:PW L F q rb 170 (Bb L sm n):=by
 intro H st p m star v bW p' h he
 refine aj.told ?_
 refine akT (Nat.le_refl _) fun hf=>?_
 simp only [Tryz.f170,Option.getD_some]
 have hz:=h.fz
 have fK:=hL.len
 simp only [go_sem]
 cases Hl:yS L sm star st p with
 | none=>rw [Bb,Hl] at he;cases he
 | some x=>
  obtain ⟨v3,s3,p3⟩:=x
  rw [Bb,Hl] at he
  replace he:yW L (yS L sm star) [46] 5 n v3 s3 p3=some (v,bW,p'):=he
  refine ag.by (aaU hL hs h Hl) ?_
  rintro _ H3 - ⟨rfl,q3,wa⟩
  obtain ⟨m3,r3⟩:=(PR.start h).call q3
  simp only [go_sem]
  refine qA 17179868256 (fun k V H2=>∃a s2 p2 m2,V 5=iV a/\PR L F H q rb m H2 s2 p2 m2/\st.at_+p2.length<=s2.at_+p.length/\yW L (yS L sm star) [46] 5 k a s2 p2=some (v,bW,p')) (n:=n)
   ⟨v3,s3,p3,m3,by simp only [go_sem] <;> rfl,r3,wa,he⟩ ?_ (by rfl)
  rintro k V H2 ⟨a,s2,p2,m2,e5,r2,g2,ls⟩
  cases k with
  | zero=>cases ls
  | succ k=>
   rw [yW] at ls
   have M2:=r2.pq.at_
   have aps:=r2.pq.pl
   have M0:IntKind.wrap .i64 (((s2.at_:Nat):Int)+1)=((s2.at_+1:Nat):Int):=cG M2 (by omega)
   obtain ⟨c1,c2,c3,c4,bL,oL,cL,BL,vP,hq,hr,hg,hB,hl,er,h0,h4,dd,cb,eO⟩:=r2.pq.toPQ0.fM
   by_cases hb:s2.bad=0
   ·simp only [go_sem,hr,hb]
    refine ag.by (oM r2.pq.pp) ?_
    rintro _ _ - ⟨rfl,rfl⟩
    by_cases jf:el L [46] s2=true
    ·rw [if_pos ⟨hb,jf⟩] at ls
     have r4:=r2.set hr (aC s2) (oK hL M2 (xV jf)) (by show p2.length<=s2.at_+1;omega)
     simp only [go_sem,jf,hr,hz,M0]
     cases pH:yS L sm star (aC s2) p2 with
     | none=>rw [pH] at ls;cases ls
     | some x=>
      obtain ⟨v5,s5,p5⟩:=x
      rw [pH] at ls
      replace ls:yW L (yS L sm star) [46] 5 k (p5.length:Nat) s5 (p5++[⟨5,a,v5,0,[]⟩])=some (v,bW,p'):=ls
      refine ag.by (aaU hL hs r4.pq pH) ?_
      rintro _ H5 - ⟨rfl,q5,VC⟩
      obtain ⟨m5,r5⟩:=r4.call q5
      have anS:s2.at_+1+p5.length<=s5.at_+p2.length:=VC
      simp only [go_sem,e5,aam]
      refine ag.by (F5 hL r5.pq (by omega) (n:=⟨5,a,v5,0,[]⟩)) ?_
      rintro _ H6 - ⟨rfl,q6⟩
      obtain ⟨m6,r6⟩:=r5.call q6
      simp only [go_sem]
      exact ⟨k,by omega,_,s5,_,m6,rfl,r6,by rw [List.length_append,List.length_singleton];omega,ls⟩
    ·rw [if_neg (by rintro ⟨_,e⟩;exact jf e)] at ls
     cases ls
     simp only [go_sem,jf,e5]
     exact ⟨r2.last,g2⟩
   ·rw [if_neg (by rintro ⟨e,_⟩;exact hb e)] at ls
    cases ls
    simp only [go_sem,hr,hb,e5]
    exact ⟨r2.last,g2⟩
theorem anT (hL:LG L) (n:Nat):PW L F q rb 156 (x9 L n):=by
 induction n with
 | zero=>intro H st p m star v bW p' h he;cases he
 | succ n hs=>
  intro H st p m star v bW p' h he
  refine aj.told ?_
  refine aks (Nat.le_refl _) fun hf=>?_
  simp only [Tryz.f156,Option.getD_some]
  have hz:=h.fz
  have fK:=hL.len
  simp only [go_sem]
  cases Hl:Bb L (x9 L n) n star st p with
  | none=>rw [x9,Hl] at he;cases he
  | some x=>
   obtain ⟨v3,s3,p3⟩:=x
   rw [x9,Hl] at he
   replace he:yW L (Bb L (x9 L n) n star) [43] 4 n v3 s3 p3=some (v,bW,p'):=he
   refine ag.by (acU hL hs h Hl) ?_
   rintro _ H3 - ⟨rfl,q3,wa⟩
   obtain ⟨m3,r3⟩:=(PR.start h).call q3
   simp only [go_sem]
   refine qA 17179868256 (fun k V H2=>∃a s2 p2 m2,V 5=iV a/\PR L F H q rb m H2 s2 p2 m2/\st.at_+p2.length<=s2.at_+p.length/\yW L (Bb L (x9 L n) n star) [43] 4 k a s2 p2=some (v,bW,p')) (n:=n)
    ⟨v3,s3,p3,m3,by simp only [go_sem] <;> rfl,r3,wa,he⟩ ?_ (by rfl)
   rintro k V H2 ⟨a,s2,p2,m2,e5,r2,g2,ls⟩
   cases k with
   | zero=>cases ls
   | succ k=>
    rw [yW] at ls
    have M2:=r2.pq.at_
    have aps:=r2.pq.pl
    have M0:IntKind.wrap .i64 (((s2.at_:Nat):Int)+1)=((s2.at_+1:Nat):Int):=cG M2 (by omega)
    obtain ⟨c1,c2,c3,c4,bL,oL,cL,BL,vP,hq,hr,hg,hB,hl,er,h0,h4,dd,cb,eO⟩:=r2.pq.toPQ0.fM
    by_cases hb:s2.bad=0
    ·simp only [go_sem,hr,hb]
     refine ag.by (oM r2.pq.pp) ?_
     rintro _ _ - ⟨rfl,rfl⟩
     by_cases jf:el L [43] s2=true
     ·rw [if_pos ⟨hb,jf⟩] at ls
      have r4:=r2.set hr (aC s2) (oK hL M2 (xV jf)) (by show p2.length<=s2.at_+1;omega)
      simp only [go_sem,jf,hr,hz,M0]
      cases pH:Bb L (x9 L n) n star (aC s2) p2 with
      | none=>rw [pH] at ls;cases ls
      | some x=>
       obtain ⟨v5,s5,p5⟩:=x
       rw [pH] at ls
       replace ls:yW L (Bb L (x9 L n) n star) [43] 4 k (p5.length:Nat) s5 (p5++[⟨4,a,v5,0,[]⟩])=some (v,bW,p'):=ls
       refine ag.by (acU hL hs r4.pq pH) ?_
       rintro _ H5 - ⟨rfl,q5,VC⟩
       obtain ⟨m5,r5⟩:=r4.call q5
       have anS:s2.at_+1+p5.length<=s5.at_+p2.length:=VC
       simp only [go_sem,e5,aam]
       refine ag.by (F5 hL r5.pq (by omega) (n:=⟨4,a,v5,0,[]⟩)) ?_
       rintro _ H6 - ⟨rfl,q6⟩
       obtain ⟨m6,r6⟩:=r5.call q6
       simp only [go_sem]
       exact ⟨k,by omega,_,s5,_,m6,rfl,r6,by rw [List.length_append,List.length_singleton];omega,ls⟩
     ·rw [if_neg (by rintro ⟨_,e⟩;exact jf e)] at ls
      cases ls
      simp only [go_sem,jf,e5]
      exact ⟨r2.last,g2⟩
    ·rw [if_neg (by rintro ⟨e,_⟩;exact hb e)] at ls
     cases ls
     simp only [go_sem,hr,hb,e5]
     exact ⟨r2.last,g2⟩
end
section
variable {L:List bJ} {F:List Nat} {H H1 H2:ad} {q rb:Nat} {st bu bH:aV}
def CC (L:List bJ) (fuel:Nat) (st:aV):Option (List PN × aV):=
 if dj st=true then (x9 L fuel false st []).map fun x=>(x.2.2,if dj x.2.1=true/\24 < x.2.2.length then fD 3 {x.2.1 with at_:=st.at_} else x.2.1) else some ([],st)
theorem PP.pq (h:PP L F H q rb st) (hf:bY H) {vL vP:Value} (hr:H.get rb=some ⟨[vL,iV (st.at_:Nat),.slice none 0 0,.bool true,iV st.depth,iV st.bad,vP],121,false,false⟩):PQ L F (H.ai rb ⟨[vL,iV (st.at_:Nat),.slice none 0 0,.bool true,iV st.depth,iV st.bad,.slice none 0 0],121,false,false⟩) q rb st [] []:=by
 obtain ⟨⟨⟨c1,c2,c3,c4,nI⟩,⟨vL',a,n,c,iU,hs⟩,hF,h3,h4,h5,h6⟩,hz⟩:=h
 rw [hr] at iU
 cases iU
 exact ⟨⟨⟨c1,c2,c3,c4,by rw [aH,if_neg h3];exact nI⟩,⟨vL,_,by rw [aH,if_pos rfl],hs.ae fun b hb=>by rw [aH,if_neg (hF b hb).2.1],Gr.nil _ _ _⟩,hF,by simp,h3,h4,h5,h6,Nat.zero_le _⟩,hz,by simp,fun b hb=>hf.fresh hb⟩
theorem QL (hL:LG L) (h:PP L F H q rb st) {fuel:Nat} {p:List PN} {bW:aV} (he:CC L fuel st=some (p,bW)):aj Tryz.prog 127 #[pV q] H (fun w H'=>(∃g,Sl gU H' w p g/\im H H' g)/\gW L F H q rb bW H'):=by
 refine aj.told ?_
 refine ajD (Nat.le_refl _) fun hf=>?_
 simp only [Tryz.f127,Option.getD_some]
 simp only [go_sem]
 have hz:=h.fz
 have eB:=h.at_
 obtain ⟨c1,c2,c3,c4,bL,oL,cL,BL,a,n,c,hq,hr,hB,hl,er,h0,h4,dd,cb,eO⟩:=h.fM
 refine ag.by (fA h) ?_
 rintro _ _ - ⟨rfl,rfl⟩
 by_cases hb:dj st=true
 ·rw [CC,if_pos hb] at he
  have Aa:=h.qr
  have r1:=PR.start (h.pq hf hr)
  simp only [go_sem,hb,hq,hr,Aa,hz]
  have fr1:Fr [rb] H (H.ai rb ⟨[.slice (some ⟨bL,oL,none⟩) L.length cL,iV (st.at_:Nat),.slice none 0 0,.bool true,iV st.depth,iV st.bad,.slice none 0 0],121,false,false⟩):=(Fr.refl _ _).ai (.inl (by simp)) _
  have n1:(H.ai rb ⟨[.slice (some ⟨bL,oL,none⟩) L.length cL,iV (st.at_:Nat),.slice none 0 0,.bool true,iV st.depth,iV st.bad,.slice none 0 0],121,false,false⟩).next=H.next:=rfl
  generalize (H.ai rb ⟨[.slice (some ⟨bL,oL,none⟩) L.length cL,iV (st.at_:Nat),.slice none 0 0,.bool true,iV st.depth,iV st.bad,.slice none 0 0],121,false,false⟩)=H1 at r1 fr1 n1
  cases yz:x9 L fuel false st [] with
  | none=>rw [yz] at he;cases he
  | some x=>
   obtain ⟨v3,s3,p3⟩:=x
   rw [yz] at he
   refine ag.by (anT hL fuel r1.pq yz) ?_
   rintro _ H3 - ⟨rfl,q3,wa⟩
   obtain ⟨m3,r3⟩:=r1.call q3
   obtain ⟨e1,e2,e3,e4,XH,XI,XJ,BL3,N8,wb,je,pC,qV,N9,anR,h03,h43,apl,apm,apn⟩:=r3.pq.toPQ0.fM
   obtain ⟨aP,KD⟩:=pC.val
   have Sk:∀b∈m3,H.next<=b:=fun b hb=>by
    rcases r3.sub b hb with e | e
    ·cases e
    ·omega
   have f13:Fr [rb] H H3:=fr1.then r3.fr
   simp only [go_sem,wb,je]
   refine ag.by (fA r3.pq.pp) ?_
   rintro _ _ - ⟨rfl,rfl⟩
   have ea:∀{H':ad},Fr [rb] H3 H'->Sl gU H' (.slice aP p3.length p3.length) p3 m3:=fun f=>by
    have:=pC.sl
    rw [List.append_nil,KD] at this
    exact this.ae fun b hb=>f.get b (r3.pq.hm b hb).1 (by simpa using (r3.pq.hm b hb).2.1)
   have i4:∀{H':ad},Fr [rb] H3 H'->im H (H'.af H.fz) m3:=fun f b hb=>⟨Sk b hb,Nat.lt_of_lt_of_le (r3.pq.hm b hb).1 f.nx⟩
   by_cases fU:dj s3=true
   ·by_cases Xt:24 < p3.length
    ·have VD:(24:Int) < ((p3.length:Nat):Int):=by omega
     have lJ:fD 3 {s3 with at_:=st.at_}=bW/\p3=p:=by
      simp only [Option.map_some,fU,Xt,and_self,if_true] at he
      cases he;exact ⟨rfl,rfl⟩
     obtain ⟨rfl,rfl⟩:=lJ
     have r4:=r3.pq.pp.toPP0.set je {s3 with at_:=st.at_} eB
     simp only [go_sem,fU,KD,VD,wb,je,hz]
     rw [KD] at r4 je
     have f4:Fr [rb] H3 (H3.ai rb ⟨[.slice (some ⟨XH,XI,none⟩) L.length XJ,iV (st.at_:Nat),.slice none 0 0,.bool true,iV s3.depth,iV s3.bad,.slice aP p3.length p3.length],121,false,false⟩):=(Fr.refl _ _).ai (.inl (by simp)) _
     have oq:PP L F (H3.ai rb ⟨[.slice (some ⟨XH,XI,none⟩) L.length XJ,iV (st.at_:Nat),.slice none 0 0,.bool true,iV s3.depth,iV s3.bad,.slice aP p3.length p3.length],121,false,false⟩) q rb {s3 with at_:=st.at_}:={r4 with fz:=r3.pq.fz}
     refine ag.by (lU oq) ?_
     rintro _ H5 - p5
     simp only [go_sem,KD]
     exact ⟨⟨m3,(ea (f4.then p5.1)).ae fun _ _=>rfl,i4 (f4.then p5.1)⟩,.last ((f13.then f4).then p5.1) p5.2.2⟩
    ·have VD:¬(24:Int) < ((p3.length:Nat):Int):=by omega
     have lJ:s3=bW/\p3=p:=by
      simp only [Option.map_some,fU,Xt,and_false,if_false] at he
      cases he;exact ⟨rfl,rfl⟩
     obtain ⟨rfl,rfl⟩:=lJ
     simp only [go_sem,fU,KD,VD]
     exact ⟨⟨m3,(ea (.refl _ _)).ae fun _ _=>rfl,i4 (.refl _ _)⟩,.last f13 r3.pq.pp.toPP0⟩
   ·have lJ:s3=bW/\p3=p:=by
     simp only [Option.map_some,fU,false_and,if_false] at he
     cases he;exact ⟨rfl,rfl⟩
    obtain ⟨rfl,rfl⟩:=lJ
    simp only [go_sem,fU,KD]
    exact ⟨⟨m3,(ea (.refl _ _)).ae fun _ _=>rfl,i4 (.refl _ _)⟩,.last f13 r3.pq.pp.toPP0⟩
 ·rw [CC,if_neg hb] at he
  cases he
  simp only [go_sem,hb]
  exact ⟨⟨[],.inl ⟨rfl,rfl,rfl⟩,by simp [im]⟩,.last (.refl _ _) h.toPP0⟩
def AU (L:List bJ) (fuel:Nat) (st:aV):Option (Ty × aV):=
 if dj st=true then
  (if cW L [105,110,116] st=true then some (⟨1,0,0,[],[]⟩,aC st)
  else if 0 < mE L st then
   (if cW L [97,114,114] (aC st)=true then some (⟨2,mE L st, -1,[97,114,114],[]⟩,aC (aC st))
   else some (⟨2,mE L st,0,(cF L (aC st)).1,[]⟩,(cF L (aC st)).2))
  else if el L [33] st=true∨el L [63] st=true then
   (CC L fuel (dO L [40] (aC st))).map fun x=>(⟨if el L [63] st=true then 4 else 3,0,0,[],x.1⟩,dO L [41] x.2)
  else some (⟨0,0,0,[],[]⟩,fD 2 st))
 else some (⟨0,0,0,[],[]⟩,st)
theorem aao {h:KH}:iA Tryz.prog 102 [] h=.ok (.agg #[iV 0,iV 0,iV 0,ah [],.slice none 0 0]) h:=by kernel_rfl
theorem T4 {k:Int} {h:KH}:iA Tryz.prog 102 [(0,iV k)] h=.ok (.agg #[iV k,iV 0,iV 0,ah [],.slice none 0 0]) h:=by kernel_rfl
theorem aga {k c r:Int} {s:bC} {h:KH}:iA Tryz.prog 102 [(0,iV k),(1,iV c),(2,iV r),(3,ah s)] h=.ok (.agg #[iV k,iV c,iV r,ah s,.slice none 0 0]) h:=by kernel_rfl
theorem agb {k c:Int} {s:bC} {h:KH}:iA Tryz.prog 102 [(0,iV k),(1,iV c),(3,ah s)] h=.ok (.agg #[iV k,iV c,iV 0,ah s,.slice none 0 0]) h:=by kernel_rfl
def TyV (H H':ad) (w:Value) (t:Ty):Prop:=∃vp g,w=.agg #[iV t.kind,iV t.cap,iV t.rc,ah t.name,vp]/\Sl gU H' vp t.pat g/\im H H' g
theorem adW (hL:LG L) (h:PP L F H q rb st) {fuel:Nat} {t:Ty} {bW:aV} (he:AU L fuel st=some (t,bW)):aj Tryz.prog 124 #[pV q] H (fun w H'=>TyV H H' w t/\gW L F H q rb bW H'):=by
 refine aj.told ?_
 refine ajx (Nat.le_refl _) fun hf=>?_
 simp only [Tryz.f124,Option.getD_some]
 simp only [go_sem]
 obtain ⟨fq,fr,fF⟩:=h.toPP0.fresh (Nat.le_refl H.next)
 have uv:H.fz H.next=false:=hf.fresh (Nat.le_refl _)
 have ma:=h.push ⟨[iV 0,iV 0,iV 0,ah [],.slice none 0 0],102,false,false⟩
 have Bq:Fr [rb] H (H.push ⟨[iV 0,iV 0,iV 0,ah [],.slice none 0 0],102,false,false⟩):=(aG.push H _).fr _
 have gA:(H.push ⟨[iV 0,iV 0,iV 0,ah [],.slice none 0 0],102,false,false⟩).get H.next=some ⟨[iV 0,iV 0,iV 0,ah [],.slice none 0 0],102,false,false⟩:=by rw [aZ,if_pos rfl]
 have nA:H.next < (H.push ⟨[iV 0,iV 0,iV 0,ah [],.slice none 0 0],102,false,false⟩).next:=Nat.lt_succ_self _
 generalize (H.push ⟨[iV 0,iV 0,iV 0,ah [],.slice none 0 0],102,false,false⟩)=Ha at ma Bq gA nA
 have hz:=h.fz
 have fK:=hL.len
 have eB:=h.at_
 have db:IntKind.wrap .i64 (((st.at_:Nat):Int)+1)=((st.at_+1:Nat):Int):=cG eB (by omega)
 have fin:∀{H5:ad} {bW:aV},Fr [rb] Ha H5->PP0 L F H5 q rb bW->∀B:cO,B.ro=false->gW L F H q rb bW ((H5.ai H.next B).af H.fz):=fun f5 p5 B hB=>.last ((Bq.then f5).ai (.inr (Nat.le_refl _)) B hB) (p5.put B fq fr fF)
 have yw:∀{H5:ad},Fr [rb] Ha H5->H5.get H.next=some ⟨[iV 0,iV 0,iV 0,ah [],.slice none 0 0],102,false,false⟩:=fun f5=>by rw [f5.get _ nA (by simpa using fr)];exact gA
 have fl:∀{H5:ad} {k c r:Int} {s:bC},TyV H H5 (.agg #[iV k,iV c,iV r,ah s,.slice none 0 0]) ⟨k,c,r,s,[]⟩:=fun {H5 k c r s}=>⟨_,[],rfl,.inl ⟨rfl,rfl,rfl⟩,by simp [im]⟩
 refine ag.by (fA ma) ?_
 rintro _ _ - ⟨rfl,rfl⟩
 by_cases hb:dj st=true
 ·rw [AU,if_pos hb] at he
  simp only [go_sem,hb]
  refine ag.by (QK ma) ?_
  rintro _ H1 - ⟨rfl,p1⟩
  have h1:=ma.post p1
  have f1:=p1.1
  simp only [go_sem]
  refine ag.by (gH h1) ?_
  rintro _ H2 - ⟨rfl,p2⟩
  have h2:=h1.post p2
  have f2:=f1.then p2.1
  obtain ⟨c1,c2,c3,c4,bL,oL,cL,BL,a,n,c,hq,hr,hB,hl,er,h0,h4,dd,cb,eO⟩:=h2.fM
  have XB:=yw f2
  have Se:¬H.next=rb:=fr
  have i5:∀{s1:aV} {H2:ad} {bL oL cL a n c},PP L F H2 q rb s1->(tk L s1).kind≠4->H2.get rb=some ⟨[.slice (some ⟨bL,oL,none⟩) L.length cL,iV (s1.at_:Nat),.slice none 0 0,.bool true,iV s1.depth,iV s1.bad,.slice a n c],121,false,false⟩->PP L F (H2.ai rb ⟨[.slice (some ⟨bL,oL,none⟩) L.length cL,iV ((s1.at_+1:Nat):Int),.slice none 0 0,.bool true,iV s1.depth,iV s1.bad,.slice a n c],121,false,false⟩) q rb (aC s1):=fun {s1} {H2} {bL oL cL a n c} h hk hr=>{h.toPP0.set hr (aC s1) (oK hL h.at_ hk) with fz:=h.fz}
  by_cases hi:cW L [105,110,116] st=true
  ·rw [if_pos hi] at he
   cases he
   have hp:=i5 h2 (jT hi) hr
   have fp:=(f2.ai (.inl (by simp:rb∈[rb])) ⟨[.slice (some ⟨bL,oL,none⟩) L.length cL,iV ((st.at_+1:Nat):Int),.slice none 0 0,.bool true,iV st.depth,iV st.bad,.slice a n c],121,false,false⟩)
   simp only [go_sem,hi,hq,hr,hz,db,Se,XB,uv,T4]
   exact ⟨fl,fin fp hp.toPP0 _ rfl⟩
  rw [if_neg hi] at he
  by_cases hc:0 < mE L st
  ·rw [if_pos hc] at he
   have iO:(tk L st).kind≠4:=by
    have N4:∀(l:List bC) (k:Int),Ed L st k l≠0->(tk L st).kind≠4:=by
     intro l
     induction l with
     | nil=>intro k h;exact absurd rfl h
     | cons s l ih=>
      intro k h
      rw [Ed] at h
      split at h
      ·rename_i hw;exact jT hw
      ·exact ih _ h
    exact N4 vc 1 (by show mE L st≠0;omega)
   have hp:=i5 h2 iO hr
   have fp:=(f2.ai (.inl (by simp:rb∈[rb])) ⟨[.slice (some ⟨bL,oL,none⟩) L.length cL,iV ((st.at_+1:Nat):Int),.slice none 0 0,.bool true,iV st.depth,iV st.bad,.slice a n c],121,false,false⟩)
   simp only [go_sem,hi,hc,hq,hr,hz,db]
   generalize (H2.ai rb ⟨[.slice (some ⟨bL,oL,none⟩) L.length cL,iV ((st.at_+1:Nat):Int),.slice none 0 0,.bool true,iV st.depth,iV st.bad,.slice a n c],121,false,false⟩)=H3 at hp fp
   refine ag.by (gH hp) ?_
   rintro _ H4 - ⟨rfl,p4⟩
   have h4:=hp.post p4
   have f4:=fp.then p4.1
   obtain ⟨d1,d2,d3,d4,bL,oL,cL,BL,a,n,c,hq4,hJ,qn,hl4,Mt,h04,h44,aph,adU,api⟩:=h4.fM
   have apt:IntKind.wrap .i64 (((st.at_+1:Nat):Int)+1)=((st.at_+1+1:Nat):Int):=by
    have:=h4.at_
    exact cG (n:=L.length) this (by omega)
   have apu:H4.get rb=some ⟨[.slice (some ⟨bL,oL,none⟩) L.length cL,iV ((st.at_+1:Nat):Int),.slice none 0 0,.bool true,iV st.depth,iV st.bad,.slice a n c],121,false,false⟩:=hJ
   by_cases ha:cW L [97,114,114] (aC st)=true
   ·rw [if_pos ha] at he
    cases he
    have yx:=yw f4
    have C2:=i5 h4 (jT ha) hJ
    have fp5:=(f4.ai (.inl (by simp:rb∈[rb])) ⟨[.slice (some ⟨bL,oL,none⟩) L.length cL,iV ((st.at_+1+1:Nat):Int),.slice none 0 0,.bool true,iV st.depth,iV st.bad,.slice a n c],121,false,false⟩)
    simp only [go_sem,ha,hq4,apu,hz,apt,Se,yx,uv,aga]
    exact ⟨fl,fin fp5 C2.toPP0 _ rfl⟩
   ·rw [if_neg ha] at he
    cases he
    simp only [go_sem,ha]
    refine ag.by (jS hL h4) ?_
    rintro _ H5 - ⟨rfl,p5⟩
    have yx:=yw (f4.then p5.1)
    simp only [go_sem,yx,uv,agb]
    exact ⟨fl,fin (f4.then p5.1) p5.2.2 _ rfl⟩
  rw [if_neg hc] at he
  simp only [go_sem,hi,hc,hq]
  refine ag.by (oM h2) ?_
  rintro _ _ - ⟨rfl,rfl⟩
  by_cases hs:el L [33] st=true∨el L [63] st=true
  ·rw [if_pos hs] at he
   have iO:(tk L st).kind≠4:=by rcases hs with e | e <;> exact xV e
   cases wU:CC L fuel (dO L [40] (aC st)) with
   | none=>rw [wU] at he;cases he
   | some x=>
    obtain ⟨pp,s5⟩:=x
    rw [wU] at he
    cases he
    by_cases w8:el L [63] st=true
    ·have Oa:¬el L [33] st=true:=fun e=>by
      simp only [el,Bool.and_eq_true,decide_eq_true_eq] at e w8
      have:=e.2.symm.trans w8.2
      cases this
     simp only [go_sem,Oa,hq]
     refine ag.by (oM h2) ?_
     rintro _ _ - ⟨rfl,rfl⟩
     have VE:=h2.push ⟨[iV 3,iV 0,iV 0,ah [],.slice none 0 0],102,false,false⟩
     have hqk:(H2.push ⟨[iV 3,iV 0,iV 0,ah [],.slice none 0 0],102,false,false⟩).get q=some ⟨[.pointer (some ⟨rb,0,none⟩),c1,c2,c3,c4],123,false,false⟩:=by rw [bO h2.ql];exact hq
     have VF:H.fz H2.next=false:=hf.fresh (Nat.le_trans Bq.nx f2.nx)
     have Ob:¬q=H2.next:=fun e=>by have:=h2.ql;omega
     simp only [go_sem,w8,T4,VF,hq,Ob]
     refine ag.by (oM VE) ?_
     rintro _ _ - ⟨rfl,rfl⟩
     have dw:H.fz H2.next=false:=hf.fresh (Nat.le_trans Bq.nx f2.nx)
     have nb:H.next≠H2.next:=by have:=f2.nx;omega
     have ij:¬H2.next=rb:=(h2.toPP0.fresh (Nat.le_refl _)).2.1
     have Rc:¬rb=H2.next:=fun e=>ij e.symm
     have yq:=h2.push ⟨[iV 4,iV 0,iV 0,ah [],.slice none 0 0],102,false,false⟩
     have qO:Fr [rb] Ha (H2.push ⟨[iV 4,iV 0,iV 0,ah [],.slice none 0 0],102,false,false⟩):=f2.push _
     have XK:(H2.push ⟨[iV 4,iV 0,iV 0,ah [],.slice none 0 0],102,false,false⟩).get H2.next=some ⟨[iV 4,iV 0,iV 0,ah [],.slice none 0 0],102,false,false⟩:=by rw [aZ,if_pos rfl]
     have XL:H2.next < (H2.push ⟨[iV 4,iV 0,iV 0,ah [],.slice none 0 0],102,false,false⟩).next:=Nat.lt_succ_self _
     have XM:(H2.push ⟨[iV 4,iV 0,iV 0,ah [],.slice none 0 0],102,false,false⟩).get rb=some ⟨[.slice (some ⟨bL,oL,none⟩) L.length cL,iV (st.at_:Nat),.slice none 0 0,.bool true,iV st.depth,iV st.bad,.slice a n c],121,false,false⟩:=by rw [bO h2.rl];exact hr
     have Hm:=i5 yq iO XM
     have f3:=(qO.ai (.inl (by simp:rb∈[rb])) ⟨[.slice (some ⟨bL,oL,none⟩) L.length cL,iV ((st.at_+1:Nat):Int),.slice none 0 0,.bool true,iV st.depth,iV st.bad,.slice a n c],121,false,false⟩)
     have g3:((H2.push ⟨[iV 4,iV 0,iV 0,ah [],.slice none 0 0],102,false,false⟩).ai rb ⟨[.slice (some ⟨bL,oL,none⟩) L.length cL,iV ((st.at_+1:Nat):Int),.slice none 0 0,.bool true,iV st.depth,iV st.bad,.slice a n c],121,false,false⟩).get H2.next=some ⟨[iV 4,iV 0,iV 0,ah [],.slice none 0 0],102,false,false⟩:=by rw [aH,if_neg ij];exact XK
     have n3:H2.next < ((H2.push ⟨[iV 4,iV 0,iV 0,ah [],.slice none 0 0],102,false,false⟩).ai rb ⟨[.slice (some ⟨bL,oL,none⟩) L.length cL,iV ((st.at_+1:Nat):Int),.slice none 0 0,.bool true,iV st.depth,iV st.bad,.slice a n c],121,false,false⟩).next:=XL
     simp only [go_sem,w8,Ob,hq,hr,ij,Rc,hz,db,dw]
     generalize dv:((H2.push ⟨[iV 4,iV 0,iV 0,ah [],.slice none 0 0],102,false,false⟩).ai rb ⟨[.slice (some ⟨bL,oL,none⟩) L.length cL,iV ((st.at_+1:Nat):Int),.slice none 0 0,.bool true,iV st.depth,iV st.bad,.slice a n c],121,false,false⟩)=H3 at Hm f3 g3 n3
     refine ag.by (i3 hL Hm) ?_
     rintro _ H4 - p4
     have h4:=Hm.post p4
     have f4:=f3.then p4.1
     simp only [go_sem]
     refine ag.by (QL hL h4 wU) ?_
     rintro vp H5 - ⟨⟨g,ea,i4⟩,p5⟩
     have h5:=h4.post p5
     have f5:=f4.then p5.1
     have n4:=p4.1.nx
     have n5:=p5.1.nx
     have g5:H5.get H2.next=some ⟨[iV 4,iV 0,iV 0,ah [],.slice none 0 0],102,false,false⟩:=by
      rw [p5.1.get _ (by omega) (by simpa using ij),p4.1.get _ n3 (by simpa using ij)];exact g3
     obtain ⟨XN,iN,XO⟩:=h2.toPP0.fresh (Nat.le_refl H2.next)
     obtain ⟨av,cv,Ag⟩:=ea.val
     subst Ag
     simp only [go_sem,g5,dw]
     have h6:PP L F (H5.ai H2.next ⟨[iV 4,iV 0,iV 0,ah [],.slice av pp.length cv],102,false,false⟩) q rb s5:={h5.toPP0.put _ XN iN XO with fz:=h5.fz}
     have f6:Fr [rb] Ha (H5.ai H2.next ⟨[iV 4,iV 0,iV 0,ah [],.slice av pp.length cv],102,false,false⟩):=f5.ai (.inr f2.nx) _
     have M3:Sl gU (H5.ai H2.next ⟨[iV 4,iV 0,iV 0,ah [],.slice av pp.length cv],102,false,false⟩) (.slice av pp.length cv) pp g:=ea.ae fun b hb=>by rw [aH,if_neg (by have:=(i4 b hb).1;omega)]
     have g6:(H5.ai H2.next ⟨[iV 4,iV 0,iV 0,ah [],.slice av pp.length cv],102,false,false⟩).get H2.next=some ⟨[iV 4,iV 0,iV 0,ah [],.slice av pp.length cv],102,false,false⟩:=by rw [aH,if_pos rfl]
     have n6:(H5.ai H2.next ⟨[iV 4,iV 0,iV 0,ah [],.slice av pp.length cv],102,false,false⟩).next=H5.next:=rfl
     generalize (H5.ai H2.next ⟨[iV 4,iV 0,iV 0,ah [],.slice av pp.length cv],102,false,false⟩)=H6 at h6 f6 M3 g6 n6
     refine ag.by (i3 hL h6) ?_
     rintro _ H7 - p7
     have f7:=f6.then p7.1
     have n7:=p7.1.nx
     have g7:H7.get H2.next=some ⟨[iV 4,iV 0,iV 0,ah [],.slice av pp.length cv],102,false,false⟩:=by rw [p7.1.get _ (by omega) (by simpa using ij)];exact g6
     have XP:=yw f7
     have bk:∀b∈g,b≠rb:=fun b hb e=>by have:=(i4 b hb).1;have:=h4.rl;omega
     simp only [go_sem,g7,XP,uv]
     refine ⟨⟨_,g,by rw [if_pos w8],(M3.ae fun b hb=>?_),fun b hb=>⟨?_,?_⟩⟩,fin f7 p7.2.2 _ rfl⟩
     ·have fB:=(i4 b hb).1
      have eo:=(i4 b hb).2
      have lK:=f2.nx
      show (H7.ai H.next _).get b=_
      rw [aH,if_neg (by omega),p7.1.get b (by omega) (by simpa using bk b hb)]
     ·have fB:=(i4 b hb).1
      have lK:=f2.nx
      omega
     ·have eo:=(i4 b hb).2
      show b < H7.next
      omega
    ·have Oa:el L [33] st=true:=hs.resolve_right w8
     have VE:=h2.push ⟨[iV 3,iV 0,iV 0,ah [],.slice none 0 0],102,false,false⟩
     have hqk:(H2.push ⟨[iV 3,iV 0,iV 0,ah [],.slice none 0 0],102,false,false⟩).get q=some ⟨[.pointer (some ⟨rb,0,none⟩),c1,c2,c3,c4],123,false,false⟩:=by rw [bO h2.ql];exact hq
     have VF:H.fz H2.next=false:=hf.fresh (Nat.le_trans Bq.nx f2.nx)
     have Ob:¬q=H2.next:=fun e=>by have:=h2.ql;omega
     simp only [go_sem,Oa,T4,VF,hq,Ob]
     refine ag.by (oM VE) ?_
     rintro _ _ - ⟨rfl,rfl⟩
     have dw:H.fz H2.next=false:=hf.fresh (Nat.le_trans Bq.nx f2.nx)
     have nb:H.next≠H2.next:=by have:=f2.nx;omega
     have ij:¬H2.next=rb:=(h2.toPP0.fresh (Nat.le_refl _)).2.1
     have Rc:¬rb=H2.next:=fun e=>ij e.symm
     have yq:=h2.push ⟨[iV 3,iV 0,iV 0,ah [],.slice none 0 0],102,false,false⟩
     have qO:Fr [rb] Ha (H2.push ⟨[iV 3,iV 0,iV 0,ah [],.slice none 0 0],102,false,false⟩):=f2.push _
     have XK:(H2.push ⟨[iV 3,iV 0,iV 0,ah [],.slice none 0 0],102,false,false⟩).get H2.next=some ⟨[iV 3,iV 0,iV 0,ah [],.slice none 0 0],102,false,false⟩:=by rw [aZ,if_pos rfl]
     have XL:H2.next < (H2.push ⟨[iV 3,iV 0,iV 0,ah [],.slice none 0 0],102,false,false⟩).next:=Nat.lt_succ_self _
     have XM:(H2.push ⟨[iV 3,iV 0,iV 0,ah [],.slice none 0 0],102,false,false⟩).get rb=some ⟨[.slice (some ⟨bL,oL,none⟩) L.length cL,iV (st.at_:Nat),.slice none 0 0,.bool true,iV st.depth,iV st.bad,.slice a n c],121,false,false⟩:=by rw [bO h2.rl];exact hr
     have Hm:=i5 yq iO XM
     have f3:=(qO.ai (.inl (by simp:rb∈[rb])) ⟨[.slice (some ⟨bL,oL,none⟩) L.length cL,iV ((st.at_+1:Nat):Int),.slice none 0 0,.bool true,iV st.depth,iV st.bad,.slice a n c],121,false,false⟩)
     have g3:((H2.push ⟨[iV 3,iV 0,iV 0,ah [],.slice none 0 0],102,false,false⟩).ai rb ⟨[.slice (some ⟨bL,oL,none⟩) L.length cL,iV ((st.at_+1:Nat):Int),.slice none 0 0,.bool true,iV st.depth,iV st.bad,.slice a n c],121,false,false⟩).get H2.next=some ⟨[iV 3,iV 0,iV 0,ah [],.slice none 0 0],102,false,false⟩:=by rw [aH,if_neg ij];exact XK
     have n3:H2.next < ((H2.push ⟨[iV 3,iV 0,iV 0,ah [],.slice none 0 0],102,false,false⟩).ai rb ⟨[.slice (some ⟨bL,oL,none⟩) L.length cL,iV ((st.at_+1:Nat):Int),.slice none 0 0,.bool true,iV st.depth,iV st.bad,.slice a n c],121,false,false⟩).next:=XL
     simp only [go_sem,w8,Ob,hq,hr,ij,Rc,hz,db,dw]
     generalize dv:((H2.push ⟨[iV 3,iV 0,iV 0,ah [],.slice none 0 0],102,false,false⟩).ai rb ⟨[.slice (some ⟨bL,oL,none⟩) L.length cL,iV ((st.at_+1:Nat):Int),.slice none 0 0,.bool true,iV st.depth,iV st.bad,.slice a n c],121,false,false⟩)=H3 at Hm f3 g3 n3
     refine ag.by (i3 hL Hm) ?_
     rintro _ H4 - p4
     have h4:=Hm.post p4
     have f4:=f3.then p4.1
     simp only [go_sem]
     refine ag.by (QL hL h4 wU) ?_
     rintro vp H5 - ⟨⟨g,ea,i4⟩,p5⟩
     have h5:=h4.post p5
     have f5:=f4.then p5.1
     have n4:=p4.1.nx
     have n5:=p5.1.nx
     have g5:H5.get H2.next=some ⟨[iV 3,iV 0,iV 0,ah [],.slice none 0 0],102,false,false⟩:=by
      rw [p5.1.get _ (by omega) (by simpa using ij),p4.1.get _ n3 (by simpa using ij)];exact g3
     obtain ⟨XN,iN,XO⟩:=h2.toPP0.fresh (Nat.le_refl H2.next)
     obtain ⟨av,cv,Ag⟩:=ea.val
     subst Ag
     simp only [go_sem,g5,dw]
     have h6:PP L F (H5.ai H2.next ⟨[iV 3,iV 0,iV 0,ah [],.slice av pp.length cv],102,false,false⟩) q rb s5:={h5.toPP0.put _ XN iN XO with fz:=h5.fz}
     have f6:Fr [rb] Ha (H5.ai H2.next ⟨[iV 3,iV 0,iV 0,ah [],.slice av pp.length cv],102,false,false⟩):=f5.ai (.inr f2.nx) _
     have M3:Sl gU (H5.ai H2.next ⟨[iV 3,iV 0,iV 0,ah [],.slice av pp.length cv],102,false,false⟩) (.slice av pp.length cv) pp g:=ea.ae fun b hb=>by rw [aH,if_neg (by have:=(i4 b hb).1;omega)]
     have g6:(H5.ai H2.next ⟨[iV 3,iV 0,iV 0,ah [],.slice av pp.length cv],102,false,false⟩).get H2.next=some ⟨[iV 3,iV 0,iV 0,ah [],.slice av pp.length cv],102,false,false⟩:=by rw [aH,if_pos rfl]
     have n6:(H5.ai H2.next ⟨[iV 3,iV 0,iV 0,ah [],.slice av pp.length cv],102,false,false⟩).next=H5.next:=rfl
     generalize (H5.ai H2.next ⟨[iV 3,iV 0,iV 0,ah [],.slice av pp.length cv],102,false,false⟩)=H6 at h6 f6 M3 g6 n6
     refine ag.by (i3 hL h6) ?_
     rintro _ H7 - p7
     have f7:=f6.then p7.1
     have n7:=p7.1.nx
     have g7:H7.get H2.next=some ⟨[iV 3,iV 0,iV 0,ah [],.slice av pp.length cv],102,false,false⟩:=by rw [p7.1.get _ (by omega) (by simpa using ij)];exact g6
     have XP:=yw f7
     have bk:∀b∈g,b≠rb:=fun b hb e=>by have:=(i4 b hb).1;have:=h4.rl;omega
     simp only [go_sem,g7,XP,uv]
     refine ⟨⟨_,g,by rw [if_neg w8],(M3.ae fun b hb=>?_),fun b hb=>⟨?_,?_⟩⟩,fin f7 p7.2.2 _ rfl⟩
     ·have fB:=(i4 b hb).1
      have eo:=(i4 b hb).2
      have lK:=f2.nx
      show (H7.ai H.next _).get b=_
      rw [aH,if_neg (by omega),p7.1.get b (by omega) (by simpa using bk b hb)]
     ·have fB:=(i4 b hb).1
      have lK:=f2.nx
      omega
     ·have eo:=(i4 b hb).2
      show b < H7.next
      omega
  ·rw [if_neg hs] at he
   cases he
   have Oa:¬el L [33] st=true:=fun e=>hs (.inl e)
   have w8:¬el L [63] st=true:=fun e=>hs (.inr e)
   simp only [go_sem,Oa,hq]
   refine ag.by (oM h2) ?_
   rintro _ _ - ⟨rfl,rfl⟩
   simp only [go_sem,w8]
   refine ag.by (lU h2) ?_
   rintro _ H4 - p4
   have yx:=yw (f2.then p4.1)
   simp only [go_sem,yx,uv,aao]
   exact ⟨fl,fin (f2.then p4.1) p4.2.2 _ rfl⟩
 ·rw [AU,if_neg hb] at he
  cases he
  simp only [go_sem,hb,gA,uv,aao]
  exact ⟨fl,fin (.refl _ _) ma.toPP0 _ rfl⟩
end
section
variable {L:List bJ} {F:List Nat} {H H1 H2:ad} {q rb:Nat} {st bu bH:aV}
def Qs (L:List bJ) (fuel:Nat) (st:aV):Option (List Ty × aV):=(oN L 0 (AU L fuel) 7 (dO L [40] st) []).map fun x=>(x.1,dO L [41] x.2)
def Jd (L:List bJ) (fuel:Nat) (st:aV):Option (tn × aV):=(AU L fuel (dO L [58] (cF L st).2)).map fun x=>(⟨(cF L st).1,x.1⟩,x.2)
def I5 (L:List bJ) (fuel:Nat) (st:aV):Option (List tn × aV):=(oN L 1 (Jd L fuel) 7 (dO L [40] st) []).map fun x=>(x.1,dO L [41] x.2)
theorem agc {s:bC} {h:KH}:iA Tryz.prog 104 [(0,ah s)] h=.ok (.agg #[ah s,iV 0,iV 0,iV 0,ah [],.slice none 0 0]) h:=by kernel_rfl
theorem ahT (hL:LG L) (h:PP L F H q rb st) {fuel:Nat} {l':List Ty} {bW:aV} (he:Qs L fuel st=some (l',bW)):aj Tryz.prog 97 #[pV q] H (fun w H'=>(∃g,Sl sb H' w l' g/\im H H' g)/\gW L F H q rb bW H'):=by
 refine aj.told ?_
 refine anI (Nat.le_refl _) fun hf=>?_
 simp only [Tryz.f97,Option.getD_some]
 simp only [go_sem]
 refine ag.by (i3 hL h) ?_
 rintro _ H1 - p1
 have h1:=h.post p1
 rw [Qs] at he
 generalize dO L [40] st=s1 at p1 h1 he
 cases hR:oN L 0 (AU L fuel) 7 s1 [] with
 | none=>rw [hR] at he;cases he
 | some R=>
 rw [hR] at he
 cases he
 have qk:=LQ hR (by simp)
 simp only [go_sem]
 refine qA 32712 (fun n V H2=>∃bH l v m g,V 3=v/\Gr sb 102 H2 v l m g/\im H H2 m/\im H H2 g/\Fr [rb] H H2/\PP L F H2 q rb bH/\l.length<=6/\oN L 0 (AU L fuel) n bH l=some R) (n:=7)
  ⟨s1,[],.slice none 0 0,[],[],by simp only [go_sem] <;> rfl,Gr.nil _ _ _,by simp [im],by simp [im],p1.1,h1,by simp,hR⟩ ?_ (by rfl)
 rintro n V H2 ⟨bH,l,v,m,g,e3,cw,cQ,we,iN,h2,qT,fX⟩
 cases n with
 | zero=>cases fX
 | succ n=>
  rw [oN] at fX
  obtain ⟨a,hv⟩:=cw.val
  have jY:∀c∈m,c∉[rb]:=fun c hc=>by have:=(cQ c hc).1;have:=h.rl;simp;omega
  have VG:∀c∈g,c∉[rb]:=fun c hc=>by have:=(we c hc).1;have:=h.rl;simp;omega
  have up:∀{H4 H5:ad},H2.next<=H4.next->Fr [rb] H4 H5->Gr sb 102 H4 v l m g->Gr sb 102 H5 v l m g:=fun n4 f hg=>hg.ae (fun b hb=>f.get b (Nat.lt_of_lt_of_le (cQ b hb).2 n4) (jY b hb)) (fun b hb=>f.get b (Nat.lt_of_lt_of_le (we b hb).2 n4) (VG b hb))
  simp only [go_sem,e3,hv]
  refine ag.by (Qr hL h2) ?_
  rintro _ H3 - ⟨rfl,p3⟩
  have h3:=h2.post p3
  have lK:=p3.1.nx
  have qH:=up (Nat.le_refl _) p3.1 cw
  by_cases hm:(jv L l.length 0 bH).1=true
  ·rw [if_pos hm] at fX
   have EF:=IS hm
   generalize (jv L l.length 0 bH).2=yy at p3 h3 fX
   cases pH:AU L fuel yy with
   | none=>rw [pH] at fX;cases fX
   | some x=>
   obtain ⟨x1,x2⟩:=x
   rw [pH] at fX
   replace fX:oN L 0 (AU L fuel) n x2 (l++[x1])=some R:=fX
   simp only [go_sem,hm]
   refine ag.by (adW hL h3 pH) ?_
   rintro _ H4 - ⟨⟨vp,gx,rfl,Oc,dH⟩,p4⟩
   have h4:=h3.post p4
   have f4:=p4.1
   have qU:=p4.1.nx
   have nF2:=iN.nx
   have df:∀c∈gx,H.next<=c/\c < H4.next:=fun c hc=>by have:=dH c hc;omega
   have j5:=up lK p4.1 qH
   obtain ⟨ap,cp,Ag⟩:=Oc.val
   subst Ag
   simp only [go_sem,e3,eX Md (by decide) (by decide)]
   refine lA (r:=sb) (x:=x1) (g':=gx) Md (j5.ae (fun b hb=>bO (by have:=(cQ b hb).2;omega)) (fun b hb=>bO (by have:=(we b hb).2;omega))) (fun c hc=>by have:=(cQ c hc).2;rw [bI];omega) (fun c hc=>by have:=(we c hc).2;rw [bI];omega)
    (fun c hc=>⟨by have:=(dH c hc).2;rw [bI];omega,fun e=>by have:=(cQ c e).2;have:=(dH c hc).1;omega⟩) (fun c hc=>hf.fresh (cQ c hc).1) (by rw [aZ,if_pos rfl]) ⟨_,rfl,Oc.ae fun b hb=>bO (dH b hb).2⟩ rfl (by omega) ?_
   intro v7 H7 cA eu jU dA kY
   have nF:=iN.nx
   rw [bI] at eu
   have He:Fr [rb] H H7:=(((iN.then p3.1).then f4).push _).trans dA (fun c hc=>.inr (cQ c hc).1)
   have oq:=h4.push ⟨[iV x1.kind,iV x1.cap,iV x1.rc,ah x1.name,.slice ap x1.pat.length cp],102,false,false⟩
   have XC:=h.rl
   have XD:=h.ql
   have xq:∀c∈m,c∉F:=fun c hc e=>by have:=(h.hF c e).1;have:=(cQ c hc).1;omega
   have h7:PP L F H7 q rb x2:={oq.toPP0.fr dA (fun e=>by have:=(cQ _ e).1;omega) (fun e=>by have:=(cQ _ e).1;omega) (fun c hc e=>xq c e hc) with fz:=(by rw [kY,oq.fz,Bool.or_false,beq_eq_false_iff_ne,bI];omega)}
   simp only [go_sem]
   refine ⟨n,by omega,x2,l++[x1],v7,_,_,rfl,cA,fun c hc=>?_,fun c hc=>?_,He,h7,by rw [List.length_append,List.length_singleton];omega,fX⟩
   ·rw [List.mem_singleton,bI] at hc
    omega
   ·rcases List.mem_append.1 hc with e | e
    ·have:=we c e;omega
    ·have:=df c e;omega
  ·rw [if_neg hm] at fX
   cases fX
   simp only [go_sem,hm,e3,hv]
   refine ag.by (i3 hL h3) ?_
   rintro _ H4 - p4
   have qU:=p4.1.nx
   simp only [go_sem,e3,hv]
   refine ⟨⟨m++g,?_,fun c hc=>?_⟩,.last ((iN.then p3.1).then p4.1) p4.2.2⟩
   ·have:=(up lK p4.1 qH).sl
    rw [hv] at this
    exact this.ae fun _ _=>rfl
   ·show H.next<=c/\c < H4.next
    rcases List.mem_append.1 hc with e | e
    ·have:=cQ c e;omega
    ·have:=we c e;omega
theorem aaV (hL:LG L) (h:PP L F H q rb st) {fuel:Nat} {l':List tn} {bW:aV} (he:I5 L fuel st=some (l',bW)):aj Tryz.prog 99 #[pV q] H (fun w H'=>(∃g,Sl oV H' w l' g/\im H H' g)/\gW L F H q rb bW H'):=by
 refine aj.told ?_
 refine anM (Nat.le_refl _) fun hf=>?_
 simp only [Tryz.f99,Option.getD_some]
 simp only [go_sem]
 refine ag.by (i3 hL h) ?_
 rintro _ H1 - p1
 have h1:=h.post p1
 rw [I5] at he
 generalize dO L [40] st=s1 at p1 h1 he
 cases hR:oN L 1 (Jd L fuel) 7 s1 [] with
 | none=>rw [hR] at he;cases he
 | some R=>
 rw [hR] at he
 cases he
 have qk:=LQ hR (by simp)
 simp only [go_sem]
 refine qA 8388504 (fun n V H2=>∃bH l v m g,V 3=v/\Gr oV 104 H2 v l m g/\im H H2 m/\im H H2 g/\Fr [rb] H H2/\PP L F H2 q rb bH/\l.length<=6/\oN L 1 (Jd L fuel) n bH l=some R) (n:=7)
  ⟨s1,[],.slice none 0 0,[],[],by simp only [go_sem] <;> rfl,Gr.nil _ _ _,by simp [im],by simp [im],p1.1,h1,by simp,hR⟩ ?_ (by rfl)
 rintro n V H2 ⟨bH,l,v,m,g,e3,cw,cQ,we,iN,h2,qT,fX⟩
 cases n with
 | zero=>cases fX
 | succ n=>
  rw [oN] at fX
  obtain ⟨a,hv⟩:=cw.val
  have jY:∀c∈m,c∉[rb]:=fun c hc=>by have:=(cQ c hc).1;have:=h.rl;simp;omega
  have VG:∀c∈g,c∉[rb]:=fun c hc=>by have:=(we c hc).1;have:=h.rl;simp;omega
  have up:∀{H4 H5:ad},H2.next<=H4.next->Fr [rb] H4 H5->Gr oV 104 H4 v l m g->Gr oV 104 H5 v l m g:=fun n4 f hg=>hg.ae (fun b hb=>f.get b (Nat.lt_of_lt_of_le (cQ b hb).2 n4) (jY b hb)) (fun b hb=>f.get b (Nat.lt_of_lt_of_le (we b hb).2 n4) (VG b hb))
  simp only [go_sem,e3,hv]
  refine ag.by (Qr hL h2) ?_
  rintro _ H3 - ⟨rfl,p3⟩
  have h3:=h2.post p3
  have lK:=p3.1.nx
  have qH:=up (Nat.le_refl _) p3.1 cw
  by_cases hm:(jv L l.length 1 bH).1=true
  ·rw [if_pos hm] at fX
   have EF:=IS hm
   generalize (jv L l.length 1 bH).2=yy at p3 h3 fX
   cases pH:Jd L fuel yy with
   | none=>rw [pH] at fX;cases fX
   | some x=>
   obtain ⟨x1,x2⟩:=x
   rw [pH] at fX
   replace fX:oN L 1 (Jd L fuel) n x2 (l++[x1])=some R:=fX
   simp only [go_sem,hm]
   rw [Jd] at pH
   refine ag.by (jS hL h3) ?_
   rintro _ Hn - ⟨rfl,pn⟩
   have hn:=h3.post pn
   generalize cF L yy=nmx at pn hn pH
   obtain ⟨se,nm2⟩:=nmx
   have nn:=pn.1.nx
   have nF2:=iN.nx
   have Br:H.fz Hn.next=false:=hf.fresh (by omega)
   have apv:=up lK pn.1 qH
   simp only [go_sem,agc,Br]
   have hp:=hn.push ⟨[ah se,iV 0,iV 0,iV 0,ah [],.slice none 0 0],104,false,false⟩
   have fp:Fr [rb] H3 (Hn.push ⟨[ah se,iV 0,iV 0,iV 0,ah [],.slice none 0 0],104,false,false⟩):=pn.1.push _
   have gp:(Hn.push ⟨[ah se,iV 0,iV 0,iV 0,ah [],.slice none 0 0],104,false,false⟩).get Hn.next=some ⟨[ah se,iV 0,iV 0,iV 0,ah [],.slice none 0 0],104,false,false⟩:=by rw [aZ,if_pos rfl]
   have np:(Hn.push ⟨[ah se,iV 0,iV 0,iV 0,ah [],.slice none 0 0],104,false,false⟩).next=Hn.next+1:=rfl
   have Rd:=up (by omega) ((Fr.refl [rb] Hn).push ⟨[ah se,iV 0,iV 0,iV 0,ah [],.slice none 0 0],104,false,false⟩) apv
   obtain ⟨bq,br,bF⟩:=hn.toPP0.fresh (Nat.le_refl Hn.next)
   generalize (Hn.push ⟨[ah se,iV 0,iV 0,iV 0,ah [],.slice none 0 0],104,false,false⟩)=Hp at hp fp gp np Rd
   refine ag.by (i3 hL hp) ?_
   rintro _ Hc - pc
   have hc:=hp.post pc
   have fc:=fp.then pc.1
   have nc:=pc.1.nx
   have apw:=up (by omega) pc.1 Rd
   simp only [go_sem]
   cases Ah:AU L fuel (dO L [58] nm2) with
   | none=>rw [Ah] at pH;cases pH
   | some y=>
   obtain ⟨y1,y2⟩:=y
   rw [Ah] at pH
   cases pH
   refine ag.by (adW hL hc Ah) ?_
   rintro _ Hd - ⟨⟨vp,gx,rfl,Oc,dH⟩,pd⟩
   have hd:=hc.post pd
   have fd:=fc.then pd.1
   have nd:=pd.1.nx
   have apx:=up (by omega) pd.1 apw
   obtain ⟨ap,cp,Ag⟩:=Oc.val
   subst Ag
   have gd:Hd.get Hn.next=some ⟨[ah se,iV 0,iV 0,iV 0,ah [],.slice none 0 0],104,false,false⟩:=by
    rw [pd.1.get _ (by omega) (by simpa using br),pc.1.get _ (by omega) (by simpa using br)];exact gp
   simp only [go_sem,gd,Br,e3,eX F4 (by decide) (by decide)]
   have h4:PP L F (Hd.ai Hn.next ⟨[ah se,iV y1.kind,iV y1.cap,iV y1.rc,ah y1.name,.slice ap y1.pat.length cp],104,false,false⟩) q rb y2:={hd.toPP0.put _ bq br bF with fz:=hd.fz}
   have f4:Fr [rb] H3 (Hd.ai Hn.next ⟨[ah se,iV y1.kind,iV y1.cap,iV y1.rc,ah y1.name,.slice ap y1.pat.length cp],104,false,false⟩):=fd.ai (.inr nn) _
   have j5:Gr oV 104 (Hd.ai Hn.next ⟨[ah se,iV y1.kind,iV y1.cap,iV y1.rc,ah y1.name,.slice ap y1.pat.length cp],104,false,false⟩) v l m g:=apx.ae (fun b hb=>by rw [aH,if_neg (by have:=(cQ b hb).2;omega)]) (fun b hb=>by rw [aH,if_neg (by have:=(we b hb).2;omega)])
   have adX:Sl gU (Hd.ai Hn.next ⟨[ah se,iV y1.kind,iV y1.cap,iV y1.rc,ah y1.name,.slice ap y1.pat.length cp],104,false,false⟩) (.slice ap y1.pat.length cp) y1.pat gx:=Oc.ae fun b hb=>by rw [aH,if_neg (by have:=(dH b hb).1;omega)]
   have n4:(Hd.ai Hn.next ⟨[ah se,iV y1.kind,iV y1.cap,iV y1.rc,ah y1.name,.slice ap y1.pat.length cp],104,false,false⟩).next=Hd.next:=rfl
   generalize (Hd.ai Hn.next ⟨[ah se,iV y1.kind,iV y1.cap,iV y1.rc,ah y1.name,.slice ap y1.pat.length cp],104,false,false⟩)=H4 at h4 f4 j5 adX n4
   have df:∀c∈gx,H.next<=c/\c < H4.next:=fun c hc=>by have:=dH c hc;omega
   refine lA (r:=oV) (x:=⟨se,y1⟩) (g':=gx) F4 (j5.ae (fun b hb=>bO (by have:=(cQ b hb).2;omega)) (fun b hb=>bO (by have:=(we b hb).2;omega))) (fun c hc=>by have:=(cQ c hc).2;rw [bI];omega) (fun c hc=>by have:=(we c hc).2;rw [bI];omega)
    (fun c hc=>⟨by have:=(dH c hc).2;rw [bI];omega,fun e=>by have:=(cQ c e).2;have:=(dH c hc).1;omega⟩) (fun c hc=>hf.fresh (cQ c hc).1) (by rw [aZ,if_pos n4.symm]) ⟨_,rfl,adX.ae fun b hb=>bO (by have:=(dH b hb).2;omega)⟩ rfl (by omega) ?_
   intro v7 H7 cA eu jU dA kY
   have nF:=iN.nx
   rw [bI] at eu
   have He:Fr [rb] H H7:=(((iN.then p3.1).then f4).push _).trans dA (fun c hc=>.inr (cQ c hc).1)
   have oq:=h4.push ⟨[ah se,iV y1.kind,iV y1.cap,iV y1.rc,ah y1.name,.slice ap y1.pat.length cp],104,false,false⟩
   have XC:=h.rl
   have XD:=h.ql
   have xq:∀c∈m,c∉F:=fun c hc e=>by have:=(h.hF c e).1;have:=(cQ c hc).1;omega
   have h7:PP L F H7 q rb y2:={oq.toPP0.fr dA (fun e=>by have:=(cQ _ e).1;omega) (fun e=>by have:=(cQ _ e).1;omega) (fun c hc e=>xq c e hc) with fz:=(by rw [kY,oq.fz,Bool.or_false,beq_eq_false_iff_ne,bI];omega)}
   simp only [go_sem]
   refine ⟨n,by omega,y2,l++[⟨se,y1⟩],v7,_,_,rfl,cA,fun c hc=>?_,fun c hc=>?_,He,h7,by rw [List.length_append,List.length_singleton];omega,fX⟩
   ·rw [List.mem_singleton,bI] at hc
    omega
   ·rcases List.mem_append.1 hc with e | e
    ·have:=we c e;omega
    ·have:=df c e;omega
  ·rw [if_neg hm] at fX
   cases fX
   simp only [go_sem,hm,e3,hv]
   refine ag.by (i3 hL h3) ?_
   rintro _ H4 - p4
   have qU:=p4.1.nx
   simp only [go_sem,e3,hv]
   refine ⟨⟨m++g,?_,fun c hc=>?_⟩,.last ((iN.then p3.1).then p4.1) p4.2.2⟩
   ·have:=(up lK p4.1 qH).sl
    rw [hv] at this
    exact this.ae fun _ _=>rfl
   ·show H.next<=c/\c < H4.next
    rcases List.mem_append.1 hc with e | e
    ·have:=cQ c e;omega
    ·have:=we c e;omega
end
abbrev aU (n:aJ) (vA vP vB:Value):List Value:=[iV n.kind,iV n.x,iV n.y,iV n.f,iV n.n,iV n.cap,iV n.rc,iV n.op,iV n.a,iV n.b,iV n.next,iV n.line,iV n.az,ah n.oe,ah n.ie,ah n.ik,ah n.j4,vA,vP,vB]
structure LN0 (L:List bJ) (F:List Nat) (H:ad) (q rb:Nat) (st:aV) (nb:Nat) (n:aJ) (g:List Nat):Prop where
 pp:PP0 L F H q rb st
 nd:∃vA vP vB gA gP gB,H.get nb=some ⟨aU n vA vP vB,59,false,false⟩/\Sl jy H vA n.args gA/\Sl gU H vP n.pat gP/\Sl eQ H vB n.ak gB/\g=gA++(gP++gB)
 nl:nb < H.next
 nr:nb≠rb
 nq:nb≠q
 nF:nb∉F
 hg:∀c∈g,c < H.next/\c≠rb/\c≠nb/\c≠q
structure LN (L:List bJ) (F:List Nat) (H:ad) (q rb:Nat) (st:aV) (nb:Nat) (n:aJ) (g:List Nat):Prop extends LN0 L F H q rb st nb n g where
 fz:H.fz rb=false
 fb:H.fz nb=false
 fn:∀b,H.next<=b->H.fz b=false
def Je (L:List bJ) (F:List Nat) (H:ad) (q rb nb:Nat) (g:List Nat) (bW:aV) (n':aJ) (H':ad):Prop:=
 Fr [rb,nb] H H'/\(∀c,H'.fz c=H.fz c)/\∃g',LN0 L F H' q rb bW nb n' g'/\∀c∈g',c∈g∨H.next<=c
structure LR (L:List bJ) (F:List Nat) (H:ad) (q rb nb:Nat) (g:List Nat) (H1:ad) (bu:aV) (n1:aJ) (g1:List Nat):Prop where
 fr:Fr [rb,nb] H H1
 ln:LN L F H1 q rb bu nb n1 g1
 sub:∀c∈g1,c∈g∨H.next<=c
section
variable {L:List bJ} {F:List Nat} {H H1 H2:ad} {q rb nb:Nat} {st bu bH:aV} {n n1 n2:aJ} {g g1 g2:List Nat}
theorem LN.cq (h:LN L F H q rb st nb n g):PP L F H q rb st:={h.pp with fz:=h.fz}
theorem LR.start (h:LN L F H q rb st nb n g):LR L F H q rb nb g H st n g:=⟨.refl _ _,h,fun _ h=>.inl h⟩
theorem LN0.fr (h:LN0 L F H q rb st nb n g) {bW:aV} {M:List Nat} (bk:Fr M H H1) (hp:PP0 L F H1 q rb bW) (mn:nb∉M) (mg:∀c∈g,c∉M):LN0 L F H1 q rb bW nb n g:=by
 obtain ⟨_,⟨vA,vP,vB,gA,gP,gB,h1,h2,h3,h4,rfl⟩,nl,nr,nq,nF,hg⟩:=h
 have k:∀c∈gA++(gP++gB),H1.get c=H.get c:=fun c hc=>bk.get c (hg c hc).1 (mg c hc)
 exact ⟨hp,⟨vA,vP,vB,gA,gP,gB,(bk.get nb nl mn).trans h1,h2.ae fun c hc=>k c (by simp [hc]),h3.ae fun c hc=>k c (by simp [hc]),h4.ae fun c hc=>k c (by simp [hc]),rfl⟩,Nat.lt_of_lt_of_le nl bk.nx,nr,nq,nF,fun c hc=>⟨Nat.lt_of_lt_of_le (hg c hc).1 bk.nx,(hg c hc).2⟩⟩
theorem LR.bh (h:LR L F H q rb nb g H1 bu n1 g1) {bW:aV} (hp:gW L F H1 q rb bW H2):LR L F H q rb nb g H2 bW n1 g1:=
 ⟨h.fr.then (hp.1.sub fun c hc=>.inl (by rw [List.mem_singleton] at hc;simp [hc])),{h.ln.toLN0.fr hp.1 hp.2.2 (by simpa using h.ln.nr) (fun c hc=>by simpa using (h.ln.hg c hc).2.1) with fz:=by rw [hp.2.1];exact h.ln.fz,fb:=by rw [hp.2.1];exact h.ln.fb,fn:=fun b hb=>by rw [hp.2.1];exact h.ln.fn b (Nat.le_trans hp.1.nx hb)},h.sub⟩
theorem LR.push (h:LR L F H q rb nb g H1 bu n1 g1) (B:cO) (hB:B.ro=false:=by rfl):LR L F H q rb nb g (H1.push B) bu n1 g1:=
 ⟨h.fr.push B hB,{h.ln.toLN0.fr ((aG.push H1 B hB).fr []) (h.ln.pp.au (aG.push H1 B hB)) (by simp) (by simp) with fz:=(h.ln.cq.push B hB).fz,fb:=(by have:=h.ln.nl;rw [rv,h.ln.fb,Bool.or_false,beq_eq_false_iff_ne];omega),fn:=fun b hb=>(by rw [bI] at hb;rw [rv,h.ln.fn b (by omega),Bool.or_false,beq_eq_false_iff_ne];omega)},h.sub⟩
theorem LR.set (h:LR L F H q rb nb g H1 bu n1 g1) {vL v1 v4 v5 vP:Value} (hr:H1.get rb=some ⟨[vL,v1,.slice none 0 0,.bool true,v4,v5,vP],121,false,false⟩) (bW:aV) (ha:bW.at_ < L.length):
  LR L F H q rb nb g (H1.ai rb ⟨[vL,iV (bW.at_:Nat),.slice none 0 0,.bool true,iV bW.depth,iV bW.bad,vP],121,false,false⟩) bW n1 g1:=
 h.bh ⟨(Fr.refl _ _).ai (.inl (by simp)) _,fun _=>rfl,h.ln.pp.set hr bW ha⟩
theorem LR.node (h:LR L F H q rb nb g H1 bu n1 g1) {n':aJ} {vA vP vB:Value} {gA gP gB:List Nat} (h2:Sl jy H1 vA n'.args gA) (h3:Sl gU H1 vP n'.pat gP) (h4:Sl eQ H1 vB n'.ak gB) (hg:∀c∈gA++(gP++gB),c∈g1∨H.next<=c/\c < H1.next/\c≠rb/\c≠nb/\c≠q):
  LR L F H q rb nb g (H1.ai nb ⟨aU n' vA vP vB,59,false,false⟩) bu n' (gA++(gP++gB)):=by
 have hl:=h.ln
 have fY:∀c∈gA++(gP++gB),c < H1.next/\c≠rb/\c≠nb/\c≠q:=fun c hc=>(hg c hc).elim (hl.hg c) fun e=>e.2
 have k:∀c∈gA++(gP++gB),(H1.ai nb ⟨aU n' vA vP vB,59,false,false⟩).get c=H1.get c:=fun c hc=>by rw [aH,if_neg (fY c hc).2.2.1]
 refine ⟨h.fr.ai (.inl (by simp)) _,⟨⟨hl.pp.put _ hl.nq hl.nr hl.nF,⟨vA,vP,vB,gA,gP,gB,by rw [aH,if_pos rfl],h2.ae fun c hc=>k c (by simp [hc]),h3.ae fun c hc=>k c (by simp [hc]),h4.ae fun c hc=>k c (by simp [hc]),rfl⟩,hl.nl,hl.nr,hl.nq,hl.nF,fY⟩,hl.fz,hl.fb,hl.fn⟩,fun c hc=>?_⟩
 rcases hg c hc with e | e
 ·exact h.sub c e
 ·exact .inr e.1
theorem LR.last (h:LR L F H q rb nb g H1 bu n1 g1):Je L F H q rb nb g bu n1 (H1.af H.fz):=⟨h.fr.af _,fun _=>rfl,g1,h.ln.toLN0.fr ((Fr.refl [] H1).af _) h.ln.pp.af (by simp) (by simp),h.sub⟩
theorem LR.hY (h:LR L F H q rb nb g H1 bu n1 g1) {vA vP vB:Value} (cP:H1.get nb=some ⟨aU n1 vA vP vB,59,false,false⟩) (n':aJ) (ha:n'.args=n1.args) (hp:n'.pat=n1.pat) (hb:n'.ak=n1.ak):LR L F H q rb nb g (H1.ai nb ⟨aU n' vA vP vB,59,false,false⟩) bu n' g1:=by
 obtain ⟨Ho,qm,EG,gA,gP,gB,h1,h2,h3,h4,rfl⟩:=h.ln.nd
 rw [cP] at h1
 cases h1
 exact h.node (ha▸h2) (hp▸h3) (hb▸h4) fun c hc=>.inl hc
theorem LR.args (h:LR L F H q rb nb g H1 bu n1 g1) {vA vP vB v:Value} (cP:H1.get nb=some ⟨aU n1 vA vP vB,59,false,false⟩) (n':aJ) {f:List Nat} (hs:Sl jy H1 v n'.args f) (hf:∀c∈f,H.next<=c/\c < H1.next/\c≠rb/\c≠nb/\c≠q) (hp:n'.pat=n1.pat) (hb:n'.ak=n1.ak):∃g',LR L F H q rb nb g (H1.ai nb ⟨aU n' v vP vB,59,false,false⟩) bu n' g':=by
 obtain ⟨Ho,qm,EG,gA,gP,gB,h1,h2,h3,h4,rfl⟩:=h.ln.nd
 rw [cP] at h1
 cases h1
 refine ⟨_,h.node hs (hp▸h3) (hb▸h4) fun c hc=>?_⟩
 rcases List.mem_append.1 hc with e | e
 ·exact .inr (hf c e)
 ·exact .inl (List.mem_append_right _ e)
theorem LR.nd (h:LR L F H q rb nb g H1 bu n1 g1):∃vA vP vB,H1.get nb=some ⟨aU n1 vA vP vB,59,false,false⟩:=by
 obtain ⟨Ho,qm,EG,gA,gP,gB,h1,_⟩:=h.ln.nd
 exact ⟨_,_,_,h1⟩
theorem LN.new (h:LN L F H q rb st nb n g) {c:Nat} (hc:H.next<=c):c≠rb/\c≠nb/\c≠q:=⟨by have:=h.pp.rl;omega,by have:=h.nl;omega,by have:=h.pp.ql;omega⟩
theorem L1 {x:oU} {ty:TypeId}:Sl jy (H.push ⟨[iV x.kind,iV x.n,ah x.name],ty,false,false⟩) (.slice (some ⟨H.next,0,none⟩) 1 1) [x] [H.next]:=
 .inr (.inr ⟨H.next,0,1,_,[],rfl,by simp,Nat.le_refl _,rfl,by rw [aZ,if_pos rfl],⟨_,[],[],[],by simp,rfl,⟨rfl,rfl⟩,rfl⟩⟩)
abbrev vu:bC:=[97,114,114]
def AN (L:List bJ) (st:aV) (n:aJ):aV × aJ:=
 if dj st=true/\el L [91] st=true then (dO L [93] (ir L (aC st)).2,{n with rc:= -1,j4:=vu,args:=[(ir L (aC st)).1]})
 else ((cF L (dO L [46] (cF L st).2)).2,{n with j4:=(cF L st).1,ik:=(cF L (dO L [46] (cF L st).2)).1})
def J9 (H:ad) (rb nb:Nat) (n:aJ):Prop:=(∃vP vB,H.get nb=some ⟨aU n (.slice none 0 0) vP vB,59,false,false⟩/\n.args=[])∨∃b a vP vB,H.get nb=some ⟨aU n (.slice (some ⟨b,0,none⟩) 1 1) vP vB,59,false,false⟩/\n.args=[a]/\H.get b=some ⟨[iV a.kind,iV a.n,ah a.name],145,false,false⟩/\b < H.next/\b≠nb/\b≠rb
theorem aaW (hL:LG L) (h:LN L F H q rb st nb n g):aj Tryz.prog 168 #[pV q,pV nb] H (fun w H'=>Je L F H q rb nb g (AN L st n).1 (AN L st n).2 H'/\∀vP vB,H.get nb=some ⟨aU n (.slice none 0 0) vP vB,59,false,false⟩->n.args=[]->J9 H' rb nb (AN L st n).2):=by
 refine aj.told ?_
 refine akP (Nat.le_refl _) fun hf=>?_
 simp only [Tryz.f168,Option.getD_some]
 simp only [go_sem]
 have hz:=h.fz
 have cX:=h.fb
 have fK:=hL.len
 have eB:=h.pp.at_
 have db:IntKind.wrap .i64 (((st.at_:Nat):Int)+1)=((st.at_+1:Nat):Int):=cG eB (by omega)
 have r0:=LR.start h
 have dY:=h.nr
 have dP:¬rb=nb:=fun e=>dY e.symm
 have gV:¬q=nb:=fun e=>h.nq e.symm
 obtain ⟨c1,c2,c3,c4,bL,oL,cL,BL,a,m,c,hq,hr,hB,hl,er,h0,h4,dd,cb,eO⟩:=h.pp.fM
 refine ag.by (fA h.cq) ?_
 rintro _ _ - ⟨rfl,rfl⟩
 by_cases hc:dj st=true/\el L [91] st=true
 ·obtain ⟨hb,hs⟩:=hc
  simp only [go_sem,hb,hq]
  refine ag.by (oM h.cq) ?_
  rintro _ _ - ⟨rfl,rfl⟩
  rw [AN,if_pos ⟨hb,hs⟩]
  obtain ⟨vA,vP,vB,cP⟩:=r0.nd
  have r1:=r0.set hr (aC st) (oK hL eB (xV hs))
  have zp:(H.ai rb ⟨[.slice (some ⟨bL,oL,none⟩) L.length cL,iV (((aC st).at_:Nat):Int),.slice none 0 0,.bool true,iV (aC st).depth,iV (aC st).bad,.slice a m c],121,false,false⟩).get nb=some ⟨aU n vA vP vB,59,false,false⟩:=by rw [aH,if_neg dY];exact cP
  have r2:=r1.hY zp {n with rc:= -1,j4:=vu} rfl rfl rfl
  have Aa:=h.pp.qr
  simp only [go_sem,hs,hq,hr,hz,db,Aa,dY,dP,gV,cP,cX]
  rw [sU]
  obtain ⟨KF,yA,wg,Gu⟩:=r2.nd
  generalize xu:((H.ai rb ⟨[.slice (some ⟨bL,oL,none⟩) L.length cL,iV (((aC st).at_:Nat):Int),.slice none 0 0,.bool true,iV (aC st).depth,iV (aC st).bad,.slice a m c],121,false,false⟩).ai nb ⟨aU {n with rc:= -1,j4:=vu} vA vP vB,59,false,false⟩)=H2 at r2 Gu
  have apy:((H.ai rb ⟨[.slice (some ⟨bL,oL,none⟩) L.length cL,.int .i64 ((st.at_+1:Nat):Int),.slice none 0 0,.bool true,iV st.depth,iV st.bad,.slice a m c],121,false,false⟩).ai nb ⟨[iV n.kind,iV n.x,iV n.y,iV n.f,iV n.n,iV n.cap,.int .i64 (-1),iV n.op,iV n.a,iV n.b,iV n.next,iV n.line,iV n.az,ah n.oe,ah n.ie,ah n.ik,ah vu,vA,vP,vB],59,false,false⟩)=H2:=xu
  try rw [apy]
  refine ag.by (DW hL r2.ln.cq) ?_
  rintro _ H3 - ⟨rfl,p3⟩
  have r3:=r2.bh p3
  obtain ⟨vA3,N8,XQ,CD⟩:=r3.nd
  generalize hx:ir L (aC st)=x at p3 r3
  have aBj:H.fz nb=false:=cX
  have nn:¬nb=H3.next:=by have:=r3.ln.nl;omega
  simp only [go_sem,CD,cX,nn,eX rz (by decide) (by decide)]
  have r4:=r3.push ⟨[iV x.1.kind,iV x.1.n,ah x.1.name],145,false,false⟩
  have vv:(H3.push ⟨[iV x.1.kind,iV x.1.n,ah x.1.name],145,false,false⟩).get nb=some ⟨aU {n with rc:= -1,j4:=vu} vA3 N8 XQ,59,false,false⟩:=by rw [bO r3.ln.nl];exact CD
  have n03:=r3.fr.nx
  obtain ⟨e1,e2,e3⟩:=r3.ln.new (Nat.le_refl _)
  obtain ⟨g5,r5⟩:=r4.args vv {n with rc:= -1,j4:=vu,args:=[x.1]} L1 (fun c hc=>by rw [List.mem_singleton] at hc;subst hc;rw [bI];exact ⟨n03,by omega,e1,e2,e3⟩) rfl rfl
  refine ag.by (i3 hL r5.ln.cq) ?_
  rintro _ H6 - p6
  have r6:=r5.bh p6
  simp only [go_sem]
  refine ⟨r6.last,fun _ _ _ _=>.inr ⟨H3.next,x.1,N8,XQ,?_,rfl,?_,?_,e2,e1⟩⟩
  ·exact (p6.1.get nb (by rw [uT,bI];have:=r3.ln.nl;omega) (by simpa using dY)).trans (by rw [aH,if_pos rfl])
  ·exact (p6.1.get H3.next (by rw [uT,bI];omega) (by simpa using e1)).trans (by rw [aH,if_neg e2,aZ,if_pos rfl])
  ·have:=p6.1.nx
   rw [uT,bI] at this
   exact this
 ·rw [AN,if_neg hc]
  by_cases hb:dj st=true
  ·have hs:¬el L [91] st=true:=fun e=>hc ⟨hb,e⟩
   simp only [go_sem,hb,hq]
   refine ag.by (oM h.cq) ?_
   rintro _ _ - ⟨rfl,rfl⟩
   simp only [go_sem,hs]
   refine ag.by (jS hL h.cq) ?_
   rintro _ H1 - ⟨rfl,p1⟩
   have r1:=r0.bh p1
   obtain ⟨vA1,vP1,vB1,zp⟩:=r1.nd
   have r2:=r1.hY zp {n with j4:=(cF L st).1} rfl rfl rfl
   simp only [go_sem,zp,cX]
   refine ag.by (i3 hL r2.ln.cq) ?_
   rintro _ H3 - p3
   have r3:=r2.bh p3
   simp only [go_sem]
   refine ag.by (jS hL r3.ln.cq) ?_
   rintro _ H4 - ⟨rfl,p4⟩
   have r4:=r3.bh p4
   obtain ⟨Sm,Hj,Hq,vv⟩:=r4.nd
   have r5:=r4.hY vv {n with j4:=(cF L st).1,ik:=(cF L (dO L [46] (cF L st).2)).1} rfl rfl rfl
   simp only [go_sem,vv,cX]
   refine ⟨r5.last,fun vP0 vB0 tf ma=>.inl ⟨Hj,Hq,?_,ma⟩⟩
   have k1:=(p1.1.get nb h.nl (by simpa using dY)).trans tf
   rw [zp] at k1
   cases k1
   have k3:=(p3.1.get nb r1.ln.nl (by simpa using dY)).trans (by rw [aH,if_pos rfl])
   have k4:=(p4.1.get nb r3.ln.nl (by simpa using dY)).trans k3
   rw [vv] at k4
   cases k4
   show (ad.ai _ _ _).get nb=_
   rw [aH,if_pos rfl]
  simp only [go_sem,hb]
  refine ag.by (jS hL h.cq) ?_
  rintro _ H1 - ⟨rfl,p1⟩
  have r1:=r0.bh p1
  obtain ⟨vA1,vP1,vB1,zp⟩:=r1.nd
  have r2:=r1.hY zp {n with j4:=(cF L st).1} rfl rfl rfl
  simp only [go_sem,zp,cX]
  refine ag.by (i3 hL r2.ln.cq) ?_
  rintro _ H3 - p3
  have r3:=r2.bh p3
  simp only [go_sem]
  refine ag.by (jS hL r3.ln.cq) ?_
  rintro _ H4 - ⟨rfl,p4⟩
  have r4:=r3.bh p4
  obtain ⟨Sm,Hj,Hq,vv⟩:=r4.nd
  have r5:=r4.hY vv {n with j4:=(cF L st).1,ik:=(cF L (dO L [46] (cF L st).2)).1} rfl rfl rfl
  simp only [go_sem,vv,cX]
  refine ⟨r5.last,fun vP0 vB0 tf ma=>.inl ⟨Hj,Hq,?_,ma⟩⟩
  have k1:=(p1.1.get nb h.nl (by simpa using dY)).trans tf
  rw [zp] at k1
  cases k1
  have k3:=(p3.1.get nb r1.ln.nl (by simpa using dY)).trans (by rw [aH,if_pos rfl])
  have k4:=(p4.1.get nb r3.ln.nl (by simpa using dY)).trans k3
  rw [vv] at k4
  cases k4
  show (ad.ai _ _ _).get nb=_
  rw [aH,if_pos rfl]
theorem agX (hL:LG L) (h:LN L F H q rb st nb n g):aj Tryz.prog 168 #[pV q,pV nb] H (fun w H'=>Je L F H q rb nb g (AN L st n).1 (AN L st n).2 H'):=(aaW hL h).mono fun _ _ _ h=>h.1
def JI (L:List bJ) (st:aV) (n:aJ) (c:Int):aV × aJ:=
 if cW L vu st=true then (dO L [41] (ir L (dO L [40] (aC st))).2,{n with kind:=4,cap:=c,rc:= -1,j4:=vu,args:=[(ir L (dO L [40] (aC st))).1]})
 else ((rA L (cF L st).2).2,{n with kind:=4,cap:=c,j4:=(cF L st).1,args:=(rA L (cF L st).2).1})
theorem ale (hL:LG L) (h:LN L F H q rb st nb n g) {c:Int}:aj Tryz.prog 173 #[pV q,pV nb,iV c] H (fun w H'=>Je L F H q rb nb g (JI L st n c).1 (JI L st n c).2 H'):=by
 refine aj.told ?_
 refine akZ (Nat.le_refl _) fun hf=>?_
 simp only [Tryz.f173,Option.getD_some]
 have hz:=h.fz
 have cX:=h.fb
 have fK:=hL.len
 have eB:=h.pp.at_
 have db:IntKind.wrap .i64 (((st.at_:Nat):Int)+1)=((st.at_+1:Nat):Int):=cG eB (by omega)
 have r0:=LR.start h
 have dY:=h.nr
 have dP:¬rb=nb:=fun e=>dY e.symm
 have gV:¬q=nb:=fun e=>h.nq e.symm
 obtain ⟨vA,vP,vB,cP⟩:=r0.nd
 have r1:=r0.hY cP {n with kind:=4,cap:=c} rfl rfl rfl
 simp only [go_sem,cP,cX]
 rw [sU]
 obtain ⟨vA1,vP1,vB1,zp⟩:=r1.nd
 generalize cu:(H.ai nb ⟨aU {n with kind:=4,cap:=c} vA vP vB,59,false,false⟩)=H1 at r1 zp
 have apz:(H.ai nb ⟨[.int .i64 4,iV n.x,iV n.y,iV n.f,iV n.n,iV c,iV n.rc,iV n.op,iV n.a,iV n.b,iV n.next,iV n.line,iV n.az,ah n.oe,ah n.ie,ah n.ik,ah n.j4,vA,vP,vB],59,false,false⟩)=H1:=cu
 try rw [apz]
 refine ag.by (gH r1.ln.cq) ?_
 rintro _ H2 - ⟨rfl,p2⟩
 have r2:=r1.bh p2
 by_cases hw:cW L vu st=true
 ·rw [JI,if_pos hw]
  obtain ⟨c1,c2,c3,c4,bL,oL,cL,BL,a,m,cc,hq,hr,hB,hl,er,h0,h4,dd,cb,eO⟩:=r2.ln.pp.fM
  obtain ⟨KF,yA,wg,Gu⟩:=r2.nd
  have r3:=r2.set hr (aC st) (oK hL eB (jT hw))
  have CD:(H2.ai rb ⟨[.slice (some ⟨bL,oL,none⟩) L.length cL,iV (((aC st).at_:Nat):Int),.slice none 0 0,.bool true,iV (aC st).depth,iV (aC st).bad,.slice a m cc],121,false,false⟩).get nb=some ⟨aU {n with kind:=4,cap:=c} KF yA wg,59,false,false⟩:=by rw [aH,if_neg dY];exact Gu
  have r4:=r3.hY CD {n with kind:=4,cap:=c,rc:= -1,j4:=vu} rfl rfl rfl
  simp only [go_sem,hw,hq,hr,hz,db,dY,dP,gV,Gu,cX]
  rw [sU]
  obtain ⟨Sm,Hj,Hq,vv⟩:=r4.nd
  generalize jK:((H2.ai rb ⟨[.slice (some ⟨bL,oL,none⟩) L.length cL,iV (((aC st).at_:Nat):Int),.slice none 0 0,.bool true,iV (aC st).depth,iV (aC st).bad,.slice a m cc],121,false,false⟩).ai nb ⟨aU {n with kind:=4,cap:=c,rc:= -1,j4:=vu} KF yA wg,59,false,false⟩)=H4 at r4 vv
  have Vy:((H2.ai rb ⟨[.slice (some ⟨bL,oL,none⟩) L.length cL,.int .i64 ((st.at_+1:Nat):Int),.slice none 0 0,.bool true,iV st.depth,iV st.bad,.slice a m cc],121,false,false⟩).ai nb ⟨[iV 4,iV n.x,iV n.y,iV n.f,iV n.n,iV c,.int .i64 (-1),iV n.op,iV n.a,iV n.b,iV n.next,iV n.line,iV n.az,ah n.oe,ah n.ie,ah n.ik,ah vu,KF,yA,wg],59,false,false⟩)=H4:=jK
  try rw [Vy]
  refine ag.by (i3 hL r4.ln.cq) ?_
  rintro _ H5 - p5
  have r5:=r4.bh p5
  simp only [go_sem]
  refine ag.by (DW hL r5.ln.cq) ?_
  rintro _ H6 - ⟨rfl,p6⟩
  have r6:=r5.bh p6
  obtain ⟨Hr,sf,sh,jz⟩:=r6.nd
  generalize ir L (dO L [40] (aC st))=x at p6 r6
  have nn:¬nb=H6.next:=by have:=r6.ln.nl;omega
  simp only [go_sem,jz,cX,nn,eX rz (by decide) (by decide)]
  have r7:=r6.push ⟨[iV x.1.kind,iV x.1.n,ah x.1.name],145,false,false⟩
  have zr:(H6.push ⟨[iV x.1.kind,iV x.1.n,ah x.1.name],145,false,false⟩).get nb=some ⟨aU {n with kind:=4,cap:=c,rc:= -1,j4:=vu} Hr sf sh,59,false,false⟩:=by rw [bO r6.ln.nl];exact jz
  have n06:=r6.fr.nx
  obtain ⟨e1,e2,e3⟩:=r6.ln.new (Nat.le_refl _)
  obtain ⟨g8,r8⟩:=r7.args zr {n with kind:=4,cap:=c,rc:= -1,j4:=vu,args:=[x.1]} L1 (fun c hc=>by rw [List.mem_singleton] at hc;subst hc;rw [bI];exact ⟨n06,by omega,e1,e2,e3⟩) rfl rfl
  refine ag.by (i3 hL r8.ln.cq) ?_
  rintro _ H9 - p9
  have r9:=r8.bh p9
  simp only [go_sem]
  exact r9.last
 ·rw [JI,if_neg hw]
  simp only [go_sem,hw]
  refine ag.by (jS hL r2.ln.cq) ?_
  rintro _ H3 - ⟨rfl,p3⟩
  have r3:=r2.bh p3
  obtain ⟨vA3,N8,XQ,CD⟩:=r3.nd
  generalize cF L st=y at p3 r3
  have r4:=r3.hY CD {n with kind:=4,cap:=c,j4:=y.1} rfl rfl rfl
  simp only [go_sem,CD,cX]
  refine ag.by (Jc hL r4.ln.cq) ?_
  rintro va H5 - ⟨⟨ga,iw,kh⟩,p5⟩
  have r5:=r4.bh p5
  obtain ⟨XR,vP5,XT,CE⟩:=r5.nd
  generalize rA L y.2=z at p5 r5 iw
  obtain ⟨aa,ca,Ai⟩:=iw.val
  subst Ai
  simp only [go_sem,CE,cX]
  have n04:=r4.fr.nx
  obtain ⟨g6,r6⟩:=r5.args CE {n with kind:=4,cap:=c,j4:=y.1,args:=z.1} iw (fun b hb=>by
   have dX:=kh b hb
   obtain ⟨e1,e2,e3⟩:=r4.ln.new dX.1
   exact ⟨Nat.le_trans n04 dX.1,dX.2,e1,e2,e3⟩) rfl rfl
  exact r6.last
end
def mG:List bC:=[[43],[45],[42],[60],[61]]
def Cu (L:List bJ):Int->List bC->aV->aJ->aV × aJ
 | _,[],st,n=>(st,n)
 | i,s::l,st,n=>if dj st=true/\n.op=0/\el L s st=true then Cu L (i+1) l (ir L (aC st)).2 {n with op:=i,args:=n.args++[(ir L (aC st)).1]} else Cu L (i+1) l st n
def Mu (L:List bJ) (st:aV) (n:aJ):aV × aJ:=Cu L 1 mG (ir L st).2 {n with kind:=3,args:=[(ir L st).1]}
section
variable {L:List bJ} {F:List Nat} {H H1 H2:ad} {q rb nb:Nat} {st bu bH:aV} {n n1 n2:aJ} {g g1 g2:List Nat}
theorem ab7 (hL:LG L) (h:LN L F H q rb st nb n g) (iK:n.op=0):aj Tryz.prog 174 #[pV q,pV nb] H (fun w H'=>Je L F H q rb nb g (Mu L st n).1 (Mu L st n).2 H'):=by
 refine aj.told ?_
 refine ak1 (Nat.le_refl _) fun hf=>?_
 simp only [Tryz.f174,Option.getD_some]
 have hz:=h.fz
 have cX:=h.fb
 have fK:=hL.len
 have r0:=LR.start h
 have dY:=h.nr
 have dP:¬rb=nb:=fun e=>dY e.symm
 have gV:¬q=nb:=fun e=>h.nq e.symm
 obtain ⟨vA,vP,vB,cP⟩:=r0.nd
 have r1:=r0.hY cP {n with kind:=3} rfl rfl rfl
 simp only [go_sem,cP,cX]
 refine ag.by (DW hL r1.ln.cq) ?_
 rintro _ H2 - ⟨rfl,p2⟩
 have r2:=r1.bh p2
 obtain ⟨KF,yA,wg,Gu⟩:=r2.nd
 rw [Mu]
 generalize ir L st=x at p2 r2
 have nn:¬nb=H2.next:=by have:=r2.ln.nl;omega
 have bl:∀{H':ad},qx Tryz.prog 25 5 [(0,ah [43]),(1,ah [45]),(2,ah [42]),(3,ah [60]),(4,ah [61])] H'=.ok (.slice (some ⟨H'.next,0,none⟩) 5 5) (H'.push ⟨mG.map ah,9,false,false⟩):=fun {H'}=>
  AK wH Xx (by decide) (by decide) rfl
 simp only [go_sem,Gu,cX,nn,eX rz (by decide) (by decide),bl]
 have r3:=r2.push ⟨[iV x.1.kind,iV x.1.n,ah x.1.name],145,false,false⟩
 have CD:(H2.push ⟨[iV x.1.kind,iV x.1.n,ah x.1.name],145,false,false⟩).get nb=some ⟨aU {n with kind:=3} KF yA wg,59,false,false⟩:=by rw [bO r2.ln.nl];exact Gu
 have XU:=r2.fr.nx
 obtain ⟨e1,e2,e3⟩:=r2.ln.new (Nat.le_refl _)
 obtain ⟨g4,r4⟩:=r3.args CD {n with kind:=3,args:=[x.1]} L1 (fun c hc=>by rw [List.mem_singleton] at hc;subst hc;rw [bI];exact ⟨XU,by omega,e1,e2,e3⟩) rfl rfl
 have r5:=r4.push ⟨mG.map ah,9,false,false⟩
 obtain ⟨XR,vP5,XT,yw,gP5,gB5,CE,sA5,sP5,sB5,KG⟩:=r5.ln.nd
 have fj:r5=r5:=rfl
 have gab:(((H2.push ⟨[iV x.1.kind,iV x.1.n,ah x.1.name],145,false,false⟩).ai nb ⟨aU {n with kind:=3,args:=[x.1]} (.slice (some ⟨H2.next,0,none⟩) 1 1) yA wg,59,false,false⟩).push ⟨mG.map ah,9,false,false⟩).get H2.next=some ⟨[iV x.1.kind,iV x.1.n,ah x.1.name],145,false,false⟩:=by
  rw [bO (by show H2.next < H2.next+1;omega),aH,if_neg e2,aZ,if_pos rfl]
 have gnb:(((H2.push ⟨[iV x.1.kind,iV x.1.n,ah x.1.name],145,false,false⟩).ai nb ⟨aU {n with kind:=3,args:=[x.1]} (.slice (some ⟨H2.next,0,none⟩) 1 1) yA wg,59,false,false⟩).push ⟨mG.map ah,9,false,false⟩).get nb=some ⟨aU {n with kind:=3,args:=[x.1]} (.slice (some ⟨H2.next,0,none⟩) 1 1) yA wg,59,false,false⟩:=by
  rw [bO (by have:=r2.ln.nl;show nb < H2.next+1;omega),aH,if_pos rfl]
 have gsb:(((H2.push ⟨[iV x.1.kind,iV x.1.n,ah x.1.name],145,false,false⟩).ai nb ⟨aU {n with kind:=3,args:=[x.1]} (.slice (some ⟨H2.next,0,none⟩) 1 1) yA wg,59,false,false⟩).push ⟨mG.map ah,9,false,false⟩).get (H2.next+1)=some ⟨mG.map ah,9,false,false⟩:=by rw [aZ];exact if_pos rfl
 have nsb:(((H2.push ⟨[iV x.1.kind,iV x.1.n,ah x.1.name],145,false,false⟩).ai nb ⟨aU {n with kind:=3,args:=[x.1]} (.slice (some ⟨H2.next,0,none⟩) 1 1) yA wg,59,false,false⟩).push ⟨mG.map ah,9,false,false⟩).next=H2.next+2:=rfl
 clear CE sA5 sP5 sB5 KG fj
 obtain ⟨f1,f2,f3⟩:=r2.ln.new (Nat.le_succ H2.next)
 have VH:∀{Ha Hb:ad} {c:Nat},Fr [rb] Ha Hb->c < Ha.next->c≠rb->Hb.get c=Ha.get c:=fun f hc hr=>f.get _ hc (by simpa using hr)
 have hab:H.next<=H2.next:=XU
 refine ft 73786976294838075440 5 (fun i V H6=>V 17=iV (i:Nat)/\∃eZ n6 g6,LR L F H q rb nb g H6 eZ n6 g6/\H6.get (H2.next+1)=some ⟨mG.map ah,9,false,false⟩/\H2.next+1 < H6.next/\
   (n6.op=0->∃a1 vP vB,H6.get nb=some ⟨aU n6 (.slice (some ⟨H2.next,0,none⟩) 1 1) vP vB,59,false,false⟩/\n6.args=[a1]/\H6.get H2.next=some ⟨[iV a1.kind,iV a1.n,ah a1.name],145,false,false⟩)/\
   Cu L 1 mG x.2 {n with kind:=3,args:=[x.1]}=Cu L ((i+1:Nat):Int) (mG.drop i) eZ n6)
  ⟨by simp only [go_sem] <;> rfl,x.2,_,g4,r5,gsb,by rw [nsb];omega,fun _=>⟨x.1,yA,wg,gnb,rfl,gab⟩,rfl⟩ ?_ ?_ (by rfl)
 ·rintro i V H6 hi ⟨Ht,eZ,n6,g6,r6,KI,Aj,EH,Ee⟩
  have jJ:mG[i]?=some (mG[i]'hi):=List.getElem?_eq_getElem hi
  have cT:mG.drop i=(mG[i]'hi)::mG.drop (i+1):=(List.getElem_cons_drop hi).symm
  generalize (mG[i]'hi)=s at jJ cT
  rw [cT,Cu] at Ee
  have C3:(mG.map ah)[i]?=some (ah s):=by rw [List.getElem?_map,jJ];rfl
  obtain ⟨Hr,sf,sh,jz⟩:=r6.nd
  obtain ⟨c1,c2,c3,c4,bL,oL,cL,BL,a,m,cc,hq,hr,hB,hl,er,h0,h4,dd,cb,eO⟩:=r6.ln.pp.fM
  have eB:=r6.ln.pp.at_
  have db:IntKind.wrap .i64 (((eZ.at_:Nat):Int)+1)=((eZ.at_+1:Nat):Int):=cG eB (by omega)
  have cH:IntKind.wrap .i64 (((i:Nat):Int)+1)=((i+1:Nat):Int):=cG hi (by omega)
  have U4:¬(dj eZ=true/\n6.op=0/\el L s eZ=true)->∃(Hv:aV) (n7:aJ) (g7:List Nat),LR L F H q rb nb g H6 Hv n7 g7/\H6.get (H2.next+1)=some ⟨mG.map ah,9,false,false⟩/\H2.next+1 < H6.next/\
   (n7.op=0->∃a1 vP vB,H6.get nb=some ⟨aU n7 (.slice (some ⟨H2.next,0,none⟩) 1 1) vP vB,59,false,false⟩/\n7.args=[a1]/\H6.get H2.next=some ⟨[iV a1.kind,iV a1.n,ah a1.name],145,false,false⟩)/\
   Cu L 1 mG x.2 {n with kind:=3,args:=[x.1]}=Cu L ((i+1+1:Nat):Int) (mG.drop (i+1)) Hv n7:=fun hn=>⟨eZ,n6,g6,r6,KI,Aj,EH,by rw [if_neg hn] at Ee;exact Ee⟩
  simp only [go_sem,Ht,hi,KI,C3]
  refine ag.by (fA r6.ln.cq) ?_
  rintro _ _ - ⟨rfl,rfl⟩
  by_cases hb:dj eZ=true
  ·by_cases ho:n6.op=0
   ·have fO:iV n6.op=iV 0:=by rw [ho]
    simp only [go_sem,hb,jz,ho,hq]
    refine ag.by (oM r6.ln.cq) ?_
    rintro _ _ - ⟨rfl,rfl⟩
    by_cases hs:el L s eZ=true
    ·rw [if_pos ⟨hb,ho,hs⟩] at Ee
     obtain ⟨a1,qm,EG,XV,ha6,Sn⟩:=EH ho
     rw [jz] at XV
     cases XV
     have r7:=r6.set hr (aC eZ) (oK hL eB (xV hs))
     have zr:(H6.ai rb ⟨[.slice (some ⟨bL,oL,none⟩) L.length cL,iV (((aC eZ).at_:Nat):Int),.slice none 0 0,.bool true,iV (aC eZ).depth,iV (aC eZ).bad,.slice a m cc],121,false,false⟩).get nb=some ⟨aU n6 (.slice (some ⟨H2.next,0,none⟩) 1 1) sf sh,59,false,false⟩:=by rw [aH,if_neg dY];exact jz
     have r8:=r7.hY zr {n6 with op:=((i+1:Nat):Int)} rfl rfl rfl
     simp only [go_sem,hs,hq,hr,hz,db,cH,dY,dP,gV,jz,cX]
     have So:((H6.ai rb ⟨[.slice (some ⟨bL,oL,none⟩) L.length cL,iV (((aC eZ).at_:Nat):Int),.slice none 0 0,.bool true,iV (aC eZ).depth,iV (aC eZ).bad,.slice a m cc],121,false,false⟩).ai nb ⟨aU {n6 with op:=((i+1:Nat):Int)} (.slice (some ⟨H2.next,0,none⟩) 1 1) sf sh,59,false,false⟩).get nb=some ⟨aU {n6 with op:=((i+1:Nat):Int)} (.slice (some ⟨H2.next,0,none⟩) 1 1) sf sh,59,false,false⟩:=by rw [aH,if_pos rfl]
     have g8a:((H6.ai rb ⟨[.slice (some ⟨bL,oL,none⟩) L.length cL,iV (((aC eZ).at_:Nat):Int),.slice none 0 0,.bool true,iV (aC eZ).depth,iV (aC eZ).bad,.slice a m cc],121,false,false⟩).ai nb ⟨aU {n6 with op:=((i+1:Nat):Int)} (.slice (some ⟨H2.next,0,none⟩) 1 1) sf sh,59,false,false⟩).get H2.next=some ⟨[iV a1.kind,iV a1.n,ah a1.name],145,false,false⟩:=by rw [aH,if_neg e2,aH,if_neg e1];exact Sn
     have g8s:((H6.ai rb ⟨[.slice (some ⟨bL,oL,none⟩) L.length cL,iV (((aC eZ).at_:Nat):Int),.slice none 0 0,.bool true,iV (aC eZ).depth,iV (aC eZ).bad,.slice a m cc],121,false,false⟩).ai nb ⟨aU {n6 with op:=((i+1:Nat):Int)} (.slice (some ⟨H2.next,0,none⟩) 1 1) sf sh,59,false,false⟩).get (H2.next+1)=some ⟨mG.map ah,9,false,false⟩:=by rw [aH,if_neg f2,aH,if_neg f1];exact KI
     have g8x:((H6.ai rb ⟨[.slice (some ⟨bL,oL,none⟩) L.length cL,iV (((aC eZ).at_:Nat):Int),.slice none 0 0,.bool true,iV (aC eZ).depth,iV (aC eZ).bad,.slice a m cc],121,false,false⟩).ai nb ⟨aU {n6 with op:=((i+1:Nat):Int)} (.slice (some ⟨H2.next,0,none⟩) 1 1) sf sh,59,false,false⟩).next=H6.next:=rfl
     generalize jo:((H6.ai rb ⟨[.slice (some ⟨bL,oL,none⟩) L.length cL,iV (((aC eZ).at_:Nat):Int),.slice none 0 0,.bool true,iV (aC eZ).depth,iV (aC eZ).bad,.slice a m cc],121,false,false⟩).ai nb ⟨aU {n6 with op:=((i+1:Nat):Int)} (.slice (some ⟨H2.next,0,none⟩) 1 1) sf sh,59,false,false⟩)=H8 at r8 So g8a g8s g8x
     have apA:((H6.ai rb ⟨[.slice (some ⟨bL,oL,none⟩) L.length cL,iV ((eZ.at_+1:Nat):Int),.slice none 0 0,.bool true,iV eZ.depth,iV eZ.bad,.slice a m cc],121,false,false⟩).ai nb ⟨[iV n6.kind,iV n6.x,iV n6.y,iV n6.f,iV n6.n,iV n6.cap,iV n6.rc,iV ((i+1:Nat):Int),iV n6.a,iV n6.b,iV n6.next,iV n6.line,iV n6.az,ah n6.oe,ah n6.ie,ah n6.ik,ah n6.j4,.slice (some ⟨H2.next,0,none⟩) 1 1,sf,sh],59,false,false⟩)=H8:=jo
     try rw [apA]
     refine ag.by (DW hL r8.ln.cq) ?_
     rintro _ H9 - ⟨rfl,p9⟩
     have r9:=r8.bh p9
     generalize ir L (aC eZ)=y at p9 r9 Ee
     have XW:=(VH p9.1 r8.ln.nl dY).trans So
     have g9a:=(VH p9.1 (by omega) e1).trans g8a
     have g9s:=(VH p9.1 (by omega) f1).trans g8s
     have n89:=p9.1.nx
     have nn9:¬nb=H9.next:=by have:=r9.ln.nl;omega
     have cS:=r9.push ⟨[iV y.1.kind,iV y.1.n,ah y.1.name],145,false,false⟩
     have apB:(H9.push ⟨[iV y.1.kind,iV y.1.n,ah y.1.name],145,false,false⟩).get H9.next=some ⟨[iV y.1.kind,iV y.1.n,ah y.1.name],145,false,false⟩:=by rw [aZ,if_pos rfl]
     have apC:(H9.push ⟨[iV y.1.kind,iV y.1.n,ah y.1.name],145,false,false⟩).get H2.next=some ⟨[iV a1.kind,iV a1.n,ah a1.name],145,false,false⟩:=by rw [bO (by omega)];exact g9a
     have anU:=FF (P:=Tryz.prog) (n:=1) (o:=0) (sl:=1) (sc:=1) rz (FI (c:=1) apB rfl) apC (by rfl) (Nat.le_refl 1) (by omega) (by omega)
     simp only [go_sem,XW,So,cX,nn9,eX rz (by decide) (by decide)]
     rw [anU,AI]
     have anV:(H9.push ⟨[iV y.1.kind,iV y.1.n,ah y.1.name],145,false,false⟩).next=H9.next+1:=rfl
     have hcc:(([iV a1.kind,iV a1.n,ah a1.name]:List Value).drop 0).take (1 * 3)++[iV y.1.kind,iV y.1.n,ah y.1.name]=[iV a1.kind,iV a1.n,ah a1.name,iV y.1.kind,iV y.1.n,ah y.1.name]:=rfl
     rw [hcc]
     have dV:=cS.push ⟨[iV a1.kind,iV a1.n,ah a1.name,iV y.1.kind,iV y.1.n,ah y.1.name],145,true,false⟩
     have apD:((H9.push ⟨[iV y.1.kind,iV y.1.n,ah y.1.name],145,false,false⟩).push ⟨[iV a1.kind,iV a1.n,ah a1.name,iV y.1.kind,iV y.1.n,ah y.1.name],145,true,false⟩).get nb=some ⟨aU {n6 with op:=((i+1:Nat):Int)} (.slice (some ⟨H2.next,0,none⟩) 1 1) sf sh,59,false,false⟩:=by
      have:=r9.ln.nl
      rw [bO (by rw [bI];omega),bO this];exact XW
     have aBk:((H9.push ⟨[iV y.1.kind,iV y.1.n,ah y.1.name],145,false,false⟩).push ⟨[iV a1.kind,iV a1.n,ah a1.name,iV y.1.kind,iV y.1.n,ah y.1.name],145,true,false⟩).get (H2.next+1)=some ⟨mG.map ah,9,false,false⟩:=by
      rw [bO (by rw [bI];omega),bO (by omega)];exact g9s
     have Sp:((H9.push ⟨[iV y.1.kind,iV y.1.n,ah y.1.name],145,false,false⟩).push ⟨[iV a1.kind,iV a1.n,ah a1.name,iV y.1.kind,iV y.1.n,ah y.1.name],145,true,false⟩).next=H9.next+2:=rfl
     have XX:Sl jy ((H9.push ⟨[iV y.1.kind,iV y.1.n,ah y.1.name],145,false,false⟩).push ⟨[iV a1.kind,iV a1.n,ah a1.name,iV y.1.kind,iV y.1.n,ah y.1.name],145,true,false⟩) (.slice (some ⟨H9.next+1,0,none⟩) (1+1) (1+1)) (n6.args++[y.1]) [H9.next+1]:=by
      rw [ha6]
      exact .inr (.inr ⟨H9.next+1,0,2,_,[],rfl,by simp,Nat.le_refl _,rfl,by rw [aZ];exact if_pos rfl,⟨_,_,[],[],rfl,rfl,⟨rfl,rfl⟩,_,[],[],[],rfl,rfl,⟨rfl,rfl⟩,rfl⟩⟩)
     obtain ⟨u1,u2,u3⟩:=r9.ln.new (Nat.le_succ H9.next)
     have n09:=r9.fr.nx
     obtain ⟨kj,dF⟩:=dV.args apD {n6 with op:=((i+1:Nat):Int),args:=n6.args++[y.1]} XX (fun c hc=>by rw [List.mem_singleton] at hc;subst hc;rw [Sp];exact ⟨by omega,by omega,u1,u2,u3⟩) rfl rfl
     have apE:¬nb=H9.next+1:=fun e=>u2 e.symm
     simp only [go_sem,XW,So,nn9,apE,cX,anV,Ht,cH]
     refine ⟨y.2,_,kj,dF,?_,?_,fun e=>?_,Ee⟩
     ·rw [if_neg f2,if_neg (by omega),if_neg (by omega)];exact g9s
     ·first | omega | (show _ < H9.next+2;omega)
     ·exact absurd e (by show¬((i+1:Nat):Int)=0;omega)
    ·simp only [go_sem,hs,Ht,cH]
     exact U4 (fun e=>hs e.2.2)
   ·have fO:¬n6.op=0:=ho
    simp only [go_sem,hb,jz,ho,Ht,cH]
    have hk:=U4 (fun e=>ho e.2.1)
    simp only [go_sem,jz] at hk
    exact hk
  ·simp only [go_sem,hb,Ht,cH]
   exact U4 (fun e=>hb e.1)
 ·rintro V H6 ⟨Ht,eZ,n6,g6,r6,KI,Aj,EH,Ee⟩
  simp only [go_sem,Ht]
  have:Cu L ((5+1:Nat):Int) (mG.drop 5) eZ n6=(eZ,n6):=rfl
  rw [Ee,this]
  exact r6.last
end
structure NQ0 (L:List bJ) (F:List Nat) (c1 c2 c3:Value) (H:ad) (q rb:Nat) (st:aV) (ns:List aJ) (m g:List Nat):Prop where
 pp:PP0 L F H q rb st
 row:∃vN,H.get q=some ⟨[pV rb,c1,c2,c3,vN],123,false,false⟩/\Gr ku 59 H vN ns m g
 hm:∀c∈m,c < H.next/\c≠rb/\c≠q/\c∉F/\c∉g
 hg:∀c∈g,c < H.next/\c≠rb/\c≠q
 hn:ns.length<=400
structure NQ (L:List bJ) (F:List Nat) (c1 c2 c3:Value) (H:ad) (q rb:Nat) (st:aV) (ns:List aJ) (m g:List Nat):Prop extends NQ0 L F c1 c2 c3 H q rb st ns m g where
 fz:H.fz rb=false
 fq:H.fz q=false
 fm:∀c∈m,H.fz c=false
 fn:∀b,H.next<=b->H.fz b=false
def yX (L:List bJ) (F:List Nat) (c1 c2 c3:Value) (H:ad) (q rb:Nat) (ns:List aJ) (m g:List Nat) (bW:aV) (iG:List aJ) (H':ad):Prop:=
 Fr (rb::q::m) H H'/\(∀c,H'.fz c=H.fz c)/\ns.length<=iG.length/\∃m' g',NQ0 L F c1 c2 c3 H' q rb bW iG m' g'/\(∀c∈m',c∈m∨H.next<=c)/\∀c∈g',c∈g∨H.next<=c
structure NR (L:List bJ) (F:List Nat) (c1 c2 c3:Value) (H:ad) (q rb:Nat) (ns:List aJ) (m g:List Nat) (H1:ad) (bu:aV) (bZ:List aJ) (m1 g1:List Nat):Prop where
 fr:Fr (rb::q::m) H H1
 nq:NQ L F c1 c2 c3 H1 q rb bu bZ m1 g1
 le:ns.length<=bZ.length
 sm:∀c∈m1,c∈m∨H.next<=c
 sg:∀c∈g1,c∈g∨H.next<=c
section
variable {L:List bJ} {F:List Nat} {c1 c2 c3:Value} {H H1 H2:ad} {q rb:Nat} {st bu bH:aV} {ns bZ cB:List aJ} {m m1 m2 g g1 g2:List Nat}
theorem NQ.cq (h:NQ L F c1 c2 c3 H q rb st ns m g):PP L F H q rb st:={h.pp with fz:=h.fz}
theorem NR.start (h:NQ L F c1 c2 c3 H q rb st ns m g):NR L F c1 c2 c3 H q rb ns m g H st ns m g:=⟨.refl _ _,h,Nat.le_refl _,fun _ h=>.inl h,fun _ h=>.inl h⟩
theorem NQ0.fr (h:NQ0 L F c1 c2 c3 H q rb st ns m g) {bW:aV} {M:List Nat} (bk:Fr M H H1) (hp:PP0 L F H1 q rb bW) (mq:q∉M) (mm:∀c∈m,c∉M) (mg:∀c∈g,c∉M):NQ0 L F c1 c2 c3 H1 q rb bW ns m g:=by
 obtain ⟨EI,⟨vN,h1,h2⟩,hm,hg,hn⟩:=h
 exact ⟨hp,⟨vN,(bk.get q EI.ql mq).trans h1,h2.ae (fun c hc=>bk.get c (hm c hc).1 (mm c hc)) (fun c hc=>bk.get c (hg c hc).1 (mg c hc))⟩,fun c hc=>⟨Nat.lt_of_lt_of_le (hm c hc).1 bk.nx,(hm c hc).2⟩,fun c hc=>⟨Nat.lt_of_lt_of_le (hg c hc).1 bk.nx,(hg c hc).2⟩,hn⟩
theorem NR.bh (h:NR L F c1 c2 c3 H q rb ns m g H1 bu bZ m1 g1) {bW:aV} (hp:gW L F H1 q rb bW H2):NR L F c1 c2 c3 H q rb ns m g H2 bW bZ m1 g1:=
 ⟨h.fr.then (hp.1.sub fun c hc=>.inl (by rw [List.mem_singleton] at hc;simp [hc])),
  {h.nq.toNQ0.fr hp.1 hp.2.2 (by simpa using h.nq.pp.qr) (fun c hc=>by simpa using (h.nq.hm c hc).2.1) (fun c hc=>by simpa using (h.nq.hg c hc).2.1) with
   fz:=by rw [hp.2.1];exact h.nq.fz,fq:=by rw [hp.2.1];exact h.nq.fq,fm:=fun c hc=>by rw [hp.2.1];exact h.nq.fm c hc,fn:=fun b hb=>by rw [hp.2.1];exact h.nq.fn b (Nat.le_trans hp.1.nx hb)},h.le,h.sm,h.sg⟩
theorem NR.push (h:NR L F c1 c2 c3 H q rb ns m g H1 bu bZ m1 g1) (B:cO) (hB:B.ro=false:=by rfl):NR L F c1 c2 c3 H q rb ns m g (H1.push B) bu bZ m1 g1:=
 ⟨h.fr.push B hB,
  {h.nq.toNQ0.fr ((aG.push H1 B hB).fr []) (h.nq.pp.au (aG.push H1 B hB)) (by simp) (by simp) (by simp) with
   fz:=(h.nq.cq.push B hB).fz,fq:=(by have:=h.nq.pp.ql;rw [rv,h.nq.fq,Bool.or_false,beq_eq_false_iff_ne];omega),fm:=fun c hc=>(by have:=(h.nq.hm c hc).1;rw [rv,h.nq.fm c hc,Bool.or_false,beq_eq_false_iff_ne];omega),
   fn:=fun b hb=>(by rw [bI] at hb;rw [rv,h.nq.fn b (by omega),Bool.or_false,beq_eq_false_iff_ne];omega)},h.le,h.sm,h.sg⟩
theorem NR.last (h:NR L F c1 c2 c3 H q rb ns m g H1 bu bZ m1 g1):yX L F c1 c2 c3 H q rb ns m g bu bZ (H1.af H.fz):=
 ⟨h.fr.af _,fun _=>rfl,h.le,m1,g1,h.nq.toNQ0.fr ((Fr.refl [] H1).af _) h.nq.pp.af (by simp) (by simp) (by simp),h.sm,h.sg⟩
theorem NR.call (h:NR L F c1 c2 c3 H q rb ns m g H1 bu bZ m1 g1) {bW:aV} {iG:List aJ} (hp:yX L F c1 c2 c3 H1 q rb bZ m1 g1 bW iG H2):∃m2 g2,NR L F c1 c2 c3 H q rb ns m g H2 bW iG m2 g2/\(∀c∈m2,c∈m1∨H1.next<=c)/\∀c∈g2,c∈g1∨H1.next<=c:=by
 obtain ⟨hf,hz,hle,m2,g2,h0,hs,jf⟩:=hp
 have dH:=h.fr.nx
 refine ⟨m2,g2,⟨h.fr.trans hf fun c hc=>?_,{h0 with fz:=by rw [hz];exact h.nq.fz,fq:=by rw [hz];exact h.nq.fq,fm:=fun c hc=>?_,fn:=fun b hb=>by rw [hz];exact h.nq.fn b (Nat.le_trans hf.nx hb)},Nat.le_trans h.le hle,fun c hc=>(hs c hc).elim (h.sm c) fun e=>.inr (Nat.le_trans dH e),fun c hc=>(jf c hc).elim (h.sg c) fun e=>.inr (Nat.le_trans dH e)⟩,hs,jf⟩
 ·rcases List.mem_cons.1 hc with e | hc
  ·exact .inl (by simp [e])
  ·rcases List.mem_cons.1 hc with e | hc
   ·exact .inl (by simp [e])
   ·exact (h.sm c hc).imp (fun e=>by simp [e]) id
 ·rw [hz]
  rcases hs c hc with e | e
  ·exact h.nq.fm c e
  ·exact h.nq.fn c e
theorem NR.cells (h:NR L F c1 c2 c3 H q rb ns m g H1 bu bZ m1 g1):∃vN,H1.get q=some ⟨[pV rb,c1,c2,c3,vN],123,false,false⟩/\Gr ku 59 H1 vN bZ m1 g1:=h.nq.row
theorem PP0.Ka (h:PP0 L F H q rb st) {d1 d2 d3 d4:Value}:PP0 L F (H.ai q ⟨[pV rb,d1,d2,d3,d4],123,false,false⟩) q rb st:=by
 obtain ⟨_,⟨vL,a,n,c,hr,hs⟩,hF,h3,h4,h5,h6⟩:=h
 exact ⟨⟨d1,d2,d3,d4,by rw [aH,if_pos rfl]⟩,⟨vL,a,n,c,by rw [aH,if_neg (Ne.symm h3)];exact hr,hs.ae fun b hb=>by rw [aH,if_neg (hF b hb).2.2]⟩,hF,h3,h4,h5,h6⟩
theorem NQ0.Ka (h:PP0 L F H q rb st) {v:Value} (cw:Gr ku 59 H v ns m g) (hm:∀c∈m,c < H.next/\c≠rb/\c≠q/\c∉F/\c∉g) (hg:∀c∈g,c < H.next/\c≠rb/\c≠q) (hn:ns.length<=400):
  NQ0 L F c1 c2 c3 (H.ai q ⟨[pV rb,c1,c2,c3,v],123,false,false⟩) q rb st ns m g:=
 ⟨h.Ka,⟨v,by rw [aH,if_pos rfl],cw.ae (fun c hc=>by rw [aH,if_neg (hm c hc).2.2.1]) (fun c hc=>by rw [aH,if_neg (hg c hc).2.2])⟩,hm,hg,hn⟩
theorem NQ0.af {fz:Nat->Bool} (h:NQ0 L F c1 c2 c3 H q rb st ns m g):NQ0 L F c1 c2 c3 (H.af fz) q rb st ns m g:=h.fr ((Fr.refl [] H).af _) h.pp.af (by simp) (by simp) (by simp)
def tX (st:aV) (ns:List aJ):aV:=if dj st=true/\400<=ns.length then fD 3 st else st
def kv (L:List bJ) (st:aV) (ns:List aJ):Int × aV × List aJ:=
 if dj (tX st ns)=true then ((ns.length:Nat),tX st ns,ns++[{a:= -1,b:= -1,next:= -1,line:=(tk L (tX st ns)).line,az:=(tk L (tX st ns)).az}]) else (-1,tX st ns,ns)
theorem agd {l c:Int} {h:KH}:iA Tryz.prog 59 [(8,iV (-1)),(9,iV (-1)),(10,iV (-1)),(11,iV l),(12,iV c)] h=.ok (.agg #[iV 0,iV 0,iV 0,iV 0,iV 0,iV 0,iV 0,iV 0,iV (-1),iV (-1),iV (-1),iV l,iV c,ah [],ah [],ah [],ah [],.slice none 0 0,.slice none 0 0,.slice none 0 0]) h:=by kernel_rfl
theorem Jf (hL:LG L) (h:NQ L F c1 c2 c3 H q rb st ns m g):aj Tryz.prog 153 #[pV q] H (fun w H'=>w=iV (kv L st ns).1/\yX L F c1 c2 c3 H q rb ns m g (kv L st ns).2.1 (kv L st ns).2.2 H'):=by
 refine aj.told ?_
 refine akn (Nat.le_refl _) fun hf=>?_
 simp only [Tryz.f153,Option.getD_some]
 simp only [go_sem]
 have r0:=NR.start h
 refine ag.by (fA h.cq) ?_
 rintro _ _ - ⟨rfl,rfl⟩
 obtain ⟨vN,hq,cw⟩:=r0.cells
 obtain ⟨aN,C4⟩:=cw.val
 rw [C4] at hq cw
 have hnn:=h.hn
 have no:∀{e:aV},dj e=false->tX st ns=e->kv L st ns=(-1,e,ns):=fun {e} he h1=>by rw [kv,h1,he];rfl
 by_cases hb:dj st=true
 ·by_cases h4:400<=ns.length
  ·have e1:tX st ns=fD 3 st:=by rw [tX,if_pos ⟨hb,h4⟩]
   have fU:dj (fD 3 st)=false:=by
    have:st.bad=0:=by simpa [dj] using hb
    simp [fD,this,dj]
   have oq:(400:Int)<=((ns.length:Nat):Int):=by omega
   rw [no fU e1]
   simp only [go_sem,hb,hq,oq]
   refine ag.by (lU h.cq) ?_
   rintro _ H1 - p1
   have r1:=r0.bh p1
   simp only [go_sem]
   refine ag.by (fA r1.nq.cq) ?_
   rintro _ _ - ⟨rfl,rfl⟩
   simp only [go_sem,fU]
   exact r1.last
  ·have e1:tX st ns=st:=by rw [tX,if_neg fun e=>h4 e.2]
   have oq:¬(400:Int)<=((ns.length:Nat):Int):=by omega
   simp only [go_sem,hb,hq,oq]
   refine ag.by (fA h.cq) ?_
   rintro _ _ - ⟨rfl,rfl⟩
   simp only [go_sem,hb,hq]
   refine ag.by (sY h.cq) ?_
   rintro _ H1 - ⟨rfl,p1⟩
   have r1:=r0.bh p1
   have qr1:q∉[rb]:=by simpa using h.pp.qr
   have gq:=(p1.1.get q h.pp.ql qr1).trans hq
   simp only [go_sem,hq,gq]
   refine ag.by (sY r1.nq.cq) ?_
   rintro _ H2 - ⟨rfl,p2⟩
   have r2:=r1.bh p2
   have gV:=(p2.1.get q r1.nq.pp.ql qr1).trans gq
   simp only [go_sem,hq,gq,gV,agd,eX Mr (by decide) (by decide)]
   have r3:=r2.push ⟨[iV 0,iV 0,iV 0,iV 0,iV 0,iV 0,iV 0,iV 0,iV (-1),iV (-1),iV (-1),iV (tk L st).line,iV (tk L st).az,ah [],ah [],ah [],ah [],.slice none 0 0,.slice none 0 0,.slice none 0 0],59,false,false⟩
   obtain ⟨Od,wb,qH⟩:=r3.cells
   have adY:=(bO (B:=⟨[iV 0,iV 0,iV 0,iV 0,iV 0,iV 0,iV 0,iV 0,iV (-1),iV (-1),iV (-1),iV (tk L st).line,iV (tk L st).az,ah [],ah [],ah [],ah [],.slice none 0 0,.slice none 0 0,.slice none 0 0],59,false,false⟩) r2.nq.pp.ql).trans gV
   rw [wb] at adY
   cases adY
   have hx:ku.E (H2.push ⟨[iV 0,iV 0,iV 0,iV 0,iV 0,iV 0,iV 0,iV 0,iV (-1),iV (-1),iV (-1),iV (tk L st).line,iV (tk L st).az,ah [],ah [],ah [],ah [],.slice none 0 0,.slice none 0 0,.slice none 0 0],59,false,false⟩) [iV 0,iV 0,iV 0,iV 0,iV 0,iV 0,iV 0,iV 0,iV (-1),iV (-1),iV (-1),iV (tk L st).line,iV (tk L st).az,ah [],ah [],ah [],ah [],.slice none 0 0,.slice none 0 0,.slice none 0 0] ({a:= -1,b:= -1,next:= -1,line:=(tk L st).line,az:=(tk L st).az}:aJ) []:=
    ⟨_,_,_,[],[],[],rfl,rfl,.inl ⟨rfl,rfl,rfl⟩,.inl ⟨rfl,rfl,rfl⟩,.inl ⟨rfl,rfl,rfl⟩⟩
   refine lA (r:=ku) (g':=[]) Mr qH (fun c hc=>(r3.nq.hm c hc).1) (fun c hc=>(r3.nq.hg c hc).1) (by simp) (fun c hc=>h.fm c hc) (by rw [aZ,if_pos rfl]) hx rfl (by omega) ?_
   intro v7 H7 cA eu jU dA kY
   obtain ⟨a7,uw⟩:=cA.val
   have Sg:q∉m:=fun e=>(r3.nq.hm q e).2.2.1 rfl
   have jY:rb∉m:=fun e=>(r3.nq.hm rb e).2.1 rfl
   have lu:=(jU q r3.nq.pp.ql Sg).trans wb
   have p7:PP0 L F H7 q rb st:=r3.nq.pp.fr dA Sg jY fun c hc e=>(r3.nq.hm c e).2.2.2.1 hc
   have f7:Fr (rb::q::m) H H7:=r3.fr.then (dA.sub fun c hc=>.inl (by simp [hc]))
   have Oe:(H2.push ⟨[iV 0,iV 0,iV 0,iV 0,iV 0,iV 0,iV 0,iV 0,iV (-1),iV (-1),iV (-1),iV (tk L st).line,iV (tk L st).az,ah [],ah [],ah [],ah [],.slice none 0 0,.slice none 0 0,.slice none 0 0],59,false,false⟩).next=H2.next+1:=rfl
   have nq7:¬q=H2.next+1:=fun e=>by have:=r2.nq.pp.ql;omega
   have XY:¬rb=H2.next+1:=fun e=>by have:=r2.nq.pp.rl;omega
   have xv:=h.fq
   have C5:(ns++[({a:= -1,b:= -1,next:= -1,line:=(tk L st).line,az:=(tk L st).az}:aJ)]).length=ns.length+1:=by rw [List.length_append];rfl
   rw [C5] at uw
   subst uw
   simp only [go_sem,lu,xv]
   have hw:IntKind.i64.wrap (((ns.length+1:Nat):Int) - 1)=((ns.length:Nat):Int):=by
    rw [show (((ns.length+1:Nat):Int) - 1)=((ns.length:Nat):Int) by omega]
    exact tT (by omega)
   rw [hw,kv,e1,if_pos hb]
   refine ⟨rfl,(f7.ai (.inl (by simp)) _).af _,fun _=>rfl,by simp,_,_,(NQ0.Ka p7 (by rw [C5] at *;exact cA) (fun c hc=>?_) (fun c hc=>?_) (by rw [C5];omega)).af,fun c hc=>?_,fun c hc=>?_⟩
   ·rw [List.mem_singleton] at hc
    have:=r3.nq.pp.rl
    have:=r3.nq.pp.ql
    subst hc
    exact ⟨by omega,by omega,by omega,fun e=>by have:=(r3.nq.pp.hF _ e).1;omega,fun e=>by
     rw [List.append_nil] at e
     have:=(r3.nq.hg _ e).1;omega⟩
   ·rw [List.append_nil] at hc
    have:=r3.nq.hg c hc
    exact ⟨by omega,this.2⟩
   ·rw [List.mem_singleton] at hc
    have:=r3.fr.nx
    exact .inr (by omega)
   ·rw [List.append_nil] at hc
    exact .inl hc
 ·have e1:tX st ns=st:=by rw [tX,if_neg fun e=>hb e.1]
  have dX:dj st=false:=by simpa using hb
  rw [no dX e1]
  simp only [go_sem,hb]
  refine ag.by (fA h.cq) ?_
  rintro _ _ - ⟨rfl,rfl⟩
  simp only [go_sem,hb]
  exact r0.last
theorem Gr.put {α:Type} {r:Rp α} {ty:TypeId} {H:ad} {v:Value} {l:List α} {m g:List Nat} (h:Gr r ty H v l m g) {i:Nat} (hi:i < l.length):
  ∃b cs f1 f2 f3,v=.slice (some ⟨b,0,none⟩) l.length l.length/\m=[b]/\H.get b=some ⟨cs,ty,true,false⟩/\cs.length=l.length * r.sz/\g=f1++(f2++f3)/\i * r.sz+r.sz<=cs.length/\r.E H ((cs.drop (i * r.sz)).take r.sz) l[i] f2/\
   ∀(H':ad) c' y f',(∀z,z∈f1∨z∈f3->H'.get z=H.get z)->H'.get b=some ⟨cY cs (i * r.sz) c',ty,true,false⟩->r.E H' c' y f'->b∉f'->Gr r ty H' v (l.set i y) [b] (f1++(f'++f3)):=by
 rcases h with ⟨_,rfl,_⟩ | ⟨b,cs,rfl,h2,rfl,h4,h5,h6,hb⟩
 ·simp at hi
 ·obtain ⟨f1,f2,f3,rfl,h7,h8,h9⟩:=h6.put hi
  refine ⟨b,cs,f1,f2,f3,rfl,rfl,h4,h5,rfl,h7,h8,fun H' c' y f' hk KA hE dI=>?_⟩
  have e:=r.len hE
  refine .inr ⟨b,_,by simp,by rw [Ne,<-List.length_eq_zero_iff];simp;omega,rfl,KA,?_,h9 H' c' y f' hk hE,?_⟩
  ·rw [Z4 (by omega),List.length_set];exact h5
  ·simp only [List.mem_append,not_or] at hb ⊢
   exact ⟨hb.1,dI,hb.2.2⟩
def qI (ns:List aJ) (k:Nat) (n:aJ):List aJ:=ns.set k {n with next:=(ns.getD k {}).next,line:=(ns.getD k {}).line,az:=(ns.getD k {}).az}
theorem anW (h:NQ L F c1 c2 c3 H q rb st ns m g) {k:Nat} (hk:k < ns.length) {n:aJ} {vA vP vB:Value} {gA gP gB:List Nat} (hA:Sl jy H vA n.args gA) (hP:Sl gU H vP n.pat gP) (hB:Sl eQ H vB n.ak gB) (fk:∀c∈gA++(gP++gB),c < H.next/\c≠rb/\c≠q/\c∉m):
  aj Tryz.prog 166 #[pV q,iV (k:Nat),.agg (aU n vA vP vB).toArray] H (fun w H'=>Fr m H H'/\(∀c,H'.fz c=H.fz c)/\∃g',NQ0 L F c1 c2 c3 H' q rb st (qI ns k n) m g'/\∀c∈g',c∈g∨c∈gA++(gP++gB)):=by
 refine aj.told ?_
 refine akL (Nat.le_refl _) fun hf=>?_
 simp only [Tryz.f166,Option.getD_some]
 have r0:=NR.start h
 obtain ⟨vN,hq,cw⟩:=r0.cells
 obtain ⟨b,cs,f1,f2,f3,rfl,rfl,hb,gJ,rfl,bX,hE,jk⟩:=cw.put hk
 have vH:=h.fm b (by simp)
 obtain ⟨wA,wP,wB,e1,e2,e3,bg,rfl,s1,s2,s3⟩:=hE
 have hnn:=h.hn
 have cb:=(h.hm b (by simp)).1
 have hbq:=(h.hm b (by simp)).2.2.1
 have nq:¬q=H.next:=fun e=>by have:=h.pp.ql;omega
 have Of:¬q=H.next+1:=fun e=>by have:=h.pp.ql;omega
 have nb:¬b=H.next:=fun e=>by omega
 have nb':¬b=H.next+1:=fun e=>by omega
 have gX:ku.sz=20:=rfl
 rw [gX] at bX bg
 obtain ⟨aA,kA,rfl⟩:=hA.val
 obtain ⟨aP,kP,rfl⟩:=hP.val
 obtain ⟨aB,kB,rfl⟩:=hB.val
 obtain ⟨bA,jA,rfl⟩:=s1.val
 obtain ⟨bP,jP,rfl⟩:=s2.val
 obtain ⟨bB,jB,rfl⟩:=s3.val
 have hX:=h.fn H.next (Nat.le_refl _)
 have XZ:=h.fn (H.next+1) (Nat.le_succ _)
 have gu:(ns.getD k {})=ns[k]:=by rw [List.getD_eq_getElem?_getD,List.getElem?_eq_getElem hk];rfl
 have fin:∀{H6:ad},Fr [] H H6->Fr [b] H ((H6.ai b ⟨cY cs (k * 20) (aU {n with next:=ns[k].next,line:=ns[k].line,az:=ns[k].az} (.slice aA n.args.length kA) (.slice aP n.pat.length kP) (.slice aB n.ak.length kB)),59,true,false⟩).af H.fz)/\(∀_:Nat,True)/\
   ∃g',NQ0 L F c1 c2 c3 ((H6.ai b ⟨cY cs (k * 20) (aU {n with next:=ns[k].next,line:=ns[k].line,az:=ns[k].az} (.slice aA n.args.length kA) (.slice aP n.pat.length kP) (.slice aB n.ak.length kB)),59,true,false⟩).af H.fz) q rb st (qI ns k n) [b] g'/\∀c∈g',c∈f1++(e1++(e2++e3)++f3)∨c∈gA++(gP++gB):=fun {H6} f6=>by
  obtain ⟨fB,eo,fU,qY,fj⟩:=h.hm b (by simp)
  have k6:∀c,c < H.next->c≠b->(H6.ai b ⟨cY cs (k * 20) (aU {n with next:=ns[k].next,line:=ns[k].line,az:=ns[k].az} (.slice aA n.args.length kA) (.slice aP n.pat.length kP) (.slice aB n.ak.length kB)),59,true,false⟩).get c=H.get c:=fun c hc oY=>by rw [aH,if_neg oY,f6.get c hc (by simp)]
  have bk:Fr [b] H (H6.ai b ⟨cY cs (k * 20) (aU {n with next:=ns[k].next,line:=ns[k].line,az:=ns[k].az} (.slice aA n.args.length kA) (.slice aP n.pat.length kP) (.slice aB n.ak.length kB)),59,true,false⟩):=(f6.sub (by simp)).ai (.inl (by simp)) _
  have gb:(H6.ai b ⟨cY cs (k * 20) (aU {n with next:=ns[k].next,line:=ns[k].line,az:=ns[k].az} (.slice aA n.args.length kA) (.slice aP n.pat.length kP) (.slice aB n.ak.length kB)),59,true,false⟩).get b=some ⟨cY cs (k * 20) (aU {n with next:=ns[k].next,line:=ns[k].line,az:=ns[k].az} (.slice aA n.args.length kA) (.slice aP n.pat.length kP) (.slice aB n.ak.length kB)),59,true,false⟩:=by rw [aH,if_pos rfl]
  generalize (H6.ai b ⟨cY cs (k * 20) (aU {n with next:=ns[k].next,line:=ns[k].line,az:=ns[k].az} (.slice aA n.args.length kA) (.slice aP n.pat.length kP) (.slice aB n.ak.length kB)),59,true,false⟩)=H7 at k6 bk gb
  have kg:∀c∈gA++(gP++gB),H7.get c=H.get c:=fun c hc=>k6 c (fk c hc).1 (by simpa using (fk c hc).2.2.2)
  have cA:Gr ku 59 H7 (.slice (some ⟨b,0,none⟩) ns.length ns.length) (qI ns k n) [b] (f1++((gA++(gP++gB))++f3)):=by
   rw [qI,gu]
   refine jk H7 _ _ _ (fun z hz=>k6 z (h.hg z (by rcases hz with e | e <;> simp [e])).1 ?_) (by rw [gX];exact gb) ⟨_,_,_,gA,gP,gB,rfl,rfl,hA.ae fun c hc=>kg c (by simp [hc]),hP.ae fun c hc=>kg c (by simp [hc]),hB.ae fun c hc=>kg c (by simp [hc])⟩ (fun e=>by simpa using (fk b e).2.2.2)
   rintro rfl
   exact fj (by rcases hz with e | e <;> simp [e])
  have p7:PP0 L F H7 q rb st:=h.pp.fr bk (by simpa using hbq.symm) (by simpa using eo.symm) fun c hc e=>qY (by rw [List.mem_singleton] at e;exact e▸hc)
  refine ⟨bk.af _,fun _=>trivial,f1++((gA++(gP++gB))++f3),NQ0.af ⟨p7,⟨_,(k6 q h.pp.ql hbq.symm).trans hq,cA⟩,fun c hc=>?_,fun c hc=>?_,by rw [qI,List.length_set];exact hnn⟩,fun c hc=>?_⟩
  ·rw [List.mem_singleton] at hc
   subst hc
   refine ⟨Nat.lt_of_lt_of_le fB bk.nx,eo,fU,qY,fun e=>?_⟩
   rcases List.mem_append.1 e with e | e
   ·exact fj (by simp [e])
   ·rcases List.mem_append.1 e with e | e
    ·simpa using (fk _ e).2.2.2
    ·exact fj (by simp [e])
  ·have dH:=bk.nx
   rcases List.mem_append.1 hc with e | e
   ·have:=h.hg c (by simp [e]);exact ⟨by omega,this.2⟩
   ·rcases List.mem_append.1 e with e | e
    ·have:=fk c e;exact ⟨by omega,this.2.1,this.2.2.1⟩
    ·have:=h.hg c (by simp [e]);exact ⟨by omega,this.2⟩
  ·rcases List.mem_append.1 hc with e | e
   ·exact .inl (by simp [e])
   ·rcases List.mem_append.1 e with e | e
    ·exact .inr e
    ·exact .inl (by simp [e])
 simp only [go_sem,hq,hb,vH,bg,bX,hk,nq,Of,nb,nb',hX,XZ]
 exact fin (((((((Fr.refl [] H).push _).push _).ai (.inr (Nat.le_succ _)) _).ai (.inr (Nat.le_refl _)) _).ai (.inr (Nat.le_refl _)) _).ai (.inr (Nat.le_refl _)) _)
def AF (L:List bJ) (st:aV):Bool:=cW L [100,111,110,101] st||cW L [99,97,108,108] st||cW L [97,103,97,105,110] st||cW L [103,117,97,114,100] st||cW L [105,102] st
theorem afi (hL:LG L) (h:PP L F H q rb st):aj Tryz.prog 151 #[pV q] H (fun w H'=>w=.bool (AF L st)/\gW L F H q rb st H'):=by
 refine aj.told ?_
 refine akj (Nat.le_refl _) fun hf=>?_
 simp only [Tryz.f151,Option.getD_some]
 have p0:=gW.refl h.toPP0
 simp only [go_sem]
 refine ag.by (gH (h.post p0)) ?_
 rintro _ H1 - ⟨rfl,r1⟩
 have p1:=p0.trans r1
 by_cases h1:cW L [100,111,110,101] st=true
 ·simp only [go_sem,h1]
  exact ⟨by simp [AF,h1],.last p1.1 p1.2.2⟩
 simp only [go_sem,h1]
 refine ag.by (gH (h.post p1)) ?_
 rintro _ H2 - ⟨rfl,r2⟩
 have p2:=p1.trans r2
 by_cases h2:cW L [99,97,108,108] st=true
 ·simp only [go_sem,h2]
  exact ⟨by simp [AF,h2],.last p2.1 p2.2.2⟩
 simp only [go_sem,h2]
 refine ag.by (gH (h.post p2)) ?_
 rintro _ H3 - ⟨rfl,r3⟩
 have p3:=p2.trans r3
 by_cases h3:cW L [97,103,97,105,110] st=true
 ·simp only [go_sem,h3]
  exact ⟨by simp [AF,h3],.last p3.1 p3.2.2⟩
 simp only [go_sem,h3]
 refine ag.by (gH (h.post p3)) ?_
 rintro _ H4 - ⟨rfl,r4⟩
 have p4:=p3.trans r4
 by_cases h4:cW L [103,117,97,114,100] st=true
 ·simp only [go_sem,h4]
  exact ⟨by simp [AF,h4],.last p4.1 p4.2.2⟩
 simp only [go_sem,h4]
 refine ag.by (gH (h.post p4)) ?_
 rintro _ H5 - ⟨rfl,r5⟩
 have p5:=p4.trans r5
 simp only [go_sem]
 exact ⟨by simp [AF,h1,h2,h3,h4],.last p5.1 p5.2.2⟩
def tQ (L:List bJ) (st:aV):Bool:=uX L st||cW L [108,101,116] st||cW L [115,101,116] st||cW L [115,112,97,119,110] st||cW L [108,111,111,112] st
theorem Pv (hL:LG L) (h:PP L F H q rb st):aj Tryz.prog 152 #[pV q] H (fun w H'=>w=.bool (tQ L st)/\gW L F H q rb st H'):=by
 refine aj.told ?_
 refine akl (Nat.le_refl _) fun hf=>?_
 simp only [Tryz.f152,Option.getD_some]
 have p0:=gW.refl h.toPP0
 simp only [go_sem]
 refine ag.by (L0 hL (h.post p0)) ?_
 rintro _ H1 - ⟨rfl,r1⟩
 have p1:=p0.trans r1
 by_cases h1:uX L st=true
 ·simp only [go_sem,h1]
  exact ⟨by simp [tQ,h1],.last p1.1 p1.2.2⟩
 simp only [go_sem,h1]
 refine ag.by (gH (h.post p1)) ?_
 rintro _ H2 - ⟨rfl,r2⟩
 have p2:=p1.trans r2
 by_cases h2:cW L [108,101,116] st=true
 ·simp only [go_sem,h2]
  exact ⟨by simp [tQ,h2],.last p2.1 p2.2.2⟩
 simp only [go_sem,h2]
 refine ag.by (gH (h.post p2)) ?_
 rintro _ H3 - ⟨rfl,r3⟩
 have p3:=p2.trans r3
 by_cases h3:cW L [115,101,116] st=true
 ·simp only [go_sem,h3]
  exact ⟨by simp [tQ,h3],.last p3.1 p3.2.2⟩
 simp only [go_sem,h3]
 refine ag.by (gH (h.post p3)) ?_
 rintro _ H4 - ⟨rfl,r4⟩
 have p4:=p3.trans r4
 by_cases h4:cW L [115,112,97,119,110] st=true
 ·simp only [go_sem,h4]
  exact ⟨by simp [tQ,h4],.last p4.1 p4.2.2⟩
 simp only [go_sem,h4]
 refine ag.by (gH (h.post p4)) ?_
 rintro _ H5 - ⟨rfl,r5⟩
 have p5:=p4.trans r5
 simp only [go_sem]
 exact ⟨by simp [tQ,h1,h2,h3,h4],.last p5.1 p5.2.2⟩
end
structure Bs (L:List bJ) (F:List Nat) (c1 c2 c3:Value) (H:ad) (q rb:Nat) (st:aV) (ns:List aJ) (m g:List Nat) (nb:Nat) (n:aJ) (gn:List Nat):Prop where
 nq:NQ0 L F c1 c2 c3 H q rb st ns m g
 ln:LN0 L F H q rb st nb n gn
 nm:nb∉m
 ng:nb∉g
 gm:∀c∈gn,c∉m
def UG (L:List bJ) (F:List Nat) (c1 c2 c3:Value) (H:ad) (q rb:Nat) (ns:List aJ) (m g:List Nat) (nb:Nat) (gn:List Nat) (bW:aV) (iG:List aJ) (n':aJ) (H':ad):Prop:=
 Fr (rb::q::nb::m) H H'/\(∀c,H'.fz c=H.fz c)/\ns.length<=iG.length/\∃m' g' gn',Bs L F c1 c2 c3 H' q rb bW iG m' g' nb n' gn'/\(∀c∈m',c∈m∨H.next<=c)/\(∀c∈g',c∈g∨H.next<=c)/\∀c∈gn',c∈gn∨H.next<=c
structure QR (zb:Bool) (L:List bJ) (F:List Nat) (c1 c2 c3:Value) (H:ad) (q rb:Nat) (ns:List aJ) (m g:List Nat) (nb:Nat) (gn:List Nat) (H1:ad) (bu:aV) (bZ:List aJ) (m1 g1:List Nat) (n1:aJ) (hO:List Nat):Prop where
 fr:Fr (rb::q::nb::m) H H1
 lq:Bs L F c1 c2 c3 H1 q rb bu bZ m1 g1 nb n1 hO
 le:ns.length<=bZ.length
 sm:∀c∈m1,c∈m∨H.next<=c
 sg:∀c∈g1,c∈g∨H.next<=c
 sn:∀c∈hO,c∈gn∨H.next<=c
 fz:H1.fz rb=false
 fq:H1.fz q=false
 fb:H1.fz nb=zb
 fm:∀c∈m1,H1.fz c=false
 fn:∀b,H1.next<=b->H1.fz b=false
section
variable {zb:Bool} {L:List bJ} {F:List Nat} {c1 c2 c3:Value} {H H1 H2:ad} {q rb nb:Nat} {st bu bH:aV} {ns bZ cB:List aJ} {m m1 m2 g g1 g2 gn hO tp:List Nat} {n n1 n2:aJ}
theorem QR.nq (h:QR zb L F c1 c2 c3 H q rb ns m g nb gn H1 bu bZ m1 g1 n1 hO):NQ L F c1 c2 c3 H1 q rb bu bZ m1 g1:={h.lq.nq with fz:=h.fz,fq:=h.fq,fm:=h.fm,fn:=h.fn}
theorem QR.ln (h:QR false L F c1 c2 c3 H q rb ns m g nb gn H1 bu bZ m1 g1 n1 hO):LN L F H1 q rb bu nb n1 hO:={h.lq.ln with fz:=h.fz,fb:=h.fb,fn:=h.fn}
theorem QR.pp (h:QR zb L F c1 c2 c3 H q rb ns m g nb gn H1 bu bZ m1 g1 n1 hO):PP L F H1 q rb bu:={h.lq.nq.pp with fz:=h.fz}
theorem Bs.fr (h:Bs L F c1 c2 c3 H q rb st ns m g nb n gn) {bW:aV} {M:List Nat} (bk:Fr M H H1) (hp:PP0 L F H1 q rb bW) (mq:q∉M) (mn:nb∉M) (mm:∀c∈m,c∉M) (mg:∀c∈g,c∉M) (mgn:∀c∈gn,c∉M):Bs L F c1 c2 c3 H1 q rb bW ns m g nb n gn:=
 ⟨h.nq.fr bk hp mq mm mg,h.ln.fr bk hp mn mgn,h.nm,h.ng,h.gm⟩
theorem QR.start (h:Bs L F c1 c2 c3 H q rb st ns m g nb n gn) (fz:H.fz rb=false) (fq:H.fz q=false) (fb:H.fz nb=zb) (fm:∀c∈m,H.fz c=false) (fn:∀b,H.next<=b->H.fz b=false):QR zb L F c1 c2 c3 H q rb ns m g nb gn H st ns m g n gn:=
 ⟨.refl _ _,h,Nat.le_refl _,fun _ h=>.inl h,fun _ h=>.inl h,fun _ h=>.inl h,fz,fq,fb,fm,fn⟩
theorem QR.bh (h:QR zb L F c1 c2 c3 H q rb ns m g nb gn H1 bu bZ m1 g1 n1 hO) {bW:aV} (hp:gW L F H1 q rb bW H2):QR zb L F c1 c2 c3 H q rb ns m g nb gn H2 bW bZ m1 g1 n1 hO:=
 ⟨h.fr.then (hp.1.sub fun c hc=>.inl (by rw [List.mem_singleton] at hc;simp [hc])),
  h.lq.fr hp.1 hp.2.2 (by simpa using h.pp.qr) (by simpa using h.lq.ln.nr) (fun c hc=>by simpa using (h.lq.nq.hm c hc).2.1) (fun c hc=>by simpa using (h.lq.nq.hg c hc).2.1) (fun c hc=>by simpa using (h.lq.ln.hg c hc).2.1),
  h.le,h.sm,h.sg,h.sn,by rw [hp.2.1];exact h.fz,by rw [hp.2.1];exact h.fq,by rw [hp.2.1];exact h.fb,fun c hc=>by rw [hp.2.1];exact h.fm c hc,fun b hb=>by rw [hp.2.1];exact h.fn b (Nat.le_trans hp.1.nx hb)⟩
theorem QR.push (h:QR zb L F c1 c2 c3 H q rb ns m g nb gn H1 bu bZ m1 g1 n1 hO) (B:cO) (hB:B.ro=false:=by rfl):QR zb L F c1 c2 c3 H q rb ns m g nb gn (H1.push B) bu bZ m1 g1 n1 hO:=by
 have key:∀c,c < H1.next->(H1.push B).fz c=H1.fz c:=fun c hc=>by
  rw [rv,show (c==H1.next)=false from by rw [beq_eq_false_iff_ne];omega,Bool.false_or]
 exact ⟨h.fr.push B hB,h.lq.fr ((aG.push H1 B hB).fr []) (h.lq.nq.pp.au (aG.push H1 B hB)) (by simp) (by simp) (by simp) (by simp) (by simp),h.le,h.sm,h.sg,h.sn,
  by rw [key _ h.pp.rl];exact h.fz,by rw [key _ h.pp.ql];exact h.fq,by rw [key _ h.lq.ln.nl];exact h.fb,fun c hc=>by rw [key _ (h.lq.nq.hm c hc).1];exact h.fm c hc,fun b hb=>(by rw [bI] at hb;rw [rv,h.fn b (by omega),Bool.or_false,beq_eq_false_iff_ne];omega)⟩
theorem PP.i5 (hL:LG L) (h:PP L F H q rb st) (hk:(tk L st).kind≠4):∃c1 c2 c3 c4 bL oL cL a k c,H.get q=some ⟨[.pointer (some ⟨rb,0,none⟩),c1,c2,c3,c4],123,false,false⟩/\
  H.get rb=some ⟨[.slice (some ⟨bL,oL,none⟩) L.length cL,iV (st.at_:Nat),.slice none 0 0,.bool true,iV st.depth,iV st.bad,.slice a k c],121,false,false⟩/\IntKind.wrap .i64 (((st.at_:Nat):Int)+1)=((st.at_+1:Nat):Int)/\
  gW L F H q rb (aC st) (H.ai rb ⟨[.slice (some ⟨bL,oL,none⟩) L.length cL,iV ((st.at_+1:Nat):Int),.slice none 0 0,.bool true,iV st.depth,iV st.bad,.slice a k c],121,false,false⟩):=by
 obtain ⟨c1,c2,c3,c4,bL,oL,cL,BL,a,n,c,hq,hr,_⟩:=h.fM
 have fK:=hL.len
 exact ⟨c1,c2,c3,c4,bL,oL,cL,a,n,c,hq,hr,cG h.at_ (by omega),(Fr.refl _ _).ai (.inl (by simp)) _,fun _=>rfl,h.toPP0.set hr (aC st) (oK hL h.at_ hk)⟩
theorem QR.node (h:QR zb L F c1 c2 c3 H q rb ns m g nb gn H1 bu bZ m1 g1 n1 hO) {n':aJ} {vA vP vB:Value} {gA gP gB:List Nat} (h2:Sl jy H1 vA n'.args gA) (h3:Sl gU H1 vP n'.pat gP) (h4:Sl eQ H1 vB n'.ak gB)
  (hg:∀c∈gA++(gP++gB),c∈hO∨H.next<=c/\c < H1.next/\c≠rb/\c≠nb/\c≠q/\c∉m1):
  QR zb L F c1 c2 c3 H q rb ns m g nb gn (H1.ai nb ⟨aU n' vA vP vB,59,false,false⟩) bu bZ m1 g1 n' (gA++(gP++gB)):=by
 have hl:=h.lq.ln
 have fY:∀c∈gA++(gP++gB),c < H1.next/\c≠rb/\c≠nb/\c≠q:=fun c hc=>(hg c hc).elim (hl.hg c) fun e=>⟨e.2.1,e.2.2.1,e.2.2.2.1,e.2.2.2.2.1⟩
 have k:∀c∈gA++(gP++gB),(H1.ai nb ⟨aU n' vA vP vB,59,false,false⟩).get c=H1.get c:=fun c hc=>by rw [aH,if_neg (fY c hc).2.2.1]
 have bk:Fr [nb] H1 (H1.ai nb ⟨aU n' vA vP vB,59,false,false⟩):=(Fr.refl _ _).ai (.inl (by simp)) _
 have EI:=hl.pp.put ⟨aU n' vA vP vB,59,false,false⟩ hl.nq hl.nr hl.nF
 refine ⟨h.fr.ai (.inl (by simp)) _,⟨h.lq.nq.fr bk EI (by simpa using Ne.symm hl.nq) (fun c hc=>by simp;rintro rfl;exact h.lq.nm hc) (fun c hc=>by simp;rintro rfl;exact h.lq.ng hc),
  ⟨EI,⟨vA,vP,vB,gA,gP,gB,by rw [aH,if_pos rfl],h2.ae fun c hc=>k c (by simp [hc]),h3.ae fun c hc=>k c (by simp [hc]),h4.ae fun c hc=>k c (by simp [hc]),rfl⟩,hl.nl,hl.nr,hl.nq,hl.nF,fY⟩,
  h.lq.nm,h.lq.ng,fun c hc=>(hg c hc).elim (h.lq.gm c) fun e=>e.2.2.2.2.2⟩,h.le,h.sm,h.sg,fun c hc=>(hg c hc).elim (h.sn c) fun e=>.inr e.1,h.fz,h.fq,h.fb,h.fm,h.fn⟩
theorem QR.nd (h:QR zb L F c1 c2 c3 H q rb ns m g nb gn H1 bu bZ m1 g1 n1 hO):∃vA vP vB,H1.get nb=some ⟨aU n1 vA vP vB,59,false,false⟩:=by
 obtain ⟨Ho,qm,EG,gA,gP,gB,h1,_⟩:=h.lq.ln.nd
 exact ⟨_,_,_,h1⟩
theorem QR.hY (h:QR zb L F c1 c2 c3 H q rb ns m g nb gn H1 bu bZ m1 g1 n1 hO) {vA vP vB:Value} (cP:H1.get nb=some ⟨aU n1 vA vP vB,59,false,false⟩) (n':aJ) (ha:n'.args=n1.args) (hp:n'.pat=n1.pat) (hb:n'.ak=n1.ak):QR zb L F c1 c2 c3 H q rb ns m g nb gn (H1.ai nb ⟨aU n' vA vP vB,59,false,false⟩) bu bZ m1 g1 n' hO:=by
 obtain ⟨Ho,qm,EG,gA,gP,gB,h1,h2,h3,h4,rfl⟩:=h.lq.ln.nd
 rw [cP] at h1
 cases h1
 exact h.node (ha▸h2) (hp▸h3) (hb▸h4) fun c hc=>.inl hc
theorem QR.new (h:QR zb L F c1 c2 c3 H q rb ns m g nb gn H1 bu bZ m1 g1 n1 hO) {c:Nat} (hc:H1.next<=c):H.next<=c/\c≠rb/\c≠nb/\c≠q/\c∉m1:=
 ⟨Nat.le_trans h.fr.nx hc,by have:=h.pp.rl;omega,by have:=h.lq.ln.nl;omega,by have:=h.pp.ql;omega,fun e=>by have:=(h.lq.nq.hm c e).1;omega⟩
theorem QR.args (h:QR zb L F c1 c2 c3 H q rb ns m g nb gn H1 bu bZ m1 g1 n1 hO) {vA vP vB v:Value} (cP:H1.get nb=some ⟨aU n1 vA vP vB,59,false,false⟩) (n':aJ) {f:List Nat} (hs:Sl jy H1 v n'.args f) (hf:∀c∈f,c < H1.next/\(H.next<=c/\c≠rb/\c≠nb/\c≠q/\c∉m1)) (hp:n'.pat=n1.pat) (hb:n'.ak=n1.ak):∃g',QR zb L F c1 c2 c3 H q rb ns m g nb gn (H1.ai nb ⟨aU n' v vP vB,59,false,false⟩) bu bZ m1 g1 n' g':=by
 obtain ⟨Ho,qm,EG,gA,gP,gB,h1,h2,h3,h4,rfl⟩:=h.lq.ln.nd
 rw [cP] at h1
 cases h1
 refine ⟨_,h.node hs (hp▸h3) (hb▸h4) fun c hc=>?_⟩
 rcases List.mem_append.1 hc with e | e
 ·exact .inr ⟨(hf c e).2.1,(hf c e).1,(hf c e).2.2⟩
 ·exact .inl (List.mem_append_right _ e)
theorem QR.pat (h:QR zb L F c1 c2 c3 H q rb ns m g nb gn H1 bu bZ m1 g1 n1 hO) {vA vP vB v:Value} (cP:H1.get nb=some ⟨aU n1 vA vP vB,59,false,false⟩) (n':aJ) {f:List Nat} (hs:Sl gU H1 v n'.pat f) (hf:∀c∈f,c < H1.next/\(H.next<=c/\c≠rb/\c≠nb/\c≠q/\c∉m1)) (ha:n'.args=n1.args) (hb:n'.ak=n1.ak):∃g',QR zb L F c1 c2 c3 H q rb ns m g nb gn (H1.ai nb ⟨aU n' vA v vB,59,false,false⟩) bu bZ m1 g1 n' g':=by
 obtain ⟨Ho,qm,EG,gA,gP,gB,h1,h2,h3,h4,rfl⟩:=h.lq.ln.nd
 rw [cP] at h1
 cases h1
 refine ⟨_,h.node (ha▸h2) hs (hb▸h4) fun c hc=>?_⟩
 rcases List.mem_append.1 hc with e | e
 ·exact .inl (by simp [e])
 ·rcases List.mem_append.1 e with e | e
  ·exact .inr ⟨(hf c e).2.1,(hf c e).1,(hf c e).2.2⟩
  ·exact .inl (by simp [e])
theorem QR.cU (h:QR zb L F c1 c2 c3 H q rb ns m g nb gn H1 bu bZ m1 g1 n1 hO) {vA vP vB v:Value} (cP:H1.get nb=some ⟨aU n1 vA vP vB,59,false,false⟩) (n':aJ) {f:List Nat} (hs:Sl eQ H1 v n'.ak f) (hf:∀c∈f,c < H1.next/\(H.next<=c/\c≠rb/\c≠nb/\c≠q/\c∉m1)) (ha:n'.args=n1.args) (hp:n'.pat=n1.pat):∃g',QR zb L F c1 c2 c3 H q rb ns m g nb gn (H1.ai nb ⟨aU n' vA vP v,59,false,false⟩) bu bZ m1 g1 n' g':=by
 obtain ⟨Ho,qm,EG,gA,gP,gB,h1,h2,h3,h4,rfl⟩:=h.lq.ln.nd
 rw [cP] at h1
 cases h1
 refine ⟨_,h.node (ha▸h2) (hp▸h3) hs fun c hc=>?_⟩
 rcases List.mem_append.1 hc with e | e
 ·exact .inl (by simp [e])
 ·rcases List.mem_append.1 e with e | e
  ·exact .inl (by simp [e])
  ·exact .inr ⟨(hf c e).2.1,(hf c e).1,(hf c e).2.2⟩
theorem QR.Mv (h:QR zb L F c1 c2 c3 H q rb ns m g nb gn H1 bu bZ m1 g1 n1 hO) {bW:aV} {n':aJ} (hp:Je L F H1 q rb nb hO bW n' H2):∃tp,QR zb L F c1 c2 c3 H q rb ns m g nb gn H2 bW bZ m1 g1 n' tp:=by
 obtain ⟨hf,hz,g2,h0,hs⟩:=hp
 have hm:=h.lq.nq.hm
 refine ⟨g2,h.fr.then (hf.sub fun c hc=>.inl (by simp at hc;rcases hc with e | e <;> simp [e])),⟨h.lq.nq.fr hf h0.pp (by simp;exact ⟨h.pp.qr,Ne.symm h.lq.ln.nq⟩) (fun c hc=>by simp;exact ⟨(hm c hc).2.1,by rintro rfl;exact h.lq.nm hc⟩) (fun c hc=>by simp;exact ⟨(h.lq.nq.hg c hc).2.1,by rintro rfl;exact h.lq.ng hc⟩),h0,h.lq.nm,h.lq.ng,fun c hc e=>?_⟩,
  h.le,h.sm,h.sg,fun c hc=>(hs c hc).elim (h.sn c) fun e=>.inr (Nat.le_trans h.fr.nx e),by rw [hz];exact h.fz,by rw [hz];exact h.fq,by rw [hz];exact h.fb,fun c hc=>by rw [hz];exact h.fm c hc,fun b hb=>by rw [hz];exact h.fn b (Nat.le_trans hf.nx hb)⟩
 rcases hs c hc with e' | e'
 ·exact h.lq.gm c e' e
 ·have:=(hm c e).1;omega
theorem QR.xW (h:QR zb L F c1 c2 c3 H q rb ns m g nb gn H1 bu bZ m1 g1 n1 hO) {bW:aV} {iG:List aJ} (hp:yX L F c1 c2 c3 H1 q rb bZ m1 g1 bW iG H2):∃m2 g2,QR zb L F c1 c2 c3 H q rb ns m g nb gn H2 bW iG m2 g2 n1 hO:=by
 obtain ⟨hf,hz,hle,m2,g2,h0,hs,jf⟩:=hp
 have hl:=h.lq.ln
 have oX:=hl.nl
 have dH:=h.fr.nx
 refine ⟨m2,g2,h.fr.trans hf fun c hc=>?_,⟨h0,hl.fr hf h0.pp (by simp;exact ⟨hl.nr,hl.nq,h.lq.nm⟩) (fun c hc=>by simp;exact ⟨(hl.hg c hc).2.1,(hl.hg c hc).2.2.2,h.lq.gm c hc⟩),fun e=>(hs _ e).elim h.lq.nm fun e=>by omega,fun e=>(jf _ e).elim h.lq.ng fun e=>by omega,fun c hc e=>(hs c e).elim (h.lq.gm c hc) fun e=>by have:=(hl.hg c hc).1;omega⟩,
  Nat.le_trans h.le hle,fun c hc=>(hs c hc).elim (h.sm c) fun e=>.inr (Nat.le_trans dH e),fun c hc=>(jf c hc).elim (h.sg c) fun e=>.inr (Nat.le_trans dH e),h.sn,by rw [hz];exact h.fz,by rw [hz];exact h.fq,by rw [hz];exact h.fb,fun c hc=>?_,fun b hb=>by rw [hz];exact h.fn b (Nat.le_trans hf.nx hb)⟩
 ·simp only [List.mem_cons] at hc ⊢
  rcases hc with e | e | e
  ·exact .inl (.inl e)
  ·exact .inl (.inr (.inl e))
  ·exact (h.sm c e).imp (fun e=>.inr (.inr (.inr e))) id
 ·rw [hz]
  rcases hs c hc with e | e
  ·exact h.fm c e
  ·exact h.fn c e
theorem QR.DY (h:QR zb L F c1 c2 c3 H q rb ns m g nb gn H1 bu bZ m1 g1 n1 hO) {bW:aV} {iG:List aJ} {n':aJ} (hp:UG L F c1 c2 c3 H1 q rb bZ m1 g1 nb hO bW iG n' H2):∃m2 g2 tp,QR zb L F c1 c2 c3 H q rb ns m g nb gn H2 bW iG m2 g2 n' tp:=by
 obtain ⟨hf,hz,hle,m2,g2,tp,h0,hs,jf,KJ⟩:=hp
 have dH:=h.fr.nx
 refine ⟨m2,g2,tp,h.fr.trans hf fun c hc=>?_,h0,Nat.le_trans h.le hle,fun c hc=>(hs c hc).elim (h.sm c) fun e=>.inr (Nat.le_trans dH e),fun c hc=>(jf c hc).elim (h.sg c) fun e=>.inr (Nat.le_trans dH e),fun c hc=>(KJ c hc).elim (h.sn c) fun e=>.inr (Nat.le_trans dH e),by rw [hz];exact h.fz,by rw [hz];exact h.fq,by rw [hz];exact h.fb,fun c hc=>?_,fun b hb=>by rw [hz];exact h.fn b (Nat.le_trans hf.nx hb)⟩
 ·simp only [List.mem_cons] at hc ⊢
  rcases hc with e | e | e | e
  ·exact .inl (.inl e)
  ·exact .inl (.inr (.inl e))
  ·exact .inl (.inr (.inr (.inl e)))
  ·exact (h.sm c e).imp (fun e=>.inr (.inr (.inr e))) id
 ·rw [hz]
  rcases hs c hc with e | e
  ·exact h.fm c e
  ·exact h.fn c e
theorem QR.sm' (h:QR zb L F c1 c2 c3 H q rb ns m g nb gn H1 bu bZ m1 g1 n1 hO):∀c∈m1,c∈rb::q::m∨H.next<=c:=fun c hc=>(h.sm c hc).imp (fun e=>by simp [e]) id
theorem QR.last (h:QR zb L F c1 c2 c3 H q rb ns m g nb gn H1 bu bZ m1 g1 n1 hO):UG L F c1 c2 c3 H q rb ns m g nb gn bu bZ n1 (H1.af H.fz):=
 ⟨h.fr.af _,fun _=>rfl,h.le,m1,g1,hO,h.lq.fr ((Fr.refl [] H1).af _) h.pp.toPP0.af (by simp) (by simp) (by simp) (by simp) (by simp),h.sm,h.sg,h.sn⟩
def CF (L:List bJ) (F:List Nat) (c1 c2 c3:Value) (q rb:Nat) (bj:Int->aV × List aJ->Option (Int × aV × List aJ)):Prop:=∀{H:ad} {st bW:aV} {ns iG:List aJ} {m g:List Nat} {kind i:Int},NQ L F c1 c2 c3 H q rb st ns m g->bj kind (st,ns)=some (i,bW,iG)->
 aj Tryz.prog 126 #[pV q,iV kind] H (fun w H'=>w=iV i/\yX L F c1 c2 c3 H q rb ns m g bW iG H')
end
section
variable {zb:Bool} {L:List bJ} {F:List Nat} {c1 c2 c3:Value} {H H1 H2:ad} {q rb nb:Nat} {st bu bH:aV} {ns bZ cB:List aJ} {m m1 m2 g g1 g2 gn hO tp:List Nat} {n n1 n2:aJ}
theorem aaX (h:0 < mE L st):(tk L st).kind≠4:=by
 have N4:∀(l:List bC) (k:Int),Ed L st k l≠0->(tk L st).kind≠4:=by
  intro l
  induction l with
  | nil=>intro k h;exact absurd rfl h
  | cons s l ih=>
   intro k h
   rw [Ed] at h
   split at h
   ·rename_i hw;exact jT hw
   ·exact ih _ h
 exact N4 vc 1 (by show mE L st≠0;omega)
theorem Cf {e:Int} (he:e≠0):dj (fD e st)=false:=by
 unfold fD dj
 split
 ·simpa using he
 ·simpa
abbrev qZ:=Int->aV × List aJ->Option (Int × aV × List aJ)
def QM (L:List bJ) (st:aV):aV:=if mE L st≠1/\mE L st≠2 then fD 2 st else st
def adZ (L:List bJ) (st:aV):aV:=if dj (QM L st)=true then aC (QM L st) else QM L st
def M4 (L:List bJ) (bj:qZ) (st:aV) (ns:List aJ) (n:aJ):Option (aV × List aJ × aJ):=
 if dj st=true then
  (if cW L [110,101,119] st=true then some (aC st,ns,{n with kind:=1})
  else if cW L [115,116,97,114,116] st=true then
   (let y:=cF L (aC st);let z:=rA L y.2;some (z.2,ns,{n with kind:=2,ik:=y.1,args:=z.1}))
  else if cW L [103,101,116] st=true then
   (let y:=cF L (aC st);let x:=AN L y.2 {n with kind:=5,ie:=y.1};some (x.1,ns,x.2))
  else if cW L [115,119,97,112] st=true then
   (let y:=cF L (aC st);let r:=cF L y.2;let f:=cF L (dO L [46] r.2);let a:=ir L (dO L [44] f.2);some (a.2,ns,{n with kind:=7,ie:=y.1,j4:=r.1,ik:=f.1,args:=[a.1]}))
  else if cW L [114,101,99,111,118,101,114] st=true then
   (bj 2 (adZ L (aC st),ns)).map fun x=>(x.2.1,x.2.2,{n with kind:=8,cap:=mE L (aC st),a:=x.1})
  else if 0 < mE L st/\mE L st≠4 then
   some ((JI L (aC st) n (mE L st)).1,ns,(JI L (aC st) n (mE L st)).2)
  else some ((Mu L st n).1,ns,(Mu L st n).2))
 else some (st,ns,n)
theorem anX (hL:LG L) {bj:qZ} (dy:CF L F c1 c2 c3 q rb bj) (h:Bs L F c1 c2 c3 H q rb st ns m g nb n gn) (hz:H.fz rb=false) (xv:H.fz q=false) (cX:H.fz nb=false) (Sq:∀c∈m,H.fz c=false) (iK:n.op=0) {R:aV × List aJ × aJ} (he:M4 L bj st ns n=some R):
  aj Tryz.prog 167 #[pV q,pV nb] H (fun w H'=>UG L F c1 c2 c3 H q rb ns m g nb gn R.1 R.2.1 R.2.2 H'):=by
 refine aj.told ?_
 refine akN (Nat.le_refl _) fun hf=>?_
 simp only [Tryz.f167,Option.getD_some]
 simp only [go_sem]
 have r0:=QR.start h hz xv cX Sq fun b hb=>hf.fresh hb
 have dY:=h.ln.nr
 have dP:¬rb=nb:=fun e=>dY e.symm
 have gV:¬q=nb:=fun e=>h.ln.nq e.symm
 have fK:=hL.len
 refine ag.by (fA r0.pp) ?_
 rintro _ _ - ⟨rfl,rfl⟩
 by_cases hb:dj st=true
 ·rw [M4,if_pos hb] at he
  simp only [go_sem,hb]
  refine ag.by (QK r0.pp) ?_
  rintro _ H1 - ⟨rfl,p1⟩
  have r1:=r0.bh p1
  simp only [go_sem]
  refine ag.by (gH r1.pp) ?_
  rintro _ H2 - ⟨rfl,p2⟩
  have r2:=r1.bh p2
  by_cases h1:cW L [110,101,119] st=true
  ·rw [if_pos h1] at he
   cases he
   obtain ⟨d1,d2,d3,d4,bL,oL,cL,a,k,c,hq,hr,db,pa⟩:=r2.pp.i5 hL (jT h1)
   have ra:=r2.bh pa
   obtain ⟨vA,vP,vB,cP⟩:=ra.nd
   have zs:=cP
   rw [aH,if_neg dY] at zs
   simp only [go_sem,h1,hq,hr,hz,db,dY,dP,gV,zs,cX]
   exact (ra.hY cP {n with kind:=1} rfl rfl rfl).last
  rw [if_neg h1] at he
  simp only [go_sem,h1]
  refine ag.by (gH r2.pp) ?_
  rintro _ H3 - ⟨rfl,p3⟩
  have r3:=r2.bh p3
  by_cases h2:cW L [115,116,97,114,116] st=true
  ·rw [if_pos h2] at he
   dsimp only at he
   cases he
   obtain ⟨d1,d2,d3,d4,bL,oL,cL,a,k,c,hq,hr,db,pa⟩:=r3.pp.i5 hL (jT h2)
   have ra:=r3.bh pa
   simp only [go_sem,h2,hq,hr,hz,db]
   refine ag.by (jS hL ra.pp) ?_
   rintro _ H4 - ⟨rfl,p4⟩
   have r4:=ra.bh p4
   obtain ⟨vA,vP,vB,cP⟩:=r4.nd
   have r5:=r4.hY cP {n with kind:=2,ik:=(cF L (aC st)).1} rfl rfl rfl
   simp only [go_sem,cP,cX]
   rw [sU]
   refine ag.by (Jc hL r5.pp) ?_
   rintro va H6 - ⟨⟨ga,iw,kh⟩,p6⟩
   have r6:=r5.bh p6
   obtain ⟨Hr,sf,sh,jz⟩:=r6.nd
   obtain ⟨aa,ca,Ai⟩:=iw.val
   subst Ai
   simp only [go_sem,jz,cX]
   obtain ⟨g7,r7⟩:=r6.args jz {n with kind:=2,ik:=(cF L (aC st)).1,args:=(rA L (cF L (aC st)).2).1} iw (fun b hb=>⟨(kh b hb).2,r5.new (kh b hb).1⟩) rfl rfl
   exact r7.last
  rw [if_neg h2] at he
  simp only [go_sem,h2]
  refine ag.by (gH r3.pp) ?_
  rintro _ H4 - ⟨rfl,p4⟩
  have r4:=r3.bh p4
  by_cases h3:cW L [103,101,116] st=true
  ·rw [if_pos h3] at he
   dsimp only at he
   cases he
   obtain ⟨d1,d2,d3,d4,bL,oL,cL,a,k,c,hq,hr,db,pa⟩:=r4.pp.i5 hL (jT h3)
   have ra:=r4.bh pa
   simp only [go_sem,h3,hq,hr,hz,db]
   refine ag.by (jS hL ra.pp) ?_
   rintro _ H5 - ⟨rfl,p5⟩
   have r5:=ra.bh p5
   obtain ⟨vA,vP,vB,cP⟩:=r5.nd
   have r6:=r5.hY cP {n with kind:=5,ie:=(cF L (aC st)).1} rfl rfl rfl
   simp only [go_sem,cP,cX]
   rw [sU]
   refine ag.by (agX hL r6.ln) ?_
   rintro _ H7 - p7
   obtain ⟨g7,r7⟩:=r6.Mv p7
   simp only [go_sem]
   exact r7.last
  rw [if_neg h3] at he
  simp only [go_sem,h3]
  refine ag.by (gH r4.pp) ?_
  rintro _ H5 - ⟨rfl,p5⟩
  have r5:=r4.bh p5
  by_cases h4:cW L [115,119,97,112] st=true
  ·rw [if_pos h4] at he
   dsimp only at he
   cases he
   obtain ⟨d1,d2,d3,d4,bL,oL,cL,a,k,c,hq,hr,db,pa⟩:=r5.pp.i5 hL (jT h4)
   have ra:=r5.bh pa
   simp only [go_sem,h4,hq,hr,hz,db]
   refine ag.by (jS hL ra.pp) ?_
   rintro _ H6 - ⟨rfl,p6⟩
   have r6:=ra.bh p6
   obtain ⟨vA,vP,vB,cP⟩:=r6.nd
   have r7:=r6.hY cP {n with kind:=7,ie:=(cF L (aC st)).1} rfl rfl rfl
   simp only [go_sem,cP,cX]
   rw [sU]
   generalize cF L (aC st)=y at p6 r6 r7
   refine ag.by (jS hL r7.pp) ?_
   rintro _ H8 - ⟨rfl,p8⟩
   have r8:=r7.bh p8
   obtain ⟨vA8,vP8,vB8,ug⟩:=r8.nd
   have r9:=r8.hY ug {n with kind:=7,ie:=y.1,j4:=(cF L y.2).1} rfl rfl rfl
   simp only [go_sem,ug,cX]
   generalize cF L y.2=yr at p8 r8 r9
   refine ag.by (i3 hL r9.pp) ?_
   rintro _ du - nK
   have cS:=r9.bh nK
   simp only [go_sem]
   refine ag.by (jS hL cS.pp) ?_
   rintro _ eA - ⟨rfl,sj⟩
   have dV:=cS.bh sj
   obtain ⟨aBl,aBm,aBn,acW⟩:=dV.nd
   have dF:=dV.hY acW {n with kind:=7,ie:=y.1,j4:=yr.1,ik:=(cF L (dO L [46] yr.2)).1} rfl rfl rfl
   simp only [go_sem,acW,cX]
   generalize cF L (dO L [46] yr.2)=yf at sj dV dF
   refine ag.by (i3 hL dF.pp) ?_
   rintro _ ux - qj
   have la:=dF.bh qj
   simp only [go_sem]
   refine ag.by (DW hL la.pp) ?_
   rintro _ oB - ⟨rfl,Sr⟩
   have nL:=la.bh Sr
   obtain ⟨apF,apG,apH,acX⟩:=nL.nd
   generalize ir L (dO L [44] yf.2)=x at Sr nL
   have nn:¬nb=oB.next:=by have:=nL.lq.ln.nl;omega
   simp only [go_sem,acX,cX,nn,eX rz (by decide) (by decide)]
   have tq:=nL.push ⟨[iV x.1.kind,iV x.1.n,ah x.1.name],145,false,false⟩
   have anY:(oB.push ⟨[iV x.1.kind,iV x.1.n,ah x.1.name],145,false,false⟩).get nb=some ⟨aU {n with kind:=7,ie:=y.1,j4:=yr.1,ik:=yf.1} apF apG apH,59,false,false⟩:=by rw [bO nL.lq.ln.nl];exact acX
   obtain ⟨g16,Hw⟩:=tq.args anY {n with kind:=7,ie:=y.1,j4:=yr.1,ik:=yf.1,args:=[x.1]} L1 (fun c hc=>by rw [List.mem_singleton] at hc;subst hc;exact ⟨Nat.lt_succ_self _,nL.new (Nat.le_refl _)⟩) rfl rfl
   exact Hw.last
  rw [if_neg h4] at he
  simp only [go_sem,h4]
  refine ag.by (gH r5.pp) ?_
  rintro _ H6 - ⟨rfl,p6⟩
  have r6:=r5.bh p6
  by_cases h5:cW L [114,101,99,111,118,101,114] st=true
  ·rw [if_pos h5] at he
   obtain ⟨d1,d2,d3,d4,bL,oL,cL,a,k,c,hq,hr,db,pa⟩:=r6.pp.i5 hL (jT h5)
   have ra:=r6.bh pa
   simp only [go_sem,h5,hq,hr,hz,db]
   refine ag.by (QK ra.pp) ?_
   rintro _ H7 - ⟨rfl,p7⟩
   have r7:=ra.bh p7
   obtain ⟨vA,vP,vB,cP⟩:=r7.nd
   have r8:=r7.hY cP {n with kind:=8,cap:=mE L (aC st)} rfl rfl rfl
   simp only [go_sem,cP,cX]
   rw [sU]
   obtain ⟨vA8,vP8,vB8,ug⟩:=r8.nd
   have zY:=aaX (L:=L) (st:=aC st)
   rw [adZ,QM] at he
   generalize hcp:mE L (aC st)=cp at p7 r7 r8 ug he zY
   cases eG:bj 2 (if dj (if cp≠1/\cp≠2 then fD 2 (aC st) else aC st)=true then aC (if cp≠1/\cp≠2 then fD 2 (aC st) else aC st) else (if cp≠1/\cp≠2 then fD 2 (aC st) else aC st),ns) with
   | none=>rw [eG] at he;cases he
   | some B=>
    obtain ⟨bi,bs,bn⟩:=B
    rw [eG] at he
    cases he
    by_cases e1:cp=1
    ·subst e1
     rw [show (if (1:Int)≠1/\(1:Int)≠2 then fD 2 (aC st) else aC st)=aC st from if_neg (by decide)] at eG
     simp only [go_sem]
     refine ag.by (fA r8.pp) ?_
     rintro _ _ - ⟨rfl,rfl⟩
     by_cases hk:dj (aC st)=true
     ·rw [if_pos hk] at eG
      obtain ⟨d1,d2,d3,d4,bL,oL,cL,a,k,c,hq,hr,db,pa⟩:=r8.pp.i5 hL (zY (by decide))
      have EJ:=r8.bh pa
      simp only [go_sem,hk,hq,hr,hz,db]
      refine ag.by (dy EJ.nq eG) ?_
      rintro _ lL - ⟨rfl,ld⟩
      obtain ⟨lg,lh,jq⟩:=EJ.xW ld
      obtain ⟨Ef,Eg,Eh,lE⟩:=jq.nd
      simp only [go_sem,lE,cX]
      exact (jq.hY lE {n with kind:=8,cap:=1,a:=bi} rfl rfl rfl).last
     ·rw [if_neg hk] at eG
      simp only [go_sem,hk]
      refine ag.by (dy r8.nq eG) ?_
      rintro _ lL - ⟨rfl,ld⟩
      obtain ⟨lg,lh,jq⟩:=r8.xW ld
      obtain ⟨Ef,Eg,Eh,lE⟩:=jq.nd
      simp only [go_sem,lE,cX]
      exact (jq.hY lE {n with kind:=8,cap:=1,a:=bi} rfl rfl rfl).last
    by_cases e2:cp=2
    ·subst e2
     rw [show (if (2:Int)≠1/\(2:Int)≠2 then fD 2 (aC st) else aC st)=aC st from if_neg (by decide)] at eG
     simp only [go_sem,ug]
     refine ag.by (fA r8.pp) ?_
     rintro _ _ - ⟨rfl,rfl⟩
     by_cases hk:dj (aC st)=true
     ·rw [if_pos hk] at eG
      obtain ⟨d1,d2,d3,d4,bL,oL,cL,a,k,c,hq,hr,db,pa⟩:=r8.pp.i5 hL (zY (by decide))
      have EJ:=r8.bh pa
      simp only [go_sem,hk,hq,hr,hz,db]
      refine ag.by (dy EJ.nq eG) ?_
      rintro _ lL - ⟨rfl,ld⟩
      obtain ⟨lg,lh,jq⟩:=EJ.xW ld
      obtain ⟨Ef,Eg,Eh,lE⟩:=jq.nd
      simp only [go_sem,lE,cX]
      exact (jq.hY lE {n with kind:=8,cap:=2,a:=bi} rfl rfl rfl).last
     ·rw [if_neg hk] at eG
      simp only [go_sem,hk]
      refine ag.by (dy r8.nq eG) ?_
      rintro _ lL - ⟨rfl,ld⟩
      obtain ⟨lg,lh,jq⟩:=r8.xW ld
      obtain ⟨Ef,Eg,Eh,lE⟩:=jq.nd
      simp only [go_sem,lE,cX]
      exact (jq.hY lE {n with kind:=8,cap:=2,a:=bi} rfl rfl rfl).last
    rw [show (if cp≠1/\cp≠2 then fD 2 (aC st) else aC st)=fD 2 (aC st) from if_pos ⟨e1,e2⟩,if_neg (by rw [Cf (by decide)];exact Bool.false_ne_true)] at eG
    simp only [go_sem,ug,e1,e2]
    refine ag.by (lU r8.pp) ?_
    rintro _ H9 - p9
    have r9:=r8.bh p9
    simp only [go_sem]
    refine ag.by (fA r9.pp) ?_
    rintro _ _ - ⟨rfl,rfl⟩
    simp only [go_sem,Cf (show (2:Int)≠0 by decide)]
    refine ag.by (dy r9.nq eG) ?_
    rintro _ lL - ⟨rfl,ld⟩
    obtain ⟨lg,lh,jq⟩:=r9.xW ld
    obtain ⟨Ef,Eg,Eh,lE⟩:=jq.nd
    simp only [go_sem,lE,cX]
    exact (jq.hY lE {n with kind:=8,cap:=cp,a:=bi} rfl rfl rfl).last
  rw [if_neg h5] at he
  simp only [go_sem,h5]
  by_cases h6:0 < mE L st/\mE L st≠4
  ·rw [if_pos h6] at he
   cases he
   obtain ⟨KK,X0⟩:=h6
   obtain ⟨d1,d2,d3,d4,bL,oL,cL,a,k,c,hq,hr,db,pa⟩:=r6.pp.i5 hL (aaX KK)
   have ra:=r6.bh pa
   simp only [go_sem,KK,X0,hq,hr,hz,db]
   refine ag.by (ale hL ra.ln) ?_
   rintro _ H7 - p7
   obtain ⟨g7,r7⟩:=ra.Mv p7
   simp only [go_sem]
   exact r7.last
  ·rw [if_neg h6] at he
   cases he
   by_cases KK:0 < mE L st
   ·have X0:mE L st=4:=Classical.byContradiction fun e=>h6 ⟨KK,e⟩
    have h6c:(0:Int) < 4:=by decide
    simp only [go_sem,KK,X0,h6c]
    refine ag.by (ab7 hL r6.ln iK) ?_
    rintro _ H7 - p7
    obtain ⟨g7,r7⟩:=r6.Mv p7
    simp only [go_sem]
    exact r7.last
   ·simp only [go_sem,KK]
    refine ag.by (ab7 hL r6.ln iK) ?_
    rintro _ H7 - p7
    obtain ⟨g7,r7⟩:=r6.Mv p7
    simp only [go_sem]
    exact r7.last
 ·rw [M4,if_neg hb] at he
  cases he
  simp only [go_sem,hb]
  exact r0.last
end
end Go.Proofs.YtebibeaobhcfkaaGreat.Ab
