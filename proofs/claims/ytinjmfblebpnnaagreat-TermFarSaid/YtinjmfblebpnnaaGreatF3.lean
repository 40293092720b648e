/- Lemmas for the walk, part 3. -/
import Derived.Test.YtinjmfblebpnnaaGreatF2
set_option linter.unusedVariables false
set_option linter.unusedSimpArgs false
set_option maxRecDepth 100000
namespace Go.Proofs.YtinjmfblebpnnaaGreat.Ab
open Go
theorem oY:Tryz.prog.underlying 9=some .string:=by kernel_rfl
abbrev cV (c:UInt8):Value:=.int .u8 ((c.toNat:Nat):Int)
theorem MX {H:ad} {c:UInt8}:aj Tryz.prog 86 #[cV c] H (fun r H'=>r=.bool (oW c)/\H=H'):=by
 refine ahH (Nat.le_refl _) fun hf=>?_
 simp only [Tryz.f86,Option.getD_some]
 by_cases h1:(97:Int)<=((c.toNat:Nat):Int)
 ·have lH:97<=c.toNat:=by omega
  by_cases h2:((c.toNat:Nat):Int)<=122
  ·have uY:c.toNat<=122:=by omega
   simp only [go_sem,h1,h2]
   simp [oW,lH,uY]
  ·have uY:¬c.toNat<=122:=by omega
   simp only [go_sem,h1,h2]
   simp [oW,lH,uY]
 ·have lH:¬97<=c.toNat:=by omega
  simp only [go_sem,h1]
  simp [oW,lH]
theorem GO {H:ad} {c:UInt8}:aj Tryz.prog 87 #[cV c] H (fun r H'=>r=.bool (isDigit c)/\H=H'):=by
 refine ahJ (Nat.le_refl _) fun hf=>?_
 simp only [Tryz.f87,Option.getD_some]
 by_cases h1:(48:Int)<=((c.toNat:Nat):Int)
 ·have lH:48<=c.toNat:=by omega
  by_cases h2:((c.toNat:Nat):Int)<=57
  ·have uY:c.toNat<=57:=by omega
   simp only [go_sem,h1,h2]
   simp [isDigit,lH,uY]
  ·have uY:¬c.toNat<=57:=by omega
   simp only [go_sem,h1,h2]
   simp [isDigit,lH,uY]
 ·have lH:¬48<=c.toNat:=by omega
  simp only [go_sem,h1]
  simp [isDigit,lH]
theorem af4 {H:ad} {c:UInt8}:aj Tryz.prog 88 #[cV c] H (fun r H'=>r=.bool (D3 c)/\H=H'):=by
 refine ahL (Nat.le_refl _) fun hf=>?_
 simp only [Tryz.f88,Option.getD_some]
 simp only [go_sem]
 refine il 65524 18 (fun i V H1=>V 4=.int .i64 (i:Nat)/\H=H1/\∀k,k < i->tr[k]?≠some c) ⟨by simp only [go_sem];rfl,rfl,by omega⟩ ?_ ?_ (by rfl)
 ·rintro i V H1 hi ⟨e4,rfl,mC⟩
  have ep:i < tr.length:=hi
  have hlen:(tr.length:Nat)=18:=rfl
  have i7:tr[i]?=some tr[i]:=List.getElem?_eq_getElem ep
  have hS:((ByteArray.mk #[40,41,123,125,91,93,44,59,58,61,46,43,45,42,60,94,33,63]))=⟨tr.toArray⟩:=rfl
  have mu:=fun h=>xt (P:=Tryz.prog) (h:=h) oY i7
  have ig:=fun h=>GN (P:=Tryz.prog) (h:=h) (s:=tr) oY
  simp only [go_sem,e4,hS,ig,hlen,mu,hi]
  by_cases hd:tr[i].toNat=c.toNat
  ·have hc:tr[i]=c:=UInt8.toNat_inj.1 hd
   simp only [go_sem,hd]
   have:D3 c=true:=by rw [<-hc,D3,List.contains_iff_mem];exact List.getElem_mem ep
   rw [this]
  ·have dk:tr[i]?≠some c:=fun h=>hd (by rw [i7] at h;cases h;rfl)
   simp only [go_sem,hd,e4,cW hi (by omega)]
   intro k hk
   by_cases e:k=i
   ·subst e;exact dk
   ·exact mC k (by omega)
 ·rintro V H1 ⟨e4,rfl,mC⟩
  have hlen:(tr.length:Nat)=18:=rfl
  have hS:((ByteArray.mk #[40,41,123,125,91,93,44,59,58,61,46,43,45,42,60,94,33,63]))=⟨tr.toArray⟩:=rfl
  have ig:=fun h=>GN (P:=Tryz.prog) (h:=h) (s:=tr) oY
  simp only [go_sem,e4,hS,ig,hlen]
  have:D3 c=false:=by
   rw [Bool.eq_false_iff,D3,Ne,List.contains_iff_mem,List.mem_iff_getElem?]
   rintro ⟨k,hk⟩
   exact mC k (by have:=(List.getElem?_eq_some_iff.1 hk).1;rw [hlen] at this;exact this) hk
  rw [this]
theorem NF {p:UInt8->Bool}:∀{l:bj} {j:Nat},j < (l.takeWhile p).length->∃d,l[j]?=some d/\p d=true
 | [],j,h=>by simp at h
 | c::l,j,h=>by
  rw [List.takeWhile_cons] at h
  split at h
  ·rename_i hc
   cases j with
   | zero=>exact ⟨c,rfl,hc⟩
   | succ j=>exact NF (l:=l) (by simpa using h)
  ·simp at h
theorem Ni {p:UInt8->Bool}:∀{l:bj} {d:UInt8},l[(l.takeWhile p).length]?=some d->p d=false
 | [],d,h=>by simp at h
 | c::l,d,h=>by
  rw [List.takeWhile_cons] at h
  split at h
  ·exact Ni (l:=l) (by simpa using h)
  ·rename_i hc
   simp at h;subst h;simpa using hc
theorem GA {a b:Nat} (h:b<=a) (ha:a < 9223372036854775808):IntKind.wrap .i64 (((a:Nat):Int) - ((b:Nat):Int))=((a - b:Nat):Int):=by
 rw [show ((a:Nat):Int) - ((b:Nat):Int)=((a - b:Nat):Int) from by omega]
 exact uy (by omega)
def pvO (i:Nat):Option (Int × Nat)->Int × Int
 | some (kind,k)=>(kind,((i+k:Nat):Int))
 | none=>(0,0)
def tu (s:bj) (i:Nat):Int × Int:=pvO i (D4 (s.drop i))
theorem ac2 {H:ad} {s:bj} {i:Nat} (hi:i < s.length) (hl:s.length < 1000000):
  aj Tryz.prog 68 #[ag s,iV (i:Nat)] H (fun r H'=>r=.tuple #[iV (tu s i).1,iV (tu s i).2]/\H=H'):=by
 refine ahg (Nat.le_refl _) fun hf=>?_
 simp only [Tryz.f68,Option.getD_some]
 have i7:s[i]?=some s[i]:=List.getElem?_eq_getElem hi
 have cB:s.drop i=s[i]::s.drop (i+1):=(List.getElem_cons_drop hi).symm
 have Lp:D4 (s.drop i)=Cq s[i] (s.drop i):=by rw [cB];rfl
 generalize hc:s[i]=c at i7 cB Lp
 have mu:=fun h=>xt (P:=Tryz.prog) (h:=h) oY i7
 have ig:=fun h=>GN (P:=Tryz.prog) (h:=h) (s:=s) oY
 simp only [go_sem,mu]
 refine af.by MX ?_
 rintro _ _ - ⟨rfl,rfl⟩
 by_cases h1:oW c=true
 ·simp only [go_sem,h1]
  have fO:((s.drop i).takeWhile kU).length<=(s.drop i).length:=(List.takeWhile_prefix _).length_le
  rw [List.length_drop] at fO
  have sK:tu s i=if 16 < ((s.drop i).takeWhile kU).length then (0,0) else (1,((i+((s.drop i).takeWhile kU).length:Nat):Int)):=by
   rw [tu,Lp,Cq,if_pos h1]
   by_cases pF:16 < ((s.drop i).takeWhile kU).length
   ·rw [if_pos pF,if_pos pF];rfl
   ·rw [if_neg pF,if_neg pF];rfl
  generalize hk:((s.drop i).takeWhile kU).length=k at fO sK
  refine il 137438945344 k (fun j V H1=>V 6=iV ((i+j:Nat):Int)/\H=H1) ⟨by simp only [go_sem] <;> rfl,rfl⟩ ?_ ?_ (by rfl)
  ·rintro j V H1 hj ⟨e6,rfl⟩
   obtain ⟨d,hd,hw⟩:=NF (p:=kU) (l:=s.drop i) (by rw [hk];exact hj)
   rw [List.getElem?_drop] at hd
   have oe:i+j < s.length:=by omega
   have rY:=fun h=>xt (P:=Tryz.prog) (h:=h) oY hd
   have eX:IntKind.wrap .i64 (((i+j:Nat):Int)+1)=((i+(j+1):Nat):Int):=cW oe (by omega)
   simp only [go_sem,e6,ig,oe,rY]
   refine af.by MX ?_
   rintro _ _ - ⟨rfl,rfl⟩
   by_cases ug:oW d=true
   ·simp only [go_sem,ug,e6,eX]
   ·simp only [go_sem,ug,e6,rY]
    refine af.by GO ?_
    rintro _ _ - ⟨rfl,rfl⟩
    by_cases Fj:isDigit d=true
    ·simp only [go_sem,Fj,e6,eX]
    ·have TN:((d.toNat:Nat):Int)=95:=by
      have:d=95:=by simpa [kU,ug,Fj] using hw
      rw [this];rfl
     simp only [go_sem,Fj,e6,rY,TN,eX]
  ·rintro V H1 ⟨e6,rfl⟩
   by_cases oe:i+k < s.length
   ·have hd:s[i+k]?=some s[i+k]:=List.getElem?_eq_getElem oe
    generalize s[i+k]=d at hd
    have hw:=Ni (p:=kU) (l:=s.drop i) (d:=d) (by rw [hk,List.getElem?_drop];exact hd)
    have rY:=fun h=>xt (P:=Tryz.prog) (h:=h) oY hd
    have ug:oW d=false:=by simp [kU] at hw;exact hw.1.1
    have Fj:isDigit d=false:=by simp [kU] at hw;exact hw.1.2
    have TN:¬((d.toNat:Nat):Int)=95:=fun e=>by
     simp [kU] at hw
     exact hw.2 (UInt8.toNat_inj.1 (by show d.toNat=95;omega))
    simp only [go_sem,e6,ig,oe,rY]
    refine af.by MX ?_
    rintro _ _ - ⟨rfl,rfl⟩
    simp only [go_sem,ug,e6,rY]
    refine af.by GO ?_
    rintro _ _ - ⟨rfl,rfl⟩
    simp only [go_sem,Fj,e6,rY,TN]
    have tU:IntKind.wrap .i64 (((i+k:Nat):Int) - ((i:Nat):Int))=((k:Nat):Int):=by rw [GA (by omega) (by omega),Nat.add_sub_cancel_left]
    rw [sK]
    by_cases pF:16 < k
    ·have EA:(16:Int) < ((k:Nat):Int):=by omega
     simp only [go_sem,tU,EA,pF]
    ·have EA:¬(16:Int) < ((k:Nat):Int):=by omega
     simp only [go_sem,tU,EA,pF,e6]
   ·have uL:¬i+k < s.length:=oe
    simp only [go_sem,e6,ig,uL]
    have tU:IntKind.wrap .i64 (((i+k:Nat):Int) - ((i:Nat):Int))=((k:Nat):Int):=by rw [GA (by omega) (by omega),Nat.add_sub_cancel_left]
    rw [sK]
    by_cases pF:16 < k
    ·have EA:(16:Int) < ((k:Nat):Int):=by omega
     simp only [go_sem,tU,EA,pF]
    ·have EA:¬(16:Int) < ((k:Nat):Int):=by omega
     simp only [go_sem,tU,EA,pF,e6]
 simp only [go_sem,h1,mu]
 refine af.by GO ?_
 rintro _ _ - ⟨rfl,rfl⟩
 by_cases h2:isDigit c=true
 ·simp only [go_sem,h2]
  have fO:((s.drop i).takeWhile isDigit).length<=(s.drop i).length:=(List.takeWhile_prefix _).length_le
  rw [List.length_drop] at fO
  have sK:tu s i=if 9 < ((s.drop i).takeWhile isDigit).length∨1 < ((s.drop i).takeWhile isDigit).length/\c=48 then (0,0) else (2,((i+((s.drop i).takeWhile isDigit).length:Nat):Int)):=by
   rw [tu,Lp,Cq,if_neg h1,if_pos h2]
   by_cases pF:9 < ((s.drop i).takeWhile isDigit).length∨1 < ((s.drop i).takeWhile isDigit).length/\c=48
   ·rw [if_pos pF,if_pos pF];rfl
   ·rw [if_neg pF,if_neg pF];rfl
  generalize hk:((s.drop i).takeWhile isDigit).length=k at fO sK
  refine il 576320014815068224 k (fun j V H1=>V 6=iV ((i+j:Nat):Int)/\H=H1) ⟨by simp only [go_sem] <;> rfl,rfl⟩ ?_ ?_ (by rfl)
  ·rintro j V H1 hj ⟨e6,rfl⟩
   obtain ⟨d,hd,hw⟩:=NF (p:=isDigit) (l:=s.drop i) (by rw [hk];exact hj)
   rw [List.getElem?_drop] at hd
   have oe:i+j < s.length:=by omega
   have rY:=fun h=>xt (P:=Tryz.prog) (h:=h) oY hd
   have eX:IntKind.wrap .i64 (((i+j:Nat):Int)+1)=((i+(j+1):Nat):Int):=cW oe (by omega)
   simp only [go_sem,e6,ig,oe,rY]
   refine af.by GO ?_
   rintro _ _ - ⟨rfl,rfl⟩
   simp only [go_sem,hw,e6,eX]
  ·rintro V H1 ⟨e6,rfl⟩
   have tU:IntKind.wrap .i64 (((i+k:Nat):Int) - ((i:Nat):Int))=((k:Nat):Int):=by rw [GA (by omega) (by omega),Nat.add_sub_cancel_left]
   have CN:∀{Q:Prop},(9 < k->Q)->(¬9 < k->¬1 < k->Q)->(¬9 < k->1 < k->c=48->Q)->(¬9 < k->1 < k->c≠48->Q)->Q:=fun a b c' d=>by
    by_cases x1:9 < k
    ·exact a x1
    by_cases x2:1 < k
    ·by_cases x3:c=48
     ·exact c' x1 x2 x3
     ·exact d x1 x2 x3
    ·exact b x1 x2
   by_cases oe:i+k < s.length
   ·have hd:s[i+k]?=some s[i+k]:=List.getElem?_eq_getElem oe
    generalize s[i+k]=d at hd
    have hw:=Ni (p:=isDigit) (l:=s.drop i) (d:=d) (by rw [hk,List.getElem?_drop];exact hd)
    have rY:=fun h=>xt (P:=Tryz.prog) (h:=h) oY hd
    simp only [go_sem,e6,ig,oe,rY]
    refine af.by GO ?_
    rintro _ _ - ⟨rfl,rfl⟩
    rw [sK]
    refine CN (fun a=>?_) (fun a b=>?_) (fun a b c'=>?_) (fun a b c'=>?_)
    ·rw [if_pos (.inl a)]
     have a':(9:Int) < ((k:Nat):Int):=by omega
     simp only [go_sem,hw,e6,tU,a']
    ·rw [if_neg fun h=>h.elim a fun h=>b h.1]
     have a':¬(9:Int) < ((k:Nat):Int):=by omega
     have b':¬(1:Int) < ((k:Nat):Int):=by omega
     simp only [go_sem,hw,e6,tU,a',b']
    ·rw [if_pos (.inr ⟨b,c'⟩)]
     have a':¬(9:Int) < ((k:Nat):Int):=by omega
     have b':(1:Int) < ((k:Nat):Int):=by omega
     have cc:((c.toNat:Nat):Int)=48:=by rw [c'];rfl
     simp only [go_sem,hw,e6,tU,a',b',mu,cc]
    ·rw [if_neg fun h=>h.elim a fun h=>c' h.2]
     have a':¬(9:Int) < ((k:Nat):Int):=by omega
     have b':(1:Int) < ((k:Nat):Int):=by omega
     have cc:¬((c.toNat:Nat):Int)=48:=fun e=>c' (UInt8.toNat_inj.1 (by show c.toNat=48;omega))
     simp only [go_sem,hw,e6,tU,a',b',mu,cc]
   ·simp only [go_sem,e6,ig,oe]
    rw [sK]
    refine CN (fun a=>?_) (fun a b=>?_) (fun a b c'=>?_) (fun a b c'=>?_)
    ·rw [if_pos (.inl a)]
     have a':(9:Int) < ((k:Nat):Int):=by omega
     simp only [go_sem,e6,tU,a']
    ·rw [if_neg fun h=>h.elim a fun h=>b h.1]
     have a':¬(9:Int) < ((k:Nat):Int):=by omega
     have b':¬(1:Int) < ((k:Nat):Int):=by omega
     simp only [go_sem,e6,tU,a',b']
    ·rw [if_pos (.inr ⟨b,c'⟩)]
     have a':¬(9:Int) < ((k:Nat):Int):=by omega
     have b':(1:Int) < ((k:Nat):Int):=by omega
     have cc:((c.toNat:Nat):Int)=48:=by rw [c'];rfl
     simp only [go_sem,e6,tU,a',b',mu,cc]
    ·rw [if_neg fun h=>h.elim a fun h=>c' h.2]
     have a':¬(9:Int) < ((k:Nat):Int):=by omega
     have b':(1:Int) < ((k:Nat):Int):=by omega
     have cc:¬((c.toNat:Nat):Int)=48:=fun e=>c' (UInt8.toNat_inj.1 (by show c.toNat=48;omega))
     simp only [go_sem,e6,tU,a',b',mu,cc]
 simp only [go_sem,h2,mu]
 refine af.by af4 ?_
 rintro _ _ - ⟨rfl,rfl⟩
 by_cases h3:D3 c=true
 ·have sK:tu s i=(3,((i+1:Nat):Int)):=by rw [tu,Lp,Cq,if_neg h1,if_neg h2,if_pos h3];rfl
  rw [sK]
  simp only [go_sem,h3,cW hi (by omega)]
 ·have sK:tu s i=(0,0):=by rw [tu,Lp,Cq,if_neg h1,if_neg h2,if_neg h3];rfl
  rw [sK]
  simp only [go_sem,h3]
theorem X3:∀{s:bj} {n:Nat},s.all isDigit=true->s.foldl (fun n c=>10 * n+(c.toNat - 48)) n < (n+1) * 10 ^ s.length
 | [],n,h=>by simp
 | c::s,n,h=>by
  simp only [List.all_cons,Bool.and_eq_true] at h
  have hc:c.toNat - 48<=9:=by have:=h.1;simp [isDigit] at this;omega
  rw [List.foldl_cons,List.length_cons,Nat.pow_succ]
  refine Nat.lt_of_lt_of_le (X3 h.2) ?_
  have:(10 * n+(c.toNat - 48)+1)<=(n+1) * 10:=by omega
  calc (10 * n+(c.toNat - 48)+1) * 10 ^ s.length<=((n+1) * 10) * 10 ^ s.length:=Nat.mul_le_mul_right _ this
   _=(n+1) * (10 ^ s.length * 10):=by rw [Nat.mul_assoc,Nat.mul_comm 10]
theorem abC {s:bj} (h:s.all isDigit=true) (hl:s.length<=9):oX s < 1000000000:=by
 have:=X3 (n:=0) h
 refine Nat.lt_of_lt_of_le this ?_
 rw [Nat.zero_add,Nat.one_mul]
 exact Nat.pow_le_pow_right (by decide) hl
theorem wrap_u8 {n:Nat} (h:n < 256):IntKind.wrap .u8 ((n:Nat):Int)=((n:Nat):Int):=by
 unfold IntKind.wrap
 simp only [IntKind.bits,IntKind.signed,Bool.false_and]
 rw [if_neg (by decide)]
 omega
theorem acm {H:ad} {s:bj} (h:s.all isDigit=true) (hl:s.length<=9):aj Tryz.prog 69 #[ag s] H (fun r H'=>r=iV (oX s:Nat)/\H=H'):=by
 refine ahi (Nat.le_refl _) fun hf=>?_
 simp only [Tryz.f69,Option.getD_some]
 have ig:=fun h=>GN (P:=Tryz.prog) (h:=h) (s:=s) oY
 simp only [go_sem]
 refine il 524280 s.length (fun i V H1=>V 4=iV (i:Nat)/\V 3=iV (oX (s.take i):Nat)/\H=H1) ⟨by simp only [go_sem] <;> rfl,by simp only [go_sem] <;> rfl,rfl⟩ ?_ ?_ (by rfl)
 ·rintro i V H1 hi ⟨e4,e3,rfl⟩
  have i7:s[i]?=some s[i]:=List.getElem?_eq_getElem hi
  have hd:isDigit s[i]=true:=List.all_eq_true.1 h _ (List.getElem_mem hi)
  generalize s[i]=c at i7 hd
  have mu:=fun h=>xt (P:=Tryz.prog) (h:=h) oY i7
  have hc:48<=c.toNat/\c.toNat<=57:=by simpa [isDigit] using hd
  have iH:(s.take i).all isDigit=true:=List.all_eq_true.2 fun x hx=>List.all_eq_true.1 h x (List.mem_of_mem_take hx)
  have hb:=abC iH (by simp;omega)
  have ix:s.take (i+1)=s.take i++[c]:=by rw [List.take_add_one,i7];rfl
  have ajl:oX (s.take (i+1))=10 * oX (s.take i)+(c.toNat - 48):=by rw [ix,oX,List.foldl_append];rfl
  have eX:IntKind.wrap .u8 (((c.toNat:Nat):Int) - 48)=((c.toNat - 48:Nat):Int):=by
   rw [show ((c.toNat:Nat):Int) - 48=((c.toNat - 48:Nat):Int) from by omega]
   exact wrap_u8 (by omega)
  have mE:IntKind.wrap .i64 ((c.toNat - 48:Nat):Int)=((c.toNat - 48:Nat):Int):=uy (by omega)
  have Dd:IntKind.wrap .i64 (10 * ((oX (s.take i):Nat):Int))=((10 * oX (s.take i):Nat):Int):=by
   rw [show (10:Int) * ((oX (s.take i):Nat):Int)=((10 * oX (s.take i):Nat):Int) from by omega]
   exact uy (by omega)
  have De:IntKind.wrap .i64 (((10 * oX (s.take i):Nat):Int)+((c.toNat - 48:Nat):Int))=((oX (s.take (i+1)):Nat):Int):=by rw [ajl];exact wrap_add (by omega)
  have Dc:∀{n:Int} {H:ad},rV Tryz.prog 5 3 (.int .u8 n) H=.ok (.int .i64 (IntKind.wrap .i64 n)) H:=fun {n H}=>DW (ks:=.u8) (by kernel_rfl) (by kernel_rfl)
  simp only [go_sem,e4,e3,ig,hi,mu,eX,Dc,mE,Dd,De,cW hi (by omega)]
 ·rintro V H1 ⟨e4,e3,rfl⟩
  simp only [go_sem,e4,e3,ig]
  rw [List.take_of_length_le (Nat.le_refl _)]
theorem XH {p:UInt8->Bool}:∀{l:bj},l.dropWhile p=l.drop (l.takeWhile p).length
 | []=>rfl
 | c::l=>by
  rw [List.dropWhile_cons,List.takeWhile_cons]
  split
  ·rw [XH (l:=l)];rfl
  ·rfl
theorem ac3 {k:Nat} {r:bj} {line au:Int} {acc:List bh}:i3 (k+1) (10::r) line au acc=i3 k r (line+1) 1 acc:=by rw [i3];simp
theorem ac4 {k:Nat} {c:UInt8} {r:bj} {line au:Int} {acc:List bh} (h:c=32∨c=9):i3 (k+1) (c::r) line au acc=i3 k r line (au+1) acc:=by
 rw [i3,if_neg (by rcases h with rfl | rfl <;> decide),if_pos h]
theorem ac5 {k:Nat} {r:bj} {line au:Int} {acc:List bh}:i3 (k+1) (35::r) line au acc=i3 k ((35::r).dropWhile (·≠10)) line (au+(((35::r).takeWhile (·≠10)).length:Nat)) acc:=by
 rw [i3,if_neg (by decide),if_neg (by decide),if_pos rfl]
def ajm (k:Nat) (r:bj) (line au:Int) (acc:List bh):Option (Int × Nat)->N1
 | none=>.bad
 | some (kind,w)=>i3 k (r.drop w) line (au+(w:Nat)) (acc++[⟨kind,if kind=2 then (oX (r.take w):Nat) else 0,line,au,r.take w⟩])
theorem ac6 {k:Nat} {c:UInt8} {r:bj} {line au:Int} {acc:List bh} (h1:c≠10) (h2:¬(c=32∨c=9)) (h3:c≠35):i3 (k+1) (c::r) line au acc=ajm k (c::r) line au acc (D4 (c::r)):=by
 rw [i3,if_neg h1,if_neg h2,if_neg h3]
 cases D4 (c::r) <;> rfl
theorem abD {a b c:Int} {s:bj} {h:KH}:fH Tryz.prog 82 [(0,iV a),(4,ag s),(2,iV b),(3,iV c)] h=.ok (.agg #[iV a,iV 0,iV b,iV c,ag s]) h:=by kernel_rfl
theorem abE {a b c:Int} {h:KH}:fH Tryz.prog 82 [(0,iV a),(2,iV b),(3,iV c)] h=.ok (.agg #[iV a,iV 0,iV b,iV c,ag []]) h:=by kernel_rfl
def ac7 (r:N1) (H0:ad) (w:Value) (H':ad):Prop:=match r with
 | .ok l=>∃v f,w=.tuple #[v,iV 0,iV 0,iV 0]/\Sl Ez H' v l f/\Bq H0.next H' f
 | .bad=>∃a b e,w=.tuple #[.slice none 0 0,iV a,iV b,iV e]/\e≠0
theorem acn {H:ad} {s:bj} (hl:s.length < 1000000):aj Tryz.prog 40 #[ag s] H (fun w H'=>bc H H'/\ac7 (xv s) H w H'):=by
 refine agX (Nat.le_refl _) fun hf=>?_
 simp only [Tryz.f40,Option.getD_some]
 have ig:=fun h=>GN (P:=Tryz.prog) (h:=h) (s:=s) oY
 by_cases nP:16384 < s.length
 ·have dT:(16384:Int) < ((s.length:Nat):Int):=by omega
  simp only [go_sem,ig,dT]
  rw [xv,if_pos nP]
  exact ⟨bc.refl H,0,0,3,rfl,by decide⟩
 have dT:¬(16384:Int) < ((s.length:Nat):Int):=by omega
 simp only [go_sem,ig,dT]
 have hR:xv s=i3 (s.length+1) s 1 1 []:=by rw [xv,if_neg nP]
 generalize xv s=R at hR
 refine lp 79228162514264337593543892988 (fun n V H1=>∃(i from_ line fuel:Nat) (acc:List bh) (vL:Value) (f:List Nat),V 9=iV (i:Nat)/\V 7=iV (line:Nat)/\V 8=iV (from_:Nat)/\V 6=vL/\Ow Ez 82 H1 vL acc f/\Bq H.next H1 f/\bc H H1/\i<=s.length/\n=s.length - i/\from_<=i/\line<=i+1/\acc.length<=i/\s.length - i < fuel/\R=i3 fuel (s.drop i) (line:Nat) ((i - from_+1:Nat):Int) acc) (n:=s.length)
  ⟨0,0,1,s.length+1,[],.slice none 0 0,[],by simp only [go_sem] <;> rfl,by simp only [go_sem] <;> rfl,by simp only [go_sem] <;> rfl,by simp only [go_sem] <;> rfl,Ow.nil _ _ _,⟨by simp,by simp,by simp⟩,bc.refl H,Nat.zero_le _,rfl,Nat.le_refl _,Nat.le_refl _,Nat.le_refl _,by omega,by simpa using hR⟩ ?_ (by rfl)
 rintro n V H1 ⟨i,from_,line,fuel,acc,vL,f,e9,e7,e8,e6,js,fu,hold,his,hn,gY,hli,ON,vj,sq⟩
 by_cases hi:i < s.length
 ·have i7:s[i]?=some s[i]:=List.getElem?_eq_getElem hi
  have cB:s.drop i=s[i]::s.drop (i+1):=(List.getElem_cons_drop hi).symm
  generalize hc:s[i]=c at i7 cB
  have mu:=fun h=>xt (P:=Tryz.prog) (h:=h) oY i7
  obtain ⟨k,rfl⟩:∃k,fuel=k+1:=⟨fuel - 1,by omega⟩
  have ci:∀{d:UInt8},((c.toNat:Nat):Int)=((d.toNat:Nat):Int)->c=d:=fun e=>UInt8.toNat_inj.1 (by omega)
  by_cases c1:c=10
  ·have cc:((c.toNat:Nat):Int)=10:=by rw [c1];rfl
   have eX:IntKind.wrap .i64 (((line:Nat):Int)+1)=((line+1:Nat):Int):=wrap_add (k:=1) (by omega)
   simp only [go_sem,e9,e7,ig,hi,mu,cc,cW hi (by omega),eX]
   rw [cB,c1,ac3] at sq
   refine ⟨s.length - (i+1),by omega,i+1,i+1,line+1,k,acc,vL,f,rfl,rfl,rfl,e6,js,fu,hold,hi,rfl,Nat.le_refl _,by omega,by omega,by omega,?_⟩
   rw [sq,Nat.sub_self];rfl
  have n1:¬((c.toNat:Nat):Int)=10:=fun e=>c1 (ci (d:=10) e)
  by_cases c2:c=32∨c=9
  ·rw [cB,ac4 c2] at sq
   have CN:R=i3 k (s.drop (i+1)) (line:Nat) ((i+1 - from_+1:Nat):Int) acc:=by
    rw [sq,show ((i - from_+1:Nat):Int)+1=((i+1 - from_+1:Nat):Int) from by omega]
   rcases c2 with c2 | c2
   ·have cc:((c.toNat:Nat):Int)=32:=by rw [c2];rfl
    have Bs:¬(32:Int)=10:=by decide
    simp only [go_sem,e9,ig,hi,mu,cc,Bs,cW hi (by omega)]
    exact ⟨s.length - (i+1),by omega,i+1,from_,line,k,acc,vL,f,rfl,e7,e8,e6,js,fu,hold,hi,rfl,by omega,by omega,by omega,by omega,CN⟩
   ·have cc:((c.toNat:Nat):Int)=9:=by rw [c2];rfl
    have Bs:¬(9:Int)=10:=by decide
    have n2':¬(9:Int)=32:=by decide
    simp only [go_sem,e9,ig,hi,mu,cc,Bs,n2',cW hi (by omega)]
    exact ⟨s.length - (i+1),by omega,i+1,from_,line,k,acc,vL,f,rfl,e7,e8,e6,js,fu,hold,hi,rfl,by omega,by omega,by omega,by omega,CN⟩
  have n2:¬((c.toNat:Nat):Int)=32:=fun e=>c2 (.inl (ci (d:=32) e))
  have n3:¬((c.toNat:Nat):Int)=9:=fun e=>c2 (.inr (ci (d:=9) e))
  by_cases c3:c=35
  ·have cc:((c.toNat:Nat):Int)=35:=by rw [c3];rfl
   have m1:¬(35:Int)=10:=by decide
   have m2:¬(35:Int)=32:=by decide
   have m3:¬(35:Int)=9:=by decide
   simp only [go_sem,e9,ig,hi,mu,cc,m1,m2,m3]
   have fO:((s.drop i).takeWhile (·≠10)).length<=(s.drop i).length:=(List.takeWhile_prefix _).length_le
   rw [List.length_drop] at fO
   rw [cB,c3,ac5,<-c3,<-cB,XH,List.drop_drop] at sq
   have mj:1<=((s.drop i).takeWhile (·≠10)).length:=by rw [cB,List.takeWhile_cons,if_pos (by simpa using c1)];simp
   generalize hk:((s.drop i).takeWhile (·≠10)).length=q at fO sq mj
   refine il 2305280059260273152 q (fun j V2 H2=>V2 9=iV ((i+j:Nat):Int)/\H1=H2) ⟨by simp only [go_sem,e9] <;> rfl,rfl⟩ ?_ ?_ (by rfl)
   ·rintro j V2 H2 hj ⟨Iv,rfl⟩
    obtain ⟨d,hd,hw⟩:=NF (p:=(·≠10)) (l:=s.drop i) (by rw [hk];exact hj)
    rw [List.getElem?_drop] at hd
    have oe:i+j < s.length:=by omega
    have rY:=fun h=>xt (P:=Tryz.prog) (h:=h) oY hd
    have ug:¬((d.toNat:Nat):Int)=10:=fun e=>by
     have:d=10:=UInt8.toNat_inj.1 (by show d.toNat=10;omega)
     simp [this] at hw
    have eX:IntKind.wrap .i64 (((i+j:Nat):Int)+1)=((i+(j+1):Nat):Int):=cW oe (by omega)
    simp only [go_sem,Iv,ig,oe,rY,ug,eX]
   ·rintro V2 H2 ⟨Iv,rfl⟩
    have Ys:R=i3 k (s.drop (i+q)) (line:Nat) ((i+q - from_+1:Nat):Int) acc:=by
     rw [sq,show ((i - from_+1:Nat):Int)+((q:Nat):Int)=((i+q - from_+1:Nat):Int) from by omega]
    by_cases oe:i+q < s.length
    ·have hd:s[i+q]?=some s[i+q]:=List.getElem?_eq_getElem oe
     generalize s[i+q]=d at hd
     have hw:=Ni (p:=(·≠10)) (l:=s.drop i) (d:=d) (by rw [hk,List.getElem?_drop];exact hd)
     have rY:=fun h=>xt (P:=Tryz.prog) (h:=h) oY hd
     have ug:((d.toNat:Nat):Int)=10:=by
      have:d=10:=by simpa using hw
      rw [this];rfl
     simp only [go_sem,Iv,ig,oe,rY,ug]
     exact ⟨s.length - (i+q),by omega,i+q,from_,line,k,acc,vL,f,by first | rfl | exact Iv,e7,e8,e6,js,fu,hold,by omega,rfl,by omega,by omega,by omega,by omega,Ys⟩
    ·simp only [go_sem,Iv,ig,oe]
     exact ⟨s.length - (i+q),by omega,i+q,from_,line,k,acc,vL,f,by first | rfl | exact Iv,e7,e8,e6,js,fu,hold,by omega,rfl,by omega,by omega,by omega,by omega,Ys⟩
  have n4:¬((c.toNat:Nat):Int)=35:=fun e=>c3 (ci (d:=35) e)
  simp only [go_sem,e9,ig,hi,mu,n1,n2,n3,n4]
  refine af.by (ac2 hi hl) ?_
  rintro _ _ - ⟨rfl,rfl⟩
  rw [cB,ac6 c1 c2 c3,<-cB] at sq
  cases hp:D4 (s.drop i) with
  | none=>
   rw [hp] at sq
   have sK:tu s i=(0,0):=by rw [tu,hp];rfl
   have dm:IntKind.wrap .i64 (((i:Nat):Int) - ((from_:Nat):Int))=((i - from_:Nat):Int):=GA gY (by omega)
   have jJ:IntKind.wrap .i64 (((i - from_:Nat):Int)+1)=((i - from_+1:Nat):Int):=wrap_add (k:=1) (by omega)
   simp only [go_sem,sK,e9,e7,e8,dm,jJ]
   rw [sq]
   exact ⟨hold,_,_,2,rfl,by decide⟩
  | some kw=>
   obtain ⟨kind,w⟩:=kw
   rw [hp] at sq
   obtain ⟨p1,p2,p3,p4⟩:=Qd hp
   rw [List.length_drop] at p2
   have sK:tu s i=(kind,((i+w:Nat):Int)):=by rw [tu,hp];rfl
   have dm:IntKind.wrap .i64 (((i:Nat):Int) - ((from_:Nat):Int))=((i - from_:Nat):Int):=GA gY (by omega)
   have jJ:IntKind.wrap .i64 (((i - from_:Nat):Int)+1)=((i - from_+1:Nat):Int):=wrap_add (k:=1) (by omega)
   have vf:¬kind=0:=by omega
   have Zm:=ac1 (P:=Tryz.prog) (h:=Ab.h0) (s:=s) oY (show i<=i+w by omega) (show i+w<=s.length by omega)
   rw [Nat.add_sub_cancel_left] at Zm
   have gJ:H.fz H1.next=false:=hf.fresh hold.nx
   simp only [go_sem,sK,vf,e9,e7,e8,dm,jJ,Zm,gJ,abD,Option.map_none,Option.map_some]
   by_cases k2:kind=2
   ·obtain ⟨q1,q2⟩:=p4 k2
    subst k2
    simp only [go_sem]
    refine af.by (acm q2 (by rw [List.length_take];omega)) ?_
    rintro _ _ - ⟨rfl,rfl⟩
    simp only [go_sem,gJ]
    generalize Bt:(H1.push ⟨[iV 2,iV ((oX ((s.drop i).take w):Nat):Int),iV (line:Nat),iV ((i - from_+1:Nat):Int),ag ((s.drop i).take w)],82,false,false⟩)=B0
    have TO:bc H B0:=hold.trans (by rw [<-Bt];exact bc.push H1 _)
    have hnB:B0.next=H1.next+1:=by rw [<-Bt];rfl
    have gB:B0.get H1.next=some ⟨[iV 2,iV ((oX ((s.drop i).take w):Nat):Int),iV (line:Nat),iV ((i - from_+1:Nat):Int),ag ((s.drop i).take w)],82,false,false⟩:=by rw [<-Bt];rw [aU,if_pos rfl]
    have QU:∀y∈f,B0.get y=H1.get y:=fun y hy=>by have:=fu.hi y hy;rw [<-Bt];rw [bS (by omega)]
    simp only [go_sem,e6,gB,eA HA (by decide) (by decide)]
    refine Gz (Hb:=H) (r:=Ez) (x:=⟨2,((oX ((s.drop i).take w):Nat):Int),line,((i - from_+1:Nat):Int),(s.drop i).take w⟩) (g:=[]) HA (js.ae fun y hy=>by rw [bS (by have:=fu.hi y hy;omega)];exact QU y hy) (TO.trans (bc.push _ _)) ⟨fu.nd,fu.lo,fun y hy=>by have:=fu.hi y hy;rw [bH];omega⟩ ⟨by simp,by simp,by simp⟩ (by simp) (fun y hy=>hf.fresh (fu.lo y hy)) (by rw [aU,if_pos rfl]) ⟨rfl,rfl⟩ rfl (by omega) ?_
    intro v7 H7 f7 Kl vk _ dX _ J1
    simp only [go_sem]
    refine ⟨s.length - (i+w),by omega,i+w,from_,line,k,acc++[⟨2,((oX ((s.drop i).take w):Nat):Int),line,((i - from_+1:Nat):Int),(s.drop i).take w⟩],v7,f7,rfl,e7,e8,rfl,Kl,vk,J1,by omega,rfl,by omega,by omega,by rw [List.length_append,List.length_singleton];omega,by omega,?_⟩
    rw [sq]
    show i3 k ((s.drop i).drop w) _ _ _=_
    rw [List.drop_drop,show ((i - from_+1:Nat):Int)+((w:Nat):Int)=((i+w - from_+1:Nat):Int) from by omega,if_pos rfl]
   ·simp only [go_sem,k2]
    generalize Bt:(H1.push ⟨[iV kind,iV 0,iV (line:Nat),iV ((i - from_+1:Nat):Int),ag ((s.drop i).take w)],82,false,false⟩)=B0
    have TO:bc H B0:=hold.trans (by rw [<-Bt];exact bc.push H1 _)
    have hnB:B0.next=H1.next+1:=by rw [<-Bt];rfl
    have gB:B0.get H1.next=some ⟨[iV kind,iV 0,iV (line:Nat),iV ((i - from_+1:Nat):Int),ag ((s.drop i).take w)],82,false,false⟩:=by rw [<-Bt];rw [aU,if_pos rfl]
    have QU:∀y∈f,B0.get y=H1.get y:=fun y hy=>by have:=fu.hi y hy;rw [<-Bt];rw [bS (by omega)]
    simp only [go_sem,e6,gB,eA HA (by decide) (by decide)]
    refine Gz (Hb:=H) (r:=Ez) (x:=⟨kind,0,line,((i - from_+1:Nat):Int),(s.drop i).take w⟩) (g:=[]) HA (js.ae fun y hy=>by rw [bS (by have:=fu.hi y hy;omega)];exact QU y hy) (TO.trans (bc.push _ _)) ⟨fu.nd,fu.lo,fun y hy=>by have:=fu.hi y hy;rw [bH];omega⟩ ⟨by simp,by simp,by simp⟩ (by simp) (fun y hy=>hf.fresh (fu.lo y hy)) (by rw [aU,if_pos rfl]) ⟨rfl,rfl⟩ rfl (by omega) ?_
    intro v7 H7 f7 Kl vk _ dX _ J1
    simp only [go_sem]
    refine ⟨s.length - (i+w),by omega,i+w,from_,line,k,acc++[⟨kind,0,line,((i - from_+1:Nat):Int),(s.drop i).take w⟩],v7,f7,rfl,e7,e8,rfl,Kl,vk,J1,by omega,rfl,by omega,by omega,by rw [List.length_append,List.length_singleton];omega,by omega,?_⟩
    rw [sq]
    show i3 k ((s.drop i).drop w) _ _ _=_
    rw [List.drop_drop,show ((i - from_+1:Nat):Int)+((w:Nat):Int)=((i+w - from_+1:Nat):Int) from by omega,if_neg k2]
 ·have hie:i=s.length:=by omega
  subst hie
  obtain ⟨k,rfl⟩:∃k,fuel=k+1:=⟨fuel - 1,by omega⟩
  rw [List.drop_length,i3] at sq
  have dm:IntKind.wrap .i64 (((s.length:Nat):Int) - ((from_:Nat):Int))=((s.length - from_:Nat):Int):=GA gY (by omega)
  have jJ:IntKind.wrap .i64 (((s.length - from_:Nat):Int)+1)=((s.length - from_+1:Nat):Int):=wrap_add (k:=1) (by omega)
  simp only [go_sem,e9,e7,e8,e6,ig,dm,jJ,abE,eA HA (by decide) (by decide)]
  refine Gz (Hb:=H) (r:=Ez) (x:=⟨4,0,line,((s.length - from_+1:Nat):Int),[]⟩) (g:=[]) HA (js.ae fun y hy=>bS (fu.hi y hy)) (hold.trans (bc.push _ _)) ⟨fu.nd,fu.lo,fun y hy=>by have:=fu.hi y hy;rw [bH];omega⟩ ⟨by simp,by simp,by simp⟩ (by simp) (fun y hy=>hf.fresh (fu.lo y hy)) (by rw [aU,if_pos rfl]) ⟨rfl,rfl⟩ rfl (by omega) ?_
  intro v7 H7 f7 Kl vk _ dX _ J1
  simp only [go_sem]
  rw [sq]
  exact ⟨J1,v7,f7,rfl,Kl.sl,vk⟩
theorem aj.told {P:Program} {f:FuncId} {args:Array Value} {H:ad} {K:Value->ad->Prop} (h:aj P f args H fun v H'=>K v (H'.ai H.fz)):aj P f args H K:=fun hf=>by
 refine aj.ai (h.mono fun v H' hk hK=>?_) hf
 exact ⟨H.fz,fun _ h=>h,fun b hb=>Nat.lt_of_lt_of_le (hf.fz b hb) hk.nx,hK⟩
theorem q8 {H:ad} {b:Nat} {B C:ct}:(H.ah b B).ah b C=H.ah b C:=by
 unfold ad.ah
 congr 1
 funext x
 by_cases h:x=b <;> simp [h]
structure aG where
 at_:Nat
 depth:Int
 bad:Int
deriving DecidableEq
abbrev ia (t:bh):List Value:=[iV t.kind,iV t.n,iV t.line,iV t.au,ag t.text]
def eot:bh:=⟨4,0,0,0,[]⟩
def tk (L:List bh) (st:aG):bh:=L.getD st.at_ eot
structure PP0 (L:List bh) (F:List Nat) (H:ad) (q rb:Nat) (st:aG):Prop where
 hq:∃c1 c2 c3 c4,H.get q=some ⟨[.pointer (some ⟨rb,0,none⟩),c1,c2,c3,c4],127,false,false⟩
 hr:∃vL a n c,H.get rb=some ⟨[vL,iV (st.at_:Nat),.slice none 0 0,.bool true,iV st.depth,iV st.bad,.slice a n c],125,false,false⟩/\Sl Ez H vL L F
 hF:∀b∈F,b < H.next/\b≠rb/\b≠q
 qr:q≠rb
 at_:st.at_ < L.length
 ql:q < H.next
 rl:rb < H.next
structure PP (L:List bh) (F:List Nat) (H:ad) (q rb:Nat) (st:aG):Prop extends PP0 L F H q rb st where
 fz:H.fz rb=false
def fR (L:List bh) (F:List Nat) (H:ad) (q rb:Nat) (st:aG) (H':ad):Prop:=Fr [rb] H H'/\(∀c,H'.fz c=H.fz c)/\PP0 L F H' q rb st
theorem PP.post {L:List bh} {F:List Nat} {H:ad} {q rb:Nat} {st bO:aG} {H':ad} (h:PP L F H q rb st) (hp:fR L F H q rb bO H'):PP L F H' q rb bO:={hp.2.2 with fz:=by rw [hp.2.1];exact h.fz}
theorem fR.refl {L:List bh} {F:List Nat} {H:ad} {q rb:Nat} {st:aG} (h:PP0 L F H q rb st):fR L F H q rb st H:=⟨.refl _ _,fun _=>rfl,h⟩
theorem fR.trans {L:List bh} {F:List Nat} {H H1 H2:ad} {q rb:Nat} {st bO:aG} (h:fR L F H q rb st H1) (h':fR L F H1 q rb bO H2):fR L F H q rb bO H2:=⟨h.1.then h'.1,fun c=>(h'.2.1 c).trans (h.2.1 c),h'.2.2⟩
theorem PP0.aE {L:List bh} {F:List Nat} {H H':ad} {q rb:Nat} {st:aG} (h:PP0 L F H q rb st) (ho:bc H H'):PP0 L F H' q rb st:=by
 obtain ⟨⟨c1,c2,c3,c4,hq⟩,⟨vL,a,n,c,hr,hs⟩,hf,h3,h4,h5,h6⟩:=h
 exact ⟨⟨c1,c2,c3,c4,(ho.get q h5).trans hq⟩,⟨vL,a,n,c,(ho.get rb h6).trans hr,hs.ae fun b hb=>ho.get b (hf b hb).1⟩,fun b hb=>⟨Nat.lt_of_lt_of_le (hf b hb).1 ho.nx,(hf b hb).2⟩,h3,h4,Nat.lt_of_lt_of_le h5 ho.nx,Nat.lt_of_lt_of_le h6 ho.nx⟩
theorem PP0.ai {L:List bh} {F:List Nat} {H:ad} {q rb:Nat} {st:aG} {fz:Nat->Bool} (h:PP0 L F H q rb st):PP0 L F (H.ai fz) q rb st:=by
 obtain ⟨h1,⟨vL,a,n,c,hr,hs⟩,hf,h3,h4,h5,h6⟩:=h
 exact ⟨h1,⟨vL,a,n,c,hr,hs.ae fun _ _=>rfl⟩,hf,h3,h4,h5,h6⟩
theorem fR.same {L:List bh} {F:List Nat} {H H':ad} {q rb:Nat} {st:aG} (h:PP0 L F H q rb st) (ho:bc H H'):fR L F H q rb st (H'.ai H.fz):=⟨(ho.fr _).ai _,fun _=>rfl,(h.aE ho).ai⟩
theorem fR.last {L:List bh} {F:List Nat} {H H':ad} {q rb:Nat} {st:aG} (h:Fr [rb] H H') (hp:PP0 L F H' q rb st):fR L F H q rb st (H'.ai H.fz):=⟨h.ai _,fun _=>rfl,hp.ai⟩
theorem PP0.fh {L:List bh} {F:List Nat} {H:ad} {q rb:Nat} {st:aG} (h:PP0 L F H q rb st):∃c1 c2 c3 c4 bL oL cL BL a n c,H.get q=some ⟨[.pointer (some ⟨rb,0,none⟩),c1,c2,c3,c4],127,false,false⟩/\
  H.get rb=some ⟨[.slice (some ⟨bL,oL,none⟩) L.length cL,iV (st.at_:Nat),.slice none 0 0,.bool true,iV st.depth,iV st.bad,.slice a n c],125,false,false⟩/\H.get bL=some BL/\
  oL+st.at_ * 5+5<=BL.cells.length/\(BL.cells.drop (oL+st.at_ * 5)).take 5=ia (tk L st)/\BL.cells[oL+st.at_ * 5]?=some (iV (tk L st).kind)/\BL.cells[oL+st.at_ * 5+4]?=some (ag (tk L st).text)/\bL≠rb/\bL < H.next/\bL≠q:=by
 obtain ⟨⟨c1,c2,c3,c4,hq⟩,⟨vL,a,n,c,hr,hs⟩,hf,h3,h4,h5,h6⟩:=h
 obtain ⟨b,o,cc,B,g,hv,hB,ee,Br,b7,hE⟩:=hs.at (List.getElem?_eq_getElem h4)
 subst hv
 have ht:tk L st=L[st.at_]:=by simp [tk,List.getD_eq_getElem?_getD,h4]
 have iC:(B.cells.drop (o+st.at_ * 5)).take 5=ia (tk L st):=by rw [ht];exact hE.1
 have key:∀(j:Nat),j < 5->B.cells[o+st.at_ * 5+j]?=(ia (tk L st))[j]?:=fun j hj=>by
  rw [<-iC,List.getElem?_take,if_pos hj,List.getElem?_drop]
 exact ⟨c1,c2,c3,c4,b,o,cc,B,a,n,c,hq,hr,hB,b7,iC,key 0 (by decide),key 4 (by decide),(hf b ee).2.1,(hf b ee).1,(hf b ee).2.2⟩
theorem PP0.set {L:List bh} {F:List Nat} {H:ad} {q rb:Nat} {st:aG} (h:PP0 L F H q rb st) {vL v1 v4 v5 vP:Value} (hr:H.get rb=some ⟨[vL,v1,.slice none 0 0,.bool true,v4,v5,vP],125,false,false⟩) (bO:aG) (ha:bO.at_ < L.length):
  PP0 L F (H.ah rb ⟨[vL,iV (bO.at_:Nat),.slice none 0 0,.bool true,iV bO.depth,iV bO.bad,vP],125,false,false⟩) q rb bO:=by
 obtain ⟨⟨c1,c2,c3,c4,hq⟩,⟨vL',a,n,c,ib,hs⟩,hf,h3,h4,h5,h6⟩:=h
 rw [hr] at ib
 cases ib
 refine ⟨⟨c1,c2,c3,c4,by rw [az,if_neg h3];exact hq⟩,⟨vL,a,n,c,by rw [az,if_pos rfl],hs.ae fun b hb=>by rw [az,if_neg (hf b hb).2.1]⟩,hf,h3,ha,h5,h6⟩
theorem PP0.put {L:List bh} {F:List Nat} {H:ad} {q rb:Nat} {st:aG} (h:PP0 L F H q rb st) {b:Nat} (B:ct) (hq:b≠q) (hr:b≠rb) (hF:b∉F):PP0 L F (H.ah b B) q rb st:=by
 obtain ⟨⟨c1,c2,c3,c4,lZ⟩,⟨vL,a,n,c,ib,hs⟩,hf,h3,h4,h5,h6⟩:=h
 exact ⟨⟨c1,c2,c3,c4,by rw [az,if_neg (Ne.symm hq)];exact lZ⟩,⟨vL,a,n,c,by rw [az,if_neg (Ne.symm hr)];exact ib,hs.ae fun x hx=>by rw [az,if_neg (by rintro rfl;exact hF hx)]⟩,hf,h3,h4,h5,h6⟩
theorem PP0.fr {L:List bh} {F:List Nat} {H H':ad} {q rb:Nat} {st:aG} (h:PP0 L F H q rb st) {M:List Nat} (bg:Fr M H H') (mq:q∉M) (mr:rb∉M) (mF:∀b∈F,b∉M):PP0 L F H' q rb st:=by
 obtain ⟨⟨c1,c2,c3,c4,lZ⟩,⟨vL,a,n,c,ib,hs⟩,hf,h3,h4,h5,h6⟩:=h
 exact ⟨⟨c1,c2,c3,c4,(bg.get q h5 mq).trans lZ⟩,⟨vL,a,n,c,(bg.get rb h6 mr).trans ib,hs.ae fun x hx=>bg.get x (hf x hx).1 (mF x hx)⟩,fun b hb=>⟨Nat.lt_of_lt_of_le (hf b hb).1 bg.nx,(hf b hb).2⟩,h3,h4,Nat.lt_of_lt_of_le h5 bg.nx,Nat.lt_of_lt_of_le h6 bg.nx⟩
theorem PP.push {L:List bh} {F:List Nat} {H:ad} {q rb:Nat} {st:aG} (h:PP L F H q rb st) (B:ct) (hB:B.ro=false:=by rfl):PP L F (H.push B) q rb st:=
 {h.toPP0.aE (bc.push H B hB) with fz:=(by have:=h.rl;rw [qf,h.fz,Bool.or_false,beq_eq_false_iff_ne];omega)}
theorem PP0.fresh {L:List bh} {F:List Nat} {H:ad} {q rb:Nat} {st:aG} (h:PP0 L F H q rb st) {b:Nat} (hb:H.next<=b):b≠q/\b≠rb/\b∉F:=⟨by have:=h.ql;omega,by have:=h.rl;omega,fun e=>by have:=(h.hF b e).1;omega⟩
def c9 (st:aG):Bool:=decide (st.bad=0)
def cQ (L:List bh) (s:bj) (st:aG):Bool:=decide ((tk L st).kind=1)&&decide ((tk L st).text=s)
def dV (L:List bh) (s:bj) (st:aG):Bool:=decide ((tk L st).kind=3)&&decide ((tk L st).text=s)
def eQ (e:Int) (st:aG):aG:=if st.bad=0 then {st with bad:=e} else st
def aC (st:aG):aG:={st with at_:=st.at_+1}
def tx (L:List bh) (st:aG):Bool:=decide ((tk L st).kind=1)&&D5 (tk L st).text
def xZ (L:List bh) (s:bj) (st:aG):aG:=if c9 st&&!cQ L s st&&!dV L s st then eQ 2 st else st
def dA (L:List bh) (s:bj) (st:aG):aG:=if c9 (xZ L s st) then aC (xZ L s st) else xZ L s st
def zE (L:List bh) (st:aG):aG:=if c9 st&&!tx L st then eQ 2 st else st
def cj (L:List bh) (st:aG):bj × aG:=if c9 (zE L st) then ((tk L (zE L st)).text,aC (zE L st)) else ([],zE L st)
section
variable {L:List bh} {F:List Nat} {H:ad} {q rb:Nat} {st:aG}
abbrev pV (b:Nat):Value:=.pointer (some ⟨b,0,none⟩)
theorem eJ (h:PP L F H q rb st):aj Tryz.prog 76 #[pV q] H (fun w H'=>w=.bool (c9 st)/\H=H'):=by
 refine ahs (Nat.le_refl _) fun hf=>?_
 simp only [Tryz.f76,Option.getD_some]
 obtain ⟨c1,c2,c3,c4,bL,oL,cL,BL,a,n,c,hq,hr,hB,hl,iC,h0,h4,dk,b7,er⟩:=h.fh
 simp only [go_sem,hq,hr,c9]
theorem mY (h:PP L F H q rb st) {s:bj}:aj Tryz.prog 142 #[pV rb,ag s] H (fun w H'=>w=.bool (dV L s st)/\H=H'):=by
 refine aeN (Nat.le_refl _) fun hf=>?_
 simp only [Tryz.f142,Option.getD_some]
 obtain ⟨c1,c2,c3,c4,bL,oL,cL,BL,a,n,c,hq,hr,hB,hl,iC,h0,h4,dk,b7,er⟩:=h.fh
 have dW:=h.at_
 by_cases hk:(tk L st).kind=3
 ·rw [hk] at h0
  simp only [go_sem,hq,hr,hB,h0,h4,dW]
  simp [dV,hk]
 ·simp only [go_sem,hq,hr,hB,h0,h4,dW,hk]
  simp [dV,hk]
theorem rh (h:PP L F H q rb st):aj Tryz.prog 77 #[pV q] H (fun w H'=>w=.agg #[iV (tk L st).kind,iV (tk L st).n,iV (tk L st).line,iV (tk L st).au,ag (tk L st).text]/\fR L F H q rb st H'):=by
 refine aj.told ?_
 refine ahu (Nat.le_refl _) fun hf=>?_
 simp only [Tryz.f77,Option.getD_some]
 obtain ⟨c1,c2,c3,c4,bL,oL,cL,BL,a,n,c,hq,hr,hB,hl,iC,h0,h4,dk,b7,er⟩:=h.fh
 have dW:=h.at_
 have nq:¬q=H.next:=by have:=h.ql;omega
 have nr:¬rb=H.next:=by have:=h.rl;omega
 have nb:¬bL=H.next:=by omega
 have hX:H.fz H.next=false:=hf.fresh (Nat.le_refl _)
 simp only [go_sem,hq,hr,hB,iC,hl,dW,nq,nr,nb,hX]
 exact fR.same h.toPP0 (bc.push H _)
theorem fJ (h:PP L F H q rb st) {s:bj}:aj Tryz.prog 109 #[pV q,ag s] H (fun w H'=>w=.bool (cQ L s st)/\fR L F H q rb st H'):=by
 refine aj.told ?_
 refine ad0 (Nat.le_refl _) fun hf=>?_
 simp only [Tryz.f109,Option.getD_some]
 simp only [go_sem]
 refine af.by (rh h) ?_
 rintro _ H1 - ⟨rfl,p1⟩
 by_cases hk:(tk L st).kind=1
 ·simp only [go_sem,hk]
  refine af.by (rh (h.post p1)) ?_
  rintro _ H2 - ⟨rfl,p2⟩
  simp only [go_sem]
  exact ⟨by simp [cQ,hk],.last (p1.trans p2).1 (p1.trans p2).2.2⟩
 ·simp only [go_sem,hk]
  exact ⟨by simp [cQ,hk],.last p1.1 p1.2.2⟩
theorem kK (h:PP L F H q rb st) {e:Int}:aj Tryz.prog 110 #[pV q,iV e] H (fun w H'=>fR L F H q rb (eQ e st) H'):=by
 refine aj.told ?_
 refine ad2 (Nat.le_refl _) fun hf=>?_
 simp only [Tryz.f110,Option.getD_some]
 obtain ⟨c1,c2,c3,c4,bL,oL,cL,BL,a,n,c,hq,hr,hB,hl,iC,h0,h4,dk,b7,er⟩:=h.fh
 have hz:=h.fz
 by_cases hb:st.bad=0
 ·simp only [go_sem,hq,hr,hb,hz]
  rw [eQ,if_pos hb]
  refine .last ((Fr.refl _ _).ah (.inl (by simp)) _) ?_
  exact h.toPP0.set hr ⟨st.at_,st.depth,e⟩ h.at_
 ·simp only [go_sem,hq,hr,hb]
  rw [eQ,if_neg hb]
  exact .last (.refl _ _) h.toPP0
theorem TP:fQ Tryz.prog 9=some [ag []]:=by kernel_rfl
theorem Xd (H:ad):∀l:List bj,dP .str H (l.map ag) l []
 | []=>rfl
 | x::l=>⟨[ag x],l.map ag,[],[],rfl,rfl,⟨rfl,rfl⟩,Xd H l⟩
theorem Sl.JQ {v:Value} {l:List bj} {f:List Nat} (h:Sl .str H v l f) {i:Nat} {x:bj} (hi:l[i]?=some x):∃b o c B,v=.slice (some ⟨b,o,none⟩) l.length c/\H.get b=some B/\b∈f/\B.cells[o+i]?=some (ag x):=by
 obtain ⟨b,o,c,B,g,hv,hB,ee,_,b7,hE⟩:=h.at hi
 refine ⟨b,o,c,B,hv,hB,ee,?_⟩
 have:((B.cells.drop (o+i * 1)).take 1)[0]?=some (ag x):=by rw [show (B.cells.drop (o+i * 1)).take 1=_ from hE.1];rfl
 rw [List.getElem?_take,if_pos (by decide),List.getElem?_drop,Nat.mul_one,Nat.add_zero] at this
 exact this
theorem XI {l:List bj} (hl:l≠[]) {ty:TypeId}:Sl .str (H.push ⟨l.map ag,ty,false,false⟩) (.slice (some ⟨H.next,0,none⟩) l.length l.length) l [H.next]:=
 .inr (.inr ⟨H.next,0,_,_,[],rfl,hl,Nat.le_refl _,rfl,by rw [aU,if_pos rfl],Xd _ l⟩)
theorem af5:aj Tryz.prog 89 #[] H (fun w H'=>bc H H'/\Sl .str H' w zD [H.next]/\H.next < H'.next):=by
 refine ahN (Nat.le_refl _) fun hf=>?_
 simp only [Tryz.f89,Option.getD_some]
 have bl:∀{H':ad},rL Tryz.prog 50 30 ((List.range 30).map fun i=>(i,ag (zD.getD i []))) H'=.ok (.slice (some ⟨H'.next,0,none⟩) 30 30) (H'.push ⟨zD.map ag,9,false,false⟩):=fun {H'}=>
  Gy uE TP (by decide) (by decide) rfl
 have bl2:∀{H':ad},rL Tryz.prog 50 30 [(0,ag [109,115,103]),(1,ag [114,101,99]),(2,ag [100,101,102]),(3,ag [97,99,116,111,114]),(4,ag [111,110]),(5,ag [108,101,116]),(6,ag [110,101,119]),(7,ag [115,116,97,114,116]),(8,ag [103,101,116]),(9,ag [115,101,116]),(10,ag [115,119,97,112]),(11,ag [114,101,99,111,118,101,114]),(12,ag [103,105,118,101]),(13,ag [108,111,111,112]),(14,ag [115,112,97,119,110]),(15,ag [99,97,108,108]),(16,ag [97,103,97,105,110]),(17,ag [103,117,97,114,100]),(18,ag [102,114,101,101]),(19,ag [97,115]),(20,ag [105,102]),(21,ag [101,108,115,101]),(22,ag [100,111,110,101]),(23,ag [109,111,118,101]),(24,ag [105,110,116]),(25,ag [97,114,114]),(26,ag [105,115,111]),(27,ag [118,97,108]),(28,ag [114,101,102]),(29,ag [116,97,103])] H'=.ok (.slice (some ⟨H'.next,0,none⟩) 30 30) (H'.push ⟨zD.map ag,9,false,false⟩):=bl
 simp only [go_sem,bl2]
 exact ⟨bc.push H _,XI (by decide),Nat.lt_succ_self _⟩
theorem ahZ {s:bj}:aj Tryz.prog 70 #[ag s] H (fun w H'=>w=.bool (isKey s)/\bc H H'):=by
 refine ahk (Nat.le_refl _) fun hf=>?_
 simp only [Tryz.f70,Option.getD_some]
 simp only [go_sem]
 refine af.by af5 ?_
 rintro v H1 - ⟨hold,hs,hn⟩
 obtain ⟨a0,c0,qz⟩:=hs.val
 have hlen:zD.length=30:=rfl
 rw [hlen] at qz
 simp only [go_sem,qz]
 refine il 32660 30 (fun i V H2=>V 7=iV (i:Nat)/\H1=H2/\∀k,k < i->zD[k]?≠some s) ⟨by simp only [go_sem] <;> rfl,rfl,by omega⟩ ?_ ?_ (by rfl)
 ·rintro i V H2 hi ⟨e7,rfl,mC⟩
  have i7:zD[i]?=some (zD[i]'(by rw [hlen];exact hi)):=List.getElem?_eq_getElem _
  generalize (zD[i]'(by rw [hlen];exact hi))=x at i7
  obtain ⟨b,o,c,B,hv,hB,ee,hc⟩:=hs.JQ i7
  rw [qz,hlen] at hv
  cases hv
  by_cases hd:s=x
  ·subst hd
   simp only [go_sem,e7,hi,hB,hc,Xc]
   refine ⟨?_,hold⟩
   have:isKey s=true:=by rw [isKey,List.contains_iff_mem];exact List.mem_of_getElem? i7
   rw [this]
  ·simp only [go_sem,e7,hi,hB,hc,Xc,hd,cW hi (by omega)]
   intro k hk
   by_cases e:k=i
   ·subst e;rw [i7];intro h;cases h;exact hd rfl
   ·exact mC k (by omega)
 ·rintro V H2 ⟨e7,rfl,mC⟩
  simp only [go_sem,e7]
  refine ⟨?_,hold⟩
  have:isKey s=false:=by
   rw [Bool.eq_false_iff,isKey,Ne,List.contains_iff_mem,List.mem_iff_getElem?]
   rintro ⟨k,hk⟩
   exact mC k (by have:=(List.getElem?_eq_some_iff.1 hk).1;rw [hlen] at this;exact this) hk
  rw [this]
theorem Qe {s:bj}:isWord s=true↔s≠[]/\s.length<=16/\∀(k:Nat) (c:UInt8),s[k]?=some c->oW c=true∨(k≠0/\kU c=true):=by
 cases s with
 | nil=>simp [isWord]
 | cons a r=>
  simp only [isWord,Bool.and_eq_true,decide_eq_true_eq,List.all_eq_true]
  constructor
  ·rintro ⟨⟨h1,h2⟩,h3⟩
   refine ⟨by simp,h3,fun k c hk=>?_⟩
   cases k with
   | zero=>cases hk;exact .inl h1
   | succ k=>exact .inr ⟨by omega,h2 c (List.mem_of_getElem? hk)⟩
  ·rintro ⟨_,h3,h⟩
   refine ⟨⟨?_,fun c hc=>?_⟩,h3⟩
   ·rcases h 0 a rfl with e | ⟨e,_⟩
    ·exact e
    ·exact absurd rfl e
   ·obtain ⟨k,hk⟩:=List.mem_iff_getElem?.1 hc
    rcases h (k+1) c hk with e | ⟨_,e⟩
    ·simp [kU,e]
    ·exact e
theorem af6 {s:bj} (hl:s.length < 1000000):aj Tryz.prog 168 #[ag s] H (fun w H'=>w=.bool (isWord s)/\H=H'):=by
 refine afz (Nat.le_refl _) fun hf=>?_
 simp only [Tryz.f168,Option.getD_some]
 have ig:=fun h=>GN (P:=Tryz.prog) (h:=h) (s:=s) oY
 simp only [go_sem]
 refine il 4294967292 s.length (fun i V H1=>V 3=iV (i:Nat)/\H=H1/\∀(k:Nat) (c:UInt8),k < i->s[k]?=some c->oW c=true∨(k≠0/\kU c=true)) ⟨by simp only [go_sem] <;> rfl,rfl,by omega⟩ ?_ ?_ (by rfl)
 ·rintro i V H1 hi ⟨e3,rfl,iH⟩
  have i7:s[i]?=some s[i]:=List.getElem?_eq_getElem hi
  generalize s[i]=c at i7
  have mu:=fun h=>xt (P:=Tryz.prog) (h:=h) oY i7
  have bf:(oW c=true∨(i≠0/\kU c=true))->∀(k:Nat) (d:UInt8),k < i+1->s[k]?=some d->oW d=true∨(k≠0/\kU d=true):=fun h k d hk hd=>by
   by_cases e:k=i
   ·subst e;rw [i7] at hd;cases hd;exact h
   ·exact iH k d (by omega) hd
  have mC:¬(oW c=true∨(i≠0/\kU c=true))->isWord s=false:=fun h=>by
   rw [Bool.eq_false_iff,Ne,Qe]
   rintro ⟨_,_,h2⟩
   exact h (h2 i c i7)
  simp only [go_sem,e3,ig,hi,mu]
  refine af.by MX ?_
  rintro _ _ - ⟨rfl,rfl⟩
  by_cases h1:oW c=true
  ·simp only [go_sem,h1,e3,cW hi (by omega)]
   exact bf (.inl h1)
  ·by_cases yv:i=0
   ·subst yv
    have e0:(((0:Nat):Int)=0)=True:=by simp
    simp only [go_sem,h1,e3,e0]
    rw [mC (by simp [h1])]
   ·have e0:¬((i:Nat):Int)=0:=by omega
    simp only [go_sem,h1,e3,e0,mu]
    refine af.by GO ?_
    rintro _ _ - ⟨rfl,rfl⟩
    by_cases h2:isDigit c=true
    ·simp only [go_sem,h2,e3,cW hi (by omega)]
     exact bf (.inr ⟨yv,by simp [kU,h2]⟩)
    ·by_cases h3:((c.toNat:Nat):Int)=95
     ·have hc:c=95:=UInt8.toNat_inj.1 (by show c.toNat=95;omega)
      simp only [go_sem,h2,e3,mu,h3,cW hi (by omega)]
      exact bf (.inr ⟨yv,by simp [kU,hc]⟩)
     ·have hc:c≠95:=fun e=>h3 (by rw [e];rfl)
      simp only [go_sem,h2,e3,mu,h3]
      rw [mC (by simp [h1,h2,kU,hc])]
 ·rintro V H1 ⟨e3,rfl,iH⟩
  have ah0:∀(k:Nat) (c:UInt8),s[k]?=some c->oW c=true∨(k≠0/\kU c=true):=fun k c hk=>iH k c (List.getElem?_eq_some_iff.1 hk).1 hk
  by_cases h0:(1:Int)<=((s.length:Nat):Int)
  ·have dk:s≠[]:=List.length_pos_iff.1 (by omega)
   by_cases pF:((s.length:Nat):Int)<=16
   ·simp only [go_sem,e3,ig,h0,pF]
    rw [Qe.2 ⟨dk,by omega,ah0⟩]
   ·have:isWord s=false:=by rw [Bool.eq_false_iff,Ne,Qe];rintro ⟨_,h,_⟩;omega
    simp only [go_sem,e3,ig,h0,pF,this]
  ·have:isWord s=false:=by
    have:s=[]:=List.length_eq_zero_iff.1 (by omega)
    rw [this];rfl
   simp only [go_sem,e3,ig,h0,this]
theorem X4 {s:bj} (hl:s.length < 1000000):aj Tryz.prog 158 #[ag s] H (fun w H'=>w=.bool (D5 s)/\bc H H'):=by
 refine aff (Nat.le_refl _) fun hf=>?_
 simp only [Tryz.f158,Option.getD_some]
 simp only [go_sem]
 refine af.by (af6 hl) ?_
 rintro _ _ - ⟨rfl,rfl⟩
 by_cases h:isWord s=true
 ·simp only [go_sem,h]
  refine af.by ahZ ?_
  rintro _ H1 - ⟨rfl,hold⟩
  simp only [go_sem,D5,h,Bool.true_and]
  exact hold
 ·simp only [go_sem,h,D5,Bool.false_and]
  exact bc.refl H
structure LG (L:List bh):Prop where
 ok:Lo L
 len:L.length < 1000000
 text:∀t∈L,t.text.length < 1000000
theorem XJ (hL:LG L):(tk L st).text.length < 1000000:=by
 unfold tk
 rw [List.getD_eq_getElem?_getD]
 cases h:L[st.at_]? with
 | none=>decide
 | some t=>exact hL.text t (List.mem_of_getElem? h)
theorem mX (hL:LG L) (ha:st.at_ < L.length) (hk:(tk L st).kind≠4):st.at_+1 < L.length:=by
 have h:L[st.at_]?=some L[st.at_]:=List.getElem?_eq_getElem ha
 refine hL.ok.next h ?_
 have:tk L st=L[st.at_]:=by simp [tk,List.getD_eq_getElem?_getD,ha]
 rw [<-this];exact hk
theorem JF (hL:LG L) (h:PP L F H q rb st):aj Tryz.prog 139 #[pV q] H (fun w H'=>w=.bool (tx L st)/\fR L F H q rb st H'):=by
 refine aj.told ?_
 refine aeH (Nat.le_refl _) fun hf=>?_
 simp only [Tryz.f139,Option.getD_some]
 simp only [go_sem]
 refine af.by (rh h) ?_
 rintro _ H1 - ⟨rfl,p1⟩
 by_cases hk:(tk L st).kind=1
 ·simp only [go_sem,hk]
  refine af.by (rh (h.post p1)) ?_
  rintro _ H2 - ⟨rfl,p2⟩
  simp only [go_sem]
  refine af.by (X4 (XJ hL)) ?_
  rintro _ H3 - ⟨rfl,o3⟩
  simp only [go_sem]
  have dw:=p1.trans p2
  exact ⟨by simp [tx,hk],.last (dw.1.then (o3.fr _)) (dw.2.2.aE o3)⟩
 ·simp only [go_sem,hk]
  exact ⟨by simp [tx,hk],.last p1.1 p1.2.2⟩
theorem ac8:c9 st=true↔st.bad=0:=by simp [c9]
theorem MY {e:Int} (he:e≠0) (hb:c9 st=true):c9 (eQ e st)=false:=by
 rw [ac8] at hb
 simp [eQ,hb,c9,he]
theorem jd {s:bj} (h:cQ L s st=true):(tk L st).kind≠4:=by simp [cQ] at h;omega
theorem wh {s:bj} (h:dV L s st=true):(tk L st).kind≠4:=by simp [dV] at h;omega
theorem ah1 (h:tx L st=true):(tk L st).kind≠4:=by simp [tx] at h;omega
theorem iB (hL:LG L) (h:PP L F H q rb st) {s:bj}:aj Tryz.prog 113 #[pV q,ag s] H (fun w H'=>fR L F H q rb (dA L s st) H'):=by
 refine aj.told ?_
 refine ad8 (Nat.le_refl _) fun hf=>?_
 simp only [Tryz.f113,Option.getD_some]
 simp only [go_sem]
 have hz:=h.fz
 have jt:=hL.len
 have dW:=h.at_
 have cU:IntKind.wrap .i64 (((st.at_:Nat):Int)+1)=((st.at_+1:Nat):Int):=cW dW (by omega)
 refine af.by (eJ h) ?_
 rintro _ _ - ⟨rfl,rfl⟩
 by_cases hb:c9 st=true
 ·simp only [go_sem,hb]
  refine af.by (fJ h) ?_
  rintro _ H1 - ⟨rfl,p1⟩
  have h1:=h.post p1
  obtain ⟨c1,c2,c3,c4,bL,oL,cL,BL,a,n,c,hq,hr,hB,hl,iC,h0,h4,dk,b7,er⟩:=h1.fh
  by_cases hw:cQ L s st=true
  ·have e1:xZ L s st=st:=by simp [xZ,hw]
   simp only [go_sem,hw]
   refine af.by (eJ h1) ?_
   rintro _ _ - ⟨rfl,rfl⟩
   simp only [go_sem,hb,hq,hr,hz,cU]
   rw [dA,e1,if_pos hb]
   exact .last (p1.1.ah (.inl (by simp)) _) (h1.toPP0.set hr (aC st) (mX hL dW (jd hw)))
  ·simp only [go_sem,hw,hq]
   refine af.by (mY h1) ?_
   rintro _ _ - ⟨rfl,rfl⟩
   by_cases hs:dV L s st=true
   ·have e1:xZ L s st=st:=by simp [xZ,hs]
    simp only [go_sem,hs]
    refine af.by (eJ h1) ?_
    rintro _ _ - ⟨rfl,rfl⟩
    simp only [go_sem,hb,hq,hr,hz,cU]
    rw [dA,e1,if_pos hb]
    exact .last (p1.1.ah (.inl (by simp)) _) (h1.toPP0.set hr (aC st) (mX hL dW (wh hs)))
   ·have e1:xZ L s st=eQ 2 st:=by simp [xZ,hw,hs,hb]
    simp only [go_sem,hs]
    refine af.by (kK h1) ?_
    rintro _ H2 - p2
    simp only [go_sem]
    refine af.by (eJ (h1.post p2)) ?_
    rintro _ _ - ⟨rfl,rfl⟩
    have ee:=MY (e:=2) (by decide) hb
    simp only [go_sem,ee]
    rw [dA,e1,ee]
    exact .last (p1.trans p2).1 p2.2.2
 ·have e1:xZ L s st=st:=by simp [xZ,hb]
  simp only [go_sem,hb]
  refine af.by (eJ h) ?_
  rintro _ _ - ⟨rfl,rfl⟩
  simp only [go_sem,hb]
  rw [dA,e1,if_neg hb]
  exact .last (.refl _ _) h.toPP0
theorem jc (hL:LG L) (h:PP L F H q rb st):aj Tryz.prog 111 #[pV q] H (fun w H'=>w=ag (cj L st).1/\fR L F H q rb (cj L st).2 H'):=by
 refine aj.told ?_
 refine ad4 (Nat.le_refl _) fun hf=>?_
 simp only [Tryz.f111,Option.getD_some]
 simp only [go_sem]
 have hz:=h.fz
 have jt:=hL.len
 have dW:=h.at_
 have cU:IntKind.wrap .i64 (((st.at_:Nat):Int)+1)=((st.at_+1:Nat):Int):=cW dW (by omega)
 have hwb:IntKind.wrap .i64 (((st.at_+1:Nat):Int) - 1)=((st.at_:Nat):Int):=by rw [show ((st.at_+1:Nat):Int) - 1=((st.at_:Nat):Int) from by omega];exact uy (by omega)
 refine af.by (eJ h) ?_
 rintro _ _ - ⟨rfl,rfl⟩
 by_cases hb:c9 st=true
 ·simp only [go_sem,hb]
  refine af.by (JF hL h) ?_
  rintro _ H1 - ⟨rfl,p1⟩
  have h1:=h.post p1
  obtain ⟨c1,c2,c3,c4,bL,oL,cL,BL,a,n,c,hq,hr,hB,hl,iC,h0,h4,dk,b7,er⟩:=h1.fh
  by_cases hn:tx L st=true
  ·have e1:zE L st=st:=by simp [zE,hn]
   simp only [go_sem,hn]
   refine af.by (eJ h1) ?_
   rintro _ _ - ⟨rfl,rfl⟩
   have yD:=h.qr
   simp only [go_sem,hb,hq,hr,hz,cU,hwb,hB,dW,h4,yD,dk]
   rw [cj,e1,if_pos hb]
   exact ⟨rfl,.last (p1.1.ah (.inl (by simp)) _) (h1.toPP0.set hr (aC st) (mX hL dW (ah1 hn)))⟩
  ·have e1:zE L st=eQ 2 st:=by simp [zE,hn,hb]
   simp only [go_sem,hn]
   refine af.by (kK h1) ?_
   rintro _ H2 - p2
   simp only [go_sem]
   refine af.by (eJ (h1.post p2)) ?_
   rintro _ _ - ⟨rfl,rfl⟩
   have ee:=MY (e:=2) (by decide) hb
   simp only [go_sem,ee]
   rw [cj,e1,ee]
   exact ⟨rfl,.last (p1.trans p2).1 p2.2.2⟩
 ·have e1:zE L st=st:=by simp [zE,hb]
  simp only [go_sem,hb]
  refine af.by (eJ h) ?_
  rintro _ _ - ⟨rfl,rfl⟩
  simp only [go_sem,hb]
  rw [cj,e1,if_neg hb]
  exact ⟨rfl,.last (.refl _ _) h.toPP0⟩
end
section
variable {L:List bh} {F:List Nat} {H:ad} {q rb:Nat} {st:aG}
def zF (L:List bh) (st:aG):aG:=if c9 st&&!dV L [123] st then eQ 2 st else st
def uF (L:List bh) (st:aG):aG:=if c9 (zF L st)&&decide (12<=(zF L st).depth) then eQ 3 (zF L st) else zF L st
def uG (L:List bh) (st:aG):aG:=if c9 (uF L st) then {(uF L st) with depth:=IntKind.wrap .i64 ((uF L st).depth+1),at_:=(uF L st).at_+1} else uF L st
def GP (L:List bh) (st:aG):aG:=if c9 (dA L [125] st) then {(dA L [125] st) with depth:=IntKind.wrap .i64 ((dA L [125] st).depth - 1)} else dA L [125] st
theorem QV (hL:LG L) (h:PP L F H q rb st):aj Tryz.prog 145 #[pV q] H (fun w H'=>fR L F H q rb (uG L st) H'):=by
 refine aj.told ?_
 refine aeT (Nat.le_refl _) fun hf=>?_
 simp only [Tryz.f145,Option.getD_some]
 simp only [go_sem]
 have hz:=h.fz
 have jt:=hL.len
 have dW:=h.at_
 have cU:IntKind.wrap .i64 (((st.at_:Nat):Int)+1)=((st.at_+1:Nat):Int):=cW dW (by omega)
 obtain ⟨c1,c2,c3,c4,bL,oL,cL,BL,a,n,c,hq,hr,hB,hl,iC,h0,h4,dk,b7,er⟩:=h.fh
 refine af.by (eJ h) ?_
 rintro _ _ - ⟨rfl,rfl⟩
 by_cases hb:c9 st=true
 ·simp only [go_sem,hb,hq]
  refine af.by (mY h) ?_
  rintro _ _ - ⟨rfl,rfl⟩
  by_cases hs:dV L [123] st=true
  ·have e1:zF L st=st:=by simp [zF,hs]
   simp only [go_sem,hs]
   refine af.by (eJ h) ?_
   rintro _ _ - ⟨rfl,rfl⟩
   by_cases hd:(12:Int)<=st.depth
   ·have e2:uF L st=eQ 3 st:=by simp [uF,e1,hb,hd]
    simp only [go_sem,hb,hq,hr,hd]
    refine af.by (kK h) ?_
    rintro _ H2 - p2
    simp only [go_sem]
    refine af.by (eJ (h.post p2)) ?_
    rintro _ _ - ⟨rfl,rfl⟩
    have ee:=MY (e:=3) (by decide) hb
    simp only [go_sem,ee]
    rw [uG,e2,ee]
    exact .last p2.1 p2.2.2
   ·have e2:uF L st=st:=by simp [uF,e1,hd]
    simp only [go_sem,hb,hq,hr,hd]
    refine af.by (eJ h) ?_
    rintro _ _ - ⟨rfl,rfl⟩
    have yD:=h.qr
    simp only [go_sem,hb,hq,hr,hz,cU,yD]
    rw [uG,e2,if_pos hb,q8]
    exact .last ((Fr.refl _ _).ah (.inl (by simp)) _) (h.toPP0.set hr ⟨st.at_+1,IntKind.wrap .i64 (st.depth+1),st.bad⟩ (mX hL dW (wh hs)))
  ·have e1:zF L st=eQ 2 st:=by simp [zF,hs,hb]
   have ee:=MY (e:=2) (by decide) hb
   have e2:uF L st=eQ 2 st:=by simp [uF,e1,ee]
   simp only [go_sem,hs]
   refine af.by (kK h) ?_
   rintro _ H2 - p2
   simp only [go_sem]
   have h2:=h.post p2
   refine af.by (eJ h2) ?_
   rintro _ _ - ⟨rfl,rfl⟩
   simp only [go_sem,ee]
   refine af.by (eJ h2) ?_
   rintro _ _ - ⟨rfl,rfl⟩
   simp only [go_sem,ee]
   rw [uG,e2,ee]
   exact .last p2.1 p2.2.2
 ·have e1:zF L st=st:=by simp [zF,hb]
  have e2:uF L st=st:=by simp [uF,e1,hb]
  simp only [go_sem,hb]
  refine af.by (eJ h) ?_
  rintro _ _ - ⟨rfl,rfl⟩
  simp only [go_sem,hb]
  refine af.by (eJ h) ?_
  rintro _ _ - ⟨rfl,rfl⟩
  simp only [go_sem,hb]
  rw [uG,e2,if_neg hb]
  exact .last (.refl _ _) h.toPP0
theorem qe (hL:LG L) (h:PP L F H q rb st):aj Tryz.prog 147 #[pV q] H (fun w H'=>fR L F H q rb (GP L st) H'):=by
 refine aj.told ?_
 refine aeX (Nat.le_refl _) fun hf=>?_
 simp only [Tryz.f147,Option.getD_some]
 simp only [go_sem]
 refine af.by (iB hL h) ?_
 rintro _ H1 - p1
 have h1:=h.post p1
 have hz:=h.fz
 rw [GP]
 generalize dA L [125] st=s1 at p1 h1
 obtain ⟨c1,c2,c3,c4,bL,oL,cL,BL,a,n,c,hq,hr,hB,hl,iC,h0,h4,dk,b7,er⟩:=h1.fh
 simp only [go_sem]
 refine af.by (eJ h1) ?_
 rintro _ _ - ⟨rfl,rfl⟩
 by_cases hb:c9 s1=true
 ·simp only [go_sem,hb,hq,hr,hz]
  exact .last (p1.1.ah (.inl (by simp)) _) (h1.toPP0.set hr ⟨s1.at_,IntKind.wrap .i64 (s1.depth - 1),s1.bad⟩ h1.at_)
 ·simp only [go_sem,hb]
  exact .last p1.1 p1.2.2
def tG:List bj:=[[105,115,111],[118,97,108],[114,101,102],[116,97,103]]
def CO (L:List bh) (st:aG):Int->List bj->Int
 | _,[]=>0
 | k,s::l=>if cQ L s st then k else CO L st (k+1) l
def lu (L:List bh) (st:aG):Int:=CO L st 1 tG
theorem NG (h:PP L F H q rb st):aj Tryz.prog 160 #[pV q] H (fun w H'=>w=iV (lu L st)/\fR L F H q rb st H'):=by
 refine aj.told ?_
 refine afj (Nat.le_refl _) fun hf=>?_
 simp only [Tryz.f160,Option.getD_some]
 have bl:∀{H':ad},rL Tryz.prog 50 4 [(0,ag [105,115,111]),(1,ag [118,97,108]),(2,ag [114,101,102]),(3,ag [116,97,103])] H'=.ok (.slice (some ⟨H'.next,0,none⟩) 4 4) (H'.push ⟨tG.map ag,9,false,false⟩):=fun {H'}=>
  Gy uE TP (by decide) (by decide) rfl
 simp only [go_sem,bl]
 have hs:=XI (H:=H) (l:=tG) (by decide) (ty:=9)
 have hlen:tG.length=4:=rfl
 generalize TQ:(H.push ⟨tG.map ag,9,false,false⟩)=H0 at hs
 have o0:bc H H0:=by rw [<-TQ];exact bc.push _ _
 have rn:H.next < H0.next:=by rw [<-TQ];exact Nat.lt_succ_self _
 have nr:H.next≠rb:=by have:=h.rl;omega
 have Bp:H0.fz rb=false:=by rw [<-TQ,qf,h.fz];simp;omega
 refine il 262044 4 (fun i V H2=>V 7=iV (i:Nat)/\Fr [rb] H H2/\PP L F H2 q rb st/\H2.get H.next=H0.get H.next/\H.next < H2.next/\lu L st=CO L st ((i+1:Nat):Int) (tG.drop i)) ⟨by simp only [go_sem] <;> rfl,o0.fr _,{h.toPP0.aE o0 with fz:=Bp},rfl,rn,rfl⟩ ?_ ?_ (by rfl)
 ·rintro i V H2 hi ⟨e7,kj,h2,g2,n2,EB⟩
  have i7:tG[i]?=some (tG[i]'hi):=List.getElem?_eq_getElem hi
  have cB:tG.drop i=(tG[i]'hi)::tG.drop (i+1):=(List.getElem_cons_drop hi).symm
  generalize (tG[i]'hi)=s at i7 cB
  obtain ⟨b,o,c,B,hv,hB,ee,hc⟩:=(hs.ae (H':=H2) fun y hy=>by rw [List.mem_singleton] at hy;subst hy;exact g2).JQ i7
  rw [hlen] at hv
  cases hv
  rw [Nat.zero_add] at hc
  rw [cB,CO] at EB
  simp only [go_sem,e7,hi,hB,hc,Nat.zero_add]
  refine af.by (fJ h2) ?_
  rintro _ H3 - ⟨rfl,p3⟩
  by_cases hw:cQ L s st=true
  ·rw [if_pos hw] at EB
   simp only [go_sem,hw,cW hi (by omega)]
   exact ⟨by rw [EB],.last (kj.then p3.1) p3.2.2⟩
  ·rw [if_neg hw] at EB
   simp only [go_sem,hw,e7,cW hi (by omega)]
   exact ⟨kj.then p3.1,h2.post p3,by rw [p3.1.get _ n2 (by simpa using nr),g2],Nat.lt_of_lt_of_le n2 p3.1.nx,by rw [EB];rfl⟩
 ·rintro V H2 ⟨e7,kj,h2,g2,n2,EB⟩
  simp only [go_sem,e7]
  refine ⟨by rw [EB];rfl,.last kj h2.toPP0⟩
def D0 (L:List bh) (eo:Int) (st:aG):Bool:=
 if eo=0 then decide (0 < lu L st)||cQ L [105,110,116] st||dV L [33] st||dV L [63] st
 else if eo=1 then tx L st
 else tx L st||cQ L [109,111,118,101] st||cQ L [116,97,103] st||decide ((tk L st).kind=2)
theorem Xe (hL:LG L) (h:PP L F H q rb st) {eo:Int}:aj Tryz.prog 159 #[pV q,iV eo] H (fun w H'=>w=.bool (D0 L eo st)/\fR L F H q rb st H'):=by
 refine aj.told ?_
 refine afh (Nat.le_refl _) fun hf=>?_
 simp only [Tryz.f159,Option.getD_some]
 by_cases w0:eo=0
 ·rw [D0,if_pos w0]
  simp only [go_sem,w0]
  refine af.by (NG h) ?_
  rintro _ H1 - ⟨rfl,p1⟩
  have h1:=h.post p1
  by_cases b1:0 < lu L st
  ·simp only [go_sem,b1]
   exact .last p1.1 p1.2.2
  simp only [go_sem,b1]
  refine af.by (fJ h1) ?_
  rintro _ H2 - ⟨rfl,p2⟩
  have h2:=h1.post p2
  have dw:=p1.trans p2
  by_cases b2:cQ L [105,110,116] st=true
  ·simp only [go_sem,b2]
   exact .last dw.1 dw.2.2
  obtain ⟨c1,c2,c3,c4,bL,oL,cL,BL,a,n,c,hq,hr,hB,hl,iC,h0,h4,dk,b7,er⟩:=h2.fh
  simp only [go_sem,b2,hq]
  refine af.by (mY h2) ?_
  rintro _ _ - ⟨rfl,rfl⟩
  by_cases b3:dV L [33] st=true
  ·simp only [go_sem,b3]
   exact .last dw.1 dw.2.2
  simp only [go_sem,b3,hq]
  refine af.by (mY h2) ?_
  rintro _ _ - ⟨rfl,rfl⟩
  simp only [go_sem]
  exact ⟨by simp [b1,b2,b3],.last dw.1 dw.2.2⟩
 by_cases w1:eo=1
 ·rw [D0,if_neg w0,if_pos w1]
  simp only [go_sem,w0,w1]
  refine af.by (JF hL h) ?_
  rintro _ H1 - ⟨rfl,p1⟩
  simp only [go_sem]
  exact .last p1.1 p1.2.2
 rw [D0,if_neg w0,if_neg w1]
 simp only [go_sem,w0,w1]
 refine af.by (JF hL h) ?_
 rintro _ H1 - ⟨rfl,p1⟩
 have h1:=h.post p1
 by_cases b1:tx L st=true
 ·simp only [go_sem,b1]
  exact .last p1.1 p1.2.2
 simp only [go_sem,b1]
 refine af.by (fJ h1) ?_
 rintro _ H2 - ⟨rfl,p2⟩
 have h2:=h1.post p2
 have dw:=p1.trans p2
 by_cases b2:cQ L [109,111,118,101] st=true
 ·simp only [go_sem,b2]
  exact .last dw.1 dw.2.2
 simp only [go_sem,b2]
 refine af.by (fJ h2) ?_
 rintro _ H3 - ⟨rfl,p3⟩
 have h3:=h2.post p3
 have oK:=dw.trans p3
 by_cases b3:cQ L [116,97,103] st=true
 ·simp only [go_sem,b3]
  exact .last oK.1 oK.2.2
 simp only [go_sem,b3]
 refine af.by (rh h3) ?_
 rintro _ H4 - ⟨rfl,p4⟩
 simp only [go_sem]
 exact ⟨by simp [b1,b2,b3],.last (oK.trans p4).1 (oK.trans p4).2.2⟩
end
section
variable {L:List bh} {F:List Nat} {H:ad} {q rb:Nat} {st:aG}
def AU (L:List bh) (n:Nat) (eo:Int) (st:aG):Bool × aG:=
 if D0 L eo st=true then (if 6<=n then (false,eQ 3 st) else (true,st)) else (false,eQ 2 st)
def iZ (L:List bh) (n:Nat) (eo:Int) (st:aG):Bool × aG:=
 if c9 st=true then (if n=0 then (if dV L [41] st=true then (false,st) else AU L n eo st) else if dV L [44] st=true then AU L n eo (aC st) else (false,st)) else (false,st)
theorem Nj (hL:LG L) (h:PP L F H q rb st) {n:Nat} {eo:Int}:aj Tryz.prog 140 #[pV q,iV (n:Nat),iV eo] H (fun w H'=>w=.bool (iZ L n eo st).1/\fR L F H q rb (iZ L n eo st).2 H'):=by
 refine aj.told ?_
 refine aeJ (Nat.le_refl _) fun hf=>?_
 simp only [Tryz.f140,Option.getD_some]
 simp only [go_sem]
 have hz:=h.fz
 have jt:=hL.len
 have dW:=h.at_
 have cU:IntKind.wrap .i64 (((st.at_:Nat):Int)+1)=((st.at_+1:Nat):Int):=cW dW (by omega)
 obtain ⟨c1,c2,c3,c4,bL,oL,cL,BL,a,m,c,hq,hr,hB,hl,iC,h0,h4,dk,b7,er⟩:=h.fh
 refine af.by (eJ h) ?_
 rintro _ _ - ⟨rfl,rfl⟩
 by_cases hb:c9 st=true
 ·by_cases hn:n=0
  ·have yE:((n:Nat):Int)=0:=by omega
   have i4:¬(0:Int) < ((n:Nat):Int):=by omega
   have TT:¬(6:Int)<=((n:Nat):Int):=by omega
   simp only [go_sem,hb,yE,hq]
   refine af.by (mY h) ?_
   rintro _ _ - ⟨rfl,rfl⟩
   by_cases hs:dV L [41] st=true
   ·have e:iZ L n eo st=(false,st):=by rw [iZ,if_pos hb,if_pos hn,if_pos hs]
    simp only [go_sem,hs,e]
    exact .last (.refl _ _) h.toPP0
   simp only [go_sem,hs,i4]
   refine af.by (Xe hL h) ?_
   rintro _ H2 - ⟨rfl,p2⟩
   by_cases yF:D0 L eo st=true
   ·have e:iZ L n eo st=(true,st):=by rw [iZ,if_pos hb,if_pos hn,if_neg hs,AU,if_pos yF,if_neg (by omega)]
    simp only [go_sem,yF,TT,e]
    exact .last p2.1 p2.2.2
   ·have e:iZ L n eo st=(false,eQ 2 st):=by rw [iZ,if_pos hb,if_pos hn,if_neg hs,AU,if_neg yF]
    simp only [go_sem,yF]
    refine af.by (kK (h.post p2)) ?_
    rintro _ H3 - p3
    simp only [go_sem,e]
    exact .last (p2.trans p3).1 p3.2.2
  ·have yE:¬((n:Nat):Int)=0:=by omega
   have i4:(0:Int) < ((n:Nat):Int):=by omega
   simp only [go_sem,hb,yE,i4,hq]
   refine af.by (mY h) ?_
   rintro _ _ - ⟨rfl,rfl⟩
   by_cases hs:dV L [44] st=true
   ·have e0:iZ L n eo st=AU L n eo (aC st):=by rw [iZ,if_pos hb,if_neg hn,if_pos hs]
    simp only [go_sem,hs,hq,hr,hz,cU,e0]
    have p1:fR L F H q rb (aC st) (H.ah rb ⟨[.slice (some ⟨bL,oL,none⟩) L.length cL,iV ((st.at_+1:Nat):Int),.slice none 0 0,.bool true,iV st.depth,iV st.bad,.slice a m c],125,false,false⟩):=
     ⟨(Fr.refl _ _).ah (.inl (by simp)) _,fun _=>rfl,h.toPP0.set hr (aC st) (mX hL dW (wh hs))⟩
    have TU:(H.ah rb ⟨[.slice (some ⟨bL,oL,none⟩) L.length cL,iV ((st.at_+1:Nat):Int),.slice none 0 0,.bool true,iV st.depth,iV st.bad,.slice a m c],125,false,false⟩).fz=H.fz:=rfl
    generalize (H.ah rb ⟨[.slice (some ⟨bL,oL,none⟩) L.length cL,iV ((st.at_+1:Nat):Int),.slice none 0 0,.bool true,iV st.depth,iV st.bad,.slice a m c],125,false,false⟩)=H1 at p1 TU
    have h1:=h.post p1
    refine af.by (Xe hL h1) ?_
    rintro _ H2 - ⟨rfl,p2⟩
    have dw:=p1.trans p2
    by_cases yF:D0 L eo (aC st)=true
    ·by_cases h6:6<=n
     ·have TV:(6:Int)<=((n:Nat):Int):=by omega
      have e:iZ L n eo st=(false,eQ 3 (aC st)):=by rw [e0,AU,if_pos yF,if_pos h6]
      simp only [go_sem,yF,TV]
      refine af.by (kK (h1.post p2)) ?_
      rintro _ H3 - p3
      simp only [go_sem,e]
      exact .last (dw.trans p3).1 p3.2.2
     ·have TV:¬(6:Int)<=((n:Nat):Int):=by omega
      have e:iZ L n eo st=(true,aC st):=by rw [e0,AU,if_pos yF,if_neg h6]
      simp only [go_sem,yF,TV,e]
      exact .last dw.1 dw.2.2
    ·have e:iZ L n eo st=(false,eQ 2 (aC st)):=by rw [e0,AU,if_neg yF]
     simp only [go_sem,yF]
     refine af.by (kK (h1.post p2)) ?_
     rintro _ H3 - p3
     simp only [go_sem,e]
     exact .last (dw.trans p3).1 p3.2.2
   ·have e:iZ L n eo st=(false,st):=by rw [iZ,if_pos hb,if_neg hn,if_neg hs]
    simp only [go_sem,hs,e]
    exact .last (.refl _ _) h.toPP0
 ·have e:iZ L n eo st=(false,st):=by rw [iZ,if_neg hb]
  simp only [go_sem,hb,e]
  exact .last (.refl _ _) h.toPP0
def hV (L:List bh) (st:aG):so × aG:=
 if c9 st=true then (if (tk L st).kind=2 then (⟨1,(tk L st).n,[]⟩,aC st)
  else if cQ L [109,111,118,101] st=true then (⟨3,0,(cj L (aC st)).1⟩,(cj L (aC st)).2)
  else if cQ L [116,97,103] st=true then (⟨4,0,(cj L (aC st)).1⟩,(cj L (aC st)).2)
  else (⟨2,0,(cj L st).1⟩,(cj L st).2)) else (⟨0,0,[]⟩,st)
theorem Ql {k:Int} {s:bj} {h:KH}:fH Tryz.prog 44 [(0,iV k),(2,ag s)] h=.ok (.agg #[iV k,iV 0,ag s]) h:=by kernel_rfl
theorem aa5 {k n:Int} {h:KH}:fH Tryz.prog 44 [(0,iV k),(1,iV n)] h=.ok (.agg #[iV k,iV n,ag []]) h:=by kernel_rfl
theorem aa6 {h:KH}:fH Tryz.prog 44 [] h=.ok (.agg #[iV 0,iV 0,ag []]) h:=by kernel_rfl
abbrev ajn (x:so):Value:=.agg #[iV x.kind,iV x.n,ag x.name]
theorem CB (hL:LG L) (h:PP L F H q rb st):aj Tryz.prog 170 #[pV q] H (fun w H'=>w=ajn (hV L st).1/\fR L F H q rb (hV L st).2 H'):=by
 refine aj.told ?_
 refine afD (Nat.le_refl _) fun hf=>?_
 simp only [Tryz.f170,Option.getD_some]
 simp only [go_sem]
 obtain ⟨fq,fr,fF⟩:=h.toPP0.fresh (Nat.le_refl H.next)
 have vl:H.fz H.next=false:=hf.fresh (Nat.le_refl _)
 have rA:=h.push ⟨[iV 0,iV 0,ag []],44,false,false⟩
 have Ad:Fr [rb] H (H.push ⟨[iV 0,iV 0,ag []],44,false,false⟩):=(bc.push H _).fr _
 have gA:(H.push ⟨[iV 0,iV 0,ag []],44,false,false⟩).get H.next=some ⟨[iV 0,iV 0,ag []],44,false,false⟩:=by rw [aU,if_pos rfl]
 have nA:H.next < (H.push ⟨[iV 0,iV 0,ag []],44,false,false⟩).next:=Nat.lt_succ_self _
 generalize (H.push ⟨[iV 0,iV 0,ag []],44,false,false⟩)=Ha at rA Ad gA nA
 have hz:=h.fz
 have jt:=hL.len
 have dW:=h.at_
 have cU:IntKind.wrap .i64 (((st.at_:Nat):Int)+1)=((st.at_+1:Nat):Int):=cW dW (by omega)
 -- eo is aoD
 have fin:∀{H5:ad} {bO:aG},Fr [rb] Ha H5->PP0 L F H5 q rb bO->∀B:ct,B.ro=false->fR L F H q rb bO ((H5.ah H.next B).ai H.fz):=fun f5 p5 B hB=>.last ((Ad.then f5).ah (.inr (Nat.le_refl _)) B hB) (p5.put B fq fr fF)
 have wO:∀{H5:ad},Fr [rb] Ha H5->H5.get H.next=some ⟨[iV 0,iV 0,ag []],44,false,false⟩:=fun f5=>by rw [f5.get _ nA (by simpa using fr)];exact gA
 refine af.by (eJ rA) ?_
 rintro _ _ - ⟨rfl,rfl⟩
 by_cases hb:c9 st=true
 ·simp only [go_sem,hb]
  refine af.by (rh rA) ?_
  rintro _ H1 - ⟨rfl,p1⟩
  have h1:=rA.post p1
  have f1:=p1.1
  have gJ:H.fz H1.next=false:=hf.fresh (Nat.le_trans Ad.nx f1.nx)
  simp only [go_sem,gJ]
  have h2:=h1.push ⟨[iV (tk L st).kind,iV (tk L st).n,iV (tk L st).line,iV (tk L st).au,ag (tk L st).text],82,false,false⟩
  have f2:Fr [rb] Ha (H1.push ⟨[iV (tk L st).kind,iV (tk L st).n,iV (tk L st).line,iV (tk L st).au,ag (tk L st).text],82,false,false⟩):=f1.push _
  have g2:(H1.push ⟨[iV (tk L st).kind,iV (tk L st).n,iV (tk L st).line,iV (tk L st).au,ag (tk L st).text],82,false,false⟩).get H1.next=some ⟨[iV (tk L st).kind,iV (tk L st).n,iV (tk L st).line,iV (tk L st).au,ag (tk L st).text],82,false,false⟩:=by rw [aU,if_pos rfl]
  have nr1:¬H1.next=rb:=(h1.toPP0.fresh (Nat.le_refl _)).2.1
  generalize (H1.push ⟨[iV (tk L st).kind,iV (tk L st).n,iV (tk L st).line,iV (tk L st).au,ag (tk L st).text],82,false,false⟩)=H2 at h2 f2 g2
  obtain ⟨c1,c2,c3,c4,bL,oL,cL,BL,a,n,c,hq,hr,hB,hl,iC,h0,h4,dk,b7,er⟩:=h2.fh
  have TW:=wO f2
  have OT:¬H.next=rb:=fr
  -- one token on
  have iE:∀{H2:ad} {bL oL cL a n c},PP L F H2 q rb st->(tk L st).kind≠4->H2.get rb=some ⟨[.slice (some ⟨bL,oL,none⟩) L.length cL,iV (st.at_:Nat),.slice none 0 0,.bool true,iV st.depth,iV st.bad,.slice a n c],125,false,false⟩->PP L F (H2.ah rb ⟨[.slice (some ⟨bL,oL,none⟩) L.length cL,iV ((st.at_+1:Nat):Int),.slice none 0 0,.bool true,iV st.depth,iV st.bad,.slice a n c],125,false,false⟩) q rb (aC st):=fun h hk hr=>{h.toPP0.set hr (aC st) (mX hL dW hk) with fz:=h.fz}
  by_cases hk:(tk L st).kind=2
  ·have e:hV L st=(⟨1,(tk L st).n,[]⟩,aC st):=by rw [hV,if_pos hb,if_pos hk]
   have hp:=iE h2 (by omega) hr
   have fp:=(f2.ah (.inl (by simp:rb∈[rb])) ⟨[.slice (some ⟨bL,oL,none⟩) L.length cL,iV ((st.at_+1:Nat):Int),.slice none 0 0,.bool true,iV st.depth,iV st.bad,.slice a n c],125,false,false⟩)
   simp only [go_sem,hk,g2,hq,hr,hz,cU,nr1,OT,TW,vl,aa5,e]
   exact fin fp hp.toPP0 _ rfl
  simp only [go_sem,hk,g2]
  refine af.by (fJ h2) ?_
  rintro _ H3 - ⟨rfl,p3⟩
  have h3:=h2.post p3
  have f3:=f2.then p3.1
  by_cases hm:cQ L [109,111,118,101] st=true
  ·obtain ⟨c1,c2,c3,c4,bL,oL,cL,BL,a,n,c,hq,hr,hB,hl,iC,h0,h4,dk,b7,er⟩:=h3.fh
   have e:hV L st=(⟨3,0,(cj L (aC st)).1⟩,(cj L (aC st)).2):=by rw [hV,if_pos hb,if_neg hk,if_pos hm]
   have hp:=iE h3 (jd hm) hr
   have fp:=(f3.ah (.inl (by simp:rb∈[rb])) ⟨[.slice (some ⟨bL,oL,none⟩) L.length cL,iV ((st.at_+1:Nat):Int),.slice none 0 0,.bool true,iV st.depth,iV st.bad,.slice a n c],125,false,false⟩)
   simp only [go_sem,hm,hq,hr,hz,cU]
   refine af.by (jc hL hp) ?_
   rintro _ H4 - ⟨rfl,p4⟩
   have wT:=wO (fp.then p4.1)
   simp only [go_sem,wT,vl,Ql,e]
   exact fin (fp.then p4.1) p4.2.2 _ rfl
  simp only [go_sem,hm]
  refine af.by (fJ h3) ?_
  rintro _ H4 - ⟨rfl,p4⟩
  have my:=h3.post p4
  have f4:=f3.then p4.1
  by_cases hg:cQ L [116,97,103] st=true
  ·obtain ⟨c1,c2,c3,c4,bL,oL,cL,BL,a,n,c,hq,hr,hB,hl,iC,h0,h4,dk,b7,er⟩:=my.fh
   have e:hV L st=(⟨4,0,(cj L (aC st)).1⟩,(cj L (aC st)).2):=by rw [hV,if_pos hb,if_neg hk,if_neg hm,if_pos hg]
   have hp:=iE my (jd hg) hr
   have fp:=(f4.ah (.inl (by simp:rb∈[rb])) ⟨[.slice (some ⟨bL,oL,none⟩) L.length cL,iV ((st.at_+1:Nat):Int),.slice none 0 0,.bool true,iV st.depth,iV st.bad,.slice a n c],125,false,false⟩)
   simp only [go_sem,hg,hq,hr,hz,cU]
   refine af.by (jc hL hp) ?_
   rintro _ H5 - ⟨rfl,p5⟩
   have wT:=wO (fp.then p5.1)
   simp only [go_sem,wT,vl,Ql,e]
   exact fin (fp.then p5.1) p5.2.2 _ rfl
  have e:hV L st=(⟨2,0,(cj L st).1⟩,(cj L st).2):=by rw [hV,if_pos hb,if_neg hk,if_neg hm,if_neg hg]
  simp only [go_sem,hg]
  refine af.by (jc hL my) ?_
  rintro _ H5 - ⟨rfl,p5⟩
  have wT:=wO (f4.then p5.1)
  simp only [go_sem,wT,vl,Ql,e]
  exact fin (f4.then p5.1) p5.2.2 _ rfl
 ·have e:hV L st=(⟨0,0,[]⟩,st):=by rw [hV,if_neg hb]
  simp only [go_sem,hb,gA,vl,aa6,e]
  exact fin (.refl _ _) rA.toPP0 _ rfl
end
section
variable {L:List bh} {F:List Nat} {H:ad} {q rb:Nat} {st:aG}
def mZ {α:Type} (L:List bh) (eo:Int) (item:aG->Option (α × aG)):Nat->aG->List α->Option (List α × aG)
 | 0,_,_=>none
 | k+1,st,l=>if (iZ L l.length eo st).1=true then (item (iZ L l.length eo st).2).bind fun x=>mZ L eo item k x.2 (l++[x.1]) else some (l,(iZ L l.length eo st).2)
theorem GB {n:Nat} {eo:Int} (h:(iZ L n eo st).1=true):n < 6:=by
 unfold iZ AU at h
 (repeat' split at h) <;> first | omega | cases h
theorem Wq {α:Type} {eo:Int} {item:aG->α × aG}:∀(k:Nat) (st:aG) (l:List α),7<=k+l.length->0 < k->∃R,mZ L eo (fun s=>some (item s)) k st l=some R
 | 0,st,l,h,h0=>absurd h0 (by decide)
 | k+1,st,l,h,_=>by
  rw [mZ]
  split
  ·rename_i hm
   have:=GB hm
   exact Wq k _ _ (by rw [List.length_append,List.length_singleton];omega) (by omega)
  ·exact ⟨_,rfl⟩
def CC {α:Type} (L:List bh) (eo:Int) (item:aG->α × aG) (st:aG):List α × aG:=(mZ L eo (fun s=>some (item s)) 7 st []).getD ([],st)
theorem Xf {α:Type} {eo:Int} {item:aG->α × aG}:mZ L eo (fun s=>some (item s)) 7 st []=some (CC L eo item st):=by
 obtain ⟨R,hR⟩:=Wq (L:=L) (eo:=eo) (item:=item) 7 st [] (by simp) (by decide)
 rw [CC,hR];rfl
theorem Jx {α:Type} {eo:Int} {item:aG->Option (α × aG)}:∀{k:Nat} {st:aG} {l:List α} {R},mZ L eo item k st l=some R->l.length<=6->R.1.length<=6
 | 0,st,l,R,h,_=>by cases h
 | k+1,st,l,R,h,hl=>by
  rw [mZ] at h
  split at h
  ·rename_i hm
   have:=GB hm
   cases hi:item (iZ L l.length eo st).2 with
   | none=>rw [hi] at h;cases h
   | some x=>rw [hi] at h;exact Jx h (by rw [List.length_append,List.length_singleton];omega)
  ·cases h;exact hl
def qo (L:List bh) (st:aG):List so × aG:=((CC L 2 (hV L) (dA L [40] st)).1,dA L [41] (CC L 2 (hV L) (dA L [40] st)).2)
def zt (L:List bh) (st:aG):List bj × aG:=((CC L 1 (cj L) (dA L [40] st)).1,dA L [41] (CC L 1 (cj L) (dA L [40] st)).2)
def gZ (H H':ad) (g:List Nat):Prop:=∀c∈g,H.next<=c/\c < H'.next
theorem GX (hL:LG L) (h:PP L F H q rb st):aj Tryz.prog 169 #[pV q] H (fun w H'=>(∃g,Sl jG H' w (qo L st).1 g/\gZ H H' g)/\fR L F H q rb (qo L st).2 H'):=by
 refine aj.told ?_
 refine afB (Nat.le_refl _) fun hf=>?_
 simp only [Tryz.f169,Option.getD_some]
 simp only [go_sem]
 refine af.by (iB hL h) ?_
 rintro _ H1 - p1
 have h1:=h.post p1
 rw [qo]
 generalize dA L [40] st=s1 at p1 h1
 have hR:=Xf (L:=L) (eo:=2) (item:=hV L) (st:=s1)
 generalize CC L 2 (hV L) s1=R at hR
 have pG:=Jx hR (by simp)
 simp only [go_sem]
 refine lp 32712 (fun n V H2=>∃bu l v m,V 3=v/\Gr jG 44 H2 v l m []/\gZ H H2 m/\Fr [rb] H H2/\PP L F H2 q rb bu/\l.length<=6/\mZ L 2 (fun s=>some (hV L s)) n bu l=some R) (n:=7)
  ⟨s1,[],.slice none 0 0,[],by simp only [go_sem] <;> rfl,Gr.nil _ _ _,by simp [gZ],p1.1,h1,by simp,hR⟩ ?_ (by rfl)
 rintro n V H2 ⟨bu,l,v,m,e3,cw,cJ,kj,h2,oM,fo⟩
 cases n with
 | zero=>cases fo
 | succ n=>
  rw [mZ] at fo
  obtain ⟨a,hv⟩:=cw.val
  have vu:∀c∈m,c∉[rb]:=fun c hc=>by have:=(cJ c hc).1;have:=h.rl;simp;omega
  simp only [go_sem,e3,hv]
  refine af.by (Nj hL h2) ?_
  rintro _ H3 - ⟨rfl,p3⟩
  have h3:=h2.post p3
  have ss:=cw.ae (H':=H3) (fun b hb=>p3.1.get b (cJ b hb).2 (vu b hb)) (by simp)
  by_cases hm:(iZ L l.length 2 bu).1=true
  ·rw [if_pos hm] at fo
   have Bu:=GB hm
   generalize (iZ L l.length 2 bu).2=Ae at p3 h3 fo
   simp only [Option.bind_some] at fo
   simp only [go_sem,hm]
   refine af.by (CB hL h3) ?_
   rintro _ H4 - ⟨rfl,p4⟩
   have h4:=h3.post p4
   have nB:=p4.1.nx
   have kr:=p3.1.nx
   have oD:=ss.ae (H':=H4) (fun b hb=>p4.1.get b (Nat.lt_of_lt_of_le (cJ b hb).2 kr) (vu b hb)) (by simp)
   generalize hV L Ae=x at p4 h4 fo
   simp only [go_sem,e3,eA qn (by decide) (by decide)]
   refine jT (r:=jG) (x:=x.1) (g':=[]) qn (oD.ae (fun b hb=>bS (by have:=(cJ b hb).2;omega)) (by simp)) (fun c hc=>by have:=(cJ c hc).2;rw [bH];omega) (by simp) (by simp) (fun c hc=>hf.fresh (cJ c hc).1) (by rw [aU,if_pos rfl]) ⟨rfl,rfl⟩ rfl (by omega) ?_
   intro v7 H7 bG dX je dr jH
   have nF:=kj.nx
   rw [bH] at dX
   have Fk:Fr [rb] H H7:=((kj.then p3.1).then p4.1).push _ |>.trans dr (fun c hc=>.inr (cJ c hc).1)
   have my:=h4.push ⟨[iV x.1.kind,iV x.1.n,ag x.1.name],44,false,false⟩
   have TX:=h.rl
   have TY:=h.ql
   have Bv:∀c∈m,c∉F:=fun c hc e=>by have:=(h.hF c e).1;have:=(cJ c hc).1;omega
   have h7:PP L F H7 q rb x.2:={my.toPP0.fr dr (fun e=>by have:=(cJ _ e).1;omega) (fun e=>by have:=(cJ _ e).1;omega) (fun c hc e=>Bv c e hc) with fz:=(by rw [jH,my.fz,Bool.or_false,beq_eq_false_iff_ne,bH];omega)}
   simp only [go_sem]
   refine ⟨n,by omega,x.2,l++[x.1],v7,_,rfl,by simpa using bG,fun c hc=>?_,Fk,h7,by rw [List.length_append,List.length_singleton];omega,fo⟩
   rw [List.mem_singleton,bH] at hc
   omega
  ·rw [if_neg hm] at fo
   cases fo
   simp only [go_sem,hm,e3,hv]
   refine af.by (iB hL h3) ?_
   rintro _ H4 - p4
   have kr:=p3.1.nx
   have nB:=p4.1.nx
   simp only [go_sem,e3,hv]
   refine ⟨⟨m,?_,fun c hc=>by have:=cJ c hc;show H.next<=c/\c < H4.next;omega⟩,.last ((kj.then p3.1).then p4.1) p4.2.2⟩
   have:=(ss.ae (H':=H4) (fun b hb=>p4.1.get b (Nat.lt_of_lt_of_le (cJ b hb).2 kr) (vu b hb)) (by simp)).sl
   rw [List.append_nil,hv] at this
   exact this.ae fun _ _=>rfl
theorem XK (hL:LG L) (h:PP L F H q rb st):aj Tryz.prog 146 #[pV q] H (fun w H'=>(∃g,Sl .str H' w (zt L st).1 g/\gZ H H' g)/\fR L F H q rb (zt L st).2 H'):=by
 refine aj.told ?_
 refine aeV (Nat.le_refl _) fun hf=>?_
 simp only [Tryz.f146,Option.getD_some]
 simp only [go_sem]
 refine af.by (iB hL h) ?_
 rintro _ H1 - p1
 have h1:=h.post p1
 rw [zt]
 generalize dA L [40] st=s1 at p1 h1
 have hR:=Xf (L:=L) (eo:=1) (item:=cj L) (st:=s1)
 generalize CC L 1 (cj L) s1=R at hR
 have pG:=Jx hR (by simp)
 simp only [go_sem]
 refine lp 32712 (fun n V H2=>∃bu l v m,V 3=v/\Gr .str 9 H2 v l m []/\gZ H H2 m/\Fr [rb] H H2/\PP L F H2 q rb bu/\l.length<=6/\mZ L 1 (fun s=>some (cj L s)) n bu l=some R) (n:=7)
  ⟨s1,[],.slice none 0 0,[],by simp only [go_sem] <;> rfl,Gr.nil _ _ _,by simp [gZ],p1.1,h1,by simp,hR⟩ ?_ (by rfl)
 rintro n V H2 ⟨bu,l,v,m,e3,cw,cJ,kj,h2,oM,fo⟩
 cases n with
 | zero=>cases fo
 | succ n=>
  rw [mZ] at fo
  obtain ⟨a,hv⟩:=cw.val
  have vu:∀c∈m,c∉[rb]:=fun c hc=>by have:=(cJ c hc).1;have:=h.rl;simp;omega
  simp only [go_sem,e3,hv]
  refine af.by (Nj hL h2) ?_
  rintro _ H3 - ⟨rfl,p3⟩
  have h3:=h2.post p3
  have ss:=cw.ae (H':=H3) (fun b hb=>p3.1.get b (cJ b hb).2 (vu b hb)) (by simp)
  by_cases hm:(iZ L l.length 1 bu).1=true
  ·rw [if_pos hm] at fo
   have Bu:=GB hm
   generalize (iZ L l.length 1 bu).2=Ae at p3 h3 fo
   simp only [Option.bind_some] at fo
   simp only [go_sem,hm]
   refine af.by (jc hL h3) ?_
   rintro _ H4 - ⟨rfl,p4⟩
   have h4:=h3.post p4
   have nB:=p4.1.nx
   have kr:=p3.1.nx
   have oD:=ss.ae (H':=H4) (fun b hb=>p4.1.get b (Nat.lt_of_lt_of_le (cJ b hb).2 kr) (vu b hb)) (by simp)
   generalize cj L Ae=x at p4 h4 fo
   simp only [go_sem,e3,eA uE (by decide) (by decide)]
   refine jT (r:=.str) (x:=x.1) (g':=[]) uE (oD.ae (fun b hb=>bS (by have:=(cJ b hb).2;omega)) (by simp)) (fun c hc=>by have:=(cJ c hc).2;rw [bH];omega) (by simp) (by simp) (fun c hc=>hf.fresh (cJ c hc).1) (by rw [aU,if_pos rfl]) ⟨rfl,rfl⟩ rfl (by omega) ?_
   intro v7 H7 bG dX je dr jH
   have nF:=kj.nx
   rw [bH] at dX
   have Fk:Fr [rb] H H7:=((kj.then p3.1).then p4.1).push _ |>.trans dr (fun c hc=>.inr (cJ c hc).1)
   have my:=h4.push ⟨[ag x.1],9,false,false⟩
   have TX:=h.rl
   have TY:=h.ql
   have Bv:∀c∈m,c∉F:=fun c hc e=>by have:=(h.hF c e).1;have:=(cJ c hc).1;omega
   have h7:PP L F H7 q rb x.2:={my.toPP0.fr dr (fun e=>by have:=(cJ _ e).1;omega) (fun e=>by have:=(cJ _ e).1;omega) (fun c hc e=>Bv c e hc) with fz:=(by rw [jH,my.fz,Bool.or_false,beq_eq_false_iff_ne,bH];omega)}
   simp only [go_sem]
   refine ⟨n,by omega,x.2,l++[x.1],v7,_,rfl,by simpa using bG,fun c hc=>?_,Fk,h7,by rw [List.length_append,List.length_singleton];omega,fo⟩
   rw [List.mem_singleton,bH] at hc
   omega
  ·rw [if_neg hm] at fo
   cases fo
   simp only [go_sem,hm,e3,hv]
   refine af.by (iB hL h3) ?_
   rintro _ H4 - p4
   have kr:=p3.1.nx
   have nB:=p4.1.nx
   simp only [go_sem,e3,hv]
   refine ⟨⟨m,?_,fun c hc=>by have:=cJ c hc;show H.next<=c/\c < H4.next;omega⟩,.last ((kj.then p3.1).then p4.1) p4.2.2⟩
   have:=(ss.ae (H':=H4) (fun b hb=>p4.1.get b (Nat.lt_of_lt_of_le (cJ b hb).2 kr) (vu b hb)) (by simp)).sl
   rw [List.append_nil,hv] at this
   exact this.ae fun _ _=>rfl
end
structure PQ0 (L:List bh) (F:List Nat) (H:ad) (q rb:Nat) (st:aG) (p:List PN) (m:List Nat):Prop where
 hq:∃c1 c2 c3 c4,H.get q=some ⟨[.pointer (some ⟨rb,0,none⟩),c1,c2,c3,c4],127,false,false⟩
 hr:∃vL vP,H.get rb=some ⟨[vL,iV (st.at_:Nat),.slice none 0 0,.bool true,iV st.depth,iV st.bad,vP],125,false,false⟩/\Sl Ez H vL L F/\Gr fy 199 H vP p m []
 hF:∀b∈F,b < H.next/\b≠rb/\b≠q
 hm:∀b∈m,b < H.next/\b≠rb/\b≠q/\b∉F
 qr:q≠rb
 at_:st.at_ < L.length
 ql:q < H.next
 rl:rb < H.next
 pl:p.length<=st.at_
structure PQ (L:List bh) (F:List Nat) (H:ad) (q rb:Nat) (st:aG) (p:List PN) (m:List Nat):Prop extends PQ0 L F H q rb st p m where
 fz:H.fz rb=false
 fm:∀b∈m,H.fz b=false
 fn:∀b,H.next<=b->H.fz b=false
section
variable {L:List bh} {F:List Nat} {H H1 H2:ad} {q rb:Nat} {st cA bu:aG} {p p1 p2:List PN} {m m1 m2:List Nat}
theorem PQ0.pp (h:PQ0 L F H q rb st p m):PP0 L F H q rb st:=by
 obtain ⟨h1,⟨vL,vP,hr,hs,hg⟩,h3,h4,h5,h6,h7,h8,h9⟩:=h
 obtain ⟨a,rfl⟩:=hg.val
 exact ⟨h1,⟨vL,a,_,_,hr,hs⟩,h3,h5,h6,h7,h8⟩
theorem PQ.pp (h:PQ L F H q rb st p m):PP L F H q rb st:={h.toPQ0.pp with fz:=h.fz}
theorem PQ0.fr (h:PQ0 L F H q rb st p m) {M:List Nat} (bg:Fr M H H1) (mq:q∉M) (mr:rb∉M) (mF:∀b∈F,b∉M) (mm:∀b∈m,b∉M):PQ0 L F H1 q rb st p m:=by
 obtain ⟨⟨c1,c2,c3,c4,lZ⟩,⟨vL,vP,ib,hs,hg⟩,hf,hm,h3,h4,h5,h6,h7⟩:=h
 exact ⟨⟨c1,c2,c3,c4,(bg.get q h5 mq).trans lZ⟩,⟨vL,vP,(bg.get rb h6 mr).trans ib,hs.ae fun x hx=>bg.get x (hf x hx).1 (mF x hx),hg.ae (fun x hx=>bg.get x (hm x hx).1 (mm x hx)) (by simp)⟩,
  fun b hb=>⟨Nat.lt_of_lt_of_le (hf b hb).1 bg.nx,(hf b hb).2⟩,fun b hb=>⟨Nat.lt_of_lt_of_le (hm b hb).1 bg.nx,(hm b hb).2⟩,h3,h4,Nat.lt_of_lt_of_le h5 bg.nx,Nat.lt_of_lt_of_le h6 bg.nx,h7⟩
theorem PQ0.ai (h:PQ0 L F H q rb st p m) (fz:Nat->Bool):PQ0 L F (H.ai fz) q rb st p m:=h.fr (M:=[]) ((Fr.refl _ _).ai _) (by simp) (by simp) (by simp) (by simp)
def D6 (L:List bh) (F:List Nat) (H:ad) (q rb:Nat) (m:List Nat) (bO:aG) (p':List PN) (H':ad):Prop:=
 Fr (rb::m) H H'/\(∀c,H'.fz c=H.fz c)/\∃m',PQ0 L F H' q rb bO p' m'/\∀b∈m',b∈m∨H.next<=b
structure PR (L:List bh) (F:List Nat) (H:ad) (q rb:Nat) (m:List Nat) (H1:ad) (cA:aG) (p1:List PN) (m1:List Nat):Prop where
 fr:Fr (rb::m) H H1
 pq:PQ L F H1 q rb cA p1 m1
 sub:∀b∈m1,b∈m∨H.next<=b
theorem PR.start (h:PQ L F H q rb st p m):PR L F H q rb m H st p m:=⟨.refl _ _,h,fun _ h=>.inl h⟩
theorem PR.call (h:PR L F H q rb m H1 cA p1 m1) {bO:aG} {p':List PN} (hp:D6 L F H1 q rb m1 bO p' H2):∃m2,PR L F H q rb m H2 bO p' m2:=by
 obtain ⟨hf,hz,m',h0,hs⟩:=hp
 refine ⟨m',h.fr.trans hf fun c hc=>?_,{h0 with fz:=by rw [hz];exact h.pq.fz,fm:=fun b hb=>?_,fn:=fun b hb=>by rw [hz];exact h.pq.fn b (Nat.le_trans hf.nx hb)},fun b hb=>?_⟩
 ·rcases List.mem_cons.1 hc with e | e
  ·exact .inl (by simp [e])
  ·exact (h.sub c e).imp (fun e=>by simp [e]) id
 ·rw [hz]
  rcases hs b hb with e | e
  ·exact h.pq.fm b e
  ·exact h.pq.fn b e
 ·rcases hs b hb with e | e
  ·exact h.sub b e
  ·exact .inr (Nat.le_trans h.fr.nx e)
theorem PR.aE (h:PR L F H q rb m H1 cA p1 m1) (ho:bc H1 H2) (hz:∀c,c < H1.next∨H2.next<=c->H2.fz c=H1.fz c):PR L F H q rb m H2 cA p1 m1:=
 ⟨h.fr.then (ho.fr _),{h.pq.toPQ0.fr (ho.fr []) (by simp) (by simp) (by simp) (by simp) with fz:=by rw [hz _ (.inl h.pq.rl)];exact h.pq.fz,fm:=fun b hb=>by rw [hz _ (.inl (h.pq.hm b hb).1)];exact h.pq.fm b hb,fn:=fun b hb=>by rw [hz _ (.inr hb)];exact h.pq.fn b (Nat.le_trans ho.nx hb)},h.sub⟩
theorem PR.push (h:PR L F H q rb m H1 cA p1 m1) (B:ct) (hB:B.ro=false:=by rfl):PR L F H q rb m (H1.push B) cA p1 m1:=
 h.aE (bc.push H1 B hB) fun c hc=>by
  rw [bH] at hc
  rw [qf,show (c==H1.next)=false from by rw [beq_eq_false_iff_ne];omega,Bool.false_or]
theorem PR.set (h:PR L F H q rb m H1 cA p1 m1) {vL v1 v4 v5 vP:Value} (hr:H1.get rb=some ⟨[vL,v1,.slice none 0 0,.bool true,v4,v5,vP],125,false,false⟩) (bO:aG) (ha:bO.at_ < L.length) (hl:p1.length<=bO.at_):
  PR L F H q rb m (H1.ah rb ⟨[vL,iV (bO.at_:Nat),.slice none 0 0,.bool true,iV bO.depth,iV bO.bad,vP],125,false,false⟩) bO p1 m1:=by
 refine ⟨h.fr.ah (.inl (by simp)) _,?_,h.sub⟩
 obtain ⟨⟨⟨c1,c2,c3,c4,lZ⟩,⟨vL',oN,ib,hs,hg⟩,hf,hm,h3,h4,h5,h6,h7⟩,z1,z2,z3⟩:=h.pq
 rw [hr] at ib
 cases ib
 exact ⟨⟨⟨c1,c2,c3,c4,by rw [az,if_neg h3];exact lZ⟩,⟨vL,vP,by rw [az,if_pos rfl],hs.ae fun b hb=>by rw [az,if_neg (hf b hb).2.1],hg.ae (fun b hb=>by rw [az,if_neg (hm b hb).2.1]) (by simp)⟩,hf,hm,h3,ha,h5,h6,hl⟩,z1,z2,z3⟩
theorem PR.put (h:PR L F H q rb m H1 cA p1 m1) {b:Nat} (B:ct) (hB:B.ro=false) (hb:H.next<=b) (hF:b∉F) (hq:b≠q) (hr:b≠rb) (hm:b∉m1):PR L F H q rb m (H1.ah b B) cA p1 m1:=by
 refine ⟨h.fr.ah (.inr hb) B hB,?_,h.sub⟩
 have bg:Fr [b] H1 (H1.ah b B):=(Fr.refl _ _).ah (.inl (by simp)) B hB
 exact {h.pq.toPQ0.fr bg (by simpa using hq.symm) (by simpa using hr.symm) (fun c hc=>by simp;rintro rfl;exact hF hc) (fun c hc=>by simp;rintro rfl;exact hm hc) with fz:=h.pq.fz,fm:=h.pq.fm,fn:=h.pq.fn}
theorem PR.last (h:PR L F H q rb m H1 cA p1 m1):D6 L F H q rb m cA p1 (H1.ai H.fz):=⟨h.fr.ai _,fun _=>rfl,m1,h.pq.toPQ0.ai _,h.sub⟩
theorem PQ0.fh (h:PQ0 L F H q rb st p m):∃c1 c2 c3 c4 bL oL cL BL vP,H.get q=some ⟨[.pointer (some ⟨rb,0,none⟩),c1,c2,c3,c4],127,false,false⟩/\
  H.get rb=some ⟨[.slice (some ⟨bL,oL,none⟩) L.length cL,iV (st.at_:Nat),.slice none 0 0,.bool true,iV st.depth,iV st.bad,vP],125,false,false⟩/\Gr fy 199 H vP p m []/\H.get bL=some BL/\
  oL+st.at_ * 5+5<=BL.cells.length/\(BL.cells.drop (oL+st.at_ * 5)).take 5=ia (tk L st)/\BL.cells[oL+st.at_ * 5]?=some (iV (tk L st).kind)/\BL.cells[oL+st.at_ * 5+4]?=some (ag (tk L st).text)/\bL≠rb/\bL < H.next/\bL≠q:=by
 obtain ⟨c1,c2,c3,c4,bL,oL,cL,BL,a,n,c,hq,hr,hB,hl,iC,h0,h4,dk,b7,er⟩:=h.pp.fh
 obtain ⟨vL,vP,ib,hs,hg⟩:=h.hr
 rw [hr] at ib
 cases ib
 exact ⟨c1,c2,c3,c4,bL,oL,cL,BL,_,hq,hr,hg,hB,hl,iC,h0,h4,dk,b7,er⟩
theorem af7 {s:bj} (hl:s.length < 1000000):aj Tryz.prog 158 #[ag s] H (fun w H'=>w=.bool (D5 s)/\bc H H'/\∀c,H'.fz c=H.fz c):=
 aj.told ((X4 hl).mono fun w H' _ ⟨h1,h2⟩=>⟨h1,((h2.fr []).ai _).aE,fun _=>rfl⟩)
abbrev lg (n:PN):List Value:=[iV n.kind,iV n.a,iV n.b,iV n.n,ag n.name]
theorem Ef (hL:LG L) (h:PQ L F H q rb st p m) (jX:p.length < st.at_) {n:PN}:aj Tryz.prog 177 #[pV rb,.agg (lg n).toArray] H (fun w H'=>w=iV (p.length:Nat)/\D6 L F H q rb m st (p++[n]) H'):=by
 refine aj.told ?_
 refine afR (Nat.le_refl _) fun hf=>?_
 simp only [Tryz.f177,Option.getD_some]
 have hz:=h.fz
 have jt:=hL.len
 have dW:=h.at_
 have r1:=(PR.start h).push ⟨lg n,199,false,false⟩
 have g1:(H.push ⟨lg n,199,false,false⟩).get H.next=some ⟨lg n,199,false,false⟩:=by rw [aU,if_pos rfl]
 simp only [go_sem]
 have nr:¬rb=H.next:=by have:=h.rl;omega
 obtain ⟨c1,c2,c3,c4,bL,oL,cL,BL,vP,hq,hr,hg,hB,hl,iC,h0,h4,dk,b7,er⟩:=h.toPQ0.fh
 obtain ⟨a,hv⟩:=hg.val
 simp only [go_sem,hr,nr,eA Rl (by decide) (by decide)]
 have vv:=h.hm
 refine jT (r:=fy) (x:=n) (g':=[]) Rl (hg.ae (fun b hb=>by rw [bS (by have:=(vv b hb).1;rw [bH];omega),bS (vv b hb).1]) (by simp)) (fun c hc=>by have:=(vv c hc).1;rw [bH,bH];omega) (by simp) (by simp) (fun c hc=>h.fm c hc) (by rw [aU,if_pos (by rw [bH])]) ⟨rfl,rfl⟩ rfl (by omega) ?_
 intro v7 H7 bG dX je dr jH
 rw [bH,bH] at dX
 have e1:H7.get rb=some ⟨[.slice (some ⟨bL,oL,none⟩) L.length cL,iV (st.at_:Nat),.slice none 0 0,.bool true,iV st.depth,iV st.bad,vP],125,false,false⟩:=by
  have:=h.rl
  rw [je rb (by rw [bH,bH];omega) (fun e=>(vv rb e).2.1 rfl),bS (by rw [bH];omega),bS this];exact hr
 obtain ⟨a7,wU⟩:=bG.val
 have Yt:(p++[n]).length=p.length+1:=by simp
 have cU:IntKind.wrap .i64 (((p.length+1:Nat):Int) - 1)=((p.length:Nat):Int):=by rw [show ((p.length+1:Nat):Int) - 1=((p.length:Nat):Int) from by omega];exact uy (by omega)
 rw [Yt] at wU
 simp only [go_sem,e1,hz,hr,wU,cU,nr]
 have i4:((H.push ⟨lg n,199,false,false⟩).push ⟨lg n,199,false,false⟩).next=H.next+2:=by rw [bH,bH]
 have kY:Gr fy 199 H7 (.slice a7 (p.length+1) (p.length+1)) (p++[n]) [H.next+2] []:=by rw [<-wU];exact bG
 have Rm:Fr (rb::m) H H7:=(((Fr.refl (rb::m) H).push _).push _).then (dr.sub fun c hc=>.inl (by simp [hc]))
 obtain ⟨⟨d1,d2,d3,d4,lZ⟩,⟨vL,oN,ib,hs,_⟩,hF,hm,yD,auU,OU,pG,auV⟩:=h.toPQ0
 rw [hr] at ib
 cases ib
 have Fe:q∉rb::m:=fun e=>by
  rcases List.mem_cons.1 e with e | e
  ·exact yD e
  ·exact (hm q e).2.2.1 rfl
 have hF7:∀b∈F,b∉rb::m:=fun b hb e=>by
  rcases List.mem_cons.1 e with e | e
  ·exact (hF b hb).2.1 e
  ·exact (hm b e).2.2.2 hb
 refine ⟨(Rm.ah (.inl (by simp)) _).ai _,fun _=>rfl,[H.next+2],PQ0.ai ⟨⟨d1,d2,d3,d4,?_⟩,⟨_,_,by rw [az,if_pos rfl],?_,?_⟩,fun b hb=>⟨?_,(hF b hb).2⟩,fun b hb=>?_,yD,dW,?_,?_,?_⟩ _,fun b hb=>.inr ?_⟩
 ·rw [az,if_neg yD,Rm.get q OU Fe];exact lZ
 ·exact hs.ae fun b hb=>by rw [az,if_neg (hF b hb).2.1,Rm.get b (hF b hb).1 (hF7 b hb)]
 ·exact kY.ae (fun b hb=>by rw [List.mem_singleton] at hb;subst hb;rw [az,if_neg (by omega)]) (by simp)
 ·show b < H7.next;have:=(hF b hb).1;omega
 ·rw [List.mem_singleton] at hb
  subst hb
  exact ⟨by show H.next+2 < H7.next;omega,by omega,by omega,fun e=>by have:=(hF _ e).1;omega⟩
 ·show q < H7.next;omega
 ·show rb < H7.next;omega
 ·rw [Yt];omega
 ·rw [List.mem_singleton] at hb;omega
theorem aco (h:PQ L F H q rb st p m) {s:bj}:aj Tryz.prog 183 #[pV rb,ag s] H (fun w H'=>w=.tuple #[iV 0,.bool true]/\H=H'):=by
 refine af3 (Nat.le_refl _) fun hf=>?_
 simp only [Tryz.f183,Option.getD_some]
 obtain ⟨c1,c2,c3,c4,bL,oL,cL,BL,vP,hq,hr,hg,hB,hl,iC,h0,h4,dk,b7,er⟩:=h.toPQ0.fh
 simp only [go_sem,hr]
 refine il 8380656 0 (fun i V H1=>V 13=iV (i:Nat)/\H=H1) ⟨by simp only [go_sem] <;> rfl,rfl⟩ (fun i V H1 hi=>absurd hi (by omega)) ?_ (by rfl)
 rintro V H1 ⟨e13,rfl⟩
 simp only [go_sem,e13,hr]
def rk (L:List bh) (t:bh) (st:aG) (p:List PN):Int × aG × List PN:=
 if dV L [94] (aC st)=true then
  (if (tk L (aC (aC st))).kind≠2∨(tk L (aC (aC st))).n < 1 then (0,{aC (aC st) with bad:=2},p)
  else ((p.length:Nat),aC (aC (aC st)),p++[⟨3,(tk L (aC (aC st))).n,0,0,t.text⟩]))
 else ((p.length:Nat),aC st,p++[⟨3,1,0,0,t.text⟩])
theorem Xg {a b:Int} {h:KH}:fH Tryz.prog 199 [(0,iV a),(1,iV b)] h=.ok (.agg #[iV a,iV b,iV 0,iV 0,ag []]) h:=by kernel_rfl
theorem WD {a b c:Int} {h:KH}:fH Tryz.prog 199 [(0,iV a),(1,iV b),(2,iV c)] h=.ok (.agg #[iV a,iV b,iV c,iV 0,ag []]) h:=by kernel_rfl
theorem WE {a:Int} {h:KH}:fH Tryz.prog 199 [(0,iV a)] h=.ok (.agg #[iV a,iV 0,iV 0,iV 0,ag []]) h:=by kernel_rfl
theorem ah2 (hL:LG L) (h:PQ L F H q rb st p m) (hk:(tk L st).kind≠4) {t:bh}:aj Tryz.prog 182 #[pV rb,.agg (ia t).toArray] H (fun w H'=>w=iV (rk L t st p).1/\D6 L F H q rb m (rk L t st p).2.1 (rk L t st p).2.2 H'/\st.at_+(rk L t st p).2.2.length<=(rk L t st p).2.1.at_+p.length):=by
 refine aj.told ?_
 refine af1 (Nat.le_refl _) fun hf=>?_
 simp only [Tryz.f182,Option.getD_some]
 have hz:=h.fz
 have jt:=hL.len
 have dW:=h.at_
 have cU:IntKind.wrap .i64 (((st.at_:Nat):Int)+1)=((st.at_+1:Nat):Int):=cW dW (by omega)
 have gJ:H.fz (H.next+1)=false:=hf.fresh (Nat.le_succ _)
 have nr:¬rb=H.next:=by have:=h.rl;omega
 have uh:¬rb=H.next+1:=by have:=h.rl;omega
 obtain ⟨c1,c2,c3,c4,bL,oL,cL,BL,vP,hq,hr,hg,hB,hl,iC,h0,h4,dk,b7,er⟩:=h.toPQ0.fh
 simp only [go_sem,Xg,gJ]
 refine af.by (aco (((PR.start h).push ⟨ia t,82,false,false⟩).push ⟨lg ⟨3,1,0,0,[]⟩,199,false,false⟩).pq) ?_
 rintro _ _ - ⟨rfl,rfl⟩
 simp only [go_sem,gJ,hr,nr,uh,hz,cU]
 have nF:H.next+1∉F:=fun e=>by have:=(h.hF _ e).1;omega
 have nq:H.next+1≠q:=by have:=h.ql;omega
 have gq:H.next+1≠rb:=by have:=h.rl;omega
 have nm:H.next+1∉m:=fun e=>by have:=(h.hm _ e).1;omega
 have r2:=(((((PR.start h).push ⟨ia t,82,false,false⟩).push ⟨lg ⟨3,1,0,0,[]⟩,199,false,false⟩).put (b:=H.next+1) ⟨[iV 3,iV 1,iV 0,iV 0,ag []],199,false,false⟩ rfl (Nat.le_succ _) nF nq gq nm).put (b:=H.next+1) ⟨[iV 3,iV 1,iV 0,iV 0,ag []],199,false,false⟩ rfl (Nat.le_succ _) nF nq gq nm).put (b:=H.next+1) ⟨lg ⟨3,1,0,0,t.text⟩,199,false,false⟩ rfl (Nat.le_succ _) nF nq gq nm
 have g2:(((((H.push ⟨ia t,82,false,false⟩).push ⟨lg ⟨3,1,0,0,[]⟩,199,false,false⟩).ah (H.next+1) ⟨[iV 3,iV 1,iV 0,iV 0,ag []],199,false,false⟩).ah (H.next+1) ⟨[iV 3,iV 1,iV 0,iV 0,ag []],199,false,false⟩).ah (H.next+1) ⟨lg ⟨3,1,0,0,t.text⟩,199,false,false⟩).get rb=some ⟨[.slice (some ⟨bL,oL,none⟩) L.length cL,iV (st.at_:Nat),.slice none 0 0,.bool true,iV st.depth,iV st.bad,vP],125,false,false⟩:=by
  rw [az,if_neg uh,az,if_neg uh,az,if_neg uh,bS (by have:=h.rl;rw [bH];omega),bS h.rl];exact hr
 have gB:(((((H.push ⟨ia t,82,false,false⟩).push ⟨lg ⟨3,1,0,0,[]⟩,199,false,false⟩).ah (H.next+1) ⟨[iV 3,iV 1,iV 0,iV 0,ag []],199,false,false⟩).ah (H.next+1) ⟨[iV 3,iV 1,iV 0,iV 0,ag []],199,false,false⟩).ah (H.next+1) ⟨lg ⟨3,1,0,0,t.text⟩,199,false,false⟩).get (H.next+1)=some ⟨lg ⟨3,1,0,0,t.text⟩,199,false,false⟩:=by rw [az,if_pos rfl]
 have n2:(((((H.push ⟨ia t,82,false,false⟩).push ⟨lg ⟨3,1,0,0,[]⟩,199,false,false⟩).ah (H.next+1) ⟨[iV 3,iV 1,iV 0,iV 0,ag []],199,false,false⟩).ah (H.next+1) ⟨[iV 3,iV 1,iV 0,iV 0,ag []],199,false,false⟩).ah (H.next+1) ⟨lg ⟨3,1,0,0,t.text⟩,199,false,false⟩).next=H.next+2:=rfl
 generalize (((((H.push ⟨ia t,82,false,false⟩).push ⟨lg ⟨3,1,0,0,[]⟩,199,false,false⟩).ah (H.next+1) ⟨[iV 3,iV 1,iV 0,iV 0,ag []],199,false,false⟩).ah (H.next+1) ⟨[iV 3,iV 1,iV 0,iV 0,ag []],199,false,false⟩).ah (H.next+1) ⟨lg ⟨3,1,0,0,t.text⟩,199,false,false⟩)=H2 at r2 g2 gB n2
 have r3:=r2.set g2 (aC st) (mX hL dW hk) (by have:=h.pl;show p.length<=st.at_+1;omega)
 have TZ:(H2.ah rb ⟨[.slice (some ⟨bL,oL,none⟩) L.length cL,iV (((aC st).at_:Nat):Int),.slice none 0 0,.bool true,iV (aC st).depth,iV (aC st).bad,vP],125,false,false⟩).get (H.next+1)=some ⟨lg ⟨3,1,0,0,t.text⟩,199,false,false⟩:=by rw [az,if_neg gq];exact gB
 have n3:(H2.ah rb ⟨[.slice (some ⟨bL,oL,none⟩) L.length cL,iV (((aC st).at_:Nat):Int),.slice none 0 0,.bool true,iV (aC st).depth,iV (aC st).bad,vP],125,false,false⟩).next=H.next+2:=n2
 generalize dI:(H2.ah rb ⟨[.slice (some ⟨bL,oL,none⟩) L.length cL,iV (((aC st).at_:Nat):Int),.slice none 0 0,.bool true,iV (aC st).depth,iV (aC st).bad,vP],125,false,false⟩)=H3 at r3 TZ n3
 have ajo:(H2.ah rb ⟨[.slice (some ⟨bL,oL,none⟩) L.length cL,iV ((st.at_+1:Nat):Int),.slice none 0 0,.bool true,iV st.depth,iV st.bad,vP],125,false,false⟩)=H3:=dI
 rw [ajo]
 have jX:=h.pl
 refine af.by (mY r3.pq.pp) ?_
 rintro _ _ - ⟨rfl,rfl⟩
 by_cases hs:dV L [94] (aC st)=true
 ·obtain ⟨c1,c2,c3,c4,bL,oL,cL,BL,vP,hq,hr,hg,hB,hl,iC,h0,h4,dk,b7,er⟩:=r3.pq.toPQ0.fh
  have a1:(aC st).at_=st.at_+1:=rfl
  have a2:(aC (aC st)).at_=st.at_+2:=rfl
  have i4:=mX hL r3.pq.at_ (wh hs)
  rw [a1] at i4
  have Km:IntKind.wrap .i64 (((st.at_+1:Nat):Int)+1)=((st.at_+2:Nat):Int):=cW (n:=L.length) (by omega) (by omega)
  have r4:=r3.set hr (aC (aC st)) i4 (by show p.length<=st.at_+2;omega)
  have OW:(H3.ah rb ⟨[.slice (some ⟨bL,oL,none⟩) L.length cL,iV (((aC (aC st)).at_:Nat):Int),.slice none 0 0,.bool true,iV (aC (aC st)).depth,iV (aC (aC st)).bad,vP],125,false,false⟩).get (H.next+1)=some ⟨lg ⟨3,1,0,0,t.text⟩,199,false,false⟩:=by rw [az,if_neg gq];exact TZ
  have n4:(H3.ah rb ⟨[.slice (some ⟨bL,oL,none⟩) L.length cL,iV (((aC (aC st)).at_:Nat):Int),.slice none 0 0,.bool true,iV (aC (aC st)).depth,iV (aC (aC st)).bad,vP],125,false,false⟩).next=H.next+2:=n3
  have ib:H3.get rb=some ⟨[.slice (some ⟨bL,oL,none⟩) L.length cL,iV ((st.at_+1:Nat):Int),.slice none 0 0,.bool true,iV st.depth,iV st.bad,vP],125,false,false⟩:=hr
  have ef:H.fz (H.next+2)=false:=hf.fresh (by omega)
  have Fl:(H3.ah rb ⟨[.slice (some ⟨bL,oL,none⟩) L.length cL,iV (((aC (aC st)).at_:Nat):Int),.slice none 0 0,.bool true,iV (aC (aC st)).depth,iV (aC (aC st)).bad,vP],125,false,false⟩).get rb=some ⟨[.slice (some ⟨bL,oL,none⟩) L.length cL,iV (((aC (aC st)).at_:Nat):Int),.slice none 0 0,.bool true,iV (aC (aC st)).depth,iV (aC (aC st)).bad,vP],125,false,false⟩:=by rw [az,if_pos rfl]
  simp only [go_sem,hs,ib,Km,hz]
  generalize dx:(H3.ah rb ⟨[.slice (some ⟨bL,oL,none⟩) L.length cL,iV (((aC (aC st)).at_:Nat):Int),.slice none 0 0,.bool true,iV (aC (aC st)).depth,iV (aC (aC st)).bad,vP],125,false,false⟩)=H4 at r4 OW n4 Fl
  have RY:(H3.ah rb ⟨[.slice (some ⟨bL,oL,none⟩) L.length cL,iV ((st.at_+2:Nat):Int),.slice none 0 0,.bool true,iV st.depth,iV st.bad,vP],125,false,false⟩)=H4:=dx
  rw [RY]
  obtain ⟨d1,d2,d3,d4,bL4,oL4,cL4,BL4,Fm,hq4,sL,Lq,Lr,hl4,Ro,h04,h44,ajp,Zo,ajq⟩:=r4.pq.toPQ0.fh
  rw [Fl] at sL
  cases sL
  have N2:H4.get rb=some ⟨[.slice (some ⟨bL,oL,none⟩) L.length cL,iV ((st.at_+2:Nat):Int),.slice none 0 0,.bool true,iV st.depth,iV st.bad,vP],125,false,false⟩:=Fl
  have ajr:oL+(st.at_+2) * 5+5<=BL4.cells.length:=hl4
  have X5:(BL4.cells.drop (oL+(st.at_+2) * 5)).take 5=ia (tk L (aC (aC st))):=Ro
  generalize hx:tk L (aC (aC st))=x at Ro X5
  have OX:H4.next=H.next+2:=n4
  have Iw:¬H.next+1=H.next+2:=by omega
  have yG:¬rb=H.next+2:=by have:=h.rl;omega
  have r5:=(r4.push ⟨[iV 0,iV 0,iV 0,iV 0,ag []],82,false,false⟩).put (b:=H.next+2) ⟨ia x,82,false,false⟩ rfl (by omega) (fun e=>by have:=(h.hF _ e).1;omega) (by have:=h.ql;omega) (by have:=h.rl;omega) (fun e=>by have:=(h.hm _ e).1;omega)
  have g5r:((H4.push ⟨[iV 0,iV 0,iV 0,iV 0,ag []],82,false,false⟩).ah (H.next+2) ⟨ia x,82,false,false⟩).get rb=some ⟨[.slice (some ⟨bL,oL,none⟩) L.length cL,iV ((st.at_+2:Nat):Int),.slice none 0 0,.bool true,iV st.depth,iV st.bad,vP],125,false,false⟩:=by rw [az,if_neg yG,bS (by have:=h.rl;omega)];exact N2
  simp only [go_sem,i4,Lr,ajr,X5,OX,ef]
  have eb:((tk L (aC (aC st))).kind≠2∨(tk L (aC (aC st))).n < 1)->rk L t st p=(0,{aC (aC st) with bad:=2},p):=fun hc=>by rw [rk,if_pos hs,if_pos hc]
  have ec:¬((tk L (aC (aC st))).kind≠2∨(tk L (aC (aC st))).n < 1)->rk L t st p=(((p.length:Nat):Int),aC (aC (aC st)),p++[⟨3,(tk L (aC (aC st))).n,0,0,t.text⟩]):=fun hc=>by rw [rk,if_pos hs,if_neg hc]
  rw [hx] at eb ec
  have Zp:∀{H5:ad},H5=((H4.push ⟨[iV 0,iV 0,iV 0,iV 0,ag []],82,false,false⟩).ah (H.next+2) ⟨ia x,82,false,false⟩).ah rb ⟨[.slice (some ⟨bL,oL,none⟩) L.length cL,iV ((st.at_+2:Nat):Int),.slice none 0 0,.bool true,iV st.depth,iV 2,vP],125,false,false⟩->(x.kind≠2∨x.n < 1)->D6 L F H q rb m (rk L t st p).2.1 (rk L t st p).2.2 (H5.ai H.fz)/\st.at_+(rk L t st p).2.2.length<=(rk L t st p).2.1.at_+p.length:=fun e hc=>by
   rw [eb hc,e]
   exact ⟨(r5.set g5r {aC (aC st) with bad:=2} i4 (by show p.length<=st.at_+2;omega)).last,by show st.at_+p.length<=st.at_+2+p.length;omega⟩
  by_cases k2:x.kind=2
  ·by_cases k3:x.n < 1
   ·have e1:=(eb (.inr k3))
    simp only [go_sem,k2,k3,OX,yG,N2,hz]
    refine ⟨by rw [e1],?_⟩
    exact Zp rfl (.inr k3)
   ·have hx4:(tk L (aC (aC st))).kind≠4:=by rw [hx];omega
    have yH:=mX hL r4.pq.at_ hx4
    have a2:(aC (aC st)).at_=st.at_+2:=rfl
    rw [a2] at yH
    have RZ:IntKind.wrap .i64 (((st.at_+2:Nat):Int)+1)=((st.at_+3:Nat):Int):=cW (n:=L.length) (by omega) (by omega)
    have gB5:((H4.push ⟨[iV 0,iV 0,iV 0,iV 0,ag []],82,false,false⟩).ah (H.next+2) ⟨ia x,82,false,false⟩).get (H.next+1)=some ⟨lg ⟨3,1,0,0,t.text⟩,199,false,false⟩:=by rw [az,if_neg Iw,bS (by omega)];exact OW
    have nm5:H.next+1∉m:=nm
    have r6:=r5.put (b:=H.next+1) ⟨lg ⟨3,x.n,0,0,t.text⟩,199,false,false⟩ rfl (Nat.le_succ _) nF nq gq nm
    have g6r:(((H4.push ⟨[iV 0,iV 0,iV 0,iV 0,ag []],82,false,false⟩).ah (H.next+2) ⟨ia x,82,false,false⟩).ah (H.next+1) ⟨lg ⟨3,x.n,0,0,t.text⟩,199,false,false⟩).get rb=some ⟨[.slice (some ⟨bL,oL,none⟩) L.length cL,iV ((st.at_+2:Nat):Int),.slice none 0 0,.bool true,iV st.depth,iV st.bad,vP],125,false,false⟩:=by rw [az,if_neg uh];exact g5r
    have r7:=r6.set g6r (aC (aC (aC st))) yH (by show p.length<=st.at_+3;omega)
    have T0:((((H4.push ⟨[iV 0,iV 0,iV 0,iV 0,ag []],82,false,false⟩).ah (H.next+2) ⟨ia x,82,false,false⟩).ah (H.next+1) ⟨lg ⟨3,x.n,0,0,t.text⟩,199,false,false⟩).ah rb ⟨[.slice (some ⟨bL,oL,none⟩) L.length cL,iV (((aC (aC (aC st))).at_:Nat):Int),.slice none 0 0,.bool true,iV (aC (aC (aC st))).depth,iV (aC (aC (aC st))).bad,vP],125,false,false⟩).get (H.next+1)=some ⟨lg ⟨3,x.n,0,0,t.text⟩,199,false,false⟩:=by rw [az,if_neg gq,az,if_pos rfl]
    have ec1:=ec (by rintro (e | e);exact e k2;exact k3 e)
    simp only [go_sem,k2,k3,OX,Iw,yG,uh,gq,OW,gJ,N2,hz,RZ]
    refine af.by (Ef hL r7.pq (by show p.length < st.at_+3;omega) (n:=⟨3,x.n,0,0,t.text⟩)) ?_
    rintro _ H5 - ⟨rfl,p5⟩
    obtain ⟨m5,r9⟩:=r7.call p5
    simp only [go_sem,ec1]
    exact ⟨r9.last,by rw [List.length_append,List.length_singleton];show st.at_+(p.length+1)<=st.at_+3+p.length;omega⟩
  ·have e1:=(eb (.inl k2))
   simp only [go_sem,k2,OX,yG,N2,hz]
   refine ⟨by rw [e1],?_⟩
   exact Zp rfl (.inl k2)
 ·have e:rk L t st p=(((p.length:Nat):Int),aC st,p++[⟨3,1,0,0,t.text⟩]):=by rw [rk,if_neg hs]
  simp only [go_sem,hs,TZ]
  refine af.by (Ef hL r3.pq (by show p.length < st.at_+1;omega) (n:=⟨3,1,0,0,t.text⟩)) ?_
  rintro _ H5 - ⟨rfl,p5⟩
  obtain ⟨m5,r5⟩:=r3.call p5
  simp only [go_sem,e]
  exact ⟨r5.last,by rw [List.length_append,List.length_singleton];show st.at_+(p.length+1)<=st.at_+1+p.length;omega⟩
end
abbrev uO:=Option (Int × aG × List PN)
section
variable {L:List bh} {F:List Nat} {H H1 H2:ad} {q rb:Nat} {st cA bu:aG} {p p1 p2:List PN} {m m1 m2:List Nat}
def EC (L:List bh) (s:aG):aG:=if s.bad=0/\dV L [41] s=false then {s with bad:=2} else s
def ED (s:aG):aG:=if s.bad=0 then {s with at_:=s.at_+1,depth:=IntKind.wrap .i64 (s.depth - 1)} else s
def HB (L:List bh) (sm:Bool->aG->List PN->uO) (star:Bool) (st:aG) (p:List PN):uO:=
 if st.bad≠0 then some (0,st,p)
 else if dV L [40] st=true then
  (if 12<=st.depth then some (0,{st with bad:=3},p)
  else (sm star {st with at_:=st.at_+1,depth:=IntKind.wrap .i64 (st.depth+1)} p).map fun x=>(x.1,ED (EC L x.2.1),x.2.2))
 else if (tk L st).kind=2/\((tk L st).n=0∨(tk L st).n=1) then some ((p.length:Nat),aC st,p++[⟨1+(tk L st).n,0,0,0,[]⟩])
 else if (tk L st).kind=1/\D5 (tk L st).text=true then some (rk L (tk L st) st p)
 else some (0,{st with bad:=2},p)
def xw (L:List bh) (sm:Bool->aG->List PN->uO) (star:Bool) (st:aG) (p:List PN):uO:=
 if st.bad≠0∨dV L [42] st=false then HB L sm star st p
 else if star=true then some (0,{st with bad:=2},p)
 else (HB L sm true (aC st) p).map fun x=>((x.2.2.length:Nat),x.2.1,x.2.2++[⟨6,x.1,0,0,[]⟩])
def xF (L:List bh) (it:aG->List PN->uO) (sg:bj) (kind:Int):Nat->Int->aG->List PN->uO
 | 0,_,_,_=>none
 | k+1,a,st,p=>if st.bad=0/\dV L sg st=true then (it (aC st) p).bind fun x=>xF L it sg kind k (x.2.2.length:Nat) x.2.1 (x.2.2++[⟨kind,a,x.1,0,[]⟩]) else some (a,st,p)
def zK (L:List bh) (sm:Bool->aG->List PN->uO) (n:Nat) (star:Bool) (st:aG) (p:List PN):uO:=(xw L sm star st p).bind fun x=>xF L (xw L sm star) [46] 5 n x.1 x.2.1 x.2.2
def wx (L:List bh):Nat->Bool->aG->List PN->uO
 | 0,_,_,_=>none
 | n+1,star,st,p=>(zK L (wx L n) n star st p).bind fun x=>xF L (zK L (wx L n) n star) [43] 4 n x.1 x.2.1 x.2.2
def PW (L:List bh) (F:List Nat) (q rb:Nat) (f:FuncId) (fn:Bool->aG->List PN->uO):Prop:=∀{H:ad} {st:aG} {p:List PN} {m:List Nat} {star:Bool} {v:Int} {bO:aG} {p':List PN},PQ L F H q rb st p m->fn star st p=some (v,bO,p')->
 aj Tryz.prog f #[pV rb,.bool star] H fun w H'=>w=iV v/\D6 L F H q rb m bO p' H'/\st.at_+p'.length<=bO.at_+p.length
theorem QW (hL:LG L) {sm:Bool->aG->List PN->uO} (hs:PW L F q rb 166 sm):PW L F q rb 181 (HB L sm):=by
 intro H st p m star v bO p' h he
 refine aj.told ?_
 refine afZ (Nat.le_refl _) fun hf=>?_
 simp only [Tryz.f181,Option.getD_some]
 have hz:=h.fz
 have jt:=hL.len
 have dW:=h.at_
 have jX:=h.pl
 have cU:IntKind.wrap .i64 (((st.at_:Nat):Int)+1)=((st.at_+1:Nat):Int):=cW dW (by omega)
 obtain ⟨c1,c2,c3,c4,bL,oL,cL,BL,vP,hq,hr,hg,hB,hl,iC,h0,h4,dk,b7,er⟩:=h.toPQ0.fh
 by_cases hb:st.bad=0
 ·rw [HB,if_neg (by simpa using hb)] at he
  have gJ:H.fz H.next=false:=h.fn _ (Nat.le_refl _)
  have dT:¬¬st.bad=0:=fun h=>h hb
  have r1:=(PR.start h).push ⟨ia (tk L st),82,false,false⟩
  have g1:(H.push ⟨ia (tk L st),82,false,false⟩).get H.next=some ⟨ia (tk L st),82,false,false⟩:=by rw [aU,if_pos rfl]
  have vw:(H.push ⟨ia (tk L st),82,false,false⟩).get rb=some ⟨[.slice (some ⟨bL,oL,none⟩) L.length cL,iV (st.at_:Nat),.slice none 0 0,.bool true,iV st.depth,iV st.bad,vP],125,false,false⟩:=by rw [bS h.rl];exact hr
  have n1:H.next < (H.push ⟨ia (tk L st),82,false,false⟩).next:=Nat.lt_succ_self _
  have gq:¬H.next=rb:=by have:=h.rl;omega
  have N3:¬rb=H.next:=by have:=h.rl;omega
  simp only [go_sem,hr,hb,hB,hl,iC,dW,gJ]
  generalize (H.push ⟨ia (tk L st),82,false,false⟩)=H1 at r1 g1 vw n1
  refine af.by (mY r1.pq.pp) ?_
  rintro _ _ - ⟨rfl,rfl⟩
  by_cases dm:dV L [40] st=true
  ·rw [if_pos dm] at he
   by_cases hd:(12:Int)<=st.depth
   ·rw [if_pos hd] at he
    cases he
    simp only [go_sem,dm,vw,hd,hz]
    exact (r1.set vw {st with bad:=3} dW jX).last
   ·rw [if_neg hd] at he
    have r2:=r1.set vw {st with at_:=st.at_+1,depth:=IntKind.wrap .i64 (st.depth+1)} (mX hL dW (wh dm)) (by show p.length<=st.at_+1;omega)
    simp only [go_sem,dm,vw,hd,hz,cU]
    rw [q8]
    generalize vx:(H1.ah rb ⟨[.slice (some ⟨bL,oL,none⟩) L.length cL,iV ((st.at_+1:Nat):Int),.slice none 0 0,.bool true,iV (IntKind.wrap .i64 (st.depth+1)),iV st.bad,vP],125,false,false⟩)=H2
    have r2':PR L F H q rb m H2 {st with at_:=st.at_+1,depth:=IntKind.wrap .i64 (st.depth+1)} p m:=by rw [<-vx];exact r2
    cases Df:sm star {st with at_:=st.at_+1,depth:=IntKind.wrap .i64 (st.depth+1)} p with
    | none=>rw [Df] at he;cases he
    | some x=>
     obtain ⟨v3,s3,p3⟩:=x
     rw [Df] at he
     cases he
     refine af.by (hs r2'.pq Df) ?_
     rintro _ H3 - ⟨rfl,q3,ui⟩
     obtain ⟨m3,r3⟩:=r2'.call q3
     have ajs:st.at_+1+p3.length<=s3.at_+p.length:=ui
     obtain ⟨e1,e2,e3,e4,T2,T3,T4,BL3,Ls,Ix,fA,zY,T5,Lt,ah3,h03,h43,ajt,aju,ajv⟩:=r3.pq.toPQ0.fh
     have R1:=r3.pq.at_
     have ajw:=r3.pq.pl
     have RZ:IntKind.wrap .i64 (((s3.at_:Nat):Int)+1)=((s3.at_+1:Nat):Int):=cW R1 (by omega)
     by_cases fj:s3.bad=0
     ·simp only [go_sem,fA,fj]
      refine af.by (mY r3.pq.pp) ?_
      rintro _ _ - ⟨rfl,rfl⟩
      by_cases rB:dV L [41] s3=true
      ·have x1:EC L s3=s3:=by rw [EC,if_neg];rintro ⟨_,e⟩;rw [rB] at e;cases e
       have x2:ED s3={s3 with at_:=s3.at_+1,depth:=IntKind.wrap .i64 (s3.depth - 1)}:=by rw [ED,if_pos fj]
       simp only [go_sem,rB,fA,fj,hz,RZ]
       rw [q8,x1,x2,<-fj]
       refine ⟨(r3.set fA {s3 with at_:=s3.at_+1,depth:=IntKind.wrap .i64 (s3.depth - 1)} (mX hL R1 (wh rB)) (by show p3.length<=s3.at_+1;omega)).last,by show st.at_+p3.length<=s3.at_+1+p.length;omega⟩
      ·have ajx:dV L [41] s3=false:=by simpa using rB
       have x1:EC L s3={s3 with bad:=2}:=by rw [EC,if_pos ⟨fj,ajx⟩]
       have x2:ED {s3 with bad:=2}={s3 with bad:=2}:=by rw [ED,if_neg];show¬(2:Int)=0;decide
       simp only [go_sem,rB,fA,hz]
       rw [x1,x2]
       exact ⟨(r3.set fA {s3 with bad:=2} R1 ajw).last,by show st.at_+p3.length<=s3.at_+p.length;omega⟩
     ·have x1:EC L s3=s3:=by rw [EC,if_neg];rintro ⟨e,_⟩;exact fj e
      have x2:ED s3=s3:=by rw [ED,if_neg fj]
      simp only [go_sem,fA,fj]
      rw [x1,x2]
      exact ⟨r3.last,by omega⟩
  ·rw [if_neg dm] at he
   simp only [go_sem,dm,g1]
   have Yu:∀{H5:ad},H5=H1.ah rb ⟨[.slice (some ⟨bL,oL,none⟩) L.length cL,iV (st.at_:Nat),.slice none 0 0,.bool true,iV st.depth,iV 2,vP],125,false,false⟩->D6 L F H q rb m {st with bad:=2} p (H5.ai H.fz):=fun e=>by
    rw [e];exact (r1.set vw {st with bad:=2} dW jX).last
   by_cases k2:(tk L st).kind=2
   ·by_cases n0:(tk L st).n=0
    ·rw [if_pos ⟨k2,.inl n0⟩] at he
     cases he
     have ij:(tk L st).kind≠4:=by omega
     have r2:=r1.set vw (aC st) (mX hL dW ij) (by show p.length<=st.at_+1;omega)
     have g2:(H1.ah rb ⟨[.slice (some ⟨bL,oL,none⟩) L.length cL,iV (((aC st).at_:Nat):Int),.slice none 0 0,.bool true,iV (aC st).depth,iV (aC st).bad,vP],125,false,false⟩).get H.next=some ⟨ia (tk L st),82,false,false⟩:=by rw [az,if_neg gq];exact g1
     have eX:IntKind.wrap .i64 (1+0)=1+0:=by decide
     simp only [go_sem,k2,n0,g1,vw,gq,hz,cU,eX,WE]
     refine af.by (Ef hL r2.pq (by show p.length < st.at_+1;omega) (n:=⟨1+0,0,0,0,[]⟩)) ?_
     rintro _ H5 - ⟨rfl,p5⟩
     obtain ⟨m5,r5⟩:=r2.call p5
     simp only [go_sem,n0]
     exact ⟨r5.last,by rw [List.length_append,List.length_singleton];show st.at_+(p.length+1)<=st.at_+1+p.length;omega⟩
    by_cases Bs:(tk L st).n=1
    ·rw [if_pos ⟨k2,.inr Bs⟩] at he
     cases he
     have ij:(tk L st).kind≠4:=by omega
     have r2:=r1.set vw (aC st) (mX hL dW ij) (by show p.length<=st.at_+1;omega)
     have g2:(H1.ah rb ⟨[.slice (some ⟨bL,oL,none⟩) L.length cL,iV (((aC st).at_:Nat):Int),.slice none 0 0,.bool true,iV (aC st).depth,iV (aC st).bad,vP],125,false,false⟩).get H.next=some ⟨ia (tk L st),82,false,false⟩:=by rw [az,if_neg gq];exact g1
     have eX:IntKind.wrap .i64 (1+1)=1+1:=by decide
     simp only [go_sem,k2,Bs,g1,vw,gq,hz,cU,eX,WE]
     refine af.by (Ef hL r2.pq (by show p.length < st.at_+1;omega) (n:=⟨1+1,0,0,0,[]⟩)) ?_
     rintro _ H5 - ⟨rfl,p5⟩
     obtain ⟨m5,r5⟩:=r2.call p5
     simp only [go_sem,Bs]
     exact ⟨r5.last,by rw [List.length_append,List.length_singleton];show st.at_+(p.length+1)<=st.at_+1+p.length;omega⟩
    have k1:¬(tk L st).kind=1:=by omega
    rw [if_neg (by rintro ⟨_,e | e⟩;exact n0 e;exact Bs e),if_neg (by rintro ⟨e,_⟩;exact k1 e)] at he
    cases he
    have k1':¬(2:Int)=1:=by decide
    simp only [go_sem,k2,n0,Bs,g1,k1',vw,hz]
    exact Yu rfl
   rw [if_neg (by rintro ⟨e,_⟩;exact k2 e)] at he
   by_cases k1:(tk L st).kind=1
   ·have sN:¬(1:Int)=2:=by decide
    simp only [go_sem,k1,sN,g1]
    refine af.by (af7 (XJ hL)) ?_
    rintro _ H3 - ⟨rfl,o3,z3⟩
    have r3:=r1.aE o3 (fun c _=>z3 c)
    have g3:H3.get H.next=some ⟨ia (tk L st),82,false,false⟩:=by rw [o3.get _ n1];exact g1
    have g3r:H3.get rb=some ⟨[.slice (some ⟨bL,oL,none⟩) L.length cL,iV (st.at_:Nat),.slice none 0 0,.bool true,iV st.depth,iV st.bad,vP],125,false,false⟩:=by rw [o3.get _ r1.pq.rl];exact vw
    by_cases cJ:D5 (tk L st).text=true
    ·rw [if_pos ⟨k1,cJ⟩] at he
     have E9:=Option.some.inj he
     simp only [go_sem,cJ,g3]
     have ij:(tk L st).kind≠4:=by omega
     have vz:=ah2 hL r3.pq ij (t:=tk L st)
     rw [show (ia (tk L st)).toArray=#[iV (tk L st).kind,iV (tk L st).n,iV (tk L st).line,iV (tk L st).au,ag (tk L st).text] from rfl] at vz
     rw [E9] at vz
     refine af.by vz ?_
     rintro _ H5 - ⟨rfl,p5,ui⟩
     obtain ⟨m5,r5⟩:=r3.call p5
     simp only [go_sem]
     exact ⟨r5.last,ui⟩
    ·rw [if_neg (by rintro ⟨_,e⟩;exact cJ e)] at he
     cases he
     simp only [go_sem,cJ,g3r,hz]
     exact (r3.set g3r {st with bad:=2} dW jX).last
   ·rw [if_neg (by rintro ⟨e,_⟩;exact k1 e)] at he
    cases he
    simp only [go_sem,k2,k1,g1,vw,hz]
    exact Yu rfl
 ·rw [HB,if_pos hb] at he
  cases he
  simp only [go_sem,hr,hb]
  exact (PR.start h).last
theorem Xh (hL:LG L) {sm:Bool->aG->List PN->uO} (hs:PW L F q rb 166 sm):PW L F q rb 180 (xw L sm):=by
 intro H st p m star v bO p' h he
 refine aj.told ?_
 refine afX (Nat.le_refl _) fun hf=>?_
 simp only [Tryz.f180,Option.getD_some]
 have hz:=h.fz
 have jt:=hL.len
 have dW:=h.at_
 have jX:=h.pl
 have cU:IntKind.wrap .i64 (((st.at_:Nat):Int)+1)=((st.at_+1:Nat):Int):=cW dW (by omega)
 obtain ⟨c1,c2,c3,c4,bL,oL,cL,BL,vP,hq,hr,hg,hB,hl,iC,h0,h4,dk,b7,er⟩:=h.toPQ0.fh
 by_cases hb:st.bad=0
 ·simp only [go_sem,hr,hb]
  refine af.by (mY h.pp) ?_
  rintro _ _ - ⟨rfl,rfl⟩
  by_cases dm:dV L [42] st=true
  ·rw [xw,if_neg (by rintro (e | e);exact e hb;rw [dm] at e;cases e)] at he
   cases star
   ·rw [if_neg (by decide)] at he
    have r2:=(PR.start h).set hr (aC st) (mX hL dW (wh dm)) (by show p.length<=st.at_+1;omega)
    simp only [go_sem,dm,hr,hz,cU]
    cases R2:HB L sm true (aC st) p with
    | none=>rw [R2] at he;cases he
    | some x=>
     obtain ⟨v3,s3,p3⟩:=x
     rw [R2] at he
     cases he
     refine af.by (QW hL hs r2.pq R2) ?_
     rintro _ H3 - ⟨rfl,q3,ui⟩
     obtain ⟨m3,r3⟩:=r2.call q3
     have ajs:st.at_+1+p3.length<=s3.at_+p.length:=ui
     simp only [go_sem,Xg]
     refine af.by (Ef hL r3.pq (by omega) (n:=⟨6,v3,0,0,[]⟩)) ?_
     rintro _ H5 - ⟨rfl,p5⟩
     obtain ⟨m5,r5⟩:=r3.call p5
     simp only [go_sem]
     exact ⟨r5.last,by rw [List.length_append,List.length_singleton];omega⟩
   ·rw [if_pos rfl] at he
    cases he
    simp only [go_sem,dm,hr,hz]
    exact ((PR.start h).set hr {st with bad:=2} dW jX).last
  ·have ajy:dV L [42] st=false:=by simpa using dm
   rw [xw,if_pos (.inr ajy)] at he
   simp only [go_sem,dm]
   refine af.by (QW hL hs h he) ?_
   rintro _ H3 - ⟨rfl,q3,ui⟩
   obtain ⟨m3,r3⟩:=(PR.start h).call q3
   simp only [go_sem]
   exact ⟨r3.last,ui⟩
 ·rw [xw,if_pos (.inl hb)] at he
  simp only [go_sem,hr,hb]
  refine af.by (QW hL hs h he) ?_
  rintro _ H3 - ⟨rfl,q3,ui⟩
  obtain ⟨m3,r3⟩:=(PR.start h).call q3
  simp only [go_sem]
  exact ⟨r3.last,ui⟩
theorem Yv (hL:LG L) {sm:Bool->aG->List PN->uO} (hs:PW L F q rb 166 sm) {n:Nat}:PW L F q rb 176 (zK L sm n):=by
 intro H st p m star v bO p' h he
 refine aj.told ?_
 refine afP (Nat.le_refl _) fun hf=>?_
 simp only [Tryz.f176,Option.getD_some]
 have hz:=h.fz
 have jt:=hL.len
 simp only [go_sem]
 cases Fo:xw L sm star st p with
 | none=>rw [zK,Fo] at he;cases he
 | some x=>
  obtain ⟨v3,s3,p3⟩:=x
  rw [zK,Fo] at he
  replace he:xF L (xw L sm star) [46] 5 n v3 s3 p3=some (v,bO,p'):=he
  refine af.by (Xh hL hs h Fo) ?_
  rintro _ H3 - ⟨rfl,q3,ui⟩
  obtain ⟨m3,r3⟩:=(PR.start h).call q3
  simp only [go_sem]
  refine lp 17179868256 (fun k V H2=>∃a s2 p2 m2,V 5=iV a/\PR L F H q rb m H2 s2 p2 m2/\st.at_+p2.length<=s2.at_+p.length/\xF L (xw L sm star) [46] 5 k a s2 p2=some (v,bO,p')) (n:=n)
   ⟨v3,s3,p3,m3,by simp only [go_sem] <;> rfl,r3,ui,he⟩ ?_ (by rfl)
  rintro k V H2 ⟨a,s2,p2,m2,e5,r2,g2,jY⟩
  cases k with
  | zero=>cases jY
  | succ k=>
   rw [xF] at jY
   have Kn:=r2.pq.at_
   have ajz:=r2.pq.pl
   have Km:IntKind.wrap .i64 (((s2.at_:Nat):Int)+1)=((s2.at_+1:Nat):Int):=cW Kn (by omega)
   obtain ⟨c1,c2,c3,c4,bL,oL,cL,BL,vP,hq,hr,hg,hB,hl,iC,h0,h4,dk,b7,er⟩:=r2.pq.toPQ0.fh
   by_cases hb:s2.bad=0
   ·simp only [go_sem,hr,hb]
    refine af.by (mY r2.pq.pp) ?_
    rintro _ _ - ⟨rfl,rfl⟩
    by_cases iN:dV L [46] s2=true
    ·rw [if_pos ⟨hb,iN⟩] at jY
     have r4:=r2.set hr (aC s2) (mX hL Kn (wh iN)) (by show p2.length<=s2.at_+1;omega)
     simp only [go_sem,iN,hr,hz,Km]
     cases og:xw L sm star (aC s2) p2 with
     | none=>rw [og] at jY;cases jY
     | some x=>
      obtain ⟨v5,s5,p5⟩:=x
      rw [og] at jY
      replace jY:xF L (xw L sm star) [46] 5 k (p5.length:Nat) s5 (p5++[⟨5,a,v5,0,[]⟩])=some (v,bO,p'):=jY
      refine af.by (Xh hL hs r4.pq og) ?_
      rintro _ H5 - ⟨rfl,q5,R3⟩
      obtain ⟨m5,r5⟩:=r4.call q5
      have ah4:s2.at_+1+p5.length<=s5.at_+p2.length:=R3
      simp only [go_sem,e5,WD]
      refine af.by (Ef hL r5.pq (by omega) (n:=⟨5,a,v5,0,[]⟩)) ?_
      rintro _ H6 - ⟨rfl,q6⟩
      obtain ⟨m6,r6⟩:=r5.call q6
      simp only [go_sem]
      exact ⟨k,by omega,_,s5,_,m6,rfl,r6,by rw [List.length_append,List.length_singleton];omega,jY⟩
    ·rw [if_neg (by rintro ⟨_,e⟩;exact iN e)] at jY
     cases jY
     simp only [go_sem,iN,e5]
     exact ⟨r2.last,g2⟩
   ·rw [if_neg (by rintro ⟨e,_⟩;exact hb e)] at jY
    cases jY
    simp only [go_sem,hr,hb,e5]
    exact ⟨r2.last,g2⟩
theorem ah5 (hL:LG L) (n:Nat):PW L F q rb 166 (wx L n):=by
 induction n with
 | zero=>intro H st p m star v bO p' h he;cases he
 | succ n hs=>
  intro H st p m star v bO p' h he
  refine aj.told ?_
  refine afv (Nat.le_refl _) fun hf=>?_
  simp only [Tryz.f166,Option.getD_some]
  have hz:=h.fz
  have jt:=hL.len
  simp only [go_sem]
  cases Fo:zK L (wx L n) n star st p with
  | none=>rw [wx,Fo] at he;cases he
  | some x=>
   obtain ⟨v3,s3,p3⟩:=x
   rw [wx,Fo] at he
   replace he:xF L (zK L (wx L n) n star) [43] 4 n v3 s3 p3=some (v,bO,p'):=he
   refine af.by (Yv hL hs h Fo) ?_
   rintro _ H3 - ⟨rfl,q3,ui⟩
   obtain ⟨m3,r3⟩:=(PR.start h).call q3
   simp only [go_sem]
   refine lp 17179868256 (fun k V H2=>∃a s2 p2 m2,V 5=iV a/\PR L F H q rb m H2 s2 p2 m2/\st.at_+p2.length<=s2.at_+p.length/\xF L (zK L (wx L n) n star) [43] 4 k a s2 p2=some (v,bO,p')) (n:=n)
    ⟨v3,s3,p3,m3,by simp only [go_sem] <;> rfl,r3,ui,he⟩ ?_ (by rfl)
   rintro k V H2 ⟨a,s2,p2,m2,e5,r2,g2,jY⟩
   cases k with
   | zero=>cases jY
   | succ k=>
    rw [xF] at jY
    have Kn:=r2.pq.at_
    have ajz:=r2.pq.pl
    have Km:IntKind.wrap .i64 (((s2.at_:Nat):Int)+1)=((s2.at_+1:Nat):Int):=cW Kn (by omega)
    obtain ⟨c1,c2,c3,c4,bL,oL,cL,BL,vP,hq,hr,hg,hB,hl,iC,h0,h4,dk,b7,er⟩:=r2.pq.toPQ0.fh
    by_cases hb:s2.bad=0
    ·simp only [go_sem,hr,hb]
     refine af.by (mY r2.pq.pp) ?_
     rintro _ _ - ⟨rfl,rfl⟩
     by_cases iN:dV L [43] s2=true
     ·rw [if_pos ⟨hb,iN⟩] at jY
      have r4:=r2.set hr (aC s2) (mX hL Kn (wh iN)) (by show p2.length<=s2.at_+1;omega)
      simp only [go_sem,iN,hr,hz,Km]
      cases og:zK L (wx L n) n star (aC s2) p2 with
      | none=>rw [og] at jY;cases jY
      | some x=>
       obtain ⟨v5,s5,p5⟩:=x
       rw [og] at jY
       replace jY:xF L (zK L (wx L n) n star) [43] 4 k (p5.length:Nat) s5 (p5++[⟨4,a,v5,0,[]⟩])=some (v,bO,p'):=jY
       refine af.by (Yv hL hs r4.pq og) ?_
       rintro _ H5 - ⟨rfl,q5,R3⟩
       obtain ⟨m5,r5⟩:=r4.call q5
       have ah4:s2.at_+1+p5.length<=s5.at_+p2.length:=R3
       simp only [go_sem,e5,WD]
       refine af.by (Ef hL r5.pq (by omega) (n:=⟨4,a,v5,0,[]⟩)) ?_
       rintro _ H6 - ⟨rfl,q6⟩
       obtain ⟨m6,r6⟩:=r5.call q6
       simp only [go_sem]
       exact ⟨k,by omega,_,s5,_,m6,rfl,r6,by rw [List.length_append,List.length_singleton];omega,jY⟩
     ·rw [if_neg (by rintro ⟨_,e⟩;exact iN e)] at jY
      cases jY
      simp only [go_sem,iN,e5]
      exact ⟨r2.last,g2⟩
    ·rw [if_neg (by rintro ⟨e,_⟩;exact hb e)] at jY
     cases jY
     simp only [go_sem,hr,hb,e5]
     exact ⟨r2.last,g2⟩
end
section
variable {L:List bh} {F:List Nat} {H H1 H2:ad} {q rb:Nat} {st cA bu:aG}
def A3 (L:List bh) (fuel:Nat) (st:aG):Option (List PN × aG):=
 if c9 st=true then (wx L fuel false st []).map fun x=>(x.2.2,if c9 x.2.1=true/\24 < x.2.2.length then eQ 3 {x.2.1 with at_:=st.at_} else x.2.1) else some ([],st)
theorem PP.pq (h:PP L F H q rb st) (hf:bW H) {vL vP:Value} (hr:H.get rb=some ⟨[vL,iV (st.at_:Nat),.slice none 0 0,.bool true,iV st.depth,iV st.bad,vP],125,false,false⟩):PQ L F (H.ah rb ⟨[vL,iV (st.at_:Nat),.slice none 0 0,.bool true,iV st.depth,iV st.bad,.slice none 0 0],125,false,false⟩) q rb st [] []:=by
 obtain ⟨⟨⟨c1,c2,c3,c4,lZ⟩,⟨vL',a,n,c,ib,hs⟩,hF,h3,h4,h5,h6⟩,hz⟩:=h
 rw [hr] at ib
 cases ib
 exact ⟨⟨⟨c1,c2,c3,c4,by rw [az,if_neg h3];exact lZ⟩,⟨vL,_,by rw [az,if_pos rfl],hs.ae fun b hb=>by rw [az,if_neg (hF b hb).2.1],Gr.nil _ _ _⟩,hF,by simp,h3,h4,h5,h6,Nat.zero_le _⟩,hz,by simp,fun b hb=>hf.fresh hb⟩
theorem NH (hL:LG L) (h:PP L F H q rb st) {fuel:Nat} {p:List PN} {bO:aG} (he:A3 L fuel st=some (p,bO)):aj Tryz.prog 144 #[pV q] H (fun w H'=>(∃g,Sl fy H' w p g/\gZ H H' g)/\fR L F H q rb bO H'):=by
 refine aj.told ?_
 refine aeR (Nat.le_refl _) fun hf=>?_
 simp only [Tryz.f144,Option.getD_some]
 simp only [go_sem]
 have hz:=h.fz
 have dW:=h.at_
 obtain ⟨c1,c2,c3,c4,bL,oL,cL,BL,a,n,c,hq,hr,hB,hl,iC,h0,h4,dk,b7,er⟩:=h.fh
 refine af.by (eJ h) ?_
 rintro _ _ - ⟨rfl,rfl⟩
 by_cases hb:c9 st=true
 ·rw [A3,if_pos hb] at he
  have yD:=h.qr
  have r1:=PR.start (h.pq hf hr)
  simp only [go_sem,hb,hq,hr,yD,hz]
  have fr1:Fr [rb] H (H.ah rb ⟨[.slice (some ⟨bL,oL,none⟩) L.length cL,iV (st.at_:Nat),.slice none 0 0,.bool true,iV st.depth,iV st.bad,.slice none 0 0],125,false,false⟩):=(Fr.refl _ _).ah (.inl (by simp)) _
  have n1:(H.ah rb ⟨[.slice (some ⟨bL,oL,none⟩) L.length cL,iV (st.at_:Nat),.slice none 0 0,.bool true,iV st.depth,iV st.bad,.slice none 0 0],125,false,false⟩).next=H.next:=rfl
  generalize (H.ah rb ⟨[.slice (some ⟨bL,oL,none⟩) L.length cL,iV (st.at_:Nat),.slice none 0 0,.bool true,iV st.depth,iV st.bad,.slice none 0 0],125,false,false⟩)=H1 at r1 fr1 n1
  cases Df:wx L fuel false st [] with
  | none=>rw [Df] at he;cases he
  | some x=>
   obtain ⟨v3,s3,p3⟩:=x
   rw [Df] at he
   refine af.by (ah5 hL fuel r1.pq Df) ?_
   rintro _ H3 - ⟨rfl,q3,ui⟩
   obtain ⟨m3,r3⟩:=r1.call q3
   obtain ⟨e1,e2,e3,e4,T2,T3,T4,BL3,Ls,Ix,fA,zY,T5,Lt,ah3,h03,h43,ajt,aju,ajv⟩:=r3.pq.toPQ0.fh
   obtain ⟨aP,Iy⟩:=zY.val
   have hm3:∀b∈m3,H.next<=b:=fun b hb=>by
    rcases r3.sub b hb with e | e
    ·cases e
    ·omega
   have f13:Fr [rb] H H3:=fr1.then r3.fr
   simp only [go_sem,Ix,fA]
   refine af.by (eJ r3.pq.pp) ?_
   rintro _ _ - ⟨rfl,rfl⟩
   have eF:∀{H':ad},Fr [rb] H3 H'->Sl fy H' (.slice aP p3.length p3.length) p3 m3:=fun f=>by
    have:=zY.sl
    rw [List.append_nil,Iy] at this
    exact this.ae fun b hb=>f.get b (r3.pq.hm b hb).1 (by simpa using (r3.pq.hm b hb).2.1)
   have im:∀{H':ad},Fr [rb] H3 H'->gZ H (H'.ai H.fz) m3:=fun f b hb=>⟨hm3 b hb,Nat.lt_of_lt_of_le (r3.pq.hm b hb).1 f.nx⟩
   by_cases fj:c9 s3=true
   ·by_cases TL:24 < p3.length
    ·have R4:(24:Int) < ((p3.length:Nat):Int):=by omega
     have ie:eQ 3 {s3 with at_:=st.at_}=bO/\p3=p:=by
      simp only [Option.map_some,fj,TL,and_self,if_true] at he
      cases he;exact ⟨rfl,rfl⟩
     obtain ⟨rfl,rfl⟩:=ie
     have r4:=r3.pq.pp.toPP0.set fA {s3 with at_:=st.at_} dW
     simp only [go_sem,fj,Iy,R4,Ix,fA,hz]
     rw [Iy] at r4 fA
     have f4:Fr [rb] H3 (H3.ah rb ⟨[.slice (some ⟨T2,T3,none⟩) L.length T4,iV (st.at_:Nat),.slice none 0 0,.bool true,iV s3.depth,iV s3.bad,.slice aP p3.length p3.length],125,false,false⟩):=(Fr.refl _ _).ah (.inl (by simp)) _
     have my:PP L F (H3.ah rb ⟨[.slice (some ⟨T2,T3,none⟩) L.length T4,iV (st.at_:Nat),.slice none 0 0,.bool true,iV s3.depth,iV s3.bad,.slice aP p3.length p3.length],125,false,false⟩) q rb {s3 with at_:=st.at_}:={r4 with fz:=r3.pq.fz}
     refine af.by (kK my) ?_
     rintro _ H5 - p5
     simp only [go_sem,Iy]
     exact ⟨⟨m3,(eF (f4.then p5.1)).ae fun _ _=>rfl,im (f4.then p5.1)⟩,.last ((f13.then f4).then p5.1) p5.2.2⟩
    ·have R4:¬(24:Int) < ((p3.length:Nat):Int):=by omega
     have ie:s3=bO/\p3=p:=by
      simp only [Option.map_some,fj,TL,and_false,if_false] at he
      cases he;exact ⟨rfl,rfl⟩
     obtain ⟨rfl,rfl⟩:=ie
     simp only [go_sem,fj,Iy,R4]
     exact ⟨⟨m3,(eF (.refl _ _)).ae fun _ _=>rfl,im (.refl _ _)⟩,.last f13 r3.pq.pp.toPP0⟩
   ·have ie:s3=bO/\p3=p:=by
     simp only [Option.map_some,fj,false_and,if_false] at he
     cases he;exact ⟨rfl,rfl⟩
    obtain ⟨rfl,rfl⟩:=ie
    simp only [go_sem,fj,Iy]
    exact ⟨⟨m3,(eF (.refl _ _)).ae fun _ _=>rfl,im (.refl _ _)⟩,.last f13 r3.pq.pp.toPP0⟩
 ·rw [A3,if_neg hb] at he
  cases he
  simp only [go_sem,hb]
  exact ⟨⟨[],.inl ⟨rfl,rfl,rfl⟩,by simp [gZ]⟩,.last (.refl _ _) h.toPP0⟩
def zu (L:List bh) (fuel:Nat) (st:aG):Option (Ty × aG):=
 if c9 st=true then
  (if cQ L [105,110,116] st=true then some (⟨1,0,0,[],[]⟩,aC st)
  else if 0 < lu L st then
   (if cQ L [97,114,114] (aC st)=true then some (⟨2,lu L st, -1,[97,114,114],[]⟩,aC (aC st))
   else some (⟨2,lu L st,0,(cj L (aC st)).1,[]⟩,(cj L (aC st)).2))
  else if dV L [33] st=true∨dV L [63] st=true then
   (A3 L fuel (dA L [40] (aC st))).map fun x=>(⟨if dV L [63] st=true then 4 else 3,0,0,[],x.1⟩,dA L [41] x.2)
  else some (⟨0,0,0,[],[]⟩,eQ 2 st))
 else some (⟨0,0,0,[],[]⟩,st)
theorem WG {h:KH}:fH Tryz.prog 99 [] h=.ok (.agg #[iV 0,iV 0,iV 0,ag [],.slice none 0 0]) h:=by kernel_rfl
theorem Qm {k:Int} {h:KH}:fH Tryz.prog 99 [(0,iV k)] h=.ok (.agg #[iV k,iV 0,iV 0,ag [],.slice none 0 0]) h:=by kernel_rfl
theorem abF {k c r:Int} {s:bj} {h:KH}:fH Tryz.prog 99 [(0,iV k),(1,iV c),(2,iV r),(3,ag s)] h=.ok (.agg #[iV k,iV c,iV r,ag s,.slice none 0 0]) h:=by kernel_rfl
theorem abG {k c:Int} {s:bj} {h:KH}:fH Tryz.prog 99 [(0,iV k),(1,iV c),(3,ag s)] h=.ok (.agg #[iV k,iV c,iV 0,ag s,.slice none 0 0]) h:=by kernel_rfl
def TyV (H H':ad) (w:Value) (t:Ty):Prop:=∃vp g,w=.agg #[iV t.kind,iV t.cap,iV t.rc,ag t.name,vp]/\Sl fy H' vp t.pat g/\gZ H H' g
theorem Zq (hL:LG L) (h:PP L F H q rb st) {fuel:Nat} {t:Ty} {bO:aG} (he:zu L fuel st=some (t,bO)):aj Tryz.prog 141 #[pV q] H (fun w H'=>TyV H H' w t/\fR L F H q rb bO H'):=by
 refine aj.told ?_
 refine aeL (Nat.le_refl _) fun hf=>?_
 simp only [Tryz.f141,Option.getD_some]
 simp only [go_sem]
 obtain ⟨fq,fr,fF⟩:=h.toPP0.fresh (Nat.le_refl H.next)
 have vl:H.fz H.next=false:=hf.fresh (Nat.le_refl _)
 have rA:=h.push ⟨[iV 0,iV 0,iV 0,ag [],.slice none 0 0],99,false,false⟩
 have Ad:Fr [rb] H (H.push ⟨[iV 0,iV 0,iV 0,ag [],.slice none 0 0],99,false,false⟩):=(bc.push H _).fr _
 have gA:(H.push ⟨[iV 0,iV 0,iV 0,ag [],.slice none 0 0],99,false,false⟩).get H.next=some ⟨[iV 0,iV 0,iV 0,ag [],.slice none 0 0],99,false,false⟩:=by rw [aU,if_pos rfl]
 have nA:H.next < (H.push ⟨[iV 0,iV 0,iV 0,ag [],.slice none 0 0],99,false,false⟩).next:=Nat.lt_succ_self _
 generalize (H.push ⟨[iV 0,iV 0,iV 0,ag [],.slice none 0 0],99,false,false⟩)=Ha at rA Ad gA nA
 have hz:=h.fz
 have jt:=hL.len
 have dW:=h.at_
 have cU:IntKind.wrap .i64 (((st.at_:Nat):Int)+1)=((st.at_+1:Nat):Int):=cW dW (by omega)
 have fin:∀{H5:ad} {bO:aG},Fr [rb] Ha H5->PP0 L F H5 q rb bO->∀B:ct,B.ro=false->fR L F H q rb bO ((H5.ah H.next B).ai H.fz):=fun f5 p5 B hB=>.last ((Ad.then f5).ah (.inr (Nat.le_refl _)) B hB) (p5.put B fq fr fF)
 have wO:∀{H5:ad},Fr [rb] Ha H5->H5.get H.next=some ⟨[iV 0,iV 0,iV 0,ag [],.slice none 0 0],99,false,false⟩:=fun f5=>by rw [f5.get _ nA (by simpa using fr)];exact gA
 have fl:∀{H5:ad} {k c r:Int} {s:bj},TyV H H5 (.agg #[iV k,iV c,iV r,ag s,.slice none 0 0]) ⟨k,c,r,s,[]⟩:=fun {H5 k c r s}=>⟨_,[],rfl,.inl ⟨rfl,rfl,rfl⟩,by simp [gZ]⟩
 refine af.by (eJ rA) ?_
 rintro _ _ - ⟨rfl,rfl⟩
 by_cases hb:c9 st=true
 ·rw [zu,if_pos hb] at he
  simp only [go_sem,hb]
  refine af.by (NG rA) ?_
  rintro _ H1 - ⟨rfl,p1⟩
  have h1:=rA.post p1
  have f1:=p1.1
  simp only [go_sem]
  refine af.by (fJ h1) ?_
  rintro _ H2 - ⟨rfl,p2⟩
  have h2:=h1.post p2
  have f2:=f1.then p2.1
  obtain ⟨c1,c2,c3,c4,bL,oL,cL,BL,a,n,c,hq,hr,hB,hl,iC,h0,h4,dk,b7,er⟩:=h2.fh
  have TW:=wO f2
  have OT:¬H.next=rb:=fr
  have iE:∀{s1:aG} {H2:ad} {bL oL cL a n c},PP L F H2 q rb s1->(tk L s1).kind≠4->H2.get rb=some ⟨[.slice (some ⟨bL,oL,none⟩) L.length cL,iV (s1.at_:Nat),.slice none 0 0,.bool true,iV s1.depth,iV s1.bad,.slice a n c],125,false,false⟩->PP L F (H2.ah rb ⟨[.slice (some ⟨bL,oL,none⟩) L.length cL,iV ((s1.at_+1:Nat):Int),.slice none 0 0,.bool true,iV s1.depth,iV s1.bad,.slice a n c],125,false,false⟩) q rb (aC s1):=fun {s1} {H2} {bL oL cL a n c} h hk hr=>{h.toPP0.set hr (aC s1) (mX hL h.at_ hk) with fz:=h.fz}
  by_cases hi:cQ L [105,110,116] st=true
  ·rw [if_pos hi] at he
   cases he
   have hp:=iE h2 (jd hi) hr
   have fp:=(f2.ah (.inl (by simp:rb∈[rb])) ⟨[.slice (some ⟨bL,oL,none⟩) L.length cL,iV ((st.at_+1:Nat):Int),.slice none 0 0,.bool true,iV st.depth,iV st.bad,.slice a n c],125,false,false⟩)
   simp only [go_sem,hi,hq,hr,hz,cU,OT,TW,vl,Qm]
   exact ⟨fl,fin fp hp.toPP0 _ rfl⟩
  rw [if_neg hi] at he
  by_cases hc:0 < lu L st
  ·rw [if_pos hc] at he
   have ij:(tk L st).kind≠4:=by
    have Lm:∀(l:List bj) (k:Int),CO L st k l≠0->(tk L st).kind≠4:=by
     intro l
     induction l with
     | nil=>intro k h;exact absurd rfl h
     | cons s l ih=>
      intro k h
      rw [CO] at h
      split at h
      ·rename_i hw;exact jd hw
      ·exact ih _ h
    exact Lm tG 1 (by show lu L st≠0;omega)
   have hp:=iE h2 ij hr
   have fp:=(f2.ah (.inl (by simp:rb∈[rb])) ⟨[.slice (some ⟨bL,oL,none⟩) L.length cL,iV ((st.at_+1:Nat):Int),.slice none 0 0,.bool true,iV st.depth,iV st.bad,.slice a n c],125,false,false⟩)
   simp only [go_sem,hi,hc,hq,hr,hz,cU]
   generalize (H2.ah rb ⟨[.slice (some ⟨bL,oL,none⟩) L.length cL,iV ((st.at_+1:Nat):Int),.slice none 0 0,.bool true,iV st.depth,iV st.bad,.slice a n c],125,false,false⟩)=H3 at hp fp
   refine af.by (fJ hp) ?_
   rintro _ H4 - ⟨rfl,p4⟩
   have h4:=hp.post p4
   have f4:=fp.then p4.1
   obtain ⟨d1,d2,d3,d4,bL,oL,cL,BL,a,n,c,hq4,sL,Lr,hl4,Ro,h04,h44,ajp,Zo,ajq⟩:=h4.fh
   have ajA:IntKind.wrap .i64 (((st.at_+1:Nat):Int)+1)=((st.at_+1+1:Nat):Int):=by
    have:=h4.at_
    exact cW (n:=L.length) this (by omega)
   have ajB:H4.get rb=some ⟨[.slice (some ⟨bL,oL,none⟩) L.length cL,iV ((st.at_+1:Nat):Int),.slice none 0 0,.bool true,iV st.depth,iV st.bad,.slice a n c],125,false,false⟩:=sL
   by_cases ha:cQ L [97,114,114] (aC st)=true
   ·rw [if_pos ha] at he
    cases he
    have wT:=wO f4
    have Lu:=iE h4 (jd ha) sL
    have fp5:=(f4.ah (.inl (by simp:rb∈[rb])) ⟨[.slice (some ⟨bL,oL,none⟩) L.length cL,iV ((st.at_+1+1:Nat):Int),.slice none 0 0,.bool true,iV st.depth,iV st.bad,.slice a n c],125,false,false⟩)
    simp only [go_sem,ha,hq4,ajB,hz,ajA,OT,wT,vl,abF]
    exact ⟨fl,fin fp5 Lu.toPP0 _ rfl⟩
   ·rw [if_neg ha] at he
    cases he
    simp only [go_sem,ha]
    refine af.by (jc hL h4) ?_
    rintro _ H5 - ⟨rfl,p5⟩
    have wT:=wO (f4.then p5.1)
    simp only [go_sem,wT,vl,abG]
    exact ⟨fl,fin (f4.then p5.1) p5.2.2 _ rfl⟩
  rw [if_neg hc] at he
  simp only [go_sem,hi,hc,hq]
  refine af.by (mY h2) ?_
  rintro _ _ - ⟨rfl,rfl⟩
  by_cases hs:dV L [33] st=true∨dV L [63] st=true
  ·rw [if_pos hs] at he
   have ij:(tk L st).kind≠4:=by rcases hs with e | e <;> exact wh e
   cases uP:A3 L fuel (dA L [40] (aC st)) with
   | none=>rw [uP] at he;cases he
   | some x=>
    obtain ⟨pp,s5⟩:=x
    rw [uP] at he
    cases he
    by_cases u9:dV L [63] st=true
    ·have Lv:¬dV L [33] st=true:=fun e=>by
      simp only [dV,Bool.and_eq_true,decide_eq_true_eq] at e u9
      have:=e.2.symm.trans u9.2
      cases this
     simp only [go_sem,Lv,hq]
     refine af.by (mY h2) ?_
     rintro _ _ - ⟨rfl,rfl⟩
     have R5:=h2.push ⟨[iV 3,iV 0,iV 0,ag [],.slice none 0 0],99,false,false⟩
     have hqk:(H2.push ⟨[iV 3,iV 0,iV 0,ag [],.slice none 0 0],99,false,false⟩).get q=some ⟨[.pointer (some ⟨rb,0,none⟩),c1,c2,c3,c4],127,false,false⟩:=by rw [bS h2.ql];exact hq
     have R6:H.fz H2.next=false:=hf.fresh (Nat.le_trans Ad.nx f2.nx)
     have Lw:¬q=H2.next:=fun e=>by have:=h2.ql;omega
     simp only [go_sem,u9,Qm,R6,hq,Lw]
     refine af.by (mY R5) ?_
     rintro _ _ - ⟨rfl,rfl⟩
     have ef:H.fz H2.next=false:=hf.fresh (Nat.le_trans Ad.nx f2.nx)
     have nb:H.next≠H2.next:=by have:=f2.nx;omega
     have gq:¬H2.next=rb:=(h2.toPP0.fresh (Nat.le_refl _)).2.1
     have N3:¬rb=H2.next:=fun e=>gq e.symm
     have vf:=h2.push ⟨[iV 4,iV 0,iV 0,ag [],.slice none 0 0],99,false,false⟩
     have uZ:Fr [rb] Ha (H2.push ⟨[iV 4,iV 0,iV 0,ag [],.slice none 0 0],99,false,false⟩):=f2.push _
     have T6:(H2.push ⟨[iV 4,iV 0,iV 0,ag [],.slice none 0 0],99,false,false⟩).get H2.next=some ⟨[iV 4,iV 0,iV 0,ag [],.slice none 0 0],99,false,false⟩:=by rw [aU,if_pos rfl]
     have T7:H2.next < (H2.push ⟨[iV 4,iV 0,iV 0,ag [],.slice none 0 0],99,false,false⟩).next:=Nat.lt_succ_self _
     have T8:(H2.push ⟨[iV 4,iV 0,iV 0,ag [],.slice none 0 0],99,false,false⟩).get rb=some ⟨[.slice (some ⟨bL,oL,none⟩) L.length cL,iV (st.at_:Nat),.slice none 0 0,.bool true,iV st.depth,iV st.bad,.slice a n c],125,false,false⟩:=by rw [bS h2.rl];exact hr
     have Fp:=iE vf ij T8
     have f3:=(uZ.ah (.inl (by simp:rb∈[rb])) ⟨[.slice (some ⟨bL,oL,none⟩) L.length cL,iV ((st.at_+1:Nat):Int),.slice none 0 0,.bool true,iV st.depth,iV st.bad,.slice a n c],125,false,false⟩)
     have g3:((H2.push ⟨[iV 4,iV 0,iV 0,ag [],.slice none 0 0],99,false,false⟩).ah rb ⟨[.slice (some ⟨bL,oL,none⟩) L.length cL,iV ((st.at_+1:Nat):Int),.slice none 0 0,.bool true,iV st.depth,iV st.bad,.slice a n c],125,false,false⟩).get H2.next=some ⟨[iV 4,iV 0,iV 0,ag [],.slice none 0 0],99,false,false⟩:=by rw [az,if_neg gq];exact T6
     have n3:H2.next < ((H2.push ⟨[iV 4,iV 0,iV 0,ag [],.slice none 0 0],99,false,false⟩).ah rb ⟨[.slice (some ⟨bL,oL,none⟩) L.length cL,iV ((st.at_+1:Nat):Int),.slice none 0 0,.bool true,iV st.depth,iV st.bad,.slice a n c],125,false,false⟩).next:=T7
     simp only [go_sem,u9,Lw,hq,hr,gq,N3,hz,cU,ef]
     generalize dI:((H2.push ⟨[iV 4,iV 0,iV 0,ag [],.slice none 0 0],99,false,false⟩).ah rb ⟨[.slice (some ⟨bL,oL,none⟩) L.length cL,iV ((st.at_+1:Nat):Int),.slice none 0 0,.bool true,iV st.depth,iV st.bad,.slice a n c],125,false,false⟩)=H3 at Fp f3 g3 n3
     refine af.by (iB hL Fp) ?_
     rintro _ H4 - p4
     have h4:=Fp.post p4
     have f4:=f3.then p4.1
     simp only [go_sem]
     refine af.by (NH hL h4 uP) ?_
     rintro vp H5 - ⟨⟨g,eF,im⟩,p5⟩
     have h5:=h4.post p5
     have f5:=f4.then p5.1
     have n4:=p4.1.nx
     have n5:=p5.1.nx
     have g5:H5.get H2.next=some ⟨[iV 4,iV 0,iV 0,ag [],.slice none 0 0],99,false,false⟩:=by
      rw [p5.1.get _ (by omega) (by simpa using gq),p4.1.get _ n3 (by simpa using gq)];exact g3
     obtain ⟨T9,kj,Ua⟩:=h2.toPP0.fresh (Nat.le_refl H2.next)
     obtain ⟨av,cv,yI⟩:=eF.val
     subst yI
     simp only [go_sem,g5,ef]
     have h6:PP L F (H5.ah H2.next ⟨[iV 4,iV 0,iV 0,ag [],.slice av pp.length cv],99,false,false⟩) q rb s5:={h5.toPP0.put _ T9 kj Ua with fz:=h5.fz}
     have f6:Fr [rb] Ha (H5.ah H2.next ⟨[iV 4,iV 0,iV 0,ag [],.slice av pp.length cv],99,false,false⟩):=f5.ah (.inr f2.nx) _
     have Ko:Sl fy (H5.ah H2.next ⟨[iV 4,iV 0,iV 0,ag [],.slice av pp.length cv],99,false,false⟩) (.slice av pp.length cv) pp g:=eF.ae fun b hb=>by rw [az,if_neg (by have:=(im b hb).1;omega)]
     have g6:(H5.ah H2.next ⟨[iV 4,iV 0,iV 0,ag [],.slice av pp.length cv],99,false,false⟩).get H2.next=some ⟨[iV 4,iV 0,iV 0,ag [],.slice av pp.length cv],99,false,false⟩:=by rw [az,if_pos rfl]
     have n6:(H5.ah H2.next ⟨[iV 4,iV 0,iV 0,ag [],.slice av pp.length cv],99,false,false⟩).next=H5.next:=rfl
     generalize (H5.ah H2.next ⟨[iV 4,iV 0,iV 0,ag [],.slice av pp.length cv],99,false,false⟩)=H6 at h6 f6 Ko g6 n6
     refine af.by (iB hL h6) ?_
     rintro _ H7 - p7
     have f7:=f6.then p7.1
     have n7:=p7.1.nx
     have g7:H7.get H2.next=some ⟨[iV 4,iV 0,iV 0,ag [],.slice av pp.length cv],99,false,false⟩:=by rw [p7.1.get _ (by omega) (by simpa using gq)];exact g6
     have Ub:=wO f7
     have bg:∀b∈g,b≠rb:=fun b hb e=>by have:=(im b hb).1;have:=h4.rl;omega
     simp only [go_sem,g7,Ub,vl]
     refine ⟨⟨_,g,by rw [if_pos u9],(Ko.ae fun b hb=>?_),fun b hb=>⟨?_,?_⟩⟩,fin f7 p7.2.2 _ rfl⟩
     ·have iD:=(im b hb).1
      have fe:=(im b hb).2
      have kr:=f2.nx
      show (H7.ah H.next _).get b=_
      rw [az,if_neg (by omega),p7.1.get b (by omega) (by simpa using bg b hb)]
     ·have iD:=(im b hb).1
      have kr:=f2.nx
      omega
     ·have fe:=(im b hb).2
      show b < H7.next
      omega
    ·have Lv:dV L [33] st=true:=hs.resolve_right u9
     have R5:=h2.push ⟨[iV 3,iV 0,iV 0,ag [],.slice none 0 0],99,false,false⟩
     have hqk:(H2.push ⟨[iV 3,iV 0,iV 0,ag [],.slice none 0 0],99,false,false⟩).get q=some ⟨[.pointer (some ⟨rb,0,none⟩),c1,c2,c3,c4],127,false,false⟩:=by rw [bS h2.ql];exact hq
     have R6:H.fz H2.next=false:=hf.fresh (Nat.le_trans Ad.nx f2.nx)
     have Lw:¬q=H2.next:=fun e=>by have:=h2.ql;omega
     simp only [go_sem,Lv,Qm,R6,hq,Lw]
     refine af.by (mY R5) ?_
     rintro _ _ - ⟨rfl,rfl⟩
     have ef:H.fz H2.next=false:=hf.fresh (Nat.le_trans Ad.nx f2.nx)
     have nb:H.next≠H2.next:=by have:=f2.nx;omega
     have gq:¬H2.next=rb:=(h2.toPP0.fresh (Nat.le_refl _)).2.1
     have N3:¬rb=H2.next:=fun e=>gq e.symm
     have vf:=h2.push ⟨[iV 3,iV 0,iV 0,ag [],.slice none 0 0],99,false,false⟩
     have uZ:Fr [rb] Ha (H2.push ⟨[iV 3,iV 0,iV 0,ag [],.slice none 0 0],99,false,false⟩):=f2.push _
     have T6:(H2.push ⟨[iV 3,iV 0,iV 0,ag [],.slice none 0 0],99,false,false⟩).get H2.next=some ⟨[iV 3,iV 0,iV 0,ag [],.slice none 0 0],99,false,false⟩:=by rw [aU,if_pos rfl]
     have T7:H2.next < (H2.push ⟨[iV 3,iV 0,iV 0,ag [],.slice none 0 0],99,false,false⟩).next:=Nat.lt_succ_self _
     have T8:(H2.push ⟨[iV 3,iV 0,iV 0,ag [],.slice none 0 0],99,false,false⟩).get rb=some ⟨[.slice (some ⟨bL,oL,none⟩) L.length cL,iV (st.at_:Nat),.slice none 0 0,.bool true,iV st.depth,iV st.bad,.slice a n c],125,false,false⟩:=by rw [bS h2.rl];exact hr
     have Fp:=iE vf ij T8
     have f3:=(uZ.ah (.inl (by simp:rb∈[rb])) ⟨[.slice (some ⟨bL,oL,none⟩) L.length cL,iV ((st.at_+1:Nat):Int),.slice none 0 0,.bool true,iV st.depth,iV st.bad,.slice a n c],125,false,false⟩)
     have g3:((H2.push ⟨[iV 3,iV 0,iV 0,ag [],.slice none 0 0],99,false,false⟩).ah rb ⟨[.slice (some ⟨bL,oL,none⟩) L.length cL,iV ((st.at_+1:Nat):Int),.slice none 0 0,.bool true,iV st.depth,iV st.bad,.slice a n c],125,false,false⟩).get H2.next=some ⟨[iV 3,iV 0,iV 0,ag [],.slice none 0 0],99,false,false⟩:=by rw [az,if_neg gq];exact T6
     have n3:H2.next < ((H2.push ⟨[iV 3,iV 0,iV 0,ag [],.slice none 0 0],99,false,false⟩).ah rb ⟨[.slice (some ⟨bL,oL,none⟩) L.length cL,iV ((st.at_+1:Nat):Int),.slice none 0 0,.bool true,iV st.depth,iV st.bad,.slice a n c],125,false,false⟩).next:=T7
     simp only [go_sem,u9,Lw,hq,hr,gq,N3,hz,cU,ef]
     generalize dI:((H2.push ⟨[iV 3,iV 0,iV 0,ag [],.slice none 0 0],99,false,false⟩).ah rb ⟨[.slice (some ⟨bL,oL,none⟩) L.length cL,iV ((st.at_+1:Nat):Int),.slice none 0 0,.bool true,iV st.depth,iV st.bad,.slice a n c],125,false,false⟩)=H3 at Fp f3 g3 n3
     refine af.by (iB hL Fp) ?_
     rintro _ H4 - p4
     have h4:=Fp.post p4
     have f4:=f3.then p4.1
     simp only [go_sem]
     refine af.by (NH hL h4 uP) ?_
     rintro vp H5 - ⟨⟨g,eF,im⟩,p5⟩
     have h5:=h4.post p5
     have f5:=f4.then p5.1
     have n4:=p4.1.nx
     have n5:=p5.1.nx
     have g5:H5.get H2.next=some ⟨[iV 3,iV 0,iV 0,ag [],.slice none 0 0],99,false,false⟩:=by
      rw [p5.1.get _ (by omega) (by simpa using gq),p4.1.get _ n3 (by simpa using gq)];exact g3
     obtain ⟨T9,kj,Ua⟩:=h2.toPP0.fresh (Nat.le_refl H2.next)
     obtain ⟨av,cv,yI⟩:=eF.val
     subst yI
     simp only [go_sem,g5,ef]
     have h6:PP L F (H5.ah H2.next ⟨[iV 3,iV 0,iV 0,ag [],.slice av pp.length cv],99,false,false⟩) q rb s5:={h5.toPP0.put _ T9 kj Ua with fz:=h5.fz}
     have f6:Fr [rb] Ha (H5.ah H2.next ⟨[iV 3,iV 0,iV 0,ag [],.slice av pp.length cv],99,false,false⟩):=f5.ah (.inr f2.nx) _
     have Ko:Sl fy (H5.ah H2.next ⟨[iV 3,iV 0,iV 0,ag [],.slice av pp.length cv],99,false,false⟩) (.slice av pp.length cv) pp g:=eF.ae fun b hb=>by rw [az,if_neg (by have:=(im b hb).1;omega)]
     have g6:(H5.ah H2.next ⟨[iV 3,iV 0,iV 0,ag [],.slice av pp.length cv],99,false,false⟩).get H2.next=some ⟨[iV 3,iV 0,iV 0,ag [],.slice av pp.length cv],99,false,false⟩:=by rw [az,if_pos rfl]
     have n6:(H5.ah H2.next ⟨[iV 3,iV 0,iV 0,ag [],.slice av pp.length cv],99,false,false⟩).next=H5.next:=rfl
     generalize (H5.ah H2.next ⟨[iV 3,iV 0,iV 0,ag [],.slice av pp.length cv],99,false,false⟩)=H6 at h6 f6 Ko g6 n6
     refine af.by (iB hL h6) ?_
     rintro _ H7 - p7
     have f7:=f6.then p7.1
     have n7:=p7.1.nx
     have g7:H7.get H2.next=some ⟨[iV 3,iV 0,iV 0,ag [],.slice av pp.length cv],99,false,false⟩:=by rw [p7.1.get _ (by omega) (by simpa using gq)];exact g6
     have Ub:=wO f7
     have bg:∀b∈g,b≠rb:=fun b hb e=>by have:=(im b hb).1;have:=h4.rl;omega
     simp only [go_sem,g7,Ub,vl]
     refine ⟨⟨_,g,by rw [if_neg u9],(Ko.ae fun b hb=>?_),fun b hb=>⟨?_,?_⟩⟩,fin f7 p7.2.2 _ rfl⟩
     ·have iD:=(im b hb).1
      have fe:=(im b hb).2
      have kr:=f2.nx
      show (H7.ah H.next _).get b=_
      rw [az,if_neg (by omega),p7.1.get b (by omega) (by simpa using bg b hb)]
     ·have iD:=(im b hb).1
      have kr:=f2.nx
      omega
     ·have fe:=(im b hb).2
      show b < H7.next
      omega
  ·rw [if_neg hs] at he
   cases he
   have Lv:¬dV L [33] st=true:=fun e=>hs (.inl e)
   have u9:¬dV L [63] st=true:=fun e=>hs (.inr e)
   simp only [go_sem,Lv,hq]
   refine af.by (mY h2) ?_
   rintro _ _ - ⟨rfl,rfl⟩
   simp only [go_sem,u9]
   refine af.by (kK h2) ?_
   rintro _ H4 - p4
   have wT:=wO (f2.then p4.1)
   simp only [go_sem,wT,vl,WG]
   exact ⟨fl,fin (f2.then p4.1) p4.2.2 _ rfl⟩
 ·rw [zu,if_neg hb] at he
  cases he
  simp only [go_sem,hb,gA,vl,WG]
  exact ⟨fl,fin (.refl _ _) rA.toPP0 _ rfl⟩
end
section
variable {L:List bh} {F:List Nat} {H H1 H2:ad} {q rb:Nat} {st cA bu:aG}
def Nk (L:List bh) (fuel:Nat) (st:aG):Option (List Ty × aG):=(mZ L 0 (zu L fuel) 7 (dA L [40] st) []).map fun x=>(x.1,dA L [41] x.2)
def GY (L:List bh) (fuel:Nat) (st:aG):Option (sJ × aG):=(zu L fuel (dA L [58] (cj L st).2)).map fun x=>(⟨(cj L st).1,x.1⟩,x.2)
def GQ (L:List bh) (fuel:Nat) (st:aG):Option (List sJ × aG):=(mZ L 1 (GY L fuel) 7 (dA L [40] st) []).map fun x=>(x.1,dA L [41] x.2)
theorem abH {s:bj} {h:KH}:fH Tryz.prog 101 [(0,ag s)] h=.ok (.agg #[ag s,iV 0,iV 0,iV 0,ag [],.slice none 0 0]) h:=by kernel_rfl
theorem ac9 (hL:LG L) (h:PP L F H q rb st) {fuel:Nat} {l':List Ty} {bO:aG} (he:Nk L fuel st=some (l',bO)):aj Tryz.prog 112 #[pV q] H (fun w H'=>(∃g,Sl wL H' w l' g/\gZ H H' g)/\fR L F H q rb bO H'):=by
 refine aj.told ?_
 refine ad6 (Nat.le_refl _) fun hf=>?_
 simp only [Tryz.f112,Option.getD_some]
 simp only [go_sem]
 refine af.by (iB hL h) ?_
 rintro _ H1 - p1
 have h1:=h.post p1
 rw [Nk] at he
 generalize dA L [40] st=s1 at p1 h1 he
 cases hR:mZ L 0 (zu L fuel) 7 s1 [] with
 | none=>rw [hR] at he;cases he
 | some R=>
 rw [hR] at he
 cases he
 have pG:=Jx hR (by simp)
 simp only [go_sem]
 refine lp 32712 (fun n V H2=>∃bu l v m g,V 3=v/\Gr wL 99 H2 v l m g/\gZ H H2 m/\gZ H H2 g/\Fr [rb] H H2/\PP L F H2 q rb bu/\l.length<=6/\mZ L 0 (zu L fuel) n bu l=some R) (n:=7)
  ⟨s1,[],.slice none 0 0,[],[],by simp only [go_sem] <;> rfl,Gr.nil _ _ _,by simp [gZ],by simp [gZ],p1.1,h1,by simp,hR⟩ ?_ (by rfl)
 rintro n V H2 ⟨bu,l,v,m,g,e3,cw,cJ,uj,kj,h2,oM,fo⟩
 cases n with
 | zero=>cases fo
 | succ n=>
  rw [mZ] at fo
  obtain ⟨a,hv⟩:=cw.val
  have vu:∀c∈m,c∉[rb]:=fun c hc=>by have:=(cJ c hc).1;have:=h.rl;simp;omega
  have R7:∀c∈g,c∉[rb]:=fun c hc=>by have:=(uj c hc).1;have:=h.rl;simp;omega
  have up:∀{H4 H5:ad},H2.next<=H4.next->Fr [rb] H4 H5->Gr wL 99 H4 v l m g->Gr wL 99 H5 v l m g:=fun n4 f hg=>hg.ae (fun b hb=>f.get b (Nat.lt_of_lt_of_le (cJ b hb).2 n4) (vu b hb)) (fun b hb=>f.get b (Nat.lt_of_lt_of_le (uj b hb).2 n4) (R7 b hb))
  simp only [go_sem,e3,hv]
  refine af.by (Nj hL h2) ?_
  rintro _ H3 - ⟨rfl,p3⟩
  have h3:=h2.post p3
  have kr:=p3.1.nx
  have ss:=up (Nat.le_refl _) p3.1 cw
  by_cases hm:(iZ L l.length 0 bu).1=true
  ·rw [if_pos hm] at fo
   have Bu:=GB hm
   generalize (iZ L l.length 0 bu).2=Ae at p3 h3 fo
   cases og:zu L fuel Ae with
   | none=>rw [og] at fo;cases fo
   | some x=>
   obtain ⟨x1,x2⟩:=x
   rw [og] at fo
   replace fo:mZ L 0 (zu L fuel) n x2 (l++[x1])=some R:=fo
   simp only [go_sem,hm]
   refine af.by (Zq hL h3 og) ?_
   rintro _ H4 - ⟨⟨vp,gx,rfl,Lx,dO⟩,p4⟩
   have h4:=h3.post p4
   have f4:=p4.1
   have nB:=p4.1.nx
   have nF2:=kj.nx
   have de:∀c∈gx,H.next<=c/\c < H4.next:=fun c hc=>by have:=dO c hc;omega
   have oD:=up kr p4.1 ss
   obtain ⟨ap,cp,yI⟩:=Lx.val
   subst yI
   simp only [go_sem,e3,eA QT (by decide) (by decide)]
   refine jT (r:=wL) (x:=x1) (g':=gx) QT (oD.ae (fun b hb=>bS (by have:=(cJ b hb).2;omega)) (fun b hb=>bS (by have:=(uj b hb).2;omega))) (fun c hc=>by have:=(cJ c hc).2;rw [bH];omega) (fun c hc=>by have:=(uj c hc).2;rw [bH];omega)
    (fun c hc=>⟨by have:=(dO c hc).2;rw [bH];omega,fun e=>by have:=(cJ c e).2;have:=(dO c hc).1;omega⟩) (fun c hc=>hf.fresh (cJ c hc).1) (by rw [aU,if_pos rfl]) ⟨_,rfl,Lx.ae fun b hb=>bS (dO b hb).2⟩ rfl (by omega) ?_
   intro v7 H7 bG dX je dr jH
   have nF:=kj.nx
   rw [bH] at dX
   have Fk:Fr [rb] H H7:=(((kj.then p3.1).then f4).push _).trans dr (fun c hc=>.inr (cJ c hc).1)
   have my:=h4.push ⟨[iV x1.kind,iV x1.cap,iV x1.rc,ag x1.name,.slice ap x1.pat.length cp],99,false,false⟩
   have TX:=h.rl
   have TY:=h.ql
   have Bv:∀c∈m,c∉F:=fun c hc e=>by have:=(h.hF c e).1;have:=(cJ c hc).1;omega
   have h7:PP L F H7 q rb x2:={my.toPP0.fr dr (fun e=>by have:=(cJ _ e).1;omega) (fun e=>by have:=(cJ _ e).1;omega) (fun c hc e=>Bv c e hc) with fz:=(by rw [jH,my.fz,Bool.or_false,beq_eq_false_iff_ne,bH];omega)}
   simp only [go_sem]
   refine ⟨n,by omega,x2,l++[x1],v7,_,_,rfl,bG,fun c hc=>?_,fun c hc=>?_,Fk,h7,by rw [List.length_append,List.length_singleton];omega,fo⟩
   ·rw [List.mem_singleton,bH] at hc
    omega
   ·rcases List.mem_append.1 hc with e | e
    ·have:=uj c e;omega
    ·have:=de c e;omega
  ·rw [if_neg hm] at fo
   cases fo
   simp only [go_sem,hm,e3,hv]
   refine af.by (iB hL h3) ?_
   rintro _ H4 - p4
   have nB:=p4.1.nx
   simp only [go_sem,e3,hv]
   refine ⟨⟨m++g,?_,fun c hc=>?_⟩,.last ((kj.then p3.1).then p4.1) p4.2.2⟩
   ·have:=(up kr p4.1 ss).sl
    rw [hv] at this
    exact this.ae fun _ _=>rfl
   ·show H.next<=c/\c < H4.next
    rcases List.mem_append.1 hc with e | e
    ·have:=cJ c e;omega
    ·have:=uj c e;omega
theorem Xi (hL:LG L) (h:PP L F H q rb st) {fuel:Nat} {l':List sJ} {bO:aG} (he:GQ L fuel st=some (l',bO)):aj Tryz.prog 114 #[pV q] H (fun w H'=>(∃g,Sl ls H' w l' g/\gZ H H' g)/\fR L F H q rb bO H'):=by
 refine aj.told ?_
 refine aea (Nat.le_refl _) fun hf=>?_
 simp only [Tryz.f114,Option.getD_some]
 simp only [go_sem]
 refine af.by (iB hL h) ?_
 rintro _ H1 - p1
 have h1:=h.post p1
 rw [GQ] at he
 generalize dA L [40] st=s1 at p1 h1 he
 cases hR:mZ L 1 (GY L fuel) 7 s1 [] with
 | none=>rw [hR] at he;cases he
 | some R=>
 rw [hR] at he
 cases he
 have pG:=Jx hR (by simp)
 simp only [go_sem]
 refine lp 8388504 (fun n V H2=>∃bu l v m g,V 3=v/\Gr ls 101 H2 v l m g/\gZ H H2 m/\gZ H H2 g/\Fr [rb] H H2/\PP L F H2 q rb bu/\l.length<=6/\mZ L 1 (GY L fuel) n bu l=some R) (n:=7)
  ⟨s1,[],.slice none 0 0,[],[],by simp only [go_sem] <;> rfl,Gr.nil _ _ _,by simp [gZ],by simp [gZ],p1.1,h1,by simp,hR⟩ ?_ (by rfl)
 rintro n V H2 ⟨bu,l,v,m,g,e3,cw,cJ,uj,kj,h2,oM,fo⟩
 cases n with
 | zero=>cases fo
 | succ n=>
  rw [mZ] at fo
  obtain ⟨a,hv⟩:=cw.val
  have vu:∀c∈m,c∉[rb]:=fun c hc=>by have:=(cJ c hc).1;have:=h.rl;simp;omega
  have R7:∀c∈g,c∉[rb]:=fun c hc=>by have:=(uj c hc).1;have:=h.rl;simp;omega
  have up:∀{H4 H5:ad},H2.next<=H4.next->Fr [rb] H4 H5->Gr ls 101 H4 v l m g->Gr ls 101 H5 v l m g:=fun n4 f hg=>hg.ae (fun b hb=>f.get b (Nat.lt_of_lt_of_le (cJ b hb).2 n4) (vu b hb)) (fun b hb=>f.get b (Nat.lt_of_lt_of_le (uj b hb).2 n4) (R7 b hb))
  simp only [go_sem,e3,hv]
  refine af.by (Nj hL h2) ?_
  rintro _ H3 - ⟨rfl,p3⟩
  have h3:=h2.post p3
  have kr:=p3.1.nx
  have ss:=up (Nat.le_refl _) p3.1 cw
  by_cases hm:(iZ L l.length 1 bu).1=true
  ·rw [if_pos hm] at fo
   have Bu:=GB hm
   generalize (iZ L l.length 1 bu).2=Ae at p3 h3 fo
   cases og:GY L fuel Ae with
   | none=>rw [og] at fo;cases fo
   | some x=>
   obtain ⟨x1,x2⟩:=x
   rw [og] at fo
   replace fo:mZ L 1 (GY L fuel) n x2 (l++[x1])=some R:=fo
   simp only [go_sem,hm]
   rw [GY] at og
   refine af.by (jc hL h3) ?_
   rintro _ Hn - ⟨rfl,pn⟩
   have hn:=h3.post pn
   generalize cj L Ae=nmx at pn hn og
   obtain ⟨qE,nm2⟩:=nmx
   have nn:=pn.1.nx
   have nF2:=kj.nx
   have Af:H.fz Hn.next=false:=hf.fresh (by omega)
   have ajC:=up kr pn.1 ss
   simp only [go_sem,abH,Af]
   have hp:=hn.push ⟨[ag qE,iV 0,iV 0,iV 0,ag [],.slice none 0 0],101,false,false⟩
   have fp:Fr [rb] H3 (Hn.push ⟨[ag qE,iV 0,iV 0,iV 0,ag [],.slice none 0 0],101,false,false⟩):=pn.1.push _
   have gp:(Hn.push ⟨[ag qE,iV 0,iV 0,iV 0,ag [],.slice none 0 0],101,false,false⟩).get Hn.next=some ⟨[ag qE,iV 0,iV 0,iV 0,ag [],.slice none 0 0],101,false,false⟩:=by rw [aU,if_pos rfl]
   have np:(Hn.push ⟨[ag qE,iV 0,iV 0,iV 0,ag [],.slice none 0 0],101,false,false⟩).next=Hn.next+1:=rfl
   have N4:=up (by omega) ((Fr.refl [rb] Hn).push ⟨[ag qE,iV 0,iV 0,iV 0,ag [],.slice none 0 0],101,false,false⟩) ajC
   obtain ⟨bq,br,bF⟩:=hn.toPP0.fresh (Nat.le_refl Hn.next)
   generalize (Hn.push ⟨[ag qE,iV 0,iV 0,iV 0,ag [],.slice none 0 0],101,false,false⟩)=Hp at hp fp gp np N4
   refine af.by (iB hL hp) ?_
   rintro _ Hc - pc
   have hc:=hp.post pc
   have fc:=fp.then pc.1
   have nc:=pc.1.nx
   have ajD:=up (by omega) pc.1 N4
   simp only [go_sem]
   cases yJ:zu L fuel (dA L [58] nm2) with
   | none=>rw [yJ] at og;cases og
   | some y=>
   obtain ⟨y1,y2⟩:=y
   rw [yJ] at og
   cases og
   refine af.by (Zq hL hc yJ) ?_
   rintro _ Hd - ⟨⟨vp,gx,rfl,Lx,dO⟩,pd⟩
   have hd:=hc.post pd
   have fd:=fc.then pd.1
   have nd:=pd.1.nx
   have ajE:=up (by omega) pd.1 ajD
   obtain ⟨ap,cp,yI⟩:=Lx.val
   subst yI
   have gd:Hd.get Hn.next=some ⟨[ag qE,iV 0,iV 0,iV 0,ag [],.slice none 0 0],101,false,false⟩:=by
    rw [pd.1.get _ (by omega) (by simpa using br),pc.1.get _ (by omega) (by simpa using br)];exact gp
   simp only [go_sem,gd,Af,e3,eA AT (by decide) (by decide)]
   have h4:PP L F (Hd.ah Hn.next ⟨[ag qE,iV y1.kind,iV y1.cap,iV y1.rc,ag y1.name,.slice ap y1.pat.length cp],101,false,false⟩) q rb y2:={hd.toPP0.put _ bq br bF with fz:=hd.fz}
   have f4:Fr [rb] H3 (Hd.ah Hn.next ⟨[ag qE,iV y1.kind,iV y1.cap,iV y1.rc,ag y1.name,.slice ap y1.pat.length cp],101,false,false⟩):=fd.ah (.inr nn) _
   have oD:Gr ls 101 (Hd.ah Hn.next ⟨[ag qE,iV y1.kind,iV y1.cap,iV y1.rc,ag y1.name,.slice ap y1.pat.length cp],101,false,false⟩) v l m g:=ajE.ae (fun b hb=>by rw [az,if_neg (by have:=(cJ b hb).2;omega)]) (fun b hb=>by rw [az,if_neg (by have:=(uj b hb).2;omega)])
   have Zr:Sl fy (Hd.ah Hn.next ⟨[ag qE,iV y1.kind,iV y1.cap,iV y1.rc,ag y1.name,.slice ap y1.pat.length cp],101,false,false⟩) (.slice ap y1.pat.length cp) y1.pat gx:=Lx.ae fun b hb=>by rw [az,if_neg (by have:=(dO b hb).1;omega)]
   have n4:(Hd.ah Hn.next ⟨[ag qE,iV y1.kind,iV y1.cap,iV y1.rc,ag y1.name,.slice ap y1.pat.length cp],101,false,false⟩).next=Hd.next:=rfl
   generalize (Hd.ah Hn.next ⟨[ag qE,iV y1.kind,iV y1.cap,iV y1.rc,ag y1.name,.slice ap y1.pat.length cp],101,false,false⟩)=H4 at h4 f4 oD Zr n4
   have de:∀c∈gx,H.next<=c/\c < H4.next:=fun c hc=>by have:=dO c hc;omega
   refine jT (r:=ls) (x:=⟨qE,y1⟩) (g':=gx) AT (oD.ae (fun b hb=>bS (by have:=(cJ b hb).2;omega)) (fun b hb=>bS (by have:=(uj b hb).2;omega))) (fun c hc=>by have:=(cJ c hc).2;rw [bH];omega) (fun c hc=>by have:=(uj c hc).2;rw [bH];omega)
    (fun c hc=>⟨by have:=(dO c hc).2;rw [bH];omega,fun e=>by have:=(cJ c e).2;have:=(dO c hc).1;omega⟩) (fun c hc=>hf.fresh (cJ c hc).1) (by rw [aU,if_pos n4.symm]) ⟨_,rfl,Zr.ae fun b hb=>bS (by have:=(dO b hb).2;omega)⟩ rfl (by omega) ?_
   intro v7 H7 bG dX je dr jH
   have nF:=kj.nx
   rw [bH] at dX
   have Fk:Fr [rb] H H7:=(((kj.then p3.1).then f4).push _).trans dr (fun c hc=>.inr (cJ c hc).1)
   have my:=h4.push ⟨[ag qE,iV y1.kind,iV y1.cap,iV y1.rc,ag y1.name,.slice ap y1.pat.length cp],101,false,false⟩
   have TX:=h.rl
   have TY:=h.ql
   have Bv:∀c∈m,c∉F:=fun c hc e=>by have:=(h.hF c e).1;have:=(cJ c hc).1;omega
   have h7:PP L F H7 q rb y2:={my.toPP0.fr dr (fun e=>by have:=(cJ _ e).1;omega) (fun e=>by have:=(cJ _ e).1;omega) (fun c hc e=>Bv c e hc) with fz:=(by rw [jH,my.fz,Bool.or_false,beq_eq_false_iff_ne,bH];omega)}
   simp only [go_sem]
   refine ⟨n,by omega,y2,l++[⟨qE,y1⟩],v7,_,_,rfl,bG,fun c hc=>?_,fun c hc=>?_,Fk,h7,by rw [List.length_append,List.length_singleton];omega,fo⟩
   ·rw [List.mem_singleton,bH] at hc
    omega
   ·rcases List.mem_append.1 hc with e | e
    ·have:=uj c e;omega
    ·have:=de c e;omega
  ·rw [if_neg hm] at fo
   cases fo
   simp only [go_sem,hm,e3,hv]
   refine af.by (iB hL h3) ?_
   rintro _ H4 - p4
   have nB:=p4.1.nx
   simp only [go_sem,e3,hv]
   refine ⟨⟨m++g,?_,fun c hc=>?_⟩,.last ((kj.then p3.1).then p4.1) p4.2.2⟩
   ·have:=(up kr p4.1 ss).sl
    rw [hv] at this
    exact this.ae fun _ _=>rfl
   ·show H.next<=c/\c < H4.next
    rcases List.mem_append.1 hc with e | e
    ·have:=cJ c e;omega
    ·have:=uj c e;omega
end
abbrev aJ (n:aH) (vA vP vB:Value):List Value:=[iV n.kind,iV n.x,iV n.y,iV n.f,iV n.n,iV n.cap,iV n.rc,iV n.op,iV n.a,iV n.b,iV n.next,iV n.line,iV n.au,ag n.mf,ag n.gf,ag n.gV,ag n.jq,vA,vP,vB]
structure LN0 (L:List bh) (F:List Nat) (H:ad) (q rb:Nat) (st:aG) (nb:Nat) (n:aH) (g:List Nat):Prop where
 pp:PP0 L F H q rb st
 nd:∃vA vP vB gA gP gB,H.get nb=some ⟨aJ n vA vP vB,42,false,false⟩/\Sl jG H vA n.args gA/\Sl fy H vP n.pat gP/\Sl dB H vB n.ak gB/\g=gA++(gP++gB)
 nl:nb < H.next
 nr:nb≠rb
 nq:nb≠q
 nF:nb∉F
 hg:∀c∈g,c < H.next/\c≠rb/\c≠nb/\c≠q
structure LN (L:List bh) (F:List Nat) (H:ad) (q rb:Nat) (st:aG) (nb:Nat) (n:aH) (g:List Nat):Prop extends LN0 L F H q rb st nb n g where
 fz:H.fz rb=false
 fb:H.fz nb=false
 fn:∀b,H.next<=b->H.fz b=false
def GZ (L:List bh) (F:List Nat) (H:ad) (q rb nb:Nat) (g:List Nat) (bO:aG) (n':aH) (H':ad):Prop:=
 Fr [rb,nb] H H'/\(∀c,H'.fz c=H.fz c)/\∃g',LN0 L F H' q rb bO nb n' g'/\∀c∈g',c∈g∨H.next<=c
structure LR (L:List bh) (F:List Nat) (H:ad) (q rb nb:Nat) (g:List Nat) (H1:ad) (cA:aG) (n1:aH) (g1:List Nat):Prop where
 fr:Fr [rb,nb] H H1
 ln:LN L F H1 q rb cA nb n1 g1
 sub:∀c∈g1,c∈g∨H.next<=c
section
variable {L:List bh} {F:List Nat} {H H1 H2:ad} {q rb nb:Nat} {st cA bu:aG} {n n1 n2:aH} {g g1 g2:List Nat}
theorem LN.bJ (h:LN L F H q rb st nb n g):PP L F H q rb st:={h.pp with fz:=h.fz}
theorem LR.start (h:LN L F H q rb st nb n g):LR L F H q rb nb g H st n g:=⟨.refl _ _,h,fun _ h=>.inl h⟩
theorem LN0.fr (h:LN0 L F H q rb st nb n g) {bO:aG} {M:List Nat} (bg:Fr M H H1) (hp:PP0 L F H1 q rb bO) (mn:nb∉M) (mg:∀c∈g,c∉M):LN0 L F H1 q rb bO nb n g:=by
 obtain ⟨_,⟨vA,vP,vB,gA,gP,gB,h1,h2,h3,h4,rfl⟩,nl,nr,nq,nF,hg⟩:=h
 have k:∀c∈gA++(gP++gB),H1.get c=H.get c:=fun c hc=>bg.get c (hg c hc).1 (mg c hc)
 exact ⟨hp,⟨vA,vP,vB,gA,gP,gB,(bg.get nb nl mn).trans h1,h2.ae fun c hc=>k c (by simp [hc]),h3.ae fun c hc=>k c (by simp [hc]),h4.ae fun c hc=>k c (by simp [hc]),rfl⟩,Nat.lt_of_lt_of_le nl bg.nx,nr,nq,nF,fun c hc=>⟨Nat.lt_of_lt_of_le (hg c hc).1 bg.nx,(hg c hc).2⟩⟩
theorem LR.aY (h:LR L F H q rb nb g H1 cA n1 g1) {bO:aG} (hp:fR L F H1 q rb bO H2):LR L F H q rb nb g H2 bO n1 g1:=
 ⟨h.fr.then (hp.1.sub fun c hc=>.inl (by rw [List.mem_singleton] at hc;simp [hc])),{h.ln.toLN0.fr hp.1 hp.2.2 (by simpa using h.ln.nr) (fun c hc=>by simpa using (h.ln.hg c hc).2.1) with fz:=by rw [hp.2.1];exact h.ln.fz,fb:=by rw [hp.2.1];exact h.ln.fb,fn:=fun b hb=>by rw [hp.2.1];exact h.ln.fn b (Nat.le_trans hp.1.nx hb)},h.sub⟩
theorem LR.push (h:LR L F H q rb nb g H1 cA n1 g1) (B:ct) (hB:B.ro=false:=by rfl):LR L F H q rb nb g (H1.push B) cA n1 g1:=
 ⟨h.fr.push B hB,{h.ln.toLN0.fr ((bc.push H1 B hB).fr []) (h.ln.pp.aE (bc.push H1 B hB)) (by simp) (by simp) with fz:=(h.ln.bJ.push B hB).fz,fb:=(by have:=h.ln.nl;rw [qf,h.ln.fb,Bool.or_false,beq_eq_false_iff_ne];omega),fn:=fun b hb=>(by rw [bH] at hb;rw [qf,h.ln.fn b (by omega),Bool.or_false,beq_eq_false_iff_ne];omega)},h.sub⟩
theorem LR.set (h:LR L F H q rb nb g H1 cA n1 g1) {vL v1 v4 v5 vP:Value} (hr:H1.get rb=some ⟨[vL,v1,.slice none 0 0,.bool true,v4,v5,vP],125,false,false⟩) (bO:aG) (ha:bO.at_ < L.length):
  LR L F H q rb nb g (H1.ah rb ⟨[vL,iV (bO.at_:Nat),.slice none 0 0,.bool true,iV bO.depth,iV bO.bad,vP],125,false,false⟩) bO n1 g1:=
 h.aY ⟨(Fr.refl _ _).ah (.inl (by simp)) _,fun _=>rfl,h.ln.pp.set hr bO ha⟩
theorem LR.node (h:LR L F H q rb nb g H1 cA n1 g1) {n':aH} {vA vP vB:Value} {gA gP gB:List Nat} (h2:Sl jG H1 vA n'.args gA) (h3:Sl fy H1 vP n'.pat gP) (h4:Sl dB H1 vB n'.ak gB) (hg:∀c∈gA++(gP++gB),c∈g1∨H.next<=c/\c < H1.next/\c≠rb/\c≠nb/\c≠q):
  LR L F H q rb nb g (H1.ah nb ⟨aJ n' vA vP vB,42,false,false⟩) cA n' (gA++(gP++gB)):=by
 have hl:=h.ln
 have eW:∀c∈gA++(gP++gB),c < H1.next/\c≠rb/\c≠nb/\c≠q:=fun c hc=>(hg c hc).elim (hl.hg c) fun e=>e.2
 have k:∀c∈gA++(gP++gB),(H1.ah nb ⟨aJ n' vA vP vB,42,false,false⟩).get c=H1.get c:=fun c hc=>by rw [az,if_neg (eW c hc).2.2.1]
 refine ⟨h.fr.ah (.inl (by simp)) _,⟨⟨hl.pp.put _ hl.nq hl.nr hl.nF,⟨vA,vP,vB,gA,gP,gB,by rw [az,if_pos rfl],h2.ae fun c hc=>k c (by simp [hc]),h3.ae fun c hc=>k c (by simp [hc]),h4.ae fun c hc=>k c (by simp [hc]),rfl⟩,hl.nl,hl.nr,hl.nq,hl.nF,eW⟩,hl.fz,hl.fb,hl.fn⟩,fun c hc=>?_⟩
 rcases hg c hc with e | e
 ·exact h.sub c e
 ·exact .inr e.1
theorem LR.last (h:LR L F H q rb nb g H1 cA n1 g1):GZ L F H q rb nb g cA n1 (H1.ai H.fz):=⟨h.fr.ai _,fun _=>rfl,g1,h.ln.toLN0.fr ((Fr.refl [] H1).ai _) h.ln.pp.ai (by simp) (by simp),h.sub⟩
theorem LR.gh (h:LR L F H q rb nb g H1 cA n1 g1) {vA vP vB:Value} (cK:H1.get nb=some ⟨aJ n1 vA vP vB,42,false,false⟩) (n':aH) (ha:n'.args=n1.args) (hp:n'.pat=n1.pat) (hb:n'.ak=n1.ak):LR L F H q rb nb g (H1.ah nb ⟨aJ n' vA vP vB,42,false,false⟩) cA n' g1:=by
 obtain ⟨Fq,oN,Dg,gA,gP,gB,h1,h2,h3,h4,rfl⟩:=h.ln.nd
 rw [cK] at h1
 cases h1
 exact h.node (ha▸h2) (hp▸h3) (hb▸h4) fun c hc=>.inl hc
theorem LR.args (h:LR L F H q rb nb g H1 cA n1 g1) {vA vP vB v:Value} (cK:H1.get nb=some ⟨aJ n1 vA vP vB,42,false,false⟩) (n':aH) {f:List Nat} (hs:Sl jG H1 v n'.args f) (hf:∀c∈f,H.next<=c/\c < H1.next/\c≠rb/\c≠nb/\c≠q) (hp:n'.pat=n1.pat) (hb:n'.ak=n1.ak):∃g',LR L F H q rb nb g (H1.ah nb ⟨aJ n' v vP vB,42,false,false⟩) cA n' g':=by
 obtain ⟨Fq,oN,Dg,gA,gP,gB,h1,h2,h3,h4,rfl⟩:=h.ln.nd
 rw [cK] at h1
 cases h1
 refine ⟨_,h.node hs (hp▸h3) (hb▸h4) fun c hc=>?_⟩
 rcases List.mem_append.1 hc with e | e
 ·exact .inr (hf c e)
 ·exact .inl (List.mem_append_right _ e)
theorem LR.nd (h:LR L F H q rb nb g H1 cA n1 g1):∃vA vP vB,H1.get nb=some ⟨aJ n1 vA vP vB,42,false,false⟩:=by
 obtain ⟨Fq,oN,Dg,gA,gP,gB,h1,_⟩:=h.ln.nd
 exact ⟨_,_,_,h1⟩
theorem LN.new (h:LN L F H q rb st nb n g) {c:Nat} (hc:H.next<=c):c≠rb/\c≠nb/\c≠q:=⟨by have:=h.pp.rl;omega,by have:=h.nl;omega,by have:=h.pp.ql;omega⟩
theorem JG {x:so} {ty:TypeId}:Sl jG (H.push ⟨[iV x.kind,iV x.n,ag x.name],ty,false,false⟩) (.slice (some ⟨H.next,0,none⟩) 1 1) [x] [H.next]:=
 .inr (.inr ⟨H.next,0,1,_,[],rfl,by simp,Nat.le_refl _,rfl,by rw [aU,if_pos rfl],⟨_,[],[],[],by simp,rfl,⟨rfl,rfl⟩,rfl⟩⟩)
abbrev tV:bj:=[97,114,114]
def zr (L:List bh) (st:aG) (n:aH):aG × aH:=
 if c9 st=true/\dV L [91] st=true then (dA L [93] (hV L (aC st)).2,{n with rc:= -1,jq:=tV,args:=[(hV L (aC st)).1]})
 else ((cj L (dA L [46] (cj L st).2)).2,{n with jq:=(cj L st).1,gV:=(cj L (dA L [46] (cj L st).2)).1})
def HV (H:ad) (rb nb:Nat) (n:aH):Prop:=(∃vP vB,H.get nb=some ⟨aJ n (.slice none 0 0) vP vB,42,false,false⟩/\n.args=[])∨∃b a vP vB,H.get nb=some ⟨aJ n (.slice (some ⟨b,0,none⟩) 1 1) vP vB,42,false,false⟩/\n.args=[a]/\H.get b=some ⟨[iV a.kind,iV a.n,ag a.name],44,false,false⟩/\b < H.next/\b≠nb/\b≠rb
theorem Xj (hL:LG L) (h:LN L F H q rb st nb n g):aj Tryz.prog 174 #[pV q,pV nb] H (fun w H'=>GZ L F H q rb nb g (zr L st n).1 (zr L st n).2 H'/\∀vP vB,H.get nb=some ⟨aJ n (.slice none 0 0) vP vB,42,false,false⟩->n.args=[]->HV H' rb nb (zr L st n).2):=by
 refine aj.told ?_
 refine afL (Nat.le_refl _) fun hf=>?_
 simp only [Tryz.f174,Option.getD_some]
 simp only [go_sem]
 have hz:=h.fz
 have cO:=h.fb
 have jt:=hL.len
 have dW:=h.pp.at_
 have cU:IntKind.wrap .i64 (((st.at_:Nat):Int)+1)=((st.at_+1:Nat):Int):=cW dW (by omega)
 have r0:=LR.start h
 have gj:=h.nr
 have dL:¬rb=nb:=fun e=>gj e.symm
 have sO:¬q=nb:=fun e=>h.nq e.symm
 obtain ⟨c1,c2,c3,c4,bL,oL,cL,BL,a,m,c,hq,hr,hB,hl,iC,h0,h4,dk,b7,er⟩:=h.pp.fh
 refine af.by (eJ h.bJ) ?_
 rintro _ _ - ⟨rfl,rfl⟩
 by_cases hc:c9 st=true/\dV L [91] st=true
 ·obtain ⟨hb,hs⟩:=hc
  simp only [go_sem,hb,hq]
  refine af.by (mY h.bJ) ?_
  rintro _ _ - ⟨rfl,rfl⟩
  rw [zr,if_pos ⟨hb,hs⟩]
  obtain ⟨vA,vP,vB,cK⟩:=r0.nd
  have r1:=r0.set hr (aC st) (mX hL dW (wh hs))
  have x0:(H.ah rb ⟨[.slice (some ⟨bL,oL,none⟩) L.length cL,iV (((aC st).at_:Nat):Int),.slice none 0 0,.bool true,iV (aC st).depth,iV (aC st).bad,.slice a m c],125,false,false⟩).get nb=some ⟨aJ n vA vP vB,42,false,false⟩:=by rw [az,if_neg gj];exact cK
  have r2:=r1.gh x0 {n with rc:= -1,jq:=tV} rfl rfl rfl
  have yD:=h.pp.qr
  simp only [go_sem,hs,hq,hr,hz,cU,yD,gj,dL,sO,cK,cO]
  rw [q8]
  obtain ⟨Iz,wV,wW,EE⟩:=r2.nd
  generalize vx:((H.ah rb ⟨[.slice (some ⟨bL,oL,none⟩) L.length cL,iV (((aC st).at_:Nat):Int),.slice none 0 0,.bool true,iV (aC st).depth,iV (aC st).bad,.slice a m c],125,false,false⟩).ah nb ⟨aJ {n with rc:= -1,jq:=tV} vA vP vB,42,false,false⟩)=H2 at r2 EE
  have ajF:((H.ah rb ⟨[.slice (some ⟨bL,oL,none⟩) L.length cL,.int .i64 ((st.at_+1:Nat):Int),.slice none 0 0,.bool true,iV st.depth,iV st.bad,.slice a m c],125,false,false⟩).ah nb ⟨[iV n.kind,iV n.x,iV n.y,iV n.f,iV n.n,iV n.cap,.int .i64 (-1),iV n.op,iV n.a,iV n.b,iV n.next,iV n.line,iV n.au,ag n.mf,ag n.gf,ag n.gV,ag tV,vA,vP,vB],42,false,false⟩)=H2:=vx
  try rw [ajF]
  refine af.by (CB hL r2.ln.bJ) ?_
  rintro _ H3 - ⟨rfl,p3⟩
  have r3:=r2.aY p3
  obtain ⟨vA3,Ls,Uc,A4⟩:=r3.nd
  generalize hx:hV L (aC st)=x at p3 r3
  have auW:H.fz nb=false:=cO
  have nn:¬nb=H3.next:=by have:=r3.ln.nl;omega
  simp only [go_sem,A4,cO,nn,eA qn (by decide) (by decide)]
  have r4:=r3.push ⟨[iV x.1.kind,iV x.1.n,ag x.1.name],44,false,false⟩
  have tW:(H3.push ⟨[iV x.1.kind,iV x.1.n,ag x.1.name],44,false,false⟩).get nb=some ⟨aJ {n with rc:= -1,jq:=tV} vA3 Ls Uc,42,false,false⟩:=by rw [bS r3.ln.nl];exact A4
  have n03:=r3.fr.nx
  obtain ⟨e1,e2,e3⟩:=r3.ln.new (Nat.le_refl _)
  obtain ⟨g5,r5⟩:=r4.args tW {n with rc:= -1,jq:=tV,args:=[x.1]} JG (fun c hc=>by rw [List.mem_singleton] at hc;subst hc;rw [bH];exact ⟨n03,by omega,e1,e2,e3⟩) rfl rfl
  refine af.by (iB hL r5.ln.bJ) ?_
  rintro _ H6 - p6
  have r6:=r5.aY p6
  simp only [go_sem]
  refine ⟨r6.last,fun _ _ _ _=>.inr ⟨H3.next,x.1,Ls,Uc,?_,rfl,?_,?_,e2,e1⟩⟩
  ·exact (p6.1.get nb (by rw [om,bH];have:=r3.ln.nl;omega) (by simpa using gj)).trans (by rw [az,if_pos rfl])
  ·exact (p6.1.get H3.next (by rw [om,bH];omega) (by simpa using e1)).trans (by rw [az,if_neg e2,aU,if_pos rfl])
  ·have:=p6.1.nx
   rw [om,bH] at this
   exact this
 ·rw [zr,if_neg hc]
  by_cases hb:c9 st=true
  ·have hs:¬dV L [91] st=true:=fun e=>hc ⟨hb,e⟩
   simp only [go_sem,hb,hq]
   refine af.by (mY h.bJ) ?_
   rintro _ _ - ⟨rfl,rfl⟩
   simp only [go_sem,hs]
   refine af.by (jc hL h.bJ) ?_
   rintro _ H1 - ⟨rfl,p1⟩
   have r1:=r0.aY p1
   obtain ⟨vA1,vP1,vB1,x0⟩:=r1.nd
   have r2:=r1.gh x0 {n with jq:=(cj L st).1} rfl rfl rfl
   simp only [go_sem,x0,cO]
   refine af.by (iB hL r2.ln.bJ) ?_
   rintro _ H3 - p3
   have r3:=r2.aY p3
   simp only [go_sem]
   refine af.by (jc hL r3.ln.bJ) ?_
   rintro _ H4 - ⟨rfl,p4⟩
   have r4:=r3.aY p4
   obtain ⟨OY,Fm,IA,tW⟩:=r4.nd
   have r5:=r4.gh tW {n with jq:=(cj L st).1,gV:=(cj L (dA L [46] (cj L st).2)).1} rfl rfl rfl
   simp only [go_sem,tW,cO]
   refine ⟨r5.last,fun vP0 vB0 rn rA=>.inl ⟨Fm,IA,?_,rA⟩⟩
   have k1:=(p1.1.get nb h.nl (by simpa using gj)).trans rn
   rw [x0] at k1
   cases k1
   have k3:=(p3.1.get nb r1.ln.nl (by simpa using gj)).trans (by rw [az,if_pos rfl])
   have k4:=(p4.1.get nb r3.ln.nl (by simpa using gj)).trans k3
   rw [tW] at k4
   cases k4
   show (ad.ah _ _ _).get nb=_
   rw [az,if_pos rfl]
  simp only [go_sem,hb]
  refine af.by (jc hL h.bJ) ?_
  rintro _ H1 - ⟨rfl,p1⟩
  have r1:=r0.aY p1
  obtain ⟨vA1,vP1,vB1,x0⟩:=r1.nd
  have r2:=r1.gh x0 {n with jq:=(cj L st).1} rfl rfl rfl
  simp only [go_sem,x0,cO]
  refine af.by (iB hL r2.ln.bJ) ?_
  rintro _ H3 - p3
  have r3:=r2.aY p3
  simp only [go_sem]
  refine af.by (jc hL r3.ln.bJ) ?_
  rintro _ H4 - ⟨rfl,p4⟩
  have r4:=r3.aY p4
  obtain ⟨OY,Fm,IA,tW⟩:=r4.nd
  have r5:=r4.gh tW {n with jq:=(cj L st).1,gV:=(cj L (dA L [46] (cj L st).2)).1} rfl rfl rfl
  simp only [go_sem,tW,cO]
  refine ⟨r5.last,fun vP0 vB0 rn rA=>.inl ⟨Fm,IA,?_,rA⟩⟩
  have k1:=(p1.1.get nb h.nl (by simpa using gj)).trans rn
  rw [x0] at k1
  cases k1
  have k3:=(p3.1.get nb r1.ln.nl (by simpa using gj)).trans (by rw [az,if_pos rfl])
  have k4:=(p4.1.get nb r3.ln.nl (by simpa using gj)).trans k3
  rw [tW] at k4
  cases k4
  show (ad.ah _ _ _).get nb=_
  rw [az,if_pos rfl]
theorem acp (hL:LG L) (h:LN L F H q rb st nb n g):aj Tryz.prog 174 #[pV q,pV nb] H (fun w H'=>GZ L F H q rb nb g (zr L st n).1 (zr L st n).2 H'):=(Xj hL h).mono fun _ _ _ h=>h.1
def HC (L:List bh) (st:aG) (n:aH) (c:Int):aG × aH:=
 if cQ L tV st=true then (dA L [41] (hV L (dA L [40] (aC st))).2,{n with kind:=4,cap:=c,rc:= -1,jq:=tV,args:=[(hV L (dA L [40] (aC st))).1]})
 else ((qo L (cj L st).2).2,{n with kind:=4,cap:=c,jq:=(cj L st).1,args:=(qo L (cj L st).2).1})
theorem af8 (hL:LG L) (h:LN L F H q rb st nb n g) {c:Int}:aj Tryz.prog 178 #[pV q,pV nb,iV c] H (fun w H'=>GZ L F H q rb nb g (HC L st n c).1 (HC L st n c).2 H'):=by
 refine aj.told ?_
 refine afT (Nat.le_refl _) fun hf=>?_
 simp only [Tryz.f178,Option.getD_some]
 have hz:=h.fz
 have cO:=h.fb
 have jt:=hL.len
 have dW:=h.pp.at_
 have cU:IntKind.wrap .i64 (((st.at_:Nat):Int)+1)=((st.at_+1:Nat):Int):=cW dW (by omega)
 have r0:=LR.start h
 have gj:=h.nr
 have dL:¬rb=nb:=fun e=>gj e.symm
 have sO:¬q=nb:=fun e=>h.nq e.symm
 obtain ⟨vA,vP,vB,cK⟩:=r0.nd
 have r1:=r0.gh cK {n with kind:=4,cap:=c} rfl rfl rfl
 simp only [go_sem,cK,cO]
 rw [q8]
 obtain ⟨vA1,vP1,vB1,x0⟩:=r1.nd
 generalize cF:(H.ah nb ⟨aJ {n with kind:=4,cap:=c} vA vP vB,42,false,false⟩)=H1 at r1 x0
 have ajG:(H.ah nb ⟨[.int .i64 4,iV n.x,iV n.y,iV n.f,iV n.n,iV c,iV n.rc,iV n.op,iV n.a,iV n.b,iV n.next,iV n.line,iV n.au,ag n.mf,ag n.gf,ag n.gV,ag n.jq,vA,vP,vB],42,false,false⟩)=H1:=cF
 try rw [ajG]
 refine af.by (fJ r1.ln.bJ) ?_
 rintro _ H2 - ⟨rfl,p2⟩
 have r2:=r1.aY p2
 by_cases hw:cQ L tV st=true
 ·rw [HC,if_pos hw]
  obtain ⟨c1,c2,c3,c4,bL,oL,cL,BL,a,m,cc,hq,hr,hB,hl,iC,h0,h4,dk,b7,er⟩:=r2.ln.pp.fh
  obtain ⟨Iz,wV,wW,EE⟩:=r2.nd
  have r3:=r2.set hr (aC st) (mX hL dW (jd hw))
  have A4:(H2.ah rb ⟨[.slice (some ⟨bL,oL,none⟩) L.length cL,iV (((aC st).at_:Nat):Int),.slice none 0 0,.bool true,iV (aC st).depth,iV (aC st).bad,.slice a m cc],125,false,false⟩).get nb=some ⟨aJ {n with kind:=4,cap:=c} Iz wV wW,42,false,false⟩:=by rw [az,if_neg gj];exact EE
  have r4:=r3.gh A4 {n with kind:=4,cap:=c,rc:= -1,jq:=tV} rfl rfl rfl
  simp only [go_sem,hw,hq,hr,hz,cU,gj,dL,sO,EE,cO]
  rw [q8]
  obtain ⟨OY,Fm,IA,tW⟩:=r4.nd
  generalize dx:((H2.ah rb ⟨[.slice (some ⟨bL,oL,none⟩) L.length cL,iV (((aC st).at_:Nat):Int),.slice none 0 0,.bool true,iV (aC st).depth,iV (aC st).bad,.slice a m cc],125,false,false⟩).ah nb ⟨aJ {n with kind:=4,cap:=c,rc:= -1,jq:=tV} Iz wV wW,42,false,false⟩)=H4 at r4 tW
  have RY:((H2.ah rb ⟨[.slice (some ⟨bL,oL,none⟩) L.length cL,.int .i64 ((st.at_+1:Nat):Int),.slice none 0 0,.bool true,iV st.depth,iV st.bad,.slice a m cc],125,false,false⟩).ah nb ⟨[iV 4,iV n.x,iV n.y,iV n.f,iV n.n,iV c,.int .i64 (-1),iV n.op,iV n.a,iV n.b,iV n.next,iV n.line,iV n.au,ag n.mf,ag n.gf,ag n.gV,ag tV,Iz,wV,wW],42,false,false⟩)=H4:=dx
  try rw [RY]
  refine af.by (iB hL r4.ln.bJ) ?_
  rintro _ H5 - p5
  have r5:=r4.aY p5
  simp only [go_sem]
  refine af.by (CB hL r5.ln.bJ) ?_
  rintro _ H6 - ⟨rfl,p6⟩
  have r6:=r5.aY p6
  obtain ⟨Fs,qF,qG,kZ⟩:=r6.nd
  generalize hV L (dA L [40] (aC st))=x at p6 r6
  have nn:¬nb=H6.next:=by have:=r6.ln.nl;omega
  simp only [go_sem,kZ,cO,nn,eA qn (by decide) (by decide)]
  have r7:=r6.push ⟨[iV x.1.kind,iV x.1.n,ag x.1.name],44,false,false⟩
  have x4:(H6.push ⟨[iV x.1.kind,iV x.1.n,ag x.1.name],44,false,false⟩).get nb=some ⟨aJ {n with kind:=4,cap:=c,rc:= -1,jq:=tV} Fs qF qG,42,false,false⟩:=by rw [bS r6.ln.nl];exact kZ
  have n06:=r6.fr.nx
  obtain ⟨e1,e2,e3⟩:=r6.ln.new (Nat.le_refl _)
  obtain ⟨g8,r8⟩:=r7.args x4 {n with kind:=4,cap:=c,rc:= -1,jq:=tV,args:=[x.1]} JG (fun c hc=>by rw [List.mem_singleton] at hc;subst hc;rw [bH];exact ⟨n06,by omega,e1,e2,e3⟩) rfl rfl
  refine af.by (iB hL r8.ln.bJ) ?_
  rintro _ H9 - p9
  have r9:=r8.aY p9
  simp only [go_sem]
  exact r9.last
 ·rw [HC,if_neg hw]
  simp only [go_sem,hw]
  refine af.by (jc hL r2.ln.bJ) ?_
  rintro _ H3 - ⟨rfl,p3⟩
  have r3:=r2.aY p3
  obtain ⟨vA3,Ls,Uc,A4⟩:=r3.nd
  generalize cj L st=y at p3 r3
  have r4:=r3.gh A4 {n with kind:=4,cap:=c,jq:=y.1} rfl rfl rfl
  simp only [go_sem,A4,cO]
  refine af.by (GX hL r4.ln.bJ) ?_
  rintro va H5 - ⟨⟨ga,hW,jK⟩,p5⟩
  have r5:=r4.aY p5
  obtain ⟨Ud,vP5,Ue,N5⟩:=r5.nd
  generalize qo L y.2=z at p5 r5 hW
  obtain ⟨aa,ca,yK⟩:=hW.val
  subst yK
  simp only [go_sem,N5,cO]
  have n04:=r4.fr.nx
  obtain ⟨g6,r6⟩:=r5.args N5 {n with kind:=4,cap:=c,jq:=y.1,args:=z.1} hW (fun b hb=>by
   have dT:=jK b hb
   obtain ⟨e1,e2,e3⟩:=r4.ln.new dT.1
   exact ⟨Nat.le_trans n04 dT.1,dT.2,e1,e2,e3⟩) rfl rfl
  exact r6.last
end
def lv:List bj:=[[43],[45],[42],[60],[61]]
def AV (L:List bh):Int->List bj->aG->aH->aG × aH
 | _,[],st,n=>(st,n)
 | i,s::l,st,n=>if c9 st=true/\n.op=0/\dV L s st=true then AV L (i+1) l (hV L (aC st)).2 {n with op:=i,args:=n.args++[(hV L (aC st)).1]} else AV L (i+1) l st n
def J2 (L:List bh) (st:aG) (n:aH):aG × aH:=AV L 1 lv (hV L st).2 {n with kind:=3,args:=[(hV L st).1]}
section
variable {L:List bh} {F:List Nat} {H H1 H2:ad} {q rb nb:Nat} {st cA bu:aG} {n n1 n2:aH} {g g1 g2:List Nat}
theorem X6 (hL:LG L) (h:LN L F H q rb st nb n g) (ir:n.op=0):aj Tryz.prog 179 #[pV q,pV nb] H (fun w H'=>GZ L F H q rb nb g (J2 L st n).1 (J2 L st n).2 H'):=by
 refine aj.told ?_
 refine afV (Nat.le_refl _) fun hf=>?_
 simp only [Tryz.f179,Option.getD_some]
 have hz:=h.fz
 have cO:=h.fb
 have jt:=hL.len
 have r0:=LR.start h
 have gj:=h.nr
 have dL:¬rb=nb:=fun e=>gj e.symm
 have sO:¬q=nb:=fun e=>h.nq e.symm
 obtain ⟨vA,vP,vB,cK⟩:=r0.nd
 have r1:=r0.gh cK {n with kind:=3} rfl rfl rfl
 simp only [go_sem,cK,cO]
 refine af.by (CB hL r1.ln.bJ) ?_
 rintro _ H2 - ⟨rfl,p2⟩
 have r2:=r1.aY p2
 obtain ⟨Iz,wV,wW,EE⟩:=r2.nd
 rw [J2]
 generalize hV L st=x at p2 r2
 have nn:¬nb=H2.next:=by have:=r2.ln.nl;omega
 have bl:∀{H':ad},rL Tryz.prog 50 5 [(0,ag [43]),(1,ag [45]),(2,ag [42]),(3,ag [60]),(4,ag [61])] H'=.ok (.slice (some ⟨H'.next,0,none⟩) 5 5) (H'.push ⟨lv.map ag,9,false,false⟩):=fun {H'}=>
  Gy uE TP (by decide) (by decide) rfl
 simp only [go_sem,EE,cO,nn,eA qn (by decide) (by decide),bl]
 have r3:=r2.push ⟨[iV x.1.kind,iV x.1.n,ag x.1.name],44,false,false⟩
 have A4:(H2.push ⟨[iV x.1.kind,iV x.1.n,ag x.1.name],44,false,false⟩).get nb=some ⟨aJ {n with kind:=3} Iz wV wW,42,false,false⟩:=by rw [bS r2.ln.nl];exact EE
 have Uf:=r2.fr.nx
 obtain ⟨e1,e2,e3⟩:=r2.ln.new (Nat.le_refl _)
 obtain ⟨g4,r4⟩:=r3.args A4 {n with kind:=3,args:=[x.1]} JG (fun c hc=>by rw [List.mem_singleton] at hc;subst hc;rw [bH];exact ⟨Uf,by omega,e1,e2,e3⟩) rfl rfl
 have r5:=r4.push ⟨lv.map ag,9,false,false⟩
 obtain ⟨Ud,vP5,Ue,wO,gP5,gB5,N5,sA5,sP5,sB5,wX⟩:=r5.ln.nd
 have iy:r5=r5:=rfl
 have gab:(((H2.push ⟨[iV x.1.kind,iV x.1.n,ag x.1.name],44,false,false⟩).ah nb ⟨aJ {n with kind:=3,args:=[x.1]} (.slice (some ⟨H2.next,0,none⟩) 1 1) wV wW,42,false,false⟩).push ⟨lv.map ag,9,false,false⟩).get H2.next=some ⟨[iV x.1.kind,iV x.1.n,ag x.1.name],44,false,false⟩:=by
  rw [bS (by show H2.next < H2.next+1;omega),az,if_neg e2,aU,if_pos rfl]
 have gnb:(((H2.push ⟨[iV x.1.kind,iV x.1.n,ag x.1.name],44,false,false⟩).ah nb ⟨aJ {n with kind:=3,args:=[x.1]} (.slice (some ⟨H2.next,0,none⟩) 1 1) wV wW,42,false,false⟩).push ⟨lv.map ag,9,false,false⟩).get nb=some ⟨aJ {n with kind:=3,args:=[x.1]} (.slice (some ⟨H2.next,0,none⟩) 1 1) wV wW,42,false,false⟩:=by
  rw [bS (by have:=r2.ln.nl;show nb < H2.next+1;omega),az,if_pos rfl]
 have gsb:(((H2.push ⟨[iV x.1.kind,iV x.1.n,ag x.1.name],44,false,false⟩).ah nb ⟨aJ {n with kind:=3,args:=[x.1]} (.slice (some ⟨H2.next,0,none⟩) 1 1) wV wW,42,false,false⟩).push ⟨lv.map ag,9,false,false⟩).get (H2.next+1)=some ⟨lv.map ag,9,false,false⟩:=by rw [aU];exact if_pos rfl
 have nsb:(((H2.push ⟨[iV x.1.kind,iV x.1.n,ag x.1.name],44,false,false⟩).ah nb ⟨aJ {n with kind:=3,args:=[x.1]} (.slice (some ⟨H2.next,0,none⟩) 1 1) wV wW,42,false,false⟩).push ⟨lv.map ag,9,false,false⟩).next=H2.next+2:=rfl
 clear N5 sA5 sP5 sB5 wX iy
 obtain ⟨f1,f2,f3⟩:=r2.ln.new (Nat.le_succ H2.next)
 have R8:∀{Ha Hb:ad} {c:Nat},Fr [rb] Ha Hb->c < Ha.next->c≠rb->Hb.get c=Ha.get c:=fun f hc hr=>f.get _ hc (by simpa using hr)
 have hab:H.next<=H2.next:=Uf
 refine il 73786976294838075440 5 (fun i V H6=>V 17=iV (i:Nat)/\∃ew n6 g6,LR L F H q rb nb g H6 ew n6 g6/\H6.get (H2.next+1)=some ⟨lv.map ag,9,false,false⟩/\H2.next+1 < H6.next/\
   (n6.op=0->∃a1 vP vB,H6.get nb=some ⟨aJ n6 (.slice (some ⟨H2.next,0,none⟩) 1 1) vP vB,42,false,false⟩/\n6.args=[a1]/\H6.get H2.next=some ⟨[iV a1.kind,iV a1.n,ag a1.name],44,false,false⟩)/\
   AV L 1 lv x.2 {n with kind:=3,args:=[x.1]}=AV L ((i+1:Nat):Int) (lv.drop i) ew n6)
  ⟨by simp only [go_sem] <;> rfl,x.2,_,g4,r5,gsb,by rw [nsb];omega,fun _=>⟨x.1,wV,wW,gnb,rfl,gab⟩,rfl⟩ ?_ ?_ (by rfl)
 ·rintro i V H6 hi ⟨Ft,ew,n6,g6,r6,IB,yL,yM,CP⟩
  have i7:lv[i]?=some (lv[i]'hi):=List.getElem?_eq_getElem hi
  have cB:lv.drop i=(lv[i]'hi)::lv.drop (i+1):=(List.getElem_cons_drop hi).symm
  generalize (lv[i]'hi)=s at i7 cB
  rw [cB,AV] at CP
  have Bw:(lv.map ag)[i]?=some (ag s):=by rw [List.getElem?_map,i7];rfl
  obtain ⟨Fs,qF,qG,kZ⟩:=r6.nd
  obtain ⟨c1,c2,c3,c4,bL,oL,cL,BL,a,m,cc,hq,hr,hB,hl,iC,h0,h4,dk,b7,er⟩:=r6.ln.pp.fh
  have dW:=r6.ln.pp.at_
  have cU:IntKind.wrap .i64 (((ew.at_:Nat):Int)+1)=((ew.at_+1:Nat):Int):=cW dW (by omega)
  have bX:IntKind.wrap .i64 (((i:Nat):Int)+1)=((i+1:Nat):Int):=cW hi (by omega)
  have Rq:¬(c9 ew=true/\n6.op=0/\dV L s ew=true)->∃(Fu:aG) (n7:aH) (g7:List Nat),LR L F H q rb nb g H6 Fu n7 g7/\H6.get (H2.next+1)=some ⟨lv.map ag,9,false,false⟩/\H2.next+1 < H6.next/\
   (n7.op=0->∃a1 vP vB,H6.get nb=some ⟨aJ n7 (.slice (some ⟨H2.next,0,none⟩) 1 1) vP vB,42,false,false⟩/\n7.args=[a1]/\H6.get H2.next=some ⟨[iV a1.kind,iV a1.n,ag a1.name],44,false,false⟩)/\
   AV L 1 lv x.2 {n with kind:=3,args:=[x.1]}=AV L ((i+1+1:Nat):Int) (lv.drop (i+1)) Fu n7:=fun hn=>⟨ew,n6,g6,r6,IB,yL,yM,by rw [if_neg hn] at CP;exact CP⟩
  simp only [go_sem,Ft,hi,IB,Bw]
  refine af.by (eJ r6.ln.bJ) ?_
  rintro _ _ - ⟨rfl,rfl⟩
  by_cases hb:c9 ew=true
  ·by_cases ho:n6.op=0
   ·have gi:iV n6.op=iV 0:=by rw [ho]
    simp only [go_sem,hb,kZ,ho,hq]
    refine af.by (mY r6.ln.bJ) ?_
    rintro _ _ - ⟨rfl,rfl⟩
    by_cases hs:dV L s ew=true
    ·rw [if_pos ⟨hb,ho,hs⟩] at CP
     obtain ⟨a1,oN,Dg,Ug,ha6,ga6⟩:=yM ho
     rw [kZ] at Ug
     cases Ug
     have r7:=r6.set hr (aC ew) (mX hL dW (wh hs))
     have x4:(H6.ah rb ⟨[.slice (some ⟨bL,oL,none⟩) L.length cL,iV (((aC ew).at_:Nat):Int),.slice none 0 0,.bool true,iV (aC ew).depth,iV (aC ew).bad,.slice a m cc],125,false,false⟩).get nb=some ⟨aJ n6 (.slice (some ⟨H2.next,0,none⟩) 1 1) qF qG,42,false,false⟩:=by rw [az,if_neg gj];exact kZ
     have r8:=r7.gh x4 {n6 with op:=((i+1:Nat):Int)} rfl rfl rfl
     simp only [go_sem,hs,hq,hr,hz,cU,bX,gj,dL,sO,kZ,cO]
     have OZ:((H6.ah rb ⟨[.slice (some ⟨bL,oL,none⟩) L.length cL,iV (((aC ew).at_:Nat):Int),.slice none 0 0,.bool true,iV (aC ew).depth,iV (aC ew).bad,.slice a m cc],125,false,false⟩).ah nb ⟨aJ {n6 with op:=((i+1:Nat):Int)} (.slice (some ⟨H2.next,0,none⟩) 1 1) qF qG,42,false,false⟩).get nb=some ⟨aJ {n6 with op:=((i+1:Nat):Int)} (.slice (some ⟨H2.next,0,none⟩) 1 1) qF qG,42,false,false⟩:=by rw [az,if_pos rfl]
     have g8a:((H6.ah rb ⟨[.slice (some ⟨bL,oL,none⟩) L.length cL,iV (((aC ew).at_:Nat):Int),.slice none 0 0,.bool true,iV (aC ew).depth,iV (aC ew).bad,.slice a m cc],125,false,false⟩).ah nb ⟨aJ {n6 with op:=((i+1:Nat):Int)} (.slice (some ⟨H2.next,0,none⟩) 1 1) qF qG,42,false,false⟩).get H2.next=some ⟨[iV a1.kind,iV a1.n,ag a1.name],44,false,false⟩:=by rw [az,if_neg e2,az,if_neg e1];exact ga6
     have g8s:((H6.ah rb ⟨[.slice (some ⟨bL,oL,none⟩) L.length cL,iV (((aC ew).at_:Nat):Int),.slice none 0 0,.bool true,iV (aC ew).depth,iV (aC ew).bad,.slice a m cc],125,false,false⟩).ah nb ⟨aJ {n6 with op:=((i+1:Nat):Int)} (.slice (some ⟨H2.next,0,none⟩) 1 1) qF qG,42,false,false⟩).get (H2.next+1)=some ⟨lv.map ag,9,false,false⟩:=by rw [az,if_neg f2,az,if_neg f1];exact IB
     have g8x:((H6.ah rb ⟨[.slice (some ⟨bL,oL,none⟩) L.length cL,iV (((aC ew).at_:Nat):Int),.slice none 0 0,.bool true,iV (aC ew).depth,iV (aC ew).bad,.slice a m cc],125,false,false⟩).ah nb ⟨aJ {n6 with op:=((i+1:Nat):Int)} (.slice (some ⟨H2.next,0,none⟩) 1 1) qF qG,42,false,false⟩).next=H6.next:=rfl
     generalize fB:((H6.ah rb ⟨[.slice (some ⟨bL,oL,none⟩) L.length cL,iV (((aC ew).at_:Nat):Int),.slice none 0 0,.bool true,iV (aC ew).depth,iV (aC ew).bad,.slice a m cc],125,false,false⟩).ah nb ⟨aJ {n6 with op:=((i+1:Nat):Int)} (.slice (some ⟨H2.next,0,none⟩) 1 1) qF qG,42,false,false⟩)=H8 at r8 OZ g8a g8s g8x
     have ajH:((H6.ah rb ⟨[.slice (some ⟨bL,oL,none⟩) L.length cL,iV ((ew.at_+1:Nat):Int),.slice none 0 0,.bool true,iV ew.depth,iV ew.bad,.slice a m cc],125,false,false⟩).ah nb ⟨[iV n6.kind,iV n6.x,iV n6.y,iV n6.f,iV n6.n,iV n6.cap,iV n6.rc,iV ((i+1:Nat):Int),iV n6.a,iV n6.b,iV n6.next,iV n6.line,iV n6.au,ag n6.mf,ag n6.gf,ag n6.gV,ag n6.jq,.slice (some ⟨H2.next,0,none⟩) 1 1,qF,qG],42,false,false⟩)=H8:=fB
     try rw [ajH]
     refine af.by (CB hL r8.ln.bJ) ?_
     rintro _ H9 - ⟨rfl,p9⟩
     have r9:=r8.aY p9
     generalize hV L (aC ew)=y at p9 r9 CP
     have Uh:=(R8 p9.1 r8.ln.nl gj).trans OZ
     have g9a:=(R8 p9.1 (by omega) e1).trans g8a
     have g9s:=(R8 p9.1 (by omega) f1).trans g8s
     have n89:=p9.1.nx
     have nn9:¬nb=H9.next:=by have:=r9.ln.nl;omega
     have cP:=r9.push ⟨[iV y.1.kind,iV y.1.n,ag y.1.name],44,false,false⟩
     have ajI:(H9.push ⟨[iV y.1.kind,iV y.1.n,ag y.1.name],44,false,false⟩).get H9.next=some ⟨[iV y.1.kind,iV y.1.n,ag y.1.name],44,false,false⟩:=by rw [aU,if_pos rfl]
     have ajJ:(H9.push ⟨[iV y.1.kind,iV y.1.n,ag y.1.name],44,false,false⟩).get H2.next=some ⟨[iV a1.kind,iV a1.n,ag a1.name],44,false,false⟩:=by rw [bS (by omega)];exact g9a
     have ah6:=Jw (P:=Tryz.prog) (n:=1) (o:=0) (sl:=1) (sc:=1) qn (GM (c:=1) ajI rfl) ajJ (by rfl) (Nat.le_refl 1) (by omega) (by omega)
     simp only [go_sem,Uh,OZ,cO,nn9,eA qn (by decide) (by decide)]
     rw [ah6,wa]
     have ah7:(H9.push ⟨[iV y.1.kind,iV y.1.n,ag y.1.name],44,false,false⟩).next=H9.next+1:=rfl
     have sS:(([iV a1.kind,iV a1.n,ag a1.name]:List Value).drop 0).take (1 * 3)++[iV y.1.kind,iV y.1.n,ag y.1.name]=[iV a1.kind,iV a1.n,ag a1.name,iV y.1.kind,iV y.1.n,ag y.1.name]:=rfl
     rw [sS]
     have df:=cP.push ⟨[iV a1.kind,iV a1.n,ag a1.name,iV y.1.kind,iV y.1.n,ag y.1.name],44,true,false⟩
     have ajK:((H9.push ⟨[iV y.1.kind,iV y.1.n,ag y.1.name],44,false,false⟩).push ⟨[iV a1.kind,iV a1.n,ag a1.name,iV y.1.kind,iV y.1.n,ag y.1.name],44,true,false⟩).get nb=some ⟨aJ {n6 with op:=((i+1:Nat):Int)} (.slice (some ⟨H2.next,0,none⟩) 1 1) qF qG,42,false,false⟩:=by
      have:=r9.ln.nl
      rw [bS (by rw [bH];omega),bS this];exact Uh
     have auX:((H9.push ⟨[iV y.1.kind,iV y.1.n,ag y.1.name],44,false,false⟩).push ⟨[iV a1.kind,iV a1.n,ag a1.name,iV y.1.kind,iV y.1.n,ag y.1.name],44,true,false⟩).get (H2.next+1)=some ⟨lv.map ag,9,false,false⟩:=by
      rw [bS (by rw [bH];omega),bS (by omega)];exact g9s
     have n11:((H9.push ⟨[iV y.1.kind,iV y.1.n,ag y.1.name],44,false,false⟩).push ⟨[iV a1.kind,iV a1.n,ag a1.name,iV y.1.kind,iV y.1.n,ag y.1.name],44,true,false⟩).next=H9.next+2:=rfl
     have Ui:Sl jG ((H9.push ⟨[iV y.1.kind,iV y.1.n,ag y.1.name],44,false,false⟩).push ⟨[iV a1.kind,iV a1.n,ag a1.name,iV y.1.kind,iV y.1.n,ag y.1.name],44,true,false⟩) (.slice (some ⟨H9.next+1,0,none⟩) (1+1) (1+1)) (n6.args++[y.1]) [H9.next+1]:=by
      rw [ha6]
      exact .inr (.inr ⟨H9.next+1,0,2,_,[],rfl,by simp,Nat.le_refl _,rfl,by rw [aU];exact if_pos rfl,⟨_,_,[],[],rfl,rfl,⟨rfl,rfl⟩,_,[],[],[],rfl,rfl,⟨rfl,rfl⟩,rfl⟩⟩)
     obtain ⟨u1,u2,u3⟩:=r9.ln.new (Nat.le_succ H9.next)
     have n09:=r9.fr.nx
     obtain ⟨ju,dh⟩:=df.args ajK {n6 with op:=((i+1:Nat):Int),args:=n6.args++[y.1]} Ui (fun c hc=>by rw [List.mem_singleton] at hc;subst hc;rw [n11];exact ⟨by omega,by omega,u1,u2,u3⟩) rfl rfl
     have ajL:¬nb=H9.next+1:=fun e=>u2 e.symm
     simp only [go_sem,Uh,OZ,nn9,ajL,cO,ah7,Ft,bX]
     refine ⟨y.2,_,ju,dh,?_,?_,fun e=>?_,CP⟩
     ·rw [if_neg f2,if_neg (by omega),if_neg (by omega)];exact g9s
     ·first | omega | (show _ < H9.next+2;omega)
     ·exact absurd e (by show¬((i+1:Nat):Int)=0;omega)
    ·simp only [go_sem,hs,Ft,bX]
     exact Rq (fun e=>hs e.2.2)
   ·have gi:¬n6.op=0:=ho
    simp only [go_sem,hb,kZ,ho,Ft,bX]
    have hk:=Rq (fun e=>ho e.2.1)
    simp only [go_sem,kZ] at hk
    exact hk
  ·simp only [go_sem,hb,Ft,bX]
   exact Rq (fun e=>hb e.1)
 ·rintro V H6 ⟨Ft,ew,n6,g6,r6,IB,yL,yM,CP⟩
  simp only [go_sem,Ft]
  have:AV L ((5+1:Nat):Int) (lv.drop 5) ew n6=(ew,n6):=rfl
  rw [CP,this]
  exact r6.last
end
structure NQ0 (L:List bh) (F:List Nat) (c1 c2 c3:Value) (H:ad) (q rb:Nat) (st:aG) (ns:List aH) (m g:List Nat):Prop where
 pp:PP0 L F H q rb st
 row:∃vN,H.get q=some ⟨[pV rb,c1,c2,c3,vN],127,false,false⟩/\Gr j6 42 H vN ns m g
 hm:∀c∈m,c < H.next/\c≠rb/\c≠q/\c∉F/\c∉g
 hg:∀c∈g,c < H.next/\c≠rb/\c≠q
 hn:ns.length<=400
structure NQ (L:List bh) (F:List Nat) (c1 c2 c3:Value) (H:ad) (q rb:Nat) (st:aG) (ns:List aH) (m g:List Nat):Prop extends NQ0 L F c1 c2 c3 H q rb st ns m g where
 fz:H.fz rb=false
 fq:H.fz q=false
 fm:∀c∈m,H.fz c=false
 fn:∀b,H.next<=b->H.fz b=false
def xG (L:List bh) (F:List Nat) (c1 c2 c3:Value) (H:ad) (q rb:Nat) (ns:List aH) (m g:List Nat) (bO:aG) (ik:List aH) (H':ad):Prop:=
 Fr (rb::q::m) H H'/\(∀c,H'.fz c=H.fz c)/\ns.length<=ik.length/\∃m' g',NQ0 L F c1 c2 c3 H' q rb bO ik m' g'/\(∀c∈m',c∈m∨H.next<=c)/\∀c∈g',c∈g∨H.next<=c
structure NR (L:List bh) (F:List Nat) (c1 c2 c3:Value) (H:ad) (q rb:Nat) (ns:List aH) (m g:List Nat) (H1:ad) (cA:aG) (bk:List aH) (m1 g1:List Nat):Prop where
 fr:Fr (rb::q::m) H H1
 nq:NQ L F c1 c2 c3 H1 q rb cA bk m1 g1
 le:ns.length<=bk.length
 sm:∀c∈m1,c∈m∨H.next<=c
 sg:∀c∈g1,c∈g∨H.next<=c
section
variable {L:List bh} {F:List Nat} {c1 c2 c3:Value} {H H1 H2:ad} {q rb:Nat} {st cA bu:aG} {ns bk bK:List aH} {m m1 m2 g g1 g2:List Nat}
theorem NQ.bJ (h:NQ L F c1 c2 c3 H q rb st ns m g):PP L F H q rb st:={h.pp with fz:=h.fz}
theorem NR.start (h:NQ L F c1 c2 c3 H q rb st ns m g):NR L F c1 c2 c3 H q rb ns m g H st ns m g:=⟨.refl _ _,h,Nat.le_refl _,fun _ h=>.inl h,fun _ h=>.inl h⟩
theorem NQ0.fr (h:NQ0 L F c1 c2 c3 H q rb st ns m g) {bO:aG} {M:List Nat} (bg:Fr M H H1) (hp:PP0 L F H1 q rb bO) (mq:q∉M) (mm:∀c∈m,c∉M) (mg:∀c∈g,c∉M):NQ0 L F c1 c2 c3 H1 q rb bO ns m g:=by
 obtain ⟨Dh,⟨vN,h1,h2⟩,hm,hg,hn⟩:=h
 exact ⟨hp,⟨vN,(bg.get q Dh.ql mq).trans h1,h2.ae (fun c hc=>bg.get c (hm c hc).1 (mm c hc)) (fun c hc=>bg.get c (hg c hc).1 (mg c hc))⟩,fun c hc=>⟨Nat.lt_of_lt_of_le (hm c hc).1 bg.nx,(hm c hc).2⟩,fun c hc=>⟨Nat.lt_of_lt_of_le (hg c hc).1 bg.nx,(hg c hc).2⟩,hn⟩
theorem NR.aY (h:NR L F c1 c2 c3 H q rb ns m g H1 cA bk m1 g1) {bO:aG} (hp:fR L F H1 q rb bO H2):NR L F c1 c2 c3 H q rb ns m g H2 bO bk m1 g1:=
 ⟨h.fr.then (hp.1.sub fun c hc=>.inl (by rw [List.mem_singleton] at hc;simp [hc])),
  {h.nq.toNQ0.fr hp.1 hp.2.2 (by simpa using h.nq.pp.qr) (fun c hc=>by simpa using (h.nq.hm c hc).2.1) (fun c hc=>by simpa using (h.nq.hg c hc).2.1) with
   fz:=by rw [hp.2.1];exact h.nq.fz,fq:=by rw [hp.2.1];exact h.nq.fq,fm:=fun c hc=>by rw [hp.2.1];exact h.nq.fm c hc,fn:=fun b hb=>by rw [hp.2.1];exact h.nq.fn b (Nat.le_trans hp.1.nx hb)},h.le,h.sm,h.sg⟩
theorem NR.push (h:NR L F c1 c2 c3 H q rb ns m g H1 cA bk m1 g1) (B:ct) (hB:B.ro=false:=by rfl):NR L F c1 c2 c3 H q rb ns m g (H1.push B) cA bk m1 g1:=
 ⟨h.fr.push B hB,
  {h.nq.toNQ0.fr ((bc.push H1 B hB).fr []) (h.nq.pp.aE (bc.push H1 B hB)) (by simp) (by simp) (by simp) with
   fz:=(h.nq.bJ.push B hB).fz,fq:=(by have:=h.nq.pp.ql;rw [qf,h.nq.fq,Bool.or_false,beq_eq_false_iff_ne];omega),fm:=fun c hc=>(by have:=(h.nq.hm c hc).1;rw [qf,h.nq.fm c hc,Bool.or_false,beq_eq_false_iff_ne];omega),
   fn:=fun b hb=>(by rw [bH] at hb;rw [qf,h.nq.fn b (by omega),Bool.or_false,beq_eq_false_iff_ne];omega)},h.le,h.sm,h.sg⟩
theorem NR.last (h:NR L F c1 c2 c3 H q rb ns m g H1 cA bk m1 g1):xG L F c1 c2 c3 H q rb ns m g cA bk (H1.ai H.fz):=
 ⟨h.fr.ai _,fun _=>rfl,h.le,m1,g1,h.nq.toNQ0.fr ((Fr.refl [] H1).ai _) h.nq.pp.ai (by simp) (by simp) (by simp),h.sm,h.sg⟩
theorem NR.call (h:NR L F c1 c2 c3 H q rb ns m g H1 cA bk m1 g1) {bO:aG} {ik:List aH} (hp:xG L F c1 c2 c3 H1 q rb bk m1 g1 bO ik H2):∃m2 g2,NR L F c1 c2 c3 H q rb ns m g H2 bO ik m2 g2/\(∀c∈m2,c∈m1∨H1.next<=c)/\∀c∈g2,c∈g1∨H1.next<=c:=by
 obtain ⟨hf,hz,hle,m2,g2,h0,hs,iN⟩:=hp
 have dO:=h.fr.nx
 refine ⟨m2,g2,⟨h.fr.trans hf fun c hc=>?_,{h0 with fz:=by rw [hz];exact h.nq.fz,fq:=by rw [hz];exact h.nq.fq,fm:=fun c hc=>?_,fn:=fun b hb=>by rw [hz];exact h.nq.fn b (Nat.le_trans hf.nx hb)},Nat.le_trans h.le hle,fun c hc=>(hs c hc).elim (h.sm c) fun e=>.inr (Nat.le_trans dO e),fun c hc=>(iN c hc).elim (h.sg c) fun e=>.inr (Nat.le_trans dO e)⟩,hs,iN⟩
 ·rcases List.mem_cons.1 hc with e | hc
  ·exact .inl (by simp [e])
  ·rcases List.mem_cons.1 hc with e | hc
   ·exact .inl (by simp [e])
   ·exact (h.sm c hc).imp (fun e=>by simp [e]) id
 ·rw [hz]
  rcases hs c hc with e | e
  ·exact h.nq.fm c e
  ·exact h.nq.fn c e
theorem NR.cells (h:NR L F c1 c2 c3 H q rb ns m g H1 cA bk m1 g1):∃vN,H1.get q=some ⟨[pV rb,c1,c2,c3,vN],127,false,false⟩/\Gr j6 42 H1 vN bk m1 g1:=h.nq.row
theorem PP0.HW (h:PP0 L F H q rb st) {d1 d2 d3 d4:Value}:PP0 L F (H.ah q ⟨[pV rb,d1,d2,d3,d4],127,false,false⟩) q rb st:=by
 obtain ⟨_,⟨vL,a,n,c,hr,hs⟩,hF,h3,h4,h5,h6⟩:=h
 exact ⟨⟨d1,d2,d3,d4,by rw [az,if_pos rfl]⟩,⟨vL,a,n,c,by rw [az,if_neg (Ne.symm h3)];exact hr,hs.ae fun b hb=>by rw [az,if_neg (hF b hb).2.2]⟩,hF,h3,h4,h5,h6⟩
theorem NQ0.HW (h:PP0 L F H q rb st) {v:Value} (cw:Gr j6 42 H v ns m g) (hm:∀c∈m,c < H.next/\c≠rb/\c≠q/\c∉F/\c∉g) (hg:∀c∈g,c < H.next/\c≠rb/\c≠q) (hn:ns.length<=400):
  NQ0 L F c1 c2 c3 (H.ah q ⟨[pV rb,c1,c2,c3,v],127,false,false⟩) q rb st ns m g:=
 ⟨h.HW,⟨v,by rw [az,if_pos rfl],cw.ae (fun c hc=>by rw [az,if_neg (hm c hc).2.2.1]) (fun c hc=>by rw [az,if_neg (hg c hc).2.2])⟩,hm,hg,hn⟩
theorem NQ0.ai {fz:Nat->Bool} (h:NQ0 L F c1 c2 c3 H q rb st ns m g):NQ0 L F c1 c2 c3 (H.ai fz) q rb st ns m g:=h.fr ((Fr.refl [] H).ai _) h.pp.ai (by simp) (by simp) (by simp)
def rZ (st:aG) (ns:List aH):aG:=if c9 st=true/\400<=ns.length then eQ 3 st else st
def jF (L:List bh) (st:aG) (ns:List aH):Int × aG × List aH:=
 if c9 (rZ st ns)=true then ((ns.length:Nat),rZ st ns,ns++[{a:= -1,b:= -1,next:= -1,line:=(tk L (rZ st ns)).line,au:=(tk L (rZ st ns)).au}]) else (-1,rZ st ns,ns)
theorem abI {l c:Int} {h:KH}:fH Tryz.prog 42 [(8,iV (-1)),(9,iV (-1)),(10,iV (-1)),(11,iV l),(12,iV c)] h=.ok (.agg #[iV 0,iV 0,iV 0,iV 0,iV 0,iV 0,iV 0,iV 0,iV (-1),iV (-1),iV (-1),iV l,iV c,ag [],ag [],ag [],ag [],.slice none 0 0,.slice none 0 0,.slice none 0 0]) h:=by kernel_rfl
theorem G1 (hL:LG L) (h:NQ L F c1 c2 c3 H q rb st ns m g):aj Tryz.prog 163 #[pV q] H (fun w H'=>w=iV (jF L st ns).1/\xG L F c1 c2 c3 H q rb ns m g (jF L st ns).2.1 (jF L st ns).2.2 H'):=by
 refine aj.told ?_
 refine afp (Nat.le_refl _) fun hf=>?_
 simp only [Tryz.f163,Option.getD_some]
 simp only [go_sem]
 have r0:=NR.start h
 refine af.by (eJ h.bJ) ?_
 rintro _ _ - ⟨rfl,rfl⟩
 obtain ⟨vN,hq,cw⟩:=r0.cells
 obtain ⟨aN,yN⟩:=cw.val
 rw [yN] at hq cw
 have Ly:=h.hn
 have no:∀{e:aG},c9 e=false->rZ st ns=e->jF L st ns=(-1,e,ns):=fun {e} he h1=>by rw [jF,h1,he];rfl
 by_cases hb:c9 st=true
 ·by_cases h4:400<=ns.length
  ·have e1:rZ st ns=eQ 3 st:=by rw [rZ,if_pos ⟨hb,h4⟩]
   have fj:c9 (eQ 3 st)=false:=by
    have:st.bad=0:=by simpa [c9] using hb
    simp [eQ,this,c9]
   have my:(400:Int)<=((ns.length:Nat):Int):=by omega
   rw [no fj e1]
   simp only [go_sem,hb,hq,my]
   refine af.by (kK h.bJ) ?_
   rintro _ H1 - p1
   have r1:=r0.aY p1
   simp only [go_sem]
   refine af.by (eJ r1.nq.bJ) ?_
   rintro _ _ - ⟨rfl,rfl⟩
   simp only [go_sem,fj]
   exact r1.last
  ·have e1:rZ st ns=st:=by rw [rZ,if_neg fun e=>h4 e.2]
   have my:¬(400:Int)<=((ns.length:Nat):Int):=by omega
   simp only [go_sem,hb,hq,my]
   refine af.by (eJ h.bJ) ?_
   rintro _ _ - ⟨rfl,rfl⟩
   simp only [go_sem,hb,hq]
   refine af.by (rh h.bJ) ?_
   rintro _ H1 - ⟨rfl,p1⟩
   have r1:=r0.aY p1
   have qr1:q∉[rb]:=by simpa using h.pp.qr
   have Fv:=(p1.1.get q h.pp.ql qr1).trans hq
   simp only [go_sem,hq,Fv]
   refine af.by (rh r1.nq.bJ) ?_
   rintro _ H2 - ⟨rfl,p2⟩
   have r2:=r1.aY p2
   have sO:=(p2.1.get q r1.nq.pp.ql qr1).trans Fv
   simp only [go_sem,hq,Fv,sO,abI,eA J0 (by decide) (by decide)]
   have r3:=r2.push ⟨[iV 0,iV 0,iV 0,iV 0,iV 0,iV 0,iV 0,iV 0,iV (-1),iV (-1),iV (-1),iV (tk L st).line,iV (tk L st).au,ag [],ag [],ag [],ag [],.slice none 0 0,.slice none 0 0,.slice none 0 0],42,false,false⟩
   obtain ⟨BA,Ix,ss⟩:=r3.cells
   have Zs:=(bS (B:=⟨[iV 0,iV 0,iV 0,iV 0,iV 0,iV 0,iV 0,iV 0,iV (-1),iV (-1),iV (-1),iV (tk L st).line,iV (tk L st).au,ag [],ag [],ag [],ag [],.slice none 0 0,.slice none 0 0,.slice none 0 0],42,false,false⟩) r2.nq.pp.ql).trans sO
   rw [Ix] at Zs
   cases Zs
   have hx:j6.E (H2.push ⟨[iV 0,iV 0,iV 0,iV 0,iV 0,iV 0,iV 0,iV 0,iV (-1),iV (-1),iV (-1),iV (tk L st).line,iV (tk L st).au,ag [],ag [],ag [],ag [],.slice none 0 0,.slice none 0 0,.slice none 0 0],42,false,false⟩) [iV 0,iV 0,iV 0,iV 0,iV 0,iV 0,iV 0,iV 0,iV (-1),iV (-1),iV (-1),iV (tk L st).line,iV (tk L st).au,ag [],ag [],ag [],ag [],.slice none 0 0,.slice none 0 0,.slice none 0 0] ({a:= -1,b:= -1,next:= -1,line:=(tk L st).line,au:=(tk L st).au}:aH) []:=
    ⟨_,_,_,[],[],[],rfl,rfl,.inl ⟨rfl,rfl,rfl⟩,.inl ⟨rfl,rfl,rfl⟩,.inl ⟨rfl,rfl,rfl⟩⟩
   refine jT (r:=j6) (g':=[]) J0 ss (fun c hc=>(r3.nq.hm c hc).1) (fun c hc=>(r3.nq.hg c hc).1) (by simp) (fun c hc=>h.fm c hc) (by rw [aU,if_pos rfl]) hx rfl (by omega) ?_
   intro v7 H7 bG dX je dr jH
   obtain ⟨a7,wU⟩:=bG.val
   have Fe:q∉m:=fun e=>(r3.nq.hm q e).2.2.1 rfl
   have vu:rb∉m:=fun e=>(r3.nq.hm rb e).2.1 rfl
   have qH:=(je q r3.nq.pp.ql Fe).trans Ix
   have p7:PP0 L F H7 q rb st:=r3.nq.pp.fr dr Fe vu fun c hc e=>(r3.nq.hm c e).2.2.2.1 hc
   have f7:Fr (rb::q::m) H H7:=r3.fr.then (dr.sub fun c hc=>.inl (by simp [hc]))
   have Fw:(H2.push ⟨[iV 0,iV 0,iV 0,iV 0,iV 0,iV 0,iV 0,iV 0,iV (-1),iV (-1),iV (-1),iV (tk L st).line,iV (tk L st).au,ag [],ag [],ag [],ag [],.slice none 0 0,.slice none 0 0,.slice none 0 0],42,false,false⟩).next=H2.next+1:=rfl
   have nq7:¬q=H2.next+1:=fun e=>by have:=r2.nq.pp.ql;omega
   have Uj:¬rb=H2.next+1:=fun e=>by have:=r2.nq.pp.rl;omega
   have vC:=h.fq
   have Fx:(ns++[({a:= -1,b:= -1,next:= -1,line:=(tk L st).line,au:=(tk L st).au}:aH)]).length=ns.length+1:=by rw [List.length_append];rfl
   rw [Fx] at wU
   subst wU
   simp only [go_sem,qH,vC]
   have hw:IntKind.i64.wrap (((ns.length+1:Nat):Int) - 1)=((ns.length:Nat):Int):=by
    rw [show (((ns.length+1:Nat):Int) - 1)=((ns.length:Nat):Int) by omega]
    exact uy (by omega)
   rw [hw,jF,e1,if_pos hb]
   refine ⟨rfl,(f7.ah (.inl (by simp)) _).ai _,fun _=>rfl,by simp,_,_,(NQ0.HW p7 (by rw [Fx] at *;exact bG) (fun c hc=>?_) (fun c hc=>?_) (by rw [Fx];omega)).ai,fun c hc=>?_,fun c hc=>?_⟩
   ·rw [List.mem_singleton] at hc
    have:=r3.nq.pp.rl
    have:=r3.nq.pp.ql
    subst hc
    exact ⟨by omega,by omega,by omega,fun e=>by have:=(r3.nq.pp.hF _ e).1;omega,fun e=>by
     rw [List.append_nil] at e
     have:=(r3.nq.hg _ e).1;omega⟩
   ·rw [List.append_nil] at hc
    have:=r3.nq.hg c hc
    exact ⟨by omega,this.2⟩
   ·rw [List.mem_singleton] at hc
    have:=r3.fr.nx
    exact .inr (by omega)
   ·rw [List.append_nil] at hc
    exact .inl hc
 ·have e1:rZ st ns=st:=by rw [rZ,if_neg fun e=>hb e.1]
  have dT:c9 st=false:=by simpa using hb
  rw [no dT e1]
  simp only [go_sem,hb]
  refine af.by (eJ h.bJ) ?_
  rintro _ _ - ⟨rfl,rfl⟩
  simp only [go_sem,hb]
  exact r0.last
theorem Gr.put {α:Type} {r:Rp α} {ty:TypeId} {H:ad} {v:Value} {l:List α} {m g:List Nat} (h:Gr r ty H v l m g) {i:Nat} (hi:i < l.length):
  ∃b cs f1 f2 f3,v=.slice (some ⟨b,0,none⟩) l.length l.length/\m=[b]/\H.get b=some ⟨cs,ty,true,false⟩/\cs.length=l.length * r.sz/\g=f1++(f2++f3)/\i * r.sz+r.sz<=cs.length/\r.E H ((cs.drop (i * r.sz)).take r.sz) l[i] f2/\
   ∀(H':ad) c' y f',(∀z,z∈f1∨z∈f3->H'.get z=H.get z)->H'.get b=some ⟨cT cs (i * r.sz) c',ty,true,false⟩->r.E H' c' y f'->b∉f'->Gr r ty H' v (l.set i y) [b] (f1++(f'++f3)):=by
 rcases h with ⟨_,rfl,_⟩ | ⟨b,cs,rfl,h2,rfl,h4,h5,h6,hb⟩
 ·simp at hi
 ·obtain ⟨f1,f2,f3,rfl,h7,h8,h9⟩:=h6.put hi
  refine ⟨b,cs,f1,f2,f3,rfl,rfl,h4,h5,rfl,h7,h8,fun H' c' y f' hk hB' hE ee=>?_⟩
  have e:=r.len hE
  refine .inr ⟨b,_,by simp,by rw [Ne,<-List.length_eq_zero_iff];simp;omega,rfl,hB',?_,h9 H' c' y f' hk hE,?_⟩
  ·rw [Wp (by omega),List.length_set];exact h5
  ·simp only [List.mem_append,not_or] at hb ⊢
   exact ⟨hb.1,ee,hb.2.2⟩
def pj (ns:List aH) (k:Nat) (n:aH):List aH:=ns.set k {n with next:=(ns.getD k {}).next,line:=(ns.getD k {}).line,au:=(ns.getD k {}).au}
theorem ah8 (h:NQ L F c1 c2 c3 H q rb st ns m g) {k:Nat} (hk:k < ns.length) {n:aH} {vA vP vB:Value} {gA gP gB:List Nat} (hA:Sl jG H vA n.args gA) (hP:Sl fy H vP n.pat gP) (hB:Sl dB H vB n.ak gB) (dQ:∀c∈gA++(gP++gB),c < H.next/\c≠rb/\c≠q/\c∉m):
  aj Tryz.prog 172 #[pV q,iV (k:Nat),.agg (aJ n vA vP vB).toArray] H (fun w H'=>Fr m H H'/\(∀c,H'.fz c=H.fz c)/\∃g',NQ0 L F c1 c2 c3 H' q rb st (pj ns k n) m g'/\∀c∈g',c∈g∨c∈gA++(gP++gB)):=by
 refine aj.told ?_
 refine afH (Nat.le_refl _) fun hf=>?_
 simp only [Tryz.f172,Option.getD_some]
 have r0:=NR.start h
 obtain ⟨vN,hq,cw⟩:=r0.cells
 obtain ⟨b,cs,f1,f2,f3,rfl,rfl,hb,fE,rfl,c6,hE,oE⟩:=cw.put hk
 have Da:=h.fm b (by simp)
 obtain ⟨wA,wP,wB,e1,e2,e3,aV,rfl,s1,s2,s3⟩:=hE
 have Ly:=h.hn
 have b7:=(h.hm b (by simp)).1
 have hbq:=(h.hm b (by simp)).2.2.1
 have nq:¬q=H.next:=fun e=>by have:=h.pp.ql;omega
 have Lz:¬q=H.next+1:=fun e=>by have:=h.pp.ql;omega
 have nb:¬b=H.next:=fun e=>by omega
 have nb':¬b=H.next+1:=fun e=>by omega
 have fC:j6.sz=20:=rfl
 rw [fC] at c6 aV
 obtain ⟨aA,kA,rfl⟩:=hA.val
 obtain ⟨aP,kP,rfl⟩:=hP.val
 obtain ⟨aB,kB,rfl⟩:=hB.val
 obtain ⟨bA,jA,rfl⟩:=s1.val
 obtain ⟨bP,jP,rfl⟩:=s2.val
 obtain ⟨bB,jB,rfl⟩:=s3.val
 have hX:=h.fn H.next (Nat.le_refl _)
 have Uk:=h.fn (H.next+1) (Nat.le_succ _)
 have kt:(ns.getD k {})=ns[k]:=by rw [List.getD_eq_getElem?_getD,List.getElem?_eq_getElem hk];rfl
 have fin:∀{H6:ad},Fr [] H H6->Fr [b] H ((H6.ah b ⟨cT cs (k * 20) (aJ {n with next:=ns[k].next,line:=ns[k].line,au:=ns[k].au} (.slice aA n.args.length kA) (.slice aP n.pat.length kP) (.slice aB n.ak.length kB)),42,true,false⟩).ai H.fz)/\(∀_:Nat,True)/\
   ∃g',NQ0 L F c1 c2 c3 ((H6.ah b ⟨cT cs (k * 20) (aJ {n with next:=ns[k].next,line:=ns[k].line,au:=ns[k].au} (.slice aA n.args.length kA) (.slice aP n.pat.length kP) (.slice aB n.ak.length kB)),42,true,false⟩).ai H.fz) q rb st (pj ns k n) [b] g'/\∀c∈g',c∈f1++(e1++(e2++e3)++f3)∨c∈gA++(gP++gB):=fun {H6} f6=>by
  obtain ⟨iD,fe,fj,oh,iy⟩:=h.hm b (by simp)
  have k6:∀c,c < H.next->c≠b->(H6.ah b ⟨cT cs (k * 20) (aJ {n with next:=ns[k].next,line:=ns[k].line,au:=ns[k].au} (.slice aA n.args.length kA) (.slice aP n.pat.length kP) (.slice aB n.ak.length kB)),42,true,false⟩).get c=H.get c:=fun c hc iT=>by rw [az,if_neg iT,f6.get c hc (by simp)]
  have bg:Fr [b] H (H6.ah b ⟨cT cs (k * 20) (aJ {n with next:=ns[k].next,line:=ns[k].line,au:=ns[k].au} (.slice aA n.args.length kA) (.slice aP n.pat.length kP) (.slice aB n.ak.length kB)),42,true,false⟩):=(f6.sub (by simp)).ah (.inl (by simp)) _
  have gb:(H6.ah b ⟨cT cs (k * 20) (aJ {n with next:=ns[k].next,line:=ns[k].line,au:=ns[k].au} (.slice aA n.args.length kA) (.slice aP n.pat.length kP) (.slice aB n.ak.length kB)),42,true,false⟩).get b=some ⟨cT cs (k * 20) (aJ {n with next:=ns[k].next,line:=ns[k].line,au:=ns[k].au} (.slice aA n.args.length kA) (.slice aP n.pat.length kP) (.slice aB n.ak.length kB)),42,true,false⟩:=by rw [az,if_pos rfl]
  generalize (H6.ah b ⟨cT cs (k * 20) (aJ {n with next:=ns[k].next,line:=ns[k].line,au:=ns[k].au} (.slice aA n.args.length kA) (.slice aP n.pat.length kP) (.slice aB n.ak.length kB)),42,true,false⟩)=H7 at k6 bg gb
  have kg:∀c∈gA++(gP++gB),H7.get c=H.get c:=fun c hc=>k6 c (dQ c hc).1 (by simpa using (dQ c hc).2.2.2)
  have bG:Gr j6 42 H7 (.slice (some ⟨b,0,none⟩) ns.length ns.length) (pj ns k n) [b] (f1++((gA++(gP++gB))++f3)):=by
   rw [pj,kt]
   refine oE H7 _ _ _ (fun z hz=>k6 z (h.hg z (by rcases hz with e | e <;> simp [e])).1 ?_) (by rw [fC];exact gb) ⟨_,_,_,gA,gP,gB,rfl,rfl,hA.ae fun c hc=>kg c (by simp [hc]),hP.ae fun c hc=>kg c (by simp [hc]),hB.ae fun c hc=>kg c (by simp [hc])⟩ (fun e=>by simpa using (dQ b e).2.2.2)
   rintro rfl
   exact iy (by rcases hz with e | e <;> simp [e])
  have p7:PP0 L F H7 q rb st:=h.pp.fr bg (by simpa using hbq.symm) (by simpa using fe.symm) fun c hc e=>oh (by rw [List.mem_singleton] at e;exact e▸hc)
  refine ⟨bg.ai _,fun _=>trivial,f1++((gA++(gP++gB))++f3),NQ0.ai ⟨p7,⟨_,(k6 q h.pp.ql hbq.symm).trans hq,bG⟩,fun c hc=>?_,fun c hc=>?_,by rw [pj,List.length_set];exact Ly⟩,fun c hc=>?_⟩
  ·rw [List.mem_singleton] at hc
   subst hc
   refine ⟨Nat.lt_of_lt_of_le iD bg.nx,fe,fj,oh,fun e=>?_⟩
   rcases List.mem_append.1 e with e | e
   ·exact iy (by simp [e])
   ·rcases List.mem_append.1 e with e | e
    ·simpa using (dQ _ e).2.2.2
    ·exact iy (by simp [e])
  ·have dO:=bg.nx
   rcases List.mem_append.1 hc with e | e
   ·have:=h.hg c (by simp [e]);exact ⟨by omega,this.2⟩
   ·rcases List.mem_append.1 e with e | e
    ·have:=dQ c e;exact ⟨by omega,this.2.1,this.2.2.1⟩
    ·have:=h.hg c (by simp [e]);exact ⟨by omega,this.2⟩
  ·rcases List.mem_append.1 hc with e | e
   ·exact .inl (by simp [e])
   ·rcases List.mem_append.1 e with e | e
    ·exact .inr e
    ·exact .inl (by simp [e])
 simp only [go_sem,hq,hb,Da,aV,c6,hk,nq,Lz,nb,nb',hX,Uk]
 exact fin (((((((Fr.refl [] H).push _).push _).ah (.inr (Nat.le_succ _)) _).ah (.inr (Nat.le_refl _)) _).ah (.inr (Nat.le_refl _)) _).ah (.inr (Nat.le_refl _)) _)
def zg (L:List bh) (st:aG):Bool:=cQ L [100,111,110,101] st||cQ L [99,97,108,108] st||cQ L [97,103,97,105,110] st||cQ L [103,117,97,114,100] st||cQ L [105,102] st
theorem aaL (hL:LG L) (h:PP L F H q rb st):aj Tryz.prog 161 #[pV q] H (fun w H'=>w=.bool (zg L st)/\fR L F H q rb st H'):=by
 refine aj.told ?_
 refine afl (Nat.le_refl _) fun hf=>?_
 simp only [Tryz.f161,Option.getD_some]
 have p0:=fR.refl h.toPP0
 simp only [go_sem]
 refine af.by (fJ (h.post p0)) ?_
 rintro _ H1 - ⟨rfl,r1⟩
 have p1:=p0.trans r1
 by_cases h1:cQ L [100,111,110,101] st=true
 ·simp only [go_sem,h1]
  exact ⟨by simp [zg,h1],.last p1.1 p1.2.2⟩
 simp only [go_sem,h1]
 refine af.by (fJ (h.post p1)) ?_
 rintro _ H2 - ⟨rfl,r2⟩
 have p2:=p1.trans r2
 by_cases h2:cQ L [99,97,108,108] st=true
 ·simp only [go_sem,h2]
  exact ⟨by simp [zg,h2],.last p2.1 p2.2.2⟩
 simp only [go_sem,h2]
 refine af.by (fJ (h.post p2)) ?_
 rintro _ H3 - ⟨rfl,r3⟩
 have p3:=p2.trans r3
 by_cases h3:cQ L [97,103,97,105,110] st=true
 ·simp only [go_sem,h3]
  exact ⟨by simp [zg,h3],.last p3.1 p3.2.2⟩
 simp only [go_sem,h3]
 refine af.by (fJ (h.post p3)) ?_
 rintro _ H4 - ⟨rfl,r4⟩
 have p4:=p3.trans r4
 by_cases h4:cQ L [103,117,97,114,100] st=true
 ·simp only [go_sem,h4]
  exact ⟨by simp [zg,h4],.last p4.1 p4.2.2⟩
 simp only [go_sem,h4]
 refine af.by (fJ (h.post p4)) ?_
 rintro _ H5 - ⟨rfl,r5⟩
 have p5:=p4.trans r5
 simp only [go_sem]
 exact ⟨by simp [zg,h1,h2,h3,h4],.last p5.1 p5.2.2⟩
def rO (L:List bh) (st:aG):Bool:=tx L st||cQ L [108,101,116] st||cQ L [115,101,116] st||cQ L [115,112,97,119,110] st||cQ L [108,111,111,112] st
theorem MD (hL:LG L) (h:PP L F H q rb st):aj Tryz.prog 162 #[pV q] H (fun w H'=>w=.bool (rO L st)/\fR L F H q rb st H'):=by
 refine aj.told ?_
 refine afn (Nat.le_refl _) fun hf=>?_
 simp only [Tryz.f162,Option.getD_some]
 have p0:=fR.refl h.toPP0
 simp only [go_sem]
 refine af.by (JF hL (h.post p0)) ?_
 rintro _ H1 - ⟨rfl,r1⟩
 have p1:=p0.trans r1
 by_cases h1:tx L st=true
 ·simp only [go_sem,h1]
  exact ⟨by simp [rO,h1],.last p1.1 p1.2.2⟩
 simp only [go_sem,h1]
 refine af.by (fJ (h.post p1)) ?_
 rintro _ H2 - ⟨rfl,r2⟩
 have p2:=p1.trans r2
 by_cases h2:cQ L [108,101,116] st=true
 ·simp only [go_sem,h2]
  exact ⟨by simp [rO,h2],.last p2.1 p2.2.2⟩
 simp only [go_sem,h2]
 refine af.by (fJ (h.post p2)) ?_
 rintro _ H3 - ⟨rfl,r3⟩
 have p3:=p2.trans r3
 by_cases h3:cQ L [115,101,116] st=true
 ·simp only [go_sem,h3]
  exact ⟨by simp [rO,h3],.last p3.1 p3.2.2⟩
 simp only [go_sem,h3]
 refine af.by (fJ (h.post p3)) ?_
 rintro _ H4 - ⟨rfl,r4⟩
 have p4:=p3.trans r4
 by_cases h4:cQ L [115,112,97,119,110] st=true
 ·simp only [go_sem,h4]
  exact ⟨by simp [rO,h4],.last p4.1 p4.2.2⟩
 simp only [go_sem,h4]
 refine af.by (fJ (h.post p4)) ?_
 rintro _ H5 - ⟨rfl,r5⟩
 have p5:=p4.trans r5
 simp only [go_sem]
 exact ⟨by simp [rO,h1,h2,h3,h4],.last p5.1 p5.2.2⟩
end
structure Ag (L:List bh) (F:List Nat) (c1 c2 c3:Value) (H:ad) (q rb:Nat) (st:aG) (ns:List aH) (m g:List Nat) (nb:Nat) (n:aH) (gn:List Nat):Prop where
 nq:NQ0 L F c1 c2 c3 H q rb st ns m g
 ln:LN0 L F H q rb st nb n gn
 nm:nb∉m
 ng:nb∉g
 gm:∀c∈gn,c∉m
def QX (L:List bh) (F:List Nat) (c1 c2 c3:Value) (H:ad) (q rb:Nat) (ns:List aH) (m g:List Nat) (nb:Nat) (gn:List Nat) (bO:aG) (ik:List aH) (n':aH) (H':ad):Prop:=
 Fr (rb::q::nb::m) H H'/\(∀c,H'.fz c=H.fz c)/\ns.length<=ik.length/\∃m' g' gn',Ag L F c1 c2 c3 H' q rb bO ik m' g' nb n' gn'/\(∀c∈m',c∈m∨H.next<=c)/\(∀c∈g',c∈g∨H.next<=c)/\∀c∈gn',c∈gn∨H.next<=c
structure QR (zb:Bool) (L:List bh) (F:List Nat) (c1 c2 c3:Value) (H:ad) (q rb:Nat) (ns:List aH) (m g:List Nat) (nb:Nat) (gn:List Nat) (H1:ad) (cA:aG) (bk:List aH) (m1 g1:List Nat) (n1:aH) (fY:List Nat):Prop where
 fr:Fr (rb::q::nb::m) H H1
 lq:Ag L F c1 c2 c3 H1 q rb cA bk m1 g1 nb n1 fY
 le:ns.length<=bk.length
 sm:∀c∈m1,c∈m∨H.next<=c
 sg:∀c∈g1,c∈g∨H.next<=c
 sn:∀c∈fY,c∈gn∨H.next<=c
 fz:H1.fz rb=false
 fq:H1.fz q=false
 fb:H1.fz nb=zb
 fm:∀c∈m1,H1.fz c=false
 fn:∀b,H1.next<=b->H1.fz b=false
section
variable {zb:Bool} {L:List bh} {F:List Nat} {c1 c2 c3:Value} {H H1 H2:ad} {q rb nb:Nat} {st cA bu:aG} {ns bk bK:List aH} {m m1 m2 g g1 g2 gn fY rF:List Nat} {n n1 n2:aH}
theorem QR.nq (h:QR zb L F c1 c2 c3 H q rb ns m g nb gn H1 cA bk m1 g1 n1 fY):NQ L F c1 c2 c3 H1 q rb cA bk m1 g1:={h.lq.nq with fz:=h.fz,fq:=h.fq,fm:=h.fm,fn:=h.fn}
theorem QR.ln (h:QR false L F c1 c2 c3 H q rb ns m g nb gn H1 cA bk m1 g1 n1 fY):LN L F H1 q rb cA nb n1 fY:={h.lq.ln with fz:=h.fz,fb:=h.fb,fn:=h.fn}
theorem QR.pp (h:QR zb L F c1 c2 c3 H q rb ns m g nb gn H1 cA bk m1 g1 n1 fY):PP L F H1 q rb cA:={h.lq.nq.pp with fz:=h.fz}
theorem Ag.fr (h:Ag L F c1 c2 c3 H q rb st ns m g nb n gn) {bO:aG} {M:List Nat} (bg:Fr M H H1) (hp:PP0 L F H1 q rb bO) (mq:q∉M) (mn:nb∉M) (mm:∀c∈m,c∉M) (mg:∀c∈g,c∉M) (mgn:∀c∈gn,c∉M):Ag L F c1 c2 c3 H1 q rb bO ns m g nb n gn:=
 ⟨h.nq.fr bg hp mq mm mg,h.ln.fr bg hp mn mgn,h.nm,h.ng,h.gm⟩
theorem QR.start (h:Ag L F c1 c2 c3 H q rb st ns m g nb n gn) (fz:H.fz rb=false) (fq:H.fz q=false) (fb:H.fz nb=zb) (fm:∀c∈m,H.fz c=false) (fn:∀b,H.next<=b->H.fz b=false):QR zb L F c1 c2 c3 H q rb ns m g nb gn H st ns m g n gn:=
 ⟨.refl _ _,h,Nat.le_refl _,fun _ h=>.inl h,fun _ h=>.inl h,fun _ h=>.inl h,fz,fq,fb,fm,fn⟩
theorem QR.aY (h:QR zb L F c1 c2 c3 H q rb ns m g nb gn H1 cA bk m1 g1 n1 fY) {bO:aG} (hp:fR L F H1 q rb bO H2):QR zb L F c1 c2 c3 H q rb ns m g nb gn H2 bO bk m1 g1 n1 fY:=
 ⟨h.fr.then (hp.1.sub fun c hc=>.inl (by rw [List.mem_singleton] at hc;simp [hc])),
  h.lq.fr hp.1 hp.2.2 (by simpa using h.pp.qr) (by simpa using h.lq.ln.nr) (fun c hc=>by simpa using (h.lq.nq.hm c hc).2.1) (fun c hc=>by simpa using (h.lq.nq.hg c hc).2.1) (fun c hc=>by simpa using (h.lq.ln.hg c hc).2.1),
  h.le,h.sm,h.sg,h.sn,by rw [hp.2.1];exact h.fz,by rw [hp.2.1];exact h.fq,by rw [hp.2.1];exact h.fb,fun c hc=>by rw [hp.2.1];exact h.fm c hc,fun b hb=>by rw [hp.2.1];exact h.fn b (Nat.le_trans hp.1.nx hb)⟩
theorem QR.push (h:QR zb L F c1 c2 c3 H q rb ns m g nb gn H1 cA bk m1 g1 n1 fY) (B:ct) (hB:B.ro=false:=by rfl):QR zb L F c1 c2 c3 H q rb ns m g nb gn (H1.push B) cA bk m1 g1 n1 fY:=by
 have key:∀c,c < H1.next->(H1.push B).fz c=H1.fz c:=fun c hc=>by
  rw [qf,show (c==H1.next)=false from by rw [beq_eq_false_iff_ne];omega,Bool.false_or]
 exact ⟨h.fr.push B hB,h.lq.fr ((bc.push H1 B hB).fr []) (h.lq.nq.pp.aE (bc.push H1 B hB)) (by simp) (by simp) (by simp) (by simp) (by simp),h.le,h.sm,h.sg,h.sn,
  by rw [key _ h.pp.rl];exact h.fz,by rw [key _ h.pp.ql];exact h.fq,by rw [key _ h.lq.ln.nl];exact h.fb,fun c hc=>by rw [key _ (h.lq.nq.hm c hc).1];exact h.fm c hc,fun b hb=>(by rw [bH] at hb;rw [qf,h.fn b (by omega),Bool.or_false,beq_eq_false_iff_ne];omega)⟩
theorem PP.iE (hL:LG L) (h:PP L F H q rb st) (hk:(tk L st).kind≠4):∃c1 c2 c3 c4 bL oL cL a k c,H.get q=some ⟨[.pointer (some ⟨rb,0,none⟩),c1,c2,c3,c4],127,false,false⟩/\
  H.get rb=some ⟨[.slice (some ⟨bL,oL,none⟩) L.length cL,iV (st.at_:Nat),.slice none 0 0,.bool true,iV st.depth,iV st.bad,.slice a k c],125,false,false⟩/\IntKind.wrap .i64 (((st.at_:Nat):Int)+1)=((st.at_+1:Nat):Int)/\
  fR L F H q rb (aC st) (H.ah rb ⟨[.slice (some ⟨bL,oL,none⟩) L.length cL,iV ((st.at_+1:Nat):Int),.slice none 0 0,.bool true,iV st.depth,iV st.bad,.slice a k c],125,false,false⟩):=by
 obtain ⟨c1,c2,c3,c4,bL,oL,cL,BL,a,n,c,hq,hr,_⟩:=h.fh
 have jt:=hL.len
 exact ⟨c1,c2,c3,c4,bL,oL,cL,a,n,c,hq,hr,cW h.at_ (by omega),(Fr.refl _ _).ah (.inl (by simp)) _,fun _=>rfl,h.toPP0.set hr (aC st) (mX hL h.at_ hk)⟩
theorem QR.node (h:QR zb L F c1 c2 c3 H q rb ns m g nb gn H1 cA bk m1 g1 n1 fY) {n':aH} {vA vP vB:Value} {gA gP gB:List Nat} (h2:Sl jG H1 vA n'.args gA) (h3:Sl fy H1 vP n'.pat gP) (h4:Sl dB H1 vB n'.ak gB)
  (hg:∀c∈gA++(gP++gB),c∈fY∨H.next<=c/\c < H1.next/\c≠rb/\c≠nb/\c≠q/\c∉m1):
  QR zb L F c1 c2 c3 H q rb ns m g nb gn (H1.ah nb ⟨aJ n' vA vP vB,42,false,false⟩) cA bk m1 g1 n' (gA++(gP++gB)):=by
 have hl:=h.lq.ln
 have eW:∀c∈gA++(gP++gB),c < H1.next/\c≠rb/\c≠nb/\c≠q:=fun c hc=>(hg c hc).elim (hl.hg c) fun e=>⟨e.2.1,e.2.2.1,e.2.2.2.1,e.2.2.2.2.1⟩
 have k:∀c∈gA++(gP++gB),(H1.ah nb ⟨aJ n' vA vP vB,42,false,false⟩).get c=H1.get c:=fun c hc=>by rw [az,if_neg (eW c hc).2.2.1]
 have bg:Fr [nb] H1 (H1.ah nb ⟨aJ n' vA vP vB,42,false,false⟩):=(Fr.refl _ _).ah (.inl (by simp)) _
 have Dh:=hl.pp.put ⟨aJ n' vA vP vB,42,false,false⟩ hl.nq hl.nr hl.nF
 refine ⟨h.fr.ah (.inl (by simp)) _,⟨h.lq.nq.fr bg Dh (by simpa using Ne.symm hl.nq) (fun c hc=>by simp;rintro rfl;exact h.lq.nm hc) (fun c hc=>by simp;rintro rfl;exact h.lq.ng hc),
  ⟨Dh,⟨vA,vP,vB,gA,gP,gB,by rw [az,if_pos rfl],h2.ae fun c hc=>k c (by simp [hc]),h3.ae fun c hc=>k c (by simp [hc]),h4.ae fun c hc=>k c (by simp [hc]),rfl⟩,hl.nl,hl.nr,hl.nq,hl.nF,eW⟩,
  h.lq.nm,h.lq.ng,fun c hc=>(hg c hc).elim (h.lq.gm c) fun e=>e.2.2.2.2.2⟩,h.le,h.sm,h.sg,fun c hc=>(hg c hc).elim (h.sn c) fun e=>.inr e.1,h.fz,h.fq,h.fb,h.fm,h.fn⟩
theorem QR.nd (h:QR zb L F c1 c2 c3 H q rb ns m g nb gn H1 cA bk m1 g1 n1 fY):∃vA vP vB,H1.get nb=some ⟨aJ n1 vA vP vB,42,false,false⟩:=by
 obtain ⟨Fq,oN,Dg,gA,gP,gB,h1,_⟩:=h.lq.ln.nd
 exact ⟨_,_,_,h1⟩
theorem QR.gh (h:QR zb L F c1 c2 c3 H q rb ns m g nb gn H1 cA bk m1 g1 n1 fY) {vA vP vB:Value} (cK:H1.get nb=some ⟨aJ n1 vA vP vB,42,false,false⟩) (n':aH) (ha:n'.args=n1.args) (hp:n'.pat=n1.pat) (hb:n'.ak=n1.ak):QR zb L F c1 c2 c3 H q rb ns m g nb gn (H1.ah nb ⟨aJ n' vA vP vB,42,false,false⟩) cA bk m1 g1 n' fY:=by
 obtain ⟨Fq,oN,Dg,gA,gP,gB,h1,h2,h3,h4,rfl⟩:=h.lq.ln.nd
 rw [cK] at h1
 cases h1
 exact h.node (ha▸h2) (hp▸h3) (hb▸h4) fun c hc=>.inl hc
theorem QR.new (h:QR zb L F c1 c2 c3 H q rb ns m g nb gn H1 cA bk m1 g1 n1 fY) {c:Nat} (hc:H1.next<=c):H.next<=c/\c≠rb/\c≠nb/\c≠q/\c∉m1:=
 ⟨Nat.le_trans h.fr.nx hc,by have:=h.pp.rl;omega,by have:=h.lq.ln.nl;omega,by have:=h.pp.ql;omega,fun e=>by have:=(h.lq.nq.hm c e).1;omega⟩
theorem QR.args (h:QR zb L F c1 c2 c3 H q rb ns m g nb gn H1 cA bk m1 g1 n1 fY) {vA vP vB v:Value} (cK:H1.get nb=some ⟨aJ n1 vA vP vB,42,false,false⟩) (n':aH) {f:List Nat} (hs:Sl jG H1 v n'.args f) (hf:∀c∈f,c < H1.next/\(H.next<=c/\c≠rb/\c≠nb/\c≠q/\c∉m1)) (hp:n'.pat=n1.pat) (hb:n'.ak=n1.ak):∃g',QR zb L F c1 c2 c3 H q rb ns m g nb gn (H1.ah nb ⟨aJ n' v vP vB,42,false,false⟩) cA bk m1 g1 n' g':=by
 obtain ⟨Fq,oN,Dg,gA,gP,gB,h1,h2,h3,h4,rfl⟩:=h.lq.ln.nd
 rw [cK] at h1
 cases h1
 refine ⟨_,h.node hs (hp▸h3) (hb▸h4) fun c hc=>?_⟩
 rcases List.mem_append.1 hc with e | e
 ·exact .inr ⟨(hf c e).2.1,(hf c e).1,(hf c e).2.2⟩
 ·exact .inl (List.mem_append_right _ e)
theorem QR.pat (h:QR zb L F c1 c2 c3 H q rb ns m g nb gn H1 cA bk m1 g1 n1 fY) {vA vP vB v:Value} (cK:H1.get nb=some ⟨aJ n1 vA vP vB,42,false,false⟩) (n':aH) {f:List Nat} (hs:Sl fy H1 v n'.pat f) (hf:∀c∈f,c < H1.next/\(H.next<=c/\c≠rb/\c≠nb/\c≠q/\c∉m1)) (ha:n'.args=n1.args) (hb:n'.ak=n1.ak):∃g',QR zb L F c1 c2 c3 H q rb ns m g nb gn (H1.ah nb ⟨aJ n' vA v vB,42,false,false⟩) cA bk m1 g1 n' g':=by
 obtain ⟨Fq,oN,Dg,gA,gP,gB,h1,h2,h3,h4,rfl⟩:=h.lq.ln.nd
 rw [cK] at h1
 cases h1
 refine ⟨_,h.node (ha▸h2) hs (hb▸h4) fun c hc=>?_⟩
 rcases List.mem_append.1 hc with e | e
 ·exact .inl (by simp [e])
 ·rcases List.mem_append.1 e with e | e
  ·exact .inr ⟨(hf c e).2.1,(hf c e).1,(hf c e).2.2⟩
  ·exact .inl (by simp [e])
theorem QR.bY (h:QR zb L F c1 c2 c3 H q rb ns m g nb gn H1 cA bk m1 g1 n1 fY) {vA vP vB v:Value} (cK:H1.get nb=some ⟨aJ n1 vA vP vB,42,false,false⟩) (n':aH) {f:List Nat} (hs:Sl dB H1 v n'.ak f) (hf:∀c∈f,c < H1.next/\(H.next<=c/\c≠rb/\c≠nb/\c≠q/\c∉m1)) (ha:n'.args=n1.args) (hp:n'.pat=n1.pat):∃g',QR zb L F c1 c2 c3 H q rb ns m g nb gn (H1.ah nb ⟨aJ n' vA vP v,42,false,false⟩) cA bk m1 g1 n' g':=by
 obtain ⟨Fq,oN,Dg,gA,gP,gB,h1,h2,h3,h4,rfl⟩:=h.lq.ln.nd
 rw [cK] at h1
 cases h1
 refine ⟨_,h.node (ha▸h2) (hp▸h3) hs fun c hc=>?_⟩
 rcases List.mem_append.1 hc with e | e
 ·exact .inl (by simp [e])
 ·rcases List.mem_append.1 e with e | e
  ·exact .inl (by simp [e])
  ·exact .inr ⟨(hf c e).2.1,(hf c e).1,(hf c e).2.2⟩
theorem QR.J3 (h:QR zb L F c1 c2 c3 H q rb ns m g nb gn H1 cA bk m1 g1 n1 fY) {bO:aG} {n':aH} (hp:GZ L F H1 q rb nb fY bO n' H2):∃rF,QR zb L F c1 c2 c3 H q rb ns m g nb gn H2 bO bk m1 g1 n' rF:=by
 obtain ⟨hf,hz,g2,h0,hs⟩:=hp
 have hm:=h.lq.nq.hm
 refine ⟨g2,h.fr.then (hf.sub fun c hc=>.inl (by simp at hc;rcases hc with e | e <;> simp [e])),⟨h.lq.nq.fr hf h0.pp (by simp;exact ⟨h.pp.qr,Ne.symm h.lq.ln.nq⟩) (fun c hc=>by simp;exact ⟨(hm c hc).2.1,by rintro rfl;exact h.lq.nm hc⟩) (fun c hc=>by simp;exact ⟨(h.lq.nq.hg c hc).2.1,by rintro rfl;exact h.lq.ng hc⟩),h0,h.lq.nm,h.lq.ng,fun c hc e=>?_⟩,
  h.le,h.sm,h.sg,fun c hc=>(hs c hc).elim (h.sn c) fun e=>.inr (Nat.le_trans h.fr.nx e),by rw [hz];exact h.fz,by rw [hz];exact h.fq,by rw [hz];exact h.fb,fun c hc=>by rw [hz];exact h.fm c hc,fun b hb=>by rw [hz];exact h.fn b (Nat.le_trans hf.nx hb)⟩
 rcases hs c hc with e' | e'
 ·exact h.lq.gm c e' e
 ·have:=(hm c e).1;omega
theorem QR.wi (h:QR zb L F c1 c2 c3 H q rb ns m g nb gn H1 cA bk m1 g1 n1 fY) {bO:aG} {ik:List aH} (hp:xG L F c1 c2 c3 H1 q rb bk m1 g1 bO ik H2):∃m2 g2,QR zb L F c1 c2 c3 H q rb ns m g nb gn H2 bO ik m2 g2 n1 fY:=by
 obtain ⟨hf,hz,hle,m2,g2,h0,hs,iN⟩:=hp
 have hl:=h.lq.ln
 have rv:=hl.nl
 have dO:=h.fr.nx
 refine ⟨m2,g2,h.fr.trans hf fun c hc=>?_,⟨h0,hl.fr hf h0.pp (by simp;exact ⟨hl.nr,hl.nq,h.lq.nm⟩) (fun c hc=>by simp;exact ⟨(hl.hg c hc).2.1,(hl.hg c hc).2.2.2,h.lq.gm c hc⟩),fun e=>(hs _ e).elim h.lq.nm fun e=>by omega,fun e=>(iN _ e).elim h.lq.ng fun e=>by omega,fun c hc e=>(hs c e).elim (h.lq.gm c hc) fun e=>by have:=(hl.hg c hc).1;omega⟩,
  Nat.le_trans h.le hle,fun c hc=>(hs c hc).elim (h.sm c) fun e=>.inr (Nat.le_trans dO e),fun c hc=>(iN c hc).elim (h.sg c) fun e=>.inr (Nat.le_trans dO e),h.sn,by rw [hz];exact h.fz,by rw [hz];exact h.fq,by rw [hz];exact h.fb,fun c hc=>?_,fun b hb=>by rw [hz];exact h.fn b (Nat.le_trans hf.nx hb)⟩
 ·simp only [List.mem_cons] at hc ⊢
  rcases hc with e | e | e
  ·exact .inl (.inl e)
  ·exact .inl (.inr (.inl e))
  ·exact (h.sm c e).imp (fun e=>.inr (.inr (.inr e))) id
 ·rw [hz]
  rcases hs c hc with e | e
  ·exact h.fm c e
  ·exact h.fn c e
theorem QR.ah9 (h:QR zb L F c1 c2 c3 H q rb ns m g nb gn H1 cA bk m1 g1 n1 fY) {bO:aG} {ik:List aH} {n':aH} (hp:QX L F c1 c2 c3 H1 q rb bk m1 g1 nb fY bO ik n' H2):∃m2 g2 rF,QR zb L F c1 c2 c3 H q rb ns m g nb gn H2 bO ik m2 g2 n' rF:=by
 obtain ⟨hf,hz,hle,m2,g2,rF,h0,hs,iN,IC⟩:=hp
 have dO:=h.fr.nx
 refine ⟨m2,g2,rF,h.fr.trans hf fun c hc=>?_,h0,Nat.le_trans h.le hle,fun c hc=>(hs c hc).elim (h.sm c) fun e=>.inr (Nat.le_trans dO e),fun c hc=>(iN c hc).elim (h.sg c) fun e=>.inr (Nat.le_trans dO e),fun c hc=>(IC c hc).elim (h.sn c) fun e=>.inr (Nat.le_trans dO e),by rw [hz];exact h.fz,by rw [hz];exact h.fq,by rw [hz];exact h.fb,fun c hc=>?_,fun b hb=>by rw [hz];exact h.fn b (Nat.le_trans hf.nx hb)⟩
 ·simp only [List.mem_cons] at hc ⊢
  rcases hc with e | e | e | e
  ·exact .inl (.inl e)
  ·exact .inl (.inr (.inl e))
  ·exact .inl (.inr (.inr (.inl e)))
  ·exact (h.sm c e).imp (fun e=>.inr (.inr (.inr e))) id
 ·rw [hz]
  rcases hs c hc with e | e
  ·exact h.fm c e
  ·exact h.fn c e
theorem QR.sm' (h:QR zb L F c1 c2 c3 H q rb ns m g nb gn H1 cA bk m1 g1 n1 fY):∀c∈m1,c∈rb::q::m∨H.next<=c:=fun c hc=>(h.sm c hc).imp (fun e=>by simp [e]) id
theorem QR.last (h:QR zb L F c1 c2 c3 H q rb ns m g nb gn H1 cA bk m1 g1 n1 fY):QX L F c1 c2 c3 H q rb ns m g nb gn cA bk n1 (H1.ai H.fz):=
 ⟨h.fr.ai _,fun _=>rfl,h.le,m1,g1,fY,h.lq.fr ((Fr.refl [] H1).ai _) h.pp.toPP0.ai (by simp) (by simp) (by simp) (by simp) (by simp),h.sm,h.sg,h.sn⟩
def A5 (L:List bh) (F:List Nat) (c1 c2 c3:Value) (q rb:Nat) (ba:Int->aG × List aH->Option (Int × aG × List aH)):Prop:=∀{H:ad} {st bO:aG} {ns ik:List aH} {m g:List Nat} {kind i:Int},NQ L F c1 c2 c3 H q rb st ns m g->ba kind (st,ns)=some (i,bO,ik)->
 aj Tryz.prog 143 #[pV q,iV kind] H (fun w H'=>w=iV i/\xG L F c1 c2 c3 H q rb ns m g bO ik H')
end
section
variable {zb:Bool} {L:List bh} {F:List Nat} {c1 c2 c3:Value} {H H1 H2:ad} {q rb nb:Nat} {st cA bu:aG} {ns bk bK:List aH} {m m1 m2 g g1 g2 gn fY rF:List Nat} {n n1 n2:aH}
theorem Xk (h:0 < lu L st):(tk L st).kind≠4:=by
 have Lm:∀(l:List bj) (k:Int),CO L st k l≠0->(tk L st).kind≠4:=by
  intro l
  induction l with
  | nil=>intro k h;exact absurd rfl h
  | cons s l ih=>
   intro k h
   rw [CO] at h
   split at h
   ·rename_i hw;exact jd hw
   ·exact ih _ h
 exact Lm tG 1 (by show lu L st≠0;omega)
theorem AG {e:Int} (he:e≠0):c9 (eQ e st)=false:=by
 unfold eQ c9
 split
 ·simpa using he
 ·simpa
abbrev pH:=Int->aG × List aH->Option (Int × aG × List aH)
def NI (L:List bh) (st:aG):aG:=if lu L st≠1/\lu L st≠2 then eQ 2 st else st
def Zt (L:List bh) (st:aG):aG:=if c9 (NI L st)=true then aC (NI L st) else NI L st
def Kp (L:List bh) (ba:pH) (st:aG) (ns:List aH) (n:aH):Option (aG × List aH × aH):=
 if c9 st=true then
  (if cQ L [110,101,119] st=true then some (aC st,ns,{n with kind:=1})
  else if cQ L [115,116,97,114,116] st=true then
   (let y:=cj L (aC st);let z:=qo L y.2;some (z.2,ns,{n with kind:=2,gV:=y.1,args:=z.1}))
  else if cQ L [103,101,116] st=true then
   (let y:=cj L (aC st);let x:=zr L y.2 {n with kind:=5,gf:=y.1};some (x.1,ns,x.2))
  else if cQ L [115,119,97,112] st=true then
   (let y:=cj L (aC st);let r:=cj L y.2;let f:=cj L (dA L [46] r.2);let a:=hV L (dA L [44] f.2);some (a.2,ns,{n with kind:=7,gf:=y.1,jq:=r.1,gV:=f.1,args:=[a.1]}))
  else if cQ L [114,101,99,111,118,101,114] st=true then
   (ba 2 (Zt L (aC st),ns)).map fun x=>(x.2.1,x.2.2,{n with kind:=8,cap:=lu L (aC st),a:=x.1})
  else if 0 < lu L st/\lu L st≠4 then
   some ((HC L (aC st) n (lu L st)).1,ns,(HC L (aC st) n (lu L st)).2)
  else some ((J2 L st n).1,ns,(J2 L st n).2))
 else some (st,ns,n)
theorem aia (hL:LG L) {ba:pH} (iI:A5 L F c1 c2 c3 q rb ba) (h:Ag L F c1 c2 c3 H q rb st ns m g nb n gn) (hz:H.fz rb=false) (vC:H.fz q=false) (cO:H.fz nb=false) (ID:∀c∈m,H.fz c=false) (ir:n.op=0) {R:aG × List aH × aH} (he:Kp L ba st ns n=some R):
  aj Tryz.prog 173 #[pV q,pV nb] H (fun w H'=>QX L F c1 c2 c3 H q rb ns m g nb gn R.1 R.2.1 R.2.2 H'):=by
 refine aj.told ?_
 refine afJ (Nat.le_refl _) fun hf=>?_
 simp only [Tryz.f173,Option.getD_some]
 simp only [go_sem]
 have r0:=QR.start h hz vC cO ID fun b hb=>hf.fresh hb
 have gj:=h.ln.nr
 have dL:¬rb=nb:=fun e=>gj e.symm
 have sO:¬q=nb:=fun e=>h.ln.nq e.symm
 have jt:=hL.len
 refine af.by (eJ r0.pp) ?_
 rintro _ _ - ⟨rfl,rfl⟩
 by_cases hb:c9 st=true
 ·rw [Kp,if_pos hb] at he
  simp only [go_sem,hb]
  refine af.by (NG r0.pp) ?_
  rintro _ H1 - ⟨rfl,p1⟩
  have r1:=r0.aY p1
  simp only [go_sem]
  refine af.by (fJ r1.pp) ?_
  rintro _ H2 - ⟨rfl,p2⟩
  have r2:=r1.aY p2
  by_cases h1:cQ L [110,101,119] st=true
  ·rw [if_pos h1] at he
   cases he
   obtain ⟨d1,d2,d3,d4,bL,oL,cL,a,k,c,hq,hr,cU,pa⟩:=r2.pp.iE hL (jd h1)
   have ra:=r2.aY pa
   obtain ⟨vA,vP,vB,cK⟩:=ra.nd
   have x5:=cK
   rw [az,if_neg gj] at x5
   simp only [go_sem,h1,hq,hr,hz,cU,gj,dL,sO,x5,cO]
   exact (ra.gh cK {n with kind:=1} rfl rfl rfl).last
  rw [if_neg h1] at he
  simp only [go_sem,h1]
  refine af.by (fJ r2.pp) ?_
  rintro _ H3 - ⟨rfl,p3⟩
  have r3:=r2.aY p3
  by_cases h2:cQ L [115,116,97,114,116] st=true
  ·rw [if_pos h2] at he
   dsimp only at he
   cases he
   obtain ⟨d1,d2,d3,d4,bL,oL,cL,a,k,c,hq,hr,cU,pa⟩:=r3.pp.iE hL (jd h2)
   have ra:=r3.aY pa
   simp only [go_sem,h2,hq,hr,hz,cU]
   refine af.by (jc hL ra.pp) ?_
   rintro _ H4 - ⟨rfl,p4⟩
   have r4:=ra.aY p4
   obtain ⟨vA,vP,vB,cK⟩:=r4.nd
   have r5:=r4.gh cK {n with kind:=2,gV:=(cj L (aC st)).1} rfl rfl rfl
   simp only [go_sem,cK,cO]
   rw [q8]
   refine af.by (GX hL r5.pp) ?_
   rintro va H6 - ⟨⟨ga,hW,jK⟩,p6⟩
   have r6:=r5.aY p6
   obtain ⟨Fs,qF,qG,kZ⟩:=r6.nd
   obtain ⟨aa,ca,yK⟩:=hW.val
   subst yK
   simp only [go_sem,kZ,cO]
   obtain ⟨g7,r7⟩:=r6.args kZ {n with kind:=2,gV:=(cj L (aC st)).1,args:=(qo L (cj L (aC st)).2).1} hW (fun b hb=>⟨(jK b hb).2,r5.new (jK b hb).1⟩) rfl rfl
   exact r7.last
  rw [if_neg h2] at he
  simp only [go_sem,h2]
  refine af.by (fJ r3.pp) ?_
  rintro _ H4 - ⟨rfl,p4⟩
  have r4:=r3.aY p4
  by_cases h3:cQ L [103,101,116] st=true
  ·rw [if_pos h3] at he
   dsimp only at he
   cases he
   obtain ⟨d1,d2,d3,d4,bL,oL,cL,a,k,c,hq,hr,cU,pa⟩:=r4.pp.iE hL (jd h3)
   have ra:=r4.aY pa
   simp only [go_sem,h3,hq,hr,hz,cU]
   refine af.by (jc hL ra.pp) ?_
   rintro _ H5 - ⟨rfl,p5⟩
   have r5:=ra.aY p5
   obtain ⟨vA,vP,vB,cK⟩:=r5.nd
   have r6:=r5.gh cK {n with kind:=5,gf:=(cj L (aC st)).1} rfl rfl rfl
   simp only [go_sem,cK,cO]
   rw [q8]
   refine af.by (acp hL r6.ln) ?_
   rintro _ H7 - p7
   obtain ⟨g7,r7⟩:=r6.J3 p7
   simp only [go_sem]
   exact r7.last
  rw [if_neg h3] at he
  simp only [go_sem,h3]
  refine af.by (fJ r4.pp) ?_
  rintro _ H5 - ⟨rfl,p5⟩
  have r5:=r4.aY p5
  by_cases h4:cQ L [115,119,97,112] st=true
  ·rw [if_pos h4] at he
   dsimp only at he
   cases he
   obtain ⟨d1,d2,d3,d4,bL,oL,cL,a,k,c,hq,hr,cU,pa⟩:=r5.pp.iE hL (jd h4)
   have ra:=r5.aY pa
   simp only [go_sem,h4,hq,hr,hz,cU]
   refine af.by (jc hL ra.pp) ?_
   rintro _ H6 - ⟨rfl,p6⟩
   have r6:=ra.aY p6
   obtain ⟨vA,vP,vB,cK⟩:=r6.nd
   have r7:=r6.gh cK {n with kind:=7,gf:=(cj L (aC st)).1} rfl rfl rfl
   simp only [go_sem,cK,cO]
   rw [q8]
   generalize cj L (aC st)=y at p6 r6 r7
   refine af.by (jc hL r7.pp) ?_
   rintro _ H8 - ⟨rfl,p8⟩
   have r8:=r7.aY p8
   obtain ⟨vA8,vP8,vB8,uQ⟩:=r8.nd
   have r9:=r8.gh uQ {n with kind:=7,gf:=y.1,jq:=(cj L y.2).1} rfl rfl rfl
   simp only [go_sem,uQ,cO]
   generalize cj L y.2=yr at p8 r8 r9
   refine af.by (iB hL r9.pp) ?_
   rintro _ dd - jZ
   have cP:=r9.aY jZ
   simp only [go_sem]
   refine af.by (jc hL cP.pp) ?_
   rintro _ dS - ⟨rfl,qI⟩
   have df:=cP.aY qI
   obtain ⟨auY,auZ,au0,Yw⟩:=df.nd
   have dh:=df.gh Yw {n with kind:=7,gf:=y.1,jq:=yr.1,gV:=(cj L (dA L [46] yr.2)).1} rfl rfl rfl
   simp only [go_sem,Yw,cO]
   generalize cj L (dA L [46] yr.2)=yf at qI df dh
   refine af.by (iB hL dh.pp) ?_
   rintro _ jl - oK
   have gu:=dh.aY oK
   simp only [go_sem]
   refine af.by (CB hL gu.pp) ?_
   rintro _ jv - ⟨rfl,O0⟩
   have j0:=gu.aY O0
   obtain ⟨ajM,ajN,ajO,Yx⟩:=j0.nd
   generalize hV L (dA L [44] yf.2)=x at O0 j0
   have nn:¬nb=jv.next:=by have:=j0.lq.ln.nl;omega
   simp only [go_sem,Yx,cO,nn,eA qn (by decide) (by decide)]
   have l3:=j0.push ⟨[iV x.1.kind,iV x.1.n,ag x.1.name],44,false,false⟩
   have aib:(jv.push ⟨[iV x.1.kind,iV x.1.n,ag x.1.name],44,false,false⟩).get nb=some ⟨aJ {n with kind:=7,gf:=y.1,jq:=yr.1,gV:=yf.1} ajM ajN ajO,42,false,false⟩:=by rw [bS j0.lq.ln.nl];exact Yx
   obtain ⟨O1,Ah⟩:=l3.args aib {n with kind:=7,gf:=y.1,jq:=yr.1,gV:=yf.1,args:=[x.1]} JG (fun c hc=>by rw [List.mem_singleton] at hc;subst hc;exact ⟨Nat.lt_succ_self _,j0.new (Nat.le_refl _)⟩) rfl rfl
   exact Ah.last
  rw [if_neg h4] at he
  simp only [go_sem,h4]
  refine af.by (fJ r5.pp) ?_
  rintro _ H6 - ⟨rfl,p6⟩
  have r6:=r5.aY p6
  by_cases h5:cQ L [114,101,99,111,118,101,114] st=true
  ·rw [if_pos h5] at he
   obtain ⟨d1,d2,d3,d4,bL,oL,cL,a,k,c,hq,hr,cU,pa⟩:=r6.pp.iE hL (jd h5)
   have ra:=r6.aY pa
   simp only [go_sem,h5,hq,hr,hz,cU]
   refine af.by (NG ra.pp) ?_
   rintro _ H7 - ⟨rfl,p7⟩
   have r7:=ra.aY p7
   obtain ⟨vA,vP,vB,cK⟩:=r7.nd
   have r8:=r7.gh cK {n with kind:=8,cap:=lu L (aC st)} rfl rfl rfl
   simp only [go_sem,cK,cO]
   rw [q8]
   obtain ⟨vA8,vP8,vB8,uQ⟩:=r8.nd
   have yB:=Xk (L:=L) (st:=aC st)
   rw [Zt,NI] at he
   generalize BC:lu L (aC st)=cp at p7 r7 r8 uQ he yB
   cases ff:ba 2 (if c9 (if cp≠1/\cp≠2 then eQ 2 (aC st) else aC st)=true then aC (if cp≠1/\cp≠2 then eQ 2 (aC st) else aC st) else (if cp≠1/\cp≠2 then eQ 2 (aC st) else aC st),ns) with
   | none=>rw [ff] at he;cases he
   | some B=>
    obtain ⟨bi,bs,bn⟩:=B
    rw [ff] at he
    cases he
    by_cases e1:cp=1
    ·subst e1
     rw [show (if (1:Int)≠1/\(1:Int)≠2 then eQ 2 (aC st) else aC st)=aC st from if_neg (by decide)] at ff
     simp only [go_sem]
     refine af.by (eJ r8.pp) ?_
     rintro _ _ - ⟨rfl,rfl⟩
     by_cases hk:c9 (aC st)=true
     ·rw [if_pos hk] at ff
      obtain ⟨d1,d2,d3,d4,bL,oL,cL,a,k,c,hq,hr,cU,pa⟩:=r8.pp.iE hL (yB (by decide))
      have Di:=r8.aY pa
      simp only [go_sem,hk,hq,hr,hz,cU]
      refine af.by (iI Di.nq ff) ?_
      rintro _ ku - ⟨rfl,jL⟩
      obtain ⟨jO,jQ,iU⟩:=Di.wi jL
      obtain ⟨CS,CU,CV,j8⟩:=iU.nd
      simp only [go_sem,j8,cO]
      exact (iU.gh j8 {n with kind:=8,cap:=1,a:=bi} rfl rfl rfl).last
     ·rw [if_neg hk] at ff
      simp only [go_sem,hk]
      refine af.by (iI r8.nq ff) ?_
      rintro _ ku - ⟨rfl,jL⟩
      obtain ⟨jO,jQ,iU⟩:=r8.wi jL
      obtain ⟨CS,CU,CV,j8⟩:=iU.nd
      simp only [go_sem,j8,cO]
      exact (iU.gh j8 {n with kind:=8,cap:=1,a:=bi} rfl rfl rfl).last
    by_cases e2:cp=2
    ·subst e2
     rw [show (if (2:Int)≠1/\(2:Int)≠2 then eQ 2 (aC st) else aC st)=aC st from if_neg (by decide)] at ff
     simp only [go_sem,uQ]
     refine af.by (eJ r8.pp) ?_
     rintro _ _ - ⟨rfl,rfl⟩
     by_cases hk:c9 (aC st)=true
     ·rw [if_pos hk] at ff
      obtain ⟨d1,d2,d3,d4,bL,oL,cL,a,k,c,hq,hr,cU,pa⟩:=r8.pp.iE hL (yB (by decide))
      have Di:=r8.aY pa
      simp only [go_sem,hk,hq,hr,hz,cU]
      refine af.by (iI Di.nq ff) ?_
      rintro _ ku - ⟨rfl,jL⟩
      obtain ⟨jO,jQ,iU⟩:=Di.wi jL
      obtain ⟨CS,CU,CV,j8⟩:=iU.nd
      simp only [go_sem,j8,cO]
      exact (iU.gh j8 {n with kind:=8,cap:=2,a:=bi} rfl rfl rfl).last
     ·rw [if_neg hk] at ff
      simp only [go_sem,hk]
      refine af.by (iI r8.nq ff) ?_
      rintro _ ku - ⟨rfl,jL⟩
      obtain ⟨jO,jQ,iU⟩:=r8.wi jL
      obtain ⟨CS,CU,CV,j8⟩:=iU.nd
      simp only [go_sem,j8,cO]
      exact (iU.gh j8 {n with kind:=8,cap:=2,a:=bi} rfl rfl rfl).last
    rw [show (if cp≠1/\cp≠2 then eQ 2 (aC st) else aC st)=eQ 2 (aC st) from if_pos ⟨e1,e2⟩,if_neg (by rw [AG (by decide)];exact Bool.false_ne_true)] at ff
    simp only [go_sem,uQ,e1,e2]
    refine af.by (kK r8.pp) ?_
    rintro _ H9 - p9
    have r9:=r8.aY p9
    simp only [go_sem]
    refine af.by (eJ r9.pp) ?_
    rintro _ _ - ⟨rfl,rfl⟩
    simp only [go_sem,AG (show (2:Int)≠0 by decide)]
    refine af.by (iI r9.nq ff) ?_
    rintro _ ku - ⟨rfl,jL⟩
    obtain ⟨jO,jQ,iU⟩:=r9.wi jL
    obtain ⟨CS,CU,CV,j8⟩:=iU.nd
    simp only [go_sem,j8,cO]
    exact (iU.gh j8 {n with kind:=8,cap:=cp,a:=bi} rfl rfl rfl).last
  rw [if_neg h5] at he
  simp only [go_sem,h5]
  by_cases h6:0 < lu L st/\lu L st≠4
  ·rw [if_pos h6] at he
   cases he
   obtain ⟨IE,Ul⟩:=h6
   obtain ⟨d1,d2,d3,d4,bL,oL,cL,a,k,c,hq,hr,cU,pa⟩:=r6.pp.iE hL (Xk IE)
   have ra:=r6.aY pa
   simp only [go_sem,IE,Ul,hq,hr,hz,cU]
   refine af.by (af8 hL ra.ln) ?_
   rintro _ H7 - p7
   obtain ⟨g7,r7⟩:=ra.J3 p7
   simp only [go_sem]
   exact r7.last
  ·rw [if_neg h6] at he
   cases he
   by_cases IE:0 < lu L st
   ·have Ul:lu L st=4:=Classical.byContradiction fun e=>h6 ⟨IE,e⟩
    have h6c:(0:Int) < 4:=by decide
    simp only [go_sem,IE,Ul,h6c]
    refine af.by (X6 hL r6.ln ir) ?_
    rintro _ H7 - p7
    obtain ⟨g7,r7⟩:=r6.J3 p7
    simp only [go_sem]
    exact r7.last
   ·simp only [go_sem,IE]
    refine af.by (X6 hL r6.ln ir) ?_
    rintro _ H7 - p7
    obtain ⟨g7,r7⟩:=r6.J3 p7
    simp only [go_sem]
    exact r7.last
 ·rw [Kp,if_neg hb] at he
  cases he
  simp only [go_sem,hb]
  exact r0.last
end
end Go.Proofs.YtinjmfblebpnnaaGreat.Ab
