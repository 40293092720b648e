/- Lemmas for the walk, part 3. -/
import Derived.Test.YtinjmfblebpnnaaGreatC2
set_option linter.unusedVariables false
set_option linter.unusedSimpArgs false
set_option maxRecDepth 100000
set_option maxHeartbeats 16000000
namespace Go.Proofs.YtinjmfblebpnnaaGreat.Ab
open Go
theorem pG:Tryz.prog.underlying 9=some .string:=by kernel_rfl
abbrev cV (c:UInt8):Value:=.int .u8 ((c.toNat:Nat):Int)
theorem NJ {H:ad} {c:UInt8}:ak Tryz.prog 86 #[cV c] H (fun r H'=>r=.bool (nC c)/\H=H'):=by
 refine ajg (Nat.le_refl _) fun hf=>?_
 simp only [Tryz.f86,Option.getD_some]
 by_cases h1:(97:Int)<=((c.toNat:Nat):Int)
 ·have lU:97<=c.toNat:=by omega
  by_cases h2:((c.toNat:Nat):Int)<=122
  ·have vU:c.toNat<=122:=by omega
   simp only [go_sem,h1,h2]
   simp [nC,lU,vU]
  ·have vU:¬c.toNat<=122:=by omega
   simp only [go_sem,h1,h2]
   simp [nC,lU,vU]
 ·have lU:¬97<=c.toNat:=by omega
  simp only [go_sem,h1]
  simp [nC,lU]
theorem HO {H:ad} {c:UInt8}:ak Tryz.prog 87 #[cV c] H (fun r H'=>r=.bool (isDigit c)/\H=H'):=by
 refine aji (Nat.le_refl _) fun hf=>?_
 simp only [Tryz.f87,Option.getD_some]
 by_cases h1:(48:Int)<=((c.toNat:Nat):Int)
 ·have lU:48<=c.toNat:=by omega
  by_cases h2:((c.toNat:Nat):Int)<=57
  ·have vU:c.toNat<=57:=by omega
   simp only [go_sem,h1,h2]
   simp [isDigit,lU,vU]
  ·have vU:¬c.toNat<=57:=by omega
   simp only [go_sem,h1,h2]
   simp [isDigit,lU,vU]
 ·have lU:¬48<=c.toNat:=by omega
  simp only [go_sem,h1]
  simp [isDigit,lU]
theorem ahp {H:ad} {c:UInt8}:ak Tryz.prog 88 #[cV c] H (fun r H'=>r=.bool (EJ c)/\H=H'):=by
 refine ajk (Nat.le_refl _) fun hf=>?_
 simp only [Tryz.f88,Option.getD_some]
 simp only [go_sem]
 refine iw 65524 18 (fun i V H1=>V 4=.int .i64 (i:Nat)/\H=H1/\∀k,k < i->ub[k]?≠some c) ⟨by simp only [go_sem];rfl,rfl,by omega⟩ ?_ ?_ (by rfl)
 ·rintro i V H1 hi ⟨e4,rfl,mX⟩
  have eG:i < ub.length:=hi
  have hlen:(ub.length:Nat)=18:=rfl
  have jg:ub[i]?=some ub[i]:=List.getElem?_eq_getElem eG
  have hS:((ByteArray.mk #[40,41,123,125,91,93,44,59,58,61,46,43,45,42,60,94,33,63]))=⟨ub.toArray⟩:=rfl
  have mN:=fun h=>xT (P:=Tryz.prog) (h:=h) pG jg
  have iq:=fun h=>HM (P:=Tryz.prog) (h:=h) (s:=ub) pG
  simp only [go_sem,e4,hS,iq,hlen,mN,hi]
  by_cases hd:ub[i].toNat=c.toNat
  ·have hc:ub[i]=c:=UInt8.toNat_inj.1 hd
   simp only [go_sem,hd]
   have:EJ c=true:=by rw [<-hc,EJ,List.contains_iff_mem];exact List.getElem_mem eG
   rw [this]
  ·have dv:ub[i]?≠some c:=fun h=>hd (by rw [jg] at h;cases h;rfl)
   simp only [go_sem,hd,e4,cZ hi (by omega)]
   intro k hk
   by_cases e:k=i
   ·subst e;exact dv
   ·exact mX k (by omega)
 ·rintro V H1 ⟨e4,rfl,mX⟩
  have hlen:(ub.length:Nat)=18:=rfl
  have hS:((ByteArray.mk #[40,41,123,125,91,93,44,59,58,61,46,43,45,42,60,94,33,63]))=⟨ub.toArray⟩:=rfl
  have iq:=fun h=>HM (P:=Tryz.prog) (h:=h) (s:=ub) pG
  simp only [go_sem,e4,hS,iq,hlen]
  have:EJ c=false:=by
   rw [Bool.eq_false_iff,EJ,Ne,List.contains_iff_mem,List.mem_iff_getElem?]
   rintro ⟨k,hk⟩
   exact mX k (by have:=(List.getElem?_eq_some_iff.1 hk).1;rw [hlen] at this;exact this) hk
  rw [this]
theorem Ot {p:UInt8->Bool}:∀{l:bf} {j:Nat},j < (l.takeWhile p).length->∃d,l[j]?=some d/\p d=true
 | [],j,h=>by simp at h
 | c::l,j,h=>by
  rw [List.takeWhile_cons] at h
  split at h
  ·rename_i hc
   cases j with
   | zero=>exact ⟨c,rfl,hc⟩
   | succ j=>exact Ot (l:=l) (by simpa using h)
  ·simp at h
theorem N6 {p:UInt8->Bool}:∀{l:bf} {d:UInt8},l[(l.takeWhile p).length]?=some d->p d=false
 | [],d,h=>by simp at h
 | c::l,d,h=>by
  rw [List.takeWhile_cons] at h
  split at h
  ·exact N6 (l:=l) (by simpa using h)
  ·rename_i hc
   simp at h;subst h;simpa using hc
theorem HB {a b:Nat} (h:b<=a) (ha:a < 9223372036854775808):IntKind.wrap .i64 (((a:Nat):Int) - ((b:Nat):Int))=((a - b:Nat):Int):=by
 rw [show ((a:Nat):Int) - ((b:Nat):Int)=((a - b:Nat):Int) from by omega]
 exact vf (by omega)
def pvO (i:Nat):Option (Int × Nat)->Int × Int
 | some (kind,k)=>(kind,((i+k:Nat):Int))
 | none=>(0,0)
def uc (s:bf) (i:Nat):Int × Int:=pvO i (zR (s.drop i))
theorem aes {H:ad} {s:bf} {i:Nat} (hi:i < s.length) (hl:s.length < 1000000):
  ak Tryz.prog 68 #[ae s,iV (i:Nat)] H (fun r H'=>r=.tuple #[iV (uc s i).1,iV (uc s i).2]/\H=H'):=by
 refine aiP (Nat.le_refl _) fun hf=>?_
 simp only [Tryz.f68,Option.getD_some]
 have jg:s[i]?=some s[i]:=List.getElem?_eq_getElem hi
 have cE:s.drop i=s[i]::s.drop (i+1):=(List.getElem_cons_drop hi).symm
 have Mc:zR (s.drop i)=vg s[i] (s.drop i):=by rw [cE];rfl
 generalize hc:s[i]=c at jg cE Mc
 have mN:=fun h=>xT (P:=Tryz.prog) (h:=h) pG jg
 have iq:=fun h=>HM (P:=Tryz.prog) (h:=h) (s:=s) pG
 simp only [go_sem,mN]
 refine ag.by NJ ?_
 rintro _ _ - ⟨rfl,rfl⟩
 by_cases h1:nC c=true
 ·simp only [go_sem,h1]
  have fY:((s.drop i).takeWhile kj).length<=(s.drop i).length:=(List.takeWhile_prefix _).length_le
  rw [List.length_drop] at fY
  have th:uc s i=if 16 < ((s.drop i).takeWhile kj).length then (0,0) else (1,((i+((s.drop i).takeWhile kj).length:Nat):Int)):=by
   rw [uc,Mc,vg,if_pos h1]
   by_cases oG:16 < ((s.drop i).takeWhile kj).length
   ·rw [if_pos oG,if_pos oG];rfl
   ·rw [if_neg oG,if_neg oG];rfl
  generalize hk:((s.drop i).takeWhile kj).length=k at fY th
  refine iw 137438945344 k (fun j V H1=>V 6=iV ((i+j:Nat):Int)/\H=H1) ⟨by simp only [go_sem] <;> rfl,rfl⟩ ?_ ?_ (by rfl)
  ·rintro j V H1 hj ⟨e6,rfl⟩
   obtain ⟨d,hd,hw⟩:=Ot (p:=kj) (l:=s.drop i) (by rw [hk];exact hj)
   rw [List.getElem?_drop] at hd
   have oI:i+j < s.length:=by omega
   have sB:=fun h=>xT (P:=Tryz.prog) (h:=h) pG hd
   have eV:IntKind.wrap .i64 (((i+j:Nat):Int)+1)=((i+(j+1):Nat):Int):=cZ oI (by omega)
   simp only [go_sem,e6,iq,oI,sB]
   refine ag.by NJ ?_
   rintro _ _ - ⟨rfl,rfl⟩
   by_cases uO:nC d=true
   ·simp only [go_sem,uO,e6,eV]
   ·simp only [go_sem,uO,e6,sB]
    refine ag.by HO ?_
    rintro _ _ - ⟨rfl,rfl⟩
    by_cases DR:isDigit d=true
    ·simp only [go_sem,DR,e6,eV]
    ·have PI:((d.toNat:Nat):Int)=95:=by
      have:d=95:=by simpa [kj,uO,DR] using hw
      rw [this];rfl
     simp only [go_sem,DR,e6,sB,PI,eV]
  ·rintro V H1 ⟨e6,rfl⟩
   by_cases oI:i+k < s.length
   ·have hd:s[i+k]?=some s[i+k]:=List.getElem?_eq_getElem oI
    generalize s[i+k]=d at hd
    have hw:=N6 (p:=kj) (l:=s.drop i) (d:=d) (by rw [hk,List.getElem?_drop];exact hd)
    have sB:=fun h=>xT (P:=Tryz.prog) (h:=h) pG hd
    have uO:nC d=false:=by simp [kj] at hw;exact hw.1.1
    have DR:isDigit d=false:=by simp [kj] at hw;exact hw.1.2
    have PI:¬((d.toNat:Nat):Int)=95:=fun e=>by
     simp [kj] at hw
     exact hw.2 (UInt8.toNat_inj.1 (by show d.toNat=95;omega))
    simp only [go_sem,e6,iq,oI,sB]
    refine ag.by NJ ?_
    rintro _ _ - ⟨rfl,rfl⟩
    simp only [go_sem,uO,e6,sB]
    refine ag.by HO ?_
    rintro _ _ - ⟨rfl,rfl⟩
    simp only [go_sem,DR,e6,sB,PI]
    have uu:IntKind.wrap .i64 (((i+k:Nat):Int) - ((i:Nat):Int))=((k:Nat):Int):=by rw [HB (by omega) (by omega),Nat.add_sub_cancel_left]
    rw [th]
    by_cases oG:16 < k
    ·have Fm:(16:Int) < ((k:Nat):Int):=by omega
     simp only [go_sem,uu,Fm,oG]
    ·have Fm:¬(16:Int) < ((k:Nat):Int):=by omega
     simp only [go_sem,uu,Fm,oG,e6]
   ·have pO:¬i+k < s.length:=oI
    simp only [go_sem,e6,iq,pO]
    have uu:IntKind.wrap .i64 (((i+k:Nat):Int) - ((i:Nat):Int))=((k:Nat):Int):=by rw [HB (by omega) (by omega),Nat.add_sub_cancel_left]
    rw [th]
    by_cases oG:16 < k
    ·have Fm:(16:Int) < ((k:Nat):Int):=by omega
     simp only [go_sem,uu,Fm,oG]
    ·have Fm:¬(16:Int) < ((k:Nat):Int):=by omega
     simp only [go_sem,uu,Fm,oG,e6]
 simp only [go_sem,h1,mN]
 refine ag.by HO ?_
 rintro _ _ - ⟨rfl,rfl⟩
 by_cases h2:isDigit c=true
 ·simp only [go_sem,h2]
  have fY:((s.drop i).takeWhile isDigit).length<=(s.drop i).length:=(List.takeWhile_prefix _).length_le
  rw [List.length_drop] at fY
  have th:uc s i=if 9 < ((s.drop i).takeWhile isDigit).length∨1 < ((s.drop i).takeWhile isDigit).length/\c=48 then (0,0) else (2,((i+((s.drop i).takeWhile isDigit).length:Nat):Int)):=by
   rw [uc,Mc,vg,if_neg h1,if_pos h2]
   by_cases oG:9 < ((s.drop i).takeWhile isDigit).length∨1 < ((s.drop i).takeWhile isDigit).length/\c=48
   ·rw [if_pos oG,if_pos oG];rfl
   ·rw [if_neg oG,if_neg oG];rfl
  generalize hk:((s.drop i).takeWhile isDigit).length=k at fY th
  refine iw 576320014815068224 k (fun j V H1=>V 6=iV ((i+j:Nat):Int)/\H=H1) ⟨by simp only [go_sem] <;> rfl,rfl⟩ ?_ ?_ (by rfl)
  ·rintro j V H1 hj ⟨e6,rfl⟩
   obtain ⟨d,hd,hw⟩:=Ot (p:=isDigit) (l:=s.drop i) (by rw [hk];exact hj)
   rw [List.getElem?_drop] at hd
   have oI:i+j < s.length:=by omega
   have sB:=fun h=>xT (P:=Tryz.prog) (h:=h) pG hd
   have eV:IntKind.wrap .i64 (((i+j:Nat):Int)+1)=((i+(j+1):Nat):Int):=cZ oI (by omega)
   simp only [go_sem,e6,iq,oI,sB]
   refine ag.by HO ?_
   rintro _ _ - ⟨rfl,rfl⟩
   simp only [go_sem,hw,e6,eV]
  ·rintro V H1 ⟨e6,rfl⟩
   have uu:IntKind.wrap .i64 (((i+k:Nat):Int) - ((i:Nat):Int))=((k:Nat):Int):=by rw [HB (by omega) (by omega),Nat.add_sub_cancel_left]
   have Dr:∀{Q:Prop},(9 < k->Q)->(¬9 < k->¬1 < k->Q)->(¬9 < k->1 < k->c=48->Q)->(¬9 < k->1 < k->c≠48->Q)->Q:=fun a b c' d=>by
    by_cases x1:9 < k
    ·exact a x1
    by_cases x2:1 < k
    ·by_cases x3:c=48
     ·exact c' x1 x2 x3
     ·exact d x1 x2 x3
    ·exact b x1 x2
   by_cases oI:i+k < s.length
   ·have hd:s[i+k]?=some s[i+k]:=List.getElem?_eq_getElem oI
    generalize s[i+k]=d at hd
    have hw:=N6 (p:=isDigit) (l:=s.drop i) (d:=d) (by rw [hk,List.getElem?_drop];exact hd)
    have sB:=fun h=>xT (P:=Tryz.prog) (h:=h) pG hd
    simp only [go_sem,e6,iq,oI,sB]
    refine ag.by HO ?_
    rintro _ _ - ⟨rfl,rfl⟩
    rw [th]
    refine Dr (fun a=>?_) (fun a b=>?_) (fun a b c'=>?_) (fun a b c'=>?_)
    ·rw [if_pos (.inl a)]
     have a':(9:Int) < ((k:Nat):Int):=by omega
     simp only [go_sem,hw,e6,uu,a']
    ·rw [if_neg fun h=>h.elim a fun h=>b h.1]
     have a':¬(9:Int) < ((k:Nat):Int):=by omega
     have b':¬(1:Int) < ((k:Nat):Int):=by omega
     simp only [go_sem,hw,e6,uu,a',b']
    ·rw [if_pos (.inr ⟨b,c'⟩)]
     have a':¬(9:Int) < ((k:Nat):Int):=by omega
     have b':(1:Int) < ((k:Nat):Int):=by omega
     have cc:((c.toNat:Nat):Int)=48:=by rw [c'];rfl
     simp only [go_sem,hw,e6,uu,a',b',mN,cc]
    ·rw [if_neg fun h=>h.elim a fun h=>c' h.2]
     have a':¬(9:Int) < ((k:Nat):Int):=by omega
     have b':(1:Int) < ((k:Nat):Int):=by omega
     have cc:¬((c.toNat:Nat):Int)=48:=fun e=>c' (UInt8.toNat_inj.1 (by show c.toNat=48;omega))
     simp only [go_sem,hw,e6,uu,a',b',mN,cc]
   ·simp only [go_sem,e6,iq,oI]
    rw [th]
    refine Dr (fun a=>?_) (fun a b=>?_) (fun a b c'=>?_) (fun a b c'=>?_)
    ·rw [if_pos (.inl a)]
     have a':(9:Int) < ((k:Nat):Int):=by omega
     simp only [go_sem,e6,uu,a']
    ·rw [if_neg fun h=>h.elim a fun h=>b h.1]
     have a':¬(9:Int) < ((k:Nat):Int):=by omega
     have b':¬(1:Int) < ((k:Nat):Int):=by omega
     simp only [go_sem,e6,uu,a',b']
    ·rw [if_pos (.inr ⟨b,c'⟩)]
     have a':¬(9:Int) < ((k:Nat):Int):=by omega
     have b':(1:Int) < ((k:Nat):Int):=by omega
     have cc:((c.toNat:Nat):Int)=48:=by rw [c'];rfl
     simp only [go_sem,e6,uu,a',b',mN,cc]
    ·rw [if_neg fun h=>h.elim a fun h=>c' h.2]
     have a':¬(9:Int) < ((k:Nat):Int):=by omega
     have b':(1:Int) < ((k:Nat):Int):=by omega
     have cc:¬((c.toNat:Nat):Int)=48:=fun e=>c' (UInt8.toNat_inj.1 (by show c.toNat=48;omega))
     simp only [go_sem,e6,uu,a',b',mN,cc]
 simp only [go_sem,h2,mN]
 refine ag.by ahp ?_
 rintro _ _ - ⟨rfl,rfl⟩
 by_cases h3:EJ c=true
 ·have th:uc s i=(3,((i+1:Nat):Int)):=by rw [uc,Mc,vg,if_neg h1,if_neg h2,if_pos h3];rfl
  rw [th]
  simp only [go_sem,h3,cZ hi (by omega)]
 ·have th:uc s i=(0,0):=by rw [uc,Mc,vg,if_neg h1,if_neg h2,if_neg h3];rfl
  rw [th]
  simp only [go_sem,h3]
theorem Zc:∀{s:bf} {n:Nat},s.all isDigit=true->s.foldl (fun n c=>10 * n+(c.toNat - 48)) n < (n+1) * 10 ^ s.length
 | [],n,h=>by simp
 | c::s,n,h=>by
  simp only [List.all_cons,Bool.and_eq_true] at h
  have hc:c.toNat - 48<=9:=by have:=h.1;simp [isDigit] at this;omega
  rw [List.foldl_cons,List.length_cons,Nat.pow_succ]
  refine Nat.lt_of_lt_of_le (Zc h.2) ?_
  have:(10 * n+(c.toNat - 48)+1)<=(n+1) * 10:=by omega
  calc (10 * n+(c.toNat - 48)+1) * 10 ^ s.length<=((n+1) * 10) * 10 ^ s.length:=Nat.mul_le_mul_right _ this
   _=(n+1) * (10 ^ s.length * 10):=by rw [Nat.mul_assoc,Nat.mul_comm 10]
theorem ac0 {s:bf} (h:s.all isDigit=true) (hl:s.length<=9):mE s < 1000000000:=by
 have:=Zc (n:=0) h
 refine Nat.lt_of_lt_of_le this ?_
 rw [Nat.zero_add,Nat.one_mul]
 exact Nat.pow_le_pow_right (by decide) hl
theorem wrap_u8 {n:Nat} (h:n < 256):IntKind.wrap .u8 ((n:Nat):Int)=((n:Nat):Int):=by
 unfold IntKind.wrap
 simp only [IntKind.bits,IntKind.signed,Bool.false_and]
 rw [if_neg (by decide)]
 omega
theorem adO {H:ad} {s:bf} (h:s.all isDigit=true) (hl:s.length<=9):ak Tryz.prog 69 #[ae s] H (fun r H'=>r=iV (mE s:Nat)/\H=H'):=by
 refine aiR (Nat.le_refl _) fun hf=>?_
 simp only [Tryz.f69,Option.getD_some]
 have iq:=fun h=>HM (P:=Tryz.prog) (h:=h) (s:=s) pG
 simp only [go_sem]
 refine iw 524280 s.length (fun i V H1=>V 4=iV (i:Nat)/\V 3=iV (mE (s.take i):Nat)/\H=H1) ⟨by simp only [go_sem] <;> rfl,by simp only [go_sem] <;> rfl,rfl⟩ ?_ ?_ (by rfl)
 ·rintro i V H1 hi ⟨e4,e3,rfl⟩
  have jg:s[i]?=some s[i]:=List.getElem?_eq_getElem hi
  have hd:isDigit s[i]=true:=List.all_eq_true.1 h _ (List.getElem_mem hi)
  generalize s[i]=c at jg hd
  have mN:=fun h=>xT (P:=Tryz.prog) (h:=h) pG jg
  have hc:48<=c.toNat/\c.toNat<=57:=by simpa [isDigit] using hd
  have iU:(s.take i).all isDigit=true:=List.all_eq_true.2 fun x hx=>List.all_eq_true.1 h x (List.mem_of_mem_take hx)
  have hb:=ac0 iU (by simp;omega)
  have iF:s.take (i+1)=s.take i++[c]:=by rw [List.take_add_one,jg];rfl
  have S0:mE (s.take (i+1))=10 * mE (s.take i)+(c.toNat - 48):=by rw [iF,mE,List.foldl_append];rfl
  have eV:IntKind.wrap .u8 (((c.toNat:Nat):Int) - 48)=((c.toNat - 48:Nat):Int):=by
   rw [show ((c.toNat:Nat):Int) - 48=((c.toNat - 48:Nat):Int) from by omega]
   exact wrap_u8 (by omega)
  have mY:IntKind.wrap .i64 ((c.toNat - 48:Nat):Int)=((c.toNat - 48:Nat):Int):=vf (by omega)
  have DS:IntKind.wrap .i64 (10 * ((mE (s.take i):Nat):Int))=((10 * mE (s.take i):Nat):Int):=by
   rw [show (10:Int) * ((mE (s.take i):Nat):Int)=((10 * mE (s.take i):Nat):Int) from by omega]
   exact vf (by omega)
  have DT:IntKind.wrap .i64 (((10 * mE (s.take i):Nat):Int)+((c.toNat - 48:Nat):Int))=((mE (s.take (i+1)):Nat):Int):=by rw [S0];exact wrap_add (by omega)
  have DP:∀{n:Int} {H:ad},oR Tryz.prog 5 3 (.int .u8 n) H=.ok (.int .i64 (IntKind.wrap .i64 n)) H:=fun {n H}=>CV (ks:=.u8) (by kernel_rfl) (by kernel_rfl)
  simp only [go_sem,e4,e3,iq,hi,mN,eV,DP,mY,DS,DT,cZ hi (by omega)]
 ·rintro V H1 ⟨e4,e3,rfl⟩
  simp only [go_sem,e4,e3,iq]
  rw [List.take_of_length_le (Nat.le_refl _)]
theorem YM {p:UInt8->Bool}:∀{l:bf},l.dropWhile p=l.drop (l.takeWhile p).length
 | []=>rfl
 | c::l=>by
  rw [List.dropWhile_cons,List.takeWhile_cons]
  split
  ·rw [YM (l:=l)];rfl
  ·rfl
theorem aet {k:Nat} {r:bf} {line aj:Int} {acc:List bc}:ey (k+1) (10::r) line aj acc=ey k r (line+1) 1 acc:=by rw [ey];simp
theorem aeu {k:Nat} {c:UInt8} {r:bf} {line aj:Int} {acc:List bc} (h:c=32∨c=9):ey (k+1) (c::r) line aj acc=ey k r line (aj+1) acc:=by
 rw [ey,if_neg (by rcases h with rfl | rfl <;> decide),if_pos h]
theorem aev {k:Nat} {r:bf} {line aj:Int} {acc:List bc}:ey (k+1) (35::r) line aj acc=ey k ((35::r).dropWhile (·≠10)) line (aj+(((35::r).takeWhile (·≠10)).length:Nat)) acc:=by
 rw [ey,if_neg (by decide),if_neg (by decide),if_pos rfl]
def akU (k:Nat) (r:bf) (line aj:Int) (acc:List bc):Option (Int × Nat)->OR
 | none=>.bad
 | some (kind,w)=>ey k (r.drop w) line (aj+(w:Nat)) (acc++[⟨kind,if kind=2 then (mE (r.take w):Nat) else 0,line,aj,r.take w⟩])
theorem aew {k:Nat} {c:UInt8} {r:bf} {line aj:Int} {acc:List bc} (h1:c≠10) (h2:¬(c=32∨c=9)) (h3:c≠35):ey (k+1) (c::r) line aj acc=akU k (c::r) line aj acc (zR (c::r)):=by
 rw [ey,if_neg h1,if_neg h2,if_neg h3]
 cases zR (c::r) <;> rfl
theorem ac1 {a b c:Int} {s:bf} {h:KH}:fQ Tryz.prog 82 [(0,iV a),(4,ae s),(2,iV b),(3,iV c)] h=.ok (.agg #[iV a,iV 0,iV b,iV c,ae s]) h:=by kernel_rfl
theorem ac2 {a b c:Int} {h:KH}:fQ Tryz.prog 82 [(0,iV a),(2,iV b),(3,iV c)] h=.ok (.agg #[iV a,iV 0,iV b,iV c,ae []]) h:=by kernel_rfl
def aex (r:OR) (H0:ad) (w:Value) (H':ad):Prop:=match r with
 | .ok l=>∃v f,w=.tuple #[v,iV 0,iV 0,iV 0]/\Sl Fl H' v l f/\B9 H0.next H' f
 | .bad=>∃a b e,w=.tuple #[.slice none 0 0,iV a,iV b,iV e]/\e≠0
theorem adP {H:ad} {s:bf} (hl:s.length < 1000000):ak Tryz.prog 40 #[ae s] H (fun w H'=>ba H H'/\aex (ua s) H w H'):=by
 refine aiu (Nat.le_refl _) fun hf=>?_
 simp only [Tryz.f40,Option.getD_some]
 have iq:=fun h=>HM (P:=Tryz.prog) (h:=h) (s:=s) pG
 by_cases oq:16384 < s.length
 ·have dY:(16384:Int) < ((s.length:Nat):Int):=by omega
  simp only [go_sem,iq,dY]
  rw [ua,if_pos oq]
  exact ⟨ba.refl H,0,0,3,rfl,by decide⟩
 have dY:¬(16384:Int) < ((s.length:Nat):Int):=by omega
 simp only [go_sem,iq,dY]
 have hR:ua s=ey (s.length+1) s 1 1 []:=by rw [ua,if_neg oq]
 generalize ua s=R at hR
 refine la 79228162514264337593543892988 (fun n V H1=>∃(i from_ line fuel:Nat) (acc:List bc) (vL:Value) (f:List Nat),V 9=iV (i:Nat)/\V 7=iV (line:Nat)/\V 8=iV (from_:Nat)/\V 6=vL/\Ow Fl 82 H1 vL acc f/\B9 H.next H1 f/\ba H H1/\i<=s.length/\n=s.length - i/\from_<=i/\line<=i+1/\acc.length<=i/\s.length - i < fuel/\R=ey fuel (s.drop i) (line:Nat) ((i - from_+1:Nat):Int) acc) (n:=s.length)
  ⟨0,0,1,s.length+1,[],.slice none 0 0,[],by simp only [go_sem] <;> rfl,by simp only [go_sem] <;> rfl,by simp only [go_sem] <;> rfl,by simp only [go_sem] <;> rfl,Ow.nil _ _ _,⟨by simp,by simp,by simp⟩,ba.refl H,Nat.zero_le _,rfl,Nat.le_refl _,Nat.le_refl _,Nat.le_refl _,by omega,by simpa using hR⟩ ?_ (by rfl)
 rintro n V H1 ⟨i,from_,line,fuel,acc,vL,f,e9,e7,e8,e6,jC,fG,hold,his,hn,hY,hli,PB,wg,sO⟩
 by_cases hi:i < s.length
 ·have jg:s[i]?=some s[i]:=List.getElem?_eq_getElem hi
  have cE:s.drop i=s[i]::s.drop (i+1):=(List.getElem_cons_drop hi).symm
  generalize hc:s[i]=c at jg cE
  have mN:=fun h=>xT (P:=Tryz.prog) (h:=h) pG jg
  obtain ⟨k,rfl⟩:∃k,fuel=k+1:=⟨fuel - 1,by omega⟩
  have ci:∀{d:UInt8},((c.toNat:Nat):Int)=((d.toNat:Nat):Int)->c=d:=fun e=>UInt8.toNat_inj.1 (by omega)
  by_cases c1:c=10
  ·have cc:((c.toNat:Nat):Int)=10:=by rw [c1];rfl
   have eV:IntKind.wrap .i64 (((line:Nat):Int)+1)=((line+1:Nat):Int):=wrap_add (k:=1) (by omega)
   simp only [go_sem,e9,e7,iq,hi,mN,cc,cZ hi (by omega),eV]
   rw [cE,c1,aet] at sO
   refine ⟨s.length - (i+1),by omega,i+1,i+1,line+1,k,acc,vL,f,rfl,rfl,rfl,e6,jC,fG,hold,hi,rfl,Nat.le_refl _,by omega,by omega,by omega,?_⟩
   rw [sO,Nat.sub_self];rfl
  have n1:¬((c.toNat:Nat):Int)=10:=fun e=>c1 (ci (d:=10) e)
  by_cases c2:c=32∨c=9
  ·rw [cE,aeu c2] at sO
   have Dr:R=ey k (s.drop (i+1)) (line:Nat) ((i+1 - from_+1:Nat):Int) acc:=by
    rw [sO,show ((i - from_+1:Nat):Int)+1=((i+1 - from_+1:Nat):Int) from by omega]
   rcases c2 with c2 | c2
   ·have cc:((c.toNat:Nat):Int)=32:=by rw [c2];rfl
    have Cb:¬(32:Int)=10:=by decide
    simp only [go_sem,e9,iq,hi,mN,cc,Cb,cZ hi (by omega)]
    exact ⟨s.length - (i+1),by omega,i+1,from_,line,k,acc,vL,f,rfl,e7,e8,e6,jC,fG,hold,hi,rfl,by omega,by omega,by omega,by omega,Dr⟩
   ·have cc:((c.toNat:Nat):Int)=9:=by rw [c2];rfl
    have Cb:¬(9:Int)=10:=by decide
    have n2':¬(9:Int)=32:=by decide
    simp only [go_sem,e9,iq,hi,mN,cc,Cb,n2',cZ hi (by omega)]
    exact ⟨s.length - (i+1),by omega,i+1,from_,line,k,acc,vL,f,rfl,e7,e8,e6,jC,fG,hold,hi,rfl,by omega,by omega,by omega,by omega,Dr⟩
  have n2:¬((c.toNat:Nat):Int)=32:=fun e=>c2 (.inl (ci (d:=32) e))
  have n3:¬((c.toNat:Nat):Int)=9:=fun e=>c2 (.inr (ci (d:=9) e))
  by_cases c3:c=35
  ·have cc:((c.toNat:Nat):Int)=35:=by rw [c3];rfl
   have m1:¬(35:Int)=10:=by decide
   have m2:¬(35:Int)=32:=by decide
   have m3:¬(35:Int)=9:=by decide
   simp only [go_sem,e9,iq,hi,mN,cc,m1,m2,m3]
   have fY:((s.drop i).takeWhile (·≠10)).length<=(s.drop i).length:=(List.takeWhile_prefix _).length_le
   rw [List.length_drop] at fY
   rw [cE,c3,aev,<-c3,<-cE,YM,List.drop_drop] at sO
   have mJ:1<=((s.drop i).takeWhile (·≠10)).length:=by rw [cE,List.takeWhile_cons,if_pos (by simpa using c1)];simp
   generalize hk:((s.drop i).takeWhile (·≠10)).length=q at fY sO mJ
   refine iw 2305280059260273152 q (fun j V2 H2=>V2 9=iV ((i+j:Nat):Int)/\H1=H2) ⟨by simp only [go_sem,e9] <;> rfl,rfl⟩ ?_ ?_ (by rfl)
   ·rintro j V2 H2 hj ⟨I7,rfl⟩
    obtain ⟨d,hd,hw⟩:=Ot (p:=(·≠10)) (l:=s.drop i) (by rw [hk];exact hj)
    rw [List.getElem?_drop] at hd
    have oI:i+j < s.length:=by omega
    have sB:=fun h=>xT (P:=Tryz.prog) (h:=h) pG hd
    have uO:¬((d.toNat:Nat):Int)=10:=fun e=>by
     have:d=10:=UInt8.toNat_inj.1 (by show d.toNat=10;omega)
     simp [this] at hw
    have eV:IntKind.wrap .i64 (((i+j:Nat):Int)+1)=((i+(j+1):Nat):Int):=cZ oI (by omega)
    simp only [go_sem,I7,iq,oI,sB,uO,eV]
   ·rintro V2 H2 ⟨I7,rfl⟩
    have ZH:R=ey k (s.drop (i+q)) (line:Nat) ((i+q - from_+1:Nat):Int) acc:=by
     rw [sO,show ((i - from_+1:Nat):Int)+((q:Nat):Int)=((i+q - from_+1:Nat):Int) from by omega]
    by_cases oI:i+q < s.length
    ·have hd:s[i+q]?=some s[i+q]:=List.getElem?_eq_getElem oI
     generalize s[i+q]=d at hd
     have hw:=N6 (p:=(·≠10)) (l:=s.drop i) (d:=d) (by rw [hk,List.getElem?_drop];exact hd)
     have sB:=fun h=>xT (P:=Tryz.prog) (h:=h) pG hd
     have uO:((d.toNat:Nat):Int)=10:=by
      have:d=10:=by simpa using hw
      rw [this];rfl
     simp only [go_sem,I7,iq,oI,sB,uO]
     exact ⟨s.length - (i+q),by omega,i+q,from_,line,k,acc,vL,f,by first | rfl | exact I7,e7,e8,e6,jC,fG,hold,by omega,rfl,by omega,by omega,by omega,by omega,ZH⟩
    ·simp only [go_sem,I7,iq,oI]
     exact ⟨s.length - (i+q),by omega,i+q,from_,line,k,acc,vL,f,by first | rfl | exact I7,e7,e8,e6,jC,fG,hold,by omega,rfl,by omega,by omega,by omega,by omega,ZH⟩
  have n4:¬((c.toNat:Nat):Int)=35:=fun e=>c3 (ci (d:=35) e)
  simp only [go_sem,e9,iq,hi,mN,n1,n2,n3,n4]
  refine ag.by (aes hi hl) ?_
  rintro _ _ - ⟨rfl,rfl⟩
  rw [cE,aew c1 c2 c3,<-cE] at sO
  cases hp:zR (s.drop i) with
  | none=>
   rw [hp] at sO
   have th:uc s i=(0,0):=by rw [uc,hp];rfl
   have dw:IntKind.wrap .i64 (((i:Nat):Int) - ((from_:Nat):Int))=((i - from_:Nat):Int):=HB hY (by omega)
   have jT:IntKind.wrap .i64 (((i - from_:Nat):Int)+1)=((i - from_+1:Nat):Int):=wrap_add (k:=1) (by omega)
   simp only [go_sem,th,e9,e7,e8,dw,jT]
   rw [sO]
   exact ⟨hold,_,_,2,rfl,by decide⟩
  | some kw=>
   obtain ⟨kind,w⟩:=kw
   rw [hp] at sO
   obtain ⟨p1,p2,p3,p4⟩:=J1 hp
   rw [List.length_drop] at p2
   have th:uc s i=(kind,((i+w:Nat):Int)):=by rw [uc,hp];rfl
   have dw:IntKind.wrap .i64 (((i:Nat):Int) - ((from_:Nat):Int))=((i - from_:Nat):Int):=HB hY (by omega)
   have jT:IntKind.wrap .i64 (((i - from_:Nat):Int)+1)=((i - from_+1:Nat):Int):=wrap_add (k:=1) (by omega)
   have wa:¬kind=0:=by omega
   have aaG:=aer (P:=Tryz.prog) (h:=Ab.h0) (s:=s) pG (show i<=i+w by omega) (show i+w<=s.length by omega)
   rw [Nat.add_sub_cancel_left] at aaG
   have gX:H.fz H1.next=false:=hf.fresh hold.nx
   simp only [go_sem,th,wa,e9,e7,e8,dw,jT,aaG,gX,ac1,Option.map_none,Option.map_some]
   by_cases k2:kind=2
   ·obtain ⟨q1,q2⟩:=p4 k2
    subst k2
    simp only [go_sem]
    refine ag.by (adO q2 (by rw [List.length_take];omega)) ?_
    rintro _ _ - ⟨rfl,rfl⟩
    simp only [go_sem,gX]
    generalize Cc:(H1.push ⟨[iV 2,iV ((mE ((s.drop i).take w):Nat):Int),iV (line:Nat),iV ((i - from_+1:Nat):Int),ae ((s.drop i).take w)],82,false,false⟩)=B0
    have UQ:ba H B0:=hold.trans (by rw [<-Cc];exact ba.push H1 _)
    have hnB:B0.next=H1.next+1:=by rw [<-Cc];rfl
    have gB:B0.get H1.next=some ⟨[iV 2,iV ((mE ((s.drop i).take w):Nat):Int),iV (line:Nat),iV ((i - from_+1:Nat):Int),ae ((s.drop i).take w)],82,false,false⟩:=by rw [<-Cc];rw [aV,if_pos rfl]
    have RZ:∀y∈f,B0.get y=H1.get y:=fun y hy=>by have:=fG.hi y hy;rw [<-Cc];rw [bX (by omega)]
    simp only [go_sem,e6,gB,eB Is (by decide) (by decide)]
    refine HA (Hb:=H) (r:=Fl) (x:=⟨2,((mE ((s.drop i).take w):Nat):Int),line,((i - from_+1:Nat):Int),(s.drop i).take w⟩) (g:=[]) Is (jC.af fun y hy=>by rw [bX (by have:=fG.hi y hy;omega)];exact RZ y hy) (UQ.trans (ba.push _ _)) ⟨fG.nd,fG.lo,fun y hy=>by have:=fG.hi y hy;rw [bJ];omega⟩ ⟨by simp,by simp,by simp⟩ (by simp) (fun y hy=>hf.fresh (fG.lo y hy)) (by rw [aV,if_pos rfl]) ⟨rfl,rfl⟩ rfl (by omega) ?_
    intro v7 H7 f7 K6 wh _ ef _ KL
    simp only [go_sem]
    refine ⟨s.length - (i+w),by omega,i+w,from_,line,k,acc++[⟨2,((mE ((s.drop i).take w):Nat):Int),line,((i - from_+1:Nat):Int),(s.drop i).take w⟩],v7,f7,rfl,e7,e8,rfl,K6,wh,KL,by omega,rfl,by omega,by omega,by rw [List.length_append,List.length_singleton];omega,by omega,?_⟩
    rw [sO]
    show ey k ((s.drop i).drop w) _ _ _=_
    rw [List.drop_drop,show ((i - from_+1:Nat):Int)+((w:Nat):Int)=((i+w - from_+1:Nat):Int) from by omega,if_pos rfl]
   ·simp only [go_sem,k2]
    generalize Cc:(H1.push ⟨[iV kind,iV 0,iV (line:Nat),iV ((i - from_+1:Nat):Int),ae ((s.drop i).take w)],82,false,false⟩)=B0
    have UQ:ba H B0:=hold.trans (by rw [<-Cc];exact ba.push H1 _)
    have hnB:B0.next=H1.next+1:=by rw [<-Cc];rfl
    have gB:B0.get H1.next=some ⟨[iV kind,iV 0,iV (line:Nat),iV ((i - from_+1:Nat):Int),ae ((s.drop i).take w)],82,false,false⟩:=by rw [<-Cc];rw [aV,if_pos rfl]
    have RZ:∀y∈f,B0.get y=H1.get y:=fun y hy=>by have:=fG.hi y hy;rw [<-Cc];rw [bX (by omega)]
    simp only [go_sem,e6,gB,eB Is (by decide) (by decide)]
    refine HA (Hb:=H) (r:=Fl) (x:=⟨kind,0,line,((i - from_+1:Nat):Int),(s.drop i).take w⟩) (g:=[]) Is (jC.af fun y hy=>by rw [bX (by have:=fG.hi y hy;omega)];exact RZ y hy) (UQ.trans (ba.push _ _)) ⟨fG.nd,fG.lo,fun y hy=>by have:=fG.hi y hy;rw [bJ];omega⟩ ⟨by simp,by simp,by simp⟩ (by simp) (fun y hy=>hf.fresh (fG.lo y hy)) (by rw [aV,if_pos rfl]) ⟨rfl,rfl⟩ rfl (by omega) ?_
    intro v7 H7 f7 K6 wh _ ef _ KL
    simp only [go_sem]
    refine ⟨s.length - (i+w),by omega,i+w,from_,line,k,acc++[⟨kind,0,line,((i - from_+1:Nat):Int),(s.drop i).take w⟩],v7,f7,rfl,e7,e8,rfl,K6,wh,KL,by omega,rfl,by omega,by omega,by rw [List.length_append,List.length_singleton];omega,by omega,?_⟩
    rw [sO]
    show ey k ((s.drop i).drop w) _ _ _=_
    rw [List.drop_drop,show ((i - from_+1:Nat):Int)+((w:Nat):Int)=((i+w - from_+1:Nat):Int) from by omega,if_neg k2]
 ·have hie:i=s.length:=by omega
  subst hie
  obtain ⟨k,rfl⟩:∃k,fuel=k+1:=⟨fuel - 1,by omega⟩
  rw [List.drop_length,ey] at sO
  have dw:IntKind.wrap .i64 (((s.length:Nat):Int) - ((from_:Nat):Int))=((s.length - from_:Nat):Int):=HB hY (by omega)
  have jT:IntKind.wrap .i64 (((s.length - from_:Nat):Int)+1)=((s.length - from_+1:Nat):Int):=wrap_add (k:=1) (by omega)
  simp only [go_sem,e9,e7,e8,e6,iq,dw,jT,ac2,eB Is (by decide) (by decide)]
  refine HA (Hb:=H) (r:=Fl) (x:=⟨4,0,line,((s.length - from_+1:Nat):Int),[]⟩) (g:=[]) Is (jC.af fun y hy=>bX (fG.hi y hy)) (hold.trans (ba.push _ _)) ⟨fG.nd,fG.lo,fun y hy=>by have:=fG.hi y hy;rw [bJ];omega⟩ ⟨by simp,by simp,by simp⟩ (by simp) (fun y hy=>hf.fresh (fG.lo y hy)) (by rw [aV,if_pos rfl]) ⟨rfl,rfl⟩ rfl (by omega) ?_
  intro v7 H7 f7 K6 wh _ ef _ KL
  simp only [go_sem]
  rw [sO]
  exact ⟨KL,v7,f7,rfl,K6.sl,wh⟩
theorem ak.told {P:Program} {f:FuncId} {args:Array Value} {H:ad} {K:Value->ad->Prop} (h:ak P f args H fun v H'=>K v (H'.ai H.fz)):ak P f args H K:=fun hf=>by
 refine ak.ai (h.mono fun v H' hk hK=>?_) hf
 exact ⟨H.fz,fun _ h=>h,fun b hb=>Nat.lt_of_lt_of_le (hf.fz b hb) hk.nx,hK⟩
theorem rH {H:ad} {b:Nat} {B C:cw}:(H.ah b B).ah b C=H.ah b C:=by
 unfold ad.ah
 congr 1
 funext x
 by_cases h:x=b <;> simp [h]
structure aE where
 at_:Nat
 depth:Int
 bad:Int
deriving DecidableEq
abbrev ij (t:bc):List Value:=[iV t.kind,iV t.n,iV t.line,iV t.aj,ae t.text]
def eot:bc:=⟨4,0,0,0,[]⟩
def tk (L:List bc) (st:aE):bc:=L.getD st.at_ eot
structure PP0 (L:List bc) (F:List Nat) (H:ad) (q rb:Nat) (st:aE):Prop where
 hq:∃c1 c2 c3 c4,H.get q=some ⟨[.pointer (some ⟨rb,0,none⟩),c1,c2,c3,c4],127,false,false⟩
 hr:∃vL a n c,H.get rb=some ⟨[vL,iV (st.at_:Nat),.slice none 0 0,.bool true,iV st.depth,iV st.bad,.slice a n c],125,false,false⟩/\Sl Fl H vL L F
 hF:∀b∈F,b < H.next/\b≠rb/\b≠q
 qr:q≠rb
 at_:st.at_ < L.length
 ql:q < H.next
 rl:rb < H.next
structure PP (L:List bc) (F:List Nat) (H:ad) (q rb:Nat) (st:aE):Prop extends PP0 L F H q rb st where
 fz:H.fz rb=false
def gg (L:List bc) (F:List Nat) (H:ad) (q rb:Nat) (st:aE) (H':ad):Prop:=Fr [rb] H H'/\(∀c,H'.fz c=H.fz c)/\PP0 L F H' q rb st
theorem PP.post {L:List bc} {F:List Nat} {H:ad} {q rb:Nat} {st bW:aE} {H':ad} (h:PP L F H q rb st) (hp:gg L F H q rb bW H'):PP L F H' q rb bW:={hp.2.2 with fz:=by rw [hp.2.1];exact h.fz}
theorem gg.refl {L:List bc} {F:List Nat} {H:ad} {q rb:Nat} {st:aE} (h:PP0 L F H q rb st):gg L F H q rb st H:=⟨.refl _ _,fun _=>rfl,h⟩
theorem gg.trans {L:List bc} {F:List Nat} {H H1 H2:ad} {q rb:Nat} {st bW:aE} (h:gg L F H q rb st H1) (h':gg L F H1 q rb bW H2):gg L F H q rb bW H2:=⟨h.1.then h'.1,fun c=>(h'.2.1 c).trans (h.2.1 c),h'.2.2⟩
theorem PP0.aH {L:List bc} {F:List Nat} {H H':ad} {q rb:Nat} {st:aE} (h:PP0 L F H q rb st) (ho:ba H H'):PP0 L F H' q rb st:=by
 obtain ⟨⟨c1,c2,c3,c4,hq⟩,⟨vL,a,n,c,hr,hs⟩,hf,h3,h4,h5,h6⟩:=h
 exact ⟨⟨c1,c2,c3,c4,(ho.get q h5).trans hq⟩,⟨vL,a,n,c,(ho.get rb h6).trans hr,hs.af fun b hb=>ho.get b (hf b hb).1⟩,fun b hb=>⟨Nat.lt_of_lt_of_le (hf b hb).1 ho.nx,(hf b hb).2⟩,h3,h4,Nat.lt_of_lt_of_le h5 ho.nx,Nat.lt_of_lt_of_le h6 ho.nx⟩
theorem PP0.ai {L:List bc} {F:List Nat} {H:ad} {q rb:Nat} {st:aE} {fz:Nat->Bool} (h:PP0 L F H q rb st):PP0 L F (H.ai fz) q rb st:=by
 obtain ⟨h1,⟨vL,a,n,c,hr,hs⟩,hf,h3,h4,h5,h6⟩:=h
 exact ⟨h1,⟨vL,a,n,c,hr,hs.af fun _ _=>rfl⟩,hf,h3,h4,h5,h6⟩
theorem gg.same {L:List bc} {F:List Nat} {H H':ad} {q rb:Nat} {st:aE} (h:PP0 L F H q rb st) (ho:ba H H'):gg L F H q rb st (H'.ai H.fz):=⟨(ho.fr _).ai _,fun _=>rfl,(h.aH ho).ai⟩
theorem gg.last {L:List bc} {F:List Nat} {H H':ad} {q rb:Nat} {st:aE} (h:Fr [rb] H H') (hp:PP0 L F H' q rb st):gg L F H q rb st (H'.ai H.fz):=⟨h.ai _,fun _=>rfl,hp.ai⟩
theorem PP0.fy {L:List bc} {F:List Nat} {H:ad} {q rb:Nat} {st:aE} (h:PP0 L F H q rb st):∃c1 c2 c3 c4 bL oL cL BL a n c,H.get q=some ⟨[.pointer (some ⟨rb,0,none⟩),c1,c2,c3,c4],127,false,false⟩/\
  H.get rb=some ⟨[.slice (some ⟨bL,oL,none⟩) L.length cL,iV (st.at_:Nat),.slice none 0 0,.bool true,iV st.depth,iV st.bad,.slice a n c],125,false,false⟩/\H.get bL=some BL/\
  oL+st.at_ * 5+5<=BL.cells.length/\(BL.cells.drop (oL+st.at_ * 5)).take 5=ij (tk L st)/\BL.cells[oL+st.at_ * 5]?=some (iV (tk L st).kind)/\BL.cells[oL+st.at_ * 5+4]?=some (ae (tk L st).text)/\bL≠rb/\bL < H.next/\bL≠q:=by
 obtain ⟨⟨c1,c2,c3,c4,hq⟩,⟨vL,a,n,c,hr,hs⟩,hf,h3,h4,h5,h6⟩:=h
 obtain ⟨b,o,cc,B,g,hv,hB,ep,Ca,cm,hE⟩:=hs.at (List.getElem?_eq_getElem h4)
 subst hv
 have ht:tk L st=L[st.at_]:=by simp [tk,List.getD_eq_getElem?_getD,h4]
 have iK:(B.cells.drop (o+st.at_ * 5)).take 5=ij (tk L st):=by rw [ht];exact hE.1
 have key:∀(j:Nat),j < 5->B.cells[o+st.at_ * 5+j]?=(ij (tk L st))[j]?:=fun j hj=>by
  rw [<-iK,List.getElem?_take,if_pos hj,List.getElem?_drop]
 exact ⟨c1,c2,c3,c4,b,o,cc,B,a,n,c,hq,hr,hB,cm,iK,key 0 (by decide),key 4 (by decide),(hf b ep).2.1,(hf b ep).1,(hf b ep).2.2⟩
theorem PP0.set {L:List bc} {F:List Nat} {H:ad} {q rb:Nat} {st:aE} (h:PP0 L F H q rb st) {vL v1 v4 v5 vP:Value} (hr:H.get rb=some ⟨[vL,v1,.slice none 0 0,.bool true,v4,v5,vP],125,false,false⟩) (bW:aE) (ha:bW.at_ < L.length):
  PP0 L F (H.ah rb ⟨[vL,iV (bW.at_:Nat),.slice none 0 0,.bool true,iV bW.depth,iV bW.bad,vP],125,false,false⟩) q rb bW:=by
 obtain ⟨⟨c1,c2,c3,c4,hq⟩,⟨vL',a,n,c,iE,hs⟩,hf,h3,h4,h5,h6⟩:=h
 rw [hr] at iE
 cases iE
 refine ⟨⟨c1,c2,c3,c4,by rw [az,if_neg h3];exact hq⟩,⟨vL,a,n,c,by rw [az,if_pos rfl],hs.af fun b hb=>by rw [az,if_neg (hf b hb).2.1]⟩,hf,h3,ha,h5,h6⟩
theorem PP0.put {L:List bc} {F:List Nat} {H:ad} {q rb:Nat} {st:aE} (h:PP0 L F H q rb st) {b:Nat} (B:cw) (hq:b≠q) (hr:b≠rb) (hF:b∉F):PP0 L F (H.ah b B) q rb st:=by
 obtain ⟨⟨c1,c2,c3,c4,mo⟩,⟨vL,a,n,c,iE,hs⟩,hf,h3,h4,h5,h6⟩:=h
 exact ⟨⟨c1,c2,c3,c4,by rw [az,if_neg (Ne.symm hq)];exact mo⟩,⟨vL,a,n,c,by rw [az,if_neg (Ne.symm hr)];exact iE,hs.af fun x hx=>by rw [az,if_neg (by rintro rfl;exact hF hx)]⟩,hf,h3,h4,h5,h6⟩
theorem PP0.fr {L:List bc} {F:List Nat} {H H':ad} {q rb:Nat} {st:aE} (h:PP0 L F H q rb st) {M:List Nat} (bj:Fr M H H') (mq:q∉M) (mr:rb∉M) (mF:∀b∈F,b∉M):PP0 L F H' q rb st:=by
 obtain ⟨⟨c1,c2,c3,c4,mo⟩,⟨vL,a,n,c,iE,hs⟩,hf,h3,h4,h5,h6⟩:=h
 exact ⟨⟨c1,c2,c3,c4,(bj.get q h5 mq).trans mo⟩,⟨vL,a,n,c,(bj.get rb h6 mr).trans iE,hs.af fun x hx=>bj.get x (hf x hx).1 (mF x hx)⟩,fun b hb=>⟨Nat.lt_of_lt_of_le (hf b hb).1 bj.nx,(hf b hb).2⟩,h3,h4,Nat.lt_of_lt_of_le h5 bj.nx,Nat.lt_of_lt_of_le h6 bj.nx⟩
theorem PP.push {L:List bc} {F:List Nat} {H:ad} {q rb:Nat} {st:aE} (h:PP L F H q rb st) (B:cw) (hB:B.ro=false:=by rfl):PP L F (H.push B) q rb st:=
 {h.toPP0.aH (ba.push H B hB) with fz:=(by have:=h.rl;rw [qw,h.fz,Bool.or_false,beq_eq_false_iff_ne];omega)}
theorem PP0.fresh {L:List bc} {F:List Nat} {H:ad} {q rb:Nat} {st:aE} (h:PP0 L F H q rb st) {b:Nat} (hb:H.next<=b):b≠q/\b≠rb/\b∉F:=⟨by have:=h.ql;omega,by have:=h.rl;omega,fun e=>by have:=(h.hF b e).1;omega⟩
def c9 (st:aE):Bool:=decide (st.bad=0)
def cP (L:List bc) (s:bf) (st:aE):Bool:=decide ((tk L st).kind=1)&&decide ((tk L st).text=s)
def ea (L:List bc) (s:bf) (st:aE):Bool:=decide ((tk L st).kind=3)&&decide ((tk L st).text=s)
def eX (e:Int) (st:aE):aE:=if st.bad=0 then {st with bad:=e} else st
def aC (st:aE):aE:={st with at_:=st.at_+1}
def ud (L:List bc) (st:aE):Bool:=decide ((tk L st).kind=1)&&EK (tk L st).text
def yq (L:List bc) (s:bf) (st:aE):aE:=if c9 st&&!cP L s st&&!ea L s st then eX 2 st else st
def dF (L:List bc) (s:bf) (st:aE):aE:=if c9 (yq L s st) then aC (yq L s st) else yq L s st
def Aa (L:List bc) (st:aE):aE:=if c9 st&&!ud L st then eX 2 st else st
def cu (L:List bc) (st:aE):bf × aE:=if c9 (Aa L st) then ((tk L (Aa L st)).text,aC (Aa L st)) else ([],Aa L st)
section
variable {L:List bc} {F:List Nat} {H:ad} {q rb:Nat} {st:aE}
abbrev pV (b:Nat):Value:=.pointer (some ⟨b,0,none⟩)
theorem eZ (h:PP L F H q rb st):ak Tryz.prog 76 #[pV q] H (fun w H'=>w=.bool (c9 st)/\H=H'):=by
 refine ai1 (Nat.le_refl _) fun hf=>?_
 simp only [Tryz.f76,Option.getD_some]
 obtain ⟨c1,c2,c3,c4,bL,oL,cL,BL,a,n,c,hq,hr,hB,hl,iK,h0,h4,dv,cm,eH⟩:=h.fy
 simp only [go_sem,hq,hr,c9]
theorem nE (h:PP L F H q rb st) {s:bf}:ak Tryz.prog 142 #[pV rb,ae s] H (fun w H'=>w=.bool (ea L s st)/\H=H'):=by
 refine af7 (Nat.le_refl _) fun hf=>?_
 simp only [Tryz.f142,Option.getD_some]
 obtain ⟨c1,c2,c3,c4,bL,oL,cL,BL,a,n,c,hq,hr,hB,hl,iK,h0,h4,dv,cm,eH⟩:=h.fy
 have ee:=h.at_
 by_cases hk:(tk L st).kind=3
 ·rw [hk] at h0
  simp only [go_sem,hq,hr,hB,h0,h4,ee]
  simp [ea,hk]
 ·simp only [go_sem,hq,hr,hB,h0,h4,ee,hk]
  simp [ea,hk]
theorem rJ (h:PP L F H q rb st):ak Tryz.prog 77 #[pV q] H (fun w H'=>w=.agg #[iV (tk L st).kind,iV (tk L st).n,iV (tk L st).line,iV (tk L st).aj,ae (tk L st).text]/\gg L F H q rb st H'):=by
 refine ak.told ?_
 refine ai3 (Nat.le_refl _) fun hf=>?_
 simp only [Tryz.f77,Option.getD_some]
 obtain ⟨c1,c2,c3,c4,bL,oL,cL,BL,a,n,c,hq,hr,hB,hl,iK,h0,h4,dv,cm,eH⟩:=h.fy
 have ee:=h.at_
 have nq:¬q=H.next:=by have:=h.ql;omega
 have nr:¬rb=H.next:=by have:=h.rl;omega
 have nb:¬bL=H.next:=by omega
 have hX:H.fz H.next=false:=hf.fresh (Nat.le_refl _)
 simp only [go_sem,hq,hr,hB,iK,hl,ee,nq,nr,nb,hX]
 exact gg.same h.toPP0 (ba.push H _)
theorem fR (h:PP L F H q rb st) {s:bf}:ak Tryz.prog 109 #[pV q,ae s] H (fun w H'=>w=.bool (cP L s st)/\gg L F H q rb st H'):=by
 refine ak.told ?_
 refine afj (Nat.le_refl _) fun hf=>?_
 simp only [Tryz.f109,Option.getD_some]
 simp only [go_sem]
 refine ag.by (rJ h) ?_
 rintro _ H1 - ⟨rfl,p1⟩
 by_cases hk:(tk L st).kind=1
 ·simp only [go_sem,hk]
  refine ag.by (rJ (h.post p1)) ?_
  rintro _ H2 - ⟨rfl,p2⟩
  simp only [go_sem]
  exact ⟨by simp [cP,hk],.last (p1.trans p2).1 (p1.trans p2).2.2⟩
 ·simp only [go_sem,hk]
  exact ⟨by simp [cP,hk],.last p1.1 p1.2.2⟩
theorem lh (h:PP L F H q rb st) {e:Int}:ak Tryz.prog 110 #[pV q,iV e] H (fun w H'=>gg L F H q rb (eX e st) H'):=by
 refine ak.told ?_
 refine afl (Nat.le_refl _) fun hf=>?_
 simp only [Tryz.f110,Option.getD_some]
 obtain ⟨c1,c2,c3,c4,bL,oL,cL,BL,a,n,c,hq,hr,hB,hl,iK,h0,h4,dv,cm,eH⟩:=h.fy
 have hz:=h.fz
 by_cases hb:st.bad=0
 ·simp only [go_sem,hq,hr,hb,hz]
  rw [eX,if_pos hb]
  refine .last ((Fr.refl _ _).ah (.inl (by simp)) _) ?_
  exact h.toPP0.set hr ⟨st.at_,st.depth,e⟩ h.at_
 ·simp only [go_sem,hq,hr,hb]
  rw [eX,if_neg hb]
  exact .last (.refl _ _) h.toPP0
theorem UR:gf Tryz.prog 9=some [ae []]:=by kernel_rfl
theorem Yh (H:ad):∀l:List bf,dV .str H (l.map ae) l []
 | []=>rfl
 | x::l=>⟨[ae x],l.map ae,[],[],rfl,rfl,⟨rfl,rfl⟩,Yh H l⟩
theorem Sl.Kv {v:Value} {l:List bf} {f:List Nat} (h:Sl .str H v l f) {i:Nat} {x:bf} (hi:l[i]?=some x):∃b o c B,v=.slice (some ⟨b,o,none⟩) l.length c/\H.get b=some B/\b∈f/\B.cells[o+i]?=some (ae x):=by
 obtain ⟨b,o,c,B,g,hv,hB,ep,_,cm,hE⟩:=h.at hi
 refine ⟨b,o,c,B,hv,hB,ep,?_⟩
 have:((B.cells.drop (o+i * 1)).take 1)[0]?=some (ae x):=by rw [show (B.cells.drop (o+i * 1)).take 1=_ from hE.1];rfl
 rw [List.getElem?_take,if_pos (by decide),List.getElem?_drop,Nat.mul_one,Nat.add_zero] at this
 exact this
theorem YN {l:List bf} (hl:l≠[]) {ty:TypeId}:Sl .str (H.push ⟨l.map ae,ty,false,false⟩) (.slice (some ⟨H.next,0,none⟩) l.length l.length) l [H.next]:=
 .inr (.inr ⟨H.next,0,_,_,[],rfl,hl,Nat.le_refl _,rfl,by rw [aV,if_pos rfl],Yh _ l⟩)
theorem ahq:ak Tryz.prog 89 #[] H (fun w H'=>ba H H'/\Sl .str H' w z7 [H.next]/\H.next < H'.next):=by
 refine ajm (Nat.le_refl _) fun hf=>?_
 simp only [Tryz.f89,Option.getD_some]
 have bl:∀{H':ad},sw Tryz.prog 50 30 ((List.range 30).map fun i=>(i,ae (z7.getD i []))) H'=.ok (.slice (some ⟨H'.next,0,none⟩) 30 30) (H'.push ⟨z7.map ae,9,false,false⟩):=fun {H'}=>
  Hz vj UR (by decide) (by decide) rfl
 have bl2:∀{H':ad},sw Tryz.prog 50 30 [(0,ae [109,115,103]),(1,ae [114,101,99]),(2,ae [100,101,102]),(3,ae [97,99,116,111,114]),(4,ae [111,110]),(5,ae [108,101,116]),(6,ae [110,101,119]),(7,ae [115,116,97,114,116]),(8,ae [103,101,116]),(9,ae [115,101,116]),(10,ae [115,119,97,112]),(11,ae [114,101,99,111,118,101,114]),(12,ae [103,105,118,101]),(13,ae [108,111,111,112]),(14,ae [115,112,97,119,110]),(15,ae [99,97,108,108]),(16,ae [97,103,97,105,110]),(17,ae [103,117,97,114,100]),(18,ae [102,114,101,101]),(19,ae [97,115]),(20,ae [105,102]),(21,ae [101,108,115,101]),(22,ae [100,111,110,101]),(23,ae [109,111,118,101]),(24,ae [105,110,116]),(25,ae [97,114,114]),(26,ae [105,115,111]),(27,ae [118,97,108]),(28,ae [114,101,102]),(29,ae [116,97,103])] H'=.ok (.slice (some ⟨H'.next,0,none⟩) 30 30) (H'.push ⟨z7.map ae,9,false,false⟩):=bl
 simp only [go_sem,bl2]
 exact ⟨ba.push H _,YN (by decide),Nat.lt_succ_self _⟩
theorem ajy {s:bf}:ak Tryz.prog 70 #[ae s] H (fun w H'=>w=.bool (isKey s)/\ba H H'):=by
 refine aiT (Nat.le_refl _) fun hf=>?_
 simp only [Tryz.f70,Option.getD_some]
 simp only [go_sem]
 refine ag.by ahq ?_
 rintro v H1 - ⟨hold,hs,hn⟩
 obtain ⟨a0,c0,qS⟩:=hs.val
 have hlen:z7.length=30:=rfl
 rw [hlen] at qS
 simp only [go_sem,qS]
 refine iw 32660 30 (fun i V H2=>V 7=iV (i:Nat)/\H1=H2/\∀k,k < i->z7[k]?≠some s) ⟨by simp only [go_sem] <;> rfl,rfl,by omega⟩ ?_ ?_ (by rfl)
 ·rintro i V H2 hi ⟨e7,rfl,mX⟩
  have jg:z7[i]?=some (z7[i]'(by rw [hlen];exact hi)):=List.getElem?_eq_getElem _
  generalize (z7[i]'(by rw [hlen];exact hi))=x at jg
  obtain ⟨b,o,c,B,hv,hB,ep,hc⟩:=hs.Kv jg
  rw [qS,hlen] at hv
  cases hv
  by_cases hd:s=x
  ·subst hd
   simp only [go_sem,e7,hi,hB,hc,NI]
   refine ⟨?_,hold⟩
   have:isKey s=true:=by rw [isKey,List.contains_iff_mem];exact List.mem_of_getElem? jg
   rw [this]
  ·simp only [go_sem,e7,hi,hB,hc,NI,hd,cZ hi (by omega)]
   intro k hk
   by_cases e:k=i
   ·subst e;rw [jg];intro h;cases h;exact hd rfl
   ·exact mX k (by omega)
 ·rintro V H2 ⟨e7,rfl,mX⟩
  simp only [go_sem,e7]
  refine ⟨?_,hold⟩
  have:isKey s=false:=by
   rw [Bool.eq_false_iff,isKey,Ne,List.contains_iff_mem,List.mem_iff_getElem?]
   rintro ⟨k,hk⟩
   exact mX k (by have:=(List.getElem?_eq_some_iff.1 hk).1;rw [hlen] at this;exact this) hk
  rw [this]
theorem Q1 {s:bf}:isWord s=true↔s≠[]/\s.length<=16/\∀(k:Nat) (c:UInt8),s[k]?=some c->nC c=true∨(k≠0/\kj c=true):=by
 cases s with
 | nil=>simp [isWord]
 | cons a r=>
  simp only [isWord,Bool.and_eq_true,decide_eq_true_eq,List.all_eq_true]
  constructor
  ·rintro ⟨⟨h1,h2⟩,h3⟩
   refine ⟨by simp,h3,fun k c hk=>?_⟩
   cases k with
   | zero=>cases hk;exact .inl h1
   | succ k=>exact .inr ⟨by omega,h2 c (List.mem_of_getElem? hk)⟩
  ·rintro ⟨_,h3,h⟩
   refine ⟨⟨?_,fun c hc=>?_⟩,h3⟩
   ·rcases h 0 a rfl with e | ⟨e,_⟩
    ·exact e
    ·exact absurd rfl e
   ·obtain ⟨k,hk⟩:=List.mem_iff_getElem?.1 hc
    rcases h (k+1) c hk with e | ⟨_,e⟩
    ·simp [kj,e]
    ·exact e
theorem ahr {s:bf} (hl:s.length < 1000000):ak Tryz.prog 168 #[ae s] H (fun w H'=>w=.bool (isWord s)/\H=H'):=by
 refine agU (Nat.le_refl _) fun hf=>?_
 simp only [Tryz.f168,Option.getD_some]
 have iq:=fun h=>HM (P:=Tryz.prog) (h:=h) (s:=s) pG
 simp only [go_sem]
 refine iw 4294967292 s.length (fun i V H1=>V 3=iV (i:Nat)/\H=H1/\∀(k:Nat) (c:UInt8),k < i->s[k]?=some c->nC c=true∨(k≠0/\kj c=true)) ⟨by simp only [go_sem] <;> rfl,rfl,by omega⟩ ?_ ?_ (by rfl)
 ·rintro i V H1 hi ⟨e3,rfl,iU⟩
  have jg:s[i]?=some s[i]:=List.getElem?_eq_getElem hi
  generalize s[i]=c at jg
  have mN:=fun h=>xT (P:=Tryz.prog) (h:=h) pG jg
  have bh:(nC c=true∨(i≠0/\kj c=true))->∀(k:Nat) (d:UInt8),k < i+1->s[k]?=some d->nC d=true∨(k≠0/\kj d=true):=fun h k d hk hd=>by
   by_cases e:k=i
   ·subst e;rw [jg] at hd;cases hd;exact h
   ·exact iU k d (by omega) hd
  have mX:¬(nC c=true∨(i≠0/\kj c=true))->isWord s=false:=fun h=>by
   rw [Bool.eq_false_iff,Ne,Q1]
   rintro ⟨_,_,h2⟩
   exact h (h2 i c jg)
  simp only [go_sem,e3,iq,hi,mN]
  refine ag.by NJ ?_
  rintro _ _ - ⟨rfl,rfl⟩
  by_cases h1:nC c=true
  ·simp only [go_sem,h1,e3,cZ hi (by omega)]
   exact bh (.inl h1)
  ·by_cases yR:i=0
   ·subst yR
    have e0:(((0:Nat):Int)=0)=True:=by simp
    simp only [go_sem,h1,e3,e0]
    rw [mX (by simp [h1])]
   ·have e0:¬((i:Nat):Int)=0:=by omega
    simp only [go_sem,h1,e3,e0,mN]
    refine ag.by HO ?_
    rintro _ _ - ⟨rfl,rfl⟩
    by_cases h2:isDigit c=true
    ·simp only [go_sem,h2,e3,cZ hi (by omega)]
     exact bh (.inr ⟨yR,by simp [kj,h2]⟩)
    ·by_cases h3:((c.toNat:Nat):Int)=95
     ·have hc:c=95:=UInt8.toNat_inj.1 (by show c.toNat=95;omega)
      simp only [go_sem,h2,e3,mN,h3,cZ hi (by omega)]
      exact bh (.inr ⟨yR,by simp [kj,hc]⟩)
     ·have hc:c≠95:=fun e=>h3 (by rw [e];rfl)
      simp only [go_sem,h2,e3,mN,h3]
      rw [mX (by simp [h1,h2,kj,hc])]
 ·rintro V H1 ⟨e3,rfl,iU⟩
  have ajz:∀(k:Nat) (c:UInt8),s[k]?=some c->nC c=true∨(k≠0/\kj c=true):=fun k c hk=>iU k c (List.getElem?_eq_some_iff.1 hk).1 hk
  by_cases h0:(1:Int)<=((s.length:Nat):Int)
  ·have dv:s≠[]:=List.length_pos_iff.1 (by omega)
   by_cases oG:((s.length:Nat):Int)<=16
   ·simp only [go_sem,e3,iq,h0,oG]
    rw [Q1.2 ⟨dv,by omega,ajz⟩]
   ·have:isWord s=false:=by rw [Bool.eq_false_iff,Ne,Q1];rintro ⟨_,h,_⟩;omega
    simp only [go_sem,e3,iq,h0,oG,this]
  ·have:isWord s=false:=by
    have:s=[]:=List.length_eq_zero_iff.1 (by omega)
    rw [this];rfl
   simp only [go_sem,e3,iq,h0,this]
theorem Zd {s:bf} (hl:s.length < 1000000):ak Tryz.prog 158 #[ae s] H (fun w H'=>w=.bool (EK s)/\ba H H'):=by
 refine agB (Nat.le_refl _) fun hf=>?_
 simp only [Tryz.f158,Option.getD_some]
 simp only [go_sem]
 refine ag.by (ahr hl) ?_
 rintro _ _ - ⟨rfl,rfl⟩
 by_cases h:isWord s=true
 ·simp only [go_sem,h]
  refine ag.by ajy ?_
  rintro _ H1 - ⟨rfl,hold⟩
  simp only [go_sem,EK,h,Bool.true_and]
  exact hold
 ·simp only [go_sem,h,EK,Bool.false_and]
  exact ba.refl H
structure LG (L:List bc):Prop where
 ok:Mb L
 len:L.length < 1000000
 text:∀t∈L,t.text.length < 1000000
theorem YO (hL:LG L):(tk L st).text.length < 1000000:=by
 unfold tk
 rw [List.getD_eq_getElem?_getD]
 cases h:L[st.at_]? with
 | none=>decide
 | some t=>exact hL.text t (List.mem_of_getElem? h)
theorem nD (hL:LG L) (ha:st.at_ < L.length) (hk:(tk L st).kind≠4):st.at_+1 < L.length:=by
 have h:L[st.at_]?=some L[st.at_]:=List.getElem?_eq_getElem ha
 refine hL.ok.next h ?_
 have:tk L st=L[st.at_]:=by simp [tk,List.getD_eq_getElem?_getD,ha]
 rw [<-this];exact hk
theorem Kk (hL:LG L) (h:PP L F H q rb st):ak Tryz.prog 139 #[pV q] H (fun w H'=>w=.bool (ud L st)/\gg L F H q rb st H'):=by
 refine ak.told ?_
 refine af1 (Nat.le_refl _) fun hf=>?_
 simp only [Tryz.f139,Option.getD_some]
 simp only [go_sem]
 refine ag.by (rJ h) ?_
 rintro _ H1 - ⟨rfl,p1⟩
 by_cases hk:(tk L st).kind=1
 ·simp only [go_sem,hk]
  refine ag.by (rJ (h.post p1)) ?_
  rintro _ H2 - ⟨rfl,p2⟩
  simp only [go_sem]
  refine ag.by (Zd (YO hL)) ?_
  rintro _ H3 - ⟨rfl,o3⟩
  simp only [go_sem]
  have dA:=p1.trans p2
  exact ⟨by simp [ud,hk],.last (dA.1.then (o3.fr _)) (dA.2.2.aH o3)⟩
 ·simp only [go_sem,hk]
  exact ⟨by simp [ud,hk],.last p1.1 p1.2.2⟩
theorem aey:c9 st=true↔st.bad=0:=by simp [c9]
theorem NK {e:Int} (he:e≠0) (hb:c9 st=true):c9 (eX e st)=false:=by
 rw [aey] at hb
 simp [eX,hb,c9,he]
theorem jl {s:bf} (h:cP L s st=true):(tk L st).kind≠4:=by simp [cP] at h;omega
theorem wV {s:bf} (h:ea L s st=true):(tk L st).kind≠4:=by simp [ea] at h;omega
theorem ajA (h:ud L st=true):(tk L st).kind≠4:=by simp [ud] at h;omega
theorem iJ (hL:LG L) (h:PP L F H q rb st) {s:bf}:ak Tryz.prog 113 #[pV q,ae s] H (fun w H'=>gg L F H q rb (dF L s st) H'):=by
 refine ak.told ?_
 refine afr (Nat.le_refl _) fun hf=>?_
 simp only [Tryz.f113,Option.getD_some]
 simp only [go_sem]
 have hz:=h.fz
 have jE:=hL.len
 have ee:=h.at_
 have cX:IntKind.wrap .i64 (((st.at_:Nat):Int)+1)=((st.at_+1:Nat):Int):=cZ ee (by omega)
 refine ag.by (eZ h) ?_
 rintro _ _ - ⟨rfl,rfl⟩
 by_cases hb:c9 st=true
 ·simp only [go_sem,hb]
  refine ag.by (fR h) ?_
  rintro _ H1 - ⟨rfl,p1⟩
  have h1:=h.post p1
  obtain ⟨c1,c2,c3,c4,bL,oL,cL,BL,a,n,c,hq,hr,hB,hl,iK,h0,h4,dv,cm,eH⟩:=h1.fy
  by_cases hw:cP L s st=true
  ·have e1:yq L s st=st:=by simp [yq,hw]
   simp only [go_sem,hw]
   refine ag.by (eZ h1) ?_
   rintro _ _ - ⟨rfl,rfl⟩
   simp only [go_sem,hb,hq,hr,hz,cX]
   rw [dF,e1,if_pos hb]
   exact .last (p1.1.ah (.inl (by simp)) _) (h1.toPP0.set hr (aC st) (nD hL ee (jl hw)))
  ·simp only [go_sem,hw,hq]
   refine ag.by (nE h1) ?_
   rintro _ _ - ⟨rfl,rfl⟩
   by_cases hs:ea L s st=true
   ·have e1:yq L s st=st:=by simp [yq,hs]
    simp only [go_sem,hs]
    refine ag.by (eZ h1) ?_
    rintro _ _ - ⟨rfl,rfl⟩
    simp only [go_sem,hb,hq,hr,hz,cX]
    rw [dF,e1,if_pos hb]
    exact .last (p1.1.ah (.inl (by simp)) _) (h1.toPP0.set hr (aC st) (nD hL ee (wV hs)))
   ·have e1:yq L s st=eX 2 st:=by simp [yq,hw,hs,hb]
    simp only [go_sem,hs]
    refine ag.by (lh h1) ?_
    rintro _ H2 - p2
    simp only [go_sem]
    refine ag.by (eZ (h1.post p2)) ?_
    rintro _ _ - ⟨rfl,rfl⟩
    have ep:=NK (e:=2) (by decide) hb
    simp only [go_sem,ep]
    rw [dF,e1,ep]
    exact .last (p1.trans p2).1 p2.2.2
 ·have e1:yq L s st=st:=by simp [yq,hb]
  simp only [go_sem,hb]
  refine ag.by (eZ h) ?_
  rintro _ _ - ⟨rfl,rfl⟩
  simp only [go_sem,hb]
  rw [dF,e1,if_neg hb]
  exact .last (.refl _ _) h.toPP0
theorem jk (hL:LG L) (h:PP L F H q rb st):ak Tryz.prog 111 #[pV q] H (fun w H'=>w=ae (cu L st).1/\gg L F H q rb (cu L st).2 H'):=by
 refine ak.told ?_
 refine afn (Nat.le_refl _) fun hf=>?_
 simp only [Tryz.f111,Option.getD_some]
 simp only [go_sem]
 have hz:=h.fz
 have jE:=hL.len
 have ee:=h.at_
 have cX:IntKind.wrap .i64 (((st.at_:Nat):Int)+1)=((st.at_+1:Nat):Int):=cZ ee (by omega)
 have hwb:IntKind.wrap .i64 (((st.at_+1:Nat):Int) - 1)=((st.at_:Nat):Int):=by rw [show ((st.at_+1:Nat):Int) - 1=((st.at_:Nat):Int) from by omega];exact vf (by omega)
 refine ag.by (eZ h) ?_
 rintro _ _ - ⟨rfl,rfl⟩
 by_cases hb:c9 st=true
 ·simp only [go_sem,hb]
  refine ag.by (Kk hL h) ?_
  rintro _ H1 - ⟨rfl,p1⟩
  have h1:=h.post p1
  obtain ⟨c1,c2,c3,c4,bL,oL,cL,BL,a,n,c,hq,hr,hB,hl,iK,h0,h4,dv,cm,eH⟩:=h1.fy
  by_cases hn:ud L st=true
  ·have e1:Aa L st=st:=by simp [Aa,hn]
   simp only [go_sem,hn]
   refine ag.by (eZ h1) ?_
   rintro _ _ - ⟨rfl,rfl⟩
   have yZ:=h.qr
   simp only [go_sem,hb,hq,hr,hz,cX,hwb,hB,ee,h4,yZ,dv]
   rw [cu,e1,if_pos hb]
   exact ⟨rfl,.last (p1.1.ah (.inl (by simp)) _) (h1.toPP0.set hr (aC st) (nD hL ee (ajA hn)))⟩
  ·have e1:Aa L st=eX 2 st:=by simp [Aa,hn,hb]
   simp only [go_sem,hn]
   refine ag.by (lh h1) ?_
   rintro _ H2 - p2
   simp only [go_sem]
   refine ag.by (eZ (h1.post p2)) ?_
   rintro _ _ - ⟨rfl,rfl⟩
   have ep:=NK (e:=2) (by decide) hb
   simp only [go_sem,ep]
   rw [cu,e1,ep]
   exact ⟨rfl,.last (p1.trans p2).1 p2.2.2⟩
 ·have e1:Aa L st=st:=by simp [Aa,hb]
  simp only [go_sem,hb]
  refine ag.by (eZ h) ?_
  rintro _ _ - ⟨rfl,rfl⟩
  simp only [go_sem,hb]
  rw [cu,e1,if_neg hb]
  exact ⟨rfl,.last (.refl _ _) h.toPP0⟩
end
section
variable {L:List bc} {F:List Nat} {H:ad} {q rb:Nat} {st:aE}
def Ac (L:List bc) (st:aE):aE:=if c9 st&&!ea L [123] st then eX 2 st else st
def vk (L:List bc) (st:aE):aE:=if c9 (Ac L st)&&decide (12<=(Ac L st).depth) then eX 3 (Ac L st) else Ac L st
def sC (L:List bc) (st:aE):aE:=if c9 (vk L st) then {(vk L st) with depth:=IntKind.wrap .i64 ((vk L st).depth+1),at_:=(vk L st).at_+1} else vk L st
def EF (L:List bc) (st:aE):aE:=if c9 (dF L [125] st) then {(dF L [125] st) with depth:=IntKind.wrap .i64 ((dF L [125] st).depth - 1)} else dF L [125] st
theorem R1 (hL:LG L) (h:PP L F H q rb st):ak Tryz.prog 145 #[pV q] H (fun w H'=>gg L F H q rb (sC L st) H'):=by
 refine ak.told ?_
 refine agd (Nat.le_refl _) fun hf=>?_
 simp only [Tryz.f145,Option.getD_some]
 simp only [go_sem]
 have hz:=h.fz
 have jE:=hL.len
 have ee:=h.at_
 have cX:IntKind.wrap .i64 (((st.at_:Nat):Int)+1)=((st.at_+1:Nat):Int):=cZ ee (by omega)
 obtain ⟨c1,c2,c3,c4,bL,oL,cL,BL,a,n,c,hq,hr,hB,hl,iK,h0,h4,dv,cm,eH⟩:=h.fy
 refine ag.by (eZ h) ?_
 rintro _ _ - ⟨rfl,rfl⟩
 by_cases hb:c9 st=true
 ·simp only [go_sem,hb,hq]
  refine ag.by (nE h) ?_
  rintro _ _ - ⟨rfl,rfl⟩
  by_cases hs:ea L [123] st=true
  ·have e1:Ac L st=st:=by simp [Ac,hs]
   simp only [go_sem,hs]
   refine ag.by (eZ h) ?_
   rintro _ _ - ⟨rfl,rfl⟩
   by_cases hd:(12:Int)<=st.depth
   ·have e2:vk L st=eX 3 st:=by simp [vk,e1,hb,hd]
    simp only [go_sem,hb,hq,hr,hd]
    refine ag.by (lh h) ?_
    rintro _ H2 - p2
    simp only [go_sem]
    refine ag.by (eZ (h.post p2)) ?_
    rintro _ _ - ⟨rfl,rfl⟩
    have ep:=NK (e:=3) (by decide) hb
    simp only [go_sem,ep]
    rw [sC,e2,ep]
    exact .last p2.1 p2.2.2
   ·have e2:vk L st=st:=by simp [vk,e1,hd]
    simp only [go_sem,hb,hq,hr,hd]
    refine ag.by (eZ h) ?_
    rintro _ _ - ⟨rfl,rfl⟩
    have yZ:=h.qr
    simp only [go_sem,hb,hq,hr,hz,cX,yZ]
    rw [sC,e2,if_pos hb,rH]
    exact .last ((Fr.refl _ _).ah (.inl (by simp)) _) (h.toPP0.set hr ⟨st.at_+1,IntKind.wrap .i64 (st.depth+1),st.bad⟩ (nD hL ee (wV hs)))
  ·have e1:Ac L st=eX 2 st:=by simp [Ac,hs,hb]
   have ep:=NK (e:=2) (by decide) hb
   have e2:vk L st=eX 2 st:=by simp [vk,e1,ep]
   simp only [go_sem,hs]
   refine ag.by (lh h) ?_
   rintro _ H2 - p2
   simp only [go_sem]
   have h2:=h.post p2
   refine ag.by (eZ h2) ?_
   rintro _ _ - ⟨rfl,rfl⟩
   simp only [go_sem,ep]
   refine ag.by (eZ h2) ?_
   rintro _ _ - ⟨rfl,rfl⟩
   simp only [go_sem,ep]
   rw [sC,e2,ep]
   exact .last p2.1 p2.2.2
 ·have e1:Ac L st=st:=by simp [Ac,hb]
  have e2:vk L st=st:=by simp [vk,e1,hb]
  simp only [go_sem,hb]
  refine ag.by (eZ h) ?_
  rintro _ _ - ⟨rfl,rfl⟩
  simp only [go_sem,hb]
  refine ag.by (eZ h) ?_
  rintro _ _ - ⟨rfl,rfl⟩
  simp only [go_sem,hb]
  rw [sC,e2,if_neg hb]
  exact .last (.refl _ _) h.toPP0
theorem qv (hL:LG L) (h:PP L F H q rb st):ak Tryz.prog 147 #[pV q] H (fun w H'=>gg L F H q rb (EF L st) H'):=by
 refine ak.told ?_
 refine agi (Nat.le_refl _) fun hf=>?_
 simp only [Tryz.f147,Option.getD_some]
 simp only [go_sem]
 refine ag.by (iJ hL h) ?_
 rintro _ H1 - p1
 have h1:=h.post p1
 have hz:=h.fz
 rw [EF]
 generalize dF L [125] st=s1 at p1 h1
 obtain ⟨c1,c2,c3,c4,bL,oL,cL,BL,a,n,c,hq,hr,hB,hl,iK,h0,h4,dv,cm,eH⟩:=h1.fy
 simp only [go_sem]
 refine ag.by (eZ h1) ?_
 rintro _ _ - ⟨rfl,rfl⟩
 by_cases hb:c9 s1=true
 ·simp only [go_sem,hb,hq,hr,hz]
  exact .last (p1.1.ah (.inl (by simp)) _) (h1.toPP0.set hr ⟨s1.at_,IntKind.wrap .i64 (s1.depth - 1),s1.bad⟩ h1.at_)
 ·simp only [go_sem,hb]
  exact .last p1.1 p1.2.2
def uf:List bf:=[[105,115,111],[118,97,108],[114,101,102],[116,97,103]]
def Ds (L:List bc) (st:aE):Int->List bf->Int
 | _,[]=>0
 | k,s::l=>if cP L s st then k else Ds L st (k+1) l
def lI (L:List bc) (st:aE):Int:=Ds L st 1 uf
theorem Ou (h:PP L F H q rb st):ak Tryz.prog 160 #[pV q] H (fun w H'=>w=iV (lI L st)/\gg L F H q rb st H'):=by
 refine ak.told ?_
 refine agF (Nat.le_refl _) fun hf=>?_
 simp only [Tryz.f160,Option.getD_some]
 have bl:∀{H':ad},sw Tryz.prog 50 4 [(0,ae [105,115,111]),(1,ae [118,97,108]),(2,ae [114,101,102]),(3,ae [116,97,103])] H'=.ok (.slice (some ⟨H'.next,0,none⟩) 4 4) (H'.push ⟨uf.map ae,9,false,false⟩):=fun {H'}=>
  Hz vj UR (by decide) (by decide) rfl
 simp only [go_sem,bl]
 have hs:=YN (H:=H) (l:=uf) (by decide) (ty:=9)
 have hlen:uf.length=4:=rfl
 generalize US:(H.push ⟨uf.map ae,9,false,false⟩)=H0 at hs
 have o0:ba H H0:=by rw [<-US];exact ba.push _ _
 have rV:H.next < H0.next:=by rw [<-US];exact Nat.lt_succ_self _
 have nr:H.next≠rb:=by have:=h.rl;omega
 have B8:H0.fz rb=false:=by rw [<-US,qw,h.fz];simp;omega
 refine iw 262044 4 (fun i V H2=>V 7=iV (i:Nat)/\Fr [rb] H H2/\PP L F H2 q rb st/\H2.get H.next=H0.get H.next/\H.next < H2.next/\lI L st=Ds L st ((i+1:Nat):Int) (uf.drop i)) ⟨by simp only [go_sem] <;> rfl,o0.fr _,{h.toPP0.aH o0 with fz:=B8},rfl,rV,rfl⟩ ?_ ?_ (by rfl)
 ·rintro i V H2 hi ⟨e7,kU,h2,g2,n2,Fo⟩
  have jg:uf[i]?=some (uf[i]'hi):=List.getElem?_eq_getElem hi
  have cE:uf.drop i=(uf[i]'hi)::uf.drop (i+1):=(List.getElem_cons_drop hi).symm
  generalize (uf[i]'hi)=s at jg cE
  obtain ⟨b,o,c,B,hv,hB,ep,hc⟩:=(hs.af (H':=H2) fun y hy=>by rw [List.mem_singleton] at hy;subst hy;exact g2).Kv jg
  rw [hlen] at hv
  cases hv
  rw [Nat.zero_add] at hc
  rw [cE,Ds] at Fo
  simp only [go_sem,e7,hi,hB,hc,Nat.zero_add]
  refine ag.by (fR h2) ?_
  rintro _ H3 - ⟨rfl,p3⟩
  by_cases hw:cP L s st=true
  ·rw [if_pos hw] at Fo
   simp only [go_sem,hw,cZ hi (by omega)]
   exact ⟨by rw [Fo],.last (kU.then p3.1) p3.2.2⟩
  ·rw [if_neg hw] at Fo
   simp only [go_sem,hw,e7,cZ hi (by omega)]
   exact ⟨kU.then p3.1,h2.post p3,by rw [p3.1.get _ n2 (by simpa using nr),g2],Nat.lt_of_lt_of_le n2 p3.1.nx,by rw [Fo];rfl⟩
 ·rintro V H2 ⟨e7,kU,h2,g2,n2,Fo⟩
  simp only [go_sem,e7]
  refine ⟨by rw [Fo];rfl,.last kU h2.toPP0⟩
def EG (L:List bc) (eF:Int) (st:aE):Bool:=
 if eF=0 then decide (0 < lI L st)||cP L [105,110,116] st||ea L [33] st||ea L [63] st
 else if eF=1 then ud L st
 else ud L st||cP L [109,111,118,101] st||cP L [116,97,103] st||decide ((tk L st).kind=2)
theorem Yi (hL:LG L) (h:PP L F H q rb st) {eF:Int}:ak Tryz.prog 159 #[pV q,iV eF] H (fun w H'=>w=.bool (EG L eF st)/\gg L F H q rb st H'):=by
 refine ak.told ?_
 refine agD (Nat.le_refl _) fun hf=>?_
 simp only [Tryz.f159,Option.getD_some]
 by_cases w0:eF=0
 ·rw [EG,if_pos w0]
  simp only [go_sem,w0]
  refine ag.by (Ou h) ?_
  rintro _ H1 - ⟨rfl,p1⟩
  have h1:=h.post p1
  by_cases b1:0 < lI L st
  ·simp only [go_sem,b1]
   exact .last p1.1 p1.2.2
  simp only [go_sem,b1]
  refine ag.by (fR h1) ?_
  rintro _ H2 - ⟨rfl,p2⟩
  have h2:=h1.post p2
  have dA:=p1.trans p2
  by_cases b2:cP L [105,110,116] st=true
  ·simp only [go_sem,b2]
   exact .last dA.1 dA.2.2
  obtain ⟨c1,c2,c3,c4,bL,oL,cL,BL,a,n,c,hq,hr,hB,hl,iK,h0,h4,dv,cm,eH⟩:=h2.fy
  simp only [go_sem,b2,hq]
  refine ag.by (nE h2) ?_
  rintro _ _ - ⟨rfl,rfl⟩
  by_cases b3:ea L [33] st=true
  ·simp only [go_sem,b3]
   exact .last dA.1 dA.2.2
  simp only [go_sem,b3,hq]
  refine ag.by (nE h2) ?_
  rintro _ _ - ⟨rfl,rfl⟩
  simp only [go_sem]
  exact ⟨by simp [b1,b2,b3],.last dA.1 dA.2.2⟩
 by_cases w1:eF=1
 ·rw [EG,if_neg w0,if_pos w1]
  simp only [go_sem,w0,w1]
  refine ag.by (Kk hL h) ?_
  rintro _ H1 - ⟨rfl,p1⟩
  simp only [go_sem]
  exact .last p1.1 p1.2.2
 rw [EG,if_neg w0,if_neg w1]
 simp only [go_sem,w0,w1]
 refine ag.by (Kk hL h) ?_
 rintro _ H1 - ⟨rfl,p1⟩
 have h1:=h.post p1
 by_cases b1:ud L st=true
 ·simp only [go_sem,b1]
  exact .last p1.1 p1.2.2
 simp only [go_sem,b1]
 refine ag.by (fR h1) ?_
 rintro _ H2 - ⟨rfl,p2⟩
 have h2:=h1.post p2
 have dA:=p1.trans p2
 by_cases b2:cP L [109,111,118,101] st=true
 ·simp only [go_sem,b2]
  exact .last dA.1 dA.2.2
 simp only [go_sem,b2]
 refine ag.by (fR h2) ?_
 rintro _ H3 - ⟨rfl,p3⟩
 have h3:=h2.post p3
 have pe:=dA.trans p3
 by_cases b3:cP L [116,97,103] st=true
 ·simp only [go_sem,b3]
  exact .last pe.1 pe.2.2
 simp only [go_sem,b3]
 refine ag.by (rJ h3) ?_
 rintro _ H4 - ⟨rfl,p4⟩
 simp only [go_sem]
 exact ⟨by simp [b1,b2,b3],.last (pe.trans p4).1 (pe.trans p4).2.2⟩
end
section
variable {L:List bc} {F:List Nat} {H:ad} {q rb:Nat} {st:aE}
def Bp (L:List bc) (n:Nat) (eF:Int) (st:aE):Bool × aE:=
 if EG L eF st=true then (if 6<=n then (false,eX 3 st) else (true,st)) else (false,eX 2 st)
def jd (L:List bc) (n:Nat) (eF:Int) (st:aE):Bool × aE:=
 if c9 st=true then (if n=0 then (if ea L [41] st=true then (false,st) else Bp L n eF st) else if ea L [44] st=true then Bp L n eF (aC st) else (false,st)) else (false,st)
theorem N7 (hL:LG L) (h:PP L F H q rb st) {n:Nat} {eF:Int}:ak Tryz.prog 140 #[pV q,iV (n:Nat),iV eF] H (fun w H'=>w=.bool (jd L n eF st).1/\gg L F H q rb (jd L n eF st).2 H'):=by
 refine ak.told ?_
 refine af3 (Nat.le_refl _) fun hf=>?_
 simp only [Tryz.f140,Option.getD_some]
 simp only [go_sem]
 have hz:=h.fz
 have jE:=hL.len
 have ee:=h.at_
 have cX:IntKind.wrap .i64 (((st.at_:Nat):Int)+1)=((st.at_+1:Nat):Int):=cZ ee (by omega)
 obtain ⟨c1,c2,c3,c4,bL,oL,cL,BL,a,m,c,hq,hr,hB,hl,iK,h0,h4,dv,cm,eH⟩:=h.fy
 refine ag.by (eZ h) ?_
 rintro _ _ - ⟨rfl,rfl⟩
 by_cases hb:c9 st=true
 ·by_cases hn:n=0
  ·have y0:((n:Nat):Int)=0:=by omega
   have iL:¬(0:Int) < ((n:Nat):Int):=by omega
   have UT:¬(6:Int)<=((n:Nat):Int):=by omega
   simp only [go_sem,hb,y0,hq]
   refine ag.by (nE h) ?_
   rintro _ _ - ⟨rfl,rfl⟩
   by_cases hs:ea L [41] st=true
   ·have e:jd L n eF st=(false,st):=by rw [jd,if_pos hb,if_pos hn,if_pos hs]
    simp only [go_sem,hs,e]
    exact .last (.refl _ _) h.toPP0
   simp only [go_sem,hs,iL]
   refine ag.by (Yi hL h) ?_
   rintro _ H2 - ⟨rfl,p2⟩
   by_cases y7:EG L eF st=true
   ·have e:jd L n eF st=(true,st):=by rw [jd,if_pos hb,if_pos hn,if_neg hs,Bp,if_pos y7,if_neg (by omega)]
    simp only [go_sem,y7,UT,e]
    exact .last p2.1 p2.2.2
   ·have e:jd L n eF st=(false,eX 2 st):=by rw [jd,if_pos hb,if_pos hn,if_neg hs,Bp,if_neg y7]
    simp only [go_sem,y7]
    refine ag.by (lh (h.post p2)) ?_
    rintro _ H3 - p3
    simp only [go_sem,e]
    exact .last (p2.trans p3).1 p3.2.2
  ·have y0:¬((n:Nat):Int)=0:=by omega
   have iL:(0:Int) < ((n:Nat):Int):=by omega
   simp only [go_sem,hb,y0,iL,hq]
   refine ag.by (nE h) ?_
   rintro _ _ - ⟨rfl,rfl⟩
   by_cases hs:ea L [44] st=true
   ·have e0:jd L n eF st=Bp L n eF (aC st):=by rw [jd,if_pos hb,if_neg hn,if_pos hs]
    simp only [go_sem,hs,hq,hr,hz,cX,e0]
    have p1:gg L F H q rb (aC st) (H.ah rb ⟨[.slice (some ⟨bL,oL,none⟩) L.length cL,iV ((st.at_+1:Nat):Int),.slice none 0 0,.bool true,iV st.depth,iV st.bad,.slice a m c],125,false,false⟩):=
     ⟨(Fr.refl _ _).ah (.inl (by simp)) _,fun _=>rfl,h.toPP0.set hr (aC st) (nD hL ee (wV hs))⟩
    have UU:(H.ah rb ⟨[.slice (some ⟨bL,oL,none⟩) L.length cL,iV ((st.at_+1:Nat):Int),.slice none 0 0,.bool true,iV st.depth,iV st.bad,.slice a m c],125,false,false⟩).fz=H.fz:=rfl
    generalize (H.ah rb ⟨[.slice (some ⟨bL,oL,none⟩) L.length cL,iV ((st.at_+1:Nat):Int),.slice none 0 0,.bool true,iV st.depth,iV st.bad,.slice a m c],125,false,false⟩)=H1 at p1 UU
    have h1:=h.post p1
    refine ag.by (Yi hL h1) ?_
    rintro _ H2 - ⟨rfl,p2⟩
    have dA:=p1.trans p2
    by_cases y7:EG L eF (aC st)=true
    ·by_cases h6:6<=n
     ·have UW:(6:Int)<=((n:Nat):Int):=by omega
      have e:jd L n eF st=(false,eX 3 (aC st)):=by rw [e0,Bp,if_pos y7,if_pos h6]
      simp only [go_sem,y7,UW]
      refine ag.by (lh (h1.post p2)) ?_
      rintro _ H3 - p3
      simp only [go_sem,e]
      exact .last (dA.trans p3).1 p3.2.2
     ·have UW:¬(6:Int)<=((n:Nat):Int):=by omega
      have e:jd L n eF st=(true,aC st):=by rw [e0,Bp,if_pos y7,if_neg h6]
      simp only [go_sem,y7,UW,e]
      exact .last dA.1 dA.2.2
    ·have e:jd L n eF st=(false,eX 2 (aC st)):=by rw [e0,Bp,if_neg y7]
     simp only [go_sem,y7]
     refine ag.by (lh (h1.post p2)) ?_
     rintro _ H3 - p3
     simp only [go_sem,e]
     exact .last (dA.trans p3).1 p3.2.2
   ·have e:jd L n eF st=(false,st):=by rw [jd,if_pos hb,if_neg hn,if_neg hs]
    simp only [go_sem,hs,e]
    exact .last (.refl _ _) h.toPP0
 ·have e:jd L n eF st=(false,st):=by rw [jd,if_neg hb]
  simp only [go_sem,hb,e]
  exact .last (.refl _ _) h.toPP0
def ib (L:List bc) (st:aE):sN × aE:=
 if c9 st=true then (if (tk L st).kind=2 then (⟨1,(tk L st).n,[]⟩,aC st)
  else if cP L [109,111,118,101] st=true then (⟨3,0,(cu L (aC st)).1⟩,(cu L (aC st)).2)
  else if cP L [116,97,103] st=true then (⟨4,0,(cu L (aC st)).1⟩,(cu L (aC st)).2)
  else (⟨2,0,(cu L st).1⟩,(cu L st).2)) else (⟨0,0,[]⟩,st)
theorem Q9 {k:Int} {s:bf} {h:KH}:fQ Tryz.prog 44 [(0,iV k),(2,ae s)] h=.ok (.agg #[iV k,iV 0,ae s]) h:=by kernel_rfl
theorem acq {k n:Int} {h:KH}:fQ Tryz.prog 44 [(0,iV k),(1,iV n)] h=.ok (.agg #[iV k,iV n,ae []]) h:=by kernel_rfl
theorem acr {h:KH}:fQ Tryz.prog 44 [] h=.ok (.agg #[iV 0,iV 0,ae []]) h:=by kernel_rfl
abbrev akV (x:sN):Value:=.agg #[iV x.kind,iV x.n,ae x.name]
theorem Df (hL:LG L) (h:PP L F H q rb st):ak Tryz.prog 170 #[pV q] H (fun w H'=>w=akV (ib L st).1/\gg L F H q rb (ib L st).2 H'):=by
 refine ak.told ?_
 refine agY (Nat.le_refl _) fun hf=>?_
 simp only [Tryz.f170,Option.getD_some]
 simp only [go_sem]
 obtain ⟨fq,fr,fF⟩:=h.toPP0.fresh (Nat.le_refl H.next)
 have wi:H.fz H.next=false:=hf.fresh (Nat.le_refl _)
 have sb:=h.push ⟨[iV 0,iV 0,ae []],44,false,false⟩
 have Az:Fr [rb] H (H.push ⟨[iV 0,iV 0,ae []],44,false,false⟩):=(ba.push H _).fr _
 have gA:(H.push ⟨[iV 0,iV 0,ae []],44,false,false⟩).get H.next=some ⟨[iV 0,iV 0,ae []],44,false,false⟩:=by rw [aV,if_pos rfl]
 have nA:H.next < (H.push ⟨[iV 0,iV 0,ae []],44,false,false⟩).next:=Nat.lt_succ_self _
 generalize (H.push ⟨[iV 0,iV 0,ae []],44,false,false⟩)=Ha at sb Az gA nA
 have hz:=h.fz
 have jE:=hL.len
 have ee:=h.at_
 have cX:IntKind.wrap .i64 (((st.at_:Nat):Int)+1)=((st.at_+1:Nat):Int):=cZ ee (by omega)
 -- eF is aqb
 have fin:∀{H5:ad} {bW:aE},Fr [rb] Ha H5->PP0 L F H5 q rb bW->∀B:cw,B.ro=false->gg L F H q rb bW ((H5.ah H.next B).ai H.fz):=fun f5 p5 B hB=>.last ((Az.then f5).ah (.inr (Nat.le_refl _)) B hB) (p5.put B fq fr fF)
 have xt:∀{H5:ad},Fr [rb] Ha H5->H5.get H.next=some ⟨[iV 0,iV 0,ae []],44,false,false⟩:=fun f5=>by rw [f5.get _ nA (by simpa using fr)];exact gA
 refine ag.by (eZ sb) ?_
 rintro _ _ - ⟨rfl,rfl⟩
 by_cases hb:c9 st=true
 ·simp only [go_sem,hb]
  refine ag.by (rJ sb) ?_
  rintro _ H1 - ⟨rfl,p1⟩
  have h1:=sb.post p1
  have f1:=p1.1
  have gX:H.fz H1.next=false:=hf.fresh (Nat.le_trans Az.nx f1.nx)
  simp only [go_sem,gX]
  have h2:=h1.push ⟨[iV (tk L st).kind,iV (tk L st).n,iV (tk L st).line,iV (tk L st).aj,ae (tk L st).text],82,false,false⟩
  have f2:Fr [rb] Ha (H1.push ⟨[iV (tk L st).kind,iV (tk L st).n,iV (tk L st).line,iV (tk L st).aj,ae (tk L st).text],82,false,false⟩):=f1.push _
  have g2:(H1.push ⟨[iV (tk L st).kind,iV (tk L st).n,iV (tk L st).line,iV (tk L st).aj,ae (tk L st).text],82,false,false⟩).get H1.next=some ⟨[iV (tk L st).kind,iV (tk L st).n,iV (tk L st).line,iV (tk L st).aj,ae (tk L st).text],82,false,false⟩:=by rw [aV,if_pos rfl]
  have nr1:¬H1.next=rb:=(h1.toPP0.fresh (Nat.le_refl _)).2.1
  generalize (H1.push ⟨[iV (tk L st).kind,iV (tk L st).n,iV (tk L st).line,iV (tk L st).aj,ae (tk L st).text],82,false,false⟩)=H2 at h2 f2 g2
  obtain ⟨c1,c2,c3,c4,bL,oL,cL,BL,a,n,c,hq,hr,hB,hl,iK,h0,h4,dv,cm,eH⟩:=h2.fy
  have UX:=xt f2
  have PJ:¬H.next=rb:=fr
  -- one token on
  have iN:∀{H2:ad} {bL oL cL a n c},PP L F H2 q rb st->(tk L st).kind≠4->H2.get rb=some ⟨[.slice (some ⟨bL,oL,none⟩) L.length cL,iV (st.at_:Nat),.slice none 0 0,.bool true,iV st.depth,iV st.bad,.slice a n c],125,false,false⟩->PP L F (H2.ah rb ⟨[.slice (some ⟨bL,oL,none⟩) L.length cL,iV ((st.at_+1:Nat):Int),.slice none 0 0,.bool true,iV st.depth,iV st.bad,.slice a n c],125,false,false⟩) q rb (aC st):=fun h hk hr=>{h.toPP0.set hr (aC st) (nD hL ee hk) with fz:=h.fz}
  by_cases hk:(tk L st).kind=2
  ·have e:ib L st=(⟨1,(tk L st).n,[]⟩,aC st):=by rw [ib,if_pos hb,if_pos hk]
   have hp:=iN h2 (by omega) hr
   have fp:=(f2.ah (.inl (by simp:rb∈[rb])) ⟨[.slice (some ⟨bL,oL,none⟩) L.length cL,iV ((st.at_+1:Nat):Int),.slice none 0 0,.bool true,iV st.depth,iV st.bad,.slice a n c],125,false,false⟩)
   simp only [go_sem,hk,g2,hq,hr,hz,cX,nr1,PJ,UX,wi,acq,e]
   exact fin fp hp.toPP0 _ rfl
  simp only [go_sem,hk,g2]
  refine ag.by (fR h2) ?_
  rintro _ H3 - ⟨rfl,p3⟩
  have h3:=h2.post p3
  have f3:=f2.then p3.1
  by_cases hm:cP L [109,111,118,101] st=true
  ·obtain ⟨c1,c2,c3,c4,bL,oL,cL,BL,a,n,c,hq,hr,hB,hl,iK,h0,h4,dv,cm,eH⟩:=h3.fy
   have e:ib L st=(⟨3,0,(cu L (aC st)).1⟩,(cu L (aC st)).2):=by rw [ib,if_pos hb,if_neg hk,if_pos hm]
   have hp:=iN h3 (jl hm) hr
   have fp:=(f3.ah (.inl (by simp:rb∈[rb])) ⟨[.slice (some ⟨bL,oL,none⟩) L.length cL,iV ((st.at_+1:Nat):Int),.slice none 0 0,.bool true,iV st.depth,iV st.bad,.slice a n c],125,false,false⟩)
   simp only [go_sem,hm,hq,hr,hz,cX]
   refine ag.by (jk hL hp) ?_
   rintro _ H4 - ⟨rfl,p4⟩
   have xu:=xt (fp.then p4.1)
   simp only [go_sem,xu,wi,Q9,e]
   exact fin (fp.then p4.1) p4.2.2 _ rfl
  simp only [go_sem,hm]
  refine ag.by (fR h3) ?_
  rintro _ H4 - ⟨rfl,p4⟩
  have mW:=h3.post p4
  have f4:=f3.then p4.1
  by_cases hg:cP L [116,97,103] st=true
  ·obtain ⟨c1,c2,c3,c4,bL,oL,cL,BL,a,n,c,hq,hr,hB,hl,iK,h0,h4,dv,cm,eH⟩:=mW.fy
   have e:ib L st=(⟨4,0,(cu L (aC st)).1⟩,(cu L (aC st)).2):=by rw [ib,if_pos hb,if_neg hk,if_neg hm,if_pos hg]
   have hp:=iN mW (jl hg) hr
   have fp:=(f4.ah (.inl (by simp:rb∈[rb])) ⟨[.slice (some ⟨bL,oL,none⟩) L.length cL,iV ((st.at_+1:Nat):Int),.slice none 0 0,.bool true,iV st.depth,iV st.bad,.slice a n c],125,false,false⟩)
   simp only [go_sem,hg,hq,hr,hz,cX]
   refine ag.by (jk hL hp) ?_
   rintro _ H5 - ⟨rfl,p5⟩
   have xu:=xt (fp.then p5.1)
   simp only [go_sem,xu,wi,Q9,e]
   exact fin (fp.then p5.1) p5.2.2 _ rfl
  have e:ib L st=(⟨2,0,(cu L st).1⟩,(cu L st).2):=by rw [ib,if_pos hb,if_neg hk,if_neg hm,if_neg hg]
  simp only [go_sem,hg]
  refine ag.by (jk hL mW) ?_
  rintro _ H5 - ⟨rfl,p5⟩
  have xu:=xt (f4.then p5.1)
  simp only [go_sem,xu,wi,Q9,e]
  exact fin (f4.then p5.1) p5.2.2 _ rfl
 ·have e:ib L st=(⟨0,0,[]⟩,st):=by rw [ib,if_neg hb]
  simp only [go_sem,hb,gA,wi,acr,e]
  exact fin (.refl _ _) sb.toPP0 _ rfl
end
section
variable {L:List bc} {F:List Nat} {H:ad} {q rb:Nat} {st:aE}
def nG {α:Type} (L:List bc) (eF:Int) (item:aE->Option (α × aE)):Nat->aE->List α->Option (List α × aE)
 | 0,_,_=>none
 | k+1,st,l=>if (jd L l.length eF st).1=true then (item (jd L l.length eF st).2).bind fun x=>nG L eF item k x.2 (l++[x.1]) else some (l,(jd L l.length eF st).2)
theorem HC {n:Nat} {eF:Int} (h:(jd L n eF st).1=true):n < 6:=by
 unfold jd Bp at h
 (repeat' split at h) <;> first | omega | cases h
theorem Xu {α:Type} {eF:Int} {item:aE->α × aE}:∀(k:Nat) (st:aE) (l:List α),7<=k+l.length->0 < k->∃R,nG L eF (fun s=>some (item s)) k st l=some R
 | 0,st,l,h,h0=>absurd h0 (by decide)
 | k+1,st,l,h,_=>by
  rw [nG]
  split
  ·rename_i hm
   have:=HC hm
   exact Xu k _ _ (by rw [List.length_append,List.length_singleton];omega) (by omega)
  ·exact ⟨_,rfl⟩
def Dg {α:Type} (L:List bc) (eF:Int) (item:aE->α × aE) (st:aE):List α × aE:=(nG L eF (fun s=>some (item s)) 7 st []).getD ([],st)
theorem Yj {α:Type} {eF:Int} {item:aE->α × aE}:nG L eF (fun s=>some (item s)) 7 st []=some (Dg L eF item st):=by
 obtain ⟨R,hR⟩:=Xu (L:=L) (eF:=eF) (item:=item) 7 st [] (by simp) (by decide)
 rw [Dg,hR];rfl
theorem Kd {α:Type} {eF:Int} {item:aE->Option (α × aE)}:∀{k:Nat} {st:aE} {l:List α} {R},nG L eF item k st l=some R->l.length<=6->R.1.length<=6
 | 0,st,l,R,h,_=>by cases h
 | k+1,st,l,R,h,hl=>by
  rw [nG] at h
  split at h
  ·rename_i hm
   have:=HC hm
   cases hi:item (jd L l.length eF st).2 with
   | none=>rw [hi] at h;cases h
   | some x=>rw [hi] at h;exact Kd h (by rw [List.length_append,List.length_singleton];omega)
  ·cases h;exact hl
def qF (L:List bc) (st:aE):List sN × aE:=((Dg L 2 (ib L) (dF L [40] st)).1,dF L [41] (Dg L 2 (ib L) (dF L [40] st)).2)
def zU (L:List bc) (st:aE):List bf × aE:=((Dg L 1 (cu L) (dF L [40] st)).1,dF L [41] (Dg L 1 (cu L) (dF L [40] st)).2)
def hZ (H H':ad) (g:List Nat):Prop:=∀c∈g,H.next<=c/\c < H'.next
theorem HV (hL:LG L) (h:PP L F H q rb st):ak Tryz.prog 169 #[pV q] H (fun w H'=>(∃g,Sl jO H' w (qF L st).1 g/\hZ H H' g)/\gg L F H q rb (qF L st).2 H'):=by
 refine ak.told ?_
 refine agW (Nat.le_refl _) fun hf=>?_
 simp only [Tryz.f169,Option.getD_some]
 simp only [go_sem]
 refine ag.by (iJ hL h) ?_
 rintro _ H1 - p1
 have h1:=h.post p1
 rw [qF]
 generalize dF L [40] st=s1 at p1 h1
 have hR:=Yj (L:=L) (eF:=2) (item:=ib L) (st:=s1)
 generalize Dg L 2 (ib L) s1=R at hR
 have qe:=Kd hR (by simp)
 simp only [go_sem]
 refine la 32712 (fun n V H2=>∃bC l v m,V 3=v/\Gr jO 44 H2 v l m []/\hZ H H2 m/\Fr [rb] H H2/\PP L F H2 q rb bC/\l.length<=6/\nG L 2 (fun s=>some (ib L s)) n bC l=some R) (n:=7)
  ⟨s1,[],.slice none 0 0,[],by simp only [go_sem] <;> rfl,Gr.nil _ _ _,by simp [hZ],p1.1,h1,by simp,hR⟩ ?_ (by rfl)
 rintro n V H2 ⟨bC,l,v,m,e3,cB,cO,kU,h2,pg,fD⟩
 cases n with
 | zero=>cases fD
 | succ n=>
  rw [nG] at fD
  obtain ⟨a,hv⟩:=cB.val
  have wj:∀c∈m,c∉[rb]:=fun c hc=>by have:=(cO c hc).1;have:=h.rl;simp;omega
  simp only [go_sem,e3,hv]
  refine ag.by (N7 hL h2) ?_
  rintro _ H3 - ⟨rfl,p3⟩
  have h3:=h2.post p3
  have sS:=cB.af (H':=H3) (fun b hb=>p3.1.get b (cO b hb).2 (wj b hb)) (by simp)
  by_cases hm:(jd L l.length 2 bC).1=true
  ·rw [if_pos hm] at fD
   have Cd:=HC hm
   generalize (jd L l.length 2 bC).2=AA at p3 h3 fD
   simp only [Option.bind_some] at fD
   simp only [go_sem,hm]
   refine ag.by (Df hL h3) ?_
   rintro _ H4 - ⟨rfl,p4⟩
   have h4:=h3.post p4
   have nV:=p4.1.nx
   have kV:=p3.1.nx
   have oU:=sS.af (H':=H4) (fun b hb=>p4.1.get b (Nat.lt_of_lt_of_le (cO b hb).2 kV) (wj b hb)) (by simp)
   generalize ib L AA=x at p4 h4 fD
   simp only [go_sem,e3,eB qE (by decide) (by decide)]
   refine jZ (r:=jO) (x:=x.1) (g':=[]) qE (oU.af (fun b hb=>bX (by have:=(cO b hb).2;omega)) (by simp)) (fun c hc=>by have:=(cO c hc).2;rw [bJ];omega) (by simp) (by simp) (fun c hc=>hf.fresh (cO c hc).1) (by rw [aV,if_pos rfl]) ⟨rfl,rfl⟩ rfl (by omega) ?_
   intro v7 H7 bH ef jm dx jQ
   have nF:=kU.nx
   rw [bJ] at ef
   have F7:Fr [rb] H H7:=((kU.then p3.1).then p4.1).push _ |>.trans dx (fun c hc=>.inr (cO c hc).1)
   have mW:=h4.push ⟨[iV x.1.kind,iV x.1.n,ae x.1.name],44,false,false⟩
   have UY:=h.rl
   have UZ:=h.ql
   have Ce:∀c∈m,c∉F:=fun c hc e=>by have:=(h.hF c e).1;have:=(cO c hc).1;omega
   have h7:PP L F H7 q rb x.2:={mW.toPP0.fr dx (fun e=>by have:=(cO _ e).1;omega) (fun e=>by have:=(cO _ e).1;omega) (fun c hc e=>Ce c e hc) with fz:=(by rw [jQ,mW.fz,Bool.or_false,beq_eq_false_iff_ne,bJ];omega)}
   simp only [go_sem]
   refine ⟨n,by omega,x.2,l++[x.1],v7,_,rfl,by simpa using bH,fun c hc=>?_,F7,h7,by rw [List.length_append,List.length_singleton];omega,fD⟩
   rw [List.mem_singleton,bJ] at hc
   omega
  ·rw [if_neg hm] at fD
   cases fD
   simp only [go_sem,hm,e3,hv]
   refine ag.by (iJ hL h3) ?_
   rintro _ H4 - p4
   have kV:=p3.1.nx
   have nV:=p4.1.nx
   simp only [go_sem,e3,hv]
   refine ⟨⟨m,?_,fun c hc=>by have:=cO c hc;show H.next<=c/\c < H4.next;omega⟩,.last ((kU.then p3.1).then p4.1) p4.2.2⟩
   have:=(sS.af (H':=H4) (fun b hb=>p4.1.get b (Nat.lt_of_lt_of_le (cO b hb).2 kV) (wj b hb)) (by simp)).sl
   rw [List.append_nil,hv] at this
   exact this.af fun _ _=>rfl
theorem YP (hL:LG L) (h:PP L F H q rb st):ak Tryz.prog 146 #[pV q] H (fun w H'=>(∃g,Sl .str H' w (zU L st).1 g/\hZ H H' g)/\gg L F H q rb (zU L st).2 H'):=by
 refine ak.told ?_
 refine agf (Nat.le_refl _) fun hf=>?_
 simp only [Tryz.f146,Option.getD_some]
 simp only [go_sem]
 refine ag.by (iJ hL h) ?_
 rintro _ H1 - p1
 have h1:=h.post p1
 rw [zU]
 generalize dF L [40] st=s1 at p1 h1
 have hR:=Yj (L:=L) (eF:=1) (item:=cu L) (st:=s1)
 generalize Dg L 1 (cu L) s1=R at hR
 have qe:=Kd hR (by simp)
 simp only [go_sem]
 refine la 32712 (fun n V H2=>∃bC l v m,V 3=v/\Gr .str 9 H2 v l m []/\hZ H H2 m/\Fr [rb] H H2/\PP L F H2 q rb bC/\l.length<=6/\nG L 1 (fun s=>some (cu L s)) n bC l=some R) (n:=7)
  ⟨s1,[],.slice none 0 0,[],by simp only [go_sem] <;> rfl,Gr.nil _ _ _,by simp [hZ],p1.1,h1,by simp,hR⟩ ?_ (by rfl)
 rintro n V H2 ⟨bC,l,v,m,e3,cB,cO,kU,h2,pg,fD⟩
 cases n with
 | zero=>cases fD
 | succ n=>
  rw [nG] at fD
  obtain ⟨a,hv⟩:=cB.val
  have wj:∀c∈m,c∉[rb]:=fun c hc=>by have:=(cO c hc).1;have:=h.rl;simp;omega
  simp only [go_sem,e3,hv]
  refine ag.by (N7 hL h2) ?_
  rintro _ H3 - ⟨rfl,p3⟩
  have h3:=h2.post p3
  have sS:=cB.af (H':=H3) (fun b hb=>p3.1.get b (cO b hb).2 (wj b hb)) (by simp)
  by_cases hm:(jd L l.length 1 bC).1=true
  ·rw [if_pos hm] at fD
   have Cd:=HC hm
   generalize (jd L l.length 1 bC).2=AA at p3 h3 fD
   simp only [Option.bind_some] at fD
   simp only [go_sem,hm]
   refine ag.by (jk hL h3) ?_
   rintro _ H4 - ⟨rfl,p4⟩
   have h4:=h3.post p4
   have nV:=p4.1.nx
   have kV:=p3.1.nx
   have oU:=sS.af (H':=H4) (fun b hb=>p4.1.get b (Nat.lt_of_lt_of_le (cO b hb).2 kV) (wj b hb)) (by simp)
   generalize cu L AA=x at p4 h4 fD
   simp only [go_sem,e3,eB vj (by decide) (by decide)]
   refine jZ (r:=.str) (x:=x.1) (g':=[]) vj (oU.af (fun b hb=>bX (by have:=(cO b hb).2;omega)) (by simp)) (fun c hc=>by have:=(cO c hc).2;rw [bJ];omega) (by simp) (by simp) (fun c hc=>hf.fresh (cO c hc).1) (by rw [aV,if_pos rfl]) ⟨rfl,rfl⟩ rfl (by omega) ?_
   intro v7 H7 bH ef jm dx jQ
   have nF:=kU.nx
   rw [bJ] at ef
   have F7:Fr [rb] H H7:=((kU.then p3.1).then p4.1).push _ |>.trans dx (fun c hc=>.inr (cO c hc).1)
   have mW:=h4.push ⟨[ae x.1],9,false,false⟩
   have UY:=h.rl
   have UZ:=h.ql
   have Ce:∀c∈m,c∉F:=fun c hc e=>by have:=(h.hF c e).1;have:=(cO c hc).1;omega
   have h7:PP L F H7 q rb x.2:={mW.toPP0.fr dx (fun e=>by have:=(cO _ e).1;omega) (fun e=>by have:=(cO _ e).1;omega) (fun c hc e=>Ce c e hc) with fz:=(by rw [jQ,mW.fz,Bool.or_false,beq_eq_false_iff_ne,bJ];omega)}
   simp only [go_sem]
   refine ⟨n,by omega,x.2,l++[x.1],v7,_,rfl,by simpa using bH,fun c hc=>?_,F7,h7,by rw [List.length_append,List.length_singleton];omega,fD⟩
   rw [List.mem_singleton,bJ] at hc
   omega
  ·rw [if_neg hm] at fD
   cases fD
   simp only [go_sem,hm,e3,hv]
   refine ag.by (iJ hL h3) ?_
   rintro _ H4 - p4
   have kV:=p3.1.nx
   have nV:=p4.1.nx
   simp only [go_sem,e3,hv]
   refine ⟨⟨m,?_,fun c hc=>by have:=cO c hc;show H.next<=c/\c < H4.next;omega⟩,.last ((kU.then p3.1).then p4.1) p4.2.2⟩
   have:=(sS.af (H':=H4) (fun b hb=>p4.1.get b (Nat.lt_of_lt_of_le (cO b hb).2 kV) (wj b hb)) (by simp)).sl
   rw [List.append_nil,hv] at this
   exact this.af fun _ _=>rfl
end
structure PQ0 (L:List bc) (F:List Nat) (H:ad) (q rb:Nat) (st:aE) (p:List PN) (m:List Nat):Prop where
 hq:∃c1 c2 c3 c4,H.get q=some ⟨[.pointer (some ⟨rb,0,none⟩),c1,c2,c3,c4],127,false,false⟩
 hr:∃vL vP,H.get rb=some ⟨[vL,iV (st.at_:Nat),.slice none 0 0,.bool true,iV st.depth,iV st.bad,vP],125,false,false⟩/\Sl Fl H vL L F/\Gr fJ 199 H vP p m []
 hF:∀b∈F,b < H.next/\b≠rb/\b≠q
 hm:∀b∈m,b < H.next/\b≠rb/\b≠q/\b∉F
 qr:q≠rb
 at_:st.at_ < L.length
 ql:q < H.next
 rl:rb < H.next
 pl:p.length<=st.at_
structure PQ (L:List bc) (F:List Nat) (H:ad) (q rb:Nat) (st:aE) (p:List PN) (m:List Nat):Prop extends PQ0 L F H q rb st p m where
 fz:H.fz rb=false
 fm:∀b∈m,H.fz b=false
 fn:∀b,H.next<=b->H.fz b=false
section
variable {L:List bc} {F:List Nat} {H H1 H2:ad} {q rb:Nat} {st cC bC:aE} {p p1 p2:List PN} {m m1 m2:List Nat}
theorem PQ0.pp (h:PQ0 L F H q rb st p m):PP0 L F H q rb st:=by
 obtain ⟨h1,⟨vL,vP,hr,hs,hg⟩,h3,h4,h5,h6,h7,h8,h9⟩:=h
 obtain ⟨a,rfl⟩:=hg.val
 exact ⟨h1,⟨vL,a,_,_,hr,hs⟩,h3,h5,h6,h7,h8⟩
theorem PQ.pp (h:PQ L F H q rb st p m):PP L F H q rb st:={h.toPQ0.pp with fz:=h.fz}
theorem PQ0.fr (h:PQ0 L F H q rb st p m) {M:List Nat} (bj:Fr M H H1) (mq:q∉M) (mr:rb∉M) (mF:∀b∈F,b∉M) (mm:∀b∈m,b∉M):PQ0 L F H1 q rb st p m:=by
 obtain ⟨⟨c1,c2,c3,c4,mo⟩,⟨vL,vP,iE,hs,hg⟩,hf,hm,h3,h4,h5,h6,h7⟩:=h
 exact ⟨⟨c1,c2,c3,c4,(bj.get q h5 mq).trans mo⟩,⟨vL,vP,(bj.get rb h6 mr).trans iE,hs.af fun x hx=>bj.get x (hf x hx).1 (mF x hx),hg.af (fun x hx=>bj.get x (hm x hx).1 (mm x hx)) (by simp)⟩,
  fun b hb=>⟨Nat.lt_of_lt_of_le (hf b hb).1 bj.nx,(hf b hb).2⟩,fun b hb=>⟨Nat.lt_of_lt_of_le (hm b hb).1 bj.nx,(hm b hb).2⟩,h3,h4,Nat.lt_of_lt_of_le h5 bj.nx,Nat.lt_of_lt_of_le h6 bj.nx,h7⟩
theorem PQ0.ai (h:PQ0 L F H q rb st p m) (fz:Nat->Bool):PQ0 L F (H.ai fz) q rb st p m:=h.fr (M:=[]) ((Fr.refl _ _).ai _) (by simp) (by simp) (by simp) (by simp)
def EL (L:List bc) (F:List Nat) (H:ad) (q rb:Nat) (m:List Nat) (bW:aE) (p':List PN) (H':ad):Prop:=
 Fr (rb::m) H H'/\(∀c,H'.fz c=H.fz c)/\∃m',PQ0 L F H' q rb bW p' m'/\∀b∈m',b∈m∨H.next<=b
structure PR (L:List bc) (F:List Nat) (H:ad) (q rb:Nat) (m:List Nat) (H1:ad) (cC:aE) (p1:List PN) (m1:List Nat):Prop where
 fr:Fr (rb::m) H H1
 pq:PQ L F H1 q rb cC p1 m1
 sub:∀b∈m1,b∈m∨H.next<=b
theorem PR.start (h:PQ L F H q rb st p m):PR L F H q rb m H st p m:=⟨.refl _ _,h,fun _ h=>.inl h⟩
theorem PR.call (h:PR L F H q rb m H1 cC p1 m1) {bW:aE} {p':List PN} (hp:EL L F H1 q rb m1 bW p' H2):∃m2,PR L F H q rb m H2 bW p' m2:=by
 obtain ⟨hf,hz,m',h0,hs⟩:=hp
 refine ⟨m',h.fr.trans hf fun c hc=>?_,{h0 with fz:=by rw [hz];exact h.pq.fz,fm:=fun b hb=>?_,fn:=fun b hb=>by rw [hz];exact h.pq.fn b (Nat.le_trans hf.nx hb)},fun b hb=>?_⟩
 ·rcases List.mem_cons.1 hc with e | e
  ·exact .inl (by simp [e])
  ·exact (h.sub c e).imp (fun e=>by simp [e]) id
 ·rw [hz]
  rcases hs b hb with e | e
  ·exact h.pq.fm b e
  ·exact h.pq.fn b e
 ·rcases hs b hb with e | e
  ·exact h.sub b e
  ·exact .inr (Nat.le_trans h.fr.nx e)
theorem PR.aH (h:PR L F H q rb m H1 cC p1 m1) (ho:ba H1 H2) (hz:∀c,c < H1.next∨H2.next<=c->H2.fz c=H1.fz c):PR L F H q rb m H2 cC p1 m1:=
 ⟨h.fr.then (ho.fr _),{h.pq.toPQ0.fr (ho.fr []) (by simp) (by simp) (by simp) (by simp) with fz:=by rw [hz _ (.inl h.pq.rl)];exact h.pq.fz,fm:=fun b hb=>by rw [hz _ (.inl (h.pq.hm b hb).1)];exact h.pq.fm b hb,fn:=fun b hb=>by rw [hz _ (.inr hb)];exact h.pq.fn b (Nat.le_trans ho.nx hb)},h.sub⟩
theorem PR.push (h:PR L F H q rb m H1 cC p1 m1) (B:cw) (hB:B.ro=false:=by rfl):PR L F H q rb m (H1.push B) cC p1 m1:=
 h.aH (ba.push H1 B hB) fun c hc=>by
  rw [bJ] at hc
  rw [qw,show (c==H1.next)=false from by rw [beq_eq_false_iff_ne];omega,Bool.false_or]
theorem PR.set (h:PR L F H q rb m H1 cC p1 m1) {vL v1 v4 v5 vP:Value} (hr:H1.get rb=some ⟨[vL,v1,.slice none 0 0,.bool true,v4,v5,vP],125,false,false⟩) (bW:aE) (ha:bW.at_ < L.length) (hl:p1.length<=bW.at_):
  PR L F H q rb m (H1.ah rb ⟨[vL,iV (bW.at_:Nat),.slice none 0 0,.bool true,iV bW.depth,iV bW.bad,vP],125,false,false⟩) bW p1 m1:=by
 refine ⟨h.fr.ah (.inl (by simp)) _,?_,h.sub⟩
 obtain ⟨⟨⟨c1,c2,c3,c4,mo⟩,⟨vL',ph,iE,hs,hg⟩,hf,hm,h3,h4,h5,h6,h7⟩,z1,z2,z3⟩:=h.pq
 rw [hr] at iE
 cases iE
 exact ⟨⟨⟨c1,c2,c3,c4,by rw [az,if_neg h3];exact mo⟩,⟨vL,vP,by rw [az,if_pos rfl],hs.af fun b hb=>by rw [az,if_neg (hf b hb).2.1],hg.af (fun b hb=>by rw [az,if_neg (hm b hb).2.1]) (by simp)⟩,hf,hm,h3,ha,h5,h6,hl⟩,z1,z2,z3⟩
theorem PR.put (h:PR L F H q rb m H1 cC p1 m1) {b:Nat} (B:cw) (hB:B.ro=false) (hb:H.next<=b) (hF:b∉F) (hq:b≠q) (hr:b≠rb) (hm:b∉m1):PR L F H q rb m (H1.ah b B) cC p1 m1:=by
 refine ⟨h.fr.ah (.inr hb) B hB,?_,h.sub⟩
 have bj:Fr [b] H1 (H1.ah b B):=(Fr.refl _ _).ah (.inl (by simp)) B hB
 exact {h.pq.toPQ0.fr bj (by simpa using hq.symm) (by simpa using hr.symm) (fun c hc=>by simp;rintro rfl;exact hF hc) (fun c hc=>by simp;rintro rfl;exact hm hc) with fz:=h.pq.fz,fm:=h.pq.fm,fn:=h.pq.fn}
theorem PR.last (h:PR L F H q rb m H1 cC p1 m1):EL L F H q rb m cC p1 (H1.ai H.fz):=⟨h.fr.ai _,fun _=>rfl,m1,h.pq.toPQ0.ai _,h.sub⟩
theorem PQ0.fy (h:PQ0 L F H q rb st p m):∃c1 c2 c3 c4 bL oL cL BL vP,H.get q=some ⟨[.pointer (some ⟨rb,0,none⟩),c1,c2,c3,c4],127,false,false⟩/\
  H.get rb=some ⟨[.slice (some ⟨bL,oL,none⟩) L.length cL,iV (st.at_:Nat),.slice none 0 0,.bool true,iV st.depth,iV st.bad,vP],125,false,false⟩/\Gr fJ 199 H vP p m []/\H.get bL=some BL/\
  oL+st.at_ * 5+5<=BL.cells.length/\(BL.cells.drop (oL+st.at_ * 5)).take 5=ij (tk L st)/\BL.cells[oL+st.at_ * 5]?=some (iV (tk L st).kind)/\BL.cells[oL+st.at_ * 5+4]?=some (ae (tk L st).text)/\bL≠rb/\bL < H.next/\bL≠q:=by
 obtain ⟨c1,c2,c3,c4,bL,oL,cL,BL,a,n,c,hq,hr,hB,hl,iK,h0,h4,dv,cm,eH⟩:=h.pp.fy
 obtain ⟨vL,vP,iE,hs,hg⟩:=h.hr
 rw [hr] at iE
 cases iE
 exact ⟨c1,c2,c3,c4,bL,oL,cL,BL,_,hq,hr,hg,hB,hl,iK,h0,h4,dv,cm,eH⟩
theorem ahs {s:bf} (hl:s.length < 1000000):ak Tryz.prog 158 #[ae s] H (fun w H'=>w=.bool (EK s)/\ba H H'/\∀c,H'.fz c=H.fz c):=
 ak.told ((Zd hl).mono fun w H' _ ⟨h1,h2⟩=>⟨h1,((h2.fr []).ai _).aH,fun _=>rfl⟩)
abbrev lu (n:PN):List Value:=[iV n.kind,iV n.a,iV n.b,iV n.n,ae n.name]
theorem EX (hL:LG L) (h:PQ L F H q rb st p m) (j6:p.length < st.at_) {n:PN}:ak Tryz.prog 177 #[pV rb,.agg (lu n).toArray] H (fun w H'=>w=iV (p.length:Nat)/\EL L F H q rb m st (p++[n]) H'):=by
 refine ak.told ?_
 refine ahc (Nat.le_refl _) fun hf=>?_
 simp only [Tryz.f177,Option.getD_some]
 have hz:=h.fz
 have jE:=hL.len
 have ee:=h.at_
 have r1:=(PR.start h).push ⟨lu n,199,false,false⟩
 have g1:(H.push ⟨lu n,199,false,false⟩).get H.next=some ⟨lu n,199,false,false⟩:=by rw [aV,if_pos rfl]
 simp only [go_sem]
 have nr:¬rb=H.next:=by have:=h.rl;omega
 obtain ⟨c1,c2,c3,c4,bL,oL,cL,BL,vP,hq,hr,hg,hB,hl,iK,h0,h4,dv,cm,eH⟩:=h.toPQ0.fy
 obtain ⟨a,hv⟩:=hg.val
 simp only [go_sem,hr,nr,eB Sv (by decide) (by decide)]
 have wk:=h.hm
 refine jZ (r:=fJ) (x:=n) (g':=[]) Sv (hg.af (fun b hb=>by rw [bX (by have:=(wk b hb).1;rw [bJ];omega),bX (wk b hb).1]) (by simp)) (fun c hc=>by have:=(wk c hc).1;rw [bJ,bJ];omega) (by simp) (by simp) (fun c hc=>h.fm c hc) (by rw [aV,if_pos (by rw [bJ])]) ⟨rfl,rfl⟩ rfl (by omega) ?_
 intro v7 H7 bH ef jm dx jQ
 rw [bJ,bJ] at ef
 have e1:H7.get rb=some ⟨[.slice (some ⟨bL,oL,none⟩) L.length cL,iV (st.at_:Nat),.slice none 0 0,.bool true,iV st.depth,iV st.bad,vP],125,false,false⟩:=by
  have:=h.rl
  rw [jm rb (by rw [bJ,bJ];omega) (fun e=>(wk rb e).2.1 rfl),bX (by rw [bJ];omega),bX this];exact hr
 obtain ⟨a7,xv⟩:=bH.val
 have ZI:(p++[n]).length=p.length+1:=by simp
 have cX:IntKind.wrap .i64 (((p.length+1:Nat):Int) - 1)=((p.length:Nat):Int):=by rw [show ((p.length+1:Nat):Int) - 1=((p.length:Nat):Int) from by omega];exact vf (by omega)
 rw [ZI] at xv
 simp only [go_sem,e1,hz,hr,xv,cX,nr]
 have iL:((H.push ⟨lu n,199,false,false⟩).push ⟨lu n,199,false,false⟩).next=H.next+2:=by rw [bJ,bJ]
 have ll:Gr fJ 199 H7 (.slice a7 (p.length+1) (p.length+1)) (p++[n]) [H.next+2] []:=by rw [<-xv];exact bH
 have Sw:Fr (rb::m) H H7:=(((Fr.refl (rb::m) H).push _).push _).then (dx.sub fun c hc=>.inl (by simp [hc]))
 obtain ⟨⟨d1,d2,d3,d4,mo⟩,⟨vL,ph,iE,hs,_⟩,hF,hm,yZ,aws,PK,qe,awt⟩:=h.toPQ0
 rw [hr] at iE
 cases iE
 have F2:q∉rb::m:=fun e=>by
  rcases List.mem_cons.1 e with e | e
  ·exact yZ e
  ·exact (hm q e).2.2.1 rfl
 have hF7:∀b∈F,b∉rb::m:=fun b hb e=>by
  rcases List.mem_cons.1 e with e | e
  ·exact (hF b hb).2.1 e
  ·exact (hm b e).2.2.2 hb
 refine ⟨(Sw.ah (.inl (by simp)) _).ai _,fun _=>rfl,[H.next+2],PQ0.ai ⟨⟨d1,d2,d3,d4,?_⟩,⟨_,_,by rw [az,if_pos rfl],?_,?_⟩,fun b hb=>⟨?_,(hF b hb).2⟩,fun b hb=>?_,yZ,ee,?_,?_,?_⟩ _,fun b hb=>.inr ?_⟩
 ·rw [az,if_neg yZ,Sw.get q PK F2];exact mo
 ·exact hs.af fun b hb=>by rw [az,if_neg (hF b hb).2.1,Sw.get b (hF b hb).1 (hF7 b hb)]
 ·exact ll.af (fun b hb=>by rw [List.mem_singleton] at hb;subst hb;rw [az,if_neg (by omega)]) (by simp)
 ·show b < H7.next;have:=(hF b hb).1;omega
 ·rw [List.mem_singleton] at hb
  subst hb
  exact ⟨by show H.next+2 < H7.next;omega,by omega,by omega,fun e=>by have:=(hF _ e).1;omega⟩
 ·show q < H7.next;omega
 ·show rb < H7.next;omega
 ·rw [ZI];omega
 ·rw [List.mem_singleton] at hb;omega
theorem adQ (h:PQ L F H q rb st p m) {s:bf}:ak Tryz.prog 183 #[pV rb,ae s] H (fun w H'=>w=.tuple #[iV 0,.bool true]/\H=H'):=by
 refine aho (Nat.le_refl _) fun hf=>?_
 simp only [Tryz.f183,Option.getD_some]
 obtain ⟨c1,c2,c3,c4,bL,oL,cL,BL,vP,hq,hr,hg,hB,hl,iK,h0,h4,dv,cm,eH⟩:=h.toPQ0.fy
 simp only [go_sem,hr]
 refine iw 8380656 0 (fun i V H1=>V 13=iV (i:Nat)/\H=H1) ⟨by simp only [go_sem] <;> rfl,rfl⟩ (fun i V H1 hi=>absurd hi (by omega)) ?_ (by rfl)
 rintro V H1 ⟨e13,rfl⟩
 simp only [go_sem,e13,hr]
def rO (L:List bc) (t:bc) (st:aE) (p:List PN):Int × aE × List PN:=
 if ea L [94] (aC st)=true then
  (if (tk L (aC (aC st))).kind≠2∨(tk L (aC (aC st))).n < 1 then (0,{aC (aC st) with bad:=2},p)
  else ((p.length:Nat),aC (aC (aC st)),p++[⟨3,(tk L (aC (aC st))).n,0,0,t.text⟩]))
 else ((p.length:Nat),aC st,p++[⟨3,1,0,0,t.text⟩])
theorem Yk {a b:Int} {h:KH}:fQ Tryz.prog 199 [(0,iV a),(1,iV b)] h=.ok (.agg #[iV a,iV b,iV 0,iV 0,ae []]) h:=by kernel_rfl
theorem XJ {a b c:Int} {h:KH}:fQ Tryz.prog 199 [(0,iV a),(1,iV b),(2,iV c)] h=.ok (.agg #[iV a,iV b,iV c,iV 0,ae []]) h:=by kernel_rfl
theorem XK {a:Int} {h:KH}:fQ Tryz.prog 199 [(0,iV a)] h=.ok (.agg #[iV a,iV 0,iV 0,iV 0,ae []]) h:=by kernel_rfl
theorem ajB (hL:LG L) (h:PQ L F H q rb st p m) (hk:(tk L st).kind≠4) {t:bc}:ak Tryz.prog 182 #[pV rb,.agg (ij t).toArray] H (fun w H'=>w=iV (rO L t st p).1/\EL L F H q rb m (rO L t st p).2.1 (rO L t st p).2.2 H'/\st.at_+(rO L t st p).2.2.length<=(rO L t st p).2.1.at_+p.length):=by
 refine ak.told ?_
 refine ahm (Nat.le_refl _) fun hf=>?_
 simp only [Tryz.f182,Option.getD_some]
 have hz:=h.fz
 have jE:=hL.len
 have ee:=h.at_
 have cX:IntKind.wrap .i64 (((st.at_:Nat):Int)+1)=((st.at_+1:Nat):Int):=cZ ee (by omega)
 have gX:H.fz (H.next+1)=false:=hf.fresh (Nat.le_succ _)
 have nr:¬rb=H.next:=by have:=h.rl;omega
 have uP:¬rb=H.next+1:=by have:=h.rl;omega
 obtain ⟨c1,c2,c3,c4,bL,oL,cL,BL,vP,hq,hr,hg,hB,hl,iK,h0,h4,dv,cm,eH⟩:=h.toPQ0.fy
 simp only [go_sem,Yk,gX]
 refine ag.by (adQ (((PR.start h).push ⟨ij t,82,false,false⟩).push ⟨lu ⟨3,1,0,0,[]⟩,199,false,false⟩).pq) ?_
 rintro _ _ - ⟨rfl,rfl⟩
 simp only [go_sem,gX,hr,nr,uP,hz,cX]
 have nF:H.next+1∉F:=fun e=>by have:=(h.hF _ e).1;omega
 have nq:H.next+1≠q:=by have:=h.ql;omega
 have gJ:H.next+1≠rb:=by have:=h.rl;omega
 have nm:H.next+1∉m:=fun e=>by have:=(h.hm _ e).1;omega
 have r2:=(((((PR.start h).push ⟨ij t,82,false,false⟩).push ⟨lu ⟨3,1,0,0,[]⟩,199,false,false⟩).put (b:=H.next+1) ⟨[iV 3,iV 1,iV 0,iV 0,ae []],199,false,false⟩ rfl (Nat.le_succ _) nF nq gJ nm).put (b:=H.next+1) ⟨[iV 3,iV 1,iV 0,iV 0,ae []],199,false,false⟩ rfl (Nat.le_succ _) nF nq gJ nm).put (b:=H.next+1) ⟨lu ⟨3,1,0,0,t.text⟩,199,false,false⟩ rfl (Nat.le_succ _) nF nq gJ nm
 have g2:(((((H.push ⟨ij t,82,false,false⟩).push ⟨lu ⟨3,1,0,0,[]⟩,199,false,false⟩).ah (H.next+1) ⟨[iV 3,iV 1,iV 0,iV 0,ae []],199,false,false⟩).ah (H.next+1) ⟨[iV 3,iV 1,iV 0,iV 0,ae []],199,false,false⟩).ah (H.next+1) ⟨lu ⟨3,1,0,0,t.text⟩,199,false,false⟩).get rb=some ⟨[.slice (some ⟨bL,oL,none⟩) L.length cL,iV (st.at_:Nat),.slice none 0 0,.bool true,iV st.depth,iV st.bad,vP],125,false,false⟩:=by
  rw [az,if_neg uP,az,if_neg uP,az,if_neg uP,bX (by have:=h.rl;rw [bJ];omega),bX h.rl];exact hr
 have gB:(((((H.push ⟨ij t,82,false,false⟩).push ⟨lu ⟨3,1,0,0,[]⟩,199,false,false⟩).ah (H.next+1) ⟨[iV 3,iV 1,iV 0,iV 0,ae []],199,false,false⟩).ah (H.next+1) ⟨[iV 3,iV 1,iV 0,iV 0,ae []],199,false,false⟩).ah (H.next+1) ⟨lu ⟨3,1,0,0,t.text⟩,199,false,false⟩).get (H.next+1)=some ⟨lu ⟨3,1,0,0,t.text⟩,199,false,false⟩:=by rw [az,if_pos rfl]
 have n2:(((((H.push ⟨ij t,82,false,false⟩).push ⟨lu ⟨3,1,0,0,[]⟩,199,false,false⟩).ah (H.next+1) ⟨[iV 3,iV 1,iV 0,iV 0,ae []],199,false,false⟩).ah (H.next+1) ⟨[iV 3,iV 1,iV 0,iV 0,ae []],199,false,false⟩).ah (H.next+1) ⟨lu ⟨3,1,0,0,t.text⟩,199,false,false⟩).next=H.next+2:=rfl
 generalize (((((H.push ⟨ij t,82,false,false⟩).push ⟨lu ⟨3,1,0,0,[]⟩,199,false,false⟩).ah (H.next+1) ⟨[iV 3,iV 1,iV 0,iV 0,ae []],199,false,false⟩).ah (H.next+1) ⟨[iV 3,iV 1,iV 0,iV 0,ae []],199,false,false⟩).ah (H.next+1) ⟨lu ⟨3,1,0,0,t.text⟩,199,false,false⟩)=H2 at r2 g2 gB n2
 have r3:=r2.set g2 (aC st) (nD hL ee hk) (by have:=h.pl;show p.length<=st.at_+1;omega)
 have U0:(H2.ah rb ⟨[.slice (some ⟨bL,oL,none⟩) L.length cL,iV (((aC st).at_:Nat):Int),.slice none 0 0,.bool true,iV (aC st).depth,iV (aC st).bad,vP],125,false,false⟩).get (H.next+1)=some ⟨lu ⟨3,1,0,0,t.text⟩,199,false,false⟩:=by rw [az,if_neg gJ];exact gB
 have n3:(H2.ah rb ⟨[.slice (some ⟨bL,oL,none⟩) L.length cL,iV (((aC st).at_:Nat):Int),.slice none 0 0,.bool true,iV (aC st).depth,iV (aC st).bad,vP],125,false,false⟩).next=H.next+2:=n2
 generalize dN:(H2.ah rb ⟨[.slice (some ⟨bL,oL,none⟩) L.length cL,iV (((aC st).at_:Nat):Int),.slice none 0 0,.bool true,iV (aC st).depth,iV (aC st).bad,vP],125,false,false⟩)=H3 at r3 U0 n3
 have akW:(H2.ah rb ⟨[.slice (some ⟨bL,oL,none⟩) L.length cL,iV ((st.at_+1:Nat):Int),.slice none 0 0,.bool true,iV st.depth,iV st.bad,vP],125,false,false⟩)=H3:=dN
 rw [akW]
 have j6:=h.pl
 refine ag.by (nE r3.pq.pp) ?_
 rintro _ _ - ⟨rfl,rfl⟩
 by_cases hs:ea L [94] (aC st)=true
 ·obtain ⟨c1,c2,c3,c4,bL,oL,cL,BL,vP,hq,hr,hg,hB,hl,iK,h0,h4,dv,cm,eH⟩:=r3.pq.toPQ0.fy
  have a1:(aC st).at_=st.at_+1:=rfl
  have a2:(aC (aC st)).at_=st.at_+2:=rfl
  have iL:=nD hL r3.pq.at_ (wV hs)
  rw [a1] at iL
  have K7:IntKind.wrap .i64 (((st.at_+1:Nat):Int)+1)=((st.at_+2:Nat):Int):=cZ (n:=L.length) (by omega) (by omega)
  have r4:=r3.set hr (aC (aC st)) iL (by show p.length<=st.at_+2;omega)
  have PM:(H3.ah rb ⟨[.slice (some ⟨bL,oL,none⟩) L.length cL,iV (((aC (aC st)).at_:Nat):Int),.slice none 0 0,.bool true,iV (aC (aC st)).depth,iV (aC (aC st)).bad,vP],125,false,false⟩).get (H.next+1)=some ⟨lu ⟨3,1,0,0,t.text⟩,199,false,false⟩:=by rw [az,if_neg gJ];exact U0
  have n4:(H3.ah rb ⟨[.slice (some ⟨bL,oL,none⟩) L.length cL,iV (((aC (aC st)).at_:Nat):Int),.slice none 0 0,.bool true,iV (aC (aC st)).depth,iV (aC (aC st)).bad,vP],125,false,false⟩).next=H.next+2:=n3
  have iE:H3.get rb=some ⟨[.slice (some ⟨bL,oL,none⟩) L.length cL,iV ((st.at_+1:Nat):Int),.slice none 0 0,.bool true,iV st.depth,iV st.bad,vP],125,false,false⟩:=hr
  have er:H.fz (H.next+2)=false:=hf.fresh (by omega)
  have F8:(H3.ah rb ⟨[.slice (some ⟨bL,oL,none⟩) L.length cL,iV (((aC (aC st)).at_:Nat):Int),.slice none 0 0,.bool true,iV (aC (aC st)).depth,iV (aC (aC st)).bad,vP],125,false,false⟩).get rb=some ⟨[.slice (some ⟨bL,oL,none⟩) L.length cL,iV (((aC (aC st)).at_:Nat):Int),.slice none 0 0,.bool true,iV (aC (aC st)).depth,iV (aC (aC st)).bad,vP],125,false,false⟩:=by rw [az,if_pos rfl]
  simp only [go_sem,hs,iE,K7,hz]
  generalize dB:(H3.ah rb ⟨[.slice (some ⟨bL,oL,none⟩) L.length cL,iV (((aC (aC st)).at_:Nat):Int),.slice none 0 0,.bool true,iV (aC (aC st)).depth,iV (aC (aC st)).bad,vP],125,false,false⟩)=H4 at r4 PM n4 F8
  have S2:(H3.ah rb ⟨[.slice (some ⟨bL,oL,none⟩) L.length cL,iV ((st.at_+2:Nat):Int),.slice none 0 0,.bool true,iV st.depth,iV st.bad,vP],125,false,false⟩)=H4:=dB
  rw [S2]
  obtain ⟨d1,d2,d3,d4,bL4,oL4,cL4,BL4,F9,hq4,tj,Md,Me,hl4,Sx,h04,h44,akX,aaH,akY⟩:=r4.pq.toPQ0.fy
  rw [F8] at tj
  cases tj
  have OS:H4.get rb=some ⟨[.slice (some ⟨bL,oL,none⟩) L.length cL,iV ((st.at_+2:Nat):Int),.slice none 0 0,.bool true,iV st.depth,iV st.bad,vP],125,false,false⟩:=F8
  have akZ:oL+(st.at_+2) * 5+5<=BL4.cells.length:=hl4
  have Ze:(BL4.cells.drop (oL+(st.at_+2) * 5)).take 5=ij (tk L (aC (aC st))):=Sx
  generalize hx:tk L (aC (aC st))=x at Sx Ze
  have PO:H4.next=H.next+2:=n4
  have I8:¬H.next+1=H.next+2:=by omega
  have y8:¬rb=H.next+2:=by have:=h.rl;omega
  have r5:=(r4.push ⟨[iV 0,iV 0,iV 0,iV 0,ae []],82,false,false⟩).put (b:=H.next+2) ⟨ij x,82,false,false⟩ rfl (by omega) (fun e=>by have:=(h.hF _ e).1;omega) (by have:=h.ql;omega) (by have:=h.rl;omega) (fun e=>by have:=(h.hm _ e).1;omega)
  have g5r:((H4.push ⟨[iV 0,iV 0,iV 0,iV 0,ae []],82,false,false⟩).ah (H.next+2) ⟨ij x,82,false,false⟩).get rb=some ⟨[.slice (some ⟨bL,oL,none⟩) L.length cL,iV ((st.at_+2:Nat):Int),.slice none 0 0,.bool true,iV st.depth,iV st.bad,vP],125,false,false⟩:=by rw [az,if_neg y8,bX (by have:=h.rl;omega)];exact OS
  simp only [go_sem,iL,Me,akZ,Ze,PO,er]
  have eb:((tk L (aC (aC st))).kind≠2∨(tk L (aC (aC st))).n < 1)->rO L t st p=(0,{aC (aC st) with bad:=2},p):=fun hc=>by rw [rO,if_pos hs,if_pos hc]
  have ec:¬((tk L (aC (aC st))).kind≠2∨(tk L (aC (aC st))).n < 1)->rO L t st p=(((p.length:Nat):Int),aC (aC (aC st)),p++[⟨3,(tk L (aC (aC st))).n,0,0,t.text⟩]):=fun hc=>by rw [rO,if_pos hs,if_neg hc]
  rw [hx] at eb ec
  have aaI:∀{H5:ad},H5=((H4.push ⟨[iV 0,iV 0,iV 0,iV 0,ae []],82,false,false⟩).ah (H.next+2) ⟨ij x,82,false,false⟩).ah rb ⟨[.slice (some ⟨bL,oL,none⟩) L.length cL,iV ((st.at_+2:Nat):Int),.slice none 0 0,.bool true,iV st.depth,iV 2,vP],125,false,false⟩->(x.kind≠2∨x.n < 1)->EL L F H q rb m (rO L t st p).2.1 (rO L t st p).2.2 (H5.ai H.fz)/\st.at_+(rO L t st p).2.2.length<=(rO L t st p).2.1.at_+p.length:=fun e hc=>by
   rw [eb hc,e]
   exact ⟨(r5.set g5r {aC (aC st) with bad:=2} iL (by show p.length<=st.at_+2;omega)).last,by show st.at_+p.length<=st.at_+2+p.length;omega⟩
  by_cases k2:x.kind=2
  ·by_cases k3:x.n < 1
   ·have e1:=(eb (.inr k3))
    simp only [go_sem,k2,k3,PO,y8,OS,hz]
    refine ⟨by rw [e1],?_⟩
    exact aaI rfl (.inr k3)
   ·have hx4:(tk L (aC (aC st))).kind≠4:=by rw [hx];omega
    have za:=nD hL r4.pq.at_ hx4
    have a2:(aC (aC st)).at_=st.at_+2:=rfl
    rw [a2] at za
    have S3:IntKind.wrap .i64 (((st.at_+2:Nat):Int)+1)=((st.at_+3:Nat):Int):=cZ (n:=L.length) (by omega) (by omega)
    have gB5:((H4.push ⟨[iV 0,iV 0,iV 0,iV 0,ae []],82,false,false⟩).ah (H.next+2) ⟨ij x,82,false,false⟩).get (H.next+1)=some ⟨lu ⟨3,1,0,0,t.text⟩,199,false,false⟩:=by rw [az,if_neg I8,bX (by omega)];exact PM
    have nm5:H.next+1∉m:=nm
    have r6:=r5.put (b:=H.next+1) ⟨lu ⟨3,x.n,0,0,t.text⟩,199,false,false⟩ rfl (Nat.le_succ _) nF nq gJ nm
    have g6r:(((H4.push ⟨[iV 0,iV 0,iV 0,iV 0,ae []],82,false,false⟩).ah (H.next+2) ⟨ij x,82,false,false⟩).ah (H.next+1) ⟨lu ⟨3,x.n,0,0,t.text⟩,199,false,false⟩).get rb=some ⟨[.slice (some ⟨bL,oL,none⟩) L.length cL,iV ((st.at_+2:Nat):Int),.slice none 0 0,.bool true,iV st.depth,iV st.bad,vP],125,false,false⟩:=by rw [az,if_neg uP];exact g5r
    have r7:=r6.set g6r (aC (aC (aC st))) za (by show p.length<=st.at_+3;omega)
    have U1:((((H4.push ⟨[iV 0,iV 0,iV 0,iV 0,ae []],82,false,false⟩).ah (H.next+2) ⟨ij x,82,false,false⟩).ah (H.next+1) ⟨lu ⟨3,x.n,0,0,t.text⟩,199,false,false⟩).ah rb ⟨[.slice (some ⟨bL,oL,none⟩) L.length cL,iV (((aC (aC (aC st))).at_:Nat):Int),.slice none 0 0,.bool true,iV (aC (aC (aC st))).depth,iV (aC (aC (aC st))).bad,vP],125,false,false⟩).get (H.next+1)=some ⟨lu ⟨3,x.n,0,0,t.text⟩,199,false,false⟩:=by rw [az,if_neg gJ,az,if_pos rfl]
    have ec1:=ec (by rintro (e | e);exact e k2;exact k3 e)
    simp only [go_sem,k2,k3,PO,I8,y8,uP,gJ,PM,gX,OS,hz,S3]
    refine ag.by (EX hL r7.pq (by show p.length < st.at_+3;omega) (n:=⟨3,x.n,0,0,t.text⟩)) ?_
    rintro _ H5 - ⟨rfl,p5⟩
    obtain ⟨m5,r9⟩:=r7.call p5
    simp only [go_sem,ec1]
    exact ⟨r9.last,by rw [List.length_append,List.length_singleton];show st.at_+(p.length+1)<=st.at_+3+p.length;omega⟩
  ·have e1:=(eb (.inl k2))
   simp only [go_sem,k2,PO,y8,OS,hz]
   refine ⟨by rw [e1],?_⟩
   exact aaI rfl (.inl k2)
 ·have e:rO L t st p=(((p.length:Nat):Int),aC st,p++[⟨3,1,0,0,t.text⟩]):=by rw [rO,if_neg hs]
  simp only [go_sem,hs,U0]
  refine ag.by (EX hL r3.pq (by show p.length < st.at_+1;omega) (n:=⟨3,1,0,0,t.text⟩)) ?_
  rintro _ H5 - ⟨rfl,p5⟩
  obtain ⟨m5,r5⟩:=r3.call p5
  simp only [go_sem,e]
  exact ⟨r5.last,by rw [List.length_append,List.length_singleton];show st.at_+(p.length+1)<=st.at_+1+p.length;omega⟩
end
abbrev vz:=Option (Int × aE × List PN)
section
variable {L:List bc} {F:List Nat} {H H1 H2:ad} {q rb:Nat} {st cC bC:aE} {p p1 p2:List PN} {m m1 m2:List Nat}
def Fp (L:List bc) (s:aE):aE:=if s.bad=0/\ea L [41] s=false then {s with bad:=2} else s
def Fq (s:aE):aE:=if s.bad=0 then {s with at_:=s.at_+1,depth:=IntKind.wrap .i64 (s.depth - 1)} else s
def Iu (L:List bc) (sm:Bool->aE->List PN->vz) (star:Bool) (st:aE) (p:List PN):vz:=
 if st.bad≠0 then some (0,st,p)
 else if ea L [40] st=true then
  (if 12<=st.depth then some (0,{st with bad:=3},p)
  else (sm star {st with at_:=st.at_+1,depth:=IntKind.wrap .i64 (st.depth+1)} p).map fun x=>(x.1,Fq (Fp L x.2.1),x.2.2))
 else if (tk L st).kind=2/\((tk L st).n=0∨(tk L st).n=1) then some ((p.length:Nat),aC st,p++[⟨1+(tk L st).n,0,0,0,[]⟩])
 else if (tk L st).kind=1/\EK (tk L st).text=true then some (rO L (tk L st) st p)
 else some (0,{st with bad:=2},p)
def xV (L:List bc) (sm:Bool->aE->List PN->vz) (star:Bool) (st:aE) (p:List PN):vz:=
 if st.bad≠0∨ea L [42] st=false then Iu L sm star st p
 else if star=true then some (0,{st with bad:=2},p)
 else (Iu L sm true (aC st) p).map fun x=>((x.2.2.length:Nat),x.2.1,x.2.2++[⟨6,x.1,0,0,[]⟩])
def x5 (L:List bc) (it:aE->List PN->vz) (sg:bf) (kind:Int):Nat->Int->aE->List PN->vz
 | 0,_,_,_=>none
 | k+1,a,st,p=>if st.bad=0/\ea L sg st=true then (it (aC st) p).bind fun x=>x5 L it sg kind k (x.2.2.length:Nat) x.2.1 (x.2.2++[⟨kind,a,x.1,0,[]⟩]) else some (a,st,p)
def Af (L:List bc) (sm:Bool->aE->List PN->vz) (n:Nat) (star:Bool) (st:aE) (p:List PN):vz:=(xV L sm star st p).bind fun x=>x5 L (xV L sm star) [46] 5 n x.1 x.2.1 x.2.2
def xf (L:List bc):Nat->Bool->aE->List PN->vz
 | 0,_,_,_=>none
 | n+1,star,st,p=>(Af L (xf L n) n star st p).bind fun x=>x5 L (Af L (xf L n) n star) [43] 4 n x.1 x.2.1 x.2.2
def PW (L:List bc) (F:List Nat) (q rb:Nat) (f:FuncId) (fn:Bool->aE->List PN->vz):Prop:=∀{H:ad} {st:aE} {p:List PN} {m:List Nat} {star:Bool} {v:Int} {bW:aE} {p':List PN},PQ L F H q rb st p m->fn star st p=some (v,bW,p')->
 ak Tryz.prog f #[pV rb,.bool star] H fun w H'=>w=iV v/\EL L F H q rb m bW p' H'/\st.at_+p'.length<=bW.at_+p.length
theorem R2 (hL:LG L) {sm:Bool->aE->List PN->vz} (hs:PW L F q rb 166 sm):PW L F q rb 181 (Iu L sm):=by
 intro H st p m star v bW p' h he
 refine ak.told ?_
 refine ahk (Nat.le_refl _) fun hf=>?_
 simp only [Tryz.f181,Option.getD_some]
 have hz:=h.fz
 have jE:=hL.len
 have ee:=h.at_
 have j6:=h.pl
 have cX:IntKind.wrap .i64 (((st.at_:Nat):Int)+1)=((st.at_+1:Nat):Int):=cZ ee (by omega)
 obtain ⟨c1,c2,c3,c4,bL,oL,cL,BL,vP,hq,hr,hg,hB,hl,iK,h0,h4,dv,cm,eH⟩:=h.toPQ0.fy
 by_cases hb:st.bad=0
 ·rw [Iu,if_neg (by simpa using hb)] at he
  have gX:H.fz H.next=false:=h.fn _ (Nat.le_refl _)
  have dY:¬¬st.bad=0:=fun h=>h hb
  have r1:=(PR.start h).push ⟨ij (tk L st),82,false,false⟩
  have g1:(H.push ⟨ij (tk L st),82,false,false⟩).get H.next=some ⟨ij (tk L st),82,false,false⟩:=by rw [aV,if_pos rfl]
  have wm:(H.push ⟨ij (tk L st),82,false,false⟩).get rb=some ⟨[.slice (some ⟨bL,oL,none⟩) L.length cL,iV (st.at_:Nat),.slice none 0 0,.bool true,iV st.depth,iV st.bad,vP],125,false,false⟩:=by rw [bX h.rl];exact hr
  have n1:H.next < (H.push ⟨ij (tk L st),82,false,false⟩).next:=Nat.lt_succ_self _
  have gJ:¬H.next=rb:=by have:=h.rl;omega
  have OT:¬rb=H.next:=by have:=h.rl;omega
  simp only [go_sem,hr,hb,hB,hl,iK,ee,gX]
  generalize (H.push ⟨ij (tk L st),82,false,false⟩)=H1 at r1 g1 wm n1
  refine ag.by (nE r1.pq.pp) ?_
  rintro _ _ - ⟨rfl,rfl⟩
  by_cases dw:ea L [40] st=true
  ·rw [if_pos dw] at he
   by_cases hd:(12:Int)<=st.depth
   ·rw [if_pos hd] at he
    cases he
    simp only [go_sem,dw,wm,hd,hz]
    exact (r1.set wm {st with bad:=3} ee j6).last
   ·rw [if_neg hd] at he
    have r2:=r1.set wm {st with at_:=st.at_+1,depth:=IntKind.wrap .i64 (st.depth+1)} (nD hL ee (wV dw)) (by show p.length<=st.at_+1;omega)
    simp only [go_sem,dw,wm,hd,hz,cX]
    rw [rH]
    generalize wo:(H1.ah rb ⟨[.slice (some ⟨bL,oL,none⟩) L.length cL,iV ((st.at_+1:Nat):Int),.slice none 0 0,.bool true,iV (IntKind.wrap .i64 (st.depth+1)),iV st.bad,vP],125,false,false⟩)=H2
    have r2':PR L F H q rb m H2 {st with at_:=st.at_+1,depth:=IntKind.wrap .i64 (st.depth+1)} p m:=by rw [<-wo];exact r2
    cases DU:sm star {st with at_:=st.at_+1,depth:=IntKind.wrap .i64 (st.depth+1)} p with
    | none=>rw [DU] at he;cases he
    | some x=>
     obtain ⟨v3,s3,p3⟩:=x
     rw [DU] at he
     cases he
     refine ag.by (hs r2'.pq DU) ?_
     rintro _ H3 - ⟨rfl,q3,uQ⟩
     obtain ⟨m3,r3⟩:=r2'.call q3
     have ak0:st.at_+1+p3.length<=s3.at_+p.length:=uQ
     obtain ⟨e1,e2,e3,e4,U2,U3,U4,BL3,Mf,I9,fK,Av,U5,Mg,ajC,h03,h43,ak1,ak2,ak3⟩:=r3.pq.toPQ0.fy
     have S4:=r3.pq.at_
     have ak4:=r3.pq.pl
     have S3:IntKind.wrap .i64 (((s3.at_:Nat):Int)+1)=((s3.at_+1:Nat):Int):=cZ S4 (by omega)
     by_cases fB:s3.bad=0
     ·simp only [go_sem,fK,fB]
      refine ag.by (nE r3.pq.pp) ?_
      rintro _ _ - ⟨rfl,rfl⟩
      by_cases sd:ea L [41] s3=true
      ·have x1:Fp L s3=s3:=by rw [Fp,if_neg];rintro ⟨_,e⟩;rw [sd] at e;cases e
       have x2:Fq s3={s3 with at_:=s3.at_+1,depth:=IntKind.wrap .i64 (s3.depth - 1)}:=by rw [Fq,if_pos fB]
       simp only [go_sem,sd,fK,fB,hz,S3]
       rw [rH,x1,x2,<-fB]
       refine ⟨(r3.set fK {s3 with at_:=s3.at_+1,depth:=IntKind.wrap .i64 (s3.depth - 1)} (nD hL S4 (wV sd)) (by show p3.length<=s3.at_+1;omega)).last,by show st.at_+p3.length<=s3.at_+1+p.length;omega⟩
      ·have ak5:ea L [41] s3=false:=by simpa using sd
       have x1:Fp L s3={s3 with bad:=2}:=by rw [Fp,if_pos ⟨fB,ak5⟩]
       have x2:Fq {s3 with bad:=2}={s3 with bad:=2}:=by rw [Fq,if_neg];show¬(2:Int)=0;decide
       simp only [go_sem,sd,fK,hz]
       rw [x1,x2]
       exact ⟨(r3.set fK {s3 with bad:=2} S4 ak4).last,by show st.at_+p3.length<=s3.at_+p.length;omega⟩
     ·have x1:Fp L s3=s3:=by rw [Fp,if_neg];rintro ⟨e,_⟩;exact fB e
      have x2:Fq s3=s3:=by rw [Fq,if_neg fB]
      simp only [go_sem,fK,fB]
      rw [x1,x2]
      exact ⟨r3.last,by omega⟩
  ·rw [if_neg dw] at he
   simp only [go_sem,dw,g1]
   have ZJ:∀{H5:ad},H5=H1.ah rb ⟨[.slice (some ⟨bL,oL,none⟩) L.length cL,iV (st.at_:Nat),.slice none 0 0,.bool true,iV st.depth,iV 2,vP],125,false,false⟩->EL L F H q rb m {st with bad:=2} p (H5.ai H.fz):=fun e=>by
    rw [e];exact (r1.set wm {st with bad:=2} ee j6).last
   by_cases k2:(tk L st).kind=2
   ·by_cases n0:(tk L st).n=0
    ·rw [if_pos ⟨k2,.inl n0⟩] at he
     cases he
     have ir:(tk L st).kind≠4:=by omega
     have r2:=r1.set wm (aC st) (nD hL ee ir) (by show p.length<=st.at_+1;omega)
     have g2:(H1.ah rb ⟨[.slice (some ⟨bL,oL,none⟩) L.length cL,iV (((aC st).at_:Nat):Int),.slice none 0 0,.bool true,iV (aC st).depth,iV (aC st).bad,vP],125,false,false⟩).get H.next=some ⟨ij (tk L st),82,false,false⟩:=by rw [az,if_neg gJ];exact g1
     have eV:IntKind.wrap .i64 (1+0)=1+0:=by decide
     simp only [go_sem,k2,n0,g1,wm,gJ,hz,cX,eV,XK]
     refine ag.by (EX hL r2.pq (by show p.length < st.at_+1;omega) (n:=⟨1+0,0,0,0,[]⟩)) ?_
     rintro _ H5 - ⟨rfl,p5⟩
     obtain ⟨m5,r5⟩:=r2.call p5
     simp only [go_sem,n0]
     exact ⟨r5.last,by rw [List.length_append,List.length_singleton];show st.at_+(p.length+1)<=st.at_+1+p.length;omega⟩
    by_cases Cb:(tk L st).n=1
    ·rw [if_pos ⟨k2,.inr Cb⟩] at he
     cases he
     have ir:(tk L st).kind≠4:=by omega
     have r2:=r1.set wm (aC st) (nD hL ee ir) (by show p.length<=st.at_+1;omega)
     have g2:(H1.ah rb ⟨[.slice (some ⟨bL,oL,none⟩) L.length cL,iV (((aC st).at_:Nat):Int),.slice none 0 0,.bool true,iV (aC st).depth,iV (aC st).bad,vP],125,false,false⟩).get H.next=some ⟨ij (tk L st),82,false,false⟩:=by rw [az,if_neg gJ];exact g1
     have eV:IntKind.wrap .i64 (1+1)=1+1:=by decide
     simp only [go_sem,k2,Cb,g1,wm,gJ,hz,cX,eV,XK]
     refine ag.by (EX hL r2.pq (by show p.length < st.at_+1;omega) (n:=⟨1+1,0,0,0,[]⟩)) ?_
     rintro _ H5 - ⟨rfl,p5⟩
     obtain ⟨m5,r5⟩:=r2.call p5
     simp only [go_sem,Cb]
     exact ⟨r5.last,by rw [List.length_append,List.length_singleton];show st.at_+(p.length+1)<=st.at_+1+p.length;omega⟩
    have k1:¬(tk L st).kind=1:=by omega
    rw [if_neg (by rintro ⟨_,e | e⟩;exact n0 e;exact Cb e),if_neg (by rintro ⟨e,_⟩;exact k1 e)] at he
    cases he
    have k1':¬(2:Int)=1:=by decide
    simp only [go_sem,k2,n0,Cb,g1,k1',wm,hz]
    exact ZJ rfl
   rw [if_neg (by rintro ⟨e,_⟩;exact k2 e)] at he
   by_cases k1:(tk L st).kind=1
   ·have tn:¬(1:Int)=2:=by decide
    simp only [go_sem,k1,tn,g1]
    refine ag.by (ahs (YO hL)) ?_
    rintro _ H3 - ⟨rfl,o3,z3⟩
    have r3:=r1.aH o3 (fun c _=>z3 c)
    have g3:H3.get H.next=some ⟨ij (tk L st),82,false,false⟩:=by rw [o3.get _ n1];exact g1
    have g3r:H3.get rb=some ⟨[.slice (some ⟨bL,oL,none⟩) L.length cL,iV (st.at_:Nat),.slice none 0 0,.bool true,iV st.depth,iV st.bad,vP],125,false,false⟩:=by rw [o3.get _ r1.pq.rl];exact wm
    by_cases cO:EK (tk L st).text=true
    ·rw [if_pos ⟨k1,cO⟩] at he
     have FY:=Option.some.inj he
     simp only [go_sem,cO,g3]
     have ir:(tk L st).kind≠4:=by omega
     have wq:=ajB hL r3.pq ir (t:=tk L st)
     rw [show (ij (tk L st)).toArray=#[iV (tk L st).kind,iV (tk L st).n,iV (tk L st).line,iV (tk L st).aj,ae (tk L st).text] from rfl] at wq
     rw [FY] at wq
     refine ag.by wq ?_
     rintro _ H5 - ⟨rfl,p5,uQ⟩
     obtain ⟨m5,r5⟩:=r3.call p5
     simp only [go_sem]
     exact ⟨r5.last,uQ⟩
    ·rw [if_neg (by rintro ⟨_,e⟩;exact cO e)] at he
     cases he
     simp only [go_sem,cO,g3r,hz]
     exact (r3.set g3r {st with bad:=2} ee j6).last
   ·rw [if_neg (by rintro ⟨e,_⟩;exact k1 e)] at he
    cases he
    simp only [go_sem,k2,k1,g1,wm,hz]
    exact ZJ rfl
 ·rw [Iu,if_pos hb] at he
  cases he
  simp only [go_sem,hr,hb]
  exact (PR.start h).last
theorem Ym (hL:LG L) {sm:Bool->aE->List PN->vz} (hs:PW L F q rb 166 sm):PW L F q rb 180 (xV L sm):=by
 intro H st p m star v bW p' h he
 refine ak.told ?_
 refine ahi (Nat.le_refl _) fun hf=>?_
 simp only [Tryz.f180,Option.getD_some]
 have hz:=h.fz
 have jE:=hL.len
 have ee:=h.at_
 have j6:=h.pl
 have cX:IntKind.wrap .i64 (((st.at_:Nat):Int)+1)=((st.at_+1:Nat):Int):=cZ ee (by omega)
 obtain ⟨c1,c2,c3,c4,bL,oL,cL,BL,vP,hq,hr,hg,hB,hl,iK,h0,h4,dv,cm,eH⟩:=h.toPQ0.fy
 by_cases hb:st.bad=0
 ·simp only [go_sem,hr,hb]
  refine ag.by (nE h.pp) ?_
  rintro _ _ - ⟨rfl,rfl⟩
  by_cases dw:ea L [42] st=true
  ·rw [xV,if_neg (by rintro (e | e);exact e hb;rw [dw] at e;cases e)] at he
   cases star
   ·rw [if_neg (by decide)] at he
    have r2:=(PR.start h).set hr (aC st) (nD hL ee (wV dw)) (by show p.length<=st.at_+1;omega)
    simp only [go_sem,dw,hr,hz,cX]
    cases S5:Iu L sm true (aC st) p with
    | none=>rw [S5] at he;cases he
    | some x=>
     obtain ⟨v3,s3,p3⟩:=x
     rw [S5] at he
     cases he
     refine ag.by (R2 hL hs r2.pq S5) ?_
     rintro _ H3 - ⟨rfl,q3,uQ⟩
     obtain ⟨m3,r3⟩:=r2.call q3
     have ak0:st.at_+1+p3.length<=s3.at_+p.length:=uQ
     simp only [go_sem,Yk]
     refine ag.by (EX hL r3.pq (by omega) (n:=⟨6,v3,0,0,[]⟩)) ?_
     rintro _ H5 - ⟨rfl,p5⟩
     obtain ⟨m5,r5⟩:=r3.call p5
     simp only [go_sem]
     exact ⟨r5.last,by rw [List.length_append,List.length_singleton];omega⟩
   ·rw [if_pos rfl] at he
    cases he
    simp only [go_sem,dw,hr,hz]
    exact ((PR.start h).set hr {st with bad:=2} ee j6).last
  ·have ak6:ea L [42] st=false:=by simpa using dw
   rw [xV,if_pos (.inr ak6)] at he
   simp only [go_sem,dw]
   refine ag.by (R2 hL hs h he) ?_
   rintro _ H3 - ⟨rfl,q3,uQ⟩
   obtain ⟨m3,r3⟩:=(PR.start h).call q3
   simp only [go_sem]
   exact ⟨r3.last,uQ⟩
 ·rw [xV,if_pos (.inl hb)] at he
  simp only [go_sem,hr,hb]
  refine ag.by (R2 hL hs h he) ?_
  rintro _ H3 - ⟨rfl,q3,uQ⟩
  obtain ⟨m3,r3⟩:=(PR.start h).call q3
  simp only [go_sem]
  exact ⟨r3.last,uQ⟩
theorem ZK (hL:LG L) {sm:Bool->aE->List PN->vz} (hs:PW L F q rb 166 sm) {n:Nat}:PW L F q rb 176 (Af L sm n):=by
 intro H st p m star v bW p' h he
 refine ak.told ?_
 refine aha (Nat.le_refl _) fun hf=>?_
 simp only [Tryz.f176,Option.getD_some]
 have hz:=h.fz
 have jE:=hL.len
 simp only [go_sem]
 cases Ga:xV L sm star st p with
 | none=>rw [Af,Ga] at he;cases he
 | some x=>
  obtain ⟨v3,s3,p3⟩:=x
  rw [Af,Ga] at he
  replace he:x5 L (xV L sm star) [46] 5 n v3 s3 p3=some (v,bW,p'):=he
  refine ag.by (Ym hL hs h Ga) ?_
  rintro _ H3 - ⟨rfl,q3,uQ⟩
  obtain ⟨m3,r3⟩:=(PR.start h).call q3
  simp only [go_sem]
  refine la 17179868256 (fun k V H2=>∃a s2 p2 m2,V 5=iV a/\PR L F H q rb m H2 s2 p2 m2/\st.at_+p2.length<=s2.at_+p.length/\x5 L (xV L sm star) [46] 5 k a s2 p2=some (v,bW,p')) (n:=n)
   ⟨v3,s3,p3,m3,by simp only [go_sem] <;> rfl,r3,uQ,he⟩ ?_ (by rfl)
  rintro k V H2 ⟨a,s2,p2,m2,e5,r2,g2,j8⟩
  cases k with
  | zero=>cases j8
  | succ k=>
   rw [x5] at j8
   have K8:=r2.pq.at_
   have ak7:=r2.pq.pl
   have K7:IntKind.wrap .i64 (((s2.at_:Nat):Int)+1)=((s2.at_+1:Nat):Int):=cZ K8 (by omega)
   obtain ⟨c1,c2,c3,c4,bL,oL,cL,BL,vP,hq,hr,hg,hB,hl,iK,h0,h4,dv,cm,eH⟩:=r2.pq.toPQ0.fy
   by_cases hb:s2.bad=0
   ·simp only [go_sem,hr,hb]
    refine ag.by (nE r2.pq.pp) ?_
    rintro _ _ - ⟨rfl,rfl⟩
    by_cases i3:ea L [46] s2=true
    ·rw [if_pos ⟨hb,i3⟩] at j8
     have r4:=r2.set hr (aC s2) (nD hL K8 (wV i3)) (by show p2.length<=s2.at_+1;omega)
     simp only [go_sem,i3,hr,hz,K7]
     cases oJ:xV L sm star (aC s2) p2 with
     | none=>rw [oJ] at j8;cases j8
     | some x=>
      obtain ⟨v5,s5,p5⟩:=x
      rw [oJ] at j8
      replace j8:x5 L (xV L sm star) [46] 5 k (p5.length:Nat) s5 (p5++[⟨5,a,v5,0,[]⟩])=some (v,bW,p'):=j8
      refine ag.by (Ym hL hs r4.pq oJ) ?_
      rintro _ H5 - ⟨rfl,q5,S6⟩
      obtain ⟨m5,r5⟩:=r4.call q5
      have ajD:s2.at_+1+p5.length<=s5.at_+p2.length:=S6
      simp only [go_sem,e5,XJ]
      refine ag.by (EX hL r5.pq (by omega) (n:=⟨5,a,v5,0,[]⟩)) ?_
      rintro _ H6 - ⟨rfl,q6⟩
      obtain ⟨m6,r6⟩:=r5.call q6
      simp only [go_sem]
      exact ⟨k,by omega,_,s5,_,m6,rfl,r6,by rw [List.length_append,List.length_singleton];omega,j8⟩
    ·rw [if_neg (by rintro ⟨_,e⟩;exact i3 e)] at j8
     cases j8
     simp only [go_sem,i3,e5]
     exact ⟨r2.last,g2⟩
   ·rw [if_neg (by rintro ⟨e,_⟩;exact hb e)] at j8
    cases j8
    simp only [go_sem,hr,hb,e5]
    exact ⟨r2.last,g2⟩
theorem ajE (hL:LG L) (n:Nat):PW L F q rb 166 (xf L n):=by
 induction n with
 | zero=>intro H st p m star v bW p' h he;cases he
 | succ n hs=>
  intro H st p m star v bW p' h he
  refine ak.told ?_
  refine agQ (Nat.le_refl _) fun hf=>?_
  simp only [Tryz.f166,Option.getD_some]
  have hz:=h.fz
  have jE:=hL.len
  simp only [go_sem]
  cases Ga:Af L (xf L n) n star st p with
  | none=>rw [xf,Ga] at he;cases he
  | some x=>
   obtain ⟨v3,s3,p3⟩:=x
   rw [xf,Ga] at he
   replace he:x5 L (Af L (xf L n) n star) [43] 4 n v3 s3 p3=some (v,bW,p'):=he
   refine ag.by (ZK hL hs h Ga) ?_
   rintro _ H3 - ⟨rfl,q3,uQ⟩
   obtain ⟨m3,r3⟩:=(PR.start h).call q3
   simp only [go_sem]
   refine la 17179868256 (fun k V H2=>∃a s2 p2 m2,V 5=iV a/\PR L F H q rb m H2 s2 p2 m2/\st.at_+p2.length<=s2.at_+p.length/\x5 L (Af L (xf L n) n star) [43] 4 k a s2 p2=some (v,bW,p')) (n:=n)
    ⟨v3,s3,p3,m3,by simp only [go_sem] <;> rfl,r3,uQ,he⟩ ?_ (by rfl)
   rintro k V H2 ⟨a,s2,p2,m2,e5,r2,g2,j8⟩
   cases k with
   | zero=>cases j8
   | succ k=>
    rw [x5] at j8
    have K8:=r2.pq.at_
    have ak7:=r2.pq.pl
    have K7:IntKind.wrap .i64 (((s2.at_:Nat):Int)+1)=((s2.at_+1:Nat):Int):=cZ K8 (by omega)
    obtain ⟨c1,c2,c3,c4,bL,oL,cL,BL,vP,hq,hr,hg,hB,hl,iK,h0,h4,dv,cm,eH⟩:=r2.pq.toPQ0.fy
    by_cases hb:s2.bad=0
    ·simp only [go_sem,hr,hb]
     refine ag.by (nE r2.pq.pp) ?_
     rintro _ _ - ⟨rfl,rfl⟩
     by_cases i3:ea L [43] s2=true
     ·rw [if_pos ⟨hb,i3⟩] at j8
      have r4:=r2.set hr (aC s2) (nD hL K8 (wV i3)) (by show p2.length<=s2.at_+1;omega)
      simp only [go_sem,i3,hr,hz,K7]
      cases oJ:Af L (xf L n) n star (aC s2) p2 with
      | none=>rw [oJ] at j8;cases j8
      | some x=>
       obtain ⟨v5,s5,p5⟩:=x
       rw [oJ] at j8
       replace j8:x5 L (Af L (xf L n) n star) [43] 4 k (p5.length:Nat) s5 (p5++[⟨4,a,v5,0,[]⟩])=some (v,bW,p'):=j8
       refine ag.by (ZK hL hs r4.pq oJ) ?_
       rintro _ H5 - ⟨rfl,q5,S6⟩
       obtain ⟨m5,r5⟩:=r4.call q5
       have ajD:s2.at_+1+p5.length<=s5.at_+p2.length:=S6
       simp only [go_sem,e5,XJ]
       refine ag.by (EX hL r5.pq (by omega) (n:=⟨4,a,v5,0,[]⟩)) ?_
       rintro _ H6 - ⟨rfl,q6⟩
       obtain ⟨m6,r6⟩:=r5.call q6
       simp only [go_sem]
       exact ⟨k,by omega,_,s5,_,m6,rfl,r6,by rw [List.length_append,List.length_singleton];omega,j8⟩
     ·rw [if_neg (by rintro ⟨_,e⟩;exact i3 e)] at j8
      cases j8
      simp only [go_sem,i3,e5]
      exact ⟨r2.last,g2⟩
    ·rw [if_neg (by rintro ⟨e,_⟩;exact hb e)] at j8
     cases j8
     simp only [go_sem,hr,hb,e5]
     exact ⟨r2.last,g2⟩
end
section
variable {L:List bc} {F:List Nat} {H H1 H2:ad} {q rb:Nat} {st cC bC:aE}
def BF (L:List bc) (fuel:Nat) (st:aE):Option (List PN × aE):=
 if c9 st=true then (xf L fuel false st []).map fun x=>(x.2.2,if c9 x.2.1=true/\24 < x.2.2.length then eX 3 {x.2.1 with at_:=st.at_} else x.2.1) else some ([],st)
theorem PP.pq (h:PP L F H q rb st) (hf:bV H) {vL vP:Value} (hr:H.get rb=some ⟨[vL,iV (st.at_:Nat),.slice none 0 0,.bool true,iV st.depth,iV st.bad,vP],125,false,false⟩):PQ L F (H.ah rb ⟨[vL,iV (st.at_:Nat),.slice none 0 0,.bool true,iV st.depth,iV st.bad,.slice none 0 0],125,false,false⟩) q rb st [] []:=by
 obtain ⟨⟨⟨c1,c2,c3,c4,mo⟩,⟨vL',a,n,c,iE,hs⟩,hF,h3,h4,h5,h6⟩,hz⟩:=h
 rw [hr] at iE
 cases iE
 exact ⟨⟨⟨c1,c2,c3,c4,by rw [az,if_neg h3];exact mo⟩,⟨vL,_,by rw [az,if_pos rfl],hs.af fun b hb=>by rw [az,if_neg (hF b hb).2.1],Gr.nil _ _ _⟩,hF,by simp,h3,h4,h5,h6,Nat.zero_le _⟩,hz,by simp,fun b hb=>hf.fresh hb⟩
theorem Ox (hL:LG L) (h:PP L F H q rb st) {fuel:Nat} {p:List PN} {bW:aE} (he:BF L fuel st=some (p,bW)):ak Tryz.prog 144 #[pV q] H (fun w H'=>(∃g,Sl fJ H' w p g/\hZ H H' g)/\gg L F H q rb bW H'):=by
 refine ak.told ?_
 refine agb (Nat.le_refl _) fun hf=>?_
 simp only [Tryz.f144,Option.getD_some]
 simp only [go_sem]
 have hz:=h.fz
 have ee:=h.at_
 obtain ⟨c1,c2,c3,c4,bL,oL,cL,BL,a,n,c,hq,hr,hB,hl,iK,h0,h4,dv,cm,eH⟩:=h.fy
 refine ag.by (eZ h) ?_
 rintro _ _ - ⟨rfl,rfl⟩
 by_cases hb:c9 st=true
 ·rw [BF,if_pos hb] at he
  have yZ:=h.qr
  have r1:=PR.start (h.pq hf hr)
  simp only [go_sem,hb,hq,hr,yZ,hz]
  have fr1:Fr [rb] H (H.ah rb ⟨[.slice (some ⟨bL,oL,none⟩) L.length cL,iV (st.at_:Nat),.slice none 0 0,.bool true,iV st.depth,iV st.bad,.slice none 0 0],125,false,false⟩):=(Fr.refl _ _).ah (.inl (by simp)) _
  have n1:(H.ah rb ⟨[.slice (some ⟨bL,oL,none⟩) L.length cL,iV (st.at_:Nat),.slice none 0 0,.bool true,iV st.depth,iV st.bad,.slice none 0 0],125,false,false⟩).next=H.next:=rfl
  generalize (H.ah rb ⟨[.slice (some ⟨bL,oL,none⟩) L.length cL,iV (st.at_:Nat),.slice none 0 0,.bool true,iV st.depth,iV st.bad,.slice none 0 0],125,false,false⟩)=H1 at r1 fr1 n1
  cases DU:xf L fuel false st [] with
  | none=>rw [DU] at he;cases he
  | some x=>
   obtain ⟨v3,s3,p3⟩:=x
   rw [DU] at he
   refine ag.by (ajE hL fuel r1.pq DU) ?_
   rintro _ H3 - ⟨rfl,q3,uQ⟩
   obtain ⟨m3,r3⟩:=r1.call q3
   obtain ⟨e1,e2,e3,e4,U2,U3,U4,BL3,Mf,I9,fK,Av,U5,Mg,ajC,h03,h43,ak1,ak2,ak3⟩:=r3.pq.toPQ0.fy
   obtain ⟨aP,Ja⟩:=Av.val
   have hm3:∀b∈m3,H.next<=b:=fun b hb=>by
    rcases r3.sub b hb with e | e
    ·cases e
    ·omega
   have f13:Fr [rb] H H3:=fr1.then r3.fr
   simp only [go_sem,I9,fK]
   refine ag.by (eZ r3.pq.pp) ?_
   rintro _ _ - ⟨rfl,rfl⟩
   have eK:∀{H':ad},Fr [rb] H3 H'->Sl fJ H' (.slice aP p3.length p3.length) p3 m3:=fun f=>by
    have:=Av.sl
    rw [List.append_nil,Ja] at this
    exact this.af fun b hb=>f.get b (r3.pq.hm b hb).1 (by simpa using (r3.pq.hm b hb).2.1)
   have ix:∀{H':ad},Fr [rb] H3 H'->hZ H (H'.ai H.fz) m3:=fun f b hb=>⟨hm3 b hb,Nat.lt_of_lt_of_le (r3.pq.hm b hb).1 f.nx⟩
   by_cases fB:c9 s3=true
   ·by_cases UO:24 < p3.length
    ·have S7:(24:Int) < ((p3.length:Nat):Int):=by omega
     have im:eX 3 {s3 with at_:=st.at_}=bW/\p3=p:=by
      simp only [Option.map_some,fB,UO,and_self,if_true] at he
      cases he;exact ⟨rfl,rfl⟩
     obtain ⟨rfl,rfl⟩:=im
     have r4:=r3.pq.pp.toPP0.set fK {s3 with at_:=st.at_} ee
     simp only [go_sem,fB,Ja,S7,I9,fK,hz]
     rw [Ja] at r4 fK
     have f4:Fr [rb] H3 (H3.ah rb ⟨[.slice (some ⟨U2,U3,none⟩) L.length U4,iV (st.at_:Nat),.slice none 0 0,.bool true,iV s3.depth,iV s3.bad,.slice aP p3.length p3.length],125,false,false⟩):=(Fr.refl _ _).ah (.inl (by simp)) _
     have mW:PP L F (H3.ah rb ⟨[.slice (some ⟨U2,U3,none⟩) L.length U4,iV (st.at_:Nat),.slice none 0 0,.bool true,iV s3.depth,iV s3.bad,.slice aP p3.length p3.length],125,false,false⟩) q rb {s3 with at_:=st.at_}:={r4 with fz:=r3.pq.fz}
     refine ag.by (lh mW) ?_
     rintro _ H5 - p5
     simp only [go_sem,Ja]
     exact ⟨⟨m3,(eK (f4.then p5.1)).af fun _ _=>rfl,ix (f4.then p5.1)⟩,.last ((f13.then f4).then p5.1) p5.2.2⟩
    ·have S7:¬(24:Int) < ((p3.length:Nat):Int):=by omega
     have im:s3=bW/\p3=p:=by
      simp only [Option.map_some,fB,UO,and_false,if_false] at he
      cases he;exact ⟨rfl,rfl⟩
     obtain ⟨rfl,rfl⟩:=im
     simp only [go_sem,fB,Ja,S7]
     exact ⟨⟨m3,(eK (.refl _ _)).af fun _ _=>rfl,ix (.refl _ _)⟩,.last f13 r3.pq.pp.toPP0⟩
   ·have im:s3=bW/\p3=p:=by
     simp only [Option.map_some,fB,false_and,if_false] at he
     cases he;exact ⟨rfl,rfl⟩
    obtain ⟨rfl,rfl⟩:=im
    simp only [go_sem,fB,Ja]
    exact ⟨⟨m3,(eK (.refl _ _)).af fun _ _=>rfl,ix (.refl _ _)⟩,.last f13 r3.pq.pp.toPP0⟩
 ·rw [BF,if_neg hb] at he
  cases he
  simp only [go_sem,hb]
  exact ⟨⟨[],.inl ⟨rfl,rfl,rfl⟩,by simp [hZ]⟩,.last (.refl _ _) h.toPP0⟩
def zV (L:List bc) (fuel:Nat) (st:aE):Option (Ty × aE):=
 if c9 st=true then
  (if cP L [105,110,116] st=true then some (⟨1,0,0,[],[]⟩,aC st)
  else if 0 < lI L st then
   (if cP L [97,114,114] (aC st)=true then some (⟨2,lI L st, -1,[97,114,114],[]⟩,aC (aC st))
   else some (⟨2,lI L st,0,(cu L (aC st)).1,[]⟩,(cu L (aC st)).2))
  else if ea L [33] st=true∨ea L [63] st=true then
   (BF L fuel (dF L [40] (aC st))).map fun x=>(⟨if ea L [63] st=true then 4 else 3,0,0,[],x.1⟩,dF L [41] x.2)
  else some (⟨0,0,0,[],[]⟩,eX 2 st))
 else some (⟨0,0,0,[],[]⟩,st)
theorem XL {h:KH}:fQ Tryz.prog 99 [] h=.ok (.agg #[iV 0,iV 0,iV 0,ae [],.slice none 0 0]) h:=by kernel_rfl
theorem Ra {k:Int} {h:KH}:fQ Tryz.prog 99 [(0,iV k)] h=.ok (.agg #[iV k,iV 0,iV 0,ae [],.slice none 0 0]) h:=by kernel_rfl
theorem ac3 {k c r:Int} {s:bf} {h:KH}:fQ Tryz.prog 99 [(0,iV k),(1,iV c),(2,iV r),(3,ae s)] h=.ok (.agg #[iV k,iV c,iV r,ae s,.slice none 0 0]) h:=by kernel_rfl
theorem ac4 {k c:Int} {s:bf} {h:KH}:fQ Tryz.prog 99 [(0,iV k),(1,iV c),(3,ae s)] h=.ok (.agg #[iV k,iV c,iV 0,ae s,.slice none 0 0]) h:=by kernel_rfl
def TyV (H H':ad) (w:Value) (t:Ty):Prop:=∃vp g,w=.agg #[iV t.kind,iV t.cap,iV t.rc,ae t.name,vp]/\Sl fJ H' vp t.pat g/\hZ H H' g
theorem aaJ (hL:LG L) (h:PP L F H q rb st) {fuel:Nat} {t:Ty} {bW:aE} (he:zV L fuel st=some (t,bW)):ak Tryz.prog 141 #[pV q] H (fun w H'=>TyV H H' w t/\gg L F H q rb bW H'):=by
 refine ak.told ?_
 refine af5 (Nat.le_refl _) fun hf=>?_
 simp only [Tryz.f141,Option.getD_some]
 simp only [go_sem]
 obtain ⟨fq,fr,fF⟩:=h.toPP0.fresh (Nat.le_refl H.next)
 have wi:H.fz H.next=false:=hf.fresh (Nat.le_refl _)
 have sb:=h.push ⟨[iV 0,iV 0,iV 0,ae [],.slice none 0 0],99,false,false⟩
 have Az:Fr [rb] H (H.push ⟨[iV 0,iV 0,iV 0,ae [],.slice none 0 0],99,false,false⟩):=(ba.push H _).fr _
 have gA:(H.push ⟨[iV 0,iV 0,iV 0,ae [],.slice none 0 0],99,false,false⟩).get H.next=some ⟨[iV 0,iV 0,iV 0,ae [],.slice none 0 0],99,false,false⟩:=by rw [aV,if_pos rfl]
 have nA:H.next < (H.push ⟨[iV 0,iV 0,iV 0,ae [],.slice none 0 0],99,false,false⟩).next:=Nat.lt_succ_self _
 generalize (H.push ⟨[iV 0,iV 0,iV 0,ae [],.slice none 0 0],99,false,false⟩)=Ha at sb Az gA nA
 have hz:=h.fz
 have jE:=hL.len
 have ee:=h.at_
 have cX:IntKind.wrap .i64 (((st.at_:Nat):Int)+1)=((st.at_+1:Nat):Int):=cZ ee (by omega)
 have fin:∀{H5:ad} {bW:aE},Fr [rb] Ha H5->PP0 L F H5 q rb bW->∀B:cw,B.ro=false->gg L F H q rb bW ((H5.ah H.next B).ai H.fz):=fun f5 p5 B hB=>.last ((Az.then f5).ah (.inr (Nat.le_refl _)) B hB) (p5.put B fq fr fF)
 have xt:∀{H5:ad},Fr [rb] Ha H5->H5.get H.next=some ⟨[iV 0,iV 0,iV 0,ae [],.slice none 0 0],99,false,false⟩:=fun f5=>by rw [f5.get _ nA (by simpa using fr)];exact gA
 have fl:∀{H5:ad} {k c r:Int} {s:bf},TyV H H5 (.agg #[iV k,iV c,iV r,ae s,.slice none 0 0]) ⟨k,c,r,s,[]⟩:=fun {H5 k c r s}=>⟨_,[],rfl,.inl ⟨rfl,rfl,rfl⟩,by simp [hZ]⟩
 refine ag.by (eZ sb) ?_
 rintro _ _ - ⟨rfl,rfl⟩
 by_cases hb:c9 st=true
 ·rw [zV,if_pos hb] at he
  simp only [go_sem,hb]
  refine ag.by (Ou sb) ?_
  rintro _ H1 - ⟨rfl,p1⟩
  have h1:=sb.post p1
  have f1:=p1.1
  simp only [go_sem]
  refine ag.by (fR h1) ?_
  rintro _ H2 - ⟨rfl,p2⟩
  have h2:=h1.post p2
  have f2:=f1.then p2.1
  obtain ⟨c1,c2,c3,c4,bL,oL,cL,BL,a,n,c,hq,hr,hB,hl,iK,h0,h4,dv,cm,eH⟩:=h2.fy
  have UX:=xt f2
  have PJ:¬H.next=rb:=fr
  have iN:∀{s1:aE} {H2:ad} {bL oL cL a n c},PP L F H2 q rb s1->(tk L s1).kind≠4->H2.get rb=some ⟨[.slice (some ⟨bL,oL,none⟩) L.length cL,iV (s1.at_:Nat),.slice none 0 0,.bool true,iV s1.depth,iV s1.bad,.slice a n c],125,false,false⟩->PP L F (H2.ah rb ⟨[.slice (some ⟨bL,oL,none⟩) L.length cL,iV ((s1.at_+1:Nat):Int),.slice none 0 0,.bool true,iV s1.depth,iV s1.bad,.slice a n c],125,false,false⟩) q rb (aC s1):=fun {s1} {H2} {bL oL cL a n c} h hk hr=>{h.toPP0.set hr (aC s1) (nD hL h.at_ hk) with fz:=h.fz}
  by_cases hi:cP L [105,110,116] st=true
  ·rw [if_pos hi] at he
   cases he
   have hp:=iN h2 (jl hi) hr
   have fp:=(f2.ah (.inl (by simp:rb∈[rb])) ⟨[.slice (some ⟨bL,oL,none⟩) L.length cL,iV ((st.at_+1:Nat):Int),.slice none 0 0,.bool true,iV st.depth,iV st.bad,.slice a n c],125,false,false⟩)
   simp only [go_sem,hi,hq,hr,hz,cX,PJ,UX,wi,Ra]
   exact ⟨fl,fin fp hp.toPP0 _ rfl⟩
  rw [if_neg hi] at he
  by_cases hc:0 < lI L st
  ·rw [if_pos hc] at he
   have ir:(tk L st).kind≠4:=by
    have Ma:∀(l:List bf) (k:Int),Ds L st k l≠0->(tk L st).kind≠4:=by
     intro l
     induction l with
     | nil=>intro k h;exact absurd rfl h
     | cons s l ih=>
      intro k h
      rw [Ds] at h
      split at h
      ·rename_i hw;exact jl hw
      ·exact ih _ h
    exact Ma uf 1 (by show lI L st≠0;omega)
   have hp:=iN h2 ir hr
   have fp:=(f2.ah (.inl (by simp:rb∈[rb])) ⟨[.slice (some ⟨bL,oL,none⟩) L.length cL,iV ((st.at_+1:Nat):Int),.slice none 0 0,.bool true,iV st.depth,iV st.bad,.slice a n c],125,false,false⟩)
   simp only [go_sem,hi,hc,hq,hr,hz,cX]
   generalize (H2.ah rb ⟨[.slice (some ⟨bL,oL,none⟩) L.length cL,iV ((st.at_+1:Nat):Int),.slice none 0 0,.bool true,iV st.depth,iV st.bad,.slice a n c],125,false,false⟩)=H3 at hp fp
   refine ag.by (fR hp) ?_
   rintro _ H4 - ⟨rfl,p4⟩
   have h4:=hp.post p4
   have f4:=fp.then p4.1
   obtain ⟨d1,d2,d3,d4,bL,oL,cL,BL,a,n,c,hq4,tj,Me,hl4,Sx,h04,h44,akX,aaH,akY⟩:=h4.fy
   have ak8:IntKind.wrap .i64 (((st.at_+1:Nat):Int)+1)=((st.at_+1+1:Nat):Int):=by
    have:=h4.at_
    exact cZ (n:=L.length) this (by omega)
   have ak9:H4.get rb=some ⟨[.slice (some ⟨bL,oL,none⟩) L.length cL,iV ((st.at_+1:Nat):Int),.slice none 0 0,.bool true,iV st.depth,iV st.bad,.slice a n c],125,false,false⟩:=tj
   by_cases ha:cP L [97,114,114] (aC st)=true
   ·rw [if_pos ha] at he
    cases he
    have xu:=xt f4
    have Mh:=iN h4 (jl ha) tj
    have fp5:=(f4.ah (.inl (by simp:rb∈[rb])) ⟨[.slice (some ⟨bL,oL,none⟩) L.length cL,iV ((st.at_+1+1:Nat):Int),.slice none 0 0,.bool true,iV st.depth,iV st.bad,.slice a n c],125,false,false⟩)
    simp only [go_sem,ha,hq4,ak9,hz,ak8,PJ,xu,wi,ac3]
    exact ⟨fl,fin fp5 Mh.toPP0 _ rfl⟩
   ·rw [if_neg ha] at he
    cases he
    simp only [go_sem,ha]
    refine ag.by (jk hL h4) ?_
    rintro _ H5 - ⟨rfl,p5⟩
    have xu:=xt (f4.then p5.1)
    simp only [go_sem,xu,wi,ac4]
    exact ⟨fl,fin (f4.then p5.1) p5.2.2 _ rfl⟩
  rw [if_neg hc] at he
  simp only [go_sem,hi,hc,hq]
  refine ag.by (nE h2) ?_
  rintro _ _ - ⟨rfl,rfl⟩
  by_cases hs:ea L [33] st=true∨ea L [63] st=true
  ·rw [if_pos hs] at he
   have ir:(tk L st).kind≠4:=by rcases hs with e | e <;> exact wV e
   cases vC:BF L fuel (dF L [40] (aC st)) with
   | none=>rw [vC] at he;cases he
   | some x=>
    obtain ⟨pp,s5⟩:=x
    rw [vC] at he
    cases he
    by_cases vY:ea L [63] st=true
    ·have Mi:¬ea L [33] st=true:=fun e=>by
      simp only [ea,Bool.and_eq_true,decide_eq_true_eq] at e vY
      have:=e.2.symm.trans vY.2
      cases this
     simp only [go_sem,Mi,hq]
     refine ag.by (nE h2) ?_
     rintro _ _ - ⟨rfl,rfl⟩
     have S8:=h2.push ⟨[iV 3,iV 0,iV 0,ae [],.slice none 0 0],99,false,false⟩
     have hqk:(H2.push ⟨[iV 3,iV 0,iV 0,ae [],.slice none 0 0],99,false,false⟩).get q=some ⟨[.pointer (some ⟨rb,0,none⟩),c1,c2,c3,c4],127,false,false⟩:=by rw [bX h2.ql];exact hq
     have S9:H.fz H2.next=false:=hf.fresh (Nat.le_trans Az.nx f2.nx)
     have Mj:¬q=H2.next:=fun e=>by have:=h2.ql;omega
     simp only [go_sem,vY,Ra,S9,hq,Mj]
     refine ag.by (nE S8) ?_
     rintro _ _ - ⟨rfl,rfl⟩
     have er:H.fz H2.next=false:=hf.fresh (Nat.le_trans Az.nx f2.nx)
     have nb:H.next≠H2.next:=by have:=f2.nx;omega
     have gJ:¬H2.next=rb:=(h2.toPP0.fresh (Nat.le_refl _)).2.1
     have OT:¬rb=H2.next:=fun e=>gJ e.symm
     have wa:=h2.push ⟨[iV 4,iV 0,iV 0,ae [],.slice none 0 0],99,false,false⟩
     have vV:Fr [rb] Ha (H2.push ⟨[iV 4,iV 0,iV 0,ae [],.slice none 0 0],99,false,false⟩):=f2.push _
     have U6:(H2.push ⟨[iV 4,iV 0,iV 0,ae [],.slice none 0 0],99,false,false⟩).get H2.next=some ⟨[iV 4,iV 0,iV 0,ae [],.slice none 0 0],99,false,false⟩:=by rw [aV,if_pos rfl]
     have U7:H2.next < (H2.push ⟨[iV 4,iV 0,iV 0,ae [],.slice none 0 0],99,false,false⟩).next:=Nat.lt_succ_self _
     have U8:(H2.push ⟨[iV 4,iV 0,iV 0,ae [],.slice none 0 0],99,false,false⟩).get rb=some ⟨[.slice (some ⟨bL,oL,none⟩) L.length cL,iV (st.at_:Nat),.slice none 0 0,.bool true,iV st.depth,iV st.bad,.slice a n c],125,false,false⟩:=by rw [bX h2.rl];exact hr
     have Gb:=iN wa ir U8
     have f3:=(vV.ah (.inl (by simp:rb∈[rb])) ⟨[.slice (some ⟨bL,oL,none⟩) L.length cL,iV ((st.at_+1:Nat):Int),.slice none 0 0,.bool true,iV st.depth,iV st.bad,.slice a n c],125,false,false⟩)
     have g3:((H2.push ⟨[iV 4,iV 0,iV 0,ae [],.slice none 0 0],99,false,false⟩).ah rb ⟨[.slice (some ⟨bL,oL,none⟩) L.length cL,iV ((st.at_+1:Nat):Int),.slice none 0 0,.bool true,iV st.depth,iV st.bad,.slice a n c],125,false,false⟩).get H2.next=some ⟨[iV 4,iV 0,iV 0,ae [],.slice none 0 0],99,false,false⟩:=by rw [az,if_neg gJ];exact U6
     have n3:H2.next < ((H2.push ⟨[iV 4,iV 0,iV 0,ae [],.slice none 0 0],99,false,false⟩).ah rb ⟨[.slice (some ⟨bL,oL,none⟩) L.length cL,iV ((st.at_+1:Nat):Int),.slice none 0 0,.bool true,iV st.depth,iV st.bad,.slice a n c],125,false,false⟩).next:=U7
     simp only [go_sem,vY,Mj,hq,hr,gJ,OT,hz,cX,er]
     generalize dN:((H2.push ⟨[iV 4,iV 0,iV 0,ae [],.slice none 0 0],99,false,false⟩).ah rb ⟨[.slice (some ⟨bL,oL,none⟩) L.length cL,iV ((st.at_+1:Nat):Int),.slice none 0 0,.bool true,iV st.depth,iV st.bad,.slice a n c],125,false,false⟩)=H3 at Gb f3 g3 n3
     refine ag.by (iJ hL Gb) ?_
     rintro _ H4 - p4
     have h4:=Gb.post p4
     have f4:=f3.then p4.1
     simp only [go_sem]
     refine ag.by (Ox hL h4 vC) ?_
     rintro vp H5 - ⟨⟨g,eK,ix⟩,p5⟩
     have h5:=h4.post p5
     have f5:=f4.then p5.1
     have n4:=p4.1.nx
     have n5:=p5.1.nx
     have g5:H5.get H2.next=some ⟨[iV 4,iV 0,iV 0,ae [],.slice none 0 0],99,false,false⟩:=by
      rw [p5.1.get _ (by omega) (by simpa using gJ),p4.1.get _ n3 (by simpa using gJ)];exact g3
     obtain ⟨U9,kU,Va⟩:=h2.toPP0.fresh (Nat.le_refl H2.next)
     obtain ⟨av,cv,zd⟩:=eK.val
     subst zd
     simp only [go_sem,g5,er]
     have h6:PP L F (H5.ah H2.next ⟨[iV 4,iV 0,iV 0,ae [],.slice av pp.length cv],99,false,false⟩) q rb s5:={h5.toPP0.put _ U9 kU Va with fz:=h5.fz}
     have f6:Fr [rb] Ha (H5.ah H2.next ⟨[iV 4,iV 0,iV 0,ae [],.slice av pp.length cv],99,false,false⟩):=f5.ah (.inr f2.nx) _
     have K9:Sl fJ (H5.ah H2.next ⟨[iV 4,iV 0,iV 0,ae [],.slice av pp.length cv],99,false,false⟩) (.slice av pp.length cv) pp g:=eK.af fun b hb=>by rw [az,if_neg (by have:=(ix b hb).1;omega)]
     have g6:(H5.ah H2.next ⟨[iV 4,iV 0,iV 0,ae [],.slice av pp.length cv],99,false,false⟩).get H2.next=some ⟨[iV 4,iV 0,iV 0,ae [],.slice av pp.length cv],99,false,false⟩:=by rw [az,if_pos rfl]
     have n6:(H5.ah H2.next ⟨[iV 4,iV 0,iV 0,ae [],.slice av pp.length cv],99,false,false⟩).next=H5.next:=rfl
     generalize (H5.ah H2.next ⟨[iV 4,iV 0,iV 0,ae [],.slice av pp.length cv],99,false,false⟩)=H6 at h6 f6 K9 g6 n6
     refine ag.by (iJ hL h6) ?_
     rintro _ H7 - p7
     have f7:=f6.then p7.1
     have n7:=p7.1.nx
     have g7:H7.get H2.next=some ⟨[iV 4,iV 0,iV 0,ae [],.slice av pp.length cv],99,false,false⟩:=by rw [p7.1.get _ (by omega) (by simpa using gJ)];exact g6
     have Vb:=xt f7
     have bj:∀b∈g,b≠rb:=fun b hb e=>by have:=(ix b hb).1;have:=h4.rl;omega
     simp only [go_sem,g7,Vb,wi]
     refine ⟨⟨_,g,by rw [if_pos vY],(K9.af fun b hb=>?_),fun b hb=>⟨?_,?_⟩⟩,fin f7 p7.2.2 _ rfl⟩
     ·have ik:=(ix b hb).1
      have ft:=(ix b hb).2
      have kV:=f2.nx
      show (H7.ah H.next _).get b=_
      rw [az,if_neg (by omega),p7.1.get b (by omega) (by simpa using bj b hb)]
     ·have ik:=(ix b hb).1
      have kV:=f2.nx
      omega
     ·have ft:=(ix b hb).2
      show b < H7.next
      omega
    ·have Mi:ea L [33] st=true:=hs.resolve_right vY
     have S8:=h2.push ⟨[iV 3,iV 0,iV 0,ae [],.slice none 0 0],99,false,false⟩
     have hqk:(H2.push ⟨[iV 3,iV 0,iV 0,ae [],.slice none 0 0],99,false,false⟩).get q=some ⟨[.pointer (some ⟨rb,0,none⟩),c1,c2,c3,c4],127,false,false⟩:=by rw [bX h2.ql];exact hq
     have S9:H.fz H2.next=false:=hf.fresh (Nat.le_trans Az.nx f2.nx)
     have Mj:¬q=H2.next:=fun e=>by have:=h2.ql;omega
     simp only [go_sem,Mi,Ra,S9,hq,Mj]
     refine ag.by (nE S8) ?_
     rintro _ _ - ⟨rfl,rfl⟩
     have er:H.fz H2.next=false:=hf.fresh (Nat.le_trans Az.nx f2.nx)
     have nb:H.next≠H2.next:=by have:=f2.nx;omega
     have gJ:¬H2.next=rb:=(h2.toPP0.fresh (Nat.le_refl _)).2.1
     have OT:¬rb=H2.next:=fun e=>gJ e.symm
     have wa:=h2.push ⟨[iV 3,iV 0,iV 0,ae [],.slice none 0 0],99,false,false⟩
     have vV:Fr [rb] Ha (H2.push ⟨[iV 3,iV 0,iV 0,ae [],.slice none 0 0],99,false,false⟩):=f2.push _
     have U6:(H2.push ⟨[iV 3,iV 0,iV 0,ae [],.slice none 0 0],99,false,false⟩).get H2.next=some ⟨[iV 3,iV 0,iV 0,ae [],.slice none 0 0],99,false,false⟩:=by rw [aV,if_pos rfl]
     have U7:H2.next < (H2.push ⟨[iV 3,iV 0,iV 0,ae [],.slice none 0 0],99,false,false⟩).next:=Nat.lt_succ_self _
     have U8:(H2.push ⟨[iV 3,iV 0,iV 0,ae [],.slice none 0 0],99,false,false⟩).get rb=some ⟨[.slice (some ⟨bL,oL,none⟩) L.length cL,iV (st.at_:Nat),.slice none 0 0,.bool true,iV st.depth,iV st.bad,.slice a n c],125,false,false⟩:=by rw [bX h2.rl];exact hr
     have Gb:=iN wa ir U8
     have f3:=(vV.ah (.inl (by simp:rb∈[rb])) ⟨[.slice (some ⟨bL,oL,none⟩) L.length cL,iV ((st.at_+1:Nat):Int),.slice none 0 0,.bool true,iV st.depth,iV st.bad,.slice a n c],125,false,false⟩)
     have g3:((H2.push ⟨[iV 3,iV 0,iV 0,ae [],.slice none 0 0],99,false,false⟩).ah rb ⟨[.slice (some ⟨bL,oL,none⟩) L.length cL,iV ((st.at_+1:Nat):Int),.slice none 0 0,.bool true,iV st.depth,iV st.bad,.slice a n c],125,false,false⟩).get H2.next=some ⟨[iV 3,iV 0,iV 0,ae [],.slice none 0 0],99,false,false⟩:=by rw [az,if_neg gJ];exact U6
     have n3:H2.next < ((H2.push ⟨[iV 3,iV 0,iV 0,ae [],.slice none 0 0],99,false,false⟩).ah rb ⟨[.slice (some ⟨bL,oL,none⟩) L.length cL,iV ((st.at_+1:Nat):Int),.slice none 0 0,.bool true,iV st.depth,iV st.bad,.slice a n c],125,false,false⟩).next:=U7
     simp only [go_sem,vY,Mj,hq,hr,gJ,OT,hz,cX,er]
     generalize dN:((H2.push ⟨[iV 3,iV 0,iV 0,ae [],.slice none 0 0],99,false,false⟩).ah rb ⟨[.slice (some ⟨bL,oL,none⟩) L.length cL,iV ((st.at_+1:Nat):Int),.slice none 0 0,.bool true,iV st.depth,iV st.bad,.slice a n c],125,false,false⟩)=H3 at Gb f3 g3 n3
     refine ag.by (iJ hL Gb) ?_
     rintro _ H4 - p4
     have h4:=Gb.post p4
     have f4:=f3.then p4.1
     simp only [go_sem]
     refine ag.by (Ox hL h4 vC) ?_
     rintro vp H5 - ⟨⟨g,eK,ix⟩,p5⟩
     have h5:=h4.post p5
     have f5:=f4.then p5.1
     have n4:=p4.1.nx
     have n5:=p5.1.nx
     have g5:H5.get H2.next=some ⟨[iV 3,iV 0,iV 0,ae [],.slice none 0 0],99,false,false⟩:=by
      rw [p5.1.get _ (by omega) (by simpa using gJ),p4.1.get _ n3 (by simpa using gJ)];exact g3
     obtain ⟨U9,kU,Va⟩:=h2.toPP0.fresh (Nat.le_refl H2.next)
     obtain ⟨av,cv,zd⟩:=eK.val
     subst zd
     simp only [go_sem,g5,er]
     have h6:PP L F (H5.ah H2.next ⟨[iV 3,iV 0,iV 0,ae [],.slice av pp.length cv],99,false,false⟩) q rb s5:={h5.toPP0.put _ U9 kU Va with fz:=h5.fz}
     have f6:Fr [rb] Ha (H5.ah H2.next ⟨[iV 3,iV 0,iV 0,ae [],.slice av pp.length cv],99,false,false⟩):=f5.ah (.inr f2.nx) _
     have K9:Sl fJ (H5.ah H2.next ⟨[iV 3,iV 0,iV 0,ae [],.slice av pp.length cv],99,false,false⟩) (.slice av pp.length cv) pp g:=eK.af fun b hb=>by rw [az,if_neg (by have:=(ix b hb).1;omega)]
     have g6:(H5.ah H2.next ⟨[iV 3,iV 0,iV 0,ae [],.slice av pp.length cv],99,false,false⟩).get H2.next=some ⟨[iV 3,iV 0,iV 0,ae [],.slice av pp.length cv],99,false,false⟩:=by rw [az,if_pos rfl]
     have n6:(H5.ah H2.next ⟨[iV 3,iV 0,iV 0,ae [],.slice av pp.length cv],99,false,false⟩).next=H5.next:=rfl
     generalize (H5.ah H2.next ⟨[iV 3,iV 0,iV 0,ae [],.slice av pp.length cv],99,false,false⟩)=H6 at h6 f6 K9 g6 n6
     refine ag.by (iJ hL h6) ?_
     rintro _ H7 - p7
     have f7:=f6.then p7.1
     have n7:=p7.1.nx
     have g7:H7.get H2.next=some ⟨[iV 3,iV 0,iV 0,ae [],.slice av pp.length cv],99,false,false⟩:=by rw [p7.1.get _ (by omega) (by simpa using gJ)];exact g6
     have Vb:=xt f7
     have bj:∀b∈g,b≠rb:=fun b hb e=>by have:=(ix b hb).1;have:=h4.rl;omega
     simp only [go_sem,g7,Vb,wi]
     refine ⟨⟨_,g,by rw [if_neg vY],(K9.af fun b hb=>?_),fun b hb=>⟨?_,?_⟩⟩,fin f7 p7.2.2 _ rfl⟩
     ·have ik:=(ix b hb).1
      have ft:=(ix b hb).2
      have kV:=f2.nx
      show (H7.ah H.next _).get b=_
      rw [az,if_neg (by omega),p7.1.get b (by omega) (by simpa using bj b hb)]
     ·have ik:=(ix b hb).1
      have kV:=f2.nx
      omega
     ·have ft:=(ix b hb).2
      show b < H7.next
      omega
  ·rw [if_neg hs] at he
   cases he
   have Mi:¬ea L [33] st=true:=fun e=>hs (.inl e)
   have vY:¬ea L [63] st=true:=fun e=>hs (.inr e)
   simp only [go_sem,Mi,hq]
   refine ag.by (nE h2) ?_
   rintro _ _ - ⟨rfl,rfl⟩
   simp only [go_sem,vY]
   refine ag.by (lh h2) ?_
   rintro _ H4 - p4
   have xu:=xt (f2.then p4.1)
   simp only [go_sem,xu,wi,XL]
   exact ⟨fl,fin (f2.then p4.1) p4.2.2 _ rfl⟩
 ·rw [zV,if_neg hb] at he
  cases he
  simp only [go_sem,hb,gA,wi,XL]
  exact ⟨fl,fin (.refl _ _) sb.toPP0 _ rfl⟩
end
section
variable {L:List bc} {F:List Nat} {H H1 H2:ad} {q rb:Nat} {st cC bC:aE}
def N8 (L:List bc) (fuel:Nat) (st:aE):Option (List Ty × aE):=(nG L 0 (zV L fuel) 7 (dF L [40] st) []).map fun x=>(x.1,dF L [41] x.2)
def HW (L:List bc) (fuel:Nat) (st:aE):Option (tf × aE):=(zV L fuel (dF L [58] (cu L st).2)).map fun x=>(⟨(cu L st).1,x.1⟩,x.2)
def HR (L:List bc) (fuel:Nat) (st:aE):Option (List tf × aE):=(nG L 1 (HW L fuel) 7 (dF L [40] st) []).map fun x=>(x.1,dF L [41] x.2)
theorem ac5 {s:bf} {h:KH}:fQ Tryz.prog 101 [(0,ae s)] h=.ok (.agg #[ae s,iV 0,iV 0,iV 0,ae [],.slice none 0 0]) h:=by kernel_rfl
theorem aez (hL:LG L) (h:PP L F H q rb st) {fuel:Nat} {l':List Ty} {bW:aE} (he:N8 L fuel st=some (l',bW)):ak Tryz.prog 112 #[pV q] H (fun w H'=>(∃g,Sl xr H' w l' g/\hZ H H' g)/\gg L F H q rb bW H'):=by
 refine ak.told ?_
 refine afp (Nat.le_refl _) fun hf=>?_
 simp only [Tryz.f112,Option.getD_some]
 simp only [go_sem]
 refine ag.by (iJ hL h) ?_
 rintro _ H1 - p1
 have h1:=h.post p1
 rw [N8] at he
 generalize dF L [40] st=s1 at p1 h1 he
 cases hR:nG L 0 (zV L fuel) 7 s1 [] with
 | none=>rw [hR] at he;cases he
 | some R=>
 rw [hR] at he
 cases he
 have qe:=Kd hR (by simp)
 simp only [go_sem]
 refine la 32712 (fun n V H2=>∃bC l v m g,V 3=v/\Gr xr 99 H2 v l m g/\hZ H H2 m/\hZ H H2 g/\Fr [rb] H H2/\PP L F H2 q rb bC/\l.length<=6/\nG L 0 (zV L fuel) n bC l=some R) (n:=7)
  ⟨s1,[],.slice none 0 0,[],[],by simp only [go_sem] <;> rfl,Gr.nil _ _ _,by simp [hZ],by simp [hZ],p1.1,h1,by simp,hR⟩ ?_ (by rfl)
 rintro n V H2 ⟨bC,l,v,m,g,e3,cB,cO,uS,kU,h2,pg,fD⟩
 cases n with
 | zero=>cases fD
 | succ n=>
  rw [nG] at fD
  obtain ⟨a,hv⟩:=cB.val
  have wj:∀c∈m,c∉[rb]:=fun c hc=>by have:=(cO c hc).1;have:=h.rl;simp;omega
  have Ta:∀c∈g,c∉[rb]:=fun c hc=>by have:=(uS c hc).1;have:=h.rl;simp;omega
  have up:∀{H4 H5:ad},H2.next<=H4.next->Fr [rb] H4 H5->Gr xr 99 H4 v l m g->Gr xr 99 H5 v l m g:=fun n4 f hg=>hg.af (fun b hb=>f.get b (Nat.lt_of_lt_of_le (cO b hb).2 n4) (wj b hb)) (fun b hb=>f.get b (Nat.lt_of_lt_of_le (uS b hb).2 n4) (Ta b hb))
  simp only [go_sem,e3,hv]
  refine ag.by (N7 hL h2) ?_
  rintro _ H3 - ⟨rfl,p3⟩
  have h3:=h2.post p3
  have kV:=p3.1.nx
  have sS:=up (Nat.le_refl _) p3.1 cB
  by_cases hm:(jd L l.length 0 bC).1=true
  ·rw [if_pos hm] at fD
   have Cd:=HC hm
   generalize (jd L l.length 0 bC).2=AA at p3 h3 fD
   cases oJ:zV L fuel AA with
   | none=>rw [oJ] at fD;cases fD
   | some x=>
   obtain ⟨x1,x2⟩:=x
   rw [oJ] at fD
   replace fD:nG L 0 (zV L fuel) n x2 (l++[x1])=some R:=fD
   simp only [go_sem,hm]
   refine ag.by (aaJ hL h3 oJ) ?_
   rintro _ H4 - ⟨⟨vp,gx,rfl,Mk,dU⟩,p4⟩
   have h4:=h3.post p4
   have f4:=p4.1
   have nV:=p4.1.nx
   have nF2:=kU.nx
   have dj:∀c∈gx,H.next<=c/\c < H4.next:=fun c hc=>by have:=dU c hc;omega
   have oU:=up kV p4.1 sS
   obtain ⟨ap,cp,zd⟩:=Mk.val
   subst zd
   simp only [go_sem,e3,eB RY (by decide) (by decide)]
   refine jZ (r:=xr) (x:=x1) (g':=gx) RY (oU.af (fun b hb=>bX (by have:=(cO b hb).2;omega)) (fun b hb=>bX (by have:=(uS b hb).2;omega))) (fun c hc=>by have:=(cO c hc).2;rw [bJ];omega) (fun c hc=>by have:=(uS c hc).2;rw [bJ];omega)
    (fun c hc=>⟨by have:=(dU c hc).2;rw [bJ];omega,fun e=>by have:=(cO c e).2;have:=(dU c hc).1;omega⟩) (fun c hc=>hf.fresh (cO c hc).1) (by rw [aV,if_pos rfl]) ⟨_,rfl,Mk.af fun b hb=>bX (dU b hb).2⟩ rfl (by omega) ?_
   intro v7 H7 bH ef jm dx jQ
   have nF:=kU.nx
   rw [bJ] at ef
   have F7:Fr [rb] H H7:=(((kU.then p3.1).then f4).push _).trans dx (fun c hc=>.inr (cO c hc).1)
   have mW:=h4.push ⟨[iV x1.kind,iV x1.cap,iV x1.rc,ae x1.name,.slice ap x1.pat.length cp],99,false,false⟩
   have UY:=h.rl
   have UZ:=h.ql
   have Ce:∀c∈m,c∉F:=fun c hc e=>by have:=(h.hF c e).1;have:=(cO c hc).1;omega
   have h7:PP L F H7 q rb x2:={mW.toPP0.fr dx (fun e=>by have:=(cO _ e).1;omega) (fun e=>by have:=(cO _ e).1;omega) (fun c hc e=>Ce c e hc) with fz:=(by rw [jQ,mW.fz,Bool.or_false,beq_eq_false_iff_ne,bJ];omega)}
   simp only [go_sem]
   refine ⟨n,by omega,x2,l++[x1],v7,_,_,rfl,bH,fun c hc=>?_,fun c hc=>?_,F7,h7,by rw [List.length_append,List.length_singleton];omega,fD⟩
   ·rw [List.mem_singleton,bJ] at hc
    omega
   ·rcases List.mem_append.1 hc with e | e
    ·have:=uS c e;omega
    ·have:=dj c e;omega
  ·rw [if_neg hm] at fD
   cases fD
   simp only [go_sem,hm,e3,hv]
   refine ag.by (iJ hL h3) ?_
   rintro _ H4 - p4
   have nV:=p4.1.nx
   simp only [go_sem,e3,hv]
   refine ⟨⟨m++g,?_,fun c hc=>?_⟩,.last ((kU.then p3.1).then p4.1) p4.2.2⟩
   ·have:=(up kV p4.1 sS).sl
    rw [hv] at this
    exact this.af fun _ _=>rfl
   ·show H.next<=c/\c < H4.next
    rcases List.mem_append.1 hc with e | e
    ·have:=cO c e;omega
    ·have:=uS c e;omega
theorem Yn (hL:LG L) (h:PP L F H q rb st) {fuel:Nat} {l':List tf} {bW:aE} (he:HR L fuel st=some (l',bW)):ak Tryz.prog 114 #[pV q] H (fun w H'=>(∃g,Sl lH H' w l' g/\hZ H H' g)/\gg L F H q rb bW H'):=by
 refine ak.told ?_
 refine afu (Nat.le_refl _) fun hf=>?_
 simp only [Tryz.f114,Option.getD_some]
 simp only [go_sem]
 refine ag.by (iJ hL h) ?_
 rintro _ H1 - p1
 have h1:=h.post p1
 rw [HR] at he
 generalize dF L [40] st=s1 at p1 h1 he
 cases hR:nG L 1 (HW L fuel) 7 s1 [] with
 | none=>rw [hR] at he;cases he
 | some R=>
 rw [hR] at he
 cases he
 have qe:=Kd hR (by simp)
 simp only [go_sem]
 refine la 8388504 (fun n V H2=>∃bC l v m g,V 3=v/\Gr lH 101 H2 v l m g/\hZ H H2 m/\hZ H H2 g/\Fr [rb] H H2/\PP L F H2 q rb bC/\l.length<=6/\nG L 1 (HW L fuel) n bC l=some R) (n:=7)
  ⟨s1,[],.slice none 0 0,[],[],by simp only [go_sem] <;> rfl,Gr.nil _ _ _,by simp [hZ],by simp [hZ],p1.1,h1,by simp,hR⟩ ?_ (by rfl)
 rintro n V H2 ⟨bC,l,v,m,g,e3,cB,cO,uS,kU,h2,pg,fD⟩
 cases n with
 | zero=>cases fD
 | succ n=>
  rw [nG] at fD
  obtain ⟨a,hv⟩:=cB.val
  have wj:∀c∈m,c∉[rb]:=fun c hc=>by have:=(cO c hc).1;have:=h.rl;simp;omega
  have Ta:∀c∈g,c∉[rb]:=fun c hc=>by have:=(uS c hc).1;have:=h.rl;simp;omega
  have up:∀{H4 H5:ad},H2.next<=H4.next->Fr [rb] H4 H5->Gr lH 101 H4 v l m g->Gr lH 101 H5 v l m g:=fun n4 f hg=>hg.af (fun b hb=>f.get b (Nat.lt_of_lt_of_le (cO b hb).2 n4) (wj b hb)) (fun b hb=>f.get b (Nat.lt_of_lt_of_le (uS b hb).2 n4) (Ta b hb))
  simp only [go_sem,e3,hv]
  refine ag.by (N7 hL h2) ?_
  rintro _ H3 - ⟨rfl,p3⟩
  have h3:=h2.post p3
  have kV:=p3.1.nx
  have sS:=up (Nat.le_refl _) p3.1 cB
  by_cases hm:(jd L l.length 1 bC).1=true
  ·rw [if_pos hm] at fD
   have Cd:=HC hm
   generalize (jd L l.length 1 bC).2=AA at p3 h3 fD
   cases oJ:HW L fuel AA with
   | none=>rw [oJ] at fD;cases fD
   | some x=>
   obtain ⟨x1,x2⟩:=x
   rw [oJ] at fD
   replace fD:nG L 1 (HW L fuel) n x2 (l++[x1])=some R:=fD
   simp only [go_sem,hm]
   rw [HW] at oJ
   refine ag.by (jk hL h3) ?_
   rintro _ Hn - ⟨rfl,pn⟩
   have hn:=h3.post pn
   generalize cu L AA=nmx at pn hn oJ
   obtain ⟨qV,nm2⟩:=nmx
   have nn:=pn.1.nx
   have nF2:=kU.nx
   have AB:H.fz Hn.next=false:=hf.fresh (by omega)
   have ala:=up kV pn.1 sS
   simp only [go_sem,ac5,AB]
   have hp:=hn.push ⟨[ae qV,iV 0,iV 0,iV 0,ae [],.slice none 0 0],101,false,false⟩
   have fp:Fr [rb] H3 (Hn.push ⟨[ae qV,iV 0,iV 0,iV 0,ae [],.slice none 0 0],101,false,false⟩):=pn.1.push _
   have gp:(Hn.push ⟨[ae qV,iV 0,iV 0,iV 0,ae [],.slice none 0 0],101,false,false⟩).get Hn.next=some ⟨[ae qV,iV 0,iV 0,iV 0,ae [],.slice none 0 0],101,false,false⟩:=by rw [aV,if_pos rfl]
   have np:(Hn.push ⟨[ae qV,iV 0,iV 0,iV 0,ae [],.slice none 0 0],101,false,false⟩).next=Hn.next+1:=rfl
   have OU:=up (by omega) ((Fr.refl [rb] Hn).push ⟨[ae qV,iV 0,iV 0,iV 0,ae [],.slice none 0 0],101,false,false⟩) ala
   obtain ⟨bq,br,bF⟩:=hn.toPP0.fresh (Nat.le_refl Hn.next)
   generalize (Hn.push ⟨[ae qV,iV 0,iV 0,iV 0,ae [],.slice none 0 0],101,false,false⟩)=Hp at hp fp gp np OU
   refine ag.by (iJ hL hp) ?_
   rintro _ Hc - pc
   have hc:=hp.post pc
   have fc:=fp.then pc.1
   have nc:=pc.1.nx
   have alb:=up (by omega) pc.1 OU
   simp only [go_sem]
   cases ze:zV L fuel (dF L [58] nm2) with
   | none=>rw [ze] at oJ;cases oJ
   | some y=>
   obtain ⟨y1,y2⟩:=y
   rw [ze] at oJ
   cases oJ
   refine ag.by (aaJ hL hc ze) ?_
   rintro _ Hd - ⟨⟨vp,gx,rfl,Mk,dU⟩,pd⟩
   have hd:=hc.post pd
   have fd:=fc.then pd.1
   have nd:=pd.1.nx
   have alc:=up (by omega) pd.1 alb
   obtain ⟨ap,cp,zd⟩:=Mk.val
   subst zd
   have gd:Hd.get Hn.next=some ⟨[ae qV,iV 0,iV 0,iV 0,ae [],.slice none 0 0],101,false,false⟩:=by
    rw [pd.1.get _ (by omega) (by simpa using br),pc.1.get _ (by omega) (by simpa using br)];exact gp
   simp only [go_sem,gd,AB,e3,eB Bo (by decide) (by decide)]
   have h4:PP L F (Hd.ah Hn.next ⟨[ae qV,iV y1.kind,iV y1.cap,iV y1.rc,ae y1.name,.slice ap y1.pat.length cp],101,false,false⟩) q rb y2:={hd.toPP0.put _ bq br bF with fz:=hd.fz}
   have f4:Fr [rb] H3 (Hd.ah Hn.next ⟨[ae qV,iV y1.kind,iV y1.cap,iV y1.rc,ae y1.name,.slice ap y1.pat.length cp],101,false,false⟩):=fd.ah (.inr nn) _
   have oU:Gr lH 101 (Hd.ah Hn.next ⟨[ae qV,iV y1.kind,iV y1.cap,iV y1.rc,ae y1.name,.slice ap y1.pat.length cp],101,false,false⟩) v l m g:=alc.af (fun b hb=>by rw [az,if_neg (by have:=(cO b hb).2;omega)]) (fun b hb=>by rw [az,if_neg (by have:=(uS b hb).2;omega)])
   have aaK:Sl fJ (Hd.ah Hn.next ⟨[ae qV,iV y1.kind,iV y1.cap,iV y1.rc,ae y1.name,.slice ap y1.pat.length cp],101,false,false⟩) (.slice ap y1.pat.length cp) y1.pat gx:=Mk.af fun b hb=>by rw [az,if_neg (by have:=(dU b hb).1;omega)]
   have n4:(Hd.ah Hn.next ⟨[ae qV,iV y1.kind,iV y1.cap,iV y1.rc,ae y1.name,.slice ap y1.pat.length cp],101,false,false⟩).next=Hd.next:=rfl
   generalize (Hd.ah Hn.next ⟨[ae qV,iV y1.kind,iV y1.cap,iV y1.rc,ae y1.name,.slice ap y1.pat.length cp],101,false,false⟩)=H4 at h4 f4 oU aaK n4
   have dj:∀c∈gx,H.next<=c/\c < H4.next:=fun c hc=>by have:=dU c hc;omega
   refine jZ (r:=lH) (x:=⟨qV,y1⟩) (g':=gx) Bo (oU.af (fun b hb=>bX (by have:=(cO b hb).2;omega)) (fun b hb=>bX (by have:=(uS b hb).2;omega))) (fun c hc=>by have:=(cO c hc).2;rw [bJ];omega) (fun c hc=>by have:=(uS c hc).2;rw [bJ];omega)
    (fun c hc=>⟨by have:=(dU c hc).2;rw [bJ];omega,fun e=>by have:=(cO c e).2;have:=(dU c hc).1;omega⟩) (fun c hc=>hf.fresh (cO c hc).1) (by rw [aV,if_pos n4.symm]) ⟨_,rfl,aaK.af fun b hb=>bX (by have:=(dU b hb).2;omega)⟩ rfl (by omega) ?_
   intro v7 H7 bH ef jm dx jQ
   have nF:=kU.nx
   rw [bJ] at ef
   have F7:Fr [rb] H H7:=(((kU.then p3.1).then f4).push _).trans dx (fun c hc=>.inr (cO c hc).1)
   have mW:=h4.push ⟨[ae qV,iV y1.kind,iV y1.cap,iV y1.rc,ae y1.name,.slice ap y1.pat.length cp],101,false,false⟩
   have UY:=h.rl
   have UZ:=h.ql
   have Ce:∀c∈m,c∉F:=fun c hc e=>by have:=(h.hF c e).1;have:=(cO c hc).1;omega
   have h7:PP L F H7 q rb y2:={mW.toPP0.fr dx (fun e=>by have:=(cO _ e).1;omega) (fun e=>by have:=(cO _ e).1;omega) (fun c hc e=>Ce c e hc) with fz:=(by rw [jQ,mW.fz,Bool.or_false,beq_eq_false_iff_ne,bJ];omega)}
   simp only [go_sem]
   refine ⟨n,by omega,y2,l++[⟨qV,y1⟩],v7,_,_,rfl,bH,fun c hc=>?_,fun c hc=>?_,F7,h7,by rw [List.length_append,List.length_singleton];omega,fD⟩
   ·rw [List.mem_singleton,bJ] at hc
    omega
   ·rcases List.mem_append.1 hc with e | e
    ·have:=uS c e;omega
    ·have:=dj c e;omega
  ·rw [if_neg hm] at fD
   cases fD
   simp only [go_sem,hm,e3,hv]
   refine ag.by (iJ hL h3) ?_
   rintro _ H4 - p4
   have nV:=p4.1.nx
   simp only [go_sem,e3,hv]
   refine ⟨⟨m++g,?_,fun c hc=>?_⟩,.last ((kU.then p3.1).then p4.1) p4.2.2⟩
   ·have:=(up kV p4.1 sS).sl
    rw [hv] at this
    exact this.af fun _ _=>rfl
   ·show H.next<=c/\c < H4.next
    rcases List.mem_append.1 hc with e | e
    ·have:=cO c e;omega
    ·have:=uS c e;omega
end
abbrev aJ (n:aG) (vA vP vB:Value):List Value:=[iV n.kind,iV n.x,iV n.y,iV n.f,iV n.n,iV n.cap,iV n.rc,iV n.op,iV n.a,iV n.b,iV n.next,iV n.line,iV n.aj,ae n.mI,ae n.gu,ae n.hU,ae n.jy,vA,vP,vB]
structure LN0 (L:List bc) (F:List Nat) (H:ad) (q rb:Nat) (st:aE) (nb:Nat) (n:aG) (g:List Nat):Prop where
 pp:PP0 L F H q rb st
 nd:∃vA vP vB gA gP gB,H.get nb=some ⟨aJ n vA vP vB,42,false,false⟩/\Sl jO H vA n.args gA/\Sl fJ H vP n.pat gP/\Sl dG H vB n.au gB/\g=gA++(gP++gB)
 nl:nb < H.next
 nr:nb≠rb
 nq:nb≠q
 nF:nb∉F
 hg:∀c∈g,c < H.next/\c≠rb/\c≠nb/\c≠q
structure LN (L:List bc) (F:List Nat) (H:ad) (q rb:Nat) (st:aE) (nb:Nat) (n:aG) (g:List Nat):Prop extends LN0 L F H q rb st nb n g where
 fz:H.fz rb=false
 fb:H.fz nb=false
 fn:∀b,H.next<=b->H.fz b=false
def HX (L:List bc) (F:List Nat) (H:ad) (q rb nb:Nat) (g:List Nat) (bW:aE) (n':aG) (H':ad):Prop:=
 Fr [rb,nb] H H'/\(∀c,H'.fz c=H.fz c)/\∃g',LN0 L F H' q rb bW nb n' g'/\∀c∈g',c∈g∨H.next<=c
structure LR (L:List bc) (F:List Nat) (H:ad) (q rb nb:Nat) (g:List Nat) (H1:ad) (cC:aE) (n1:aG) (g1:List Nat):Prop where
 fr:Fr [rb,nb] H H1
 ln:LN L F H1 q rb cC nb n1 g1
 sub:∀c∈g1,c∈g∨H.next<=c
section
variable {L:List bc} {F:List Nat} {H H1 H2:ad} {q rb nb:Nat} {st cC bC:aE} {n n1 n2:aG} {g g1 g2:List Nat}
theorem LN.bK (h:LN L F H q rb st nb n g):PP L F H q rb st:={h.pp with fz:=h.fz}
theorem LR.start (h:LN L F H q rb st nb n g):LR L F H q rb nb g H st n g:=⟨.refl _ _,h,fun _ h=>.inl h⟩
theorem LN0.fr (h:LN0 L F H q rb st nb n g) {bW:aE} {M:List Nat} (bj:Fr M H H1) (hp:PP0 L F H1 q rb bW) (mn:nb∉M) (mg:∀c∈g,c∉M):LN0 L F H1 q rb bW nb n g:=by
 obtain ⟨_,⟨vA,vP,vB,gA,gP,gB,h1,h2,h3,h4,rfl⟩,nl,nr,nq,nF,hg⟩:=h
 have k:∀c∈gA++(gP++gB),H1.get c=H.get c:=fun c hc=>bj.get c (hg c hc).1 (mg c hc)
 exact ⟨hp,⟨vA,vP,vB,gA,gP,gB,(bj.get nb nl mn).trans h1,h2.af fun c hc=>k c (by simp [hc]),h3.af fun c hc=>k c (by simp [hc]),h4.af fun c hc=>k c (by simp [hc]),rfl⟩,Nat.lt_of_lt_of_le nl bj.nx,nr,nq,nF,fun c hc=>⟨Nat.lt_of_lt_of_le (hg c hc).1 bj.nx,(hg c hc).2⟩⟩
theorem LR.aZ (h:LR L F H q rb nb g H1 cC n1 g1) {bW:aE} (hp:gg L F H1 q rb bW H2):LR L F H q rb nb g H2 bW n1 g1:=
 ⟨h.fr.then (hp.1.sub fun c hc=>.inl (by rw [List.mem_singleton] at hc;simp [hc])),{h.ln.toLN0.fr hp.1 hp.2.2 (by simpa using h.ln.nr) (fun c hc=>by simpa using (h.ln.hg c hc).2.1) with fz:=by rw [hp.2.1];exact h.ln.fz,fb:=by rw [hp.2.1];exact h.ln.fb,fn:=fun b hb=>by rw [hp.2.1];exact h.ln.fn b (Nat.le_trans hp.1.nx hb)},h.sub⟩
theorem LR.push (h:LR L F H q rb nb g H1 cC n1 g1) (B:cw) (hB:B.ro=false:=by rfl):LR L F H q rb nb g (H1.push B) cC n1 g1:=
 ⟨h.fr.push B hB,{h.ln.toLN0.fr ((ba.push H1 B hB).fr []) (h.ln.pp.aH (ba.push H1 B hB)) (by simp) (by simp) with fz:=(h.ln.bK.push B hB).fz,fb:=(by have:=h.ln.nl;rw [qw,h.ln.fb,Bool.or_false,beq_eq_false_iff_ne];omega),fn:=fun b hb=>(by rw [bJ] at hb;rw [qw,h.ln.fn b (by omega),Bool.or_false,beq_eq_false_iff_ne];omega)},h.sub⟩
theorem LR.set (h:LR L F H q rb nb g H1 cC n1 g1) {vL v1 v4 v5 vP:Value} (hr:H1.get rb=some ⟨[vL,v1,.slice none 0 0,.bool true,v4,v5,vP],125,false,false⟩) (bW:aE) (ha:bW.at_ < L.length):
  LR L F H q rb nb g (H1.ah rb ⟨[vL,iV (bW.at_:Nat),.slice none 0 0,.bool true,iV bW.depth,iV bW.bad,vP],125,false,false⟩) bW n1 g1:=
 h.aZ ⟨(Fr.refl _ _).ah (.inl (by simp)) _,fun _=>rfl,h.ln.pp.set hr bW ha⟩
theorem LR.node (h:LR L F H q rb nb g H1 cC n1 g1) {n':aG} {vA vP vB:Value} {gA gP gB:List Nat} (h2:Sl jO H1 vA n'.args gA) (h3:Sl fJ H1 vP n'.pat gP) (h4:Sl dG H1 vB n'.au gB) (hg:∀c∈gA++(gP++gB),c∈g1∨H.next<=c/\c < H1.next/\c≠rb/\c≠nb/\c≠q):
  LR L F H q rb nb g (H1.ah nb ⟨aJ n' vA vP vB,42,false,false⟩) cC n' (gA++(gP++gB)):=by
 have hl:=h.ln
 have fj:∀c∈gA++(gP++gB),c < H1.next/\c≠rb/\c≠nb/\c≠q:=fun c hc=>(hg c hc).elim (hl.hg c) fun e=>e.2
 have k:∀c∈gA++(gP++gB),(H1.ah nb ⟨aJ n' vA vP vB,42,false,false⟩).get c=H1.get c:=fun c hc=>by rw [az,if_neg (fj c hc).2.2.1]
 refine ⟨h.fr.ah (.inl (by simp)) _,⟨⟨hl.pp.put _ hl.nq hl.nr hl.nF,⟨vA,vP,vB,gA,gP,gB,by rw [az,if_pos rfl],h2.af fun c hc=>k c (by simp [hc]),h3.af fun c hc=>k c (by simp [hc]),h4.af fun c hc=>k c (by simp [hc]),rfl⟩,hl.nl,hl.nr,hl.nq,hl.nF,fj⟩,hl.fz,hl.fb,hl.fn⟩,fun c hc=>?_⟩
 rcases hg c hc with e | e
 ·exact h.sub c e
 ·exact .inr e.1
theorem LR.last (h:LR L F H q rb nb g H1 cC n1 g1):HX L F H q rb nb g cC n1 (H1.ai H.fz):=⟨h.fr.ai _,fun _=>rfl,g1,h.ln.toLN0.fr ((Fr.refl [] H1).ai _) h.ln.pp.ai (by simp) (by simp),h.sub⟩
theorem LR.gG (h:LR L F H q rb nb g H1 cC n1 g1) {vA vP vB:Value} (cQ:H1.get nb=some ⟨aJ n1 vA vP vB,42,false,false⟩) (n':aG) (ha:n'.args=n1.args) (hp:n'.pat=n1.pat) (hb:n'.au=n1.au):LR L F H q rb nb g (H1.ah nb ⟨aJ n' vA vP vB,42,false,false⟩) cC n' g1:=by
 obtain ⟨Gc,ph,DV,gA,gP,gB,h1,h2,h3,h4,rfl⟩:=h.ln.nd
 rw [cQ] at h1
 cases h1
 exact h.node (ha▸h2) (hp▸h3) (hb▸h4) fun c hc=>.inl hc
theorem LR.args (h:LR L F H q rb nb g H1 cC n1 g1) {vA vP vB v:Value} (cQ:H1.get nb=some ⟨aJ n1 vA vP vB,42,false,false⟩) (n':aG) {f:List Nat} (hs:Sl jO H1 v n'.args f) (hf:∀c∈f,H.next<=c/\c < H1.next/\c≠rb/\c≠nb/\c≠q) (hp:n'.pat=n1.pat) (hb:n'.au=n1.au):∃g',LR L F H q rb nb g (H1.ah nb ⟨aJ n' v vP vB,42,false,false⟩) cC n' g':=by
 obtain ⟨Gc,ph,DV,gA,gP,gB,h1,h2,h3,h4,rfl⟩:=h.ln.nd
 rw [cQ] at h1
 cases h1
 refine ⟨_,h.node hs (hp▸h3) (hb▸h4) fun c hc=>?_⟩
 rcases List.mem_append.1 hc with e | e
 ·exact .inr (hf c e)
 ·exact .inl (List.mem_append_right _ e)
theorem LR.nd (h:LR L F H q rb nb g H1 cC n1 g1):∃vA vP vB,H1.get nb=some ⟨aJ n1 vA vP vB,42,false,false⟩:=by
 obtain ⟨Gc,ph,DV,gA,gP,gB,h1,_⟩:=h.ln.nd
 exact ⟨_,_,_,h1⟩
theorem LN.new (h:LN L F H q rb st nb n g) {c:Nat} (hc:H.next<=c):c≠rb/\c≠nb/\c≠q:=⟨by have:=h.pp.rl;omega,by have:=h.nl;omega,by have:=h.pp.ql;omega⟩
theorem Kl {x:sN} {ty:TypeId}:Sl jO (H.push ⟨[iV x.kind,iV x.n,ae x.name],ty,false,false⟩) (.slice (some ⟨H.next,0,none⟩) 1 1) [x] [H.next]:=
 .inr (.inr ⟨H.next,0,1,_,[],rfl,by simp,Nat.le_refl _,rfl,by rw [aV,if_pos rfl],⟨_,[],[],[],by simp,rfl,⟨rfl,rfl⟩,rfl⟩⟩)
abbrev uv:bf:=[97,114,114]
def zQ (L:List bc) (st:aE) (n:aG):aE × aG:=
 if c9 st=true/\ea L [91] st=true then (dF L [93] (ib L (aC st)).2,{n with rc:= -1,jy:=uv,args:=[(ib L (aC st)).1]})
 else ((cu L (dF L [46] (cu L st).2)).2,{n with jy:=(cu L st).1,hU:=(cu L (dF L [46] (cu L st).2)).1})
def IM (H:ad) (rb nb:Nat) (n:aG):Prop:=(∃vP vB,H.get nb=some ⟨aJ n (.slice none 0 0) vP vB,42,false,false⟩/\n.args=[])∨∃b a vP vB,H.get nb=some ⟨aJ n (.slice (some ⟨b,0,none⟩) 1 1) vP vB,42,false,false⟩/\n.args=[a]/\H.get b=some ⟨[iV a.kind,iV a.n,ae a.name],44,false,false⟩/\b < H.next/\b≠nb/\b≠rb
theorem Yo (hL:LG L) (h:LN L F H q rb st nb n g):ak Tryz.prog 174 #[pV q,pV nb] H (fun w H'=>HX L F H q rb nb g (zQ L st n).1 (zQ L st n).2 H'/\∀vP vB,H.get nb=some ⟨aJ n (.slice none 0 0) vP vB,42,false,false⟩->n.args=[]->IM H' rb nb (zQ L st n).2):=by
 refine ak.told ?_
 refine ag6 (Nat.le_refl _) fun hf=>?_
 simp only [Tryz.f174,Option.getD_some]
 simp only [go_sem]
 have hz:=h.fz
 have cS:=h.fb
 have jE:=hL.len
 have ee:=h.pp.at_
 have cX:IntKind.wrap .i64 (((st.at_:Nat):Int)+1)=((st.at_+1:Nat):Int):=cZ ee (by omega)
 have r0:=LR.start h
 have gI:=h.nr
 have dQ:¬rb=nb:=fun e=>gI e.symm
 have tp:¬q=nb:=fun e=>h.nq e.symm
 obtain ⟨c1,c2,c3,c4,bL,oL,cL,BL,a,m,c,hq,hr,hB,hl,iK,h0,h4,dv,cm,eH⟩:=h.pp.fy
 refine ag.by (eZ h.bK) ?_
 rintro _ _ - ⟨rfl,rfl⟩
 by_cases hc:c9 st=true/\ea L [91] st=true
 ·obtain ⟨hb,hs⟩:=hc
  simp only [go_sem,hb,hq]
  refine ag.by (nE h.bK) ?_
  rintro _ _ - ⟨rfl,rfl⟩
  rw [zQ,if_pos ⟨hb,hs⟩]
  obtain ⟨vA,vP,vB,cQ⟩:=r0.nd
  have r1:=r0.set hr (aC st) (nD hL ee (wV hs))
  have yu:(H.ah rb ⟨[.slice (some ⟨bL,oL,none⟩) L.length cL,iV (((aC st).at_:Nat):Int),.slice none 0 0,.bool true,iV (aC st).depth,iV (aC st).bad,.slice a m c],125,false,false⟩).get nb=some ⟨aJ n vA vP vB,42,false,false⟩:=by rw [az,if_neg gI];exact cQ
  have r2:=r1.gG yu {n with rc:= -1,jy:=uv} rfl rfl rfl
  have yZ:=h.pp.qr
  simp only [go_sem,hs,hq,hr,hz,cX,yZ,gI,dQ,tp,cQ,cS]
  rw [rH]
  obtain ⟨Jb,xw,xy,Fs⟩:=r2.nd
  generalize wo:((H.ah rb ⟨[.slice (some ⟨bL,oL,none⟩) L.length cL,iV (((aC st).at_:Nat):Int),.slice none 0 0,.bool true,iV (aC st).depth,iV (aC st).bad,.slice a m c],125,false,false⟩).ah nb ⟨aJ {n with rc:= -1,jy:=uv} vA vP vB,42,false,false⟩)=H2 at r2 Fs
  have ald:((H.ah rb ⟨[.slice (some ⟨bL,oL,none⟩) L.length cL,.int .i64 ((st.at_+1:Nat):Int),.slice none 0 0,.bool true,iV st.depth,iV st.bad,.slice a m c],125,false,false⟩).ah nb ⟨[iV n.kind,iV n.x,iV n.y,iV n.f,iV n.n,iV n.cap,.int .i64 (-1),iV n.op,iV n.a,iV n.b,iV n.next,iV n.line,iV n.aj,ae n.mI,ae n.gu,ae n.hU,ae uv,vA,vP,vB],42,false,false⟩)=H2:=wo
  try rw [ald]
  refine ag.by (Df hL r2.ln.bK) ?_
  rintro _ H3 - ⟨rfl,p3⟩
  have r3:=r2.aZ p3
  obtain ⟨vA3,Mf,Vc,BG⟩:=r3.nd
  generalize hx:ib L (aC st)=x at p3 r3
  have awu:H.fz nb=false:=cS
  have nn:¬nb=H3.next:=by have:=r3.ln.nl;omega
  simp only [go_sem,BG,cS,nn,eB qE (by decide) (by decide)]
  have r4:=r3.push ⟨[iV x.1.kind,iV x.1.n,ae x.1.name],44,false,false⟩
  have uw:(H3.push ⟨[iV x.1.kind,iV x.1.n,ae x.1.name],44,false,false⟩).get nb=some ⟨aJ {n with rc:= -1,jy:=uv} vA3 Mf Vc,42,false,false⟩:=by rw [bX r3.ln.nl];exact BG
  have n03:=r3.fr.nx
  obtain ⟨e1,e2,e3⟩:=r3.ln.new (Nat.le_refl _)
  obtain ⟨g5,r5⟩:=r4.args uw {n with rc:= -1,jy:=uv,args:=[x.1]} Kl (fun c hc=>by rw [List.mem_singleton] at hc;subst hc;rw [bJ];exact ⟨n03,by omega,e1,e2,e3⟩) rfl rfl
  refine ag.by (iJ hL r5.ln.bK) ?_
  rintro _ H6 - p6
  have r6:=r5.aZ p6
  simp only [go_sem]
  refine ⟨r6.last,fun _ _ _ _=>.inr ⟨H3.next,x.1,Mf,Vc,?_,rfl,?_,?_,e2,e1⟩⟩
  ·exact (p6.1.get nb (by rw [oO,bJ];have:=r3.ln.nl;omega) (by simpa using gI)).trans (by rw [az,if_pos rfl])
  ·exact (p6.1.get H3.next (by rw [oO,bJ];omega) (by simpa using e1)).trans (by rw [az,if_neg e2,aV,if_pos rfl])
  ·have:=p6.1.nx
   rw [oO,bJ] at this
   exact this
 ·rw [zQ,if_neg hc]
  by_cases hb:c9 st=true
  ·have hs:¬ea L [91] st=true:=fun e=>hc ⟨hb,e⟩
   simp only [go_sem,hb,hq]
   refine ag.by (nE h.bK) ?_
   rintro _ _ - ⟨rfl,rfl⟩
   simp only [go_sem,hs]
   refine ag.by (jk hL h.bK) ?_
   rintro _ H1 - ⟨rfl,p1⟩
   have r1:=r0.aZ p1
   obtain ⟨vA1,vP1,vB1,yu⟩:=r1.nd
   have r2:=r1.gG yu {n with jy:=(cu L st).1} rfl rfl rfl
   simp only [go_sem,yu,cS]
   refine ag.by (iJ hL r2.ln.bK) ?_
   rintro _ H3 - p3
   have r3:=r2.aZ p3
   simp only [go_sem]
   refine ag.by (jk hL r3.ln.bK) ?_
   rintro _ H4 - ⟨rfl,p4⟩
   have r4:=r3.aZ p4
   obtain ⟨PS,F9,Jc,uw⟩:=r4.nd
   have r5:=r4.gG uw {n with jy:=(cu L st).1,hU:=(cu L (dF L [46] (cu L st).2)).1} rfl rfl rfl
   simp only [go_sem,uw,cS]
   refine ⟨r5.last,fun vP0 vB0 rV sb=>.inl ⟨F9,Jc,?_,sb⟩⟩
   have k1:=(p1.1.get nb h.nl (by simpa using gI)).trans rV
   rw [yu] at k1
   cases k1
   have k3:=(p3.1.get nb r1.ln.nl (by simpa using gI)).trans (by rw [az,if_pos rfl])
   have k4:=(p4.1.get nb r3.ln.nl (by simpa using gI)).trans k3
   rw [uw] at k4
   cases k4
   show (ad.ah _ _ _).get nb=_
   rw [az,if_pos rfl]
  simp only [go_sem,hb]
  refine ag.by (jk hL h.bK) ?_
  rintro _ H1 - ⟨rfl,p1⟩
  have r1:=r0.aZ p1
  obtain ⟨vA1,vP1,vB1,yu⟩:=r1.nd
  have r2:=r1.gG yu {n with jy:=(cu L st).1} rfl rfl rfl
  simp only [go_sem,yu,cS]
  refine ag.by (iJ hL r2.ln.bK) ?_
  rintro _ H3 - p3
  have r3:=r2.aZ p3
  simp only [go_sem]
  refine ag.by (jk hL r3.ln.bK) ?_
  rintro _ H4 - ⟨rfl,p4⟩
  have r4:=r3.aZ p4
  obtain ⟨PS,F9,Jc,uw⟩:=r4.nd
  have r5:=r4.gG uw {n with jy:=(cu L st).1,hU:=(cu L (dF L [46] (cu L st).2)).1} rfl rfl rfl
  simp only [go_sem,uw,cS]
  refine ⟨r5.last,fun vP0 vB0 rV sb=>.inl ⟨F9,Jc,?_,sb⟩⟩
  have k1:=(p1.1.get nb h.nl (by simpa using gI)).trans rV
  rw [yu] at k1
  cases k1
  have k3:=(p3.1.get nb r1.ln.nl (by simpa using gI)).trans (by rw [az,if_pos rfl])
  have k4:=(p4.1.get nb r3.ln.nl (by simpa using gI)).trans k3
  rw [uw] at k4
  cases k4
  show (ad.ah _ _ _).get nb=_
  rw [az,if_pos rfl]
theorem adR (hL:LG L) (h:LN L F H q rb st nb n g):ak Tryz.prog 174 #[pV q,pV nb] H (fun w H'=>HX L F H q rb nb g (zQ L st n).1 (zQ L st n).2 H'):=(Yo hL h).mono fun _ _ _ h=>h.1
def Iv (L:List bc) (st:aE) (n:aG) (c:Int):aE × aG:=
 if cP L uv st=true then (dF L [41] (ib L (dF L [40] (aC st))).2,{n with kind:=4,cap:=c,rc:= -1,jy:=uv,args:=[(ib L (dF L [40] (aC st))).1]})
 else ((qF L (cu L st).2).2,{n with kind:=4,cap:=c,jy:=(cu L st).1,args:=(qF L (cu L st).2).1})
theorem aht (hL:LG L) (h:LN L F H q rb st nb n g) {c:Int}:ak Tryz.prog 178 #[pV q,pV nb,iV c] H (fun w H'=>HX L F H q rb nb g (Iv L st n c).1 (Iv L st n c).2 H'):=by
 refine ak.told ?_
 refine ahe (Nat.le_refl _) fun hf=>?_
 simp only [Tryz.f178,Option.getD_some]
 have hz:=h.fz
 have cS:=h.fb
 have jE:=hL.len
 have ee:=h.pp.at_
 have cX:IntKind.wrap .i64 (((st.at_:Nat):Int)+1)=((st.at_+1:Nat):Int):=cZ ee (by omega)
 have r0:=LR.start h
 have gI:=h.nr
 have dQ:¬rb=nb:=fun e=>gI e.symm
 have tp:¬q=nb:=fun e=>h.nq e.symm
 obtain ⟨vA,vP,vB,cQ⟩:=r0.nd
 have r1:=r0.gG cQ {n with kind:=4,cap:=c} rfl rfl rfl
 simp only [go_sem,cQ,cS]
 rw [rH]
 obtain ⟨vA1,vP1,vB1,yu⟩:=r1.nd
 generalize cH:(H.ah nb ⟨aJ {n with kind:=4,cap:=c} vA vP vB,42,false,false⟩)=H1 at r1 yu
 have ale:(H.ah nb ⟨[.int .i64 4,iV n.x,iV n.y,iV n.f,iV n.n,iV c,iV n.rc,iV n.op,iV n.a,iV n.b,iV n.next,iV n.line,iV n.aj,ae n.mI,ae n.gu,ae n.hU,ae n.jy,vA,vP,vB],42,false,false⟩)=H1:=cH
 try rw [ale]
 refine ag.by (fR r1.ln.bK) ?_
 rintro _ H2 - ⟨rfl,p2⟩
 have r2:=r1.aZ p2
 by_cases hw:cP L uv st=true
 ·rw [Iv,if_pos hw]
  obtain ⟨c1,c2,c3,c4,bL,oL,cL,BL,a,m,cc,hq,hr,hB,hl,iK,h0,h4,dv,cm,eH⟩:=r2.ln.pp.fy
  obtain ⟨Jb,xw,xy,Fs⟩:=r2.nd
  have r3:=r2.set hr (aC st) (nD hL ee (jl hw))
  have BG:(H2.ah rb ⟨[.slice (some ⟨bL,oL,none⟩) L.length cL,iV (((aC st).at_:Nat):Int),.slice none 0 0,.bool true,iV (aC st).depth,iV (aC st).bad,.slice a m cc],125,false,false⟩).get nb=some ⟨aJ {n with kind:=4,cap:=c} Jb xw xy,42,false,false⟩:=by rw [az,if_neg gI];exact Fs
  have r4:=r3.gG BG {n with kind:=4,cap:=c,rc:= -1,jy:=uv} rfl rfl rfl
  simp only [go_sem,hw,hq,hr,hz,cX,gI,dQ,tp,Fs,cS]
  rw [rH]
  obtain ⟨PS,F9,Jc,uw⟩:=r4.nd
  generalize dB:((H2.ah rb ⟨[.slice (some ⟨bL,oL,none⟩) L.length cL,iV (((aC st).at_:Nat):Int),.slice none 0 0,.bool true,iV (aC st).depth,iV (aC st).bad,.slice a m cc],125,false,false⟩).ah nb ⟨aJ {n with kind:=4,cap:=c,rc:= -1,jy:=uv} Jb xw xy,42,false,false⟩)=H4 at r4 uw
  have S2:((H2.ah rb ⟨[.slice (some ⟨bL,oL,none⟩) L.length cL,.int .i64 ((st.at_+1:Nat):Int),.slice none 0 0,.bool true,iV st.depth,iV st.bad,.slice a m cc],125,false,false⟩).ah nb ⟨[iV 4,iV n.x,iV n.y,iV n.f,iV n.n,iV c,.int .i64 (-1),iV n.op,iV n.a,iV n.b,iV n.next,iV n.line,iV n.aj,ae n.mI,ae n.gu,ae n.hU,ae uv,Jb,xw,xy],42,false,false⟩)=H4:=dB
  try rw [S2]
  refine ag.by (iJ hL r4.ln.bK) ?_
  rintro _ H5 - p5
  have r5:=r4.aZ p5
  simp only [go_sem]
  refine ag.by (Df hL r5.ln.bK) ?_
  rintro _ H6 - ⟨rfl,p6⟩
  have r6:=r5.aZ p6
  obtain ⟨Gd,qW,qX,lp⟩:=r6.nd
  generalize ib L (dF L [40] (aC st))=x at p6 r6
  have nn:¬nb=H6.next:=by have:=r6.ln.nl;omega
  simp only [go_sem,lp,cS,nn,eB qE (by decide) (by decide)]
  have r7:=r6.push ⟨[iV x.1.kind,iV x.1.n,ae x.1.name],44,false,false⟩
  have yv:(H6.push ⟨[iV x.1.kind,iV x.1.n,ae x.1.name],44,false,false⟩).get nb=some ⟨aJ {n with kind:=4,cap:=c,rc:= -1,jy:=uv} Gd qW qX,42,false,false⟩:=by rw [bX r6.ln.nl];exact lp
  have n06:=r6.fr.nx
  obtain ⟨e1,e2,e3⟩:=r6.ln.new (Nat.le_refl _)
  obtain ⟨g8,r8⟩:=r7.args yv {n with kind:=4,cap:=c,rc:= -1,jy:=uv,args:=[x.1]} Kl (fun c hc=>by rw [List.mem_singleton] at hc;subst hc;rw [bJ];exact ⟨n06,by omega,e1,e2,e3⟩) rfl rfl
  refine ag.by (iJ hL r8.ln.bK) ?_
  rintro _ H9 - p9
  have r9:=r8.aZ p9
  simp only [go_sem]
  exact r9.last
 ·rw [Iv,if_neg hw]
  simp only [go_sem,hw]
  refine ag.by (jk hL r2.ln.bK) ?_
  rintro _ H3 - ⟨rfl,p3⟩
  have r3:=r2.aZ p3
  obtain ⟨vA3,Mf,Vc,BG⟩:=r3.nd
  generalize cu L st=y at p3 r3
  have r4:=r3.gG BG {n with kind:=4,cap:=c,jy:=y.1} rfl rfl rfl
  simp only [go_sem,BG,cS]
  refine ag.by (HV hL r4.ln.bK) ?_
  rintro va H5 - ⟨⟨ga,ic,jU⟩,p5⟩
  have r5:=r4.aZ p5
  obtain ⟨Vd,vP5,Ve,OW⟩:=r5.nd
  generalize qF L y.2=z at p5 r5 ic
  obtain ⟨aa,ca,zf⟩:=ic.val
  subst zf
  simp only [go_sem,OW,cS]
  have n04:=r4.fr.nx
  obtain ⟨g6,r6⟩:=r5.args OW {n with kind:=4,cap:=c,jy:=y.1,args:=z.1} ic (fun b hb=>by
   have dY:=jU b hb
   obtain ⟨e1,e2,e3⟩:=r4.ln.new dY.1
   exact ⟨Nat.le_trans n04 dY.1,dY.2,e1,e2,e3⟩) rfl rfl
  exact r6.last
end
def lJ:List bf:=[[43],[45],[42],[60],[61]]
def Bq (L:List bc):Int->List bf->aE->aG->aE × aG
 | _,[],st,n=>(st,n)
 | i,s::l,st,n=>if c9 st=true/\n.op=0/\ea L s st=true then Bq L (i+1) l (ib L (aC st)).2 {n with op:=i,args:=n.args++[(ib L (aC st)).1]} else Bq L (i+1) l st n
def KM (L:List bc) (st:aE) (n:aG):aE × aG:=Bq L 1 lJ (ib L st).2 {n with kind:=3,args:=[(ib L st).1]}
section
variable {L:List bc} {F:List Nat} {H H1 H2:ad} {q rb nb:Nat} {st cC bC:aE} {n n1 n2:aG} {g g1 g2:List Nat}
theorem Zf (hL:LG L) (h:LN L F H q rb st nb n g) (iz:n.op=0):ak Tryz.prog 179 #[pV q,pV nb] H (fun w H'=>HX L F H q rb nb g (KM L st n).1 (KM L st n).2 H'):=by
 refine ak.told ?_
 refine ahg (Nat.le_refl _) fun hf=>?_
 simp only [Tryz.f179,Option.getD_some]
 have hz:=h.fz
 have cS:=h.fb
 have jE:=hL.len
 have r0:=LR.start h
 have gI:=h.nr
 have dQ:¬rb=nb:=fun e=>gI e.symm
 have tp:¬q=nb:=fun e=>h.nq e.symm
 obtain ⟨vA,vP,vB,cQ⟩:=r0.nd
 have r1:=r0.gG cQ {n with kind:=3} rfl rfl rfl
 simp only [go_sem,cQ,cS]
 refine ag.by (Df hL r1.ln.bK) ?_
 rintro _ H2 - ⟨rfl,p2⟩
 have r2:=r1.aZ p2
 obtain ⟨Jb,xw,xy,Fs⟩:=r2.nd
 rw [KM]
 generalize ib L st=x at p2 r2
 have nn:¬nb=H2.next:=by have:=r2.ln.nl;omega
 have bl:∀{H':ad},sw Tryz.prog 50 5 [(0,ae [43]),(1,ae [45]),(2,ae [42]),(3,ae [60]),(4,ae [61])] H'=.ok (.slice (some ⟨H'.next,0,none⟩) 5 5) (H'.push ⟨lJ.map ae,9,false,false⟩):=fun {H'}=>
  Hz vj UR (by decide) (by decide) rfl
 simp only [go_sem,Fs,cS,nn,eB qE (by decide) (by decide),bl]
 have r3:=r2.push ⟨[iV x.1.kind,iV x.1.n,ae x.1.name],44,false,false⟩
 have BG:(H2.push ⟨[iV x.1.kind,iV x.1.n,ae x.1.name],44,false,false⟩).get nb=some ⟨aJ {n with kind:=3} Jb xw xy,42,false,false⟩:=by rw [bX r2.ln.nl];exact Fs
 have Vf:=r2.fr.nx
 obtain ⟨e1,e2,e3⟩:=r2.ln.new (Nat.le_refl _)
 obtain ⟨g4,r4⟩:=r3.args BG {n with kind:=3,args:=[x.1]} Kl (fun c hc=>by rw [List.mem_singleton] at hc;subst hc;rw [bJ];exact ⟨Vf,by omega,e1,e2,e3⟩) rfl rfl
 have r5:=r4.push ⟨lJ.map ae,9,false,false⟩
 obtain ⟨Vd,vP5,Ve,xt,gP5,gB5,OW,sA5,sP5,sB5,xz⟩:=r5.ln.nd
 have iG:r5=r5:=rfl
 have gab:(((H2.push ⟨[iV x.1.kind,iV x.1.n,ae x.1.name],44,false,false⟩).ah nb ⟨aJ {n with kind:=3,args:=[x.1]} (.slice (some ⟨H2.next,0,none⟩) 1 1) xw xy,42,false,false⟩).push ⟨lJ.map ae,9,false,false⟩).get H2.next=some ⟨[iV x.1.kind,iV x.1.n,ae x.1.name],44,false,false⟩:=by
  rw [bX (by show H2.next < H2.next+1;omega),az,if_neg e2,aV,if_pos rfl]
 have gnb:(((H2.push ⟨[iV x.1.kind,iV x.1.n,ae x.1.name],44,false,false⟩).ah nb ⟨aJ {n with kind:=3,args:=[x.1]} (.slice (some ⟨H2.next,0,none⟩) 1 1) xw xy,42,false,false⟩).push ⟨lJ.map ae,9,false,false⟩).get nb=some ⟨aJ {n with kind:=3,args:=[x.1]} (.slice (some ⟨H2.next,0,none⟩) 1 1) xw xy,42,false,false⟩:=by
  rw [bX (by have:=r2.ln.nl;show nb < H2.next+1;omega),az,if_pos rfl]
 have gsb:(((H2.push ⟨[iV x.1.kind,iV x.1.n,ae x.1.name],44,false,false⟩).ah nb ⟨aJ {n with kind:=3,args:=[x.1]} (.slice (some ⟨H2.next,0,none⟩) 1 1) xw xy,42,false,false⟩).push ⟨lJ.map ae,9,false,false⟩).get (H2.next+1)=some ⟨lJ.map ae,9,false,false⟩:=by rw [aV];exact if_pos rfl
 have nsb:(((H2.push ⟨[iV x.1.kind,iV x.1.n,ae x.1.name],44,false,false⟩).ah nb ⟨aJ {n with kind:=3,args:=[x.1]} (.slice (some ⟨H2.next,0,none⟩) 1 1) xw xy,42,false,false⟩).push ⟨lJ.map ae,9,false,false⟩).next=H2.next+2:=rfl
 clear OW sA5 sP5 sB5 xz iG
 obtain ⟨f1,f2,f3⟩:=r2.ln.new (Nat.le_succ H2.next)
 have Tb:∀{Ha Hb:ad} {c:Nat},Fr [rb] Ha Hb->c < Ha.next->c≠rb->Hb.get c=Ha.get c:=fun f hc hr=>f.get _ hc (by simpa using hr)
 have hab:H.next<=H2.next:=Vf
 refine iw 73786976294838075440 5 (fun i V H6=>V 17=iV (i:Nat)/\∃eO n6 g6,LR L F H q rb nb g H6 eO n6 g6/\H6.get (H2.next+1)=some ⟨lJ.map ae,9,false,false⟩/\H2.next+1 < H6.next/\
   (n6.op=0->∃a1 vP vB,H6.get nb=some ⟨aJ n6 (.slice (some ⟨H2.next,0,none⟩) 1 1) vP vB,42,false,false⟩/\n6.args=[a1]/\H6.get H2.next=some ⟨[iV a1.kind,iV a1.n,ae a1.name],44,false,false⟩)/\
   Bq L 1 lJ x.2 {n with kind:=3,args:=[x.1]}=Bq L ((i+1:Nat):Int) (lJ.drop i) eO n6)
  ⟨by simp only [go_sem] <;> rfl,x.2,_,g4,r5,gsb,by rw [nsb];omega,fun _=>⟨x.1,xw,xy,gnb,rfl,gab⟩,rfl⟩ ?_ ?_ (by rfl)
 ·rintro i V H6 hi ⟨Ge,eO,n6,g6,r6,Jd,zg,zh,Dt⟩
  have jg:lJ[i]?=some (lJ[i]'hi):=List.getElem?_eq_getElem hi
  have cE:lJ.drop i=(lJ[i]'hi)::lJ.drop (i+1):=(List.getElem_cons_drop hi).symm
  generalize (lJ[i]'hi)=s at jg cE
  rw [cE,Bq] at Dt
  have Cf:(lJ.map ae)[i]?=some (ae s):=by rw [List.getElem?_map,jg];rfl
  obtain ⟨Gd,qW,qX,lp⟩:=r6.nd
  obtain ⟨c1,c2,c3,c4,bL,oL,cL,BL,a,m,cc,hq,hr,hB,hl,iK,h0,h4,dv,cm,eH⟩:=r6.ln.pp.fy
  have ee:=r6.ln.pp.at_
  have cX:IntKind.wrap .i64 (((eO.at_:Nat):Int)+1)=((eO.at_+1:Nat):Int):=cZ ee (by omega)
  have ct:IntKind.wrap .i64 (((i:Nat):Int)+1)=((i+1:Nat):Int):=cZ hi (by omega)
  have Sy:¬(c9 eO=true/\n6.op=0/\ea L s eO=true)->∃(Gf:aE) (n7:aG) (g7:List Nat),LR L F H q rb nb g H6 Gf n7 g7/\H6.get (H2.next+1)=some ⟨lJ.map ae,9,false,false⟩/\H2.next+1 < H6.next/\
   (n7.op=0->∃a1 vP vB,H6.get nb=some ⟨aJ n7 (.slice (some ⟨H2.next,0,none⟩) 1 1) vP vB,42,false,false⟩/\n7.args=[a1]/\H6.get H2.next=some ⟨[iV a1.kind,iV a1.n,ae a1.name],44,false,false⟩)/\
   Bq L 1 lJ x.2 {n with kind:=3,args:=[x.1]}=Bq L ((i+1+1:Nat):Int) (lJ.drop (i+1)) Gf n7:=fun hn=>⟨eO,n6,g6,r6,Jd,zg,zh,by rw [if_neg hn] at Dt;exact Dt⟩
  simp only [go_sem,Ge,hi,Jd,Cf]
  refine ag.by (eZ r6.ln.bK) ?_
  rintro _ _ - ⟨rfl,rfl⟩
  by_cases hb:c9 eO=true
  ·by_cases ho:n6.op=0
   ·have gH:iV n6.op=iV 0:=by rw [ho]
    simp only [go_sem,hb,lp,ho,hq]
    refine ag.by (nE r6.ln.bK) ?_
    rintro _ _ - ⟨rfl,rfl⟩
    by_cases hs:ea L s eO=true
    ·rw [if_pos ⟨hb,ho,hs⟩] at Dt
     obtain ⟨a1,ph,DV,Vg,ha6,ga6⟩:=zh ho
     rw [lp] at Vg
     cases Vg
     have r7:=r6.set hr (aC eO) (nD hL ee (wV hs))
     have yv:(H6.ah rb ⟨[.slice (some ⟨bL,oL,none⟩) L.length cL,iV (((aC eO).at_:Nat):Int),.slice none 0 0,.bool true,iV (aC eO).depth,iV (aC eO).bad,.slice a m cc],125,false,false⟩).get nb=some ⟨aJ n6 (.slice (some ⟨H2.next,0,none⟩) 1 1) qW qX,42,false,false⟩:=by rw [az,if_neg gI];exact lp
     have r8:=r7.gG yv {n6 with op:=((i+1:Nat):Int)} rfl rfl rfl
     simp only [go_sem,hs,hq,hr,hz,cX,ct,gI,dQ,tp,lp,cS]
     have PU:((H6.ah rb ⟨[.slice (some ⟨bL,oL,none⟩) L.length cL,iV (((aC eO).at_:Nat):Int),.slice none 0 0,.bool true,iV (aC eO).depth,iV (aC eO).bad,.slice a m cc],125,false,false⟩).ah nb ⟨aJ {n6 with op:=((i+1:Nat):Int)} (.slice (some ⟨H2.next,0,none⟩) 1 1) qW qX,42,false,false⟩).get nb=some ⟨aJ {n6 with op:=((i+1:Nat):Int)} (.slice (some ⟨H2.next,0,none⟩) 1 1) qW qX,42,false,false⟩:=by rw [az,if_pos rfl]
     have g8a:((H6.ah rb ⟨[.slice (some ⟨bL,oL,none⟩) L.length cL,iV (((aC eO).at_:Nat):Int),.slice none 0 0,.bool true,iV (aC eO).depth,iV (aC eO).bad,.slice a m cc],125,false,false⟩).ah nb ⟨aJ {n6 with op:=((i+1:Nat):Int)} (.slice (some ⟨H2.next,0,none⟩) 1 1) qW qX,42,false,false⟩).get H2.next=some ⟨[iV a1.kind,iV a1.n,ae a1.name],44,false,false⟩:=by rw [az,if_neg e2,az,if_neg e1];exact ga6
     have g8s:((H6.ah rb ⟨[.slice (some ⟨bL,oL,none⟩) L.length cL,iV (((aC eO).at_:Nat):Int),.slice none 0 0,.bool true,iV (aC eO).depth,iV (aC eO).bad,.slice a m cc],125,false,false⟩).ah nb ⟨aJ {n6 with op:=((i+1:Nat):Int)} (.slice (some ⟨H2.next,0,none⟩) 1 1) qW qX,42,false,false⟩).get (H2.next+1)=some ⟨lJ.map ae,9,false,false⟩:=by rw [az,if_neg f2,az,if_neg f1];exact Jd
     have g8x:((H6.ah rb ⟨[.slice (some ⟨bL,oL,none⟩) L.length cL,iV (((aC eO).at_:Nat):Int),.slice none 0 0,.bool true,iV (aC eO).depth,iV (aC eO).bad,.slice a m cc],125,false,false⟩).ah nb ⟨aJ {n6 with op:=((i+1:Nat):Int)} (.slice (some ⟨H2.next,0,none⟩) 1 1) qW qX,42,false,false⟩).next=H6.next:=rfl
     generalize fL:((H6.ah rb ⟨[.slice (some ⟨bL,oL,none⟩) L.length cL,iV (((aC eO).at_:Nat):Int),.slice none 0 0,.bool true,iV (aC eO).depth,iV (aC eO).bad,.slice a m cc],125,false,false⟩).ah nb ⟨aJ {n6 with op:=((i+1:Nat):Int)} (.slice (some ⟨H2.next,0,none⟩) 1 1) qW qX,42,false,false⟩)=H8 at r8 PU g8a g8s g8x
     have alf:((H6.ah rb ⟨[.slice (some ⟨bL,oL,none⟩) L.length cL,iV ((eO.at_+1:Nat):Int),.slice none 0 0,.bool true,iV eO.depth,iV eO.bad,.slice a m cc],125,false,false⟩).ah nb ⟨[iV n6.kind,iV n6.x,iV n6.y,iV n6.f,iV n6.n,iV n6.cap,iV n6.rc,iV ((i+1:Nat):Int),iV n6.a,iV n6.b,iV n6.next,iV n6.line,iV n6.aj,ae n6.mI,ae n6.gu,ae n6.hU,ae n6.jy,.slice (some ⟨H2.next,0,none⟩) 1 1,qW,qX],42,false,false⟩)=H8:=fL
     try rw [alf]
     refine ag.by (Df hL r8.ln.bK) ?_
     rintro _ H9 - ⟨rfl,p9⟩
     have r9:=r8.aZ p9
     generalize ib L (aC eO)=y at p9 r9 Dt
     have Vh:=(Tb p9.1 r8.ln.nl gI).trans PU
     have g9a:=(Tb p9.1 (by omega) e1).trans g8a
     have g9s:=(Tb p9.1 (by omega) f1).trans g8s
     have n89:=p9.1.nx
     have nn9:¬nb=H9.next:=by have:=r9.ln.nl;omega
     have cT:=r9.push ⟨[iV y.1.kind,iV y.1.n,ae y.1.name],44,false,false⟩
     have alg:(H9.push ⟨[iV y.1.kind,iV y.1.n,ae y.1.name],44,false,false⟩).get H9.next=some ⟨[iV y.1.kind,iV y.1.n,ae y.1.name],44,false,false⟩:=by rw [aV,if_pos rfl]
     have alh:(H9.push ⟨[iV y.1.kind,iV y.1.n,ae y.1.name],44,false,false⟩).get H2.next=some ⟨[iV a1.kind,iV a1.n,ae a1.name],44,false,false⟩:=by rw [bX (by omega)];exact g9a
     have ajF:=Kc (P:=Tryz.prog) (n:=1) (o:=0) (sl:=1) (sc:=1) qE (EE (c:=1) alg rfl) alh (by rfl) (Nat.le_refl 1) (by omega) (by omega)
     simp only [go_sem,Vh,PU,cS,nn9,eB qE (by decide) (by decide)]
     rw [ajF,wK]
     have ajG:(H9.push ⟨[iV y.1.kind,iV y.1.n,ae y.1.name],44,false,false⟩).next=H9.next+1:=rfl
     have lv:(([iV a1.kind,iV a1.n,ae a1.name]:List Value).drop 0).take (1 * 3)++[iV y.1.kind,iV y.1.n,ae y.1.name]=[iV a1.kind,iV a1.n,ae a1.name,iV y.1.kind,iV y.1.n,ae y.1.name]:=rfl
     rw [lv]
     have dk:=cT.push ⟨[iV a1.kind,iV a1.n,ae a1.name,iV y.1.kind,iV y.1.n,ae y.1.name],44,true,false⟩
     have ali:((H9.push ⟨[iV y.1.kind,iV y.1.n,ae y.1.name],44,false,false⟩).push ⟨[iV a1.kind,iV a1.n,ae a1.name,iV y.1.kind,iV y.1.n,ae y.1.name],44,true,false⟩).get nb=some ⟨aJ {n6 with op:=((i+1:Nat):Int)} (.slice (some ⟨H2.next,0,none⟩) 1 1) qW qX,42,false,false⟩:=by
      have:=r9.ln.nl
      rw [bX (by rw [bJ];omega),bX this];exact Vh
     have awv:((H9.push ⟨[iV y.1.kind,iV y.1.n,ae y.1.name],44,false,false⟩).push ⟨[iV a1.kind,iV a1.n,ae a1.name,iV y.1.kind,iV y.1.n,ae y.1.name],44,true,false⟩).get (H2.next+1)=some ⟨lJ.map ae,9,false,false⟩:=by
      rw [bX (by rw [bJ];omega),bX (by omega)];exact g9s
     have n11:((H9.push ⟨[iV y.1.kind,iV y.1.n,ae y.1.name],44,false,false⟩).push ⟨[iV a1.kind,iV a1.n,ae a1.name,iV y.1.kind,iV y.1.n,ae y.1.name],44,true,false⟩).next=H9.next+2:=rfl
     have Vi:Sl jO ((H9.push ⟨[iV y.1.kind,iV y.1.n,ae y.1.name],44,false,false⟩).push ⟨[iV a1.kind,iV a1.n,ae a1.name,iV y.1.kind,iV y.1.n,ae y.1.name],44,true,false⟩) (.slice (some ⟨H9.next+1,0,none⟩) (1+1) (1+1)) (n6.args++[y.1]) [H9.next+1]:=by
      rw [ha6]
      exact .inr (.inr ⟨H9.next+1,0,2,_,[],rfl,by simp,Nat.le_refl _,rfl,by rw [aV];exact if_pos rfl,⟨_,_,[],[],rfl,rfl,⟨rfl,rfl⟩,_,[],[],[],rfl,rfl,⟨rfl,rfl⟩,rfl⟩⟩)
     obtain ⟨u1,u2,u3⟩:=r9.ln.new (Nat.le_succ H9.next)
     have n09:=r9.fr.nx
     obtain ⟨jF,dm⟩:=dk.args ali {n6 with op:=((i+1:Nat):Int),args:=n6.args++[y.1]} Vi (fun c hc=>by rw [List.mem_singleton] at hc;subst hc;rw [n11];exact ⟨by omega,by omega,u1,u2,u3⟩) rfl rfl
     have alj:¬nb=H9.next+1:=fun e=>u2 e.symm
     simp only [go_sem,Vh,PU,nn9,alj,cS,ajG,Ge,ct]
     refine ⟨y.2,_,jF,dm,?_,?_,fun e=>?_,Dt⟩
     ·rw [if_neg f2,if_neg (by omega),if_neg (by omega)];exact g9s
     ·first | omega | (show _ < H9.next+2;omega)
     ·exact absurd e (by show¬((i+1:Nat):Int)=0;omega)
    ·simp only [go_sem,hs,Ge,ct]
     exact Sy (fun e=>hs e.2.2)
   ·have gH:¬n6.op=0:=ho
    simp only [go_sem,hb,lp,ho,Ge,ct]
    have hk:=Sy (fun e=>ho e.2.1)
    simp only [go_sem,lp] at hk
    exact hk
  ·simp only [go_sem,hb,Ge,ct]
   exact Sy (fun e=>hb e.1)
 ·rintro V H6 ⟨Ge,eO,n6,g6,r6,Jd,zg,zh,Dt⟩
  simp only [go_sem,Ge]
  have:Bq L ((5+1:Nat):Int) (lJ.drop 5) eO n6=(eO,n6):=rfl
  rw [Dt,this]
  exact r6.last
end
structure NQ0 (L:List bc) (F:List Nat) (c1 c2 c3:Value) (H:ad) (q rb:Nat) (st:aE) (ns:List aG) (m g:List Nat):Prop where
 pp:PP0 L F H q rb st
 row:∃vN,H.get q=some ⟨[pV rb,c1,c2,c3,vN],127,false,false⟩/\Gr kr 42 H vN ns m g
 hm:∀c∈m,c < H.next/\c≠rb/\c≠q/\c∉F/\c∉g
 hg:∀c∈g,c < H.next/\c≠rb/\c≠q
 hn:ns.length<=400
structure NQ (L:List bc) (F:List Nat) (c1 c2 c3:Value) (H:ad) (q rb:Nat) (st:aE) (ns:List aG) (m g:List Nat):Prop extends NQ0 L F c1 c2 c3 H q rb st ns m g where
 fz:H.fz rb=false
 fq:H.fz q=false
 fm:∀c∈m,H.fz c=false
 fn:∀b,H.next<=b->H.fz b=false
def x6 (L:List bc) (F:List Nat) (c1 c2 c3:Value) (H:ad) (q rb:Nat) (ns:List aG) (m g:List Nat) (bW:aE) (iv:List aG) (H':ad):Prop:=
 Fr (rb::q::m) H H'/\(∀c,H'.fz c=H.fz c)/\ns.length<=iv.length/\∃m' g',NQ0 L F c1 c2 c3 H' q rb bW iv m' g'/\(∀c∈m',c∈m∨H.next<=c)/\∀c∈g',c∈g∨H.next<=c
structure NR (L:List bc) (F:List Nat) (c1 c2 c3:Value) (H:ad) (q rb:Nat) (ns:List aG) (m g:List Nat) (H1:ad) (cC:aE) (bk:List aG) (m1 g1:List Nat):Prop where
 fr:Fr (rb::q::m) H H1
 nq:NQ L F c1 c2 c3 H1 q rb cC bk m1 g1
 le:ns.length<=bk.length
 sm:∀c∈m1,c∈m∨H.next<=c
 sg:∀c∈g1,c∈g∨H.next<=c
section
variable {L:List bc} {F:List Nat} {c1 c2 c3:Value} {H H1 H2:ad} {q rb:Nat} {st cC bC:aE} {ns bk bO:List aG} {m m1 m2 g g1 g2:List Nat}
theorem NQ.bK (h:NQ L F c1 c2 c3 H q rb st ns m g):PP L F H q rb st:={h.pp with fz:=h.fz}
theorem NR.start (h:NQ L F c1 c2 c3 H q rb st ns m g):NR L F c1 c2 c3 H q rb ns m g H st ns m g:=⟨.refl _ _,h,Nat.le_refl _,fun _ h=>.inl h,fun _ h=>.inl h⟩
theorem NQ0.fr (h:NQ0 L F c1 c2 c3 H q rb st ns m g) {bW:aE} {M:List Nat} (bj:Fr M H H1) (hp:PP0 L F H1 q rb bW) (mq:q∉M) (mm:∀c∈m,c∉M) (mg:∀c∈g,c∉M):NQ0 L F c1 c2 c3 H1 q rb bW ns m g:=by
 obtain ⟨DW,⟨vN,h1,h2⟩,hm,hg,hn⟩:=h
 exact ⟨hp,⟨vN,(bj.get q DW.ql mq).trans h1,h2.af (fun c hc=>bj.get c (hm c hc).1 (mm c hc)) (fun c hc=>bj.get c (hg c hc).1 (mg c hc))⟩,fun c hc=>⟨Nat.lt_of_lt_of_le (hm c hc).1 bj.nx,(hm c hc).2⟩,fun c hc=>⟨Nat.lt_of_lt_of_le (hg c hc).1 bj.nx,(hg c hc).2⟩,hn⟩
theorem NR.aZ (h:NR L F c1 c2 c3 H q rb ns m g H1 cC bk m1 g1) {bW:aE} (hp:gg L F H1 q rb bW H2):NR L F c1 c2 c3 H q rb ns m g H2 bW bk m1 g1:=
 ⟨h.fr.then (hp.1.sub fun c hc=>.inl (by rw [List.mem_singleton] at hc;simp [hc])),
  {h.nq.toNQ0.fr hp.1 hp.2.2 (by simpa using h.nq.pp.qr) (fun c hc=>by simpa using (h.nq.hm c hc).2.1) (fun c hc=>by simpa using (h.nq.hg c hc).2.1) with
   fz:=by rw [hp.2.1];exact h.nq.fz,fq:=by rw [hp.2.1];exact h.nq.fq,fm:=fun c hc=>by rw [hp.2.1];exact h.nq.fm c hc,fn:=fun b hb=>by rw [hp.2.1];exact h.nq.fn b (Nat.le_trans hp.1.nx hb)},h.le,h.sm,h.sg⟩
theorem NR.push (h:NR L F c1 c2 c3 H q rb ns m g H1 cC bk m1 g1) (B:cw) (hB:B.ro=false:=by rfl):NR L F c1 c2 c3 H q rb ns m g (H1.push B) cC bk m1 g1:=
 ⟨h.fr.push B hB,
  {h.nq.toNQ0.fr ((ba.push H1 B hB).fr []) (h.nq.pp.aH (ba.push H1 B hB)) (by simp) (by simp) (by simp) with
   fz:=(h.nq.bK.push B hB).fz,fq:=(by have:=h.nq.pp.ql;rw [qw,h.nq.fq,Bool.or_false,beq_eq_false_iff_ne];omega),fm:=fun c hc=>(by have:=(h.nq.hm c hc).1;rw [qw,h.nq.fm c hc,Bool.or_false,beq_eq_false_iff_ne];omega),
   fn:=fun b hb=>(by rw [bJ] at hb;rw [qw,h.nq.fn b (by omega),Bool.or_false,beq_eq_false_iff_ne];omega)},h.le,h.sm,h.sg⟩
theorem NR.last (h:NR L F c1 c2 c3 H q rb ns m g H1 cC bk m1 g1):x6 L F c1 c2 c3 H q rb ns m g cC bk (H1.ai H.fz):=
 ⟨h.fr.ai _,fun _=>rfl,h.le,m1,g1,h.nq.toNQ0.fr ((Fr.refl [] H1).ai _) h.nq.pp.ai (by simp) (by simp) (by simp),h.sm,h.sg⟩
theorem NR.call (h:NR L F c1 c2 c3 H q rb ns m g H1 cC bk m1 g1) {bW:aE} {iv:List aG} (hp:x6 L F c1 c2 c3 H1 q rb bk m1 g1 bW iv H2):∃m2 g2,NR L F c1 c2 c3 H q rb ns m g H2 bW iv m2 g2/\(∀c∈m2,c∈m1∨H1.next<=c)/\∀c∈g2,c∈g1∨H1.next<=c:=by
 obtain ⟨hf,hz,hle,m2,g2,h0,hs,i3⟩:=hp
 have dU:=h.fr.nx
 refine ⟨m2,g2,⟨h.fr.trans hf fun c hc=>?_,{h0 with fz:=by rw [hz];exact h.nq.fz,fq:=by rw [hz];exact h.nq.fq,fm:=fun c hc=>?_,fn:=fun b hb=>by rw [hz];exact h.nq.fn b (Nat.le_trans hf.nx hb)},Nat.le_trans h.le hle,fun c hc=>(hs c hc).elim (h.sm c) fun e=>.inr (Nat.le_trans dU e),fun c hc=>(i3 c hc).elim (h.sg c) fun e=>.inr (Nat.le_trans dU e)⟩,hs,i3⟩
 ·rcases List.mem_cons.1 hc with e | hc
  ·exact .inl (by simp [e])
  ·rcases List.mem_cons.1 hc with e | hc
   ·exact .inl (by simp [e])
   ·exact (h.sm c hc).imp (fun e=>by simp [e]) id
 ·rw [hz]
  rcases hs c hc with e | e
  ·exact h.nq.fm c e
  ·exact h.nq.fn c e
theorem NR.cells (h:NR L F c1 c2 c3 H q rb ns m g H1 cC bk m1 g1):∃vN,H1.get q=some ⟨[pV rb,c1,c2,c3,vN],127,false,false⟩/\Gr kr 42 H1 vN bk m1 g1:=h.nq.row
theorem PP0.IN (h:PP0 L F H q rb st) {d1 d2 d3 d4:Value}:PP0 L F (H.ah q ⟨[pV rb,d1,d2,d3,d4],127,false,false⟩) q rb st:=by
 obtain ⟨_,⟨vL,a,n,c,hr,hs⟩,hF,h3,h4,h5,h6⟩:=h
 exact ⟨⟨d1,d2,d3,d4,by rw [az,if_pos rfl]⟩,⟨vL,a,n,c,by rw [az,if_neg (Ne.symm h3)];exact hr,hs.af fun b hb=>by rw [az,if_neg (hF b hb).2.2]⟩,hF,h3,h4,h5,h6⟩
theorem NQ0.IN (h:PP0 L F H q rb st) {v:Value} (cB:Gr kr 42 H v ns m g) (hm:∀c∈m,c < H.next/\c≠rb/\c≠q/\c∉F/\c∉g) (hg:∀c∈g,c < H.next/\c≠rb/\c≠q) (hn:ns.length<=400):
  NQ0 L F c1 c2 c3 (H.ah q ⟨[pV rb,c1,c2,c3,v],127,false,false⟩) q rb st ns m g:=
 ⟨h.IN,⟨v,by rw [az,if_pos rfl],cB.af (fun c hc=>by rw [az,if_neg (hm c hc).2.2.1]) (fun c hc=>by rw [az,if_neg (hg c hc).2.2])⟩,hm,hg,hn⟩
theorem NQ0.ai {fz:Nat->Bool} (h:NQ0 L F c1 c2 c3 H q rb st ns m g):NQ0 L F c1 c2 c3 (H.ai fz) q rb st ns m g:=h.fr ((Fr.refl [] H).ai _) h.pp.ai (by simp) (by simp) (by simp)
def sE (st:aE) (ns:List aG):aE:=if c9 st=true/\400<=ns.length then eX 3 st else st
def iT (L:List bc) (st:aE) (ns:List aG):Int × aE × List aG:=
 if c9 (sE st ns)=true then ((ns.length:Nat),sE st ns,ns++[{a:= -1,b:= -1,next:= -1,line:=(tk L (sE st ns)).line,aj:=(tk L (sE st ns)).aj}]) else (-1,sE st ns,ns)
theorem ac6 {l c:Int} {h:KH}:fQ Tryz.prog 42 [(8,iV (-1)),(9,iV (-1)),(10,iV (-1)),(11,iV l),(12,iV c)] h=.ok (.agg #[iV 0,iV 0,iV 0,iV 0,iV 0,iV 0,iV 0,iV 0,iV (-1),iV (-1),iV (-1),iV l,iV c,ae [],ae [],ae [],ae [],.slice none 0 0,.slice none 0 0,.slice none 0 0]) h:=by kernel_rfl
theorem HY (hL:LG L) (h:NQ L F c1 c2 c3 H q rb st ns m g):ak Tryz.prog 163 #[pV q] H (fun w H'=>w=iV (iT L st ns).1/\x6 L F c1 c2 c3 H q rb ns m g (iT L st ns).2.1 (iT L st ns).2.2 H'):=by
 refine ak.told ?_
 refine agL (Nat.le_refl _) fun hf=>?_
 simp only [Tryz.f163,Option.getD_some]
 simp only [go_sem]
 have r0:=NR.start h
 refine ag.by (eZ h.bK) ?_
 rintro _ _ - ⟨rfl,rfl⟩
 obtain ⟨vN,hq,cB⟩:=r0.cells
 obtain ⟨aN,zj⟩:=cB.val
 rw [zj] at hq cB
 have hnn:=h.hn
 have no:∀{e:aE},c9 e=false->sE st ns=e->iT L st ns=(-1,e,ns):=fun {e} he h1=>by rw [iT,h1,he];rfl
 by_cases hb:c9 st=true
 ·by_cases h4:400<=ns.length
  ·have e1:sE st ns=eX 3 st:=by rw [sE,if_pos ⟨hb,h4⟩]
   have fB:c9 (eX 3 st)=false:=by
    have:st.bad=0:=by simpa [c9] using hb
    simp [eX,this,c9]
   have mW:(400:Int)<=((ns.length:Nat):Int):=by omega
   rw [no fB e1]
   simp only [go_sem,hb,hq,mW]
   refine ag.by (lh h.bK) ?_
   rintro _ H1 - p1
   have r1:=r0.aZ p1
   simp only [go_sem]
   refine ag.by (eZ r1.nq.bK) ?_
   rintro _ _ - ⟨rfl,rfl⟩
   simp only [go_sem,fB]
   exact r1.last
  ·have e1:sE st ns=st:=by rw [sE,if_neg fun e=>h4 e.2]
   have mW:¬(400:Int)<=((ns.length:Nat):Int):=by omega
   simp only [go_sem,hb,hq,mW]
   refine ag.by (eZ h.bK) ?_
   rintro _ _ - ⟨rfl,rfl⟩
   simp only [go_sem,hb,hq]
   refine ag.by (rJ h.bK) ?_
   rintro _ H1 - ⟨rfl,p1⟩
   have r1:=r0.aZ p1
   have qr1:q∉[rb]:=by simpa using h.pp.qr
   have Gg:=(p1.1.get q h.pp.ql qr1).trans hq
   simp only [go_sem,hq,Gg]
   refine ag.by (rJ r1.nq.bK) ?_
   rintro _ H2 - ⟨rfl,p2⟩
   have r2:=r1.aZ p2
   have tp:=(p2.1.get q r1.nq.pp.ql qr1).trans Gg
   simp only [go_sem,hq,Gg,tp,ac6,eB KK (by decide) (by decide)]
   have r3:=r2.push ⟨[iV 0,iV 0,iV 0,iV 0,iV 0,iV 0,iV 0,iV 0,iV (-1),iV (-1),iV (-1),iV (tk L st).line,iV (tk L st).aj,ae [],ae [],ae [],ae [],.slice none 0 0,.slice none 0 0,.slice none 0 0],42,false,false⟩
   obtain ⟨Cg,I9,sS⟩:=r3.cells
   have aaL:=(bX (B:=⟨[iV 0,iV 0,iV 0,iV 0,iV 0,iV 0,iV 0,iV 0,iV (-1),iV (-1),iV (-1),iV (tk L st).line,iV (tk L st).aj,ae [],ae [],ae [],ae [],.slice none 0 0,.slice none 0 0,.slice none 0 0],42,false,false⟩) r2.nq.pp.ql).trans tp
   rw [I9] at aaL
   cases aaL
   have hx:kr.E (H2.push ⟨[iV 0,iV 0,iV 0,iV 0,iV 0,iV 0,iV 0,iV 0,iV (-1),iV (-1),iV (-1),iV (tk L st).line,iV (tk L st).aj,ae [],ae [],ae [],ae [],.slice none 0 0,.slice none 0 0,.slice none 0 0],42,false,false⟩) [iV 0,iV 0,iV 0,iV 0,iV 0,iV 0,iV 0,iV 0,iV (-1),iV (-1),iV (-1),iV (tk L st).line,iV (tk L st).aj,ae [],ae [],ae [],ae [],.slice none 0 0,.slice none 0 0,.slice none 0 0] ({a:= -1,b:= -1,next:= -1,line:=(tk L st).line,aj:=(tk L st).aj}:aG) []:=
    ⟨_,_,_,[],[],[],rfl,rfl,.inl ⟨rfl,rfl,rfl⟩,.inl ⟨rfl,rfl,rfl⟩,.inl ⟨rfl,rfl,rfl⟩⟩
   refine jZ (r:=kr) (g':=[]) KK sS (fun c hc=>(r3.nq.hm c hc).1) (fun c hc=>(r3.nq.hg c hc).1) (by simp) (fun c hc=>h.fm c hc) (by rw [aV,if_pos rfl]) hx rfl (by omega) ?_
   intro v7 H7 bH ef jm dx jQ
   obtain ⟨a7,xv⟩:=bH.val
   have F2:q∉m:=fun e=>(r3.nq.hm q e).2.2.1 rfl
   have wj:rb∉m:=fun e=>(r3.nq.hm rb e).2.1 rfl
   have qY:=(jm q r3.nq.pp.ql F2).trans I9
   have p7:PP0 L F H7 q rb st:=r3.nq.pp.fr dx F2 wj fun c hc e=>(r3.nq.hm c e).2.2.2.1 hc
   have f7:Fr (rb::q::m) H H7:=r3.fr.then (dx.sub fun c hc=>.inl (by simp [hc]))
   have Gh:(H2.push ⟨[iV 0,iV 0,iV 0,iV 0,iV 0,iV 0,iV 0,iV 0,iV (-1),iV (-1),iV (-1),iV (tk L st).line,iV (tk L st).aj,ae [],ae [],ae [],ae [],.slice none 0 0,.slice none 0 0,.slice none 0 0],42,false,false⟩).next=H2.next+1:=rfl
   have nq7:¬q=H2.next+1:=fun e=>by have:=r2.nq.pp.ql;omega
   have Vj:¬rb=H2.next+1:=fun e=>by have:=r2.nq.pp.rl;omega
   have wt:=h.fq
   have Gi:(ns++[({a:= -1,b:= -1,next:= -1,line:=(tk L st).line,aj:=(tk L st).aj}:aG)]).length=ns.length+1:=by rw [List.length_append];rfl
   rw [Gi] at xv
   subst xv
   simp only [go_sem,qY,wt]
   have hw:IntKind.i64.wrap (((ns.length+1:Nat):Int) - 1)=((ns.length:Nat):Int):=by
    rw [show (((ns.length+1:Nat):Int) - 1)=((ns.length:Nat):Int) by omega]
    exact vf (by omega)
   rw [hw,iT,e1,if_pos hb]
   refine ⟨rfl,(f7.ah (.inl (by simp)) _).ai _,fun _=>rfl,by simp,_,_,(NQ0.IN p7 (by rw [Gi] at *;exact bH) (fun c hc=>?_) (fun c hc=>?_) (by rw [Gi];omega)).ai,fun c hc=>?_,fun c hc=>?_⟩
   ·rw [List.mem_singleton] at hc
    have:=r3.nq.pp.rl
    have:=r3.nq.pp.ql
    subst hc
    exact ⟨by omega,by omega,by omega,fun e=>by have:=(r3.nq.pp.hF _ e).1;omega,fun e=>by
     rw [List.append_nil] at e
     have:=(r3.nq.hg _ e).1;omega⟩
   ·rw [List.append_nil] at hc
    have:=r3.nq.hg c hc
    exact ⟨by omega,this.2⟩
   ·rw [List.mem_singleton] at hc
    have:=r3.fr.nx
    exact .inr (by omega)
   ·rw [List.append_nil] at hc
    exact .inl hc
 ·have e1:sE st ns=st:=by rw [sE,if_neg fun e=>hb e.1]
  have dY:c9 st=false:=by simpa using hb
  rw [no dY e1]
  simp only [go_sem,hb]
  refine ag.by (eZ h.bK) ?_
  rintro _ _ - ⟨rfl,rfl⟩
  simp only [go_sem,hb]
  exact r0.last
theorem Gr.put {α:Type} {r:Rp α} {ty:TypeId} {H:ad} {v:Value} {l:List α} {m g:List Nat} (h:Gr r ty H v l m g) {i:Nat} (hi:i < l.length):
  ∃b cs f1 f2 f3,v=.slice (some ⟨b,0,none⟩) l.length l.length/\m=[b]/\H.get b=some ⟨cs,ty,true,false⟩/\cs.length=l.length * r.sz/\g=f1++(f2++f3)/\i * r.sz+r.sz<=cs.length/\r.E H ((cs.drop (i * r.sz)).take r.sz) l[i] f2/\
   ∀(H':ad) c' y f',(∀z,z∈f1∨z∈f3->H'.get z=H.get z)->H'.get b=some ⟨cW cs (i * r.sz) c',ty,true,false⟩->r.E H' c' y f'->b∉f'->Gr r ty H' v (l.set i y) [b] (f1++(f'++f3)):=by
 rcases h with ⟨_,rfl,_⟩ | ⟨b,cs,rfl,h2,rfl,h4,h5,h6,hb⟩
 ·simp at hi
 ·obtain ⟨f1,f2,f3,rfl,h7,h8,h9⟩:=h6.put hi
  refine ⟨b,cs,f1,f2,f3,rfl,rfl,h4,h5,rfl,h7,h8,fun H' c' y f' hk hB' hE ep=>?_⟩
  have e:=r.len hE
  refine .inr ⟨b,_,by simp,by rw [Ne,<-List.length_eq_zero_iff];simp;omega,rfl,hB',?_,h9 H' c' y f' hk hE,?_⟩
  ·rw [Xt (by omega),List.length_set];exact h5
  ·simp only [List.mem_append,not_or] at hb ⊢
   exact ⟨hb.1,ep,hb.2.2⟩
def oV (ns:List aG) (k:Nat) (n:aG):List aG:=ns.set k {n with next:=(ns.getD k {}).next,line:=(ns.getD k {}).line,aj:=(ns.getD k {}).aj}
theorem ajH (h:NQ L F c1 c2 c3 H q rb st ns m g) {k:Nat} (hk:k < ns.length) {n:aG} {vA vP vB:Value} {gA gP gB:List Nat} (hA:Sl jO H vA n.args gA) (hP:Sl fJ H vP n.pat gP) (hB:Sl dG H vB n.au gB) (dW:∀c∈gA++(gP++gB),c < H.next/\c≠rb/\c≠q/\c∉m):
  ak Tryz.prog 172 #[pV q,iV (k:Nat),.agg (aJ n vA vP vB).toArray] H (fun w H'=>Fr m H H'/\(∀c,H'.fz c=H.fz c)/\∃g',NQ0 L F c1 c2 c3 H' q rb st (oV ns k n) m g'/\∀c∈g',c∈g∨c∈gA++(gP++gB)):=by
 refine ak.told ?_
 refine ag2 (Nat.le_refl _) fun hf=>?_
 simp only [Tryz.f172,Option.getD_some]
 have r0:=NR.start h
 obtain ⟨vN,hq,cB⟩:=r0.cells
 obtain ⟨b,cs,f1,f2,f3,rfl,rfl,hb,fk,rfl,de,hE,oW⟩:=cB.put hk
 have DN:=h.fm b (by simp)
 obtain ⟨wA,wP,wB,e1,e2,e3,aX,rfl,s1,s2,s3⟩:=hE
 have hnn:=h.hn
 have cm:=(h.hm b (by simp)).1
 have hbq:=(h.hm b (by simp)).2.2.1
 have nq:¬q=H.next:=fun e=>by have:=h.pp.ql;omega
 have Ml:¬q=H.next+1:=fun e=>by have:=h.pp.ql;omega
 have nb:¬b=H.next:=fun e=>by omega
 have nb':¬b=H.next+1:=fun e=>by omega
 have fM:kr.sz=20:=rfl
 rw [fM] at de aX
 obtain ⟨aA,kA,rfl⟩:=hA.val
 obtain ⟨aP,kP,rfl⟩:=hP.val
 obtain ⟨aB,kB,rfl⟩:=hB.val
 obtain ⟨bA,jA,rfl⟩:=s1.val
 obtain ⟨bP,jP,rfl⟩:=s2.val
 obtain ⟨bB,jB,rfl⟩:=s3.val
 have hX:=h.fn H.next (Nat.le_refl _)
 have Vk:=h.fn (H.next+1) (Nat.le_succ _)
 have kX:(ns.getD k {})=ns[k]:=by rw [List.getD_eq_getElem?_getD,List.getElem?_eq_getElem hk];rfl
 have fin:∀{H6:ad},Fr [] H H6->Fr [b] H ((H6.ah b ⟨cW cs (k * 20) (aJ {n with next:=ns[k].next,line:=ns[k].line,aj:=ns[k].aj} (.slice aA n.args.length kA) (.slice aP n.pat.length kP) (.slice aB n.au.length kB)),42,true,false⟩).ai H.fz)/\(∀_:Nat,True)/\
   ∃g',NQ0 L F c1 c2 c3 ((H6.ah b ⟨cW cs (k * 20) (aJ {n with next:=ns[k].next,line:=ns[k].line,aj:=ns[k].aj} (.slice aA n.args.length kA) (.slice aP n.pat.length kP) (.slice aB n.au.length kB)),42,true,false⟩).ai H.fz) q rb st (oV ns k n) [b] g'/\∀c∈g',c∈f1++(e1++(e2++e3)++f3)∨c∈gA++(gP++gB):=fun {H6} f6=>by
  obtain ⟨ik,ft,fB,oK,iG⟩:=h.hm b (by simp)
  have k6:∀c,c < H.next->c≠b->(H6.ah b ⟨cW cs (k * 20) (aJ {n with next:=ns[k].next,line:=ns[k].line,aj:=ns[k].aj} (.slice aA n.args.length kA) (.slice aP n.pat.length kP) (.slice aB n.au.length kB)),42,true,false⟩).get c=H.get c:=fun c hc i7=>by rw [az,if_neg i7,f6.get c hc (by simp)]
  have bj:Fr [b] H (H6.ah b ⟨cW cs (k * 20) (aJ {n with next:=ns[k].next,line:=ns[k].line,aj:=ns[k].aj} (.slice aA n.args.length kA) (.slice aP n.pat.length kP) (.slice aB n.au.length kB)),42,true,false⟩):=(f6.sub (by simp)).ah (.inl (by simp)) _
  have gb:(H6.ah b ⟨cW cs (k * 20) (aJ {n with next:=ns[k].next,line:=ns[k].line,aj:=ns[k].aj} (.slice aA n.args.length kA) (.slice aP n.pat.length kP) (.slice aB n.au.length kB)),42,true,false⟩).get b=some ⟨cW cs (k * 20) (aJ {n with next:=ns[k].next,line:=ns[k].line,aj:=ns[k].aj} (.slice aA n.args.length kA) (.slice aP n.pat.length kP) (.slice aB n.au.length kB)),42,true,false⟩:=by rw [az,if_pos rfl]
  generalize (H6.ah b ⟨cW cs (k * 20) (aJ {n with next:=ns[k].next,line:=ns[k].line,aj:=ns[k].aj} (.slice aA n.args.length kA) (.slice aP n.pat.length kP) (.slice aB n.au.length kB)),42,true,false⟩)=H7 at k6 bj gb
  have kg:∀c∈gA++(gP++gB),H7.get c=H.get c:=fun c hc=>k6 c (dW c hc).1 (by simpa using (dW c hc).2.2.2)
  have bH:Gr kr 42 H7 (.slice (some ⟨b,0,none⟩) ns.length ns.length) (oV ns k n) [b] (f1++((gA++(gP++gB))++f3)):=by
   rw [oV,kX]
   refine oW H7 _ _ _ (fun z hz=>k6 z (h.hg z (by rcases hz with e | e <;> simp [e])).1 ?_) (by rw [fM];exact gb) ⟨_,_,_,gA,gP,gB,rfl,rfl,hA.af fun c hc=>kg c (by simp [hc]),hP.af fun c hc=>kg c (by simp [hc]),hB.af fun c hc=>kg c (by simp [hc])⟩ (fun e=>by simpa using (dW b e).2.2.2)
   rintro rfl
   exact iG (by rcases hz with e | e <;> simp [e])
  have p7:PP0 L F H7 q rb st:=h.pp.fr bj (by simpa using hbq.symm) (by simpa using ft.symm) fun c hc e=>oK (by rw [List.mem_singleton] at e;exact e▸hc)
  refine ⟨bj.ai _,fun _=>trivial,f1++((gA++(gP++gB))++f3),NQ0.ai ⟨p7,⟨_,(k6 q h.pp.ql hbq.symm).trans hq,bH⟩,fun c hc=>?_,fun c hc=>?_,by rw [oV,List.length_set];exact hnn⟩,fun c hc=>?_⟩
  ·rw [List.mem_singleton] at hc
   subst hc
   refine ⟨Nat.lt_of_lt_of_le ik bj.nx,ft,fB,oK,fun e=>?_⟩
   rcases List.mem_append.1 e with e | e
   ·exact iG (by simp [e])
   ·rcases List.mem_append.1 e with e | e
    ·simpa using (dW _ e).2.2.2
    ·exact iG (by simp [e])
  ·have dU:=bj.nx
   rcases List.mem_append.1 hc with e | e
   ·have:=h.hg c (by simp [e]);exact ⟨by omega,this.2⟩
   ·rcases List.mem_append.1 e with e | e
    ·have:=dW c e;exact ⟨by omega,this.2.1,this.2.2.1⟩
    ·have:=h.hg c (by simp [e]);exact ⟨by omega,this.2⟩
  ·rcases List.mem_append.1 hc with e | e
   ·exact .inl (by simp [e])
   ·rcases List.mem_append.1 e with e | e
    ·exact .inr e
    ·exact .inl (by simp [e])
 simp only [go_sem,hq,hb,DN,aX,de,hk,nq,Ml,nb,nb',hX,Vk]
 exact fin (((((((Fr.refl [] H).push _).push _).ah (.inr (Nat.le_succ _)) _).ah (.inr (Nat.le_refl _)) _).ah (.inr (Nat.le_refl _)) _).ah (.inr (Nat.le_refl _)) _)
def zK (L:List bc) (st:aE):Bool:=cP L [100,111,110,101] st||cP L [99,97,108,108] st||cP L [97,103,97,105,110] st||cP L [103,117,97,114,100] st||cP L [105,102] st
theorem ab3 (hL:LG L) (h:PP L F H q rb st):ak Tryz.prog 161 #[pV q] H (fun w H'=>w=.bool (zK L st)/\gg L F H q rb st H'):=by
 refine ak.told ?_
 refine agH (Nat.le_refl _) fun hf=>?_
 simp only [Tryz.f161,Option.getD_some]
 have p0:=gg.refl h.toPP0
 simp only [go_sem]
 refine ag.by (fR (h.post p0)) ?_
 rintro _ H1 - ⟨rfl,r1⟩
 have p1:=p0.trans r1
 by_cases h1:cP L [100,111,110,101] st=true
 ·simp only [go_sem,h1]
  exact ⟨by simp [zK,h1],.last p1.1 p1.2.2⟩
 simp only [go_sem,h1]
 refine ag.by (fR (h.post p1)) ?_
 rintro _ H2 - ⟨rfl,r2⟩
 have p2:=p1.trans r2
 by_cases h2:cP L [99,97,108,108] st=true
 ·simp only [go_sem,h2]
  exact ⟨by simp [zK,h2],.last p2.1 p2.2.2⟩
 simp only [go_sem,h2]
 refine ag.by (fR (h.post p2)) ?_
 rintro _ H3 - ⟨rfl,r3⟩
 have p3:=p2.trans r3
 by_cases h3:cP L [97,103,97,105,110] st=true
 ·simp only [go_sem,h3]
  exact ⟨by simp [zK,h3],.last p3.1 p3.2.2⟩
 simp only [go_sem,h3]
 refine ag.by (fR (h.post p3)) ?_
 rintro _ H4 - ⟨rfl,r4⟩
 have p4:=p3.trans r4
 by_cases h4:cP L [103,117,97,114,100] st=true
 ·simp only [go_sem,h4]
  exact ⟨by simp [zK,h4],.last p4.1 p4.2.2⟩
 simp only [go_sem,h4]
 refine ag.by (fR (h.post p4)) ?_
 rintro _ H5 - ⟨rfl,r5⟩
 have p5:=p4.trans r5
 simp only [go_sem]
 exact ⟨by simp [zK,h1,h2,h3,h4],.last p5.1 p5.2.2⟩
def rB (L:List bc) (st:aE):Bool:=ud L st||cP L [108,101,116] st||cP L [115,101,116] st||cP L [115,112,97,119,110] st||cP L [108,111,111,112] st
theorem Np (hL:LG L) (h:PP L F H q rb st):ak Tryz.prog 162 #[pV q] H (fun w H'=>w=.bool (rB L st)/\gg L F H q rb st H'):=by
 refine ak.told ?_
 refine agJ (Nat.le_refl _) fun hf=>?_
 simp only [Tryz.f162,Option.getD_some]
 have p0:=gg.refl h.toPP0
 simp only [go_sem]
 refine ag.by (Kk hL (h.post p0)) ?_
 rintro _ H1 - ⟨rfl,r1⟩
 have p1:=p0.trans r1
 by_cases h1:ud L st=true
 ·simp only [go_sem,h1]
  exact ⟨by simp [rB,h1],.last p1.1 p1.2.2⟩
 simp only [go_sem,h1]
 refine ag.by (fR (h.post p1)) ?_
 rintro _ H2 - ⟨rfl,r2⟩
 have p2:=p1.trans r2
 by_cases h2:cP L [108,101,116] st=true
 ·simp only [go_sem,h2]
  exact ⟨by simp [rB,h2],.last p2.1 p2.2.2⟩
 simp only [go_sem,h2]
 refine ag.by (fR (h.post p2)) ?_
 rintro _ H3 - ⟨rfl,r3⟩
 have p3:=p2.trans r3
 by_cases h3:cP L [115,101,116] st=true
 ·simp only [go_sem,h3]
  exact ⟨by simp [rB,h3],.last p3.1 p3.2.2⟩
 simp only [go_sem,h3]
 refine ag.by (fR (h.post p3)) ?_
 rintro _ H4 - ⟨rfl,r4⟩
 have p4:=p3.trans r4
 by_cases h4:cP L [115,112,97,119,110] st=true
 ·simp only [go_sem,h4]
  exact ⟨by simp [rB,h4],.last p4.1 p4.2.2⟩
 simp only [go_sem,h4]
 refine ag.by (fR (h.post p4)) ?_
 rintro _ H5 - ⟨rfl,r5⟩
 have p5:=p4.trans r5
 simp only [go_sem]
 exact ⟨by simp [rB,h1,h2,h3,h4],.last p5.1 p5.2.2⟩
end
structure AD (L:List bc) (F:List Nat) (c1 c2 c3:Value) (H:ad) (q rb:Nat) (st:aE) (ns:List aG) (m g:List Nat) (nb:Nat) (n:aG) (gn:List Nat):Prop where
 nq:NQ0 L F c1 c2 c3 H q rb st ns m g
 ln:LN0 L F H q rb st nb n gn
 nm:nb∉m
 ng:nb∉g
 gm:∀c∈gn,c∉m
def R3 (L:List bc) (F:List Nat) (c1 c2 c3:Value) (H:ad) (q rb:Nat) (ns:List aG) (m g:List Nat) (nb:Nat) (gn:List Nat) (bW:aE) (iv:List aG) (n':aG) (H':ad):Prop:=
 Fr (rb::q::nb::m) H H'/\(∀c,H'.fz c=H.fz c)/\ns.length<=iv.length/\∃m' g' gn',AD L F c1 c2 c3 H' q rb bW iv m' g' nb n' gn'/\(∀c∈m',c∈m∨H.next<=c)/\(∀c∈g',c∈g∨H.next<=c)/\∀c∈gn',c∈gn∨H.next<=c
structure QR (zb:Bool) (L:List bc) (F:List Nat) (c1 c2 c3:Value) (H:ad) (q rb:Nat) (ns:List aG) (m g:List Nat) (nb:Nat) (gn:List Nat) (H1:ad) (cC:aE) (bk:List aG) (m1 g1:List Nat) (n1:aG) (gj:List Nat):Prop where
 fr:Fr (rb::q::nb::m) H H1
 lq:AD L F c1 c2 c3 H1 q rb cC bk m1 g1 nb n1 gj
 le:ns.length<=bk.length
 sm:∀c∈m1,c∈m∨H.next<=c
 sg:∀c∈g1,c∈g∨H.next<=c
 sn:∀c∈gj,c∈gn∨H.next<=c
 fz:H1.fz rb=false
 fq:H1.fz q=false
 fb:H1.fz nb=zb
 fm:∀c∈m1,H1.fz c=false
 fn:∀b,H1.next<=b->H1.fz b=false
section
variable {zb:Bool} {L:List bc} {F:List Nat} {c1 c2 c3:Value} {H H1 H2:ad} {q rb nb:Nat} {st cC bC:aE} {ns bk bO:List aG} {m m1 m2 g g1 g2 gn gj se:List Nat} {n n1 n2:aG}
theorem QR.nq (h:QR zb L F c1 c2 c3 H q rb ns m g nb gn H1 cC bk m1 g1 n1 gj):NQ L F c1 c2 c3 H1 q rb cC bk m1 g1:={h.lq.nq with fz:=h.fz,fq:=h.fq,fm:=h.fm,fn:=h.fn}
theorem QR.ln (h:QR false L F c1 c2 c3 H q rb ns m g nb gn H1 cC bk m1 g1 n1 gj):LN L F H1 q rb cC nb n1 gj:={h.lq.ln with fz:=h.fz,fb:=h.fb,fn:=h.fn}
theorem QR.pp (h:QR zb L F c1 c2 c3 H q rb ns m g nb gn H1 cC bk m1 g1 n1 gj):PP L F H1 q rb cC:={h.lq.nq.pp with fz:=h.fz}
theorem AD.fr (h:AD L F c1 c2 c3 H q rb st ns m g nb n gn) {bW:aE} {M:List Nat} (bj:Fr M H H1) (hp:PP0 L F H1 q rb bW) (mq:q∉M) (mn:nb∉M) (mm:∀c∈m,c∉M) (mg:∀c∈g,c∉M) (mgn:∀c∈gn,c∉M):AD L F c1 c2 c3 H1 q rb bW ns m g nb n gn:=
 ⟨h.nq.fr bj hp mq mm mg,h.ln.fr bj hp mn mgn,h.nm,h.ng,h.gm⟩
theorem QR.start (h:AD L F c1 c2 c3 H q rb st ns m g nb n gn) (fz:H.fz rb=false) (fq:H.fz q=false) (fb:H.fz nb=zb) (fm:∀c∈m,H.fz c=false) (fn:∀b,H.next<=b->H.fz b=false):QR zb L F c1 c2 c3 H q rb ns m g nb gn H st ns m g n gn:=
 ⟨.refl _ _,h,Nat.le_refl _,fun _ h=>.inl h,fun _ h=>.inl h,fun _ h=>.inl h,fz,fq,fb,fm,fn⟩
theorem QR.aZ (h:QR zb L F c1 c2 c3 H q rb ns m g nb gn H1 cC bk m1 g1 n1 gj) {bW:aE} (hp:gg L F H1 q rb bW H2):QR zb L F c1 c2 c3 H q rb ns m g nb gn H2 bW bk m1 g1 n1 gj:=
 ⟨h.fr.then (hp.1.sub fun c hc=>.inl (by rw [List.mem_singleton] at hc;simp [hc])),
  h.lq.fr hp.1 hp.2.2 (by simpa using h.pp.qr) (by simpa using h.lq.ln.nr) (fun c hc=>by simpa using (h.lq.nq.hm c hc).2.1) (fun c hc=>by simpa using (h.lq.nq.hg c hc).2.1) (fun c hc=>by simpa using (h.lq.ln.hg c hc).2.1),
  h.le,h.sm,h.sg,h.sn,by rw [hp.2.1];exact h.fz,by rw [hp.2.1];exact h.fq,by rw [hp.2.1];exact h.fb,fun c hc=>by rw [hp.2.1];exact h.fm c hc,fun b hb=>by rw [hp.2.1];exact h.fn b (Nat.le_trans hp.1.nx hb)⟩
theorem QR.push (h:QR zb L F c1 c2 c3 H q rb ns m g nb gn H1 cC bk m1 g1 n1 gj) (B:cw) (hB:B.ro=false:=by rfl):QR zb L F c1 c2 c3 H q rb ns m g nb gn (H1.push B) cC bk m1 g1 n1 gj:=by
 have key:∀c,c < H1.next->(H1.push B).fz c=H1.fz c:=fun c hc=>by
  rw [qw,show (c==H1.next)=false from by rw [beq_eq_false_iff_ne];omega,Bool.false_or]
 exact ⟨h.fr.push B hB,h.lq.fr ((ba.push H1 B hB).fr []) (h.lq.nq.pp.aH (ba.push H1 B hB)) (by simp) (by simp) (by simp) (by simp) (by simp),h.le,h.sm,h.sg,h.sn,
  by rw [key _ h.pp.rl];exact h.fz,by rw [key _ h.pp.ql];exact h.fq,by rw [key _ h.lq.ln.nl];exact h.fb,fun c hc=>by rw [key _ (h.lq.nq.hm c hc).1];exact h.fm c hc,fun b hb=>(by rw [bJ] at hb;rw [qw,h.fn b (by omega),Bool.or_false,beq_eq_false_iff_ne];omega)⟩
theorem PP.iN (hL:LG L) (h:PP L F H q rb st) (hk:(tk L st).kind≠4):∃c1 c2 c3 c4 bL oL cL a k c,H.get q=some ⟨[.pointer (some ⟨rb,0,none⟩),c1,c2,c3,c4],127,false,false⟩/\
  H.get rb=some ⟨[.slice (some ⟨bL,oL,none⟩) L.length cL,iV (st.at_:Nat),.slice none 0 0,.bool true,iV st.depth,iV st.bad,.slice a k c],125,false,false⟩/\IntKind.wrap .i64 (((st.at_:Nat):Int)+1)=((st.at_+1:Nat):Int)/\
  gg L F H q rb (aC st) (H.ah rb ⟨[.slice (some ⟨bL,oL,none⟩) L.length cL,iV ((st.at_+1:Nat):Int),.slice none 0 0,.bool true,iV st.depth,iV st.bad,.slice a k c],125,false,false⟩):=by
 obtain ⟨c1,c2,c3,c4,bL,oL,cL,BL,a,n,c,hq,hr,_⟩:=h.fy
 have jE:=hL.len
 exact ⟨c1,c2,c3,c4,bL,oL,cL,a,n,c,hq,hr,cZ h.at_ (by omega),(Fr.refl _ _).ah (.inl (by simp)) _,fun _=>rfl,h.toPP0.set hr (aC st) (nD hL h.at_ hk)⟩
theorem QR.node (h:QR zb L F c1 c2 c3 H q rb ns m g nb gn H1 cC bk m1 g1 n1 gj) {n':aG} {vA vP vB:Value} {gA gP gB:List Nat} (h2:Sl jO H1 vA n'.args gA) (h3:Sl fJ H1 vP n'.pat gP) (h4:Sl dG H1 vB n'.au gB)
  (hg:∀c∈gA++(gP++gB),c∈gj∨H.next<=c/\c < H1.next/\c≠rb/\c≠nb/\c≠q/\c∉m1):
  QR zb L F c1 c2 c3 H q rb ns m g nb gn (H1.ah nb ⟨aJ n' vA vP vB,42,false,false⟩) cC bk m1 g1 n' (gA++(gP++gB)):=by
 have hl:=h.lq.ln
 have fj:∀c∈gA++(gP++gB),c < H1.next/\c≠rb/\c≠nb/\c≠q:=fun c hc=>(hg c hc).elim (hl.hg c) fun e=>⟨e.2.1,e.2.2.1,e.2.2.2.1,e.2.2.2.2.1⟩
 have k:∀c∈gA++(gP++gB),(H1.ah nb ⟨aJ n' vA vP vB,42,false,false⟩).get c=H1.get c:=fun c hc=>by rw [az,if_neg (fj c hc).2.2.1]
 have bj:Fr [nb] H1 (H1.ah nb ⟨aJ n' vA vP vB,42,false,false⟩):=(Fr.refl _ _).ah (.inl (by simp)) _
 have DW:=hl.pp.put ⟨aJ n' vA vP vB,42,false,false⟩ hl.nq hl.nr hl.nF
 refine ⟨h.fr.ah (.inl (by simp)) _,⟨h.lq.nq.fr bj DW (by simpa using Ne.symm hl.nq) (fun c hc=>by simp;rintro rfl;exact h.lq.nm hc) (fun c hc=>by simp;rintro rfl;exact h.lq.ng hc),
  ⟨DW,⟨vA,vP,vB,gA,gP,gB,by rw [az,if_pos rfl],h2.af fun c hc=>k c (by simp [hc]),h3.af fun c hc=>k c (by simp [hc]),h4.af fun c hc=>k c (by simp [hc]),rfl⟩,hl.nl,hl.nr,hl.nq,hl.nF,fj⟩,
  h.lq.nm,h.lq.ng,fun c hc=>(hg c hc).elim (h.lq.gm c) fun e=>e.2.2.2.2.2⟩,h.le,h.sm,h.sg,fun c hc=>(hg c hc).elim (h.sn c) fun e=>.inr e.1,h.fz,h.fq,h.fb,h.fm,h.fn⟩
theorem QR.nd (h:QR zb L F c1 c2 c3 H q rb ns m g nb gn H1 cC bk m1 g1 n1 gj):∃vA vP vB,H1.get nb=some ⟨aJ n1 vA vP vB,42,false,false⟩:=by
 obtain ⟨Gc,ph,DV,gA,gP,gB,h1,_⟩:=h.lq.ln.nd
 exact ⟨_,_,_,h1⟩
theorem QR.gG (h:QR zb L F c1 c2 c3 H q rb ns m g nb gn H1 cC bk m1 g1 n1 gj) {vA vP vB:Value} (cQ:H1.get nb=some ⟨aJ n1 vA vP vB,42,false,false⟩) (n':aG) (ha:n'.args=n1.args) (hp:n'.pat=n1.pat) (hb:n'.au=n1.au):QR zb L F c1 c2 c3 H q rb ns m g nb gn (H1.ah nb ⟨aJ n' vA vP vB,42,false,false⟩) cC bk m1 g1 n' gj:=by
 obtain ⟨Gc,ph,DV,gA,gP,gB,h1,h2,h3,h4,rfl⟩:=h.lq.ln.nd
 rw [cQ] at h1
 cases h1
 exact h.node (ha▸h2) (hp▸h3) (hb▸h4) fun c hc=>.inl hc
theorem QR.new (h:QR zb L F c1 c2 c3 H q rb ns m g nb gn H1 cC bk m1 g1 n1 gj) {c:Nat} (hc:H1.next<=c):H.next<=c/\c≠rb/\c≠nb/\c≠q/\c∉m1:=
 ⟨Nat.le_trans h.fr.nx hc,by have:=h.pp.rl;omega,by have:=h.lq.ln.nl;omega,by have:=h.pp.ql;omega,fun e=>by have:=(h.lq.nq.hm c e).1;omega⟩
theorem QR.args (h:QR zb L F c1 c2 c3 H q rb ns m g nb gn H1 cC bk m1 g1 n1 gj) {vA vP vB v:Value} (cQ:H1.get nb=some ⟨aJ n1 vA vP vB,42,false,false⟩) (n':aG) {f:List Nat} (hs:Sl jO H1 v n'.args f) (hf:∀c∈f,c < H1.next/\(H.next<=c/\c≠rb/\c≠nb/\c≠q/\c∉m1)) (hp:n'.pat=n1.pat) (hb:n'.au=n1.au):∃g',QR zb L F c1 c2 c3 H q rb ns m g nb gn (H1.ah nb ⟨aJ n' v vP vB,42,false,false⟩) cC bk m1 g1 n' g':=by
 obtain ⟨Gc,ph,DV,gA,gP,gB,h1,h2,h3,h4,rfl⟩:=h.lq.ln.nd
 rw [cQ] at h1
 cases h1
 refine ⟨_,h.node hs (hp▸h3) (hb▸h4) fun c hc=>?_⟩
 rcases List.mem_append.1 hc with e | e
 ·exact .inr ⟨(hf c e).2.1,(hf c e).1,(hf c e).2.2⟩
 ·exact .inl (List.mem_append_right _ e)
theorem QR.pat (h:QR zb L F c1 c2 c3 H q rb ns m g nb gn H1 cC bk m1 g1 n1 gj) {vA vP vB v:Value} (cQ:H1.get nb=some ⟨aJ n1 vA vP vB,42,false,false⟩) (n':aG) {f:List Nat} (hs:Sl fJ H1 v n'.pat f) (hf:∀c∈f,c < H1.next/\(H.next<=c/\c≠rb/\c≠nb/\c≠q/\c∉m1)) (ha:n'.args=n1.args) (hb:n'.au=n1.au):∃g',QR zb L F c1 c2 c3 H q rb ns m g nb gn (H1.ah nb ⟨aJ n' vA v vB,42,false,false⟩) cC bk m1 g1 n' g':=by
 obtain ⟨Gc,ph,DV,gA,gP,gB,h1,h2,h3,h4,rfl⟩:=h.lq.ln.nd
 rw [cQ] at h1
 cases h1
 refine ⟨_,h.node (ha▸h2) hs (hb▸h4) fun c hc=>?_⟩
 rcases List.mem_append.1 hc with e | e
 ·exact .inl (by simp [e])
 ·rcases List.mem_append.1 e with e | e
  ·exact .inr ⟨(hf c e).2.1,(hf c e).1,(hf c e).2.2⟩
  ·exact .inl (by simp [e])
theorem QR.bY (h:QR zb L F c1 c2 c3 H q rb ns m g nb gn H1 cC bk m1 g1 n1 gj) {vA vP vB v:Value} (cQ:H1.get nb=some ⟨aJ n1 vA vP vB,42,false,false⟩) (n':aG) {f:List Nat} (hs:Sl dG H1 v n'.au f) (hf:∀c∈f,c < H1.next/\(H.next<=c/\c≠rb/\c≠nb/\c≠q/\c∉m1)) (ha:n'.args=n1.args) (hp:n'.pat=n1.pat):∃g',QR zb L F c1 c2 c3 H q rb ns m g nb gn (H1.ah nb ⟨aJ n' vA vP v,42,false,false⟩) cC bk m1 g1 n' g':=by
 obtain ⟨Gc,ph,DV,gA,gP,gB,h1,h2,h3,h4,rfl⟩:=h.lq.ln.nd
 rw [cQ] at h1
 cases h1
 refine ⟨_,h.node (ha▸h2) (hp▸h3) hs fun c hc=>?_⟩
 rcases List.mem_append.1 hc with e | e
 ·exact .inl (by simp [e])
 ·rcases List.mem_append.1 e with e | e
  ·exact .inl (by simp [e])
  ·exact .inr ⟨(hf c e).2.1,(hf c e).1,(hf c e).2.2⟩
theorem QR.KN (h:QR zb L F c1 c2 c3 H q rb ns m g nb gn H1 cC bk m1 g1 n1 gj) {bW:aE} {n':aG} (hp:HX L F H1 q rb nb gj bW n' H2):∃se,QR zb L F c1 c2 c3 H q rb ns m g nb gn H2 bW bk m1 g1 n' se:=by
 obtain ⟨hf,hz,g2,h0,hs⟩:=hp
 have hm:=h.lq.nq.hm
 refine ⟨g2,h.fr.then (hf.sub fun c hc=>.inl (by simp at hc;rcases hc with e | e <;> simp [e])),⟨h.lq.nq.fr hf h0.pp (by simp;exact ⟨h.pp.qr,Ne.symm h.lq.ln.nq⟩) (fun c hc=>by simp;exact ⟨(hm c hc).2.1,by rintro rfl;exact h.lq.nm hc⟩) (fun c hc=>by simp;exact ⟨(h.lq.nq.hg c hc).2.1,by rintro rfl;exact h.lq.ng hc⟩),h0,h.lq.nm,h.lq.ng,fun c hc e=>?_⟩,
  h.le,h.sm,h.sg,fun c hc=>(hs c hc).elim (h.sn c) fun e=>.inr (Nat.le_trans h.fr.nx e),by rw [hz];exact h.fz,by rw [hz];exact h.fq,by rw [hz];exact h.fb,fun c hc=>by rw [hz];exact h.fm c hc,fun b hb=>by rw [hz];exact h.fn b (Nat.le_trans hf.nx hb)⟩
 rcases hs c hc with e' | e'
 ·exact h.lq.gm c e' e
 ·have:=(hm c e).1;omega
theorem QR.wW (h:QR zb L F c1 c2 c3 H q rb ns m g nb gn H1 cC bk m1 g1 n1 gj) {bW:aE} {iv:List aG} (hp:x6 L F c1 c2 c3 H1 q rb bk m1 g1 bW iv H2):∃m2 g2,QR zb L F c1 c2 c3 H q rb ns m g nb gn H2 bW iv m2 g2 n1 gj:=by
 obtain ⟨hf,hz,hle,m2,g2,h0,hs,i3⟩:=hp
 have hl:=h.lq.ln
 have rX:=hl.nl
 have dU:=h.fr.nx
 refine ⟨m2,g2,h.fr.trans hf fun c hc=>?_,⟨h0,hl.fr hf h0.pp (by simp;exact ⟨hl.nr,hl.nq,h.lq.nm⟩) (fun c hc=>by simp;exact ⟨(hl.hg c hc).2.1,(hl.hg c hc).2.2.2,h.lq.gm c hc⟩),fun e=>(hs _ e).elim h.lq.nm fun e=>by omega,fun e=>(i3 _ e).elim h.lq.ng fun e=>by omega,fun c hc e=>(hs c e).elim (h.lq.gm c hc) fun e=>by have:=(hl.hg c hc).1;omega⟩,
  Nat.le_trans h.le hle,fun c hc=>(hs c hc).elim (h.sm c) fun e=>.inr (Nat.le_trans dU e),fun c hc=>(i3 c hc).elim (h.sg c) fun e=>.inr (Nat.le_trans dU e),h.sn,by rw [hz];exact h.fz,by rw [hz];exact h.fq,by rw [hz];exact h.fb,fun c hc=>?_,fun b hb=>by rw [hz];exact h.fn b (Nat.le_trans hf.nx hb)⟩
 ·simp only [List.mem_cons] at hc ⊢
  rcases hc with e | e | e
  ·exact .inl (.inl e)
  ·exact .inl (.inr (.inl e))
  ·exact (h.sm c e).imp (fun e=>.inr (.inr (.inr e))) id
 ·rw [hz]
  rcases hs c hc with e | e
  ·exact h.fm c e
  ·exact h.fn c e
theorem QR.ajI (h:QR zb L F c1 c2 c3 H q rb ns m g nb gn H1 cC bk m1 g1 n1 gj) {bW:aE} {iv:List aG} {n':aG} (hp:R3 L F c1 c2 c3 H1 q rb bk m1 g1 nb gj bW iv n' H2):∃m2 g2 se,QR zb L F c1 c2 c3 H q rb ns m g nb gn H2 bW iv m2 g2 n' se:=by
 obtain ⟨hf,hz,hle,m2,g2,se,h0,hs,i3,Je⟩:=hp
 have dU:=h.fr.nx
 refine ⟨m2,g2,se,h.fr.trans hf fun c hc=>?_,h0,Nat.le_trans h.le hle,fun c hc=>(hs c hc).elim (h.sm c) fun e=>.inr (Nat.le_trans dU e),fun c hc=>(i3 c hc).elim (h.sg c) fun e=>.inr (Nat.le_trans dU e),fun c hc=>(Je c hc).elim (h.sn c) fun e=>.inr (Nat.le_trans dU e),by rw [hz];exact h.fz,by rw [hz];exact h.fq,by rw [hz];exact h.fb,fun c hc=>?_,fun b hb=>by rw [hz];exact h.fn b (Nat.le_trans hf.nx hb)⟩
 ·simp only [List.mem_cons] at hc ⊢
  rcases hc with e | e | e | e
  ·exact .inl (.inl e)
  ·exact .inl (.inr (.inl e))
  ·exact .inl (.inr (.inr (.inl e)))
  ·exact (h.sm c e).imp (fun e=>.inr (.inr (.inr e))) id
 ·rw [hz]
  rcases hs c hc with e | e
  ·exact h.fm c e
  ·exact h.fn c e
theorem QR.sm' (h:QR zb L F c1 c2 c3 H q rb ns m g nb gn H1 cC bk m1 g1 n1 gj):∀c∈m1,c∈rb::q::m∨H.next<=c:=fun c hc=>(h.sm c hc).imp (fun e=>by simp [e]) id
theorem QR.last (h:QR zb L F c1 c2 c3 H q rb ns m g nb gn H1 cC bk m1 g1 n1 gj):R3 L F c1 c2 c3 H q rb ns m g nb gn cC bk n1 (H1.ai H.fz):=
 ⟨h.fr.ai _,fun _=>rfl,h.le,m1,g1,gj,h.lq.fr ((Fr.refl [] H1).ai _) h.pp.toPP0.ai (by simp) (by simp) (by simp) (by simp) (by simp),h.sm,h.sg,h.sn⟩
def BH (L:List bc) (F:List Nat) (c1 c2 c3:Value) (q rb:Nat) (aU:Int->aE × List aG->Option (Int × aE × List aG)):Prop:=∀{H:ad} {st bW:aE} {ns iv:List aG} {m g:List Nat} {kind i:Int},NQ L F c1 c2 c3 H q rb st ns m g->aU kind (st,ns)=some (i,bW,iv)->
 ak Tryz.prog 143 #[pV q,iV kind] H (fun w H'=>w=iV i/\x6 L F c1 c2 c3 H q rb ns m g bW iv H')
end
section
variable {zb:Bool} {L:List bc} {F:List Nat} {c1 c2 c3:Value} {H H1 H2:ad} {q rb nb:Nat} {st cC bC:aE} {ns bk bO:List aG} {m m1 m2 g g1 g2 gn gj se:List Nat} {n n1 n2:aG}
theorem Yp (h:0 < lI L st):(tk L st).kind≠4:=by
 have Ma:∀(l:List bf) (k:Int),Ds L st k l≠0->(tk L st).kind≠4:=by
  intro l
  induction l with
  | nil=>intro k h;exact absurd rfl h
  | cons s l ih=>
   intro k h
   rw [Ds] at h
   split at h
   ·rename_i hw;exact jl hw
   ·exact ih _ h
 exact Ma uf 1 (by show lI L st≠0;omega)
theorem Ba {e:Int} (he:e≠0):c9 (eX e st)=false:=by
 unfold eX c9
 split
 ·simpa using he
 ·simpa
abbrev lx:=Int->aE × List aG->Option (Int × aE × List aG)
def Oy (L:List bc) (st:aE):aE:=if lI L st≠1/\lI L st≠2 then eX 2 st else st
def aaM (L:List bc) (st:aE):aE:=if c9 (Oy L st)=true then aC (Oy L st) else Oy L st
def La (L:List bc) (aU:lx) (st:aE) (ns:List aG) (n:aG):Option (aE × List aG × aG):=
 if c9 st=true then
  (if cP L [110,101,119] st=true then some (aC st,ns,{n with kind:=1})
  else if cP L [115,116,97,114,116] st=true then
   (let y:=cu L (aC st);let z:=qF L y.2;some (z.2,ns,{n with kind:=2,hU:=y.1,args:=z.1}))
  else if cP L [103,101,116] st=true then
   (let y:=cu L (aC st);let x:=zQ L y.2 {n with kind:=5,gu:=y.1};some (x.1,ns,x.2))
  else if cP L [115,119,97,112] st=true then
   (let y:=cu L (aC st);let r:=cu L y.2;let f:=cu L (dF L [46] r.2);let a:=ib L (dF L [44] f.2);some (a.2,ns,{n with kind:=7,gu:=y.1,jy:=r.1,hU:=f.1,args:=[a.1]}))
  else if cP L [114,101,99,111,118,101,114] st=true then
   (aU 2 (aaM L (aC st),ns)).map fun x=>(x.2.1,x.2.2,{n with kind:=8,cap:=lI L (aC st),a:=x.1})
  else if 0 < lI L st/\lI L st≠4 then
   some ((Iv L (aC st) n (lI L st)).1,ns,(Iv L (aC st) n (lI L st)).2)
  else some ((KM L st n).1,ns,(KM L st n).2))
 else some (st,ns,n)
theorem ajJ (hL:LG L) {aU:lx} (iW:BH L F c1 c2 c3 q rb aU) (h:AD L F c1 c2 c3 H q rb st ns m g nb n gn) (hz:H.fz rb=false) (wt:H.fz q=false) (cS:H.fz nb=false) (Jf:∀c∈m,H.fz c=false) (iz:n.op=0) {R:aE × List aG × aG} (he:La L aU st ns n=some R):
  ak Tryz.prog 173 #[pV q,pV nb] H (fun w H'=>R3 L F c1 c2 c3 H q rb ns m g nb gn R.1 R.2.1 R.2.2 H'):=by
 refine ak.told ?_
 refine ag4 (Nat.le_refl _) fun hf=>?_
 simp only [Tryz.f173,Option.getD_some]
 simp only [go_sem]
 have r0:=QR.start h hz wt cS Jf fun b hb=>hf.fresh hb
 have gI:=h.ln.nr
 have dQ:¬rb=nb:=fun e=>gI e.symm
 have tp:¬q=nb:=fun e=>h.ln.nq e.symm
 have jE:=hL.len
 refine ag.by (eZ r0.pp) ?_
 rintro _ _ - ⟨rfl,rfl⟩
 by_cases hb:c9 st=true
 ·rw [La,if_pos hb] at he
  simp only [go_sem,hb]
  refine ag.by (Ou r0.pp) ?_
  rintro _ H1 - ⟨rfl,p1⟩
  have r1:=r0.aZ p1
  simp only [go_sem]
  refine ag.by (fR r1.pp) ?_
  rintro _ H2 - ⟨rfl,p2⟩
  have r2:=r1.aZ p2
  by_cases h1:cP L [110,101,119] st=true
  ·rw [if_pos h1] at he
   cases he
   obtain ⟨d1,d2,d3,d4,bL,oL,cL,a,k,c,hq,hr,cX,pa⟩:=r2.pp.iN hL (jl h1)
   have ra:=r2.aZ pa
   obtain ⟨vA,vP,vB,cQ⟩:=ra.nd
   have yw:=cQ
   rw [az,if_neg gI] at yw
   simp only [go_sem,h1,hq,hr,hz,cX,gI,dQ,tp,yw,cS]
   exact (ra.gG cQ {n with kind:=1} rfl rfl rfl).last
  rw [if_neg h1] at he
  simp only [go_sem,h1]
  refine ag.by (fR r2.pp) ?_
  rintro _ H3 - ⟨rfl,p3⟩
  have r3:=r2.aZ p3
  by_cases h2:cP L [115,116,97,114,116] st=true
  ·rw [if_pos h2] at he
   dsimp only at he
   cases he
   obtain ⟨d1,d2,d3,d4,bL,oL,cL,a,k,c,hq,hr,cX,pa⟩:=r3.pp.iN hL (jl h2)
   have ra:=r3.aZ pa
   simp only [go_sem,h2,hq,hr,hz,cX]
   refine ag.by (jk hL ra.pp) ?_
   rintro _ H4 - ⟨rfl,p4⟩
   have r4:=ra.aZ p4
   obtain ⟨vA,vP,vB,cQ⟩:=r4.nd
   have r5:=r4.gG cQ {n with kind:=2,hU:=(cu L (aC st)).1} rfl rfl rfl
   simp only [go_sem,cQ,cS]
   rw [rH]
   refine ag.by (HV hL r5.pp) ?_
   rintro va H6 - ⟨⟨ga,ic,jU⟩,p6⟩
   have r6:=r5.aZ p6
   obtain ⟨Gd,qW,qX,lp⟩:=r6.nd
   obtain ⟨aa,ca,zf⟩:=ic.val
   subst zf
   simp only [go_sem,lp,cS]
   obtain ⟨g7,r7⟩:=r6.args lp {n with kind:=2,hU:=(cu L (aC st)).1,args:=(qF L (cu L (aC st)).2).1} ic (fun b hb=>⟨(jU b hb).2,r5.new (jU b hb).1⟩) rfl rfl
   exact r7.last
  rw [if_neg h2] at he
  simp only [go_sem,h2]
  refine ag.by (fR r3.pp) ?_
  rintro _ H4 - ⟨rfl,p4⟩
  have r4:=r3.aZ p4
  by_cases h3:cP L [103,101,116] st=true
  ·rw [if_pos h3] at he
   dsimp only at he
   cases he
   obtain ⟨d1,d2,d3,d4,bL,oL,cL,a,k,c,hq,hr,cX,pa⟩:=r4.pp.iN hL (jl h3)
   have ra:=r4.aZ pa
   simp only [go_sem,h3,hq,hr,hz,cX]
   refine ag.by (jk hL ra.pp) ?_
   rintro _ H5 - ⟨rfl,p5⟩
   have r5:=ra.aZ p5
   obtain ⟨vA,vP,vB,cQ⟩:=r5.nd
   have r6:=r5.gG cQ {n with kind:=5,gu:=(cu L (aC st)).1} rfl rfl rfl
   simp only [go_sem,cQ,cS]
   rw [rH]
   refine ag.by (adR hL r6.ln) ?_
   rintro _ H7 - p7
   obtain ⟨g7,r7⟩:=r6.KN p7
   simp only [go_sem]
   exact r7.last
  rw [if_neg h3] at he
  simp only [go_sem,h3]
  refine ag.by (fR r4.pp) ?_
  rintro _ H5 - ⟨rfl,p5⟩
  have r5:=r4.aZ p5
  by_cases h4:cP L [115,119,97,112] st=true
  ·rw [if_pos h4] at he
   dsimp only at he
   cases he
   obtain ⟨d1,d2,d3,d4,bL,oL,cL,a,k,c,hq,hr,cX,pa⟩:=r5.pp.iN hL (jl h4)
   have ra:=r5.aZ pa
   simp only [go_sem,h4,hq,hr,hz,cX]
   refine ag.by (jk hL ra.pp) ?_
   rintro _ H6 - ⟨rfl,p6⟩
   have r6:=ra.aZ p6
   obtain ⟨vA,vP,vB,cQ⟩:=r6.nd
   have r7:=r6.gG cQ {n with kind:=7,gu:=(cu L (aC st)).1} rfl rfl rfl
   simp only [go_sem,cQ,cS]
   rw [rH]
   generalize cu L (aC st)=y at p6 r6 r7
   refine ag.by (jk hL r7.pp) ?_
   rintro _ H8 - ⟨rfl,p8⟩
   have r8:=r7.aZ p8
   obtain ⟨vA8,vP8,vB8,vE⟩:=r8.nd
   have r9:=r8.gG vE {n with kind:=7,gu:=y.1,jy:=(cu L y.2).1} rfl rfl rfl
   simp only [go_sem,vE,cS]
   generalize cu L y.2=yr at p8 r8 r9
   refine ag.by (iJ hL r9.pp) ?_
   rintro _ dh - j9
   have cT:=r9.aZ j9
   simp only [go_sem]
   refine ag.by (jk hL cT.pp) ?_
   rintro _ dX - ⟨rfl,qZ⟩
   have dk:=cT.aZ qZ
   obtain ⟨aww,awx,awy,ZL⟩:=dk.nd
   have dm:=dk.gG ZL {n with kind:=7,gu:=y.1,jy:=yr.1,hU:=(cu L (dF L [46] yr.2)).1} rfl rfl rfl
   simp only [go_sem,ZL,cS]
   generalize cu L (dF L [46] yr.2)=yf at qZ dk dm
   refine ag.by (iJ hL dm.pp) ?_
   rintro _ ju - pe
   have gK:=dm.aZ pe
   simp only [go_sem]
   refine ag.by (Df hL gK.pp) ?_
   rintro _ jG - ⟨rfl,PV⟩
   have ke:=gK.aZ PV
   obtain ⟨alk,alm,aln,ZM⟩:=ke.nd
   generalize ib L (dF L [44] yf.2)=x at PV ke
   have nn:¬nb=jG.next:=by have:=ke.lq.ln.nl;omega
   simp only [go_sem,ZM,cS,nn,eB qE (by decide) (by decide)]
   have mu:=ke.push ⟨[iV x.1.kind,iV x.1.n,ae x.1.name],44,false,false⟩
   have ajK:(jG.push ⟨[iV x.1.kind,iV x.1.n,ae x.1.name],44,false,false⟩).get nb=some ⟨aJ {n with kind:=7,gu:=y.1,jy:=yr.1,hU:=yf.1} alk alm aln,42,false,false⟩:=by rw [bX ke.lq.ln.nl];exact ZM
   obtain ⟨PX,AE⟩:=mu.args ajK {n with kind:=7,gu:=y.1,jy:=yr.1,hU:=yf.1,args:=[x.1]} Kl (fun c hc=>by rw [List.mem_singleton] at hc;subst hc;exact ⟨Nat.lt_succ_self _,ke.new (Nat.le_refl _)⟩) rfl rfl
   exact AE.last
  rw [if_neg h4] at he
  simp only [go_sem,h4]
  refine ag.by (fR r5.pp) ?_
  rintro _ H6 - ⟨rfl,p6⟩
  have r6:=r5.aZ p6
  by_cases h5:cP L [114,101,99,111,118,101,114] st=true
  ·rw [if_pos h5] at he
   obtain ⟨d1,d2,d3,d4,bL,oL,cL,a,k,c,hq,hr,cX,pa⟩:=r6.pp.iN hL (jl h5)
   have ra:=r6.aZ pa
   simp only [go_sem,h5,hq,hr,hz,cX]
   refine ag.by (Ou ra.pp) ?_
   rintro _ H7 - ⟨rfl,p7⟩
   have r7:=ra.aZ p7
   obtain ⟨vA,vP,vB,cQ⟩:=r7.nd
   have r8:=r7.gG cQ {n with kind:=8,cap:=lI L (aC st)} rfl rfl rfl
   simp only [go_sem,cQ,cS]
   rw [rH]
   obtain ⟨vA8,vP8,vB8,vE⟩:=r8.nd
   have yX:=Yp (L:=L) (st:=aC st)
   rw [aaM,Oy] at he
   generalize Ch:lI L (aC st)=cp at p7 r7 r8 vE he yX
   cases fu:aU 2 (if c9 (if cp≠1/\cp≠2 then eX 2 (aC st) else aC st)=true then aC (if cp≠1/\cp≠2 then eX 2 (aC st) else aC st) else (if cp≠1/\cp≠2 then eX 2 (aC st) else aC st),ns) with
   | none=>rw [fu] at he;cases he
   | some B=>
    obtain ⟨bi,bs,bn⟩:=B
    rw [fu] at he
    cases he
    by_cases e1:cp=1
    ·subst e1
     rw [show (if (1:Int)≠1/\(1:Int)≠2 then eX 2 (aC st) else aC st)=aC st from if_neg (by decide)] at fu
     simp only [go_sem]
     refine ag.by (eZ r8.pp) ?_
     rintro _ _ - ⟨rfl,rfl⟩
     by_cases hk:c9 (aC st)=true
     ·rw [if_pos hk] at fu
      obtain ⟨d1,d2,d3,d4,bL,oL,cL,a,k,c,hq,hr,cX,pa⟩:=r8.pp.iN hL (yX (by decide))
      have DX:=r8.aZ pa
      simp only [go_sem,hk,hq,hr,hz,cX]
      refine ag.by (iW DX.nq fu) ?_
      rintro _ kY - ⟨rfl,jV⟩
      obtain ⟨jW,jX,i9⟩:=DX.wW jV
      obtain ⟨Du,Dv,Dw,kt⟩:=i9.nd
      simp only [go_sem,kt,cS]
      exact (i9.gG kt {n with kind:=8,cap:=1,a:=bi} rfl rfl rfl).last
     ·rw [if_neg hk] at fu
      simp only [go_sem,hk]
      refine ag.by (iW r8.nq fu) ?_
      rintro _ kY - ⟨rfl,jV⟩
      obtain ⟨jW,jX,i9⟩:=r8.wW jV
      obtain ⟨Du,Dv,Dw,kt⟩:=i9.nd
      simp only [go_sem,kt,cS]
      exact (i9.gG kt {n with kind:=8,cap:=1,a:=bi} rfl rfl rfl).last
    by_cases e2:cp=2
    ·subst e2
     rw [show (if (2:Int)≠1/\(2:Int)≠2 then eX 2 (aC st) else aC st)=aC st from if_neg (by decide)] at fu
     simp only [go_sem,vE]
     refine ag.by (eZ r8.pp) ?_
     rintro _ _ - ⟨rfl,rfl⟩
     by_cases hk:c9 (aC st)=true
     ·rw [if_pos hk] at fu
      obtain ⟨d1,d2,d3,d4,bL,oL,cL,a,k,c,hq,hr,cX,pa⟩:=r8.pp.iN hL (yX (by decide))
      have DX:=r8.aZ pa
      simp only [go_sem,hk,hq,hr,hz,cX]
      refine ag.by (iW DX.nq fu) ?_
      rintro _ kY - ⟨rfl,jV⟩
      obtain ⟨jW,jX,i9⟩:=DX.wW jV
      obtain ⟨Du,Dv,Dw,kt⟩:=i9.nd
      simp only [go_sem,kt,cS]
      exact (i9.gG kt {n with kind:=8,cap:=2,a:=bi} rfl rfl rfl).last
     ·rw [if_neg hk] at fu
      simp only [go_sem,hk]
      refine ag.by (iW r8.nq fu) ?_
      rintro _ kY - ⟨rfl,jV⟩
      obtain ⟨jW,jX,i9⟩:=r8.wW jV
      obtain ⟨Du,Dv,Dw,kt⟩:=i9.nd
      simp only [go_sem,kt,cS]
      exact (i9.gG kt {n with kind:=8,cap:=2,a:=bi} rfl rfl rfl).last
    rw [show (if cp≠1/\cp≠2 then eX 2 (aC st) else aC st)=eX 2 (aC st) from if_pos ⟨e1,e2⟩,if_neg (by rw [Ba (by decide)];exact Bool.false_ne_true)] at fu
    simp only [go_sem,vE,e1,e2]
    refine ag.by (lh r8.pp) ?_
    rintro _ H9 - p9
    have r9:=r8.aZ p9
    simp only [go_sem]
    refine ag.by (eZ r9.pp) ?_
    rintro _ _ - ⟨rfl,rfl⟩
    simp only [go_sem,Ba (show (2:Int)≠0 by decide)]
    refine ag.by (iW r9.nq fu) ?_
    rintro _ kY - ⟨rfl,jV⟩
    obtain ⟨jW,jX,i9⟩:=r9.wW jV
    obtain ⟨Du,Dv,Dw,kt⟩:=i9.nd
    simp only [go_sem,kt,cS]
    exact (i9.gG kt {n with kind:=8,cap:=cp,a:=bi} rfl rfl rfl).last
  rw [if_neg h5] at he
  simp only [go_sem,h5]
  by_cases h6:0 < lI L st/\lI L st≠4
  ·rw [if_pos h6] at he
   cases he
   obtain ⟨Jg,Vl⟩:=h6
   obtain ⟨d1,d2,d3,d4,bL,oL,cL,a,k,c,hq,hr,cX,pa⟩:=r6.pp.iN hL (Yp Jg)
   have ra:=r6.aZ pa
   simp only [go_sem,Jg,Vl,hq,hr,hz,cX]
   refine ag.by (aht hL ra.ln) ?_
   rintro _ H7 - p7
   obtain ⟨g7,r7⟩:=ra.KN p7
   simp only [go_sem]
   exact r7.last
  ·rw [if_neg h6] at he
   cases he
   by_cases Jg:0 < lI L st
   ·have Vl:lI L st=4:=Classical.byContradiction fun e=>h6 ⟨Jg,e⟩
    have h6c:(0:Int) < 4:=by decide
    simp only [go_sem,Jg,Vl,h6c]
    refine ag.by (Zf hL r6.ln iz) ?_
    rintro _ H7 - p7
    obtain ⟨g7,r7⟩:=r6.KN p7
    simp only [go_sem]
    exact r7.last
   ·simp only [go_sem,Jg]
    refine ag.by (Zf hL r6.ln iz) ?_
    rintro _ H7 - p7
    obtain ⟨g7,r7⟩:=r6.KN p7
    simp only [go_sem]
    exact r7.last
 ·rw [La,if_neg hb] at he
  cases he
  simp only [go_sem,hb]
  exact r0.last
end
end Go.Proofs.YtinjmfblebpnnaaGreat.Ab
