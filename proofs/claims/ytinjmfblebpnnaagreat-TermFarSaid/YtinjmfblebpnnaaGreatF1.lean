/- Lemmas for the walk, part 1. -/
import Derived.Handy
import Derived.KernelRfl
import Derived.Laws.Append
import Derived.Laws.BytesString
import Derived.Laws.CopyRow
import Derived.Laws.Entries
import Derived.Laws.Rows
import Derived.Laws.Slices
import Derived.Laws.StructEq
import Derived.MapKept
import Derived.Orders
set_option linter.unusedVariables false
set_option linter.unusedSimpArgs false
namespace Go.Proofs.YtinjmfblebpnnaaGreat.Ab
open Go
inductive Tr (α:Type) where
 | lf
 | nd (v:Option α) (l r:Tr α)
namespace Tr
variable {α:Type}
noncomputable def get (t:Tr α):Nat->Option α:=
 Tr.rec (motive:=fun _=>Nat->Option α) (fun _=>none)
  (fun v _ _ gl gr n=>Nat.rec (motive:=fun _=>Option α) v (fun m _=>Bool.rec (motive:=fun _=>Option α) (gr (Nat.div m (nat_lit 2))) (gl (Nat.div m (nat_lit 2))) (Nat.beq (Nat.mod m (nat_lit 2)) (nat_lit 0))) n) t
noncomputable def gW (t:Tr α) {β:Type} (k:Option α->Tr α->Tr α->β):β:=Tr.rec (motive:=fun _=>β) (k none .lf .lf) (fun v l r _ _=>k v l r) t
noncomputable def now (t:Tr α) {β:Type} (k:Tr α->β):β:=Tr.rec (motive:=fun _=>β) (k .lf) (fun v l r _ _=>k (.nd v l r)) t
noncomputable def put (f:Nat):Tr α->Nat->Option α->Tr α:=
 Nat.rec (motive:=fun _=>Tr α->Nat->Option α->Tr α) (fun t _ _=>t)
  (fun _ ih t n a=>t.gW fun v l r=>Nat.rec (motive:=fun _=>Tr α) (.nd a l r)
   (fun m _=>Bool.rec (motive:=fun _=>Tr α) ((ih r (Nat.div m (nat_lit 2)) a).now fun r=>.nd v l r) ((ih l (Nat.div m (nat_lit 2)) a).now fun l=>.nd v l r) (Nat.beq (Nat.mod m (nat_lit 2)) (nat_lit 0))) n) f
end Tr
structure KB where
 cs:Tr Value
 len:Nat
 elem:Nat
 gW:Bool
structure KH where
 hp:Tr KB
 nx:Nat
 wr:Nat
noncomputable def rm {β:Type} (n:Nat) (k:Nat->β):β:=Nat.rec (motive:=fun _=>β) (k 0) (fun m _=>k (Nat.succ m)) n
noncomputable def aiX {β:Type} (n:Int) (k:Int->β):β:=match n with
 | .ofNat n=>rm n fun n=>k (.ofNat n)
 | .negSucc n=>rm n fun n=>k (.negSucc n)
noncomputable def aiY {β:Type} (v:Value) (k:Value->β):β:=match v with
 | .int x n=>aiX n fun n=>k (.int x n)
 | .bool b=>Bool.rec (motive:=fun _=>β) (k (.bool false)) (k (.bool true)) b
 | .pointer (some ⟨b,o,none⟩)=>rm b fun b=>rm o fun o=>k (.pointer (some ⟨b,o,none⟩))
 | .slice (some ⟨b,o,none⟩) n c=>rm b fun b=>rm o fun o=>rm n fun n=>rm c fun c=>k (.slice (some ⟨b,o,none⟩) n c)
 | v=>k v
def C7:Int->Int->Bool
 | .ofNat a,.ofNat b=>Nat.blt a b
 | .ofNat _,.negSucc _=>false
 | .negSucc _,.ofNat _=>true
 | .negSucc a,.negSucc b=>Nat.blt b a
def E5:Int->Int->Bool
 | .ofNat a,.ofNat b=>Nat.beq a b
 | .negSucc a,.negSucc b=>Nat.beq a b
 | _,_=>false
def AF:Int->Bool
 | .ofNat a=>Nat.blt a 9223372036854775808
 | .negSucc a=>Nat.blt a 9223372036854775808
def oZ (k:IntKind) (n:Int):Int:=match k with
 | .i64=>bif AF n then n else IntKind.wrap .i64 n
 | .u8=>match n with
  | .ofNat a=>bif Nat.blt a 256 then n else IntKind.wrap .u8 n
  | _=>IntKind.wrap .u8 n
 | .u64=>match n with
  | .ofNat a=>bif Nat.blt a 18446744073709551616 then n else IntKind.wrap .u64 n
  | _=>IntKind.wrap .u64 n
 | k=>IntKind.wrap k n
noncomputable def GG (x:List UInt8):List UInt8->Bool:=
 List.rec (motive:=fun _=>List UInt8->Bool) (fun y=>List.rec (motive:=fun _=>Bool) true (fun _ _ _=>false) y)
  (fun a _ ih y=>List.rec (motive:=fun _=>Bool) false (fun b ys _=>Bool.rec (motive:=fun _=>Bool) false (ih ys) (Nat.beq a.toNat b.toNat)) y) x
noncomputable def pg {α:Type} (l:List α):Nat->Option α:=
 List.rec (motive:=fun _=>Nat->Option α) (fun _=>none) (fun a _ ih n=>Nat.rec (motive:=fun _=>Option α) (some a) (fun m _=>ih m) n) l
noncomputable def He {α:Type} (l:List α):Nat->List α:=
 List.rec (motive:=fun _=>Nat->List α) (fun _=>[]) (fun a t ih n=>Nat.rec (motive:=fun _=>List α) (a::t) (fun m _=>ih m) n) l
noncomputable def Hg {α:Type} (l:List α):Nat->List α:=
 List.rec (motive:=fun _=>Nat->List α) (fun _=>[]) (fun a t ih n=>Nat.rec (motive:=fun _=>List α) [] (fun m _=>a::ih m) n) l
noncomputable def jV {α:Type} (l:List α):Nat:=List.rec (motive:=fun _=>Nat) 0 (fun _ _ n=>Nat.succ n) l
def xI (k:IntKind) (a:Int):Nat:=match a with
 | .ofNat n=>n % 2 ^ k.bits
 | .negSucc n=>(Int.negSucc n % ((2 ^ k.bits:Nat):Int)).toNat
noncomputable def Nb (op:BinOp) (k:IntKind) (a b:Int):Option Value:=match b with
 | .ofNat b=>match op with
  | .shl=>some (.int k (oZ k (a * Int.ofNat (2 ^ (bif Nat.ble b k.bits then b else k.bits)))))
  | .shr=>some (.int k (a.fdiv (Int.ofNat (2 ^ (bif Nat.ble b k.bits then b else k.bits)))))
  | _=>none
 | _=>none
noncomputable def tN (op:BinOp) (k:IntKind) (a b:Int):Option Value:=match op with
 | .add=>some (.int k (oZ k (a+b)))
 | .sub=>some (.int k (oZ k (a - b)))
 | .mul=>some (.int k (oZ k (a * b)))
 | .quo=>bif E5 b 0 then none else some (.int k (oZ k (a.tdiv b)))
 | .rem=>bif E5 b 0 then none else some (.int k (a.tmod b))
 | .eql=>some (.bool (E5 a b))
 | .neq=>some (.bool (!E5 a b))
 | .lss=>some (.bool (C7 a b))
 | .leq=>some (.bool (!C7 b a))
 | .gtr=>some (.bool (C7 b a))
 | .geq=>some (.bool (!C7 a b))
 | .and=>some (.int k (oZ k (.ofNat (Nat.land (xI k a) (xI k b)))))
 | .or=>some (.int k (oZ k (.ofNat (Nat.lor (xI k a) (xI k b)))))
 | .xor=>some (.int k (oZ k (.ofNat (Nat.xor (xI k a) (xI k b)))))
 | .andNot=>some (.int k (oZ k (.ofNat (Nat.land (xI k a) (2 ^ k.bits - 1 - xI k b)))))
 | _=>none
noncomputable def HO (op:BinOp) (a b:ByteArray):Option Value:=match op with
 | .add=>bif Nat.blt (jV a.data.toList+jV b.data.toList) 4611686018427387904 then some (.string ⟨(a.data.toList++b.data.toList).toArray⟩) else none
 | .eql=>some (.bool (GG a.data.toList b.data.toList))
 | .neq=>some (.bool (!GG a.data.toList b.data.toList))
 | _=>none
inductive KO where
 | no
 | ok (v:Value) (h:KH)
 | call (f:FuncId) (args:Array Value)
section
variable (P:Program)
noncomputable def gU (t:TypeId):Option Bool:=match P.underlying t with
 | some (.struct _) | some (.array _ _)=>some true
 | some _=>some false
 | none=>none
noncomputable def dj (t:TypeId):Option Nat:=match P.info? t with
 | some i=>some i.size
 | none=>none
noncomputable def Nc (cs:Tr Value) (n:Nat):Nat->Option (List Value):=
 Nat.rec (motive:=fun _=>Nat->Option (List Value)) (fun _=>some []) (fun _ ih o=>match cs.get o with
  | some v=>match ih (Nat.succ o) with
   | some l=>some (v::l)
   | none=>none
  | none=>none) n
noncomputable def Kf (h:KH) (b:Nat):Option KB:=bif Nat.blt b h.nx&&Nat.blt b 1073741824 then h.hp.get b else none
noncomputable def Rc (ty:TypeId) (v:Value) (h:KH):KO:=match v with
 | .pointer (some ⟨b,o,none⟩)=>match Kf h b with
  | some B=>match gU P ty with
   | some true=>match dj P ty with
    | some n=>bif Nat.ble (o+n) B.len then (match Nc B.cs n o with
     | some l=>.ok (.agg l.toArray) h
     | none=>.no) else .no
    | none=>.no
   | some false=>bif Nat.blt o B.len then (match B.cs.get o with
    | some v=>.ok v h
    | none=>.no) else .no
   | none=>.no
  | none=>.no
 | _=>.no
noncomputable def zH (v:Value):Bool:=match v with
 | .agg _=>false
 | .tuple _=>false
 | _=>true
noncomputable def j5 (l:List Value):Bool:=List.rec (motive:=fun _=>Bool) true (fun v _ r=>Bool.rec (motive:=fun _=>Bool) false r (zH v)) l
noncomputable def Rd (vs:List Value):Tr Value->Nat->Tr Value:=
 List.rec (motive:=fun _=>Tr Value->Nat->Tr Value) (fun t _=>t) (fun v _ ih t o=>aiY v fun v=>(t.put 40 o (some v)).now fun t=>ih t (Nat.succ o)) vs
noncomputable def JK (b o:Nat) (vs:List Value) (v:Value) (h:KH):KO:=match Kf h b with
 | some B=>bif Nat.ble (o+jV vs) B.len&&Nat.blt B.len 1073741824&&j5 vs then
   (Rd vs B.cs o).now fun cs=>(h.hp.put 40 b (some ⟨cs,B.len,B.elem,B.gW⟩)).now fun hp=>rm (Nat.lor h.wr (2 ^ b)) fun wr=>.ok v ⟨hp,h.nx,wr⟩
  else .no
 | none=>.no
noncomputable def QO (ty:TypeId) (a x:Value) (h:KH):KO:=match a with
 | .pointer (some ⟨b,o,none⟩)=>match dj P ty with
  | some n=>bif Nat.beq (jV x.cells.toList) n then JK b o x.cells.toList undef h else .no
  | none=>.no
 | _=>.no
noncomputable def CI (cs:List Value) (elem:TypeId) (gW:Bool) (k:Nat->Value) (h:KH):KO:=
 rm (jV cs) fun n=>bif Nat.blt n 1073741824&&Nat.blt h.nx 1073741824 then
  (Rd cs .lf 0).now fun t=>(h.hp.put 40 h.nx (some ⟨t,n,elem,gW⟩)).now fun hp=>rm (Nat.succ h.nx) fun nx=>.ok (k h.nx) ⟨hp,nx,h.wr⟩
 else .no
noncomputable def ptrTo (b:Nat):Value:=.pointer (some ⟨b,0,none⟩)
def flat:Value->Bool
 | .bool _ | .int _ _ | .float _ _ | .complex _ _ _ | .string _ | .pointer none | .slice none _ _ | .map none | .chan none | .nilFunc | .nilIface=>true
 | _=>false
def Nw (l:List Value):Bool:=l.all flat
def tp:Operand->Bool
 | .tmp _ | .func _=>true
 | .const v=>flat v
 | .global _=>false
noncomputable def fQ (t:TypeId):Option (List Value):=match P.info? t with
 | some i=>match i.zero with
  | some z=>bif Nw z.cells.toList then some z.cells.toList else none
  | none=>none
 | none=>none
noncomputable def eO (z:List Value) (n:Nat):List Value:=Nat.rec (motive:=fun _=>List Value) [] (fun _ l=>z++l) n
noncomputable def GH (cs:List Value) (o:Nat) (vs:List Value):List Value:=Hg cs o++(vs++He cs (o+jV vs))
noncomputable def AN (place:Nat->Option (Nat × Nat)) (parts:List (Nat × Value)):List Value->Option (List Value):=
 List.rec (motive:=fun _=>List Value->Option (List Value)) (fun cs=>some cs) (fun p _ ih cs=>match place p.1 with
  | some (off,size)=>bif Nat.beq (jV p.2.cells.toList) size&&Nat.ble (off+size) (jV cs) then ih (GH cs off p.2.cells.toList) else none
  | none=>none) parts
noncomputable def Jz (fs:List Field):Option (List (Nat × Nat)):=
 List.rec (motive:=fun _=>Option (List (Nat × Nat))) (some []) (fun f _ r=>match dj P f.type,r with
  | some n,some l=>some ((f.offset,n)::l)
  | _,_=>none) fs
noncomputable def fH (t:TypeId) (parts:List (Nat × Value)) (h:KH):KO:=match fQ P t,P.underlying t with
 | some z,some (.struct fs)=>match Jz P fs.toList with
  | some pl=>match AN (fun i=>pg pl i) parts z with
   | some cs=>.ok (.agg cs.toArray) h
   | none=>.no
  | none=>.no
 | some z,some (.array _ e)=>match dj P e with
  | some n=>match AN (fun i=>some (i * n,n)) parts z with
   | some cs=>.ok (.agg cs.toArray) h
   | none=>.no
  | none=>.no
 | _,_=>.no
noncomputable def Wf (t:TypeId) (len:Nat) (parts:List (Nat × Value)) (h:KH):KO:=match P.underlying t with
 | some (.slice e)=>match dj P e,fQ P e with
  | some n,some z=>bif Nat.ble (len * n) 16777216&&Nat.blt 0 n&&Nat.beq (jV z) n then (match AN (fun i=>some (i * n,n)) parts (eO z len) with
   | some cs=>CI cs e false (fun b=>.slice (some ⟨b,0,none⟩) len len) h
   | none=>.no) else .no
  | _,_=>.no
 | _=>.no
noncomputable def Wi (t:TypeId) (l c:Value) (h:KH):KO:=match P.underlying t,l,c with
 | some (.slice e),.int .i64 (.ofNat l),.int .i64 (.ofNat c)=>match P.info? e,fQ P e with
  | some i,some z=>bif Nat.ble l c&&Nat.ble (i.bytes * c) 281474976710656&&Nat.blt 0 i.size&&Nat.blt c 9223372036854775808&&Nat.beq (jV z) i.size then CI (eO z c) e false (fun b=>.slice (some ⟨b,0,none⟩) l c) h else .no
  | _,_=>.no
 | _,_,_=>.no
noncomputable def Ax (s:TypeId) (a:Value) (f:Nat) (h:KH):KO:=match a,P.underlying s with
 | .pointer (some ⟨b,o,none⟩),some (.struct fs)=>match pg fs.toList f with
  | some f=>match dj P f.type with
   | some n=>bif Nat.blt 0 n then .ok (.pointer (some ⟨b,o+f.offset,none⟩)) h else .no
   | none=>.no
  | none=>.no
 | _,_=>.no
noncomputable def Ay (t:TypeId) (x i:Value) (h:KH):KO:=match P.underlying t,x,i with
 | some (.slice e),.slice (some ⟨b,o,none⟩) n _,.int _ (.ofNat i)=>match dj P e with
  | some s=>bif Nat.blt i n then .ok (.pointer (some ⟨b,o+i * s,none⟩)) h else .no
  | none=>.no
 | some (.array n e),.pointer (some ⟨b,o,none⟩),.int _ (.ofNat i)=>match dj P e with
  | some s=>bif Nat.blt i n then .ok (.pointer (some ⟨b,o+i * s,none⟩)) h else .no
  | none=>.no
 | _,_,_=>.no
noncomputable def AP (t:TypeId) (cs:List Value) (off:Nat):Option Value:=match gU P t with
 | some true=>match dj P t with
  | some n=>some (.agg (Hg (He cs off) n).toArray)
  | none=>none
 | some false=>pg cs off
 | none=>none
noncomputable def GV (x y:Value):Option Bool:=match x,y with
 | .bool a,.bool b=>some (a==b)
 | _,_=>none
noncomputable def Hh (x y:Value):Option Bool:=match x,y with
 | .int j a,.int k b=>bif decide (j=k) then some (E5 a b) else none
 | _,_=>none
noncomputable def eqStr (x y:Value):Option Bool:=match x,y with
 | .string a,.string b=>some (GG a.data.toList b.data.toList)
 | _,_=>none
noncomputable def GI (x y:Value):Option Bool:=match x,y with
 | .slice a _ _,.slice b _ _=>bif a.isNone then some b.isNone else bif b.isNone then some false else none
 | _,_=>none
noncomputable def Hj (x y:Value):Option Bool:=match x,y with
 | .pointer a,.pointer b=>bif a.isNone then some b.isNone else bif b.isNone then some false else none
 | _,_=>none
noncomputable def MG (eq:TypeId->Value->Value->Option Bool) (xs ys:List Value) (fs:List Field):Option Bool:=
 List.rec (motive:=fun _=>Option Bool) (some true) (fun f _ r=>bif decide (f.name= "_") then none else match AP P f.type xs f.offset,AP P f.type ys f.offset with
  | some a,some b=>match eq f.type a b with
   | some true=>r
   | some false=>some false
   | none=>none
  | _,_=>none) fs
noncomputable def wH (d:Nat):TypeId->Value->Value->Option Bool:=
 Nat.rec (motive:=fun _=>TypeId->Value->Value->Option Bool) (fun _ _ _=>none) (fun _ eq t x y=>match P.underlying t with
  | some .bool=>GV x y
  | some (.int _)=>Hh x y
  | some .string=>eqStr x y
  | some (.slice _)=>GI x y
  | some (.pointer _)=>Hj x y
  | some (.struct fs)=>match x,y with
   | .agg xs,.agg ys=>bif P.stoodInHeld t||P.eqGuardType P.depth t then none else MG P eq xs.toList ys.toList fs.toList
   | _,_=>none
  | _=>none) d
noncomputable def mh (op:BinOp) (t:TypeId) (x y:Value):Option Value:=match x,y with
 | .int k a,.int k' b=>match op with
  | .shl=>Nb .shl k a b
  | .shr=>Nb .shr k a b
  | op=>bif decide (k=k') then tN op k a b else none
 | .string a,.string b=>HO op a b
 | .int _ _,_=>none
 | .string _,_=>none
 | x,y=>match op with
  | .eql=>(wH P 10000 t x y).map .bool
  | .neq=>(wH P 10000 t x y).map fun b=>.bool (!b)
  | _=>none
noncomputable def AH (t:TypeId) (x:Value) (f:Nat) (h:KH):KO:=match x,P.underlying t with
 | .agg cs,some (.struct fs)=>match pg fs.toList f with
  | some f=>match AP P f.type cs.toList f.offset with
   | some v=>.ok v h
   | none=>.no
  | none=>.no
 | _,_=>.no
noncomputable def xA (t:TypeId) (x i:Value) (h:KH):KO:=match P.underlying t,x,i with
 | some .string,.string s,.int _ (.ofNat i)=>match pg s.data.toList i with
  | some c=>.ok (.int .u8 (.ofNat c.toNat)) h
  | none=>.no
 | some (.array n e),.agg cs,.int _ (.ofNat i)=>match dj P e with
  | some s=>bif Nat.blt i n then (match AP P e cs.toList (i * s) with
   | some v=>.ok v h
   | none=>.no) else .no
  | none=>.no
 | _,_,_=>.no
noncomputable def nf (x:Option Value) (d:Nat) (k:Nat->KO):KO:=match x with
 | none=>k d
 | some (.int _ (.ofNat n))=>k n
 | _=>.no
noncomputable def lT (t:TypeId) (x:Value) (lo hi mx:Option Value) (h:KH):KO:=match P.underlying t,x,mx with
 | some .string,.string s,none=>nf lo 0 fun l=>nf hi (jV s.data.toList) fun r=>
   bif Nat.ble l r&&Nat.ble r (jV s.data.toList) then .ok (.string ⟨(Hg (He s.data.toList l) (r - l)).toArray⟩) h else .no
 | some (.slice e),.slice none n c,none=>match dj P e with
  | some _=>nf lo 0 fun l=>nf hi n fun r=>bif Nat.ble l r&&Nat.ble r c&&Nat.beq c 0 then .ok (.slice none (r - l) (c - l)) h else .no
  | none=>.no
 | some (.slice e),.slice (some ⟨b,o,none⟩) n c,none=>match dj P e with
  | some s=>nf lo 0 fun l=>nf hi n fun r=>
   bif Nat.ble l r&&Nat.ble r c then (bif Nat.blt l c||Nat.beq l 0 then .ok (.slice (some ⟨b,o+l * s,none⟩) (r - l) (c - l)) h else .ok (.slice (some ⟨b,o,some 0⟩) (r - l) 0) h) else .no
  | none=>.no
 | some (.slice e),.slice (some ⟨b,o,some s⟩) n _,none=>match dj P e with
  | some _=>nf lo 0 fun l=>nf hi n fun r=>bif Nat.beq l 0&&Nat.beq r 0 then .ok (.slice (some ⟨b,o,some s⟩) 0 0) h else .no
  | none=>.no
 | some (.slice e),.slice (some ⟨b,o,none⟩) n c,some m=>match dj P e with
  | some _=>nf lo 0 fun l=>nf (some (hi.getD undef)) n fun r=>nf (some m) c fun m=>bif Nat.ble l r&&Nat.ble r m&&Nat.ble m c then .ok (.slice (some ⟨b,o,some 0⟩) (r - l) 0) h else .no
  | none=>.no
 | _,_,_=>.no
noncomputable def Y0 (size:Nat) (x:Value) (h:KH):Option (Nat × List Value):=match x with
 | .slice none n _=>bif Nat.beq n 0 then some (0,[]) else none
 | .slice (some ⟨b,o,none⟩) n _=>match Kf h b with
  | some B=>bif Nat.ble (o+n * size) B.len then (match Nc B.cs (n * size) o with
   | some l=>some (n,l)
   | none=>none) else none
  | none=>none
 | _=>none
noncomputable def Re (e:TypeId) (size sl n b:Nat) (B:KB) (new:List Value) (h:KH):KO:=
 bif Nat.blt ((sl+n) * size) 1073741824&&Nat.blt h.nx 1073741824 then
  (Rd new B.cs (sl * size)).now fun cs=>rm ((sl+n) * size) fun len=>(h.hp.put 40 b none).now fun hp=>(hp.put 40 h.nx (some ⟨cs,len,e,true⟩)).now fun hp=>rm (Nat.lor h.wr (2 ^ b)) fun wr=>rm (Nat.succ h.nx) fun nx=>
   .ok (.slice (some ⟨h.nx,0,none⟩) (sl+n) (sl+n)) ⟨hp,nx,wr⟩
 else .no
noncomputable def QC (t:TypeId) (s x:Value) (h:KH):KO:=match P.underlying t with
 | some (.slice e)=>match P.info? e,fQ P e with
  | some i,some z=>match Y0 i.size x h with
   | some (n,new)=>bif Nat.beq (jV z) i.size&&Nat.blt (n * i.bytes) 140737488355328&&Nat.blt n 9223372036854775808&&Nat.blt 0 i.bytes then (match s with
    | .slice none sl sc=>bif Nat.beq sl 0&&Nat.beq sc 0 then
      (bif Nat.beq n 0 then .ok s h else CI new e true (fun b=>.slice (some ⟨b,0,none⟩) n n) h) else .no
    | .slice (some ⟨b,o,none⟩) sl sc=>match Kf h b with
     | some B=>bif Nat.ble (sl+n) sc then
       (bif Nat.ble (o+sc * i.size) B.len then JK b (o+sl * i.size) new (.slice (some ⟨b,o,none⟩) (sl+n) sc) h else .no)
      else bif Nat.blt ((sl+n) * i.bytes) 140737488355328&&Nat.blt (sl+n) 9223372036854775808&&Nat.beq (o+sc * i.size) B.len&&Nat.ble sl sc&&Nat.beq B.elem e then
       (bif B.gW then
         -- in its place,or not:apW reads E6 aE block any more
         (bif Nat.beq o 0&&j5 new then Re e i.size sl n b B new h else .no)
        else (match Nc B.cs (sl * i.size) o with
         | some aE=>CI (aE++new) e true (fun b=>.slice (some ⟨b,0,none⟩) (sl+n) (sl+n)) h
         | none=>.no))
      else .no
     | none=>.no
    | _=>.no) else .no
   | none=>.no
  | _,_=>.no
 | _=>.no
noncomputable def Rf (t:TypeId) (d x:Value) (h:KH):KO:=match P.underlying t with
 | some (.slice e)=>match dj P e,d,x with
  | some size,.slice (some ⟨b,o,none⟩) dn _,.slice (some ⟨b2,o2,none⟩) n _=>rm (bif Nat.ble n dn then n else dn) fun m=>match Kf h b2 with
   | some B=>bif Nat.ble (o2+m * size) B.len then (match Nc B.cs (m * size) o2 with
    | some l=>JK b o l (.int .i64 (.ofNat m)) h
    | none=>.no) else .no
   | none=>.no
  | some _,.slice a dn _,.slice a2 n _=>bif Nat.beq dn 0||Nat.beq n 0 then .ok (.int .i64 (.ofNat 0)) h else .no
  | _,_,_=>.no
 | _=>.no
noncomputable def wo (t:TypeId) (x:Value) (h:KH):KO:=match P.underlying t,x with
 | some .string,.string s=>.ok (.int .i64 (.ofNat (jV s.data.toList))) h
 | some (.slice _),.slice _ n _=>.ok (.int .i64 (.ofNat n)) h
 | _,_=>.no
noncomputable def xS (mx:Bool) (x y:Value) (h:KH):KO:=match x,y with
 | .int k a,.int _ b=>bif mx then .ok (.int k (bif C7 a b then b else a)) h else .ok (.int k (bif C7 b a then b else a)) h
 | _,_=>.no
noncomputable def JL (l:List Value):Option (List Int):=List.rec (motive:=fun _=>Option (List Int)) (some []) (fun v _ r=>match v,r with
 | .int .u8 n,some l=>some (n::l)
 | _,_=>none) l
noncomputable def Wv (x:Value) (h:KH):KO:=match Y0 1 x h with
 | some (_,l)=>match JL l with
  | some ns=>.ok (.string ⟨(List.rec (motive:=fun _=>List UInt8) [] (fun n _ r=>UInt8.ofNat n.toNat::r) ns).toArray⟩) h
  | none=>.no
 | none=>.no
noncomputable def Yg (src dst:TypeId) (x:Value) (h:KH):KO:=match P.underlying src,P.underlying dst,x with
 | some (.int _),some (.int k),.int _ n=>.ok (.int k (oZ k n)) h
 | some (.slice e),some .string,x=>match P.underlying e with
  | some (.int .u8)=>Wv x h
  | _=>.no
 | _,_,_=>.no
noncomputable def C8 (op:UnOp) (x:Value) (h:KH):KO:=match op,x with
 | .not,.bool b=>.ok (.bool (!b)) h
 | .neg,.int k n=>.ok (.int k (oZ k (0 - n))) h
 | _,_=>.no
noncomputable def xJ (f:Value) (args:Array Value):KO:=match f with
 | .func (.func g) first cap=>match P.funcs[g]? with
  | some fn=>bif decide (fn.name= "runtime.NumGoroutine")||fn.body.isNone then .no else .call g ((first.toList++args.toList)++cap.toList).toArray
  | none=>.no
 | _=>.no
noncomputable def biK (b:Builtin) (ts:Array TypeId) (args:List Value) (h:KH):KO:=match b,args with
 | .len,[x]=>match ts.toList with
  | t::_=>wo P t x h
  | _=>.no
 | .append,[s,x]=>match ts.toList with
  | [t,t2]=>match P.underlying t2 with
   | some (.slice _)=>QC P t s x h
   | _=>.no
  | _=>.no
 | .copy,[d,x]=>match ts.toList with
  | t::_=>Rf P t d x h
  | _=>.no
 | .min,[x,y]=>xS false x y h
 | .max,[x,y]=>xS true x y h
 | _,_=>.no
noncomputable def Cu (c a b:Value) (h:KH):KO:=match c with
 | .bool c=>.ok (Bool.rec (motive:=fun _=>Value) b a c) h
 | _=>.no
noncomputable def CJ (x:Value) (h:KH):KO:=match x with
 | .pointer (some a)=>.ok x h
 | .func (.func _) _ _=>.ok x h
 | _=>.no
noncomputable def eB (op:BinOp) (t:TypeId) (x y:Value) (h:KH):KO:=match mh P op t x y with
 | some v=>.ok v h
 | none=>.no
noncomputable def pk (ev:Operand->Value) (l:List Operand):List Value:=List.rec (motive:=fun _=>List Value) [] (fun x _ r=>ev x::r) l
noncomputable def Hl (ev:Operand->Value) (c:Call) (h:KH):KO:=match c.callee with
 | .value f=>xJ P (ev f) (pk ev c.args.toList).toArray
 | .builtin b=>biK P b c.argTypes (pk ev c.args.toList) h
 | _=>.no
noncomputable def parts (ev:Operand->Value) (l:List (Nat × Operand)):List (Nat × Value):=List.rec (motive:=fun _=>List (Nat × Value)) [] (fun x _ r=>(x.1,ev x.2)::r) l
noncomputable def XV (t:TypeId) (h:KH):KO:=match fQ P t with
 | some z=>CI z t false ptrTo h
 | none=>.no
noncomputable def AA (x:Value) (i:Nat) (h:KH):KO:=match x with
 | .tuple vs=>match pg vs.toList i with
  | some v=>.ok v h
  | none=>.no
 | _=>.no
noncomputable def K1 (ev:Operand->Value) (op:Op) (h:KH):KO:=match op with
 | .move x=>.ok (ev x) h
 | .assign x=>.ok (ev x) h
 | .pick c a b=>Cu (ev c) (ev a) (ev b) h
 | .alloc t=>XV P t h
 | .box t x=>CI (ev x).cells.toList t false ptrTo h
 | .build t ps=>fH P t (parts ev ps.toList) h
 | .buildSlice t n ps=>Wf P t n (parts ev ps.toList) h
 | .load t a=>Rc P t (ev a) h
 | .store t a x=>QO P t (ev a) (ev x) h
 | .nilCheck x=>CJ (ev x) h
 | .binOp op t x y _=>eB P op t (ev x) (ev y) h
 | .unOp op _ x=>C8 op (ev x) h
 | .convert s d x=>Yg P s d (ev x) h
 | .makeFunc f first cap=>.ok (.func f (pk ev first.toList).toArray (pk ev cap.toList).toArray) h
 | .makeSlice t l c=>Wi P t (ev l) (ev c) h
 | .slice t x lo hi mx=>lT P t (ev x) (lo.map ev) (hi.map ev) (mx.map ev) h
 | .fieldAddr s x f=>Ax P s (ev x) f h
 | .field t x f=>AH P t (ev x) f h
 | .indexAddr t x i=>Ay P t (ev x) (ev i) h
 | .index t x i=>xA P t (ev x) (ev i) h
 | .extract t i=>AA (ev t) i h
 | .call c=>Hl P ev c h
 | _=>.no
abbrev Lg:=List (Nat × Array Value × Value)
inductive CR where
 | no (why:Nat)
 | zR (tm:Tr Value) (h:KH) (g:Lg)
 | ret (tm:Tr Value) (h:KH) (g:Lg)
 | ext (id:Nat) (tm:Tr Value) (h:KH) (g:Lg)
structure Ov where
 fn:Nat
 arg:Nat
 val:Nat
 may:Nat
 nt:FuncId->Array Value->KH->Option (Value × KH)
def JA (n:Nat) (ops:Array Oper):Bool:=ops.toList.all fun o=>o.op.operands.all tp&&(match o.dst with
 | some d=>Nat.blt d n
 | none=>true)
def qZ (ops:Array Oper) (k:Nat):List Nat:=
 match ops[k]? with
 | some o=>(o.after.toList.filter fun e=>Region.binds .any e).map (·.on)
 | none=>[]
def xT (ops:Array Oper):Nat->List Nat
 | 0=>[]
 | n+1=>xT ops n++[(qZ ops n).foldl (fun s e=>s ||| (2 ^ e ||| (xT ops n).getD e 0)) 0]
def XW (ops:Array Oper) (m:List Nat) (i k:Nat):Bool:=
 (m.getD k 0).testBit i||match ops[i]?,ops[k]? with
  | some x,some y=>x.apart ops y
  | _,_=>true
def MK (ops:Array Oper):Bool:=
 (List.range ops.size).all fun k=>(qZ ops k).all (fun e=>decide (e < k))&&(List.range k).all fun i=>XW ops (xT ops ops.size) i k
noncomputable def HR (l:List Value):Value:=match l with
 | [v]=>v
 | l=>.tuple l.toArray
end
structure Loc where
 ba:Nat
 base:Nat
 room:Nat
 /-- It aiZ in:it is read alone,and others may lie Es it Y1 are read alone. -/
 ro:Bool:=false
 /-- It is a map. -/
 mp:Bool:=false
abbrev bw:=Nat->Option Loc
structure ct where
 cells:List Value
 elem:TypeId
 gW:Bool
 /-- It aiZ in:it is read alone. -/
 ro:Bool:=false
inductive VR (σ:bw):Value->Value->Prop
 | same {v:Value}:flat v=true->VR σ v v
 | ptr {b o:Nat} {l:Loc}:(σ b=some l/\l.mp=false)->VR σ (.pointer (some ⟨b,o,none⟩)) (.pointer (some ⟨l.ba,l.base+o,none⟩))
 | slice {b o n c:Nat} {l:Loc}:(σ b=some l/\l.mp=false)->VR σ (.slice (some ⟨b,o,none⟩) n c) (.slice (some ⟨l.ba,l.base+o,none⟩) n (c+l.room))
 | map {b:Nat} {l:Loc}:(σ b=some l/\l.mp=true)->VR σ (.map (some b)) (.map (some l.ba))
 | yu {b o s n k c:Nat} {a:Addr}:VR σ (.slice (some ⟨b,o,some s⟩) n k) (.slice (some a) n c)
 | func {fn:Fn} {f f' c c':Array Value}:f.size=f'.size->c.size=c'.size->(∀i,i < f.size->VR σ (f.getD i undef) (f'.getD i undef))->
   (∀i,i < c.size->VR σ (c.getD i undef) (c'.getD i undef))->VR σ (.func fn f c) (.func fn f' c')
 | agg {a a':Array Value}:a.size=a'.size->(∀i,i < a.size->VR σ (a.getD i undef) (a'.getD i undef))->VR σ (.agg a) (.agg a')
 | tuple {a a':Array Value}:a.size=a'.size->(∀i,i < a.size->VR σ (a.getD i undef) (a'.getD i undef))->VR σ (.tuple a) (.tuple a')
theorem VR.mono {σ σ':bw} {v v':Value} (h:VR σ v v') (hs:∀b l,σ b=some l->σ' b=some l):VR σ' v v':=by
 induction h with
 | same h=>exact .same h
 | ptr h=>exact .ptr ⟨hs _ _ h.1,h.2⟩
 | slice h=>exact .slice ⟨hs _ _ h.1,h.2⟩
 | map h=>exact .map ⟨hs _ _ h.1,h.2⟩
 | yu=>exact .yu
 | func h1 h2 _ _ ih1 ih2=>exact .func h1 h2 ih1 ih2
 | agg h _ ih=>exact .agg h ih
 | tuple h _ ih=>exact .tuple h ih
theorem VR.undef (σ:bw):VR σ undef undef:=.tuple rfl (fun i h=>absurd h (by simp))
def sw (σ:bw) (a a':Array Value):Prop:=a.size=a'.size/\∀i,i < a.size->VR σ (a.getD i undef) (a'.getD i undef)
theorem Wj {a:Array Value} {i:Nat} (h:¬i < a.size):a.getD i undef=undef:=by simp [Array.getD,h]
theorem sw.at {σ:bw} {a a':Array Value} (h:sw σ a a') (i:Nat):VR σ (a.getD i undef) (a'.getD i undef):=by
 by_cases hi:i < a.size
 ·exact h.2 i hi
 ·rw [Wj hi,Wj (by rw [<-h.1];exact hi)];exact .undef σ
theorem sw.mono {σ σ':bw} {a a':Array Value} (h:sw σ a a') (hs:∀b l,σ b=some l->σ' b=some l):sw σ' a a':=
 ⟨h.1,fun i hi=>(h.2 i hi).mono hs⟩
def uH (kv:List (Int × Int)):List Value:=kv.flatMap fun p=>[.int .i64 p.1,.int .i64 p.2]
def Et (es:Array MapEntry) (kv:List (Int × Int)):Prop:=es.toList.map (fun e=>(e.key,e.val))=kv.map fun p=>(.int .i64 p.1,.int .i64 p.2)
structure BR (P:Program) (σ:bw) (B:ct) (l:Loc) (w:World):Prop where
 map:l.mp=true->∃(es:Array MapEntry) (ck:Nat) (kv:List (Int × Int)),w.heap[l.ba]?=some (.map es ck)/\Et es kv/\B.cells=uH kv
 fh:l.mp=false->∃(cs:Array Value) (e:TypeId) (fr:Nat × Nat),w.heap[l.ba]?=some (.cells cs e fr)/\l.base+B.cells.length<=cs.size/\
  (∀i,i < B.cells.length->VR σ (B.cells.getD i undef) (cs.getD (l.base+i) undef))/\
  (l.ro=false->e=B.elem/\fr=(0,0)/\cs.size=l.base+B.cells.length+l.room * P.cellsOf B.elem)
 room:B.gW=false->l.room=0
 own:B.ro=false->l.ro=false
theorem BR.cs {P:Program} {σ:bw} {B:ct} {l:Loc} {w:World} (h:BR P σ B l w) (ho:B.ro=false) (hm:l.mp=false):∃cs:Array Value,w.heap[l.ba]?=some (.cells cs B.elem (0,0))/\cs.size=l.base+B.cells.length+l.room * P.cellsOf B.elem/\
  ∀i,i < B.cells.length->VR σ (B.cells.getD i undef) (cs.getD (l.base+i) undef):=by
 obtain ⟨cs,e,fr,h1,h2,h3,h4⟩:=h.fh hm
 obtain ⟨rfl,rfl,h5⟩:=h4 (h.own ho)
 exact ⟨cs,h1,h5,h3⟩
theorem BR.mk' {P:Program} {σ:bw} {B:ct} {l:Loc} {w:World} (h:∃cs:Array Value,w.heap[l.ba]?=some (.cells cs B.elem (0,0))/\cs.size=l.base+B.cells.length+l.room * P.cellsOf B.elem/\
  ∀i,i < B.cells.length->VR σ (B.cells.getD i undef) (cs.getD (l.base+i) undef)) (hr:B.gW=false->l.room=0) (ho:B.ro=false->l.ro=false) (hm:l.mp=false):BR P σ B l w:=by
 obtain ⟨cs,h1,h2,h3⟩:=h
 exact ⟨fun e=>(by rw [hm] at e;cases e),fun _=>⟨cs,_,_,h1,by omega,h3,fun _=>⟨rfl,rfl,h2⟩⟩,hr,ho⟩
theorem BR.lt {P:Program} {σ:bw} {B:ct} {l:Loc} {w:World} (h:BR P σ B l w):l.ba < w.heap.size:=by
 cases hm:l.mp
 ·obtain ⟨cs,e,fr,h,_⟩:=h.fh hm
  exact (Array.getElem?_eq_some_iff.1 h).1
 ·obtain ⟨es,ck,kv,h,_⟩:=h.map hm
  exact (Array.getElem?_eq_some_iff.1 h).1
theorem BR.move {P:Program} {σ σ':bw} {B:ct} {l:Loc} {w w':World} (h:BR P σ B l w) (hs:∀b l,σ b=some l->σ' b=some l)
  (hw:w'.heap[l.ba]?=w.heap[l.ba]?):BR P σ' B l w':=by
 refine ⟨fun hm=>?_,fun hm=>?_,h.room,h.own⟩
 ·rw [hw];exact h.map hm
 ·obtain ⟨cs,e,fr,h1,h2,h3,h4⟩:=h.fh hm
  exact ⟨cs,e,fr,hw▸h1,h2,fun i hi=>(h3 i hi).mono hs,h4⟩
structure Rel (P:Program) (σ:bw) (F:Nat->Prop) (g:Nat->Option ct) (w:World):Prop where
 ba:∀b l B,F b->σ b=some l->g b=some B->BR P σ B l w
 inj:∀b b' l l',F b->F b'->σ b=some l->σ b'=some l'->(g b).isSome=true->(g b').isSome=true->l.ro=false->l'.ro=false->l.ba=l'.ba->b=b'
 sep:∀b b' l l',F b->σ b=some l->σ b'=some l'->(g b).isSome=true->l.ro=false->l'.ro=true->l.ba≠l'.ba
 aE:∀b l,σ b=some l->l.ro=true->l.ba < w.heap.size
theorem Rel.sub {P:Program} {σ:bw} {F F':Nat->Prop} {g:Nat->Option ct} {w:World} (h:Rel P σ F g w) (hF:∀b,F' b->F b):Rel P σ F' g w:=
 ⟨fun b l B hb=>h.ba b l B (hF b hb),fun b b' l l' hb dT=>h.inj b b' l l' (hF b hb) (hF b' dT),fun b b' l l' hb=>h.sep b b' l l' (hF b hb),h.aE⟩
theorem Rel.Y2 {P:Program} {σ:bw} {F:Nat->Prop} {g g':Nat->Option ct} {w:World} (h:Rel P σ F g w) (hg:∀b,F b->∀l,σ b=some l->(g' b).isSome=true->g' b=g b):Rel P σ F g' w:=
 ⟨fun b l B hb hs hB=>h.ba b l B hb hs (by rw [<-hg b hb l hs (by rw [hB];rfl)];exact hB),fun b b' l l' hb dT hs cZ hi ep=>h.inj b b' l l' hb dT hs cZ ((hg b hb l hs hi)▸hi) ((hg b' dT l' cZ ep)▸ep),
  fun b b' l l' hb hs cZ hi=>h.sep b b' l l' hb hs cZ ((hg b hb l hs hi)▸hi),h.aE⟩
def zT (σ:bw) (F:Nat->Prop) (g:Nat->Option ct) (k:Nat):Prop:=∃b l,F b/\σ b=some l/\(g b).isSome=true/\l.ro=false/\l.ba=k
structure ad where
 next:Nat
 get:Nat->Option ct
 /-- apX Y1 a call auF leave as auG are (told beside;E6 model ar4 nothing of it). -/
 fz:Nat->Bool:=fun _=>false
def ad.wf (H:ad):Prop:=∀b,H.next<=b->H.get b=none
def fresh (H H':ad) (b:Nat):Prop:=H.next<=b/\b < H'.next
structure iR (F:Nat->Prop) (H H':ad):Prop where
 next:H.next<=H'.next
 wf:H'.wf
 same:∀b,b < H.next->¬F b->H'.get b=H.get b
def qk (σ:bw) (H H':ad):Prop:=∀b,fresh H H' b->σ b=none
structure jg (P:Program) (F:Nat->Prop) (σ:bw) (H:ad) (w:World) (σ':bw) (H':ad) (w':World):Prop where
 rel:Rel P σ' (fun b=>F b∨fresh H H' b) H'.get w'
 ext:∀b,¬fresh H H' b->σ' b=σ b
 size:w.heap.size<=w'.heap.size
 ae:∀k,k < w.heap.size->¬zT σ F H.get k->w'.heap[k]?=w.heap[k]?
 oI:∀k,k < w.heap.size->zT σ' (fun b=>F b∨fresh H H' b) H'.get k->zT σ F H.get k
 ua:∀b l,fresh H H' b->σ' b=some l->l.ro=false
 rest:w'.os=w.os/\w'.tape=w.tape/\w'.output=w.output
theorem jg.up {P:Program} {F:Nat->Prop} {σ:bw} {H:ad} {w:World} {σ':bw} {H':ad} {w':World} (h:jg P F σ H w σ' H' w')
  (hf:qk σ H H'):∀b l,σ b=some l->σ' b=some l:=fun b l hb=>by
 by_cases hx:fresh H H' b
 ·rw [hf b hx] at hb;cases hb
 ·rw [h.ext b hx];exact hb
def dN:Nat->Prop:=fun _=>True
theorem GJ (H:ad) (b:Nat):¬fresh H H b:=fun x=>by have:=x.1;have:=x.2;omega
theorem jg.refl {P:Program} {F:Nat->Prop} {σ:bw} {H:ad} {w w':World} (h:Rel P σ F H.get w) (hw:w'.heap=w.heap) (Eb:w'.os=w.os/\w'.tape=w.tape/\w'.output=w.output:=by exact ⟨rfl,rfl,rfl⟩):jg P F σ H w σ H w' where
 rel:=⟨fun b l B hb hs hg=>(h.ba b l B (hb.resolve_right (GJ H b)) hs hg).move (fun _ _ h=>h) (by rw [hw]),
  fun b b' l l' hb dT=>h.inj b b' l l' (hb.resolve_right (GJ H b)) (dT.resolve_right (GJ H b')),fun b b' l l' hb=>h.sep b b' l l' (hb.resolve_right (GJ H b)),fun b l hs ho=>by rw [hw];exact h.aE b l hs ho⟩
 ext:=fun _ _=>rfl
 size:=by rw [hw];exact Nat.le_refl _
 ae:=fun k _ _=>by rw [hw]
 oI:=fun k _ ⟨b,l,hb,h1⟩=>⟨b,l,hb.resolve_right (GJ H b),h1⟩
 ua:=fun b l hb=>absurd hb (GJ H b)
 rest:=Eb
theorem jg.trans {P:Program} {σ σ1 σ2:bw} {H H1 H2:ad} {w w1 w2:World} (n1:H.next<=H1.next) (n2:H1.next<=H2.next)
  (p:jg P dN σ H w σ1 H1 w1) (q:jg P dN σ1 H1 w1 σ2 H2 w2):jg P dN σ H w σ2 H2 w2 where
 rel:=q.rel.sub fun b _=>.inl trivial
 ext:=fun b hb=>by
  rw [q.ext b (fun x=>hb ⟨Nat.le_trans n1 x.1,x.2⟩),p.ext b (fun x=>hb ⟨x.1,Nat.lt_of_lt_of_le x.2 n2⟩)]
 size:=Nat.le_trans p.size q.size
 ae:=fun k hk hi=>by
  rw [q.ae k (Nat.lt_of_lt_of_le hk p.size) (fun ⟨b,l,_,hx⟩=>hi (p.oI k hk ⟨b,l,.inl trivial,hx⟩)),p.ae k hk hi]
 oI:=fun k hk ⟨b,l,hb,hx⟩=>by
  obtain ⟨b1,l1,_,fW⟩:=q.oI k (Nat.lt_of_lt_of_le hk p.size) ⟨b,l,.inl trivial,hx⟩
  exact p.oI k hk ⟨b1,l1,.inl trivial,fW⟩
 ua:=fun b l hb hs=>by
  by_cases h2:fresh H1 H2 b
  ·exact q.ua b l h2 hs
  ·rw [q.ext b h2] at hs
   refine p.ua b l ⟨hb.1,?_⟩ hs
   rcases Nat.lt_or_ge b H1.next with h | h
   ·exact h
   ·exact absurd ⟨h,hb.2⟩ h2
 rest:=⟨q.rest.1.trans p.rest.1,q.rest.2.1.trans p.rest.2.1,q.rest.2.2.trans p.rest.2.2⟩
theorem qk.left {σ:bw} {H H1 H2:ad} (h:qk σ H H2) (n2:H1.next<=H2.next):qk σ H H1:=
 fun b hb=>h b ⟨hb.1,Nat.lt_of_lt_of_le hb.2 n2⟩
theorem qk.right {P:Program} {F:Nat->Prop} {σ σ1:bw} {H H1 H2:ad} {w w1:World} (h:qk σ H H2) (n1:H.next<=H1.next)
  (p:jg P F σ H w σ1 H1 w1):qk σ1 H1 H2:=fun b hb=>by
 rw [p.ext b (fun x=>by have:=x.2;have:=hb.1;omega)]
 exact h b ⟨Nat.le_trans n1 hb.1,hb.2⟩
def sx (P:Program) (F:Nat->Prop) (o:Oper) (t:Act) (H:ad) (v:Value) (H':ad):Prop:=
 ∀(σ:bw) (w:World) (a:Act) (K:Act->World->Prop) (Q:Exit->Act->World->Prop),Rel P σ F H.get w->qk σ H H'->
  (∀x∈o.op.operands,VR σ (t.eval x) (a.eval x))->
  (∀σ' v' w',jg P F σ H w σ' H' w'->VR σ' v v'->K (a.put o.dst v') w')->o.wp P a w K Q
theorem sx.wide {P:Program} {F F':Nat->Prop} {o:Oper} {t:Act} {H:ad} {v:Value} {H':ad} (hw:H.wf) (hs:iR F H H')
  (hF:∀b,F b->F' b) (h:sx P F o t H v H'):sx P F' o t H v H':=by
 intro σ w a K Q hr hf hx hk
 refine h σ w a K Q (hr.sub hF) hf hx ?_
 intro σ' v' w' hp hv
 have uW:=hp.up hf
 have aE:∀b,F' b->¬F b->¬fresh H H' b->(H'.get b).isSome=true->H'.get b=H.get b:=fun b _ hn i4 hi=>by
  by_cases aZ:b < H.next
  ·exact hs.same b aZ hn
  ·exfalso
   have:¬b < H'.next:=fun hb=>i4 ⟨by omega,hb⟩
   rw [hs.wf b (by omega)] at hi;cases hi
 have apart:∀b l,F' b->¬F b->¬fresh H H' b->σ' b=some l->(H'.get b).isSome=true->l.ba < w.heap.size/\¬zT σ F H.get l.ba:=fun b l h1 h2 h3 h4 h5=>by
  have hg:=aE b h1 h2 h3 h5
  rw [hp.ext b h3] at h4
  obtain ⟨B,hB⟩:=Option.isSome_iff_exists.1 (hg▸h5)
  refine ⟨(hr.ba b l B h1 h4 hB).lt,fun ⟨b0,l0,oJ,nj,yv,K2,he⟩=>h2 ?_⟩
  cases ub:l.ro
  ·rw [<-hr.inj b0 b l0 l (hF _ oJ) h1 nj h4 yv (by rw [hB];rfl) K2 ub he];exact oJ
  ·exact absurd he (hr.sep b0 b l0 l (hF _ oJ) nj h4 yv K2 ub)
 refine hk σ' v' w' ⟨⟨?_,?_,?_,hp.rel.aE⟩,hp.ext,hp.size,fun k hk hi=>hp.ae k hk (fun ⟨b,l,hb,hx⟩=>hi ⟨b,l,hF b hb,hx⟩),?_,hp.ua,hp.rest⟩ hv
 ·intro b l B hb qx hg
  by_cases h1:F b∨fresh H H' b
  ·exact hp.rel.ba b l B h1 qx hg
  ·have h2:¬F b:=fun h=>h1 (.inl h)
   have h3:¬fresh H H' b:=fun h=>h1 (.inr h)
   have dT:F' b:=hb.resolve_right h3
   obtain ⟨aZ,lG⟩:=apart b l dT h2 h3 qx (by rw [hg];rfl)
   have bf:=aE b dT h2 h3 (by rw [hg];rfl)
   exact (hr.ba b l B dT (by rw [<-hp.ext b h3];exact qx) (by rw [<-bf];exact hg)).move uW (hp.ae _ aZ lG)
 ·intro b b' l l' hb dT qx CK hi ep ho gi he
  by_cases h1:F b∨fresh H H' b <;> by_cases lH:F b'∨fresh H H' b'
  ·exact hp.rel.inj b b' l l' h1 lH qx CK hi ep ho gi he
  ·have h3:¬fresh H H' b':=fun h=>lH (.inr h)
   obtain ⟨aZ,lG⟩:=apart b' l' (dT.resolve_right h3) (fun h=>lH (.inl h)) h3 CK ep
   exact absurd (hp.oI l'.ba aZ ⟨b,l,h1,qx,hi,ho,he⟩) lG
  ·have h3:¬fresh H H' b:=fun h=>h1 (.inr h)
   obtain ⟨aZ,lG⟩:=apart b l (hb.resolve_right h3) (fun h=>h1 (.inl h)) h3 qx hi
   exact absurd (hp.oI l.ba aZ ⟨b',l',lH,CK,ep,gi,he.symm⟩) lG
  ·have h3:¬fresh H H' b:=fun h=>h1 (.inr h)
   have E7:¬fresh H H' b':=fun h=>lH (.inr h)
   have hg:=aE b (hb.resolve_right h3) (fun h=>h1 (.inl h)) h3 hi
   have eW:=aE b' (dT.resolve_right E7) (fun h=>lH (.inl h)) E7 ep
   exact hr.inj b b' l l' (hb.resolve_right h3) (dT.resolve_right E7) (by rw [<-hp.ext b h3];exact qx) (by rw [<-hp.ext b' E7];exact CK) (hg▸hi) (eW▸ep) ho gi he
 ·intro b b' l l' hb qx CK hi ho gi
  by_cases h1:F b∨fresh H H' b
  ·exact hp.rel.sep b b' l l' h1 qx CK hi ho gi
  ·have h3:¬fresh H H' b:=fun h=>h1 (.inr h)
   have E7:¬fresh H H' b':=fun h=>by have:=hp.ua b' l' h CK;rw [gi] at this;cases this
   have hg:=aE b (hb.resolve_right h3) (fun h=>h1 (.inl h)) h3 hi
   exact hr.sep b b' l l' (hb.resolve_right h3) (by rw [<-hp.ext b h3];exact qx) (by rw [<-hp.ext b' E7];exact CK) (hg▸hi) ho gi
 ·rintro k hk ⟨b,l,hb,qx,hi,ho,he⟩
  by_cases h1:F b∨fresh H H' b
  ·obtain ⟨b0,l0,oJ,hx⟩:=hp.oI k hk ⟨b,l,h1,qx,hi,ho,he⟩
   exact ⟨b0,l0,hF b0 oJ,hx⟩
  ·have h3:¬fresh H H' b:=fun h=>h1 (.inr h)
   have dT:=hb.resolve_right h3
   exact ⟨b,l,dT,by rw [<-hp.ext b h3];exact qx,(aE b dT (fun h=>h1 (.inl h)) h3 hi)▸hi,ho,he⟩
structure TR (σ:bw) (t a:Act):Prop where
 tm:sw σ t.tmps a.tmps
 dt:t.defers=[]
 da:a.defers=[]
theorem Xs {σ:bw} {t a:Act} {x:Operand} (hx:tp x=true) (h:∀d,x=.tmp d->VR σ (t.tmps.getD d undef) (a.tmps.getD d undef)):
  VR σ (t.eval x) (a.eval x):=by
 cases x with
 | tmp d=>exact h d rfl
 | const v=>exact .same hx
 | func f=>exact .func rfl rfl (fun i h=>absurd h (by simp)) (fun i h=>absurd h (by simp))
 | global g=>cases hx
theorem aaN {σ:bw} {t a:Act} {ops:Array Oper} {j:Nat} (fC:t.tmps.size=a.tmps.size)
  (h:∀d,(ops[j]?).bind (·.dst)=some d->VR σ (t.tmps.getD d undef) (a.tmps.getD d undef)):
  yielded ops t.tmps j=yielded ops a.tmps j:=by
 unfold yielded
 cases hd:(ops[j]?).bind (·.dst) with
 | none=>rfl
 | some d=>
  have hv:=h d hd
  simp only [Option.bind_some]
  by_cases aZ:d < t.tmps.size
  ·have dG:d < a.tmps.size:=fC▸aZ
   simp only [Array.getD,aZ,dG,dif_pos] at hv
   simp only [Array.getElem?_eq_getElem aZ,Array.getElem?_eq_getElem dG]
   change VR σ t.tmps[d] a.tmps[d] at hv
   generalize t.tmps[d]=x at hv
   generalize a.tmps[d]=y at hv
   cases hv <;> rfl
  ·rw [Array.getElem?_eq_none (Nat.le_of_not_lt aZ),Array.getElem?_eq_none (by rw [<-fC];exact Nat.le_of_not_lt aZ)]
theorem Js (t:Act) (dst:Option Tmp) (v:Value) (d:Nat):(t.put dst v).tmps.getD d undef=if dst=some d/\d < t.tmps.size then v else t.tmps.getD d undef:=by
 cases dst with
 | none=>simp [Act.put]
 | some e=>
  by_cases h:e=d
  ·subst h
   by_cases aZ:e < t.tmps.size
   ·simp [Act.put,Array.getD,aZ]
   ·simp [Act.put,Array.getD,aZ]
  ·have:¬(some e=some d/\d < t.tmps.size):=fun hh=>h (Option.some.inj hh.1)
   rw [if_neg this]
   by_cases aZ:d < t.tmps.size
   ·simp [Act.put,Array.getD,aZ,Array.getElem_setIfInBounds,h]
   ·simp [Act.put,Array.getD,aZ]
theorem Jt (t:Act) (dst:Option Tmp) (v:Value):(t.put dst v).tmps.size=t.tmps.size:=by cases dst <;> simp [Act.put]
theorem Jk (t:Act) (dst:Option Tmp) (v:Value):(t.put dst v).defers=t.defers:=by cases dst <;> rfl
theorem TR.put {σ:bw} {t a:Act} (h:TR σ t a) {v v':Value} (hv:VR σ v v') (dst:Option Tmp):TR σ (t.put dst v) (a.put dst v'):=by
 refine ⟨⟨by rw [Jt,Jt];exact h.tm.1,fun i _=>?_⟩,by rw [Jk];exact h.dt,by rw [Jk];exact h.da⟩
 rw [Js,Js,<-h.tm.1]
 split
 ·exact hv
 ·exact h.tm.at i
theorem TR.mono {σ σ':bw} {t a:Act} (h:TR σ t a) (hs:∀b l,σ b=some l->σ' b=some l):TR σ' t a:=⟨h.tm.mono hs,h.dt,h.da⟩
theorem TR.ev {σ:bw} {t a:Act} (h:TR σ t a) {x:Operand} (hx:tp x=true):VR σ (t.eval x) (a.eval x):=Xs hx fun d _=>h.tm.at d
end Go.Proofs.YtinjmfblebpnnaaGreat.Ab
namespace Go.Proofs.YtinjmfblebpnnaaGreat.Ab
open Go Classical
inductive qy (ops:Array Oper) (i:Nat):Nat->Prop
 | one {k:Nat}:i∈qZ ops k->qy ops i k
 | more {j k:Nat}:qy ops i j->j∈qZ ops k->qy ops i k
theorem abf (f:Nat->Nat) (l:List Nat) (s i:Nat) (h:(l.foldl (fun s e=>s ||| f e) s).testBit i=true):s.testBit i=true∨∃e∈l,(f e).testBit i=true:=by
 induction l generalizing s with
 | nil=>exact .inl h
 | cons e l ih=>
  simp only [List.foldl_cons] at h
  rcases ih _ h with h | ⟨e',he,h⟩
  ·rw [Nat.testBit_or,Bool.or_eq_true] at h
   exact h.imp id fun h=>⟨e,by simp,h⟩
  ·exact .inr ⟨e',by simp [he],h⟩
theorem ML (ops:Array Oper) (n:Nat):(xT ops n).length=n:=by induction n <;> simp_all [xT]
theorem MM (ops:Array Oper):∀(n k i:Nat),((xT ops n).getD k 0).testBit i=true->qy ops i k
 | 0,k,i,h=>by simp [xT] at h
 | n+1,k,i,h=>by
  by_cases hk:k < n
  ·refine MM ops n k i ?_
   rw [xT,List.getD_eq_getElem?_getD,List.getElem?_append_left (by rw [ML];exact hk),<-List.getD_eq_getElem?_getD] at h
   exact h
  ·by_cases E8:k=n
   ·subst E8
    rw [xT,List.getD_eq_getElem?_getD,List.getElem?_append_right (by rw [ML];exact Nat.le_refl _),ML] at h
    simp only [Nat.sub_self,List.getElem?_cons_zero,Option.getD_some] at h
    rcases abf _ _ _ _ h with h | ⟨e,he,h⟩
    ·simp at h
    ·rw [Nat.testBit_or,Bool.or_eq_true] at h
     rcases h with h | h
     ·rw [Nat.testBit_two_pow] at h
      exact .one (by rw [<-(of_decide_eq_true h:e=i)];exact he)
     ·exact .more (MM ops k e i h) he
   ·rw [xT,List.getD_eq_getElem?_getD,List.getElem?_eq_none (by rw [List.length_append,ML];simp;omega)] at h
    simp at h
structure DV (ops:Array Oper):Prop where
 lt:∀k e,k < ops.size->e∈qZ ops k->e < k
 pair:∀i k x y,i < k->ops[i]?=some x->ops[k]?=some y->¬qy ops i k->x.apart ops y=true
theorem aaw {ops:Array Oper} (h:MK ops=true):DV ops:=by
 unfold MK at h
 rw [List.all_eq_true] at h
 refine ⟨fun k e hk he=>?_,fun i k x y K3 hx hy hb=>?_⟩
 ·have:=h k (List.mem_range.2 hk)
  rw [Bool.and_eq_true,List.all_eq_true,List.all_eq_true] at this
  exact of_decide_eq_true (this.1 e he)
 ·have hk:k < ops.size:=(Array.getElem?_eq_some_iff.1 hy).1
  have:=h k (List.mem_range.2 hk)
  rw [Bool.and_eq_true,List.all_eq_true,List.all_eq_true] at this
  have:=this.2 i (List.mem_range.2 K3)
  unfold XW at this
  rw [Bool.or_eq_true] at this
  rcases this with h1 | h1
  ·exact absurd (MM ops _ _ _ h1) hb
  ·rw [hx,hy] at h1;exact h1
def tO (P:Program) (ops:Array Oper) (F:Nat->Prop) (o:Oper) (t:Act) (H:ad) (v:Value) (H':ad):Prop:=
 if Region.wanted o (yielded ops t.tmps)=true then sx P F o t H v H' else v=undef/\H'=H
def Td (P:Program) (o:Oper) (t:Act) (H:ad) (v:Value):Prop:=
 ∀(σ:bw) (w:World) (a:Act) (K:Act->World->Prop) (Q:Exit->Act->World->Prop),Rel P σ dN H.get w->
  (∀x∈o.op.operands,VR σ (t.eval x) (a.eval x))->(∀v',VR σ v v'->K (a.put o.dst v') w)->o.wp P a w K Q
abbrev lX:=Option (Nat × (Option ct->Option Value))
def Hm (P:Program) (ops:Array Oper) (ob:lX) (F:Nat->Prop) (o:Oper) (t:Act) (H:ad) (v:Value) (H':ad):Prop:=
 ∀b π,ob=some (b,π)->H'=H/\(∀x,¬F x)/\(Region.wanted o (yielded ops t.tmps)=true->∀H2:ad,π (H2.get b)=π (H.get b)->Td P o t H2 v)/\(¬Region.wanted o (yielded ops t.tmps)=true->v=undef)
structure sy (P:Program) (ops:Array Oper) where
 t:Nat->Act
 H:Nat->ad
 v:Nat->Value
 F:Nat->Nat->Prop
 wf:(H 0).wf
 nk:Nat->lX
 step:∀(i:Nat) (o:Oper),ops[i]?=some o->nk i=none->tO P ops (F i) o (t i) (H i) (v i) (H (i+1))
 put:∀(i:Nat) (o:Oper),ops[i]?=some o->t (i+1)=(t i).put o.dst (v i)
 mw:∀i,i < ops.size->iR (F i) (H i) (H (i+1))
 gW:∀(i:Nat) (o:Oper),ops[i]?=some o->o.op.operands.all tp=true
 lt:∀i b,i < ops.size->F i b->b < (H i).next
 HS:∀(i:Nat) (o:Oper),ops[i]?=some o->Hm P ops (nk i) (F i) o (t i) (H i) (v i) (H (i+1))
structure sy.ai0 {P:Program} {ops:Array Oper} (T:sy P ops) (i k:Nat):Prop where
 c2:∀b,T.F k b->b < (T.H i).next->(T.H (i+1)).get b=(T.H i).get b
 c3:∀b,(T.F i b∨fresh (T.H i) (T.H (i+1)) b)->(T.H (k+1)).get b=(T.H k).get b
 c4:∀b π,T.nk k=some (b,π)->π ((T.H (i+1)).get b)=π ((T.H i).get b)
 c5:∀b π,T.nk i=some (b,π)->π ((T.H (k+1)).get b)=π ((T.H k).get b)
section
variable {P:Program} {ops:Array Oper} (T:sy P ops)
def xK (ops:Array Oper) (i:Nat):Option Tmp:=(ops[i]?).bind (·.dst)
noncomputable def tv (L:Nat->Prop):Nat->Nat->Value
 | 0,d=>(T.t 0).tmps.getD d undef
 | m+1,d=>if L m/\xK ops m=some d/\d < (T.t 0).tmps.size then T.v m else tv L m d
noncomputable def hv (L:Nat->Prop):Nat->Nat->Option ct
 | 0,b=>(T.H 0).get b
 | m+1,b=>if L m/\(T.H (m+1)).get b≠(T.H m).get b then (T.H (m+1)).get b else hv L m b
theorem sy.zo:∀{i k:Nat},i<=k->k<=ops.size->(T.H i).next<=(T.H k).next:=by
 intro i k h
 induction h with
 | refl=>exact fun _=>Nat.le_refl _
 | @step m hm ih=>
  intro hk
  have h1:=ih (Nat.le_of_succ_le hk)
  have h2:=(T.mw m hk).next
  exact Nat.le_trans h1 h2
theorem sy.uX (i:Nat) (hi:i<=ops.size):(T.H i).wf:=by
 cases i with
 | zero=>exact T.wf
 | succ i=>exact (T.mw i (by omega)).wf
theorem sy.size:∀(i:Nat),i<=ops.size->(T.t i).tmps.size=(T.t 0).tmps.size
 | 0,_=>rfl
 | i+1,h=>by
  have ho:ops[i]?=some ops[i]:=Array.getElem?_eq_getElem (by omega)
  rw [T.put i _ ho,Jt];exact sy.size i (by omega)
theorem sy.Y3:∀(i:Nat),i<=ops.size->(T.t i).defers=(T.t 0).defers
 | 0,_=>rfl
 | i+1,h=>by
  have ho:ops[i]?=some ops[i]:=Array.getElem?_eq_getElem (by omega)
  rw [T.put i _ ho,Jk];exact sy.Y3 i (by omega)
theorem sy.XX {i:Nat} (hi:i < ops.size) (d:Nat):(T.t (i+1)).tmps.getD d undef=if xK ops i=some d/\d < (T.t 0).tmps.size then T.v i else (T.t i).tmps.getD d undef:=by
 have ho:ops[i]?=some ops[i]:=Array.getElem?_eq_getElem hi
 rw [T.put i _ ho,Js,T.size i (by omega)]
 simp only [xK,ho,Option.bind_some]
structure Down (ops:Array Oper) (L:Nat->Prop):Prop where
 lt:∀i,L i->i < ops.size
 AY:∀k e,L k->e∈qZ ops k->L e
theorem Down.zU {L:Nat->Prop} (h:Down ops L) {i k:Nat} (hb:qy ops i k) (hk:∀e∈qZ ops k,L e):L i:=by
 induction hb with
 | one he=>exact hk _ he
 | more _ he ih=>exact ih fun e E9=>h.AY _ e (hk _ he) E9
variable {T}
theorem agy {L:Nat->Prop} (hd:Down ops L) (ok:DV ops) {k:Nat} {o:Oper} (ho:ops[k]?=some o) (hk:¬L k) (he:∀e∈qZ ops k,L e)
  {d:Nat} (lI:d∈o.looksAt ops∨o.dst=some d) {n:Nat} (hn:k<=n) (uc:n<=ops.size):tv T L n d=(T.t k).tmps.getD d undef:=by
 have i5:k < ops.size:=(Array.getElem?_eq_some_iff.1 ho).1
 have low:∀m,m<=k->tv T L m d=(T.t m).tmps.getD d undef:=by
  intro m
  induction m with
  | zero=>exact fun _=>rfl
  | succ m ih=>
   intro hm
   have zV:m < ops.size:=by omega
   rw [T.XX zV,tv,ih (by omega)]
   by_cases xU:xK ops m=some d
   ·have C9:ops[m]?=some ops[m]:=Array.getElem?_eq_getElem zV
    have gX:L m:=by
     by_cases hb:qy ops m k
     ·exact hd.zU hb he
     ·obtain ⟨h1,h2,h3⟩:=Oper.apart_spec (ok.pair m k _ _ (by omega) C9 ho hb)
      simp only [xK,C9,Option.bind_some] at xU
      rcases lI with lI | lI
      ·exact absurd lI (h1 d xU)
      ·exact absurd lI (h2 d xU)
    simp [gX]
   ·simp [xU]
 have high:∀m,k<=m->m<=n->tv T L m d=tv T L k d:=by
  intro m hm
  induction hm with
  | refl=>exact fun _=>rfl
  | @step m hm ih=>
   intro jj
   have wI:k<=m:=hm
   have jj:m+1<=n:=jj
   have zV:m < ops.size:=by omega
   rw [tv,ih (by omega)]
   by_cases hc:L m/\xK ops m=some d/\d < (T.t 0).tmps.size
   ·exfalso
    have dk:k≠m:=fun h=>hk (h▸hc.1)
    have C9:ops[m]?=some ops[m]:=Array.getElem?_eq_getElem zV
    by_cases hb:qy ops k m
    ·exact hk (hd.zU hb fun e he=>hd.AY m e hc.1 he)
    ·obtain ⟨h1,h2,h3⟩:=Oper.apart_spec (ok.pair k m _ _ (by omega) ho C9 hb)
     have xU:=hc.2.1
     simp only [xK,C9,Option.bind_some] at xU
     rcases lI with lI | lI
     ·exact h3 d xU lI
     ·exact h2 d lI xU
   ·rw [if_neg hc]
 rw [high n hn (Nat.le_refl _),low k (Nat.le_refl _)]
def Cn (T:sy P ops):Prop:=∀i k,i < k->k < ops.size->¬qy ops i k->T.ai0 i k
theorem Rg {L:Nat->Prop} (hd:Down ops L) (fr:Cn T) {σ:bw} (hσ:∀i,i < ops.size->¬L i->∀b,fresh (T.H i) (T.H (i+1)) b->σ b=none)
  {k:Nat} (i5:k < ops.size) (hk:¬L k) (he:∀e∈qZ ops k,L e) {b:Nat} {l:Loc} (hb:T.F k b) (aZ:b < (T.H k).next) (hs:σ b=some l)
  {n:Nat} (hn:k<=n) (uc:n<=ops.size):hv T L n b=(T.H k).get b:=by
 have low:∀m,m<=k->hv T L m b=(T.H m).get b:=by
  intro m
  induction m with
  | zero=>exact fun _=>rfl
  | succ m ih=>
   intro hm
   rw [hv,ih (by omega)]
   by_cases hc:(T.H (m+1)).get b=(T.H m).get b
   ·simp [hc]
   ·by_cases hL:L m
    ·simp [hL,hc]
    ·exfalso
     have gI:¬qy ops m k:=fun h=>hL (hd.zU h he)
     have bg:=fr m k (by omega) i5 gI
     by_cases hlm:b < (T.H m).next
     ·exact hc (bg.c2 b hb hlm)
     ·have hx:fresh (T.H m) (T.H (m+1)) b:=⟨by omega,by
       rcases Nat.lt_or_ge b (T.H (m+1)).next with h | h
       ·exact h
       ·exact absurd (by rw [T.uX (m+1) (by omega) b h,T.uX m (by omega) b (by omega)]) hc⟩
      rw [hσ m (by omega) hL b hx] at hs;cases hs
 have high:∀m,k<=m->m<=n->hv T L m b=hv T L k b:=by
  intro m hm
  induction hm with
  | refl=>exact fun _=>rfl
  | @step m hm ih=>
   intro jj
   have wI:k<=m:=hm
   have jj:m+1<=n:=jj
   rw [hv,ih (by omega)]
   by_cases hc:L m/\(T.H (m+1)).get b≠(T.H m).get b
   ·exfalso
    have dk:k≠m:=fun h=>hk (h▸hc.1)
    have gI:¬qy ops k m:=fun hb=>hk (hd.zU hb fun e he=>hd.AY m e hc.1 he)
    exact hc.2 ((fr k m (by omega) (by omega) gI).c3 b (.inl hb))
   ·rw [if_neg hc]
 rw [high n hn (Nat.le_refl _),low k (Nat.le_refl _)]
theorem adF {L:Nat->Prop} (hd:Down ops L) (fr:Cn T) {k:Nat} (i5:k < ops.size) (hk:¬L k) (he:∀e∈qZ ops k,L e) {b:Nat} {π:Option ct->Option Value} (la:T.nk k=some (b,π))
  {n:Nat} (hn:k<=n) (uc:n<=ops.size):π (hv T L n b)=π ((T.H k).get b):=by
 have low:∀m,m<=k->π (hv T L m b)=π ((T.H m).get b):=by
  intro m
  induction m with
  | zero=>exact fun _=>rfl
  | succ m ih=>
   intro hm
   rw [hv]
   by_cases hL:L m
   ·by_cases hc:(T.H (m+1)).get b=(T.H m).get b
    ·rw [if_neg (fun h=>h.2 hc),ih (by omega),hc]
    ·rw [if_pos ⟨hL,hc⟩]
   ·rw [if_neg (fun h=>hL h.1),ih (by omega)]
    have gI:¬qy ops m k:=fun h=>hL (hd.zU h he)
    exact ((fr m k (by omega) i5 gI).c4 b π la).symm
 have unb:∀m,L m->¬qy ops k m:=fun m hL hb=>hk (hd.zU hb fun e E9=>hd.AY m e hL E9)
 have same:∀m,k<=m->m < ops.size->L m->(T.H (m+1)).get b≠(T.H m).get b->∀j,k<=j->j<=m->π ((T.H j).get b)=π ((T.H k).get b):=by
  intro m wI zV gX ld j hkj
  induction hkj with
  | refl=>exact fun _=>rfl
  | @step j hj ih=>
   intro hjm
   have hkj:k<=j:=hj
   have hjm:j+1<=m:=hjm
   rw [<-ih (by omega)]
   by_cases Te:L j
   ·have dk:k≠j:=fun h=>hk (h▸Te)
    exact (fr k j (by omega) (by omega) (unb j Te)).c5 b π la
   ·have gI:¬qy ops j m:=fun hb=>Te (hd.zU hb fun e E9=>hd.AY m e gX E9)
    by_cases hF:T.F m b
    ·by_cases aZ:b < (T.H j).next
     ·rw [(fr j m (by omega) zV gI).c2 b hF aZ]
     ·by_cases hx:fresh (T.H j) (T.H (j+1)) b
      ·exact absurd ((fr j m (by omega) zV gI).c3 b (.inr hx)) ld
      ·have fU:(T.H (j+1)).next<=b:=by
        rcases Nat.lt_or_ge b (T.H (j+1)).next with h | h
        ·exact absurd ⟨by omega,h⟩ hx
        ·exact h
       rw [T.uX (j+1) (by omega) b fU,T.uX j (by omega) b (by omega)]
    ·by_cases aZ:b < (T.H m).next
     ·exact absurd ((T.mw m zV).same b aZ hF) ld
     ·have h1:=T.zo (show j+1<=m by omega) (by omega)
      have h2:=T.zo (show j<=m by omega) (by omega)
      rw [T.uX (j+1) (by omega) b (by omega),T.uX j (by omega) b (by omega)]
 have high:∀m,k<=m->m<=n->π (hv T L m b)=π ((T.H k).get b):=by
  intro m hm
  induction hm with
  | refl=>exact fun _=>low k (Nat.le_refl _)
  | @step m hm ih=>
   intro jj
   have wI:k<=m:=hm
   have jj:m+1<=n:=jj
   rw [hv]
   by_cases hc:L m/\(T.H (m+1)).get b≠(T.H m).get b
   ·rw [if_pos hc]
    have dk:k≠m:=fun h=>hk (h▸hc.1)
    rw [(fr k m (by omega) (by omega) (unb m hc.1)).c5 b π la]
    exact same m wI (by omega) hc.1 hc.2 m wI (Nat.le_refl _)
   ·rw [if_neg hc];exact ih (by omega)
 exact high n hn (Nat.le_refl _)
theorem abU {L:Nat->Prop} (hd:Down ops L) (fr:Cn T) {k:Nat} (i5:k < ops.size) (hk:¬L k) {b:Nat} (hb:fresh (T.H k) (T.H (k+1)) b)
  {n:Nat} (hn:k<=n) (uc:n<=ops.size):hv T L n b=none:=by
 have low:∀m,m<=k->hv T L m b=none:=by
  intro m
  induction m with
  | zero=>exact fun _=>T.wf b (Nat.le_trans (T.zo (Nat.zero_le k) (by omega)) hb.1)
  | succ m ih=>
   intro hm
   rw [hv,ih (by omega),T.uX (m+1) (by omega) b (Nat.le_trans (T.zo hm (by omega)) hb.1)]
   simp
 have high:∀m,k<=m->m<=n->hv T L m b=hv T L k b:=by
  intro m hm
  induction hm with
  | refl=>exact fun _=>rfl
  | @step m hm ih=>
   intro jj
   have wI:k<=m:=hm
   have jj:m+1<=n:=jj
   rw [hv,ih (by omega)]
   by_cases hc:L m/\(T.H (m+1)).get b≠(T.H m).get b
   ·exfalso
    have dk:k≠m:=fun h=>hk (h▸hc.1)
    have gI:¬qy ops k m:=fun hb=>hk (hd.zU hb fun e he=>hd.AY m e hc.1 he)
    exact hc.2 ((fr k m (by omega) (by omega) gI).c3 b (.inr hb))
   ·rw [if_neg hc]
 rw [high n hn (Nat.le_refl _),low k (Nat.le_refl _)]
def lW (L:Nat->Prop) (k:Nat):Nat->Prop:=fun i=>L i∨i=k
theorem acK {L:Nat->Prop} (hd:Down ops L) (ok:DV ops) {k:Nat} {o:Oper} (ho:ops[k]?=some o) (hk:¬L k) (he:∀e∈qZ ops k,L e)
  (d:Nat) {n:Nat} (hn:k < n) (uc:n<=ops.size):tv T (lW L k) n d=if o.dst=some d/\d < (T.t 0).tmps.size then T.v k else tv T L n d:=by
 have low:∀m,m<=k->tv T (lW L k) m d=tv T L m d:=by
  intro m
  induction m with
  | zero=>exact fun _=>rfl
  | succ m ih=>
   intro hm
   rw [tv,tv,ih (by omega)]
   have:lW L k m↔L m:=⟨fun h=>h.resolve_right (by omega),.inl⟩
   simp only [this]
 have at_:tv T (lW L k) (k+1) d=if o.dst=some d/\d < (T.t 0).tmps.size then T.v k else tv T L k d:=by
  rw [tv,low k (Nat.le_refl _)]
  have h1:lW L k k:=.inr rfl
  have h2:xK ops k=o.dst:=by simp [xK,ho]
  simp only [h1,h2,true_and]
 have Tf:tv T L (k+1) d=tv T L k d:=by rw [tv,if_neg (fun h=>hk h.1)]
 have high:∀m,k+1<=m->m<=n->tv T (lW L k) m d=if o.dst=some d/\d < (T.t 0).tmps.size then T.v k else tv T L m d:=by
  intro m hm
  induction hm with
  | refl=>exact fun _=>by rw [at_,Tf]
  | @step m hm ih=>
   intro jj
   have jj:m+1<=n:=jj
   have wI:k < m:=hm
   have zV:m < ops.size:=by omega
   rw [tv,tv,ih (by omega)]
   have:lW L k m↔L m:=⟨fun h=>h.resolve_right (by omega),.inl⟩
   simp only [this]
   by_cases hc:L m/\xK ops m=some d/\d < (T.t 0).tmps.size
   ·rw [if_pos hc,if_pos hc,if_neg]
    rintro ⟨lI,_⟩
    have C9:ops[m]?=some ops[m]:=Array.getElem?_eq_getElem zV
    have gI:¬qy ops k m:=fun hb=>hk (hd.zU hb fun e he=>hd.AY m e hc.1 he)
    obtain ⟨h1,h2,h3⟩:=Oper.apart_spec (ok.pair k m _ _ wI ho C9 gI)
    have xU:=hc.2.1
    simp only [xK,C9,Option.bind_some] at xU
    exact h2 d lI xU
   ·rw [if_neg hc,if_neg hc]
 exact high n hn (Nat.le_refl _)
theorem acL {L:Nat->Prop} (hd:Down ops L) (fr:Cn T) {k:Nat} (i5:k < ops.size) (hk:¬L k) (b:Nat) {n:Nat} (hn:k < n) (uc:n<=ops.size):
  hv T (lW L k) n b=if (T.H (k+1)).get b≠(T.H k).get b then (T.H (k+1)).get b else hv T L n b:=by
 have low:∀m,m<=k->hv T (lW L k) m b=hv T L m b:=by
  intro m
  induction m with
  | zero=>exact fun _=>rfl
  | succ m ih=>
   intro hm
   rw [hv,hv,ih (by omega)]
   have:lW L k m↔L m:=⟨fun h=>h.resolve_right (by omega),.inl⟩
   simp only [this]
 have at_:hv T (lW L k) (k+1) b=if (T.H (k+1)).get b≠(T.H k).get b then (T.H (k+1)).get b else hv T L k b:=by
  rw [hv,low k (Nat.le_refl _)]
  have h1:lW L k k:=.inr rfl
  simp only [h1,true_and]
 have Tf:hv T L (k+1) b=hv T L k b:=by rw [hv,if_neg (fun h=>hk h.1)]
 have high:∀m,k+1<=m->m<=n->hv T (lW L k) m b=if (T.H (k+1)).get b≠(T.H k).get b then (T.H (k+1)).get b else hv T L m b:=by
  intro m hm
  induction hm with
  | refl=>exact fun _=>by rw [at_,Tf]
  | @step m hm ih=>
   intro jj
   have jj:m+1<=n:=jj
   have wI:k < m:=hm
   rw [hv,hv,ih (by omega)]
   have:lW L k m↔L m:=⟨fun h=>h.resolve_right (by omega),.inl⟩
   simp only [this]
   by_cases hc:L m/\(T.H (m+1)).get b≠(T.H m).get b
   ·rw [if_pos hc,if_pos hc,if_neg]
    intro ld
    have gI:¬qy ops k m:=fun hb=>hk (hd.zU hb fun e he=>hd.AY m e hc.1 he)
    refine hc.2 ((fr k m wI (by omega) gI).c3 b ?_)
    by_cases aZ:b < (T.H k).next
    ·by_cases hF:T.F k b
     ·exact .inl hF
     ·exact absurd ((T.mw k i5).same b aZ hF) ld
    ·refine .inr ⟨by omega,?_⟩
     rcases Nat.lt_or_ge b (T.H (k+1)).next with h | h
     ·exact h
     ·exact absurd (by rw [T.uX (k+1) (by omega) b h,T.uX k (by omega) b (by omega)]) ld
   ·rw [if_neg hc,if_neg hc]
 exact high n hn (Nat.le_refl _)
structure Inv (T:sy P ops) (σ₀:bw) (w₀:World) (L:Nat->Prop) (σ:bw) (a:Act) (w:World):Prop where
 down:Down ops L
 size:a.tmps.size=(T.t 0).tmps.size
 tm:∀d,VR σ (tv T L ops.size d) (a.tmps.getD d undef)
 K4:a.defers=[]
 fr:∀i,i < ops.size->¬L i->∀b,fresh (T.H i) (T.H (i+1)) b->σ b=none
 rel:Rel P σ dN (hv T L ops.size) w
 ext:∀b,¬fresh (T.H 0) (T.H ops.size) b->σ b=σ₀ b
 OH:w₀.heap.size<=w.heap.size
 ae:∀k,k < w₀.heap.size->¬zT σ₀ dN (T.H 0).get k->w.heap[k]?=w₀.heap[k]?
 oI:∀k,k < w₀.heap.size->zT σ dN (hv T L ops.size) k->zT σ₀ dN (T.H 0).get k
 ua:∀b l,fresh (T.H 0) (T.H ops.size) b->σ b=some l->l.ro=false
 rest:w.os=w₀.os/\w.tape=w₀.tape/\w.output=w₀.output
theorem Inv.next {σ₀ σ σ':bw} {w₀ w w':World} {L:Nat->Prop} {a:Act} {v':Value} (ok:DV ops) (fr:Cn T) (h:Inv T σ₀ w₀ L σ a w) {k:Nat} {o:Oper}
  (ho:ops[k]?=some o) (hk:¬L k) (he:∀e∈qZ ops k,L e) (hp:jg P (T.F k) σ (T.H k) w σ' (T.H (k+1)) w') (Fa:VR σ' (T.v k) v'):
  Inv T σ₀ w₀ (lW L k) σ' (a.put o.dst v') w':=by
 have i5:k < ops.size:=(Array.getElem?_eq_some_iff.1 ho).1
 have adG:qk σ (T.H k) (T.H (k+1)):=h.fr k i5 hk
 have uW:=hp.up adG
 have K5:∀b l,T.F k b->σ b=some l->((T.H k).get b).isSome=true->hv T L ops.size b=(T.H k).get b:=fun b l hF hs hi=>by
  refine Rg h.down fr h.fr i5 hk he hF ?_ hs (Nat.le_of_lt i5) (Nat.le_refl _)
  rcases Nat.lt_or_ge b (T.H k).next with h' | h'
  ·exact h'
  ·rw [T.uX k (Nat.le_of_lt i5) b h'] at hi;cases hi
 have Y4:∀j,zT σ (T.F k) (T.H k).get j->zT σ dN (hv T L ops.size) j:=fun j ⟨b,l,hF,hs,hi,hj⟩=>⟨b,l,trivial,hs,(K5 b l hF hs hi)▸hi,hj⟩
 have Bi:∀b,hv T (lW L k) ops.size b=if (T.H (k+1)).get b≠(T.H k).get b then (T.H (k+1)).get b else hv T L ops.size b:=fun b=>acL h.down fr i5 hk b i5 (Nat.le_refl _)
 -- inside:eo E6 operation auH or makes
 have iS:∀b l,(T.F k b∨fresh (T.H k) (T.H (k+1)) b)->σ' b=some l->(hv T (lW L k) ops.size b).isSome=true->hv T (lW L k) ops.size b=(T.H (k+1)).get b:=fun b l hx hs hi=>by
  rw [Bi] at hi ⊢
  by_cases hc:(T.H (k+1)).get b≠(T.H k).get b
  ·rw [if_pos hc]
  ·rw [if_neg hc] at hi ⊢
   have sA:(T.H (k+1)).get b=(T.H k).get b:=Classical.not_not.1 hc
   by_cases Da:fresh (T.H k) (T.H (k+1)) b
   ·rw [abU h.down fr i5 hk Da (Nat.le_of_lt i5) (Nat.le_refl _)] at hi;cases hi
   ·have hF:=hx.resolve_right Da
    rw [hp.ext b Da] at hs
    rw [sA]
    exact Rg h.down fr h.fr i5 hk he hF (T.lt k b i5 hF) hs (Nat.le_of_lt i5) (Nat.le_refl _)
 have Eu:∀b l,¬(T.F k b∨fresh (T.H k) (T.H (k+1)) b)->σ' b=some l->(hv T (lW L k) ops.size b).isSome=true->
   hv T (lW L k) ops.size b=hv T L ops.size b/\σ b=some l/\l.ba < w.heap.size/\¬zT σ (T.F k) (T.H k).get l.ba:=fun b l hx hs hi=>by
  have hF:¬T.F k b:=fun h=>hx (.inl h)
  have Da:¬fresh (T.H k) (T.H (k+1)) b:=fun h=>hx (.inr h)
  have hc:(T.H (k+1)).get b=(T.H k).get b:=by
   by_cases aZ:b < (T.H k).next
   ·exact (T.mw k i5).same b aZ hF
   ·have:(T.H (k+1)).next<=b:=by
     rcases Nat.lt_or_ge b (T.H (k+1)).next with h2 | h2
     ·exact absurd ⟨by omega,h2⟩ Da
     ·exact h2
    rw [T.uX (k+1) (by omega) b this,T.uX k (by omega) b (by omega)]
  have he1:hv T (lW L k) ops.size b=hv T L ops.size b:=by rw [Bi,if_neg (fun h=>h hc)]
  have cZ:σ b=some l:=by rw [<-hp.ext b Da];exact hs
  rw [he1] at hi
  obtain ⟨B,hB⟩:=Option.isSome_iff_exists.1 hi
  refine ⟨he1,cZ,(h.rel.ba b l B trivial cZ hB).lt,fun ⟨b0,l0,oJ,nj,yv,K2,heq⟩=>hF ?_⟩
  cases ub:l.ro
  ·have:=h.rel.inj b0 b l0 l trivial trivial nj cZ ((K5 b0 l0 oJ nj yv)▸yv) hi K2 ub heq
   exact this▸oJ
  ·exact absurd heq (h.rel.sep b0 b l0 l trivial nj cZ ((K5 b0 l0 oJ nj yv)▸yv) K2 ub)
 refine ⟨⟨fun i hi=>?_,fun i e hi hx=>?_⟩,by rw [Jt];exact h.size,fun d=>?_,by rw [Jk];exact h.K4,fun i hi hL b hb=>?_,⟨?_,?_,?_,hp.rel.aE⟩,fun b hb=>?_,Nat.le_trans h.OH hp.size,fun j hj hn=>?_,?_,fun b l hb hs=>?_,⟨hp.rest.1.trans h.rest.1,hp.rest.2.1.trans h.rest.2.1,hp.rest.2.2.trans h.rest.2.2⟩⟩
 ·rcases hi with hi | rfl
  ·exact h.down.lt i hi
  ·exact i5
 ·rcases hi with hi | rfl
  ·exact .inl (h.down.AY i e hi hx)
  ·exact .inl (he e hx)
 ·rw [acK h.down ok ho hk he d i5 (Nat.le_refl _),Js,h.size]
  split
  ·exact Fa
  ·exact (h.tm d).mono uW
 ·have dk:i≠k:=fun h2=>hL (.inr h2)
  rw [hp.ext b (fun hx=>?_)]
  ·exact h.fr i hi (fun h2=>hL (.inl h2)) b hb
  ·rcases Nat.lt_or_ge i k with h2 | h2
   ·have:=T.zo (i:=i+1) (k:=k) h2 (by omega)
    have:=hx.1;have:=hb.2;omega
   ·have:=T.zo (i:=k+1) (k:=i) (by omega) (by omega)
    have:=hx.2;have:=hb.1;omega
 ·intro b l B _ hs hg
  by_cases hx:T.F k b∨fresh (T.H k) (T.H (k+1)) b
  ·exact hp.rel.ba b l B hx hs (by rw [<-iS b l hx hs (by rw [hg];rfl)];exact hg)
  ·obtain ⟨h1,h2,h3,h4⟩:=Eu b l hx hs (by rw [hg];rfl)
   exact (h.rel.ba b l B trivial h2 (by rw [<-h1];exact hg)).move uW (hp.ae _ h3 h4)
 ·intro b b' l l' _ _ hs cZ hi ep ho gi heq
  by_cases hx:T.F k b∨fresh (T.H k) (T.H (k+1)) b <;> by_cases dU:T.F k b'∨fresh (T.H k) (T.H (k+1)) b'
  ·exact hp.rel.inj b b' l l' hx dU hs cZ ((iS b l hx hs hi)▸hi) ((iS b' l' dU cZ ep)▸ep) ho gi heq
  ·obtain ⟨h1,h2,h3,h4⟩:=Eu b' l' dU cZ ep
   exact absurd (hp.oI l'.ba h3 ⟨b,l,hx,hs,(iS b l hx hs hi)▸hi,ho,heq⟩) h4
  ·obtain ⟨h1,h2,h3,h4⟩:=Eu b l hx hs hi
   exact absurd (hp.oI l.ba h3 ⟨b',l',dU,cZ,(iS b' l' dU cZ ep)▸ep,gi,heq.symm⟩) h4
  ·obtain ⟨h1,h2,h3,h4⟩:=Eu b l hx hs hi
   obtain ⟨lH,uY,E7,my⟩:=Eu b' l' dU cZ ep
   exact h.rel.inj b b' l l' trivial trivial h2 uY (h1▸hi) (lH▸ep) ho gi heq
 ·intro b b' l l' _ hs cZ hi ho gi
  by_cases hx:T.F k b∨fresh (T.H k) (T.H (k+1)) b
  ·exact hp.rel.sep b b' l l' hx hs cZ ((iS b l hx hs hi)▸hi) ho gi
  ·obtain ⟨h1,h2,h3,h4⟩:=Eu b l hx hs hi
   have hnf:¬fresh (T.H k) (T.H (k+1)) b':=fun hf=>by have:=hp.ua b' l' hf cZ;rw [gi] at this;cases this
   exact h.rel.sep b b' l l' trivial h2 (by rw [<-hp.ext b' hnf];exact cZ) (h1▸hi) ho gi
 ·rw [hp.ext b (fun hx=>hb ⟨Nat.le_trans (T.zo (Nat.zero_le k) (by omega)) hx.1,Nat.lt_of_lt_of_le hx.2 (T.zo (by omega) (Nat.le_refl _))⟩)]
  exact h.ext b hb
 ·rw [hp.ae j (Nat.lt_of_lt_of_le hj h.OH) (fun hi=>hn (h.oI j hj (Y4 j hi))),h.ae j hj hn]
 ·rintro j hj ⟨b,l,_,hs,hi,heq⟩
  by_cases hx:T.F k b∨fresh (T.H k) (T.H (k+1)) b
  ·exact h.oI j hj (Y4 j (hp.oI j (Nat.lt_of_lt_of_le hj h.OH) ⟨b,l,hx,hs,(iS b l hx hs hi)▸hi,heq⟩))
  ·obtain ⟨h1,h2,h3,h4⟩:=Eu b l hx hs hi
   exact h.oI j hj ⟨b,l,trivial,h2,h1▸hi,heq⟩
 ·by_cases hx:fresh (T.H k) (T.H (k+1)) b
  ·exact hp.ua b l hx hs
  ·rw [hp.ext b hx] at hs;exact h.ua b l hb hs
end
end Go.Proofs.YtinjmfblebpnnaaGreat.Ab
namespace Go.Proofs.YtinjmfblebpnnaaGreat.Ab
open Go Classical
section
variable {P:Program} {ops:Array Oper} {T:sy P ops}
def nu (gG:Array Bool):Nat->Prop:=fun i=>gG.getD i false=true
theorem abV {gG:Array Bool} {k:Nat} (hk:k < gG.size):nu (gG.setIfInBounds k true)=lW (nu gG) k:=by
 funext i
 unfold nu lW
 by_cases h:k=i
 ·subst h;simp [Array.getD,hk]
 ·rw [getD_set_ne false h]
  simp only [eq_iff_iff]
  exact ⟨.inl,fun hx=>hx.resolve_right (fun e=>h e.symm)⟩
theorem Xt {L:Nat->Prop} (h:∀i,¬L i):∀m d,tv T L m d=(T.t 0).tmps.getD d undef
 | 0,_=>rfl
 | m+1,d=>by rw [tv,if_neg (fun hx=>h m hx.1)];exact Xt h m d
theorem Xu {L:Nat->Prop} (h:∀i,¬L i):∀m b,hv T L m b=(T.H 0).get b
 | 0,_=>rfl
 | m+1,b=>by rw [hv,if_neg (fun hx=>h m hx.1)];exact Xu h m b
theorem XY {L:Nat->Prop} (h:∀i,i < ops.size->L i):∀m d,m<=ops.size->tv T L m d=(T.t m).tmps.getD d undef
 | 0,_,_=>rfl
 | m+1,d,hm=>by
  rw [tv,T.XX (by omega),XY h m d (by omega)]
  have:=h m (by omega)
  simp [this]
theorem XZ {L:Nat->Prop} (h:∀i,i < ops.size->L i):∀m b,m<=ops.size->hv T L m b=(T.H m).get b
 | 0,_,_=>rfl
 | m+1,b,hm=>by
  rw [hv,XZ h m b (by omega)]
  have:=h m (by omega)
  by_cases hc:(T.H (m+1)).get b=(T.H m).get b
  ·simp [hc]
  ·simp [this,hc]
theorem count_set {l:List Bool} {i:Nat} (h:l[i]?=some false):(l.set i true).count false+1=l.count false:=by
 induction l generalizing i with
 | nil=>simp at h
 | cons x l ih=>
  cases i with
  | zero=>simp at h;subst h;simp
  | succ i=>
   simp only [List.getElem?_cons_succ] at h
   have:=ih h
   simp only [List.set_cons_succ,List.count_cons]
   omega
theorem aaO {gG:Array Bool} (ok:DV ops) (fC:gG.size=ops.size) (h:Region.ready .any ops gG=[]):∀i,i < ops.size->nu gG i:=by
 intro i
 induction i using Nat.strongRecOn with
 | _ i ih=>
  intro hi
  by_cases hl:nu gG i
  ·exact hl
  ·exfalso
   have ho:ops[i]?=some ops[i]:=Array.getElem?_eq_getElem hi
   have:i∈Region.ready .any ops gG:=by
    rw [mem_ready]
    refine ⟨?_,ops[i],ho,fun e he hb=>?_⟩
    ·have aZ:i < gG.size:=by omega
     simp only [nu,Array.getD,aZ,dif_pos] at hl
     simp only [Array.getD,aZ,dif_pos]
     cases hx:gG.getInternal i aZ
     ·rfl
     ·exact absurd hx hl
    ·have uI:e.on∈qZ ops i:=by
      simp only [qZ,ho]
      exact List.mem_map.2 ⟨e,List.mem_filter.2 ⟨Array.mem_toList_iff.2 he,hb⟩,rfl⟩
     have aZ:=ok.lt i e.on hi uI
     exact ih e.on aZ (by omega)
   rw [h] at this;cases this
theorem Ww {σ:bw} {t a:Act} {o:Oper} (fC:t.tmps.size=a.tmps.size)
  (h:∀d,d∈o.looksAt ops->VR σ (t.tmps.getD d undef) (a.tmps.getD d undef)):
  Region.wanted o (yielded ops t.tmps)=Region.wanted o (yielded ops a.tmps):=by
 unfold Region.wanted
 cases hg:o.guard with
 | none=>rfl
 | some gw=>
  obtain ⟨g,want⟩:=gw
  have:yielded ops t.tmps g=yielded ops a.tmps g:=aaN fC fun d hd=>h d (by
   unfold Oper.looksAt
   rw [hg]
   exact List.mem_append_right _ (by simp [hd]))
  simp only [this]
theorem aaP (ok:DV ops) (fr:Cn T) {σ₀:bw} {w₀:World} {Q:Exit->Act->World->Prop}
  (hQ:∀σ a w,Inv T σ₀ w₀ (fun i=>i < ops.size) σ a w->Q .normal a w):
  ∀(fuel:Nat) (gG:Array Bool) (σ:bw) (a:Act) (w:World),gG.size=ops.size->gG.toList.count false<=fuel->
   Inv T σ₀ w₀ (nu gG) σ a w->wpAny P .any ops Q fuel gG a w:=by
 have fin:∀(gG:Array Bool) (σ:bw) (a:Act) (w:World),(∀i,i < ops.size->nu gG i)->Inv T σ₀ w₀ (nu gG) σ a w->Q .normal a w:=by
  intro gG σ a w iH hI
  have:nu gG=fun i=>i < ops.size:=funext fun i=>propext ⟨fun h=>hI.down.lt i h,fun h=>iH i h⟩
  rw [this] at hI
  exact hQ σ a w hI
 intro fuel
 induction fuel with
 | zero=>
  intro gG σ a w fC hc hI
  have iH:∀i,i < ops.size->nu gG i:=by
   intro i hi
   have aZ:i < gG.size:=by omega
   have jW:gG.toList.count false=0:=by omega
   rw [List.count_eq_zero] at jW
   unfold nu
   simp only [Array.getD,aZ,dif_pos]
   cases hx:gG.getInternal i aZ
   ·exact absurd (by rw [<-hx];exact Array.mem_toList_iff.2 (Array.getElem_mem aZ)) jW
   ·rfl
  refine ⟨?_,fin gG σ a w iH hI⟩
  rw [List.eq_nil_iff_forall_not_mem]
  intro i hi
  obtain ⟨h0,o,ho,_⟩:=mem_ready.1 hi
  have ep:i < ops.size:=(Array.getElem?_eq_some_iff.1 ho).1
  have h1:=iH i ep
  have aZ:i < gG.size:=by omega
  unfold nu at h1
  simp only [Array.getD,aZ,dif_pos] at h0 h1
  rw [h0] at h1;cases h1
 | succ fuel ih=>
  intro gG σ a w fC hc hI
  refine ⟨fun hr=>fin gG σ a w (aaO ok fC hr) hI,fun k hk=>?_⟩
  obtain ⟨h0,o,ho,iH⟩:=mem_ready.1 hk
  have i5:k < ops.size:=(Array.getElem?_eq_some_iff.1 ho).1
  have aZ:k < gG.size:=by omega
  have K6:¬nu gG k:=by
   unfold nu
   simp only [Array.getD,aZ,dif_pos] at h0 ⊢
   rw [h0];simp
  have he:∀e∈qZ ops k,nu gG e:=by
   intro e he
   simp only [qZ,ho,List.mem_map,List.mem_filter] at he
   obtain ⟨e',⟨h1,h2⟩,rfl⟩:=he
   exact iH e' (Array.mem_toList_iff.1 h1) h2
  have adH:(gG.setIfInBounds k true).toList.count false<=fuel:=by
   have hx:gG.toList[k]?=some false:=by
    simp only [Array.getD,aZ,dif_pos] at h0
    rw [Array.getElem?_toList,Array.getElem?_eq_getElem aZ]
    exact congrArg some h0
   have:=count_set hx
   rw [Array.toList_setIfInBounds]
   omega
  have Yh:∀d,d∈o.looksAt ops->VR σ ((T.t k).tmps.getD d undef) (a.tmps.getD d undef):=fun d hd=>by
   rw [<-agy hI.down ok ho K6 he (.inl hd) (Nat.le_of_lt i5) (Nat.le_refl _)]
   exact hI.tm d
  have ai1:(T.t k).tmps.size=a.tmps.size:=by rw [T.size k (Nat.le_of_lt i5),hI.size]
  have agz:=Ww (o:=o) ai1 Yh
  have cont:∀σ' v' w',jg P (T.F k) σ (T.H k) w σ' (T.H (k+1)) w'->VR σ' (T.v k) v'->wpAny P .any ops Q fuel (gG.setIfInBounds k true) (a.put o.dst v') w':=by
   intro σ' v' w' hp hv
   refine ih _ σ' _ w' (by simp [fC]) adH ?_
   rw [abV aZ]
   exact hI.next ok fr ho K6 he hp hv
  have K5:∀b l,T.F k b->σ b=some l->((T.H k).get b).isSome=true->hv T (nu gG) ops.size b=(T.H k).get b:=fun b l hF hs hi=>by
   refine Rg hI.down fr hI.fr i5 K6 he hF ?_ hs (Nat.le_of_lt i5) (Nat.le_refl _)
   rcases Nat.lt_or_ge b (T.H k).next with h' | h'
   ·exact h'
   ·rw [T.uX k (Nat.le_of_lt i5) b h'] at hi;cases hi
  have NT:Rel P σ (T.F k) (T.H k).get w:=(hI.rel.sub fun _ _=>trivial).Y2 fun b hF l hs hi=>(K5 b l hF hs hi).symm
  have wq:∀x∈o.op.operands,VR σ ((T.t k).eval x) (a.eval x):=fun x hx=>by
   have fX:=Array.all_eq_true_iff_forall_mem.1 (T.gW k o ho) x hx
   exact Xs fX fun d hd=>Yh d (by
    subst hd
    exact List.mem_append_left _ (List.mem_filterMap.2 ⟨.tmp d,by simpa using hx,rfl⟩))
  unfold wpOp
  rw [ho]
  simp only []
  rw [<-agz]
  cases la:T.nk k with
  | none=>
   have dE:=T.step k o ho la
   unfold tO at dE
   by_cases hw:Region.wanted o (yielded ops (T.t k).tmps)=true
   ·rw [if_pos hw] at dE ⊢
    exact .inl (dE σ w a _ Q NT (hI.fr k i5 K6) wq cont)
   ·rw [if_neg hw] at dE ⊢
    refine cont σ undef w ?_ (dE.1▸VR.undef σ)
    rw [dE.2]
    exact jg.refl NT rfl
  | some bp=>
   obtain ⟨b,π⟩:=bp
   obtain ⟨hH,hF,hq,hu⟩:=T.HS k o ho b π la
   have hpi:=adF hI.down fr i5 K6 he la (Nat.le_of_lt i5) (Nat.le_refl _)
   by_cases hw:Region.wanted o (yielded ops (T.t k).tmps)=true
   ·rw [if_pos hw]
    refine .inl (hq hw ⟨(T.H ops.size).next,hv T (nu gG) ops.size,fun _=>false⟩ hpi σ w a _ Q hI.rel wq fun v' Fa=>cont σ v' w ?_ Fa)
    rw [hH]
    exact jg.refl ⟨fun b l B K7=>absurd K7 (hF b),fun b b' l l' K7=>absurd K7 (hF b),fun b b' l l' K7=>absurd K7 (hF b),NT.aE⟩ rfl
   ·rw [if_neg hw]
    refine cont σ undef w ?_ (hu hw▸VR.undef σ)
    rw [hH]
    exact jg.refl NT rfl
def ai2 (P:Program) (t:Act) (H:ad) (t':Act) (H':ad) (run:(Exit->Act->World->Prop)->Act->World->Prop):Prop:=
 ∀(σ:bw) (w:World) (a:Act) (Q:Exit->Act->World->Prop),Rel P σ dN H.get w->qk σ H H'->TR σ t a->
  (∀σ' a' w',jg P dN σ H w σ' H' w'->TR σ' t' a'->Q .normal a' w')->run Q a w
theorem aaz (T:sy P ops) (hm:P.follows .mixedOrders=true) (ok:DV ops) (fr:Cn T) (id:Nat):
  ai2 P (T.t 0) (T.H 0) (T.t ops.size) (T.H ops.size) fun Q a w=>(Code.region id ops true).wp P Q a w:=by
 intro σ w a Q hr hf ht hq
 have agB:=fun k (hk:k<=ops.size)=>T.zo (Nat.zero_le k) hk
 refine wp_region_any hm (aaP (T:=T) ok fr (σ₀:=σ) (w₀:={w with drawn:=w.drawn+1}) ?_ ops.size _ σ a _ (by simp) ?_ ?_)
 ·intro σ' a' w' hI
  have h1:∀b,hv T (fun i=>i < ops.size) ops.size b=(T.H ops.size).get b:=fun b=>XZ (fun i hi=>hi) _ b (Nat.le_refl _)
  refine hq σ' a' w' ⟨(hI.rel.sub fun _ _=>trivial).Y2 fun b _ l _ _=>(h1 b).symm,
   hI.ext,hI.OH,fun k hk hn=>hI.ae k hk hn,fun k hk ⟨b,l,_,hs,hi,he⟩=>hI.oI k hk ⟨b,l,trivial,hs,by rw [h1];exact hi,he⟩,hI.ua,hI.rest⟩ ⟨⟨?_,fun d _=>?_⟩,?_,hI.K4⟩
  ·rw [T.size _ (Nat.le_refl _),hI.size]
  ·rw [<-XY (T:=T) (L:=fun i=>i < ops.size) (fun i hi=>hi) _ d (Nat.le_refl _)];exact hI.tm d
  ·rw [T.Y3 _ (Nat.le_refl _)];exact ht.dt
 ·rw [Array.toList_replicate,List.count_replicate_self];exact Nat.le_refl _
 ·have mC:∀i,¬nu (Array.replicate ops.size false) i:=fun i h=>by
   unfold nu at h
   by_cases hi:i < ops.size <;> simp [Array.getD,hi] at h
  have h1:∀b,hv T (nu (Array.replicate ops.size false)) ops.size b=(T.H 0).get b:=fun b=>Xu mC _ b
  refine ⟨⟨fun i h=>absurd h (mC i),fun k e h=>absurd h (mC k)⟩,ht.tm.1.symm,fun d=>?_,ht.da,fun i hi _ b hb=>hf b ⟨Nat.le_trans (agB i (by omega)) hb.1,Nat.lt_of_lt_of_le hb.2 (T.zo (by omega) (Nat.le_refl _))⟩,⟨?_,?_,?_,hr.aE⟩,fun _ _=>rfl,Nat.le_refl _,fun _ _ _=>rfl,?_,fun b l hb hs=>(by rw [hf b hb] at hs;cases hs),⟨rfl,rfl,rfl⟩⟩
  ·rw [Xt mC];exact ht.tm.at d
  ·intro b l B _ hs hg
   rw [h1] at hg
   exact (hr.ba b l B trivial hs hg).move (fun _ _ h=>h) rfl
  ·intro b b' l l' _ _ hs cZ hi ep
   rw [h1] at hi ep
   exact hr.inj b b' l l' trivial trivial hs cZ hi ep
  ·intro b b' l l' _ hs cZ hi
   rw [h1] at hi
   exact hr.sep b b' l l' trivial hs cZ hi
  ·rintro k hk ⟨b,l,_,hs,hi,he⟩
   rw [h1] at hi
   exact ⟨b,l,trivial,hs,hi,he⟩
end
end Go.Proofs.YtinjmfblebpnnaaGreat.Ab
namespace Go.Proofs.YtinjmfblebpnnaaGreat.Ab
open Go Classical
section
variable {P:Program}
def CT (P:Program) (run:(Exit->Act->World->Prop)->Act->World->Prop) (t:Act) (H:ad) (e:Exit) (t':Act) (H':ad):Prop:=
 ∀(σ:bw) (w:World) (a:Act) (Q:Exit->Act->World->Prop),Rel P σ dN H.get w->qk σ H H'->TR σ t a->
  (∀σ' a' w',jg P dN σ H w σ' H' w'->TR σ' t' a'->Q e a' w')->run Q a w
def Reach (P:Program) (run:(Exit->Act->World->Prop)->Act->World->Prop) (t:Act) (H:ad) (Ψ:Exit->Act->ad->Prop):Prop:=
 ∃e t' H',iR dN H H'/\CT P run t H e t' H'/\Ψ e t' H'
abbrev RC (P:Program) (c:Code):=Reach P fun Q a w=>c.wp P Q a w
def Nd (P:Program) (c:Code) (Q:Exit->Act->World->Prop) (a:Act) (w:World):Prop:=
 ∀(b:Frame) (k:List Item) (cs:List Frame),∃e a' w',Q e a' w'/\Arrives P (lone (b.at a (.code c::.inLoop c::k)) cs w) b k cs e a' w'
theorem aaQ {c:Code} {Q:Exit->Act->World->Prop} {a:Act} {w:World} (h:Nd P c Q a w):(Code.loop c).wp P Q a w:=
 fun b k cs=>let ⟨e,a',w',hq,ph⟩:=h b k cs;⟨e,a',w',hq,.of_steps (.one step_loop) ph⟩
theorem aaC {c:Code} {Q:Exit->Act->World->Prop} {a:Act} {w:World} (h:c.wp P (Exit.then (Nd P c Q) Q) a w):Nd P c Q a w:=by
 intro b k cs
 obtain ⟨e,a₁,w₁,hq,ph⟩:=h b (.inLoop c::k) cs
 cases e with
 | normal=>
  obtain ⟨e₂,a₂,w₂,hq₂,agC⟩:=hq b k cs
  exact ⟨e₂,a₂,w₂,hq₂,.of_steps (Steps.trans ph (.one step_inLoop)) agC⟩
 | exit id=>exact ⟨_,a₁,w₁,hq,.pass (x:=.inLoop c) rfl (fun _ _=>.inl (by simp)) ph⟩
 | goto l=>exact ⟨_,a₁,w₁,hq,.pass (x:=.inLoop c) rfl (fun _ _=>.inl (by simp)) ph⟩
 | ret=>exact ⟨_,a₁,w₁,hq,.pass (x:=.inLoop c) rfl (fun _ _=>.inl (by simp)) ph⟩
 | panic ch=>exact ⟨_,a₁,w₁,hq,.pass (x:=.inLoop c) rfl (fun _ _=>.inl (by simp)) ph⟩
 | outgrown=>exact ⟨_,a₁,w₁,hq,.pass (x:=.inLoop c) rfl (fun _ _=>.inl (by simp)) ph⟩
abbrev RL (P:Program) (c:Code):=Reach P (Nd P c)
theorem iR.refl {F:Nat->Prop} {H:ad} (h:H.wf):iR F H H:=⟨Nat.le_refl _,h,fun _ _ _=>rfl⟩
theorem iR.trans {H H1 H2:ad} (h:iR dN H H1) (h':iR dN H1 H2):iR dN H H2:=⟨Nat.le_trans h.next h'.next,h'.wf,fun _ _ hn=>absurd trivial hn⟩
theorem iR.all {F:Nat->Prop} {H H':ad} (h:iR F H H'):iR dN H H':=⟨h.next,h.wf,fun _ _ hn=>absurd trivial hn⟩
theorem Reach.mono {run:(Exit->Act->World->Prop)->Act->World->Prop} {t:Act} {H:ad} {Ψ Ψ':Exit->Act->ad->Prop}
  (h:Reach P run t H Ψ) (hm:∀e t' H',iR dN H H'->Ψ e t' H'->Ψ' e t' H'):Reach P run t H Ψ':=by
 obtain ⟨e,t',H',h1,h2,h3⟩:=h
 exact ⟨e,t',H',h1,h2,hm _ _ _ h1 h3⟩
theorem Reach.now {run:(Exit->Act->World->Prop)->Act->World->Prop} {t:Act} {H:ad} {e:Exit} {Ψ:Exit->Act->ad->Prop} (hw:H.wf)
  (hr:∀Q a w,Q e a w->run Q a w) (h:Ψ e t H):Reach P run t H Ψ:=
 ⟨e,t,H,.refl hw,fun σ w a Q ib hf ht hq=>hr Q a w (hq σ a w (.refl ib rfl) ht),h⟩
theorem Xv {t:Act} {H:ad} {Ψ:Exit->Act->ad->Prop} (hw:H.wf) (h:Ψ .normal t H):RC P .skip t H Ψ:=.now hw (fun _ _ _=>wp_skip) h
theorem WR {l:Nat} {t:Act} {H:ad} {Ψ:Exit->Act->ad->Prop} (hw:H.wf) (h:Ψ .normal t H):RC P (.label l) t H Ψ:=.now hw (fun _ _ _=>wp_label) h
theorem Xw {id:Nat} {t:Act} {H:ad} {Ψ:Exit->Act->ad->Prop} (hw:H.wf) (h:Ψ (.exit id) t H):RC P (.exit id) t H Ψ:=.now hw (fun _ _ _=>wp_exit) h
theorem X0 {t:Act} {H:ad} {Ψ:Exit->Act->ad->Prop} (hw:H.wf) (h:Ψ .ret t H):RC P .ret t H Ψ:=.now hw (fun _ _ _=>wp_ret) h
theorem Reach.andThen {run Y5 Y6:(Exit->Act->World->Prop)->Act->World->Prop} {t:Act} {H:ad} {Ψ:Exit->Act->ad->Prop}
  (eg:∀Q a w,Y5 (Exit.then (Y6 Q) Q) a w->run Q a w)
  (h:Reach P Y5 t H (fun e t' H'=>match e with | .normal=>Reach P Y6 t' H' Ψ | e=>Ψ e t' H')):Reach P run t H Ψ:=by
 obtain ⟨e,t1,H1,s1,c1,h1⟩:=h
 by_cases he:e=.normal
 ·subst he
  obtain ⟨e2,t2,H2,s2,c2,h2⟩:=h1
  refine ⟨e2,t2,H2,s1.trans s2,fun σ w a Q hr hf ht hq=>eg Q a w (c1 σ w a _ hr (hf.left s2.next) ht ?_),h2⟩
  intro σ1 a1 w1 p1 Tg
  refine c2 σ1 w1 a1 Q (p1.rel.sub fun _ _=>.inl trivial) (hf.right s1.next p1) Tg ?_
  intro σ2 a2 w2 p2 Th
  exact hq σ2 a2 w2 (p1.trans s1.next s2.next p2) Th
 ·have lH:Ψ e t1 H1:=by cases e <;> first | exact absurd rfl he | exact h1
  refine ⟨e,t1,H1,s1,fun σ w a Q hr hf ht hq=>eg Q a w (c1 σ w a _ hr hf ht ?_),lH⟩
  intro σ1 a1 w1 p1 Tg
  have:=hq σ1 a1 w1 p1 Tg
  cases e <;> first | exact absurd rfl he | exact this
theorem QP {x y:Code} {t:Act} {H:ad} {Ψ:Exit->Act->ad->Prop}
  (h:RC P x t H (fun e t' H'=>match e with | .normal=>RC P y t' H' Ψ | e=>Ψ e t' H')):RC P (.seq x y) t H Ψ:=
 .andThen (fun _ _ _ h=>wp_seq h) h
theorem Xx {c:Code} {t:Act} {H:ad} {Ψ:Exit->Act->ad->Prop}
  (h:RC P c t H (fun e t' H'=>match e with | .normal=>RL P c t' H' Ψ | e=>Ψ e t' H')):RL P c t H Ψ:=
 .andThen (fun _ _ _ h=>aaC h) h
theorem Xy {c:Code} {t:Act} {H:ad} {Ψ:Exit->Act->ad->Prop} (h:RL P c t H Ψ):RC P (.loop c) t H Ψ:=by
 obtain ⟨e,t1,H1,s1,c1,h1⟩:=h
 exact ⟨e,t1,H1,s1,fun σ w a Q hr hf ht hq=>aaQ (c1 σ w a Q hr hf ht hq),h1⟩
theorem WS {id:Nat} {c:Code} {t:Act} {H:ad} {Ψ:Exit->Act->ad->Prop}
  (h:RC P c t H (fun e t' H'=>match e with | .exit i=>if i=id then Ψ .normal t' H' else Ψ (.exit i) t' H' | e=>Ψ e t' H')):RC P (.block id c) t H Ψ:=by
 obtain ⟨e,t1,H1,s1,c1,h1⟩:=h
 by_cases he:e=.exit id
 ·subst he
  simp only [if_true] at h1
  exact ⟨.normal,t1,H1,s1,fun σ w a Q hr hf ht hq=>wp_block (c1 σ w a _ hr hf ht fun σ' a' w' p K8=>by
   simp only [Exit.inBlock,if_true];exact hq σ' a' w' p K8),h1⟩
 ·have lH:Ψ e t1 H1:=by
   cases e with
   | exit i=>
    have dk:i≠id:=fun h=>he (h▸rfl)
    simp only [dk,if_false] at h1;exact h1
   | _=>exact h1
  refine ⟨e,t1,H1,s1,fun σ w a Q hr hf ht hq=>wp_block (c1 σ w a _ hr hf ht fun σ' a' w' p K8=>?_),lH⟩
  have:=hq σ' a' w' p K8
  cases e with
  | exit i=>
   have dk:i≠id:=fun h=>he (h▸rfl)
   simp only [Exit.inBlock,dk,if_false];exact this
  | _=>exact this
theorem VR.bool {σ:bw} {b:Bool} {v:Value} (h:VR σ (.bool b) v):v=.bool b:=by cases h;rfl
theorem VR.int {σ:bw} {k:IntKind} {n:Int} {v:Value} (h:VR σ (.int k n) v):v=.int k n:=by cases h;rfl
theorem VR.string {σ:bw} {s:ByteArray} {v:Value} (h:VR σ (.string s) v):v=.string s:=by cases h;rfl
theorem Xz {c:Operand} {x y:Code} {t:Act} {H:ad} {b:Bool} {Ψ:Exit->Act->ad->Prop} (hc:t.eval c=.bool b)
  (ho:tp c=true) (h:RC P (if b then x else y) t H Ψ):RC P (.cond c x y) t H Ψ:=by
 obtain ⟨e,t1,H1,s1,c1,h1⟩:=h
 refine ⟨e,t1,H1,s1,fun σ w a Q hr hf ht hq=>wp_cond (t:=b) ?_ (c1 σ w a Q hr hf ht hq),h1⟩
 have:=ht.ev ho
 rw [hc] at this
 exact this.bool
abbrev RO (P:Program) (ops:Array Oper) (l:List Nat):=Reach P fun Q a w=>wpOps P ops Q l a w
theorem adI {ops:Array Oper} {t:Act} {H:ad} {Ψ:Exit->Act->ad->Prop} (hw:H.wf) (h:Ψ .normal t H):RO P ops [] t H Ψ:=
 .now hw (fun _ _ _ h=>h) h
theorem abg {id:Nat} {ops:Array Oper} {t:Act} {H:ad} {Ψ:Exit->Act->ad->Prop} (h:RO P ops (List.range ops.size) t H Ψ):
  RC P (.region id ops false) t H Ψ:=by
 obtain ⟨e,t1,H1,s1,c1,h1⟩:=h
 exact ⟨e,t1,H1,s1,fun σ w a Q hr hf ht hq=>wp_region (c1 σ w a Q hr hf ht hq),h1⟩
theorem abh {σ:bw} {t a:Act} {o:Oper} {ops:Array Oper} (h:TR σ t a):Region.wanted o (yielded ops t.tmps)=Region.wanted o (yielded ops a.tmps):=
 Ww h.tm.1 fun d _=>h.tm.at d
theorem XA {ops:Array Oper} {i:Nat} {o:Oper} {rest:List Nat} {t:Act} {H:ad} {v:Value} {H':ad} {Ψ:Exit->Act->ad->Prop}
  (ho:ops[i]?=some o) (hs:iR dN H H') (fX:o.op.operands.all tp=true) (h:tO P ops dN o t H v H') (hn:RO P ops rest (t.put o.dst v) H' Ψ):
  RO P ops (i::rest) t H Ψ:=by
 obtain ⟨e,t1,H1,s1,c1,h1⟩:=hn
 refine ⟨e,t1,H1,hs.trans s1,fun σ w a Q hr hf ht hq=>?_,h1⟩
 simp only [wpOps,ho]
 have hw:=abh (o:=o) (ops:=ops) ht
 rw [<-hw]
 unfold tO at h
 have cont:∀σ' v' w',jg P dN σ H w σ' H' w'->VR σ' v v'->wpOps P ops Q rest (a.put o.dst v') w':=fun σ' v' w' p hv=>
  c1 σ' w' _ Q (p.rel.sub fun _ _=>.inl trivial) (hf.right hs.next p) ((ht.mono (p.up (hf.left s1.next))).put hv _)
   (fun σ2 a2 w2 p2 Th=>hq σ2 a2 w2 (p.trans hs.next s1.next p2) Th)
 by_cases Fb:Region.wanted o (yielded ops t.tmps)=true
 ·rw [if_pos Fb] at h ⊢
  refine .inl (h σ w a _ Q hr (hf.left s1.next) (fun x hx=>ht.ev (Array.all_eq_true_iff_forall_mem.1 fX x hx)) cont)
 ·rw [if_neg Fb] at h ⊢
  refine cont σ undef w ?_ (h.1▸VR.undef σ)
  rw [h.2]
  exact jg.refl hr rfl
def Ti (P:Program) (f:FuncId) (args:Array Value) (H:ad) (v:Value) (H':ad):Prop:=
 ∀(σ:bw) (w:World) (Cv:Array Value),Rel P σ dN H.get w->qk σ H H'->sw σ args Cv->
  Calls P f Cv w fun e w'=>∃σ' v',e=.returned v'/\jg P dN σ H w σ' H' w'/\VR σ' v v'
def Tj (P:Program) (f:FuncId) (args:Array Value) (H:ad) (Φ:Value->ad->Prop):Prop:=
 ∃v H',iR dN H H'/\Ti P f args H v H'/\Φ v H'
def Y7 (P:Program) (fn:Func) (t:Act) (H:ad) (v:Value):Prop:=
 ∀σ w a,Rel P σ dN H.get w->TR σ t a->∃v',(results fn a.tmps).run P w=.ok v' w/\VR σ v v'
def start (fn:Func) (args:Array Value):Act:={tmps:=args++Array.replicate (fn.ntmps - args.size) undef,defers:=[]}
theorem Yi {f:FuncId} {fn:Func} {c:Code} {args:Array Value} {H:ad} {Φ:Value->ad->Prop} (hf:P.funcs[f]?=some fn) (hb:fn.body=some c)
  (h:RC P c (start fn args) H fun e t' H'=>(e=.normal∨e=.ret)/\∃v,Y7 P fn t' H' v/\Φ v H'):Tj P f args H Φ:=by
 obtain ⟨e,t1,H1,s1,c1,he,v,hv,hΦ⟩:=h
 refine ⟨v,H1,s1,fun σ w Cv hr bg ha=>calls_of_wp hf hb (c1 σ w _ _ hr bg ⟨⟨?_,fun i _=>?_⟩,rfl,rfl⟩ ?_),hΦ⟩
 ·simp [start,ha.1]
 ·have key:∀(x:Array Value) (n:Nat),(x++Array.replicate n undef).getD i undef=x.getD i undef:=by
   intro x n
   by_cases hi:i < x.size
   ·simp [Array.getD,hi,Array.getElem_append,Nat.lt_add_right n hi]
   ·by_cases iK:i < x.size+n
    ·simp [Array.getD,hi,iK,Array.getElem_append]
    ·simp [Array.getD,hi,iK]
  simp only [start]
  rw [key,key]
  exact ha.at i
 ·intro σ' a' w' p ht
  obtain ⟨v',sB,nv⟩:=hv σ' w' a' (p.rel.sub fun _ _=>.inl trivial) ht
  have:bodyPost P fn (fun e w'=>∃σ' v',e=.returned v'/\jg P dN σ H w σ' H1 w'/\VR σ' v v') .normal a' w':=⟨ht.da,v',sB,σ',v',rfl,p,nv⟩
  rcases he with rfl | rfl <;> exact this
end
end Go.Proofs.YtinjmfblebpnnaaGreat.Ab
namespace Go.Proofs.YtinjmfblebpnnaaGreat.Ab
open Go Classical
section
variable {P:Program}
theorem VR.GK {σ:bw} {b o:Nat} {v:Value} (h:VR σ (.pointer (some ⟨b,o,none⟩)) v):∃l,(σ b=some l/\l.mp=false)/\v=.pointer (some ⟨l.ba,l.base+o,none⟩):=by
 cases h with
 | same h=>cases h
 | ptr h=>exact ⟨_,h,rfl⟩
theorem VR.zh {σ:bw} {b o n c:Nat} {v:Value} (h:VR σ (.slice (some ⟨b,o,none⟩) n c) v):∃l,(σ b=some l/\l.mp=false)/\v=.slice (some ⟨l.ba,l.base+o,none⟩) n (c+l.room):=by
 cases h with
 | same h=>cases h
 | slice h=>exact ⟨_,h,rfl⟩
theorem VR.Qf {σ:bw} {n c:Nat} {v:Value} (h:VR σ (.slice none n c) v):v=.slice none n c:=by cases h;rfl
theorem VR.M3 {σ:bw} {a:Array Value} {v:Value} (h:VR σ (.agg a) v):∃a',v=.agg a'/\sw σ a a':=by
 cases h with
 | same h=>cases h
 | agg h1 h2=>exact ⟨_,rfl,h1,h2⟩
theorem VR.abi {σ:bw} {a:Array Value} {v:Value} (h:VR σ (.tuple a) v):∃a',v=.tuple a'/\sw σ a a':=by
 cases h with
 | same h=>cases h
 | tuple h1 h2=>exact ⟨_,rfl,h1,h2⟩
theorem VR.WT {σ:bw} {fn:Fn} {f c:Array Value} {v:Value} (h:VR σ (.func fn f c) v):∃f' c',v=.func fn f' c'/\sw σ f f'/\sw σ c c':=by
 cases h with
 | same h=>cases h
 | func h1 h2 h3 h4=>exact ⟨_,_,rfl,⟨h1,h3⟩,h2,h4⟩
def VL (σ:bw) (a a':List Value):Prop:=a.length=a'.length/\∀i,i < a.length->VR σ (a.getD i undef) (a'.getD i undef)
theorem sw.Db {σ:bw} {a a':Array Value} (h:sw σ a a'):VL σ a.toList a'.toList:=by
 refine ⟨by simpa using h.1,fun i hi=>?_⟩
 have:=h.at i
 simpa [Array.getD_eq_getD_getElem?,List.getD_eq_getElem?_getD] using this
theorem VL.wJ {σ:bw} {a a':List Value} (h:VL σ a a'):sw σ a.toArray a'.toArray:=by
 refine ⟨by simpa using h.1,fun i hi=>?_⟩
 have:=h.2 i (by simpa using hi)
 simpa [Array.getD_eq_getD_getElem?,List.getD_eq_getElem?_getD] using this
theorem VL.at {σ:bw} {a a':List Value} (h:VL σ a a') (i:Nat):VR σ (a.getD i undef) (a'.getD i undef):=by
 by_cases hi:i < a.length
 ·exact h.2 i hi
 ·rw [List.getD_eq_getElem?_getD,List.getD_eq_getElem?_getD,List.getElem?_eq_none (by omega),List.getElem?_eq_none (by have:=h.1;omega)];exact .undef σ
theorem VL.nil (σ:bw):VL σ [] []:=⟨rfl,fun i h=>absurd h (by simp)⟩
theorem VL.cons {σ:bw} {x x':Value} {a a':List Value} (hx:VR σ x x') (h:VL σ a a'):VL σ (x::a) (x'::a'):=by
 refine ⟨by simp [h.1],fun i hi=>?_⟩
 cases i with
 | zero=>exact hx
 | succ i=>simpa using h.at i
theorem VL.of_cons {σ:bw} {x:Value} {a l':List Value} (h:VL σ (x::a) l'):∃x' a',l'=x'::a'/\VR σ x x'/\VL σ a a':=by
 cases l' with
 | nil=>have:=h.1;simp at this
 | cons x' a'=>exact ⟨x',a',rfl,by simpa using h.at 0,by have:=h.1;simpa using this,fun i hi=>by simpa using h.at (i+1)⟩
theorem VL.of_nil {σ:bw} {l':List Value} (h:VL σ [] l'):l'=[]:=List.length_eq_zero_iff.1 h.1.symm
theorem VL.append {σ:bw} {a a' b b':List Value} (h:VL σ a a') (h':VL σ b b'):VL σ (a++b) (a'++b'):=by
 induction a generalizing a' with
 | nil=>rw [h.of_nil];exact h'
 | cons x a ih=>obtain ⟨x',a'',rfl,hx,ha⟩:=h.of_cons;exact .cons hx (ih ha)
theorem VL.drop {σ:bw} {a a':List Value} (h:VL σ a a') (n:Nat):VL σ (a.drop n) (a'.drop n):=by
 refine ⟨by simp [h.1],fun i hi=>?_⟩
 have:=h.at (n+i)
 simpa [List.getD_eq_getElem?_getD,List.getElem?_drop] using this
theorem VL.take {σ:bw} {a a':List Value} (h:VL σ a a') (n:Nat):VL σ (a.take n) (a'.take n):=by
 refine ⟨by simp [h.1],fun i hi=>?_⟩
 have ep:i < n:=by simp at hi;omega
 have:=h.at i
 simpa [List.getD_eq_getElem?_getD,List.getElem?_take,ep] using this
theorem wb {α:Type}:∀(l:List α) (n:Nat),pg l n=l[n]?
 | [],n=>by simp [pg]
 | a::l,0=>rfl
 | a::l,n+1=>by rw [List.getElem?_cons_succ,<-wb l n];rfl
theorem Gw {α:Type}:∀(l:List α) (n:Nat),He l n=l.drop n
 | [],n=>by simp [He]
 | a::l,0=>rfl
 | a::l,n+1=>by rw [List.drop_succ_cons,<-Gw l n];rfl
theorem Gx {α:Type}:∀(l:List α) (n:Nat),Hg l n=l.take n
 | [],n=>by simp [Hg]
 | a::l,0=>rfl
 | a::l,n+1=>by rw [List.take_succ_cons,<-Gx l n];rfl
theorem xu {α:Type}:∀(l:List α),jV l=l.length
 | []=>rfl
 | a::l=>by rw [List.length_cons,<-xu l];rfl
theorem Nf {β:Type} (n:Nat) (k:Nat->β):rm n k=k n:=by cases n <;> rfl
theorem blt_eq (a b:Nat):Nat.blt a b=decide (a < b):=by rw [Bool.eq_iff_iff];simp [Nat.blt_eq]
theorem ble_eq (a b:Nat):Nat.ble a b=decide (a<=b):=by rw [Bool.eq_iff_iff];simp [Nat.ble_eq]
theorem beq_eq (a b:Nat):Nat.beq a b=decide (a=b):=by rw [Bool.eq_iff_iff];simp [Nat.beq_eq]
theorem xB (a b:Int):C7 a b=decide (a < b):=by
 cases a <;> cases b <;> simp only [C7,blt_eq] <;> rw [Bool.eq_iff_iff] <;> simp only [decide_eq_true_eq,Bool.false_eq_true,Int.ofNat_eq_natCast] <;> (constructor <;> intro h <;> first | omega | exact h.elim | trivial)
theorem AI (a b:Int):E5 a b=decide (a=b):=by
 cases a <;> cases b <;> simp only [E5,beq_eq] <;> rw [Bool.eq_iff_iff] <;> simp only [decide_eq_true_eq,Bool.false_eq_true,Int.ofNat_eq_natCast] <;> (constructor <;> intro h <;> first | omega | exact h.elim | trivial)
theorem Jn {n:Int} (h:AF n=true):IntKind.wrap .i64 n=n:=by
 have: -9223372036854775808<=n/\n < 9223372036854775808:=by
  cases n with
  | ofNat a=>simp only [AF,blt_eq,decide_eq_true_eq] at h;simp only [Int.ofNat_eq_natCast];omega
  | negSucc a=>simp only [AF,blt_eq,decide_eq_true_eq] at h;omega
 unfold IntKind.wrap
 simp only [IntKind.bits,IntKind.signed,Bool.true_and]
 split <;> simp_all <;> omega
theorem qd (k:IntKind) (n:Int):oZ k n=k.wrap n:=by
 cases k <;> try rfl
 ·show (bif AF n then n else IntKind.wrap .i64 n)=_
  cases h:AF n
  ·rfl
  ·rw [cond_true,Jn h]
 ·cases n with
  | negSucc a=>rfl
  | ofNat a=>
   show (bif Nat.blt a 256 then Int.ofNat a else IntKind.wrap .u8 (Int.ofNat a))=_
   cases h:Nat.blt a 256
   ·rfl
   ·rw [cond_true]
    rw [blt_eq,decide_eq_true_eq] at h
    unfold IntKind.wrap
    simp [IntKind.bits,IntKind.signed];omega
 ·cases n with
  | negSucc a=>rfl
  | ofNat a=>
   show (bif Nat.blt a 18446744073709551616 then Int.ofNat a else IntKind.wrap .u64 (Int.ofNat a))=_
   cases h:Nat.blt a 18446744073709551616
   ·rfl
   ·rw [cond_true]
    rw [blt_eq,decide_eq_true_eq] at h
    unfold IntKind.wrap
    simp [IntKind.bits,IntKind.signed];omega
theorem Gq:∀(x y:List UInt8),GG x y=decide (x=y)
 | [],[]=>rfl
 | [],_::_=>rfl
 | _::_,[]=>rfl
 | a::x,b::y=>by
  have:GG (a::x) (b::y)=Bool.rec (motive:=fun _=>Bool) false (GG x y) (Nat.beq a.toNat b.toNat):=rfl
  rw [this,Gq x y]
  cases h:Nat.beq a.toNat b.toNat
  ·have:a≠b:=fun e=>by subst e;simp at h
   simp [this]
  ·have:a=b:=UInt8.toNat_inj.1 (Nat.eq_of_beq_eq_true h)
   subst this
   simp
end
end Go.Proofs.YtinjmfblebpnnaaGreat.Ab
namespace Go.Proofs.YtinjmfblebpnnaaGreat.Ab
open Go Classical
section
variable {P:Program}
theorem ME {t:TypeId} {b:Bool} (h:gU P t=some b) (w:World):(isAgg t).run P w=.ok b w:=by
 unfold gU at h
 split at h
 ·cases h;rename_i hu;simp [isAgg,run_underlying hu]
 ·cases h;rename_i hu;simp [isAgg,run_underlying hu]
 ·cases h
  rename_i d Bj i4 hu
  simp only [isAgg,Sem.run_bind,run_underlying hu,Result.andThen_ok]
  rfl
 ·cases h
theorem nL {t:TypeId} {n:Nat} (h:dj P t=some n) (w:World):(sizeOf t).run P w=.ok n w:=by
 unfold dj at h
 split at h
 ·rename_i i hi;cases h;simp [sizeOf,typeInfo,hi]
 ·cases h
theorem MH {σ:bw} {t:TypeId} {cs:List Value} {fL:Array Value} {off:Nat} {v:Value} (h:AP P t cs off=some v) (hv:VL σ cs fL.toList):
  ∃v',(∀w,(part t fL off).run P w=.ok v' w)/\VR σ v v':=by
 unfold AP at h
 split at h
 ·rename_i ha
  split at h
  ·rename_i n hn
   cases h
   rw [Gx,Gw]
   refine ⟨.agg (fL.extract off (off+n)),fun w=>?_,?_⟩
   ·simp [part,ME ha,nL hn]
   ·have hx:=((hv.drop off).take n).wJ
    have he:((fL.toList.drop off).take n).toArray=fL.extract off (off+n):=by
     apply Array.ext'
     simp [List.drop_take]
    rw [he] at hx
    exact .agg hx.1 hx.2
  ·cases h
 ·rename_i ha
  rw [wb] at h
  obtain ⟨aZ,hx⟩:=List.getElem?_eq_some_iff.1 h
  have dG:off < fL.size:=by have:=hv.1;simp at this;omega
  refine ⟨fL[off],fun w=>?_,?_⟩
  ·simp [part,ME ha,Array.getElem?_eq_getElem dG]
  ·have:=hv.at off
   simpa [List.getD_eq_getElem?_getD,h,Array.getElem?_eq_getElem dG] using this
 ·cases h
theorem aaR {σ:bw} {t:TypeId} {x y x' y':Value} {b:Bool} (hu:P.underlying t=some .bool) (h:GV x y=some b) (hx:VR σ x x') (hy:VR σ y y') (d:Nat) (w:World):
  (Op.equalIn (d+1) t x' y').run P w=.ok b w:=by
 unfold GV at h;split at h
 ·cases h;rw [hx.bool,hy.bool];exact run_equalIn_bool w d t _ _ hu
 ·cases h
theorem abj {σ:bw} {t:TypeId} {k:IntKind} {x y x' y':Value} {b:Bool} (hu:P.underlying t=some (.int k)) (h:Hh x y=some b) (hx:VR σ x x') (hy:VR σ y y') (d:Nat) (w:World):
  (Op.equalIn (d+1) t x' y').run P w=.ok b w:=by
 unfold Hh at h;split at h
 ·rename_i j a k' b'
  by_cases hk:j=k'
  ·subst hk
   simp only [decide_true,cond_true,Option.some.injEq] at h
   subst h
   rw [hx.int,hy.int,run_equalIn_int w d t _ _ _ _ hu,AI]
   rfl
  ·simp [hk] at h
 ·cases h
theorem abk {σ:bw} {t:TypeId} {x y x' y':Value} {b:Bool} (hu:P.underlying t=some .string) (h:eqStr x y=some b) (hx:VR σ x x') (hy:VR σ y y') (d:Nat) (w:World):
  (Op.equalIn (d+1) t x' y').run P w=.ok b w:=by
 unfold eqStr at h;split at h
 ·cases h;rw [hx.string,hy.string,run_equalIn_string w d t _ _ hu,Gq,ByteArray.toList_eq,ByteArray.toList_eq]
  congr 1
  exact Bool.eq_iff_iff.2 (by simp)
 ·cases h
theorem VR.tq {σ:bw} {a:Option Addr} {n c:Nat} {v:Value} (h:VR σ (.slice a n c) v):∃a' c',v=.slice a' n c'/\a'.isNone=a.isNone:=by
 cases h with
 | same h=>exact ⟨_,_,rfl,rfl⟩
 | slice h=>exact ⟨_,_,rfl,rfl⟩
 | yu=>exact ⟨_,_,rfl,rfl⟩
theorem VR.QD {σ:bw} {a:Option Addr} {v:Value} (h:VR σ (.pointer a) v):∃a',v=.pointer a'/\a'.isNone=a.isNone:=by
 cases h with
 | same h=>exact ⟨_,rfl,rfl⟩
 | ptr h=>exact ⟨_,rfl,rfl⟩
theorem aaD {σ:bw} {t e:TypeId} {x y x' y':Value} {b:Bool} (hu:P.underlying t=some (.slice e)) (h:GI x y=some b) (hx:VR σ x x') (hy:VR σ y y') (d:Nat) (w:World):
  (Op.equalIn (d+1) t x' y').run P w=.ok b w:=by
 unfold GI at h
 split at h
 ·obtain ⟨a',c',rfl,ha⟩:=hx.tq
  obtain ⟨b',c2',rfl,hb⟩:=hy.tq
  rw [<-ha,<-hb] at h
  cases a' <;> cases b' <;> simp at h <;> subst h <;> simp [Op.equalIn,run_underlying hu]
 ·cases h
theorem abl {σ:bw} {t e:TypeId} {x y x' y':Value} {b:Bool} (hu:P.underlying t=some (.pointer e)) (h:Hj x y=some b) (hx:VR σ x x') (hy:VR σ y y') (d:Nat) (w:World):
  (Op.equalIn (d+1) t x' y').run P w=.ok b w:=by
 unfold Hj at h
 split at h
 ·obtain ⟨a',rfl,ha⟩:=hx.QD
  obtain ⟨b',rfl,hb⟩:=hy.QD
  rw [<-ha,<-hb] at h
  cases a' <;> cases b' <;> simp at h <;> subst h <;> simp [Op.equalIn,run_underlying hu]
 ·cases h
theorem MN (d:Nat) (t:TypeId) (x y:Value):wH P (d+1) t x y=(match P.underlying t with
   | some .bool=>GV x y
   | some (.int _)=>Hh x y
   | some .string=>eqStr x y
   | some (.slice _)=>GI x y
   | some (.pointer _)=>Hj x y
   | some (.struct fs)=>match x,y with
    | .agg xs,.agg ys=>bif P.stoodInHeld t||P.eqGuardType P.depth t then none else MG P (wH P d) xs.toList ys.toList fs.toList
    | _,_=>none
   | _=>none):=rfl
theorem acM {σ:bw}:∀(d:Nat) {t:TypeId} {x y x' y':Value} {b:Bool},wH P d t x y=some b->VR σ x x'->VR σ y y'->∀w,(Op.equalIn d t x' y').run P w=.ok b w:=by
 intro d
 induction d with
 | zero=>intro t x y x' y' b h;cases h
 | succ d ih=>
  intro t x y x' y' b h hx hy w
  have h':=h
  rw [MN] at h'
  clear h
  split at h'
  ·rename_i hu;exact aaR hu h' hx hy d w
  ·rename_i hu;exact abj hu h' hx hy d w
  ·rename_i hu;exact abk hu h' hx hy d w
  ·rename_i hu;exact aaD hu h' hx hy d w
  ·rename_i hu;exact abl hu h' hx hy d w
  ·rename_i fs hu
   split at h'
   ·rename_i xs ys
    obtain ⟨xs',rfl,yw⟩:=hx.M3
    obtain ⟨ys',rfl,hys⟩:=hy.M3
    cases dE:P.stoodInHeld t
    ·cases hg:P.eqGuardType P.depth t
     ·simp only [dE,hg,Bool.or_self,cond_false] at h'
      have hf:P.fieldsOf t=fs:=by simp [Program.fieldsOf,hu]
      rw [run_equalIn_struct w d t xs' ys' (by rw [hf];exact hu) dE,hf]
      clear hu hf
      have hxl:=yw.Db
      have hyl:=hys.Db
      generalize fs.toList=l at h'
      induction l generalizing w with
      | nil=>cases h';rfl
      | cons f l ihl=>
       have h2:(bif decide (f.name= "_") then none else match AP P f.type xs.toList f.offset,AP P f.type ys.toList f.offset with
        | some a,some b=>match wH P d f.type a b with
         | some true=>MG P (wH P d) xs.toList ys.toList l
         | some false=>some false
         | none=>none
        | _,_=>none)=some b:=h'
       clear h'
       by_cases hn:f.name= "_"
       ·simp [hn] at h2
       ·simp only [hn,decide_false,cond_false] at h2
        split at h2
        ·rename_i a a2 ha Tk
         obtain ⟨v1,gj,sB⟩:=MH ha hxl
         obtain ⟨v2,dL,nv⟩:=MH Tk hyl
         split at h2
         ·rename_i he
          simp [Op.eqFields,hn,gj,dL,ih he sB nv,ihl w h2]
         ·rename_i he
          cases h2
          simp [Op.eqFields,hn,gj,dL,ih he sB nv]
         ·cases h2
        ·cases h2
     ·simp [dE,hg] at h'
    ·simp [dE] at h'
   ·cases h'
  ·cases h'
end
end Go.Proofs.YtinjmfblebpnnaaGreat.Ab
namespace Go.Proofs.YtinjmfblebpnnaaGreat.Ab
open Go Classical
section
variable {P:Program}
def Yl (P:Program) (σ:bw) (v:Value) (s:Sem Value):Prop:=∃v',VR σ v v'/\∀w,s.run P w=.ok v' w
theorem Qg {op:BinOp} {t:TypeId} {x y:Operand} {k k':IntKind} {a b:Int} (w:World):(eqGuard op t x y (.int k a) (.int k' b)).run P w=.ok () w:=by
 cases op <;> simp [eqGuard]
theorem abm {op:BinOp} {t:TypeId} {x y:Operand} {a b:ByteArray} (w:World):(eqGuard op t x y (.string a) (.string b)).run P w=.ok () w:=by
 cases op <;> simp [eqGuard]
theorem MO (k:IntKind) (a:Int):xI k a=(BitVec.ofInt k.bits a).toNat:=by
 rw [BitVec.toNat_ofInt]
 cases a with
 | ofNat n=>
  show n % 2 ^ k.bits=_
  have e:((Int.ofNat n) % ((2 ^ k.bits:Nat):Int))=((n % 2 ^ k.bits:Nat):Int):=by simp
  rw [e];rfl
 | negSucc n=>rfl
theorem abW {σ:bw} {op:BinOp} {t:TypeId} {k:IntKind} {a b:Int} {v:Value} (h:tN op k a b=some v):Yl P σ v (binOp op t (.int k a) (.int k b)):=by
 cases op <;> simp only [tN] at h
 case add=>cases h;exact ⟨_,.same rfl,fun w=>by simp [binOp,Op.intArith,qd]⟩
 case sub=>cases h;exact ⟨_,.same rfl,fun w=>by simp [binOp,Op.intArith,qd]⟩
 case mul=>cases h;exact ⟨_,.same rfl,fun w=>by simp [binOp,Op.intArith,qd]⟩
 case quo=>
  rw [AI] at h
  by_cases hb:b=0
  ·simp [hb] at h
  ·simp only [hb,decide_false,cond_false,Option.some.injEq] at h
   subst h
   exact ⟨_,.same rfl,fun w=>by simp [binOp,Op.intDiv,qd,hb]⟩
 case rem=>
  rw [AI] at h
  by_cases hb:b=0
  ·simp [hb] at h
  ·simp only [hb,decide_false,cond_false,Option.some.injEq] at h
   subst h
   exact ⟨_,.same rfl,fun w=>by simp [binOp,Op.intDiv,hb]⟩
 case eql=>cases h;exact ⟨_,.same rfl,fun w=>by simp [binOp,Op.intCmp,AI];rfl⟩
 case neq=>cases h;exact ⟨_,.same rfl,fun w=>by simp [binOp,Op.intCmp,AI];rfl⟩
 case lss=>cases h;exact ⟨_,.same rfl,fun w=>by simp [binOp,Op.intCmp,xB]⟩
 case leq=>cases h;exact ⟨_,.same rfl,fun w=>by simp [binOp,Op.intCmp,xB,<-decide_not,Int.not_lt]⟩
 case gtr=>cases h;exact ⟨_,.same rfl,fun w=>by simp [binOp,Op.intCmp,xB]⟩
 case geq=>cases h;exact ⟨_,.same rfl,fun w=>by simp [binOp,Op.intCmp,xB,<-decide_not,Int.not_lt]⟩
 case and=>cases h;exact ⟨_,.same rfl,fun w=>by simp [binOp,Op.intBits,qd,MO]⟩
 case or=>cases h;exact ⟨_,.same rfl,fun w=>by simp [binOp,Op.intBits,qd,MO]⟩
 case xor=>cases h;exact ⟨_,.same rfl,fun w=>by simp [binOp,Op.intBits,qd,MO]⟩
 case andNot=>cases h;exact ⟨_,.same rfl,fun w=>by simp [binOp,Op.intBits,qd,MO]⟩
 all_goals cases h
theorem Wk {σ:bw} {op:BinOp} {t:TypeId} {k k':IntKind} {a b:Int} {v:Value} (h:Nb op k a b=some v):Yl P σ v (binOp op t (.int k a) (.int k' b)):=by
 unfold Nb at h
 split at h
 ·rename_i b
  have hm:(bif Nat.ble b k.bits then b else k.bits)=min b k.bits:=by
   rw [ble_eq]
   by_cases hb:b<=k.bits
   ·simp [hb,Nat.min_eq_left hb]
   ·simp [hb,Nat.min_eq_right (Nat.le_of_not_le hb)]
  have hp:((2 ^ (min b k.bits):Nat):Int)=(2:Int) ^ (min b k.bits):=by simp
  split at h
  ·cases h
   refine ⟨_,.same rfl,fun w=>?_⟩
   rw [hm]
   simp [binOp,Op.shift,qd]
   intro cu;omega
  ·cases h
   refine ⟨_,.same rfl,fun w=>?_⟩
   rw [hm]
   simp [binOp,Op.shift]
   intro cu;omega
  ·cases h
 ·cases h
theorem aaA (a b:ByteArray):(⟨(a.data.toList++b.data.toList).toArray⟩:ByteArray)=a++b:=by
 apply ByteArray.ext
 apply Array.ext'
 simp
theorem Jl (a:ByteArray):jV a.data.toList=a.size:=by rw [xu];exact Array.length_toList
theorem abX {σ:bw} {op:BinOp} {t:TypeId} {a b:ByteArray} {v:Value} (h:HO op a b=some v):Yl P σ v (binOp op t (.string a) (.string b)):=by
 cases op <;> simp only [HO] at h
 case add=>
  rw [Jl,Jl,blt_eq] at h
  by_cases hs:a.size+b.size < 4611686018427387904
  ·simp only [hs,decide_true,cond_true,Option.some.injEq] at h
   subst h
   rw [aaA]
   have h2:¬(9223372036854775807 < (a.size:Int)+(b.size:Int)):=by omega
   exact ⟨_,.same rfl,fun w=>by simp [binOp,Op.stringOp,h2,IntKind.max,IntKind.signed,IntKind.bits]⟩
  ·simp [hs] at h
 case eql=>cases h;exact ⟨_,.same rfl,fun w=>by simp [binOp,Op.stringOp,Gq,ByteArray.toList_eq];exact Bool.eq_iff_iff.2 (by simp)⟩
 case neq=>cases h;exact ⟨_,.same rfl,fun w=>by simp [binOp,Op.stringOp,Gq,ByteArray.toList_eq];exact Bool.eq_iff_iff.2 (by simp)⟩
 all_goals cases h
def Co:Value->Bool
 | .bool _ | .slice _ _ _ | .pointer _ | .agg _=>true
 | _=>false
theorem abY {d:Nat} {t:TypeId} {x y:Value} {b:Bool} (h:wH P d t x y=some b) (hx:∀k n,x≠.int k n) (hs:∀s,x≠.string s):Co x=true/\Co y=true:=by
 cases d with
 | zero=>cases h
 | succ d=>
  rw [MN] at h
  split at h
  ·unfold GV at h;split at h <;> first | (cases h;done) | exact ⟨rfl,rfl⟩
  ·unfold Hh at h;split at h
   ·exact absurd rfl (hx _ _)
   ·cases h
  ·unfold eqStr at h;split at h
   ·exact absurd rfl (hs _)
   ·cases h
  ·unfold GI at h;split at h <;> first | (cases h;done) | exact ⟨rfl,rfl⟩
  ·unfold Hj at h;split at h <;> first | (cases h;done) | exact ⟨rfl,rfl⟩
  ·split at h <;> first | (cases h;done) | exact ⟨rfl,rfl⟩
  ·cases h
theorem abn {d:Nat} {t:TypeId} {x y:Value} {b:Bool} (h:wH P d t x y=some b) {xs ys:Array Value} (hx:x=.agg xs):P.eqGuardType P.depth t=false:=by
 subst hx
 cases d with
 | zero=>cases h
 | succ d=>
  rw [MN] at h
  split at h
  ·cases h
  ·cases h
  ·cases h
  ·cases h
  ·cases h
  ·split at h
   ·rename_i heq
    cases hg:P.eqGuardType P.depth t
    ·rfl
    ·simp [hg] at h
   ·cases h
  ·cases h
theorem VR.Y8 {σ:bw} {x x':Value} (h:VR σ x x') (he:Co x=true):Co x'=true/\((∃a,x=.agg a/\∃a',x'=.agg a')∨(∀a',x'≠.agg a')):=by
 cases h with
 | same h=>exact ⟨he,.inr (fun a' e=>by subst e;cases h)⟩
 | ptr h=>exact ⟨rfl,.inr (fun a' e=>by cases e)⟩
 | slice h=>exact ⟨rfl,.inr (fun a' e=>by cases e)⟩
 | map h=>cases he
 | yu=>exact ⟨rfl,.inr (fun a' e=>by cases e)⟩
 | agg h1 h2=>exact ⟨rfl,.inl ⟨_,rfl,_,rfl⟩⟩
 | func=>cases he
 | tuple=>cases he
theorem Wl {op:BinOp} {t:TypeId} {x y:Operand} {a b:Value} (ha:Co a=true) (hb:Co b=true) (hg:(∀xs,a≠.agg xs)∨P.eqGuardType P.depth t=false) (w:World):
  (eqGuard op t x y a b).run P w=.ok () w:=by
 cases a <;> first | (cases ha;done) | skip
 all_goals cases b <;> first | (cases hb;done) | skip
 all_goals cases op <;> simp [eqGuard]
 all_goals
  rcases hg with hg | hg
  ·exact absurd rfl (hg _)
  ·simp [run_program,hg]
theorem aaS {t:TypeId} {a b:Value} (ha:Co a=true) (hb:Co b=true):
  binOp .eql t a b=(do pure (.bool (<-Op.equal t a b)))/\binOp .neq t a b=(do pure (.bool (!(<-Op.equal t a b)))):=by
 cases a <;> first | (cases ha;done) | skip
 all_goals cases b <;> first | (cases hb;done) | exact ⟨rfl,rfl⟩
theorem abZ {σ:bw} {op:BinOp} {t:TypeId} {x y x' y':Value} {v:Value} (xo yo:Operand) (h:mh P op t x y=some v) (hx:VR σ x x') (hy:VR σ y y'):
  Yl P σ v (do eqGuard op t xo yo x' y';binOp op t x' y'):=by
 have key:∀b,wH P 10000 t x y=some b->(∀k n,x≠.int k n)->(∀s,x≠.string s)->op=.eql∨op=.neq->v=.bool (if op=.eql then b else !b)->Yl P σ v (do eqGuard op t xo yo x' y';binOp op t x' y'):=by
  intro b he h1 h2 ir hv
  obtain ⟨ax,ay⟩:=abY he h1 h2
  obtain ⟨Tl,cx⟩:=hx.Y8 ax
  obtain ⟨Tm,_⟩:=hy.Y8 ay
  have hg:(∀xs,x'≠.agg xs)∨P.eqGuardType P.depth t=false:=by
   rcases cx with ⟨a,ha,_⟩ | hn
   ·exact .inr (abn (ys:=#[]) he ha)
   ·exact .inl hn
  obtain ⟨e1,e2⟩:=aaS (t:=t) Tl Tm
  have hr:=acM 10000 he hx hy
  refine ⟨v,.same (by rw [hv];rfl),fun w=>?_⟩
  rcases ir with rfl | rfl
  ·rw [e1,hv];simp [Wl Tl Tm hg,Op.equal,Op.maxDepth,hr]
  ·rw [e2,hv];simp [Wl Tl Tm hg,Op.equal,Op.maxDepth,hr]
 unfold mh at h
 split at h
 ·rename_i k a k' b
  split at h
  ·obtain ⟨v',h1,h2⟩:=Wk (P:=P) (σ:=σ) (t:=t) (k':=k') h
   rw [hx.int,hy.int]
   exact ⟨v',h1,fun w=>by simp [Qg,h2]⟩
  ·obtain ⟨v',h1,h2⟩:=Wk (P:=P) (σ:=σ) (t:=t) (k':=k') h
   rw [hx.int,hy.int]
   exact ⟨v',h1,fun w=>by simp [Qg,h2]⟩
  ·by_cases hk:k=k'
   ·subst hk
    simp only [decide_true,cond_true] at h
    obtain ⟨v',h1,h2⟩:=abW (P:=P) (σ:=σ) (t:=t) h
    rw [hx.int,hy.int]
    exact ⟨v',h1,fun w=>by simp [Qg,h2]⟩
   ·simp [hk] at h
 ·obtain ⟨v',h1,h2⟩:=abX (P:=P) (σ:=σ) (t:=t) h
  rw [hx.string,hy.string]
  exact ⟨v',h1,fun w=>by simp [abm,h2]⟩
 ·cases h
 ·cases h
 ·rename_i Bj i4 hi hs
  split at h
  ·obtain ⟨b,hb,rfl⟩:=Option.map_eq_some_iff.1 h
   exact key b hb (fun k n e=>Bj k n e) (fun s e=>i4 s e) (.inl rfl) (by simp)
  ·obtain ⟨b,hb,rfl⟩:=Option.map_eq_some_iff.1 h
   exact key b hb (fun k n e=>Bj k n e) (fun s e=>i4 s e) (.inr rfl) (by simp)
  ·cases h
theorem acN {σ:bw} {op:UnOp} {x x':Value} {v:Value} {h h':KH} (hh:C8 op x h=.ok v h') (hx:VR σ x x'):h'=h/\Yl P σ v (Op.unary op x'):=by
 unfold C8 at hh
 split at hh
 ·cases hh;rw [hx.bool];exact ⟨rfl,_,.same rfl,fun w=>by simp [Op.unary]⟩
 ·cases hh;rw [hx.int];exact ⟨rfl,_,.same rfl,fun w=>by simp [Op.unary,Op.intArith,qd]⟩
 ·cases hh
theorem ab0 {σ:bw} {x x':Value} {v:Value} {h h':KH} {o:Oper} {a:Act} {xo:Operand} (hh:CJ x h=.ok v h') (hx:VR σ x x') (ho:o.op=.nilCheck xo) (he:a.eval xo=x'):
  h'=h/\∃v',VR σ v v'/\∀w,(execOp a.eval o).run P w=.ok (.value v') w:=by
 unfold CJ at hh
 split at hh
 ·cases hh
  refine ⟨rfl,x',hx,fun w=>?_⟩
  obtain ⟨a',rfl,ha⟩:=hx.QD
  cases a' with
  | none=>cases ha
  | some a'=>simp [execOp,ho,he]
 ·cases hh
  refine ⟨rfl,x',hx,fun w=>?_⟩
  obtain ⟨f',c',rfl,_,_⟩:=hx.WT
  simp [execOp,ho,he]
 ·cases hh
theorem aaB {σ:bw} {x x':Value} {i:Nat} {v:Value} {h h':KH} (hh:AA x i h=.ok v h') (hx:VR σ x x'):h'=h/\Yl P σ v (Instr.extract x' i):=by
 unfold AA at hh
 split at hh
 ·obtain ⟨a',rfl,ha⟩:=hx.abi
  rw [wb] at hh
  split at hh
  ·rename_i v0 qz
   cases hh
   have aZ:i < a'.size:=by
    have:=(List.getElem?_eq_some_iff.1 qz).1
    rw [<-ha.1];simpa using this
   refine ⟨rfl,a'[i],?_,fun w=>by simp [Instr.extract,Array.getElem?_eq_getElem aZ]⟩
   have:=ha.Db.at i
   simpa [List.getD_eq_getElem?_getD,qz,Array.getElem?_eq_getElem aZ] using this
  ·cases hh
 ·cases hh
theorem zj (b o n:Nat):(⟨b,o,none⟩:Addr).add n=⟨b,o+n,none⟩:=by unfold Addr.add;split <;> simp_all
theorem aat {σ:bw} {s:TypeId} {x x':Value} {f:Nat} {v:Value} {h h':KH} (hh:Ax P s x f h=.ok v h') (hx:VR σ x x'):h'=h/\Yl P σ v (Instr.fieldAt s x' f):=by
 unfold Ax at hh
 split at hh
 ·rename_i b o fs hu
  rw [wb] at hh
  split at hh
  ·rename_i f0 uZ
   split at hh
   ·rename_i n hn
    rw [blt_eq] at hh
    by_cases mj:0 < n
    ·simp only [mj,decide_true,cond_true,KO.ok.injEq] at hh
     obtain ⟨rfl,rfl⟩:=hh
     obtain ⟨l,hl,rfl⟩:=hx.GK
     refine ⟨rfl,_,.ptr hl,fun w=>?_⟩
     have rn:n≠0:=by omega
     simp only [Array.getElem?_toList] at uZ
     simp [Instr.fieldAt,run_underlying hu,uZ,Instr.sureAddr,fieldPlace,nL hn,rn,zj,Nat.add_assoc]
    ·simp [mj] at hh
   ·cases hh
  ·cases hh
 ·cases hh
theorem aau {σ:bw} {t:TypeId} {x x' i i':Value} {v:Value} {h h':KH} (hh:Ay P t x i h=.ok v h') (hx:VR σ x x') (hi:VR σ i i'):h'=h/\Yl P σ v (Instr.indexAt t x' i'):=by
 unfold Ay at hh
 split at hh
 ·rename_i e b o n c k j hu
  split at hh
  ·rename_i s hs
   rw [blt_eq] at hh
   by_cases aZ:j < n
   ·simp only [aZ,decide_true,cond_true,KO.ok.injEq] at hh
    obtain ⟨rfl,rfl⟩:=hh
    obtain ⟨l,hl,rfl⟩:=hx.zh
    rw [hi.int]
    refine ⟨rfl,_,.ptr hl,fun w=>?_⟩
    have h0:(0:Int)<=Int.ofNat j/\Int.ofNat j < (n:Int):=by constructor <;> simp <;> omega
    simp [Instr.indexAt,asIntOf,run_underlying hu,nL hs,zj,Nat.add_assoc,aZ]
   ·simp [aZ] at hh
  ·cases hh
 ·rename_i n e b o k j hu
  split at hh
  ·rename_i s hs
   rw [blt_eq] at hh
   by_cases aZ:j < n
   ·simp only [aZ,decide_true,cond_true,KO.ok.injEq] at hh
    obtain ⟨rfl,rfl⟩:=hh
    obtain ⟨l,hl,rfl⟩:=hx.GK
    rw [hi.int]
    refine ⟨rfl,_,.ptr hl,fun w=>?_⟩
    simp [Instr.indexAt,asIntOf,run_underlying hu,nL hs,zj,Nat.add_assoc,aZ,Instr.sureAddr]
   ·simp [aZ] at hh
  ·cases hh
 ·cases hh
theorem aaT {σ:bw} {t:TypeId} {x x':Value} {f:Nat} {v:Value} {h h':KH} (hh:AH P t x f h=.ok v h') (hx:VR σ x x'):h'=h/\Yl P σ v (Instr.field t x' f):=by
 unfold AH at hh
 split at hh
 ·rename_i cs fs hu
  obtain ⟨fL,rfl,aV⟩:=hx.M3
  rw [wb] at hh
  split at hh
  ·rename_i f0 uZ
   split at hh
   ·rename_i v0 qz
    cases hh
    obtain ⟨v',h1,h2⟩:=MH qz aV.Db
    simp only [Array.getElem?_toList] at uZ
    exact ⟨rfl,v',h2,fun w=>by simp [Instr.field,run_underlying hu,uZ,asAgg,h1]⟩
   ·cases hh
  ·cases hh
 ·cases hh
theorem aaU {σ:bw} {t:TypeId} {x x' i i':Value} {v:Value} {h h':KH} (hh:xA P t x i h=.ok v h') (hx:VR σ x x') (hi:VR σ i i'):h'=h/\Yl P σ v (Instr.index t x' i'):=by
 unfold xA at hh
 split at hh
 ·rename_i s k j hu
  rw [wb] at hh
  split at hh
  ·rename_i c hc
   cases hh
   rw [hx.string,hi.int]
   refine ⟨rfl,_,.same rfl,fun w=>?_⟩
   have aZ:j < s.size:=(List.getElem?_eq_some_iff.1 hc).1
   have:s[j]?=some c:=by
    rw [getElem?_pos s j aZ,<-(List.getElem?_eq_some_iff.1 hc).2]
    rfl
   simp [Instr.index,asIntOf,run_underlying hu,this]
  ·cases hh
 ·rename_i n e cs k j hu
  split at hh
  ·rename_i s hs
   rw [blt_eq] at hh
   by_cases aZ:j < n
   ·simp only [aZ,decide_true,cond_true] at hh
    split at hh
    ·rename_i v0 qz
     cases hh
     obtain ⟨fL,rfl,aV⟩:=hx.M3
     obtain ⟨v',h1,h2⟩:=MH qz aV.Db
     rw [hi.int]
     exact ⟨rfl,v',h2,fun w=>by simp [Instr.index,asIntOf,run_underlying hu,aZ,nL hs,h1]⟩
    ·cases hh
   ·simp [aZ] at hh
  ·cases hh
 ·cases hh
end
end Go.Proofs.YtinjmfblebpnnaaGreat.Ab
namespace Go.Proofs.YtinjmfblebpnnaaGreat.Ab
open Go Classical
section
variable {P:Program}
def OV (σ:bw) (x x':Option Value):Prop:=(x=none/\x'=none)∨∃v v',x=some v/\x'=some v'/\VR σ v v'
def Im (x:Option Value) (d n:Nat):Prop:=(x=none/\n=d)∨∃k,x=some (.int k (.ofNat n))
theorem xr {x:Option Value} {d:Nat} {k:Nat->KO} {v:Value} {h:KH} (hh:nf x d k=.ok v h):∃n,k n=.ok v h/\Im x d n:=by
 unfold nf at hh
 split at hh
 ·exact ⟨_,hh,.inl ⟨rfl,rfl⟩⟩
 ·exact ⟨_,hh,.inr ⟨_,rfl⟩⟩
 ·cases hh
theorem OV.u0 {σ:bw} {x x':Option Value} {d n:Nat} (h:OV σ x x') (hb:Im x d n):Im x' d n:=by
 rcases h with ⟨rfl,rfl⟩ | ⟨v,v',rfl,rfl,hv⟩
 ·exact hb
 ·rcases hb with ⟨h,_⟩ | ⟨k,h⟩
  ·cases h
  ·cases h;exact .inr ⟨k,by rw [hv.int]⟩
theorem Gs {dV:Bool} {len cap l r:Nat} {lo hi:Option Value} (yx:Im lo 0 l) (Bk:Im hi len r) (h1:l<=r) (h2:r<=cap) (w:World):
  (Instr.sliceBounds dV len cap lo hi none).run P w=.ok (l,r,cap) w:=by
 rcases yx with ⟨rfl,rfl⟩ | ⟨k,rfl⟩ <;> rcases Bk with ⟨rfl,rfl⟩ | ⟨k',rfl⟩ <;>
  simp [Instr.sliceBounds,Instr.sliceBound,asIntOf,h1,h2]
theorem aaE {dV:Bool} {len cap l r m:Nat} {lo:Option Value} {k k2:IntKind} (yx:Im lo 0 l) (h1:l<=r) (h2:r<=m) (h3:m<=cap) (w:World):
  (Instr.sliceBounds dV len cap lo (some (.int k (.ofNat r))) (some (.int k2 (.ofNat m)))).run P w=.ok (l,r,m) w:=by
 rcases yx with ⟨rfl,rfl⟩ | ⟨k',rfl⟩ <;>
  simp [Instr.sliceBounds,Instr.sliceBound,asIntOf,h1,h2,h3]
theorem aax (s:ByteArray) (l r:Nat):(⟨((s.data.toList.drop l).take (r - l)).toArray⟩:ByteArray)=s.extract l r:=by
 apply ByteArray.ext
 apply Array.ext'
 simp [List.drop_take]
theorem JM {c:Bool} {x:KO} {v:Value} {h:KH} (hh:(bif c then x else .no)=.ok v h):c=true/\x=.ok v h:=by
 cases c
 ·cases hh
 ·exact ⟨rfl,hh⟩
theorem aaV {σ:bw} {t:TypeId} {x x':Value} {lo lo' hi ep mx Tn:Option Value} {v:Value} {h h':KH} (hh:lT P t x lo hi mx h=.ok v h') (hx:VR σ x x')
  (yx:OV σ lo lo') (Bk:OV σ hi ep) (K9:OV σ mx Tn):h'=h/\Yl P σ v (Instr.sliceAt t x' lo' ep Tn):=by
 have hm:∀{m m':Option Value},OV σ m m'->m=none->m'=none:=fun h e=>by
  rcases h with ⟨_,h⟩ | ⟨_,_,h,_⟩
  ·exact h
  ·rw [e] at h;cases h
 unfold lT at hh
 split at hh
 ·rename_i s hu
  obtain ⟨l,hh,bl⟩:=xr hh
  obtain ⟨r,hh,br⟩:=xr hh
  obtain ⟨hc,hh⟩:=JM hh
  cases hh
  rw [ble_eq,ble_eq,Jl,Bool.and_eq_true,decide_eq_true_eq,decide_eq_true_eq] at hc
  rw [Jl] at br
  rw [hx.string,hm K9 rfl]
  refine ⟨rfl,_,.same rfl,fun w=>?_⟩
  rw [Gw,Gx,aax]
  simp [Instr.sliceAt,run_underlying hu,Instr.slice,Gs (yx.u0 bl) (Bk.u0 br) hc.1 hc.2]
 ·rename_i e n c hu
  split at hh
  ·rename_i s hs
   obtain ⟨l,hh,bl⟩:=xr hh
   obtain ⟨r,hh,br⟩:=xr hh
   obtain ⟨hc,hh⟩:=JM hh
   cases hh
   rw [ble_eq,ble_eq,beq_eq,Bool.and_eq_true,Bool.and_eq_true,decide_eq_true_eq,decide_eq_true_eq,decide_eq_true_eq] at hc
   obtain ⟨⟨h1,h2⟩,h3⟩:=hc
   rw [hx.Qf,hm K9 rfl]
   refine ⟨rfl,.slice none (r - l) (c - l),.same rfl,fun w=>?_⟩
   simp [Instr.sliceAt,run_underlying hu,Instr.slice,Gs (yx.u0 bl) (Bk.u0 br) h1 h2,nL hs]
  ·cases hh
 ·rename_i e b o n c hu
  split at hh
  ·rename_i s hs
   obtain ⟨l,hh,bl⟩:=xr hh
   obtain ⟨r,hh,br⟩:=xr hh
   obtain ⟨hc,hh⟩:=JM hh
   rw [ble_eq,ble_eq,Bool.and_eq_true,decide_eq_true_eq,decide_eq_true_eq] at hc
   obtain ⟨h1,h2⟩:=hc
   obtain ⟨L,hL,rfl⟩:=hx.zh
   rw [hm K9 rfl]
   cases h3:(Nat.blt l c||Nat.beq l 0)
   ·rw [h3,cond_false] at hh
    cases hh
    refine ⟨rfl,.slice (if c+L.room=l then some ⟨L.ba,L.base+o,none⟩ else some ⟨L.ba,L.base+(o+l * s),none⟩) (r - l) (c+L.room - l),by split <;> exact .yu,fun w=>?_⟩
    have hb:=Gs (P:=P) (dV:=true) (yx.u0 bl) (Bk.u0 br) h1 (Nat.le_trans h2 (Nat.le_add_right c L.room)) w
    by_cases h4:c+L.room=l
    ·rw [h4] at hb ⊢
     simp [Instr.sliceAt,run_underlying hu,Instr.slice,hb,nL hs]
    ·simp [Instr.sliceAt,run_underlying hu,Instr.slice,hb,nL hs,h4,zj,Nat.add_assoc]
   rw [h3,cond_true] at hh
   cases hh
   rw [blt_eq,beq_eq,Bool.or_eq_true,decide_eq_true_eq,decide_eq_true_eq] at h3
   refine ⟨rfl,.slice (some ⟨L.ba,L.base+(o+l * s),none⟩) (r - l) (c - l+L.room),.slice hL,fun w=>?_⟩
   have hc:c+L.room - l=c - l+L.room:=by omega
   by_cases h4:c+L.room=l
   ·have Bl:l=0:=by omega
    subst Bl
    have hb:=Gs (P:=P) (dV:=true) (yx.u0 bl) (Bk.u0 br) h1 (Nat.le_trans h2 (Nat.le_add_right c L.room)) w
    have e1:c=0:=by omega
    have e2:L.room=0:=by omega
    simp only [e1,e2,Nat.add_zero] at hb ⊢
    simp [Instr.sliceAt,run_underlying hu,Instr.slice,hb,nL hs]
   ·simp [Instr.sliceAt,run_underlying hu,Instr.slice,Gs (yx.u0 bl) (Bk.u0 br) h1 (Nat.le_trans h2 (Nat.le_add_right c L.room)),nL hs,h4,hc,zj,Nat.add_assoc]
  ·cases hh
 ·rename_i e b o sp n c hu
  split at hh
  ·rename_i s hs
   obtain ⟨l,hh,bl⟩:=xr hh
   obtain ⟨r,hh,br⟩:=xr hh
   obtain ⟨hc,hh⟩:=JM hh
   cases hh
   rw [beq_eq,beq_eq,Bool.and_eq_true,decide_eq_true_eq,decide_eq_true_eq] at hc
   obtain ⟨rfl,rfl⟩:=hc
   obtain ⟨a',c',rfl⟩:∃a' c',x'=.slice (some a') n c':=by
    cases hx with
    | same h=>cases h
    | yu=>exact ⟨_,_,rfl⟩
   rw [hm K9 rfl]
   refine ⟨rfl,.slice (if c'=0 then some a' else some (a'.add (0 * s))) 0 c',by split <;> exact .yu,fun w=>?_⟩
   have hb:=Gs (P:=P) (dV:=true) (yx.u0 bl) (Bk.u0 br) (Nat.le_refl 0) (Nat.zero_le c') w
   by_cases h4:c'=0
   ·subst h4;simp [Instr.sliceAt,run_underlying hu,Instr.slice,hb,nL hs]
   ·simp [Instr.sliceAt,run_underlying hu,Instr.slice,hb,nL hs,h4]
  ·cases hh
 ·rename_i e b o n c m hu
  split at hh
  ·rename_i s hs
   obtain ⟨l,hh,bl⟩:=xr hh
   obtain ⟨r,hh,br⟩:=xr hh
   obtain ⟨m',hh,bm⟩:=xr hh
   obtain ⟨hc,hh⟩:=JM hh
   cases hh
   rw [ble_eq,ble_eq,ble_eq,Bool.and_eq_true,Bool.and_eq_true,decide_eq_true_eq,decide_eq_true_eq,decide_eq_true_eq] at hc
   obtain ⟨⟨h1,h2⟩,h3⟩:=hc
   obtain ⟨L,hL,rfl⟩:=hx.zh
   obtain ⟨k2,To⟩:∃k2,m=.int k2 (.ofNat m'):=by
    rcases bm with ⟨h,_⟩ | ⟨k,h⟩
    ·cases h
    ·cases h;exact ⟨k,rfl⟩
   obtain ⟨k3,dL⟩:∃k3,hi=some (.int k3 (.ofNat r)):=by
    rcases br with ⟨h,_⟩ | ⟨k,h⟩
    ·cases h
    ·cases hi with
     | none=>cases h
     | some v=>cases h;exact ⟨k,rfl⟩
   subst To dL
   have ai3:Tn=some (.int k2 (.ofNat m')):=by
    rcases K9 with ⟨h,_⟩ | ⟨v,v',h,h',hv⟩
    ·cases h
    ·cases h;rw [h',hv.int]
   have ai4:ep=some (.int k3 (.ofNat r)):=by
    rcases Bk with ⟨h,_⟩ | ⟨v,v',h,h',hv⟩
    ·cases h
    ·cases h;rw [h',hv.int]
   subst ai3 ai4
   refine ⟨rfl,.slice (if m'=l then some ⟨L.ba,L.base+o,none⟩ else some ⟨L.ba,L.base+(o+l * s),none⟩) (r - l) (m' - l),by split <;> exact .yu,fun w=>?_⟩
   have hb:=aaE (P:=P) (dV:=true) (len:=n) (k:=k3) (k2:=k2) (yx.u0 bl) h1 h2 (Nat.le_trans h3 (Nat.le_add_right c L.room)) w
   simp only [Instr.sliceAt,run_underlying hu,Sem.run_bind,Result.andThen_ok,Instr.slice,hb,nL hs]
   by_cases h4:m'=l
   ·simp [h4]
   ·simp [h4,zj,Nat.add_assoc]
  ·cases hh
 ·cases hh
theorem ab1 {σ:bw} {t ty:TypeId} {x x':Value} {v:Value} {h h':KH} (hh:wo P t x h=.ok v h') (hx:VR σ x x') (ts:Array TypeId) (ht:ts[0]?=some t):
  h'=h/\Yl P σ v (Builtin.len_ ts ty #[x']):=by
 unfold wo at hh
 split at hh
 ·rename_i s hu
  cases hh
  rw [hx.string,Jl]
  exact ⟨rfl,_,.same rfl,fun w=>by simp [Builtin.len_,ht,run_underlying hu,goInt]⟩
 ·rename_i e a n c hu
  cases hh
  obtain ⟨a',c',rfl,_⟩:=hx.tq
  exact ⟨rfl,_,.same rfl,fun w=>by simp [Builtin.len_,ht,run_underlying hu,goInt]⟩
 ·cases hh
theorem WU {σ:bw} {mx:Bool} {x x' y y':Value} {v:Value} {h h':KH} (hh:xS mx x y h=.ok v h') (hx:VR σ x x') (hy:VR σ y y') (ts:Array TypeId) (ty:TypeId):
  h'=h/\Yl P σ v (if mx then Builtin.max_ ts ty #[x',y'] else Builtin.min_ ts ty #[x',y']):=by
 unfold xS at hh
 split at hh
 ·rw [hx.int,hy.int]
  cases mx
  ·simp only [cond_false,KO.ok.injEq] at hh
   obtain ⟨rfl,rfl⟩:=hh
   refine ⟨rfl,_,.same rfl,fun w=>?_⟩
   simp [Builtin.min_,Builtin.min2,xB,cond_eq_ite]
  ·simp only [cond_true,KO.ok.injEq] at hh
   obtain ⟨rfl,rfl⟩:=hh
   refine ⟨rfl,_,.same rfl,fun w=>?_⟩
   simp [Builtin.max_,Builtin.max2,xB,cond_eq_ite]
 ·cases hh
theorem ab2 {l:List Value} (h:Nw l=true) (σ:bw):VL σ l l:=by
 induction l with
 | nil=>exact .nil σ
 | cons x l ih=>
  simp only [Nw,List.all_cons,Bool.and_eq_true] at h
  exact .cons (.same h.1) (ih h.2)
theorem DR {t:TypeId} {z:List Value} (h:fQ P t=some z):∃i zv,P.info? t=some i/\i.zero=some zv/\z=zv.cells.toList/\(∀w,(zeroValue t).run P w=.ok zv w)/\∀σ,VL σ z z:=by
 unfold fQ at h
 split at h
 ·rename_i i hi
  split at h
  ·rename_i zv hz
   cases hf:Nw zv.cells.toList
   ·simp [hf] at h
   ·simp only [hf,cond_true,Option.some.injEq] at h
    subst h
    exact ⟨i,zv,hi,hz,rfl,fun w=>by simp [zeroValue,typeInfo,hi,hz],ab2 hf⟩
  ·cases h
 ·cases h
theorem VL.adJ {σ:bw} {a a' b b':List Value} (h:VL σ a a') (h':VL σ b b') (o:Nat):VL σ (a.take o++(b++a.drop (o+b.length))) (a'.take o++(b'++a'.drop (o+b'.length))):=by
 rw [<-h'.1]
 exact (h.take o).append (h'.append (h.drop _))
theorem abo (vs:List Value) (cs:Array Value) (off:Nat) (h:off+vs.length<=cs.size):
  (vs.toArray.zipIdx.foldl (fun cs (p:Value × Nat)=>cs.setIfInBounds (off+p.2) p.1) cs).toList=cs.toList.take off++(vs++cs.toList.drop (off+vs.length)):=by
 have key:∀(vs:List Value) (k:Nat) (cs:Array Value),off+k+vs.length<=cs.size->
   ((vs.zipIdx k).foldl (fun cs (p:Value × Nat)=>cs.setIfInBounds (off+p.2) p.1) cs).toList=cs.toList.take (off+k)++(vs++cs.toList.drop (off+k+vs.length)):=by
  intro vs
  induction vs with
  | nil=>intro k cs _;simp
  | cons v vs ih=>
   intro k cs hl
   simp only [List.length_cons] at hl
   simp only [List.zipIdx_cons,List.foldl_cons]
   rw [ih (k+1) (cs.setIfInBounds (off+k) v) (by simp;omega)]
   simp only [Array.toList_setIfInBounds]
   apply List.ext_getElem?
   intro j
   simp only [List.getElem?_append,List.getElem?_take,List.getElem?_drop,List.getElem?_set,List.length_take,List.length_set,Array.length_toList,List.length_cons]
   have e1:min (off+(k+1)) cs.size=off+k+1:=by omega
   have e2:min (off+k) cs.size=off+k:=by omega
   rw [e1,e2]
   by_cases h1:j < off+k
   ·have lH:j < off+k+1:=by omega
    have dk:¬(off+k=j):=by omega
    have ai5:j < off+(k+1):=by omega
    simp [h1,lH,dk,ai5]
   ·by_cases h2:j=off+k
    ·subst h2
     have h3:off+k < cs.size:=by omega
     have h4:off+k < off+(k+1):=by omega
     simp [h3,h4]
    ·have h3:¬j < off+k+1:=by omega
     simp only [h1,h3,if_false]
     obtain ⟨m,rfl⟩:∃m,j=off+k+1+m:=⟨j - (off+k+1),by omega⟩
     have e3:off+k+1+m - (off+k)=m+1:=by omega
     have e4:off+k+1+m - (off+k+1)=m:=by omega
     rw [e3,e4,List.getElem?_cons_succ]
     by_cases hm:m < vs.length
     ·have:m+1 < vs.length+1:=by omega
      simp [hm]
     ·have e5:off+(k+1)+vs.length+(m - vs.length)=off+k+1+m:=by omega
      have e6:off+k+(vs.length+1)+(m+1 - (vs.length+1))=off+k+1+m:=by omega
      have:¬(off+k=off+k+1+m):=by omega
      have e7:off+k+(vs.length+1)+(m - vs.length)=off+k+1+m:=by omega
      simp [hm,e5,e6,this,e7]
 have:=key vs 0 cs (by omega)
 simpa [Array.foldl_toList] using this
theorem VR.cells {σ:bw} {v v':Value} (h:VR σ v v'):VL σ v.cells.toList v'.cells.toList:=by
 cases h with
 | agg h1 h2=>exact (sw.Db ⟨h1,h2⟩)
 | same hf=>
  cases v <;> first | (cases hf;done) | exact .cons (.same hf) (.nil σ)
 | ptr h=>exact .cons (.ptr h) (.nil σ)
 | slice h=>exact .cons (.slice h) (.nil σ)
 | map h=>exact .cons (.map h) (.nil σ)
 | yu=>exact .cons .yu (.nil σ)
 | func h1 h2 h3 h4=>exact .cons (.func h1 h2 h3 h4) (.nil σ)
 | tuple h1 h2=>exact .cons (.tuple h1 h2) (.nil σ)
inductive PL (σ:bw):List (Nat × Value)->List (Nat × Value)->Prop
 | nil:PL σ [] []
 | cons {i:Nat} {v v':Value} {l l':List (Nat × Value)}:VR σ v v'->PL σ l l'->PL σ ((i,v)::l) ((i,v')::l')
theorem P7 (cs:List Value) (o:Nat) (vs:List Value):GH cs o vs=cs.take o++(vs++cs.drop (o+vs.length)):=by
 unfold GH
 rw [Gx,Gw,xu]
theorem Qh {σ:bw} {place:Nat->Option (Nat × Nat)} {ps Io:List (Nat × Value)} (hp:PL σ ps Io):
  ∀{cs:List Value} {fL:Array Value} {out:List Value},AN place ps cs=some out->VL σ cs fL.toList->∃uJ,Instr.fill place fL Io=some uJ/\VL σ out uJ.toList:=by
 induction hp with
 | nil=>intro cs fL out h hv;cases h;exact ⟨fL,rfl,hv⟩
 | @cons i v v' l l' sC _ ih=>
  intro cs fL out h hv
  have h2:(match place i with
   | some (off,size)=>bif Nat.beq (jV v.cells.toList) size&&Nat.ble (off+size) (jV cs) then AN place l (GH cs off v.cells.toList) else none
   | none=>none)=some out:=h
  clear h
  cases jX:place i with
  | none=>rw [jX] at h2;cases h2
  | some os=>
   obtain ⟨off,size⟩:=os
   rw [jX] at h2
   simp only [xu,beq_eq,ble_eq] at h2
   have hvc:=sC.cells
   by_cases h1:v.cells.toList.length=size <;> by_cases h3:off+size<=cs.length <;> simp only [h1,h3,decide_true,decide_false,Bool.and_self,Bool.and_false,Bool.false_and,cond_true,cond_false] at h2 <;> try cases h2
   rw [P7] at h2
   have cZ:v'.cells.size=size:=by have:=hvc.1;simp at this h1;omega
   have lJ:off+v'.cells.toList.length<=fL.size:=by have:=hv.1;simp at this;simp [cZ];omega
   have hf:=abo v'.cells.toList fL off lJ
   have po:=hv.adJ hvc off
   rw [<-hf] at po
   obtain ⟨uJ,ho,OI⟩:=ih h2 po
   refine ⟨uJ,?_,OI⟩
   have aV:¬(fL.size < off+v'.cells.size):=by simp at lJ;omega
   simp only [Instr.fill,jX]
   rw [if_neg (by simp [cZ];rw [cZ] at aV;omega)]
   simpa using ho
theorem aaF {fs:List Field} {pl:List (Nat × Nat)} (h:Jz P fs=some pl) (w:World):
  (fs.mapM fun f=>Prod.mk f.offset <$> sizeOf f.type).run P w=.ok pl w:=by
 induction fs generalizing pl with
 | nil=>cases h;simp
 | cons f fs ih=>
  have h2:(match dj P f.type,Jz P fs with
   | some n,some l=>some ((f.offset,n)::l)
   | _,_=>none)=some pl:=h
  clear h
  split at h2
  ·rename_i n l hn hl
   cases h2
   simp [List.mapM_cons,nL hn,ih hl]
  ·cases h2
theorem aaW {σ:bw} {t:TypeId} {ps:List (Nat × Value)} {Io:Array (Nat × Value)} {v:Value} {h h':KH} (hh:fH P t ps h=.ok v h') (hp:PL σ ps Io.toList):
  h'=h/\Yl P σ v (Instr.build t Io):=by
 unfold fH at hh
 split at hh
 ·rename_i z fs hz hu
  obtain ⟨i,zv,h1,h2,rfl,h3,h4⟩:=DR hz
  split at hh
  ·rename_i pl jX
   split at hh
   ·rename_i cs aV
    cases hh
    obtain ⟨uJ,ho,hv⟩:=Qh hp aV (h4 σ)
    refine ⟨rfl,.agg uJ,?_,fun w=>?_⟩
    ·have:=hv.wJ
     simp only [Array.toArray_toList] at this
     exact .agg this.1 this.2
    ·have hm:(fs.mapM fun f=>Prod.mk f.offset <$> sizeOf f.type).run P w=.ok pl.toArray w:=by
      rw [Array.mapM_eq_mapM_toList,Sem.run_map,aaF jX];rfl
     have hpe:(fun i=>pg pl i)=fun x=>pl[x]?:=by funext i;rw [wb]
     rw [hpe] at ho
     simp [Instr.build,h3,run_underlying hu,hm,ho]
   ·cases hh
  ·cases hh
 ·rename_i z n e hz hu
  obtain ⟨i,zv,h1,h2,rfl,h3,h4⟩:=DR hz
  split at hh
  ·rename_i s hs
   split at hh
   ·rename_i cs aV
    cases hh
    obtain ⟨uJ,ho,hv⟩:=Qh hp aV (h4 σ)
    refine ⟨rfl,.agg uJ,?_,fun w=>?_⟩
    ·have:=hv.wJ
     simp only [Array.toArray_toList] at this
     exact .agg this.1 this.2
    ·simp [Instr.build,h3,run_underlying hu,nL hs,ho]
   ·cases hh
  ·cases hh
 ·cases hh
end
end Go.Proofs.YtinjmfblebpnnaaGreat.Ab
namespace Go.Proofs.YtinjmfblebpnnaaGreat.Ab
open Go Classical
namespace Tr
variable {α:Type}
theorem QQ (t:Tr α) {β:Type} (k:Tr α->β):t.now k=k t:=by cases t <;> rfl
end Tr
section
variable {P:Program}
theorem Jo {w:World} {g base o n:Nat} {cs:Array Value} {e:TypeId} {fr:Nat × Nat} (hg:w.heap[g]?=some (.cells cs e fr)) (hs:base+o+n<=cs.size):
  (loadCells ⟨g,base+o,none⟩ n).run P w=.ok ((List.range n).map fun j=>cs.getD (base+(o+j)) undef).toArray w:=by
 refine run_loadCells w ⟨g,base+o,none⟩ n (fun j=>cs.getD (base+(o+j)) undef) fun j hj=>?_
 have aZ:base+(o+j) < cs.size:=by omega
 rw [zj]
 simp [World.cell?,hg,Nat.add_assoc,Array.getD,aZ]
def Kg (x:Value):Nat->Prop:=fun b=>match x with
 | .pointer (some a)=>b=a.block
 | _=>False
end
end Go.Proofs.YtinjmfblebpnnaaGreat.Ab
namespace Go.Proofs.YtinjmfblebpnnaaGreat.Ab
open Go Classical
section
variable {P:Program}
theorem P8 (v:Value) (l:List Value):j5 (v::l)=Bool.rec (motive:=fun _=>Bool) false (j5 l) (zH v):=rfl
theorem VR.one {σ:bw} {v v':Value} (h:VR σ v v') (ho:zH v=true):v'.oneCell'=true:=by
 cases h with
 | same hf=>cases v <;> first | rfl | cases hf
 | ptr=>rfl
 | slice=>rfl
 | map=>rfl
 | yu=>rfl
 | func=>rfl
 | agg=>cases ho
 | tuple=>cases ho
theorem VL.RS {σ:bw}:∀{l l':List Value},VL σ l l'->j5 l=true->∀v∈l',v.oneCell'=true
 | [],l',h,_=>by rw [h.of_nil];simp
 | x::l,l',h,ho=>by
  obtain ⟨x',a',rfl,hx,ha⟩:=h.of_cons
  rw [P8] at ho
  cases h1:zH x
  ·rw [h1] at ho;cases ho
  ·rw [h1] at ho
   intro v hv
   rcases List.mem_cons.1 hv with rfl | hv
   ·exact hx.one h1
   ·exact VL.RS ha ho v hv
theorem P5 (cs vs:List Value) (p q:Nat) (h:p+vs.length<=cs.length):
  (cs.take p++vs++cs.drop (p+vs.length)).getD q undef=if p<=q/\q < p+vs.length then vs.getD (q - p) undef else cs.getD q undef:=by
 have e1:min p cs.length=p:=by omega
 simp only [List.getD_eq_getElem?_getD,List.getElem?_append,List.getElem?_take,List.getElem?_drop,List.length_append,List.length_take,e1]
 by_cases h1:q < p
 ·have h2:q < p+vs.length:=by omega
  simp [h1,h2]
  intro hx;omega
 ·by_cases h2:q < p+vs.length
  ·have h3:p<=q/\q < p+vs.length:=by omega
   simp [h1,h2,h3]
  ·have h3:¬(p<=q/\q < p+vs.length):=by omega
   have e2:p+vs.length+(q - (p+vs.length))=q:=by omega
   simp [h1,h2,h3,e2]
theorem Wx {σ:bw} {w w1:World} {F:Nat->Prop} {H H':ad} {B:ct} {cs:Array Value} {room:Nat} (Tp:H.wf) (hr:Rel P σ F H.get w) (dO:H'.next=H.next+1)
  (Ho:H'.get H.next=some B) (JW:∀x B2,x≠H.next->H'.get x=some B2->H.get x=some B2) (bg:qk σ H H') (fC:cs.size=B.cells.length+room * P.cellsOf B.elem)
  (hv:∀i,i < B.cells.length->VR σ (B.cells.getD i undef) (cs.getD i undef)) (JX:B.gW=false->room=0) (eX:w1.heap=w.heap.push (.cells cs B.elem (0,0))) (Eb:w1.os=w.os/\w1.tape=w.tape/\w1.output=w.output:=by exact ⟨rfl,rfl,rfl⟩):
  jg P F σ H w (fun x=>if x=H.next then some ⟨w.heap.size,0,room,false,false⟩ else σ x) H' w1:=by
 have uW:∀b l,σ b=some l->(if b=H.next then some (⟨w.heap.size,0,room,false,false⟩:Loc) else σ b)=some l:=fun b l hb=>by
  by_cases hx:b=H.next
  ·subst hx;rw [bg H.next ⟨Nat.le_refl _,by omega⟩] at hb;cases hb
  ·rw [if_neg hx];exact hb
 have hold:∀k,k < w.heap.size->w1.heap[k]?=w.heap[k]?:=fun k hk=>by rw [eX,Array.getElem?_push_lt hk,Array.getElem?_eq_getElem hk]
 have hnw:w1.heap[w.heap.size]?=some (.cells cs B.elem (0,0)):=by rw [eX];simp
 have mo:∀x,fresh H H' x↔x=H.next:=fun x=>⟨fun h=>by have:=h.1;have:=h.2;omega,fun h=>⟨by omega,by omega⟩⟩
 have uA:∀x,x≠H.next->(H'.get x).isSome=true->∃B2,H.get x=some B2:=fun x hx hi=>by
  obtain ⟨B2,hB⟩:=Option.isSome_iff_exists.1 hi
  exact ⟨B2,JW x B2 hx hB⟩
 refine ⟨⟨fun b l B2 hb hs hg=>?_,fun b b' l l' hb dT hs cZ hi ep ho gi he=>?_,fun b b' l l' hb hs cZ hi ho gi=>?_,fun b l hs ho=>?_⟩,fun b hb=>if_neg (fun h=>hb ((mo b).2 h)),by rw [eX];simp,fun k hk _=>hold k hk,fun k hk ⟨b,l,hb,hs,hi,ho,he⟩=>?_,fun b l hb hs=>?_,Eb⟩
 ·by_cases hx:b=H.next
  ·subst hx
   rw [Ho] at hg
   simp only [if_true] at hs
   cases hg;cases hs
   exact BR.mk' ⟨cs,hnw,by simpa using fC,fun i hi=>by simpa using (hv i hi).mono uW⟩ JX (fun _=>rfl) rfl
  ·simp only [if_neg hx] at hs
   have hF:=hb.resolve_right (fun h=>hx ((mo b).1 h))
   have cX:=hr.ba b l B2 hF hs (JW b B2 hx hg)
   exact cX.move uW (hold _ cX.lt)
 ·have lt:∀b l,F b->σ b=some l->(∃B2,H.get b=some B2)->l.ba < w.heap.size:=fun b l hF hs ⟨B2,hB⟩=>(hr.ba b l B2 hF hs hB).lt
  by_cases hx:b=H.next <;> by_cases dU:b'=H.next
  ·rw [hx,dU]
  ·simp only [if_neg dU] at cZ
   have Tq:=dT.resolve_right (fun h=>dU ((mo b').1 h))
   have:=lt b' l' Tq cZ (uA b' dU ep)
   simp only [if_pos hx] at hs
   cases hs
   simp only at he
   omega
  ·simp only [if_neg hx] at hs
   have hF:=hb.resolve_right (fun h=>hx ((mo b).1 h))
   have:=lt b l hF hs (uA b hx hi)
   simp only [if_pos dU] at cZ
   cases cZ
   simp only at he
   omega
  ·obtain ⟨B1,pr⟩:=uA b hx hi
   obtain ⟨B2,py⟩:=uA b' dU ep
   simp only [if_neg hx] at hs
   simp only [if_neg dU] at cZ
   exact hr.inj b b' l l' (hb.resolve_right (fun h=>hx ((mo b).1 h))) (dT.resolve_right (fun h=>dU ((mo b').1 h))) hs cZ (by rw [pr];rfl) (by rw [py];rfl) ho gi he
 ·have dU:b'≠H.next:=fun dU=>by
   simp only [if_pos dU] at cZ
   cases cZ;cases gi
  simp only [if_neg dU] at cZ
  by_cases hx:b=H.next
  ·simp only [if_pos hx] at hs
   cases hs
   simp only
   exact fun e=>Nat.lt_irrefl _ (e▸hr.aE b' l' cZ gi)
  ·obtain ⟨B1,pr⟩:=uA b hx hi
   simp only [if_neg hx] at hs
   exact hr.sep b b' l l' (hb.resolve_right (fun h=>hx ((mo b).1 h))) hs cZ (by rw [pr];rfl) ho gi
 ·have hx:b≠H.next:=fun hx=>by
   simp only [if_pos hx] at hs
   cases hs;cases ho
  simp only [if_neg hx] at hs
  have:=hr.aE b l hs ho
  rw [eX];simp;omega
 ·by_cases hx:b=H.next
  ·simp only [if_pos hx] at hs
   cases hs
   simp only at he
   omega
  ·obtain ⟨B1,pr⟩:=uA b hx hi
   simp only [if_neg hx] at hs
   exact ⟨b,l,hb.resolve_right (fun h=>hx ((mo b).1 h)),hs,by rw [pr];rfl,ho,he⟩
 ·have:=(mo b).1 hb
  simp only [if_pos this] at hs
  cases hs;rfl
theorem Qo {σ:bw} {w w1:World} {F:Nat->Prop} {H H':ad} {B:ct} {cs:Array Value} {room:Nat} (Tp:H.wf) (hr:Rel P σ F H.get w) (dO:H'.next=H.next+1)
  (Ev:∀x,H'.get x=if x=H.next then some B else H.get x) (bg:qk σ H H') (fC:cs.size=B.cells.length+room * P.cellsOf B.elem)
  (hv:∀i,i < B.cells.length->VR σ (B.cells.getD i undef) (cs.getD i undef)) (JX:B.gW=false->room=0) (eX:w1.heap=w.heap.push (.cells cs B.elem (0,0))) (Eb:w1.os=w.os/\w1.tape=w.tape/\w1.output=w.output:=by exact ⟨rfl,rfl,rfl⟩):
  jg P F σ H w (fun x=>if x=H.next then some ⟨w.heap.size,0,room,false,false⟩ else σ x) H' w1:=
 Wx Tp hr dO (by rw [Ev,if_pos rfl]) (fun x B2 hx hg=>by rw [Ev,if_neg hx] at hg;exact hg) bg fC hv JX eX Eb
end
end Go.Proofs.YtinjmfblebpnnaaGreat.Ab
namespace Go.Proofs.YtinjmfblebpnnaaGreat.Ab
open Go Classical
section
variable {P:Program}
theorem Qp {t t2 ty e e2:TypeId} {i:TypeInfo} (hu:P.underlying t=some (.slice e)) (ru:P.underlying t2=some (.slice e2)) (hi:P.info? e=some i) {base xb:Option Addr} {sl sc n xc:Nat}
  {new:Array Value} {w:World} (im:(Builtin.firstCells i.size n (.slice xb n xc)).run P w=.ok new w) (hle:sl+n<=sc):
  (Builtin.append_ #[t,t2] ty #[.slice base sl sc,.slice xb n xc]).run P w=match base with
   | some a=>((storeCells (a.add (sl * i.size)) new.toList).run P w).andThen fun _ w=>.ok (.slice base (sl+n) sc) w
   | none=>.ok (.slice base (sl+n) sc) w:=by
 cases base <;> simp [Builtin.append_,run_underlying hu,run_underlying ru,sizeOf,typeInfo,hi,Builtin.lenOf,hle,im]
theorem Qq {t t2 ty e e2:TypeId} {i:TypeInfo} {z:Value} (hu:P.underlying t=some (.slice e)) (ru:P.underlying t2=some (.slice e2)) (hi:P.info? e=some i) (hz:i.zero=some z) {base xb:Option Addr} {sl sc n xc:Nat}
  {aE new:Array Value} {w:World} (hold:(Builtin.firstCells i.size sl (.slice base sl sc)).run P w.drew=.ok aE w.drew)
  (im:(Builtin.firstCells i.size n (.slice xb n xc)).run P w.drew=.ok new w.drew) (aZ:sc < sl+n)
  (u9:sl+n < 9223372036854775808) (hb:(sl+n) * i.bytes < 140737488355328):
  (Builtin.append_ #[t,t2] ty #[.slice base sl sc,.slice xb n xc]).run P w=
   .ok (.slice (some ⟨w.heap.size,0,none⟩) (sl+n) (grownCap w (sl+n) sc e)) (w.drew.alloc (.cells (aE++new++Builtin.zeroCells z.cells (grownCap w (sl+n) sc e - (sl+n))) e)):=by
 have hn:¬(sl+n<=sc):=by omega
 have ai6:¬(9223372036854775807 < ((sl:Int)+(n:Int))):=by omega
 have hf:=growslice_fits (bytes:=i.bytes) aZ (by omega)
 have ai7:¬(281474976710656 < Builtin.nextslicecap (sl+n) sc * i.bytes):=by omega
 simp [Builtin.append_,run_underlying hu,run_underlying ru,sizeOf,typeInfo,zeroValue,hi,hz,Builtin.lenOf,hn,ai6,ai7,Question.forced,hold,im,newRow,grownCap]
theorem grownCap_le (w:World) (Y9 aE:Nat) (e:TypeId):Y9<=grownCap w Y9 aE e:=by
 unfold grownCap Question.cut
 exact Nat.le_add_right _ _
theorem P0 (z:Array Value) (n:Nat):(Builtin.zeroCells z n).size=n * z.size:=by simp [Builtin.zeroCells]
theorem WV (l:List Value) (z:Array Value) (j:Nat) (hj:j < l.length):(l.toArray++z).getD j undef=l.getD j undef:=by
 simp [Array.getD_eq_getD_getElem?,List.getD_eq_getElem?_getD,Array.getElem?_append,hj]
end
end Go.Proofs.YtinjmfblebpnnaaGreat.Ab
namespace Go.Proofs.YtinjmfblebpnnaaGreat.Ab
open Go Classical
section
variable {P:Program}
theorem xC {F:Nat->Prop} {o:Oper} {t:Act} {H H':ad} {v:Value} (h:∀(σ:bw) (w:World) (a:Act),Rel P σ F H.get w->qk σ H H'->(∀x∈o.op.operands,VR σ (t.eval x) (a.eval x))->
  ∃σ' v' w',jg P F σ H w σ' H' w'/\VR σ' v v'/\((execOp a.eval o).run P w=.ok (.value v') w'∨((execOp a.eval o).run P w=.ok .skip w'/\v'=undef))):sx P F o t H v H':=by
 intro σ w a K Q hr hf hx hk
 obtain ⟨σ',v',w',hp,hv,eg⟩:=h σ w a hr hf hx
 unfold Oper.wp
 rcases eg with eg | ⟨eg,rfl⟩
 ·rw [eg];exact hk σ' v' w' hp hv
 ·rw [eg];exact hk σ' undef w' hp hv
theorem Yl.exec {σ:bw} {v:Value} {s:Sem Value} {n:Sem Next} (hy:Yl P σ v s) (he:n=(do pure (.value (<-s)))):∃v',VR σ v v'/\∀w,n.run P w=.ok (.value v') w:=by
 obtain ⟨v',h1,h2⟩:=hy
 exact ⟨v',h1,fun w=>by rw [he];simp [h2]⟩
theorem aaG (x:Value) (l:List Value):JL (x::l)=match x,JL l with
  | .int .u8 n,some l=>some (n::l)
  | _,_=>none:=rfl
theorem Wg {σ:bw}:∀{l:List Value} {ns:List Int} {l':List Value},JL l=some ns->VL σ l l'->l'=ns.map (Value.int .u8)
 | [],ns,l',h,hv=>by cases h;exact hv.of_nil
 | x::l,ns,l',h,hv=>by
  obtain ⟨x',a',rfl,hx,ha⟩:=hv.of_cons
  have h2:=h
  rw [aaG] at h2
  clear h hv
  split at h2
  ·rename_i n l0 Bl
   cases h2
   rw [hx.int,Wg Bl ha];rfl
  ·cases h2
theorem Wm:∀(ns:List Int) (s:ByteArray),ns.foldl (fun r n=>r.push (UInt8.ofNat n.toNat)) s=⟨s.data++(List.rec (motive:=fun _=>List UInt8) [] (fun n _ r=>UInt8.ofNat n.toNat::r) ns:List UInt8).toArray⟩
 | [],s=>by
  apply ByteArray.ext
  simp
 | n::ns,s=>by
  rw [List.foldl_cons,Wm ns]
  apply ByteArray.ext
  apply Array.ext'
  simp [ByteArray.push]
end
end Go.Proofs.YtinjmfblebpnnaaGreat.Ab
namespace Go.Proofs.YtinjmfblebpnnaaGreat.Ab
open Go Classical
section
variable {P:Program}
theorem P9 (z:List Value):∀k,(eO z k).length=k * z.length
 | 0=>by simp only [Nat.zero_mul];rfl
 | k+1=>by
  have:eO z (k+1)=z++eO z k:=rfl
  rw [this,List.length_append,P9 z k,Nat.add_mul];omega
theorem P4 (z:Array Value) (hz:0 < z.size):∀k,((Array.range (k * z.size)).map (fun i=>z[i % z.size]!)).toList=eO z.toList k:=by
 have key:∀k i,i < k * z.size->(eO z.toList k)[i]?=z[i % z.size]?:=by
  intro k
  induction k with
  | zero=>intro i hi;simp at hi
  | succ k ih=>
   intro i hi
   have e:eO z.toList (k+1)=z.toList++eO z.toList k:=rfl
   rw [e]
   by_cases h:i < z.size
   ·rw [List.getElem?_append_left (by simpa using h),Nat.mod_eq_of_lt h];simp
   ·rw [List.getElem?_append_right (by simpa using Nat.le_of_not_lt h)]
    have h2:i - z.toList.length < k * z.size:=by simp;rw [Nat.add_mul] at hi;omega
    rw [ih _ h2]
    congr 1
    simp only [Array.length_toList]
    conv=>rhs;rw [show i=i - z.size+z.size by omega,Nat.add_mod_right]
 intro k
 apply List.ext_getElem?
 intro i
 by_cases hi:i < k * z.size
 ·rw [key k i hi]
  have hm:i % z.size < z.size:=Nat.mod_lt _ hz
  simp [hi,hm]
 ·rw [List.getElem?_eq_none (by simpa using hi),List.getElem?_eq_none (by rw [P9];simpa using hi)]
theorem Gt (w:World) (e:TypeId) (cs:Array Value):(newRow e cs).run P w=.ok ⟨w.heap.size,0,none⟩ (w.alloc (.cells cs e)):=rfl
theorem Rh {σ:bw} {ρ ρ':Operand->Value}:∀{ps:List (Nat × Operand)},(∀p∈ps,VR σ (ρ p.2) (ρ' p.2))->PL σ (parts ρ ps) (ps.map fun (i,x)=>(i,ρ' x))
 | [],_=>.nil
 | p::ps,h=>.cons (h p (by simp)) (Rh fun q hq=>h q (by simp [hq]))
theorem JN {σ:bw} {ρ ρ':Operand->Value}:∀{l:List Operand},(∀x∈l,VR σ (ρ x) (ρ' x))->VL σ (pk ρ l) (l.map ρ')
 | [],_=>.nil σ
 | x::l,h=>.cons (h x (by simp)) (JN fun y hy=>h y (by simp [hy]))
theorem QS {σ:bw} {ρ ρ':Operand->Value} {x:Option Operand} (h:∀y∈x.toArray,VR σ (ρ y) (ρ' y)):OV σ (x.map ρ) (x.map ρ'):=by
 cases x with
 | none=>exact .inl ⟨rfl,rfl⟩
 | some y=>exact .inr ⟨_,_,rfl,rfl,h y (by simp)⟩
theorem aaX {o:Oper} {t:Act} {H H':ad} {v:Value} (hw:H.wf) (h:sx P dN o t H v H'):sx P (fun x=>x < H.next) o t H v H':=by
 intro σ w a K Q hr hf hx hk
 have lt:∀b,(H.get b).isSome=true->b < H.next:=fun b hi=>by
  rcases Nat.lt_or_ge b H.next with h1 | h1
  ·exact h1
  ·rw [hw b h1] at hi;cases hi
 refine h σ w a K Q ⟨fun b l B _ hs hg=>hr.ba b l B (lt b (by rw [hg];rfl)) hs hg,fun b b' l l' _ _ hs cZ hi ep=>hr.inj b b' l l' (lt b hi) (lt b' ep) hs cZ hi ep,fun b b' l l' _ hs cZ hi=>hr.sep b b' l l' (lt b hi) hs cZ hi,hr.aE⟩ hf hx ?_
 intro σ' v' w' hp hv
 exact hk σ' v' w' ⟨hp.rel.sub fun _ _=>.inl trivial,hp.ext,hp.size,
  fun k fM hn=>hp.ae k fM (fun ⟨b,l,_,hs,hi,he⟩=>hn ⟨b,l,lt b hi,hs,hi,he⟩),fun k fM ⟨b,l,_,hx⟩=>let ⟨b0,l0,_,hs,hi,he⟩:=hp.oI k fM ⟨b,l,.inl trivial,hx⟩;⟨b0,l0,lt b0 hi,hs,hi,he⟩,hp.ua,hp.rest⟩ hv
end
end Go.Proofs.YtinjmfblebpnnaaGreat.Ab
namespace Go.Proofs.YtinjmfblebpnnaaGreat.Ab
open Go Classical
section
variable {P:Program}
structure TK (n:Nat) (t:Act) (tm:Tr Value):Prop where
 get:∀i,t.tmps.getD i undef=(tm.get i).getD undef
 size:t.tmps.size=n
 K4:t.defers=[]
theorem We {n:Nat} {ops:Array Oper} (h:JA n ops=true) {i:Nat} {o:Oper} (ho:ops[i]?=some o):
  o.op.operands.all tp=true/\∀x,o.dst=some x->x < n:=by
 unfold JA at h
 rw [List.all_eq_true] at h
 have:=h o (by rw [Array.mem_toList_iff];exact Array.mem_of_getElem? ho)
 rw [Bool.and_eq_true] at this
 refine ⟨this.1,fun x hx=>?_⟩
 have h2:=this.2
 rw [hx] at h2
 simpa [blt_eq] using h2
def OJ (a:Act):ResultVar->Sem Value
 | .tmp t=>pure (a.tmps.getD t undef)
 | .cell x ty=>do loadVar ty (<-asAddr (a.tmps.getD x undef))
end
end Go.Proofs.YtinjmfblebpnnaaGreat.Ab
namespace Go.Proofs.YtinjmfblebpnnaaGreat.Ab
open Go Classical
section
variable {P:Program}
def KO.xE:KO->Bool
 | .call _ _=>true
 | _=>false
theorem JB (cs:List Value) (e:TypeId) (o:Bool) (k:Nat->Value) (h:KH):(CI cs e o k h).xE=false:=by
 unfold CI
 simp only [Nf,Tr.QQ,cond_eq_ite]
 split <;> rfl
theorem Qi (b o:Nat) (vs:List Value) (v:Value) (h:KH):(JK b o vs v h).xE=false:=by
 unfold JK
 simp only [Nf,Tr.QQ,cond_eq_ite]
 (repeat' split) <;> rfl
theorem ab3 (e:TypeId) (size sl n b:Nat) (B:KB) (new:List Value) (h:KH):(Re e size sl n b B new h).xE=false:=by
 unfold Re
 simp only [Nf,Tr.QQ,cond_eq_ite]
 (repeat' split) <;> rfl
theorem ab4 (t:TypeId) (v:Value) (h:KH):(Rc P t v h).xE=false:=by
 unfold Rc
 simp only [cond_eq_ite]
 (repeat' split) <;> rfl
theorem abp (t:TypeId) (a v:Value) (h:KH):(QO P t a v h).xE=false:=by
 unfold QO
 simp only [cond_eq_ite]
 (repeat' split) <;> first | rfl | exact Qi ..
theorem aaY (t:TypeId) (s x:Value) (h:KH):(QC P t s x h).xE=false:=by
 unfold QC
 simp only [cond_eq_ite]
 (repeat' split) <;> first | rfl | exact Qi .. | exact ab3 .. | exact JB ..
theorem ab5 (t:TypeId) (d x:Value) (h:KH):(Rf P t d x h).xE=false:=by
 unfold Rf
 simp only [Nf,cond_eq_ite]
 (repeat' split) <;> first | rfl | exact Qi ..
theorem XB (t:TypeId) (x:Value) (h:KH):(wo P t x h).xE=false:=by
 unfold wo
 (repeat' split) <;> rfl
theorem XC (m:Bool) (x y:Value) (h:KH):(xS m x y h).xE=false:=by
 unfold xS
 simp only [cond_eq_ite]
 (repeat' split) <;> rfl
theorem XD {ev:Operand->Value} {op:Op} {h:KH} {f:FuncId} {args:Array Value} (hh:K1 P ev op h=.call f args):∃c fv,op=.call c/\c.callee=.value fv/\xJ P (ev fv) (pk ev c.args.toList).toArray=.call f args:=by
 have key:(K1 P ev op h).xE=true:=by rw [hh];rfl
 cases op <;> simp only [K1] at hh key <;> try (cases key;done)
 case pick=>unfold Cu at key;(repeat' split at key) <;> cases key
 case alloc=>
  unfold XV at key
  split at key
  ·rw [JB] at key;cases key
  ·cases key
 case box=>rw [JB] at key;cases key
 case build=>unfold fH at key;(repeat' split at key) <;> cases key
 case buildSlice=>
  unfold Wf at key
  simp only [cond_eq_ite] at key
  (repeat' split at key) <;> first | (cases key;done) | (rw [JB] at key;cases key)
 case load=>rw [ab4] at key;cases key
 case store=>rw [abp] at key;cases key
 case nilCheck=>unfold CJ at key;(repeat' split at key) <;> cases key
 case binOp=>unfold eB at key;(repeat' split at key) <;> cases key
 case unOp=>unfold C8 at key;(repeat' split at key) <;> cases key
 case convert=>
  unfold Yg Wv at key
  (repeat' split at key) <;> cases key
 case makeSlice=>
  unfold Wi at key
  simp only [cond_eq_ite] at key
  (repeat' split at key) <;> first | (cases key;done) | (rw [JB] at key;cases key)
 case slice=>
  unfold lT at key
  simp only [nf,cond_eq_ite] at key
  (repeat' split at key) <;> cases key
 case fieldAddr=>
  unfold Ax at key
  simp only [cond_eq_ite] at key
  (repeat' split at key) <;> cases key
 case field=>unfold AH at key;(repeat' split at key) <;> cases key
 case indexAddr=>
  unfold Ay at key
  simp only [cond_eq_ite] at key
  (repeat' split at key) <;> cases key
 case index=>
  unfold xA at key
  simp only [cond_eq_ite] at key
  (repeat' split at key) <;> cases key
 case extract=>unfold AA at key;(repeat' split at key) <;> cases key
 case call c=>
  cases hc:c.callee with
  | value fv=>simp only [Hl,hc] at hh;exact ⟨c,fv,rfl,hc,hh⟩
  | invoke r m=>simp only [Hl,hc] at hh;cases hh
  | builtin b=>
   simp only [Hl,hc] at key
   unfold biK at key
   (repeat' split at key) <;> first | (cases key;done) | (rw [XB] at key;cases key) | (rw [aaY] at key;cases key) | (rw [XC] at key;cases key) | (rw [ab5] at key;cases key)
theorem acO {o:Oper} {t:Act} {h:KH} {f:FuncId} {args:Array Value} {H H':ad} {v:Value} (hh:K1 P t.eval o.op h=.call f args) (vc:Ti P f args H v H'):sx P dN o t H v H':=by
 obtain ⟨c,fv,ho,hc,hk⟩:=XD hh
 unfold xJ at hk
 split at hk
 ·rename_i g first cap hfv
  split at hk
  ·rename_i fn hg
   simp only [cond_eq_ite] at hk
   split at hk
   ·cases hk
   ·rename_i mC
    cases hk
    intro σ w a K Q hr hf hx agD
    have h1:=hx fv (by rw [ho];simp [Op.operands,Call.operands,hc])
    rw [hfv] at h1
    obtain ⟨X1,Za,he,hf1,eC⟩:=h1.WT
    have zy:=JN (σ:=σ) (ρ:=t.eval) (ρ':=a.eval) (l:=c.args.toList) fun x fW=>hx x (by rw [ho];simp [Op.operands,Call.operands,hc];exact .inr (by simpa using fW))
    have iH:=((hf1.Db.append zy).append eC.Db).wJ
    have ph:((X1.toList++c.args.toList.map a.eval)++Za.toList).toArray=X1++c.args.map a.eval++Za:=by apply Array.ext';simp
    rw [ph] at iH
    rw [Bool.or_eq_true,not_or] at mC
    have agE:¬(fn.name= "runtime.NumGoroutine"):=by simpa using mC.1
    have adK:(fn.name== "runtime.NumGoroutine")=false:=by simpa using agE
    have agF:fn.body.isNone=false:=Bool.eq_false_iff.2 mC.2
    unfold Oper.wp execOp
    rw [ho]
    simp only [resolve,hc,Deferred.ofValue,he,Sem.run_bind,Sem.run_pure,Result.andThen_ok,invoke,callFunc,run_program,hg,adK,agF,Bool.false_eq_true,if_false,Oper.upon]
    refine Calls.mono (vc σ w _ hr hf iH) ?_
    rintro e w' ⟨σ',v',rfl,hp,hv⟩
    exact agD σ' v' w' hp hv
  ·cases hk
 ·cases hk
end
end Go.Proofs.YtinjmfblebpnnaaGreat.Ab
namespace Go.Proofs.YtinjmfblebpnnaaGreat.Ab
open Go Classical
section
variable {P:Program}
structure PT (P:Program) (ops:Array Oper) (m:Nat) where
 t:Nat->Act
 H:Nat->ad
 v:Nat->Value
 F:Nat->Nat->Prop
 wf:(H 0).wf
 step:∀(i:Nat) (o:Oper),i < m->ops[i]?=some o->tO P ops (F i) o (t i) (H i) (v i) (H (i+1))
 put:∀(i:Nat) (o:Oper),i < m->ops[i]?=some o->t (i+1)=(t i).put o.dst (v i)
 mw:∀i,i < m->iR (F i) (H i) (H (i+1))
 gW:∀(i:Nat) (o:Oper),i < m->ops[i]?=some o->o.op.operands.all tp=true
 lt:∀i b,i < m->F i b->b < (H i).next
end
theorem nr {α:Sort _} {a b:α} (h:a=b):a=b:=h
section
variable {P:Program} {ov:Ov} {rec:Nat->Code->Tr Value->KH->Lg->CR} {n:Nat} {tm:Tr Value} {h:KH} {g:Lg}
theorem acP {d:Option Nat} {op:Op} {ty:TypeId} {pos:String} {Bm:Array Edge} {gd:Option (Nat × Bool)} {l:List Oper}:List.map (fun o:Oper=>o.dst) (⟨d,op,ty,pos,Bm,gd⟩::l)=d::List.map (fun o:Oper=>o.dst) l:=nr rfl
theorem adL:List.map (fun o:Oper=>o.dst) []=[]:=nr rfl
section ops
variable {ev:Operand->Value}
theorem abq {a b:Value}:Cu (.bool true) a b h=.ok a h:=nr rfl
theorem aaZ {a b:Value}:Cu (.bool false) a b h=.ok b h:=nr rfl
theorem adM {b:Bool}:C8 .not (.bool b) h=.ok (.bool (!b)) h:=nr rfl
end ops
theorem acQ {a:Addr}:CJ (.pointer (some a)) h=.ok (.pointer (some a)) h:=nr rfl
end
def acR:Op->Bool
 | .move _ | .assign _ | .pick _ _ _ | .load _ _ | .nilCheck _ | .binOp _ _ _ _ _ | .unOp _ _ _ | .fieldAddr _ _ _ | .field _ _ _ | .indexAddr _ _ _ | .index _ _ _ | .extract _ _=>true
 | _=>false
section
variable {P:Program} {ov:Ov} {rec:Nat->Code->Tr Value->KH->Lg->CR} {n:Nat} {tm:Tr Value} {h:KH} {g:Lg}
theorem acS {ev:Operand->Value}:pk ev []=[]:=nr rfl
theorem ab6 {ev:Operand->Value} {x:Operand} {l:List Operand}:pk ev (x::l)=ev x::pk ev l:=nr rfl
end
end Go.Proofs.YtinjmfblebpnnaaGreat.Ab
namespace Go.Proofs.YtinjmfblebpnnaaGreat.Ab
open Go Classical
def ad.ah (H:ad) (b:Nat) (B:ct):ad:=⟨H.next,fun x=>if x=b then some B else H.get x,H.fz⟩
def ad.push (H:ad) (B:ct):ad:=⟨H.next+1,fun x=>if x=H.next then some B else H.get x,fun x=>x==H.next||H.fz x⟩
def ad.grow (H:ad) (b:Nat) (B:ct):ad:=⟨H.next+1,fun x=>if x=H.next then some B else if x=b then none else H.get x,fun x=>x==H.next||H.fz x⟩
theorem ad.Cw {H:ad} (hw:H.wf) {b:Nat} {B:ct} (h:H.get b=some B):b < H.next:=by
 rcases Nat.lt_or_ge b H.next with h1 | h1
 ·exact h1
 ·rw [hw b h1] at h;cases h
inductive AO where
 | no
 | ok (v:Value) (H:ad)
 | call (f:FuncId) (args:Array Value)
def cT (cs:List Value) (o:Nat) (vs:List Value):List Value:=cs.take o++(vs++cs.drop (o+vs.length))
section
variable (P:Program)
noncomputable def tP (ty:TypeId) (o:Nat) (B:Option ct):Option Value:=match B with
 | some B=>match gU P ty with
  | some true=>match dj P ty with
   | some n=>if o+n<=B.cells.length then some (.agg ((B.cells.drop o).take n).toArray) else none
   | none=>none
  | some false=>B.cells[o]?
  | none=>none
 | none=>none
noncomputable def rT (ty:TypeId) (v:Value) (H:ad):AO:=match v with
 | .pointer (some ⟨b,o,none⟩)=>match tP P ty o (H.get b) with
  | some v=>.ok v H
  | none=>.no
 | _=>.no
noncomputable def qg (b o:Nat) (vs:List Value) (v:Value) (H:ad):AO:=match H.get b with
 | some B=>if o+vs.length<=B.cells.length/\j5 vs=true/\B.ro=false then .ok v (H.ah b ⟨cT B.cells o vs,B.elem,B.gW,false⟩) else .no
 | none=>.no
noncomputable def AJ (ty:TypeId) (a x:Value) (H:ad):AO:=match a with
 | .pointer (some ⟨b,o,none⟩)=>match dj P ty with
  | some n=>if x.cells.toList.length=n then qg b o x.cells.toList undef H else .no
  | none=>.no
 | _=>.no
noncomputable def ri (cs:List Value) (elem:TypeId) (gW:Bool) (k:Nat->Value) (H:ad):AO:=.ok (k H.next) (H.push ⟨cs,elem,gW,false⟩)
noncomputable def Cp (t:TypeId) (H:ad):AO:=match fQ P t with
 | some z=>ri z t false ptrTo H
 | none=>.no
noncomputable def rL (t:TypeId) (len:Nat) (parts:List (Nat × Value)) (H:ad):AO:=match P.underlying t with
 | some (.slice e)=>match dj P e,fQ P e with
  | some n,some z=>if len * n<=16777216/\0 < n/\z.length=n then (match AN (fun i=>some (i * n,n)) parts (eO z len) with
   | some cs=>ri cs e false (fun b=>.slice (some ⟨b,0,none⟩) len len) H
   | none=>.no) else .no
  | _,_=>.no
 | _=>.no
noncomputable def Cl (t:TypeId) (l c:Value) (H:ad):AO:=match P.underlying t,l,c with
 | some (.slice e),.int .i64 (.ofNat l),.int .i64 (.ofNat c)=>match P.info? e,fQ P e with
  | some i,some z=>if l<=c/\i.bytes * c<=281474976710656/\0 < i.size/\c < 9223372036854775808/\z.length=i.size then ri (eO z c) e false (fun b=>.slice (some ⟨b,0,none⟩) l c) H else .no
  | _,_=>.no
 | _,_,_=>.no
noncomputable def oC (size:Nat) (x:Value) (H:ad):Option (Nat × List Value):=match x with
 | .slice a n _=>if n=0 then some (0,[]) else (match a with
  | some ⟨b,o,none⟩=>(match H.get b with
   | some B=>if o+n * size<=B.cells.length then some (n,(B.cells.drop o).take (n * size)) else none
   | none=>none)
  | _=>none)
 | _=>none
noncomputable def iG (t:TypeId) (s x:Value) (H:ad):AO:=match P.underlying t with
 | some (.slice e)=>match P.info? e,fQ P e with
  | some i,some z=>match oC i.size x H with
   | some (n,new)=>if z.length=i.size/\n * i.bytes < 140737488355328/\n < 9223372036854775808/\0 < i.bytes then (match s with
    | .slice none sl sc=>if sl=0/\sc=0 then
      (if n=0 then .ok s H else ri new e true (fun b=>.slice (some ⟨b,0,none⟩) n n) H) else .no
    | .slice (some ⟨b,o,none⟩) sl sc=>match H.get b with
     | some B=>if sl+n<=sc then
       (if o+sc * i.size<=B.cells.length then qg b (o+sl * i.size) new (.slice (some ⟨b,o,none⟩) (sl+n) sc) H else .no)
      else if (sl+n) * i.bytes < 140737488355328/\sl+n < 9223372036854775808/\o+sc * i.size=B.cells.length/\sl<=sc/\B.elem=e/\B.ro=false then
       (if B.gW=true then
         (if o=0/\j5 new=true then .ok (.slice (some ⟨H.next,0,none⟩) (sl+n) (sl+n)) (H.grow b ⟨B.cells.take (sl * i.size)++new,e,true,false⟩) else .no)
        else ri ((B.cells.drop o).take (sl * i.size)++new) e true (fun b=>.slice (some ⟨b,0,none⟩) (sl+n) (sl+n)) H)
      else .no
     | none=>.no
    | _=>.no) else .no
   | none=>.no
  | _,_=>.no
 | _=>.no
noncomputable def AQ (t:TypeId) (d x:Value) (H:ad):AO:=match P.underlying t with
 | some (.slice e)=>match dj P e,d,x with
  | some size,.slice (some ⟨b,o,none⟩) dn _,.slice (some ⟨b2,o2,none⟩) n _=>match H.get b2 with
   | some B=>if o2+min n dn * size<=B.cells.length then qg b o ((B.cells.drop o2).take (min n dn * size)) (.int .i64 (.ofNat (min n dn))) H else .no
   | none=>.no
  | some _,.slice a dn _,.slice a2 n _=>if dn=0∨n=0 then .ok (.int .i64 (.ofNat 0)) H else .no
  | _,_,_=>.no
 | _=>.no
noncomputable def AK (t:TypeId) (x:Value) (H:ad):AO:=match P.underlying t,x with
 | some (.slice e),.slice a n _=>if n=0 then .ok (.tuple #[]) H else (match a with
  | some ⟨b,o,none⟩=>match fQ P e with
   | some z=>if 0 < z.length then qg b o (eO z n) (.tuple #[]) H else .no
   | none=>.no
  | _=>.no)
 | _,_=>.no
noncomputable def Zc (ns:List Int):List UInt8:=List.rec (motive:=fun _=>List UInt8) [] (fun n _ r=>UInt8.ofNat n.toNat::r) ns
noncomputable def Jp (x:Value) (H:ad):AO:=match oC 1 x H with
 | some (_,l)=>match JL l with
  | some ns=>.ok (.string ⟨(Zc ns).toArray⟩) H
  | none=>.no
 | none=>.no
noncomputable def h0:KH:=⟨.lf,0,0⟩
def hU (r:KO) (H:ad):AO:=match r with
 | .ok v _=>.ok v H
 | .no=>.no
 | .call f a=>.call f a
noncomputable def rV (src dst:TypeId) (x:Value) (H:ad):AO:=match P.underlying src,P.underlying dst with
 | some (.int _),some (.int k)=>(match x with
  | .int _ n=>.ok (.int k (oZ k n)) H
  | _=>.no)
 | some (.slice e),some .string=>match P.underlying e with
  | some (.int .u8)=>Jp x H
  | _=>.no
 | _,_=>.no
noncomputable def La (b:Builtin) (ts:Array TypeId) (args:List Value) (H:ad):AO:=match b,args with
 | .len,[x]=>match ts.toList with
  | t::_=>hU (wo P t x h0) H
  | _=>.no
 | .append,[s,x]=>match ts.toList with
  | [t,t2]=>match P.underlying t2 with
   | some (.slice _)=>iG P t s x H
   | _=>.no
  | _=>.no
 | .copy,[d,x]=>match ts.toList with
  | t::_=>AQ P t d x H
  | _=>.no
 | .clear,[x]=>match ts.toList with
  | t::_=>AK P t x H
  | _=>.no
 | .min,[x,y]=>hU (xS false x y h0) H
 | .max,[x,y]=>hU (xS true x y h0) H
 | _,_=>.no
noncomputable def Hr (ev:Operand->Value) (c:Call) (H:ad):AO:=match c.callee with
 | .value f=>hU (xJ P (ev f) (pk ev c.args.toList).toArray) H
 | .builtin b=>La P b c.argTypes (pk ev c.args.toList) H
 | _=>.no
def zJ (t:TypeId):Prop:=∃k e j i,P.underlying t=some (.map k e)/\P.underlying k=some (.int j)/\P.info? e=some i/\i.zero=some (.int .i64 0)
def Ew (cs:List Value):Option (List (Int × Int)):=match cs with
 | []=>some []
 | .int .i64 k::.int .i64 v::l=>(Ew l).map fun r=>(k,v)::r
 | _=>none
def getM (kv:List (Int × Int)) (n:Int):Option Int:=match kv with
 | []=>none
 | p::l=>if p.1=n then some p.2 else getM l n
def CL (kv:List (Int × Int)) (n v:Int):List (Int × Int):=match kv with
 | []=>[(n,v)]
 | p::l=>if p.1=n then (n,v)::l else p::CL l n v
noncomputable def M4 (t:TypeId) (H:ad):AO:=.ok (.map (some H.next)) (H.push ⟨[],t,false,false⟩)
noncomputable def Ec (t:TypeId) (x i:Value) (ok:Bool) (H:ad):AO:=match x,i with
 | .map (some b),.int .i64 n=>(match H.get b with
  | some B=>if zJ P t then (match Ew B.cells with
   | some kv=>.ok (if ok=true then .tuple #[.int .i64 ((getM kv n).getD 0),.bool (getM kv n).isSome] else .int .i64 ((getM kv n).getD 0)) H
   | none=>.no) else .no
  | none=>.no)
 | _,_=>.no
noncomputable def Ex (t:TypeId) (x i v:Value) (H:ad):AO:=match x,i,v with
 | .map (some b),.int .i64 n,.int .i64 v=>(match H.get b with
  | some B=>if zJ P t/\B.ro=false then (match Ew B.cells with
   | some kv=>.ok undef (H.ah b ⟨uH (CL kv n v),B.elem,B.gW,false⟩)
   | none=>.no) else .no
  | none=>.no)
 | _,_,_=>.no
noncomputable def nV (ev:Operand->Value) (op:Op) (H:ad):AO:=match op with
 | .move x=>.ok (ev x) H
 | .assign x=>.ok (ev x) H
 | .pick c a b=>hU (Cu (ev c) (ev a) (ev b) h0) H
 | .alloc t=>Cp P t H
 | .box t x=>ri (ev x).cells.toList t false ptrTo H
 | .build t ps=>hU (fH P t (parts ev ps.toList) h0) H
 | .buildSlice t n ps=>rL P t n (parts ev ps.toList) H
 | .load t a=>rT P t (ev a) H
 | .store t a x=>AJ P t (ev a) (ev x) H
 | .nilCheck x=>hU (CJ (ev x) h0) H
 | .binOp op t x y _=>hU (eB P op t (ev x) (ev y) h0) H
 | .unOp op _ x=>hU (C8 op (ev x) h0) H
 | .convert s d x=>rV P s d (ev x) H
 | .makeFunc f first cap=>.ok (.func f (pk ev first.toList).toArray (pk ev cap.toList).toArray) H
 | .makeSlice t l c=>Cl P t (ev l) (ev c) H
 | .slice t x lo hi mx=>hU (lT P t (ev x) (lo.map ev) (hi.map ev) (mx.map ev) h0) H
 | .fieldAddr s x f=>hU (Ax P s (ev x) f h0) H
 | .field t x f=>hU (AH P t (ev x) f h0) H
 | .indexAddr t x i=>hU (Ay P t (ev x) (ev i) h0) H
 | .index t x i=>hU (xA P t (ev x) (ev i) h0) H
 | .extract t i=>hU (AA (ev t) i h0) H
 | .call c=>Hr P ev c H
 | .makeMap t none=>M4 t H
 | .lookup t x i ok=>Ec P t (ev x) (ev i) ok H
 | .mapUpdate t m k x=>Ex P t (ev m) (ev k) (ev x) H
 | _=>.no
end
section
variable {P:Program}
structure wt (P:Program) (F:Nat->Prop) (o:Oper) (t:Act) (H:ad) (v:Value) (H':ad):Prop where
 mw:iR F H H'
 op:sx P F o t H v H'
theorem oV {F:Nat->Prop} {o:Oper} {t:Act} {H:ad} {v:Value} (hw:H.wf)
  (hy:∀(σ:bw) (a:Act),(∀x∈o.op.operands,VR σ (t.eval x) (a.eval x))->∃v',VR σ v v'/\∀w,(execOp a.eval o).run P w=.ok (.value v') w):wt P F o t H v H:=
 ⟨.refl hw,xC fun σ w a hr hf hx=>let ⟨v',h1,h2⟩:=hy σ a hx;⟨σ,v',w,.refl hr rfl,h1,.inl (h2 w)⟩⟩
theorem oq {r:KO} {H H':ad} {v:Value} (h:hU r H=.ok v H'):∃h',r=.ok v h'/\H'=H:=by
 cases r with
 | ok v1 h1=>cases h;exact ⟨_,rfl,rfl⟩
 | no=>cases h
 | call f a=>cases h
theorem MP {H:ad} {B:ct} (hw:H.wf) (F:Nat->Prop):iR F H (H.push B):=
 ⟨Nat.le_succ _,fun b hb=>by
  have dT:H.next+1<=b:=hb
  show (if b=H.next then some B else H.get b)=none
  rw [if_neg (by omega)];exact hw b (by omega),fun b hb _=>by
  show (if b=H.next then some B else H.get b)=_
  rw [if_neg (by omega)]⟩
theorem XE {H:ad} {b:Nat} {B:ct} (hw:H.wf) (hb:b < H.next):iR (fun x=>x=b) H (H.ah b B):=
 ⟨Nat.le_refl _,fun x hx=>by
  have dU:H.next<=x:=hx
  show (if x=b then some B else H.get x)=none
  rw [if_neg (by omega)];exact hw x dU,fun x hx hn=>by
  show (if x=b then some B else H.get x)=_
  rw [if_neg hn]⟩
theorem M5 {F:Nat->Prop} {o:Oper} {t:Act} {H H':ad} {v:Value} {cs:List Value} {elem:TypeId} {k:Nat->Value} (hw:H.wf) (hh:ri cs elem false k H=.ok v H')
  (eg:∀(σ:bw) (w:World) (a:Act),(∀x∈o.op.operands,VR σ (t.eval x) (a.eval x))->∃fL:Array Value,VL σ cs fL.toList/\
   ∃v',(∀σ':bw,σ' H.next=some ⟨w.heap.size,0,0,false,false⟩->VR σ' (k H.next) v')/\(execOp a.eval o).run P w=.ok (.value v') (w.alloc (.cells fL elem))):wt P F o t H v H':=by
 cases hh
 refine ⟨MP hw F,xC fun σ w a hr hf hx=>?_⟩
 obtain ⟨fL,aV,v',Fa,dL⟩:=eg σ w a hx
 refine ⟨_,v',_,Qo (room:=0) (B:=⟨cs,elem,false,false⟩) hw hr rfl (fun x=>rfl) hf (cs:=fL) ?_ (fun j hj=>?_) (fun _=>rfl) rfl,Fa _ (if_pos rfl),.inl dL⟩
 ·show fL.size=cs.length+0 * _
  rw [aV.1];simp
 ·have:=aV.at j
  simpa [Array.getD_eq_getD_getElem?,List.getD_eq_getElem?_getD] using this
theorem M6 {σ:bw} {B:ct} {base o n:Nat} {cs:Array Value} (hb:o+n<=B.cells.length)
  (hv:∀i,i < B.cells.length->VR σ (B.cells.getD i undef) (cs.getD (base+i) undef)):
  VL σ ((B.cells.drop o).take n) ((List.range n).map fun j=>cs.getD (base+(o+j)) undef):=by
 refine ⟨by simp;omega,fun i hi=>?_⟩
 have ep:i < n:=by simp at hi;omega
 have:=hv (o+i) (by omega)
 simpa [List.getD_eq_getElem?_getD,ep] using this
theorem QE {ty:TypeId} {o:Nat} {b:Nat} {v:Value} {F:Nat->Prop} {H:ad} {σ:bw} {w:World} {L:Loc} (h:tP P ty o (H.get b)=some v) (hF:F b) (hr:Rel P σ F H.get w) (hL:σ b=some L) (gX:L.mp=false):
  ∃v',VR σ v v'/\(loadVar ty ⟨L.ba,L.base+o,none⟩).run P w=.ok v' w:=by
 unfold tP at h
 split at h
 ·rename_i B hB
  obtain ⟨cs,e0,fr,hg,fC,hv,_⟩:=(hr.ba b L _ hF hL hB).fh gX
  split at h
  ·rename_i Ts
   split at h
   ·rename_i n hn
    split at h
    ·rename_i hc
     cases h
     have sE:=(M6 (o:=o) (n:=n) hc hv).wJ
     have iu:=Jo (P:=P) (base:=L.base) (o:=o) (n:=n) hg (by omega)
     refine ⟨_,.agg sE.1 sE.2,?_⟩
     simp only [loadVar,Sem.run_bind,ME Ts,Result.andThen_ok,if_true,nL hn,iu,Sem.run_pure]
    ·cases h
   ·cases h
  ·rename_i Ts
   have hc:o < B.cells.length:=(List.getElem?_eq_some_iff.1 h).1
   have OI:=hv o hc
   rw [List.getD_eq_getElem?_getD,h] at OI
   have aZ:L.base+o < cs.size:=by omega
   refine ⟨_,OI,?_⟩
   simp [loadVar,ME Ts,run_load,World.cell?,hg,Array.getD,aZ]
  ·cases h
 ·cases h
theorem WW {ty:TypeId} {o:Nat} {H:ad} {b:Nat} {v:Value} (h:tP P ty o (H.get b)=some v):∃B,H.get b=some B:=by
 unfold tP at h
 split at h
 ·rename_i B hB;exact ⟨B,hB⟩
 ·cases h
theorem aaH {ty:TypeId} {ao:Operand} {o:Oper} {t:Act} {H:ad} {v:Value} {b off:Nat} (ho:o.op=.load ty ao) (ha:t.eval ao=.pointer (some ⟨b,off,none⟩))
  (hh:tP P ty off (H.get b)=some v):Td P o t H v:=by
 intro σ w a K Q hr hx hk
 have h1:=hx ao (by rw [ho];simp [Op.operands])
 rw [ha] at h1
 obtain ⟨L,⟨hL,gX⟩,he⟩:=h1.GK
 obtain ⟨v',hv,hl⟩:=QE hh trivial hr hL gX
 have e:(execOp a.eval o).run P w=.ok (.value v') w:=by
  unfold execOp
  rw [ho]
  simp only [he,Instr.loadAt,Instr.sureAddr,Sem.run_bind,Sem.run_pure,Result.andThen_ok,hl]
 unfold Oper.wp
 rw [e]
 exact hk v' hv
theorem WX {ty:TypeId} {ao:Operand} {o:Oper} {t:Act} {H H':ad} {v:Value} (hw:H.wf) (ho:o.op=.load ty ao) (hh:rT P ty (t.eval ao) H=.ok v H'):
  H'=H/\wt P (Kg (t.eval ao)) o t H v H':=by
 unfold rT at hh
 split at hh
 ·rename_i b off ha
  split at hh
  ·rename_i v0 qz
   cases hh
   refine ⟨rfl,.refl hw,xC fun σ w a hr hf hx=>?_⟩
   have h1:=hx ao (by rw [ho];simp [Op.operands])
   rw [ha] at h1
   obtain ⟨L,⟨hL,gX⟩,he⟩:=h1.GK
   obtain ⟨v',hv,hl⟩:=QE qz (by rw [ha];rfl) hr hL gX
   refine ⟨σ,v',w,.refl hr rfl,hv,.inl ?_⟩
   unfold execOp
   rw [ho]
   simp only [he,Instr.loadAt,Instr.sureAddr,Sem.run_bind,Sem.run_pure,Result.andThen_ok,hl]
  ·cases hh
 ·cases hh
theorem Jm {b o:Nat} {vs:List Value} {v v':Value} {H H':ad} (hw:H.wf) (hh:qg b o vs v H=.ok v' H'):
  v'=v/\b < H.next/\iR (fun x=>x=b) H H'/\
  ∀(σ:bw) (w:World) (F:Nat->Prop),F b->Rel P σ F H.get w->∀L,(σ b=some L/\L.mp=false)->∀sG,VL σ vs sG->
   ∃w',(storeCells ⟨L.ba,L.base+o,none⟩ sG).run P w=.ok () w'/\jg P F σ H w σ H' w':=by
 unfold qg at hh
 split at hh
 ·rename_i B hB
  split at hh
  ·rename_i hc
   obtain ⟨eC,zW,jk⟩:=hc
   cases hh
   have iD:=ad.Cw hw hB
   refine ⟨rfl,iD,XE hw iD,?_⟩
   ·intro σ w F hF hr L ⟨hL,gX⟩ sG po
    have cX:=hr.ba b L _ hF hL hB
    obtain ⟨cs,hg,fC,hv⟩:=cX.cs jk gX
    have hlen:=po.1
    have eg:=run_storeCells_at (P:=P) L.ba (L.base+o) B.elem sG 0 cs w hg (by omega) (po.RS zW)
    refine ⟨_,eg,?_⟩
    simp only [Nat.add_zero]
    generalize im:(cs.toList.take (L.base+o)++sG++cs.toList.drop (L.base+o+sG.length)).toArray=new
    have RT:new.size=cs.size:=by rw [<-im];simp;omega
    have RU:∀q,new.getD q undef=if L.base+o<=q/\q < L.base+o+sG.length then sG.getD (q - (L.base+o)) undef else cs.getD q undef:=by
     intro q
     have:=P5 cs.toList sG (L.base+o) q (by simp;omega)
     rw [<-im]
     simpa [Array.getD_eq_getD_getElem?,List.getD_eq_getElem?_getD] using this
    have ai8:∀q,(cT B.cells o vs).getD q undef=if o<=q/\q < o+vs.length then vs.getD (q - o) undef else B.cells.getD q undef:=fun q=>by
     have:=P5 B.cells vs o q eC
     rw [List.append_assoc] at this;exact this
    have Yj:(cT B.cells o vs).length=B.cells.length:=by simp [cT];omega
    have mE:(w.setRow L.ba new).heap[L.ba]?=some (.cells new B.elem (0,0)):=setRow_heap w L.ba cs new B.elem (0,0) hg
    have live:∀x,(if x=b then some (⟨cT B.cells o vs,B.elem,B.gW,false⟩:ct) else H.get x).isSome=(H.get x).isSome:=by
     intro x
     by_cases kh:x=b
     ·subst kh;simp [hB]
     ·simp [kh]
    have ve:∀x,¬fresh H (H.ah b ⟨cT B.cells o vs,B.elem,B.gW,false⟩) x:=fun x hx=>by
     have h1:=hx.1;have h2:x < H.next:=hx.2
     omega
    refine ⟨⟨fun x l B2 hx hs i6=>?_,fun x x' l l' hx dU hs cZ hi ep ho gi he=>?_,fun x x' l l' hx hs cZ hi ho gi=>?_,fun x l hs ho=>by simpa using hr.aE x l hs ho⟩,fun _ _=>rfl,by simp,fun k hk hn=>?_,fun k hk ⟨x,l,hx,hs,hi,he⟩=>?_,fun x l hx=>absurd hx (ve x),⟨rfl,rfl,rfl⟩⟩
    ·have dU:=hx.resolve_right (ve x)
     by_cases kh:x=b
     ·subst kh
      simp only [ad.ah,if_true] at i6
      cases i6
      obtain rfl:l=L:=by rw [hL] at hs;exact (Option.some.inj hs).symm
      refine BR.mk' ⟨new,mE,by rw [Yj,RT];exact fC,fun i hi=>?_⟩ cX.room (fun _=>cX.own jk) gX
      rw [Yj] at hi
      rw [ai8,RU]
      by_cases h1:o<=i/\i < o+vs.length
      ·have h2:l.base+o<=l.base+i/\l.base+i < l.base+o+sG.length:=by omega
       rw [if_pos h1,if_pos h2]
       have e:l.base+i - (l.base+o)=i - o:=by omega
       rw [e]
       exact po.at (i - o)
      ·have h2:¬(l.base+o<=l.base+i/\l.base+i < l.base+o+sG.length):=by omega
       rw [if_neg h1,if_neg h2]
       exact hv i hi
     ·simp only [ad.ah,if_neg kh] at i6
      refine (hr.ba x l B2 dU hs i6).move (fun _ _ h=>h) (setRow_other w L.ba l.ba new fun e=>?_)
      cases ub:l.ro
      ·exact kh (hr.inj x b l L dU hF hs hL (by rw [i6];rfl) (by rw [hB];rfl) ub (cX.own jk) e)
      ·exact hr.sep b x L l hF hL hs (by rw [hB];rfl) (cX.own jk) ub e.symm
    ·simp only [ad.ah] at hi ep
     rw [live] at hi ep
     exact hr.inj x x' l l' (hx.resolve_right (ve x)) (dU.resolve_right (ve x')) hs cZ hi ep ho gi he
    ·simp only [ad.ah] at hi
     rw [live] at hi
     exact hr.sep x x' l l' (hx.resolve_right (ve x)) hs cZ hi ho gi
    ·refine setRow_other w L.ba k new fun e=>hn ⟨b,L,hF,hL,by rw [hB];rfl,cX.own jk,e.symm⟩
    ·simp only [ad.ah] at hi
     rw [live] at hi
     exact ⟨x,l,hx.resolve_right (ve x),hs,hi,he⟩
  ·cases hh
 ·cases hh
theorem abr {ty:TypeId} {ao xo:Operand} {o:Oper} {t:Act} {H H':ad} {v:Value} (hw:H.wf) (ho:o.op=.store ty ao xo)
  (hh:AJ P ty (t.eval ao) (t.eval xo) H=.ok v H'):wt P (Kg (t.eval ao)) o t H v H':=by
 unfold AJ at hh
 split at hh
 ·rename_i b off ha
  split at hh
  ·rename_i n hn
   split at hh
   ·rename_i hc
    obtain ⟨rfl,iD,dE,eg⟩:=Jm (P:=P) hw hh
    have hF:Kg (t.eval ao)=fun x=>x=b:=by rw [ha];rfl
    rw [hF]
    refine ⟨dE,xC fun σ w a hr hf hx=>?_⟩
    have h1:=hx ao (by rw [ho];simp [Op.operands])
    have h2:=hx xo (by rw [ho];simp [Op.operands])
    rw [ha] at h1
    obtain ⟨L,⟨hL,gX⟩,he⟩:=h1.GK
    obtain ⟨w',Bo,hp⟩:=eg σ w (fun x=>x=b) rfl hr L ⟨hL,gX⟩ _ h2.cells
    refine ⟨σ,undef,w',hp,.undef σ,.inr ⟨?_,rfl⟩⟩
    have fC:(a.eval xo).cells.size=n:=by have:=h2.cells.1;simp at this hc;omega
    unfold execOp
    rw [ho]
    simp only [he,Instr.storeAt,Instr.sureAddr,storeVar,Sem.run_bind,Sem.run_pure,Result.andThen_ok,nL hn,fC,ne_eq,not_true_eq_false,if_false,Bo]
   ·cases hh
  ·cases hh
 ·cases hh
theorem WY {size:Nat} {x:Value} {H:ad} {n:Nat} {l:List Value} (hh:oC size x H=some (n,l)):
  l.length=n * size/\(∃a c,x=.slice a n c)/\∀(σ:bw) (w:World) (F:Nat->Prop),(∀b o,(∃c,x=.slice (some ⟨b,o,none⟩) n c)->F b)->Rel P σ F H.get w->∀x',VR σ x x'->
   ∃l',VL σ l l'/\∀w',w'.heap=w.heap->(Builtin.firstCells size n x').run P w'=.ok l'.toArray w':=by
 unfold oC at hh
 split at hh
 ·rename_i a n0 c0
  split at hh
  ·rename_i h0
   subst h0
   cases hh
   refine ⟨by simp,⟨_,_,rfl⟩,fun σ w F _ hr x' hx=>⟨[],.nil σ,fun w' _=>?_⟩⟩
   obtain ⟨a',c',rfl,_⟩:=hx.tq
   cases a' <;> simp [Builtin.firstCells,loadCells,loadCellsFrom]
  ·split at hh
   ·rename_i b o
    split at hh
    ·rename_i B hB
     split at hh
     ·rename_i hc
      cases hh
      refine ⟨by simp;omega,⟨_,_,rfl⟩,fun σ w F hF hr x' hx=>?_⟩
      obtain ⟨L,⟨hL,gX⟩,rfl⟩:=hx.zh
      obtain ⟨cs,e0,fr,hg,fC,hv,_⟩:=(hr.ba b L _ (hF b o ⟨_,rfl⟩) hL hB).fh gX
      refine ⟨_,M6 hc hv,fun w' Bo=>?_⟩
      simp only [Builtin.firstCells]
      exact Jo (P:=P) (base:=L.base) (o:=o) (n:=n * size) (by rw [Bo];exact hg) (by omega)
     ·cases hh
    ·cases hh
   ·cases hh
 ·cases hh
end
end Go.Proofs.YtinjmfblebpnnaaGreat.Ab
namespace Go.Proofs.YtinjmfblebpnnaaGreat.Ab
open Go Classical
section
variable {P:Program}
theorem ab7 {H:ad} {b:Nat} {B:ct} (hw:H.wf) (hb:b < H.next):iR (fun x=>x=b) H (H.grow b B):=
 ⟨Nat.le_succ _,fun x hx=>by
  have dU:H.next+1<=x:=hx
  show (if x=H.next then some B else if x=b then none else H.get x)=none
  rw [if_neg (by omega),if_neg (by omega)];exact hw x (by omega),fun x hx hn=>by
  show (if x=H.next then some B else if x=b then none else H.get x)=_
  rw [if_neg (by omega),if_neg hn]⟩
theorem aaI {t t2 ty e2:TypeId} {s x v:Value} {H H':ad} (sH:H.wf) (hh:iG P t s x H=.ok v H') (ru:P.underlying t2=some (.slice e2)):
  iR dN H H'/\
  ∀(σ:bw) (w:World) (s' x':Value),Rel P σ dN H.get w->qk σ H H'->VR σ s s'->VR σ x x'->
   ∃σ' v' w',jg P dN σ H w σ' H' w'/\VR σ' v v'/\(Builtin.append_ #[t,t2] ty #[s',x']).run P w=.ok v' w':=by
 unfold iG at hh
 split at hh
 ·rename_i e hu
  split at hh
  ·rename_i i z hi Bp
   obtain ⟨i',zv,ep,hz,rfl,_,_⟩:=DR Bp
   obtain rfl:i'=i:=by rw [hi] at ep;exact (Option.some.inj ep).symm
   split at hh
   ·rename_i n new Kh
    obtain ⟨rv,⟨xa,xc,rfl⟩,Ed⟩:=WY (P:=P) Kh
    split at hh
    ·rename_i jW
     obtain ⟨Ip,gI,auI,Iq⟩:=jW
     have Fc:zv.cells.size=i'.size:=by simpa using Ip
     have iv:P.cellsOf e=i'.size:=by simp [Program.cellsOf,hi]
     split at hh
     ·-- nil
      rename_i sl sc
      split at hh
      ·rename_i hc
       obtain ⟨rfl,rfl⟩:=hc
       split at hh
       ·rename_i rn
        subst rn
        cases hh
        refine ⟨.refl sH,fun σ w s' x' hr hf hs hx=>?_⟩
        obtain ⟨l',lJ,ud⟩:=Ed σ w dN (fun _ _ _=>trivial) hr x' hx
        obtain ⟨a',c',rfl,_⟩:=hx.tq
        have cZ:=hs.Qf
        refine ⟨σ,.slice none 0 0,w,.refl hr rfl,.same rfl,?_⟩
        rw [cZ,Qp hu ru hi (ud w rfl) (by omega)]
       ·rename_i rn
        cases hh
        refine ⟨MP sH dN,fun σ w s' x' hr hf hs hx=>?_⟩
        obtain ⟨l',lJ,ud⟩:=Ed σ w dN (fun _ _ _=>trivial) hr x' hx
        obtain ⟨a',c',rfl,_⟩:=hx.tq
        rw [hs.Qf]
        have eg:=Qq (P:=P) (ty:=ty) (base:=none) (sl:=0) (sc:=0) (aE:=#[]) hu ru hi hz (by simp [Builtin.firstCells]) (ud w.drew rfl) (by omega) (by omega) (by simpa using gI)
        simp only [Nat.zero_add] at eg
        have hg:=grownCap_le w n 0 e
        refine ⟨_,_,_,Qo (room:=grownCap w n 0 e - n) (B:=⟨new,e,true,false⟩) sH hr rfl (fun _=>rfl) hf (cs:=#[]++l'.toArray++Builtin.zeroCells zv.cells (grownCap w n 0 e - n)) ?_ (fun j hj=>?_) (fun hb=>by cases hb) rfl,?_,eg⟩
        ·simp only [iv]
         have:=lJ.1
         simp [P0,Fc];omega
        ·simp only at hj ⊢
         have:=lJ.at j
         have OK:j < l'.length:=by rw [<-lJ.1];exact hj
         simpa [Array.getD_eq_getD_getElem?,List.getD_eq_getElem?_getD,Array.getElem?_append,OK] using this
        ·have e1:grownCap w n 0 e=n+(grownCap w n 0 e - n):=by omega
         have zX:VR (fun x=>if x=H.next then some (⟨w.heap.size,0,grownCap w n 0 e - n,false,false⟩:Loc) else σ x) (.slice (some ⟨H.next,0,none⟩) n n)
           (.slice (some ⟨w.heap.size,0+0,none⟩) n (n+(grownCap w n 0 e - n))):=
          .slice (l:=⟨w.heap.size,0,grownCap w n 0 e - n,false,false⟩) ⟨if_pos rfl,rfl⟩
         rw [e1]
         simpa using zX
      ·cases hh
     ·rename_i b o sl sc
      split at hh
      ·rename_i B hB
       have iD:=ad.Cw sH hB
       split at hh
       ·rename_i JX
        split at hh
        ·obtain ⟨rfl,_,dE,eg⟩:=Jm (P:=P) sH hh
         refine ⟨dE.all,fun σ w s' x' hr hf hs hx=>?_⟩
         obtain ⟨l',lJ,ud⟩:=Ed σ w dN (fun _ _ _=>trivial) hr x' hx
         obtain ⟨a',c',rfl,_⟩:=hx.tq
         obtain ⟨L,⟨hL,gX⟩,rfl⟩:=hs.zh
         obtain ⟨w',Bo,hp⟩:=eg σ w dN trivial hr L ⟨hL,gX⟩ l' lJ
         refine ⟨σ,_,w',hp,.slice ⟨hL,gX⟩,?_⟩
         rw [Qp hu ru hi (ud w rfl) (by omega)]
         simp only [zj]
         rw [show L.base+o+sl * i'.size=L.base+(o+sl * i'.size) by omega,Bo]
         rfl
        ·cases hh
       ·rename_i JX
        split at hh
        ·rename_i hc
         obtain ⟨iT,Zd,agG,NU,pA,jk⟩:=hc
         have ar5:sl * i'.size<=sc * i'.size:=Nat.mul_le_mul_right _ NU
         split at hh
         ·rename_i ir
          split at hh
          ·-- in its place,or not
           rename_i ic
           obtain ⟨rfl,ai9⟩:=ic
           cases hh
           generalize Lb:(⟨B.cells.take (sl * i'.size)++new,e,true,false⟩:ct)=Bn
           have Ze:Bn.cells=B.cells.take (sl * i'.size)++new:=by rw [<-Lb]
           have NV:Bn.elem=e:=by rw [<-Lb]
           have Zf:Bn.gW=true:=by rw [<-Lb]
           have dE:=ab7 (B:=Bn) sH iD
           refine ⟨dE.all,fun σ w s' x' hr hf hs hx=>?_⟩
           obtain ⟨l',lJ,ud⟩:=Ed σ w dN (fun _ _ _=>trivial) hr x' hx
           obtain ⟨a',c',rfl,_⟩:=hx.tq
           obtain ⟨L,⟨hL,gX⟩,rfl⟩:=hs.zh
           have cX:=hr.ba b L _ trivial hL hB
           obtain ⟨cs,hg,fC,hv⟩:=cX.cs jk gX
           rw [pA,iv] at fC
           have adN:l'.length=n * i'.size:=by rw [<-lJ.1];exact rv
           have aja:(sl+n) * i'.size=sl * i'.size+n * i'.size:=Nat.add_mul _ _ _
           simp only [Nat.zero_add] at agG
           have Nx:Bn.cells.length=(sl+n) * i'.size:=by rw [Ze];simp;omega
           have XF:∀j,j < (sl+n) * i'.size->Bn.cells.getD j undef=if sl * i'.size<=j then new.getD (j - sl * i'.size) undef else B.cells.getD j undef:=fun j hj=>by
            rw [Ze]
            by_cases h1:sl * i'.size<=j
            ·rw [if_pos h1,List.getD_eq_getElem?_getD,List.getElem?_append_right (by simp;omega),List.getD_eq_getElem?_getD]
             congr 2
             simp;omega
            ·rw [if_neg h1,List.getD_eq_getElem?_getD,List.getElem?_append_left (by simp;omega),List.getElem?_take,if_pos (by omega),<-List.getD_eq_getElem?_getD]
           have Ho:(H.grow b Bn).get H.next=some Bn:=if_pos rfl
           have Cx:∀x,x≠H.next->x≠b->(H.grow b Bn).get x=H.get x:=fun x h1 h2=>by
            show (if x=H.next then some Bn else if x=b then none else H.get x)=_
            rw [if_neg h1,if_neg h2]
           have JO:(H.grow b Bn).get b=none:=by
            show (if b=H.next then some Bn else if b=b then none else H.get b)=_
            rw [if_neg (by omega),if_pos rfl]
           by_cases iS:sl+n<=sc+L.room
           ·-- in its place
            have hmul:(sl+n) * i'.size<=(sc+L.room) * i'.size:=Nat.mul_le_mul_right _ iS
            have auJ:(sc+L.room) * i'.size=sc * i'.size+L.room * i'.size:=Nat.add_mul _ _ _
            have xV:=run_storeCells_at (P:=P) L.ba (L.base+sl * i'.size) B.elem l' 0 cs w hg (by omega) (lJ.RS ai9)
            simp only [Nat.add_zero] at xV
            generalize im:(cs.toList.take (L.base+sl * i'.size)++l'++cs.toList.drop (L.base+sl * i'.size+l'.length)).toArray=nw at xV
            have RT:nw.size=cs.size:=by rw [<-im];simp;omega
            have RU:∀q,nw.getD q undef=if L.base+sl * i'.size<=q/\q < L.base+sl * i'.size+l'.length then l'.getD (q - (L.base+sl * i'.size)) undef else cs.getD q undef:=by
             intro q
             have:=P5 cs.toList l' (L.base+sl * i'.size) q (by simp;omega)
             rw [<-im]
             simpa [Array.getD_eq_getD_getElem?,List.getD_eq_getElem?_getD] using this
            have mE:(w.setRow L.ba nw).heap[L.ba]?=some (.cells nw B.elem (0,0)):=setRow_heap w L.ba cs nw B.elem (0,0) hg
            have uW:∀x l,σ x=some l->(if x=H.next then some (⟨L.ba,L.base,sc+L.room - (sl+n),false,false⟩:Loc) else σ x)=some l:=fun x l hx=>by
             by_cases h1:x=H.next
             ·subst h1
              rw [hf H.next ⟨Nat.le_refl _,Nat.lt_succ_self _⟩] at hx;cases hx
             ·rw [if_neg h1];exact hx
            have mo:∀x,fresh H (H.grow b Bn) x↔x=H.next:=fun x=>⟨fun h1=>by
             have h2:=h1.1;have h3:x < H.next+1:=h1.2
             omega,fun h1=>⟨by omega,by show x < H.next+1;omega⟩⟩
            have ar6:(sc+L.room - (sl+n)) * i'.size=(sc+L.room) * i'.size - (sl+n) * i'.size:=Nat.sub_mul _ _ _
            refine ⟨fun x=>if x=H.next then some ⟨L.ba,L.base,sc+L.room - (sl+n),false,false⟩ else σ x,.slice (some ⟨L.ba,L.base+0,none⟩) (sl+n) (sl+n+(sc+L.room - (sl+n))),w.setRow L.ba nw,⟨⟨fun x l B2 _ dm i6=>?_,fun x x2 l l2 _ _ dm jJ nW iK ny fD he=>?_,fun x x2 l l2 _ dm jJ nW ny fD=>?_,fun x l dm ny=>?_⟩,
             fun x hx=>if_neg (fun h1=>hx ((mo x).2 h1)),by simp,fun k hk hn=>?_,fun k hk ⟨x,l,_,dm,nW,ny,he⟩=>?_,fun x l hx dm=>?_,⟨rfl,rfl,rfl⟩⟩,.slice (l:=⟨L.ba,L.base,sc+L.room - (sl+n),false,false⟩) ⟨if_pos rfl,rfl⟩,?_⟩
            ·by_cases fW:x=H.next
             ·subst fW
              rw [Ho] at i6
              simp only [if_true] at dm
              cases i6;cases dm
              refine BR.mk' ⟨nw,by rw [mE,pA,NV],?_,fun j hj=>?_⟩ (fun h1=>by rw [Zf] at h1;cases h1) (fun _=>rfl) rfl
              ·rw [RT,Nx,NV,iv]
               simp only
               omega
              ·rw [Nx] at hj
               simp only
               rw [XF j hj,RU]
               by_cases h1:sl * i'.size<=j
               ·rw [if_pos h1,if_pos (by omega)]
                have e1:L.base+j - (L.base+sl * i'.size)=j - sl * i'.size:=by omega
                rw [e1]
                exact (lJ.at _).mono uW
               ·rw [if_neg h1,if_neg (by omega)]
                exact (hv j (by omega)).mono uW
             ·simp only [if_neg fW] at dm
              by_cases kh:x=b
              ·rw [kh,JO] at i6;cases i6
              ·rw [Cx x fW kh] at i6
               refine (hr.ba x l B2 trivial dm i6).move uW (setRow_other w L.ba l.ba nw fun e1=>?_)
               cases ub:l.ro
               ·exact kh (hr.inj x b l L trivial trivial dm hL (by rw [i6];rfl) (by rw [hB];rfl) ub (cX.own jk) e1)
               ·exact hr.sep b x L l trivial hL dm (by rw [hB];rfl) (cX.own jk) ub e1.symm
            ·have OL:∀y,((H.grow b Bn).get y).isSome=true->y≠b:=fun y hy h1=>by rw [h1,JO] at hy;cases hy
             by_cases fW:x=H.next <;> by_cases qA:x2=H.next
             ·rw [fW,qA]
             ·simp only [if_pos fW] at dm
              simp only [if_neg qA] at jJ
              cases dm
              have h3:=OL x2 iK
              rw [Cx x2 qA h3] at iK
              exact absurd (hr.inj x2 b l2 L trivial trivial jJ hL iK (by rw [hB];rfl) fD (cX.own jk) he.symm) h3
             ·simp only [if_neg fW] at dm
              simp only [if_pos qA] at jJ
              cases jJ
              have h3:=OL x nW
              rw [Cx x fW h3] at nW
              exact absurd (hr.inj x b l L trivial trivial dm hL nW (by rw [hB];rfl) ny (cX.own jk) he) h3
             ·simp only [if_neg fW] at dm
              simp only [if_neg qA] at jJ
              rw [Cx x fW (OL x nW)] at nW
              rw [Cx x2 qA (OL x2 iK)] at iK
              exact hr.inj x x2 l l2 trivial trivial dm jJ nW iK ny fD he
            ·have qA:x2≠H.next:=fun qA=>by
              simp only [if_pos qA] at jJ
              cases jJ;cases fD
             simp only [if_neg qA] at jJ
             by_cases fW:x=H.next
             ·simp only [if_pos fW] at dm
              cases dm
              exact hr.sep b x2 L l2 trivial hL jJ (by rw [hB];rfl) (cX.own jk) fD
             ·simp only [if_neg fW] at dm
              by_cases kh:x=b
              ·rw [kh,JO] at nW;cases nW
              ·rw [Cx x fW kh] at nW
               exact hr.sep x x2 l l2 trivial dm jJ nW ny fD
            ·have fW:x≠H.next:=fun fW=>by
              simp only [if_pos fW] at dm
              cases dm;cases ny
             simp only [if_neg fW] at dm
             simpa using hr.aE x l dm ny
            ·exact setRow_other w L.ba k nw fun e1=>hn ⟨b,L,trivial,hL,by rw [hB];rfl,cX.own jk,e1.symm⟩
            ·by_cases fW:x=H.next
             ·simp only [if_pos fW] at dm
              cases dm
              exact ⟨b,L,trivial,hL,by rw [hB];rfl,cX.own jk,he⟩
             ·simp only [if_neg fW] at dm
              by_cases kh:x=b
              ·rw [kh,JO] at nW;cases nW
              ·rw [Cx x fW kh] at nW
               exact ⟨x,l,trivial,dm,nW,ny,he⟩
            ·simp only [if_pos ((mo x).1 hx)] at dm
             cases dm;rfl
            ·rw [Qp hu ru hi (ud w rfl) iS]
             simp only [zj,Nat.add_zero]
             rw [xV]
             have e1:sl+n+(sc+L.room - (sl+n))=sc+L.room:=by omega
             rw [e1];rfl
           ·-- amz
            have Tt:(Builtin.firstCells i'.size sl (.slice (some ⟨L.ba,L.base+0,none⟩) sl (sc+L.room))).run P w.drew=.ok ((List.range (sl * i'.size)).map fun j=>cs.getD (L.base+(0+j)) undef).toArray w.drew:=by
             simp only [Builtin.firstCells]
             exact Jo (P:=P) (base:=L.base) (o:=0) (n:=sl * i'.size) hg (by omega)
            have eg:=Qq (P:=P) (ty:=ty) hu ru hi hz Tt (ud w.drew rfl) (by omega) Zd iT
            have i6:=grownCap_le w (sl+n) (sc+L.room) e
            generalize grownCap w (sl+n) (sc+L.room) e=gc at eg i6
            refine ⟨_,_,_,Wx (room:=gc - (sl+n)) sH hr rfl Ho (fun x B2 fW zY=>?_) hf (cs:=((List.range (sl * i'.size)).map fun j=>cs.getD (L.base+(0+j)) undef).toArray++l'.toArray++Builtin.zeroCells zv.cells (gc - (sl+n))) ?_ (fun j hj=>?_) (fun hb=>by rw [Zf] at hb;cases hb) (by rw [NV];rfl),?_,eg⟩
            ·by_cases kh:x=b
             ·rw [kh,JO] at zY;cases zY
             ·rw [Cx x fW kh] at zY;exact zY
            ·rw [Nx,NV,iv]
             simp [P0,Fc,adN,aja]
            ·rw [Nx] at hj
             rw [XF j hj]
             have e2:((List.range (sl * i'.size)).map fun j=>cs.getD (L.base+(0+j)) undef).toArray++l'.toArray=(((List.range (sl * i'.size)).map fun j=>cs.getD (L.base+(0+j)) undef)++l').toArray:=by simp
             rw [e2,WV _ _ _ (by simp;omega)]
             by_cases h1:sl * i'.size<=j
             ·rw [if_pos h1]
              have e3:(((List.range (sl * i'.size)).map fun j=>cs.getD (L.base+(0+j)) undef)++l').getD j undef=l'.getD (j - sl * i'.size) undef:=by
               rw [List.getD_eq_getElem?_getD,List.getElem?_append_right (by simpa using h1),List.getD_eq_getElem?_getD]
               simp
              rw [e3]
              exact lJ.at (j - sl * i'.size)
             ·rw [if_neg h1]
              have h2:j < sl * i'.size:=by omega
              have:=hv j (by omega)
              have e6:(((List.range (sl * i'.size)).map fun j=>cs.getD (L.base+(0+j)) undef)++l').getD j undef=cs.getD (L.base+(0+j)) undef:=by
               rw [List.getD_eq_getElem?_getD,List.getElem?_append_left (by simpa using h2)];simp [h2]
              rw [e6,Nat.zero_add]
              exact this
            ·have e1:gc=sl+n+(gc - (sl+n)):=by omega
             have zX:VR (fun x=>if x=H.next then some (⟨w.heap.size,0,gc - (sl+n),false,false⟩:Loc) else σ x) (.slice (some ⟨H.next,0,none⟩) (sl+n) (sl+n))
               (.slice (some ⟨w.heap.size,0+0,none⟩) (sl+n) (sl+n+(gc - (sl+n)))):=
              .slice (l:=⟨w.heap.size,0,gc - (sl+n),false,false⟩) ⟨if_pos rfl,rfl⟩
             rw [e1]
             simpa using zX
          ·cases hh
         ·-- E6 block ends here
          rename_i ir
          have ajb:B.gW=false:=by cases h:B.gW;rfl;exact absurd h ir
          cases hh
          refine ⟨MP sH dN,fun σ w s' x' hr hf hs hx=>?_⟩
          obtain ⟨l',lJ,ud⟩:=Ed σ w dN (fun _ _ _=>trivial) hr x' hx
          obtain ⟨a',c',rfl,_⟩:=hx.tq
          obtain ⟨L,⟨hL,gX⟩,rfl⟩:=hs.zh
          have cX:=hr.ba b L _ trivial hL hB
          have Lc:L.room=0:=cX.room ajb
          obtain ⟨cs,hg,fC,hv⟩:=cX.cs jk gX
          have nZ:=M6 (o:=o) (n:=sl * i'.size) (by omega) hv
          rw [Lc,Nat.add_zero]
          have Tt:(Builtin.firstCells i'.size sl (.slice (some ⟨L.ba,L.base+o,none⟩) sl sc)).run P w.drew=.ok ((List.range (sl * i'.size)).map fun j=>cs.getD (L.base+(o+j)) undef).toArray w.drew:=by
           simp only [Builtin.firstCells]
           exact Jo (P:=P) (base:=L.base) (o:=o) (n:=sl * i'.size) hg (by omega)
          have eg:=Qq (P:=P) (ty:=ty) hu ru hi hz Tt (ud w.drew rfl) (by omega) Zd iT
          have i6:=grownCap_le w (sl+n) sc e
          generalize grownCap w (sl+n) sc e=gc at eg i6
          generalize ((List.range (sl * i'.size)).map fun j=>cs.getD (L.base+(o+j)) undef)=ol at nZ eg
          have iH:=nZ.append lJ
          refine ⟨_,_,_,Qo (room:=gc - (sl+n)) (B:=⟨(B.cells.drop o).take (sl * i'.size)++new,e,true,false⟩) sH hr rfl (fun _=>rfl) hf (cs:=ol.toArray++l'.toArray++Builtin.zeroCells zv.cells (gc - (sl+n))) ?_ (fun j hj=>?_) (fun hb=>by cases hb) rfl,?_,eg⟩
          ·simp only [iv]
           rw [iH.1]
           simp [P0,Fc]
          ·simp only at hj ⊢
           have:=iH.at j
           have OK:j < (ol++l').length:=by rw [<-iH.1];exact hj
           have e1:(ol.toArray++l'.toArray++Builtin.zeroCells zv.cells (gc - (sl+n))).getD j undef=(ol++l').getD j undef:=by
            have e2:ol.toArray++l'.toArray=(ol++l').toArray:=by simp
            rw [e2]
            exact WV _ _ _ OK
           rw [e1];exact this
          ·have e1:gc=sl+n+(gc - (sl+n)):=by omega
           have zX:VR (fun x=>if x=H.next then some (⟨w.heap.size,0,gc - (sl+n),false,false⟩:Loc) else σ x) (.slice (some ⟨H.next,0,none⟩) (sl+n) (sl+n))
             (.slice (some ⟨w.heap.size,0+0,none⟩) (sl+n) (sl+n+(gc - (sl+n)))):=
            .slice (l:=⟨w.heap.size,0,gc - (sl+n),false,false⟩) ⟨if_pos rfl,rfl⟩
           rw [e1]
           simpa using zX
        ·cases hh
      ·cases hh
     ·cases hh
    ·cases hh
   ·cases hh
  ·cases hh
 ·cases hh
theorem aa0 {t ty:TypeId} {ts:Array TypeId} {x v:Value} {H H':ad} (sH:H.wf) (ht:ts[0]?=some t) (hh:AK P t x H=.ok v H'):
  iR dN H H'/\
  ∀(σ:bw) (w:World) (x':Value),Rel P σ dN H.get w->VR σ x x'->
   ∃v' w',jg P dN σ H w σ H' w'/\VR σ v v'/\(Builtin.clear_ ts ty #[x']).run P w=.ok v' w':=by
 unfold AK at hh
 split at hh
 ·rename_i e a n c hu
  split at hh
  ·rename_i hn
   cases hh
   subst hn
   refine ⟨.refl sH,fun σ w x' hr hx=>?_⟩
   obtain ⟨xa,xc',rfl,_⟩:=hx.tq
   refine ⟨_,w,.refl hr rfl,.tuple rfl (fun i h=>absurd h (by simp)),?_⟩
   cases xa <;> simp [Builtin.clear_,ht,run_underlying hu]
  ·rename_i hn
   split at hh
   ·rename_i b o
    split at hh
    ·rename_i z hz
     split at hh
     ·rename_i Bp
      obtain ⟨i',zv,h1,h2,rfl,h3,h4⟩:=DR hz
      obtain ⟨rfl,_,dE,eg⟩:=Jm (P:=P) sH hh
      refine ⟨dE.all,fun σ w x' hr hx=>?_⟩
      obtain ⟨L,⟨hL,gX⟩,rfl⟩:=hx.zh
      have yy:VL σ (eO zv.cells.toList n) (Builtin.zeroCells zv.cells n).toList:=by
       have e1:(Builtin.zeroCells zv.cells n).toList=eO zv.cells.toList n:=by
        have:=P4 zv.cells (by simpa using Bp) n
        simpa [Builtin.zeroCells] using this
       rw [e1]
       have key:∀k,VL σ (eO zv.cells.toList k) (eO zv.cells.toList k):=by
        intro k
        induction k with
        | zero=>exact .nil σ
        | succ k ih=>exact (h4 σ).append ih
       exact key n
      obtain ⟨w',Bo,hp⟩:=eg σ w dN trivial hr L ⟨hL,gX⟩ _ yy
      refine ⟨_,w',hp,.tuple rfl (fun i h=>absurd h (by simp)),?_⟩
      obtain ⟨m,rfl⟩:∃m,n=m+1:=⟨n - 1,by omega⟩
      simp only [Builtin.clear_,ht,List.getElem?_toArray,List.getElem?_cons_zero,Sem.run_bind,run_underlying hu,Result.andThen_ok,h3,Bo,Sem.run_pure]
     ·cases hh
    ·cases hh
   ·cases hh
 ·cases hh
theorem abt {t ty:TypeId} {ts:Array TypeId} {d x v:Value} {H H':ad} (sH:H.wf) (ht:ts[0]?=some t) (hh:AQ P t d x H=.ok v H'):
  iR dN H H'/\
  ∀(σ:bw) (w:World) (d' x':Value),Rel P σ dN H.get w->VR σ d d'->VR σ x x'->
   ∃v' w',jg P dN σ H w σ H' w'/\VR σ v v'/\(Builtin.copy_ ts ty #[d',x']).run P w=.ok v' w':=by
 unfold AQ at hh
 split at hh
 ·rename_i e hu
  split at hh
  ·rename_i size b o dn dc b2 o2 n nc hs
   split at hh
   ·rename_i B hB
    split at hh
    ·rename_i hc
     obtain ⟨rfl,_,dE,eg⟩:=Jm (P:=P) sH hh
     refine ⟨dE.all,fun σ w d' x' hr hd hx=>?_⟩
     obtain ⟨L,⟨hL,gX⟩,rfl⟩:=hd.zh
     obtain ⟨L2,hL2,rfl⟩:=hx.zh
     obtain ⟨cs,e0,fr,hg,fC,hv,_⟩:=(hr.ba b2 L2 _ trivial hL2.1 hB).fh hL2.2
     have sE:=M6 hc hv
     obtain ⟨w',Bo,hp⟩:=eg σ w dN trivial hr L ⟨hL,gX⟩ _ sE
     refine ⟨_,w',hp,.same rfl,?_⟩
     have iu:=Jo (P:=P) (base:=L2.base) (o:=o2) (n:=min n dn * size) hg (by omega)
     simp only [Builtin.copy_,ht,List.getElem?_toArray,List.getElem?_cons_zero,List.getElem?_cons_succ,Sem.run_bind,run_underlying hu,Result.andThen_ok,Builtin.lenOf,Sem.run_pure,nL hs,Builtin.firstCells]
     rw [show Nat.min n dn=min n dn from rfl,iu]
     simp only [Result.andThen_ok,Sem.run_bind,Bo,Sem.run_pure,goInt]
     rfl
    ·cases hh
   ·cases hh
  ·rename_i size a dn dc a2 n nc mC hs
   split at hh
   ·rename_i hc
    cases hh
    refine ⟨.refl sH,fun σ w d' x' hr hd hx=>?_⟩
    obtain ⟨da,dc',rfl,_⟩:=hd.tq
    obtain ⟨xa,xc',rfl,_⟩:=hx.tq
    refine ⟨_,w,.refl hr rfl,.same rfl,?_⟩
    have ajc:Nat.min n dn=0:=by
     show min n dn=0
     omega
    have ud:(Builtin.firstCells size 0 (.slice xa n xc')).run P w=.ok #[] w:=by
     cases xa <;> simp [Builtin.firstCells,loadCells,loadCellsFrom]
    simp only [Builtin.copy_,ht,List.getElem?_toArray,List.getElem?_cons_zero,List.getElem?_cons_succ,Sem.run_bind,run_underlying hu,Result.andThen_ok,Builtin.lenOf,Sem.run_pure,nL hs,ajc,ud]
    cases da <;> simp [storeCells,goInt]
   ·cases hh
  ·cases hh
 ·cases hh
theorem aay {x v:Value} {H H':ad} (hh:Jp x H=.ok v H'):H'=H/\(∃a n c,x=.slice a n c)/\∀(σ:bw) (w:World) x',Rel P σ dN H.get w->VR σ x x'->∃v',VR σ v v'/\(Conv.bytesToString x').run P w=.ok v' w:=by
 unfold Jp at hh
 split at hh
 ·rename_i n l Kh
  obtain ⟨rv,⟨xa,xc,rfl⟩,Ed⟩:=WY (P:=P) Kh
  split at hh
  ·rename_i ns uc
   cases hh
   refine ⟨rfl,⟨_,_,_,rfl⟩,fun σ w x' hr hx=>?_⟩
   obtain ⟨l',lJ,ud⟩:=Ed σ w dN (fun _ _ _=>trivial) hr x' hx
   have he:=Wg uc lJ
   have hf:=ud w rfl
   refine ⟨_,.same rfl,?_⟩
   obtain ⟨a',c',rfl,_⟩:=hx.tq
   cases a' with
   | none=>
    simp only [Builtin.firstCells,Sem.run_pure,Result.ok.injEq,and_true] at hf
    have:l'=[]:=by simpa using hf.symm
    rw [this] at he
    have:ns=[]:=by cases ns with
     | nil=>rfl
     | cons a b=>simp at he
    subst this
    simp only [Conv.bytesToString,Sem.run_pure]
    rfl
   | some a=>
    simp only [Builtin.firstCells,Nat.mul_one] at hf
    rw [he] at hf
    rw [run_bytesToString w a n c' ns hf,Wm]
    congr 2
    apply ByteArray.ext
    simp [Zc]
  ·cases hh
 ·cases hh
end
end Go.Proofs.YtinjmfblebpnnaaGreat.Ab
namespace Go.Proofs.YtinjmfblebpnnaaGreat.Ab
open Go Classical
section
variable {P:Program}
noncomputable def Yk (P:Program) (t:TypeId):Bool:=match P.underlying t with
 | some (.map k e)=>(match P.underlying k with
  | some (.int _)=>(match P.info? e with
   | some i=>(match i.zero with
    | some (.int .i64 z)=>decide (z=0)
    | _=>false)
   | none=>false)
  | _=>false)
 | _=>false
theorem acT {t:TypeId} (h:Yk P t=true):zJ P t:=by
 unfold Yk at h
 split at h
 ·rename_i k e h1
  split at h
  ·rename_i j h2
   split at h
   ·rename_i i h3
    split at h
    ·rename_i z h4
     rw [decide_eq_true_eq] at h
     subst h
     exact ⟨k,e,j,i,h1,h2,h3,h4⟩
    ·cases h
   ·cases h
  ·cases h
 ·cases h
theorem VR.XG {σ:bw} {b:Nat} {v:Value} (h:VR σ (.map (some b)) v):∃l,(σ b=some l/\l.mp=true)/\v=.map (some l.ba):=by
 cases h with
 | same h=>cases h
 | map h=>exact ⟨_,h,rfl⟩
theorem JC:∀kv:List (Int × Int),Ew (uH kv)=some kv
 | []=>rfl
 | p::l=>by
  show (Ew (uH l)).map _=_
  rw [JC l];rfl
def rj (kv:List (Int × Int)) (n:Int):Option Nat:=match kv with
 | []=>none
 | p::l=>if p.1=n then some 0 else (rj l n).map (·+1)
theorem WZ (n:Int):∀kv,getM kv n=(rj kv n).map fun q=>(kv.getD q (0,0)).2
 | []=>rfl
 | p::l=>by
  rw [getM,rj]
  split
  ·rfl
  ·rw [WZ n l]
   cases rj l n <;> rfl
theorem W0 (n v:Int):∀kv,CL kv n v=match rj kv n with
  | some q=>kv.set q (n,v)
  | none=>kv++[(n,v)]
 | []=>rfl
 | p::l=>by
  rw [CL,rj]
  split
  ·rfl
  ·rw [W0 n v l]
   cases rj l n <;> rfl
theorem Wn {j:IntKind} {n:Int}:∀(es:List MapEntry) (kv:List (Int × Int)) (i:Nat),es.map (fun e=>(e.key,e.val))=kv.map (fun p=>(Value.int .i64 p.1,Value.int .i64 p.2))->
  Instr.findNow (.int j) (.int .i64 n) es i=some ((rj kv n).map fun q=>(i+q,.int .i64 (kv.getD q (0,0)).2))
 | [],[],i,_=>rfl
 | e::es,p::kv,i,h=>by
  rw [List.map_cons,List.map_cons,List.cons.injEq,Prod.mk.injEq] at h
  obtain ⟨⟨h1,h2⟩,h3⟩:=h
  rw [Instr.findNow,rj,h1]
  by_cases hp:p.1=n
  ·simp [Instr.sameNow,hp,h2]
  ·have Ld:¬n=p.1:=fun e=>hp e.symm
   simp only [Instr.sameNow,if_true]
   rw [show (n==p.1)=false by simpa using Ld,Wn es kv (i+1) h3,if_neg hp]
   cases rj kv n with
   | none=>rfl
   | some q=>simp;omega
 | [],_::_,_,h=>by cases h
 | _::_,[],_,h=>by cases h
theorem Qj {w:World} {em:Bool} {k:TypeId} {j:IntKind} {n:Int} (hk:P.underlying k=some (.int j)):(Instr.checkKey em 10000 k (.int .i64 n)).run P w=.ok () w:=by
 rw [show (10000:Nat)=9999+1 from rfl,Instr.checkKey]
 simp [run_underlying hk]
theorem W1 {w:World} {k:TypeId} {j:IntKind} {n:Int} (hk:P.underlying k=some (.int j)) {es:Array MapEntry} {kv:List (Int × Int)} (he:Et es kv):
  (Instr.findKey k (.int .i64 n) es.toList).run P w=.ok ((rj kv n).map fun q=>(q,.int .i64 (kv.getD q (0,0)).2)) w:=by
 unfold Instr.findKey
 have:=Wn (j:=j) (n:=n) es.toList kv 0 he
 simp only [Nat.zero_add] at this
 simp [run_underlying hk,this]
theorem ab8 {t:TypeId} (h:zJ P t) {w:World} {r:Nat} {es:Array MapEntry} {ck:Nat} {kv:List (Int × Int)} {n:Int} {ok:Bool} (hb:w.heap[r]?=some (.map es ck)) (he:Et es kv):
  (Instr.lookup t (.map (some r)) (.int .i64 n) ok).run P w=.ok (if ok=true then .tuple #[.int .i64 ((getM kv n).getD 0),.bool (getM kv n).isSome] else .int .i64 ((getM kv n).getD 0)) w:=by
 obtain ⟨k,e,j,i,h1,h2,h3,h4⟩:=h
 unfold Instr.lookup
 simp only [Sem.run_bind,run_underlying h1,Result.andThen_ok,MapKept.run_getObj_map hb,Sem.run_pure,Qj h2,W1 h2 he,WZ]
 cases rj kv n with
 | none=>simp [zeroValue,typeInfo,h3,h4]
 | some q=>simp
theorem acU {t:TypeId} (h:zJ P t) {w:World} {r:Nat} {es:Array MapEntry} {ck:Nat} {kv:List (Int × Int)} {n v:Int} (hb:w.heap[r]?=some (.map es ck)) (he:Et es kv):
  ∃Le OM,Et Le (CL kv n v)/\(Instr.mapUpdate t (.map (some r)) (.int .i64 n) (.int .i64 v)).run P w=.ok () {w with heap:=w.heap.setIfInBounds r (.map Le OM)}:=by
 obtain ⟨k,e,j,i,h1,h2,h3,h4⟩:=h
 have hl:es.toList.length=kv.length:=by simpa using congrArg List.length he
 rw [W0]
 have hf:=W1 (n:=n) (w:=w) h2 he
 cases hp:rj kv n with
 | none=>
  refine ⟨es.push ⟨.int .i64 n,.int .i64 v,ck⟩,ck+1,?_,?_⟩
  ·unfold Et at he ⊢
   simp [he]
  ·rw [hp] at hf
   simp [Instr.mapUpdate,run_underlying h1,MapKept.run_getObj_map hb,Qj h2,hf,MapKept.run_setObj_map _ hb,Result.andThen]
 | some q=>
  rw [hp] at hf
  have mj:∀(kv:List (Int × Int)) q,rj kv n=some q->∃p,kv[q]?=some p/\p.1=n:=by
   intro kv
   induction kv with
   | nil=>intro q h;cases h
   | cons p l ih=>
    intro q h
    rw [rj] at h
    split at h
    ·cases h;exact ⟨p,rfl,by assumption⟩
    ·cases h5:rj l n with
     | none=>rw [h5] at h;cases h
     | some q'=>
      rw [h5] at h
      cases h
      exact ih q' h5
  obtain ⟨p,sI,Lf⟩:=mj kv q hp
  have hq:q < es.toList.length:=by rw [hl];exact (List.getElem?_eq_some_iff.1 sI).1
  obtain ⟨e0,Tu⟩:∃e0,es[q]?=some e0:=⟨es[q]'(by simpa using hq),Array.getElem?_eq_getElem _⟩
  have vf:e0.key=.int .i64 n:=by
   have:=congrArg (fun l=>l[q]?) he
   simp only [List.getElem?_map,sI,Array.getElem?_toList,Tu,Option.map_some,Option.some.injEq,Prod.mk.injEq] at this
   rw [this.1,Lf]
  refine ⟨es.modify q (fun x=>{x with key:=.int .i64 n,val:=.int .i64 v}),ck,?_,?_⟩
  ·unfold Et at he ⊢
   rw [Array.toList_modify]
   apply List.ext_getElem?
   intro m
   have hm:=congrArg (fun l=>l[m]?) he
   simp only [List.getElem?_map,Array.getElem?_toList] at hm
   simp only [List.getElem?_map,List.getElem?_modify,List.getElem?_set,Array.getElem?_toList]
   by_cases Fe:q=m
   ·subst Fe
    rw [Tu]
    have:q < kv.length:=by rw [<-hl];exact hq
    simp [this]
   ·simp only [if_neg Fe]
    rw [<-hm]
    cases es[m]? <;> simp
  ·have ks:(Instr.keyThatStays (.int .i64 n) (.int .i64 n)).run P w=.ok (.int .i64 n) w:=by
    simp [Instr.keyThatStays,Instr.sameBits]
   simp [Instr.mapUpdate,run_underlying h1,MapKept.run_getObj_map hb,Qj h2,hf,Tu,vf,ks,MapKept.run_setObj_map _ hb,Result.andThen]
theorem abu {σ:bw} {w w1:World} {F:Nat->Prop} {H H':ad} {B:ct} {o:Obj} (Tp:H.wf) (hr:Rel P σ F H.get w) (dO:H'.next=H.next+1)
  (Ho:H'.get H.next=some B) (JW:∀x B2,x≠H.next->H'.get x=some B2->H.get x=some B2) (bg:qk σ H H') (pB:∀σ',BR P σ' B ⟨w.heap.size,0,0,false,true⟩ w1) (eX:w1.heap=w.heap.push o) (Eb:w1.os=w.os/\w1.tape=w.tape/\w1.output=w.output:=by exact ⟨rfl,rfl,rfl⟩):
  jg P F σ H w (fun x=>if x=H.next then some ⟨w.heap.size,0,0,false,true⟩ else σ x) H' w1:=by
 have uW:∀b l,σ b=some l->(if b=H.next then some (⟨w.heap.size,0,0,false,true⟩:Loc) else σ b)=some l:=fun b l hb=>by
  by_cases hx:b=H.next
  ·subst hx;rw [bg H.next ⟨Nat.le_refl _,by omega⟩] at hb;cases hb
  ·rw [if_neg hx];exact hb
 have hold:∀k,k < w.heap.size->w1.heap[k]?=w.heap[k]?:=fun k hk=>by rw [eX,Array.getElem?_push_lt hk,Array.getElem?_eq_getElem hk]
 have mo:∀x,fresh H H' x↔x=H.next:=fun x=>⟨fun h=>by have:=h.1;have:=h.2;omega,fun h=>⟨by omega,by omega⟩⟩
 have uA:∀x,x≠H.next->(H'.get x).isSome=true->∃B2,H.get x=some B2:=fun x hx hi=>by
  obtain ⟨B2,hB⟩:=Option.isSome_iff_exists.1 hi
  exact ⟨B2,JW x B2 hx hB⟩
 refine ⟨⟨fun b l B2 hb hs hg=>?_,fun b b' l l' hb dT hs cZ hi ep ho gi he=>?_,fun b b' l l' hb hs cZ hi ho gi=>?_,fun b l hs ho=>?_⟩,fun b hb=>if_neg (fun h=>hb ((mo b).2 h)),by rw [eX];simp,fun k hk _=>hold k hk,fun k hk ⟨b,l,hb,hs,hi,ho,he⟩=>?_,fun b l hb hs=>?_,Eb⟩
 ·by_cases hx:b=H.next
  ·subst hx
   rw [Ho] at hg
   simp only [if_true] at hs
   cases hg;cases hs
   exact pB _
  ·simp only [if_neg hx] at hs
   have hF:=hb.resolve_right (fun h=>hx ((mo b).1 h))
   have cX:=hr.ba b l B2 hF hs (JW b B2 hx hg)
   exact cX.move uW (hold _ cX.lt)
 ·have lt:∀b l,F b->σ b=some l->(∃B2,H.get b=some B2)->l.ba < w.heap.size:=fun b l hF hs ⟨B2,hB⟩=>(hr.ba b l B2 hF hs hB).lt
  by_cases hx:b=H.next <;> by_cases dU:b'=H.next
  ·rw [hx,dU]
  ·simp only [if_neg dU] at cZ
   have Tq:=dT.resolve_right (fun h=>dU ((mo b').1 h))
   have:=lt b' l' Tq cZ (uA b' dU ep)
   simp only [if_pos hx] at hs
   cases hs
   simp only at he
   omega
  ·simp only [if_neg hx] at hs
   have hF:=hb.resolve_right (fun h=>hx ((mo b).1 h))
   have:=lt b l hF hs (uA b hx hi)
   simp only [if_pos dU] at cZ
   cases cZ
   simp only at he
   omega
  ·obtain ⟨B1,pr⟩:=uA b hx hi
   obtain ⟨B2,py⟩:=uA b' dU ep
   simp only [if_neg hx] at hs
   simp only [if_neg dU] at cZ
   exact hr.inj b b' l l' (hb.resolve_right (fun h=>hx ((mo b).1 h))) (dT.resolve_right (fun h=>dU ((mo b').1 h))) hs cZ (by rw [pr];rfl) (by rw [py];rfl) ho gi he
 ·have dU:b'≠H.next:=fun dU=>by
   simp only [if_pos dU] at cZ
   cases cZ;cases gi
  simp only [if_neg dU] at cZ
  by_cases hx:b=H.next
  ·simp only [if_pos hx] at hs
   cases hs
   simp only
   exact fun e=>Nat.lt_irrefl _ (e▸hr.aE b' l' cZ gi)
  ·obtain ⟨B1,pr⟩:=uA b hx hi
   simp only [if_neg hx] at hs
   exact hr.sep b b' l l' (hb.resolve_right (fun h=>hx ((mo b).1 h))) hs cZ (by rw [pr];rfl) ho gi
 ·have hx:b≠H.next:=fun hx=>by
   simp only [if_pos hx] at hs
   cases hs;cases ho
  simp only [if_neg hx] at hs
  have:=hr.aE b l hs ho
  rw [eX];simp;omega
 ·by_cases hx:b=H.next
  ·simp only [if_pos hx] at hs
   cases hs
   simp only at he
   omega
  ·obtain ⟨B1,pr⟩:=uA b hx hi
   simp only [if_neg hx] at hs
   exact ⟨b,l,hb.resolve_right (fun h=>hx ((mo b).1 h)),hs,by rw [pr];rfl,ho,he⟩
 ·have:=(mo b).1 hb
  simp only [if_pos this] at hs
  cases hs;rfl
theorem ab9 {σ:bw} {w:World} {F:Nat->Prop} {H:ad} {b:Nat} {B B':ct} {L:Loc} {o:Obj} (hF:F b) (hr:Rel P σ F H.get w) (hL:σ b=some L) (hB:H.get b=some B) (jk:B.ro=false)
  (im:BR P σ B' L {w with heap:=w.heap.setIfInBounds L.ba o}):jg P F σ H w σ (H.ah b B') {w with heap:=w.heap.setIfInBounds L.ba o}:=by
 have cX:=hr.ba b L _ hF hL hB
 have other:∀k,k≠L.ba->(w.heap.setIfInBounds L.ba o)[k]?=w.heap[k]?:=fun k hk=>by rw [Array.getElem?_setIfInBounds,if_neg (fun e=>hk e.symm)]
 have live:∀x,(if x=b then some B' else H.get x).isSome=(H.get x).isSome:=by
  intro x
  by_cases kh:x=b
  ·subst kh;simp [hB]
  ·simp [kh]
 have ve:∀x,¬fresh H (H.ah b B') x:=fun x hx=>by
  have h1:=hx.1;have h2:x < H.next:=hx.2
  omega
 refine ⟨⟨fun x l B2 hx hs i6=>?_,fun x x' l l' hx dU hs cZ hi ep ho gi he=>?_,fun x x' l l' hx hs cZ hi ho gi=>?_,fun x l hs ho=>by simpa using hr.aE x l hs ho⟩,fun _ _=>rfl,by simp,fun k hk hn=>?_,fun k hk ⟨x,l,hx,hs,hi,he⟩=>?_,fun x l hx=>absurd hx (ve x),⟨rfl,rfl,rfl⟩⟩
 ·have dU:=hx.resolve_right (ve x)
  by_cases kh:x=b
  ·subst kh
   simp only [ad.ah,if_true] at i6
   cases i6
   obtain rfl:l=L:=by rw [hL] at hs;exact (Option.some.inj hs).symm
   exact im
  ·simp only [ad.ah,if_neg kh] at i6
   refine (hr.ba x l B2 dU hs i6).move (fun _ _ h=>h) (other l.ba fun e=>?_)
   cases ub:l.ro
   ·exact kh (hr.inj x b l L dU hF hs hL (by rw [i6];rfl) (by rw [hB];rfl) ub (cX.own jk) e)
   ·exact hr.sep b x L l hF hL hs (by rw [hB];rfl) (cX.own jk) ub e.symm
 ·simp only [ad.ah] at hi ep
  rw [live] at hi ep
  exact hr.inj x x' l l' (hx.resolve_right (ve x)) (dU.resolve_right (ve x')) hs cZ hi ep ho gi he
 ·simp only [ad.ah] at hi
  rw [live] at hi
  exact hr.sep x x' l l' (hx.resolve_right (ve x)) hs cZ hi ho gi
 ·exact other k fun e=>hn ⟨b,L,hF,hL,by rw [hB];rfl,cX.own jk,e.symm⟩
 ·simp only [ad.ah] at hi
  rw [live] at hi
  exact ⟨x,l,hx.resolve_right (ve x),hs,hi,he⟩
theorem aa1 {ty:TypeId} {F:Nat->Prop} {o:Oper} {t:Act} {H H':ad} {v:Value} (hw:H.wf) (ho:o.op=.makeMap ty none) (hh:M4 ty H=.ok v H'):wt P F o t H v H':=by
 cases hh
 refine ⟨MP hw F,xC fun σ w a hr hf hx=>?_⟩
 refine ⟨_,.map (some w.heap.size),{w with heap:=w.heap.push (.map #[] 0)},abu (B:=⟨[],ty,false,false⟩) (o:=.map #[] 0) hw hr rfl (by simp [ad.push]) (fun x B2 hx hg=>by simpa [ad.push,hx] using hg) hf (fun σ'=>⟨fun _=>⟨#[],0,[],by simp,rfl,rfl⟩,fun e=>(by cases e),fun _=>rfl,fun _=>rfl⟩) rfl,VR.map (l:=⟨w.heap.size,0,0,false,true⟩) ⟨if_pos rfl,rfl⟩,.inl ?_⟩
 unfold execOp
 rw [ho]
 rfl
theorem aca {ty:TypeId} {x i:Operand} {ok:Bool} {o:Oper} {t:Act} {H H':ad} {v:Value} (hw:H.wf) (ho:o.op=.lookup ty x i ok) (hh:Ec P ty (t.eval x) (t.eval i) ok H=.ok v H'):H'=H/\sx P dN o t H v H':=by
 unfold Ec at hh
 split at hh
 ·rename_i b n fW nW
  split at hh
  ·rename_i B hB
   split at hh
   ·rename_i hm
    split at hh
    ·rename_i kv hk
     cases hh
     refine ⟨rfl,xC fun σ w a hr hf hx=>?_⟩
     have h1:=hx x (by rw [ho];simp [Op.operands])
     have h2:=hx i (by rw [ho];simp [Op.operands])
     rw [fW] at h1
     rw [nW] at h2
     obtain ⟨L,⟨hL,gX⟩,he⟩:=h1.XG
     obtain ⟨es,ck,kv',hg,Ff,hc⟩:=(hr.ba b L _ trivial hL hB).map gX
     rw [hc,JC] at hk
     cases hk
     refine ⟨σ,(if ok=true then .tuple #[.int .i64 ((getM kv n).getD 0),.bool (getM kv n).isSome] else .int .i64 ((getM kv n).getD 0)),w,.refl hr rfl,?_,.inl ?_⟩
     rotate_left
     ·unfold execOp
      rw [ho]
      simp only [he,h2.int,Sem.run_bind,ab8 hm hg Ff,Result.andThen_ok,Sem.run_pure]
     ·cases ok
      ·exact .same rfl
      ·exact .tuple rfl fun i hi=>.same (match i,hi with
       | 0,_=>rfl
       | 1,_=>rfl)
    ·cases hh
   ·cases hh
  ·cases hh
 ·cases hh
theorem acV {ty:TypeId} {x i y:Operand} {o:Oper} {t:Act} {H H':ad} {v:Value} (hw:H.wf) (ho:o.op=.mapUpdate ty x i y) (hh:Ex P ty (t.eval x) (t.eval i) (t.eval y) H=.ok v H'):iR dN H H'/\sx P dN o t H v H':=by
 unfold Ex at hh
 split at hh
 ·rename_i b n u fW nW hy1
  split at hh
  ·rename_i B hB
   split at hh
   ·rename_i hm
    obtain ⟨hm,oa⟩:=hm
    split at hh
    ·rename_i kv hk
     cases hh
     refine ⟨(XE hw (ad.Cw hw hB)).all,xC fun σ w a hr hf hx=>?_⟩
     have h1:=hx x (by rw [ho];simp [Op.operands])
     have h2:=hx i (by rw [ho];simp [Op.operands])
     have h3:=hx y (by rw [ho];simp [Op.operands])
     rw [fW] at h1
     rw [nW] at h2
     rw [hy1] at h3
     obtain ⟨L,⟨hL,gX⟩,he⟩:=h1.XG
     have cX:=hr.ba b L _ trivial hL hB
     obtain ⟨es,ck,kv',hg,Ff,hc⟩:=cX.map gX
     rw [hc,JC] at hk
     cases hk
     obtain ⟨Le,OM,ajd,eg⟩:=acU hm (n:=n) (v:=u) hg Ff
     have aZ:L.ba < w.heap.size:=(Array.getElem?_eq_some_iff.1 hg).1
     refine ⟨σ,undef,{w with heap:=w.heap.setIfInBounds L.ba (.map Le OM)},ab9 trivial hr hL hB oa ⟨fun _=>⟨Le,OM,_,by simp [aZ],ajd,rfl⟩,fun e=>(by rw [gX] at e;cases e),cX.room,fun _=>cX.own oa⟩,.undef σ,.inr ⟨?_,rfl⟩⟩
     unfold execOp
     rw [ho]
     simp only [he,h2.int,h3.int,eg,Sem.run_bind,Result.andThen_ok,Sem.run_pure]
    ·cases hh
   ·cases hh
  ·cases hh
 ·cases hh
end
end Go.Proofs.YtinjmfblebpnnaaGreat.Ab
namespace Go.Proofs.YtinjmfblebpnnaaGreat.Ab
open Go Classical
section
variable {P:Program}
def Cy (P:Program) (ev:Operand->Value) (op:Op) (n:Nat):Nat->Prop:=match op with
 | .load _ a=>Kg (ev a)
 | .store _ a _=>Kg (ev a)
 | .convert s _ _=>(match P.underlying s with
  | some (.int _)=>fun _=>False
  | _=>fun x=>x < n)
 | .lookup _ _ _ _ | .mapUpdate _ _ _ _=>fun x=>x < n
 | .call c=>(match c.callee with
  | .builtin .len | .builtin .min | .builtin .max=>fun _=>False
  | _=>fun x=>x < n)
 | _=>fun _=>False
theorem DY {o:Oper} {t:Act} {H H':ad} {v:Value} (hw:H.wf) (h1:iR dN H H') (h3:sx P dN o t H v H'):wt P (fun x=>x < H.next) o t H v H':=
 ⟨⟨h1.next,h1.wf,fun b hb hn=>absurd hb hn⟩,aaX hw h3⟩
theorem abv {o:Oper} {t:Act} {H H':ad} {v:Value} (hw:H.wf) (fX:o.op.operands.all tp=true) (hh:nV P t.eval o.op H=.ok v H'):wt P (Cy P t.eval o.op H.next) o t H v H':=by
 cases ho:o.op <;> rw [ho] at hh <;> simp only [nV] at hh <;> simp only [Cy] <;> try (cases hh;done)
 case makeMap ty r=>
  cases r with
  | none=>exact aa1 hw ho hh
  | some x=>cases hh
 case lookup ty x i ok=>
  obtain ⟨rfl,h⟩:=aca hw ho hh
  exact DY hw (.refl hw) h
 case mapUpdate ty x i y=>
  obtain ⟨h1,h2⟩:=acV hw ho hh
  exact DY hw h1 h2
 case move x=>
  cases hh
  exact oV hw fun σ a hx=>⟨_,hx x (by rw [ho];simp [Op.operands]),fun w=>by
   unfold execOp;rw [ho];rfl⟩
 case assign x=>
  cases hh
  exact oV hw fun σ a hx=>⟨_,hx x (by rw [ho];simp [Op.operands]),fun w=>by
   unfold execOp;rw [ho];rfl⟩
 case pick c x y=>
  obtain ⟨h',hk,rfl⟩:=oq hh
  clear hh;have hh:=hk;clear hk
  unfold Cu at hh
  split at hh
  ·rename_i b hb
   cases hh
   refine oV hw fun σ a hx=>?_
   have h1:=hx c (by rw [ho];simp [Op.operands])
   have h2:=hx x (by rw [ho];simp [Op.operands])
   have h3:=hx y (by rw [ho];simp [Op.operands])
   rw [hb] at h1
   refine ⟨if b then a.eval x else a.eval y,?_,fun w=>by
   unfold execOp;rw [ho];simp [h1.bool,asBool]⟩
   cases b
   ·exact h3
   ·exact h2
  ·cases hh
 case alloc e=>
  unfold Cp at hh
  split at hh
  ·rename_i z hz
   obtain ⟨i,zv,h1,h2,rfl,h3,h4⟩:=DR hz
   refine M5 hw hh fun σ w a hx=>⟨zv.cells,h4 σ,_,fun σ' hs=>.ptr ⟨hs,rfl⟩,?_⟩
   unfold execOp
   rw [ho]
   simp [Instr.alloc,h3,newVar,Gt]
  ·cases hh
 case box e x=>
  refine M5 hw hh fun σ w a hx=>⟨(a.eval x).cells,(hx x (by rw [ho];simp [Op.operands])).cells,_,fun σ' hs=>.ptr ⟨hs,rfl⟩,?_⟩
  unfold execOp
  rw [ho]
  simp [Instr.box,newVar,Gt]
 case build ty ps=>
  have hp:∀(σ:bw) (a:Act),(∀x∈o.op.operands,VR σ (t.eval x) (a.eval x))->PL σ (parts t.eval ps.toList) (ps.map fun (i,x)=>(i,a.eval x)).toList:=fun σ a hx=>by
   have:=Rh (σ:=σ) (ρ:=t.eval) (ρ':=a.eval) (ps:=ps.toList) fun p hp=>hx p.2 (by rw [ho];simp [Op.operands];exact ⟨p.1,by simpa using hp⟩)
   simpa using this
  obtain ⟨h',hk,rfl⟩:=oq hh
  clear hh;have hh:=hk;clear hk
  exact oV hw fun σ a hx=>(aaW hh (hp σ a hx)).2.exec (by
   unfold execOp;rw [ho])
 case buildSlice ty len ps=>
  unfold rL at hh
  split at hh
  ·rename_i e hu
   split at hh
   ·rename_i n z hn hz
    obtain ⟨i,zv,h1,h2,rfl,h3,h4⟩:=DR hz
    split at hh
    rotate_left
    ·cases hh
    rename_i hc
    obtain ⟨eC,ic,zW⟩:=hc
    split at hh
    ·rename_i cs aV
     refine M5 hw hh fun σ w a hx=>?_
     have hp:PL σ (parts t.eval ps.toList) (ps.map fun (i,x)=>(i,a.eval x)).toList:=by
      have:=Rh (σ:=σ) (ρ:=t.eval) (ρ':=a.eval) (ps:=ps.toList) fun p hp=>hx p.2 (by rw [ho];simp [Op.operands];exact ⟨p.1,by simpa using hp⟩)
      simpa using this
     have Fc:zv.cells.size=n:=by simpa using zW
     have yy:VL σ (eO zv.cells.toList len) ((Array.range (len * n)).map (fun i=>zv.cells[i % zv.cells.size]!)).toList:=by
      have:=P4 zv.cells (by omega) len
      rw [Fc] at this ⊢
      rw [this]
      have key:∀k,VL σ (eO zv.cells.toList k) (eO zv.cells.toList k):=by
       intro k
       induction k with
       | zero=>exact .nil σ
       | succ k ih=>exact (h4 σ).append ih
      exact key len
     obtain ⟨uJ,cY,hv⟩:=Qh hp aV yy
     refine ⟨uJ,hv,.slice (some ⟨w.heap.size,0,none⟩) len len,fun σ' hs=>by simpa using VR.slice (n:=len) (c:=len) (o:=0) ⟨hs,rfl⟩,?_⟩
     have auK:¬(16777216 < len * n):=by omega
     have e0:∀f:Nat->Value,Array.map f (Array.range 0)=#[]:=fun _=>by apply Array.ext';simp
     have e:(Instr.buildSlice ty len (ps.map fun (i,x)=>(i,a.eval x))).run P w=.ok (.slice (some ⟨w.heap.size,0,none⟩) len len) (w.alloc (.cells uJ e)):=by
      generalize (ps.map fun (i,x)=>(i,a.eval x))=Io at cY
      simp only [Instr.buildSlice,Sem.run_bind,run_underlying hu,Result.andThen_ok,nL hn]
      by_cases h0:len * n=0
      ·rw [h0] at cY ⊢
       rw [e0] at cY
       simp [e0,cY,Gt]
      ·have aje:¬(len * n > 2 ^ 24):=by simpa using eC
       rw [if_neg aje,if_neg h0]
       simp only [Sem.run_bind,h3,Result.andThen_ok,Sem.run_pure,cY,Gt]
     unfold execOp
     rw [ho]
     simp only [Sem.run_bind,e,Result.andThen_ok,Sem.run_pure]
    ·cases hh
   ·cases hh
  ·cases hh
 case load ty ao=>exact (WX hw ho hh).2
 case store ty ao xo=>exact abr hw ho hh
 case nilCheck x=>
  obtain ⟨h',hk,rfl⟩:=oq hh
  clear hh;have hh:=hk;clear hk
  exact oV hw fun σ a hx=>(ab0 hh (hx x (by rw [ho];simp [Op.operands])) ho rfl).2
 case binOp op ty x y yt=>
  obtain ⟨h',hk,rfl⟩:=oq hh
  clear hh;have hh:=hk;clear hk
  unfold eB at hh
  split at hh
  ·rename_i v0 hv
   cases hh
   refine oV hw fun σ a hx=>(abZ x y hv (hx x (by rw [ho];simp [Op.operands])) (hx y (by rw [ho];simp [Op.operands]))).exec ?_
   unfold execOp
   rw [ho]
  ·cases hh
 case unOp op ty x=>
  obtain ⟨h',hk,rfl⟩:=oq hh
  clear hh;have hh:=hk;clear hk
  exact oV hw fun σ a hx=>(acN hh (hx x (by rw [ho];simp [Op.operands]))).2.exec (by
   unfold execOp;rw [ho])
 case makeFunc fn first cap=>
  cases hh
  refine oV hw fun σ a hx=>?_
  have h1:=JN (σ:=σ) (ρ:=t.eval) (ρ':=a.eval) (l:=first.toList) fun x fW=>hx x (by rw [ho];simp [Op.operands];exact .inl (by simpa using fW))
  have h2:=JN (σ:=σ) (ρ:=t.eval) (ρ':=a.eval) (l:=cap.toList) fun x fW=>hx x (by rw [ho];simp [Op.operands];exact .inr (by simpa using fW))
  refine ⟨_,.func h1.wJ.1 h2.wJ.1 h1.wJ.2 h2.wJ.2,fun w=>?_⟩
  unfold execOp
  rw [ho]
  simp [Instr.makeFunc]
  constructor <;> (apply Array.ext';simp)
 case slice ty x lo hi mx=>
  obtain ⟨h',hk,rfl⟩:=oq hh
  clear hh;have hh:=hk;clear hk
  refine oV hw fun σ a hx=>(aaV hh (hx x (by rw [ho];simp [Op.operands])) (QS (ρ':=a.eval) fun y hy=>hx y ?_) (QS (ρ':=a.eval) fun y hy=>hx y ?_) (QS (ρ':=a.eval) fun y hy=>hx y ?_)).2.exec (by
   unfold execOp;rw [ho])
  ·rw [ho];simp [Op.operands] at hy ⊢;simp [hy]
  ·rw [ho];simp [Op.operands] at hy ⊢;simp [hy]
  ·rw [ho];simp [Op.operands] at hy ⊢;simp [hy]
 case fieldAddr s x f=>
  obtain ⟨h',hk,rfl⟩:=oq hh
  clear hh;have hh:=hk;clear hk
  exact oV hw fun σ a hx=>(aat hh (hx x (by rw [ho];simp [Op.operands]))).2.exec (by
   unfold execOp;rw [ho])
 case field s x f=>
  obtain ⟨h',hk,rfl⟩:=oq hh
  clear hh;have hh:=hk;clear hk
  exact oV hw fun σ a hx=>(aaT hh (hx x (by rw [ho];simp [Op.operands]))).2.exec (by
   unfold execOp;rw [ho])
 case indexAddr s x i=>
  obtain ⟨h',hk,rfl⟩:=oq hh
  clear hh;have hh:=hk;clear hk
  exact oV hw fun σ a hx=>(aau hh (hx x (by rw [ho];simp [Op.operands])) (hx i (by rw [ho];simp [Op.operands]))).2.exec (by
   unfold execOp;rw [ho])
 case index s x i=>
  obtain ⟨h',hk,rfl⟩:=oq hh
  clear hh;have hh:=hk;clear hk
  exact oV hw fun σ a hx=>(aaU hh (hx x (by rw [ho];simp [Op.operands])) (hx i (by rw [ho];simp [Op.operands]))).2.exec (by
   unfold execOp;rw [ho])
 case extract x i=>
  obtain ⟨h',hk,rfl⟩:=oq hh
  clear hh;have hh:=hk;clear hk
  exact oV hw fun σ a hx=>(aaB hh (hx x (by rw [ho];simp [Op.operands]))).2.exec (by
   unfold execOp;rw [ho])
 case makeSlice ty lo co=>
  unfold Cl at hh
  split at hh
  ·rename_i e l c hu hl Dc
   split at hh
   ·rename_i i z hi hz
    obtain ⟨i',zv,h1,h2,rfl,h3,h4⟩:=DR hz
    obtain rfl:i'=i:=by rw [hi] at h1;exact (Option.some.inj h1).symm
    split at hh
    rotate_left
    ·cases hh
    rename_i hc
    obtain ⟨c1,c2,c3,c4,c5⟩:=hc
    refine M5 hw hh fun σ w a hx=>?_
    have lJ:=hx lo (by rw [ho];simp [Op.operands])
    have sA:=hx co (by rw [ho];simp [Op.operands])
    rw [hl] at lJ
    rw [Dc] at sA
    have Fc:zv.cells.size=i'.size:=by simpa using c5
    have yy:VL σ (eO zv.cells.toList c) ((Array.range (c * i'.size)).map (fun i=>zv.cells[i % zv.cells.size]!)).toList:=by
     have:=P4 zv.cells (by omega) c
     rw [Fc] at this ⊢
     rw [this]
     have key:∀k,VL σ (eO zv.cells.toList k) (eO zv.cells.toList k):=by
      intro k
      induction k with
      | zero=>exact .nil σ
      | succ k ih=>exact (h4 σ).append ih
     exact key c
    refine ⟨_,yy,.slice (some ⟨w.heap.size,0,none⟩) l c,fun σ' hs=>by simpa using VR.slice (n:=l) (c:=c) (o:=0) ⟨hs,rfl⟩,?_⟩
    have wc:IntKind.i64.wrap (c:Int)=(c:Int):=Jn (n:=Int.ofNat c) (by rw [AF,blt_eq,decide_eq_true_eq];exact c4)
    have wl:IntKind.i64.wrap (l:Int)=(l:Int):=Jn (n:=Int.ofNat l) (by rw [AF,blt_eq,decide_eq_true_eq];exact Nat.lt_of_le_of_lt c1 c4)
    have w0:IntKind.i64.wrap 0=0:=rfl
    have t1:¬((c:Int) < 0):=by omega
    have t2:¬((281474976710656:Int) < i'.bytes * (c:Int)):=by
     have h5:((i'.bytes * c:Nat):Int)<=((281474976710656:Nat):Int):=Int.ofNat_le.2 c2
     rw [Int.natCast_mul] at h5
     omega
    have t3:¬((l:Int) < 0):=by omega
    have t4:¬((c:Int) < (l:Int)):=by omega
    unfold execOp
    rw [ho]
    by_cases h0:c * i'.size=0
    ·have jW:c=0:=by rcases Nat.mul_eq_zero.1 h0 with h | h <;> omega
     subst jW
     have Bl:l=0:=by omega
     subst Bl
     simp [Instr.makeSlice,run_underlying hu,lJ.int,sA.int,asInt,asIntOf,typeInfo,hi,sizeOf,w0,Gt]
     have e0:∀f:Nat->Value,Array.map f (Array.range 0)=#[]:=fun _=>by apply Array.ext';simp
     rw [e0,e0]
    ·simp [Instr.makeSlice,run_underlying hu,lJ.int,sA.int,asInt,asIntOf,typeInfo,hi,sizeOf,wc,wl,t2,t4,h0,h3,Gt]
     intro qA
     omega
   ·cases hh
  ·cases hh
 case convert s d x=>
  unfold rV at hh
  split at hh
  ·rename_i k k2 hs hd
   split at hh
   ·rename_i k3 n hxv
    cases hh
    rw [hs]
    refine oV hw fun σ a hx=>?_
    have h1:=hx x (by rw [ho];simp [Op.operands])
    rw [hxv] at h1
    refine ⟨.int k2 (oZ k2 n),.same rfl,fun w=>?_⟩
    unfold execOp
    rw [ho]
    simp [convert,run_underlying hs,run_underlying hd,h1.int,Conv.intToInt,qd]
   ·cases hh
  ·rename_i e hs hd
   rw [hs]
   split at hh
   ·rename_i he
    obtain ⟨rfl,⟨xa,n,xc,hxa⟩,eg⟩:=aay (P:=P) hh
    refine DY hw (.refl hw) (xC fun σ w a hr hf hx=>?_)
    have h1:=hx x (by rw [ho];simp [Op.operands])
    obtain ⟨v',hv,dL⟩:=eg σ w _ hr h1
    refine ⟨σ,v',w,.refl hr rfl,hv,.inl ?_⟩
    rw [hxa] at h1
    obtain ⟨a',c',eF,_⟩:=h1.tq
    rw [eF] at dL
    unfold execOp
    rw [ho]
    simp only [eF,Sem.run_bind,run_convert_bytes_string w s d e a' n c' hs he hd,dL,Result.andThen_ok,Sem.run_pure]
   ·cases hh
  ·cases hh
 case call c=>
  unfold Hr at hh
  split at hh
  ·rename_i f hf
   obtain ⟨h',hk,rfl⟩:=oq hh
   clear hh;have hh:=hk;clear hk
   unfold xJ at hh
   simp only [cond_eq_ite] at hh
   (repeat' split at hh) <;> cases hh
  ·rename_i b hb
   have hex:∀(a:Act),execOp a.eval o=builtin b c.argTypes o.type (c.args.map fun | .const _=>true | _=>false) (c.args.map a.eval):=fun a=>by
    unfold execOp
    rw [ho]
    simp only [resolve,hb]
    rfl
   have zy:∀(σ:bw) (a:Act),(∀x∈o.op.operands,VR σ (t.eval x) (a.eval x))->VL σ (pk t.eval c.args.toList) (c.args.map a.eval).toList:=fun σ a hx=>by
    have:=JN (σ:=σ) (ρ:=t.eval) (ρ':=a.eval) (l:=c.args.toList) fun x fW=>hx x (by rw [ho];simp [Op.operands,Call.operands,hb];simpa using fW)
    simpa using this
   have one:∀{σ:bw} {x:Value} {ar:Array Value},VL σ [x] ar.toList->∃x',ar=#[x']/\VR σ x x':=fun h=>by
    obtain ⟨x',a',he,hx,ha⟩:=h.of_cons
    rw [ha.of_nil] at he
    exact ⟨x',by apply Array.ext';simpa using he,hx⟩
   have two:∀{σ:bw} {x y:Value} {ar:Array Value},VL σ [x,y] ar.toList->∃x' y',ar=#[x',y']/\VR σ x x'/\VR σ y y':=fun h=>by
    obtain ⟨x',a',he,hx,ha⟩:=h.of_cons
    obtain ⟨y',a2,ie,hy,Tk⟩:=ha.of_cons
    rw [ie,Tk.of_nil] at he
    exact ⟨x',y',by apply Array.ext';simpa using he,hx,hy⟩
   unfold La at hh
   split at hh
   ·rename_i x yz
    split at hh
    ·rename_i t0 tl Fg
     have Lh:c.argTypes[0]?=some t0:=by rw [<-Array.getElem?_toList,Fg];rfl
     obtain ⟨h',hk,rfl⟩:=oq hh
     clear hh;have hh:=hk;clear hk
     rw [hb]
     refine oV hw fun σ a hx=>?_
     have h1:=zy σ a hx
     rw [yz] at h1
     obtain ⟨x',he,dU⟩:=one h1
     obtain ⟨v',hv,eg⟩:=(ab1 (P:=P) (ty:=o.type) hh dU c.argTypes Lh).2
     refine ⟨v',hv,fun w=>?_⟩
     rw [hex,he]
     simp [builtin,eg]
    ·cases hh
   ·rename_i s x yz
    split at hh
    ·rename_i t1 t2 Fg
     split at hh
     ·rename_i e2 ru
      have Fh:c.argTypes=#[t1,t2]:=by apply Array.ext';simpa using Fg
      rw [hb]
      obtain ⟨dE,eg⟩:=aaI (P:=P) (ty:=o.type) hw hh ru
      refine DY hw dE (xC fun σ w a hr hf hx=>?_)
      have h1:=zy σ a hx
      rw [yz] at h1
      obtain ⟨s',x',he,cZ,dU⟩:=two h1
      obtain ⟨σ',v',w',hp,hv,dL⟩:=eg σ w s' x' hr hf cZ dU
      refine ⟨σ',v',w',hp,hv,.inl ?_⟩
      rw [hex,he,Fh]
      simp [builtin,dL]
     ·cases hh
    ·cases hh
   ·rename_i d x yz
    split at hh
    ·rename_i t0 tl Fg
     have Lh:c.argTypes[0]?=some t0:=by rw [<-Array.getElem?_toList,Fg];rfl
     rw [hb]
     obtain ⟨dE,eg⟩:=abt (P:=P) (ty:=o.type) hw Lh hh
     refine DY hw dE (xC fun σ w a hr hf hx=>?_)
     have h1:=zy σ a hx
     rw [yz] at h1
     obtain ⟨d',x',he,Ir,dU⟩:=two h1
     obtain ⟨v',w',hp,hv,dL⟩:=eg σ w d' x' hr Ir dU
     refine ⟨σ,v',w',hp,hv,.inl ?_⟩
     rw [hex,he]
     simp [builtin,dL]
    ·cases hh
   ·rename_i x yz
    split at hh
    ·rename_i t0 tl Fg
     have Lh:c.argTypes[0]?=some t0:=by rw [<-Array.getElem?_toList,Fg];rfl
     rw [hb]
     obtain ⟨dE,eg⟩:=aa0 (P:=P) (ty:=o.type) hw Lh hh
     refine DY hw dE (xC fun σ w a hr hf hx=>?_)
     have h1:=zy σ a hx
     rw [yz] at h1
     obtain ⟨x',he,dU⟩:=one h1
     obtain ⟨v',w',hp,hv,dL⟩:=eg σ w x' hr dU
     refine ⟨σ,v',w',hp,hv,.inl ?_⟩
     rw [hex,he]
     simp [builtin,dL]
    ·cases hh
   ·rename_i x y yz
    obtain ⟨h',hk,rfl⟩:=oq hh
    clear hh;have hh:=hk;clear hk
    rw [hb]
    refine oV hw fun σ a hx=>?_
    have h1:=zy σ a hx
    rw [yz] at h1
    obtain ⟨x',y',he,dU,Tv⟩:=two h1
    obtain ⟨v',hv,eg⟩:=(WU (P:=P) hh dU Tv c.argTypes o.type).2
    refine ⟨v',hv,fun w=>?_⟩
    rw [hex,he]
    simp only [Bool.false_eq_true,if_false] at eg
    simp [builtin,eg]
   ·rename_i x y yz
    obtain ⟨h',hk,rfl⟩:=oq hh
    clear hh;have hh:=hk;clear hk
    rw [hb]
    refine oV hw fun σ a hx=>?_
    have h1:=zy σ a hx
    rw [yz] at h1
    obtain ⟨x',y',he,dU,Tv⟩:=two h1
    obtain ⟨v',hv,eg⟩:=(WU (P:=P) hh dU Tv c.argTypes o.type).2
    refine ⟨v',hv,fun w=>?_⟩
    rw [hex,he]
    simp only [if_true] at eg
    simp [builtin,eg]
   ·cases hh
  ·cases hh
end
end Go.Proofs.YtinjmfblebpnnaaGreat.Ab
