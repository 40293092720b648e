/- Lemmas for the walk, part 1. -/
import Derived.Handy
import Derived.KernelRfl
import Derived.Laws.Append
import Derived.Laws.BytesString
import Derived.Laws.CopyRow
import Derived.Laws.Entries
import Derived.Laws.Rows
import Derived.Laws.Slices
import Derived.Laws.StructEq
import Derived.Orders
set_option linter.unusedVariables false
set_option linter.unusedSimpArgs false
namespace Go.Proofs.YtebibeaobhcfkaaGreat.Ab
open Go
inductive Tr (α:Type) where
 | lf
 | nd (v:Option α) (l r:Tr α)
namespace Tr
variable {α:Type}
noncomputable def get (t:Tr α):Nat->Option α:=
 Tr.rec (motive:=fun _=>Nat->Option α) (fun _=>none)
  (fun v _ _ gl gr n=>Nat.rec (motive:=fun _=>Option α) v (fun m _=>Bool.rec (motive:=fun _=>Option α) (gr (Nat.div m (nat_lit 2))) (gl (Nat.div m (nat_lit 2))) (Nat.beq (Nat.mod m (nat_lit 2)) (nat_lit 0))) n) t
noncomputable def iD (t:Tr α) {β:Type} (k:Option α->Tr α->Tr α->β):β:=Tr.rec (motive:=fun _=>β) (k none .lf .lf) (fun v l r _ _=>k v l r) t
noncomputable def now (t:Tr α) {β:Type} (k:Tr α->β):β:=Tr.rec (motive:=fun _=>β) (k .lf) (fun v l r _ _=>k (.nd v l r)) t
noncomputable def put (f:Nat):Tr α->Nat->Option α->Tr α:=
 Nat.rec (motive:=fun _=>Tr α->Nat->Option α->Tr α) (fun t _ _=>t)
  (fun _ ih t n a=>t.iD fun v l r=>Nat.rec (motive:=fun _=>Tr α) (.nd a l r)
   (fun m _=>Bool.rec (motive:=fun _=>Tr α) ((ih r (Nat.div m (nat_lit 2)) a).now fun r=>.nd v l r) ((ih l (Nat.div m (nat_lit 2)) a).now fun l=>.nd v l r) (Nat.beq (Nat.mod m (nat_lit 2)) (nat_lit 0))) n) f
end Tr
structure KB where
 cs:Tr Value
 len:Nat
 elem:Nat
 iD:Bool
structure KH where
 hp:Tr KB
 nx:Nat
 wr:Nat
noncomputable def te {β:Type} (n:Nat) (k:Nat->β):β:=Nat.rec (motive:=fun _=>β) (k 0) (fun m _=>k (Nat.succ m)) n
noncomputable def aoR {β:Type} (n:Int) (k:Int->β):β:=match n with
 | .ofNat n=>te n fun n=>k (.ofNat n)
 | .negSucc n=>te n fun n=>k (.negSucc n)
noncomputable def aoS {β:Type} (v:Value) (k:Value->β):β:=match v with
 | .int x n=>aoR n fun n=>k (.int x n)
 | .bool b=>Bool.rec (motive:=fun _=>β) (k (.bool false)) (k (.bool true)) b
 | .pointer (some ⟨b,o,none⟩)=>te b fun b=>te o fun o=>k (.pointer (some ⟨b,o,none⟩))
 | .slice (some ⟨b,o,none⟩) n c=>te b fun b=>te o fun o=>te n fun n=>te c fun c=>k (.slice (some ⟨b,o,none⟩) n c)
 | v=>k v
def Ev:Int->Int->Bool
 | .ofNat a,.ofNat b=>Nat.blt a b
 | .ofNat _,.negSucc _=>false
 | .negSucc _,.ofNat _=>true
 | .negSucc a,.negSucc b=>Nat.blt b a
def GY:Int->Int->Bool
 | .ofNat a,.ofNat b=>Nat.beq a b
 | .negSucc a,.negSucc b=>Nat.beq a b
 | _,_=>false
def Ce:Int->Bool
 | .ofNat a=>Nat.blt a 9223372036854775808
 | .negSucc a=>Nat.blt a 9223372036854775808
def nZ (k:IntKind) (n:Int):Int:=match k with
 | .i64=>bif Ce n then n else IntKind.wrap .i64 n
 | .u8=>match n with
  | .ofNat a=>bif Nat.blt a 256 then n else IntKind.wrap .u8 n
  | _=>IntKind.wrap .u8 n
 | .u64=>match n with
  | .ofNat a=>bif Nat.blt a 18446744073709551616 then n else IntKind.wrap .u64 n
  | _=>IntKind.wrap .u64 n
 | k=>IntKind.wrap k n
noncomputable def IW (x:List UInt8):List UInt8->Bool:=
 List.rec (motive:=fun _=>List UInt8->Bool) (fun y=>List.rec (motive:=fun _=>Bool) true (fun _ _ _=>false) y)
  (fun a _ ih y=>List.rec (motive:=fun _=>Bool) false (fun b ys _=>Bool.rec (motive:=fun _=>Bool) false (ih ys) (Nat.beq a.toNat b.toNat)) y) x
noncomputable def rF {α:Type} (l:List α):Nat->Option α:=
 List.rec (motive:=fun _=>Nat->Option α) (fun _=>none) (fun a _ ih n=>Nat.rec (motive:=fun _=>Option α) (some a) (fun m _=>ih m) n) l
noncomputable def Ju {α:Type} (l:List α):Nat->List α:=
 List.rec (motive:=fun _=>Nat->List α) (fun _=>[]) (fun a t ih n=>Nat.rec (motive:=fun _=>List α) (a::t) (fun m _=>ih m) n) l
noncomputable def Jv {α:Type} (l:List α):Nat->List α:=
 List.rec (motive:=fun _=>Nat->List α) (fun _=>[]) (fun a t ih n=>Nat.rec (motive:=fun _=>List α) [] (fun m _=>a::ih m) n) l
noncomputable def ll {α:Type} (l:List α):Nat:=List.rec (motive:=fun _=>Nat) 0 (fun _ _ n=>Nat.succ n) l
def sW (k:IntKind) (a:Int):Nat:=match a with
 | .ofNat n=>n % 2 ^ k.bits
 | .negSucc n=>(Int.negSucc n % ((2 ^ k.bits:Nat):Int)).toNat
noncomputable def Qk (op:BinOp) (k:IntKind) (a b:Int):Option Value:=match b with
 | .ofNat b=>match op with
  | .shl=>some (.int k (nZ k (a * Int.ofNat (2 ^ (bif Nat.ble b k.bits then b else k.bits)))))
  | .shr=>some (.int k (a.fdiv (Int.ofNat (2 ^ (bif Nat.ble b k.bits then b else k.bits)))))
  | _=>none
 | _=>none
noncomputable def wK (op:BinOp) (k:IntKind) (a b:Int):Option Value:=match op with
 | .add=>some (.int k (nZ k (a+b)))
 | .sub=>some (.int k (nZ k (a - b)))
 | .mul=>some (.int k (nZ k (a * b)))
 | .quo=>bif GY b 0 then none else some (.int k (nZ k (a.tdiv b)))
 | .rem=>bif GY b 0 then none else some (.int k (a.tmod b))
 | .eql=>some (.bool (GY a b))
 | .neq=>some (.bool (!GY a b))
 | .lss=>some (.bool (Ev a b))
 | .leq=>some (.bool (!Ev b a))
 | .gtr=>some (.bool (Ev b a))
 | .geq=>some (.bool (!Ev a b))
 | .and=>some (.int k (nZ k (.ofNat (Nat.land (sW k a) (sW k b)))))
 | .or=>some (.int k (nZ k (.ofNat (Nat.lor (sW k a) (sW k b)))))
 | .xor=>some (.int k (nZ k (.ofNat (Nat.xor (sW k a) (sW k b)))))
 | .andNot=>some (.int k (nZ k (.ofNat (Nat.land (sW k a) (2 ^ k.bits - 1 - sW k b)))))
 | _=>none
noncomputable def J5 (op:BinOp) (a b:ByteArray):Option Value:=match op with
 | .add=>bif Nat.blt (ll a.data.toList+ll b.data.toList) 4611686018427387904 then some (.string ⟨(a.data.toList++b.data.toList).toArray⟩) else none
 | .eql=>some (.bool (IW a.data.toList b.data.toList))
 | .neq=>some (.bool (!IW a.data.toList b.data.toList))
 | _=>none
inductive KO where
 | no
 | ok (v:Value) (h:KH)
 | call (f:FuncId) (args:Array Value)
section
variable (P:Program)
noncomputable def gg (t:TypeId):Option Bool:=match P.underlying t with
 | some (.struct _) | some (.array _ _)=>some true
 | some _=>some false
 | none=>none
noncomputable def dm (t:TypeId):Option Nat:=match P.info? t with
 | some i=>some i.size
 | none=>none
noncomputable def Ql (cs:Tr Value) (n:Nat):Nat->Option (List Value):=
 Nat.rec (motive:=fun _=>Nat->Option (List Value)) (fun _=>some []) (fun _ ih o=>match cs.get o with
  | some v=>match ih (Nat.succ o) with
   | some l=>some (v::l)
   | none=>none
  | none=>none) n
noncomputable def MS (h:KH) (b:Nat):Option KB:=bif Nat.blt b h.nx&&Nat.blt b 1073741824 then h.hp.get b else none
noncomputable def UR (ty:TypeId) (v:Value) (h:KH):KO:=match v with
 | .pointer (some ⟨b,o,none⟩)=>match MS h b with
  | some B=>match gg P ty with
   | some true=>match dm P ty with
    | some n=>bif Nat.ble (o+n) B.len then (match Ql B.cs n o with
     | some l=>.ok (.agg l.toArray) h
     | none=>.no) else .no
    | none=>.no
   | some false=>bif Nat.blt o B.len then (match B.cs.get o with
    | some v=>.ok v h
    | none=>.no) else .no
   | none=>.no
  | none=>.no
 | _=>.no
noncomputable def Ba (v:Value):Bool:=match v with
 | .agg _=>false
 | .tuple _=>false
 | _=>true
noncomputable def lC (l:List Value):Bool:=List.rec (motive:=fun _=>Bool) true (fun v _ r=>Bool.rec (motive:=fun _=>Bool) false r (Ba v)) l
noncomputable def US (vs:List Value):Tr Value->Nat->Tr Value:=
 List.rec (motive:=fun _=>Tr Value->Nat->Tr Value) (fun t _=>t) (fun v _ ih t o=>aoS v fun v=>(t.put 40 o (some v)).now fun t=>ih t (Nat.succ o)) vs
noncomputable def L6 (b o:Nat) (vs:List Value) (v:Value) (h:KH):KO:=match MS h b with
 | some B=>bif Nat.ble (o+ll vs) B.len&&Nat.blt B.len 1073741824&&lC vs then
   (US vs B.cs o).now fun cs=>(h.hp.put 40 b (some ⟨cs,B.len,B.elem,B.iD⟩)).now fun hp=>te (Nat.lor h.wr (2 ^ b)) fun wr=>.ok v ⟨hp,h.nx,wr⟩
  else .no
 | none=>.no
noncomputable def Uw (ty:TypeId) (a x:Value) (h:KH):KO:=match a with
 | .pointer (some ⟨b,o,none⟩)=>match dm P ty with
  | some n=>bif Nat.beq (ll x.cells.toList) n then L6 b o x.cells.toList undef h else .no
  | none=>.no
 | _=>.no
noncomputable def D9 (cs:List Value) (elem:TypeId) (iD:Bool) (k:Nat->Value) (h:KH):KO:=
 te (ll cs) fun n=>bif Nat.blt n 1073741824&&Nat.blt h.nx 1073741824 then
  (US cs .lf 0).now fun t=>(h.hp.put 40 h.nx (some ⟨t,n,elem,iD⟩)).now fun hp=>te (Nat.succ h.nx) fun nx=>.ok (k h.nx) ⟨hp,nx,h.wr⟩
 else .no
noncomputable def ptrTo (b:Nat):Value:=.pointer (some ⟨b,0,none⟩)
def flat:Value->Bool
 | .bool _ | .int _ _ | .float _ _ | .complex _ _ _ | .string _ | .pointer none | .slice none _ _ | .map none | .chan none | .nilFunc | .nilIface=>true
 | _=>false
def QC (l:List Value):Bool:=l.all flat
def uQ:Operand->Bool
 | .tmp _ | .func _=>true
 | .const v=>flat v
 | .global _=>false
noncomputable def fx (t:TypeId):Option (List Value):=match P.info? t with
 | some i=>match i.zero with
  | some z=>bif QC z.cells.toList then some z.cells.toList else none
  | none=>none
 | none=>none
noncomputable def fW (z:List Value) (n:Nat):List Value:=Nat.rec (motive:=fun _=>List Value) [] (fun _ l=>z++l) n
noncomputable def IX (cs:List Value) (o:Nat) (vs:List Value):List Value:=Jv cs o++(vs++Ju cs (o+ll vs))
noncomputable def Co (place:Nat->Option (Nat × Nat)) (parts:List (Nat × Value)):List Value->Option (List Value):=
 List.rec (motive:=fun _=>List Value->Option (List Value)) (fun cs=>some cs) (fun p _ ih cs=>match place p.1 with
  | some (off,size)=>bif Nat.beq (ll p.2.cells.toList) size&&Nat.ble (off+size) (ll cs) then ih (IX cs off p.2.cells.toList) else none
  | none=>none) parts
noncomputable def LU (fs:List Field):Option (List (Nat × Nat)):=
 List.rec (motive:=fun _=>Option (List (Nat × Nat))) (some []) (fun f _ r=>match dm P f.type,r with
  | some n,some l=>some ((f.offset,n)::l)
  | _,_=>none) fs
noncomputable def iA (t:TypeId) (parts:List (Nat × Value)) (h:KH):KO:=match fx P t,P.underlying t with
 | some z,some (.struct fs)=>match LU P fs.toList with
  | some pl=>match Co (fun i=>rF pl i) parts z with
   | some cs=>.ok (.agg cs.toArray) h
   | none=>.no
  | none=>.no
 | some z,some (.array _ e)=>match dm P e with
  | some n=>match Co (fun i=>some (i * n,n)) parts z with
   | some cs=>.ok (.agg cs.toArray) h
   | none=>.no
  | none=>.no
 | _,_=>.no
noncomputable def ZT (t:TypeId) (len:Nat) (parts:List (Nat × Value)) (h:KH):KO:=match P.underlying t with
 | some (.slice e)=>match dm P e,fx P e with
  | some n,some z=>bif Nat.ble (len * n) 16777216&&Nat.blt 0 n&&Nat.beq (ll z) n then (match Co (fun i=>some (i * n,n)) parts (fW z len) with
   | some cs=>D9 cs e false (fun b=>.slice (some ⟨b,0,none⟩) len len) h
   | none=>.no) else .no
  | _,_=>.no
 | _=>.no
noncomputable def ZX (t:TypeId) (l c:Value) (h:KH):KO:=match P.underlying t,l,c with
 | some (.slice e),.int .i64 (.ofNat l),.int .i64 (.ofNat c)=>match P.info? e,fx P e with
  | some i,some z=>bif Nat.ble l c&&Nat.ble (i.bytes * c) 281474976710656&&Nat.blt 0 i.size&&Nat.blt c 9223372036854775808&&Nat.beq (ll z) i.size then D9 (fW z c) e false (fun b=>.slice (some ⟨b,0,none⟩) l c) h else .no
  | _,_=>.no
 | _,_,_=>.no
noncomputable def BX (s:TypeId) (a:Value) (f:Nat) (h:KH):KO:=match a,P.underlying s with
 | .pointer (some ⟨b,o,none⟩),some (.struct fs)=>match rF fs.toList f with
  | some f=>match dm P f.type with
   | some n=>bif Nat.blt 0 n then .ok (.pointer (some ⟨b,o+f.offset,none⟩)) h else .no
   | none=>.no
  | none=>.no
 | _,_=>.no
noncomputable def BY (t:TypeId) (x i:Value) (h:KH):KO:=match P.underlying t,x,i with
 | some (.slice e),.slice (some ⟨b,o,none⟩) n _,.int _ (.ofNat i)=>match dm P e with
  | some s=>bif Nat.blt i n then .ok (.pointer (some ⟨b,o+i * s,none⟩)) h else .no
  | none=>.no
 | some (.array n e),.pointer (some ⟨b,o,none⟩),.int _ (.ofNat i)=>match dm P e with
  | some s=>bif Nat.blt i n then .ok (.pointer (some ⟨b,o+i * s,none⟩)) h else .no
  | none=>.no
 | _,_,_=>.no
noncomputable def Cp (t:TypeId) (cs:List Value) (off:Nat):Option Value:=match gg P t with
 | some true=>match dm P t with
  | some n=>some (.agg (Jv (Ju cs off) n).toArray)
  | none=>none
 | some false=>rF cs off
 | none=>none
noncomputable def Ja (x y:Value):Option Bool:=match x,y with
 | .bool a,.bool b=>some (a==b)
 | _,_=>none
noncomputable def Jw (x y:Value):Option Bool:=match x,y with
 | .int j a,.int k b=>bif decide (j=k) then some (GY a b) else none
 | _,_=>none
noncomputable def eqStr (x y:Value):Option Bool:=match x,y with
 | .string a,.string b=>some (IW a.data.toList b.data.toList)
 | _,_=>none
noncomputable def IY (x y:Value):Option Bool:=match x,y with
 | .slice a _ _,.slice b _ _=>bif a.isNone then some b.isNone else bif b.isNone then some false else none
 | _,_=>none
noncomputable def Jx (x y:Value):Option Bool:=match x,y with
 | .pointer a,.pointer b=>bif a.isNone then some b.isNone else bif b.isNone then some false else none
 | _,_=>none
noncomputable def PA (eq:TypeId->Value->Value->Option Bool) (xs ys:List Value) (fs:List Field):Option Bool:=
 List.rec (motive:=fun _=>Option Bool) (some true) (fun f _ r=>bif decide (f.name= "_") then none else match Cp P f.type xs f.offset,Cp P f.type ys f.offset with
  | some a,some b=>match eq f.type a b with
   | some true=>r
   | some false=>some false
   | none=>none
  | _,_=>none) fs
noncomputable def yg (d:Nat):TypeId->Value->Value->Option Bool:=
 Nat.rec (motive:=fun _=>TypeId->Value->Value->Option Bool) (fun _ _ _=>none) (fun _ eq t x y=>match P.underlying t with
  | some .bool=>Ja x y
  | some (.int _)=>Jw x y
  | some .string=>eqStr x y
  | some (.slice _)=>IY x y
  | some (.pointer _)=>Jx x y
  | some (.struct fs)=>match x,y with
   | .agg xs,.agg ys=>bif P.stoodInHeld t||P.eqGuardType P.depth t then none else PA P eq xs.toList ys.toList fs.toList
   | _,_=>none
  | _=>none) d
noncomputable def kO (op:BinOp) (t:TypeId) (x y:Value):Option Value:=match x,y with
 | .int k a,.int k' b=>match op with
  | .shl=>Qk .shl k a b
  | .shr=>Qk .shr k a b
  | op=>bif decide (k=k') then wK op k a b else none
 | .string a,.string b=>J5 op a b
 | .int _ _,_=>none
 | .string _,_=>none
 | x,y=>match op with
  | .eql=>(yg P 10000 t x y).map .bool
  | .neq=>(yg P 10000 t x y).map fun b=>.bool (!b)
  | _=>none
noncomputable def Cg (t:TypeId) (x:Value) (f:Nat) (h:KH):KO:=match x,P.underlying t with
 | .agg cs,some (.struct fs)=>match rF fs.toList f with
  | some f=>match Cp P f.type cs.toList f.offset with
   | some v=>.ok v h
   | none=>.no
  | none=>.no
 | _,_=>.no
noncomputable def Ch (t:TypeId) (x i:Value) (h:KH):KO:=match P.underlying t,x,i with
 | some .string,.string s,.int _ (.ofNat i)=>match rF s.data.toList i with
  | some c=>.ok (.int .u8 (.ofNat c.toNat)) h
  | none=>.no
 | some (.array n e),.agg cs,.int _ (.ofNat i)=>match dm P e with
  | some s=>bif Nat.blt i n then (match Cp P e cs.toList (i * s) with
   | some v=>.ok v h
   | none=>.no) else .no
  | none=>.no
 | _,_,_=>.no
noncomputable def oQ (x:Option Value) (d:Nat) (k:Nat->KO):KO:=match x with
 | none=>k d
 | some (.int _ (.ofNat n))=>k n
 | _=>.no
noncomputable def pk (t:TypeId) (x:Value) (lo hi mx:Option Value) (h:KH):KO:=match P.underlying t,x,mx with
 | some .string,.string s,none=>oQ lo 0 fun l=>oQ hi (ll s.data.toList) fun r=>
   bif Nat.ble l r&&Nat.ble r (ll s.data.toList) then .ok (.string ⟨(Jv (Ju s.data.toList l) (r - l)).toArray⟩) h else .no
 | some (.slice e),.slice none n c,none=>match dm P e with
  | some _=>oQ lo 0 fun l=>oQ hi n fun r=>bif Nat.ble l r&&Nat.ble r c&&Nat.beq c 0 then .ok (.slice none (r - l) (c - l)) h else .no
  | none=>.no
 | some (.slice e),.slice (some ⟨b,o,none⟩) n c,none=>match dm P e with
  | some s=>oQ lo 0 fun l=>oQ hi n fun r=>
   bif Nat.ble l r&&Nat.ble r c then (bif Nat.blt l c||Nat.beq l 0 then .ok (.slice (some ⟨b,o+l * s,none⟩) (r - l) (c - l)) h else .ok (.slice (some ⟨b,o,some 0⟩) (r - l) 0) h) else .no
  | none=>.no
 | some (.slice e),.slice (some ⟨b,o,some s⟩) n _,none=>match dm P e with
  | some _=>oQ lo 0 fun l=>oQ hi n fun r=>bif Nat.beq l 0&&Nat.beq r 0 then .ok (.slice (some ⟨b,o,some s⟩) 0 0) h else .no
  | none=>.no
 | some (.slice e),.slice (some ⟨b,o,none⟩) n c,some m=>match dm P e with
  | some _=>oQ lo 0 fun l=>oQ (some (hi.getD undef)) n fun r=>oQ (some m) c fun m=>bif Nat.ble l r&&Nat.ble r m&&Nat.ble m c then .ok (.slice (some ⟨b,o,some 0⟩) (r - l) 0) h else .no
  | none=>.no
 | _,_,_=>.no
noncomputable def adz (size:Nat) (x:Value) (h:KH):Option (Nat × List Value):=match x with
 | .slice none n _=>bif Nat.beq n 0 then some (0,[]) else none
 | .slice (some ⟨b,o,none⟩) n _=>match MS h b with
  | some B=>bif Nat.ble (o+n * size) B.len then (match Ql B.cs (n * size) o with
   | some l=>some (n,l)
   | none=>none) else none
  | none=>none
 | _=>none
noncomputable def UT (e:TypeId) (size sl n b:Nat) (B:KB) (new:List Value) (h:KH):KO:=
 bif Nat.blt ((sl+n) * size) 1073741824&&Nat.blt h.nx 1073741824 then
  (US new B.cs (sl * size)).now fun cs=>te ((sl+n) * size) fun len=>(h.hp.put 40 b none).now fun hp=>(hp.put 40 h.nx (some ⟨cs,len,e,true⟩)).now fun hp=>te (Nat.lor h.wr (2 ^ b)) fun wr=>te (Nat.succ h.nx) fun nx=>
   .ok (.slice (some ⟨h.nx,0,none⟩) (sl+n) (sl+n)) ⟨hp,nx,wr⟩
 else .no
noncomputable def Um (t:TypeId) (s x:Value) (h:KH):KO:=match P.underlying t with
 | some (.slice e)=>match P.info? e,fx P e with
  | some i,some z=>match adz i.size x h with
   | some (n,new)=>bif Nat.beq (ll z) i.size&&Nat.blt (n * i.bytes) 140737488355328&&Nat.blt n 9223372036854775808&&Nat.blt 0 i.bytes then (match s with
    | .slice none sl sc=>bif Nat.beq sl 0&&Nat.beq sc 0 then
      (bif Nat.beq n 0 then .ok s h else D9 new e true (fun b=>.slice (some ⟨b,0,none⟩) n n) h) else .no
    | .slice (some ⟨b,o,none⟩) sl sc=>match MS h b with
     | some B=>bif Nat.ble (sl+n) sc then
       (bif Nat.ble (o+sc * i.size) B.len then L6 b (o+sl * i.size) new (.slice (some ⟨b,o,none⟩) (sl+n) sc) h else .no)
      else bif Nat.blt ((sl+n) * i.bytes) 140737488355328&&Nat.blt (sl+n) 9223372036854775808&&Nat.beq (o+sc * i.size) B.len&&Nat.ble sl sc&&Nat.beq B.elem e then
       (bif B.iD then
         -- in its place,or not:avV reads GZ au block any more
         (bif Nat.beq o 0&&lC new then UT e i.size sl n b B new h else .no)
        else (match Ql B.cs (sl * i.size) o with
         | some au=>D9 (au++new) e true (fun b=>.slice (some ⟨b,0,none⟩) (sl+n) (sl+n)) h
         | none=>.no))
      else .no
     | none=>.no
    | _=>.no) else .no
   | none=>.no
  | _,_=>.no
 | _=>.no
noncomputable def UU (t:TypeId) (d x:Value) (h:KH):KO:=match P.underlying t with
 | some (.slice e)=>match dm P e,d,x with
  | some size,.slice (some ⟨b,o,none⟩) dn _,.slice (some ⟨b2,o2,none⟩) n _=>te (bif Nat.ble n dn then n else dn) fun m=>match MS h b2 with
   | some B=>bif Nat.ble (o2+m * size) B.len then (match Ql B.cs (m * size) o2 with
    | some l=>L6 b o l (.int .i64 (.ofNat m)) h
    | none=>.no) else .no
   | none=>.no
  | some _,.slice a dn _,.slice a2 n _=>bif Nat.beq dn 0||Nat.beq n 0 then .ok (.int .i64 (.ofNat 0)) h else .no
  | _,_,_=>.no
 | _=>.no
noncomputable def x4 (t:TypeId) (x:Value) (h:KH):KO:=match P.underlying t,x with
 | some .string,.string s=>.ok (.int .i64 (.ofNat (ll s.data.toList))) h
 | some (.slice _),.slice _ n _=>.ok (.int .i64 (.ofNat n)) h
 | _,_=>.no
noncomputable def zd (mx:Bool) (x y:Value) (h:KH):KO:=match x,y with
 | .int k a,.int _ b=>bif mx then .ok (.int k (bif Ev a b then b else a)) h else .ok (.int k (bif Ev b a then b else a)) h
 | _,_=>.no
noncomputable def L7 (l:List Value):Option (List Int):=List.rec (motive:=fun _=>Option (List Int)) (some []) (fun v _ r=>match v,r with
 | .int .u8 n,some l=>some (n::l)
 | _,_=>none) l
noncomputable def aae (x:Value) (h:KH):KO:=match adz 1 x h with
 | some (_,l)=>match L7 l with
  | some ns=>.ok (.string ⟨(List.rec (motive:=fun _=>List UInt8) [] (fun n _ r=>UInt8.ofNat n.toNat::r) ns).toArray⟩) h
  | none=>.no
 | none=>.no
noncomputable def acI (src dst:TypeId) (x:Value) (h:KH):KO:=match P.underlying src,P.underlying dst,x with
 | some (.int _),some (.int k),.int _ n=>.ok (.int k (nZ k n)) h
 | some (.slice e),some .string,x=>match P.underlying e with
  | some (.int .u8)=>aae x h
  | _=>.no
 | _,_,_=>.no
noncomputable def Ew (op:UnOp) (x:Value) (h:KH):KO:=match op,x with
 | .not,.bool b=>.ok (.bool (!b)) h
 | .neg,.int k n=>.ok (.int k (nZ k (0 - n))) h
 | _,_=>.no
noncomputable def xS (f:Value) (args:Array Value):KO:=match f with
 | .func (.func g) first cap=>match P.funcs[g]? with
  | some fn=>bif decide (fn.name= "runtime.NumGoroutine")||fn.body.isNone then .no else .call g ((first.toList++args.toList)++cap.toList).toArray
  | none=>.no
 | _=>.no
noncomputable def biK (b:Builtin) (ts:Array TypeId) (args:List Value) (h:KH):KO:=match b,args with
 | .len,[x]=>match ts.toList with
  | t::_=>x4 P t x h
  | _=>.no
 | .append,[s,x]=>match ts.toList with
  | [t,t2]=>match P.underlying t2 with
   | some (.slice _)=>Um P t s x h
   | _=>.no
  | _=>.no
 | .copy,[d,x]=>match ts.toList with
  | t::_=>UU P t d x h
  | _=>.no
 | .min,[x,y]=>zd false x y h
 | .max,[x,y]=>zd true x y h
 | _,_=>.no
noncomputable def DP (c a b:Value) (h:KH):KO:=match c with
 | .bool c=>.ok (Bool.rec (motive:=fun _=>Value) b a c) h
 | _=>.no
noncomputable def Ea (x:Value) (h:KH):KO:=match x with
 | .pointer (some a)=>.ok x h
 | .func (.func _) _ _=>.ok x h
 | _=>.no
noncomputable def dS (op:BinOp) (t:TypeId) (x y:Value) (h:KH):KO:=match kO P op t x y with
 | some v=>.ok v h
 | none=>.no
noncomputable def qL (ev:Operand->Value) (l:List Operand):List Value:=List.rec (motive:=fun _=>List Value) [] (fun x _ r=>ev x::r) l
noncomputable def Jy (ev:Operand->Value) (c:Call) (h:KH):KO:=match c.callee with
 | .value f=>xS P (ev f) (qL ev c.args.toList).toArray
 | .builtin b=>biK P b c.argTypes (qL ev c.args.toList) h
 | _=>.no
noncomputable def parts (ev:Operand->Value) (l:List (Nat × Operand)):List (Nat × Value):=List.rec (motive:=fun _=>List (Nat × Value)) [] (fun x _ r=>(x.1,ev x.2)::r) l
noncomputable def abW (t:TypeId) (h:KH):KO:=match fx P t with
 | some z=>D9 z t false ptrTo h
 | none=>.no
noncomputable def Ca (x:Value) (i:Nat) (h:KH):KO:=match x with
 | .tuple vs=>match rF vs.toList i with
  | some v=>.ok v h
  | none=>.no
 | _=>.no
noncomputable def NM (ev:Operand->Value) (op:Op) (h:KH):KO:=match op with
 | .move x=>.ok (ev x) h
 | .assign x=>.ok (ev x) h
 | .pick c a b=>DP (ev c) (ev a) (ev b) h
 | .alloc t=>abW P t h
 | .box t x=>D9 (ev x).cells.toList t false ptrTo h
 | .build t ps=>iA P t (parts ev ps.toList) h
 | .buildSlice t n ps=>ZT P t n (parts ev ps.toList) h
 | .load t a=>UR P t (ev a) h
 | .store t a x=>Uw P t (ev a) (ev x) h
 | .nilCheck x=>Ea (ev x) h
 | .binOp op t x y _=>dS P op t (ev x) (ev y) h
 | .unOp op _ x=>Ew op (ev x) h
 | .convert s d x=>acI P s d (ev x) h
 | .makeFunc f first cap=>.ok (.func f (qL ev first.toList).toArray (qL ev cap.toList).toArray) h
 | .makeSlice t l c=>ZX P t (ev l) (ev c) h
 | .slice t x lo hi mx=>pk P t (ev x) (lo.map ev) (hi.map ev) (mx.map ev) h
 | .fieldAddr s x f=>BX P s (ev x) f h
 | .field t x f=>Cg P t (ev x) f h
 | .indexAddr t x i=>BY P t (ev x) (ev i) h
 | .index t x i=>Ch P t (ev x) (ev i) h
 | .extract t i=>Ca (ev t) i h
 | .call c=>Jy P ev c h
 | _=>.no
abbrev Lg:=List (Nat × Array Value × Value)
inductive CR where
 | no (why:Nat)
 | G1 (tm:Tr Value) (h:KH) (g:Lg)
 | ret (tm:Tr Value) (h:KH) (g:Lg)
 | ext (id:Nat) (tm:Tr Value) (h:KH) (g:Lg)
structure Ov where
 fn:Nat
 arg:Nat
 val:Nat
 may:Nat
 nt:FuncId->Array Value->KH->Option (Value × KH)
def LV (n:Nat) (ops:Array Oper):Bool:=ops.toList.all fun o=>o.op.operands.all uQ&&(match o.dst with
 | some d=>Nat.blt d n
 | none=>true)
def sN (ops:Array Oper) (k:Nat):List Nat:=
 match ops[k]? with
 | some o=>(o.after.toList.filter fun e=>Region.binds .any e).map (·.on)
 | none=>[]
def ze (ops:Array Oper):Nat->List Nat
 | 0=>[]
 | n+1=>ze ops n++[(sN ops n).foldl (fun s e=>s ||| (2 ^ e ||| (ze ops n).getD e 0)) 0]
def abX (ops:Array Oper) (m:List Nat) (i k:Nat):Bool:=
 (m.getD k 0).testBit i||match ops[i]?,ops[k]? with
  | some x,some y=>x.apart ops y
  | _,_=>true
def PF (ops:Array Oper):Bool:=
 (List.range ops.size).all fun k=>(sN ops k).all (fun e=>decide (e < k))&&(List.range k).all fun i=>abX ops (ze ops ops.size) i k
noncomputable def J6 (l:List Value):Value:=match l with
 | [v]=>v
 | l=>.tuple l.toArray
structure FW where
 f:Option (Option Nat)
 w:Nat
 a:Nat
 b:Nat
end
structure Loc where
 bj:Nat
 base:Nat
 room:Nat
 /-- It aoT in:it is read alone,and others may lie Gh it adA are read alone. -/
 ro:Bool:=false
abbrev cg:=Nat->Option Loc
structure cO where
 cells:List Value
 elem:TypeId
 iD:Bool
 /-- It aoT in:it is read alone. -/
 ro:Bool:=false
inductive VR (σ:cg):Value->Value->Prop
 | same {v:Value}:flat v=true->VR σ v v
 | ptr {b o:Nat} {l:Loc}:σ b=some l->VR σ (.pointer (some ⟨b,o,none⟩)) (.pointer (some ⟨l.bj,l.base+o,none⟩))
 | slice {b o n c:Nat} {l:Loc}:σ b=some l->VR σ (.slice (some ⟨b,o,none⟩) n c) (.slice (some ⟨l.bj,l.base+o,none⟩) n (c+l.room))
 | zQ {b o s n k c:Nat} {a:Addr}:VR σ (.slice (some ⟨b,o,some s⟩) n k) (.slice (some a) n c)
 | func {fn:Fn} {f f' c c':Array Value}:f.size=f'.size->c.size=c'.size->(∀i,i < f.size->VR σ (f.getD i undef) (f'.getD i undef))->
   (∀i,i < c.size->VR σ (c.getD i undef) (c'.getD i undef))->VR σ (.func fn f c) (.func fn f' c')
 | agg {a a':Array Value}:a.size=a'.size->(∀i,i < a.size->VR σ (a.getD i undef) (a'.getD i undef))->VR σ (.agg a) (.agg a')
 | tuple {a a':Array Value}:a.size=a'.size->(∀i,i < a.size->VR σ (a.getD i undef) (a'.getD i undef))->VR σ (.tuple a) (.tuple a')
theorem VR.mono {σ σ':cg} {v v':Value} (h:VR σ v v') (hs:∀b l,σ b=some l->σ' b=some l):VR σ' v v':=by
 induction h with
 | same h=>exact .same h
 | ptr h=>exact .ptr (hs _ _ h)
 | slice h=>exact .slice (hs _ _ h)
 | zQ=>exact .zQ
 | func h1 h2 _ _ ih1 ih2=>exact .func h1 h2 ih1 ih2
 | agg h _ ih=>exact .agg h ih
 | tuple h _ ih=>exact .tuple h ih
theorem VR.undef (σ:cg):VR σ undef undef:=.tuple rfl (fun i h=>absurd h (by simp))
def uj (σ:cg) (a a':Array Value):Prop:=a.size=a'.size/\∀i,i < a.size->VR σ (a.getD i undef) (a'.getD i undef)
theorem ZY {a:Array Value} {i:Nat} (h:¬i < a.size):a.getD i undef=undef:=by simp [Array.getD,h]
theorem uj.at {σ:cg} {a a':Array Value} (h:uj σ a a') (i:Nat):VR σ (a.getD i undef) (a'.getD i undef):=by
 by_cases hi:i < a.size
 ·exact h.2 i hi
 ·rw [ZY hi,ZY (by rw [<-h.1];exact hi)];exact .undef σ
theorem uj.mono {σ σ':cg} {a a':Array Value} (h:uj σ a a') (hs:∀b l,σ b=some l->σ' b=some l):uj σ' a a':=
 ⟨h.1,fun i hi=>(h.2 i hi).mono hs⟩
structure BR (P:Program) (σ:cg) (B:cO) (l:Loc) (w:World):Prop where
 fM:∃(cs:Array Value) (e:TypeId) (fr:Nat × Nat),w.heap[l.bj]?=some (.cells cs e fr)/\l.base+B.cells.length<=cs.size/\
  (∀i,i < B.cells.length->VR σ (B.cells.getD i undef) (cs.getD (l.base+i) undef))/\
  (l.ro=false->e=B.elem/\fr=(0,0)/\cs.size=l.base+B.cells.length+l.room * P.cellsOf B.elem)
 room:B.iD=false->l.room=0
 own:B.ro=false->l.ro=false
theorem BR.cs {P:Program} {σ:cg} {B:cO} {l:Loc} {w:World} (h:BR P σ B l w) (ho:B.ro=false):∃cs:Array Value,w.heap[l.bj]?=some (.cells cs B.elem (0,0))/\cs.size=l.base+B.cells.length+l.room * P.cellsOf B.elem/\
  ∀i,i < B.cells.length->VR σ (B.cells.getD i undef) (cs.getD (l.base+i) undef):=by
 obtain ⟨cs,e,fr,h1,h2,h3,h4⟩:=h.fM
 obtain ⟨rfl,rfl,h5⟩:=h4 (h.own ho)
 exact ⟨cs,h1,h5,h3⟩
theorem BR.mk' {P:Program} {σ:cg} {B:cO} {l:Loc} {w:World} (h:∃cs:Array Value,w.heap[l.bj]?=some (.cells cs B.elem (0,0))/\cs.size=l.base+B.cells.length+l.room * P.cellsOf B.elem/\
  ∀i,i < B.cells.length->VR σ (B.cells.getD i undef) (cs.getD (l.base+i) undef)) (hr:B.iD=false->l.room=0) (ho:B.ro=false->l.ro=false):BR P σ B l w:=by
 obtain ⟨cs,h1,h2,h3⟩:=h
 exact ⟨⟨cs,_,_,h1,by omega,h3,fun _=>⟨rfl,rfl,h2⟩⟩,hr,ho⟩
theorem BR.lt {P:Program} {σ:cg} {B:cO} {l:Loc} {w:World} (h:BR P σ B l w):l.bj < w.heap.size:=by
 obtain ⟨cs,e,fr,h,_⟩:=h.fM
 exact (Array.getElem?_eq_some_iff.1 h).1
theorem BR.move {P:Program} {σ σ':cg} {B:cO} {l:Loc} {w w':World} (h:BR P σ B l w) (hs:∀b l,σ b=some l->σ' b=some l)
  (hw:w'.heap[l.bj]?=w.heap[l.bj]?):BR P σ' B l w':=by
 obtain ⟨cs,e,fr,h1,h2,h3,h4⟩:=h.fM
 exact ⟨⟨cs,e,fr,hw▸h1,h2,fun i hi=>(h3 i hi).mono hs,h4⟩,h.room,h.own⟩
structure Rel (P:Program) (σ:cg) (F:Nat->Prop) (g:Nat->Option cO) (w:World):Prop where
 bj:∀b l B,F b->σ b=some l->g b=some B->BR P σ B l w
 inj:∀b b' l l',F b->F b'->σ b=some l->σ b'=some l'->(g b).isSome=true->(g b').isSome=true->l.ro=false->l'.ro=false->l.bj=l'.bj->b=b'
 sep:∀b b' l l',F b->σ b=some l->σ b'=some l'->(g b).isSome=true->l.ro=false->l'.ro=true->l.bj≠l'.bj
 au:∀b l,σ b=some l->l.ro=true->l.bj < w.heap.size
theorem Rel.sub {P:Program} {σ:cg} {F F':Nat->Prop} {g:Nat->Option cO} {w:World} (h:Rel P σ F g w) (hF:∀b,F' b->F b):Rel P σ F' g w:=
 ⟨fun b l B hb=>h.bj b l B (hF b hb),fun b b' l l' hb dX=>h.inj b b' l l' (hF b hb) (hF b' dX),fun b b' l l' hb=>h.sep b b' l l' (hF b hb),h.au⟩
theorem Rel.adB {P:Program} {σ:cg} {F:Nat->Prop} {g g':Nat->Option cO} {w:World} (h:Rel P σ F g w) (hg:∀b,F b->∀l,σ b=some l->(g' b).isSome=true->g' b=g b):Rel P σ F g' w:=
 ⟨fun b l B hb hs hB=>h.bj b l B hb hs (by rw [<-hg b hb l hs (by rw [hB];rfl)];exact hB),fun b b' l l' hb dX hs dz hi dU=>h.inj b b' l l' hb dX hs dz ((hg b hb l hs hi)▸hi) ((hg b' dX l' dz dU)▸dU),
  fun b b' l l' hb hs dz hi=>h.sep b b' l l' hb hs dz ((hg b hb l hs hi)▸hi),h.au⟩
def Bh (σ:cg) (F:Nat->Prop) (g:Nat->Option cO) (k:Nat):Prop:=∃b l,F b/\σ b=some l/\(g b).isSome=true/\l.ro=false/\l.bj=k
structure ad where
 next:Nat
 get:Nat->Option cO
 /-- avW adA a call aA0 leave as aA1 are (told beside;GZ model aym nothing of it). -/
 fz:Nat->Bool:=fun _=>false
def ad.wf (H:ad):Prop:=∀b,H.next<=b->H.get b=none
def fresh (H H':ad) (b:Nat):Prop:=H.next<=b/\b < H'.next
structure jE (F:Nat->Prop) (H H':ad):Prop where
 next:H.next<=H'.next
 wf:H'.wf
 same:∀b,b < H.next->¬F b->H'.get b=H.get b
def sX (σ:cg) (H H':ad):Prop:=∀b,fresh H H' b->σ b=none
structure kU (P:Program) (F:Nat->Prop) (σ:cg) (H:ad) (w:World) (σ':cg) (H':ad) (w':World):Prop where
 rel:Rel P σ' (fun b=>F b∨fresh H H' b) H'.get w'
 ext:∀b,¬fresh H H' b->σ' b=σ b
 size:w.heap.size<=w'.heap.size
 ae:∀k,k < w.heap.size->¬Bh σ F H.get k->w'.heap[k]?=w.heap[k]?
 qg:∀k,k < w.heap.size->Bh σ' (fun b=>F b∨fresh H H' b) H'.get k->Bh σ F H.get k
 vG:∀b l,fresh H H' b->σ' b=some l->l.ro=false
 rest:w'.os=w.os/\w'.tape=w.tape/\w'.output=w.output
theorem kU.up {P:Program} {F:Nat->Prop} {σ:cg} {H:ad} {w:World} {σ':cg} {H':ad} {w':World} (h:kU P F σ H w σ' H' w')
  (hf:sX σ H H'):∀b l,σ b=some l->σ' b=some l:=fun b l hb=>by
 by_cases hx:fresh H H' b
 ·rw [hf b hx] at hb;cases hb
 ·rw [h.ext b hx];exact hb
def eg:Nat->Prop:=fun _=>True
theorem IZ (H:ad) (b:Nat):¬fresh H H b:=fun x=>by have:=x.1;have:=x.2;omega
theorem kU.refl {P:Program} {F:Nat->Prop} {σ:cg} {H:ad} {w w':World} (h:Rel P σ F H.get w) (hw:w'.heap=w.heap) (Mn:w'.os=w.os/\w'.tape=w.tape/\w'.output=w.output:=by exact ⟨rfl,rfl,rfl⟩):kU P F σ H w σ H w' where
 rel:=⟨fun b l B hb hs hg=>(h.bj b l B (hb.resolve_right (IZ H b)) hs hg).move (fun _ _ h=>h) (by rw [hw]),
  fun b b' l l' hb dX=>h.inj b b' l l' (hb.resolve_right (IZ H b)) (dX.resolve_right (IZ H b')),fun b b' l l' hb=>h.sep b b' l l' (hb.resolve_right (IZ H b)),fun b l hs ho=>by rw [hw];exact h.au b l hs ho⟩
 ext:=fun _ _=>rfl
 size:=by rw [hw];exact Nat.le_refl _
 ae:=fun k _ _=>by rw [hw]
 qg:=fun k _ ⟨b,l,hb,h1⟩=>⟨b,l,hb.resolve_right (IZ H b),h1⟩
 vG:=fun b l hb=>absurd hb (IZ H b)
 rest:=Mn
theorem kU.trans {P:Program} {σ σ1 σ2:cg} {H H1 H2:ad} {w w1 w2:World} (n1:H.next<=H1.next) (n2:H1.next<=H2.next)
  (p:kU P eg σ H w σ1 H1 w1) (q:kU P eg σ1 H1 w1 σ2 H2 w2):kU P eg σ H w σ2 H2 w2 where
 rel:=q.rel.sub fun b _=>.inl trivial
 ext:=fun b hb=>by
  rw [q.ext b (fun x=>hb ⟨Nat.le_trans n1 x.1,x.2⟩),p.ext b (fun x=>hb ⟨x.1,Nat.lt_of_lt_of_le x.2 n2⟩)]
 size:=Nat.le_trans p.size q.size
 ae:=fun k hk hi=>by
  rw [q.ae k (Nat.lt_of_lt_of_le hk p.size) (fun ⟨b,l,_,hx⟩=>hi (p.qg k hk ⟨b,l,.inl trivial,hx⟩)),p.ae k hk hi]
 qg:=fun k hk ⟨b,l,hb,hx⟩=>by
  obtain ⟨b1,l1,_,hZ⟩:=q.qg k (Nat.lt_of_lt_of_le hk p.size) ⟨b,l,.inl trivial,hx⟩
  exact p.qg k hk ⟨b1,l1,.inl trivial,hZ⟩
 vG:=fun b l hb hs=>by
  by_cases h2:fresh H1 H2 b
  ·exact q.vG b l h2 hs
  ·rw [q.ext b h2] at hs
   refine p.vG b l ⟨hb.1,?_⟩ hs
   rcases Nat.lt_or_ge b H1.next with h | h
   ·exact h
   ·exact absurd ⟨h,hb.2⟩ h2
 rest:=⟨q.rest.1.trans p.rest.1,q.rest.2.1.trans p.rest.2.1,q.rest.2.2.trans p.rest.2.2⟩
theorem sX.left {σ:cg} {H H1 H2:ad} (h:sX σ H H2) (n2:H1.next<=H2.next):sX σ H H1:=
 fun b hb=>h b ⟨hb.1,Nat.lt_of_lt_of_le hb.2 n2⟩
theorem sX.right {P:Program} {F:Nat->Prop} {σ σ1:cg} {H H1 H2:ad} {w w1:World} (h:sX σ H H2) (n1:H.next<=H1.next)
  (p:kU P F σ H w σ1 H1 w1):sX σ1 H1 H2:=fun b hb=>by
 rw [p.ext b (fun x=>by have:=x.2;have:=hb.1;omega)]
 exact h b ⟨Nat.le_trans n1 hb.1,hb.2⟩
def wW (P:Program) (F:Nat->Prop) (o:Oper) (t:Act) (H:ad) (v:Value) (H':ad):Prop:=
 ∀(σ:cg) (w:World) (a:Act) (K:Act->World->Prop) (Q:Exit->Act->World->Prop),Rel P σ F H.get w->sX σ H H'->
  (∀x∈o.op.operands,VR σ (t.eval x) (a.eval x))->
  (∀σ' v' w',kU P F σ H w σ' H' w'->VR σ' v v'->K (a.put o.dst v') w')->o.wp P a w K Q
theorem wW.wide {P:Program} {F F':Nat->Prop} {o:Oper} {t:Act} {H:ad} {v:Value} {H':ad} (hw:H.wf) (hs:jE F H H')
  (hF:∀b,F b->F' b) (h:wW P F o t H v H'):wW P F' o t H v H':=by
 intro σ w a K Q hr hf hx hk
 refine h σ w a K Q (hr.sub hF) hf hx ?_
 intro σ' v' w' hp hv
 have zR:=hp.up hf
 have au:∀b,F' b->¬F b->¬fresh H H' b->(H'.get b).isSome=true->H'.get b=H.get b:=fun b _ hn jF hi=>by
  by_cases bf:b < H.next
  ·exact hs.same b bf hn
  ·exfalso
   have:¬b < H'.next:=fun hb=>jF ⟨by omega,hb⟩
   rw [hs.wf b (by omega)] at hi;cases hi
 have apart:∀b l,F' b->¬F b->¬fresh H H' b->σ' b=some l->(H'.get b).isSome=true->l.bj < w.heap.size/\¬Bh σ F H.get l.bj:=fun b l h1 h2 h3 h4 h5=>by
  have hg:=au b h1 h2 h3 h5
  rw [hp.ext b h3] at h4
  obtain ⟨B,hB⟩:=Option.isSome_iff_exists.1 (hg▸h5)
  refine ⟨(hr.bj b l B h1 h4 hB).lt,fun ⟨b0,l0,uk,nu,j9,NN,he⟩=>h2 ?_⟩
  cases zT:l.ro
  ·rw [<-hr.inj b0 b l0 l (hF _ uk) h1 nu h4 j9 (by rw [hB];rfl) NN zT he];exact uk
  ·exact absurd he (hr.sep b0 b l0 l (hF _ uk) nu h4 j9 NN zT)
 refine hk σ' v' w' ⟨⟨?_,?_,?_,hp.rel.au⟩,hp.ext,hp.size,fun k hk hi=>hp.ae k hk (fun ⟨b,l,hb,hx⟩=>hi ⟨b,l,hF b hb,hx⟩),?_,hp.vG,hp.rest⟩ hv
 ·intro b l B hb rO hg
  by_cases h1:F b∨fresh H H' b
  ·exact hp.rel.bj b l B h1 rO hg
  ·have h2:¬F b:=fun h=>h1 (.inl h)
   have h3:¬fresh H H' b:=fun h=>h1 (.inr h)
   have dX:F' b:=hb.resolve_right h3
   obtain ⟨bf,mJ⟩:=apart b l dX h2 h3 rO (by rw [hg];rfl)
   have bw:=au b dX h2 h3 (by rw [hg];rfl)
   exact (hr.bj b l B dX (by rw [<-hp.ext b h3];exact rO) (by rw [<-bw];exact hg)).move zR (hp.ae _ bf mJ)
 ·intro b b' l l' hb dX rO Eb hi dU ho fO he
  by_cases h1:F b∨fresh H H' b <;> by_cases iJ:F b'∨fresh H H' b'
  ·exact hp.rel.inj b b' l l' h1 iJ rO Eb hi dU ho fO he
  ·have h3:¬fresh H H' b':=fun h=>iJ (.inr h)
   obtain ⟨bf,mJ⟩:=apart b' l' (dX.resolve_right h3) (fun h=>iJ (.inl h)) h3 Eb dU
   exact absurd (hp.qg l'.bj bf ⟨b,l,h1,rO,hi,ho,he⟩) mJ
  ·have h3:¬fresh H H' b:=fun h=>h1 (.inr h)
   obtain ⟨bf,mJ⟩:=apart b l (hb.resolve_right h3) (fun h=>h1 (.inl h)) h3 rO hi
   exact absurd (hp.qg l.bj bf ⟨b',l',iJ,Eb,dU,fO,he.symm⟩) mJ
  ·have h3:¬fresh H H' b:=fun h=>h1 (.inr h)
   have G2:¬fresh H H' b':=fun h=>iJ (.inr h)
   have hg:=au b (hb.resolve_right h3) (fun h=>h1 (.inl h)) h3 hi
   have fY:=au b' (dX.resolve_right G2) (fun h=>iJ (.inl h)) G2 dU
   exact hr.inj b b' l l' (hb.resolve_right h3) (dX.resolve_right G2) (by rw [<-hp.ext b h3];exact rO) (by rw [<-hp.ext b' G2];exact Eb) (hg▸hi) (fY▸dU) ho fO he
 ·intro b b' l l' hb rO Eb hi ho fO
  by_cases h1:F b∨fresh H H' b
  ·exact hp.rel.sep b b' l l' h1 rO Eb hi ho fO
  ·have h3:¬fresh H H' b:=fun h=>h1 (.inr h)
   have G2:¬fresh H H' b':=fun h=>by have:=hp.vG b' l' h Eb;rw [fO] at this;cases this
   have hg:=au b (hb.resolve_right h3) (fun h=>h1 (.inl h)) h3 hi
   exact hr.sep b b' l l' (hb.resolve_right h3) (by rw [<-hp.ext b h3];exact rO) (by rw [<-hp.ext b' G2];exact Eb) (hg▸hi) ho fO
 ·rintro k hk ⟨b,l,hb,rO,hi,ho,he⟩
  by_cases h1:F b∨fresh H H' b
  ·obtain ⟨b0,l0,uk,hx⟩:=hp.qg k hk ⟨b,l,h1,rO,hi,ho,he⟩
   exact ⟨b0,l0,hF b0 uk,hx⟩
  ·have h3:¬fresh H H' b:=fun h=>h1 (.inr h)
   have dX:=hb.resolve_right h3
   exact ⟨b,l,dX,by rw [<-hp.ext b h3];exact rO,(au b dX (fun h=>h1 (.inl h)) h3 hi)▸hi,ho,he⟩
structure TR (σ:cg) (t a:Act):Prop where
 tm:uj σ t.tmps a.tmps
 dt:t.defers=[]
 da:a.defers=[]
theorem abd {σ:cg} {t a:Act} {x:Operand} (hx:uQ x=true) (h:∀d,x=.tmp d->VR σ (t.tmps.getD d undef) (a.tmps.getD d undef)):
  VR σ (t.eval x) (a.eval x):=by
 cases x with
 | tmp d=>exact h d rfl
 | const v=>exact .same hx
 | func f=>exact .func rfl rfl (fun i h=>absurd h (by simp)) (fun i h=>absurd h (by simp))
 | global g=>cases hx
theorem afk {σ:cg} {t a:Act} {ops:Array Oper} {j:Nat} (gX:t.tmps.size=a.tmps.size)
  (h:∀d,(ops[j]?).bind (·.dst)=some d->VR σ (t.tmps.getD d undef) (a.tmps.getD d undef)):
  yielded ops t.tmps j=yielded ops a.tmps j:=by
 unfold yielded
 cases hd:(ops[j]?).bind (·.dst) with
 | none=>rfl
 | some d=>
  have hv:=h d hd
  simp only [Option.bind_some]
  by_cases bf:d < t.tmps.size
  ·have dE:d < a.tmps.size:=gX▸bf
   simp only [Array.getD,bf,dE,dif_pos] at hv
   simp only [Array.getElem?_eq_getElem bf,Array.getElem?_eq_getElem dE]
   change VR σ t.tmps[d] a.tmps[d] at hv
   generalize t.tmps[d]=x at hv
   generalize a.tmps[d]=y at hv
   cases hv <;> rfl
  ·rw [Array.getElem?_eq_none (Nat.le_of_not_lt bf),Array.getElem?_eq_none (by rw [<-gX];exact Nat.le_of_not_lt bf)]
theorem LM (t:Act) (dst:Option Tmp) (v:Value) (d:Nat):(t.put dst v).tmps.getD d undef=if dst=some d/\d < t.tmps.size then v else t.tmps.getD d undef:=by
 cases dst with
 | none=>simp [Act.put]
 | some e=>
  by_cases h:e=d
  ·subst h
   by_cases bf:e < t.tmps.size
   ·simp [Act.put,Array.getD,bf]
   ·simp [Act.put,Array.getD,bf]
  ·have:¬(some e=some d/\d < t.tmps.size):=fun hh=>h (Option.some.inj hh.1)
   rw [if_neg this]
   by_cases bf:d < t.tmps.size
   ·simp [Act.put,Array.getD,bf,Array.getElem_setIfInBounds,h]
   ·simp [Act.put,Array.getD,bf]
theorem LO (t:Act) (dst:Option Tmp) (v:Value):(t.put dst v).tmps.size=t.tmps.size:=by cases dst <;> simp [Act.put]
theorem LC (t:Act) (dst:Option Tmp) (v:Value):(t.put dst v).defers=t.defers:=by cases dst <;> rfl
theorem TR.put {σ:cg} {t a:Act} (h:TR σ t a) {v v':Value} (hv:VR σ v v') (dst:Option Tmp):TR σ (t.put dst v) (a.put dst v'):=by
 refine ⟨⟨by rw [LO,LO];exact h.tm.1,fun i _=>?_⟩,by rw [LC];exact h.dt,by rw [LC];exact h.da⟩
 rw [LM,LM,<-h.tm.1]
 split
 ·exact hv
 ·exact h.tm.at i
theorem TR.mono {σ σ':cg} {t a:Act} (h:TR σ t a) (hs:∀b l,σ b=some l->σ' b=some l):TR σ' t a:=⟨h.tm.mono hs,h.dt,h.da⟩
theorem TR.ev {σ:cg} {t a:Act} (h:TR σ t a) {x:Operand} (hx:uQ x=true):VR σ (t.eval x) (a.eval x):=abd hx fun d _=>h.tm.at d
end Go.Proofs.YtebibeaobhcfkaaGreat.Ab
namespace Go.Proofs.YtebibeaobhcfkaaGreat.Ab
open Go Classical
inductive rT (ops:Array Oper) (i:Nat):Nat->Prop
 | one {k:Nat}:i∈sN ops k->rT ops i k
 | more {j k:Nat}:rT ops i j->j∈sN ops k->rT ops i k
theorem afM (f:Nat->Nat) (l:List Nat) (s i:Nat) (h:(l.foldl (fun s e=>s ||| f e) s).testBit i=true):s.testBit i=true∨∃e∈l,(f e).testBit i=true:=by
 induction l generalizing s with
 | nil=>exact .inl h
 | cons e l ih=>
  simp only [List.foldl_cons] at h
  rcases ih _ h with h | ⟨e',he,h⟩
  ·rw [Nat.testBit_or,Bool.or_eq_true] at h
   exact h.imp id fun h=>⟨e,by simp,h⟩
  ·exact .inr ⟨e',by simp [he],h⟩
theorem PG (ops:Array Oper) (n:Nat):(ze ops n).length=n:=by induction n <;> simp_all [ze]
theorem PH (ops:Array Oper):∀(n k i:Nat),((ze ops n).getD k 0).testBit i=true->rT ops i k
 | 0,k,i,h=>by simp [ze] at h
 | n+1,k,i,h=>by
  by_cases hk:k < n
  ·refine PH ops n k i ?_
   rw [ze,List.getD_eq_getElem?_getD,List.getElem?_append_left (by rw [PG];exact hk),<-List.getD_eq_getElem?_getD] at h
   exact h
  ·by_cases hk':k=n
   ·subst hk'
    rw [ze,List.getD_eq_getElem?_getD,List.getElem?_append_right (by rw [PG];exact Nat.le_refl _),PG] at h
    simp only [Nat.sub_self,List.getElem?_cons_zero,Option.getD_some] at h
    rcases afM _ _ _ _ h with h | ⟨e,he,h⟩
    ·simp at h
    ·rw [Nat.testBit_or,Bool.or_eq_true] at h
     rcases h with h | h
     ·rw [Nat.testBit_two_pow] at h
      exact .one (by rw [<-(of_decide_eq_true h:e=i)];exact he)
     ·exact .more (PH ops k e i h) he
   ·rw [ze,List.getD_eq_getElem?_getD,List.getElem?_eq_none (by rw [List.length_append,PG];simp;omega)] at h
    simp at h
structure FE (ops:Array Oper):Prop where
 lt:∀k e,k < ops.size->e∈sN ops k->e < k
 pair:∀i k x y,i < k->ops[i]?=some x->ops[k]?=some y->¬rT ops i k->x.apart ops y=true
theorem ae2 {ops:Array Oper} (h:PF ops=true):FE ops:=by
 unfold PF at h
 rw [List.all_eq_true] at h
 refine ⟨fun k e hk he=>?_,fun i k x y Kq hx hy hb=>?_⟩
 ·have:=h k (List.mem_range.2 hk)
  rw [Bool.and_eq_true,List.all_eq_true,List.all_eq_true] at this
  exact of_decide_eq_true (this.1 e he)
 ·have hk:k < ops.size:=(Array.getElem?_eq_some_iff.1 hy).1
  have:=h k (List.mem_range.2 hk)
  rw [Bool.and_eq_true,List.all_eq_true,List.all_eq_true] at this
  have:=this.2 i (List.mem_range.2 Kq)
  unfold abX at this
  rw [Bool.or_eq_true] at this
  rcases this with h1 | h1
  ·exact absurd (PH ops _ _ _ h1) hb
  ·rw [hx,hy] at h1;exact h1
def vh (P:Program) (ops:Array Oper) (F:Nat->Prop) (o:Oper) (t:Act) (H:ad) (v:Value) (H':ad):Prop:=
 if Region.wanted o (yielded ops t.tmps)=true then wW P F o t H v H' else v=undef/\H'=H
def W7 (P:Program) (o:Oper) (t:Act) (H:ad) (v:Value):Prop:=
 ∀(σ:cg) (w:World) (a:Act) (K:Act->World->Prop) (Q:Exit->Act->World->Prop),Rel P σ eg H.get w->
  (∀x∈o.op.operands,VR σ (t.eval x) (a.eval x))->(∀v',VR σ v v'->K (a.put o.dst v') w)->o.wp P a w K Q
abbrev nv:=Option (Nat × (Option cO->Option Value))
def Jz (P:Program) (ops:Array Oper) (ob:nv) (F:Nat->Prop) (o:Oper) (t:Act) (H:ad) (v:Value) (H':ad):Prop:=
 ∀b π,ob=some (b,π)->H'=H/\(∀x,¬F x)/\(Region.wanted o (yielded ops t.tmps)=true->∀H2:ad,π (H2.get b)=π (H.get b)->W7 P o t H2 v)/\(¬Region.wanted o (yielded ops t.tmps)=true->v=undef)
structure um (P:Program) (ops:Array Oper) where
 t:Nat->Act
 H:Nat->ad
 v:Nat->Value
 F:Nat->Nat->Prop
 wf:(H 0).wf
 oW:Nat->nv
 step:∀(i:Nat) (o:Oper),ops[i]?=some o->oW i=none->vh P ops (F i) o (t i) (H i) (v i) (H (i+1))
 put:∀(i:Nat) (o:Oper),ops[i]?=some o->t (i+1)=(t i).put o.dst (v i)
 om:∀i,i < ops.size->jE (F i) (H i) (H (i+1))
 iD:∀(i:Nat) (o:Oper),ops[i]?=some o->o.op.operands.all uQ=true
 lt:∀i b,i < ops.size->F i b->b < (H i).next
 J7:∀(i:Nat) (o:Oper),ops[i]?=some o->Jz P ops (oW i) (F i) o (t i) (H i) (v i) (H (i+1))
structure um.aoU {P:Program} {ops:Array Oper} (T:um P ops) (i k:Nat):Prop where
 c2:∀b,T.F k b->b < (T.H i).next->(T.H (i+1)).get b=(T.H i).get b
 c3:∀b,(T.F i b∨fresh (T.H i) (T.H (i+1)) b)->(T.H (k+1)).get b=(T.H k).get b
 c4:∀b π,T.oW k=some (b,π)->π ((T.H (i+1)).get b)=π ((T.H i).get b)
 c5:∀b π,T.oW i=some (b,π)->π ((T.H (k+1)).get b)=π ((T.H k).get b)
section
variable {P:Program} {ops:Array Oper} (T:um P ops)
def yY (ops:Array Oper) (i:Nat):Option Tmp:=(ops[i]?).bind (·.dst)
noncomputable def tv (L:Nat->Prop):Nat->Nat->Value
 | 0,d=>(T.t 0).tmps.getD d undef
 | m+1,d=>if L m/\yY ops m=some d/\d < (T.t 0).tmps.size then T.v m else tv L m d
noncomputable def hv (L:Nat->Prop):Nat->Nat->Option cO
 | 0,b=>(T.H 0).get b
 | m+1,b=>if L m/\(T.H (m+1)).get b≠(T.H m).get b then (T.H (m+1)).get b else hv L m b
theorem um.AL:∀{i k:Nat},i<=k->k<=ops.size->(T.H i).next<=(T.H k).next:=by
 intro i k h
 induction h with
 | refl=>exact fun _=>Nat.le_refl _
 | @step m hm ih=>
  intro hk
  have h1:=ih (Nat.le_of_succ_le hk)
  have h2:=(T.om m hk).next
  exact Nat.le_trans h1 h2
theorem um.wX (i:Nat) (hi:i<=ops.size):(T.H i).wf:=by
 cases i with
 | zero=>exact T.wf
 | succ i=>exact (T.om i (by omega)).wf
theorem um.size:∀(i:Nat),i<=ops.size->(T.t i).tmps.size=(T.t 0).tmps.size
 | 0,_=>rfl
 | i+1,h=>by
  have ho:ops[i]?=some ops[i]:=Array.getElem?_eq_getElem (by omega)
  rw [T.put i _ ho,LO];exact um.size i (by omega)
theorem um.adC:∀(i:Nat),i<=ops.size->(T.t i).defers=(T.t 0).defers
 | 0,_=>rfl
 | i+1,h=>by
  have ho:ops[i]?=some ops[i]:=Array.getElem?_eq_getElem (by omega)
  rw [T.put i _ ho,LC];exact um.adC i (by omega)
theorem um.abY {i:Nat} (hi:i < ops.size) (d:Nat):(T.t (i+1)).tmps.getD d undef=if yY ops i=some d/\d < (T.t 0).tmps.size then T.v i else (T.t i).tmps.getD d undef:=by
 have ho:ops[i]?=some ops[i]:=Array.getElem?_eq_getElem hi
 rw [T.put i _ ho,LM,T.size i (by omega)]
 simp only [yY,ho,Option.bind_some]
structure Down (ops:Array Oper) (L:Nat->Prop):Prop where
 lt:∀i,L i->i < ops.size
 Cx:∀k e,L k->e∈sN ops k->L e
theorem Down.Bi {L:Nat->Prop} (h:Down ops L) {i k:Nat} (hb:rT ops i k) (hk:∀e∈sN ops k,L e):L i:=by
 induction hb with
 | one he=>exact hk _ he
 | more _ he ih=>exact ih fun e G3=>h.Cx _ e (hk _ he) G3
variable {T}
theorem alY {L:Nat->Prop} (hd:Down ops L) (ok:FE ops) {k:Nat} {o:Oper} (ho:ops[k]?=some o) (hk:¬L k) (he:∀e∈sN ops k,L e)
  {d:Nat} (mK:d∈o.looksAt ops∨o.dst=some d) {n:Nat} (hn:k<=n) (yh:n<=ops.size):tv T L n d=(T.t k).tmps.getD d undef:=by
 have jG:k < ops.size:=(Array.getElem?_eq_some_iff.1 ho).1
 have low:∀m,m<=k->tv T L m d=(T.t m).tmps.getD d undef:=by
  intro m
  induction m with
  | zero=>exact fun _=>rfl
  | succ m ih=>
   intro hm
   have uo:m < ops.size:=by omega
   rw [T.abY uo,tv,ih (by omega)]
   by_cases zf:yY ops m=some d
   ·have Ex:ops[m]?=some ops[m]:=Array.getElem?_eq_getElem uo
    have Ey:L m:=by
     by_cases hb:rT ops m k
     ·exact hd.Bi hb he
     ·obtain ⟨h1,h2,h3⟩:=Oper.apart_spec (ok.pair m k _ _ (by omega) Ex ho hb)
      simp only [yY,Ex,Option.bind_some] at zf
      rcases mK with mK | mK
      ·exact absurd mK (h1 d zf)
      ·exact absurd mK (h2 d zf)
    simp [Ey]
   ·simp [zf]
 have high:∀m,k<=m->m<=n->tv T L m d=tv T L k d:=by
  intro m hm
  induction hm with
  | refl=>exact fun _=>rfl
  | @step m hm ih=>
   intro jX
   have zU:k<=m:=hm
   have jX:m+1<=n:=jX
   have uo:m < ops.size:=by omega
   rw [tv,ih (by omega)]
   by_cases hc:L m/\yY ops m=some d/\d < (T.t 0).tmps.size
   ·exfalso
    have dd:k≠m:=fun h=>hk (h▸hc.1)
    have Ex:ops[m]?=some ops[m]:=Array.getElem?_eq_getElem uo
    by_cases hb:rT ops k m
    ·exact hk (hd.Bi hb fun e he=>hd.Cx m e hc.1 he)
    ·obtain ⟨h1,h2,h3⟩:=Oper.apart_spec (ok.pair k m _ _ (by omega) ho Ex hb)
     have zf:=hc.2.1
     simp only [yY,Ex,Option.bind_some] at zf
     rcases mK with mK | mK
     ·exact h3 d zf mK
     ·exact h2 d mK zf
   ·rw [if_neg hc]
 rw [high n hn (Nat.le_refl _),low k (Nat.le_refl _)]
def DD (T:um P ops):Prop:=∀i k,i < k->k < ops.size->¬rT ops i k->T.aoU i k
theorem UW {L:Nat->Prop} (hd:Down ops L) (fr:DD T) {σ:cg} (hσ:∀i,i < ops.size->¬L i->∀b,fresh (T.H i) (T.H (i+1)) b->σ b=none)
  {k:Nat} (jG:k < ops.size) (hk:¬L k) (he:∀e∈sN ops k,L e) {b:Nat} {l:Loc} (hb:T.F k b) (bf:b < (T.H k).next) (hs:σ b=some l)
  {n:Nat} (hn:k<=n) (yh:n<=ops.size):hv T L n b=(T.H k).get b:=by
 have low:∀m,m<=k->hv T L m b=(T.H m).get b:=by
  intro m
  induction m with
  | zero=>exact fun _=>rfl
  | succ m ih=>
   intro hm
   rw [hv,ih (by omega)]
   by_cases hc:(T.H (m+1)).get b=(T.H m).get b
   ·simp [hc]
   ·by_cases hL:L m
    ·simp [hL,hc]
    ·exfalso
     have iu:¬rT ops m k:=fun h=>hL (hd.Bi h he)
     have bk:=fr m k (by omega) jG iu
     by_cases hlm:b < (T.H m).next
     ·exact hc (bk.c2 b hb hlm)
     ·have hx:fresh (T.H m) (T.H (m+1)) b:=⟨by omega,by
       rcases Nat.lt_or_ge b (T.H (m+1)).next with h | h
       ·exact h
       ·exact absurd (by rw [T.wX (m+1) (by omega) b h,T.wX m (by omega) b (by omega)]) hc⟩
      rw [hσ m (by omega) hL b hx] at hs;cases hs
 have high:∀m,k<=m->m<=n->hv T L m b=hv T L k b:=by
  intro m hm
  induction hm with
  | refl=>exact fun _=>rfl
  | @step m hm ih=>
   intro jX
   have zU:k<=m:=hm
   have jX:m+1<=n:=jX
   rw [hv,ih (by omega)]
   by_cases hc:L m/\(T.H (m+1)).get b≠(T.H m).get b
   ·exfalso
    have dd:k≠m:=fun h=>hk (h▸hc.1)
    have iu:¬rT ops k m:=fun hb=>hk (hd.Bi hb fun e he=>hd.Cx m e hc.1 he)
    exact hc.2 ((fr k m (by omega) (by omega) iu).c3 b (.inl hb))
   ·rw [if_neg hc]
 rw [high n hn (Nat.le_refl _),low k (Nat.le_refl _)]
theorem aix {L:Nat->Prop} (hd:Down ops L) (fr:DD T) {k:Nat} (jG:k < ops.size) (hk:¬L k) (he:∀e∈sN ops k,L e) {b:Nat} {π:Option cO->Option Value} (l5:T.oW k=some (b,π))
  {n:Nat} (hn:k<=n) (yh:n<=ops.size):π (hv T L n b)=π ((T.H k).get b):=by
 have low:∀m,m<=k->π (hv T L m b)=π ((T.H m).get b):=by
  intro m
  induction m with
  | zero=>exact fun _=>rfl
  | succ m ih=>
   intro hm
   rw [hv]
   by_cases hL:L m
   ·by_cases hc:(T.H (m+1)).get b=(T.H m).get b
    ·rw [if_neg (fun h=>h.2 hc),ih (by omega),hc]
    ·rw [if_pos ⟨hL,hc⟩]
   ·rw [if_neg (fun h=>hL h.1),ih (by omega)]
    have iu:¬rT ops m k:=fun h=>hL (hd.Bi h he)
    exact ((fr m k (by omega) jG iu).c4 b π l5).symm
 have unb:∀m,L m->¬rT ops k m:=fun m hL hb=>hk (hd.Bi hb fun e G3=>hd.Cx m e hL G3)
 have same:∀m,k<=m->m < ops.size->L m->(T.H (m+1)).get b≠(T.H m).get b->∀j,k<=j->j<=m->π ((T.H j).get b)=π ((T.H k).get b):=by
  intro m zU uo Ey l6 j RZ
  induction RZ with
  | refl=>exact fun _=>rfl
  | @step j hj ih=>
   intro hjm
   have RZ:k<=j:=hj
   have hjm:j+1<=m:=hjm
   rw [<-ih (by omega)]
   by_cases W8:L j
   ·have dd:k≠j:=fun h=>hk (h▸W8)
    exact (fr k j (by omega) (by omega) (unb j W8)).c5 b π l5
   ·have iu:¬rT ops j m:=fun hb=>W8 (hd.Bi hb fun e G3=>hd.Cx m e Ey G3)
    by_cases hF:T.F m b
    ·by_cases bf:b < (T.H j).next
     ·rw [(fr j m (by omega) uo iu).c2 b hF bf]
     ·by_cases hx:fresh (T.H j) (T.H (j+1)) b
      ·exact absurd ((fr j m (by omega) uo iu).c3 b (.inr hx)) l6
      ·have hV:(T.H (j+1)).next<=b:=by
        rcases Nat.lt_or_ge b (T.H (j+1)).next with h | h
        ·exact absurd ⟨by omega,h⟩ hx
        ·exact h
       rw [T.wX (j+1) (by omega) b hV,T.wX j (by omega) b (by omega)]
    ·by_cases bf:b < (T.H m).next
     ·exact absurd ((T.om m uo).same b bf hF) l6
     ·have h1:=T.AL (show j+1<=m by omega) (by omega)
      have h2:=T.AL (show j<=m by omega) (by omega)
      rw [T.wX (j+1) (by omega) b (by omega),T.wX j (by omega) b (by omega)]
 have high:∀m,k<=m->m<=n->π (hv T L m b)=π ((T.H k).get b):=by
  intro m hm
  induction hm with
  | refl=>exact fun _=>low k (Nat.le_refl _)
  | @step m hm ih=>
   intro jX
   have zU:k<=m:=hm
   have jX:m+1<=n:=jX
   rw [hv]
   by_cases hc:L m/\(T.H (m+1)).get b≠(T.H m).get b
   ·rw [if_pos hc]
    have dd:k≠m:=fun h=>hk (h▸hc.1)
    rw [(fr k m (by omega) (by omega) (unb m hc.1)).c5 b π l5]
    exact same m zU (by omega) hc.1 hc.2 m zU (Nat.le_refl _)
   ·rw [if_neg hc];exact ih (by omega)
 exact high n hn (Nat.le_refl _)
theorem agy {L:Nat->Prop} (hd:Down ops L) (fr:DD T) {k:Nat} (jG:k < ops.size) (hk:¬L k) {b:Nat} (hb:fresh (T.H k) (T.H (k+1)) b)
  {n:Nat} (hn:k<=n) (yh:n<=ops.size):hv T L n b=none:=by
 have low:∀m,m<=k->hv T L m b=none:=by
  intro m
  induction m with
  | zero=>exact fun _=>T.wf b (Nat.le_trans (T.AL (Nat.zero_le k) (by omega)) hb.1)
  | succ m ih=>
   intro hm
   rw [hv,ih (by omega),T.wX (m+1) (by omega) b (Nat.le_trans (T.AL hm (by omega)) hb.1)]
   simp
 have high:∀m,k<=m->m<=n->hv T L m b=hv T L k b:=by
  intro m hm
  induction hm with
  | refl=>exact fun _=>rfl
  | @step m hm ih=>
   intro jX
   have zU:k<=m:=hm
   have jX:m+1<=n:=jX
   rw [hv,ih (by omega)]
   by_cases hc:L m/\(T.H (m+1)).get b≠(T.H m).get b
   ·exfalso
    have dd:k≠m:=fun h=>hk (h▸hc.1)
    have iu:¬rT ops k m:=fun hb=>hk (hd.Bi hb fun e he=>hd.Cx m e hc.1 he)
    exact hc.2 ((fr k m (by omega) (by omega) iu).c3 b (.inr hb))
   ·rw [if_neg hc]
 rw [high n hn (Nat.le_refl _),low k (Nat.le_refl _)]
def nj (L:Nat->Prop) (k:Nat):Nat->Prop:=fun i=>L i∨i=k
theorem ahx {L:Nat->Prop} (hd:Down ops L) (ok:FE ops) {k:Nat} {o:Oper} (ho:ops[k]?=some o) (hk:¬L k) (he:∀e∈sN ops k,L e)
  (d:Nat) {n:Nat} (hn:k < n) (yh:n<=ops.size):tv T (nj L k) n d=if o.dst=some d/\d < (T.t 0).tmps.size then T.v k else tv T L n d:=by
 have low:∀m,m<=k->tv T (nj L k) m d=tv T L m d:=by
  intro m
  induction m with
  | zero=>exact fun _=>rfl
  | succ m ih=>
   intro hm
   rw [tv,tv,ih (by omega)]
   have:nj L k m↔L m:=⟨fun h=>h.resolve_right (by omega),.inl⟩
   simp only [this]
 have at_:tv T (nj L k) (k+1) d=if o.dst=some d/\d < (T.t 0).tmps.size then T.v k else tv T L k d:=by
  rw [tv,low k (Nat.le_refl _)]
  have h1:nj L k k:=.inr rfl
  have h2:yY ops k=o.dst:=by simp [yY,ho]
  simp only [h1,h2,true_and]
 have W9:tv T L (k+1) d=tv T L k d:=by rw [tv,if_neg (fun h=>hk h.1)]
 have high:∀m,k+1<=m->m<=n->tv T (nj L k) m d=if o.dst=some d/\d < (T.t 0).tmps.size then T.v k else tv T L m d:=by
  intro m hm
  induction hm with
  | refl=>exact fun _=>by rw [at_,W9]
  | @step m hm ih=>
   intro jX
   have jX:m+1<=n:=jX
   have zU:k < m:=hm
   have uo:m < ops.size:=by omega
   rw [tv,tv,ih (by omega)]
   have:nj L k m↔L m:=⟨fun h=>h.resolve_right (by omega),.inl⟩
   simp only [this]
   by_cases hc:L m/\yY ops m=some d/\d < (T.t 0).tmps.size
   ·rw [if_pos hc,if_pos hc,if_neg]
    rintro ⟨mK,_⟩
    have Ex:ops[m]?=some ops[m]:=Array.getElem?_eq_getElem uo
    have iu:¬rT ops k m:=fun hb=>hk (hd.Bi hb fun e he=>hd.Cx m e hc.1 he)
    obtain ⟨h1,h2,h3⟩:=Oper.apart_spec (ok.pair k m _ _ zU ho Ex iu)
    have zf:=hc.2.1
    simp only [yY,Ex,Option.bind_some] at zf
    exact h2 d mK zf
   ·rw [if_neg hc,if_neg hc]
 exact high n hn (Nat.le_refl _)
theorem ahy {L:Nat->Prop} (hd:Down ops L) (fr:DD T) {k:Nat} (jG:k < ops.size) (hk:¬L k) (b:Nat) {n:Nat} (hn:k < n) (yh:n<=ops.size):
  hv T (nj L k) n b=if (T.H (k+1)).get b≠(T.H k).get b then (T.H (k+1)).get b else hv T L n b:=by
 have low:∀m,m<=k->hv T (nj L k) m b=hv T L m b:=by
  intro m
  induction m with
  | zero=>exact fun _=>rfl
  | succ m ih=>
   intro hm
   rw [hv,hv,ih (by omega)]
   have:nj L k m↔L m:=⟨fun h=>h.resolve_right (by omega),.inl⟩
   simp only [this]
 have at_:hv T (nj L k) (k+1) b=if (T.H (k+1)).get b≠(T.H k).get b then (T.H (k+1)).get b else hv T L k b:=by
  rw [hv,low k (Nat.le_refl _)]
  have h1:nj L k k:=.inr rfl
  simp only [h1,true_and]
 have W9:hv T L (k+1) b=hv T L k b:=by rw [hv,if_neg (fun h=>hk h.1)]
 have high:∀m,k+1<=m->m<=n->hv T (nj L k) m b=if (T.H (k+1)).get b≠(T.H k).get b then (T.H (k+1)).get b else hv T L m b:=by
  intro m hm
  induction hm with
  | refl=>exact fun _=>by rw [at_,W9]
  | @step m hm ih=>
   intro jX
   have jX:m+1<=n:=jX
   have zU:k < m:=hm
   rw [hv,hv,ih (by omega)]
   have:nj L k m↔L m:=⟨fun h=>h.resolve_right (by omega),.inl⟩
   simp only [this]
   by_cases hc:L m/\(T.H (m+1)).get b≠(T.H m).get b
   ·rw [if_pos hc,if_pos hc,if_neg]
    intro l6
    have iu:¬rT ops k m:=fun hb=>hk (hd.Bi hb fun e he=>hd.Cx m e hc.1 he)
    refine hc.2 ((fr k m zU (by omega) iu).c3 b ?_)
    by_cases bf:b < (T.H k).next
    ·by_cases hF:T.F k b
     ·exact .inl hF
     ·exact absurd ((T.om k jG).same b bf hF) l6
    ·refine .inr ⟨by omega,?_⟩
     rcases Nat.lt_or_ge b (T.H (k+1)).next with h | h
     ·exact h
     ·exact absurd (by rw [T.wX (k+1) (by omega) b h,T.wX k (by omega) b (by omega)]) l6
   ·rw [if_neg hc,if_neg hc]
 exact high n hn (Nat.le_refl _)
structure Inv (T:um P ops) (σ₀:cg) (w₀:World) (L:Nat->Prop) (σ:cg) (a:Act) (w:World):Prop where
 down:Down ops L
 size:a.tmps.size=(T.t 0).tmps.size
 tm:∀d,VR σ (tv T L ops.size d) (a.tmps.getD d undef)
 NO:a.defers=[]
 fr:∀i,i < ops.size->¬L i->∀b,fresh (T.H i) (T.H (i+1)) b->σ b=none
 rel:Rel P σ eg (hv T L ops.size) w
 ext:∀b,¬fresh (T.H 0) (T.H ops.size) b->σ b=σ₀ b
 R3:w₀.heap.size<=w.heap.size
 ae:∀k,k < w₀.heap.size->¬Bh σ₀ eg (T.H 0).get k->w.heap[k]?=w₀.heap[k]?
 qg:∀k,k < w₀.heap.size->Bh σ eg (hv T L ops.size) k->Bh σ₀ eg (T.H 0).get k
 vG:∀b l,fresh (T.H 0) (T.H ops.size) b->σ b=some l->l.ro=false
 rest:w.os=w₀.os/\w.tape=w₀.tape/\w.output=w₀.output
theorem Inv.next {σ₀ σ σ':cg} {w₀ w w':World} {L:Nat->Prop} {a:Act} {v':Value} (ok:FE ops) (fr:DD T) (h:Inv T σ₀ w₀ L σ a w) {k:Nat} {o:Oper}
  (ho:ops[k]?=some o) (hk:¬L k) (he:∀e∈sN ops k,L e) (hp:kU P (T.F k) σ (T.H k) w σ' (T.H (k+1)) w') (Bj:VR σ' (T.v k) v'):
  Inv T σ₀ w₀ (nj L k) σ' (a.put o.dst v') w':=by
 have jG:k < ops.size:=(Array.getElem?_eq_some_iff.1 ho).1
 have aiy:sX σ (T.H k) (T.H (k+1)):=h.fr k jG hk
 have zR:=hp.up aiy
 have NP:∀b l,T.F k b->σ b=some l->((T.H k).get b).isSome=true->hv T L ops.size b=(T.H k).get b:=fun b l hF hs hi=>by
  refine UW h.down fr h.fr jG hk he hF ?_ hs (Nat.le_of_lt jG) (Nat.le_refl _)
  rcases Nat.lt_or_ge b (T.H k).next with h' | h'
  ·exact h'
  ·rw [T.wX k (Nat.le_of_lt jG) b h'] at hi;cases hi
 have adD:∀j,Bh σ (T.F k) (T.H k).get j->Bh σ eg (hv T L ops.size) j:=fun j ⟨b,l,hF,hs,hi,hj⟩=>⟨b,l,trivial,hs,(NP b l hF hs hi)▸hi,hj⟩
 have iT:∀b,hv T (nj L k) ops.size b=if (T.H (k+1)).get b≠(T.H k).get b then (T.H (k+1)).get b else hv T L ops.size b:=fun b=>ahy h.down fr jG hk b jG (Nat.le_refl _)
 -- inside:eK GZ operation aA3 or makes
 have fH:∀b l,(T.F k b∨fresh (T.H k) (T.H (k+1)) b)->σ' b=some l->(hv T (nj L k) ops.size b).isSome=true->hv T (nj L k) ops.size b=(T.H (k+1)).get b:=fun b l hx hs hi=>by
  rw [iT] at hi ⊢
  by_cases hc:(T.H (k+1)).get b≠(T.H k).get b
  ·rw [if_pos hc]
  ·rw [if_neg hc] at hi ⊢
   have yi:(T.H (k+1)).get b=(T.H k).get b:=Classical.not_not.1 hc
   by_cases vH:fresh (T.H k) (T.H (k+1)) b
   ·rw [agy h.down fr jG hk vH (Nat.le_of_lt jG) (Nat.le_refl _)] at hi;cases hi
   ·have hF:=hx.resolve_right vH
    rw [hp.ext b vH] at hs
    rw [yi]
    exact UW h.down fr h.fr jG hk he hF (T.lt k b jG hF) hs (Nat.le_of_lt jG) (Nat.le_refl _)
 have Gi:∀b l,¬(T.F k b∨fresh (T.H k) (T.H (k+1)) b)->σ' b=some l->(hv T (nj L k) ops.size b).isSome=true->
   hv T (nj L k) ops.size b=hv T L ops.size b/\σ b=some l/\l.bj < w.heap.size/\¬Bh σ (T.F k) (T.H k).get l.bj:=fun b l hx hs hi=>by
  have hF:¬T.F k b:=fun h=>hx (.inl h)
  have vH:¬fresh (T.H k) (T.H (k+1)) b:=fun h=>hx (.inr h)
  have hc:(T.H (k+1)).get b=(T.H k).get b:=by
   by_cases bf:b < (T.H k).next
   ·exact (T.om k jG).same b bf hF
   ·have:(T.H (k+1)).next<=b:=by
     rcases Nat.lt_or_ge b (T.H (k+1)).next with h2 | h2
     ·exact absurd ⟨by omega,h2⟩ vH
     ·exact h2
    rw [T.wX (k+1) (by omega) b this,T.wX k (by omega) b (by omega)]
  have he1:hv T (nj L k) ops.size b=hv T L ops.size b:=by rw [iT,if_neg (fun h=>h hc)]
  have dz:σ b=some l:=by rw [<-hp.ext b vH];exact hs
  rw [he1] at hi
  obtain ⟨B,hB⟩:=Option.isSome_iff_exists.1 hi
  refine ⟨he1,dz,(h.rel.bj b l B trivial dz hB).lt,fun ⟨b0,l0,uk,nu,j9,NN,heq⟩=>hF ?_⟩
  cases zT:l.ro
  ·have:=h.rel.inj b0 b l0 l trivial trivial nu dz ((NP b0 l0 uk nu j9)▸j9) hi NN zT heq
   exact this▸uk
  ·exact absurd heq (h.rel.sep b0 b l0 l trivial nu dz ((NP b0 l0 uk nu j9)▸j9) NN zT)
 refine ⟨⟨fun i hi=>?_,fun i e hi hx=>?_⟩,by rw [LO];exact h.size,fun d=>?_,by rw [LC];exact h.NO,fun i hi hL b hb=>?_,⟨?_,?_,?_,hp.rel.au⟩,fun b hb=>?_,Nat.le_trans h.R3 hp.size,fun j hj hn=>?_,?_,fun b l hb hs=>?_,⟨hp.rest.1.trans h.rest.1,hp.rest.2.1.trans h.rest.2.1,hp.rest.2.2.trans h.rest.2.2⟩⟩
 ·rcases hi with hi | rfl
  ·exact h.down.lt i hi
  ·exact jG
 ·rcases hi with hi | rfl
  ·exact .inl (h.down.Cx i e hi hx)
  ·exact .inl (he e hx)
 ·rw [ahx h.down ok ho hk he d jG (Nat.le_refl _),LM,h.size]
  split
  ·exact Bj
  ·exact (h.tm d).mono zR
 ·have dd:i≠k:=fun h2=>hL (.inr h2)
  rw [hp.ext b (fun hx=>?_)]
  ·exact h.fr i hi (fun h2=>hL (.inl h2)) b hb
  ·rcases Nat.lt_or_ge i k with h2 | h2
   ·have:=T.AL (i:=i+1) (k:=k) h2 (by omega)
    have:=hx.1;have:=hb.2;omega
   ·have:=T.AL (i:=k+1) (k:=i) (by omega) (by omega)
    have:=hx.2;have:=hb.1;omega
 ·intro b l B _ hs hg
  by_cases hx:T.F k b∨fresh (T.H k) (T.H (k+1)) b
  ·exact hp.rel.bj b l B hx hs (by rw [<-fH b l hx hs (by rw [hg];rfl)];exact hg)
  ·obtain ⟨h1,h2,h3,h4⟩:=Gi b l hx hs (by rw [hg];rfl)
   exact (h.rel.bj b l B trivial h2 (by rw [<-h1];exact hg)).move zR (hp.ae _ h3 h4)
 ·intro b b' l l' _ _ hs dz hi dU ho fO heq
  by_cases hx:T.F k b∨fresh (T.H k) (T.H (k+1)) b <;> by_cases il:T.F k b'∨fresh (T.H k) (T.H (k+1)) b'
  ·exact hp.rel.inj b b' l l' hx il hs dz ((fH b l hx hs hi)▸hi) ((fH b' l' il dz dU)▸dU) ho fO heq
  ·obtain ⟨h1,h2,h3,h4⟩:=Gi b' l' il dz dU
   exact absurd (hp.qg l'.bj h3 ⟨b,l,hx,hs,(fH b l hx hs hi)▸hi,ho,heq⟩) h4
  ·obtain ⟨h1,h2,h3,h4⟩:=Gi b l hx hs hi
   exact absurd (hp.qg l.bj h3 ⟨b',l',il,dz,(fH b' l' il dz dU)▸dU,fO,heq.symm⟩) h4
  ·obtain ⟨h1,h2,h3,h4⟩:=Gi b l hx hs hi
   obtain ⟨iJ,wY,G2,oq⟩:=Gi b' l' il dz dU
   exact h.rel.inj b b' l l' trivial trivial h2 wY (h1▸hi) (iJ▸dU) ho fO heq
 ·intro b b' l l' _ hs dz hi ho fO
  by_cases hx:T.F k b∨fresh (T.H k) (T.H (k+1)) b
  ·exact hp.rel.sep b b' l l' hx hs dz ((fH b l hx hs hi)▸hi) ho fO
  ·obtain ⟨h1,h2,h3,h4⟩:=Gi b l hx hs hi
   have NS:¬fresh (T.H k) (T.H (k+1)) b':=fun hf=>by have:=hp.vG b' l' hf dz;rw [fO] at this;cases this
   exact h.rel.sep b b' l l' trivial h2 (by rw [<-hp.ext b' NS];exact dz) (h1▸hi) ho fO
 ·rw [hp.ext b (fun hx=>hb ⟨Nat.le_trans (T.AL (Nat.zero_le k) (by omega)) hx.1,Nat.lt_of_lt_of_le hx.2 (T.AL (by omega) (Nat.le_refl _))⟩)]
  exact h.ext b hb
 ·rw [hp.ae j (Nat.lt_of_lt_of_le hj h.R3) (fun hi=>hn (h.qg j hj (adD j hi))),h.ae j hj hn]
 ·rintro j hj ⟨b,l,_,hs,hi,heq⟩
  by_cases hx:T.F k b∨fresh (T.H k) (T.H (k+1)) b
  ·exact h.qg j hj (adD j (hp.qg j (Nat.lt_of_lt_of_le hj h.R3) ⟨b,l,hx,hs,(fH b l hx hs hi)▸hi,heq⟩))
  ·obtain ⟨h1,h2,h3,h4⟩:=Gi b l hx hs hi
   exact h.qg j hj ⟨b,l,trivial,h2,h1▸hi,heq⟩
 ·by_cases hx:fresh (T.H k) (T.H (k+1)) b
  ·exact hp.vG b l hx hs
  ·rw [hp.ext b hx] at hs;exact h.vG b l hb hs
end
end Go.Proofs.YtebibeaobhcfkaaGreat.Ab
namespace Go.Proofs.YtebibeaobhcfkaaGreat.Ab
open Go Classical
section
variable {P:Program} {ops:Array Oper} {T:um P ops}
def mN (ic:Array Bool):Nat->Prop:=fun i=>ic.getD i false=true
theorem agz {ic:Array Bool} {k:Nat} (hk:k < ic.size):mN (ic.setIfInBounds k true)=nj (mN ic) k:=by
 funext i
 unfold mN nj
 by_cases h:k=i
 ·subst h;simp [Array.getD,hk]
 ·rw [getD_set_ne false h]
  simp only [eq_iff_iff]
  exact ⟨.inl,fun hx=>hx.resolve_right (fun e=>h e.symm)⟩
theorem abe {L:Nat->Prop} (h:∀i,¬L i):∀m d,tv T L m d=(T.t 0).tmps.getD d undef
 | 0,_=>rfl
 | m+1,d=>by rw [tv,if_neg (fun hx=>h m hx.1)];exact abe h m d
theorem abf {L:Nat->Prop} (h:∀i,¬L i):∀m b,hv T L m b=(T.H 0).get b
 | 0,_=>rfl
 | m+1,b=>by rw [hv,if_neg (fun hx=>h m hx.1)];exact abf h m b
theorem abZ {L:Nat->Prop} (h:∀i,i < ops.size->L i):∀m d,m<=ops.size->tv T L m d=(T.t m).tmps.getD d undef
 | 0,_,_=>rfl
 | m+1,d,hm=>by
  rw [tv,T.abY (by omega),abZ h m d (by omega)]
  have:=h m (by omega)
  simp [this]
theorem ab0 {L:Nat->Prop} (h:∀i,i < ops.size->L i):∀m b,m<=ops.size->hv T L m b=(T.H m).get b
 | 0,_,_=>rfl
 | m+1,b,hm=>by
  rw [hv,ab0 h m b (by omega)]
  have:=h m (by omega)
  by_cases hc:(T.H (m+1)).get b=(T.H m).get b
  ·simp [hc]
  ·simp [this,hc]
theorem count_set {l:List Bool} {i:Nat} (h:l[i]?=some false):(l.set i true).count false+1=l.count false:=by
 induction l generalizing i with
 | nil=>simp at h
 | cons x l ih=>
  cases i with
  | zero=>simp at h;subst h;simp
  | succ i=>
   simp only [List.getElem?_cons_succ] at h
   have:=ih h
   simp only [List.set_cons_succ,List.count_cons]
   omega
theorem afl {ic:Array Bool} (ok:FE ops) (gX:ic.size=ops.size) (h:Region.ready .any ops ic=[]):∀i,i < ops.size->mN ic i:=by
 intro i
 induction i using Nat.strongRecOn with
 | _ i ih=>
  intro hi
  by_cases hl:mN ic i
  ·exact hl
  ·exfalso
   have ho:ops[i]?=some ops[i]:=Array.getElem?_eq_getElem hi
   have:i∈Region.ready .any ops ic:=by
    rw [mem_ready]
    refine ⟨?_,ops[i],ho,fun e he hb=>?_⟩
    ·have bf:i < ic.size:=by omega
     simp only [mN,Array.getD,bf,dif_pos] at hl
     simp only [Array.getD,bf,dif_pos]
     cases hx:ic.getInternal i bf
     ·rfl
     ·exact absurd hx hl
    ·have py:e.on∈sN ops i:=by
      simp only [sN,ho]
      exact List.mem_map.2 ⟨e,List.mem_filter.2 ⟨Array.mem_toList_iff.2 he,hb⟩,rfl⟩
     have bf:=ok.lt i e.on hi py
     exact ih e.on bf (by omega)
   rw [h] at this;cases this
theorem aaf {σ:cg} {t a:Act} {o:Oper} (gX:t.tmps.size=a.tmps.size)
  (h:∀d,d∈o.looksAt ops->VR σ (t.tmps.getD d undef) (a.tmps.getD d undef)):
  Region.wanted o (yielded ops t.tmps)=Region.wanted o (yielded ops a.tmps):=by
 unfold Region.wanted
 cases hg:o.guard with
 | none=>rfl
 | some gw=>
  obtain ⟨g,want⟩:=gw
  have:yielded ops t.tmps g=yielded ops a.tmps g:=afk gX fun d hd=>h d (by
   unfold Oper.looksAt
   rw [hg]
   exact List.mem_append_right _ (by simp [hd]))
  simp only [this]
theorem afm (ok:FE ops) (fr:DD T) {σ₀:cg} {w₀:World} {Q:Exit->Act->World->Prop}
  (hQ:∀σ a w,Inv T σ₀ w₀ (fun i=>i < ops.size) σ a w->Q .normal a w):
  ∀(fuel:Nat) (ic:Array Bool) (σ:cg) (a:Act) (w:World),ic.size=ops.size->ic.toList.count false<=fuel->
   Inv T σ₀ w₀ (mN ic) σ a w->wpAny P .any ops Q fuel ic a w:=by
 have fin:∀(ic:Array Bool) (σ:cg) (a:Act) (w:World),(∀i,i < ops.size->mN ic i)->Inv T σ₀ w₀ (mN ic) σ a w->Q .normal a w:=by
  intro ic σ a w fG hI
  have:mN ic=fun i=>i < ops.size:=funext fun i=>propext ⟨fun h=>hI.down.lt i h,fun h=>fG i h⟩
  rw [this] at hI
  exact hQ σ a w hI
 intro fuel
 induction fuel with
 | zero=>
  intro ic σ a w gX hc hI
  have fG:∀i,i < ops.size->mN ic i:=by
   intro i hi
   have bf:i < ic.size:=by omega
   have ke:ic.toList.count false=0:=by omega
   rw [List.count_eq_zero] at ke
   unfold mN
   simp only [Array.getD,bf,dif_pos]
   cases hx:ic.getInternal i bf
   ·exact absurd (by rw [<-hx];exact Array.mem_toList_iff.2 (Array.getElem_mem bf)) ke
   ·rfl
  refine ⟨?_,fin ic σ a w fG hI⟩
  rw [List.eq_nil_iff_forall_not_mem]
  intro i hi
  obtain ⟨h0,o,ho,_⟩:=mem_ready.1 hi
  have dU:i < ops.size:=(Array.getElem?_eq_some_iff.1 ho).1
  have h1:=fG i dU
  have bf:i < ic.size:=by omega
  unfold mN at h1
  simp only [Array.getD,bf,dif_pos] at h0 h1
  rw [h0] at h1;cases h1
 | succ fuel ih=>
  intro ic σ a w gX hc hI
  refine ⟨fun hr=>fin ic σ a w (afl ok gX hr) hI,fun k hk=>?_⟩
  obtain ⟨h0,o,ho,fG⟩:=mem_ready.1 hk
  have jG:k < ops.size:=(Array.getElem?_eq_some_iff.1 ho).1
  have bf:k < ic.size:=by omega
  have NT:¬mN ic k:=by
   unfold mN
   simp only [Array.getD,bf,dif_pos] at h0 ⊢
   rw [h0];simp
  have he:∀e∈sN ops k,mN ic e:=by
   intro e he
   simp only [sN,ho,List.mem_map,List.mem_filter] at he
   obtain ⟨e',⟨h1,h2⟩,rfl⟩:=he
   exact fG e' (Array.mem_toList_iff.1 h1) h2
  have aiz:(ic.setIfInBounds k true).toList.count false<=fuel:=by
   have hx:ic.toList[k]?=some false:=by
    simp only [Array.getD,bf,dif_pos] at h0
    rw [Array.getElem?_toList,Array.getElem?_eq_getElem bf]
    exact congrArg some h0
   have:=count_set hx
   rw [Array.toList_setIfInBounds]
   omega
  have acJ:∀d,d∈o.looksAt ops->VR σ ((T.t k).tmps.getD d undef) (a.tmps.getD d undef):=fun d hd=>by
   rw [<-alY hI.down ok ho NT he (.inl hd) (Nat.le_of_lt jG) (Nat.le_refl _)]
   exact hI.tm d
  have aoV:(T.t k).tmps.size=a.tmps.size:=by rw [T.size k (Nat.le_of_lt jG),hI.size]
  have alZ:=aaf (o:=o) aoV acJ
  have cont:∀σ' v' w',kU P (T.F k) σ (T.H k) w σ' (T.H (k+1)) w'->VR σ' (T.v k) v'->wpAny P .any ops Q fuel (ic.setIfInBounds k true) (a.put o.dst v') w':=by
   intro σ' v' w' hp hv
   refine ih _ σ' _ w' (by simp [gX]) aiz ?_
   rw [agz bf]
   exact hI.next ok fr ho NT he hp hv
  have NP:∀b l,T.F k b->σ b=some l->((T.H k).get b).isSome=true->hv T (mN ic) ops.size b=(T.H k).get b:=fun b l hF hs hi=>by
   refine UW hI.down fr hI.fr jG NT he hF ?_ hs (Nat.le_of_lt jG) (Nat.le_refl _)
   rcases Nat.lt_or_ge b (T.H k).next with h' | h'
   ·exact h'
   ·rw [T.wX k (Nat.le_of_lt jG) b h'] at hi;cases hi
  have Q1:Rel P σ (T.F k) (T.H k).get w:=(hI.rel.sub fun _ _=>trivial).adB fun b hF l hs hi=>(NP b l hF hs hi).symm
  have x5:∀x∈o.op.operands,VR σ ((T.t k).eval x) (a.eval x):=fun x hx=>by
   have iv:=Array.all_eq_true_iff_forall_mem.1 (T.iD k o ho) x hx
   exact abd iv fun d hd=>acJ d (by
    subst hd
    exact List.mem_append_left _ (List.mem_filterMap.2 ⟨.tmp d,by simpa using hx,rfl⟩))
  unfold wpOp
  rw [ho]
  simp only []
  rw [<-alZ]
  cases l5:T.oW k with
  | none=>
   have dB:=T.step k o ho l5
   unfold vh at dB
   by_cases hw:Region.wanted o (yielded ops (T.t k).tmps)=true
   ·rw [if_pos hw] at dB ⊢
    exact .inl (dB σ w a _ Q Q1 (hI.fr k jG NT) x5 cont)
   ·rw [if_neg hw] at dB ⊢
    refine cont σ undef w ?_ (dB.1▸VR.undef σ)
    rw [dB.2]
    exact kU.refl Q1 rfl
  | some bp=>
   obtain ⟨b,π⟩:=bp
   obtain ⟨hH,hF,hq,hu⟩:=T.J7 k o ho b π l5
   have NU:=aix hI.down fr jG NT he l5 (Nat.le_of_lt jG) (Nat.le_refl _)
   by_cases hw:Region.wanted o (yielded ops (T.t k).tmps)=true
   ·rw [if_pos hw]
    refine .inl (hq hw ⟨(T.H ops.size).next,hv T (mN ic) ops.size,fun _=>false⟩ NU σ w a _ Q hI.rel x5 fun v' Bj=>cont σ v' w ?_ Bj)
    rw [hH]
    exact kU.refl ⟨fun b l B NV=>absurd NV (hF b),fun b b' l l' NV=>absurd NV (hF b),fun b b' l l' NV=>absurd NV (hF b),Q1.au⟩ rfl
   ·rw [if_neg hw]
    refine cont σ undef w ?_ (hu hw▸VR.undef σ)
    rw [hH]
    exact kU.refl Q1 rfl
def aoW (P:Program) (t:Act) (H:ad) (t':Act) (H':ad) (run:(Exit->Act->World->Prop)->Act->World->Prop):Prop:=
 ∀(σ:cg) (w:World) (a:Act) (Q:Exit->Act->World->Prop),Rel P σ eg H.get w->sX σ H H'->TR σ t a->
  (∀σ' a' w',kU P eg σ H w σ' H' w'->TR σ' t' a'->Q .normal a' w')->run Q a w
theorem ae5 (T:um P ops) (hm:P.follows .mixedOrders=true) (ok:FE ops) (fr:DD T) (id:Nat):
  aoW P (T.t 0) (T.H 0) (T.t ops.size) (T.H ops.size) fun Q a w=>(Code.region id ops true).wp P Q a w:=by
 intro σ w a Q hr hf ht hq
 have al0:=fun k (hk:k<=ops.size)=>T.AL (Nat.zero_le k) hk
 refine wp_region_any hm (afm (T:=T) ok fr (σ₀:=σ) (w₀:={w with drawn:=w.drawn+1}) ?_ ops.size _ σ a _ (by simp) ?_ ?_)
 ·intro σ' a' w' hI
  have h1:∀b,hv T (fun i=>i < ops.size) ops.size b=(T.H ops.size).get b:=fun b=>ab0 (fun i hi=>hi) _ b (Nat.le_refl _)
  refine hq σ' a' w' ⟨(hI.rel.sub fun _ _=>trivial).adB fun b _ l _ _=>(h1 b).symm,
   hI.ext,hI.R3,fun k hk hn=>hI.ae k hk hn,fun k hk ⟨b,l,_,hs,hi,he⟩=>hI.qg k hk ⟨b,l,trivial,hs,by rw [h1];exact hi,he⟩,hI.vG,hI.rest⟩ ⟨⟨?_,fun d _=>?_⟩,?_,hI.NO⟩
  ·rw [T.size _ (Nat.le_refl _),hI.size]
  ·rw [<-abZ (T:=T) (L:=fun i=>i < ops.size) (fun i hi=>hi) _ d (Nat.le_refl _)];exact hI.tm d
  ·rw [T.adC _ (Nat.le_refl _)];exact ht.dt
 ·rw [Array.toList_replicate,List.count_replicate_self];exact Nat.le_refl _
 ·have mU:∀i,¬mN (Array.replicate ops.size false) i:=fun i h=>by
   unfold mN at h
   by_cases hi:i < ops.size <;> simp [Array.getD,hi] at h
  have h1:∀b,hv T (mN (Array.replicate ops.size false)) ops.size b=(T.H 0).get b:=fun b=>abf mU _ b
  refine ⟨⟨fun i h=>absurd h (mU i),fun k e h=>absurd h (mU k)⟩,ht.tm.1.symm,fun d=>?_,ht.da,fun i hi _ b hb=>hf b ⟨Nat.le_trans (al0 i (by omega)) hb.1,Nat.lt_of_lt_of_le hb.2 (T.AL (by omega) (Nat.le_refl _))⟩,⟨?_,?_,?_,hr.au⟩,fun _ _=>rfl,Nat.le_refl _,fun _ _ _=>rfl,?_,fun b l hb hs=>(by rw [hf b hb] at hs;cases hs),⟨rfl,rfl,rfl⟩⟩
  ·rw [abe mU];exact ht.tm.at d
  ·intro b l B _ hs hg
   rw [h1] at hg
   exact (hr.bj b l B trivial hs hg).move (fun _ _ h=>h) rfl
  ·intro b b' l l' _ _ hs dz hi dU
   rw [h1] at hi dU
   exact hr.inj b b' l l' trivial trivial hs dz hi dU
  ·intro b b' l l' _ hs dz hi
   rw [h1] at hi
   exact hr.sep b b' l l' trivial hs dz hi
  ·rintro k hk ⟨b,l,_,hs,hi,he⟩
   rw [h1] at hi
   exact ⟨b,l,trivial,hs,hi,he⟩
end
end Go.Proofs.YtebibeaobhcfkaaGreat.Ab
namespace Go.Proofs.YtebibeaobhcfkaaGreat.Ab
open Go Classical
section
variable {P:Program}
def CT (P:Program) (run:(Exit->Act->World->Prop)->Act->World->Prop) (t:Act) (H:ad) (e:Exit) (t':Act) (H':ad):Prop:=
 ∀(σ:cg) (w:World) (a:Act) (Q:Exit->Act->World->Prop),Rel P σ eg H.get w->sX σ H H'->TR σ t a->
  (∀σ' a' w',kU P eg σ H w σ' H' w'->TR σ' t' a'->Q e a' w')->run Q a w
def Reach (P:Program) (run:(Exit->Act->World->Prop)->Act->World->Prop) (t:Act) (H:ad) (Ψ:Exit->Act->ad->Prop):Prop:=
 ∃e t' H',jE eg H H'/\CT P run t H e t' H'/\Ψ e t' H'
abbrev RC (P:Program) (c:Code):=Reach P fun Q a w=>c.wp P Q a w
def Qm (P:Program) (c:Code) (Q:Exit->Act->World->Prop) (a:Act) (w:World):Prop:=
 ∀(b:Frame) (k:List Item) (cs:List Frame),∃e a' w',Q e a' w'/\Arrives P (lone (b.at a (.code c::.inLoop c::k)) cs w) b k cs e a' w'
theorem afn {c:Code} {Q:Exit->Act->World->Prop} {a:Act} {w:World} (h:Qm P c Q a w):(Code.loop c).wp P Q a w:=
 fun b k cs=>let ⟨e,a',w',hq,ud⟩:=h b k cs;⟨e,a',w',hq,.of_steps (.one step_loop) ud⟩
theorem ae8 {c:Code} {Q:Exit->Act->World->Prop} {a:Act} {w:World} (h:c.wp P (Exit.then (Qm P c Q) Q) a w):Qm P c Q a w:=by
 intro b k cs
 obtain ⟨e,a₁,w₁,hq,ud⟩:=h b (.inLoop c::k) cs
 cases e with
 | normal=>
  obtain ⟨e₂,a₂,w₂,hq₂,al1⟩:=hq b k cs
  exact ⟨e₂,a₂,w₂,hq₂,.of_steps (Steps.trans ud (.one step_inLoop)) al1⟩
 | exit id=>exact ⟨_,a₁,w₁,hq,.pass (x:=.inLoop c) rfl (fun _ _=>.inl (by simp)) ud⟩
 | goto l=>exact ⟨_,a₁,w₁,hq,.pass (x:=.inLoop c) rfl (fun _ _=>.inl (by simp)) ud⟩
 | ret=>exact ⟨_,a₁,w₁,hq,.pass (x:=.inLoop c) rfl (fun _ _=>.inl (by simp)) ud⟩
 | panic ch=>exact ⟨_,a₁,w₁,hq,.pass (x:=.inLoop c) rfl (fun _ _=>.inl (by simp)) ud⟩
 | outgrown=>exact ⟨_,a₁,w₁,hq,.pass (x:=.inLoop c) rfl (fun _ _=>.inl (by simp)) ud⟩
abbrev RL (P:Program) (c:Code):=Reach P (Qm P c)
theorem jE.refl {F:Nat->Prop} {H:ad} (h:H.wf):jE F H H:=⟨Nat.le_refl _,h,fun _ _ _=>rfl⟩
theorem jE.trans {H H1 H2:ad} (h:jE eg H H1) (h':jE eg H1 H2):jE eg H H2:=⟨Nat.le_trans h.next h'.next,h'.wf,fun _ _ hn=>absurd trivial hn⟩
theorem jE.all {F:Nat->Prop} {H H':ad} (h:jE F H H'):jE eg H H':=⟨h.next,h.wf,fun _ _ hn=>absurd trivial hn⟩
theorem Reach.mono {run:(Exit->Act->World->Prop)->Act->World->Prop} {t:Act} {H:ad} {Ψ Ψ':Exit->Act->ad->Prop}
  (h:Reach P run t H Ψ) (hm:∀e t' H',jE eg H H'->Ψ e t' H'->Ψ' e t' H'):Reach P run t H Ψ':=by
 obtain ⟨e,t',H',h1,h2,h3⟩:=h
 exact ⟨e,t',H',h1,h2,hm _ _ _ h1 h3⟩
theorem Reach.now {run:(Exit->Act->World->Prop)->Act->World->Prop} {t:Act} {H:ad} {e:Exit} {Ψ:Exit->Act->ad->Prop} (hw:H.wf)
  (hr:∀Q a w,Q e a w->run Q a w) (h:Ψ e t H):Reach P run t H Ψ:=
 ⟨e,t,H,.refl hw,fun σ w a Q iU hf ht hq=>hr Q a w (hq σ a w (.refl iU rfl) ht),h⟩
theorem abg {t:Act} {H:ad} {Ψ:Exit->Act->ad->Prop} (hw:H.wf) (h:Ψ .normal t H):RC P .skip t H Ψ:=.now hw (fun _ _ _=>wp_skip) h
theorem aaw {l:Nat} {t:Act} {H:ad} {Ψ:Exit->Act->ad->Prop} (hw:H.wf) (h:Ψ .normal t H):RC P (.label l) t H Ψ:=.now hw (fun _ _ _=>wp_label) h
theorem abh {id:Nat} {t:Act} {H:ad} {Ψ:Exit->Act->ad->Prop} (hw:H.wf) (h:Ψ (.exit id) t H):RC P (.exit id) t H Ψ:=.now hw (fun _ _ _=>wp_exit) h
theorem ab1 {t:Act} {H:ad} {Ψ:Exit->Act->ad->Prop} (hw:H.wf) (h:Ψ .ret t H):RC P .ret t H Ψ:=.now hw (fun _ _ _=>wp_ret) h
theorem Reach.andThen {run adE adF:(Exit->Act->World->Prop)->Act->World->Prop} {t:Act} {H:ad} {Ψ:Exit->Act->ad->Prop}
  (eY:∀Q a w,adE (Exit.then (adF Q) Q) a w->run Q a w)
  (h:Reach P adE t H (fun e t' H'=>match e with | .normal=>Reach P adF t' H' Ψ | e=>Ψ e t' H')):Reach P run t H Ψ:=by
 obtain ⟨e,t1,H1,s1,c1,h1⟩:=h
 by_cases he:e=.normal
 ·subst he
  obtain ⟨e2,t2,H2,s2,c2,h2⟩:=h1
  refine ⟨e2,t2,H2,s1.trans s2,fun σ w a Q hr hf ht hq=>eY Q a w (c1 σ w a _ hr (hf.left s2.next) ht ?_),h2⟩
  intro σ1 a1 w1 p1 Xa
  refine c2 σ1 w1 a1 Q (p1.rel.sub fun _ _=>.inl trivial) (hf.right s1.next p1) Xa ?_
  intro σ2 a2 w2 p2 Xb
  exact hq σ2 a2 w2 (p1.trans s1.next s2.next p2) Xb
 ·have iJ:Ψ e t1 H1:=by cases e <;> first | exact absurd rfl he | exact h1
  refine ⟨e,t1,H1,s1,fun σ w a Q hr hf ht hq=>eY Q a w (c1 σ w a _ hr hf ht ?_),iJ⟩
  intro σ1 a1 w1 p1 Xa
  have:=hq σ1 a1 w1 p1 Xa
  cases e <;> first | exact absurd rfl he | exact this
theorem Ux {x y:Code} {t:Act} {H:ad} {Ψ:Exit->Act->ad->Prop}
  (h:RC P x t H (fun e t' H'=>match e with | .normal=>RC P y t' H' Ψ | e=>Ψ e t' H')):RC P (.seq x y) t H Ψ:=
 .andThen (fun _ _ _ h=>wp_seq h) h
theorem abi {c:Code} {t:Act} {H:ad} {Ψ:Exit->Act->ad->Prop}
  (h:RC P c t H (fun e t' H'=>match e with | .normal=>RL P c t' H' Ψ | e=>Ψ e t' H')):RL P c t H Ψ:=
 .andThen (fun _ _ _ h=>ae8 h) h
theorem abj {c:Code} {t:Act} {H:ad} {Ψ:Exit->Act->ad->Prop} (h:RL P c t H Ψ):RC P (.loop c) t H Ψ:=by
 obtain ⟨e,t1,H1,s1,c1,h1⟩:=h
 exact ⟨e,t1,H1,s1,fun σ w a Q hr hf ht hq=>afn (c1 σ w a Q hr hf ht hq),h1⟩
theorem aax {id:Nat} {c:Code} {t:Act} {H:ad} {Ψ:Exit->Act->ad->Prop}
  (h:RC P c t H (fun e t' H'=>match e with | .exit i=>if i=id then Ψ .normal t' H' else Ψ (.exit i) t' H' | e=>Ψ e t' H')):RC P (.block id c) t H Ψ:=by
 obtain ⟨e,t1,H1,s1,c1,h1⟩:=h
 by_cases he:e=.exit id
 ·subst he
  simp only [if_true] at h1
  exact ⟨.normal,t1,H1,s1,fun σ w a Q hr hf ht hq=>wp_block (c1 σ w a _ hr hf ht fun σ' a' w' p NW=>by
   simp only [Exit.inBlock,if_true];exact hq σ' a' w' p NW),h1⟩
 ·have iJ:Ψ e t1 H1:=by
   cases e with
   | exit i=>
    have dd:i≠id:=fun h=>he (h▸rfl)
    simp only [dd,if_false] at h1;exact h1
   | _=>exact h1
  refine ⟨e,t1,H1,s1,fun σ w a Q hr hf ht hq=>wp_block (c1 σ w a _ hr hf ht fun σ' a' w' p NW=>?_),iJ⟩
  have:=hq σ' a' w' p NW
  cases e with
  | exit i=>
   have dd:i≠id:=fun h=>he (h▸rfl)
   simp only [Exit.inBlock,dd,if_false];exact this
  | _=>exact this
theorem VR.bool {σ:cg} {b:Bool} {v:Value} (h:VR σ (.bool b) v):v=.bool b:=by cases h;rfl
theorem VR.int {σ:cg} {k:IntKind} {n:Int} {v:Value} (h:VR σ (.int k n) v):v=.int k n:=by cases h;rfl
theorem VR.string {σ:cg} {s:ByteArray} {v:Value} (h:VR σ (.string s) v):v=.string s:=by cases h;rfl
theorem abk {c:Operand} {x y:Code} {t:Act} {H:ad} {b:Bool} {Ψ:Exit->Act->ad->Prop} (hc:t.eval c=.bool b)
  (ho:uQ c=true) (h:RC P (if b then x else y) t H Ψ):RC P (.cond c x y) t H Ψ:=by
 obtain ⟨e,t1,H1,s1,c1,h1⟩:=h
 refine ⟨e,t1,H1,s1,fun σ w a Q hr hf ht hq=>wp_cond (t:=b) ?_ (c1 σ w a Q hr hf ht hq),h1⟩
 have:=ht.ev ho
 rw [hc] at this
 exact this.bool
abbrev RO (P:Program) (ops:Array Oper) (l:List Nat):=Reach P fun Q a w=>wpOps P ops Q l a w
theorem aiA {ops:Array Oper} {t:Act} {H:ad} {Ψ:Exit->Act->ad->Prop} (hw:H.wf) (h:Ψ .normal t H):RO P ops [] t H Ψ:=
 .now hw (fun _ _ _ h=>h) h
theorem afN {id:Nat} {ops:Array Oper} {t:Act} {H:ad} {Ψ:Exit->Act->ad->Prop} (h:RO P ops (List.range ops.size) t H Ψ):
  RC P (.region id ops false) t H Ψ:=by
 obtain ⟨e,t1,H1,s1,c1,h1⟩:=h
 exact ⟨e,t1,H1,s1,fun σ w a Q hr hf ht hq=>wp_region (c1 σ w a Q hr hf ht hq),h1⟩
theorem afO {σ:cg} {t a:Act} {o:Oper} {ops:Array Oper} (h:TR σ t a):Region.wanted o (yielded ops t.tmps)=Region.wanted o (yielded ops a.tmps):=
 aaf h.tm.1 fun d _=>h.tm.at d
theorem abl {ops:Array Oper} {i:Nat} {o:Oper} {rest:List Nat} {t:Act} {H:ad} {v:Value} {H':ad} {Ψ:Exit->Act->ad->Prop}
  (ho:ops[i]?=some o) (hs:jE eg H H') (iv:o.op.operands.all uQ=true) (h:vh P ops eg o t H v H') (hn:RO P ops rest (t.put o.dst v) H' Ψ):
  RO P ops (i::rest) t H Ψ:=by
 obtain ⟨e,t1,H1,s1,c1,h1⟩:=hn
 refine ⟨e,t1,H1,hs.trans s1,fun σ w a Q hr hf ht hq=>?_,h1⟩
 simp only [wpOps,ho]
 have hw:=afO (o:=o) (ops:=ops) ht
 rw [<-hw]
 unfold vh at h
 have cont:∀σ' v' w',kU P eg σ H w σ' H' w'->VR σ' v v'->wpOps P ops Q rest (a.put o.dst v') w':=fun σ' v' w' p hv=>
  c1 σ' w' _ Q (p.rel.sub fun _ _=>.inl trivial) (hf.right hs.next p) ((ht.mono (p.up (hf.left s1.next))).put hv _)
   (fun σ2 a2 w2 p2 Xb=>hq σ2 a2 w2 (p.trans hs.next s1.next p2) Xb)
 by_cases G4:Region.wanted o (yielded ops t.tmps)=true
 ·rw [if_pos G4] at h ⊢
  refine .inl (h σ w a _ Q hr (hf.left s1.next) (fun x hx=>ht.ev (Array.all_eq_true_iff_forall_mem.1 iv x hx)) cont)
 ·rw [if_neg G4] at h ⊢
  refine cont σ undef w ?_ (h.1▸VR.undef σ)
  rw [h.2]
  exact kU.refl hr rfl
def Xc (P:Program) (f:FuncId) (args:Array Value) (H:ad) (v:Value) (H':ad):Prop:=
 ∀(σ:cg) (w:World) (DR:Array Value),Rel P σ eg H.get w->sX σ H H'->uj σ args DR->
  Calls P f DR w fun e w'=>∃σ' v',e=.returned v'/\kU P eg σ H w σ' H' w'/\VR σ' v v'
def Xd (P:Program) (f:FuncId) (args:Array Value) (H:ad) (Φ:Value->ad->Prop):Prop:=
 ∃v H',jE eg H H'/\Xc P f args H v H'/\Φ v H'
def adG (P:Program) (fn:Func) (t:Act) (H:ad) (v:Value):Prop:=
 ∀σ w a,Rel P σ eg H.get w->TR σ t a->∃v',(results fn a.tmps).run P w=.ok v' w/\VR σ v v'
def start (fn:Func) (args:Array Value):Act:={tmps:=args++Array.replicate (fn.ntmps - args.size) undef,defers:=[]}
theorem acK {f:FuncId} {fn:Func} {c:Code} {args:Array Value} {H:ad} {Φ:Value->ad->Prop} (hf:P.funcs[f]?=some fn) (hb:fn.body=some c)
  (h:RC P c (start fn args) H fun e t' H'=>(e=.normal∨e=.ret)/\∃v,adG P fn t' H' v/\Φ v H'):Xd P f args H Φ:=by
 obtain ⟨e,t1,H1,s1,c1,he,v,hv,hΦ⟩:=h
 refine ⟨v,H1,s1,fun σ w DR hr bk ha=>calls_of_wp hf hb (c1 σ w _ _ hr bk ⟨⟨?_,fun i _=>?_⟩,rfl,rfl⟩ ?_),hΦ⟩
 ·simp [start,ha.1]
 ·have key:∀(x:Array Value) (n:Nat),(x++Array.replicate n undef).getD i undef=x.getD i undef:=by
   intro x n
   by_cases hi:i < x.size
   ·simp [Array.getD,hi,Array.getElem_append,Nat.lt_add_right n hi]
   ·by_cases gY:i < x.size+n
    ·simp [Array.getD,hi,gY,Array.getElem_append]
    ·simp [Array.getD,hi,gY]
  simp only [start]
  rw [key,key]
  exact ha.at i
 ·intro σ' a' w' p ht
  obtain ⟨v',nC,jm⟩:=hv σ' w' a' (p.rel.sub fun _ _=>.inl trivial) ht
  have:bodyPost P fn (fun e w'=>∃σ' v',e=.returned v'/\kU P eg σ H w σ' H1 w'/\VR σ' v v') .normal a' w':=⟨ht.da,v',nC,σ',v',rfl,p,jm⟩
  rcases he with rfl | rfl <;> exact this
end
end Go.Proofs.YtebibeaobhcfkaaGreat.Ab
namespace Go.Proofs.YtebibeaobhcfkaaGreat.Ab
open Go Classical
section
variable {P:Program}
theorem VR.I0 {σ:cg} {b o:Nat} {v:Value} (h:VR σ (.pointer (some ⟨b,o,none⟩)) v):∃l,σ b=some l/\v=.pointer (some ⟨l.bj,l.base+o,none⟩):=by
 cases h with
 | same h=>cases h
 | ptr h=>exact ⟨_,h,rfl⟩
theorem VR.AG {σ:cg} {b o n c:Nat} {v:Value} (h:VR σ (.slice (some ⟨b,o,none⟩) n c) v):∃l,σ b=some l/\v=.slice (some ⟨l.bj,l.base+o,none⟩) n (c+l.room):=by
 cases h with
 | same h=>cases h
 | slice h=>exact ⟨_,h,rfl⟩
theorem VR.TW {σ:cg} {n c:Nat} {v:Value} (h:VR σ (.slice none n c) v):v=.slice none n c:=by cases h;rfl
theorem VR.P6 {σ:cg} {a:Array Value} {v:Value} (h:VR σ (.agg a) v):∃a',v=.agg a'/\uj σ a a':=by
 cases h with
 | same h=>cases h
 | agg h1 h2=>exact ⟨_,rfl,h1,h2⟩
theorem VR.afP {σ:cg} {a:Array Value} {v:Value} (h:VR σ (.tuple a) v):∃a',v=.tuple a'/\uj σ a a':=by
 cases h with
 | same h=>cases h
 | tuple h1 h2=>exact ⟨_,rfl,h1,h2⟩
theorem VR.aay {σ:cg} {fn:Fn} {f c:Array Value} {v:Value} (h:VR σ (.func fn f c) v):∃f' c',v=.func fn f' c'/\uj σ f f'/\uj σ c c':=by
 cases h with
 | same h=>cases h
 | func h1 h2 h3 h4=>exact ⟨_,_,rfl,⟨h1,h3⟩,h2,h4⟩
def VL (σ:cg) (a a':List Value):Prop:=a.length=a'.length/\∀i,i < a.length->VR σ (a.getD i undef) (a'.getD i undef)
theorem uj.Ez {σ:cg} {a a':Array Value} (h:uj σ a a'):VL σ a.toList a'.toList:=by
 refine ⟨by simpa using h.1,fun i hi=>?_⟩
 have:=h.at i
 simpa [Array.getD_eq_getD_getElem?,List.getD_eq_getElem?_getD] using this
theorem VL.yj {σ:cg} {a a':List Value} (h:VL σ a a'):uj σ a.toArray a'.toArray:=by
 refine ⟨by simpa using h.1,fun i hi=>?_⟩
 have:=h.2 i (by simpa using hi)
 simpa [Array.getD_eq_getD_getElem?,List.getD_eq_getElem?_getD] using this
theorem VL.at {σ:cg} {a a':List Value} (h:VL σ a a') (i:Nat):VR σ (a.getD i undef) (a'.getD i undef):=by
 by_cases hi:i < a.length
 ·exact h.2 i hi
 ·rw [List.getD_eq_getElem?_getD,List.getD_eq_getElem?_getD,List.getElem?_eq_none (by omega),List.getElem?_eq_none (by have:=h.1;omega)];exact .undef σ
theorem VL.nil (σ:cg):VL σ [] []:=⟨rfl,fun i h=>absurd h (by simp)⟩
theorem VL.cons {σ:cg} {x x':Value} {a a':List Value} (hx:VR σ x x') (h:VL σ a a'):VL σ (x::a) (x'::a'):=by
 refine ⟨by simp [h.1],fun i hi=>?_⟩
 cases i with
 | zero=>exact hx
 | succ i=>simpa using h.at i
theorem VL.of_cons {σ:cg} {x:Value} {a l':List Value} (h:VL σ (x::a) l'):∃x' a',l'=x'::a'/\VR σ x x'/\VL σ a a':=by
 cases l' with
 | nil=>have:=h.1;simp at this
 | cons x' a'=>exact ⟨x',a',rfl,by simpa using h.at 0,by have:=h.1;simpa using this,fun i hi=>by simpa using h.at (i+1)⟩
theorem VL.of_nil {σ:cg} {l':List Value} (h:VL σ [] l'):l'=[]:=List.length_eq_zero_iff.1 h.1.symm
theorem VL.append {σ:cg} {a a' b b':List Value} (h:VL σ a a') (h':VL σ b b'):VL σ (a++b) (a'++b'):=by
 induction a generalizing a' with
 | nil=>rw [h.of_nil];exact h'
 | cons x a ih=>obtain ⟨x',a'',rfl,hx,ha⟩:=h.of_cons;exact .cons hx (ih ha)
theorem VL.drop {σ:cg} {a a':List Value} (h:VL σ a a') (n:Nat):VL σ (a.drop n) (a'.drop n):=by
 refine ⟨by simp [h.1],fun i hi=>?_⟩
 have:=h.at (n+i)
 simpa [List.getD_eq_getElem?_getD,List.getElem?_drop] using this
theorem VL.take {σ:cg} {a a':List Value} (h:VL σ a a') (n:Nat):VL σ (a.take n) (a'.take n):=by
 refine ⟨by simp [h.1],fun i hi=>?_⟩
 have dU:i < n:=by simp at hi;omega
 have:=h.at i
 simpa [List.getD_eq_getElem?_getD,List.getElem?_take,dU] using this
theorem yP {α:Type}:∀(l:List α) (n:Nat),rF l n=l[n]?
 | [],n=>by simp [rF]
 | a::l,0=>rfl
 | a::l,n+1=>by rw [List.getElem?_cons_succ,<-yP l n];rfl
theorem IN {α:Type}:∀(l:List α) (n:Nat),Ju l n=l.drop n
 | [],n=>by simp [Ju]
 | a::l,0=>rfl
 | a::l,n+1=>by rw [List.drop_succ_cons,<-IN l n];rfl
theorem IP {α:Type}:∀(l:List α) (n:Nat),Jv l n=l.take n
 | [],n=>by simp [Jv]
 | a::l,0=>rfl
 | a::l,n+1=>by rw [List.take_succ_cons,<-IP l n];rfl
theorem yQ {α:Type}:∀(l:List α),ll l=l.length
 | []=>rfl
 | a::l=>by rw [List.length_cons,<-yQ l];rfl
theorem Qn {β:Type} (n:Nat) (k:Nat->β):te n k=k n:=by cases n <;> rfl
theorem blt_eq (a b:Nat):Nat.blt a b=decide (a < b):=by rw [Bool.eq_iff_iff];simp [Nat.blt_eq]
theorem ble_eq (a b:Nat):Nat.ble a b=decide (a<=b):=by rw [Bool.eq_iff_iff];simp [Nat.ble_eq]
theorem beq_eq (a b:Nat):Nat.beq a b=decide (a=b):=by rw [Bool.eq_iff_iff];simp [Nat.beq_eq]
theorem yU (a b:Int):Ev a b=decide (a < b):=by
 cases a <;> cases b <;> simp only [Ev,blt_eq] <;> rw [Bool.eq_iff_iff] <;> simp only [decide_eq_true_eq,Bool.false_eq_true,Int.ofNat_eq_natCast] <;> (constructor <;> intro h <;> first | omega | exact h.elim | trivial)
theorem DG (a b:Int):GY a b=decide (a=b):=by
 cases a <;> cases b <;> simp only [GY,beq_eq] <;> rw [Bool.eq_iff_iff] <;> simp only [decide_eq_true_eq,Bool.false_eq_true,Int.ofNat_eq_natCast] <;> (constructor <;> intro h <;> first | omega | exact h.elim | trivial)
theorem LH {n:Int} (h:Ce n=true):IntKind.wrap .i64 n=n:=by
 have: -9223372036854775808<=n/\n < 9223372036854775808:=by
  cases n with
  | ofNat a=>simp only [Ce,blt_eq,decide_eq_true_eq] at h;simp only [Int.ofNat_eq_natCast];omega
  | negSucc a=>simp only [Ce,blt_eq,decide_eq_true_eq] at h;omega
 unfold IntKind.wrap
 simp only [IntKind.bits,IntKind.signed,Bool.true_and]
 split <;> simp_all <;> omega
theorem sL (k:IntKind) (n:Int):nZ k n=k.wrap n:=by
 cases k <;> try rfl
 ·show (bif Ce n then n else IntKind.wrap .i64 n)=_
  cases h:Ce n
  ·rfl
  ·rw [cond_true,LH h]
 ·cases n with
  | negSucc a=>rfl
  | ofNat a=>
   show (bif Nat.blt a 256 then Int.ofNat a else IntKind.wrap .u8 (Int.ofNat a))=_
   cases h:Nat.blt a 256
   ·rfl
   ·rw [cond_true]
    rw [blt_eq,decide_eq_true_eq] at h
    unfold IntKind.wrap
    simp [IntKind.bits,IntKind.signed];omega
 ·cases n with
  | negSucc a=>rfl
  | ofNat a=>
   show (bif Nat.blt a 18446744073709551616 then Int.ofNat a else IntKind.wrap .u64 (Int.ofNat a))=_
   cases h:Nat.blt a 18446744073709551616
   ·rfl
   ·rw [cond_true]
    rw [blt_eq,decide_eq_true_eq] at h
    unfold IntKind.wrap
    simp [IntKind.bits,IntKind.signed];omega
theorem IF:∀(x y:List UInt8),IW x y=decide (x=y)
 | [],[]=>rfl
 | [],_::_=>rfl
 | _::_,[]=>rfl
 | a::x,b::y=>by
  have:IW (a::x) (b::y)=Bool.rec (motive:=fun _=>Bool) false (IW x y) (Nat.beq a.toNat b.toNat):=rfl
  rw [this,IF x y]
  cases h:Nat.beq a.toNat b.toNat
  ·have:a≠b:=fun e=>by subst e;simp at h
   simp [this]
  ·have:a=b:=UInt8.toNat_inj.1 (Nat.eq_of_beq_eq_true h)
   subst this
   simp
end
end Go.Proofs.YtebibeaobhcfkaaGreat.Ab
namespace Go.Proofs.YtebibeaobhcfkaaGreat.Ab
open Go Classical
section
variable {P:Program}
theorem Pw {t:TypeId} {b:Bool} (h:gg P t=some b) (w:World):(isAgg t).run P w=.ok b w:=by
 unfold gg at h
 split at h
 ·cases h;rename_i hu;simp [isAgg,run_underlying hu]
 ·cases h;rename_i hu;simp [isAgg,run_underlying hu]
 ·cases h
  rename_i d rV jF hu
  simp only [isAgg,Sem.run_bind,run_underlying hu,Result.andThen_ok]
  rfl
 ·cases h
theorem pj {t:TypeId} {n:Nat} (h:dm P t=some n) (w:World):(sizeOf t).run P w=.ok n w:=by
 unfold dm at h
 split at h
 ·rename_i i hi;cases h;simp [sizeOf,typeInfo,hi]
 ·cases h
theorem PB {σ:cg} {t:TypeId} {cs:List Value} {gi:Array Value} {off:Nat} {v:Value} (h:Cp P t cs off=some v) (hv:VL σ cs gi.toList):
  ∃v',(∀w,(part t gi off).run P w=.ok v' w)/\VR σ v v':=by
 unfold Cp at h
 split at h
 ·rename_i ha
  split at h
  ·rename_i n hn
   cases h
   rw [IP,IN]
   refine ⟨.agg (gi.extract off (off+n)),fun w=>?_,?_⟩
   ·simp [part,Pw ha,pj hn]
   ·have hx:=((hv.drop off).take n).yj
    have he:((gi.toList.drop off).take n).toArray=gi.extract off (off+n):=by
     apply Array.ext'
     simp [List.drop_take]
    rw [he] at hx
    exact .agg hx.1 hx.2
  ·cases h
 ·rename_i ha
  rw [yP] at h
  obtain ⟨bf,hx⟩:=List.getElem?_eq_some_iff.1 h
  have dE:off < gi.size:=by have:=hv.1;simp at this;omega
  refine ⟨gi[off],fun w=>?_,?_⟩
  ·simp [part,Pw ha,Array.getElem?_eq_getElem dE]
  ·have:=hv.at off
   simpa [List.getD_eq_getElem?_getD,h,Array.getElem?_eq_getElem dE] using this
 ·cases h
theorem afo {σ:cg} {t:TypeId} {x y x' y':Value} {b:Bool} (hu:P.underlying t=some .bool) (h:Ja x y=some b) (hx:VR σ x x') (hy:VR σ y y') (d:Nat) (w:World):
  (Op.equalIn (d+1) t x' y').run P w=.ok b w:=by
 unfold Ja at h;split at h
 ·cases h;rw [hx.bool,hy.bool];exact run_equalIn_bool w d t _ _ hu
 ·cases h
theorem afQ {σ:cg} {t:TypeId} {k:IntKind} {x y x' y':Value} {b:Bool} (hu:P.underlying t=some (.int k)) (h:Jw x y=some b) (hx:VR σ x x') (hy:VR σ y y') (d:Nat) (w:World):
  (Op.equalIn (d+1) t x' y').run P w=.ok b w:=by
 unfold Jw at h;split at h
 ·rename_i j a k' b'
  by_cases hk:j=k'
  ·subst hk
   simp only [decide_true,cond_true,Option.some.injEq] at h
   subst h
   rw [hx.int,hy.int,run_equalIn_int w d t _ _ _ _ hu,DG]
   rfl
  ·simp [hk] at h
 ·cases h
theorem afR {σ:cg} {t:TypeId} {x y x' y':Value} {b:Bool} (hu:P.underlying t=some .string) (h:eqStr x y=some b) (hx:VR σ x x') (hy:VR σ y y') (d:Nat) (w:World):
  (Op.equalIn (d+1) t x' y').run P w=.ok b w:=by
 unfold eqStr at h;split at h
 ·cases h;rw [hx.string,hy.string,run_equalIn_string w d t _ _ hu,IF,ByteArray.toList_eq,ByteArray.toList_eq]
  congr 1
  exact Bool.eq_iff_iff.2 (by simp)
 ·cases h
theorem VR.uS {σ:cg} {a:Option Addr} {n c:Nat} {v:Value} (h:VR σ (.slice a n c) v):∃a' c',v=.slice a' n c'/\a'.isNone=a.isNone:=by
 cases h with
 | same h=>exact ⟨_,_,rfl,rfl⟩
 | slice h=>exact ⟨_,_,rfl,rfl⟩
 | zQ=>exact ⟨_,_,rfl,rfl⟩
theorem VR.Un {σ:cg} {a:Option Addr} {v:Value} (h:VR σ (.pointer a) v):∃a',v=.pointer a'/\a'.isNone=a.isNone:=by
 cases h with
 | same h=>exact ⟨_,rfl,rfl⟩
 | ptr h=>exact ⟨_,rfl,rfl⟩
theorem ae9 {σ:cg} {t e:TypeId} {x y x' y':Value} {b:Bool} (hu:P.underlying t=some (.slice e)) (h:IY x y=some b) (hx:VR σ x x') (hy:VR σ y y') (d:Nat) (w:World):
  (Op.equalIn (d+1) t x' y').run P w=.ok b w:=by
 unfold IY at h
 split at h
 ·obtain ⟨a',c',rfl,ha⟩:=hx.uS
  obtain ⟨b',c2',rfl,hb⟩:=hy.uS
  rw [<-ha,<-hb] at h
  cases a' <;> cases b' <;> simp at h <;> subst h <;> simp [Op.equalIn,run_underlying hu]
 ·cases h
theorem afS {σ:cg} {t e:TypeId} {x y x' y':Value} {b:Bool} (hu:P.underlying t=some (.pointer e)) (h:Jx x y=some b) (hx:VR σ x x') (hy:VR σ y y') (d:Nat) (w:World):
  (Op.equalIn (d+1) t x' y').run P w=.ok b w:=by
 unfold Jx at h
 split at h
 ·obtain ⟨a',rfl,ha⟩:=hx.Un
  obtain ⟨b',rfl,hb⟩:=hy.Un
  rw [<-ha,<-hb] at h
  cases a' <;> cases b' <;> simp at h <;> subst h <;> simp [Op.equalIn,run_underlying hu]
 ·cases h
theorem PI (d:Nat) (t:TypeId) (x y:Value):yg P (d+1) t x y=(match P.underlying t with
   | some .bool=>Ja x y
   | some (.int _)=>Jw x y
   | some .string=>eqStr x y
   | some (.slice _)=>IY x y
   | some (.pointer _)=>Jx x y
   | some (.struct fs)=>match x,y with
    | .agg xs,.agg ys=>bif P.stoodInHeld t||P.eqGuardType P.depth t then none else PA P (yg P d) xs.toList ys.toList fs.toList
    | _,_=>none
   | _=>none):=rfl
theorem ahz {σ:cg}:∀(d:Nat) {t:TypeId} {x y x' y':Value} {b:Bool},yg P d t x y=some b->VR σ x x'->VR σ y y'->∀w,(Op.equalIn d t x' y').run P w=.ok b w:=by
 intro d
 induction d with
 | zero=>intro t x y x' y' b h;cases h
 | succ d ih=>
  intro t x y x' y' b h hx hy w
  have h':=h
  rw [PI] at h'
  clear h
  split at h'
  ·rename_i hu;exact afo hu h' hx hy d w
  ·rename_i hu;exact afQ hu h' hx hy d w
  ·rename_i hu;exact afR hu h' hx hy d w
  ·rename_i hu;exact ae9 hu h' hx hy d w
  ·rename_i hu;exact afS hu h' hx hy d w
  ·rename_i fs hu
   split at h'
   ·rename_i xs ys
    obtain ⟨xs',rfl,zV⟩:=hx.P6
    obtain ⟨ys',rfl,hys⟩:=hy.P6
    cases dB:P.stoodInHeld t
    ·cases hg:P.eqGuardType P.depth t
     ·simp only [dB,hg,Bool.or_self,cond_false] at h'
      have hf:P.fieldsOf t=fs:=by simp [Program.fieldsOf,hu]
      rw [run_equalIn_struct w d t xs' ys' (by rw [hf];exact hu) dB,hf]
      clear hu hf
      have EA:=zV.Ez
      have hyl:=hys.Ez
      generalize fs.toList=l at h'
      induction l generalizing w with
      | nil=>cases h';rfl
      | cons f l ihl=>
       have h2:(bif decide (f.name= "_") then none else match Cp P f.type xs.toList f.offset,Cp P f.type ys.toList f.offset with
        | some a,some b=>match yg P d f.type a b with
         | some true=>PA P (yg P d) xs.toList ys.toList l
         | some false=>some false
         | none=>none
        | _,_=>none)=some b:=h'
       clear h'
       by_cases hn:f.name= "_"
       ·simp [hn] at h2
       ·simp only [hn,decide_false,cond_false] at h2
        split at h2
        ·rename_i a a2 ha CU
         obtain ⟨v1,dY,nC⟩:=PB ha EA
         obtain ⟨v2,dP,jm⟩:=PB CU hyl
         split at h2
         ·rename_i he
          simp [Op.eqFields,hn,dY,dP,ih he nC jm,ihl w h2]
         ·rename_i he
          cases h2
          simp [Op.eqFields,hn,dY,dP,ih he nC jm]
         ·cases h2
        ·cases h2
     ·simp [dB,hg] at h'
    ·simp [dB] at h'
   ·cases h'
  ·cases h'
end
end Go.Proofs.YtebibeaobhcfkaaGreat.Ab
namespace Go.Proofs.YtebibeaobhcfkaaGreat.Ab
open Go Classical
section
variable {P:Program}
def Yl (P:Program) (σ:cg) (v:Value) (s:Sem Value):Prop:=∃v',VR σ v v'/\∀w,s.run P w=.ok v' w
theorem TX {op:BinOp} {t:TypeId} {x y:Operand} {k k':IntKind} {a b:Int} (w:World):(eqGuard op t x y (.int k a) (.int k' b)).run P w=.ok () w:=by
 cases op <;> simp [eqGuard]
theorem afT {op:BinOp} {t:TypeId} {x y:Operand} {a b:ByteArray} (w:World):(eqGuard op t x y (.string a) (.string b)).run P w=.ok () w:=by
 cases op <;> simp [eqGuard]
theorem PJ (k:IntKind) (a:Int):sW k a=(BitVec.ofInt k.bits a).toNat:=by
 rw [BitVec.toNat_ofInt]
 cases a with
 | ofNat n=>
  show n % 2 ^ k.bits=_
  have e:((Int.ofNat n) % ((2 ^ k.bits:Nat):Int))=((n % 2 ^ k.bits:Nat):Int):=by simp
  rw [e];rfl
 | negSucc n=>rfl
theorem agB {σ:cg} {op:BinOp} {t:TypeId} {k:IntKind} {a b:Int} {v:Value} (h:wK op k a b=some v):Yl P σ v (binOp op t (.int k a) (.int k b)):=by
 cases op <;> simp only [wK] at h
 case add=>cases h;exact ⟨_,.same rfl,fun w=>by simp [binOp,Op.intArith,sL]⟩
 case sub=>cases h;exact ⟨_,.same rfl,fun w=>by simp [binOp,Op.intArith,sL]⟩
 case mul=>cases h;exact ⟨_,.same rfl,fun w=>by simp [binOp,Op.intArith,sL]⟩
 case quo=>
  rw [DG] at h
  by_cases hb:b=0
  ·simp [hb] at h
  ·simp only [hb,decide_false,cond_false,Option.some.injEq] at h
   subst h
   exact ⟨_,.same rfl,fun w=>by simp [binOp,Op.intDiv,sL,hb]⟩
 case rem=>
  rw [DG] at h
  by_cases hb:b=0
  ·simp [hb] at h
  ·simp only [hb,decide_false,cond_false,Option.some.injEq] at h
   subst h
   exact ⟨_,.same rfl,fun w=>by simp [binOp,Op.intDiv,hb]⟩
 case eql=>cases h;exact ⟨_,.same rfl,fun w=>by simp [binOp,Op.intCmp,DG];rfl⟩
 case neq=>cases h;exact ⟨_,.same rfl,fun w=>by simp [binOp,Op.intCmp,DG];rfl⟩
 case lss=>cases h;exact ⟨_,.same rfl,fun w=>by simp [binOp,Op.intCmp,yU]⟩
 case leq=>cases h;exact ⟨_,.same rfl,fun w=>by simp [binOp,Op.intCmp,yU,<-decide_not,Int.not_lt]⟩
 case gtr=>cases h;exact ⟨_,.same rfl,fun w=>by simp [binOp,Op.intCmp,yU]⟩
 case geq=>cases h;exact ⟨_,.same rfl,fun w=>by simp [binOp,Op.intCmp,yU,<-decide_not,Int.not_lt]⟩
 case and=>cases h;exact ⟨_,.same rfl,fun w=>by simp [binOp,Op.intBits,sL,PJ]⟩
 case or=>cases h;exact ⟨_,.same rfl,fun w=>by simp [binOp,Op.intBits,sL,PJ]⟩
 case xor=>cases h;exact ⟨_,.same rfl,fun w=>by simp [binOp,Op.intBits,sL,PJ]⟩
 case andNot=>cases h;exact ⟨_,.same rfl,fun w=>by simp [binOp,Op.intBits,sL,PJ]⟩
 all_goals cases h
theorem ZZ {σ:cg} {op:BinOp} {t:TypeId} {k k':IntKind} {a b:Int} {v:Value} (h:Qk op k a b=some v):Yl P σ v (binOp op t (.int k a) (.int k' b)):=by
 unfold Qk at h
 split at h
 ·rename_i b
  have hm:(bif Nat.ble b k.bits then b else k.bits)=min b k.bits:=by
   rw [ble_eq]
   by_cases hb:b<=k.bits
   ·simp [hb,Nat.min_eq_left hb]
   ·simp [hb,Nat.min_eq_right (Nat.le_of_not_le hb)]
  have hp:((2 ^ (min b k.bits):Nat):Int)=(2:Int) ^ (min b k.bits):=by simp
  split at h
  ·cases h
   refine ⟨_,.same rfl,fun w=>?_⟩
   rw [hm]
   simp [binOp,Op.shift,sL]
   intro de;omega
  ·cases h
   refine ⟨_,.same rfl,fun w=>?_⟩
   rw [hm]
   simp [binOp,Op.shift]
   intro de;omega
  ·cases h
 ·cases h
theorem ae6 (a b:ByteArray):(⟨(a.data.toList++b.data.toList).toArray⟩:ByteArray)=a++b:=by
 apply ByteArray.ext
 apply Array.ext'
 simp
theorem LD (a:ByteArray):ll a.data.toList=a.size:=by rw [yQ];exact Array.length_toList
theorem agC {σ:cg} {op:BinOp} {t:TypeId} {a b:ByteArray} {v:Value} (h:J5 op a b=some v):Yl P σ v (binOp op t (.string a) (.string b)):=by
 cases op <;> simp only [J5] at h
 case add=>
  rw [LD,LD,blt_eq] at h
  by_cases hs:a.size+b.size < 4611686018427387904
  ·simp only [hs,decide_true,cond_true,Option.some.injEq] at h
   subst h
   rw [ae6]
   have h2:¬(9223372036854775807 < (a.size:Int)+(b.size:Int)):=by omega
   exact ⟨_,.same rfl,fun w=>by simp [binOp,Op.stringOp,h2,IntKind.max,IntKind.signed,IntKind.bits]⟩
  ·simp [hs] at h
 case eql=>cases h;exact ⟨_,.same rfl,fun w=>by simp [binOp,Op.stringOp,IF,ByteArray.toList_eq];exact Bool.eq_iff_iff.2 (by simp)⟩
 case neq=>cases h;exact ⟨_,.same rfl,fun w=>by simp [binOp,Op.stringOp,IF,ByteArray.toList_eq];exact Bool.eq_iff_iff.2 (by simp)⟩
 all_goals cases h
def DH:Value->Bool
 | .bool _ | .slice _ _ _ | .pointer _ | .agg _=>true
 | _=>false
theorem agD {d:Nat} {t:TypeId} {x y:Value} {b:Bool} (h:yg P d t x y=some b) (hx:∀k n,x≠.int k n) (hs:∀s,x≠.string s):DH x=true/\DH y=true:=by
 cases d with
 | zero=>cases h
 | succ d=>
  rw [PI] at h
  split at h
  ·unfold Ja at h;split at h <;> first | (cases h;done) | exact ⟨rfl,rfl⟩
  ·unfold Jw at h;split at h
   ·exact absurd rfl (hx _ _)
   ·cases h
  ·unfold eqStr at h;split at h
   ·exact absurd rfl (hs _)
   ·cases h
  ·unfold IY at h;split at h <;> first | (cases h;done) | exact ⟨rfl,rfl⟩
  ·unfold Jx at h;split at h <;> first | (cases h;done) | exact ⟨rfl,rfl⟩
  ·split at h <;> first | (cases h;done) | exact ⟨rfl,rfl⟩
  ·cases h
theorem afU {d:Nat} {t:TypeId} {x y:Value} {b:Bool} (h:yg P d t x y=some b) {xs ys:Array Value} (hx:x=.agg xs):P.eqGuardType P.depth t=false:=by
 subst hx
 cases d with
 | zero=>cases h
 | succ d=>
  rw [PI] at h
  split at h
  ·cases h
  ·cases h
  ·cases h
  ·cases h
  ·cases h
  ·split at h
   ·rename_i heq
    cases hg:P.eqGuardType P.depth t
    ·rfl
    ·simp [hg] at h
   ·cases h
  ·cases h
theorem VR.adH {σ:cg} {x x':Value} (h:VR σ x x') (he:DH x=true):DH x'=true/\((∃a,x=.agg a/\∃a',x'=.agg a')∨(∀a',x'≠.agg a')):=by
 cases h with
 | same h=>exact ⟨he,.inr (fun a' e=>by subst e;cases h)⟩
 | ptr h=>exact ⟨rfl,.inr (fun a' e=>by cases e)⟩
 | slice h=>exact ⟨rfl,.inr (fun a' e=>by cases e)⟩
 | zQ=>exact ⟨rfl,.inr (fun a' e=>by cases e)⟩
 | agg h1 h2=>exact ⟨rfl,.inl ⟨_,rfl,_,rfl⟩⟩
 | func=>cases he
 | tuple=>cases he
theorem Z0 {op:BinOp} {t:TypeId} {x y:Operand} {a b:Value} (ha:DH a=true) (hb:DH b=true) (hg:(∀xs,a≠.agg xs)∨P.eqGuardType P.depth t=false) (w:World):
  (eqGuard op t x y a b).run P w=.ok () w:=by
 cases a <;> first | (cases ha;done) | skip
 all_goals cases b <;> first | (cases hb;done) | skip
 all_goals cases op <;> simp [eqGuard]
 all_goals
  rcases hg with hg | hg
  ·exact absurd rfl (hg _)
  ·simp [run_program,hg]
theorem afp {t:TypeId} {a b:Value} (ha:DH a=true) (hb:DH b=true):
  binOp .eql t a b=(do pure (.bool (<-Op.equal t a b)))/\binOp .neq t a b=(do pure (.bool (!(<-Op.equal t a b)))):=by
 cases a <;> first | (cases ha;done) | skip
 all_goals cases b <;> first | (cases hb;done) | exact ⟨rfl,rfl⟩
theorem agE {σ:cg} {op:BinOp} {t:TypeId} {x y x' y':Value} {v:Value} (xo yo:Operand) (h:kO P op t x y=some v) (hx:VR σ x x') (hy:VR σ y y'):
  Yl P σ v (do eqGuard op t xo yo x' y';binOp op t x' y'):=by
 have key:∀b,yg P 10000 t x y=some b->(∀k n,x≠.int k n)->(∀s,x≠.string s)->op=.eql∨op=.neq->v=.bool (if op=.eql then b else !b)->Yl P σ v (do eqGuard op t xo yo x' y';binOp op t x' y'):=by
  intro b he h1 h2 iK hv
  obtain ⟨ax,ay⟩:=agD he h1 h2
  obtain ⟨Xe,cx⟩:=hx.adH ax
  obtain ⟨Xf,_⟩:=hy.adH ay
  have hg:(∀xs,x'≠.agg xs)∨P.eqGuardType P.depth t=false:=by
   rcases cx with ⟨a,ha,_⟩ | hn
   ·exact .inr (afU (ys:=#[]) he ha)
   ·exact .inl hn
  obtain ⟨e1,e2⟩:=afp (t:=t) Xe Xf
  have hr:=ahz 10000 he hx hy
  refine ⟨v,.same (by rw [hv];rfl),fun w=>?_⟩
  rcases iK with rfl | rfl
  ·rw [e1,hv];simp [Z0 Xe Xf hg,Op.equal,Op.maxDepth,hr]
  ·rw [e2,hv];simp [Z0 Xe Xf hg,Op.equal,Op.maxDepth,hr]
 unfold kO at h
 split at h
 ·rename_i k a k' b
  split at h
  ·obtain ⟨v',h1,h2⟩:=ZZ (P:=P) (σ:=σ) (t:=t) (k':=k') h
   rw [hx.int,hy.int]
   exact ⟨v',h1,fun w=>by simp [TX,h2]⟩
  ·obtain ⟨v',h1,h2⟩:=ZZ (P:=P) (σ:=σ) (t:=t) (k':=k') h
   rw [hx.int,hy.int]
   exact ⟨v',h1,fun w=>by simp [TX,h2]⟩
  ·by_cases hk:k=k'
   ·subst hk
    simp only [decide_true,cond_true] at h
    obtain ⟨v',h1,h2⟩:=agB (P:=P) (σ:=σ) (t:=t) h
    rw [hx.int,hy.int]
    exact ⟨v',h1,fun w=>by simp [TX,h2]⟩
   ·simp [hk] at h
 ·obtain ⟨v',h1,h2⟩:=agC (P:=P) (σ:=σ) (t:=t) h
  rw [hx.string,hy.string]
  exact ⟨v',h1,fun w=>by simp [afT,h2]⟩
 ·cases h
 ·cases h
 ·rename_i rV jF hi hs
  split at h
  ·obtain ⟨b,hb,rfl⟩:=Option.map_eq_some_iff.1 h
   exact key b hb (fun k n e=>rV k n e) (fun s e=>jF s e) (.inl rfl) (by simp)
  ·obtain ⟨b,hb,rfl⟩:=Option.map_eq_some_iff.1 h
   exact key b hb (fun k n e=>rV k n e) (fun s e=>jF s e) (.inr rfl) (by simp)
  ·cases h
theorem ahA {σ:cg} {op:UnOp} {x x':Value} {v:Value} {h h':KH} (hh:Ew op x h=.ok v h') (hx:VR σ x x'):h'=h/\Yl P σ v (Op.unary op x'):=by
 unfold Ew at hh
 split at hh
 ·cases hh;rw [hx.bool];exact ⟨rfl,_,.same rfl,fun w=>by simp [Op.unary]⟩
 ·cases hh;rw [hx.int];exact ⟨rfl,_,.same rfl,fun w=>by simp [Op.unary,Op.intArith,sL]⟩
 ·cases hh
theorem agF {σ:cg} {x x':Value} {v:Value} {h h':KH} {o:Oper} {a:Act} {xo:Operand} (hh:Ea x h=.ok v h') (hx:VR σ x x') (ho:o.op=.nilCheck xo) (he:a.eval xo=x'):
  h'=h/\∃v',VR σ v v'/\∀w,(execOp a.eval o).run P w=.ok (.value v') w:=by
 unfold Ea at hh
 split at hh
 ·cases hh
  refine ⟨rfl,x',hx,fun w=>?_⟩
  obtain ⟨a',rfl,ha⟩:=hx.Un
  cases a' with
  | none=>cases ha
  | some a'=>simp [execOp,ho,he]
 ·cases hh
  refine ⟨rfl,x',hx,fun w=>?_⟩
  obtain ⟨f',c',rfl,_,_⟩:=hx.aay
  simp [execOp,ho,he]
 ·cases hh
theorem ae7 {σ:cg} {x x':Value} {i:Nat} {v:Value} {h h':KH} (hh:Ca x i h=.ok v h') (hx:VR σ x x'):h'=h/\Yl P σ v (Instr.extract x' i):=by
 unfold Ca at hh
 split at hh
 ·obtain ⟨a',rfl,ha⟩:=hx.afP
  rw [yP] at hh
  split at hh
  ·rename_i v0 gj
   cases hh
   have bf:i < a'.size:=by
    have:=(List.getElem?_eq_some_iff.1 gj).1
    rw [<-ha.1];simpa using this
   refine ⟨rfl,a'[i],?_,fun w=>by simp [Instr.extract,Array.getElem?_eq_getElem bf]⟩
   have:=ha.Ez.at i
   simpa [List.getD_eq_getElem?_getD,gj,Array.getElem?_eq_getElem bf] using this
  ·cases hh
 ·cases hh
theorem AH (b o n:Nat):(⟨b,o,none⟩:Addr).add n=⟨b,o+n,none⟩:=by unfold Addr.add;split <;> simp_all
theorem aeZ {σ:cg} {s:TypeId} {x x':Value} {f:Nat} {v:Value} {h h':KH} (hh:BX P s x f h=.ok v h') (hx:VR σ x x'):h'=h/\Yl P σ v (Instr.fieldAt s x' f):=by
 unfold BX at hh
 split at hh
 ·rename_i b o fs hu
  rw [yP] at hh
  split at hh
  ·rename_i f0 qO
   split at hh
   ·rename_i n hn
    rw [blt_eq] at hh
    by_cases oR:0 < n
    ·simp only [oR,decide_true,cond_true,KO.ok.injEq] at hh
     obtain ⟨rfl,rfl⟩:=hh
     obtain ⟨l,hl,rfl⟩:=hx.I0
     refine ⟨rfl,_,.ptr hl,fun w=>?_⟩
     have tf:n≠0:=by omega
     simp only [Array.getElem?_toList] at qO
     simp [Instr.fieldAt,run_underlying hu,qO,Instr.sureAddr,fieldPlace,pj hn,tf,AH,Nat.add_assoc]
    ·simp [oR] at hh
   ·cases hh
  ·cases hh
 ·cases hh
theorem ae0 {σ:cg} {t:TypeId} {x x' i i':Value} {v:Value} {h h':KH} (hh:BY P t x i h=.ok v h') (hx:VR σ x x') (hi:VR σ i i'):h'=h/\Yl P σ v (Instr.indexAt t x' i'):=by
 unfold BY at hh
 split at hh
 ·rename_i e b o n c k j hu
  split at hh
  ·rename_i s hs
   rw [blt_eq] at hh
   by_cases bf:j < n
   ·simp only [bf,decide_true,cond_true,KO.ok.injEq] at hh
    obtain ⟨rfl,rfl⟩:=hh
    obtain ⟨l,hl,rfl⟩:=hx.AG
    rw [hi.int]
    refine ⟨rfl,_,.ptr hl,fun w=>?_⟩
    have h0:(0:Int)<=Int.ofNat j/\Int.ofNat j < (n:Int):=by constructor <;> simp <;> omega
    simp [Instr.indexAt,asIntOf,run_underlying hu,pj hs,AH,Nat.add_assoc,bf]
   ·simp [bf] at hh
  ·cases hh
 ·rename_i n e b o k j hu
  split at hh
  ·rename_i s hs
   rw [blt_eq] at hh
   by_cases bf:j < n
   ·simp only [bf,decide_true,cond_true,KO.ok.injEq] at hh
    obtain ⟨rfl,rfl⟩:=hh
    obtain ⟨l,hl,rfl⟩:=hx.I0
    rw [hi.int]
    refine ⟨rfl,_,.ptr hl,fun w=>?_⟩
    simp [Instr.indexAt,asIntOf,run_underlying hu,pj hs,AH,Nat.add_assoc,bf,Instr.sureAddr]
   ·simp [bf] at hh
  ·cases hh
 ·cases hh
theorem afq {σ:cg} {t:TypeId} {x x':Value} {f:Nat} {v:Value} {h h':KH} (hh:Cg P t x f h=.ok v h') (hx:VR σ x x'):h'=h/\Yl P σ v (Instr.field t x' f):=by
 unfold Cg at hh
 split at hh
 ·rename_i cs fs hu
  obtain ⟨gi,rfl,bg⟩:=hx.P6
  rw [yP] at hh
  split at hh
  ·rename_i f0 qO
   split at hh
   ·rename_i v0 gj
    cases hh
    obtain ⟨v',h1,h2⟩:=PB gj bg.Ez
    simp only [Array.getElem?_toList] at qO
    exact ⟨rfl,v',h2,fun w=>by simp [Instr.field,run_underlying hu,qO,asAgg,h1]⟩
   ·cases hh
  ·cases hh
 ·cases hh
theorem afr {σ:cg} {t:TypeId} {x x' i i':Value} {v:Value} {h h':KH} (hh:Ch P t x i h=.ok v h') (hx:VR σ x x') (hi:VR σ i i'):h'=h/\Yl P σ v (Instr.index t x' i'):=by
 unfold Ch at hh
 split at hh
 ·rename_i s k j hu
  rw [yP] at hh
  split at hh
  ·rename_i c hc
   cases hh
   rw [hx.string,hi.int]
   refine ⟨rfl,_,.same rfl,fun w=>?_⟩
   have bf:j < s.size:=(List.getElem?_eq_some_iff.1 hc).1
   have:s[j]?=some c:=by
    rw [getElem?_pos s j bf,<-(List.getElem?_eq_some_iff.1 hc).2]
    rfl
   simp [Instr.index,asIntOf,run_underlying hu,this]
  ·cases hh
 ·rename_i n e cs k j hu
  split at hh
  ·rename_i s hs
   rw [blt_eq] at hh
   by_cases bf:j < n
   ·simp only [bf,decide_true,cond_true] at hh
    split at hh
    ·rename_i v0 gj
     cases hh
     obtain ⟨gi,rfl,bg⟩:=hx.P6
     obtain ⟨v',h1,h2⟩:=PB gj bg.Ez
     rw [hi.int]
     exact ⟨rfl,v',h2,fun w=>by simp [Instr.index,asIntOf,run_underlying hu,bf,pj hs,h1]⟩
    ·cases hh
   ·simp [bf] at hh
  ·cases hh
 ·cases hh
end
end Go.Proofs.YtebibeaobhcfkaaGreat.Ab
namespace Go.Proofs.YtebibeaobhcfkaaGreat.Ab
open Go Classical
section
variable {P:Program}
def OV (σ:cg) (x x':Option Value):Prop:=(x=none/\x'=none)∨∃v v',x=some v/\x'=some v'/\VR σ v v'
def Kr (x:Option Value) (d n:Nat):Prop:=(x=none/\n=d)∨∃k,x=some (.int k (.ofNat n))
theorem yN {x:Option Value} {d:Nat} {k:Nat->KO} {v:Value} {h:KH} (hh:oQ x d k=.ok v h):∃n,k n=.ok v h/\Kr x d n:=by
 unfold oQ at hh
 split at hh
 ·exact ⟨_,hh,.inl ⟨rfl,rfl⟩⟩
 ·exact ⟨_,hh,.inr ⟨_,rfl⟩⟩
 ·cases hh
theorem OV.rW {σ:cg} {x x':Option Value} {d n:Nat} (h:OV σ x x') (hb:Kr x d n):Kr x' d n:=by
 rcases h with ⟨rfl,rfl⟩ | ⟨v,v',rfl,rfl,hv⟩
 ·exact hb
 ·rcases hb with ⟨h,_⟩ | ⟨k,h⟩
  ·cases h
  ·cases h;exact .inr ⟨k,by rw [hv.int]⟩
theorem IG {el:Bool} {len cap l r:Nat} {lo hi:Option Value} (zW:Kr lo 0 l) (CV:Kr hi len r) (h1:l<=r) (h2:r<=cap) (w:World):
  (Instr.sliceBounds el len cap lo hi none).run P w=.ok (l,r,cap) w:=by
 rcases zW with ⟨rfl,rfl⟩ | ⟨k,rfl⟩ <;> rcases CV with ⟨rfl,rfl⟩ | ⟨k',rfl⟩ <;>
  simp [Instr.sliceBounds,Instr.sliceBound,asIntOf,h1,h2]
theorem afa {el:Bool} {len cap l r m:Nat} {lo:Option Value} {k k2:IntKind} (zW:Kr lo 0 l) (h1:l<=r) (h2:r<=m) (h3:m<=cap) (w:World):
  (Instr.sliceBounds el len cap lo (some (.int k (.ofNat r))) (some (.int k2 (.ofNat m)))).run P w=.ok (l,r,m) w:=by
 rcases zW with ⟨rfl,rfl⟩ | ⟨k',rfl⟩ <;>
  simp [Instr.sliceBounds,Instr.sliceBound,asIntOf,h1,h2,h3]
theorem ae3 (s:ByteArray) (l r:Nat):(⟨((s.data.toList.drop l).take (r - l)).toArray⟩:ByteArray)=s.extract l r:=by
 apply ByteArray.ext
 apply Array.ext'
 simp [List.drop_take]
theorem L8 {c:Bool} {x:KO} {v:Value} {h:KH} (hh:(bif c then x else .no)=.ok v h):c=true/\x=.ok v h:=by
 cases c
 ·cases hh
 ·exact ⟨rfl,hh⟩
theorem afs {σ:cg} {t:TypeId} {x x':Value} {lo lo' hi dU mx Xg:Option Value} {v:Value} {h h':KH} (hh:pk P t x lo hi mx h=.ok v h') (hx:VR σ x x')
  (zW:OV σ lo lo') (CV:OV σ hi dU) (NX:OV σ mx Xg):h'=h/\Yl P σ v (Instr.sliceAt t x' lo' dU Xg):=by
 have hm:∀{m m':Option Value},OV σ m m'->m=none->m'=none:=fun h e=>by
  rcases h with ⟨_,h⟩ | ⟨_,_,h,_⟩
  ·exact h
  ·rw [e] at h;cases h
 unfold pk at hh
 split at hh
 ·rename_i s hu
  obtain ⟨l,hh,bl⟩:=yN hh
  obtain ⟨r,hh,br⟩:=yN hh
  obtain ⟨hc,hh⟩:=L8 hh
  cases hh
  rw [ble_eq,ble_eq,LD,Bool.and_eq_true,decide_eq_true_eq,decide_eq_true_eq] at hc
  rw [LD] at br
  rw [hx.string,hm NX rfl]
  refine ⟨rfl,_,.same rfl,fun w=>?_⟩
  rw [IN,IP,ae3]
  simp [Instr.sliceAt,run_underlying hu,Instr.slice,IG (zW.rW bl) (CV.rW br) hc.1 hc.2]
 ·rename_i e n c hu
  split at hh
  ·rename_i s hs
   obtain ⟨l,hh,bl⟩:=yN hh
   obtain ⟨r,hh,br⟩:=yN hh
   obtain ⟨hc,hh⟩:=L8 hh
   cases hh
   rw [ble_eq,ble_eq,beq_eq,Bool.and_eq_true,Bool.and_eq_true,decide_eq_true_eq,decide_eq_true_eq,decide_eq_true_eq] at hc
   obtain ⟨⟨h1,h2⟩,h3⟩:=hc
   rw [hx.TW,hm NX rfl]
   refine ⟨rfl,.slice none (r - l) (c - l),.same rfl,fun w=>?_⟩
   simp [Instr.sliceAt,run_underlying hu,Instr.slice,IG (zW.rW bl) (CV.rW br) h1 h2,pj hs]
  ·cases hh
 ·rename_i e b o n c hu
  split at hh
  ·rename_i s hs
   obtain ⟨l,hh,bl⟩:=yN hh
   obtain ⟨r,hh,br⟩:=yN hh
   obtain ⟨hc,hh⟩:=L8 hh
   rw [ble_eq,ble_eq,Bool.and_eq_true,decide_eq_true_eq,decide_eq_true_eq] at hc
   obtain ⟨h1,h2⟩:=hc
   obtain ⟨L,hL,rfl⟩:=hx.AG
   rw [hm NX rfl]
   cases h3:(Nat.blt l c||Nat.beq l 0)
   ·rw [h3,cond_false] at hh
    cases hh
    refine ⟨rfl,.slice (if c+L.room=l then some ⟨L.bj,L.base+o,none⟩ else some ⟨L.bj,L.base+(o+l * s),none⟩) (r - l) (c+L.room - l),by split <;> exact .zQ,fun w=>?_⟩
    have hb:=IG (P:=P) (el:=true) (zW.rW bl) (CV.rW br) h1 (Nat.le_trans h2 (Nat.le_add_right c L.room)) w
    by_cases h4:c+L.room=l
    ·rw [h4] at hb ⊢
     simp [Instr.sliceAt,run_underlying hu,Instr.slice,hb,pj hs]
    ·simp [Instr.sliceAt,run_underlying hu,Instr.slice,hb,pj hs,h4,AH,Nat.add_assoc]
   rw [h3,cond_true] at hh
   cases hh
   rw [blt_eq,beq_eq,Bool.or_eq_true,decide_eq_true_eq,decide_eq_true_eq] at h3
   refine ⟨rfl,.slice (some ⟨L.bj,L.base+(o+l * s),none⟩) (r - l) (c - l+L.room),.slice hL,fun w=>?_⟩
   have hc:c+L.room - l=c - l+L.room:=by omega
   by_cases h4:c+L.room=l
   ·have uq:l=0:=by omega
    subst uq
    have hb:=IG (P:=P) (el:=true) (zW.rW bl) (CV.rW br) h1 (Nat.le_trans h2 (Nat.le_add_right c L.room)) w
    have e1:c=0:=by omega
    have e2:L.room=0:=by omega
    simp only [e1,e2,Nat.add_zero] at hb ⊢
    simp [Instr.sliceAt,run_underlying hu,Instr.slice,hb,pj hs]
   ·simp [Instr.sliceAt,run_underlying hu,Instr.slice,IG (zW.rW bl) (CV.rW br) h1 (Nat.le_trans h2 (Nat.le_add_right c L.room)),pj hs,h4,hc,AH,Nat.add_assoc]
  ·cases hh
 ·rename_i e b o sp n c hu
  split at hh
  ·rename_i s hs
   obtain ⟨l,hh,bl⟩:=yN hh
   obtain ⟨r,hh,br⟩:=yN hh
   obtain ⟨hc,hh⟩:=L8 hh
   cases hh
   rw [beq_eq,beq_eq,Bool.and_eq_true,decide_eq_true_eq,decide_eq_true_eq] at hc
   obtain ⟨rfl,rfl⟩:=hc
   obtain ⟨a',c',rfl⟩:∃a' c',x'=.slice (some a') n c':=by
    cases hx with
    | same h=>cases h
    | zQ=>exact ⟨_,_,rfl⟩
   rw [hm NX rfl]
   refine ⟨rfl,.slice (if c'=0 then some a' else some (a'.add (0 * s))) 0 c',by split <;> exact .zQ,fun w=>?_⟩
   have hb:=IG (P:=P) (el:=true) (zW.rW bl) (CV.rW br) (Nat.le_refl 0) (Nat.zero_le c') w
   by_cases h4:c'=0
   ·subst h4;simp [Instr.sliceAt,run_underlying hu,Instr.slice,hb,pj hs]
   ·simp [Instr.sliceAt,run_underlying hu,Instr.slice,hb,pj hs,h4]
  ·cases hh
 ·rename_i e b o n c m hu
  split at hh
  ·rename_i s hs
   obtain ⟨l,hh,bl⟩:=yN hh
   obtain ⟨r,hh,br⟩:=yN hh
   obtain ⟨m',hh,bm⟩:=yN hh
   obtain ⟨hc,hh⟩:=L8 hh
   cases hh
   rw [ble_eq,ble_eq,ble_eq,Bool.and_eq_true,Bool.and_eq_true,decide_eq_true_eq,decide_eq_true_eq,decide_eq_true_eq] at hc
   obtain ⟨⟨h1,h2⟩,h3⟩:=hc
   obtain ⟨L,hL,rfl⟩:=hx.AG
   obtain ⟨k2,hm2⟩:∃k2,m=.int k2 (.ofNat m'):=by
    rcases bm with ⟨h,_⟩ | ⟨k,h⟩
    ·cases h
    ·cases h;exact ⟨k,rfl⟩
   obtain ⟨k3,dP⟩:∃k3,hi=some (.int k3 (.ofNat r)):=by
    rcases br with ⟨h,_⟩ | ⟨k,h⟩
    ·cases h
    ·cases hi with
     | none=>cases h
     | some v=>cases h;exact ⟨k,rfl⟩
   subst hm2 dP
   have aoX:Xg=some (.int k2 (.ofNat m')):=by
    rcases NX with ⟨h,_⟩ | ⟨v,v',h,h',hv⟩
    ·cases h
    ·cases h;rw [h',hv.int]
   have aoY:dU=some (.int k3 (.ofNat r)):=by
    rcases CV with ⟨h,_⟩ | ⟨v,v',h,h',hv⟩
    ·cases h
    ·cases h;rw [h',hv.int]
   subst aoX aoY
   refine ⟨rfl,.slice (if m'=l then some ⟨L.bj,L.base+o,none⟩ else some ⟨L.bj,L.base+(o+l * s),none⟩) (r - l) (m' - l),by split <;> exact .zQ,fun w=>?_⟩
   have hb:=afa (P:=P) (el:=true) (len:=n) (k:=k3) (k2:=k2) (zW.rW bl) h1 h2 (Nat.le_trans h3 (Nat.le_add_right c L.room)) w
   simp only [Instr.sliceAt,run_underlying hu,Sem.run_bind,Result.andThen_ok,Instr.slice,hb,pj hs]
   by_cases h4:m'=l
   ·simp [h4]
   ·simp [h4,AH,Nat.add_assoc]
  ·cases hh
 ·cases hh
theorem agG {σ:cg} {t ty:TypeId} {x x':Value} {v:Value} {h h':KH} (hh:x4 P t x h=.ok v h') (hx:VR σ x x') (ts:Array TypeId) (ht:ts[0]?=some t):
  h'=h/\Yl P σ v (Builtin.len_ ts ty #[x']):=by
 unfold x4 at hh
 split at hh
 ·rename_i s hu
  cases hh
  rw [hx.string,LD]
  exact ⟨rfl,_,.same rfl,fun w=>by simp [Builtin.len_,ht,run_underlying hu,goInt]⟩
 ·rename_i e a n c hu
  cases hh
  obtain ⟨a',c',rfl,_⟩:=hx.uS
  exact ⟨rfl,_,.same rfl,fun w=>by simp [Builtin.len_,ht,run_underlying hu,goInt]⟩
 ·cases hh
theorem aaz {σ:cg} {mx:Bool} {x x' y y':Value} {v:Value} {h h':KH} (hh:zd mx x y h=.ok v h') (hx:VR σ x x') (hy:VR σ y y') (ts:Array TypeId) (ty:TypeId):
  h'=h/\Yl P σ v (if mx then Builtin.max_ ts ty #[x',y'] else Builtin.min_ ts ty #[x',y']):=by
 unfold zd at hh
 split at hh
 ·rw [hx.int,hy.int]
  cases mx
  ·simp only [cond_false,KO.ok.injEq] at hh
   obtain ⟨rfl,rfl⟩:=hh
   refine ⟨rfl,_,.same rfl,fun w=>?_⟩
   simp [Builtin.min_,Builtin.min2,yU,cond_eq_ite]
  ·simp only [cond_true,KO.ok.injEq] at hh
   obtain ⟨rfl,rfl⟩:=hh
   refine ⟨rfl,_,.same rfl,fun w=>?_⟩
   simp [Builtin.max_,Builtin.max2,yU,cond_eq_ite]
 ·cases hh
theorem agH {l:List Value} (h:QC l=true) (σ:cg):VL σ l l:=by
 induction l with
 | nil=>exact .nil σ
 | cons x l ih=>
  simp only [QC,List.all_cons,Bool.and_eq_true] at h
  exact .cons (.same h.1) (ih h.2)
theorem FA {t:TypeId} {z:List Value} (h:fx P t=some z):∃i zv,P.info? t=some i/\i.zero=some zv/\z=zv.cells.toList/\(∀w,(zeroValue t).run P w=.ok zv w)/\∀σ,VL σ z z:=by
 unfold fx at h
 split at h
 ·rename_i i hi
  split at h
  ·rename_i zv hz
   cases hf:QC zv.cells.toList
   ·simp [hf] at h
   ·simp only [hf,cond_true,Option.some.injEq] at h
    subst h
    exact ⟨i,zv,hi,hz,rfl,fun w=>by simp [zeroValue,typeInfo,hi,hz],agH hf⟩
  ·cases h
 ·cases h
theorem VL.aiB {σ:cg} {a a' b b':List Value} (h:VL σ a a') (h':VL σ b b') (o:Nat):VL σ (a.take o++(b++a.drop (o+b.length))) (a'.take o++(b'++a'.drop (o+b'.length))):=by
 rw [<-h'.1]
 exact (h.take o).append (h'.append (h.drop _))
theorem afV (vs:List Value) (cs:Array Value) (off:Nat) (h:off+vs.length<=cs.size):
  (vs.toArray.zipIdx.foldl (fun cs (p:Value × Nat)=>cs.setIfInBounds (off+p.2) p.1) cs).toList=cs.toList.take off++(vs++cs.toList.drop (off+vs.length)):=by
 have key:∀(vs:List Value) (k:Nat) (cs:Array Value),off+k+vs.length<=cs.size->
   ((vs.zipIdx k).foldl (fun cs (p:Value × Nat)=>cs.setIfInBounds (off+p.2) p.1) cs).toList=cs.toList.take (off+k)++(vs++cs.toList.drop (off+k+vs.length)):=by
  intro vs
  induction vs with
  | nil=>intro k cs _;simp
  | cons v vs ih=>
   intro k cs hl
   simp only [List.length_cons] at hl
   simp only [List.zipIdx_cons,List.foldl_cons]
   rw [ih (k+1) (cs.setIfInBounds (off+k) v) (by simp;omega)]
   simp only [Array.toList_setIfInBounds]
   apply List.ext_getElem?
   intro j
   simp only [List.getElem?_append,List.getElem?_take,List.getElem?_drop,List.getElem?_set,List.length_take,List.length_set,Array.length_toList,List.length_cons]
   have e1:min (off+(k+1)) cs.size=off+k+1:=by omega
   have e2:min (off+k) cs.size=off+k:=by omega
   rw [e1,e2]
   by_cases h1:j < off+k
   ·have iJ:j < off+k+1:=by omega
    have dd:¬(off+k=j):=by omega
    have aoZ:j < off+(k+1):=by omega
    simp [h1,iJ,dd,aoZ]
   ·by_cases h2:j=off+k
    ·subst h2
     have h3:off+k < cs.size:=by omega
     have h4:off+k < off+(k+1):=by omega
     simp [h3,h4]
    ·have h3:¬j < off+k+1:=by omega
     simp only [h1,h3,if_false]
     obtain ⟨m,rfl⟩:∃m,j=off+k+1+m:=⟨j - (off+k+1),by omega⟩
     have e3:off+k+1+m - (off+k)=m+1:=by omega
     have e4:off+k+1+m - (off+k+1)=m:=by omega
     rw [e3,e4,List.getElem?_cons_succ]
     by_cases hm:m < vs.length
     ·have:m+1 < vs.length+1:=by omega
      simp [hm]
     ·have e5:off+(k+1)+vs.length+(m - vs.length)=off+k+1+m:=by omega
      have e6:off+k+(vs.length+1)+(m+1 - (vs.length+1))=off+k+1+m:=by omega
      have:¬(off+k=off+k+1+m):=by omega
      have e7:off+k+(vs.length+1)+(m - vs.length)=off+k+1+m:=by omega
      simp [hm,e5,e6,this,e7]
 have:=key vs 0 cs (by omega)
 simpa [Array.foldl_toList] using this
theorem VR.cells {σ:cg} {v v':Value} (h:VR σ v v'):VL σ v.cells.toList v'.cells.toList:=by
 cases h with
 | agg h1 h2=>exact (uj.Ez ⟨h1,h2⟩)
 | same hf=>
  cases v <;> first | (cases hf;done) | exact .cons (.same hf) (.nil σ)
 | ptr h=>exact .cons (.ptr h) (.nil σ)
 | slice h=>exact .cons (.slice h) (.nil σ)
 | zQ=>exact .cons .zQ (.nil σ)
 | func h1 h2 h3 h4=>exact .cons (.func h1 h2 h3 h4) (.nil σ)
 | tuple h1 h2=>exact .cons (.tuple h1 h2) (.nil σ)
inductive PL (σ:cg):List (Nat × Value)->List (Nat × Value)->Prop
 | nil:PL σ [] []
 | cons {i:Nat} {v v':Value} {l l':List (Nat × Value)}:VR σ v v'->PL σ l l'->PL σ ((i,v)::l) ((i,v')::l')
theorem TQ (cs:List Value) (o:Nat) (vs:List Value):IX cs o vs=cs.take o++(vs++cs.drop (o+vs.length)):=by
 unfold IX
 rw [IP,IN,yQ]
theorem TY {σ:cg} {place:Nat->Option (Nat × Nat)} {ps Ks:List (Nat × Value)} (hp:PL σ ps Ks):
  ∀{cs:List Value} {gi:Array Value} {out:List Value},Co place ps cs=some out->VL σ cs gi.toList->∃wL,Instr.fill place gi Ks=some wL/\VL σ out wL.toList:=by
 induction hp with
 | nil=>intro cs gi out h hv;cases h;exact ⟨gi,rfl,hv⟩
 | @cons i v v' l l' yk _ ih=>
  intro cs gi out h hv
  have h2:(match place i with
   | some (off,size)=>bif Nat.beq (ll v.cells.toList) size&&Nat.ble (off+size) (ll cs) then Co place l (IX cs off v.cells.toList) else none
   | none=>none)=some out:=h
  clear h
  cases dZ:place i with
  | none=>rw [dZ] at h2;cases h2
  | some os=>
   obtain ⟨off,size⟩:=os
   rw [dZ] at h2
   simp only [yQ,beq_eq,ble_eq] at h2
   have hvc:=yk.cells
   by_cases h1:v.cells.toList.length=size <;> by_cases h3:off+size<=cs.length <;> simp only [h1,h3,decide_true,decide_false,Bool.and_self,Bool.and_false,Bool.false_and,cond_true,cond_false] at h2 <;> try cases h2
   rw [TQ] at h2
   have dz:v'.cells.size=size:=by have:=hvc.1;simp at this h1;omega
   have mV:off+v'.cells.toList.length<=gi.size:=by have:=hv.1;simp at this;simp [dz];omega
   have hf:=afV v'.cells.toList gi off mV
   have l8:=hv.aiB hvc off
   rw [<-hf] at l8
   obtain ⟨wL,ho,R4⟩:=ih h2 l8
   refine ⟨wL,?_,R4⟩
   have bg:¬(gi.size < off+v'.cells.size):=by simp at mV;omega
   simp only [Instr.fill,dZ]
   rw [if_neg (by simp [dz];rw [dz] at bg;omega)]
   simpa using ho
theorem afb {fs:List Field} {pl:List (Nat × Nat)} (h:LU P fs=some pl) (w:World):
  (fs.mapM fun f=>Prod.mk f.offset <$> sizeOf f.type).run P w=.ok pl w:=by
 induction fs generalizing pl with
 | nil=>cases h;simp
 | cons f fs ih=>
  have h2:(match dm P f.type,LU P fs with
   | some n,some l=>some ((f.offset,n)::l)
   | _,_=>none)=some pl:=h
  clear h
  split at h2
  ·rename_i n l hn hl
   cases h2
   simp [List.mapM_cons,pj hn,ih hl]
  ·cases h2
theorem afu {σ:cg} {t:TypeId} {ps:List (Nat × Value)} {Ks:Array (Nat × Value)} {v:Value} {h h':KH} (hh:iA P t ps h=.ok v h') (hp:PL σ ps Ks.toList):
  h'=h/\Yl P σ v (Instr.build t Ks):=by
 unfold iA at hh
 split at hh
 ·rename_i z fs hz hu
  obtain ⟨i,zv,h1,h2,rfl,h3,h4⟩:=FA hz
  split at hh
  ·rename_i pl dZ
   split at hh
   ·rename_i cs bg
    cases hh
    obtain ⟨wL,ho,hv⟩:=TY hp bg (h4 σ)
    refine ⟨rfl,.agg wL,?_,fun w=>?_⟩
    ·have:=hv.yj
     simp only [Array.toArray_toList] at this
     exact .agg this.1 this.2
    ·have hm:(fs.mapM fun f=>Prod.mk f.offset <$> sizeOf f.type).run P w=.ok pl.toArray w:=by
      rw [Array.mapM_eq_mapM_toList,Sem.run_map,afb dZ];rfl
     have hpe:(fun i=>rF pl i)=fun x=>pl[x]?:=by funext i;rw [yP]
     rw [hpe] at ho
     simp [Instr.build,h3,run_underlying hu,hm,ho]
   ·cases hh
  ·cases hh
 ·rename_i z n e hz hu
  obtain ⟨i,zv,h1,h2,rfl,h3,h4⟩:=FA hz
  split at hh
  ·rename_i s hs
   split at hh
   ·rename_i cs bg
    cases hh
    obtain ⟨wL,ho,hv⟩:=TY hp bg (h4 σ)
    refine ⟨rfl,.agg wL,?_,fun w=>?_⟩
    ·have:=hv.yj
     simp only [Array.toArray_toList] at this
     exact .agg this.1 this.2
    ·simp [Instr.build,h3,run_underlying hu,pj hs,ho]
   ·cases hh
  ·cases hh
 ·cases hh
end
end Go.Proofs.YtebibeaobhcfkaaGreat.Ab
namespace Go.Proofs.YtebibeaobhcfkaaGreat.Ab
open Go Classical
namespace Tr
variable {α:Type}
theorem Uy (t:Tr α) {β:Type} (k:Tr α->β):t.now k=k t:=by cases t <;> rfl
end Tr
section
variable {P:Program}
theorem LI {w:World} {g base o n:Nat} {cs:Array Value} {e:TypeId} {fr:Nat × Nat} (hg:w.heap[g]?=some (.cells cs e fr)) (hs:base+o+n<=cs.size):
  (loadCells ⟨g,base+o,none⟩ n).run P w=.ok ((List.range n).map fun j=>cs.getD (base+(o+j)) undef).toArray w:=by
 refine run_loadCells w ⟨g,base+o,none⟩ n (fun j=>cs.getD (base+(o+j)) undef) fun j hj=>?_
 have bf:base+(o+j) < cs.size:=by omega
 rw [AH]
 simp [World.cell?,hg,Nat.add_assoc,Array.getD,bf]
def MT (x:Value):Nat->Prop:=fun b=>match x with
 | .pointer (some a)=>b=a.block
 | _=>False
end
end Go.Proofs.YtebibeaobhcfkaaGreat.Ab
namespace Go.Proofs.YtebibeaobhcfkaaGreat.Ab
open Go Classical
section
variable {P:Program}
theorem Px (v:Value) (l:List Value):lC (v::l)=Bool.rec (motive:=fun _=>Bool) false (lC l) (Ba v):=rfl
theorem VR.one {σ:cg} {v v':Value} (h:VR σ v v') (ho:Ba v=true):v'.oneCell'=true:=by
 cases h with
 | same hf=>cases v <;> first | rfl | cases hf
 | ptr=>rfl
 | slice=>rfl
 | zQ=>rfl
 | func=>rfl
 | agg=>cases ho
 | tuple=>cases ho
theorem VL.Vt {σ:cg}:∀{l l':List Value},VL σ l l'->lC l=true->∀v∈l',v.oneCell'=true
 | [],l',h,_=>by rw [h.of_nil];simp
 | x::l,l',h,ho=>by
  obtain ⟨x',a',rfl,hx,ha⟩:=h.of_cons
  rw [Px] at ho
  cases h1:Ba x
  ·rw [h1] at ho;cases ho
  ·rw [h1] at ho
   intro v hv
   rcases List.mem_cons.1 hv with rfl | hv
   ·exact hx.one h1
   ·exact VL.Vt ha ho v hv
theorem TP (cs vs:List Value) (p q:Nat) (h:p+vs.length<=cs.length):
  (cs.take p++vs++cs.drop (p+vs.length)).getD q undef=if p<=q/\q < p+vs.length then vs.getD (q - p) undef else cs.getD q undef:=by
 have e1:min p cs.length=p:=by omega
 simp only [List.getD_eq_getElem?_getD,List.getElem?_append,List.getElem?_take,List.getElem?_drop,List.length_append,List.length_take,e1]
 by_cases h1:q < p
 ·have h2:q < p+vs.length:=by omega
  simp [h1,h2]
  intro hx;omega
 ·by_cases h2:q < p+vs.length
  ·have h3:p<=q/\q < p+vs.length:=by omega
   simp [h1,h2,h3]
  ·have h3:¬(p<=q/\q < p+vs.length):=by omega
   have e2:p+vs.length+(q - (p+vs.length))=q:=by omega
   simp [h1,h2,h3,e2]
theorem aag {σ:cg} {w w1:World} {F:Nat->Prop} {H H':ad} {B:cO} {cs:Array Value} {room:Nat} (Kt:H.wf) (hr:Rel P σ F H.get w) (dH:H'.next=H.next+1)
  (QD:H'.get H.next=some B) (acL:∀x B2,x≠H.next->H'.get x=some B2->H.get x=some B2) (bk:sX σ H H') (gX:cs.size=B.cells.length+room * P.cellsOf B.elem)
  (hv:∀i,i < B.cells.length->VR σ (B.cells.getD i undef) (cs.getD i undef)) (Mo:B.iD=false->room=0) (fP:w1.heap=w.heap.push (.cells cs B.elem (0,0))) (Mn:w1.os=w.os/\w1.tape=w.tape/\w1.output=w.output:=by exact ⟨rfl,rfl,rfl⟩):
  kU P F σ H w (fun x=>if x=H.next then some ⟨w.heap.size,0,room,false⟩ else σ x) H' w1:=by
 have zR:∀b l,σ b=some l->(if b=H.next then some (⟨w.heap.size,0,room,false⟩:Loc) else σ b)=some l:=fun b l hb=>by
  by_cases hx:b=H.next
  ·subst hx;rw [bk H.next ⟨Nat.le_refl _,by omega⟩] at hb;cases hb
  ·rw [if_neg hx];exact hb
 have hold:∀k,k < w.heap.size->w1.heap[k]?=w.heap[k]?:=fun k hk=>by rw [fP,Array.getElem?_push_lt hk,Array.getElem?_eq_getElem hk]
 have wZ:w1.heap[w.heap.size]?=some (.cells cs B.elem (0,0)):=by rw [fP];simp
 have x6:∀x,fresh H H' x↔x=H.next:=fun x=>⟨fun h=>by have:=h.1;have:=h.2;omega,fun h=>⟨by omega,by omega⟩⟩
 have JA:∀x,x≠H.next->(H'.get x).isSome=true->∃B2,H.get x=some B2:=fun x hx hi=>by
  obtain ⟨B2,hB⟩:=Option.isSome_iff_exists.1 hi
  exact ⟨B2,acL x B2 hx hB⟩
 refine ⟨⟨fun b l B2 hb hs hg=>?_,fun b b' l l' hb dX hs dz hi dU ho fO he=>?_,fun b b' l l' hb hs dz hi ho fO=>?_,fun b l hs ho=>?_⟩,fun b hb=>if_neg (fun h=>hb ((x6 b).2 h)),by rw [fP];simp,fun k hk _=>hold k hk,fun k hk ⟨b,l,hb,hs,hi,ho,he⟩=>?_,fun b l hb hs=>?_,Mn⟩
 ·by_cases hx:b=H.next
  ·subst hx
   rw [QD] at hg
   simp only [if_true] at hs
   cases hg;cases hs
   exact BR.mk' ⟨cs,wZ,by simpa using gX,fun i hi=>by simpa using (hv i hi).mono zR⟩ Mo (fun _=>rfl)
  ·simp only [if_neg hx] at hs
   have hF:=hb.resolve_right (fun h=>hx ((x6 b).1 h))
   have di:=hr.bj b l B2 hF hs (acL b B2 hx hg)
   exact di.move zR (hold _ di.lt)
 ·have lt:∀b l,F b->σ b=some l->(∃B2,H.get b=some B2)->l.bj < w.heap.size:=fun b l hF hs ⟨B2,hB⟩=>(hr.bj b l B2 hF hs hB).lt
  by_cases hx:b=H.next <;> by_cases il:b'=H.next
  ·rw [hx,il]
  ·simp only [if_neg il] at dz
   have hF':=dX.resolve_right (fun h=>il ((x6 b').1 h))
   have:=lt b' l' hF' dz (JA b' il dU)
   simp only [if_pos hx] at hs
   cases hs
   simp only at he
   omega
  ·simp only [if_neg hx] at hs
   have hF:=hb.resolve_right (fun h=>hx ((x6 b).1 h))
   have:=lt b l hF hs (JA b hx hi)
   simp only [if_pos il] at dz
   cases dz
   simp only at he
   omega
  ·obtain ⟨B1,th⟩:=JA b hx hi
   obtain ⟨B2,jH⟩:=JA b' il dU
   simp only [if_neg hx] at hs
   simp only [if_neg il] at dz
   exact hr.inj b b' l l' (hb.resolve_right (fun h=>hx ((x6 b).1 h))) (dX.resolve_right (fun h=>il ((x6 b').1 h))) hs dz (by rw [th];rfl) (by rw [jH];rfl) ho fO he
 ·have il:b'≠H.next:=fun il=>by
   simp only [if_pos il] at dz
   cases dz;cases fO
  simp only [if_neg il] at dz
  by_cases hx:b=H.next
  ·simp only [if_pos hx] at hs
   cases hs
   simp only
   exact fun e=>Nat.lt_irrefl _ (e▸hr.au b' l' dz fO)
  ·obtain ⟨B1,th⟩:=JA b hx hi
   simp only [if_neg hx] at hs
   exact hr.sep b b' l l' (hb.resolve_right (fun h=>hx ((x6 b).1 h))) hs dz (by rw [th];rfl) ho fO
 ·have hx:b≠H.next:=fun hx=>by
   simp only [if_pos hx] at hs
   cases hs;cases ho
  simp only [if_neg hx] at hs
  have:=hr.au b l hs ho
  rw [fP];simp;omega
 ·by_cases hx:b=H.next
  ·simp only [if_pos hx] at hs
   cases hs
   simp only at he
   omega
  ·obtain ⟨B1,th⟩:=JA b hx hi
   simp only [if_neg hx] at hs
   exact ⟨b,l,hb.resolve_right (fun h=>hx ((x6 b).1 h)),hs,by rw [th];rfl,ho,he⟩
 ·have:=(x6 b).1 hb
  simp only [if_pos this] at hs
  cases hs;rfl
theorem T9 {σ:cg} {w w1:World} {F:Nat->Prop} {H H':ad} {B:cO} {cs:Array Value} {room:Nat} (Kt:H.wf) (hr:Rel P σ F H.get w) (dH:H'.next=H.next+1)
  (Gj:∀x,H'.get x=if x=H.next then some B else H.get x) (bk:sX σ H H') (gX:cs.size=B.cells.length+room * P.cellsOf B.elem)
  (hv:∀i,i < B.cells.length->VR σ (B.cells.getD i undef) (cs.getD i undef)) (Mo:B.iD=false->room=0) (fP:w1.heap=w.heap.push (.cells cs B.elem (0,0))) (Mn:w1.os=w.os/\w1.tape=w.tape/\w1.output=w.output:=by exact ⟨rfl,rfl,rfl⟩):
  kU P F σ H w (fun x=>if x=H.next then some ⟨w.heap.size,0,room,false⟩ else σ x) H' w1:=
 aag Kt hr dH (by rw [Gj,if_pos rfl]) (fun x B2 hx hg=>by rw [Gj,if_neg hx] at hg;exact hg) bk gX hv Mo fP Mn
end
end Go.Proofs.YtebibeaobhcfkaaGreat.Ab
namespace Go.Proofs.YtebibeaobhcfkaaGreat.Ab
open Go Classical
section
variable {P:Program}
theorem Ua {t t2 ty e e2:TypeId} {i:TypeInfo} (hu:P.underlying t=some (.slice e)) (yl:P.underlying t2=some (.slice e2)) (hi:P.info? e=some i) {base xb:Option Addr} {sl sc n xc:Nat}
  {new:Array Value} {w:World} (i4:(Builtin.firstCells i.size n (.slice xb n xc)).run P w=.ok new w) (hle:sl+n<=sc):
  (Builtin.append_ #[t,t2] ty #[.slice base sl sc,.slice xb n xc]).run P w=match base with
   | some a=>((storeCells (a.add (sl * i.size)) new.toList).run P w).andThen fun _ w=>.ok (.slice base (sl+n) sc) w
   | none=>.ok (.slice base (sl+n) sc) w:=by
 cases base <;> simp [Builtin.append_,run_underlying hu,run_underlying yl,sizeOf,typeInfo,hi,Builtin.lenOf,hle,i4]
theorem Ub {t t2 ty e e2:TypeId} {i:TypeInfo} {z:Value} (hu:P.underlying t=some (.slice e)) (yl:P.underlying t2=some (.slice e2)) (hi:P.info? e=some i) (hz:i.zero=some z) {base xb:Option Addr} {sl sc n xc:Nat}
  {au new:Array Value} {w:World} (hold:(Builtin.firstCells i.size sl (.slice base sl sc)).run P w.drew=.ok au w.drew)
  (i4:(Builtin.firstCells i.size n (.slice xb n xc)).run P w.drew=.ok new w.drew) (bf:sc < sl+n)
  (w8:sl+n < 9223372036854775808) (hb:(sl+n) * i.bytes < 140737488355328):
  (Builtin.append_ #[t,t2] ty #[.slice base sl sc,.slice xb n xc]).run P w=
   .ok (.slice (some ⟨w.heap.size,0,none⟩) (sl+n) (grownCap w (sl+n) sc e)) (w.drew.alloc (.cells (au++new++Builtin.zeroCells z.cells (grownCap w (sl+n) sc e - (sl+n))) e)):=by
 have hn:¬(sl+n<=sc):=by omega
 have ao0:¬(9223372036854775807 < ((sl:Int)+(n:Int))):=by omega
 have hf:=growslice_fits (bytes:=i.bytes) bf (by omega)
 have ao1:¬(281474976710656 < Builtin.nextslicecap (sl+n) sc * i.bytes):=by omega
 simp [Builtin.append_,run_underlying hu,run_underlying yl,sizeOf,typeInfo,zeroValue,hi,hz,Builtin.lenOf,hn,ao0,ao1,Question.forced,hold,i4,newRow,grownCap]
theorem grownCap_le (w:World) (adI au:Nat) (e:TypeId):adI<=grownCap w adI au e:=by
 unfold grownCap Question.cut
 exact Nat.le_add_right _ _
theorem TN (z:Array Value) (n:Nat):(Builtin.zeroCells z n).size=n * z.size:=by simp [Builtin.zeroCells]
theorem aaA (l:List Value) (z:Array Value) (j:Nat) (hj:j < l.length):(l.toArray++z).getD j undef=l.getD j undef:=by
 simp [Array.getD_eq_getD_getElem?,List.getD_eq_getElem?_getD,Array.getElem?_append,hj]
end
end Go.Proofs.YtebibeaobhcfkaaGreat.Ab
namespace Go.Proofs.YtebibeaobhcfkaaGreat.Ab
open Go Classical
section
variable {P:Program}
theorem DI {F:Nat->Prop} {o:Oper} {t:Act} {H H':ad} {v:Value} (h:∀(σ:cg) (w:World) (a:Act),Rel P σ F H.get w->sX σ H H'->(∀x∈o.op.operands,VR σ (t.eval x) (a.eval x))->
  ∃σ' v' w',kU P F σ H w σ' H' w'/\VR σ' v v'/\((execOp a.eval o).run P w=.ok (.value v') w'∨((execOp a.eval o).run P w=.ok .skip w'/\v'=undef))):wW P F o t H v H':=by
 intro σ w a K Q hr hf hx hk
 obtain ⟨σ',v',w',hp,hv,eY⟩:=h σ w a hr hf hx
 unfold Oper.wp
 rcases eY with eY | ⟨eY,rfl⟩
 ·rw [eY];exact hk σ' v' w' hp hv
 ·rw [eY];exact hk σ' undef w' hp hv
theorem Yl.exec {σ:cg} {v:Value} {s:Sem Value} {n:Sem Next} (hy:Yl P σ v s) (he:n=(do pure (.value (<-s)))):∃v',VR σ v v'/\∀w,n.run P w=.ok (.value v') w:=by
 obtain ⟨v',h1,h2⟩:=hy
 exact ⟨v',h1,fun w=>by rw [he];simp [h2]⟩
theorem afc (x:Value) (l:List Value):L7 (x::l)=match x,L7 l with
  | .int .u8 n,some l=>some (n::l)
  | _,_=>none:=rfl
theorem ZU {σ:cg}:∀{l:List Value} {ns:List Int} {l':List Value},L7 l=some ns->VL σ l l'->l'=ns.map (Value.int .u8)
 | [],ns,l',h,hv=>by cases h;exact hv.of_nil
 | x::l,ns,l',h,hv=>by
  obtain ⟨x',a',rfl,hx,ha⟩:=hv.of_cons
  have h2:=h
  rw [afc] at h2
  clear h hv
  split at h2
  ·rename_i n l0 uq
   cases h2
   rw [hx.int,ZU uq ha];rfl
  ·cases h2
theorem Z1:∀(ns:List Int) (s:ByteArray),ns.foldl (fun r n=>r.push (UInt8.ofNat n.toNat)) s=⟨s.data++(List.rec (motive:=fun _=>List UInt8) [] (fun n _ r=>UInt8.ofNat n.toNat::r) ns:List UInt8).toArray⟩
 | [],s=>by
  apply ByteArray.ext
  simp
 | n::ns,s=>by
  rw [List.foldl_cons,Z1 ns]
  apply ByteArray.ext
  apply Array.ext'
  simp [ByteArray.push]
end
end Go.Proofs.YtebibeaobhcfkaaGreat.Ab
namespace Go.Proofs.YtebibeaobhcfkaaGreat.Ab
open Go Classical
section
variable {P:Program}
theorem Z2 (z:List Value):∀k,(fW z k).length=k * z.length
 | 0=>by simp only [Nat.zero_mul];rfl
 | k+1=>by
  have:fW z (k+1)=z++fW z k:=rfl
  rw [this,List.length_append,Z2 z k,Nat.add_mul];omega
theorem TO (z:Array Value) (hz:0 < z.size):∀k,((Array.range (k * z.size)).map (fun i=>z[i % z.size]!)).toList=fW z.toList k:=by
 have key:∀k i,i < k * z.size->(fW z.toList k)[i]?=z[i % z.size]?:=by
  intro k
  induction k with
  | zero=>intro i hi;simp at hi
  | succ k ih=>
   intro i hi
   have e:fW z.toList (k+1)=z.toList++fW z.toList k:=rfl
   rw [e]
   by_cases h:i < z.size
   ·rw [List.getElem?_append_left (by simpa using h),Nat.mod_eq_of_lt h];simp
   ·rw [List.getElem?_append_right (by simpa using Nat.le_of_not_lt h)]
    have h2:i - z.toList.length < k * z.size:=by simp;rw [Nat.add_mul] at hi;omega
    rw [ih _ h2]
    congr 1
    simp only [Array.length_toList]
    conv=>rhs;rw [show i=i - z.size+z.size by omega,Nat.add_mod_right]
 intro k
 apply List.ext_getElem?
 intro i
 by_cases hi:i < k * z.size
 ·rw [key k i hi]
  have hm:i % z.size < z.size:=Nat.mod_lt _ hz
  simp [hi,hm]
 ·rw [List.getElem?_eq_none (by simpa using hi),List.getElem?_eq_none (by rw [Z2];simpa using hi)]
theorem IH (w:World) (e:TypeId) (cs:Array Value):(newRow e cs).run P w=.ok ⟨w.heap.size,0,none⟩ (w.alloc (.cells cs e)):=rfl
theorem UX {σ:cg} {ρ ρ':Operand->Value}:∀{ps:List (Nat × Operand)},(∀p∈ps,VR σ (ρ p.2) (ρ' p.2))->PL σ (parts ρ ps) (ps.map fun (i,x)=>(i,ρ' x))
 | [],_=>.nil
 | p::ps,h=>.cons (h p (by simp)) (UX fun q hq=>h q (by simp [hq]))
theorem L9 {σ:cg} {ρ ρ':Operand->Value}:∀{l:List Operand},(∀x∈l,VR σ (ρ x) (ρ' x))->VL σ (qL ρ l) (l.map ρ')
 | [],_=>.nil σ
 | x::l,h=>.cons (h x (by simp)) (L9 fun y hy=>h y (by simp [hy]))
theorem Uz {σ:cg} {ρ ρ':Operand->Value} {x:Option Operand} (h:∀y∈x.toArray,VR σ (ρ y) (ρ' y)):OV σ (x.map ρ) (x.map ρ'):=by
 cases x with
 | none=>exact .inl ⟨rfl,rfl⟩
 | some y=>exact .inr ⟨_,_,rfl,rfl,h y (by simp)⟩
theorem afv {o:Oper} {t:Act} {H H':ad} {v:Value} (hw:H.wf) (h:wW P eg o t H v H'):wW P (fun x=>x < H.next) o t H v H':=by
 intro σ w a K Q hr hf hx hk
 have lt:∀b,(H.get b).isSome=true->b < H.next:=fun b hi=>by
  rcases Nat.lt_or_ge b H.next with h1 | h1
  ·exact h1
  ·rw [hw b h1] at hi;cases hi
 refine h σ w a K Q ⟨fun b l B _ hs hg=>hr.bj b l B (lt b (by rw [hg];rfl)) hs hg,fun b b' l l' _ _ hs dz hi dU=>hr.inj b b' l l' (lt b hi) (lt b' dU) hs dz hi dU,fun b b' l l' _ hs dz hi=>hr.sep b b' l l' (lt b hi) hs dz hi,hr.au⟩ hf hx ?_
 intro σ' v' w' hp hv
 exact hk σ' v' w' ⟨hp.rel.sub fun _ _=>.inl trivial,hp.ext,hp.size,
  fun k fQ hn=>hp.ae k fQ (fun ⟨b,l,_,hs,hi,he⟩=>hn ⟨b,l,lt b hi,hs,hi,he⟩),fun k fQ ⟨b,l,_,hx⟩=>let ⟨b0,l0,_,hs,hi,he⟩:=hp.qg k fQ ⟨b,l,.inl trivial,hx⟩;⟨b0,l0,lt b0 hi,hs,hi,he⟩,hp.vG,hp.rest⟩ hv
end
end Go.Proofs.YtebibeaobhcfkaaGreat.Ab
namespace Go.Proofs.YtebibeaobhcfkaaGreat.Ab
open Go Classical
section
variable {P:Program}
structure TK (n:Nat) (t:Act) (tm:Tr Value):Prop where
 get:∀i,t.tmps.getD i undef=(tm.get i).getD undef
 size:t.tmps.size=n
 NO:t.defers=[]
theorem ZP {n:Nat} {ops:Array Oper} (h:LV n ops=true) {i:Nat} {o:Oper} (ho:ops[i]?=some o):
  o.op.operands.all uQ=true/\∀x,o.dst=some x->x < n:=by
 unfold LV at h
 rw [List.all_eq_true] at h
 have:=h o (by rw [Array.mem_toList_iff];exact Array.mem_of_getElem? ho)
 rw [Bool.and_eq_true] at this
 refine ⟨this.1,fun x hx=>?_⟩
 have h2:=this.2
 rw [hx] at h2
 simpa [blt_eq] using h2
def R5 (a:Act):ResultVar->Sem Value
 | .tmp t=>pure (a.tmps.getD t undef)
 | .cell x ty=>do loadVar ty (<-asAddr (a.tmps.getD x undef))
end
end Go.Proofs.YtebibeaobhcfkaaGreat.Ab
namespace Go.Proofs.YtebibeaobhcfkaaGreat.Ab
open Go Classical
section
variable {P:Program}
def KO.yV:KO->Bool
 | .call _ _=>true
 | _=>false
theorem LW (cs:List Value) (e:TypeId) (o:Bool) (k:Nat->Value) (h:KH):(D9 cs e o k h).yV=false:=by
 unfold D9
 simp only [Qn,Tr.Uy,cond_eq_ite]
 split <;> rfl
theorem TZ (b o:Nat) (vs:List Value) (v:Value) (h:KH):(L6 b o vs v h).yV=false:=by
 unfold L6
 simp only [Qn,Tr.Uy,cond_eq_ite]
 (repeat' split) <;> rfl
theorem agI (e:TypeId) (size sl n b:Nat) (B:KB) (new:List Value) (h:KH):(UT e size sl n b B new h).yV=false:=by
 unfold UT
 simp only [Qn,Tr.Uy,cond_eq_ite]
 (repeat' split) <;> rfl
theorem agJ (t:TypeId) (v:Value) (h:KH):(UR P t v h).yV=false:=by
 unfold UR
 simp only [cond_eq_ite]
 (repeat' split) <;> rfl
theorem afW (t:TypeId) (a v:Value) (h:KH):(Uw P t a v h).yV=false:=by
 unfold Uw
 simp only [cond_eq_ite]
 (repeat' split) <;> first | rfl | exact TZ ..
theorem afw (t:TypeId) (s x:Value) (h:KH):(Um P t s x h).yV=false:=by
 unfold Um
 simp only [cond_eq_ite]
 (repeat' split) <;> first | rfl | exact TZ .. | exact agI .. | exact LW ..
theorem agK (t:TypeId) (d x:Value) (h:KH):(UU P t d x h).yV=false:=by
 unfold UU
 simp only [Qn,cond_eq_ite]
 (repeat' split) <;> first | rfl | exact TZ ..
theorem abm (t:TypeId) (x:Value) (h:KH):(x4 P t x h).yV=false:=by
 unfold x4
 (repeat' split) <;> rfl
theorem abn (m:Bool) (x y:Value) (h:KH):(zd m x y h).yV=false:=by
 unfold zd
 simp only [cond_eq_ite]
 (repeat' split) <;> rfl
theorem abo {ev:Operand->Value} {op:Op} {h:KH} {f:FuncId} {args:Array Value} (hh:NM P ev op h=.call f args):∃c fv,op=.call c/\c.callee=.value fv/\xS P (ev fv) (qL ev c.args.toList).toArray=.call f args:=by
 have key:(NM P ev op h).yV=true:=by rw [hh];rfl
 cases op <;> simp only [NM] at hh key <;> try (cases key;done)
 case pick=>unfold DP at key;(repeat' split at key) <;> cases key
 case alloc=>
  unfold abW at key
  split at key
  ·rw [LW] at key;cases key
  ·cases key
 case box=>rw [LW] at key;cases key
 case build=>unfold iA at key;(repeat' split at key) <;> cases key
 case buildSlice=>
  unfold ZT at key
  simp only [cond_eq_ite] at key
  (repeat' split at key) <;> first | (cases key;done) | (rw [LW] at key;cases key)
 case load=>rw [agJ] at key;cases key
 case store=>rw [afW] at key;cases key
 case nilCheck=>unfold Ea at key;(repeat' split at key) <;> cases key
 case binOp=>unfold dS at key;(repeat' split at key) <;> cases key
 case unOp=>unfold Ew at key;(repeat' split at key) <;> cases key
 case convert=>
  unfold acI aae at key
  (repeat' split at key) <;> cases key
 case makeSlice=>
  unfold ZX at key
  simp only [cond_eq_ite] at key
  (repeat' split at key) <;> first | (cases key;done) | (rw [LW] at key;cases key)
 case slice=>
  unfold pk at key
  simp only [oQ,cond_eq_ite] at key
  (repeat' split at key) <;> cases key
 case fieldAddr=>
  unfold BX at key
  simp only [cond_eq_ite] at key
  (repeat' split at key) <;> cases key
 case field=>unfold Cg at key;(repeat' split at key) <;> cases key
 case indexAddr=>
  unfold BY at key
  simp only [cond_eq_ite] at key
  (repeat' split at key) <;> cases key
 case index=>
  unfold Ch at key
  simp only [cond_eq_ite] at key
  (repeat' split at key) <;> cases key
 case extract=>unfold Ca at key;(repeat' split at key) <;> cases key
 case call c=>
  cases hc:c.callee with
  | value fv=>simp only [Jy,hc] at hh;exact ⟨c,fv,rfl,hc,hh⟩
  | invoke r m=>simp only [Jy,hc] at hh;cases hh
  | builtin b=>
   simp only [Jy,hc] at key
   unfold biK at key
   (repeat' split at key) <;> first | (cases key;done) | (rw [abm] at key;cases key) | (rw [afw] at key;cases key) | (rw [abn] at key;cases key) | (rw [agK] at key;cases key)
theorem ahB {o:Oper} {t:Act} {h:KH} {f:FuncId} {args:Array Value} {H H':ad} {v:Value} (hh:NM P t.eval o.op h=.call f args) (ym:Xc P f args H v H'):wW P eg o t H v H':=by
 obtain ⟨c,fv,ho,hc,hk⟩:=abo hh
 unfold xS at hk
 split at hk
 ·rename_i g first cap hfv
  split at hk
  ·rename_i fn hg
   simp only [cond_eq_ite] at hk
   split at hk
   ·cases hk
   ·rename_i mU
    cases hk
    intro σ w a K Q hr hf hx al2
    have h1:=hx fv (by rw [ho];simp [Op.operands,Call.operands,hc])
    rw [hfv] at h1
    obtain ⟨ab2,adJ,he,R6,fg⟩:=h1.aay
    have AY:=L9 (σ:=σ) (ρ:=t.eval) (ρ':=a.eval) (l:=c.args.toList) fun x hZ=>hx x (by rw [ho];simp [Op.operands,Call.operands,hc];exact .inr (by simpa using hZ))
    have fG:=((R6.Ez.append AY).append fg.Ez).yj
    have ud:((ab2.toList++c.args.toList.map a.eval)++adJ.toList).toArray=ab2++c.args.map a.eval++adJ:=by apply Array.ext';simp
    rw [ud] at fG
    rw [Bool.or_eq_true,not_or] at mU
    have al3:¬(fn.name= "runtime.NumGoroutine"):=by simpa using mU.1
    have aiC:(fn.name== "runtime.NumGoroutine")=false:=by simpa using al3
    have al4:fn.body.isNone=false:=Bool.eq_false_iff.2 mU.2
    unfold Oper.wp execOp
    rw [ho]
    simp only [resolve,hc,Deferred.ofValue,he,Sem.run_bind,Sem.run_pure,Result.andThen_ok,invoke,callFunc,run_program,hg,aiC,al4,Bool.false_eq_true,if_false,Oper.upon]
    refine Calls.mono (ym σ w _ hr hf fG) ?_
    rintro e w' ⟨σ',v',rfl,hp,hv⟩
    exact al2 σ' v' w' hp hv
  ·cases hk
 ·cases hk
end
end Go.Proofs.YtebibeaobhcfkaaGreat.Ab
namespace Go.Proofs.YtebibeaobhcfkaaGreat.Ab
open Go Classical
section
variable {P:Program}
structure PT (P:Program) (ops:Array Oper) (m:Nat) where
 t:Nat->Act
 H:Nat->ad
 v:Nat->Value
 F:Nat->Nat->Prop
 wf:(H 0).wf
 step:∀(i:Nat) (o:Oper),i < m->ops[i]?=some o->vh P ops (F i) o (t i) (H i) (v i) (H (i+1))
 put:∀(i:Nat) (o:Oper),i < m->ops[i]?=some o->t (i+1)=(t i).put o.dst (v i)
 om:∀i,i < m->jE (F i) (H i) (H (i+1))
 iD:∀(i:Nat) (o:Oper),i < m->ops[i]?=some o->o.op.operands.all uQ=true
 lt:∀i b,i < m->F i b->b < (H i).next
end
theorem nr {α:Sort _} {a b:α} (h:a=b):a=b:=h
section
variable {P:Program} {ov:Ov} {rec:Nat->Code->Tr Value->KH->Lg->CR} {n:Nat} {tm:Tr Value} {h:KH} {g:Lg}
theorem ahC {d:Option Nat} {op:Op} {ty:TypeId} {pos:String} {CW:Array Edge} {gd:Option (Nat × Bool)} {l:List Oper}:List.map (fun o:Oper=>o.dst) (⟨d,op,ty,pos,CW,gd⟩::l)=d::List.map (fun o:Oper=>o.dst) l:=nr rfl
theorem aiD:List.map (fun o:Oper=>o.dst) []=[]:=nr rfl
section ops
variable {ev:Operand->Value}
theorem afX {a b:Value}:DP (.bool true) a b h=.ok a h:=nr rfl
theorem afx {a b:Value}:DP (.bool false) a b h=.ok b h:=nr rfl
theorem aiE {b:Bool}:Ew .not (.bool b) h=.ok (.bool (!b)) h:=nr rfl
end ops
theorem ahD {a:Addr}:Ea (.pointer (some a)) h=.ok (.pointer (some a)) h:=nr rfl
end
def ahE:Op->Bool
 | .move _ | .assign _ | .pick _ _ _ | .load _ _ | .nilCheck _ | .binOp _ _ _ _ _ | .unOp _ _ _ | .fieldAddr _ _ _ | .field _ _ _ | .indexAddr _ _ _ | .index _ _ _ | .extract _ _=>true
 | _=>false
section
variable {P:Program} {ov:Ov} {rec:Nat->Code->Tr Value->KH->Lg->CR} {n:Nat} {tm:Tr Value} {h:KH} {g:Lg}
theorem ahF {ev:Operand->Value}:qL ev []=[]:=nr rfl
theorem agL {ev:Operand->Value} {x:Operand} {l:List Operand}:qL ev (x::l)=ev x::qL ev l:=nr rfl
end
end Go.Proofs.YtebibeaobhcfkaaGreat.Ab
namespace Go.Proofs.YtebibeaobhcfkaaGreat.Ab
open Go Classical
def ad.ai (H:ad) (b:Nat) (B:cO):ad:=⟨H.next,fun x=>if x=b then some B else H.get x,H.fz⟩
def ad.push (H:ad) (B:cO):ad:=⟨H.next+1,fun x=>if x=H.next then some B else H.get x,fun x=>x==H.next||H.fz x⟩
def ad.grow (H:ad) (b:Nat) (B:cO):ad:=⟨H.next+1,fun x=>if x=H.next then some B else if x=b then none else H.get x,fun x=>x==H.next||H.fz x⟩
theorem ad.AZ {H:ad} (hw:H.wf) {b:Nat} {B:cO} (h:H.get b=some B):b < H.next:=by
 rcases Nat.lt_or_ge b H.next with h1 | h1
 ·exact h1
 ·rw [hw b h1] at h;cases h
inductive AO where
 | no
 | ok (v:Value) (H:ad)
 | call (f:FuncId) (args:Array Value)
def cY (cs:List Value) (o:Nat) (vs:List Value):List Value:=cs.take o++(vs++cs.drop (o+vs.length))
section
variable (P:Program)
noncomputable def vi (ty:TypeId) (o:Nat) (B:Option cO):Option Value:=match B with
 | some B=>match gg P ty with
  | some true=>match dm P ty with
   | some n=>if o+n<=B.cells.length then some (.agg ((B.cells.drop o).take n).toArray) else none
   | none=>none
  | some false=>B.cells[o]?
  | none=>none
 | none=>none
noncomputable def tU (ty:TypeId) (v:Value) (H:ad):AO:=match v with
 | .pointer (some ⟨b,o,none⟩)=>match vi P ty o (H.get b) with
  | some v=>.ok v H
  | none=>.no
 | _=>.no
noncomputable def sT (b o:Nat) (vs:List Value) (v:Value) (H:ad):AO:=match H.get b with
 | some B=>if o+vs.length<=B.cells.length/\lC vs=true/\B.ro=false then .ok v (H.ai b ⟨cY B.cells o vs,B.elem,B.iD,false⟩) else .no
 | none=>.no
noncomputable def Ci (ty:TypeId) (a x:Value) (H:ad):AO:=match a with
 | .pointer (some ⟨b,o,none⟩)=>match dm P ty with
  | some n=>if x.cells.toList.length=n then sT b o x.cells.toList undef H else .no
  | none=>.no
 | _=>.no
noncomputable def s0 (cs:List Value) (elem:TypeId) (iD:Bool) (k:Nat->Value) (H:ad):AO:=.ok (k H.next) (H.push ⟨cs,elem,iD,false⟩)
noncomputable def DJ (t:TypeId) (H:ad):AO:=match fx P t with
 | some z=>s0 z t false ptrTo H
 | none=>.no
noncomputable def qx (t:TypeId) (len:Nat) (parts:List (Nat × Value)) (H:ad):AO:=match P.underlying t with
 | some (.slice e)=>match dm P e,fx P e with
  | some n,some z=>if len * n<=16777216/\0 < n/\z.length=n then (match Co (fun i=>some (i * n,n)) parts (fW z len) with
   | some cs=>s0 cs e false (fun b=>.slice (some ⟨b,0,none⟩) len len) H
   | none=>.no) else .no
  | _,_=>.no
 | _=>.no
noncomputable def FB (t:TypeId) (l c:Value) (H:ad):AO:=match P.underlying t,l,c with
 | some (.slice e),.int .i64 (.ofNat l),.int .i64 (.ofNat c)=>match P.info? e,fx P e with
  | some i,some z=>if l<=c/\i.bytes * c<=281474976710656/\0 < i.size/\c < 9223372036854775808/\z.length=i.size then s0 (fW z c) e false (fun b=>.slice (some ⟨b,0,none⟩) l c) H else .no
  | _,_=>.no
 | _,_,_=>.no
noncomputable def qG (size:Nat) (x:Value) (H:ad):Option (Nat × List Value):=match x with
 | .slice a n _=>if n=0 then some (0,[]) else (match a with
  | some ⟨b,o,none⟩=>(match H.get b with
   | some B=>if o+n * size<=B.cells.length then some (n,(B.cells.drop o).take (n * size)) else none
   | none=>none)
  | _=>none)
 | _=>none
noncomputable def iZ (t:TypeId) (s x:Value) (H:ad):AO:=match P.underlying t with
 | some (.slice e)=>match P.info? e,fx P e with
  | some i,some z=>match qG i.size x H with
   | some (n,new)=>if z.length=i.size/\n * i.bytes < 140737488355328/\n < 9223372036854775808/\0 < i.bytes then (match s with
    | .slice none sl sc=>if sl=0/\sc=0 then
      (if n=0 then .ok s H else s0 new e true (fun b=>.slice (some ⟨b,0,none⟩) n n) H) else .no
    | .slice (some ⟨b,o,none⟩) sl sc=>match H.get b with
     | some B=>if sl+n<=sc then
       (if o+sc * i.size<=B.cells.length then sT b (o+sl * i.size) new (.slice (some ⟨b,o,none⟩) (sl+n) sc) H else .no)
      else if (sl+n) * i.bytes < 140737488355328/\sl+n < 9223372036854775808/\o+sc * i.size=B.cells.length/\sl<=sc/\B.elem=e/\B.ro=false then
       (if B.iD=true then
         (if o=0/\lC new=true then .ok (.slice (some ⟨H.next,0,none⟩) (sl+n) (sl+n)) (H.grow b ⟨B.cells.take (sl * i.size)++new,e,true,false⟩) else .no)
        else s0 ((B.cells.drop o).take (sl * i.size)++new) e true (fun b=>.slice (some ⟨b,0,none⟩) (sl+n) (sl+n)) H)
      else .no
     | none=>.no
    | _=>.no) else .no
   | none=>.no
  | _,_=>.no
 | _=>.no
noncomputable def Cq (t:TypeId) (d x:Value) (H:ad):AO:=match P.underlying t with
 | some (.slice e)=>match dm P e,d,x with
  | some size,.slice (some ⟨b,o,none⟩) dn _,.slice (some ⟨b2,o2,none⟩) n _=>match H.get b2 with
   | some B=>if o2+min n dn * size<=B.cells.length then sT b o ((B.cells.drop o2).take (min n dn * size)) (.int .i64 (.ofNat (min n dn))) H else .no
   | none=>.no
  | some _,.slice a dn _,.slice a2 n _=>if dn=0∨n=0 then .ok (.int .i64 (.ofNat 0)) H else .no
  | _,_,_=>.no
 | _=>.no
noncomputable def Ma (t:TypeId) (x:Value) (H:ad):AO:=match P.underlying t,x with
 | some (.slice e),.slice a n _=>if n=0 then .ok (.tuple #[]) H else (match a with
  | some ⟨b,o,none⟩=>match fx P e with
   | some z=>if 0 < z.length then sT b o (fW z n) (.tuple #[]) H else .no
   | none=>.no
  | _=>.no)
 | _,_=>.no
noncomputable def adK (ns:List Int):List UInt8:=List.rec (motive:=fun _=>List UInt8) [] (fun n _ r=>UInt8.ofNat n.toNat::r) ns
noncomputable def LJ (x:Value) (H:ad):AO:=match qG 1 x H with
 | some (_,l)=>match L7 l with
  | some ns=>.ok (.string ⟨(adK ns).toArray⟩) H
  | none=>.no
 | none=>.no
noncomputable def h0:KH:=⟨.lf,0,0⟩
def iq (r:KO) (H:ad):AO:=match r with
 | .ok v _=>.ok v H
 | .no=>.no
 | .call f a=>.call f a
noncomputable def yZ (src dst:TypeId) (x:Value) (H:ad):AO:=match P.underlying src,P.underlying dst with
 | some (.int _),some (.int k)=>(match x with
  | .int _ n=>.ok (.int k (nZ k n)) H
  | _=>.no)
 | some (.slice e),some .string=>match P.underlying e with
  | some (.int .u8)=>LJ x H
  | _=>.no
 | _,_=>.no
noncomputable def NY (b:Builtin) (ts:Array TypeId) (args:List Value) (H:ad):AO:=match b,args with
 | .len,[x]=>match ts.toList with
  | t::_=>iq (x4 P t x h0) H
  | _=>.no
 | .append,[s,x]=>match ts.toList with
  | [t,t2]=>match P.underlying t2 with
   | some (.slice _)=>iZ P t s x H
   | _=>.no
  | _=>.no
 | .copy,[d,x]=>match ts.toList with
  | t::_=>Cq P t d x H
  | _=>.no
 | .clear,[x]=>match ts.toList with
  | t::_=>Ma P t x H
  | _=>.no
 | .min,[x,y]=>iq (zd false x y h0) H
 | .max,[x,y]=>iq (zd true x y h0) H
 | _,_=>.no
noncomputable def JB (ev:Operand->Value) (c:Call) (H:ad):AO:=match c.callee with
 | .value f=>iq (xS P (ev f) (qL ev c.args.toList).toArray) H
 | .builtin b=>NY P b c.argTypes (qL ev c.args.toList) H
 | _=>.no
noncomputable def pB (ev:Operand->Value) (op:Op) (H:ad):AO:=match op with
 | .move x=>.ok (ev x) H
 | .assign x=>.ok (ev x) H
 | .pick c a b=>iq (DP (ev c) (ev a) (ev b) h0) H
 | .alloc t=>DJ P t H
 | .box t x=>s0 (ev x).cells.toList t false ptrTo H
 | .build t ps=>iq (iA P t (parts ev ps.toList) h0) H
 | .buildSlice t n ps=>qx P t n (parts ev ps.toList) H
 | .load t a=>tU P t (ev a) H
 | .store t a x=>Ci P t (ev a) (ev x) H
 | .nilCheck x=>iq (Ea (ev x) h0) H
 | .binOp op t x y _=>iq (dS P op t (ev x) (ev y) h0) H
 | .unOp op _ x=>iq (Ew op (ev x) h0) H
 | .convert s d x=>yZ P s d (ev x) H
 | .makeFunc f first cap=>.ok (.func f (qL ev first.toList).toArray (qL ev cap.toList).toArray) H
 | .makeSlice t l c=>FB P t (ev l) (ev c) H
 | .slice t x lo hi mx=>iq (pk P t (ev x) (lo.map ev) (hi.map ev) (mx.map ev) h0) H
 | .fieldAddr s x f=>iq (BX P s (ev x) f h0) H
 | .field t x f=>iq (Cg P t (ev x) f h0) H
 | .indexAddr t x i=>iq (BY P t (ev x) (ev i) h0) H
 | .index t x i=>iq (Ch P t (ev x) (ev i) h0) H
 | .extract t i=>iq (Ca (ev t) i h0) H
 | .call c=>JB P ev c H
 | _=>.no
end
section
variable {P:Program}
structure zg (P:Program) (F:Nat->Prop) (o:Oper) (t:Act) (H:ad) (v:Value) (H':ad):Prop where
 om:jE F H H'
 op:wW P F o t H v H'
theorem qy {F:Nat->Prop} {o:Oper} {t:Act} {H:ad} {v:Value} (hw:H.wf)
  (hy:∀(σ:cg) (a:Act),(∀x∈o.op.operands,VR σ (t.eval x) (a.eval x))->∃v',VR σ v v'/\∀w,(execOp a.eval o).run P w=.ok (.value v') w):zg P F o t H v H:=
 ⟨.refl hw,DI fun σ w a hr hf hx=>let ⟨v',h1,h2⟩:=hy σ a hx;⟨σ,v',w,.refl hr rfl,h1,.inl (h2 w)⟩⟩
theorem pS {r:KO} {H H':ad} {v:Value} (h:iq r H=.ok v H'):∃h',r=.ok v h'/\H'=H:=by
 cases r with
 | ok v1 h1=>cases h;exact ⟨_,rfl,rfl⟩
 | no=>cases h
 | call f a=>cases h
theorem Uc {H:ad} {B:cO} (hw:H.wf) (F:Nat->Prop):jE F H (H.push B):=
 ⟨Nat.le_succ _,fun b hb=>by
  have dX:H.next+1<=b:=hb
  show (if b=H.next then some B else H.get b)=none
  rw [if_neg (by omega)];exact hw b (by omega),fun b hb _=>by
  show (if b=H.next then some B else H.get b)=_
  rw [if_neg (by omega)]⟩
theorem ahG {H:ad} {b:Nat} {B:cO} (hw:H.wf) (hb:b < H.next):jE (fun x=>x=b) H (H.ai b B):=
 ⟨Nat.le_refl _,fun x hx=>by
  have il:H.next<=x:=hx
  show (if x=b then some B else H.get x)=none
  rw [if_neg (by omega)];exact hw x il,fun x hx hn=>by
  show (if x=b then some B else H.get x)=_
  rw [if_neg hn]⟩
theorem P7 {F:Nat->Prop} {o:Oper} {t:Act} {H H':ad} {v:Value} {cs:List Value} {elem:TypeId} {k:Nat->Value} (hw:H.wf) (hh:s0 cs elem false k H=.ok v H')
  (eY:∀(σ:cg) (w:World) (a:Act),(∀x∈o.op.operands,VR σ (t.eval x) (a.eval x))->∃gi:Array Value,VL σ cs gi.toList/\
   ∃v',(∀σ':cg,σ' H.next=some ⟨w.heap.size,0,0,false⟩->VR σ' (k H.next) v')/\(execOp a.eval o).run P w=.ok (.value v') (w.alloc (.cells gi elem))):zg P F o t H v H':=by
 cases hh
 refine ⟨Uc hw F,DI fun σ w a hr hf hx=>?_⟩
 obtain ⟨gi,bg,v',Bj,dP⟩:=eY σ w a hx
 refine ⟨_,v',_,T9 (room:=0) (B:=⟨cs,elem,false,false⟩) hw hr rfl (fun x=>rfl) hf (cs:=gi) ?_ (fun j hj=>?_) (fun _=>rfl) rfl,Bj _ (if_pos rfl),.inl dP⟩
 ·show gi.size=cs.length+0 * _
  rw [bg.1];simp
 ·have:=bg.at j
  simpa [Array.getD_eq_getD_getElem?,List.getD_eq_getElem?_getD] using this
theorem P8 {σ:cg} {B:cO} {base o n:Nat} {cs:Array Value} (hb:o+n<=B.cells.length)
  (hv:∀i,i < B.cells.length->VR σ (B.cells.getD i undef) (cs.getD (base+i) undef)):
  VL σ ((B.cells.drop o).take n) ((List.range n).map fun j=>cs.getD (base+(o+j)) undef):=by
 refine ⟨by simp;omega,fun i hi=>?_⟩
 have dU:i < n:=by simp at hi;omega
 have:=hv (o+i) (by omega)
 simpa [List.getD_eq_getElem?_getD,dU] using this
theorem Uo {ty:TypeId} {o:Nat} {b:Nat} {v:Value} {F:Nat->Prop} {H:ad} {σ:cg} {w:World} {L:Loc} (h:vi P ty o (H.get b)=some v) (hF:F b) (hr:Rel P σ F H.get w) (hL:σ b=some L):
  ∃v',VR σ v v'/\(loadVar ty ⟨L.bj,L.base+o,none⟩).run P w=.ok v' w:=by
 unfold vi at h
 split at h
 ·rename_i B hB
  obtain ⟨cs,e0,fr,hg,gX,hv,_⟩:=(hr.bj b L _ hF hL hB).fM
  split at h
  ·rename_i Xh
   split at h
   ·rename_i n hn
    split at h
    ·rename_i hc
     cases h
     have ur:=(P8 (o:=o) (n:=n) hc hv).yj
     have yn:=LI (P:=P) (base:=L.base) (o:=o) (n:=n) hg (by omega)
     refine ⟨_,.agg ur.1 ur.2,?_⟩
     simp only [loadVar,Sem.run_bind,Pw Xh,Result.andThen_ok,if_true,pj hn,yn,Sem.run_pure]
    ·cases h
   ·cases h
  ·rename_i Xh
   have hc:o < B.cells.length:=(List.getElem?_eq_some_iff.1 h).1
   have R4:=hv o hc
   rw [List.getD_eq_getElem?_getD,h] at R4
   have bf:L.base+o < cs.size:=by omega
   refine ⟨_,R4,?_⟩
   simp [loadVar,Pw Xh,run_load,World.cell?,hg,Array.getD,bf]
  ·cases h
 ·cases h
theorem aaB {ty:TypeId} {o:Nat} {H:ad} {b:Nat} {v:Value} (h:vi P ty o (H.get b)=some v):∃B,H.get b=some B:=by
 unfold vi at h
 split at h
 ·rename_i B hB;exact ⟨B,hB⟩
 ·cases h
theorem afd {ty:TypeId} {ao:Operand} {o:Oper} {t:Act} {H:ad} {v:Value} {b off:Nat} (ho:o.op=.load ty ao) (ha:t.eval ao=.pointer (some ⟨b,off,none⟩))
  (hh:vi P ty off (H.get b)=some v):W7 P o t H v:=by
 intro σ w a K Q hr hx hk
 have h1:=hx ao (by rw [ho];simp [Op.operands])
 rw [ha] at h1
 obtain ⟨L,hL,he⟩:=h1.I0
 obtain ⟨v',hv,hl⟩:=Uo hh trivial hr hL
 have e:(execOp a.eval o).run P w=.ok (.value v') w:=by
  unfold execOp
  rw [ho]
  simp only [he,Instr.loadAt,Instr.sureAddr,Sem.run_bind,Sem.run_pure,Result.andThen_ok,hl]
 unfold Oper.wp
 rw [e]
 exact hk v' hv
theorem aaC {ty:TypeId} {ao:Operand} {o:Oper} {t:Act} {H H':ad} {v:Value} (hw:H.wf) (ho:o.op=.load ty ao) (hh:tU P ty (t.eval ao) H=.ok v H'):
  H'=H/\zg P (MT (t.eval ao)) o t H v H':=by
 unfold tU at hh
 split at hh
 ·rename_i b off ha
  split at hh
  ·rename_i v0 gj
   cases hh
   refine ⟨rfl,.refl hw,DI fun σ w a hr hf hx=>?_⟩
   have h1:=hx ao (by rw [ho];simp [Op.operands])
   rw [ha] at h1
   obtain ⟨L,hL,he⟩:=h1.I0
   obtain ⟨v',hv,hl⟩:=Uo gj (by rw [ha];rfl) hr hL
   refine ⟨σ,v',w,.refl hr rfl,hv,.inl ?_⟩
   unfold execOp
   rw [ho]
   simp only [he,Instr.loadAt,Instr.sureAddr,Sem.run_bind,Sem.run_pure,Result.andThen_ok,hl]
  ·cases hh
 ·cases hh
theorem LF {b o:Nat} {vs:List Value} {v v':Value} {H H':ad} (hw:H.wf) (hh:sT b o vs v H=.ok v' H'):
  v'=v/\b < H.next/\jE (fun x=>x=b) H H'/\
  ∀(σ:cg) (w:World) (F:Nat->Prop),F b->Rel P σ F H.get w->∀L,σ b=some L->∀vs',VL σ vs vs'->
   ∃w',(storeCells ⟨L.bj,L.base+o,none⟩ vs').run P w=.ok () w'/\kU P F σ H w σ H' w':=by
 unfold sT at hh
 split at hh
 ·rename_i B hB
  split at hh
  ·rename_i hc
   obtain ⟨fg,nE,jc⟩:=hc
   cases hh
   have fB:=ad.AZ hw hB
   refine ⟨rfl,fB,ahG hw fB,?_⟩
   ·intro σ w F hF hr L hL vs' l8
    have di:=hr.bj b L _ hF hL hB
    obtain ⟨cs,hg,gX,hv⟩:=di.cs jc
    have hlen:=l8.1
    have eY:=run_storeCells_at (P:=P) L.bj (L.base+o) B.elem vs' 0 cs w hg (by omega) (l8.Vt nE)
    refine ⟨_,eY,?_⟩
    simp only [Nat.add_zero]
    generalize i4:(cs.toList.take (L.base+o)++vs'++cs.toList.drop (L.base+o+vs'.length)).toArray=new
    have Vu:new.size=cs.size:=by rw [<-i4];simp;omega
    have Vv:∀q,new.getD q undef=if L.base+o<=q/\q < L.base+o+vs'.length then vs'.getD (q - (L.base+o)) undef else cs.getD q undef:=by
     intro q
     have:=TP cs.toList vs' (L.base+o) q (by simp;omega)
     rw [<-i4]
     simpa [Array.getD_eq_getD_getElem?,List.getD_eq_getElem?_getD] using this
    have ao2:∀q,(cY B.cells o vs).getD q undef=if o<=q/\q < o+vs.length then vs.getD (q - o) undef else B.cells.getD q undef:=fun q=>by
     have:=TP B.cells vs o q fg
     rw [List.append_assoc] at this;exact this
    have acM:(cY B.cells o vs).length=B.cells.length:=by simp [cY];omega
    have qP:(w.setRow L.bj new).heap[L.bj]?=some (.cells new B.elem (0,0)):=setRow_heap w L.bj cs new B.elem (0,0) hg
    have live:∀x,(if x=b then some (⟨cY B.cells o vs,B.elem,B.iD,false⟩:cO) else H.get x).isSome=(H.get x).isSome:=by
     intro x
     by_cases qh:x=b
     ·subst qh;simp [hB]
     ·simp [qh]
    have Ku:∀x,¬fresh H (H.ai b ⟨cY B.cells o vs,B.elem,B.iD,false⟩) x:=fun x hx=>by
     have h1:=hx.1;have h2:x < H.next:=hx.2
     omega
    refine ⟨⟨fun x l B2 hx hs jn=>?_,fun x x' l l' hx il hs dz hi dU ho fO he=>?_,fun x x' l l' hx hs dz hi ho fO=>?_,fun x l hs ho=>by simpa using hr.au x l hs ho⟩,fun _ _=>rfl,by simp,fun k hk hn=>?_,fun k hk ⟨x,l,hx,hs,hi,he⟩=>?_,fun x l hx=>absurd hx (Ku x),⟨rfl,rfl,rfl⟩⟩
    ·have il:=hx.resolve_right (Ku x)
     by_cases qh:x=b
     ·subst qh
      simp only [ad.ai,if_true] at jn
      cases jn
      obtain rfl:l=L:=by rw [hL] at hs;exact (Option.some.inj hs).symm
      refine BR.mk' ⟨new,qP,by rw [acM,Vu];exact gX,fun i hi=>?_⟩ di.room (fun _=>di.own jc)
      rw [acM] at hi
      rw [ao2,Vv]
      by_cases h1:o<=i/\i < o+vs.length
      ·have h2:l.base+o<=l.base+i/\l.base+i < l.base+o+vs'.length:=by omega
       rw [if_pos h1,if_pos h2]
       have e:l.base+i - (l.base+o)=i - o:=by omega
       rw [e]
       exact l8.at (i - o)
      ·have h2:¬(l.base+o<=l.base+i/\l.base+i < l.base+o+vs'.length):=by omega
       rw [if_neg h1,if_neg h2]
       exact hv i hi
     ·simp only [ad.ai,if_neg qh] at jn
      refine (hr.bj x l B2 il hs jn).move (fun _ _ h=>h) (setRow_other w L.bj l.bj new fun e=>?_)
      cases zT:l.ro
      ·exact qh (hr.inj x b l L il hF hs hL (by rw [jn];rfl) (by rw [hB];rfl) zT (di.own jc) e)
      ·exact hr.sep b x L l hF hL hs (by rw [hB];rfl) (di.own jc) zT e.symm
    ·simp only [ad.ai] at hi dU
     rw [live] at hi dU
     exact hr.inj x x' l l' (hx.resolve_right (Ku x)) (il.resolve_right (Ku x')) hs dz hi dU ho fO he
    ·simp only [ad.ai] at hi
     rw [live] at hi
     exact hr.sep x x' l l' (hx.resolve_right (Ku x)) hs dz hi ho fO
    ·refine setRow_other w L.bj k new fun e=>hn ⟨b,L,hF,hL,by rw [hB];rfl,di.own jc,e.symm⟩
    ·simp only [ad.ai] at hi
     rw [live] at hi
     exact ⟨x,l,hx.resolve_right (Ku x),hs,hi,he⟩
  ·cases hh
 ·cases hh
theorem afY {ty:TypeId} {ao xo:Operand} {o:Oper} {t:Act} {H H':ad} {v:Value} (hw:H.wf) (ho:o.op=.store ty ao xo)
  (hh:Ci P ty (t.eval ao) (t.eval xo) H=.ok v H'):zg P (MT (t.eval ao)) o t H v H':=by
 unfold Ci at hh
 split at hh
 ·rename_i b off ha
  split at hh
  ·rename_i n hn
   split at hh
   ·rename_i hc
    obtain ⟨rfl,fB,dB,eY⟩:=LF (P:=P) hw hh
    have hF:MT (t.eval ao)=fun x=>x=b:=by rw [ha];rfl
    rw [hF]
    refine ⟨dB,DI fun σ w a hr hf hx=>?_⟩
    have h1:=hx ao (by rw [ho];simp [Op.operands])
    have h2:=hx xo (by rw [ho];simp [Op.operands])
    rw [ha] at h1
    obtain ⟨L,hL,he⟩:=h1.I0
    obtain ⟨w',CX,hp⟩:=eY σ w (fun x=>x=b) rfl hr L hL _ h2.cells
    refine ⟨σ,undef,w',hp,.undef σ,.inr ⟨?_,rfl⟩⟩
    have gX:(a.eval xo).cells.size=n:=by have:=h2.cells.1;simp at this hc;omega
    unfold execOp
    rw [ho]
    simp only [he,Instr.storeAt,Instr.sureAddr,storeVar,Sem.run_bind,Sem.run_pure,Result.andThen_ok,pj hn,gX,ne_eq,not_true_eq_false,if_false,CX]
   ·cases hh
  ·cases hh
 ·cases hh
theorem aaD {size:Nat} {x:Value} {H:ad} {n:Nat} {l:List Value} (hh:qG size x H=some (n,l)):
  l.length=n * size/\(∃a c,x=.slice a n c)/\∀(σ:cg) (w:World) (F:Nat->Prop),(∀b o,(∃c,x=.slice (some ⟨b,o,none⟩) n c)->F b)->Rel P σ F H.get w->∀x',VR σ x x'->
   ∃l',VL σ l l'/\∀w',w'.heap=w.heap->(Builtin.firstCells size n x').run P w'=.ok l'.toArray w':=by
 unfold qG at hh
 split at hh
 ·rename_i a n0 c0
  split at hh
  ·rename_i h0
   subst h0
   cases hh
   refine ⟨by simp,⟨_,_,rfl⟩,fun σ w F _ hr x' hx=>⟨[],.nil σ,fun w' _=>?_⟩⟩
   obtain ⟨a',c',rfl,_⟩:=hx.uS
   cases a' <;> simp [Builtin.firstCells,loadCells,loadCellsFrom]
  ·split at hh
   ·rename_i b o
    split at hh
    ·rename_i B hB
     split at hh
     ·rename_i hc
      cases hh
      refine ⟨by simp;omega,⟨_,_,rfl⟩,fun σ w F hF hr x' hx=>?_⟩
      obtain ⟨L,hL,rfl⟩:=hx.AG
      obtain ⟨cs,e0,fr,hg,gX,hv,_⟩:=(hr.bj b L _ (hF b o ⟨_,rfl⟩) hL hB).fM
      refine ⟨_,P8 hc hv,fun w' CX=>?_⟩
      simp only [Builtin.firstCells]
      exact LI (P:=P) (base:=L.base) (o:=o) (n:=n * size) (by rw [CX];exact hg) (by omega)
     ·cases hh
    ·cases hh
   ·cases hh
 ·cases hh
end
end Go.Proofs.YtebibeaobhcfkaaGreat.Ab
namespace Go.Proofs.YtebibeaobhcfkaaGreat.Ab
open Go Classical
section
variable {P:Program}
theorem agM {H:ad} {b:Nat} {B:cO} (hw:H.wf) (hb:b < H.next):jE (fun x=>x=b) H (H.grow b B):=
 ⟨Nat.le_succ _,fun x hx=>by
  have il:H.next+1<=x:=hx
  show (if x=H.next then some B else if x=b then none else H.get x)=none
  rw [if_neg (by omega),if_neg (by omega)];exact hw x (by omega),fun x hx hn=>by
  show (if x=H.next then some B else if x=b then none else H.get x)=_
  rw [if_neg (by omega),if_neg hn]⟩
theorem afe {t t2 ty e2:TypeId} {s x v:Value} {H H':ad} (iE:H.wf) (hh:iZ P t s x H=.ok v H') (yl:P.underlying t2=some (.slice e2)):
  jE eg H H'/\
  ∀(σ:cg) (w:World) (s' x':Value),Rel P σ eg H.get w->sX σ H H'->VR σ s s'->VR σ x x'->
   ∃σ' v' w',kU P eg σ H w σ' H' w'/\VR σ' v v'/\(Builtin.append_ #[t,t2] ty #[s',x']).run P w=.ok v' w':=by
 unfold iZ at hh
 split at hh
 ·rename_i e hu
  split at hh
  ·rename_i i z hi CY
   obtain ⟨i',zv,dU,hz,rfl,_,_⟩:=FA CY
   obtain rfl:i'=i:=by rw [hi] at dU;exact (Option.some.inj dU).symm
   split at hh
   ·rename_i n new MU
    obtain ⟨oX,⟨xa,xc,rfl⟩,F2⟩:=aaD (P:=P) MU
    split at hh
    ·rename_i ke
     obtain ⟨G5,iu,aA4,NZ⟩:=ke
     have G6:zv.cells.size=i'.size:=by simpa using G5
     have dN:P.cellsOf e=i'.size:=by simp [Program.cellsOf,hi]
     split at hh
     ·-- nil
      rename_i sl sc
      split at hh
      ·rename_i hc
       obtain ⟨rfl,rfl⟩:=hc
       split at hh
       ·rename_i tf
        subst tf
        cases hh
        refine ⟨.refl iE,fun σ w s' x' hr hf hs hx=>?_⟩
        obtain ⟨l',mV,vJ⟩:=F2 σ w eg (fun _ _ _=>trivial) hr x' hx
        obtain ⟨a',c',rfl,_⟩:=hx.uS
        have dz:=hs.TW
        refine ⟨σ,.slice none 0 0,w,.refl hr rfl,.same rfl,?_⟩
        rw [dz,Ua hu yl hi (vJ w rfl) (by omega)]
       ·rename_i tf
        cases hh
        refine ⟨Uc iE eg,fun σ w s' x' hr hf hs hx=>?_⟩
        obtain ⟨l',mV,vJ⟩:=F2 σ w eg (fun _ _ _=>trivial) hr x' hx
        obtain ⟨a',c',rfl,_⟩:=hx.uS
        rw [hs.TW]
        have eY:=Ub (P:=P) (ty:=ty) (base:=none) (sl:=0) (sc:=0) (au:=#[]) hu yl hi hz (by simp [Builtin.firstCells]) (vJ w.drew rfl) (by omega) (by omega) (by simpa using iu)
        simp only [Nat.zero_add] at eY
        have hg:=grownCap_le w n 0 e
        refine ⟨_,_,_,T9 (room:=grownCap w n 0 e - n) (B:=⟨new,e,true,false⟩) iE hr rfl (fun _=>rfl) hf (cs:=#[]++l'.toArray++Builtin.zeroCells zv.cells (grownCap w n 0 e - n)) ?_ (fun j hj=>?_) (fun hb=>by cases hb) rfl,?_,eY⟩
        ·simp only [dN]
         have:=mV.1
         simp [TN,G6];omega
        ·simp only at hj ⊢
         have:=mV.at j
         have R7:j < l'.length:=by rw [<-mV.1];exact hj
         simpa [Array.getD_eq_getD_getElem?,List.getD_eq_getElem?_getD,Array.getElem?_append,R7] using this
        ·have e1:grownCap w n 0 e=n+(grownCap w n 0 e - n):=by omega
         have Bk:VR (fun x=>if x=H.next then some (⟨w.heap.size,0,grownCap w n 0 e - n,false⟩:Loc) else σ x) (.slice (some ⟨H.next,0,none⟩) n n)
           (.slice (some ⟨w.heap.size,0+0,none⟩) n (n+(grownCap w n 0 e - n))):=
          .slice (l:=⟨w.heap.size,0,grownCap w n 0 e - n,false⟩) (if_pos rfl)
         rw [e1]
         simpa using Bk
      ·cases hh
     ·rename_i b o sl sc
      split at hh
      ·rename_i B hB
       have fB:=ad.AZ iE hB
       split at hh
       ·rename_i Mo
        split at hh
        ·obtain ⟨rfl,_,dB,eY⟩:=LF (P:=P) iE hh
         refine ⟨dB.all,fun σ w s' x' hr hf hs hx=>?_⟩
         obtain ⟨l',mV,vJ⟩:=F2 σ w eg (fun _ _ _=>trivial) hr x' hx
         obtain ⟨a',c',rfl,_⟩:=hx.uS
         obtain ⟨L,hL,rfl⟩:=hs.AG
         obtain ⟨w',CX,hp⟩:=eY σ w eg trivial hr L hL l' mV
         refine ⟨σ,_,w',hp,.slice hL,?_⟩
         rw [Ua hu yl hi (vJ w rfl) (by omega)]
         simp only [AH]
         rw [show L.base+o+sl * i'.size=L.base+(o+sl * i'.size) by omega,CX]
         rfl
        ·cases hh
       ·rename_i Mo
        split at hh
        ·rename_i hc
         obtain ⟨oY,adL,al5,Q2,tj,jc⟩:=hc
         have ayn:sl * i'.size<=sc * i'.size:=Nat.mul_le_mul_right _ Q2
         split at hh
         ·rename_i iK
          split at hh
          ·-- in its place,or not
           rename_i jI
           obtain ⟨rfl,ao3⟩:=jI
           cases hh
           generalize N0:(⟨B.cells.take (sl * i'.size)++new,e,true,false⟩:cO)=Bn
           have adM:Bn.cells=B.cells.take (sl * i'.size)++new:=by rw [<-N0]
           have Q3:Bn.elem=e:=by rw [<-N0]
           have adN:Bn.iD=true:=by rw [<-N0]
           have dB:=agM (B:=Bn) iE fB
           refine ⟨dB.all,fun σ w s' x' hr hf hs hx=>?_⟩
           obtain ⟨l',mV,vJ⟩:=F2 σ w eg (fun _ _ _=>trivial) hr x' hx
           obtain ⟨a',c',rfl,_⟩:=hx.uS
           obtain ⟨L,hL,rfl⟩:=hs.AG
           have di:=hr.bj b L _ trivial hL hB
           obtain ⟨cs,hg,gX,hv⟩:=di.cs jc
           rw [tj,dN] at gX
           have aiF:l'.length=n * i'.size:=by rw [<-mV.1];exact oX
           have ao4:(sl+n) * i'.size=sl * i'.size+n * i'.size:=Nat.add_mul _ _ _
           simp only [Nat.zero_add] at al5
           have QE:Bn.cells.length=(sl+n) * i'.size:=by rw [adM];simp;omega
           have abp:∀j,j < (sl+n) * i'.size->Bn.cells.getD j undef=if sl * i'.size<=j then new.getD (j - sl * i'.size) undef else B.cells.getD j undef:=fun j hj=>by
            rw [adM]
            by_cases h1:sl * i'.size<=j
            ·rw [if_pos h1,List.getD_eq_getElem?_getD,List.getElem?_append_right (by simp;omega),List.getD_eq_getElem?_getD]
             congr 2
             simp;omega
            ·rw [if_neg h1,List.getD_eq_getElem?_getD,List.getElem?_append_left (by simp;omega),List.getElem?_take,if_pos (by omega),<-List.getD_eq_getElem?_getD]
           have QD:(H.grow b Bn).get H.next=some Bn:=if_pos rfl
           have DS:∀x,x≠H.next->x≠b->(H.grow b Bn).get x=H.get x:=fun x h1 h2=>by
            show (if x=H.next then some Bn else if x=b then none else H.get x)=_
            rw [if_neg h1,if_neg h2]
           have Mb:(H.grow b Bn).get b=none:=by
            show (if b=H.next then some Bn else if b=b then none else H.get b)=_
            rw [if_neg (by omega),if_pos rfl]
           by_cases fH:sl+n<=sc+L.room
           ·-- in its place
            have hmul:(sl+n) * i'.size<=(sc+L.room) * i'.size:=Nat.mul_le_mul_right _ fH
            have aA5:(sc+L.room) * i'.size=sc * i'.size+L.room * i'.size:=Nat.add_mul _ _ _
            have Cy:=run_storeCells_at (P:=P) L.bj (L.base+sl * i'.size) B.elem l' 0 cs w hg (by omega) (mV.Vt ao3)
            simp only [Nat.add_zero] at Cy
            generalize i4:(cs.toList.take (L.base+sl * i'.size)++l'++cs.toList.drop (L.base+sl * i'.size+l'.length)).toArray=nw at Cy
            have Vu:nw.size=cs.size:=by rw [<-i4];simp;omega
            have Vv:∀q,nw.getD q undef=if L.base+sl * i'.size<=q/\q < L.base+sl * i'.size+l'.length then l'.getD (q - (L.base+sl * i'.size)) undef else cs.getD q undef:=by
             intro q
             have:=TP cs.toList l' (L.base+sl * i'.size) q (by simp;omega)
             rw [<-i4]
             simpa [Array.getD_eq_getD_getElem?,List.getD_eq_getElem?_getD] using this
            have qP:(w.setRow L.bj nw).heap[L.bj]?=some (.cells nw B.elem (0,0)):=setRow_heap w L.bj cs nw B.elem (0,0) hg
            have zR:∀x l,σ x=some l->(if x=H.next then some (⟨L.bj,L.base,sc+L.room - (sl+n),false⟩:Loc) else σ x)=some l:=fun x l hx=>by
             by_cases h1:x=H.next
             ·subst h1
              rw [hf H.next ⟨Nat.le_refl _,Nat.lt_succ_self _⟩] at hx;cases hx
             ·rw [if_neg h1];exact hx
            have x6:∀x,fresh H (H.grow b Bn) x↔x=H.next:=fun x=>⟨fun h1=>by
             have h2:=h1.1;have h3:x < H.next+1:=h1.2
             omega,fun h1=>⟨by omega,by show x < H.next+1;omega⟩⟩
            have ayo:(sc+L.room - (sl+n)) * i'.size=(sc+L.room) * i'.size - (sl+n) * i'.size:=Nat.sub_mul _ _ _
            refine ⟨fun x=>if x=H.next then some ⟨L.bj,L.base,sc+L.room - (sl+n),false⟩ else σ x,.slice (some ⟨L.bj,L.base+0,none⟩) (sl+n) (sl+n+(sc+L.room - (sl+n))),w.setRow L.bj nw,⟨⟨fun x l B2 _ cZ jn=>?_,fun x x2 l l2 _ _ cZ fh nG gY jd dh he=>?_,fun x x2 l l2 _ cZ fh nG jd dh=>?_,fun x l cZ jd=>?_⟩,
             fun x hx=>if_neg (fun h1=>hx ((x6 x).2 h1)),by simp,fun k hk hn=>?_,fun k hk ⟨x,l,_,cZ,nG,jd,he⟩=>?_,fun x l hx cZ=>?_,⟨rfl,rfl,rfl⟩⟩,.slice (l:=⟨L.bj,L.base,sc+L.room - (sl+n),false⟩) (if_pos rfl),?_⟩
            ·by_cases hZ:x=H.next
             ·subst hZ
              rw [QD] at jn
              simp only [if_true] at cZ
              cases jn;cases cZ
              refine BR.mk' ⟨nw,by rw [qP,tj,Q3],?_,fun j hj=>?_⟩ (fun h1=>by rw [adN] at h1;cases h1) (fun _=>rfl)
              ·rw [Vu,QE,Q3,dN]
               simp only
               omega
              ·rw [QE] at hj
               simp only
               rw [abp j hj,Vv]
               by_cases h1:sl * i'.size<=j
               ·rw [if_pos h1,if_pos (by omega)]
                have e1:L.base+j - (L.base+sl * i'.size)=j - sl * i'.size:=by omega
                rw [e1]
                exact (mV.at _).mono zR
               ·rw [if_neg h1,if_neg (by omega)]
                exact (hv j (by omega)).mono zR
             ·simp only [if_neg hZ] at cZ
              by_cases qh:x=b
              ·rw [qh,Mb] at jn;cases jn
              ·rw [DS x hZ qh] at jn
               refine (hr.bj x l B2 trivial cZ jn).move zR (setRow_other w L.bj l.bj nw fun e1=>?_)
               cases zT:l.ro
               ·exact qh (hr.inj x b l L trivial trivial cZ hL (by rw [jn];rfl) (by rw [hB];rfl) zT (di.own jc) e1)
               ·exact hr.sep b x L l trivial hL cZ (by rw [hB];rfl) (di.own jc) zT e1.symm
            ·have R8:∀y,((H.grow b Bn).get y).isSome=true->y≠b:=fun y hy h1=>by rw [h1,Mb] at hy;cases hy
             by_cases hZ:x=H.next <;> by_cases l9:x2=H.next
             ·rw [hZ,l9]
             ·simp only [if_pos hZ] at cZ
              simp only [if_neg l9] at fh
              cases cZ
              have h3:=R8 x2 gY
              rw [DS x2 l9 h3] at gY
              exact absurd (hr.inj x2 b l2 L trivial trivial fh hL gY (by rw [hB];rfl) dh (di.own jc) he.symm) h3
             ·simp only [if_neg hZ] at cZ
              simp only [if_pos l9] at fh
              cases fh
              have h3:=R8 x nG
              rw [DS x hZ h3] at nG
              exact absurd (hr.inj x b l L trivial trivial cZ hL nG (by rw [hB];rfl) jd (di.own jc) he) h3
             ·simp only [if_neg hZ] at cZ
              simp only [if_neg l9] at fh
              rw [DS x hZ (R8 x nG)] at nG
              rw [DS x2 l9 (R8 x2 gY)] at gY
              exact hr.inj x x2 l l2 trivial trivial cZ fh nG gY jd dh he
            ·have l9:x2≠H.next:=fun l9=>by
              simp only [if_pos l9] at fh
              cases fh;cases dh
             simp only [if_neg l9] at fh
             by_cases hZ:x=H.next
             ·simp only [if_pos hZ] at cZ
              cases cZ
              exact hr.sep b x2 L l2 trivial hL fh (by rw [hB];rfl) (di.own jc) dh
             ·simp only [if_neg hZ] at cZ
              by_cases qh:x=b
              ·rw [qh,Mb] at nG;cases nG
              ·rw [DS x hZ qh] at nG
               exact hr.sep x x2 l l2 trivial cZ fh nG jd dh
            ·have hZ:x≠H.next:=fun hZ=>by
              simp only [if_pos hZ] at cZ
              cases cZ;cases jd
             simp only [if_neg hZ] at cZ
             simpa using hr.au x l cZ jd
            ·exact setRow_other w L.bj k nw fun e1=>hn ⟨b,L,trivial,hL,by rw [hB];rfl,di.own jc,e1.symm⟩
            ·by_cases hZ:x=H.next
             ·simp only [if_pos hZ] at cZ
              cases cZ
              exact ⟨b,L,trivial,hL,by rw [hB];rfl,di.own jc,he⟩
             ·simp only [if_neg hZ] at cZ
              by_cases qh:x=b
              ·rw [qh,Mb] at nG;cases nG
              ·rw [DS x hZ qh] at nG
               exact ⟨x,l,trivial,cZ,nG,jd,he⟩
            ·simp only [if_pos ((x6 x).1 hx)] at cZ
             cases cZ;rfl
            ·rw [Ua hu yl hi (vJ w rfl) fH]
             simp only [AH,Nat.add_zero]
             rw [Cy]
             have e1:sl+n+(sc+L.room - (sl+n))=sc+L.room:=by omega
             rw [e1];rfl
           ·-- asA
            have xe:(Builtin.firstCells i'.size sl (.slice (some ⟨L.bj,L.base+0,none⟩) sl (sc+L.room))).run P w.drew=.ok ((List.range (sl * i'.size)).map fun j=>cs.getD (L.base+(0+j)) undef).toArray w.drew:=by
             simp only [Builtin.firstCells]
             exact LI (P:=P) (base:=L.base) (o:=0) (n:=sl * i'.size) hg (by omega)
            have eY:=Ub (P:=P) (ty:=ty) hu yl hi hz xe (vJ w.drew rfl) (by omega) adL oY
            have jn:=grownCap_le w (sl+n) (sc+L.room) e
            generalize grownCap w (sl+n) (sc+L.room) e=gc at eY jn
            refine ⟨_,_,_,aag (room:=gc - (sl+n)) iE hr rfl QD (fun x B2 hZ pC=>?_) hf (cs:=((List.range (sl * i'.size)).map fun j=>cs.getD (L.base+(0+j)) undef).toArray++l'.toArray++Builtin.zeroCells zv.cells (gc - (sl+n))) ?_ (fun j hj=>?_) (fun hb=>by rw [adN] at hb;cases hb) (by rw [Q3];rfl),?_,eY⟩
            ·by_cases qh:x=b
             ·rw [qh,Mb] at pC;cases pC
             ·rw [DS x hZ qh] at pC;exact pC
            ·rw [QE,Q3,dN]
             simp [TN,G6,aiF,ao4]
            ·rw [QE] at hj
             rw [abp j hj]
             have e2:((List.range (sl * i'.size)).map fun j=>cs.getD (L.base+(0+j)) undef).toArray++l'.toArray=(((List.range (sl * i'.size)).map fun j=>cs.getD (L.base+(0+j)) undef)++l').toArray:=by simp
             rw [e2,aaA _ _ _ (by simp;omega)]
             by_cases h1:sl * i'.size<=j
             ·rw [if_pos h1]
              have e3:(((List.range (sl * i'.size)).map fun j=>cs.getD (L.base+(0+j)) undef)++l').getD j undef=l'.getD (j - sl * i'.size) undef:=by
               rw [List.getD_eq_getElem?_getD,List.getElem?_append_right (by simpa using h1),List.getD_eq_getElem?_getD]
               simp
              rw [e3]
              exact mV.at (j - sl * i'.size)
             ·rw [if_neg h1]
              have h2:j < sl * i'.size:=by omega
              have:=hv j (by omega)
              have e6:(((List.range (sl * i'.size)).map fun j=>cs.getD (L.base+(0+j)) undef)++l').getD j undef=cs.getD (L.base+(0+j)) undef:=by
               rw [List.getD_eq_getElem?_getD,List.getElem?_append_left (by simpa using h2)];simp [h2]
              rw [e6,Nat.zero_add]
              exact this
            ·have e1:gc=sl+n+(gc - (sl+n)):=by omega
             have Bk:VR (fun x=>if x=H.next then some (⟨w.heap.size,0,gc - (sl+n),false⟩:Loc) else σ x) (.slice (some ⟨H.next,0,none⟩) (sl+n) (sl+n))
               (.slice (some ⟨w.heap.size,0+0,none⟩) (sl+n) (sl+n+(gc - (sl+n)))):=
              .slice (l:=⟨w.heap.size,0,gc - (sl+n),false⟩) (if_pos rfl)
             rw [e1]
             simpa using Bk
          ·cases hh
         ·-- GZ block ends here
          rename_i iK
          have ao5:B.iD=false:=by cases h:B.iD;rfl;exact absurd h iK
          cases hh
          refine ⟨Uc iE eg,fun σ w s' x' hr hf hs hx=>?_⟩
          obtain ⟨l',mV,vJ⟩:=F2 σ w eg (fun _ _ _=>trivial) hr x' hx
          obtain ⟨a',c',rfl,_⟩:=hx.uS
          obtain ⟨L,hL,rfl⟩:=hs.AG
          have di:=hr.bj b L _ trivial hL hB
          have N1:L.room=0:=di.room ao5
          obtain ⟨cs,hg,gX,hv⟩:=di.cs jc
          have Bl:=P8 (o:=o) (n:=sl * i'.size) (by omega) hv
          rw [N1,Nat.add_zero]
          have xe:(Builtin.firstCells i'.size sl (.slice (some ⟨L.bj,L.base+o,none⟩) sl sc)).run P w.drew=.ok ((List.range (sl * i'.size)).map fun j=>cs.getD (L.base+(o+j)) undef).toArray w.drew:=by
           simp only [Builtin.firstCells]
           exact LI (P:=P) (base:=L.base) (o:=o) (n:=sl * i'.size) hg (by omega)
          have eY:=Ub (P:=P) (ty:=ty) hu yl hi hz xe (vJ w.drew rfl) (by omega) adL oY
          have jn:=grownCap_le w (sl+n) sc e
          generalize grownCap w (sl+n) sc e=gc at eY jn
          generalize ((List.range (sl * i'.size)).map fun j=>cs.getD (L.base+(o+j)) undef)=ol at Bl eY
          have fG:=Bl.append mV
          refine ⟨_,_,_,T9 (room:=gc - (sl+n)) (B:=⟨(B.cells.drop o).take (sl * i'.size)++new,e,true,false⟩) iE hr rfl (fun _=>rfl) hf (cs:=ol.toArray++l'.toArray++Builtin.zeroCells zv.cells (gc - (sl+n))) ?_ (fun j hj=>?_) (fun hb=>by cases hb) rfl,?_,eY⟩
          ·simp only [dN]
           rw [fG.1]
           simp [TN,G6]
          ·simp only at hj ⊢
           have:=fG.at j
           have R7:j < (ol++l').length:=by rw [<-fG.1];exact hj
           have e1:(ol.toArray++l'.toArray++Builtin.zeroCells zv.cells (gc - (sl+n))).getD j undef=(ol++l').getD j undef:=by
            have e2:ol.toArray++l'.toArray=(ol++l').toArray:=by simp
            rw [e2]
            exact aaA _ _ _ R7
           rw [e1];exact this
          ·have e1:gc=sl+n+(gc - (sl+n)):=by omega
           have Bk:VR (fun x=>if x=H.next then some (⟨w.heap.size,0,gc - (sl+n),false⟩:Loc) else σ x) (.slice (some ⟨H.next,0,none⟩) (sl+n) (sl+n))
             (.slice (some ⟨w.heap.size,0+0,none⟩) (sl+n) (sl+n+(gc - (sl+n)))):=
            .slice (l:=⟨w.heap.size,0,gc - (sl+n),false⟩) (if_pos rfl)
           rw [e1]
           simpa using Bk
        ·cases hh
      ·cases hh
     ·cases hh
    ·cases hh
   ·cases hh
  ·cases hh
 ·cases hh
theorem afy {t ty:TypeId} {ts:Array TypeId} {x v:Value} {H H':ad} (iE:H.wf) (ht:ts[0]?=some t) (hh:Ma P t x H=.ok v H'):
  jE eg H H'/\
  ∀(σ:cg) (w:World) (x':Value),Rel P σ eg H.get w->VR σ x x'->
   ∃v' w',kU P eg σ H w σ H' w'/\VR σ v v'/\(Builtin.clear_ ts ty #[x']).run P w=.ok v' w':=by
 unfold Ma at hh
 split at hh
 ·rename_i e a n c hu
  split at hh
  ·rename_i hn
   cases hh
   subst hn
   refine ⟨.refl iE,fun σ w x' hr hx=>?_⟩
   obtain ⟨xa,xc',rfl,_⟩:=hx.uS
   refine ⟨_,w,.refl hr rfl,.tuple rfl (fun i h=>absurd h (by simp)),?_⟩
   cases xa <;> simp [Builtin.clear_,ht,run_underlying hu]
  ·rename_i hn
   split at hh
   ·rename_i b o
    split at hh
    ·rename_i z hz
     split at hh
     ·rename_i CY
      obtain ⟨i',zv,h1,h2,rfl,h3,h4⟩:=FA hz
      obtain ⟨rfl,_,dB,eY⟩:=LF (P:=P) iE hh
      refine ⟨dB.all,fun σ w x' hr hx=>?_⟩
      obtain ⟨L,hL,rfl⟩:=hx.AG
      have zX:VL σ (fW zv.cells.toList n) (Builtin.zeroCells zv.cells n).toList:=by
       have e1:(Builtin.zeroCells zv.cells n).toList=fW zv.cells.toList n:=by
        have:=TO zv.cells (by simpa using CY) n
        simpa [Builtin.zeroCells] using this
       rw [e1]
       have key:∀k,VL σ (fW zv.cells.toList k) (fW zv.cells.toList k):=by
        intro k
        induction k with
        | zero=>exact .nil σ
        | succ k ih=>exact (h4 σ).append ih
       exact key n
      obtain ⟨w',CX,hp⟩:=eY σ w eg trivial hr L hL _ zX
      refine ⟨_,w',hp,.tuple rfl (fun i h=>absurd h (by simp)),?_⟩
      obtain ⟨m,rfl⟩:∃m,n=m+1:=⟨n - 1,by omega⟩
      simp only [Builtin.clear_,ht,List.getElem?_toArray,List.getElem?_cons_zero,Sem.run_bind,run_underlying hu,Result.andThen_ok,h3,CX,Sem.run_pure]
     ·cases hh
    ·cases hh
   ·cases hh
 ·cases hh
theorem afZ {t ty:TypeId} {ts:Array TypeId} {d x v:Value} {H H':ad} (iE:H.wf) (ht:ts[0]?=some t) (hh:Cq P t d x H=.ok v H'):
  jE eg H H'/\
  ∀(σ:cg) (w:World) (d' x':Value),Rel P σ eg H.get w->VR σ d d'->VR σ x x'->
   ∃v' w',kU P eg σ H w σ H' w'/\VR σ v v'/\(Builtin.copy_ ts ty #[d',x']).run P w=.ok v' w':=by
 unfold Cq at hh
 split at hh
 ·rename_i e hu
  split at hh
  ·rename_i size b o dn dc b2 o2 n nc hs
   split at hh
   ·rename_i B hB
    split at hh
    ·rename_i hc
     obtain ⟨rfl,_,dB,eY⟩:=LF (P:=P) iE hh
     refine ⟨dB.all,fun σ w d' x' hr hd hx=>?_⟩
     obtain ⟨L,hL,rfl⟩:=hd.AG
     obtain ⟨L2,hL2,rfl⟩:=hx.AG
     obtain ⟨cs,e0,fr,hg,gX,hv,_⟩:=(hr.bj b2 L2 _ trivial hL2 hB).fM
     have ur:=P8 hc hv
     obtain ⟨w',CX,hp⟩:=eY σ w eg trivial hr L hL _ ur
     refine ⟨_,w',hp,.same rfl,?_⟩
     have yn:=LI (P:=P) (base:=L2.base) (o:=o2) (n:=min n dn * size) hg (by omega)
     simp only [Builtin.copy_,ht,List.getElem?_toArray,List.getElem?_cons_zero,List.getElem?_cons_succ,Sem.run_bind,run_underlying hu,Result.andThen_ok,Builtin.lenOf,Sem.run_pure,pj hs,Builtin.firstCells]
     rw [show Nat.min n dn=min n dn from rfl,yn]
     simp only [Result.andThen_ok,Sem.run_bind,CX,Sem.run_pure,goInt]
     rfl
    ·cases hh
   ·cases hh
  ·rename_i size a dn dc a2 n nc mU hs
   split at hh
   ·rename_i hc
    cases hh
    refine ⟨.refl iE,fun σ w d' x' hr hd hx=>?_⟩
    obtain ⟨da,dc',rfl,_⟩:=hd.uS
    obtain ⟨xa,xc',rfl,_⟩:=hx.uS
    refine ⟨_,w,.refl hr rfl,.same rfl,?_⟩
    have ao6:Nat.min n dn=0:=by
     show min n dn=0
     omega
    have vJ:(Builtin.firstCells size 0 (.slice xa n xc')).run P w=.ok #[] w:=by
     cases xa <;> simp [Builtin.firstCells,loadCells,loadCellsFrom]
    simp only [Builtin.copy_,ht,List.getElem?_toArray,List.getElem?_cons_zero,List.getElem?_cons_succ,Sem.run_bind,run_underlying hu,Result.andThen_ok,Builtin.lenOf,Sem.run_pure,pj hs,ao6,vJ]
    cases da <;> simp [storeCells,goInt]
   ·cases hh
  ·cases hh
 ·cases hh
theorem ae4 {x v:Value} {H H':ad} (hh:LJ x H=.ok v H'):H'=H/\(∃a n c,x=.slice a n c)/\∀(σ:cg) (w:World) x',Rel P σ eg H.get w->VR σ x x'->∃v',VR σ v v'/\(Conv.bytesToString x').run P w=.ok v' w:=by
 unfold LJ at hh
 split at hh
 ·rename_i n l MU
  obtain ⟨oX,⟨xa,xc,rfl⟩,F2⟩:=aaD (P:=P) MU
  split at hh
  ·rename_i ns yh
   cases hh
   refine ⟨rfl,⟨_,_,_,rfl⟩,fun σ w x' hr hx=>?_⟩
   obtain ⟨l',mV,vJ⟩:=F2 σ w eg (fun _ _ _=>trivial) hr x' hx
   have he:=ZU yh mV
   have hf:=vJ w rfl
   refine ⟨_,.same rfl,?_⟩
   obtain ⟨a',c',rfl,_⟩:=hx.uS
   cases a' with
   | none=>
    simp only [Builtin.firstCells,Sem.run_pure,Result.ok.injEq,and_true] at hf
    have:l'=[]:=by simpa using hf.symm
    rw [this] at he
    have:ns=[]:=by cases ns with
     | nil=>rfl
     | cons a b=>simp at he
    subst this
    simp only [Conv.bytesToString,Sem.run_pure]
    rfl
   | some a=>
    simp only [Builtin.firstCells,Nat.mul_one] at hf
    rw [he] at hf
    rw [run_bytesToString w a n c' ns hf,Z1]
    congr 2
    apply ByteArray.ext
    simp [adK]
  ·cases hh
 ·cases hh
end
end Go.Proofs.YtebibeaobhcfkaaGreat.Ab
namespace Go.Proofs.YtebibeaobhcfkaaGreat.Ab
open Go Classical
section
variable {P:Program}
def DT (P:Program) (ev:Operand->Value) (op:Op) (n:Nat):Nat->Prop:=match op with
 | .load _ a=>MT (ev a)
 | .store _ a _=>MT (ev a)
 | .convert s _ _=>(match P.underlying s with
  | some (.int _)=>fun _=>False
  | _=>fun x=>x < n)
 | .call c=>(match c.callee with
  | .builtin .len | .builtin .min | .builtin .max=>fun _=>False
  | _=>fun x=>x < n)
 | _=>fun _=>False
theorem LX {o:Oper} {t:Act} {H H':ad} {v:Value} (hw:H.wf) (h1:jE eg H H') (h3:wW P eg o t H v H'):zg P (fun x=>x < H.next) o t H v H':=
 ⟨⟨h1.next,h1.wf,fun b hb hn=>absurd hb hn⟩,afv hw h3⟩
theorem af0 {o:Oper} {t:Act} {H H':ad} {v:Value} (hw:H.wf) (iv:o.op.operands.all uQ=true) (hh:pB P t.eval o.op H=.ok v H'):zg P (DT P t.eval o.op H.next) o t H v H':=by
 cases ho:o.op <;> rw [ho] at hh <;> simp only [pB] at hh <;> simp only [DT] <;> try (cases hh;done)
 case move x=>
  cases hh
  exact qy hw fun σ a hx=>⟨_,hx x (by rw [ho];simp [Op.operands]),fun w=>by
   unfold execOp;rw [ho];rfl⟩
 case assign x=>
  cases hh
  exact qy hw fun σ a hx=>⟨_,hx x (by rw [ho];simp [Op.operands]),fun w=>by
   unfold execOp;rw [ho];rfl⟩
 case pick c x y=>
  obtain ⟨h',hk,rfl⟩:=pS hh
  clear hh;have hh:=hk;clear hk
  unfold DP at hh
  split at hh
  ·rename_i b hb
   cases hh
   refine qy hw fun σ a hx=>?_
   have h1:=hx c (by rw [ho];simp [Op.operands])
   have h2:=hx x (by rw [ho];simp [Op.operands])
   have h3:=hx y (by rw [ho];simp [Op.operands])
   rw [hb] at h1
   refine ⟨if b then a.eval x else a.eval y,?_,fun w=>by
   unfold execOp;rw [ho];simp [h1.bool,asBool]⟩
   cases b
   ·exact h3
   ·exact h2
  ·cases hh
 case alloc e=>
  unfold DJ at hh
  split at hh
  ·rename_i z hz
   obtain ⟨i,zv,h1,h2,rfl,h3,h4⟩:=FA hz
   refine P7 hw hh fun σ w a hx=>⟨zv.cells,h4 σ,_,fun σ' hs=>.ptr hs,?_⟩
   unfold execOp
   rw [ho]
   simp [Instr.alloc,h3,newVar,IH]
  ·cases hh
 case box e x=>
  refine P7 hw hh fun σ w a hx=>⟨(a.eval x).cells,(hx x (by rw [ho];simp [Op.operands])).cells,_,fun σ' hs=>.ptr hs,?_⟩
  unfold execOp
  rw [ho]
  simp [Instr.box,newVar,IH]
 case build ty ps=>
  have hp:∀(σ:cg) (a:Act),(∀x∈o.op.operands,VR σ (t.eval x) (a.eval x))->PL σ (parts t.eval ps.toList) (ps.map fun (i,x)=>(i,a.eval x)).toList:=fun σ a hx=>by
   have:=UX (σ:=σ) (ρ:=t.eval) (ρ':=a.eval) (ps:=ps.toList) fun p hp=>hx p.2 (by rw [ho];simp [Op.operands];exact ⟨p.1,by simpa using hp⟩)
   simpa using this
  obtain ⟨h',hk,rfl⟩:=pS hh
  clear hh;have hh:=hk;clear hk
  exact qy hw fun σ a hx=>(afu hh (hp σ a hx)).2.exec (by
   unfold execOp;rw [ho])
 case buildSlice ty len ps=>
  unfold qx at hh
  split at hh
  ·rename_i e hu
   split at hh
   ·rename_i n z hn hz
    obtain ⟨i,zv,h1,h2,rfl,h3,h4⟩:=FA hz
    split at hh
    rotate_left
    ·cases hh
    rename_i hc
    obtain ⟨fg,jI,nE⟩:=hc
    split at hh
    ·rename_i cs bg
     refine P7 hw hh fun σ w a hx=>?_
     have hp:PL σ (parts t.eval ps.toList) (ps.map fun (i,x)=>(i,a.eval x)).toList:=by
      have:=UX (σ:=σ) (ρ:=t.eval) (ρ':=a.eval) (ps:=ps.toList) fun p hp=>hx p.2 (by rw [ho];simp [Op.operands];exact ⟨p.1,by simpa using hp⟩)
      simpa using this
     have G6:zv.cells.size=n:=by simpa using nE
     have zX:VL σ (fW zv.cells.toList len) ((Array.range (len * n)).map (fun i=>zv.cells[i % zv.cells.size]!)).toList:=by
      have:=TO zv.cells (by omega) len
      rw [G6] at this ⊢
      rw [this]
      have key:∀k,VL σ (fW zv.cells.toList k) (fW zv.cells.toList k):=by
       intro k
       induction k with
       | zero=>exact .nil σ
       | succ k ih=>exact (h4 σ).append ih
      exact key len
     obtain ⟨wL,dC,hv⟩:=TY hp bg zX
     refine ⟨wL,hv,.slice (some ⟨w.heap.size,0,none⟩) len len,fun σ' hs=>by simpa using VR.slice (n:=len) (c:=len) (o:=0) hs,?_⟩
     have aA6:¬(16777216 < len * n):=by omega
     have e0:∀f:Nat->Value,Array.map f (Array.range 0)=#[]:=fun _=>by apply Array.ext';simp
     have e:(Instr.buildSlice ty len (ps.map fun (i,x)=>(i,a.eval x))).run P w=.ok (.slice (some ⟨w.heap.size,0,none⟩) len len) (w.alloc (.cells wL e)):=by
      generalize (ps.map fun (i,x)=>(i,a.eval x))=Ks at dC
      simp only [Instr.buildSlice,Sem.run_bind,run_underlying hu,Result.andThen_ok,pj hn]
      by_cases h0:len * n=0
      ·rw [h0] at dC ⊢
       rw [e0] at dC
       simp [e0,dC,IH]
      ·have ao7:¬(len * n > 2 ^ 24):=by simpa using fg
       rw [if_neg ao7,if_neg h0]
       simp only [Sem.run_bind,h3,Result.andThen_ok,Sem.run_pure,dC,IH]
     unfold execOp
     rw [ho]
     simp only [Sem.run_bind,e,Result.andThen_ok,Sem.run_pure]
    ·cases hh
   ·cases hh
  ·cases hh
 case load ty ao=>exact (aaC hw ho hh).2
 case store ty ao xo=>exact afY hw ho hh
 case nilCheck x=>
  obtain ⟨h',hk,rfl⟩:=pS hh
  clear hh;have hh:=hk;clear hk
  exact qy hw fun σ a hx=>(agF hh (hx x (by rw [ho];simp [Op.operands])) ho rfl).2
 case binOp op ty x y yt=>
  obtain ⟨h',hk,rfl⟩:=pS hh
  clear hh;have hh:=hk;clear hk
  unfold dS at hh
  split at hh
  ·rename_i v0 hv
   cases hh
   refine qy hw fun σ a hx=>(agE x y hv (hx x (by rw [ho];simp [Op.operands])) (hx y (by rw [ho];simp [Op.operands]))).exec ?_
   unfold execOp
   rw [ho]
  ·cases hh
 case unOp op ty x=>
  obtain ⟨h',hk,rfl⟩:=pS hh
  clear hh;have hh:=hk;clear hk
  exact qy hw fun σ a hx=>(ahA hh (hx x (by rw [ho];simp [Op.operands]))).2.exec (by
   unfold execOp;rw [ho])
 case makeFunc fn first cap=>
  cases hh
  refine qy hw fun σ a hx=>?_
  have h1:=L9 (σ:=σ) (ρ:=t.eval) (ρ':=a.eval) (l:=first.toList) fun x hZ=>hx x (by rw [ho];simp [Op.operands];exact .inl (by simpa using hZ))
  have h2:=L9 (σ:=σ) (ρ:=t.eval) (ρ':=a.eval) (l:=cap.toList) fun x hZ=>hx x (by rw [ho];simp [Op.operands];exact .inr (by simpa using hZ))
  refine ⟨_,.func h1.yj.1 h2.yj.1 h1.yj.2 h2.yj.2,fun w=>?_⟩
  unfold execOp
  rw [ho]
  simp [Instr.makeFunc]
  constructor <;> (apply Array.ext';simp)
 case slice ty x lo hi mx=>
  obtain ⟨h',hk,rfl⟩:=pS hh
  clear hh;have hh:=hk;clear hk
  refine qy hw fun σ a hx=>(afs hh (hx x (by rw [ho];simp [Op.operands])) (Uz (ρ':=a.eval) fun y hy=>hx y ?_) (Uz (ρ':=a.eval) fun y hy=>hx y ?_) (Uz (ρ':=a.eval) fun y hy=>hx y ?_)).2.exec (by
   unfold execOp;rw [ho])
  ·rw [ho];simp [Op.operands] at hy ⊢;simp [hy]
  ·rw [ho];simp [Op.operands] at hy ⊢;simp [hy]
  ·rw [ho];simp [Op.operands] at hy ⊢;simp [hy]
 case fieldAddr s x f=>
  obtain ⟨h',hk,rfl⟩:=pS hh
  clear hh;have hh:=hk;clear hk
  exact qy hw fun σ a hx=>(aeZ hh (hx x (by rw [ho];simp [Op.operands]))).2.exec (by
   unfold execOp;rw [ho])
 case field s x f=>
  obtain ⟨h',hk,rfl⟩:=pS hh
  clear hh;have hh:=hk;clear hk
  exact qy hw fun σ a hx=>(afq hh (hx x (by rw [ho];simp [Op.operands]))).2.exec (by
   unfold execOp;rw [ho])
 case indexAddr s x i=>
  obtain ⟨h',hk,rfl⟩:=pS hh
  clear hh;have hh:=hk;clear hk
  exact qy hw fun σ a hx=>(ae0 hh (hx x (by rw [ho];simp [Op.operands])) (hx i (by rw [ho];simp [Op.operands]))).2.exec (by
   unfold execOp;rw [ho])
 case index s x i=>
  obtain ⟨h',hk,rfl⟩:=pS hh
  clear hh;have hh:=hk;clear hk
  exact qy hw fun σ a hx=>(afr hh (hx x (by rw [ho];simp [Op.operands])) (hx i (by rw [ho];simp [Op.operands]))).2.exec (by
   unfold execOp;rw [ho])
 case extract x i=>
  obtain ⟨h',hk,rfl⟩:=pS hh
  clear hh;have hh:=hk;clear hk
  exact qy hw fun σ a hx=>(ae7 hh (hx x (by rw [ho];simp [Op.operands]))).2.exec (by
   unfold execOp;rw [ho])
 case makeSlice ty lo co=>
  unfold FB at hh
  split at hh
  ·rename_i e l c hu hl EB
   split at hh
   ·rename_i i z hi hz
    obtain ⟨i',zv,h1,h2,rfl,h3,h4⟩:=FA hz
    obtain rfl:i'=i:=by rw [hi] at h1;exact (Option.some.inj h1).symm
    split at hh
    rotate_left
    ·cases hh
    rename_i hc
    obtain ⟨c1,c2,c3,c4,c5⟩:=hc
    refine P7 hw hh fun σ w a hx=>?_
    have mV:=hx lo (by rw [ho];simp [Op.operands])
    have yi:=hx co (by rw [ho];simp [Op.operands])
    rw [hl] at mV
    rw [EB] at yi
    have G6:zv.cells.size=i'.size:=by simpa using c5
    have zX:VL σ (fW zv.cells.toList c) ((Array.range (c * i'.size)).map (fun i=>zv.cells[i % zv.cells.size]!)).toList:=by
     have:=TO zv.cells (by omega) c
     rw [G6] at this ⊢
     rw [this]
     have key:∀k,VL σ (fW zv.cells.toList k) (fW zv.cells.toList k):=by
      intro k
      induction k with
      | zero=>exact .nil σ
      | succ k ih=>exact (h4 σ).append ih
     exact key c
    refine ⟨_,zX,.slice (some ⟨w.heap.size,0,none⟩) l c,fun σ' hs=>by simpa using VR.slice (n:=l) (c:=c) (o:=0) hs,?_⟩
    have wc:IntKind.i64.wrap (c:Int)=(c:Int):=LH (n:=Int.ofNat c) (by rw [Ce,blt_eq,decide_eq_true_eq];exact c4)
    have wl:IntKind.i64.wrap (l:Int)=(l:Int):=LH (n:=Int.ofNat l) (by rw [Ce,blt_eq,decide_eq_true_eq];exact Nat.lt_of_le_of_lt c1 c4)
    have w0:IntKind.i64.wrap 0=0:=rfl
    have t1:¬((c:Int) < 0):=by omega
    have t2:¬((281474976710656:Int) < i'.bytes * (c:Int)):=by
     have h5:((i'.bytes * c:Nat):Int)<=((281474976710656:Nat):Int):=Int.ofNat_le.2 c2
     rw [Int.natCast_mul] at h5
     omega
    have t3:¬((l:Int) < 0):=by omega
    have t4:¬((c:Int) < (l:Int)):=by omega
    unfold execOp
    rw [ho]
    by_cases h0:c * i'.size=0
    ·have ke:c=0:=by rcases Nat.mul_eq_zero.1 h0 with h | h <;> omega
     subst ke
     have uq:l=0:=by omega
     subst uq
     simp [Instr.makeSlice,run_underlying hu,mV.int,yi.int,asInt,asIntOf,typeInfo,hi,sizeOf,w0,IH]
     have e0:∀f:Nat->Value,Array.map f (Array.range 0)=#[]:=fun _=>by apply Array.ext';simp
     rw [e0,e0]
    ·simp [Instr.makeSlice,run_underlying hu,mV.int,yi.int,asInt,asIntOf,typeInfo,hi,sizeOf,wc,wl,t2,t4,h0,h3,IH]
     intro l9
     omega
   ·cases hh
  ·cases hh
 case convert s d x=>
  unfold yZ at hh
  split at hh
  ·rename_i k k2 hs hd
   split at hh
   ·rename_i k3 n hxv
    cases hh
    rw [hs]
    refine qy hw fun σ a hx=>?_
    have h1:=hx x (by rw [ho];simp [Op.operands])
    rw [hxv] at h1
    refine ⟨.int k2 (nZ k2 n),.same rfl,fun w=>?_⟩
    unfold execOp
    rw [ho]
    simp [convert,run_underlying hs,run_underlying hd,h1.int,Conv.intToInt,sL]
   ·cases hh
  ·rename_i e hs hd
   rw [hs]
   split at hh
   ·rename_i he
    obtain ⟨rfl,⟨xa,n,xc,hxa⟩,eY⟩:=ae4 (P:=P) hh
    refine LX hw (.refl hw) (DI fun σ w a hr hf hx=>?_)
    have h1:=hx x (by rw [ho];simp [Op.operands])
    obtain ⟨v',hv,dP⟩:=eY σ w _ hr h1
    refine ⟨σ,v',w,.refl hr rfl,hv,.inl ?_⟩
    rw [hxa] at h1
    obtain ⟨a',c',ea,_⟩:=h1.uS
    rw [ea] at dP
    unfold execOp
    rw [ho]
    simp only [ea,Sem.run_bind,run_convert_bytes_string w s d e a' n c' hs he hd,dP,Result.andThen_ok,Sem.run_pure]
   ·cases hh
  ·cases hh
 case call c=>
  unfold JB at hh
  split at hh
  ·rename_i f hf
   obtain ⟨h',hk,rfl⟩:=pS hh
   clear hh;have hh:=hk;clear hk
   unfold xS at hh
   simp only [cond_eq_ite] at hh
   (repeat' split at hh) <;> cases hh
  ·rename_i b hb
   have hex:∀(a:Act),execOp a.eval o=builtin b c.argTypes o.type (c.args.map fun | .const _=>true | _=>false) (c.args.map a.eval):=fun a=>by
    unfold execOp
    rw [ho]
    simp only [resolve,hb]
    rfl
   have AY:∀(σ:cg) (a:Act),(∀x∈o.op.operands,VR σ (t.eval x) (a.eval x))->VL σ (qL t.eval c.args.toList) (c.args.map a.eval).toList:=fun σ a hx=>by
    have:=L9 (σ:=σ) (ρ:=t.eval) (ρ':=a.eval) (l:=c.args.toList) fun x hZ=>hx x (by rw [ho];simp [Op.operands,Call.operands,hb];simpa using hZ)
    simpa using this
   have one:∀{σ:cg} {x:Value} {ar:Array Value},VL σ [x] ar.toList->∃x',ar=#[x']/\VR σ x x':=fun h=>by
    obtain ⟨x',a',he,hx,ha⟩:=h.of_cons
    rw [ha.of_nil] at he
    exact ⟨x',by apply Array.ext';simpa using he,hx⟩
   have two:∀{σ:cg} {x y:Value} {ar:Array Value},VL σ [x,y] ar.toList->∃x' y',ar=#[x',y']/\VR σ x x'/\VR σ y y':=fun h=>by
    obtain ⟨x',a',he,hx,ha⟩:=h.of_cons
    obtain ⟨y',a2,lJ,hy,CU⟩:=ha.of_cons
    rw [lJ,CU.of_nil] at he
    exact ⟨x',y',by apply Array.ext';simpa using he,hx,hy⟩
   unfold NY at hh
   split at hh
   ·rename_i x xf
    split at hh
    ·rename_i t0 tl G7
     have EC:c.argTypes[0]?=some t0:=by rw [<-Array.getElem?_toList,G7];rfl
     obtain ⟨h',hk,rfl⟩:=pS hh
     clear hh;have hh:=hk;clear hk
     rw [hb]
     refine qy hw fun σ a hx=>?_
     have h1:=AY σ a hx
     rw [xf] at h1
     obtain ⟨x',he,il⟩:=one h1
     obtain ⟨v',hv,eY⟩:=(agG (P:=P) (ty:=o.type) hh il c.argTypes EC).2
     refine ⟨v',hv,fun w=>?_⟩
     rw [hex,he]
     simp [builtin,eY]
    ·cases hh
   ·rename_i s x xf
    split at hh
    ·rename_i t1 t2 G7
     split at hh
     ·rename_i e2 yl
      have G8:c.argTypes=#[t1,t2]:=by apply Array.ext';simpa using G7
      rw [hb]
      obtain ⟨dB,eY⟩:=afe (P:=P) (ty:=o.type) hw hh yl
      refine LX hw dB (DI fun σ w a hr hf hx=>?_)
      have h1:=AY σ a hx
      rw [xf] at h1
      obtain ⟨s',x',he,dz,il⟩:=two h1
      obtain ⟨σ',v',w',hp,hv,dP⟩:=eY σ w s' x' hr hf dz il
      refine ⟨σ',v',w',hp,hv,.inl ?_⟩
      rw [hex,he,G8]
      simp [builtin,dP]
     ·cases hh
    ·cases hh
   ·rename_i d x xf
    split at hh
    ·rename_i t0 tl G7
     have EC:c.argTypes[0]?=some t0:=by rw [<-Array.getElem?_toList,G7];rfl
     rw [hb]
     obtain ⟨dB,eY⟩:=afZ (P:=P) (ty:=o.type) hw EC hh
     refine LX hw dB (DI fun σ w a hr hf hx=>?_)
     have h1:=AY σ a hx
     rw [xf] at h1
     obtain ⟨d',x',he,Kv,il⟩:=two h1
     obtain ⟨v',w',hp,hv,dP⟩:=eY σ w d' x' hr Kv il
     refine ⟨σ,v',w',hp,hv,.inl ?_⟩
     rw [hex,he]
     simp [builtin,dP]
    ·cases hh
   ·rename_i x xf
    split at hh
    ·rename_i t0 tl G7
     have EC:c.argTypes[0]?=some t0:=by rw [<-Array.getElem?_toList,G7];rfl
     rw [hb]
     obtain ⟨dB,eY⟩:=afy (P:=P) (ty:=o.type) hw EC hh
     refine LX hw dB (DI fun σ w a hr hf hx=>?_)
     have h1:=AY σ a hx
     rw [xf] at h1
     obtain ⟨x',he,il⟩:=one h1
     obtain ⟨v',w',hp,hv,dP⟩:=eY σ w x' hr il
     refine ⟨σ,v',w',hp,hv,.inl ?_⟩
     rw [hex,he]
     simp [builtin,dP]
    ·cases hh
   ·rename_i x y xf
    obtain ⟨h',hk,rfl⟩:=pS hh
    clear hh;have hh:=hk;clear hk
    rw [hb]
    refine qy hw fun σ a hx=>?_
    have h1:=AY σ a hx
    rw [xf] at h1
    obtain ⟨x',y',he,il,Xi⟩:=two h1
    obtain ⟨v',hv,eY⟩:=(aaz (P:=P) hh il Xi c.argTypes o.type).2
    refine ⟨v',hv,fun w=>?_⟩
    rw [hex,he]
    simp only [Bool.false_eq_true,if_false] at eY
    simp [builtin,eY]
   ·rename_i x y xf
    obtain ⟨h',hk,rfl⟩:=pS hh
    clear hh;have hh:=hk;clear hk
    rw [hb]
    refine qy hw fun σ a hx=>?_
    have h1:=AY σ a hx
    rw [xf] at h1
    obtain ⟨x',y',he,il,Xi⟩:=two h1
    obtain ⟨v',hv,eY⟩:=(aaz (P:=P) hh il Xi c.argTypes o.type).2
    refine ⟨v',hv,fun w=>?_⟩
    rw [hex,he]
    simp only [if_true] at eY
    simp [builtin,eY]
   ·cases hh
  ·cases hh
end
end Go.Proofs.YtebibeaobhcfkaaGreat.Ab
namespace Go.Proofs.YtebibeaobhcfkaaGreat.Ab
open Go Classical
abbrev Env:=Nat->Value
def oS (E:Env) (d:Option Nat) (v:Value):Env:=match d with
 | some d=>fun i=>if i=d then v else E i
 | none=>E
def kf (E:Env) (x:Operand):Value:=match x with
 | .tmp i=>E i
 | .const v=>v
 | .func f=>.func (.func f) #[] #[]
 | .global g=>.pointer (some ⟨g,0,none⟩)
def cj (l:List Value):Env:=fun i=>l.getD i undef
structure TE (n:Nat) (t:Act) (E:Env):Prop where
 get:∀i,t.tmps.getD i undef=E i
 size:t.tmps.size=n
 NO:t.defers=[]
theorem TE.ev {n:Nat} {t:Act} {E:Env} (h:TE n t E):kf E=t.eval:=by
 funext x
 cases x with
 | tmp i=>exact (h.get i).symm
 | const v=>rfl
 | func f=>rfl
 | global g=>rfl
theorem TE.put {n:Nat} {t:Act} {E:Env} (h:TE n t E) {d:Option Nat} (hd:∀x,d=some x->x < n) (v:Value):TE n (t.put d v) (oS E d v):=by
 refine ⟨fun i=>?_,by rw [LO];exact h.size,by rw [LC];exact h.NO⟩
 rw [LM]
 cases d with
 | none=>rw [if_neg (fun hx=>by cases hx.1)];exact h.get i
 | some x=>
  have hx:=hd x rfl
  rw [h.size]
  show _=if i=x then v else E i
  by_cases hi:i=x
  ·subst hi;simp [hx]
  ·have:¬(some x=some i/\i < n):=fun hh=>hi (Option.some.inj hh.1).symm
   rw [if_neg this,if_neg hi];exact h.get i
def JC (v:Value) (want:Bool):Bool:=match v with
 | .bool b=>b==want
 | _=>false
def A0 (E:Env) (want:Bool) (d:Option (Option Nat)):Bool:=match d with
 | some (some d)=>JC (E d) want
 | _=>false
def JD (ds:List (Option Nat)) (E:Env) (gd:Option (Nat × Bool)):Bool:=match gd with
 | none=>true
 | some (j,want)=>A0 E want ds[j]?
theorem PK {n:Nat} {t:Act} {E:Env} (h:TE n t E) (ops:Array Oper) (o:Oper):JD (ops.toList.map (·.dst)) E o.guard=Region.wanted o (yielded ops t.tmps):=by
 unfold Region.wanted JD
 cases hg:o.guard with
 | none=>rfl
 | some jw=>
  obtain ⟨j,want⟩:=jw
  simp only [List.getElem?_map,Array.getElem?_toList,yielded]
  cases ho:ops[j]? with
  | none=>simp [A0]
  | some o2=>
   simp only [Option.map_some,Option.bind_some]
   cases hd:o2.dst with
   | none=>simp [A0]
   | some d=>
    simp only [Option.bind_some]
    have hh:=h.get d
    by_cases bf:d < t.tmps.size
    ·have:t.tmps.getD d undef=t.tmps[d]:=by simp [Array.getD,bf]
     rw [this] at hh
     simp only [A0,Array.getElem?_eq_getElem bf,<-hh]
     cases t.tmps[d] <;> simp [JC]
    ·have:t.tmps.getD d undef=undef:=by simp [Array.getD,bf]
     rw [this] at hh
     simp only [A0,Array.getElem?_eq_none (Nat.le_of_not_lt bf),<-hh]
     simp [JC,undef]
structure bY (H:ad):Prop where
 wf:H.wf
 fz:∀b,H.fz b=true->b < H.next
structure KX (X:Nat->Bool) (H H':ad):Prop where
 nx:H.next<=H'.next
 get:∀b,X b=true->H'.get b=H.get b
 fz:∀b,X b=true->H'.fz b=true
 iI:bY H'
def aj (P:Program) (f:FuncId) (args:Array Value) (H:ad) (K:Value->ad->Prop):Prop:=
 bY H->∃v H',jE eg H H'/\Xc P f args H v H'/\KX H.fz H H'/\K v H'
theorem aj.mono {P:Program} {f:FuncId} {args:Array Value} {H:ad} {K K':Value->ad->Prop} (h:aj P f args H K) (hk:∀v H',KX H.fz H H'->K v H'->K' v H'):aj P f args H K':=fun hf=>by
 obtain ⟨v,H',h1,h2,h3,h4⟩:=h hf
 exact ⟨v,H',h1,h2,h3,hk v H' h3 h4⟩
def ad.af (H:ad) (fz:Nat->Bool):ad:=⟨H.next,H.get,fz⟩
theorem aj.af {P:Program} {f:FuncId} {args:Array Value} {H:ad} {K:Value->ad->Prop}
  (h:aj P f args H fun v H'=>∃N2:Nat->Bool,(∀b,H.fz b=true->N2 b=true)/\(∀b,N2 b=true->b < H'.next)/\K v (H'.af N2)):aj P f args H K:=fun hf=>by
 obtain ⟨v,H',h1,h2,h3,N2,h4,h5,h6⟩:=h hf
 exact ⟨v,H'.af N2,⟨h1.next,h1.wf,h1.same⟩,fun σ w DR hr bk ha=>(h2 σ w DR hr bk ha).mono fun e w' ⟨σ',v',h,p,hv⟩=>⟨σ',v',h,⟨p.rel,p.ext,p.size,p.ae,p.qg,p.vG,p.rest⟩,hv⟩,⟨h3.nx,h3.get,h4,⟨h3.iI.wf,h5⟩⟩,h6⟩
def kt (P:Program) (op:Op):Nat:=match op with
 | .move _ | .assign _ | .pick _ _ _ | .nilCheck _ | .binOp _ _ _ _ _ | .unOp _ _ _ | .fieldAddr _ _ _ | .field _ _ _ | .indexAddr _ _ _ | .index _ _ _ | .extract _ _ | .build _ _ | .makeFunc _ _ _ | .slice _ _ _ _ _=>0
 | .load _ _=>1
 | .alloc _ | .box _ _ | .buildSlice _ _ _ | .makeSlice _ _ _=>2
 | .convert s _ _=>(match P.underlying s with
  | some (.int _)=>0
  | _=>4)
 | .call c=>(match c.callee with
  | .value _=>3
  | .builtin .len | .builtin .min | .builtin .max=>0
  | _=>4)
 | _=>4
def aaE (a b:Nat):Bool:=a==0||b==0||(a==1&&(b==1||b==2))||(a==2&&(b==2||b==3))||((a==3||a==4)&&b==2)
def aaF (a b:Nat):Bool:=(a==1&&(b==3||b==4))||((a==3||a==4||a==2)&&b==1)||(a==2&&b==4)
def pW (P:Program) (ops:Array Oper) (i:Nat):Nat:=match ops[i]? with
 | some o=>kt P o.op
 | none=>0
def Qo (P:Program) (ops:Array Oper) (tb:List (Nat × Nat)):Bool:=
 (List.range ops.size).all fun k=>(List.range k).all fun i=>((ze ops ops.size).getD k 0).testBit i||aaE (pW P ops i) (pW P ops k)||(aaF (pW P ops i) (pW P ops k)&&tb.contains (i,k))
structure Rec where
 ob:nv
 nw:Option Nat
 h:ad
 h':ad
noncomputable def mC (P:Program) (ev:Operand->Value) (op:Op):nv:=match op with
 | .load ty a=>(match ev a with
  | .pointer (some ⟨b,o,none⟩)=>some (b,vi P ty o)
  | _=>none)
 | _=>none
def wF (P:Program) (op:Op) (H:ad):Option Nat:=if kt P op=2 then some H.next else none
def zh (ob:nv) (H H':ad):Prop:=match ob with
 | some (b,π)=>π (H'.get b)=π (H.get b)
 | none=>True
def Q4 (nw:Option Nat) (H H':ad):Prop:=match nw with
 | some a=>H'.get a=H.get a
 | none=>True
def MV (r:Option Rec) (ob:nv) (H H':ad):Prop:=match r with
 | some r=>zh ob r.h r.h'/\zh r.ob H H'/\Q4 r.nw H H'
 | none=>True
def look (acc:List (Nat × Rec)) (i:Nat):Option Rec:=match acc with
 | []=>none
 | p::acc=>if p.1=i then some p.2 else look acc i
def vj (tb:List (Nat × Nat)) (k:Nat) (acc:List (Nat × Rec)) (ob:nv) (H H':ad):Prop:=match tb with
 | []=>True
 | p::tb=>(if p.2=k then MV (look acc p.1) ob H H' else True)/\vj tb k acc ob H H'
def told (tb:List (Nat × Nat)) (i:Nat):Bool:=tb.any fun p=>p.1==i
def note (tb:List (Nat × Nat)) (i:Nat) (r:Rec) (acc:List (Nat × Rec)):List (Nat × Rec):=if told tb i=true then (i,r)::acc else acc
section
variable (P:Program) (X:Nat->Bool)
def ia (ev:Operand->Value) (op:Op) (H:ad) (K:Value->ad->Prop):Prop:=match pB P ev op H with
 | .ok v H'=>(∀b,b < H.next->X b=true->H'.get b=H.get b)/\K v H'
 | .call f args=>aj P f args H K
 | .no=>False
def lZ (ds:List (Option Nat)):List Oper->Env->ad->(Env->ad->Prop)->Prop
 | [],E,H,K=>K E H
 | o::l,E,H,K=>if JD ds E o.guard=true then ia P X (kf E) o.op H (fun v H'=>lZ ds l (oS E o.dst v) H' K) else lZ ds l (oS E o.dst undef) H K
def ju (tb:List (Nat × Nat)) (ds:List (Option Nat)):List Oper->Nat->List (Nat × Rec)->Env->ad->(Env->ad->Prop)->Prop
 | [],_,_,E,H,K=>K E H
 | o::l,k,acc,E,H,K=>if JD ds E o.guard=true then ia P X (kf E) o.op H (fun v H'=>vj tb k acc (mC P (kf E) o.op) H H'/\
   ju tb ds l (k+1) (note tb k ⟨mC P (kf E) o.op,wF P o.op H,H,H'⟩ acc) (oS E o.dst v) H' K) else ju tb ds l (k+1) acc (oS E o.dst undef) H K
def pX (k:Env->ad->Prop) (Q:Exit->Env->ad->Prop):Exit->Env->ad->Prop
 | .normal,E,H=>k E H
 | e,E,H=>Q e E H
def wO (id:Nat) (Q:Exit->Env->ad->Prop):Exit->Env->ad->Prop
 | .exit i,E,H=>if i=id then Q .normal E H else Q (.exit i) E H
 | e,E,H=>Q e E H
def Cz (v:Value) (x y:Prop):Prop:=match v with
 | .bool b=>if b=true then x else y
 | _=>False
def qQ (step:Env->ad->(Exit->Env->ad->Prop)->Prop):Nat->Env->ad->(Exit->Env->ad->Prop)->Prop
 | 0,_,_,_=>False
 | n+1,E,H,Q=>step E H (pX (fun E H=>qQ step n E H Q) Q)
abbrev pE:=List (Nat × List (Nat × Nat))
def Bm (T:pE) (id:Nat):List (Nat × Nat):=match T with
 | []=>[]
 | p::T=>if p.1=id then p.2 else Bm T id
def wC (T:pE):Code->Env->ad->(Exit->Env->ad->Prop)->Prop
 | .skip,E,H,Q=>Q .normal E H
 | .label _,E,H,Q=>Q .normal E H
 | .exit id,E,H,Q=>Q (.exit id) E H
 | .ret,E,H,Q=>Q .ret E H
 | .seq a b,E,H,Q=>wC T a E H (pX (fun E H=>wC T b E H Q) Q)
 | .cond c a b,E,H,Q=>Cz (kf E c) (wC T a E H Q) (wC T b E H Q)
 | .block id a,E,H,Q=>wC T a E H (wO id Q)
 | .loop a,E,H,Q=>∃n,qQ (wC T a) n E H Q
 | .region _ ops false,E,H,Q=>lZ P X (ops.toList.map (·.dst)) ops.toList E H (Q .normal)
 | .region id ops true,E,H,Q=>ju P X (Bm T id) (ops.toList.map (·.dst)) ops.toList 0 [] E H (Q .normal)
 | _,_,_,_=>False
def oc (T:pE) (n:Nat):Code->Bool
 | .skip | .exit _ | .ret | .label _=>true
 | .seq a b=>oc T n a&&oc T n b
 | .cond c a b=>uQ c&&oc T n a&&oc T n b
 | .block _ a | .loop a=>oc T n a
 | .region id ops draw=>LV n ops&&(!draw||(PF ops&&Qo P ops (Bm T id)))
 | _=>false
noncomputable def x7 (rs:List ResultVar) (E:Env) (H:ad):Option (List Value):=match rs with
 | []=>some []
 | r::rs=>match x7 rs E H with
  | some l=>(match r with
   | .tmp t=>some (E t::l)
   | .cell a t=>match tU P t (E a) H with
    | .ok v _=>some (v::l)
    | _=>none)
  | none=>none
def CA (rs:List ResultVar) (E:Env) (H:ad) (K:Value->ad->Prop):Prop:=match x7 P rs E H with
 | some l=>K (J6 l) H
 | none=>False
def cm (rs:List ResultVar) (K:Value->ad->Prop):Exit->Env->ad->Prop
 | .normal,E,H=>CA P rs E H K
 | .ret,E,H=>CA P rs E H K
 | _,_,_=>False
end
section
variable {P:Program} {X:Nat->Bool}
structure zj (X:Nat->Bool) (H:ad):Prop where
 iI:bY H
 sub:∀b,X b=true->H.fz b=true
theorem KX.refl {H:ad} (h:zj X H):KX X H H:=⟨Nat.le_refl _,fun _ _=>rfl,h.sub,h.iI⟩
theorem KX.trans {H H1 H2:ad} (h:KX X H H1) (h':KX X H1 H2):KX X H H2:=
 ⟨Nat.le_trans h.nx h'.nx,fun b hb=>(h'.get b hb).trans (h.get b hb),h'.fz,h'.iI⟩
theorem KX.inv {H H':ad} (h:KX X H H'):zj X H':=⟨h.iI,h.fz⟩
structure xT (H H':ad):Prop where
 nx:H.next<=H'.next
 fz:∀b,H.fz b=true->H'.fz b=true
 fw:(∀b,H.fz b=true->b < H.next)->∀b,H'.fz b=true->b < H'.next
theorem xT.refl (H:ad):xT H H:=⟨Nat.le_refl _,fun _ h=>h,fun h=>h⟩
theorem xT.ai (H:ad) (b:Nat) (B:cO):xT H (H.ai b B):=⟨Nat.le_refl _,fun _ h=>h,fun h=>h⟩
theorem xT.push (H:ad) (B:cO):xT H (H.push B):=by
 refine ⟨Nat.le_succ _,fun b h=>?_,fun h b hb=>?_⟩
 ·show (b==H.next||H.fz b)=true
  rw [h,Bool.or_true]
 ·have dX:(b==H.next||H.fz b)=true:=hb
  show b < H.next+1
  rw [Bool.or_eq_true,beq_iff_eq] at dX
  rcases dX with h1 | h1
  ·omega
  ·have:=h b h1;omega
theorem xT.grow (H:ad) (c:Nat) (B:cO):xT H (H.grow c B):=by
 refine ⟨Nat.le_succ _,fun b h=>?_,fun h b hb=>?_⟩
 ·show (b==H.next||H.fz b)=true
  rw [h,Bool.or_true]
 ·have dX:(b==H.next||H.fz b)=true:=hb
  show b < H.next+1
  rw [Bool.or_eq_true,beq_iff_eq] at dX
  rcases dX with h1 | h1
  ·omega
  ·have:=h b h1;omega
theorem TS {r:KO} {H H':ad} {v:Value} (h:iq r H=.ok v H'):xT H H':=by
 obtain ⟨_,_,rfl⟩:=pS h;exact .refl _
theorem Pu {b o:Nat} {vs:List Value} {v v':Value} {H H':ad} (hh:sT b o vs v H=.ok v' H'):xT H H':=by
 unfold sT at hh
 (repeat' split at hh) <;> cases hh
 exact .ai _ _ _
theorem LK {cs:List Value} {e:TypeId} {iD:Bool} {k:Nat->Value} {H H':ad} {v:Value} (hh:s0 cs e iD k H=.ok v H'):xT H H':=by
 cases hh;exact .push _ _
theorem agN {ev:Operand->Value} {op:Op} {H H':ad} {v:Value} (hh:pB P ev op H=.ok v H'):xT H H':=by
 cases op <;> simp only [pB] at hh <;> first
  | (cases hh;done)
  | (cases hh;exact .refl _)
  | exact TS hh
  | exact LK hh
  | skip
 case alloc=>unfold DJ at hh;split at hh <;> first | exact LK hh | (cases hh;done)
 case buildSlice=>unfold qx at hh;(repeat' split at hh) <;> first | exact LK hh | (cases hh;done)
 case makeSlice=>unfold FB at hh;(repeat' split at hh) <;> first | exact LK hh | (cases hh;done)
 case load=>unfold tU at hh;(repeat' split at hh) <;> cases hh <;> exact .refl _
 case store=>unfold Ci at hh;(repeat' split at hh) <;> first | exact Pu hh | (cases hh;done)
 case convert=>
  unfold yZ at hh;(repeat' split at hh) <;> first | (cases hh;done) | (cases hh;exact .refl _) | (unfold LJ at hh;(repeat' split at hh) <;> first | (cases hh;done) | (cases hh;exact .refl _))
 case call=>
  unfold JB at hh
  split at hh
  ·exact TS hh
  ·unfold NY at hh
   (repeat' split at hh) <;> first
    | (cases hh;done)
    | exact TS hh
    | (unfold iZ at hh;(repeat' split at hh) <;> first | (cases hh;done) | (cases hh;exact .refl _) | exact LK hh | exact Pu hh | (cases hh;exact .grow _ _ _))
    | (unfold Cq at hh;(repeat' split at hh) <;> first | (cases hh;done) | (cases hh;exact .refl _) | exact Pu hh)
    | (unfold Ma at hh;(repeat' split at hh) <;> first | (cases hh;done) | (cases hh;exact .refl _) | exact Pu hh)
  ·cases hh
theorem aah {ev:Operand->Value} {op:Op} {H:ad} {f:FuncId} {args:Array Value} (hh:pB P ev op H=.call f args):NM P ev op h0=.call f args/\ahE op=false:=by
 have nl:∀{r:KO},r.yV=false->iq r H≠.call f args:=fun {r} hr he=>by
  cases r with
  | call=>cases hr
  | ok=>cases he
  | no=>cases he
 cases op <;> simp only [pB] at hh
 case call c=>
  refine ⟨?_,rfl⟩
  unfold JB at hh
  show Jy P ev c h0=_
  unfold Jy
  split at hh
  ·rename_i fv hc
   try rw [hc]
   try simp only
   cases hk:xS P (ev fv) (qL ev c.args.toList).toArray with
   | call f1 a1=>rw [hk] at hh;cases hh;rfl
   | ok=>rw [hk] at hh;cases hh
   | no=>rw [hk] at hh;cases hh
  ·exfalso
   unfold NY at hh
   (repeat' split at hh) <;> first
    | (cases hh;done)
    | exact nl (abm _ _ _) hh
    | exact nl (abn _ _ _ _) hh
    | (unfold iZ s0 sT at hh;(repeat' split at hh) <;> cases hh)
    | (unfold Cq sT at hh;(repeat' split at hh) <;> cases hh)
    | (unfold Ma sT at hh;(repeat' split at hh) <;> cases hh)
  ·cases hh
 all_goals exfalso
 all_goals first
  | (cases hh;done)
  | (unfold DJ s0 at hh;(repeat' split at hh) <;> cases hh;done)
  | (unfold qx s0 at hh;(repeat' split at hh) <;> cases hh;done)
  | (unfold FB s0 at hh;(repeat' split at hh) <;> cases hh;done)
  | (unfold tU at hh;(repeat' split at hh) <;> cases hh;done)
  | (unfold Ci sT at hh;(repeat' split at hh) <;> cases hh;done)
  | (unfold yZ LJ at hh;(repeat' split at hh) <;> cases hh;done)
  | skip
 all_goals
  have hc:∀{r:KO},iq r H=.call f args->r=.call f args:=fun {r} he=>by
   cases r with
   | call=>cases he;rfl
   | ok=>cases he
   | no=>cases he
  have h2:=hc hh
  first
  | (unfold DP at h2;split at h2 <;> cases h2;done)
  | (unfold iA at h2;(repeat' split at h2) <;> cases h2;done)
  | (unfold Ea at h2;(repeat' split at h2) <;> cases h2;done)
  | (unfold dS at h2;(repeat' split at h2) <;> cases h2;done)
  | (unfold Ew at h2;(repeat' split at h2) <;> cases h2;done)
  | (unfold Ca at h2;(repeat' split at h2) <;> cases h2;done)
  | (unfold Cg at h2;(repeat' split at h2) <;> cases h2;done)
  | (unfold BX at h2;simp only [cond_eq_ite] at h2;(repeat' split at h2) <;> cases h2;done)
  | (unfold BY at h2;simp only [cond_eq_ite] at h2;(repeat' split at h2) <;> cases h2;done)
  | (unfold Ch at h2;simp only [cond_eq_ite] at h2;(repeat' split at h2) <;> cases h2;done)
  | (unfold pk at h2;simp only [oQ,cond_eq_ite] at h2;(repeat' split at h2) <;> cases h2;done)
end
end Go.Proofs.YtebibeaobhcfkaaGreat.Ab
