/- Lemmas for the walk, part 1. -/
import Derived.Handy
import Derived.KernelRfl
import Derived.Laws.Append
import Derived.Laws.BytesString
import Derived.Laws.CopyRow
import Derived.Laws.Entries
import Derived.Laws.Rows
import Derived.Laws.Slices
import Derived.Laws.StructEq
import Derived.MapKept
import Derived.Orders
set_option linter.unusedVariables false
set_option linter.unusedSimpArgs false
set_option maxHeartbeats 16000000
namespace Go.Proofs.YtinjmfblebpnnaaGreat.Ab
open Go
inductive Tr (α:Type) where
 | lf
 | nd (v:Option α) (l r:Tr α)
namespace Tr
variable {α:Type}
noncomputable def get (t:Tr α):Nat->Option α:=
 Tr.rec (motive:=fun _=>Nat->Option α) (fun _=>none)
  (fun v _ _ gl gr n=>Nat.rec (motive:=fun _=>Option α) v (fun m _=>Bool.rec (motive:=fun _=>Option α) (gr (Nat.div m (nat_lit 2))) (gl (Nat.div m (nat_lit 2))) (Nat.beq (Nat.mod m (nat_lit 2)) (nat_lit 0))) n) t
noncomputable def hV (t:Tr α) {β:Type} (k:Option α->Tr α->Tr α->β):β:=Tr.rec (motive:=fun _=>β) (k none .lf .lf) (fun v l r _ _=>k v l r) t
noncomputable def now (t:Tr α) {β:Type} (k:Tr α->β):β:=Tr.rec (motive:=fun _=>β) (k .lf) (fun v l r _ _=>k (.nd v l r)) t
noncomputable def put (f:Nat):Tr α->Nat->Option α->Tr α:=
 Nat.rec (motive:=fun _=>Tr α->Nat->Option α->Tr α) (fun t _ _=>t)
  (fun _ ih t n a=>t.hV fun v l r=>Nat.rec (motive:=fun _=>Tr α) (.nd a l r)
   (fun m _=>Bool.rec (motive:=fun _=>Tr α) ((ih r (Nat.div m (nat_lit 2)) a).now fun r=>.nd v l r) ((ih l (Nat.div m (nat_lit 2)) a).now fun l=>.nd v l r) (Nat.beq (Nat.mod m (nat_lit 2)) (nat_lit 0))) n) f
end Tr
structure KB where
 cs:Tr Value
 len:Nat
 elem:Nat
 hV:Bool
structure KH where
 hp:Tr KB
 nx:Nat
 wr:Nat
noncomputable def rT {β:Type} (n:Nat) (k:Nat->β):β:=Nat.rec (motive:=fun _=>β) (k 0) (fun m _=>k (Nat.succ m)) n
noncomputable def akw {β:Type} (n:Int) (k:Int->β):β:=match n with
 | .ofNat n=>rT n fun n=>k (.ofNat n)
 | .negSucc n=>rT n fun n=>k (.negSucc n)
noncomputable def akx {β:Type} (v:Value) (k:Value->β):β:=match v with
 | .int x n=>akw n fun n=>k (.int x n)
 | .bool b=>Bool.rec (motive:=fun _=>β) (k (.bool false)) (k (.bool true)) b
 | .pointer (some ⟨b,o,none⟩)=>rT b fun b=>rT o fun o=>k (.pointer (some ⟨b,o,none⟩))
 | .slice (some ⟨b,o,none⟩) n c=>rT b fun b=>rT o fun o=>rT n fun n=>rT c fun c=>k (.slice (some ⟨b,o,none⟩) n c)
 | v=>k v
def DK:Int->Int->Bool
 | .ofNat a,.ofNat b=>Nat.blt a b
 | .ofNat _,.negSucc _=>false
 | .negSucc _,.ofNat _=>true
 | .negSucc a,.negSucc b=>Nat.blt b a
def FU:Int->Int->Bool
 | .ofNat a,.ofNat b=>Nat.beq a b
 | .negSucc a,.negSucc b=>Nat.beq a b
 | _,_=>false
def A8:Int->Bool
 | .ofNat a=>Nat.blt a 9223372036854775808
 | .negSucc a=>Nat.blt a 9223372036854775808
def pH (k:IntKind) (n:Int):Int:=match k with
 | .i64=>bif A8 n then n else IntKind.wrap .i64 n
 | .u8=>match n with
  | .ofNat a=>bif Nat.blt a 256 then n else IntKind.wrap .u8 n
  | _=>IntKind.wrap .u8 n
 | .u64=>match n with
  | .ofNat a=>bif Nat.blt a 18446744073709551616 then n else IntKind.wrap .u64 n
  | _=>IntKind.wrap .u64 n
 | k=>IntKind.wrap k n
noncomputable def HH (x:List UInt8):List UInt8->Bool:=
 List.rec (motive:=fun _=>List UInt8->Bool) (fun y=>List.rec (motive:=fun _=>Bool) true (fun _ _ _=>false) y)
  (fun a _ ih y=>List.rec (motive:=fun _=>Bool) false (fun b ys _=>Bool.rec (motive:=fun _=>Bool) false (ih ys) (Nat.beq a.toNat b.toNat)) y) x
noncomputable def pK {α:Type} (l:List α):Nat->Option α:=
 List.rec (motive:=fun _=>Nat->Option α) (fun _=>none) (fun a _ ih n=>Nat.rec (motive:=fun _=>Option α) (some a) (fun m _=>ih m) n) l
noncomputable def Ih {α:Type} (l:List α):Nat->List α:=
 List.rec (motive:=fun _=>Nat->List α) (fun _=>[]) (fun a t ih n=>Nat.rec (motive:=fun _=>List α) (a::t) (fun m _=>ih m) n) l
noncomputable def Ii {α:Type} (l:List α):Nat->List α:=
 List.rec (motive:=fun _=>Nat->List α) (fun _=>[]) (fun a t ih n=>Nat.rec (motive:=fun _=>List α) [] (fun m _=>a::ih m) n) l
noncomputable def j4 {α:Type} (l:List α):Nat:=List.rec (motive:=fun _=>Nat) 0 (fun _ _ n=>Nat.succ n) l
def x8 (k:IntKind) (a:Int):Nat:=match a with
 | .ofNat n=>n % 2 ^ k.bits
 | .negSucc n=>(Int.negSucc n % ((2 ^ k.bits:Nat):Int)).toNat
noncomputable def N0 (op:BinOp) (k:IntKind) (a b:Int):Option Value:=match b with
 | .ofNat b=>match op with
  | .shl=>some (.int k (pH k (a * Int.ofNat (2 ^ (bif Nat.ble b k.bits then b else k.bits)))))
  | .shr=>some (.int k (a.fdiv (Int.ofNat (2 ^ (bif Nat.ble b k.bits then b else k.bits)))))
  | _=>none
 | _=>none
noncomputable def uk (op:BinOp) (k:IntKind) (a b:Int):Option Value:=match op with
 | .add=>some (.int k (pH k (a+b)))
 | .sub=>some (.int k (pH k (a - b)))
 | .mul=>some (.int k (pH k (a * b)))
 | .quo=>bif FU b 0 then none else some (.int k (pH k (a.tdiv b)))
 | .rem=>bif FU b 0 then none else some (.int k (a.tmod b))
 | .eql=>some (.bool (FU a b))
 | .neq=>some (.bool (!FU a b))
 | .lss=>some (.bool (DK a b))
 | .leq=>some (.bool (!DK b a))
 | .gtr=>some (.bool (DK b a))
 | .geq=>some (.bool (!DK a b))
 | .and=>some (.int k (pH k (.ofNat (Nat.land (x8 k a) (x8 k b)))))
 | .or=>some (.int k (pH k (.ofNat (Nat.lor (x8 k a) (x8 k b)))))
 | .xor=>some (.int k (pH k (.ofNat (Nat.xor (x8 k a) (x8 k b)))))
 | .andNot=>some (.int k (pH k (.ofNat (Nat.land (x8 k a) (2 ^ k.bits - 1 - x8 k b)))))
 | _=>none
noncomputable def IH (op:BinOp) (a b:ByteArray):Option Value:=match op with
 | .add=>bif Nat.blt (j4 a.data.toList+j4 b.data.toList) 4611686018427387904 then some (.string ⟨(a.data.toList++b.data.toList).toArray⟩) else none
 | .eql=>some (.bool (HH a.data.toList b.data.toList))
 | .neq=>some (.bool (!HH a.data.toList b.data.toList))
 | _=>none
inductive KO where
 | no
 | ok (v:Value) (h:KH)
 | call (f:FuncId) (args:Array Value)
section
variable (P:Program)
noncomputable def hJ (t:TypeId):Option Bool:=match P.underlying t with
 | some (.struct _) | some (.array _ _)=>some true
 | some _=>some false
 | none=>none
noncomputable def du (t:TypeId):Option Nat:=match P.info? t with
 | some i=>some i.size
 | none=>none
noncomputable def N1 (cs:Tr Value) (n:Nat):Nat->Option (List Value):=
 Nat.rec (motive:=fun _=>Nat->Option (List Value)) (fun _=>some []) (fun _ ih o=>match cs.get o with
  | some v=>match ih (Nat.succ o) with
   | some l=>some (v::l)
   | none=>none
  | none=>none) n
noncomputable def K1 (h:KH) (b:Nat):Option KB:=bif Nat.blt b h.nx&&Nat.blt b 1073741824 then h.hp.get b else none
noncomputable def Sm (ty:TypeId) (v:Value) (h:KH):KO:=match v with
 | .pointer (some ⟨b,o,none⟩)=>match K1 h b with
  | some B=>match hJ P ty with
   | some true=>match du P ty with
    | some n=>bif Nat.ble (o+n) B.len then (match N1 B.cs n o with
     | some l=>.ok (.agg l.toArray) h
     | none=>.no) else .no
    | none=>.no
   | some false=>bif Nat.blt o B.len then (match B.cs.get o with
    | some v=>.ok v h
    | none=>.no) else .no
   | none=>.no
  | none=>.no
 | _=>.no
noncomputable def Ad (v:Value):Bool:=match v with
 | .agg _=>false
 | .tuple _=>false
 | _=>true
noncomputable def kh (l:List Value):Bool:=List.rec (motive:=fun _=>Bool) true (fun v _ r=>Bool.rec (motive:=fun _=>Bool) false r (Ad v)) l
noncomputable def Sn (vs:List Value):Tr Value->Nat->Tr Value:=
 List.rec (motive:=fun _=>Tr Value->Nat->Tr Value) (fun t _=>t) (fun v _ ih t o=>akx v fun v=>(t.put 40 o (some v)).now fun t=>ih t (Nat.succ o)) vs
noncomputable def Ko (b o:Nat) (vs:List Value) (v:Value) (h:KH):KO:=match K1 h b with
 | some B=>bif Nat.ble (o+j4 vs) B.len&&Nat.blt B.len 1073741824&&kh vs then
   (Sn vs B.cs o).now fun cs=>(h.hp.put 40 b (some ⟨cs,B.len,B.elem,B.hV⟩)).now fun hp=>rT (Nat.lor h.wr (2 ^ b)) fun wr=>.ok v ⟨hp,h.nx,wr⟩
  else .no
 | none=>.no
noncomputable def RT (ty:TypeId) (a x:Value) (h:KH):KO:=match a with
 | .pointer (some ⟨b,o,none⟩)=>match du P ty with
  | some n=>bif Nat.beq (j4 x.cells.toList) n then Ko b o x.cells.toList undef h else .no
  | none=>.no
 | _=>.no
noncomputable def Dm (cs:List Value) (elem:TypeId) (hV:Bool) (k:Nat->Value) (h:KH):KO:=
 rT (j4 cs) fun n=>bif Nat.blt n 1073741824&&Nat.blt h.nx 1073741824 then
  (Sn cs .lf 0).now fun t=>(h.hp.put 40 h.nx (some ⟨t,n,elem,hV⟩)).now fun hp=>rT (Nat.succ h.nx) fun nx=>.ok (k h.nx) ⟨hp,nx,h.wr⟩
 else .no
noncomputable def ptrTo (b:Nat):Value:=.pointer (some ⟨b,0,none⟩)
def flat:Value->Bool
 | .bool _ | .int _ _ | .float _ _ | .complex _ _ _ | .string _ | .pointer none | .slice none _ _ | .map none | .chan none | .nilFunc | .nilIface=>true
 | _=>false
def Oi (l:List Value):Bool:=l.all flat
def tY:Operand->Bool
 | .tmp _ | .func _=>true
 | .const v=>flat v
 | .global _=>false
noncomputable def gf (t:TypeId):Option (List Value):=match P.info? t with
 | some i=>match i.zero with
  | some z=>bif Oi z.cells.toList then some z.cells.toList else none
  | none=>none
 | none=>none
noncomputable def ff (z:List Value) (n:Nat):List Value:=Nat.rec (motive:=fun _=>List Value) [] (fun _ l=>z++l) n
noncomputable def HI (cs:List Value) (o:Nat) (vs:List Value):List Value:=Ii cs o++(vs++Ih cs (o+j4 vs))
noncomputable def Bi (place:Nat->Option (Nat × Nat)) (parts:List (Nat × Value)):List Value->Option (List Value):=
 List.rec (motive:=fun _=>List Value->Option (List Value)) (fun cs=>some cs) (fun p _ ih cs=>match place p.1 with
  | some (off,size)=>bif Nat.beq (j4 p.2.cells.toList) size&&Nat.ble (off+size) (j4 cs) then ih (HI cs off p.2.cells.toList) else none
  | none=>none) parts
noncomputable def Ke (fs:List Field):Option (List (Nat × Nat)):=
 List.rec (motive:=fun _=>Option (List (Nat × Nat))) (some []) (fun f _ r=>match du P f.type,r with
  | some n,some l=>some ((f.offset,n)::l)
  | _,_=>none) fs
noncomputable def fQ (t:TypeId) (parts:List (Nat × Value)) (h:KH):KO:=match gf P t,P.underlying t with
 | some z,some (.struct fs)=>match Ke P fs.toList with
  | some pl=>match Bi (fun i=>pK pl i) parts z with
   | some cs=>.ok (.agg cs.toArray) h
   | none=>.no
  | none=>.no
 | some z,some (.array _ e)=>match du P e with
  | some n=>match Bi (fun i=>some (i * n,n)) parts z with
   | some cs=>.ok (.agg cs.toArray) h
   | none=>.no
  | none=>.no
 | _,_=>.no
noncomputable def Xi (t:TypeId) (len:Nat) (parts:List (Nat × Value)) (h:KH):KO:=match P.underlying t with
 | some (.slice e)=>match du P e,gf P e with
  | some n,some z=>bif Nat.ble (len * n) 16777216&&Nat.blt 0 n&&Nat.beq (j4 z) n then (match Bi (fun i=>some (i * n,n)) parts (ff z len) with
   | some cs=>Dm cs e false (fun b=>.slice (some ⟨b,0,none⟩) len len) h
   | none=>.no) else .no
  | _,_=>.no
 | _=>.no
noncomputable def Xm (t:TypeId) (l c:Value) (h:KH):KO:=match P.underlying t,l,c with
 | some (.slice e),.int .i64 (.ofNat l),.int .i64 (.ofNat c)=>match P.info? e,gf P e with
  | some i,some z=>bif Nat.ble l c&&Nat.ble (i.bytes * c) 281474976710656&&Nat.blt 0 i.size&&Nat.blt c 9223372036854775808&&Nat.beq (j4 z) i.size then Dm (ff z c) e false (fun b=>.slice (some ⟨b,0,none⟩) l c) h else .no
  | _,_=>.no
 | _,_,_=>.no
noncomputable def AW (s:TypeId) (a:Value) (f:Nat) (h:KH):KO:=match a,P.underlying s with
 | .pointer (some ⟨b,o,none⟩),some (.struct fs)=>match pK fs.toList f with
  | some f=>match du P f.type with
   | some n=>bif Nat.blt 0 n then .ok (.pointer (some ⟨b,o+f.offset,none⟩)) h else .no
   | none=>.no
  | none=>.no
 | _,_=>.no
noncomputable def AX (t:TypeId) (x i:Value) (h:KH):KO:=match P.underlying t,x,i with
 | some (.slice e),.slice (some ⟨b,o,none⟩) n _,.int _ (.ofNat i)=>match du P e with
  | some s=>bif Nat.blt i n then .ok (.pointer (some ⟨b,o+i * s,none⟩)) h else .no
  | none=>.no
 | some (.array n e),.pointer (some ⟨b,o,none⟩),.int _ (.ofNat i)=>match du P e with
  | some s=>bif Nat.blt i n then .ok (.pointer (some ⟨b,o+i * s,none⟩)) h else .no
  | none=>.no
 | _,_,_=>.no
noncomputable def Bj (t:TypeId) (cs:List Value) (off:Nat):Option Value:=match hJ P t with
 | some true=>match du P t with
  | some n=>some (.agg (Ii (Ih cs off) n).toArray)
  | none=>none
 | some false=>pK cs off
 | none=>none
noncomputable def Kp (x y:Value):Option Bool:=match x,y with
 | .bool a,.bool b=>some (a==b)
 | _,_=>none
noncomputable def KD (x y:Value):Option Bool:=match x,y with
 | .int j a,.int k b=>bif decide (j=k) then some (FU a b) else none
 | _,_=>none
noncomputable def eqStr (x y:Value):Option Bool:=match x,y with
 | .string a,.string b=>some (HH a.data.toList b.data.toList)
 | _,_=>none
noncomputable def Kf (x y:Value):Option Bool:=match x,y with
 | .slice a _ _,.slice b _ _=>bif a.isNone then some b.isNone else bif b.isNone then some false else none
 | _,_=>none
noncomputable def KE (x y:Value):Option Bool:=match x,y with
 | .pointer a,.pointer b=>bif a.isNone then some b.isNone else bif b.isNone then some false else none
 | _,_=>none
noncomputable def Q2 (eq:TypeId->Value->Value->Option Bool) (xs ys:List Value) (fs:List Field):Option Bool:=
 List.rec (motive:=fun _=>Option Bool) (some true) (fun f _ r=>bif decide (f.name= "_") then none else match Bj P f.type xs f.offset,Bj P f.type ys f.offset with
  | some a,some b=>match eq f.type a b with
   | some true=>r
   | some false=>some false
   | none=>none
  | _,_=>none) fs
noncomputable def Ao (d:Nat):TypeId->Value->Value->Option Bool:=
 Nat.rec (motive:=fun _=>TypeId->Value->Value->Option Bool) (fun _ _ _=>none) (fun _ eq t x y=>match P.underlying t with
  | some .bool=>Kp x y
  | some (.int _)=>KD x y
  | some .string=>eqStr x y
  | some (.slice _)=>Kf x y
  | some (.pointer _)=>KE x y
  | some (.struct fs)=>match x,y with
   | .agg xs,.agg ys=>bif P.stoodInHeld t||P.eqGuardType P.depth t then none else Q2 P eq xs.toList ys.toList fs.toList
   | _,_=>none
  | _=>none) d
noncomputable def nI (op:BinOp) (t:TypeId) (x y:Value):Option Value:=match x,y with
 | .int k a,.int k' b=>match op with
  | .shl=>N0 .shl k a b
  | .shr=>N0 .shr k a b
  | op=>bif decide (k=k') then uk op k a b else none
 | .string a,.string b=>IH op a b
 | .int _ _,_=>none
 | .string _,_=>none
 | x,y=>match op with
  | .eql=>(Ao P 10000 t x y).map .bool
  | .neq=>(Ao P 10000 t x y).map fun b=>.bool (!b)
  | _=>none
noncomputable def Bc (t:TypeId) (x:Value) (f:Nat) (h:KH):KO:=match x,P.underlying t with
 | .agg cs,some (.struct fs)=>match pK fs.toList f with
  | some f=>match Bj P f.type cs.toList f.offset with
   | some v=>.ok v h
   | none=>.no
  | none=>.no
 | _,_=>.no
noncomputable def xY (t:TypeId) (x i:Value) (h:KH):KO:=match P.underlying t,x,i with
 | some .string,.string s,.int _ (.ofNat i)=>match pK s.data.toList i with
  | some c=>.ok (.int .u8 (.ofNat c.toNat)) h
  | none=>.no
 | some (.array n e),.agg cs,.int _ (.ofNat i)=>match du P e with
  | some s=>bif Nat.blt i n then (match Bj P e cs.toList (i * s) with
   | some v=>.ok v h
   | none=>.no) else .no
  | none=>.no
 | _,_,_=>.no
noncomputable def nJ (x:Option Value) (d:Nat) (k:Nat->KO):KO:=match x with
 | none=>k d
 | some (.int _ (.ofNat n))=>k n
 | _=>.no
noncomputable def l9 (t:TypeId) (x:Value) (lo hi mx:Option Value) (h:KH):KO:=match P.underlying t,x,mx with
 | some .string,.string s,none=>nJ lo 0 fun l=>nJ hi (j4 s.data.toList) fun r=>
   bif Nat.ble l r&&Nat.ble r (j4 s.data.toList) then .ok (.string ⟨(Ii (Ih s.data.toList l) (r - l)).toArray⟩) h else .no
 | some (.slice e),.slice none n c,none=>match du P e with
  | some _=>nJ lo 0 fun l=>nJ hi n fun r=>bif Nat.ble l r&&Nat.ble r c&&Nat.beq c 0 then .ok (.slice none (r - l) (c - l)) h else .no
  | none=>.no
 | some (.slice e),.slice (some ⟨b,o,none⟩) n c,none=>match du P e with
  | some s=>nJ lo 0 fun l=>nJ hi n fun r=>
   bif Nat.ble l r&&Nat.ble r c then (bif Nat.blt l c||Nat.beq l 0 then .ok (.slice (some ⟨b,o+l * s,none⟩) (r - l) (c - l)) h else .ok (.slice (some ⟨b,o,some 0⟩) (r - l) 0) h) else .no
  | none=>.no
 | some (.slice e),.slice (some ⟨b,o,some s⟩) n _,none=>match du P e with
  | some _=>nJ lo 0 fun l=>nJ hi n fun r=>bif Nat.beq l 0&&Nat.beq r 0 then .ok (.slice (some ⟨b,o,some s⟩) 0 0) h else .no
  | none=>.no
 | some (.slice e),.slice (some ⟨b,o,none⟩) n c,some m=>match du P e with
  | some _=>nJ lo 0 fun l=>nJ (some (hi.getD undef)) n fun r=>nJ (some m) c fun m=>bif Nat.ble l r&&Nat.ble r m&&Nat.ble m c then .ok (.slice (some ⟨b,o,some 0⟩) (r - l) 0) h else .no
  | none=>.no
 | _,_,_=>.no
noncomputable def aam (size:Nat) (x:Value) (h:KH):Option (Nat × List Value):=match x with
 | .slice none n _=>bif Nat.beq n 0 then some (0,[]) else none
 | .slice (some ⟨b,o,none⟩) n _=>match K1 h b with
  | some B=>bif Nat.ble (o+n * size) B.len then (match N1 B.cs (n * size) o with
   | some l=>some (n,l)
   | none=>none) else none
  | none=>none
 | _=>none
noncomputable def So (e:TypeId) (size sl n b:Nat) (B:KB) (new:List Value) (h:KH):KO:=
 bif Nat.blt ((sl+n) * size) 1073741824&&Nat.blt h.nx 1073741824 then
  (Sn new B.cs (sl * size)).now fun cs=>rT ((sl+n) * size) fun len=>(h.hp.put 40 b none).now fun hp=>(hp.put 40 h.nx (some ⟨cs,len,e,true⟩)).now fun hp=>rT (Nat.lor h.wr (2 ^ b)) fun wr=>rT (Nat.succ h.nx) fun nx=>
   .ok (.slice (some ⟨h.nx,0,none⟩) (sl+n) (sl+n)) ⟨hp,nx,wr⟩
 else .no
noncomputable def Rv (t:TypeId) (s x:Value) (h:KH):KO:=match P.underlying t with
 | some (.slice e)=>match P.info? e,gf P e with
  | some i,some z=>match aam i.size x h with
   | some (n,new)=>bif Nat.beq (j4 z) i.size&&Nat.blt (n * i.bytes) 140737488355328&&Nat.blt n 9223372036854775808&&Nat.blt 0 i.bytes then (match s with
    | .slice none sl sc=>bif Nat.beq sl 0&&Nat.beq sc 0 then
      (bif Nat.beq n 0 then .ok s h else Dm new e true (fun b=>.slice (some ⟨b,0,none⟩) n n) h) else .no
    | .slice (some ⟨b,o,none⟩) sl sc=>match K1 h b with
     | some B=>bif Nat.ble (sl+n) sc then
       (bif Nat.ble (o+sc * i.size) B.len then Ko b (o+sl * i.size) new (.slice (some ⟨b,o,none⟩) (sl+n) sc) h else .no)
      else bif Nat.blt ((sl+n) * i.bytes) 140737488355328&&Nat.blt (sl+n) 9223372036854775808&&Nat.beq (o+sc * i.size) B.len&&Nat.ble sl sc&&Nat.beq B.elem e then
       (bif B.hV then
         -- in its place,or not:arw reads FV aH block any more
         (bif Nat.beq o 0&&kh new then So e i.size sl n b B new h else .no)
        else (match N1 B.cs (sl * i.size) o with
         | some aH=>Dm (aH++new) e true (fun b=>.slice (some ⟨b,0,none⟩) (sl+n) (sl+n)) h
         | none=>.no))
      else .no
     | none=>.no
    | _=>.no) else .no
   | none=>.no
  | _,_=>.no
 | _=>.no
noncomputable def Sp (t:TypeId) (d x:Value) (h:KH):KO:=match P.underlying t with
 | some (.slice e)=>match du P e,d,x with
  | some size,.slice (some ⟨b,o,none⟩) dn _,.slice (some ⟨b2,o2,none⟩) n _=>rT (bif Nat.ble n dn then n else dn) fun m=>match K1 h b2 with
   | some B=>bif Nat.ble (o2+m * size) B.len then (match N1 B.cs (m * size) o2 with
    | some l=>Ko b o l (.int .i64 (.ofNat m)) h
    | none=>.no) else .no
   | none=>.no
  | some _,.slice a dn _,.slice a2 n _=>bif Nat.beq dn 0||Nat.beq n 0 then .ok (.int .i64 (.ofNat 0)) h else .no
  | _,_,_=>.no
 | _=>.no
noncomputable def w4 (t:TypeId) (x:Value) (h:KH):KO:=match P.underlying t,x with
 | some .string,.string s=>.ok (.int .i64 (.ofNat (j4 s.data.toList))) h
 | some (.slice _),.slice _ n _=>.ok (.int .i64 (.ofNat n)) h
 | _,_=>.no
noncomputable def yi (mx:Bool) (x y:Value) (h:KH):KO:=match x,y with
 | .int k a,.int _ b=>bif mx then .ok (.int k (bif DK a b then b else a)) h else .ok (.int k (bif DK b a then b else a)) h
 | _,_=>.no
noncomputable def Kq (l:List Value):Option (List Int):=List.rec (motive:=fun _=>Option (List Int)) (some []) (fun v _ r=>match v,r with
 | .int .u8 n,some l=>some (n::l)
 | _,_=>none) l
noncomputable def XB (x:Value) (h:KH):KO:=match aam 1 x h with
 | some (_,l)=>match Kq l with
  | some ns=>.ok (.string ⟨(List.rec (motive:=fun _=>List UInt8) [] (fun n _ r=>UInt8.ofNat n.toNat::r) ns).toArray⟩) h
  | none=>.no
 | none=>.no
noncomputable def Zv (src dst:TypeId) (x:Value) (h:KH):KO:=match P.underlying src,P.underlying dst,x with
 | some (.int _),some (.int k),.int _ n=>.ok (.int k (pH k n)) h
 | some (.slice e),some .string,x=>match P.underlying e with
  | some (.int .u8)=>XB x h
  | _=>.no
 | _,_,_=>.no
noncomputable def DL (op:UnOp) (x:Value) (h:KH):KO:=match op,x with
 | .not,.bool b=>.ok (.bool (!b)) h
 | .neg,.int k n=>.ok (.int k (pH k (0 - n))) h
 | _,_=>.no
noncomputable def x9 (f:Value) (args:Array Value):KO:=match f with
 | .func (.func g) first cap=>match P.funcs[g]? with
  | some fn=>bif decide (fn.name= "runtime.NumGoroutine")||fn.body.isNone then .no else .call g ((first.toList++args.toList)++cap.toList).toArray
  | none=>.no
 | _=>.no
noncomputable def biK (b:Builtin) (ts:Array TypeId) (args:List Value) (h:KH):KO:=match b,args with
 | .len,[x]=>match ts.toList with
  | t::_=>w4 P t x h
  | _=>.no
 | .append,[s,x]=>match ts.toList with
  | [t,t2]=>match P.underlying t2 with
   | some (.slice _)=>Rv P t s x h
   | _=>.no
  | _=>.no
 | .copy,[d,x]=>match ts.toList with
  | t::_=>Sp P t d x h
  | _=>.no
 | .min,[x,y]=>yi false x y h
 | .max,[x,y]=>yi true x y h
 | _,_=>.no
noncomputable def C8 (c a b:Value) (h:KH):KO:=match c with
 | .bool c=>.ok (Bool.rec (motive:=fun _=>Value) b a c) h
 | _=>.no
noncomputable def Dn (x:Value) (h:KH):KO:=match x with
 | .pointer (some a)=>.ok x h
 | .func (.func _) _ _=>.ok x h
 | _=>.no
noncomputable def eC (op:BinOp) (t:TypeId) (x y:Value) (h:KH):KO:=match nI P op t x y with
 | some v=>.ok v h
 | none=>.no
noncomputable def pS (ev:Operand->Value) (l:List Operand):List Value:=List.rec (motive:=fun _=>List Value) [] (fun x _ r=>ev x::r) l
noncomputable def Ij (ev:Operand->Value) (c:Call) (h:KH):KO:=match c.callee with
 | .value f=>x9 P (ev f) (pS ev c.args.toList).toArray
 | .builtin b=>biK P b c.argTypes (pS ev c.args.toList) h
 | _=>.no
noncomputable def parts (ev:Operand->Value) (l:List (Nat × Operand)):List (Nat × Value):=List.rec (motive:=fun _=>List (Nat × Value)) [] (fun x _ r=>(x.1,ev x.2)::r) l
noncomputable def Y2 (t:TypeId) (h:KH):KO:=match gf P t with
 | some z=>Dm z t false ptrTo h
 | none=>.no
noncomputable def AZ (x:Value) (i:Nat) (h:KH):KO:=match x with
 | .tuple vs=>match pK vs.toList i with
  | some v=>.ok v h
  | none=>.no
 | _=>.no
noncomputable def LM (ev:Operand->Value) (op:Op) (h:KH):KO:=match op with
 | .move x=>.ok (ev x) h
 | .assign x=>.ok (ev x) h
 | .pick c a b=>C8 (ev c) (ev a) (ev b) h
 | .alloc t=>Y2 P t h
 | .box t x=>Dm (ev x).cells.toList t false ptrTo h
 | .build t ps=>fQ P t (parts ev ps.toList) h
 | .buildSlice t n ps=>Xi P t n (parts ev ps.toList) h
 | .load t a=>Sm P t (ev a) h
 | .store t a x=>RT P t (ev a) (ev x) h
 | .nilCheck x=>Dn (ev x) h
 | .binOp op t x y _=>eC P op t (ev x) (ev y) h
 | .unOp op _ x=>DL op (ev x) h
 | .convert s d x=>Zv P s d (ev x) h
 | .makeFunc f first cap=>.ok (.func f (pS ev first.toList).toArray (pS ev cap.toList).toArray) h
 | .makeSlice t l c=>Xm P t (ev l) (ev c) h
 | .slice t x lo hi mx=>l9 P t (ev x) (lo.map ev) (hi.map ev) (mx.map ev) h
 | .fieldAddr s x f=>AW P s (ev x) f h
 | .field t x f=>Bc P t (ev x) f h
 | .indexAddr t x i=>AX P t (ev x) (ev i) h
 | .index t x i=>xY P t (ev x) (ev i) h
 | .extract t i=>AZ (ev t) i h
 | .call c=>Ij P ev c h
 | _=>.no
abbrev Lg:=List (Nat × Array Value × Value)
inductive CR where
 | no (why:Nat)
 | Ap (tm:Tr Value) (h:KH) (g:Lg)
 | ret (tm:Tr Value) (h:KH) (g:Lg)
 | ext (id:Nat) (tm:Tr Value) (h:KH) (g:Lg)
structure Ov where
 fn:Nat
 arg:Nat
 val:Nat
 may:Nat
 nt:FuncId->Array Value->KH->Option (Value × KH)
def Kg (n:Nat) (ops:Array Oper):Bool:=ops.toList.all fun o=>o.op.operands.all tY&&(match o.dst with
 | some d=>Nat.blt d n
 | none=>true)
def rF (ops:Array Oper) (k:Nat):List Nat:=
 match ops[k]? with
 | some o=>(o.after.toList.filter fun e=>Region.binds .any e).map (·.on)
 | none=>[]
def yj (ops:Array Oper):Nat->List Nat
 | 0=>[]
 | n+1=>yj ops n++[(rF ops n).foldl (fun s e=>s ||| (2 ^ e ||| (yj ops n).getD e 0)) 0]
def Y3 (ops:Array Oper) (m:List Nat) (i k:Nat):Bool:=
 (m.getD k 0).testBit i||match ops[i]?,ops[k]? with
  | some x,some y=>x.apart ops y
  | _,_=>true
def Nv (ops:Array Oper):Bool:=
 (List.range ops.size).all fun k=>(rF ops k).all (fun e=>decide (e < k))&&(List.range k).all fun i=>Y3 ops (yj ops ops.size) i k
noncomputable def II (l:List Value):Value:=match l with
 | [v]=>v
 | l=>.tuple l.toArray
end
structure Loc where
 aU:Nat
 base:Nat
 room:Nat
 /-- It aky in:it is read alone,and others may lie vl it aan are read alone. -/
 ro:Bool:=false
 /-- It is a map. -/
 mp:Bool:=false
abbrev bG:=Nat->Option Loc
structure cw where
 cells:List Value
 elem:TypeId
 hV:Bool
 /-- It aky in:it is read alone. -/
 ro:Bool:=false
inductive VR (σ:bG):Value->Value->Prop
 | same {v:Value}:flat v=true->VR σ v v
 | ptr {b o:Nat} {l:Loc}:(σ b=some l/\l.mp=false)->VR σ (.pointer (some ⟨b,o,none⟩)) (.pointer (some ⟨l.aU,l.base+o,none⟩))
 | slice {b o n c:Nat} {l:Loc}:(σ b=some l/\l.mp=false)->VR σ (.slice (some ⟨b,o,none⟩) n c) (.slice (some ⟨l.aU,l.base+o,none⟩) n (c+l.room))
 | map {b:Nat} {l:Loc}:(σ b=some l/\l.mp=true)->VR σ (.map (some b)) (.map (some l.aU))
 | yQ {b o s n k c:Nat} {a:Addr}:VR σ (.slice (some ⟨b,o,some s⟩) n k) (.slice (some a) n c)
 | func {fn:Fn} {f f' c c':Array Value}:f.size=f'.size->c.size=c'.size->(∀i,i < f.size->VR σ (f.getD i undef) (f'.getD i undef))->
   (∀i,i < c.size->VR σ (c.getD i undef) (c'.getD i undef))->VR σ (.func fn f c) (.func fn f' c')
 | agg {a a':Array Value}:a.size=a'.size->(∀i,i < a.size->VR σ (a.getD i undef) (a'.getD i undef))->VR σ (.agg a) (.agg a')
 | tuple {a a':Array Value}:a.size=a'.size->(∀i,i < a.size->VR σ (a.getD i undef) (a'.getD i undef))->VR σ (.tuple a) (.tuple a')
theorem VR.mono {σ σ':bG} {v v':Value} (h:VR σ v v') (hs:∀b l,σ b=some l->σ' b=some l):VR σ' v v':=by
 induction h with
 | same h=>exact .same h
 | ptr h=>exact .ptr ⟨hs _ _ h.1,h.2⟩
 | slice h=>exact .slice ⟨hs _ _ h.1,h.2⟩
 | map h=>exact .map ⟨hs _ _ h.1,h.2⟩
 | yQ=>exact .yQ
 | func h1 h2 _ _ ih1 ih2=>exact .func h1 h2 ih1 ih2
 | agg h _ ih=>exact .agg h ih
 | tuple h _ ih=>exact .tuple h ih
theorem VR.undef (σ:bG):VR σ undef undef:=.tuple rfl (fun i h=>absurd h (by simp))
def sV (σ:bG) (a a':Array Value):Prop:=a.size=a'.size/\∀i,i < a.size->VR σ (a.getD i undef) (a'.getD i undef)
theorem Xn {a:Array Value} {i:Nat} (h:¬i < a.size):a.getD i undef=undef:=by simp [Array.getD,h]
theorem sV.at {σ:bG} {a a':Array Value} (h:sV σ a a') (i:Nat):VR σ (a.getD i undef) (a'.getD i undef):=by
 by_cases hi:i < a.size
 ·exact h.2 i hi
 ·rw [Xn hi,Xn (by rw [<-h.1];exact hi)];exact .undef σ
theorem sV.mono {σ σ':bG} {a a':Array Value} (h:sV σ a a') (hs:∀b l,σ b=some l->σ' b=some l):sV σ' a a':=
 ⟨h.1,fun i hi=>(h.2 i hi).mono hs⟩
def vu (kv:List (Int × Int)):List Value:=kv.flatMap fun p=>[.int .i64 p.1,.int .i64 p.2]
def Fe (es:Array MapEntry) (kv:List (Int × Int)):Prop:=es.toList.map (fun e=>(e.key,e.val))=kv.map fun p=>(.int .i64 p.1,.int .i64 p.2)
structure BR (P:Program) (σ:bG) (B:cw) (l:Loc) (w:World):Prop where
 map:l.mp=true->∃(es:Array MapEntry) (ck:Nat) (kv:List (Int × Int)),w.heap[l.aU]?=some (.map es ck)/\Fe es kv/\B.cells=vu kv
 fy:l.mp=false->∃(cs:Array Value) (e:TypeId) (fr:Nat × Nat),w.heap[l.aU]?=some (.cells cs e fr)/\l.base+B.cells.length<=cs.size/\
  (∀i,i < B.cells.length->VR σ (B.cells.getD i undef) (cs.getD (l.base+i) undef))/\
  (l.ro=false->e=B.elem/\fr=(0,0)/\cs.size=l.base+B.cells.length+l.room * P.cellsOf B.elem)
 room:B.hV=false->l.room=0
 own:B.ro=false->l.ro=false
theorem BR.cs {P:Program} {σ:bG} {B:cw} {l:Loc} {w:World} (h:BR P σ B l w) (ho:B.ro=false) (hm:l.mp=false):∃cs:Array Value,w.heap[l.aU]?=some (.cells cs B.elem (0,0))/\cs.size=l.base+B.cells.length+l.room * P.cellsOf B.elem/\
  ∀i,i < B.cells.length->VR σ (B.cells.getD i undef) (cs.getD (l.base+i) undef):=by
 obtain ⟨cs,e,fr,h1,h2,h3,h4⟩:=h.fy hm
 obtain ⟨rfl,rfl,h5⟩:=h4 (h.own ho)
 exact ⟨cs,h1,h5,h3⟩
theorem BR.mk' {P:Program} {σ:bG} {B:cw} {l:Loc} {w:World} (h:∃cs:Array Value,w.heap[l.aU]?=some (.cells cs B.elem (0,0))/\cs.size=l.base+B.cells.length+l.room * P.cellsOf B.elem/\
  ∀i,i < B.cells.length->VR σ (B.cells.getD i undef) (cs.getD (l.base+i) undef)) (hr:B.hV=false->l.room=0) (ho:B.ro=false->l.ro=false) (hm:l.mp=false):BR P σ B l w:=by
 obtain ⟨cs,h1,h2,h3⟩:=h
 exact ⟨fun e=>(by rw [hm] at e;cases e),fun _=>⟨cs,_,_,h1,by omega,h3,fun _=>⟨rfl,rfl,h2⟩⟩,hr,ho⟩
theorem BR.lt {P:Program} {σ:bG} {B:cw} {l:Loc} {w:World} (h:BR P σ B l w):l.aU < w.heap.size:=by
 cases hm:l.mp
 ·obtain ⟨cs,e,fr,h,_⟩:=h.fy hm
  exact (Array.getElem?_eq_some_iff.1 h).1
 ·obtain ⟨es,ck,kv,h,_⟩:=h.map hm
  exact (Array.getElem?_eq_some_iff.1 h).1
theorem BR.move {P:Program} {σ σ':bG} {B:cw} {l:Loc} {w w':World} (h:BR P σ B l w) (hs:∀b l,σ b=some l->σ' b=some l)
  (hw:w'.heap[l.aU]?=w.heap[l.aU]?):BR P σ' B l w':=by
 refine ⟨fun hm=>?_,fun hm=>?_,h.room,h.own⟩
 ·rw [hw];exact h.map hm
 ·obtain ⟨cs,e,fr,h1,h2,h3,h4⟩:=h.fy hm
  exact ⟨cs,e,fr,hw▸h1,h2,fun i hi=>(h3 i hi).mono hs,h4⟩
structure Rel (P:Program) (σ:bG) (F:Nat->Prop) (g:Nat->Option cw) (w:World):Prop where
 aU:∀b l B,F b->σ b=some l->g b=some B->BR P σ B l w
 inj:∀b b' l l',F b->F b'->σ b=some l->σ b'=some l'->(g b).isSome=true->(g b').isSome=true->l.ro=false->l'.ro=false->l.aU=l'.aU->b=b'
 sep:∀b b' l l',F b->σ b=some l->σ b'=some l'->(g b).isSome=true->l.ro=false->l'.ro=true->l.aU≠l'.aU
 aH:∀b l,σ b=some l->l.ro=true->l.aU < w.heap.size
theorem Rel.sub {P:Program} {σ:bG} {F F':Nat->Prop} {g:Nat->Option cw} {w:World} (h:Rel P σ F g w) (hF:∀b,F' b->F b):Rel P σ F' g w:=
 ⟨fun b l B hb=>h.aU b l B (hF b hb),fun b b' l l' hb dY=>h.inj b b' l l' (hF b hb) (hF b' dY),fun b b' l l' hb=>h.sep b b' l l' (hF b hb),h.aH⟩
theorem Rel.aao {P:Program} {σ:bG} {F:Nat->Prop} {g g':Nat->Option cw} {w:World} (h:Rel P σ F g w) (hg:∀b,F b->∀l,σ b=some l->(g' b).isSome=true->g' b=g b):Rel P σ F g' w:=
 ⟨fun b l B hb hs hB=>h.aU b l B hb hs (by rw [<-hg b hb l hs (by rw [hB];rfl)];exact hB),fun b b' l l' hb dY hs dd hi eG=>h.inj b b' l l' hb dY hs dd ((hg b hb l hs hi)▸hi) ((hg b' dY l' dd eG)▸eG),
  fun b b' l l' hb hs dd hi=>h.sep b b' l l' hb hs dd ((hg b hb l hs hi)▸hi),h.aH⟩
def Aq (σ:bG) (F:Nat->Prop) (g:Nat->Option cw) (k:Nat):Prop:=∃b l,F b/\σ b=some l/\(g b).isSome=true/\l.ro=false/\l.aU=k
structure ad where
 next:Nat
 get:Nat->Option cw
 /-- arx aan a call awd leave as awe are (told beside;FV model atD nothing of it). -/
 fz:Nat->Bool:=fun _=>false
def ad.wf (H:ad):Prop:=∀b,H.next<=b->H.get b=none
def fresh (H H':ad) (b:Nat):Prop:=H.next<=b/\b < H'.next
structure i5 (F:Nat->Prop) (H H':ad):Prop where
 next:H.next<=H'.next
 wf:H'.wf
 same:∀b,b < H.next->¬F b->H'.get b=H.get b
def qB (σ:bG) (H H':ad):Prop:=∀b,fresh H H' b->σ b=none
structure jo (P:Program) (F:Nat->Prop) (σ:bG) (H:ad) (w:World) (σ':bG) (H':ad) (w':World):Prop where
 rel:Rel P σ' (fun b=>F b∨fresh H H' b) H'.get w'
 ext:∀b,¬fresh H H' b->σ' b=σ b
 size:w.heap.size<=w'.heap.size
 af:∀k,k < w.heap.size->¬Aq σ F H.get k->w'.heap[k]?=w.heap[k]?
 oZ:∀k,k < w.heap.size->Aq σ' (fun b=>F b∨fresh H H' b) H'.get k->Aq σ F H.get k
 uF:∀b l,fresh H H' b->σ' b=some l->l.ro=false
 rest:w'.os=w.os/\w'.tape=w.tape/\w'.output=w.output
theorem jo.up {P:Program} {F:Nat->Prop} {σ:bG} {H:ad} {w:World} {σ':bG} {H':ad} {w':World} (h:jo P F σ H w σ' H' w')
  (hf:qB σ H H'):∀b l,σ b=some l->σ' b=some l:=fun b l hb=>by
 by_cases hx:fresh H H' b
 ·rw [hf b hx] at hb;cases hb
 ·rw [h.ext b hx];exact hb
def dT:Nat->Prop:=fun _=>True
theorem HJ (H:ad) (b:Nat):¬fresh H H b:=fun x=>by have:=x.1;have:=x.2;omega
theorem jo.refl {P:Program} {F:Nat->Prop} {σ:bG} {H:ad} {w w':World} (h:Rel P σ F H.get w) (hw:w'.heap=w.heap) (ET:w'.os=w.os/\w'.tape=w.tape/\w'.output=w.output:=by exact ⟨rfl,rfl,rfl⟩):jo P F σ H w σ H w' where
 rel:=⟨fun b l B hb hs hg=>(h.aU b l B (hb.resolve_right (HJ H b)) hs hg).move (fun _ _ h=>h) (by rw [hw]),
  fun b b' l l' hb dY=>h.inj b b' l l' (hb.resolve_right (HJ H b)) (dY.resolve_right (HJ H b')),fun b b' l l' hb=>h.sep b b' l l' (hb.resolve_right (HJ H b)),fun b l hs ho=>by rw [hw];exact h.aH b l hs ho⟩
 ext:=fun _ _=>rfl
 size:=by rw [hw];exact Nat.le_refl _
 af:=fun k _ _=>by rw [hw]
 oZ:=fun k _ ⟨b,l,hb,h1⟩=>⟨b,l,hb.resolve_right (HJ H b),h1⟩
 uF:=fun b l hb=>absurd hb (HJ H b)
 rest:=ET
theorem jo.trans {P:Program} {σ σ1 σ2:bG} {H H1 H2:ad} {w w1 w2:World} (n1:H.next<=H1.next) (n2:H1.next<=H2.next)
  (p:jo P dT σ H w σ1 H1 w1) (q:jo P dT σ1 H1 w1 σ2 H2 w2):jo P dT σ H w σ2 H2 w2 where
 rel:=q.rel.sub fun b _=>.inl trivial
 ext:=fun b hb=>by
  rw [q.ext b (fun x=>hb ⟨Nat.le_trans n1 x.1,x.2⟩),p.ext b (fun x=>hb ⟨x.1,Nat.lt_of_lt_of_le x.2 n2⟩)]
 size:=Nat.le_trans p.size q.size
 af:=fun k hk hi=>by
  rw [q.af k (Nat.lt_of_lt_of_le hk p.size) (fun ⟨b,l,_,hx⟩=>hi (p.oZ k hk ⟨b,l,.inl trivial,hx⟩)),p.af k hk hi]
 oZ:=fun k hk ⟨b,l,hb,hx⟩=>by
  obtain ⟨b1,l1,_,fA⟩:=q.oZ k (Nat.lt_of_lt_of_le hk p.size) ⟨b,l,.inl trivial,hx⟩
  exact p.oZ k hk ⟨b1,l1,.inl trivial,fA⟩
 uF:=fun b l hb hs=>by
  by_cases h2:fresh H1 H2 b
  ·exact q.uF b l h2 hs
  ·rw [q.ext b h2] at hs
   refine p.uF b l ⟨hb.1,?_⟩ hs
   rcases Nat.lt_or_ge b H1.next with h | h
   ·exact h
   ·exact absurd ⟨h,hb.2⟩ h2
 rest:=⟨q.rest.1.trans p.rest.1,q.rest.2.1.trans p.rest.2.1,q.rest.2.2.trans p.rest.2.2⟩
theorem qB.left {σ:bG} {H H1 H2:ad} (h:qB σ H H2) (n2:H1.next<=H2.next):qB σ H H1:=
 fun b hb=>h b ⟨hb.1,Nat.lt_of_lt_of_le hb.2 n2⟩
theorem qB.right {P:Program} {F:Nat->Prop} {σ σ1:bG} {H H1 H2:ad} {w w1:World} (h:qB σ H H2) (n1:H.next<=H1.next)
  (p:jo P F σ H w σ1 H1 w1):qB σ1 H1 H2:=fun b hb=>by
 rw [p.ext b (fun x=>by have:=x.2;have:=hb.1;omega)]
 exact h b ⟨Nat.le_trans n1 hb.1,hb.2⟩
def sW (P:Program) (F:Nat->Prop) (o:Oper) (t:Act) (H:ad) (v:Value) (H':ad):Prop:=
 ∀(σ:bG) (w:World) (a:Act) (K:Act->World->Prop) (Q:Exit->Act->World->Prop),Rel P σ F H.get w->qB σ H H'->
  (∀x∈o.op.operands,VR σ (t.eval x) (a.eval x))->
  (∀σ' v' w',jo P F σ H w σ' H' w'->VR σ' v v'->K (a.put o.dst v') w')->o.wp P a w K Q
theorem sW.wide {P:Program} {F F':Nat->Prop} {o:Oper} {t:Act} {H:ad} {v:Value} {H':ad} (hw:H.wf) (hs:i5 F H H')
  (hF:∀b,F b->F' b) (h:sW P F o t H v H'):sW P F' o t H v H':=by
 intro σ w a K Q hr hf hx hk
 refine h σ w a K Q (hr.sub hF) hf hx ?_
 intro σ' v' w' hp hv
 have vJ:=hp.up hf
 have aH:∀b,F' b->¬F b->¬fresh H H' b->(H'.get b).isSome=true->H'.get b=H.get b:=fun b _ hn iL hi=>by
  by_cases be:b < H.next
  ·exact hs.same b be hn
  ·exfalso
   have:¬b < H'.next:=fun hb=>iL ⟨by omega,hb⟩
   rw [hs.wf b (by omega)] at hi;cases hi
 have apart:∀b l,F' b->¬F b->¬fresh H H' b->σ' b=some l->(H'.get b).isSome=true->l.aU < w.heap.size/\¬Aq σ F H.get l.aU:=fun b l h1 h2 h3 h4 h5=>by
  have hg:=aH b h1 h2 h3 h5
  rw [hp.ext b h3] at h4
  obtain ⟨B,hB⟩:=Option.isSome_iff_exists.1 (hg▸h5)
  refine ⟨(hr.aU b l B h1 h4 hB).lt,fun ⟨b0,l0,o9,me,yR,LO,he⟩=>h2 ?_⟩
  cases uG:l.ro
  ·rw [<-hr.inj b0 b l0 l (hF _ o9) h1 me h4 yR (by rw [hB];rfl) LO uG he];exact o9
  ·exact absurd he (hr.sep b0 b l0 l (hF _ o9) me h4 yR LO uG)
 refine hk σ' v' w' ⟨⟨?_,?_,?_,hp.rel.aH⟩,hp.ext,hp.size,fun k hk hi=>hp.af k hk (fun ⟨b,l,hb,hx⟩=>hi ⟨b,l,hF b hb,hx⟩),?_,hp.uF,hp.rest⟩ hv
 ·intro b l B hb qP hg
  by_cases h1:F b∨fresh H H' b
  ·exact hp.rel.aU b l B h1 qP hg
  ·have h2:¬F b:=fun h=>h1 (.inl h)
   have h3:¬fresh H H' b:=fun h=>h1 (.inr h)
   have dY:F' b:=hb.resolve_right h3
   obtain ⟨be,lT⟩:=apart b l dY h2 h3 qP (by rw [hg];rfl)
   have bh:=aH b dY h2 h3 (by rw [hg];rfl)
   exact (hr.aU b l B dY (by rw [<-hp.ext b h3];exact qP) (by rw [<-bh];exact hg)).move vJ (hp.af _ be lT)
 ·intro b b' l l' hb dY qP Dp hi eG ho gH he
  by_cases h1:F b∨fresh H H' b <;> by_cases lU:F b'∨fresh H H' b'
  ·exact hp.rel.inj b b' l l' h1 lU qP Dp hi eG ho gH he
  ·have h3:¬fresh H H' b':=fun h=>lU (.inr h)
   obtain ⟨be,lT⟩:=apart b' l' (dY.resolve_right h3) (fun h=>lU (.inl h)) h3 Dp eG
   exact absurd (hp.oZ l'.aU be ⟨b,l,h1,qP,hi,ho,he⟩) lT
  ·have h3:¬fresh H H' b:=fun h=>h1 (.inr h)
   obtain ⟨be,lT⟩:=apart b l (hb.resolve_right h3) (fun h=>h1 (.inl h)) h3 qP hi
   exact absurd (hp.oZ l.aU be ⟨b',l',lU,Dp,eG,gH,he.symm⟩) lT
  ·have h3:¬fresh H H' b:=fun h=>h1 (.inr h)
   have FW:¬fresh H H' b':=fun h=>lU (.inr h)
   have hg:=aH b (hb.resolve_right h3) (fun h=>h1 (.inl h)) h3 hi
   have fj:=aH b' (dY.resolve_right FW) (fun h=>lU (.inl h)) FW eG
   exact hr.inj b b' l l' (hb.resolve_right h3) (dY.resolve_right FW) (by rw [<-hp.ext b h3];exact qP) (by rw [<-hp.ext b' FW];exact Dp) (hg▸hi) (fj▸eG) ho gH he
 ·intro b b' l l' hb qP Dp hi ho gH
  by_cases h1:F b∨fresh H H' b
  ·exact hp.rel.sep b b' l l' h1 qP Dp hi ho gH
  ·have h3:¬fresh H H' b:=fun h=>h1 (.inr h)
   have FW:¬fresh H H' b':=fun h=>by have:=hp.uF b' l' h Dp;rw [gH] at this;cases this
   have hg:=aH b (hb.resolve_right h3) (fun h=>h1 (.inl h)) h3 hi
   exact hr.sep b b' l l' (hb.resolve_right h3) (by rw [<-hp.ext b h3];exact qP) (by rw [<-hp.ext b' FW];exact Dp) (hg▸hi) ho gH
 ·rintro k hk ⟨b,l,hb,qP,hi,ho,he⟩
  by_cases h1:F b∨fresh H H' b
  ·obtain ⟨b0,l0,o9,hx⟩:=hp.oZ k hk ⟨b,l,h1,qP,hi,ho,he⟩
   exact ⟨b0,l0,hF b0 o9,hx⟩
  ·have h3:¬fresh H H' b:=fun h=>h1 (.inr h)
   have dY:=hb.resolve_right h3
   exact ⟨b,l,dY,by rw [<-hp.ext b h3];exact qP,(aH b dY (fun h=>h1 (.inl h)) h3 hi)▸hi,ho,he⟩
structure TR (σ:bG) (t a:Act):Prop where
 tm:sV σ t.tmps a.tmps
 dt:t.defers=[]
 da:a.defers=[]
theorem Yx {σ:bG} {t a:Act} {x:Operand} (hx:tY x=true) (h:∀d,x=.tmp d->VR σ (t.tmps.getD d undef) (a.tmps.getD d undef)):
  VR σ (t.eval x) (a.eval x):=by
 cases x with
 | tmp d=>exact h d rfl
 | const v=>exact .same hx
 | func f=>exact .func rfl rfl (fun i h=>absurd h (by simp)) (fun i h=>absurd h (by simp))
 | global g=>cases hx
theorem ab6 {σ:bG} {t a:Act} {ops:Array Oper} {j:Nat} (fM:t.tmps.size=a.tmps.size)
  (h:∀d,(ops[j]?).bind (·.dst)=some d->VR σ (t.tmps.getD d undef) (a.tmps.getD d undef)):
  yielded ops t.tmps j=yielded ops a.tmps j:=by
 unfold yielded
 cases hd:(ops[j]?).bind (·.dst) with
 | none=>rfl
 | some d=>
  have hv:=h d hd
  simp only [Option.bind_some]
  by_cases be:d < t.tmps.size
  ·have dK:d < a.tmps.size:=fM▸be
   simp only [Array.getD,be,dK,dif_pos] at hv
   simp only [Array.getElem?_eq_getElem be,Array.getElem?_eq_getElem dK]
   change VR σ t.tmps[d] a.tmps[d] at hv
   generalize t.tmps[d]=x at hv
   generalize a.tmps[d]=y at hv
   cases hv <;> rfl
  ·rw [Array.getElem?_eq_none (Nat.le_of_not_lt be),Array.getElem?_eq_none (by rw [<-fM];exact Nat.le_of_not_lt be)]
theorem J8 (t:Act) (dst:Option Tmp) (v:Value) (d:Nat):(t.put dst v).tmps.getD d undef=if dst=some d/\d < t.tmps.size then v else t.tmps.getD d undef:=by
 cases dst with
 | none=>simp [Act.put]
 | some e=>
  by_cases h:e=d
  ·subst h
   by_cases be:e < t.tmps.size
   ·simp [Act.put,Array.getD,be]
   ·simp [Act.put,Array.getD,be]
  ·have:¬(some e=some d/\d < t.tmps.size):=fun hh=>h (Option.some.inj hh.1)
   rw [if_neg this]
   by_cases be:d < t.tmps.size
   ·simp [Act.put,Array.getD,be,Array.getElem_setIfInBounds,h]
   ·simp [Act.put,Array.getD,be]
theorem J9 (t:Act) (dst:Option Tmp) (v:Value):(t.put dst v).tmps.size=t.tmps.size:=by cases dst <;> simp [Act.put]
theorem JY (t:Act) (dst:Option Tmp) (v:Value):(t.put dst v).defers=t.defers:=by cases dst <;> rfl
theorem TR.put {σ:bG} {t a:Act} (h:TR σ t a) {v v':Value} (hv:VR σ v v') (dst:Option Tmp):TR σ (t.put dst v) (a.put dst v'):=by
 refine ⟨⟨by rw [J9,J9];exact h.tm.1,fun i _=>?_⟩,by rw [JY];exact h.dt,by rw [JY];exact h.da⟩
 rw [J8,J8,<-h.tm.1]
 split
 ·exact hv
 ·exact h.tm.at i
theorem TR.mono {σ σ':bG} {t a:Act} (h:TR σ t a) (hs:∀b l,σ b=some l->σ' b=some l):TR σ' t a:=⟨h.tm.mono hs,h.dt,h.da⟩
theorem TR.ev {σ:bG} {t a:Act} (h:TR σ t a) {x:Operand} (hx:tY x=true):VR σ (t.eval x) (a.eval x):=Yx hx fun d _=>h.tm.at d
end Go.Proofs.YtinjmfblebpnnaaGreat.Ab
namespace Go.Proofs.YtinjmfblebpnnaaGreat.Ab
open Go Classical
inductive qQ (ops:Array Oper) (i:Nat):Nat->Prop
 | one {k:Nat}:i∈rF ops k->qQ ops i k
 | more {j k:Nat}:qQ ops i j->j∈rF ops k->qQ ops i k
theorem acD (f:Nat->Nat) (l:List Nat) (s i:Nat) (h:(l.foldl (fun s e=>s ||| f e) s).testBit i=true):s.testBit i=true∨∃e∈l,(f e).testBit i=true:=by
 induction l generalizing s with
 | nil=>exact .inl h
 | cons e l ih=>
  simp only [List.foldl_cons] at h
  rcases ih _ h with h | ⟨e',he,h⟩
  ·rw [Nat.testBit_or,Bool.or_eq_true] at h
   exact h.imp id fun h=>⟨e,by simp,h⟩
  ·exact .inr ⟨e',by simp [he],h⟩
theorem Nw (ops:Array Oper) (n:Nat):(yj ops n).length=n:=by induction n <;> simp_all [yj]
theorem Nx (ops:Array Oper):∀(n k i:Nat),((yj ops n).getD k 0).testBit i=true->qQ ops i k
 | 0,k,i,h=>by simp [yj] at h
 | n+1,k,i,h=>by
  by_cases hk:k < n
  ·refine Nx ops n k i ?_
   rw [yj,List.getD_eq_getElem?_getD,List.getElem?_append_left (by rw [Nw];exact hk),<-List.getD_eq_getElem?_getD] at h
   exact h
  ·by_cases FX:k=n
   ·subst FX
    rw [yj,List.getD_eq_getElem?_getD,List.getElem?_append_right (by rw [Nw];exact Nat.le_refl _),Nw] at h
    simp only [Nat.sub_self,List.getElem?_cons_zero,Option.getD_some] at h
    rcases acD _ _ _ _ h with h | ⟨e,he,h⟩
    ·simp at h
    ·rw [Nat.testBit_or,Bool.or_eq_true] at h
     rcases h with h | h
     ·rw [Nat.testBit_two_pow] at h
      exact .one (by rw [<-(of_decide_eq_true h:e=i)];exact he)
     ·exact .more (Nx ops k e i h) he
   ·rw [yj,List.getD_eq_getElem?_getD,List.getElem?_eq_none (by rw [List.length_append,Nw];simp;omega)] at h
    simp at h
structure EA (ops:Array Oper):Prop where
 lt:∀k e,k < ops.size->e∈rF ops k->e < k
 pair:∀i k x y,i < k->ops[i]?=some x->ops[k]?=some y->¬qQ ops i k->x.apart ops y=true
theorem abO {ops:Array Oper} (h:Nv ops=true):EA ops:=by
 unfold Nv at h
 rw [List.all_eq_true] at h
 refine ⟨fun k e hk he=>?_,fun i k x y LP hx hy hb=>?_⟩
 ·have:=h k (List.mem_range.2 hk)
  rw [Bool.and_eq_true,List.all_eq_true,List.all_eq_true] at this
  exact of_decide_eq_true (this.1 e he)
 ·have hk:k < ops.size:=(Array.getElem?_eq_some_iff.1 hy).1
  have:=h k (List.mem_range.2 hk)
  rw [Bool.and_eq_true,List.all_eq_true,List.all_eq_true] at this
  have:=this.2 i (List.mem_range.2 LP)
  unfold Y3 at this
  rw [Bool.or_eq_true] at this
  rcases this with h1 | h1
  ·exact absurd (Nx ops _ _ _ h1) hb
  ·rw [hx,hy] at h1;exact h1
def um (P:Program) (ops:Array Oper) (F:Nat->Prop) (o:Oper) (t:Act) (H:ad) (v:Value) (H':ad):Prop:=
 if Region.wanted o (yielded ops t.tmps)=true then sW P F o t H v H' else v=undef/\H'=H
def Uk (P:Program) (o:Oper) (t:Act) (H:ad) (v:Value):Prop:=
 ∀(σ:bG) (w:World) (a:Act) (K:Act->World->Prop) (Q:Exit->Act->World->Prop),Rel P σ dT H.get w->
  (∀x∈o.op.operands,VR σ (t.eval x) (a.eval x))->(∀v',VR σ v v'->K (a.put o.dst v') w)->o.wp P a w K Q
abbrev mf:=Option (Nat × (Option cw->Option Value))
def Ik (P:Program) (ops:Array Oper) (ob:mf) (F:Nat->Prop) (o:Oper) (t:Act) (H:ad) (v:Value) (H':ad):Prop:=
 ∀b π,ob=some (b,π)->H'=H/\(∀x,¬F x)/\(Region.wanted o (yielded ops t.tmps)=true->∀H2:ad,π (H2.get b)=π (H.get b)->Uk P o t H2 v)/\(¬Region.wanted o (yielded ops t.tmps)=true->v=undef)
structure sX (P:Program) (ops:Array Oper) where
 t:Nat->Act
 H:Nat->ad
 v:Nat->Value
 F:Nat->Nat->Prop
 wf:(H 0).wf
 nO:Nat->mf
 step:∀(i:Nat) (o:Oper),ops[i]?=some o->nO i=none->um P ops (F i) o (t i) (H i) (v i) (H (i+1))
 put:∀(i:Nat) (o:Oper),ops[i]?=some o->t (i+1)=(t i).put o.dst (v i)
 mV:∀i,i < ops.size->i5 (F i) (H i) (H (i+1))
 hV:∀(i:Nat) (o:Oper),ops[i]?=some o->o.op.operands.all tY=true
 lt:∀i b,i < ops.size->F i b->b < (H i).next
 IJ:∀(i:Nat) (o:Oper),ops[i]?=some o->Ik P ops (nO i) (F i) o (t i) (H i) (v i) (H (i+1))
structure sX.akz {P:Program} {ops:Array Oper} (T:sX P ops) (i k:Nat):Prop where
 c2:∀b,T.F k b->b < (T.H i).next->(T.H (i+1)).get b=(T.H i).get b
 c3:∀b,(T.F i b∨fresh (T.H i) (T.H (i+1)) b)->(T.H (k+1)).get b=(T.H k).get b
 c4:∀b π,T.nO k=some (b,π)->π ((T.H (i+1)).get b)=π ((T.H i).get b)
 c5:∀b π,T.nO i=some (b,π)->π ((T.H (k+1)).get b)=π ((T.H k).get b)
section
variable {P:Program} {ops:Array Oper} (T:sX P ops)
def ya (ops:Array Oper) (i:Nat):Option Tmp:=(ops[i]?).bind (·.dst)
noncomputable def tv (L:Nat->Prop):Nat->Nat->Value
 | 0,d=>(T.t 0).tmps.getD d undef
 | m+1,d=>if L m/\ya ops m=some d/\d < (T.t 0).tmps.size then T.v m else tv L m d
noncomputable def hv (L:Nat->Prop):Nat->Nat->Option cw
 | 0,b=>(T.H 0).get b
 | m+1,b=>if L m/\(T.H (m+1)).get b≠(T.H m).get b then (T.H (m+1)).get b else hv L m b
theorem sX.zO:∀{i k:Nat},i<=k->k<=ops.size->(T.H i).next<=(T.H k).next:=by
 intro i k h
 induction h with
 | refl=>exact fun _=>Nat.le_refl _
 | @step m hm ih=>
  intro hk
  have h1:=ih (Nat.le_of_succ_le hk)
  have h2:=(T.mV m hk).next
  exact Nat.le_trans h1 h2
theorem sX.vK (i:Nat) (hi:i<=ops.size):(T.H i).wf:=by
 cases i with
 | zero=>exact T.wf
 | succ i=>exact (T.mV i (by omega)).wf
theorem sX.size:∀(i:Nat),i<=ops.size->(T.t i).tmps.size=(T.t 0).tmps.size
 | 0,_=>rfl
 | i+1,h=>by
  have ho:ops[i]?=some ops[i]:=Array.getElem?_eq_getElem (by omega)
  rw [T.put i _ ho,J9];exact sX.size i (by omega)
theorem sX.aap:∀(i:Nat),i<=ops.size->(T.t i).defers=(T.t 0).defers
 | 0,_=>rfl
 | i+1,h=>by
  have ho:ops[i]?=some ops[i]:=Array.getElem?_eq_getElem (by omega)
  rw [T.put i _ ho,JY];exact sX.aap i (by omega)
theorem sX.Y4 {i:Nat} (hi:i < ops.size) (d:Nat):(T.t (i+1)).tmps.getD d undef=if ya ops i=some d/\d < (T.t 0).tmps.size then T.v i else (T.t i).tmps.getD d undef:=by
 have ho:ops[i]?=some ops[i]:=Array.getElem?_eq_getElem hi
 rw [T.put i _ ho,J8,T.size i (by omega)]
 simp only [ya,ho,Option.bind_some]
structure Down (ops:Array Oper) (L:Nat->Prop):Prop where
 lt:∀i,L i->i < ops.size
 Bu:∀k e,L k->e∈rF ops k->L e
theorem Down.Ar {L:Nat->Prop} (h:Down ops L) {i k:Nat} (hb:qQ ops i k) (hk:∀e∈rF ops k,L e):L i:=by
 induction hb with
 | one he=>exact hk _ he
 | more _ he ih=>exact ih fun e FY=>h.Bu _ e (hk _ he) FY
variable {T}
theorem ah3 {L:Nat->Prop} (hd:Down ops L) (ok:EA ops) {k:Nat} {o:Oper} (ho:ops[k]?=some o) (hk:¬L k) (he:∀e∈rF ops k,L e)
  {d:Nat} (lW:d∈o.looksAt ops∨o.dst=some d) {n:Nat} (hn:k<=n) (uH:n<=ops.size):tv T L n d=(T.t k).tmps.getD d undef:=by
 have je:k < ops.size:=(Array.getElem?_eq_some_iff.1 ho).1
 have low:∀m,m<=k->tv T L m d=(T.t m).tmps.getD d undef:=by
  intro m
  induction m with
  | zero=>exact fun _=>rfl
  | succ m ih=>
   intro hm
   have As:m < ops.size:=by omega
   rw [T.Y4 As,tv,ih (by omega)]
   by_cases yk:ya ops m=some d
   ·have DM:ops[m]?=some ops[m]:=Array.getElem?_eq_getElem As
    have hW:L m:=by
     by_cases hb:qQ ops m k
     ·exact hd.Ar hb he
     ·obtain ⟨h1,h2,h3⟩:=Oper.apart_spec (ok.pair m k _ _ (by omega) DM ho hb)
      simp only [ya,DM,Option.bind_some] at yk
      rcases lW with lW | lW
      ·exact absurd lW (h1 d yk)
      ·exact absurd lW (h2 d yk)
    simp [hW]
   ·simp [yk]
 have high:∀m,k<=m->m<=n->tv T L m d=tv T L k d:=by
  intro m hm
  induction hm with
  | refl=>exact fun _=>rfl
  | @step m hm ih=>
   intro js
   have xl:k<=m:=hm
   have js:m+1<=n:=js
   have As:m < ops.size:=by omega
   rw [tv,ih (by omega)]
   by_cases hc:L m/\ya ops m=some d/\d < (T.t 0).tmps.size
   ·exfalso
    have dv:k≠m:=fun h=>hk (h▸hc.1)
    have DM:ops[m]?=some ops[m]:=Array.getElem?_eq_getElem As
    by_cases hb:qQ ops k m
    ·exact hk (hd.Ar hb fun e he=>hd.Bu m e hc.1 he)
    ·obtain ⟨h1,h2,h3⟩:=Oper.apart_spec (ok.pair k m _ _ (by omega) ho DM hb)
     have yk:=hc.2.1
     simp only [ya,DM,Option.bind_some] at yk
     rcases lW with lW | lW
     ·exact h3 d yk lW
     ·exact h2 d lW yk
   ·rw [if_neg hc]
 rw [high n hn (Nat.le_refl _),low k (Nat.le_refl _)]
def CX (T:sX P ops):Prop:=∀i k,i < k->k < ops.size->¬qQ ops i k->T.akz i k
theorem Sq {L:Nat->Prop} (hd:Down ops L) (fr:CX T) {σ:bG} (hσ:∀i,i < ops.size->¬L i->∀b,fresh (T.H i) (T.H (i+1)) b->σ b=none)
  {k:Nat} (je:k < ops.size) (hk:¬L k) (he:∀e∈rF ops k,L e) {b:Nat} {l:Loc} (hb:T.F k b) (be:b < (T.H k).next) (hs:σ b=some l)
  {n:Nat} (hn:k<=n) (uH:n<=ops.size):hv T L n b=(T.H k).get b:=by
 have low:∀m,m<=k->hv T L m b=(T.H m).get b:=by
  intro m
  induction m with
  | zero=>exact fun _=>rfl
  | succ m ih=>
   intro hm
   rw [hv,ih (by omega)]
   by_cases hc:(T.H (m+1)).get b=(T.H m).get b
   ·simp [hc]
   ·by_cases hL:L m
    ·simp [hL,hc]
    ·exfalso
     have gW:¬qQ ops m k:=fun h=>hL (hd.Ar h he)
     have bj:=fr m k (by omega) je gW
     by_cases hlm:b < (T.H m).next
     ·exact hc (bj.c2 b hb hlm)
     ·have hx:fresh (T.H m) (T.H (m+1)) b:=⟨by omega,by
       rcases Nat.lt_or_ge b (T.H (m+1)).next with h | h
       ·exact h
       ·exact absurd (by rw [T.vK (m+1) (by omega) b h,T.vK m (by omega) b (by omega)]) hc⟩
      rw [hσ m (by omega) hL b hx] at hs;cases hs
 have high:∀m,k<=m->m<=n->hv T L m b=hv T L k b:=by
  intro m hm
  induction hm with
  | refl=>exact fun _=>rfl
  | @step m hm ih=>
   intro js
   have xl:k<=m:=hm
   have js:m+1<=n:=js
   rw [hv,ih (by omega)]
   by_cases hc:L m/\(T.H (m+1)).get b≠(T.H m).get b
   ·exfalso
    have dv:k≠m:=fun h=>hk (h▸hc.1)
    have gW:¬qQ ops k m:=fun hb=>hk (hd.Ar hb fun e he=>hd.Bu m e hc.1 he)
    exact hc.2 ((fr k m (by omega) (by omega) gW).c3 b (.inl hb))
   ·rw [if_neg hc]
 rw [high n hn (Nat.le_refl _),low k (Nat.le_refl _)]
theorem aeZ {L:Nat->Prop} (hd:Down ops L) (fr:CX T) {k:Nat} (je:k < ops.size) (hk:¬L k) (he:∀e∈rF ops k,L e) {b:Nat} {π:Option cw->Option Value} (lr:T.nO k=some (b,π))
  {n:Nat} (hn:k<=n) (uH:n<=ops.size):π (hv T L n b)=π ((T.H k).get b):=by
 have low:∀m,m<=k->π (hv T L m b)=π ((T.H m).get b):=by
  intro m
  induction m with
  | zero=>exact fun _=>rfl
  | succ m ih=>
   intro hm
   rw [hv]
   by_cases hL:L m
   ·by_cases hc:(T.H (m+1)).get b=(T.H m).get b
    ·rw [if_neg (fun h=>h.2 hc),ih (by omega),hc]
    ·rw [if_pos ⟨hL,hc⟩]
   ·rw [if_neg (fun h=>hL h.1),ih (by omega)]
    have gW:¬qQ ops m k:=fun h=>hL (hd.Ar h he)
    exact ((fr m k (by omega) je gW).c4 b π lr).symm
 have unb:∀m,L m->¬qQ ops k m:=fun m hL hb=>hk (hd.Ar hb fun e FY=>hd.Bu m e hL FY)
 have same:∀m,k<=m->m < ops.size->L m->(T.H (m+1)).get b≠(T.H m).get b->∀j,k<=j->j<=m->π ((T.H j).get b)=π ((T.H k).get b):=by
  intro m xl As hW ls j hkj
  induction hkj with
  | refl=>exact fun _=>rfl
  | @step j hj ih=>
   intro hjm
   have hkj:k<=j:=hj
   have hjm:j+1<=m:=hjm
   rw [<-ih (by omega)]
   by_cases Ul:L j
   ·have dv:k≠j:=fun h=>hk (h▸Ul)
    exact (fr k j (by omega) (by omega) (unb j Ul)).c5 b π lr
   ·have gW:¬qQ ops j m:=fun hb=>Ul (hd.Ar hb fun e FY=>hd.Bu m e hW FY)
    by_cases hF:T.F m b
    ·by_cases be:b < (T.H j).next
     ·rw [(fr j m (by omega) As gW).c2 b hF be]
     ·by_cases hx:fresh (T.H j) (T.H (j+1)) b
      ·exact absurd ((fr j m (by omega) As gW).c3 b (.inr hx)) ls
      ·have gh:(T.H (j+1)).next<=b:=by
        rcases Nat.lt_or_ge b (T.H (j+1)).next with h | h
        ·exact absurd ⟨by omega,h⟩ hx
        ·exact h
       rw [T.vK (j+1) (by omega) b gh,T.vK j (by omega) b (by omega)]
    ·by_cases be:b < (T.H m).next
     ·exact absurd ((T.mV m As).same b be hF) ls
     ·have h1:=T.zO (show j+1<=m by omega) (by omega)
      have h2:=T.zO (show j<=m by omega) (by omega)
      rw [T.vK (j+1) (by omega) b (by omega),T.vK j (by omega) b (by omega)]
 have high:∀m,k<=m->m<=n->π (hv T L m b)=π ((T.H k).get b):=by
  intro m hm
  induction hm with
  | refl=>exact fun _=>low k (Nat.le_refl _)
  | @step m hm ih=>
   intro js
   have xl:k<=m:=hm
   have js:m+1<=n:=js
   rw [hv]
   by_cases hc:L m/\(T.H (m+1)).get b≠(T.H m).get b
   ·rw [if_pos hc]
    have dv:k≠m:=fun h=>hk (h▸hc.1)
    rw [(fr k m (by omega) (by omega) (unb m hc.1)).c5 b π lr]
    exact same m xl (by omega) hc.1 hc.2 m xl (Nat.le_refl _)
   ·rw [if_neg hc];exact ih (by omega)
 exact high n hn (Nat.le_refl _)
theorem adn {L:Nat->Prop} (hd:Down ops L) (fr:CX T) {k:Nat} (je:k < ops.size) (hk:¬L k) {b:Nat} (hb:fresh (T.H k) (T.H (k+1)) b)
  {n:Nat} (hn:k<=n) (uH:n<=ops.size):hv T L n b=none:=by
 have low:∀m,m<=k->hv T L m b=none:=by
  intro m
  induction m with
  | zero=>exact fun _=>T.wf b (Nat.le_trans (T.zO (Nat.zero_le k) (by omega)) hb.1)
  | succ m ih=>
   intro hm
   rw [hv,ih (by omega),T.vK (m+1) (by omega) b (Nat.le_trans (T.zO hm (by omega)) hb.1)]
   simp
 have high:∀m,k<=m->m<=n->hv T L m b=hv T L k b:=by
  intro m hm
  induction hm with
  | refl=>exact fun _=>rfl
  | @step m hm ih=>
   intro js
   have xl:k<=m:=hm
   have js:m+1<=n:=js
   rw [hv,ih (by omega)]
   by_cases hc:L m/\(T.H (m+1)).get b≠(T.H m).get b
   ·exfalso
    have dv:k≠m:=fun h=>hk (h▸hc.1)
    have gW:¬qQ ops k m:=fun hb=>hk (hd.Ar hb fun e he=>hd.Bu m e hc.1 he)
    exact hc.2 ((fr k m (by omega) (by omega) gW).c3 b (.inr hb))
   ·rw [if_neg hc]
 rw [high n hn (Nat.le_refl _),low k (Nat.le_refl _)]
def mc (L:Nat->Prop) (k:Nat):Nat->Prop:=fun i=>L i∨i=k
theorem aea {L:Nat->Prop} (hd:Down ops L) (ok:EA ops) {k:Nat} {o:Oper} (ho:ops[k]?=some o) (hk:¬L k) (he:∀e∈rF ops k,L e)
  (d:Nat) {n:Nat} (hn:k < n) (uH:n<=ops.size):tv T (mc L k) n d=if o.dst=some d/\d < (T.t 0).tmps.size then T.v k else tv T L n d:=by
 have low:∀m,m<=k->tv T (mc L k) m d=tv T L m d:=by
  intro m
  induction m with
  | zero=>exact fun _=>rfl
  | succ m ih=>
   intro hm
   rw [tv,tv,ih (by omega)]
   have:mc L k m↔L m:=⟨fun h=>h.resolve_right (by omega),.inl⟩
   simp only [this]
 have at_:tv T (mc L k) (k+1) d=if o.dst=some d/\d < (T.t 0).tmps.size then T.v k else tv T L k d:=by
  rw [tv,low k (Nat.le_refl _)]
  have h1:mc L k k:=.inr rfl
  have h2:ya ops k=o.dst:=by simp [ya,ho]
  simp only [h1,h2,true_and]
 have Um:tv T L (k+1) d=tv T L k d:=by rw [tv,if_neg (fun h=>hk h.1)]
 have high:∀m,k+1<=m->m<=n->tv T (mc L k) m d=if o.dst=some d/\d < (T.t 0).tmps.size then T.v k else tv T L m d:=by
  intro m hm
  induction hm with
  | refl=>exact fun _=>by rw [at_,Um]
  | @step m hm ih=>
   intro js
   have js:m+1<=n:=js
   have xl:k < m:=hm
   have As:m < ops.size:=by omega
   rw [tv,tv,ih (by omega)]
   have:mc L k m↔L m:=⟨fun h=>h.resolve_right (by omega),.inl⟩
   simp only [this]
   by_cases hc:L m/\ya ops m=some d/\d < (T.t 0).tmps.size
   ·rw [if_pos hc,if_pos hc,if_neg]
    rintro ⟨lW,_⟩
    have DM:ops[m]?=some ops[m]:=Array.getElem?_eq_getElem As
    have gW:¬qQ ops k m:=fun hb=>hk (hd.Ar hb fun e he=>hd.Bu m e hc.1 he)
    obtain ⟨h1,h2,h3⟩:=Oper.apart_spec (ok.pair k m _ _ xl ho DM gW)
    have yk:=hc.2.1
    simp only [ya,DM,Option.bind_some] at yk
    exact h2 d lW yk
   ·rw [if_neg hc,if_neg hc]
 exact high n hn (Nat.le_refl _)
theorem aeb {L:Nat->Prop} (hd:Down ops L) (fr:CX T) {k:Nat} (je:k < ops.size) (hk:¬L k) (b:Nat) {n:Nat} (hn:k < n) (uH:n<=ops.size):
  hv T (mc L k) n b=if (T.H (k+1)).get b≠(T.H k).get b then (T.H (k+1)).get b else hv T L n b:=by
 have low:∀m,m<=k->hv T (mc L k) m b=hv T L m b:=by
  intro m
  induction m with
  | zero=>exact fun _=>rfl
  | succ m ih=>
   intro hm
   rw [hv,hv,ih (by omega)]
   have:mc L k m↔L m:=⟨fun h=>h.resolve_right (by omega),.inl⟩
   simp only [this]
 have at_:hv T (mc L k) (k+1) b=if (T.H (k+1)).get b≠(T.H k).get b then (T.H (k+1)).get b else hv T L k b:=by
  rw [hv,low k (Nat.le_refl _)]
  have h1:mc L k k:=.inr rfl
  simp only [h1,true_and]
 have Um:hv T L (k+1) b=hv T L k b:=by rw [hv,if_neg (fun h=>hk h.1)]
 have high:∀m,k+1<=m->m<=n->hv T (mc L k) m b=if (T.H (k+1)).get b≠(T.H k).get b then (T.H (k+1)).get b else hv T L m b:=by
  intro m hm
  induction hm with
  | refl=>exact fun _=>by rw [at_,Um]
  | @step m hm ih=>
   intro js
   have js:m+1<=n:=js
   have xl:k < m:=hm
   rw [hv,hv,ih (by omega)]
   have:mc L k m↔L m:=⟨fun h=>h.resolve_right (by omega),.inl⟩
   simp only [this]
   by_cases hc:L m/\(T.H (m+1)).get b≠(T.H m).get b
   ·rw [if_pos hc,if_pos hc,if_neg]
    intro ls
    have gW:¬qQ ops k m:=fun hb=>hk (hd.Ar hb fun e he=>hd.Bu m e hc.1 he)
    refine hc.2 ((fr k m xl (by omega) gW).c3 b ?_)
    by_cases be:b < (T.H k).next
    ·by_cases hF:T.F k b
     ·exact .inl hF
     ·exact absurd ((T.mV k je).same b be hF) ls
    ·refine .inr ⟨by omega,?_⟩
     rcases Nat.lt_or_ge b (T.H (k+1)).next with h | h
     ·exact h
     ·exact absurd (by rw [T.vK (k+1) (by omega) b h,T.vK k (by omega) b (by omega)]) ls
   ·rw [if_neg hc,if_neg hc]
 exact high n hn (Nat.le_refl _)
structure Inv (T:sX P ops) (σ₀:bG) (w₀:World) (L:Nat->Prop) (σ:bG) (a:Act) (w:World):Prop where
 down:Down ops L
 size:a.tmps.size=(T.t 0).tmps.size
 tm:∀d,VR σ (tv T L ops.size d) (a.tmps.getD d undef)
 LQ:a.defers=[]
 fr:∀i,i < ops.size->¬L i->∀b,fresh (T.H i) (T.H (i+1)) b->σ b=none
 rel:Rel P σ dT (hv T L ops.size) w
 ext:∀b,¬fresh (T.H 0) (T.H ops.size) b->σ b=σ₀ b
 Pv:w₀.heap.size<=w.heap.size
 af:∀k,k < w₀.heap.size->¬Aq σ₀ dT (T.H 0).get k->w.heap[k]?=w₀.heap[k]?
 oZ:∀k,k < w₀.heap.size->Aq σ dT (hv T L ops.size) k->Aq σ₀ dT (T.H 0).get k
 uF:∀b l,fresh (T.H 0) (T.H ops.size) b->σ b=some l->l.ro=false
 rest:w.os=w₀.os/\w.tape=w₀.tape/\w.output=w₀.output
theorem Inv.next {σ₀ σ σ':bG} {w₀ w w':World} {L:Nat->Prop} {a:Act} {v':Value} (ok:EA ops) (fr:CX T) (h:Inv T σ₀ w₀ L σ a w) {k:Nat} {o:Oper}
  (ho:ops[k]?=some o) (hk:¬L k) (he:∀e∈rF ops k,L e) (hp:jo P (T.F k) σ (T.H k) w σ' (T.H (k+1)) w') (FZ:VR σ' (T.v k) v'):
  Inv T σ₀ w₀ (mc L k) σ' (a.put o.dst v') w':=by
 have je:k < ops.size:=(Array.getElem?_eq_some_iff.1 ho).1
 have ae0:qB σ (T.H k) (T.H (k+1)):=h.fr k je hk
 have vJ:=hp.up ae0
 have LS:∀b l,T.F k b->σ b=some l->((T.H k).get b).isSome=true->hv T L ops.size b=(T.H k).get b:=fun b l hF hs hi=>by
  refine Sq h.down fr h.fr je hk he hF ?_ hs (Nat.le_of_lt je) (Nat.le_refl _)
  rcases Nat.lt_or_ge b (T.H k).next with h' | h'
  ·exact h'
  ·rw [T.vK k (Nat.le_of_lt je) b h'] at hi;cases hi
 have aaq:∀j,Aq σ (T.F k) (T.H k).get j->Aq σ dT (hv T L ops.size) j:=fun j ⟨b,l,hF,hs,hi,hj⟩=>⟨b,l,trivial,hs,(LS b l hF hs hi)▸hi,hj⟩
 have BY:∀b,hv T (mc L k) ops.size b=if (T.H (k+1)).get b≠(T.H k).get b then (T.H (k+1)).get b else hv T L ops.size b:=fun b=>aeb h.down fr je hk b je (Nat.le_refl _)
 -- inside:eF FV operation awf or makes
 have i6:∀b l,(T.F k b∨fresh (T.H k) (T.H (k+1)) b)->σ' b=some l->(hv T (mc L k) ops.size b).isSome=true->hv T (mc L k) ops.size b=(T.H (k+1)).get b:=fun b l hx hs hi=>by
  rw [BY] at hi ⊢
  by_cases hc:(T.H (k+1)).get b≠(T.H k).get b
  ·rw [if_pos hc]
  ·rw [if_neg hc] at hi ⊢
   have sY:(T.H (k+1)).get b=(T.H k).get b:=Classical.not_not.1 hc
   by_cases DN:fresh (T.H k) (T.H (k+1)) b
   ·rw [adn h.down fr je hk DN (Nat.le_of_lt je) (Nat.le_refl _)] at hi;cases hi
   ·have hF:=hx.resolve_right DN
    rw [hp.ext b DN] at hs
    rw [sY]
    exact Sq h.down fr h.fr je hk he hF (T.lt k b je hF) hs (Nat.le_of_lt je) (Nat.le_refl _)
 have Ff:∀b l,¬(T.F k b∨fresh (T.H k) (T.H (k+1)) b)->σ' b=some l->(hv T (mc L k) ops.size b).isSome=true->
   hv T (mc L k) ops.size b=hv T L ops.size b/\σ b=some l/\l.aU < w.heap.size/\¬Aq σ (T.F k) (T.H k).get l.aU:=fun b l hx hs hi=>by
  have hF:¬T.F k b:=fun h=>hx (.inl h)
  have DN:¬fresh (T.H k) (T.H (k+1)) b:=fun h=>hx (.inr h)
  have hc:(T.H (k+1)).get b=(T.H k).get b:=by
   by_cases be:b < (T.H k).next
   ·exact (T.mV k je).same b be hF
   ·have:(T.H (k+1)).next<=b:=by
     rcases Nat.lt_or_ge b (T.H (k+1)).next with h2 | h2
     ·exact absurd ⟨by omega,h2⟩ DN
     ·exact h2
    rw [T.vK (k+1) (by omega) b this,T.vK k (by omega) b (by omega)]
  have he1:hv T (mc L k) ops.size b=hv T L ops.size b:=by rw [BY,if_neg (fun h=>h hc)]
  have dd:σ b=some l:=by rw [<-hp.ext b DN];exact hs
  rw [he1] at hi
  obtain ⟨B,hB⟩:=Option.isSome_iff_exists.1 hi
  refine ⟨he1,dd,(h.rel.aU b l B trivial dd hB).lt,fun ⟨b0,l0,o9,me,yR,LO,heq⟩=>hF ?_⟩
  cases uG:l.ro
  ·have:=h.rel.inj b0 b l0 l trivial trivial me dd ((LS b0 l0 o9 me yR)▸yR) hi LO uG heq
   exact this▸o9
  ·exact absurd heq (h.rel.sep b0 b l0 l trivial me dd ((LS b0 l0 o9 me yR)▸yR) LO uG)
 refine ⟨⟨fun i hi=>?_,fun i e hi hx=>?_⟩,by rw [J9];exact h.size,fun d=>?_,by rw [JY];exact h.LQ,fun i hi hL b hb=>?_,⟨?_,?_,?_,hp.rel.aH⟩,fun b hb=>?_,Nat.le_trans h.Pv hp.size,fun j hj hn=>?_,?_,fun b l hb hs=>?_,⟨hp.rest.1.trans h.rest.1,hp.rest.2.1.trans h.rest.2.1,hp.rest.2.2.trans h.rest.2.2⟩⟩
 ·rcases hi with hi | rfl
  ·exact h.down.lt i hi
  ·exact je
 ·rcases hi with hi | rfl
  ·exact .inl (h.down.Bu i e hi hx)
  ·exact .inl (he e hx)
 ·rw [aea h.down ok ho hk he d je (Nat.le_refl _),J8,h.size]
  split
  ·exact FZ
  ·exact (h.tm d).mono vJ
 ·have dv:i≠k:=fun h2=>hL (.inr h2)
  rw [hp.ext b (fun hx=>?_)]
  ·exact h.fr i hi (fun h2=>hL (.inl h2)) b hb
  ·rcases Nat.lt_or_ge i k with h2 | h2
   ·have:=T.zO (i:=i+1) (k:=k) h2 (by omega)
    have:=hx.1;have:=hb.2;omega
   ·have:=T.zO (i:=k+1) (k:=i) (by omega) (by omega)
    have:=hx.2;have:=hb.1;omega
 ·intro b l B _ hs hg
  by_cases hx:T.F k b∨fresh (T.H k) (T.H (k+1)) b
  ·exact hp.rel.aU b l B hx hs (by rw [<-i6 b l hx hs (by rw [hg];rfl)];exact hg)
  ·obtain ⟨h1,h2,h3,h4⟩:=Ff b l hx hs (by rw [hg];rfl)
   exact (h.rel.aU b l B trivial h2 (by rw [<-h1];exact hg)).move vJ (hp.af _ h3 h4)
 ·intro b b' l l' _ _ hs dd hi eG ho gH heq
  by_cases hx:T.F k b∨fresh (T.H k) (T.H (k+1)) b <;> by_cases dZ:T.F k b'∨fresh (T.H k) (T.H (k+1)) b'
  ·exact hp.rel.inj b b' l l' hx dZ hs dd ((i6 b l hx hs hi)▸hi) ((i6 b' l' dZ dd eG)▸eG) ho gH heq
  ·obtain ⟨h1,h2,h3,h4⟩:=Ff b' l' dZ dd eG
   exact absurd (hp.oZ l'.aU h3 ⟨b,l,hx,hs,(i6 b l hx hs hi)▸hi,ho,heq⟩) h4
  ·obtain ⟨h1,h2,h3,h4⟩:=Ff b l hx hs hi
   exact absurd (hp.oZ l.aU h3 ⟨b',l',dZ,dd,(i6 b' l' dZ dd eG)▸eG,gH,heq.symm⟩) h4
  ·obtain ⟨h1,h2,h3,h4⟩:=Ff b l hx hs hi
   obtain ⟨lU,vU,FW,mW⟩:=Ff b' l' dZ dd eG
   exact h.rel.inj b b' l l' trivial trivial h2 vU (h1▸hi) (lU▸eG) ho gH heq
 ·intro b b' l l' _ hs dd hi ho gH
  by_cases hx:T.F k b∨fresh (T.H k) (T.H (k+1)) b
  ·exact hp.rel.sep b b' l l' hx hs dd ((i6 b l hx hs hi)▸hi) ho gH
  ·obtain ⟨h1,h2,h3,h4⟩:=Ff b l hx hs hi
   have hnf:¬fresh (T.H k) (T.H (k+1)) b':=fun hf=>by have:=hp.uF b' l' hf dd;rw [gH] at this;cases this
   exact h.rel.sep b b' l l' trivial h2 (by rw [<-hp.ext b' hnf];exact dd) (h1▸hi) ho gH
 ·rw [hp.ext b (fun hx=>hb ⟨Nat.le_trans (T.zO (Nat.zero_le k) (by omega)) hx.1,Nat.lt_of_lt_of_le hx.2 (T.zO (by omega) (Nat.le_refl _))⟩)]
  exact h.ext b hb
 ·rw [hp.af j (Nat.lt_of_lt_of_le hj h.Pv) (fun hi=>hn (h.oZ j hj (aaq j hi))),h.af j hj hn]
 ·rintro j hj ⟨b,l,_,hs,hi,heq⟩
  by_cases hx:T.F k b∨fresh (T.H k) (T.H (k+1)) b
  ·exact h.oZ j hj (aaq j (hp.oZ j (Nat.lt_of_lt_of_le hj h.Pv) ⟨b,l,hx,hs,(i6 b l hx hs hi)▸hi,heq⟩))
  ·obtain ⟨h1,h2,h3,h4⟩:=Ff b l hx hs hi
   exact h.oZ j hj ⟨b,l,trivial,h2,h1▸hi,heq⟩
 ·by_cases hx:fresh (T.H k) (T.H (k+1)) b
  ·exact hp.uF b l hx hs
  ·rw [hp.ext b hx] at hs;exact h.uF b l hb hs
end
end Go.Proofs.YtinjmfblebpnnaaGreat.Ab
namespace Go.Proofs.YtinjmfblebpnnaaGreat.Ab
open Go Classical
section
variable {P:Program} {ops:Array Oper} {T:sX P ops}
def nP (gU:Array Bool):Nat->Prop:=fun i=>gU.getD i false=true
theorem ado {gU:Array Bool} {k:Nat} (hk:k < gU.size):nP (gU.setIfInBounds k true)=mc (nP gU) k:=by
 funext i
 unfold nP mc
 by_cases h:k=i
 ·subst h;simp [Array.getD,hk]
 ·rw [getD_set_ne false h]
  simp only [eq_iff_iff]
  exact ⟨.inl,fun hx=>hx.resolve_right (fun e=>h e.symm)⟩
theorem Yy {L:Nat->Prop} (h:∀i,¬L i):∀m d,tv T L m d=(T.t 0).tmps.getD d undef
 | 0,_=>rfl
 | m+1,d=>by rw [tv,if_neg (fun hx=>h m hx.1)];exact Yy h m d
theorem Yz {L:Nat->Prop} (h:∀i,¬L i):∀m b,hv T L m b=(T.H 0).get b
 | 0,_=>rfl
 | m+1,b=>by rw [hv,if_neg (fun hx=>h m hx.1)];exact Yz h m b
theorem Y5 {L:Nat->Prop} (h:∀i,i < ops.size->L i):∀m d,m<=ops.size->tv T L m d=(T.t m).tmps.getD d undef
 | 0,_,_=>rfl
 | m+1,d,hm=>by
  rw [tv,T.Y4 (by omega),Y5 h m d (by omega)]
  have:=h m (by omega)
  simp [this]
theorem Y6 {L:Nat->Prop} (h:∀i,i < ops.size->L i):∀m b,m<=ops.size->hv T L m b=(T.H m).get b
 | 0,_,_=>rfl
 | m+1,b,hm=>by
  rw [hv,Y6 h m b (by omega)]
  have:=h m (by omega)
  by_cases hc:(T.H (m+1)).get b=(T.H m).get b
  ·simp [hc]
  ·simp [this,hc]
theorem count_set {l:List Bool} {i:Nat} (h:l[i]?=some false):(l.set i true).count false+1=l.count false:=by
 induction l generalizing i with
 | nil=>simp at h
 | cons x l ih=>
  cases i with
  | zero=>simp at h;subst h;simp
  | succ i=>
   simp only [List.getElem?_cons_succ] at h
   have:=ih h
   simp only [List.set_cons_succ,List.count_cons]
   omega
theorem ab7 {gU:Array Bool} (ok:EA ops) (fM:gU.size=ops.size) (h:Region.ready .any ops gU=[]):∀i,i < ops.size->nP gU i:=by
 intro i
 induction i using Nat.strongRecOn with
 | _ i ih=>
  intro hi
  by_cases hl:nP gU i
  ·exact hl
  ·exfalso
   have ho:ops[i]?=some ops[i]:=Array.getElem?_eq_getElem hi
   have:i∈Region.ready .any ops gU:=by
    rw [mem_ready]
    refine ⟨?_,ops[i],ho,fun e he hb=>?_⟩
    ·have be:i < gU.size:=by omega
     simp only [nP,Array.getD,be,dif_pos] at hl
     simp only [Array.getD,be,dif_pos]
     cases hx:gU.getInternal i be
     ·rfl
     ·exact absurd hx hl
    ·have vv:e.on∈rF ops i:=by
      simp only [rF,ho]
      exact List.mem_map.2 ⟨e,List.mem_filter.2 ⟨Array.mem_toList_iff.2 he,hb⟩,rfl⟩
     have be:=ok.lt i e.on hi vv
     exact ih e.on be (by omega)
   rw [h] at this;cases this
theorem XC {σ:bG} {t a:Act} {o:Oper} (fM:t.tmps.size=a.tmps.size)
  (h:∀d,d∈o.looksAt ops->VR σ (t.tmps.getD d undef) (a.tmps.getD d undef)):
  Region.wanted o (yielded ops t.tmps)=Region.wanted o (yielded ops a.tmps):=by
 unfold Region.wanted
 cases hg:o.guard with
 | none=>rfl
 | some gw=>
  obtain ⟨g,want⟩:=gw
  have:yielded ops t.tmps g=yielded ops a.tmps g:=ab6 fM fun d hd=>h d (by
   unfold Oper.looksAt
   rw [hg]
   exact List.mem_append_right _ (by simp [hd]))
  simp only [this]
theorem ab8 (ok:EA ops) (fr:CX T) {σ₀:bG} {w₀:World} {Q:Exit->Act->World->Prop}
  (hQ:∀σ a w,Inv T σ₀ w₀ (fun i=>i < ops.size) σ a w->Q .normal a w):
  ∀(fuel:Nat) (gU:Array Bool) (σ:bG) (a:Act) (w:World),gU.size=ops.size->gU.toList.count false<=fuel->
   Inv T σ₀ w₀ (nP gU) σ a w->wpAny P .any ops Q fuel gU a w:=by
 have fin:∀(gU:Array Bool) (σ:bG) (a:Act) (w:World),(∀i,i < ops.size->nP gU i)->Inv T σ₀ w₀ (nP gU) σ a w->Q .normal a w:=by
  intro gU σ a w iU hI
  have:nP gU=fun i=>i < ops.size:=funext fun i=>propext ⟨fun h=>hI.down.lt i h,fun h=>iU i h⟩
  rw [this] at hI
  exact hQ σ a w hI
 intro fuel
 induction fuel with
 | zero=>
  intro gU σ a w fM hc hI
  have iU:∀i,i < ops.size->nP gU i:=by
   intro i hi
   have be:i < gU.size:=by omega
   have j5:gU.toList.count false=0:=by omega
   rw [List.count_eq_zero] at j5
   unfold nP
   simp only [Array.getD,be,dif_pos]
   cases hx:gU.getInternal i be
   ·exact absurd (by rw [<-hx];exact Array.mem_toList_iff.2 (Array.getElem_mem be)) j5
   ·rfl
  refine ⟨?_,fin gU σ a w iU hI⟩
  rw [List.eq_nil_iff_forall_not_mem]
  intro i hi
  obtain ⟨h0,o,ho,_⟩:=mem_ready.1 hi
  have eG:i < ops.size:=(Array.getElem?_eq_some_iff.1 ho).1
  have h1:=iU i eG
  have be:i < gU.size:=by omega
  unfold nP at h1
  simp only [Array.getD,be,dif_pos] at h0 h1
  rw [h0] at h1;cases h1
 | succ fuel ih=>
  intro gU σ a w fM hc hI
  refine ⟨fun hr=>fin gU σ a w (ab7 ok fM hr) hI,fun k hk=>?_⟩
  obtain ⟨h0,o,ho,iU⟩:=mem_ready.1 hk
  have je:k < ops.size:=(Array.getElem?_eq_some_iff.1 ho).1
  have be:k < gU.size:=by omega
  have LU:¬nP gU k:=by
   unfold nP
   simp only [Array.getD,be,dif_pos] at h0 ⊢
   rw [h0];simp
  have he:∀e∈rF ops k,nP gU e:=by
   intro e he
   simp only [rF,ho,List.mem_map,List.mem_filter] at he
   obtain ⟨e',⟨h1,h2⟩,rfl⟩:=he
   exact iU e' (Array.mem_toList_iff.1 h1) h2
  have ae1:(gU.setIfInBounds k true).toList.count false<=fuel:=by
   have hx:gU.toList[k]?=some false:=by
    simp only [Array.getD,be,dif_pos] at h0
    rw [Array.getElem?_toList,Array.getElem?_eq_getElem be]
    exact congrArg some h0
   have:=count_set hx
   rw [Array.toList_setIfInBounds]
   omega
  have Zw:∀d,d∈o.looksAt ops->VR σ ((T.t k).tmps.getD d undef) (a.tmps.getD d undef):=fun d hd=>by
   rw [<-ah3 hI.down ok ho LU he (.inl hd) (Nat.le_of_lt je) (Nat.le_refl _)]
   exact hI.tm d
  have akA:(T.t k).tmps.size=a.tmps.size:=by rw [T.size k (Nat.le_of_lt je),hI.size]
  have ah4:=XC (o:=o) akA Zw
  have cont:∀σ' v' w',jo P (T.F k) σ (T.H k) w σ' (T.H (k+1)) w'->VR σ' (T.v k) v'->wpAny P .any ops Q fuel (gU.setIfInBounds k true) (a.put o.dst v') w':=by
   intro σ' v' w' hp hv
   refine ih _ σ' _ w' (by simp [fM]) ae1 ?_
   rw [ado be]
   exact hI.next ok fr ho LU he hp hv
  have LS:∀b l,T.F k b->σ b=some l->((T.H k).get b).isSome=true->hv T (nP gU) ops.size b=(T.H k).get b:=fun b l hF hs hi=>by
   refine Sq hI.down fr hI.fr je LU he hF ?_ hs (Nat.le_of_lt je) (Nat.le_refl _)
   rcases Nat.lt_or_ge b (T.H k).next with h' | h'
   ·exact h'
   ·rw [T.vK k (Nat.le_of_lt je) b h'] at hi;cases hi
  have OJ:Rel P σ (T.F k) (T.H k).get w:=(hI.rel.sub fun _ _=>trivial).aao fun b hF l hs hi=>(LS b l hF hs hi).symm
  have w8:∀x∈o.op.operands,VR σ ((T.t k).eval x) (a.eval x):=fun x hx=>by
   have gi:=Array.all_eq_true_iff_forall_mem.1 (T.hV k o ho) x hx
   exact Yx gi fun d hd=>Zw d (by
    subst hd
    exact List.mem_append_left _ (List.mem_filterMap.2 ⟨.tmp d,by simpa using hx,rfl⟩))
  unfold wpOp
  rw [ho]
  simp only []
  rw [<-ah4]
  cases lr:T.nO k with
  | none=>
   have dI:=T.step k o ho lr
   unfold um at dI
   by_cases hw:Region.wanted o (yielded ops (T.t k).tmps)=true
   ·rw [if_pos hw] at dI ⊢
    exact .inl (dI σ w a _ Q OJ (hI.fr k je LU) w8 cont)
   ·rw [if_neg hw] at dI ⊢
    refine cont σ undef w ?_ (dI.1▸VR.undef σ)
    rw [dI.2]
    exact jo.refl OJ rfl
  | some bp=>
   obtain ⟨b,π⟩:=bp
   obtain ⟨hH,hF,hq,hu⟩:=T.IJ k o ho b π lr
   have hpi:=aeZ hI.down fr je LU he lr (Nat.le_of_lt je) (Nat.le_refl _)
   by_cases hw:Region.wanted o (yielded ops (T.t k).tmps)=true
   ·rw [if_pos hw]
    refine .inl (hq hw ⟨(T.H ops.size).next,hv T (nP gU) ops.size,fun _=>false⟩ hpi σ w a _ Q hI.rel w8 fun v' FZ=>cont σ v' w ?_ FZ)
    rw [hH]
    exact jo.refl ⟨fun b l B LV=>absurd LV (hF b),fun b b' l l' LV=>absurd LV (hF b),fun b b' l l' LV=>absurd LV (hF b),OJ.aH⟩ rfl
   ·rw [if_neg hw]
    refine cont σ undef w ?_ (hu hw▸VR.undef σ)
    rw [hH]
    exact jo.refl OJ rfl
def akB (P:Program) (t:Act) (H:ad) (t':Act) (H':ad) (run:(Exit->Act->World->Prop)->Act->World->Prop):Prop:=
 ∀(σ:bG) (w:World) (a:Act) (Q:Exit->Act->World->Prop),Rel P σ dT H.get w->qB σ H H'->TR σ t a->
  (∀σ' a' w',jo P dT σ H w σ' H' w'->TR σ' t' a'->Q .normal a' w')->run Q a w
theorem abR (T:sX P ops) (hm:P.follows .mixedOrders=true) (ok:EA ops) (fr:CX T) (id:Nat):
  akB P (T.t 0) (T.H 0) (T.t ops.size) (T.H ops.size) fun Q a w=>(Code.region id ops true).wp P Q a w:=by
 intro σ w a Q hr hf ht hq
 have ah5:=fun k (hk:k<=ops.size)=>T.zO (Nat.zero_le k) hk
 refine wp_region_any hm (ab8 (T:=T) ok fr (σ₀:=σ) (w₀:={w with drawn:=w.drawn+1}) ?_ ops.size _ σ a _ (by simp) ?_ ?_)
 ·intro σ' a' w' hI
  have h1:∀b,hv T (fun i=>i < ops.size) ops.size b=(T.H ops.size).get b:=fun b=>Y6 (fun i hi=>hi) _ b (Nat.le_refl _)
  refine hq σ' a' w' ⟨(hI.rel.sub fun _ _=>trivial).aao fun b _ l _ _=>(h1 b).symm,
   hI.ext,hI.Pv,fun k hk hn=>hI.af k hk hn,fun k hk ⟨b,l,_,hs,hi,he⟩=>hI.oZ k hk ⟨b,l,trivial,hs,by rw [h1];exact hi,he⟩,hI.uF,hI.rest⟩ ⟨⟨?_,fun d _=>?_⟩,?_,hI.LQ⟩
  ·rw [T.size _ (Nat.le_refl _),hI.size]
  ·rw [<-Y5 (T:=T) (L:=fun i=>i < ops.size) (fun i hi=>hi) _ d (Nat.le_refl _)];exact hI.tm d
  ·rw [T.aap _ (Nat.le_refl _)];exact ht.dt
 ·rw [Array.toList_replicate,List.count_replicate_self];exact Nat.le_refl _
 ·have mX:∀i,¬nP (Array.replicate ops.size false) i:=fun i h=>by
   unfold nP at h
   by_cases hi:i < ops.size <;> simp [Array.getD,hi] at h
  have h1:∀b,hv T (nP (Array.replicate ops.size false)) ops.size b=(T.H 0).get b:=fun b=>Yz mX _ b
  refine ⟨⟨fun i h=>absurd h (mX i),fun k e h=>absurd h (mX k)⟩,ht.tm.1.symm,fun d=>?_,ht.da,fun i hi _ b hb=>hf b ⟨Nat.le_trans (ah5 i (by omega)) hb.1,Nat.lt_of_lt_of_le hb.2 (T.zO (by omega) (Nat.le_refl _))⟩,⟨?_,?_,?_,hr.aH⟩,fun _ _=>rfl,Nat.le_refl _,fun _ _ _=>rfl,?_,fun b l hb hs=>(by rw [hf b hb] at hs;cases hs),⟨rfl,rfl,rfl⟩⟩
  ·rw [Yy mX];exact ht.tm.at d
  ·intro b l B _ hs hg
   rw [h1] at hg
   exact (hr.aU b l B trivial hs hg).move (fun _ _ h=>h) rfl
  ·intro b b' l l' _ _ hs dd hi eG
   rw [h1] at hi eG
   exact hr.inj b b' l l' trivial trivial hs dd hi eG
  ·intro b b' l l' _ hs dd hi
   rw [h1] at hi
   exact hr.sep b b' l l' trivial hs dd hi
  ·rintro k hk ⟨b,l,_,hs,hi,he⟩
   rw [h1] at hi
   exact ⟨b,l,trivial,hs,hi,he⟩
end
end Go.Proofs.YtinjmfblebpnnaaGreat.Ab
namespace Go.Proofs.YtinjmfblebpnnaaGreat.Ab
open Go Classical
section
variable {P:Program}
def CT (P:Program) (run:(Exit->Act->World->Prop)->Act->World->Prop) (t:Act) (H:ad) (e:Exit) (t':Act) (H':ad):Prop:=
 ∀(σ:bG) (w:World) (a:Act) (Q:Exit->Act->World->Prop),Rel P σ dT H.get w->qB σ H H'->TR σ t a->
  (∀σ' a' w',jo P dT σ H w σ' H' w'->TR σ' t' a'->Q e a' w')->run Q a w
def Reach (P:Program) (run:(Exit->Act->World->Prop)->Act->World->Prop) (t:Act) (H:ad) (Ψ:Exit->Act->ad->Prop):Prop:=
 ∃e t' H',i5 dT H H'/\CT P run t H e t' H'/\Ψ e t' H'
abbrev RC (P:Program) (c:Code):=Reach P fun Q a w=>c.wp P Q a w
def N2 (P:Program) (c:Code) (Q:Exit->Act->World->Prop) (a:Act) (w:World):Prop:=
 ∀(b:Frame) (k:List Item) (cs:List Frame),∃e a' w',Q e a' w'/\Arrives P (lone (b.at a (.code c::.inLoop c::k)) cs w) b k cs e a' w'
theorem ab9 {c:Code} {Q:Exit->Act->World->Prop} {a:Act} {w:World} (h:N2 P c Q a w):(Code.loop c).wp P Q a w:=
 fun b k cs=>let ⟨e,a',w',hq,pL⟩:=h b k cs;⟨e,a',w',hq,.of_steps (.one step_loop) pL⟩
theorem abU {c:Code} {Q:Exit->Act->World->Prop} {a:Act} {w:World} (h:c.wp P (Exit.then (N2 P c Q) Q) a w):N2 P c Q a w:=by
 intro b k cs
 obtain ⟨e,a₁,w₁,hq,pL⟩:=h b (.inLoop c::k) cs
 cases e with
 | normal=>
  obtain ⟨e₂,a₂,w₂,hq₂,ah6⟩:=hq b k cs
  exact ⟨e₂,a₂,w₂,hq₂,.of_steps (Steps.trans pL (.one step_inLoop)) ah6⟩
 | exit id=>exact ⟨_,a₁,w₁,hq,.pass (x:=.inLoop c) rfl (fun _ _=>.inl (by simp)) pL⟩
 | goto l=>exact ⟨_,a₁,w₁,hq,.pass (x:=.inLoop c) rfl (fun _ _=>.inl (by simp)) pL⟩
 | ret=>exact ⟨_,a₁,w₁,hq,.pass (x:=.inLoop c) rfl (fun _ _=>.inl (by simp)) pL⟩
 | panic ch=>exact ⟨_,a₁,w₁,hq,.pass (x:=.inLoop c) rfl (fun _ _=>.inl (by simp)) pL⟩
 | outgrown=>exact ⟨_,a₁,w₁,hq,.pass (x:=.inLoop c) rfl (fun _ _=>.inl (by simp)) pL⟩
abbrev RL (P:Program) (c:Code):=Reach P (N2 P c)
theorem i5.refl {F:Nat->Prop} {H:ad} (h:H.wf):i5 F H H:=⟨Nat.le_refl _,h,fun _ _ _=>rfl⟩
theorem i5.trans {H H1 H2:ad} (h:i5 dT H H1) (h':i5 dT H1 H2):i5 dT H H2:=⟨Nat.le_trans h.next h'.next,h'.wf,fun _ _ hn=>absurd trivial hn⟩
theorem i5.all {F:Nat->Prop} {H H':ad} (h:i5 F H H'):i5 dT H H':=⟨h.next,h.wf,fun _ _ hn=>absurd trivial hn⟩
theorem Reach.mono {run:(Exit->Act->World->Prop)->Act->World->Prop} {t:Act} {H:ad} {Ψ Ψ':Exit->Act->ad->Prop}
  (h:Reach P run t H Ψ) (hm:∀e t' H',i5 dT H H'->Ψ e t' H'->Ψ' e t' H'):Reach P run t H Ψ':=by
 obtain ⟨e,t',H',h1,h2,h3⟩:=h
 exact ⟨e,t',H',h1,h2,hm _ _ _ h1 h3⟩
theorem Reach.now {run:(Exit->Act->World->Prop)->Act->World->Prop} {t:Act} {H:ad} {e:Exit} {Ψ:Exit->Act->ad->Prop} (hw:H.wf)
  (hr:∀Q a w,Q e a w->run Q a w) (h:Ψ e t H):Reach P run t H Ψ:=
 ⟨e,t,H,.refl hw,fun σ w a Q iE hf ht hq=>hr Q a w (hq σ a w (.refl iE rfl) ht),h⟩
theorem YA {t:Act} {H:ad} {Ψ:Exit->Act->ad->Prop} (hw:H.wf) (h:Ψ .normal t H):RC P .skip t H Ψ:=.now hw (fun _ _ _=>wp_skip) h
theorem XW {l:Nat} {t:Act} {H:ad} {Ψ:Exit->Act->ad->Prop} (hw:H.wf) (h:Ψ .normal t H):RC P (.label l) t H Ψ:=.now hw (fun _ _ _=>wp_label) h
theorem YB {id:Nat} {t:Act} {H:ad} {Ψ:Exit->Act->ad->Prop} (hw:H.wf) (h:Ψ (.exit id) t H):RC P (.exit id) t H Ψ:=.now hw (fun _ _ _=>wp_exit) h
theorem Y7 {t:Act} {H:ad} {Ψ:Exit->Act->ad->Prop} (hw:H.wf) (h:Ψ .ret t H):RC P .ret t H Ψ:=.now hw (fun _ _ _=>wp_ret) h
theorem Reach.andThen {run aar aas:(Exit->Act->World->Prop)->Act->World->Prop} {t:Act} {H:ad} {Ψ:Exit->Act->ad->Prop}
  (eu:∀Q a w,aar (Exit.then (aas Q) Q) a w->run Q a w)
  (h:Reach P aar t H (fun e t' H'=>match e with | .normal=>Reach P aas t' H' Ψ | e=>Ψ e t' H')):Reach P run t H Ψ:=by
 obtain ⟨e,t1,H1,s1,c1,h1⟩:=h
 by_cases he:e=.normal
 ·subst he
  obtain ⟨e2,t2,H2,s2,c2,h2⟩:=h1
  refine ⟨e2,t2,H2,s1.trans s2,fun σ w a Q hr hf ht hq=>eu Q a w (c1 σ w a _ hr (hf.left s2.next) ht ?_),h2⟩
  intro σ1 a1 w1 p1 Un
  refine c2 σ1 w1 a1 Q (p1.rel.sub fun _ _=>.inl trivial) (hf.right s1.next p1) Un ?_
  intro σ2 a2 w2 p2 Uo
  exact hq σ2 a2 w2 (p1.trans s1.next s2.next p2) Uo
 ·have lU:Ψ e t1 H1:=by cases e <;> first | exact absurd rfl he | exact h1
  refine ⟨e,t1,H1,s1,fun σ w a Q hr hf ht hq=>eu Q a w (c1 σ w a _ hr hf ht ?_),lU⟩
  intro σ1 a1 w1 p1 Un
  have:=hq σ1 a1 w1 p1 Un
  cases e <;> first | exact absurd rfl he | exact this
theorem RU {x y:Code} {t:Act} {H:ad} {Ψ:Exit->Act->ad->Prop}
  (h:RC P x t H (fun e t' H'=>match e with | .normal=>RC P y t' H' Ψ | e=>Ψ e t' H')):RC P (.seq x y) t H Ψ:=
 .andThen (fun _ _ _ h=>wp_seq h) h
theorem YC {c:Code} {t:Act} {H:ad} {Ψ:Exit->Act->ad->Prop}
  (h:RC P c t H (fun e t' H'=>match e with | .normal=>RL P c t' H' Ψ | e=>Ψ e t' H')):RL P c t H Ψ:=
 .andThen (fun _ _ _ h=>abU h) h
theorem YD {c:Code} {t:Act} {H:ad} {Ψ:Exit->Act->ad->Prop} (h:RL P c t H Ψ):RC P (.loop c) t H Ψ:=by
 obtain ⟨e,t1,H1,s1,c1,h1⟩:=h
 exact ⟨e,t1,H1,s1,fun σ w a Q hr hf ht hq=>ab9 (c1 σ w a Q hr hf ht hq),h1⟩
theorem XX {id:Nat} {c:Code} {t:Act} {H:ad} {Ψ:Exit->Act->ad->Prop}
  (h:RC P c t H (fun e t' H'=>match e with | .exit i=>if i=id then Ψ .normal t' H' else Ψ (.exit i) t' H' | e=>Ψ e t' H')):RC P (.block id c) t H Ψ:=by
 obtain ⟨e,t1,H1,s1,c1,h1⟩:=h
 by_cases he:e=.exit id
 ·subst he
  simp only [if_true] at h1
  exact ⟨.normal,t1,H1,s1,fun σ w a Q hr hf ht hq=>wp_block (c1 σ w a _ hr hf ht fun σ' a' w' p LW=>by
   simp only [Exit.inBlock,if_true];exact hq σ' a' w' p LW),h1⟩
 ·have lU:Ψ e t1 H1:=by
   cases e with
   | exit i=>
    have dv:i≠id:=fun h=>he (h▸rfl)
    simp only [dv,if_false] at h1;exact h1
   | _=>exact h1
  refine ⟨e,t1,H1,s1,fun σ w a Q hr hf ht hq=>wp_block (c1 σ w a _ hr hf ht fun σ' a' w' p LW=>?_),lU⟩
  have:=hq σ' a' w' p LW
  cases e with
  | exit i=>
   have dv:i≠id:=fun h=>he (h▸rfl)
   simp only [Exit.inBlock,dv,if_false];exact this
  | _=>exact this
theorem VR.bool {σ:bG} {b:Bool} {v:Value} (h:VR σ (.bool b) v):v=.bool b:=by cases h;rfl
theorem VR.int {σ:bG} {k:IntKind} {n:Int} {v:Value} (h:VR σ (.int k n) v):v=.int k n:=by cases h;rfl
theorem VR.string {σ:bG} {s:ByteArray} {v:Value} (h:VR σ (.string s) v):v=.string s:=by cases h;rfl
theorem YE {c:Operand} {x y:Code} {t:Act} {H:ad} {b:Bool} {Ψ:Exit->Act->ad->Prop} (hc:t.eval c=.bool b)
  (ho:tY c=true) (h:RC P (if b then x else y) t H Ψ):RC P (.cond c x y) t H Ψ:=by
 obtain ⟨e,t1,H1,s1,c1,h1⟩:=h
 refine ⟨e,t1,H1,s1,fun σ w a Q hr hf ht hq=>wp_cond (t:=b) ?_ (c1 σ w a Q hr hf ht hq),h1⟩
 have:=ht.ev ho
 rw [hc] at this
 exact this.bool
abbrev RO (P:Program) (ops:Array Oper) (l:List Nat):=Reach P fun Q a w=>wpOps P ops Q l a w
theorem ae2 {ops:Array Oper} {t:Act} {H:ad} {Ψ:Exit->Act->ad->Prop} (hw:H.wf) (h:Ψ .normal t H):RO P ops [] t H Ψ:=
 .now hw (fun _ _ _ h=>h) h
theorem acE {id:Nat} {ops:Array Oper} {t:Act} {H:ad} {Ψ:Exit->Act->ad->Prop} (h:RO P ops (List.range ops.size) t H Ψ):
  RC P (.region id ops false) t H Ψ:=by
 obtain ⟨e,t1,H1,s1,c1,h1⟩:=h
 exact ⟨e,t1,H1,s1,fun σ w a Q hr hf ht hq=>wp_region (c1 σ w a Q hr hf ht hq),h1⟩
theorem acF {σ:bG} {t a:Act} {o:Oper} {ops:Array Oper} (h:TR σ t a):Region.wanted o (yielded ops t.tmps)=Region.wanted o (yielded ops a.tmps):=
 XC h.tm.1 fun d _=>h.tm.at d
theorem YF {ops:Array Oper} {i:Nat} {o:Oper} {rest:List Nat} {t:Act} {H:ad} {v:Value} {H':ad} {Ψ:Exit->Act->ad->Prop}
  (ho:ops[i]?=some o) (hs:i5 dT H H') (gi:o.op.operands.all tY=true) (h:um P ops dT o t H v H') (hn:RO P ops rest (t.put o.dst v) H' Ψ):
  RO P ops (i::rest) t H Ψ:=by
 obtain ⟨e,t1,H1,s1,c1,h1⟩:=hn
 refine ⟨e,t1,H1,hs.trans s1,fun σ w a Q hr hf ht hq=>?_,h1⟩
 simp only [wpOps,ho]
 have hw:=acF (o:=o) (ops:=ops) ht
 rw [<-hw]
 unfold um at h
 have cont:∀σ' v' w',jo P dT σ H w σ' H' w'->VR σ' v v'->wpOps P ops Q rest (a.put o.dst v') w':=fun σ' v' w' p hv=>
  c1 σ' w' _ Q (p.rel.sub fun _ _=>.inl trivial) (hf.right hs.next p) ((ht.mono (p.up (hf.left s1.next))).put hv _)
   (fun σ2 a2 w2 p2 Uo=>hq σ2 a2 w2 (p.trans hs.next s1.next p2) Uo)
 by_cases F0:Region.wanted o (yielded ops t.tmps)=true
 ·rw [if_pos F0] at h ⊢
  refine .inl (h σ w a _ Q hr (hf.left s1.next) (fun x hx=>ht.ev (Array.all_eq_true_iff_forall_mem.1 gi x hx)) cont)
 ·rw [if_neg F0] at h ⊢
  refine cont σ undef w ?_ (h.1▸VR.undef σ)
  rw [h.2]
  exact jo.refl hr rfl
def Up (P:Program) (f:FuncId) (args:Array Value) (H:ad) (v:Value) (H':ad):Prop:=
 ∀(σ:bG) (w:World) (C9:Array Value),Rel P σ dT H.get w->qB σ H H'->sV σ args C9->
  Calls P f C9 w fun e w'=>∃σ' v',e=.returned v'/\jo P dT σ H w σ' H' w'/\VR σ' v v'
def Uq (P:Program) (f:FuncId) (args:Array Value) (H:ad) (Φ:Value->ad->Prop):Prop:=
 ∃v H',i5 dT H H'/\Up P f args H v H'/\Φ v H'
def aat (P:Program) (fn:Func) (t:Act) (H:ad) (v:Value):Prop:=
 ∀σ w a,Rel P σ dT H.get w->TR σ t a->∃v',(results fn a.tmps).run P w=.ok v' w/\VR σ v v'
def start (fn:Func) (args:Array Value):Act:={tmps:=args++Array.replicate (fn.ntmps - args.size) undef,defers:=[]}
theorem Zx {f:FuncId} {fn:Func} {c:Code} {args:Array Value} {H:ad} {Φ:Value->ad->Prop} (hf:P.funcs[f]?=some fn) (hb:fn.body=some c)
  (h:RC P c (start fn args) H fun e t' H'=>(e=.normal∨e=.ret)/\∃v,aat P fn t' H' v/\Φ v H'):Uq P f args H Φ:=by
 obtain ⟨e,t1,H1,s1,c1,he,v,hv,hΦ⟩:=h
 refine ⟨v,H1,s1,fun σ w C9 hr bj ha=>calls_of_wp hf hb (c1 σ w _ _ hr bj ⟨⟨?_,fun i _=>?_⟩,rfl,rfl⟩ ?_),hΦ⟩
 ·simp [start,ha.1]
 ·have key:∀(x:Array Value) (n:Nat),(x++Array.replicate n undef).getD i undef=x.getD i undef:=by
   intro x n
   by_cases hi:i < x.size
   ·simp [Array.getD,hi,Array.getElem_append,Nat.lt_add_right n hi]
   ·by_cases iY:i < x.size+n
    ·simp [Array.getD,hi,iY,Array.getElem_append]
    ·simp [Array.getD,hi,iY]
  simp only [start]
  rw [key,key]
  exact ha.at i
 ·intro σ' a' w' p ht
  obtain ⟨v',sZ,nT⟩:=hv σ' w' a' (p.rel.sub fun _ _=>.inl trivial) ht
  have:bodyPost P fn (fun e w'=>∃σ' v',e=.returned v'/\jo P dT σ H w σ' H1 w'/\VR σ' v v') .normal a' w':=⟨ht.da,v',sZ,σ',v',rfl,p,nT⟩
  rcases he with rfl | rfl <;> exact this
end
end Go.Proofs.YtinjmfblebpnnaaGreat.Ab
namespace Go.Proofs.YtinjmfblebpnnaaGreat.Ab
open Go Classical
section
variable {P:Program}
theorem VR.HK {σ:bG} {b o:Nat} {v:Value} (h:VR σ (.pointer (some ⟨b,o,none⟩)) v):∃l,(σ b=some l/\l.mp=false)/\v=.pointer (some ⟨l.aU,l.base+o,none⟩):=by
 cases h with
 | same h=>cases h
 | ptr h=>exact ⟨_,h,rfl⟩
theorem VR.zL {σ:bG} {b o n c:Nat} {v:Value} (h:VR σ (.slice (some ⟨b,o,none⟩) n c) v):∃l,(σ b=some l/\l.mp=false)/\v=.slice (some ⟨l.aU,l.base+o,none⟩) n (c+l.room):=by
 cases h with
 | same h=>cases h
 | slice h=>exact ⟨_,h,rfl⟩
theorem VR.Q3 {σ:bG} {n c:Nat} {v:Value} (h:VR σ (.slice none n c) v):v=.slice none n c:=by cases h;rfl
theorem VR.NS {σ:bG} {a:Array Value} {v:Value} (h:VR σ (.agg a) v):∃a',v=.agg a'/\sV σ a a':=by
 cases h with
 | same h=>cases h
 | agg h1 h2=>exact ⟨_,rfl,h1,h2⟩
theorem VR.acG {σ:bG} {a:Array Value} {v:Value} (h:VR σ (.tuple a) v):∃a',v=.tuple a'/\sV σ a a':=by
 cases h with
 | same h=>cases h
 | tuple h1 h2=>exact ⟨_,rfl,h1,h2⟩
theorem VR.XY {σ:bG} {fn:Fn} {f c:Array Value} {v:Value} (h:VR σ (.func fn f c) v):∃f' c',v=.func fn f' c'/\sV σ f f'/\sV σ c c':=by
 cases h with
 | same h=>cases h
 | func h1 h2 h3 h4=>exact ⟨_,_,rfl,⟨h1,h3⟩,h2,h4⟩
def VL (σ:bG) (a a':List Value):Prop:=a.length=a'.length/\∀i,i < a.length->VR σ (a.getD i undef) (a'.getD i undef)
theorem sV.DO {σ:bG} {a a':Array Value} (h:sV σ a a'):VL σ a.toList a'.toList:=by
 refine ⟨by simpa using h.1,fun i hi=>?_⟩
 have:=h.at i
 simpa [Array.getD_eq_getD_getElem?,List.getD_eq_getElem?_getD] using this
theorem VL.xp {σ:bG} {a a':List Value} (h:VL σ a a'):sV σ a.toArray a'.toArray:=by
 refine ⟨by simpa using h.1,fun i hi=>?_⟩
 have:=h.2 i (by simpa using hi)
 simpa [Array.getD_eq_getD_getElem?,List.getD_eq_getElem?_getD] using this
theorem VL.at {σ:bG} {a a':List Value} (h:VL σ a a') (i:Nat):VR σ (a.getD i undef) (a'.getD i undef):=by
 by_cases hi:i < a.length
 ·exact h.2 i hi
 ·rw [List.getD_eq_getElem?_getD,List.getD_eq_getElem?_getD,List.getElem?_eq_none (by omega),List.getElem?_eq_none (by have:=h.1;omega)];exact .undef σ
theorem VL.nil (σ:bG):VL σ [] []:=⟨rfl,fun i h=>absurd h (by simp)⟩
theorem VL.cons {σ:bG} {x x':Value} {a a':List Value} (hx:VR σ x x') (h:VL σ a a'):VL σ (x::a) (x'::a'):=by
 refine ⟨by simp [h.1],fun i hi=>?_⟩
 cases i with
 | zero=>exact hx
 | succ i=>simpa using h.at i
theorem VL.of_cons {σ:bG} {x:Value} {a l':List Value} (h:VL σ (x::a) l'):∃x' a',l'=x'::a'/\VR σ x x'/\VL σ a a':=by
 cases l' with
 | nil=>have:=h.1;simp at this
 | cons x' a'=>exact ⟨x',a',rfl,by simpa using h.at 0,by have:=h.1;simpa using this,fun i hi=>by simpa using h.at (i+1)⟩
theorem VL.of_nil {σ:bG} {l':List Value} (h:VL σ [] l'):l'=[]:=List.length_eq_zero_iff.1 h.1.symm
theorem VL.append {σ:bG} {a a' b b':List Value} (h:VL σ a a') (h':VL σ b b'):VL σ (a++b) (a'++b'):=by
 induction a generalizing a' with
 | nil=>rw [h.of_nil];exact h'
 | cons x a ih=>obtain ⟨x',a'',rfl,hx,ha⟩:=h.of_cons;exact .cons hx (ih ha)
theorem VL.drop {σ:bG} {a a':List Value} (h:VL σ a a') (n:Nat):VL σ (a.drop n) (a'.drop n):=by
 refine ⟨by simp [h.1],fun i hi=>?_⟩
 have:=h.at (n+i)
 simpa [List.getD_eq_getElem?_getD,List.getElem?_drop] using this
theorem VL.take {σ:bG} {a a':List Value} (h:VL σ a a') (n:Nat):VL σ (a.take n) (a'.take n):=by
 refine ⟨by simp [h.1],fun i hi=>?_⟩
 have eG:i < n:=by simp at hi;omega
 have:=h.at i
 simpa [List.getD_eq_getElem?_getD,List.getElem?_take,eG] using this
theorem wL {α:Type}:∀(l:List α) (n:Nat),pK l n=l[n]?
 | [],n=>by simp [pK]
 | a::l,0=>rfl
 | a::l,n+1=>by rw [List.getElem?_cons_succ,<-wL l n];rfl
theorem Hv {α:Type}:∀(l:List α) (n:Nat),Ih l n=l.drop n
 | [],n=>by simp [Ih]
 | a::l,0=>rfl
 | a::l,n+1=>by rw [List.drop_succ_cons,<-Hv l n];rfl
theorem Hw {α:Type}:∀(l:List α) (n:Nat),Ii l n=l.take n
 | [],n=>by simp [Ii]
 | a::l,0=>rfl
 | a::l,n+1=>by rw [List.take_succ_cons,<-Hw l n];rfl
theorem xU {α:Type}:∀(l:List α),j4 l=l.length
 | []=>rfl
 | a::l=>by rw [List.length_cons,<-xU l];rfl
theorem N3 {β:Type} (n:Nat) (k:Nat->β):rT n k=k n:=by cases n <;> rfl
theorem blt_eq (a b:Nat):Nat.blt a b=decide (a < b):=by rw [Bool.eq_iff_iff];simp [Nat.blt_eq]
theorem ble_eq (a b:Nat):Nat.ble a b=decide (a<=b):=by rw [Bool.eq_iff_iff];simp [Nat.ble_eq]
theorem beq_eq (a b:Nat):Nat.beq a b=decide (a=b):=by rw [Bool.eq_iff_iff];simp [Nat.beq_eq]
theorem xZ (a b:Int):DK a b=decide (a < b):=by
 cases a <;> cases b <;> simp only [DK,blt_eq] <;> rw [Bool.eq_iff_iff] <;> simp only [decide_eq_true_eq,Bool.false_eq_true,Int.ofNat_eq_natCast] <;> (constructor <;> intro h <;> first | omega | exact h.elim | trivial)
theorem Bd (a b:Int):FU a b=decide (a=b):=by
 cases a <;> cases b <;> simp only [FU,beq_eq] <;> rw [Bool.eq_iff_iff] <;> simp only [decide_eq_true_eq,Bool.false_eq_true,Int.ofNat_eq_natCast] <;> (constructor <;> intro h <;> first | omega | exact h.elim | trivial)
theorem J2 {n:Int} (h:A8 n=true):IntKind.wrap .i64 n=n:=by
 have: -9223372036854775808<=n/\n < 9223372036854775808:=by
  cases n with
  | ofNat a=>simp only [A8,blt_eq,decide_eq_true_eq] at h;simp only [Int.ofNat_eq_natCast];omega
  | negSucc a=>simp only [A8,blt_eq,decide_eq_true_eq] at h;omega
 unfold IntKind.wrap
 simp only [IntKind.bits,IntKind.signed,Bool.true_and]
 split <;> simp_all <;> omega
theorem qu (k:IntKind) (n:Int):pH k n=k.wrap n:=by
 cases k <;> try rfl
 ·show (bif A8 n then n else IntKind.wrap .i64 n)=_
  cases h:A8 n
  ·rfl
  ·rw [cond_true,J2 h]
 ·cases n with
  | negSucc a=>rfl
  | ofNat a=>
   show (bif Nat.blt a 256 then Int.ofNat a else IntKind.wrap .u8 (Int.ofNat a))=_
   cases h:Nat.blt a 256
   ·rfl
   ·rw [cond_true]
    rw [blt_eq,decide_eq_true_eq] at h
    unfold IntKind.wrap
    simp [IntKind.bits,IntKind.signed];omega
 ·cases n with
  | negSucc a=>rfl
  | ofNat a=>
   show (bif Nat.blt a 18446744073709551616 then Int.ofNat a else IntKind.wrap .u64 (Int.ofNat a))=_
   cases h:Nat.blt a 18446744073709551616
   ·rfl
   ·rw [cond_true]
    rw [blt_eq,decide_eq_true_eq] at h
    unfold IntKind.wrap
    simp [IntKind.bits,IntKind.signed];omega
theorem Hj:∀(x y:List UInt8),HH x y=decide (x=y)
 | [],[]=>rfl
 | [],_::_=>rfl
 | _::_,[]=>rfl
 | a::x,b::y=>by
  have:HH (a::x) (b::y)=Bool.rec (motive:=fun _=>Bool) false (HH x y) (Nat.beq a.toNat b.toNat):=rfl
  rw [this,Hj x y]
  cases h:Nat.beq a.toNat b.toNat
  ·have:a≠b:=fun e=>by subst e;simp at h
   simp [this]
  ·have:a=b:=UInt8.toNat_inj.1 (Nat.eq_of_beq_eq_true h)
   subst this
   simp
end
end Go.Proofs.YtinjmfblebpnnaaGreat.Ab
namespace Go.Proofs.YtinjmfblebpnnaaGreat.Ab
open Go Classical
section
variable {P:Program}
theorem Nq {t:TypeId} {b:Bool} (h:hJ P t=some b) (w:World):(isAgg t).run P w=.ok b w:=by
 unfold hJ at h
 split at h
 ·cases h;rename_i hu;simp [isAgg,run_underlying hu]
 ·cases h;rename_i hu;simp [isAgg,run_underlying hu]
 ·cases h
  rename_i d BZ iL hu
  simp only [isAgg,Sem.run_bind,run_underlying hu,Result.andThen_ok]
  rfl
 ·cases h
theorem oi {t:TypeId} {n:Nat} (h:du P t=some n) (w:World):(sizeOf t).run P w=.ok n w:=by
 unfold du at h
 split at h
 ·rename_i i hi;cases h;simp [sizeOf,typeInfo,hi]
 ·cases h
theorem Ns {σ:bG} {t:TypeId} {cs:List Value} {fW:Array Value} {off:Nat} {v:Value} (h:Bj P t cs off=some v) (hv:VL σ cs fW.toList):
  ∃v',(∀w,(part t fW off).run P w=.ok v' w)/\VR σ v v':=by
 unfold Bj at h
 split at h
 ·rename_i ha
  split at h
  ·rename_i n hn
   cases h
   rw [Hw,Hv]
   refine ⟨.agg (fW.extract off (off+n)),fun w=>?_,?_⟩
   ·simp [part,Nq ha,oi hn]
   ·have hx:=((hv.drop off).take n).xp
    have he:((fW.toList.drop off).take n).toArray=fW.extract off (off+n):=by
     apply Array.ext'
     simp [List.drop_take]
    rw [he] at hx
    exact .agg hx.1 hx.2
  ·cases h
 ·rename_i ha
  rw [wL] at h
  obtain ⟨be,hx⟩:=List.getElem?_eq_some_iff.1 h
  have dK:off < fW.size:=by have:=hv.1;simp at this;omega
  refine ⟨fW[off],fun w=>?_,?_⟩
  ·simp [part,Nq ha,Array.getElem?_eq_getElem dK]
  ·have:=hv.at off
   simpa [List.getD_eq_getElem?_getD,h,Array.getElem?_eq_getElem dK] using this
 ·cases h
theorem aca {σ:bG} {t:TypeId} {x y x' y':Value} {b:Bool} (hu:P.underlying t=some .bool) (h:Kp x y=some b) (hx:VR σ x x') (hy:VR σ y y') (d:Nat) (w:World):
  (Op.equalIn (d+1) t x' y').run P w=.ok b w:=by
 unfold Kp at h;split at h
 ·cases h;rw [hx.bool,hy.bool];exact run_equalIn_bool w d t _ _ hu
 ·cases h
theorem acH {σ:bG} {t:TypeId} {k:IntKind} {x y x' y':Value} {b:Bool} (hu:P.underlying t=some (.int k)) (h:KD x y=some b) (hx:VR σ x x') (hy:VR σ y y') (d:Nat) (w:World):
  (Op.equalIn (d+1) t x' y').run P w=.ok b w:=by
 unfold KD at h;split at h
 ·rename_i j a k' b'
  by_cases hk:j=k'
  ·subst hk
   simp only [decide_true,cond_true,Option.some.injEq] at h
   subst h
   rw [hx.int,hy.int,run_equalIn_int w d t _ _ _ _ hu,Bd]
   rfl
  ·simp [hk] at h
 ·cases h
theorem acI {σ:bG} {t:TypeId} {x y x' y':Value} {b:Bool} (hu:P.underlying t=some .string) (h:eqStr x y=some b) (hx:VR σ x x') (hy:VR σ y y') (d:Nat) (w:World):
  (Op.equalIn (d+1) t x' y').run P w=.ok b w:=by
 unfold eqStr at h;split at h
 ·cases h;rw [hx.string,hy.string,run_equalIn_string w d t _ _ hu,Hj,ByteArray.toList_eq,ByteArray.toList_eq]
  congr 1
  exact Bool.eq_iff_iff.2 (by simp)
 ·cases h
theorem VR.tZ {σ:bG} {a:Option Addr} {n c:Nat} {v:Value} (h:VR σ (.slice a n c) v):∃a' c',v=.slice a' n c'/\a'.isNone=a.isNone:=by
 cases h with
 | same h=>exact ⟨_,_,rfl,rfl⟩
 | slice h=>exact ⟨_,_,rfl,rfl⟩
 | yQ=>exact ⟨_,_,rfl,rfl⟩
theorem VR.Rw {σ:bG} {a:Option Addr} {v:Value} (h:VR σ (.pointer a) v):∃a',v=.pointer a'/\a'.isNone=a.isNone:=by
 cases h with
 | same h=>exact ⟨_,rfl,rfl⟩
 | ptr h=>exact ⟨_,rfl,rfl⟩
theorem abV {σ:bG} {t e:TypeId} {x y x' y':Value} {b:Bool} (hu:P.underlying t=some (.slice e)) (h:Kf x y=some b) (hx:VR σ x x') (hy:VR σ y y') (d:Nat) (w:World):
  (Op.equalIn (d+1) t x' y').run P w=.ok b w:=by
 unfold Kf at h
 split at h
 ·obtain ⟨a',c',rfl,ha⟩:=hx.tZ
  obtain ⟨b',c2',rfl,hb⟩:=hy.tZ
  rw [<-ha,<-hb] at h
  cases a' <;> cases b' <;> simp at h <;> subst h <;> simp [Op.equalIn,run_underlying hu]
 ·cases h
theorem acJ {σ:bG} {t e:TypeId} {x y x' y':Value} {b:Bool} (hu:P.underlying t=some (.pointer e)) (h:KE x y=some b) (hx:VR σ x x') (hy:VR σ y y') (d:Nat) (w:World):
  (Op.equalIn (d+1) t x' y').run P w=.ok b w:=by
 unfold KE at h
 split at h
 ·obtain ⟨a',rfl,ha⟩:=hx.Rw
  obtain ⟨b',rfl,hb⟩:=hy.Rw
  rw [<-ha,<-hb] at h
  cases a' <;> cases b' <;> simp at h <;> subst h <;> simp [Op.equalIn,run_underlying hu]
 ·cases h
theorem Re (d:Nat) (t:TypeId) (x y:Value):Ao P (d+1) t x y=(match P.underlying t with
   | some .bool=>Kp x y
   | some (.int _)=>KD x y
   | some .string=>eqStr x y
   | some (.slice _)=>Kf x y
   | some (.pointer _)=>KE x y
   | some (.struct fs)=>match x,y with
    | .agg xs,.agg ys=>bif P.stoodInHeld t||P.eqGuardType P.depth t then none else Q2 P (Ao P d) xs.toList ys.toList fs.toList
    | _,_=>none
   | _=>none):=rfl
theorem aec {σ:bG}:∀(d:Nat) {t:TypeId} {x y x' y':Value} {b:Bool},Ao P d t x y=some b->VR σ x x'->VR σ y y'->∀w,(Op.equalIn d t x' y').run P w=.ok b w:=by
 intro d
 induction d with
 | zero=>intro t x y x' y' b h;cases h
 | succ d ih=>
  intro t x y x' y' b h hx hy w
  have h':=h
  rw [Re] at h'
  clear h
  split at h'
  ·rename_i hu;exact aca hu h' hx hy d w
  ·rename_i hu;exact acH hu h' hx hy d w
  ·rename_i hu;exact acI hu h' hx hy d w
  ·rename_i hu;exact abV hu h' hx hy d w
  ·rename_i hu;exact acJ hu h' hx hy d w
  ·rename_i fs hu
   split at h'
   ·rename_i xs ys
    obtain ⟨xs',rfl,yS⟩:=hx.NS
    obtain ⟨ys',rfl,hys⟩:=hy.NS
    cases dI:P.stoodInHeld t
    ·cases hg:P.eqGuardType P.depth t
     ·simp only [dI,hg,Bool.or_self,cond_false] at h'
      have hf:P.fieldsOf t=fs:=by simp [Program.fieldsOf,hu]
      rw [run_equalIn_struct w d t xs' ys' (by rw [hf];exact hu) dI,hf]
      clear hu hf
      have hxl:=yS.DO
      have hyl:=hys.DO
      generalize fs.toList=l at h'
      induction l generalizing w with
      | nil=>cases h';rfl
      | cons f l ihl=>
       have h2:(bif decide (f.name= "_") then none else match Bj P f.type xs.toList f.offset,Bj P f.type ys.toList f.offset with
        | some a,some b=>match Ao P d f.type a b with
         | some true=>Q2 P (Ao P d) xs.toList ys.toList l
         | some false=>some false
         | none=>none
        | _,_=>none)=some b:=h'
       clear h'
       by_cases hn:f.name= "_"
       ·simp [hn] at h2
       ·simp only [hn,decide_false,cond_false] at h2
        split at h2
        ·rename_i a a2 ha Ur
         obtain ⟨v1,gI,sZ⟩:=Ns ha hxl
         obtain ⟨v2,dQ,nT⟩:=Ns Ur hyl
         split at h2
         ·rename_i he
          simp [Op.eqFields,hn,gI,dQ,ih he sZ nT,ihl w h2]
         ·rename_i he
          cases h2
          simp [Op.eqFields,hn,gI,dQ,ih he sZ nT]
         ·cases h2
        ·cases h2
     ·simp [dI,hg] at h'
    ·simp [dI] at h'
   ·cases h'
  ·cases h'
end
end Go.Proofs.YtinjmfblebpnnaaGreat.Ab
namespace Go.Proofs.YtinjmfblebpnnaaGreat.Ab
open Go Classical
section
variable {P:Program}
def Yl (P:Program) (σ:bG) (v:Value) (s:Sem Value):Prop:=∃v',VR σ v v'/\∀w,s.run P w=.ok v' w
theorem Q4 {op:BinOp} {t:TypeId} {x y:Operand} {k k':IntKind} {a b:Int} (w:World):(eqGuard op t x y (.int k a) (.int k' b)).run P w=.ok () w:=by
 cases op <;> simp [eqGuard]
theorem acK {op:BinOp} {t:TypeId} {x y:Operand} {a b:ByteArray} (w:World):(eqGuard op t x y (.string a) (.string b)).run P w=.ok () w:=by
 cases op <;> simp [eqGuard]
theorem Ny (k:IntKind) (a:Int):x8 k a=(BitVec.ofInt k.bits a).toNat:=by
 rw [BitVec.toNat_ofInt]
 cases a with
 | ofNat n=>
  show n % 2 ^ k.bits=_
  have e:((Int.ofNat n) % ((2 ^ k.bits:Nat):Int))=((n % 2 ^ k.bits:Nat):Int):=by simp
  rw [e];rfl
 | negSucc n=>rfl
theorem adp {σ:bG} {op:BinOp} {t:TypeId} {k:IntKind} {a b:Int} {v:Value} (h:uk op k a b=some v):Yl P σ v (binOp op t (.int k a) (.int k b)):=by
 cases op <;> simp only [uk] at h
 case add=>cases h;exact ⟨_,.same rfl,fun w=>by simp [binOp,Op.intArith,qu]⟩
 case sub=>cases h;exact ⟨_,.same rfl,fun w=>by simp [binOp,Op.intArith,qu]⟩
 case mul=>cases h;exact ⟨_,.same rfl,fun w=>by simp [binOp,Op.intArith,qu]⟩
 case quo=>
  rw [Bd] at h
  by_cases hb:b=0
  ·simp [hb] at h
  ·simp only [hb,decide_false,cond_false,Option.some.injEq] at h
   subst h
   exact ⟨_,.same rfl,fun w=>by simp [binOp,Op.intDiv,qu,hb]⟩
 case rem=>
  rw [Bd] at h
  by_cases hb:b=0
  ·simp [hb] at h
  ·simp only [hb,decide_false,cond_false,Option.some.injEq] at h
   subst h
   exact ⟨_,.same rfl,fun w=>by simp [binOp,Op.intDiv,hb]⟩
 case eql=>cases h;exact ⟨_,.same rfl,fun w=>by simp [binOp,Op.intCmp,Bd];rfl⟩
 case neq=>cases h;exact ⟨_,.same rfl,fun w=>by simp [binOp,Op.intCmp,Bd];rfl⟩
 case lss=>cases h;exact ⟨_,.same rfl,fun w=>by simp [binOp,Op.intCmp,xZ]⟩
 case leq=>cases h;exact ⟨_,.same rfl,fun w=>by simp [binOp,Op.intCmp,xZ,<-decide_not,Int.not_lt]⟩
 case gtr=>cases h;exact ⟨_,.same rfl,fun w=>by simp [binOp,Op.intCmp,xZ]⟩
 case geq=>cases h;exact ⟨_,.same rfl,fun w=>by simp [binOp,Op.intCmp,xZ,<-decide_not,Int.not_lt]⟩
 case and=>cases h;exact ⟨_,.same rfl,fun w=>by simp [binOp,Op.intBits,qu,Ny]⟩
 case or=>cases h;exact ⟨_,.same rfl,fun w=>by simp [binOp,Op.intBits,qu,Ny]⟩
 case xor=>cases h;exact ⟨_,.same rfl,fun w=>by simp [binOp,Op.intBits,qu,Ny]⟩
 case andNot=>cases h;exact ⟨_,.same rfl,fun w=>by simp [binOp,Op.intBits,qu,Ny]⟩
 all_goals cases h
theorem Xo {σ:bG} {op:BinOp} {t:TypeId} {k k':IntKind} {a b:Int} {v:Value} (h:N0 op k a b=some v):Yl P σ v (binOp op t (.int k a) (.int k' b)):=by
 unfold N0 at h
 split at h
 ·rename_i b
  have hm:(bif Nat.ble b k.bits then b else k.bits)=min b k.bits:=by
   rw [ble_eq]
   by_cases hb:b<=k.bits
   ·simp [hb,Nat.min_eq_left hb]
   ·simp [hb,Nat.min_eq_right (Nat.le_of_not_le hb)]
  have hp:((2 ^ (min b k.bits):Nat):Int)=(2:Int) ^ (min b k.bits):=by simp
  split at h
  ·cases h
   refine ⟨_,.same rfl,fun w=>?_⟩
   rw [hm]
   simp [binOp,Op.shift,qu]
   intro cA;omega
  ·cases h
   refine ⟨_,.same rfl,fun w=>?_⟩
   rw [hm]
   simp [binOp,Op.shift]
   intro cA;omega
  ·cases h
 ·cases h
theorem abS (a b:ByteArray):(⟨(a.data.toList++b.data.toList).toArray⟩:ByteArray)=a++b:=by
 apply ByteArray.ext
 apply Array.ext'
 simp
theorem JZ (a:ByteArray):j4 a.data.toList=a.size:=by rw [xU];exact Array.length_toList
theorem adq {σ:bG} {op:BinOp} {t:TypeId} {a b:ByteArray} {v:Value} (h:IH op a b=some v):Yl P σ v (binOp op t (.string a) (.string b)):=by
 cases op <;> simp only [IH] at h
 case add=>
  rw [JZ,JZ,blt_eq] at h
  by_cases hs:a.size+b.size < 4611686018427387904
  ·simp only [hs,decide_true,cond_true,Option.some.injEq] at h
   subst h
   rw [abS]
   have h2:¬(9223372036854775807 < (a.size:Int)+(b.size:Int)):=by omega
   exact ⟨_,.same rfl,fun w=>by simp [binOp,Op.stringOp,h2,IntKind.max,IntKind.signed,IntKind.bits]⟩
  ·simp [hs] at h
 case eql=>cases h;exact ⟨_,.same rfl,fun w=>by simp [binOp,Op.stringOp,Hj,ByteArray.toList_eq];exact Bool.eq_iff_iff.2 (by simp)⟩
 case neq=>cases h;exact ⟨_,.same rfl,fun w=>by simp [binOp,Op.stringOp,Hj,ByteArray.toList_eq];exact Bool.eq_iff_iff.2 (by simp)⟩
 all_goals cases h
def CZ:Value->Bool
 | .bool _ | .slice _ _ _ | .pointer _ | .agg _=>true
 | _=>false
theorem adr {d:Nat} {t:TypeId} {x y:Value} {b:Bool} (h:Ao P d t x y=some b) (hx:∀k n,x≠.int k n) (hs:∀s,x≠.string s):CZ x=true/\CZ y=true:=by
 cases d with
 | zero=>cases h
 | succ d=>
  rw [Re] at h
  split at h
  ·unfold Kp at h;split at h <;> first | (cases h;done) | exact ⟨rfl,rfl⟩
  ·unfold KD at h;split at h
   ·exact absurd rfl (hx _ _)
   ·cases h
  ·unfold eqStr at h;split at h
   ·exact absurd rfl (hs _)
   ·cases h
  ·unfold Kf at h;split at h <;> first | (cases h;done) | exact ⟨rfl,rfl⟩
  ·unfold KE at h;split at h <;> first | (cases h;done) | exact ⟨rfl,rfl⟩
  ·split at h <;> first | (cases h;done) | exact ⟨rfl,rfl⟩
  ·cases h
theorem acL {d:Nat} {t:TypeId} {x y:Value} {b:Bool} (h:Ao P d t x y=some b) {xs ys:Array Value} (hx:x=.agg xs):P.eqGuardType P.depth t=false:=by
 subst hx
 cases d with
 | zero=>cases h
 | succ d=>
  rw [Re] at h
  split at h
  ·cases h
  ·cases h
  ·cases h
  ·cases h
  ·cases h
  ·split at h
   ·rename_i heq
    cases hg:P.eqGuardType P.depth t
    ·rfl
    ·simp [hg] at h
   ·cases h
  ·cases h
theorem VR.aau {σ:bG} {x x':Value} (h:VR σ x x') (he:CZ x=true):CZ x'=true/\((∃a,x=.agg a/\∃a',x'=.agg a')∨(∀a',x'≠.agg a')):=by
 cases h with
 | same h=>exact ⟨he,.inr (fun a' e=>by subst e;cases h)⟩
 | ptr h=>exact ⟨rfl,.inr (fun a' e=>by cases e)⟩
 | slice h=>exact ⟨rfl,.inr (fun a' e=>by cases e)⟩
 | map h=>cases he
 | yQ=>exact ⟨rfl,.inr (fun a' e=>by cases e)⟩
 | agg h1 h2=>exact ⟨rfl,.inl ⟨_,rfl,_,rfl⟩⟩
 | func=>cases he
 | tuple=>cases he
theorem Xp {op:BinOp} {t:TypeId} {x y:Operand} {a b:Value} (ha:CZ a=true) (hb:CZ b=true) (hg:(∀xs,a≠.agg xs)∨P.eqGuardType P.depth t=false) (w:World):
  (eqGuard op t x y a b).run P w=.ok () w:=by
 cases a <;> first | (cases ha;done) | skip
 all_goals cases b <;> first | (cases hb;done) | skip
 all_goals cases op <;> simp [eqGuard]
 all_goals
  rcases hg with hg | hg
  ·exact absurd rfl (hg _)
  ·simp [run_program,hg]
theorem acb {t:TypeId} {a b:Value} (ha:CZ a=true) (hb:CZ b=true):
  binOp .eql t a b=(do pure (.bool (<-Op.equal t a b)))/\binOp .neq t a b=(do pure (.bool (!(<-Op.equal t a b)))):=by
 cases a <;> first | (cases ha;done) | skip
 all_goals cases b <;> first | (cases hb;done) | exact ⟨rfl,rfl⟩
theorem ads {σ:bG} {op:BinOp} {t:TypeId} {x y x' y':Value} {v:Value} (xo yo:Operand) (h:nI P op t x y=some v) (hx:VR σ x x') (hy:VR σ y y'):
  Yl P σ v (do eqGuard op t xo yo x' y';binOp op t x' y'):=by
 have key:∀b,Ao P 10000 t x y=some b->(∀k n,x≠.int k n)->(∀s,x≠.string s)->op=.eql∨op=.neq->v=.bool (if op=.eql then b else !b)->Yl P σ v (do eqGuard op t xo yo x' y';binOp op t x' y'):=by
  intro b he h1 h2 iz hv
  obtain ⟨ax,ay⟩:=adr he h1 h2
  obtain ⟨Us,cx⟩:=hx.aau ax
  obtain ⟨Ut,_⟩:=hy.aau ay
  have hg:(∀xs,x'≠.agg xs)∨P.eqGuardType P.depth t=false:=by
   rcases cx with ⟨a,ha,_⟩ | hn
   ·exact .inr (acL (ys:=#[]) he ha)
   ·exact .inl hn
  obtain ⟨e1,e2⟩:=acb (t:=t) Us Ut
  have hr:=aec 10000 he hx hy
  refine ⟨v,.same (by rw [hv];rfl),fun w=>?_⟩
  rcases iz with rfl | rfl
  ·rw [e1,hv];simp [Xp Us Ut hg,Op.equal,Op.maxDepth,hr]
  ·rw [e2,hv];simp [Xp Us Ut hg,Op.equal,Op.maxDepth,hr]
 unfold nI at h
 split at h
 ·rename_i k a k' b
  split at h
  ·obtain ⟨v',h1,h2⟩:=Xo (P:=P) (σ:=σ) (t:=t) (k':=k') h
   rw [hx.int,hy.int]
   exact ⟨v',h1,fun w=>by simp [Q4,h2]⟩
  ·obtain ⟨v',h1,h2⟩:=Xo (P:=P) (σ:=σ) (t:=t) (k':=k') h
   rw [hx.int,hy.int]
   exact ⟨v',h1,fun w=>by simp [Q4,h2]⟩
  ·by_cases hk:k=k'
   ·subst hk
    simp only [decide_true,cond_true] at h
    obtain ⟨v',h1,h2⟩:=adp (P:=P) (σ:=σ) (t:=t) h
    rw [hx.int,hy.int]
    exact ⟨v',h1,fun w=>by simp [Q4,h2]⟩
   ·simp [hk] at h
 ·obtain ⟨v',h1,h2⟩:=adq (P:=P) (σ:=σ) (t:=t) h
  rw [hx.string,hy.string]
  exact ⟨v',h1,fun w=>by simp [acK,h2]⟩
 ·cases h
 ·cases h
 ·rename_i BZ iL hi hs
  split at h
  ·obtain ⟨b,hb,rfl⟩:=Option.map_eq_some_iff.1 h
   exact key b hb (fun k n e=>BZ k n e) (fun s e=>iL s e) (.inl rfl) (by simp)
  ·obtain ⟨b,hb,rfl⟩:=Option.map_eq_some_iff.1 h
   exact key b hb (fun k n e=>BZ k n e) (fun s e=>iL s e) (.inr rfl) (by simp)
  ·cases h
theorem aed {σ:bG} {op:UnOp} {x x':Value} {v:Value} {h h':KH} (hh:DL op x h=.ok v h') (hx:VR σ x x'):h'=h/\Yl P σ v (Op.unary op x'):=by
 unfold DL at hh
 split at hh
 ·cases hh;rw [hx.bool];exact ⟨rfl,_,.same rfl,fun w=>by simp [Op.unary]⟩
 ·cases hh;rw [hx.int];exact ⟨rfl,_,.same rfl,fun w=>by simp [Op.unary,Op.intArith,qu]⟩
 ·cases hh
theorem adt {σ:bG} {x x':Value} {v:Value} {h h':KH} {o:Oper} {a:Act} {xo:Operand} (hh:Dn x h=.ok v h') (hx:VR σ x x') (ho:o.op=.nilCheck xo) (he:a.eval xo=x'):
  h'=h/\∃v',VR σ v v'/\∀w,(execOp a.eval o).run P w=.ok (.value v') w:=by
 unfold Dn at hh
 split at hh
 ·cases hh
  refine ⟨rfl,x',hx,fun w=>?_⟩
  obtain ⟨a',rfl,ha⟩:=hx.Rw
  cases a' with
  | none=>cases ha
  | some a'=>simp [execOp,ho,he]
 ·cases hh
  refine ⟨rfl,x',hx,fun w=>?_⟩
  obtain ⟨f',c',rfl,_,_⟩:=hx.XY
  simp [execOp,ho,he]
 ·cases hh
theorem abT {σ:bG} {x x':Value} {i:Nat} {v:Value} {h h':KH} (hh:AZ x i h=.ok v h') (hx:VR σ x x'):h'=h/\Yl P σ v (Instr.extract x' i):=by
 unfold AZ at hh
 split at hh
 ·obtain ⟨a',rfl,ha⟩:=hx.acG
  rw [wL] at hh
  split at hh
  ·rename_i v0 qS
   cases hh
   have be:i < a'.size:=by
    have:=(List.getElem?_eq_some_iff.1 qS).1
    rw [<-ha.1];simpa using this
   refine ⟨rfl,a'[i],?_,fun w=>by simp [Instr.extract,Array.getElem?_eq_getElem be]⟩
   have:=ha.DO.at i
   simpa [List.getD_eq_getElem?_getD,qS,Array.getElem?_eq_getElem be] using this
  ·cases hh
 ·cases hh
theorem zM (b o n:Nat):(⟨b,o,none⟩:Addr).add n=⟨b,o+n,none⟩:=by unfold Addr.add;split <;> simp_all
theorem abL {σ:bG} {s:TypeId} {x x':Value} {f:Nat} {v:Value} {h h':KH} (hh:AW P s x f h=.ok v h') (hx:VR σ x x'):h'=h/\Yl P σ v (Instr.fieldAt s x' f):=by
 unfold AW at hh
 split at hh
 ·rename_i b o fs hu
  rw [wL] at hh
  split at hh
  ·rename_i f0 vV
   split at hh
   ·rename_i n hn
    rw [blt_eq] at hh
    by_cases mJ:0 < n
    ·simp only [mJ,decide_true,cond_true,KO.ok.injEq] at hh
     obtain ⟨rfl,rfl⟩:=hh
     obtain ⟨l,hl,rfl⟩:=hx.HK
     refine ⟨rfl,_,.ptr hl,fun w=>?_⟩
     have rV:n≠0:=by omega
     simp only [Array.getElem?_toList] at vV
     simp [Instr.fieldAt,run_underlying hu,vV,Instr.sureAddr,fieldPlace,oi hn,rV,zM,Nat.add_assoc]
    ·simp [mJ] at hh
   ·cases hh
  ·cases hh
 ·cases hh
theorem abM {σ:bG} {t:TypeId} {x x' i i':Value} {v:Value} {h h':KH} (hh:AX P t x i h=.ok v h') (hx:VR σ x x') (hi:VR σ i i'):h'=h/\Yl P σ v (Instr.indexAt t x' i'):=by
 unfold AX at hh
 split at hh
 ·rename_i e b o n c k j hu
  split at hh
  ·rename_i s hs
   rw [blt_eq] at hh
   by_cases be:j < n
   ·simp only [be,decide_true,cond_true,KO.ok.injEq] at hh
    obtain ⟨rfl,rfl⟩:=hh
    obtain ⟨l,hl,rfl⟩:=hx.zL
    rw [hi.int]
    refine ⟨rfl,_,.ptr hl,fun w=>?_⟩
    have h0:(0:Int)<=Int.ofNat j/\Int.ofNat j < (n:Int):=by constructor <;> simp <;> omega
    simp [Instr.indexAt,asIntOf,run_underlying hu,oi hs,zM,Nat.add_assoc,be]
   ·simp [be] at hh
  ·cases hh
 ·rename_i n e b o k j hu
  split at hh
  ·rename_i s hs
   rw [blt_eq] at hh
   by_cases be:j < n
   ·simp only [be,decide_true,cond_true,KO.ok.injEq] at hh
    obtain ⟨rfl,rfl⟩:=hh
    obtain ⟨l,hl,rfl⟩:=hx.HK
    rw [hi.int]
    refine ⟨rfl,_,.ptr hl,fun w=>?_⟩
    simp [Instr.indexAt,asIntOf,run_underlying hu,oi hs,zM,Nat.add_assoc,be,Instr.sureAddr]
   ·simp [be] at hh
  ·cases hh
 ·cases hh
theorem acd {σ:bG} {t:TypeId} {x x':Value} {f:Nat} {v:Value} {h h':KH} (hh:Bc P t x f h=.ok v h') (hx:VR σ x x'):h'=h/\Yl P σ v (Instr.field t x' f):=by
 unfold Bc at hh
 split at hh
 ·rename_i cs fs hu
  obtain ⟨fW,rfl,aX⟩:=hx.NS
  rw [wL] at hh
  split at hh
  ·rename_i f0 vV
   split at hh
   ·rename_i v0 qS
    cases hh
    obtain ⟨v',h1,h2⟩:=Ns qS aX.DO
    simp only [Array.getElem?_toList] at vV
    exact ⟨rfl,v',h2,fun w=>by simp [Instr.field,run_underlying hu,vV,asAgg,h1]⟩
   ·cases hh
  ·cases hh
 ·cases hh
theorem ace {σ:bG} {t:TypeId} {x x' i i':Value} {v:Value} {h h':KH} (hh:xY P t x i h=.ok v h') (hx:VR σ x x') (hi:VR σ i i'):h'=h/\Yl P σ v (Instr.index t x' i'):=by
 unfold xY at hh
 split at hh
 ·rename_i s k j hu
  rw [wL] at hh
  split at hh
  ·rename_i c hc
   cases hh
   rw [hx.string,hi.int]
   refine ⟨rfl,_,.same rfl,fun w=>?_⟩
   have be:j < s.size:=(List.getElem?_eq_some_iff.1 hc).1
   have:s[j]?=some c:=by
    rw [getElem?_pos s j be,<-(List.getElem?_eq_some_iff.1 hc).2]
    rfl
   simp [Instr.index,asIntOf,run_underlying hu,this]
  ·cases hh
 ·rename_i n e cs k j hu
  split at hh
  ·rename_i s hs
   rw [blt_eq] at hh
   by_cases be:j < n
   ·simp only [be,decide_true,cond_true] at hh
    split at hh
    ·rename_i v0 qS
     cases hh
     obtain ⟨fW,rfl,aX⟩:=hx.NS
     obtain ⟨v',h1,h2⟩:=Ns qS aX.DO
     rw [hi.int]
     exact ⟨rfl,v',h2,fun w=>by simp [Instr.index,asIntOf,run_underlying hu,be,oi hs,h1]⟩
    ·cases hh
   ·simp [be] at hh
  ·cases hh
 ·cases hh
end
end Go.Proofs.YtinjmfblebpnnaaGreat.Ab
namespace Go.Proofs.YtinjmfblebpnnaaGreat.Ab
open Go Classical
section
variable {P:Program}
def OV (σ:bG) (x x':Option Value):Prop:=(x=none/\x'=none)∨∃v v',x=some v/\x'=some v'/\VR σ v v'
def I0 (x:Option Value) (d n:Nat):Prop:=(x=none/\n=d)∨∃k,x=some (.int k (.ofNat n))
theorem xS {x:Option Value} {d:Nat} {k:Nat->KO} {v:Value} {h:KH} (hh:nJ x d k=.ok v h):∃n,k n=.ok v h/\I0 x d n:=by
 unfold nJ at hh
 split at hh
 ·exact ⟨_,hh,.inl ⟨rfl,rfl⟩⟩
 ·exact ⟨_,hh,.inr ⟨_,rfl⟩⟩
 ·cases hh
theorem OV.vX {σ:bG} {x x':Option Value} {d n:Nat} (h:OV σ x x') (hb:I0 x d n):I0 x' d n:=by
 rcases h with ⟨rfl,rfl⟩ | ⟨v,v',rfl,rfl,hv⟩
 ·exact hb
 ·rcases hb with ⟨h,_⟩ | ⟨k,h⟩
  ·cases h
  ·cases h;exact .inr ⟨k,by rw [hv.int]⟩
theorem Hl {ea:Bool} {len cap l r:Nat} {lo hi:Option Value} (yT:I0 lo 0 l) (B3:I0 hi len r) (h1:l<=r) (h2:r<=cap) (w:World):
  (Instr.sliceBounds ea len cap lo hi none).run P w=.ok (l,r,cap) w:=by
 rcases yT with ⟨rfl,rfl⟩ | ⟨k,rfl⟩ <;> rcases B3 with ⟨rfl,rfl⟩ | ⟨k',rfl⟩ <;>
  simp [Instr.sliceBounds,Instr.sliceBound,asIntOf,h1,h2]
theorem abW {ea:Bool} {len cap l r m:Nat} {lo:Option Value} {k k2:IntKind} (yT:I0 lo 0 l) (h1:l<=r) (h2:r<=m) (h3:m<=cap) (w:World):
  (Instr.sliceBounds ea len cap lo (some (.int k (.ofNat r))) (some (.int k2 (.ofNat m)))).run P w=.ok (l,r,m) w:=by
 rcases yT with ⟨rfl,rfl⟩ | ⟨k',rfl⟩ <;>
  simp [Instr.sliceBounds,Instr.sliceBound,asIntOf,h1,h2,h3]
theorem abP (s:ByteArray) (l r:Nat):(⟨((s.data.toList.drop l).take (r - l)).toArray⟩:ByteArray)=s.extract l r:=by
 apply ByteArray.ext
 apply Array.ext'
 simp [List.drop_take]
theorem Kr {c:Bool} {x:KO} {v:Value} {h:KH} (hh:(bif c then x else .no)=.ok v h):c=true/\x=.ok v h:=by
 cases c
 ·cases hh
 ·exact ⟨rfl,hh⟩
theorem acf {σ:bG} {t:TypeId} {x x':Value} {lo lo' hi eG mx Uu:Option Value} {v:Value} {h h':KH} (hh:l9 P t x lo hi mx h=.ok v h') (hx:VR σ x x')
  (yT:OV σ lo lo') (B3:OV σ hi eG) (LX:OV σ mx Uu):h'=h/\Yl P σ v (Instr.sliceAt t x' lo' eG Uu):=by
 have hm:∀{m m':Option Value},OV σ m m'->m=none->m'=none:=fun h e=>by
  rcases h with ⟨_,h⟩ | ⟨_,_,h,_⟩
  ·exact h
  ·rw [e] at h;cases h
 unfold l9 at hh
 split at hh
 ·rename_i s hu
  obtain ⟨l,hh,bl⟩:=xS hh
  obtain ⟨r,hh,br⟩:=xS hh
  obtain ⟨hc,hh⟩:=Kr hh
  cases hh
  rw [ble_eq,ble_eq,JZ,Bool.and_eq_true,decide_eq_true_eq,decide_eq_true_eq] at hc
  rw [JZ] at br
  rw [hx.string,hm LX rfl]
  refine ⟨rfl,_,.same rfl,fun w=>?_⟩
  rw [Hv,Hw,abP]
  simp [Instr.sliceAt,run_underlying hu,Instr.slice,Hl (yT.vX bl) (B3.vX br) hc.1 hc.2]
 ·rename_i e n c hu
  split at hh
  ·rename_i s hs
   obtain ⟨l,hh,bl⟩:=xS hh
   obtain ⟨r,hh,br⟩:=xS hh
   obtain ⟨hc,hh⟩:=Kr hh
   cases hh
   rw [ble_eq,ble_eq,beq_eq,Bool.and_eq_true,Bool.and_eq_true,decide_eq_true_eq,decide_eq_true_eq,decide_eq_true_eq] at hc
   obtain ⟨⟨h1,h2⟩,h3⟩:=hc
   rw [hx.Q3,hm LX rfl]
   refine ⟨rfl,.slice none (r - l) (c - l),.same rfl,fun w=>?_⟩
   simp [Instr.sliceAt,run_underlying hu,Instr.slice,Hl (yT.vX bl) (B3.vX br) h1 h2,oi hs]
  ·cases hh
 ·rename_i e b o n c hu
  split at hh
  ·rename_i s hs
   obtain ⟨l,hh,bl⟩:=xS hh
   obtain ⟨r,hh,br⟩:=xS hh
   obtain ⟨hc,hh⟩:=Kr hh
   rw [ble_eq,ble_eq,Bool.and_eq_true,decide_eq_true_eq,decide_eq_true_eq] at hc
   obtain ⟨h1,h2⟩:=hc
   obtain ⟨L,hL,rfl⟩:=hx.zL
   rw [hm LX rfl]
   cases h3:(Nat.blt l c||Nat.beq l 0)
   ·rw [h3,cond_false] at hh
    cases hh
    refine ⟨rfl,.slice (if c+L.room=l then some ⟨L.aU,L.base+o,none⟩ else some ⟨L.aU,L.base+(o+l * s),none⟩) (r - l) (c+L.room - l),by split <;> exact .yQ,fun w=>?_⟩
    have hb:=Hl (P:=P) (ea:=true) (yT.vX bl) (B3.vX br) h1 (Nat.le_trans h2 (Nat.le_add_right c L.room)) w
    by_cases h4:c+L.room=l
    ·rw [h4] at hb ⊢
     simp [Instr.sliceAt,run_underlying hu,Instr.slice,hb,oi hs]
    ·simp [Instr.sliceAt,run_underlying hu,Instr.slice,hb,oi hs,h4,zM,Nat.add_assoc]
   rw [h3,cond_true] at hh
   cases hh
   rw [blt_eq,beq_eq,Bool.or_eq_true,decide_eq_true_eq,decide_eq_true_eq] at h3
   refine ⟨rfl,.slice (some ⟨L.aU,L.base+(o+l * s),none⟩) (r - l) (c - l+L.room),.slice hL,fun w=>?_⟩
   have hc:c+L.room - l=c - l+L.room:=by omega
   by_cases h4:c+L.room=l
   ·have B4:l=0:=by omega
    subst B4
    have hb:=Hl (P:=P) (ea:=true) (yT.vX bl) (B3.vX br) h1 (Nat.le_trans h2 (Nat.le_add_right c L.room)) w
    have e1:c=0:=by omega
    have e2:L.room=0:=by omega
    simp only [e1,e2,Nat.add_zero] at hb ⊢
    simp [Instr.sliceAt,run_underlying hu,Instr.slice,hb,oi hs]
   ·simp [Instr.sliceAt,run_underlying hu,Instr.slice,Hl (yT.vX bl) (B3.vX br) h1 (Nat.le_trans h2 (Nat.le_add_right c L.room)),oi hs,h4,hc,zM,Nat.add_assoc]
  ·cases hh
 ·rename_i e b o sp n c hu
  split at hh
  ·rename_i s hs
   obtain ⟨l,hh,bl⟩:=xS hh
   obtain ⟨r,hh,br⟩:=xS hh
   obtain ⟨hc,hh⟩:=Kr hh
   cases hh
   rw [beq_eq,beq_eq,Bool.and_eq_true,decide_eq_true_eq,decide_eq_true_eq] at hc
   obtain ⟨rfl,rfl⟩:=hc
   obtain ⟨a',c',rfl⟩:∃a' c',x'=.slice (some a') n c':=by
    cases hx with
    | same h=>cases h
    | yQ=>exact ⟨_,_,rfl⟩
   rw [hm LX rfl]
   refine ⟨rfl,.slice (if c'=0 then some a' else some (a'.add (0 * s))) 0 c',by split <;> exact .yQ,fun w=>?_⟩
   have hb:=Hl (P:=P) (ea:=true) (yT.vX bl) (B3.vX br) (Nat.le_refl 0) (Nat.zero_le c') w
   by_cases h4:c'=0
   ·subst h4;simp [Instr.sliceAt,run_underlying hu,Instr.slice,hb,oi hs]
   ·simp [Instr.sliceAt,run_underlying hu,Instr.slice,hb,oi hs,h4]
  ·cases hh
 ·rename_i e b o n c m hu
  split at hh
  ·rename_i s hs
   obtain ⟨l,hh,bl⟩:=xS hh
   obtain ⟨r,hh,br⟩:=xS hh
   obtain ⟨m',hh,bm⟩:=xS hh
   obtain ⟨hc,hh⟩:=Kr hh
   cases hh
   rw [ble_eq,ble_eq,ble_eq,Bool.and_eq_true,Bool.and_eq_true,decide_eq_true_eq,decide_eq_true_eq,decide_eq_true_eq] at hc
   obtain ⟨⟨h1,h2⟩,h3⟩:=hc
   obtain ⟨L,hL,rfl⟩:=hx.zL
   obtain ⟨k2,Uv⟩:∃k2,m=.int k2 (.ofNat m'):=by
    rcases bm with ⟨h,_⟩ | ⟨k,h⟩
    ·cases h
    ·cases h;exact ⟨k,rfl⟩
   obtain ⟨k3,dQ⟩:∃k3,hi=some (.int k3 (.ofNat r)):=by
    rcases br with ⟨h,_⟩ | ⟨k,h⟩
    ·cases h
    ·cases hi with
     | none=>cases h
     | some v=>cases h;exact ⟨k,rfl⟩
   subst Uv dQ
   have akC:Uu=some (.int k2 (.ofNat m')):=by
    rcases LX with ⟨h,_⟩ | ⟨v,v',h,h',hv⟩
    ·cases h
    ·cases h;rw [h',hv.int]
   have akD:eG=some (.int k3 (.ofNat r)):=by
    rcases B3 with ⟨h,_⟩ | ⟨v,v',h,h',hv⟩
    ·cases h
    ·cases h;rw [h',hv.int]
   subst akC akD
   refine ⟨rfl,.slice (if m'=l then some ⟨L.aU,L.base+o,none⟩ else some ⟨L.aU,L.base+(o+l * s),none⟩) (r - l) (m' - l),by split <;> exact .yQ,fun w=>?_⟩
   have hb:=abW (P:=P) (ea:=true) (len:=n) (k:=k3) (k2:=k2) (yT.vX bl) h1 h2 (Nat.le_trans h3 (Nat.le_add_right c L.room)) w
   simp only [Instr.sliceAt,run_underlying hu,Sem.run_bind,Result.andThen_ok,Instr.slice,hb,oi hs]
   by_cases h4:m'=l
   ·simp [h4]
   ·simp [h4,zM,Nat.add_assoc]
  ·cases hh
 ·cases hh
theorem adu {σ:bG} {t ty:TypeId} {x x':Value} {v:Value} {h h':KH} (hh:w4 P t x h=.ok v h') (hx:VR σ x x') (ts:Array TypeId) (ht:ts[0]?=some t):
  h'=h/\Yl P σ v (Builtin.len_ ts ty #[x']):=by
 unfold w4 at hh
 split at hh
 ·rename_i s hu
  cases hh
  rw [hx.string,JZ]
  exact ⟨rfl,_,.same rfl,fun w=>by simp [Builtin.len_,ht,run_underlying hu,goInt]⟩
 ·rename_i e a n c hu
  cases hh
  obtain ⟨a',c',rfl,_⟩:=hx.tZ
  exact ⟨rfl,_,.same rfl,fun w=>by simp [Builtin.len_,ht,run_underlying hu,goInt]⟩
 ·cases hh
theorem XZ {σ:bG} {mx:Bool} {x x' y y':Value} {v:Value} {h h':KH} (hh:yi mx x y h=.ok v h') (hx:VR σ x x') (hy:VR σ y y') (ts:Array TypeId) (ty:TypeId):
  h'=h/\Yl P σ v (if mx then Builtin.max_ ts ty #[x',y'] else Builtin.min_ ts ty #[x',y']):=by
 unfold yi at hh
 split at hh
 ·rw [hx.int,hy.int]
  cases mx
  ·simp only [cond_false,KO.ok.injEq] at hh
   obtain ⟨rfl,rfl⟩:=hh
   refine ⟨rfl,_,.same rfl,fun w=>?_⟩
   simp [Builtin.min_,Builtin.min2,xZ,cond_eq_ite]
  ·simp only [cond_true,KO.ok.injEq] at hh
   obtain ⟨rfl,rfl⟩:=hh
   refine ⟨rfl,_,.same rfl,fun w=>?_⟩
   simp [Builtin.max_,Builtin.max2,xZ,cond_eq_ite]
 ·cases hh
theorem adw {l:List Value} (h:Oi l=true) (σ:bG):VL σ l l:=by
 induction l with
 | nil=>exact .nil σ
 | cons x l ih=>
  simp only [Oi,List.all_cons,Bool.and_eq_true] at h
  exact .cons (.same h.1) (ih h.2)
theorem Ew {t:TypeId} {z:List Value} (h:gf P t=some z):∃i zv,P.info? t=some i/\i.zero=some zv/\z=zv.cells.toList/\(∀w,(zeroValue t).run P w=.ok zv w)/\∀σ,VL σ z z:=by
 unfold gf at h
 split at h
 ·rename_i i hi
  split at h
  ·rename_i zv hz
   cases hf:Oi zv.cells.toList
   ·simp [hf] at h
   ·simp only [hf,cond_true,Option.some.injEq] at h
    subst h
    exact ⟨i,zv,hi,hz,rfl,fun w=>by simp [zeroValue,typeInfo,hi,hz],adw hf⟩
  ·cases h
 ·cases h
theorem VL.ae3 {σ:bG} {a a' b b':List Value} (h:VL σ a a') (h':VL σ b b') (o:Nat):VL σ (a.take o++(b++a.drop (o+b.length))) (a'.take o++(b'++a'.drop (o+b'.length))):=by
 rw [<-h'.1]
 exact (h.take o).append (h'.append (h.drop _))
theorem acM (vs:List Value) (cs:Array Value) (off:Nat) (h:off+vs.length<=cs.size):
  (vs.toArray.zipIdx.foldl (fun cs (p:Value × Nat)=>cs.setIfInBounds (off+p.2) p.1) cs).toList=cs.toList.take off++(vs++cs.toList.drop (off+vs.length)):=by
 have key:∀(vs:List Value) (k:Nat) (cs:Array Value),off+k+vs.length<=cs.size->
   ((vs.zipIdx k).foldl (fun cs (p:Value × Nat)=>cs.setIfInBounds (off+p.2) p.1) cs).toList=cs.toList.take (off+k)++(vs++cs.toList.drop (off+k+vs.length)):=by
  intro vs
  induction vs with
  | nil=>intro k cs _;simp
  | cons v vs ih=>
   intro k cs hl
   simp only [List.length_cons] at hl
   simp only [List.zipIdx_cons,List.foldl_cons]
   rw [ih (k+1) (cs.setIfInBounds (off+k) v) (by simp;omega)]
   simp only [Array.toList_setIfInBounds]
   apply List.ext_getElem?
   intro j
   simp only [List.getElem?_append,List.getElem?_take,List.getElem?_drop,List.getElem?_set,List.length_take,List.length_set,Array.length_toList,List.length_cons]
   have e1:min (off+(k+1)) cs.size=off+k+1:=by omega
   have e2:min (off+k) cs.size=off+k:=by omega
   rw [e1,e2]
   by_cases h1:j < off+k
   ·have lU:j < off+k+1:=by omega
    have dv:¬(off+k=j):=by omega
    have akE:j < off+(k+1):=by omega
    simp [h1,lU,dv,akE]
   ·by_cases h2:j=off+k
    ·subst h2
     have h3:off+k < cs.size:=by omega
     have h4:off+k < off+(k+1):=by omega
     simp [h3,h4]
    ·have h3:¬j < off+k+1:=by omega
     simp only [h1,h3,if_false]
     obtain ⟨m,rfl⟩:∃m,j=off+k+1+m:=⟨j - (off+k+1),by omega⟩
     have e3:off+k+1+m - (off+k)=m+1:=by omega
     have e4:off+k+1+m - (off+k+1)=m:=by omega
     rw [e3,e4,List.getElem?_cons_succ]
     by_cases hm:m < vs.length
     ·have:m+1 < vs.length+1:=by omega
      simp [hm]
     ·have e5:off+(k+1)+vs.length+(m - vs.length)=off+k+1+m:=by omega
      have e6:off+k+(vs.length+1)+(m+1 - (vs.length+1))=off+k+1+m:=by omega
      have:¬(off+k=off+k+1+m):=by omega
      have e7:off+k+(vs.length+1)+(m - vs.length)=off+k+1+m:=by omega
      simp [hm,e5,e6,this,e7]
 have:=key vs 0 cs (by omega)
 simpa [Array.foldl_toList] using this
theorem VR.cells {σ:bG} {v v':Value} (h:VR σ v v'):VL σ v.cells.toList v'.cells.toList:=by
 cases h with
 | agg h1 h2=>exact (sV.DO ⟨h1,h2⟩)
 | same hf=>
  cases v <;> first | (cases hf;done) | exact .cons (.same hf) (.nil σ)
 | ptr h=>exact .cons (.ptr h) (.nil σ)
 | slice h=>exact .cons (.slice h) (.nil σ)
 | map h=>exact .cons (.map h) (.nil σ)
 | yQ=>exact .cons .yQ (.nil σ)
 | func h1 h2 h3 h4=>exact .cons (.func h1 h2 h3 h4) (.nil σ)
 | tuple h1 h2=>exact .cons (.tuple h1 h2) (.nil σ)
inductive PL (σ:bG):List (Nat × Value)->List (Nat × Value)->Prop
 | nil:PL σ [] []
 | cons {i:Nat} {v v':Value} {l l':List (Nat × Value)}:VR σ v v'->PL σ l l'->PL σ ((i,v)::l) ((i,v')::l')
theorem QV (cs:List Value) (o:Nat) (vs:List Value):HI cs o vs=cs.take o++(vs++cs.drop (o+vs.length)):=by
 unfold HI
 rw [Hw,Hv,xU]
theorem Q5 {σ:bG} {place:Nat->Option (Nat × Nat)} {ps I1:List (Nat × Value)} (hp:PL σ ps I1):
  ∀{cs:List Value} {fW:Array Value} {out:List Value},Bi place ps cs=some out->VL σ cs fW.toList->∃vw,Instr.fill place fW I1=some vw/\VL σ out vw.toList:=by
 induction hp with
 | nil=>intro cs fW out h hv;cases h;exact ⟨fW,rfl,hv⟩
 | @cons i v v' l l' s0 _ ih=>
  intro cs fW out h hv
  have h2:(match place i with
   | some (off,size)=>bif Nat.beq (j4 v.cells.toList) size&&Nat.ble (off+size) (j4 cs) then Bi place l (HI cs off v.cells.toList) else none
   | none=>none)=some out:=h
  clear h
  cases j6:place i with
  | none=>rw [j6] at h2;cases h2
  | some os=>
   obtain ⟨off,size⟩:=os
   rw [j6] at h2
   simp only [xU,beq_eq,ble_eq] at h2
   have hvc:=s0.cells
   by_cases h1:v.cells.toList.length=size <;> by_cases h3:off+size<=cs.length <;> simp only [h1,h3,decide_true,decide_false,Bool.and_self,Bool.and_false,Bool.false_and,cond_true,cond_false] at h2 <;> try cases h2
   rw [QV] at h2
   have dd:v'.cells.size=size:=by have:=hvc.1;simp at this h1;omega
   have lX:off+v'.cells.toList.length<=fW.size:=by have:=hv.1;simp at this;simp [dd];omega
   have hf:=acM v'.cells.toList fW off lX
   have pU:=hv.ae3 hvc off
   rw [<-hf] at pU
   obtain ⟨vw,ho,Pw⟩:=ih h2 pU
   refine ⟨vw,?_,Pw⟩
   have aX:¬(fW.size < off+v'.cells.size):=by simp at lX;omega
   simp only [Instr.fill,j6]
   rw [if_neg (by simp [dd];rw [dd] at aX;omega)]
   simpa using ho
theorem abX {fs:List Field} {pl:List (Nat × Nat)} (h:Ke P fs=some pl) (w:World):
  (fs.mapM fun f=>Prod.mk f.offset <$> sizeOf f.type).run P w=.ok pl w:=by
 induction fs generalizing pl with
 | nil=>cases h;simp
 | cons f fs ih=>
  have h2:(match du P f.type,Ke P fs with
   | some n,some l=>some ((f.offset,n)::l)
   | _,_=>none)=some pl:=h
  clear h
  split at h2
  ·rename_i n l hn hl
   cases h2
   simp [List.mapM_cons,oi hn,ih hl]
  ·cases h2
theorem acg {σ:bG} {t:TypeId} {ps:List (Nat × Value)} {I1:Array (Nat × Value)} {v:Value} {h h':KH} (hh:fQ P t ps h=.ok v h') (hp:PL σ ps I1.toList):
  h'=h/\Yl P σ v (Instr.build t I1):=by
 unfold fQ at hh
 split at hh
 ·rename_i z fs hz hu
  obtain ⟨i,zv,h1,h2,rfl,h3,h4⟩:=Ew hz
  split at hh
  ·rename_i pl j6
   split at hh
   ·rename_i cs aX
    cases hh
    obtain ⟨vw,ho,hv⟩:=Q5 hp aX (h4 σ)
    refine ⟨rfl,.agg vw,?_,fun w=>?_⟩
    ·have:=hv.xp
     simp only [Array.toArray_toList] at this
     exact .agg this.1 this.2
    ·have hm:(fs.mapM fun f=>Prod.mk f.offset <$> sizeOf f.type).run P w=.ok pl.toArray w:=by
      rw [Array.mapM_eq_mapM_toList,Sem.run_map,abX j6];rfl
     have hpe:(fun i=>pK pl i)=fun x=>pl[x]?:=by funext i;rw [wL]
     rw [hpe] at ho
     simp [Instr.build,h3,run_underlying hu,hm,ho]
   ·cases hh
  ·cases hh
 ·rename_i z n e hz hu
  obtain ⟨i,zv,h1,h2,rfl,h3,h4⟩:=Ew hz
  split at hh
  ·rename_i s hs
   split at hh
   ·rename_i cs aX
    cases hh
    obtain ⟨vw,ho,hv⟩:=Q5 hp aX (h4 σ)
    refine ⟨rfl,.agg vw,?_,fun w=>?_⟩
    ·have:=hv.xp
     simp only [Array.toArray_toList] at this
     exact .agg this.1 this.2
    ·simp [Instr.build,h3,run_underlying hu,oi hs,ho]
   ·cases hh
  ·cases hh
 ·cases hh
end
end Go.Proofs.YtinjmfblebpnnaaGreat.Ab
namespace Go.Proofs.YtinjmfblebpnnaaGreat.Ab
open Go Classical
namespace Tr
variable {α:Type}
theorem RW (t:Tr α) {β:Type} (k:Tr α->β):t.now k=k t:=by cases t <;> rfl
end Tr
section
variable {P:Program}
theorem J3 {w:World} {g base o n:Nat} {cs:Array Value} {e:TypeId} {fr:Nat × Nat} (hg:w.heap[g]?=some (.cells cs e fr)) (hs:base+o+n<=cs.size):
  (loadCells ⟨g,base+o,none⟩ n).run P w=.ok ((List.range n).map fun j=>cs.getD (base+(o+j)) undef).toArray w:=by
 refine run_loadCells w ⟨g,base+o,none⟩ n (fun j=>cs.getD (base+(o+j)) undef) fun j hj=>?_
 have be:base+(o+j) < cs.size:=by omega
 rw [zM]
 simp [World.cell?,hg,Nat.add_assoc,Array.getD,be]
def K2 (x:Value):Nat->Prop:=fun b=>match x with
 | .pointer (some a)=>b=a.block
 | _=>False
end
end Go.Proofs.YtinjmfblebpnnaaGreat.Ab
namespace Go.Proofs.YtinjmfblebpnnaaGreat.Ab
open Go Classical
section
variable {P:Program}
theorem QW (v:Value) (l:List Value):kh (v::l)=Bool.rec (motive:=fun _=>Bool) false (kh l) (Ad v):=rfl
theorem VR.one {σ:bG} {v v':Value} (h:VR σ v v') (ho:Ad v=true):v'.oneCell'=true:=by
 cases h with
 | same hf=>cases v <;> first | rfl | cases hf
 | ptr=>rfl
 | slice=>rfl
 | map=>rfl
 | yQ=>rfl
 | func=>rfl
 | agg=>cases ho
 | tuple=>cases ho
theorem VL.SV {σ:bG}:∀{l l':List Value},VL σ l l'->kh l=true->∀v∈l',v.oneCell'=true
 | [],l',h,_=>by rw [h.of_nil];simp
 | x::l,l',h,ho=>by
  obtain ⟨x',a',rfl,hx,ha⟩:=h.of_cons
  rw [QW] at ho
  cases h1:Ad x
  ·rw [h1] at ho;cases ho
  ·rw [h1] at ho
   intro v hv
   rcases List.mem_cons.1 hv with rfl | hv
   ·exact hx.one h1
   ·exact VL.SV ha ho v hv
theorem QU (cs vs:List Value) (p q:Nat) (h:p+vs.length<=cs.length):
  (cs.take p++vs++cs.drop (p+vs.length)).getD q undef=if p<=q/\q < p+vs.length then vs.getD (q - p) undef else cs.getD q undef:=by
 have e1:min p cs.length=p:=by omega
 simp only [List.getD_eq_getElem?_getD,List.getElem?_append,List.getElem?_take,List.getElem?_drop,List.length_append,List.length_take,e1]
 by_cases h1:q < p
 ·have h2:q < p+vs.length:=by omega
  simp [h1,h2]
  intro hx;omega
 ·by_cases h2:q < p+vs.length
  ·have h3:p<=q/\q < p+vs.length:=by omega
   simp [h1,h2,h3]
  ·have h3:¬(p<=q/\q < p+vs.length):=by omega
   have e2:p+vs.length+(q - (p+vs.length))=q:=by omega
   simp [h1,h2,h3,e2]
theorem XD {σ:bG} {w w1:World} {F:Nat->Prop} {H H':ad} {B:cw} {cs:Array Value} {room:Nat} (Uw:H.wf) (hr:Rel P σ F H.get w) (dU:H'.next=H.next+1)
  (Il:H'.get H.next=some B) (KF:∀x B2,x≠H.next->H'.get x=some B2->H.get x=some B2) (bj:qB σ H H') (fM:cs.size=B.cells.length+room * P.cellsOf B.elem)
  (hv:∀i,i < B.cells.length->VR σ (B.cells.getD i undef) (cs.getD i undef)) (KG:B.hV=false->room=0) (eV:w1.heap=w.heap.push (.cells cs B.elem (0,0))) (ET:w1.os=w.os/\w1.tape=w.tape/\w1.output=w.output:=by exact ⟨rfl,rfl,rfl⟩):
  jo P F σ H w (fun x=>if x=H.next then some ⟨w.heap.size,0,room,false,false⟩ else σ x) H' w1:=by
 have vJ:∀b l,σ b=some l->(if b=H.next then some (⟨w.heap.size,0,room,false,false⟩:Loc) else σ b)=some l:=fun b l hb=>by
  by_cases hx:b=H.next
  ·subst hx;rw [bj H.next ⟨Nat.le_refl _,by omega⟩] at hb;cases hb
  ·rw [if_neg hx];exact hb
 have hold:∀k,k < w.heap.size->w1.heap[k]?=w.heap[k]?:=fun k hk=>by rw [eV,Array.getElem?_push_lt hk,Array.getElem?_eq_getElem hk]
 have hnw:w1.heap[w.heap.size]?=some (.cells cs B.elem (0,0)):=by rw [eV];simp
 have mK:∀x,fresh H H' x↔x=H.next:=fun x=>⟨fun h=>by have:=h.1;have:=h.2;omega,fun h=>⟨by omega,by omega⟩⟩
 have vh:∀x,x≠H.next->(H'.get x).isSome=true->∃B2,H.get x=some B2:=fun x hx hi=>by
  obtain ⟨B2,hB⟩:=Option.isSome_iff_exists.1 hi
  exact ⟨B2,KF x B2 hx hB⟩
 refine ⟨⟨fun b l B2 hb hs hg=>?_,fun b b' l l' hb dY hs dd hi eG ho gH he=>?_,fun b b' l l' hb hs dd hi ho gH=>?_,fun b l hs ho=>?_⟩,fun b hb=>if_neg (fun h=>hb ((mK b).2 h)),by rw [eV];simp,fun k hk _=>hold k hk,fun k hk ⟨b,l,hb,hs,hi,ho,he⟩=>?_,fun b l hb hs=>?_,ET⟩
 ·by_cases hx:b=H.next
  ·subst hx
   rw [Il] at hg
   simp only [if_true] at hs
   cases hg;cases hs
   exact BR.mk' ⟨cs,hnw,by simpa using fM,fun i hi=>by simpa using (hv i hi).mono vJ⟩ KG (fun _=>rfl) rfl
  ·simp only [if_neg hx] at hs
   have hF:=hb.resolve_right (fun h=>hx ((mK b).1 h))
   have cY:=hr.aU b l B2 hF hs (KF b B2 hx hg)
   exact cY.move vJ (hold _ cY.lt)
 ·have lt:∀b l,F b->σ b=some l->(∃B2,H.get b=some B2)->l.aU < w.heap.size:=fun b l hF hs ⟨B2,hB⟩=>(hr.aU b l B2 hF hs hB).lt
  by_cases hx:b=H.next <;> by_cases dZ:b'=H.next
  ·rw [hx,dZ]
  ·simp only [if_neg dZ] at dd
   have Ux:=dY.resolve_right (fun h=>dZ ((mK b').1 h))
   have:=lt b' l' Ux dd (vh b' dZ eG)
   simp only [if_pos hx] at hs
   cases hs
   simp only at he
   omega
  ·simp only [if_neg hx] at hs
   have hF:=hb.resolve_right (fun h=>hx ((mK b).1 h))
   have:=lt b l hF hs (vh b hx hi)
   simp only [if_pos dZ] at dd
   cases dd
   simp only at he
   omega
  ·obtain ⟨B1,pW⟩:=vh b hx hi
   obtain ⟨B2,pX⟩:=vh b' dZ eG
   simp only [if_neg hx] at hs
   simp only [if_neg dZ] at dd
   exact hr.inj b b' l l' (hb.resolve_right (fun h=>hx ((mK b).1 h))) (dY.resolve_right (fun h=>dZ ((mK b').1 h))) hs dd (by rw [pW];rfl) (by rw [pX];rfl) ho gH he
 ·have dZ:b'≠H.next:=fun dZ=>by
   simp only [if_pos dZ] at dd
   cases dd;cases gH
  simp only [if_neg dZ] at dd
  by_cases hx:b=H.next
  ·simp only [if_pos hx] at hs
   cases hs
   simp only
   exact fun e=>Nat.lt_irrefl _ (e▸hr.aH b' l' dd gH)
  ·obtain ⟨B1,pW⟩:=vh b hx hi
   simp only [if_neg hx] at hs
   exact hr.sep b b' l l' (hb.resolve_right (fun h=>hx ((mK b).1 h))) hs dd (by rw [pW];rfl) ho gH
 ·have hx:b≠H.next:=fun hx=>by
   simp only [if_pos hx] at hs
   cases hs;cases ho
  simp only [if_neg hx] at hs
  have:=hr.aH b l hs ho
  rw [eV];simp;omega
 ·by_cases hx:b=H.next
  ·simp only [if_pos hx] at hs
   cases hs
   simp only at he
   omega
  ·obtain ⟨B1,pW⟩:=vh b hx hi
   simp only [if_neg hx] at hs
   exact ⟨b,l,hb.resolve_right (fun h=>hx ((mK b).1 h)),hs,by rw [pW];rfl,ho,he⟩
 ·have:=(mK b).1 hb
  simp only [if_pos this] at hs
  cases hs;rfl
theorem Rf {σ:bG} {w w1:World} {F:Nat->Prop} {H H':ad} {B:cw} {cs:Array Value} {room:Nat} (Uw:H.wf) (hr:Rel P σ F H.get w) (dU:H'.next=H.next+1)
  (Fg:∀x,H'.get x=if x=H.next then some B else H.get x) (bj:qB σ H H') (fM:cs.size=B.cells.length+room * P.cellsOf B.elem)
  (hv:∀i,i < B.cells.length->VR σ (B.cells.getD i undef) (cs.getD i undef)) (KG:B.hV=false->room=0) (eV:w1.heap=w.heap.push (.cells cs B.elem (0,0))) (ET:w1.os=w.os/\w1.tape=w.tape/\w1.output=w.output:=by exact ⟨rfl,rfl,rfl⟩):
  jo P F σ H w (fun x=>if x=H.next then some ⟨w.heap.size,0,room,false,false⟩ else σ x) H' w1:=
 XD Uw hr dU (by rw [Fg,if_pos rfl]) (fun x B2 hx hg=>by rw [Fg,if_neg hx] at hg;exact hg) bj fM hv KG eV ET
end
end Go.Proofs.YtinjmfblebpnnaaGreat.Ab
namespace Go.Proofs.YtinjmfblebpnnaaGreat.Ab
open Go Classical
section
variable {P:Program}
theorem Rg {t t2 ty e e2:TypeId} {i:TypeInfo} (hu:P.underlying t=some (.slice e)) (rW:P.underlying t2=some (.slice e2)) (hi:P.info? e=some i) {base xb:Option Addr} {sl sc n xc:Nat}
  {new:Array Value} {w:World} (ix:(Builtin.firstCells i.size n (.slice xb n xc)).run P w=.ok new w) (hle:sl+n<=sc):
  (Builtin.append_ #[t,t2] ty #[.slice base sl sc,.slice xb n xc]).run P w=match base with
   | some a=>((storeCells (a.add (sl * i.size)) new.toList).run P w).andThen fun _ w=>.ok (.slice base (sl+n) sc) w
   | none=>.ok (.slice base (sl+n) sc) w:=by
 cases base <;> simp [Builtin.append_,run_underlying hu,run_underlying rW,sizeOf,typeInfo,hi,Builtin.lenOf,hle,ix]
theorem Rh {t t2 ty e e2:TypeId} {i:TypeInfo} {z:Value} (hu:P.underlying t=some (.slice e)) (rW:P.underlying t2=some (.slice e2)) (hi:P.info? e=some i) (hz:i.zero=some z) {base xb:Option Addr} {sl sc n xc:Nat}
  {aH new:Array Value} {w:World} (hold:(Builtin.firstCells i.size sl (.slice base sl sc)).run P w.drew=.ok aH w.drew)
  (ix:(Builtin.firstCells i.size n (.slice xb n xc)).run P w.drew=.ok new w.drew) (be:sc < sl+n)
  (vY:sl+n < 9223372036854775808) (hb:(sl+n) * i.bytes < 140737488355328):
  (Builtin.append_ #[t,t2] ty #[.slice base sl sc,.slice xb n xc]).run P w=
   .ok (.slice (some ⟨w.heap.size,0,none⟩) (sl+n) (grownCap w (sl+n) sc e)) (w.drew.alloc (.cells (aH++new++Builtin.zeroCells z.cells (grownCap w (sl+n) sc e - (sl+n))) e)):=by
 have hn:¬(sl+n<=sc):=by omega
 have akF:¬(9223372036854775807 < ((sl:Int)+(n:Int))):=by omega
 have hf:=growslice_fits (bytes:=i.bytes) be (by omega)
 have akG:¬(281474976710656 < Builtin.nextslicecap (sl+n) sc * i.bytes):=by omega
 simp [Builtin.append_,run_underlying hu,run_underlying rW,sizeOf,typeInfo,zeroValue,hi,hz,Builtin.lenOf,hn,akF,akG,Question.forced,hold,ix,newRow,grownCap]
theorem grownCap_le (w:World) (aav aH:Nat) (e:TypeId):aav<=grownCap w aav aH e:=by
 unfold grownCap Question.cut
 exact Nat.le_add_right _ _
theorem QS (z:Array Value) (n:Nat):(Builtin.zeroCells z n).size=n * z.size:=by simp [Builtin.zeroCells]
theorem X0 (l:List Value) (z:Array Value) (j:Nat) (hj:j < l.length):(l.toArray++z).getD j undef=l.getD j undef:=by
 simp [Array.getD_eq_getD_getElem?,List.getD_eq_getElem?_getD,Array.getElem?_append,hj]
end
end Go.Proofs.YtinjmfblebpnnaaGreat.Ab
namespace Go.Proofs.YtinjmfblebpnnaaGreat.Ab
open Go Classical
section
variable {P:Program}
theorem x0 {F:Nat->Prop} {o:Oper} {t:Act} {H H':ad} {v:Value} (h:∀(σ:bG) (w:World) (a:Act),Rel P σ F H.get w->qB σ H H'->(∀x∈o.op.operands,VR σ (t.eval x) (a.eval x))->
  ∃σ' v' w',jo P F σ H w σ' H' w'/\VR σ' v v'/\((execOp a.eval o).run P w=.ok (.value v') w'∨((execOp a.eval o).run P w=.ok .skip w'/\v'=undef))):sW P F o t H v H':=by
 intro σ w a K Q hr hf hx hk
 obtain ⟨σ',v',w',hp,hv,eu⟩:=h σ w a hr hf hx
 unfold Oper.wp
 rcases eu with eu | ⟨eu,rfl⟩
 ·rw [eu];exact hk σ' v' w' hp hv
 ·rw [eu];exact hk σ' undef w' hp hv
theorem Yl.exec {σ:bG} {v:Value} {s:Sem Value} {n:Sem Next} (hy:Yl P σ v s) (he:n=(do pure (.value (<-s)))):∃v',VR σ v v'/\∀w,n.run P w=.ok (.value v') w:=by
 obtain ⟨v',h1,h2⟩:=hy
 exact ⟨v',h1,fun w=>by rw [he];simp [h2]⟩
theorem abY (x:Value) (l:List Value):Kq (x::l)=match x,Kq l with
  | .int .u8 n,some l=>some (n::l)
  | _,_=>none:=rfl
theorem Xj {σ:bG}:∀{l:List Value} {ns:List Int} {l':List Value},Kq l=some ns->VL σ l l'->l'=ns.map (Value.int .u8)
 | [],ns,l',h,hv=>by cases h;exact hv.of_nil
 | x::l,ns,l',h,hv=>by
  obtain ⟨x',a',rfl,hx,ha⟩:=hv.of_cons
  have h2:=h
  rw [abY] at h2
  clear h hv
  split at h2
  ·rename_i n l0 B4
   cases h2
   rw [hx.int,Xj B4 ha];rfl
  ·cases h2
theorem Xq:∀(ns:List Int) (s:ByteArray),ns.foldl (fun r n=>r.push (UInt8.ofNat n.toNat)) s=⟨s.data++(List.rec (motive:=fun _=>List UInt8) [] (fun n _ r=>UInt8.ofNat n.toNat::r) ns:List UInt8).toArray⟩
 | [],s=>by
  apply ByteArray.ext
  simp
 | n::ns,s=>by
  rw [List.foldl_cons,Xq ns]
  apply ByteArray.ext
  apply Array.ext'
  simp [ByteArray.push]
end
end Go.Proofs.YtinjmfblebpnnaaGreat.Ab
namespace Go.Proofs.YtinjmfblebpnnaaGreat.Ab
open Go Classical
section
variable {P:Program}
theorem QX (z:List Value):∀k,(ff z k).length=k * z.length
 | 0=>by simp only [Nat.zero_mul];rfl
 | k+1=>by
  have:ff z (k+1)=z++ff z k:=rfl
  rw [this,List.length_append,QX z k,Nat.add_mul];omega
theorem QT (z:Array Value) (hz:0 < z.size):∀k,((Array.range (k * z.size)).map (fun i=>z[i % z.size]!)).toList=ff z.toList k:=by
 have key:∀k i,i < k * z.size->(ff z.toList k)[i]?=z[i % z.size]?:=by
  intro k
  induction k with
  | zero=>intro i hi;simp at hi
  | succ k ih=>
   intro i hi
   have e:ff z.toList (k+1)=z.toList++ff z.toList k:=rfl
   rw [e]
   by_cases h:i < z.size
   ·rw [List.getElem?_append_left (by simpa using h),Nat.mod_eq_of_lt h];simp
   ·rw [List.getElem?_append_right (by simpa using Nat.le_of_not_lt h)]
    have h2:i - z.toList.length < k * z.size:=by simp;rw [Nat.add_mul] at hi;omega
    rw [ih _ h2]
    congr 1
    simp only [Array.length_toList]
    conv=>rhs;rw [show i=i - z.size+z.size by omega,Nat.add_mod_right]
 intro k
 apply List.ext_getElem?
 intro i
 by_cases hi:i < k * z.size
 ·rw [key k i hi]
  have hm:i % z.size < z.size:=Nat.mod_lt _ hz
  simp [hi,hm]
 ·rw [List.getElem?_eq_none (by simpa using hi),List.getElem?_eq_none (by rw [QX];simpa using hi)]
theorem Hm (w:World) (e:TypeId) (cs:Array Value):(newRow e cs).run P w=.ok ⟨w.heap.size,0,none⟩ (w.alloc (.cells cs e)):=rfl
theorem Sr {σ:bG} {ρ ρ':Operand->Value}:∀{ps:List (Nat × Operand)},(∀p∈ps,VR σ (ρ p.2) (ρ' p.2))->PL σ (parts ρ ps) (ps.map fun (i,x)=>(i,ρ' x))
 | [],_=>.nil
 | p::ps,h=>.cons (h p (by simp)) (Sr fun q hq=>h q (by simp [hq]))
theorem Ks {σ:bG} {ρ ρ':Operand->Value}:∀{l:List Operand},(∀x∈l,VR σ (ρ x) (ρ' x))->VL σ (pS ρ l) (l.map ρ')
 | [],_=>.nil σ
 | x::l,h=>.cons (h x (by simp)) (Ks fun y hy=>h y (by simp [hy]))
theorem RX {σ:bG} {ρ ρ':Operand->Value} {x:Option Operand} (h:∀y∈x.toArray,VR σ (ρ y) (ρ' y)):OV σ (x.map ρ) (x.map ρ'):=by
 cases x with
 | none=>exact .inl ⟨rfl,rfl⟩
 | some y=>exact .inr ⟨_,_,rfl,rfl,h y (by simp)⟩
theorem ach {o:Oper} {t:Act} {H H':ad} {v:Value} (hw:H.wf) (h:sW P dT o t H v H'):sW P (fun x=>x < H.next) o t H v H':=by
 intro σ w a K Q hr hf hx hk
 have lt:∀b,(H.get b).isSome=true->b < H.next:=fun b hi=>by
  rcases Nat.lt_or_ge b H.next with h1 | h1
  ·exact h1
  ·rw [hw b h1] at hi;cases hi
 refine h σ w a K Q ⟨fun b l B _ hs hg=>hr.aU b l B (lt b (by rw [hg];rfl)) hs hg,fun b b' l l' _ _ hs dd hi eG=>hr.inj b b' l l' (lt b hi) (lt b' eG) hs dd hi eG,fun b b' l l' _ hs dd hi=>hr.sep b b' l l' (lt b hi) hs dd hi,hr.aH⟩ hf hx ?_
 intro σ' v' w' hp hv
 exact hk σ' v' w' ⟨hp.rel.sub fun _ _=>.inl trivial,hp.ext,hp.size,
  fun k fX hn=>hp.af k fX (fun ⟨b,l,_,hs,hi,he⟩=>hn ⟨b,l,lt b hi,hs,hi,he⟩),fun k fX ⟨b,l,_,hx⟩=>let ⟨b0,l0,_,hs,hi,he⟩:=hp.oZ k fX ⟨b,l,.inl trivial,hx⟩;⟨b0,l0,lt b0 hi,hs,hi,he⟩,hp.uF,hp.rest⟩ hv
end
end Go.Proofs.YtinjmfblebpnnaaGreat.Ab
namespace Go.Proofs.YtinjmfblebpnnaaGreat.Ab
open Go Classical
section
variable {P:Program}
structure TK (n:Nat) (t:Act) (tm:Tr Value):Prop where
 get:∀i,t.tmps.getD i undef=(tm.get i).getD undef
 size:t.tmps.size=n
 LQ:t.defers=[]
theorem Xh {n:Nat} {ops:Array Oper} (h:Kg n ops=true) {i:Nat} {o:Oper} (ho:ops[i]?=some o):
  o.op.operands.all tY=true/\∀x,o.dst=some x->x < n:=by
 unfold Kg at h
 rw [List.all_eq_true] at h
 have:=h o (by rw [Array.mem_toList_iff];exact Array.mem_of_getElem? ho)
 rw [Bool.and_eq_true] at this
 refine ⟨this.1,fun x hx=>?_⟩
 have h2:=this.2
 rw [hx] at h2
 simpa [blt_eq] using h2
def Px (a:Act):ResultVar->Sem Value
 | .tmp t=>pure (a.tmps.getD t undef)
 | .cell x ty=>do loadVar ty (<-asAddr (a.tmps.getD x undef))
end
end Go.Proofs.YtinjmfblebpnnaaGreat.Ab
namespace Go.Proofs.YtinjmfblebpnnaaGreat.Ab
open Go Classical
section
variable {P:Program}
def KO.x4:KO->Bool
 | .call _ _=>true
 | _=>false
theorem Kh (cs:List Value) (e:TypeId) (o:Bool) (k:Nat->Value) (h:KH):(Dm cs e o k h).x4=false:=by
 unfold Dm
 simp only [N3,Tr.RW,cond_eq_ite]
 split <;> rfl
theorem Q6 (b o:Nat) (vs:List Value) (v:Value) (h:KH):(Ko b o vs v h).x4=false:=by
 unfold Ko
 simp only [N3,Tr.RW,cond_eq_ite]
 (repeat' split) <;> rfl
theorem adx (e:TypeId) (size sl n b:Nat) (B:KB) (new:List Value) (h:KH):(So e size sl n b B new h).x4=false:=by
 unfold So
 simp only [N3,Tr.RW,cond_eq_ite]
 (repeat' split) <;> rfl
theorem ady (t:TypeId) (v:Value) (h:KH):(Sm P t v h).x4=false:=by
 unfold Sm
 simp only [cond_eq_ite]
 (repeat' split) <;> rfl
theorem acN (t:TypeId) (a v:Value) (h:KH):(RT P t a v h).x4=false:=by
 unfold RT
 simp only [cond_eq_ite]
 (repeat' split) <;> first | rfl | exact Q6 ..
theorem aci (t:TypeId) (s x:Value) (h:KH):(Rv P t s x h).x4=false:=by
 unfold Rv
 simp only [cond_eq_ite]
 (repeat' split) <;> first | rfl | exact Q6 .. | exact adx .. | exact Kh ..
theorem adz (t:TypeId) (d x:Value) (h:KH):(Sp P t d x h).x4=false:=by
 unfold Sp
 simp only [N3,cond_eq_ite]
 (repeat' split) <;> first | rfl | exact Q6 ..
theorem YG (t:TypeId) (x:Value) (h:KH):(w4 P t x h).x4=false:=by
 unfold w4
 (repeat' split) <;> rfl
theorem YH (m:Bool) (x y:Value) (h:KH):(yi m x y h).x4=false:=by
 unfold yi
 simp only [cond_eq_ite]
 (repeat' split) <;> rfl
theorem YI {ev:Operand->Value} {op:Op} {h:KH} {f:FuncId} {args:Array Value} (hh:LM P ev op h=.call f args):∃c fv,op=.call c/\c.callee=.value fv/\x9 P (ev fv) (pS ev c.args.toList).toArray=.call f args:=by
 have key:(LM P ev op h).x4=true:=by rw [hh];rfl
 cases op <;> simp only [LM] at hh key <;> try (cases key;done)
 case pick=>unfold C8 at key;(repeat' split at key) <;> cases key
 case alloc=>
  unfold Y2 at key
  split at key
  ·rw [Kh] at key;cases key
  ·cases key
 case box=>rw [Kh] at key;cases key
 case build=>unfold fQ at key;(repeat' split at key) <;> cases key
 case buildSlice=>
  unfold Xi at key
  simp only [cond_eq_ite] at key
  (repeat' split at key) <;> first | (cases key;done) | (rw [Kh] at key;cases key)
 case load=>rw [ady] at key;cases key
 case store=>rw [acN] at key;cases key
 case nilCheck=>unfold Dn at key;(repeat' split at key) <;> cases key
 case binOp=>unfold eC at key;(repeat' split at key) <;> cases key
 case unOp=>unfold DL at key;(repeat' split at key) <;> cases key
 case convert=>
  unfold Zv XB at key
  (repeat' split at key) <;> cases key
 case makeSlice=>
  unfold Xm at key
  simp only [cond_eq_ite] at key
  (repeat' split at key) <;> first | (cases key;done) | (rw [Kh] at key;cases key)
 case slice=>
  unfold l9 at key
  simp only [nJ,cond_eq_ite] at key
  (repeat' split at key) <;> cases key
 case fieldAddr=>
  unfold AW at key
  simp only [cond_eq_ite] at key
  (repeat' split at key) <;> cases key
 case field=>unfold Bc at key;(repeat' split at key) <;> cases key
 case indexAddr=>
  unfold AX at key
  simp only [cond_eq_ite] at key
  (repeat' split at key) <;> cases key
 case index=>
  unfold xY at key
  simp only [cond_eq_ite] at key
  (repeat' split at key) <;> cases key
 case extract=>unfold AZ at key;(repeat' split at key) <;> cases key
 case call c=>
  cases hc:c.callee with
  | value fv=>simp only [Ij,hc] at hh;exact ⟨c,fv,rfl,hc,hh⟩
  | invoke r m=>simp only [Ij,hc] at hh;cases hh
  | builtin b=>
   simp only [Ij,hc] at key
   unfold biK at key
   (repeat' split at key) <;> first | (cases key;done) | (rw [YG] at key;cases key) | (rw [aci] at key;cases key) | (rw [YH] at key;cases key) | (rw [adz] at key;cases key)
theorem aee {o:Oper} {t:Act} {h:KH} {f:FuncId} {args:Array Value} {H H':ad} {v:Value} (hh:LM P t.eval o.op h=.call f args) (vZ:Up P f args H v H'):sW P dT o t H v H':=by
 obtain ⟨c,fv,ho,hc,hk⟩:=YI hh
 unfold x9 at hk
 split at hk
 ·rename_i g first cap hfv
  split at hk
  ·rename_i fn hg
   simp only [cond_eq_ite] at hk
   split at hk
   ·cases hk
   ·rename_i mX
    cases hk
    intro σ w a K Q hr hf hx ah7
    have h1:=hx fv (by rw [ho];simp [Op.operands,Call.operands,hc])
    rw [hfv] at h1
    obtain ⟨Y8,aaw,he,hf1,eA⟩:=h1.XY
    have zX:=Ks (σ:=σ) (ρ:=t.eval) (ρ':=a.eval) (l:=c.args.toList) fun x fA=>hx x (by rw [ho];simp [Op.operands,Call.operands,hc];exact .inr (by simpa using fA))
    have iU:=((hf1.DO.append zX).append eA.DO).xp
    have pL:((Y8.toList++c.args.toList.map a.eval)++aaw.toList).toArray=Y8++c.args.map a.eval++aaw:=by apply Array.ext';simp
    rw [pL] at iU
    rw [Bool.or_eq_true,not_or] at mX
    have ah8:¬(fn.name= "runtime.NumGoroutine"):=by simpa using mX.1
    have ae4:(fn.name== "runtime.NumGoroutine")=false:=by simpa using ah8
    have ah9:fn.body.isNone=false:=Bool.eq_false_iff.2 mX.2
    unfold Oper.wp execOp
    rw [ho]
    simp only [resolve,hc,Deferred.ofValue,he,Sem.run_bind,Sem.run_pure,Result.andThen_ok,invoke,callFunc,run_program,hg,ae4,ah9,Bool.false_eq_true,if_false,Oper.upon]
    refine Calls.mono (vZ σ w _ hr hf iU) ?_
    rintro e w' ⟨σ',v',rfl,hp,hv⟩
    exact ah7 σ' v' w' hp hv
  ·cases hk
 ·cases hk
end
end Go.Proofs.YtinjmfblebpnnaaGreat.Ab
namespace Go.Proofs.YtinjmfblebpnnaaGreat.Ab
open Go Classical
section
variable {P:Program}
structure PT (P:Program) (ops:Array Oper) (m:Nat) where
 t:Nat->Act
 H:Nat->ad
 v:Nat->Value
 F:Nat->Nat->Prop
 wf:(H 0).wf
 step:∀(i:Nat) (o:Oper),i < m->ops[i]?=some o->um P ops (F i) o (t i) (H i) (v i) (H (i+1))
 put:∀(i:Nat) (o:Oper),i < m->ops[i]?=some o->t (i+1)=(t i).put o.dst (v i)
 mV:∀i,i < m->i5 (F i) (H i) (H (i+1))
 hV:∀(i:Nat) (o:Oper),i < m->ops[i]?=some o->o.op.operands.all tY=true
 lt:∀i b,i < m->F i b->b < (H i).next
end
theorem nr {α:Sort _} {a b:α} (h:a=b):a=b:=h
section
variable {P:Program} {ov:Ov} {rec:Nat->Code->Tr Value->KH->Lg->CR} {n:Nat} {tm:Tr Value} {h:KH} {g:Lg}
theorem aef {d:Option Nat} {op:Op} {ty:TypeId} {pos:String} {B6:Array Edge} {gd:Option (Nat × Bool)} {l:List Oper}:List.map (fun o:Oper=>o.dst) (⟨d,op,ty,pos,B6,gd⟩::l)=d::List.map (fun o:Oper=>o.dst) l:=nr rfl
theorem ae5:List.map (fun o:Oper=>o.dst) []=[]:=nr rfl
section ops
variable {ev:Operand->Value}
theorem acO {a b:Value}:C8 (.bool true) a b h=.ok a h:=nr rfl
theorem acj {a b:Value}:C8 (.bool false) a b h=.ok b h:=nr rfl
theorem ae6 {b:Bool}:DL .not (.bool b) h=.ok (.bool (!b)) h:=nr rfl
end ops
theorem aeg {a:Addr}:Dn (.pointer (some a)) h=.ok (.pointer (some a)) h:=nr rfl
end
def aeh:Op->Bool
 | .move _ | .assign _ | .pick _ _ _ | .load _ _ | .nilCheck _ | .binOp _ _ _ _ _ | .unOp _ _ _ | .fieldAddr _ _ _ | .field _ _ _ | .indexAddr _ _ _ | .index _ _ _ | .extract _ _=>true
 | _=>false
section
variable {P:Program} {ov:Ov} {rec:Nat->Code->Tr Value->KH->Lg->CR} {n:Nat} {tm:Tr Value} {h:KH} {g:Lg}
theorem aei {ev:Operand->Value}:pS ev []=[]:=nr rfl
theorem adA {ev:Operand->Value} {x:Operand} {l:List Operand}:pS ev (x::l)=ev x::pS ev l:=nr rfl
end
end Go.Proofs.YtinjmfblebpnnaaGreat.Ab
namespace Go.Proofs.YtinjmfblebpnnaaGreat.Ab
open Go Classical
def ad.ah (H:ad) (b:Nat) (B:cw):ad:=⟨H.next,fun x=>if x=b then some B else H.get x,H.fz⟩
def ad.push (H:ad) (B:cw):ad:=⟨H.next+1,fun x=>if x=H.next then some B else H.get x,fun x=>x==H.next||H.fz x⟩
def ad.grow (H:ad) (b:Nat) (B:cw):ad:=⟨H.next+1,fun x=>if x=H.next then some B else if x=b then none else H.get x,fun x=>x==H.next||H.fz x⟩
theorem ad.Da {H:ad} (hw:H.wf) {b:Nat} {B:cw} (h:H.get b=some B):b < H.next:=by
 rcases Nat.lt_or_ge b H.next with h1 | h1
 ·exact h1
 ·rw [hw b h1] at h;cases h
inductive AO where
 | no
 | ok (v:Value) (H:ad)
 | call (f:FuncId) (args:Array Value)
def cW (cs:List Value) (o:Nat) (vs:List Value):List Value:=cs.take o++(vs++cs.drop (o+vs.length))
section
variable (P:Program)
noncomputable def uo (ty:TypeId) (o:Nat) (B:Option cw):Option Value:=match B with
 | some B=>match hJ P ty with
  | some true=>match du P ty with
   | some n=>if o+n<=B.cells.length then some (.agg ((B.cells.drop o).take n).toArray) else none
   | none=>none
  | some false=>B.cells[o]?
  | none=>none
 | none=>none
noncomputable def sx (ty:TypeId) (v:Value) (H:ad):AO:=match v with
 | .pointer (some ⟨b,o,none⟩)=>match uo P ty o (H.get b) with
  | some v=>.ok v H
  | none=>.no
 | _=>.no
noncomputable def qx (b o:Nat) (vs:List Value) (v:Value) (H:ad):AO:=match H.get b with
 | some B=>if o+vs.length<=B.cells.length/\kh vs=true/\B.ro=false then .ok v (H.ah b ⟨cW B.cells o vs,B.elem,B.hV,false⟩) else .no
 | none=>.no
noncomputable def Be (ty:TypeId) (a x:Value) (H:ad):AO:=match a with
 | .pointer (some ⟨b,o,none⟩)=>match du P ty with
  | some n=>if x.cells.toList.length=n then qx b o x.cells.toList undef H else .no
  | none=>.no
 | _=>.no
noncomputable def rK (cs:List Value) (elem:TypeId) (hV:Bool) (k:Nat->Value) (H:ad):AO:=.ok (k H.next) (H.push ⟨cs,elem,hV,false⟩)
noncomputable def C0 (t:TypeId) (H:ad):AO:=match gf P t with
 | some z=>rK z t false ptrTo H
 | none=>.no
noncomputable def sw (t:TypeId) (len:Nat) (parts:List (Nat × Value)) (H:ad):AO:=match P.underlying t with
 | some (.slice e)=>match du P e,gf P e with
  | some n,some z=>if len * n<=16777216/\0 < n/\z.length=n then (match Bi (fun i=>some (i * n,n)) parts (ff z len) with
   | some cs=>rK cs e false (fun b=>.slice (some ⟨b,0,none⟩) len len) H
   | none=>.no) else .no
  | _,_=>.no
 | _=>.no
noncomputable def CU (t:TypeId) (l c:Value) (H:ad):AO:=match P.underlying t,l,c with
 | some (.slice e),.int .i64 (.ofNat l),.int .i64 (.ofNat c)=>match P.info? e,gf P e with
  | some i,some z=>if l<=c/\i.bytes * c<=281474976710656/\0 < i.size/\c < 9223372036854775808/\z.length=i.size then rK (ff z c) e false (fun b=>.slice (some ⟨b,0,none⟩) l c) H else .no
  | _,_=>.no
 | _,_,_=>.no
noncomputable def nK (size:Nat) (x:Value) (H:ad):Option (Nat × List Value):=match x with
 | .slice a n _=>if n=0 then some (0,[]) else (match a with
  | some ⟨b,o,none⟩=>(match H.get b with
   | some B=>if o+n * size<=B.cells.length then some (n,(B.cells.drop o).take (n * size)) else none
   | none=>none)
  | _=>none)
 | _=>none
noncomputable def iS (t:TypeId) (s x:Value) (H:ad):AO:=match P.underlying t with
 | some (.slice e)=>match P.info? e,gf P e with
  | some i,some z=>match nK i.size x H with
   | some (n,new)=>if z.length=i.size/\n * i.bytes < 140737488355328/\n < 9223372036854775808/\0 < i.bytes then (match s with
    | .slice none sl sc=>if sl=0/\sc=0 then
      (if n=0 then .ok s H else rK new e true (fun b=>.slice (some ⟨b,0,none⟩) n n) H) else .no
    | .slice (some ⟨b,o,none⟩) sl sc=>match H.get b with
     | some B=>if sl+n<=sc then
       (if o+sc * i.size<=B.cells.length then qx b (o+sl * i.size) new (.slice (some ⟨b,o,none⟩) (sl+n) sc) H else .no)
      else if (sl+n) * i.bytes < 140737488355328/\sl+n < 9223372036854775808/\o+sc * i.size=B.cells.length/\sl<=sc/\B.elem=e/\B.ro=false then
       (if B.hV=true then
         (if o=0/\kh new=true then .ok (.slice (some ⟨H.next,0,none⟩) (sl+n) (sl+n)) (H.grow b ⟨B.cells.take (sl * i.size)++new,e,true,false⟩) else .no)
        else rK ((B.cells.drop o).take (sl * i.size)++new) e true (fun b=>.slice (some ⟨b,0,none⟩) (sl+n) (sl+n)) H)
      else .no
     | none=>.no
    | _=>.no) else .no
   | none=>.no
  | _,_=>.no
 | _=>.no
noncomputable def Bk (t:TypeId) (d x:Value) (H:ad):AO:=match P.underlying t with
 | some (.slice e)=>match du P e,d,x with
  | some size,.slice (some ⟨b,o,none⟩) dn _,.slice (some ⟨b2,o2,none⟩) n _=>match H.get b2 with
   | some B=>if o2+min n dn * size<=B.cells.length then qx b o ((B.cells.drop o2).take (min n dn * size)) (.int .i64 (.ofNat (min n dn))) H else .no
   | none=>.no
  | some _,.slice a dn _,.slice a2 n _=>if dn=0∨n=0 then .ok (.int .i64 (.ofNat 0)) H else .no
  | _,_,_=>.no
 | _=>.no
noncomputable def Bf (t:TypeId) (x:Value) (H:ad):AO:=match P.underlying t,x with
 | some (.slice e),.slice a n _=>if n=0 then .ok (.tuple #[]) H else (match a with
  | some ⟨b,o,none⟩=>match gf P e with
   | some z=>if 0 < z.length then qx b o (ff z n) (.tuple #[]) H else .no
   | none=>.no
  | _=>.no)
 | _,_=>.no
noncomputable def aax (ns:List Int):List UInt8:=List.rec (motive:=fun _=>List UInt8) [] (fun n _ r=>UInt8.ofNat n.toNat::r) ns
noncomputable def Hr (x:Value) (H:ad):AO:=match nK 1 x H with
 | some (_,l)=>match Kq l with
  | some ns=>.ok (.string ⟨(aax ns).toArray⟩) H
  | none=>.no
 | none=>.no
noncomputable def h0:KH:=⟨.lf,0,0⟩
def ia (r:KO) (H:ad):AO:=match r with
 | .ok v _=>.ok v H
 | .no=>.no
 | .call f a=>.call f a
noncomputable def oR (src dst:TypeId) (x:Value) (H:ad):AO:=match P.underlying src,P.underlying dst with
 | some (.int _),some (.int k)=>(match x with
  | .int _ n=>.ok (.int k (pH k n)) H
  | _=>.no)
 | some (.slice e),some .string=>match P.underlying e with
  | some (.int .u8)=>Hr x H
  | _=>.no
 | _,_=>.no
noncomputable def LY (b:Builtin) (ts:Array TypeId) (args:List Value) (H:ad):AO:=match b,args with
 | .len,[x]=>match ts.toList with
  | t::_=>ia (w4 P t x h0) H
  | _=>.no
 | .append,[s,x]=>match ts.toList with
  | [t,t2]=>match P.underlying t2 with
   | some (.slice _)=>iS P t s x H
   | _=>.no
  | _=>.no
 | .copy,[d,x]=>match ts.toList with
  | t::_=>Bk P t d x H
  | _=>.no
 | .clear,[x]=>match ts.toList with
  | t::_=>Bf P t x H
  | _=>.no
 | .min,[x,y]=>ia (yi false x y h0) H
 | .max,[x,y]=>ia (yi true x y h0) H
 | _,_=>.no
noncomputable def Im (ev:Operand->Value) (c:Call) (H:ad):AO:=match c.callee with
 | .value f=>ia (x9 P (ev f) (pS ev c.args.toList).toArray) H
 | .builtin b=>LY P b c.argTypes (pS ev c.args.toList) H
 | _=>.no
def Ae (t:TypeId):Prop:=∃k e j i,P.underlying t=some (.map k e)/\P.underlying k=some (.int j)/\P.info? e=some i/\i.zero=some (.int .i64 0)
def Fh (cs:List Value):Option (List (Int × Int)):=match cs with
 | []=>some []
 | .int .i64 k::.int .i64 v::l=>(Fh l).map fun r=>(k,v)::r
 | _=>none
def getM (kv:List (Int × Int)) (n:Int):Option Int:=match kv with
 | []=>none
 | p::l=>if p.1=n then some p.2 else getM l n
def Bv (kv:List (Int × Int)) (n v:Int):List (Int × Int):=match kv with
 | []=>[(n,v)]
 | p::l=>if p.1=n then (n,v)::l else p::Bv l n v
noncomputable def NT (t:TypeId) (H:ad):AO:=.ok (.map (some H.next)) (H.push ⟨[],t,false,false⟩)
noncomputable def EU (t:TypeId) (x i:Value) (ok:Bool) (H:ad):AO:=match x,i with
 | .map (some b),.int .i64 n=>(match H.get b with
  | some B=>if Ae P t then (match Fh B.cells with
   | some kv=>.ok (if ok=true then .tuple #[.int .i64 ((getM kv n).getD 0),.bool (getM kv n).isSome] else .int .i64 ((getM kv n).getD 0)) H
   | none=>.no) else .no
  | none=>.no)
 | _,_=>.no
noncomputable def Fi (t:TypeId) (x i v:Value) (H:ad):AO:=match x,i,v with
 | .map (some b),.int .i64 n,.int .i64 v=>(match H.get b with
  | some B=>if Ae P t/\B.ro=false then (match Fh B.cells with
   | some kv=>.ok undef (H.ah b ⟨vu (Bv kv n v),B.elem,B.hV,false⟩)
   | none=>.no) else .no
  | none=>.no)
 | _,_,_=>.no
noncomputable def oB (ev:Operand->Value) (op:Op) (H:ad):AO:=match op with
 | .move x=>.ok (ev x) H
 | .assign x=>.ok (ev x) H
 | .pick c a b=>ia (C8 (ev c) (ev a) (ev b) h0) H
 | .alloc t=>C0 P t H
 | .box t x=>rK (ev x).cells.toList t false ptrTo H
 | .build t ps=>ia (fQ P t (parts ev ps.toList) h0) H
 | .buildSlice t n ps=>sw P t n (parts ev ps.toList) H
 | .load t a=>sx P t (ev a) H
 | .store t a x=>Be P t (ev a) (ev x) H
 | .nilCheck x=>ia (Dn (ev x) h0) H
 | .binOp op t x y _=>ia (eC P op t (ev x) (ev y) h0) H
 | .unOp op _ x=>ia (DL op (ev x) h0) H
 | .convert s d x=>oR P s d (ev x) H
 | .makeFunc f first cap=>.ok (.func f (pS ev first.toList).toArray (pS ev cap.toList).toArray) H
 | .makeSlice t l c=>CU P t (ev l) (ev c) H
 | .slice t x lo hi mx=>ia (l9 P t (ev x) (lo.map ev) (hi.map ev) (mx.map ev) h0) H
 | .fieldAddr s x f=>ia (AW P s (ev x) f h0) H
 | .field t x f=>ia (Bc P t (ev x) f h0) H
 | .indexAddr t x i=>ia (AX P t (ev x) (ev i) h0) H
 | .index t x i=>ia (xY P t (ev x) (ev i) h0) H
 | .extract t i=>ia (AZ (ev t) i h0) H
 | .call c=>Im P ev c H
 | .makeMap t none=>NT t H
 | .lookup t x i ok=>EU P t (ev x) (ev i) ok H
 | .mapUpdate t m k x=>Fi P t (ev m) (ev k) (ev x) H
 | _=>.no
end
section
variable {P:Program}
structure w9 (P:Program) (F:Nat->Prop) (o:Oper) (t:Act) (H:ad) (v:Value) (H':ad):Prop where
 mV:i5 F H H'
 op:sW P F o t H v H'
theorem pF {F:Nat->Prop} {o:Oper} {t:Act} {H:ad} {v:Value} (hw:H.wf)
  (hy:∀(σ:bG) (a:Act),(∀x∈o.op.operands,VR σ (t.eval x) (a.eval x))->∃v',VR σ v v'/\∀w,(execOp a.eval o).run P w=.ok (.value v') w):w9 P F o t H v H:=
 ⟨.refl hw,x0 fun σ w a hr hf hx=>let ⟨v',h1,h2⟩:=hy σ a hx;⟨σ,v',w,.refl hr rfl,h1,.inl (h2 w)⟩⟩
theorem oP {r:KO} {H H':ad} {v:Value} (h:ia r H=.ok v H'):∃h',r=.ok v h'/\H'=H:=by
 cases r with
 | ok v1 h1=>cases h;exact ⟨_,rfl,rfl⟩
 | no=>cases h
 | call f a=>cases h
theorem Nz {H:ad} {B:cw} (hw:H.wf) (F:Nat->Prop):i5 F H (H.push B):=
 ⟨Nat.le_succ _,fun b hb=>by
  have dY:H.next+1<=b:=hb
  show (if b=H.next then some B else H.get b)=none
  rw [if_neg (by omega)];exact hw b (by omega),fun b hb _=>by
  show (if b=H.next then some B else H.get b)=_
  rw [if_neg (by omega)]⟩
theorem YJ {H:ad} {b:Nat} {B:cw} (hw:H.wf) (hb:b < H.next):i5 (fun x=>x=b) H (H.ah b B):=
 ⟨Nat.le_refl _,fun x hx=>by
  have dZ:H.next<=x:=hx
  show (if x=b then some B else H.get x)=none
  rw [if_neg (by omega)];exact hw x dZ,fun x hx hn=>by
  show (if x=b then some B else H.get x)=_
  rw [if_neg hn]⟩
theorem NU {F:Nat->Prop} {o:Oper} {t:Act} {H H':ad} {v:Value} {cs:List Value} {elem:TypeId} {k:Nat->Value} (hw:H.wf) (hh:rK cs elem false k H=.ok v H')
  (eu:∀(σ:bG) (w:World) (a:Act),(∀x∈o.op.operands,VR σ (t.eval x) (a.eval x))->∃fW:Array Value,VL σ cs fW.toList/\
   ∃v',(∀σ':bG,σ' H.next=some ⟨w.heap.size,0,0,false,false⟩->VR σ' (k H.next) v')/\(execOp a.eval o).run P w=.ok (.value v') (w.alloc (.cells fW elem))):w9 P F o t H v H':=by
 cases hh
 refine ⟨Nz hw F,x0 fun σ w a hr hf hx=>?_⟩
 obtain ⟨fW,aX,v',FZ,dQ⟩:=eu σ w a hx
 refine ⟨_,v',_,Rf (room:=0) (B:=⟨cs,elem,false,false⟩) hw hr rfl (fun x=>rfl) hf (cs:=fW) ?_ (fun j hj=>?_) (fun _=>rfl) rfl,FZ _ (if_pos rfl),.inl dQ⟩
 ·show fW.size=cs.length+0 * _
  rw [aX.1];simp
 ·have:=aX.at j
  simpa [Array.getD_eq_getD_getElem?,List.getD_eq_getElem?_getD] using this
theorem NV {σ:bG} {B:cw} {base o n:Nat} {cs:Array Value} (hb:o+n<=B.cells.length)
  (hv:∀i,i < B.cells.length->VR σ (B.cells.getD i undef) (cs.getD (base+i) undef)):
  VL σ ((B.cells.drop o).take n) ((List.range n).map fun j=>cs.getD (base+(o+j)) undef):=by
 refine ⟨by simp;omega,fun i hi=>?_⟩
 have eG:i < n:=by simp at hi;omega
 have:=hv (o+i) (by omega)
 simpa [List.getD_eq_getElem?_getD,eG] using this
theorem Rx {ty:TypeId} {o:Nat} {b:Nat} {v:Value} {F:Nat->Prop} {H:ad} {σ:bG} {w:World} {L:Loc} (h:uo P ty o (H.get b)=some v) (hF:F b) (hr:Rel P σ F H.get w) (hL:σ b=some L) (hW:L.mp=false):
  ∃v',VR σ v v'/\(loadVar ty ⟨L.aU,L.base+o,none⟩).run P w=.ok v' w:=by
 unfold uo at h
 split at h
 ·rename_i B hB
  obtain ⟨cs,e0,fr,hg,fM,hv,_⟩:=(hr.aU b L _ hF hL hB).fy hW
  split at h
  ·rename_i Uy
   split at h
   ·rename_i n hn
    split at h
    ·rename_i hc
     cases h
     have tc:=(NV (o:=o) (n:=n) hc hv).xp
     have iA:=J3 (P:=P) (base:=L.base) (o:=o) (n:=n) hg (by omega)
     refine ⟨_,.agg tc.1 tc.2,?_⟩
     simp only [loadVar,Sem.run_bind,Nq Uy,Result.andThen_ok,if_true,oi hn,iA,Sem.run_pure]
    ·cases h
   ·cases h
  ·rename_i Uy
   have hc:o < B.cells.length:=(List.getElem?_eq_some_iff.1 h).1
   have Pw:=hv o hc
   rw [List.getD_eq_getElem?_getD,h] at Pw
   have be:L.base+o < cs.size:=by omega
   refine ⟨_,Pw,?_⟩
   simp [loadVar,Nq Uy,run_load,World.cell?,hg,Array.getD,be]
  ·cases h
 ·cases h
theorem X1 {ty:TypeId} {o:Nat} {H:ad} {b:Nat} {v:Value} (h:uo P ty o (H.get b)=some v):∃B,H.get b=some B:=by
 unfold uo at h
 split at h
 ·rename_i B hB;exact ⟨B,hB⟩
 ·cases h
theorem abZ {ty:TypeId} {ao:Operand} {o:Oper} {t:Act} {H:ad} {v:Value} {b off:Nat} (ho:o.op=.load ty ao) (ha:t.eval ao=.pointer (some ⟨b,off,none⟩))
  (hh:uo P ty off (H.get b)=some v):Uk P o t H v:=by
 intro σ w a K Q hr hx hk
 have h1:=hx ao (by rw [ho];simp [Op.operands])
 rw [ha] at h1
 obtain ⟨L,⟨hL,hW⟩,he⟩:=h1.HK
 obtain ⟨v',hv,hl⟩:=Rx hh trivial hr hL hW
 have e:(execOp a.eval o).run P w=.ok (.value v') w:=by
  unfold execOp
  rw [ho]
  simp only [he,Instr.loadAt,Instr.sureAddr,Sem.run_bind,Sem.run_pure,Result.andThen_ok,hl]
 unfold Oper.wp
 rw [e]
 exact hk v' hv
theorem X2 {ty:TypeId} {ao:Operand} {o:Oper} {t:Act} {H H':ad} {v:Value} (hw:H.wf) (ho:o.op=.load ty ao) (hh:sx P ty (t.eval ao) H=.ok v H'):
  H'=H/\w9 P (K2 (t.eval ao)) o t H v H':=by
 unfold sx at hh
 split at hh
 ·rename_i b off ha
  split at hh
  ·rename_i v0 qS
   cases hh
   refine ⟨rfl,.refl hw,x0 fun σ w a hr hf hx=>?_⟩
   have h1:=hx ao (by rw [ho];simp [Op.operands])
   rw [ha] at h1
   obtain ⟨L,⟨hL,hW⟩,he⟩:=h1.HK
   obtain ⟨v',hv,hl⟩:=Rx qS (by rw [ha];rfl) hr hL hW
   refine ⟨σ,v',w,.refl hr rfl,hv,.inl ?_⟩
   unfold execOp
   rw [ho]
   simp only [he,Instr.loadAt,Instr.sureAddr,Sem.run_bind,Sem.run_pure,Result.andThen_ok,hl]
  ·cases hh
 ·cases hh
theorem J0 {b o:Nat} {vs:List Value} {v v':Value} {H H':ad} (hw:H.wf) (hh:qx b o vs v H=.ok v' H'):
  v'=v/\b < H.next/\i5 (fun x=>x=b) H H'/\
  ∀(σ:bG) (w:World) (F:Nat->Prop),F b->Rel P σ F H.get w->∀L,(σ b=some L/\L.mp=false)->∀td,VL σ vs td->
   ∃w',(storeCells ⟨L.aU,L.base+o,none⟩ td).run P w=.ok () w'/\jo P F σ H w σ H' w':=by
 unfold qx at hh
 split at hh
 ·rename_i B hB
  split at hh
  ·rename_i hc
   obtain ⟨eA,At,jt⟩:=hc
   cases hh
   have ik:=ad.Da hw hB
   refine ⟨rfl,ik,YJ hw ik,?_⟩
   ·intro σ w F hF hr L ⟨hL,hW⟩ td pU
    have cY:=hr.aU b L _ hF hL hB
    obtain ⟨cs,hg,fM,hv⟩:=cY.cs jt hW
    have hlen:=pU.1
    have eu:=run_storeCells_at (P:=P) L.aU (L.base+o) B.elem td 0 cs w hg (by omega) (pU.SV At)
    refine ⟨_,eu,?_⟩
    simp only [Nat.add_zero]
    generalize ix:(cs.toList.take (L.base+o)++td++cs.toList.drop (L.base+o+td.length)).toArray=new
    have SW:new.size=cs.size:=by rw [<-ix];simp;omega
    have SX:∀q,new.getD q undef=if L.base+o<=q/\q < L.base+o+td.length then td.getD (q - (L.base+o)) undef else cs.getD q undef:=by
     intro q
     have:=QU cs.toList td (L.base+o) q (by simp;omega)
     rw [<-ix]
     simpa [Array.getD_eq_getD_getElem?,List.getD_eq_getElem?_getD] using this
    have akH:∀q,(cW B.cells o vs).getD q undef=if o<=q/\q < o+vs.length then vs.getD (q - o) undef else B.cells.getD q undef:=fun q=>by
     have:=QU B.cells vs o q eA
     rw [List.append_assoc] at this;exact this
    have Zy:(cW B.cells o vs).length=B.cells.length:=by simp [cW];omega
    have mY:(w.setRow L.aU new).heap[L.aU]?=some (.cells new B.elem (0,0)):=setRow_heap w L.aU cs new B.elem (0,0) hg
    have live:∀x,(if x=b then some (⟨cW B.cells o vs,B.elem,B.hV,false⟩:cw) else H.get x).isSome=(H.get x).isSome:=by
     intro x
     by_cases kK:x=b
     ·subst kK;simp [hB]
     ·simp [kK]
    have v9:∀x,¬fresh H (H.ah b ⟨cW B.cells o vs,B.elem,B.hV,false⟩) x:=fun x hx=>by
     have h1:=hx.1;have h2:x < H.next:=hx.2
     omega
    refine ⟨⟨fun x l B2 hx hs jf=>?_,fun x x' l l' hx dZ hs dd hi eG ho gH he=>?_,fun x x' l l' hx hs dd hi ho gH=>?_,fun x l hs ho=>by simpa using hr.aH x l hs ho⟩,fun _ _=>rfl,by simp,fun k hk hn=>?_,fun k hk ⟨x,l,hx,hs,hi,he⟩=>?_,fun x l hx=>absurd hx (v9 x),⟨rfl,rfl,rfl⟩⟩
    ·have dZ:=hx.resolve_right (v9 x)
     by_cases kK:x=b
     ·subst kK
      simp only [ad.ah,if_true] at jf
      cases jf
      obtain rfl:l=L:=by rw [hL] at hs;exact (Option.some.inj hs).symm
      refine BR.mk' ⟨new,mY,by rw [Zy,SW];exact fM,fun i hi=>?_⟩ cY.room (fun _=>cY.own jt) hW
      rw [Zy] at hi
      rw [akH,SX]
      by_cases h1:o<=i/\i < o+vs.length
      ·have h2:l.base+o<=l.base+i/\l.base+i < l.base+o+td.length:=by omega
       rw [if_pos h1,if_pos h2]
       have e:l.base+i - (l.base+o)=i - o:=by omega
       rw [e]
       exact pU.at (i - o)
      ·have h2:¬(l.base+o<=l.base+i/\l.base+i < l.base+o+td.length):=by omega
       rw [if_neg h1,if_neg h2]
       exact hv i hi
     ·simp only [ad.ah,if_neg kK] at jf
      refine (hr.aU x l B2 dZ hs jf).move (fun _ _ h=>h) (setRow_other w L.aU l.aU new fun e=>?_)
      cases uG:l.ro
      ·exact kK (hr.inj x b l L dZ hF hs hL (by rw [jf];rfl) (by rw [hB];rfl) uG (cY.own jt) e)
      ·exact hr.sep b x L l hF hL hs (by rw [hB];rfl) (cY.own jt) uG e.symm
    ·simp only [ad.ah] at hi eG
     rw [live] at hi eG
     exact hr.inj x x' l l' (hx.resolve_right (v9 x)) (dZ.resolve_right (v9 x')) hs dd hi eG ho gH he
    ·simp only [ad.ah] at hi
     rw [live] at hi
     exact hr.sep x x' l l' (hx.resolve_right (v9 x)) hs dd hi ho gH
    ·refine setRow_other w L.aU k new fun e=>hn ⟨b,L,hF,hL,by rw [hB];rfl,cY.own jt,e.symm⟩
    ·simp only [ad.ah] at hi
     rw [live] at hi
     exact ⟨x,l,hx.resolve_right (v9 x),hs,hi,he⟩
  ·cases hh
 ·cases hh
theorem acP {ty:TypeId} {ao xo:Operand} {o:Oper} {t:Act} {H H':ad} {v:Value} (hw:H.wf) (ho:o.op=.store ty ao xo)
  (hh:Be P ty (t.eval ao) (t.eval xo) H=.ok v H'):w9 P (K2 (t.eval ao)) o t H v H':=by
 unfold Be at hh
 split at hh
 ·rename_i b off ha
  split at hh
  ·rename_i n hn
   split at hh
   ·rename_i hc
    obtain ⟨rfl,ik,dI,eu⟩:=J0 (P:=P) hw hh
    have hF:K2 (t.eval ao)=fun x=>x=b:=by rw [ha];rfl
    rw [hF]
    refine ⟨dI,x0 fun σ w a hr hf hx=>?_⟩
    have h1:=hx ao (by rw [ho];simp [Op.operands])
    have h2:=hx xo (by rw [ho];simp [Op.operands])
    rw [ha] at h1
    obtain ⟨L,⟨hL,hW⟩,he⟩:=h1.HK
    obtain ⟨w',B7,hp⟩:=eu σ w (fun x=>x=b) rfl hr L ⟨hL,hW⟩ _ h2.cells
    refine ⟨σ,undef,w',hp,.undef σ,.inr ⟨?_,rfl⟩⟩
    have fM:(a.eval xo).cells.size=n:=by have:=h2.cells.1;simp at this hc;omega
    unfold execOp
    rw [ho]
    simp only [he,Instr.storeAt,Instr.sureAddr,storeVar,Sem.run_bind,Sem.run_pure,Result.andThen_ok,oi hn,fM,ne_eq,not_true_eq_false,if_false,B7]
   ·cases hh
  ·cases hh
 ·cases hh
theorem X3 {size:Nat} {x:Value} {H:ad} {n:Nat} {l:List Value} (hh:nK size x H=some (n,l)):
  l.length=n * size/\(∃a c,x=.slice a n c)/\∀(σ:bG) (w:World) (F:Nat->Prop),(∀b o,(∃c,x=.slice (some ⟨b,o,none⟩) n c)->F b)->Rel P σ F H.get w->∀x',VR σ x x'->
   ∃l',VL σ l l'/\∀w',w'.heap=w.heap->(Builtin.firstCells size n x').run P w'=.ok l'.toArray w':=by
 unfold nK at hh
 split at hh
 ·rename_i a n0 c0
  split at hh
  ·rename_i h0
   subst h0
   cases hh
   refine ⟨by simp,⟨_,_,rfl⟩,fun σ w F _ hr x' hx=>⟨[],.nil σ,fun w' _=>?_⟩⟩
   obtain ⟨a',c',rfl,_⟩:=hx.tZ
   cases a' <;> simp [Builtin.firstCells,loadCells,loadCellsFrom]
  ·split at hh
   ·rename_i b o
    split at hh
    ·rename_i B hB
     split at hh
     ·rename_i hc
      cases hh
      refine ⟨by simp;omega,⟨_,_,rfl⟩,fun σ w F hF hr x' hx=>?_⟩
      obtain ⟨L,⟨hL,hW⟩,rfl⟩:=hx.zL
      obtain ⟨cs,e0,fr,hg,fM,hv,_⟩:=(hr.aU b L _ (hF b o ⟨_,rfl⟩) hL hB).fy hW
      refine ⟨_,NV hc hv,fun w' B7=>?_⟩
      simp only [Builtin.firstCells]
      exact J3 (P:=P) (base:=L.base) (o:=o) (n:=n * size) (by rw [B7];exact hg) (by omega)
     ·cases hh
    ·cases hh
   ·cases hh
 ·cases hh
end
end Go.Proofs.YtinjmfblebpnnaaGreat.Ab
namespace Go.Proofs.YtinjmfblebpnnaaGreat.Ab
open Go Classical
section
variable {P:Program}
theorem adB {H:ad} {b:Nat} {B:cw} (hw:H.wf) (hb:b < H.next):i5 (fun x=>x=b) H (H.grow b B):=
 ⟨Nat.le_succ _,fun x hx=>by
  have dZ:H.next+1<=x:=hx
  show (if x=H.next then some B else if x=b then none else H.get x)=none
  rw [if_neg (by omega),if_neg (by omega)];exact hw x (by omega),fun x hx hn=>by
  show (if x=H.next then some B else if x=b then none else H.get x)=_
  rw [if_neg (by omega),if_neg hn]⟩
theorem ab0 {t t2 ty e2:TypeId} {s x v:Value} {H H':ad} (pY:H.wf) (hh:iS P t s x H=.ok v H') (rW:P.underlying t2=some (.slice e2)):
  i5 dT H H'/\
  ∀(σ:bG) (w:World) (s' x':Value),Rel P σ dT H.get w->qB σ H H'->VR σ s s'->VR σ x x'->
   ∃σ' v' w',jo P dT σ H w σ' H' w'/\VR σ' v v'/\(Builtin.append_ #[t,t2] ty #[s',x']).run P w=.ok v' w':=by
 unfold iS at hh
 split at hh
 ·rename_i e hu
  split at hh
  ·rename_i i z hi B8
   obtain ⟨i',zv,eG,hz,rfl,_,_⟩:=Ew B8
   obtain rfl:i'=i:=by rw [hi] at eG;exact (Option.some.inj eG).symm
   split at hh
   ·rename_i n new Fj
    obtain ⟨rX,⟨xa,xc,rfl⟩,EV⟩:=X3 (P:=P) Fj
    split at hh
    ·rename_i j5
     obtain ⟨I2,gW,awg,I3⟩:=j5
     have F1:zv.cells.size=i'.size:=by simpa using I2
     have iC:P.cellsOf e=i'.size:=by simp [Program.cellsOf,hi]
     split at hh
     ·-- nil
      rename_i sl sc
      split at hh
      ·rename_i hc
       obtain ⟨rfl,rfl⟩:=hc
       split at hh
       ·rename_i rV
        subst rV
        cases hh
        refine ⟨.refl pY,fun σ w s' x' hr hf hs hx=>?_⟩
        obtain ⟨l',lX,uI⟩:=EV σ w dT (fun _ _ _=>trivial) hr x' hx
        obtain ⟨a',c',rfl,_⟩:=hx.tZ
        have dd:=hs.Q3
        refine ⟨σ,.slice none 0 0,w,.refl hr rfl,.same rfl,?_⟩
        rw [dd,Rg hu rW hi (uI w rfl) (by omega)]
       ·rename_i rV
        cases hh
        refine ⟨Nz pY dT,fun σ w s' x' hr hf hs hx=>?_⟩
        obtain ⟨l',lX,uI⟩:=EV σ w dT (fun _ _ _=>trivial) hr x' hx
        obtain ⟨a',c',rfl,_⟩:=hx.tZ
        rw [hs.Q3]
        have eu:=Rh (P:=P) (ty:=ty) (base:=none) (sl:=0) (sc:=0) (aH:=#[]) hu rW hi hz (by simp [Builtin.firstCells]) (uI w.drew rfl) (by omega) (by omega) (by simpa using gW)
        simp only [Nat.zero_add] at eu
        have hg:=grownCap_le w n 0 e
        refine ⟨_,_,_,Rf (room:=grownCap w n 0 e - n) (B:=⟨new,e,true,false⟩) pY hr rfl (fun _=>rfl) hf (cs:=#[]++l'.toArray++Builtin.zeroCells zv.cells (grownCap w n 0 e - n)) ?_ (fun j hj=>?_) (fun hb=>by cases hb) rfl,?_,eu⟩
        ·simp only [iC]
         have:=lX.1
         simp [QS,F1];omega
        ·simp only at hj ⊢
         have:=lX.at j
         have Py:j < l'.length:=by rw [<-lX.1];exact hj
         simpa [Array.getD_eq_getD_getElem?,List.getD_eq_getElem?_getD,Array.getElem?_append,Py] using this
        ·have e1:grownCap w n 0 e=n+(grownCap w n 0 e - n):=by omega
         have Au:VR (fun x=>if x=H.next then some (⟨w.heap.size,0,grownCap w n 0 e - n,false,false⟩:Loc) else σ x) (.slice (some ⟨H.next,0,none⟩) n n)
           (.slice (some ⟨w.heap.size,0+0,none⟩) n (n+(grownCap w n 0 e - n))):=
          .slice (l:=⟨w.heap.size,0,grownCap w n 0 e - n,false,false⟩) ⟨if_pos rfl,rfl⟩
         rw [e1]
         simpa using Au
      ·cases hh
     ·rename_i b o sl sc
      split at hh
      ·rename_i B hB
       have ik:=ad.Da pY hB
       split at hh
       ·rename_i KG
        split at hh
        ·obtain ⟨rfl,_,dI,eu⟩:=J0 (P:=P) pY hh
         refine ⟨dI.all,fun σ w s' x' hr hf hs hx=>?_⟩
         obtain ⟨l',lX,uI⟩:=EV σ w dT (fun _ _ _=>trivial) hr x' hx
         obtain ⟨a',c',rfl,_⟩:=hx.tZ
         obtain ⟨L,⟨hL,hW⟩,rfl⟩:=hs.zL
         obtain ⟨w',B7,hp⟩:=eu σ w dT trivial hr L ⟨hL,hW⟩ l' lX
         refine ⟨σ,_,w',hp,.slice ⟨hL,hW⟩,?_⟩
         rw [Rg hu rW hi (uI w rfl) (by omega)]
         simp only [zM]
         rw [show L.base+o+sl * i'.size=L.base+(o+sl * i'.size) by omega,B7]
         rfl
        ·cases hh
       ·rename_i KG
        split at hh
        ·rename_i hc
         obtain ⟨i7,aay,aia,OK,pZ,jt⟩:=hc
         have atE:sl * i'.size<=sc * i'.size:=Nat.mul_le_mul_right _ OK
         split at hh
         ·rename_i iz
          split at hh
          ·-- in its place,or not
           rename_i il
           obtain ⟨rfl,akI⟩:=il
           cases hh
           generalize LZ:(⟨B.cells.take (sl * i'.size)++new,e,true,false⟩:cw)=Bn
           have aaz:Bn.cells=B.cells.take (sl * i'.size)++new:=by rw [<-LZ]
           have OL:Bn.elem=e:=by rw [<-LZ]
           have aaA:Bn.hV=true:=by rw [<-LZ]
           have dI:=adB (B:=Bn) pY ik
           refine ⟨dI.all,fun σ w s' x' hr hf hs hx=>?_⟩
           obtain ⟨l',lX,uI⟩:=EV σ w dT (fun _ _ _=>trivial) hr x' hx
           obtain ⟨a',c',rfl,_⟩:=hx.tZ
           obtain ⟨L,⟨hL,hW⟩,rfl⟩:=hs.zL
           have cY:=hr.aU b L _ trivial hL hB
           obtain ⟨cs,hg,fM,hv⟩:=cY.cs jt hW
           rw [pZ,iC] at fM
           have ae7:l'.length=n * i'.size:=by rw [<-lX.1];exact rX
           have akJ:(sl+n) * i'.size=sl * i'.size+n * i'.size:=Nat.add_mul _ _ _
           simp only [Nat.zero_add] at aia
           have Oj:Bn.cells.length=(sl+n) * i'.size:=by rw [aaz];simp;omega
           have YK:∀j,j < (sl+n) * i'.size->Bn.cells.getD j undef=if sl * i'.size<=j then new.getD (j - sl * i'.size) undef else B.cells.getD j undef:=fun j hj=>by
            rw [aaz]
            by_cases h1:sl * i'.size<=j
            ·rw [if_pos h1,List.getD_eq_getElem?_getD,List.getElem?_append_right (by simp;omega),List.getD_eq_getElem?_getD]
             congr 2
             simp;omega
            ·rw [if_neg h1,List.getD_eq_getElem?_getD,List.getElem?_append_left (by simp;omega),List.getElem?_take,if_pos (by omega),<-List.getD_eq_getElem?_getD]
           have Il:(H.grow b Bn).get H.next=some Bn:=if_pos rfl
           have Db:∀x,x≠H.next->x≠b->(H.grow b Bn).get x=H.get x:=fun x h1 h2=>by
            show (if x=H.next then some Bn else if x=b then none else H.get x)=_
            rw [if_neg h1,if_neg h2]
           have Kt:(H.grow b Bn).get b=none:=by
            show (if b=H.next then some Bn else if b=b then none else H.get b)=_
            rw [if_neg (by omega),if_pos rfl]
           by_cases i6:sl+n<=sc+L.room
           ·-- in its place
            have hmul:(sl+n) * i'.size<=(sc+L.room) * i'.size:=Nat.mul_le_mul_right _ i6
            have awh:(sc+L.room) * i'.size=sc * i'.size+L.room * i'.size:=Nat.add_mul _ _ _
            have yl:=run_storeCells_at (P:=P) L.aU (L.base+sl * i'.size) B.elem l' 0 cs w hg (by omega) (lX.SV akI)
            simp only [Nat.add_zero] at yl
            generalize ix:(cs.toList.take (L.base+sl * i'.size)++l'++cs.toList.drop (L.base+sl * i'.size+l'.length)).toArray=nw at yl
            have SW:nw.size=cs.size:=by rw [<-ix];simp;omega
            have SX:∀q,nw.getD q undef=if L.base+sl * i'.size<=q/\q < L.base+sl * i'.size+l'.length then l'.getD (q - (L.base+sl * i'.size)) undef else cs.getD q undef:=by
             intro q
             have:=QU cs.toList l' (L.base+sl * i'.size) q (by simp;omega)
             rw [<-ix]
             simpa [Array.getD_eq_getD_getElem?,List.getD_eq_getElem?_getD] using this
            have mY:(w.setRow L.aU nw).heap[L.aU]?=some (.cells nw B.elem (0,0)):=setRow_heap w L.aU cs nw B.elem (0,0) hg
            have vJ:∀x l,σ x=some l->(if x=H.next then some (⟨L.aU,L.base,sc+L.room - (sl+n),false,false⟩:Loc) else σ x)=some l:=fun x l hx=>by
             by_cases h1:x=H.next
             ·subst h1
              rw [hf H.next ⟨Nat.le_refl _,Nat.lt_succ_self _⟩] at hx;cases hx
             ·rw [if_neg h1];exact hx
            have mK:∀x,fresh H (H.grow b Bn) x↔x=H.next:=fun x=>⟨fun h1=>by
             have h2:=h1.1;have h3:x < H.next+1:=h1.2
             omega,fun h1=>⟨by omega,by show x < H.next+1;omega⟩⟩
            have atF:(sc+L.room - (sl+n)) * i'.size=(sc+L.room) * i'.size - (sl+n) * i'.size:=Nat.sub_mul _ _ _
            refine ⟨fun x=>if x=H.next then some ⟨L.aU,L.base,sc+L.room - (sl+n),false,false⟩ else σ x,.slice (some ⟨L.aU,L.base+0,none⟩) (sl+n) (sl+n+(sc+L.room - (sl+n))),w.setRow L.aU nw,⟨⟨fun x l B2 _ dw jf=>?_,fun x x2 l l2 _ _ dw jT oC iY nU fO he=>?_,fun x x2 l l2 _ dw jT oC nU fO=>?_,fun x l dw nU=>?_⟩,
             fun x hx=>if_neg (fun h1=>hx ((mK x).2 h1)),by simp,fun k hk hn=>?_,fun k hk ⟨x,l,_,dw,oC,nU,he⟩=>?_,fun x l hx dw=>?_,⟨rfl,rfl,rfl⟩⟩,.slice (l:=⟨L.aU,L.base,sc+L.room - (sl+n),false,false⟩) ⟨if_pos rfl,rfl⟩,?_⟩
            ·by_cases fA:x=H.next
             ·subst fA
              rw [Il] at jf
              simp only [if_true] at dw
              cases jf;cases dw
              refine BR.mk' ⟨nw,by rw [mY,pZ,OL],?_,fun j hj=>?_⟩ (fun h1=>by rw [aaA] at h1;cases h1) (fun _=>rfl) rfl
              ·rw [SW,Oj,OL,iC]
               simp only
               omega
              ·rw [Oj] at hj
               simp only
               rw [YK j hj,SX]
               by_cases h1:sl * i'.size<=j
               ·rw [if_pos h1,if_pos (by omega)]
                have e1:L.base+j - (L.base+sl * i'.size)=j - sl * i'.size:=by omega
                rw [e1]
                exact (lX.at _).mono vJ
               ·rw [if_neg h1,if_neg (by omega)]
                exact (hv j (by omega)).mono vJ
             ·simp only [if_neg fA] at dw
              by_cases kK:x=b
              ·rw [kK,Kt] at jf;cases jf
              ·rw [Db x fA kK] at jf
               refine (hr.aU x l B2 trivial dw jf).move vJ (setRow_other w L.aU l.aU nw fun e1=>?_)
               cases uG:l.ro
               ·exact kK (hr.inj x b l L trivial trivial dw hL (by rw [jf];rfl) (by rw [hB];rfl) uG (cY.own jt) e1)
               ·exact hr.sep b x L l trivial hL dw (by rw [hB];rfl) (cY.own jt) uG e1.symm
            ·have Pz:∀y,((H.grow b Bn).get y).isSome=true->y≠b:=fun y hy h1=>by rw [h1,Kt] at hy;cases hy
             by_cases fA:x=H.next <;> by_cases mh:x2=H.next
             ·rw [fA,mh]
             ·simp only [if_pos fA] at dw
              simp only [if_neg mh] at jT
              cases dw
              have h3:=Pz x2 iY
              rw [Db x2 mh h3] at iY
              exact absurd (hr.inj x2 b l2 L trivial trivial jT hL iY (by rw [hB];rfl) fO (cY.own jt) he.symm) h3
             ·simp only [if_neg fA] at dw
              simp only [if_pos mh] at jT
              cases jT
              have h3:=Pz x oC
              rw [Db x fA h3] at oC
              exact absurd (hr.inj x b l L trivial trivial dw hL oC (by rw [hB];rfl) nU (cY.own jt) he) h3
             ·simp only [if_neg fA] at dw
              simp only [if_neg mh] at jT
              rw [Db x fA (Pz x oC)] at oC
              rw [Db x2 mh (Pz x2 iY)] at iY
              exact hr.inj x x2 l l2 trivial trivial dw jT oC iY nU fO he
            ·have mh:x2≠H.next:=fun mh=>by
              simp only [if_pos mh] at jT
              cases jT;cases fO
             simp only [if_neg mh] at jT
             by_cases fA:x=H.next
             ·simp only [if_pos fA] at dw
              cases dw
              exact hr.sep b x2 L l2 trivial hL jT (by rw [hB];rfl) (cY.own jt) fO
             ·simp only [if_neg fA] at dw
              by_cases kK:x=b
              ·rw [kK,Kt] at oC;cases oC
              ·rw [Db x fA kK] at oC
               exact hr.sep x x2 l l2 trivial dw jT oC nU fO
            ·have fA:x≠H.next:=fun fA=>by
              simp only [if_pos fA] at dw
              cases dw;cases nU
             simp only [if_neg fA] at dw
             simpa using hr.aH x l dw nU
            ·exact setRow_other w L.aU k nw fun e1=>hn ⟨b,L,trivial,hL,by rw [hB];rfl,cY.own jt,e1.symm⟩
            ·by_cases fA:x=H.next
             ·simp only [if_pos fA] at dw
              cases dw
              exact ⟨b,L,trivial,hL,by rw [hB];rfl,cY.own jt,he⟩
             ·simp only [if_neg fA] at dw
              by_cases kK:x=b
              ·rw [kK,Kt] at oC;cases oC
              ·rw [Db x fA kK] at oC
               exact ⟨x,l,trivial,dw,oC,nU,he⟩
            ·simp only [if_pos ((mK x).1 hx)] at dw
             cases dw;rfl
            ·rw [Rg hu rW hi (uI w rfl) i6]
             simp only [zM,Nat.add_zero]
             rw [yl]
             have e1:sl+n+(sc+L.room - (sl+n))=sc+L.room:=by omega
             rw [e1];rfl
           ·-- an8
            have Uz:(Builtin.firstCells i'.size sl (.slice (some ⟨L.aU,L.base+0,none⟩) sl (sc+L.room))).run P w.drew=.ok ((List.range (sl * i'.size)).map fun j=>cs.getD (L.base+(0+j)) undef).toArray w.drew:=by
             simp only [Builtin.firstCells]
             exact J3 (P:=P) (base:=L.base) (o:=0) (n:=sl * i'.size) hg (by omega)
            have eu:=Rh (P:=P) (ty:=ty) hu rW hi hz Uz (uI w.drew rfl) (by omega) aay i7
            have jf:=grownCap_le w (sl+n) (sc+L.room) e
            generalize grownCap w (sl+n) (sc+L.room) e=gc at eu jf
            refine ⟨_,_,_,XD (room:=gc - (sl+n)) pY hr rfl Il (fun x B2 fA Av=>?_) hf (cs:=((List.range (sl * i'.size)).map fun j=>cs.getD (L.base+(0+j)) undef).toArray++l'.toArray++Builtin.zeroCells zv.cells (gc - (sl+n))) ?_ (fun j hj=>?_) (fun hb=>by rw [aaA] at hb;cases hb) (by rw [OL];rfl),?_,eu⟩
            ·by_cases kK:x=b
             ·rw [kK,Kt] at Av;cases Av
             ·rw [Db x fA kK] at Av;exact Av
            ·rw [Oj,OL,iC]
             simp [QS,F1,ae7,akJ]
            ·rw [Oj] at hj
             rw [YK j hj]
             have e2:((List.range (sl * i'.size)).map fun j=>cs.getD (L.base+(0+j)) undef).toArray++l'.toArray=(((List.range (sl * i'.size)).map fun j=>cs.getD (L.base+(0+j)) undef)++l').toArray:=by simp
             rw [e2,X0 _ _ _ (by simp;omega)]
             by_cases h1:sl * i'.size<=j
             ·rw [if_pos h1]
              have e3:(((List.range (sl * i'.size)).map fun j=>cs.getD (L.base+(0+j)) undef)++l').getD j undef=l'.getD (j - sl * i'.size) undef:=by
               rw [List.getD_eq_getElem?_getD,List.getElem?_append_right (by simpa using h1),List.getD_eq_getElem?_getD]
               simp
              rw [e3]
              exact lX.at (j - sl * i'.size)
             ·rw [if_neg h1]
              have h2:j < sl * i'.size:=by omega
              have:=hv j (by omega)
              have e6:(((List.range (sl * i'.size)).map fun j=>cs.getD (L.base+(0+j)) undef)++l').getD j undef=cs.getD (L.base+(0+j)) undef:=by
               rw [List.getD_eq_getElem?_getD,List.getElem?_append_left (by simpa using h2)];simp [h2]
              rw [e6,Nat.zero_add]
              exact this
            ·have e1:gc=sl+n+(gc - (sl+n)):=by omega
             have Au:VR (fun x=>if x=H.next then some (⟨w.heap.size,0,gc - (sl+n),false,false⟩:Loc) else σ x) (.slice (some ⟨H.next,0,none⟩) (sl+n) (sl+n))
               (.slice (some ⟨w.heap.size,0+0,none⟩) (sl+n) (sl+n+(gc - (sl+n)))):=
              .slice (l:=⟨w.heap.size,0,gc - (sl+n),false,false⟩) ⟨if_pos rfl,rfl⟩
             rw [e1]
             simpa using Au
          ·cases hh
         ·-- FV block ends here
          rename_i iz
          have akK:B.hV=false:=by cases h:B.hV;rfl;exact absurd h iz
          cases hh
          refine ⟨Nz pY dT,fun σ w s' x' hr hf hs hx=>?_⟩
          obtain ⟨l',lX,uI⟩:=EV σ w dT (fun _ _ _=>trivial) hr x' hx
          obtain ⟨a',c',rfl,_⟩:=hx.tZ
          obtain ⟨L,⟨hL,hW⟩,rfl⟩:=hs.zL
          have cY:=hr.aU b L _ trivial hL hB
          have L0:L.room=0:=cY.room akK
          obtain ⟨cs,hg,fM,hv⟩:=cY.cs jt hW
          have oD:=NV (o:=o) (n:=sl * i'.size) (by omega) hv
          rw [L0,Nat.add_zero]
          have Uz:(Builtin.firstCells i'.size sl (.slice (some ⟨L.aU,L.base+o,none⟩) sl sc)).run P w.drew=.ok ((List.range (sl * i'.size)).map fun j=>cs.getD (L.base+(o+j)) undef).toArray w.drew:=by
           simp only [Builtin.firstCells]
           exact J3 (P:=P) (base:=L.base) (o:=o) (n:=sl * i'.size) hg (by omega)
          have eu:=Rh (P:=P) (ty:=ty) hu rW hi hz Uz (uI w.drew rfl) (by omega) aay i7
          have jf:=grownCap_le w (sl+n) sc e
          generalize grownCap w (sl+n) sc e=gc at eu jf
          generalize ((List.range (sl * i'.size)).map fun j=>cs.getD (L.base+(o+j)) undef)=ol at oD eu
          have iU:=oD.append lX
          refine ⟨_,_,_,Rf (room:=gc - (sl+n)) (B:=⟨(B.cells.drop o).take (sl * i'.size)++new,e,true,false⟩) pY hr rfl (fun _=>rfl) hf (cs:=ol.toArray++l'.toArray++Builtin.zeroCells zv.cells (gc - (sl+n))) ?_ (fun j hj=>?_) (fun hb=>by cases hb) rfl,?_,eu⟩
          ·simp only [iC]
           rw [iU.1]
           simp [QS,F1]
          ·simp only at hj ⊢
           have:=iU.at j
           have Py:j < (ol++l').length:=by rw [<-iU.1];exact hj
           have e1:(ol.toArray++l'.toArray++Builtin.zeroCells zv.cells (gc - (sl+n))).getD j undef=(ol++l').getD j undef:=by
            have e2:ol.toArray++l'.toArray=(ol++l').toArray:=by simp
            rw [e2]
            exact X0 _ _ _ Py
           rw [e1];exact this
          ·have e1:gc=sl+n+(gc - (sl+n)):=by omega
           have Au:VR (fun x=>if x=H.next then some (⟨w.heap.size,0,gc - (sl+n),false,false⟩:Loc) else σ x) (.slice (some ⟨H.next,0,none⟩) (sl+n) (sl+n))
             (.slice (some ⟨w.heap.size,0+0,none⟩) (sl+n) (sl+n+(gc - (sl+n)))):=
            .slice (l:=⟨w.heap.size,0,gc - (sl+n),false,false⟩) ⟨if_pos rfl,rfl⟩
           rw [e1]
           simpa using Au
        ·cases hh
      ·cases hh
     ·cases hh
    ·cases hh
   ·cases hh
  ·cases hh
 ·cases hh
theorem ack {t ty:TypeId} {ts:Array TypeId} {x v:Value} {H H':ad} (pY:H.wf) (ht:ts[0]?=some t) (hh:Bf P t x H=.ok v H'):
  i5 dT H H'/\
  ∀(σ:bG) (w:World) (x':Value),Rel P σ dT H.get w->VR σ x x'->
   ∃v' w',jo P dT σ H w σ H' w'/\VR σ v v'/\(Builtin.clear_ ts ty #[x']).run P w=.ok v' w':=by
 unfold Bf at hh
 split at hh
 ·rename_i e a n c hu
  split at hh
  ·rename_i hn
   cases hh
   subst hn
   refine ⟨.refl pY,fun σ w x' hr hx=>?_⟩
   obtain ⟨xa,xc',rfl,_⟩:=hx.tZ
   refine ⟨_,w,.refl hr rfl,.tuple rfl (fun i h=>absurd h (by simp)),?_⟩
   cases xa <;> simp [Builtin.clear_,ht,run_underlying hu]
  ·rename_i hn
   split at hh
   ·rename_i b o
    split at hh
    ·rename_i z hz
     split at hh
     ·rename_i B8
      obtain ⟨i',zv,h1,h2,rfl,h3,h4⟩:=Ew hz
      obtain ⟨rfl,_,dI,eu⟩:=J0 (P:=P) pY hh
      refine ⟨dI.all,fun σ w x' hr hx=>?_⟩
      obtain ⟨L,⟨hL,hW⟩,rfl⟩:=hx.zL
      have yU:VL σ (ff zv.cells.toList n) (Builtin.zeroCells zv.cells n).toList:=by
       have e1:(Builtin.zeroCells zv.cells n).toList=ff zv.cells.toList n:=by
        have:=QT zv.cells (by simpa using B8) n
        simpa [Builtin.zeroCells] using this
       rw [e1]
       have key:∀k,VL σ (ff zv.cells.toList k) (ff zv.cells.toList k):=by
        intro k
        induction k with
        | zero=>exact .nil σ
        | succ k ih=>exact (h4 σ).append ih
       exact key n
      obtain ⟨w',B7,hp⟩:=eu σ w dT trivial hr L ⟨hL,hW⟩ _ yU
      refine ⟨_,w',hp,.tuple rfl (fun i h=>absurd h (by simp)),?_⟩
      obtain ⟨m,rfl⟩:∃m,n=m+1:=⟨n - 1,by omega⟩
      simp only [Builtin.clear_,ht,List.getElem?_toArray,List.getElem?_cons_zero,Sem.run_bind,run_underlying hu,Result.andThen_ok,h3,B7,Sem.run_pure]
     ·cases hh
    ·cases hh
   ·cases hh
 ·cases hh
theorem acQ {t ty:TypeId} {ts:Array TypeId} {d x v:Value} {H H':ad} (pY:H.wf) (ht:ts[0]?=some t) (hh:Bk P t d x H=.ok v H'):
  i5 dT H H'/\
  ∀(σ:bG) (w:World) (d' x':Value),Rel P σ dT H.get w->VR σ d d'->VR σ x x'->
   ∃v' w',jo P dT σ H w σ H' w'/\VR σ v v'/\(Builtin.copy_ ts ty #[d',x']).run P w=.ok v' w':=by
 unfold Bk at hh
 split at hh
 ·rename_i e hu
  split at hh
  ·rename_i size b o dn dc b2 o2 n nc hs
   split at hh
   ·rename_i B hB
    split at hh
    ·rename_i hc
     obtain ⟨rfl,_,dI,eu⟩:=J0 (P:=P) pY hh
     refine ⟨dI.all,fun σ w d' x' hr hd hx=>?_⟩
     obtain ⟨L,⟨hL,hW⟩,rfl⟩:=hd.zL
     obtain ⟨L2,hL2,rfl⟩:=hx.zL
     obtain ⟨cs,e0,fr,hg,fM,hv,_⟩:=(hr.aU b2 L2 _ trivial hL2.1 hB).fy hL2.2
     have tc:=NV hc hv
     obtain ⟨w',B7,hp⟩:=eu σ w dT trivial hr L ⟨hL,hW⟩ _ tc
     refine ⟨_,w',hp,.same rfl,?_⟩
     have iA:=J3 (P:=P) (base:=L2.base) (o:=o2) (n:=min n dn * size) hg (by omega)
     simp only [Builtin.copy_,ht,List.getElem?_toArray,List.getElem?_cons_zero,List.getElem?_cons_succ,Sem.run_bind,run_underlying hu,Result.andThen_ok,Builtin.lenOf,Sem.run_pure,oi hs,Builtin.firstCells]
     rw [show Nat.min n dn=min n dn from rfl,iA]
     simp only [Result.andThen_ok,Sem.run_bind,B7,Sem.run_pure,goInt]
     rfl
    ·cases hh
   ·cases hh
  ·rename_i size a dn dc a2 n nc mX hs
   split at hh
   ·rename_i hc
    cases hh
    refine ⟨.refl pY,fun σ w d' x' hr hd hx=>?_⟩
    obtain ⟨da,dc',rfl,_⟩:=hd.tZ
    obtain ⟨xa,xc',rfl,_⟩:=hx.tZ
    refine ⟨_,w,.refl hr rfl,.same rfl,?_⟩
    have akL:Nat.min n dn=0:=by
     show min n dn=0
     omega
    have uI:(Builtin.firstCells size 0 (.slice xa n xc')).run P w=.ok #[] w:=by
     cases xa <;> simp [Builtin.firstCells,loadCells,loadCellsFrom]
    simp only [Builtin.copy_,ht,List.getElem?_toArray,List.getElem?_cons_zero,List.getElem?_cons_succ,Sem.run_bind,run_underlying hu,Result.andThen_ok,Builtin.lenOf,Sem.run_pure,oi hs,akL,uI]
    cases da <;> simp [storeCells,goInt]
   ·cases hh
  ·cases hh
 ·cases hh
theorem abQ {x v:Value} {H H':ad} (hh:Hr x H=.ok v H'):H'=H/\(∃a n c,x=.slice a n c)/\∀(σ:bG) (w:World) x',Rel P σ dT H.get w->VR σ x x'->∃v',VR σ v v'/\(Conv.bytesToString x').run P w=.ok v' w:=by
 unfold Hr at hh
 split at hh
 ·rename_i n l Fj
  obtain ⟨rX,⟨xa,xc,rfl⟩,EV⟩:=X3 (P:=P) Fj
  split at hh
  ·rename_i ns uH
   cases hh
   refine ⟨rfl,⟨_,_,_,rfl⟩,fun σ w x' hr hx=>?_⟩
   obtain ⟨l',lX,uI⟩:=EV σ w dT (fun _ _ _=>trivial) hr x' hx
   have he:=Xj uH lX
   have hf:=uI w rfl
   refine ⟨_,.same rfl,?_⟩
   obtain ⟨a',c',rfl,_⟩:=hx.tZ
   cases a' with
   | none=>
    simp only [Builtin.firstCells,Sem.run_pure,Result.ok.injEq,and_true] at hf
    have:l'=[]:=by simpa using hf.symm
    rw [this] at he
    have:ns=[]:=by cases ns with
     | nil=>rfl
     | cons a b=>simp at he
    subst this
    simp only [Conv.bytesToString,Sem.run_pure]
    rfl
   | some a=>
    simp only [Builtin.firstCells,Nat.mul_one] at hf
    rw [he] at hf
    rw [run_bytesToString w a n c' ns hf,Xq]
    congr 2
    apply ByteArray.ext
    simp [aax]
  ·cases hh
 ·cases hh
end
end Go.Proofs.YtinjmfblebpnnaaGreat.Ab
namespace Go.Proofs.YtinjmfblebpnnaaGreat.Ab
open Go Classical
section
variable {P:Program}
noncomputable def Zz (P:Program) (t:TypeId):Bool:=match P.underlying t with
 | some (.map k e)=>(match P.underlying k with
  | some (.int _)=>(match P.info? e with
   | some i=>(match i.zero with
    | some (.int .i64 z)=>decide (z=0)
    | _=>false)
   | none=>false)
  | _=>false)
 | _=>false
theorem aej {t:TypeId} (h:Zz P t=true):Ae P t:=by
 unfold Zz at h
 split at h
 ·rename_i k e h1
  split at h
  ·rename_i j h2
   split at h
   ·rename_i i h3
    split at h
    ·rename_i z h4
     rw [decide_eq_true_eq] at h
     subst h
     exact ⟨k,e,j,i,h1,h2,h3,h4⟩
    ·cases h
   ·cases h
  ·cases h
 ·cases h
theorem VR.YL {σ:bG} {b:Nat} {v:Value} (h:VR σ (.map (some b)) v):∃l,(σ b=some l/\l.mp=true)/\v=.map (some l.aU):=by
 cases h with
 | same h=>cases h
 | map h=>exact ⟨_,h,rfl⟩
theorem Ki:∀kv:List (Int × Int),Fh (vu kv)=some kv
 | []=>rfl
 | p::l=>by
  show (Fh (vu l)).map _=_
  rw [Ki l];rfl
def rL (kv:List (Int × Int)) (n:Int):Option Nat:=match kv with
 | []=>none
 | p::l=>if p.1=n then some 0 else (rL l n).map (·+1)
theorem X4 (n:Int):∀kv,getM kv n=(rL kv n).map fun q=>(kv.getD q (0,0)).2
 | []=>rfl
 | p::l=>by
  rw [getM,rL]
  split
  ·rfl
  ·rw [X4 n l]
   cases rL l n <;> rfl
theorem X5 (n v:Int):∀kv,Bv kv n v=match rL kv n with
  | some q=>kv.set q (n,v)
  | none=>kv++[(n,v)]
 | []=>rfl
 | p::l=>by
  rw [Bv,rL]
  split
  ·rfl
  ·rw [X5 n v l]
   cases rL l n <;> rfl
theorem Xr {j:IntKind} {n:Int}:∀(es:List MapEntry) (kv:List (Int × Int)) (i:Nat),es.map (fun e=>(e.key,e.val))=kv.map (fun p=>(Value.int .i64 p.1,Value.int .i64 p.2))->
  Instr.findNow (.int j) (.int .i64 n) es i=some ((rL kv n).map fun q=>(i+q,.int .i64 (kv.getD q (0,0)).2))
 | [],[],i,_=>rfl
 | e::es,p::kv,i,h=>by
  rw [List.map_cons,List.map_cons,List.cons.injEq,Prod.mk.injEq] at h
  obtain ⟨⟨h1,h2⟩,h3⟩:=h
  rw [Instr.findNow,rL,h1]
  by_cases hp:p.1=n
  ·simp [Instr.sameNow,hp,h2]
  ·have L1:¬n=p.1:=fun e=>hp e.symm
   simp only [Instr.sameNow,if_true]
   rw [show (n==p.1)=false by simpa using L1,Xr es kv (i+1) h3,if_neg hp]
   cases rL kv n with
   | none=>rfl
   | some q=>simp;omega
 | [],_::_,_,h=>by cases h
 | _::_,[],_,h=>by cases h
theorem Q7 {w:World} {em:Bool} {k:TypeId} {j:IntKind} {n:Int} (hk:P.underlying k=some (.int j)):(Instr.checkKey em 10000 k (.int .i64 n)).run P w=.ok () w:=by
 rw [show (10000:Nat)=9999+1 from rfl,Instr.checkKey]
 simp [run_underlying hk]
theorem X6 {w:World} {k:TypeId} {j:IntKind} {n:Int} (hk:P.underlying k=some (.int j)) {es:Array MapEntry} {kv:List (Int × Int)} (he:Fe es kv):
  (Instr.findKey k (.int .i64 n) es.toList).run P w=.ok ((rL kv n).map fun q=>(q,.int .i64 (kv.getD q (0,0)).2)) w:=by
 unfold Instr.findKey
 have:=Xr (j:=j) (n:=n) es.toList kv 0 he
 simp only [Nat.zero_add] at this
 simp [run_underlying hk,this]
theorem adC {t:TypeId} (h:Ae P t) {w:World} {r:Nat} {es:Array MapEntry} {ck:Nat} {kv:List (Int × Int)} {n:Int} {ok:Bool} (hb:w.heap[r]?=some (.map es ck)) (he:Fe es kv):
  (Instr.lookup t (.map (some r)) (.int .i64 n) ok).run P w=.ok (if ok=true then .tuple #[.int .i64 ((getM kv n).getD 0),.bool (getM kv n).isSome] else .int .i64 ((getM kv n).getD 0)) w:=by
 obtain ⟨k,e,j,i,h1,h2,h3,h4⟩:=h
 unfold Instr.lookup
 simp only [Sem.run_bind,run_underlying h1,Result.andThen_ok,MapKept.run_getObj_map hb,Sem.run_pure,Q7 h2,X6 h2 he,X4]
 cases rL kv n with
 | none=>simp [zeroValue,typeInfo,h3,h4]
 | some q=>simp
theorem aek {t:TypeId} (h:Ae P t) {w:World} {r:Nat} {es:Array MapEntry} {ck:Nat} {kv:List (Int × Int)} {n v:Int} (hb:w.heap[r]?=some (.map es ck)) (he:Fe es kv):
  ∃L3 PA,Fe L3 (Bv kv n v)/\(Instr.mapUpdate t (.map (some r)) (.int .i64 n) (.int .i64 v)).run P w=.ok () {w with heap:=w.heap.setIfInBounds r (.map L3 PA)}:=by
 obtain ⟨k,e,j,i,h1,h2,h3,h4⟩:=h
 have hl:es.toList.length=kv.length:=by simpa using congrArg List.length he
 rw [X5]
 have hf:=X6 (n:=n) (w:=w) h2 he
 cases hp:rL kv n with
 | none=>
  refine ⟨es.push ⟨.int .i64 n,.int .i64 v,ck⟩,ck+1,?_,?_⟩
  ·unfold Fe at he ⊢
   simp [he]
  ·rw [hp] at hf
   simp [Instr.mapUpdate,run_underlying h1,MapKept.run_getObj_map hb,Q7 h2,hf,MapKept.run_setObj_map _ hb,Result.andThen]
 | some q=>
  rw [hp] at hf
  have mJ:∀(kv:List (Int × Int)) q,rL kv n=some q->∃p,kv[q]?=some p/\p.1=n:=by
   intro kv
   induction kv with
   | nil=>intro q h;cases h
   | cons p l ih=>
    intro q h
    rw [rL] at h
    split at h
    ·cases h;exact ⟨p,rfl,by assumption⟩
    ·cases h5:rL l n with
     | none=>rw [h5] at h;cases h
     | some q'=>
      rw [h5] at h
      cases h
      exact ih q' h5
  obtain ⟨p,te,L4⟩:=mJ kv q hp
  have hq:q < es.toList.length:=by rw [hl];exact (List.getElem?_eq_some_iff.1 te).1
  obtain ⟨e0,UC⟩:∃e0,es[q]?=some e0:=⟨es[q]'(by simpa using hq),Array.getElem?_eq_getElem _⟩
  have wa:e0.key=.int .i64 n:=by
   have:=congrArg (fun l=>l[q]?) he
   simp only [List.getElem?_map,te,Array.getElem?_toList,UC,Option.map_some,Option.some.injEq,Prod.mk.injEq] at this
   rw [this.1,L4]
  refine ⟨es.modify q (fun x=>{x with key:=.int .i64 n,val:=.int .i64 v}),ck,?_,?_⟩
  ·unfold Fe at he ⊢
   rw [Array.toList_modify]
   apply List.ext_getElem?
   intro m
   have hm:=congrArg (fun l=>l[m]?) he
   simp only [List.getElem?_map,Array.getElem?_toList] at hm
   simp only [List.getElem?_map,List.getElem?_modify,List.getElem?_set,Array.getElem?_toList]
   by_cases F2:q=m
   ·subst F2
    rw [UC]
    have:q < kv.length:=by rw [<-hl];exact hq
    simp [this]
   ·simp only [if_neg F2]
    rw [<-hm]
    cases es[m]? <;> simp
  ·have ks:(Instr.keyThatStays (.int .i64 n) (.int .i64 n)).run P w=.ok (.int .i64 n) w:=by
    simp [Instr.keyThatStays,Instr.sameBits]
   simp [Instr.mapUpdate,run_underlying h1,MapKept.run_getObj_map hb,Q7 h2,hf,UC,wa,ks,MapKept.run_setObj_map _ hb,Result.andThen]
theorem acR {σ:bG} {w w1:World} {F:Nat->Prop} {H H':ad} {B:cw} {o:Obj} (Uw:H.wf) (hr:Rel P σ F H.get w) (dU:H'.next=H.next+1)
  (Il:H'.get H.next=some B) (KF:∀x B2,x≠H.next->H'.get x=some B2->H.get x=some B2) (bj:qB σ H H') (qc:∀σ',BR P σ' B ⟨w.heap.size,0,0,false,true⟩ w1) (eV:w1.heap=w.heap.push o) (ET:w1.os=w.os/\w1.tape=w.tape/\w1.output=w.output:=by exact ⟨rfl,rfl,rfl⟩):
  jo P F σ H w (fun x=>if x=H.next then some ⟨w.heap.size,0,0,false,true⟩ else σ x) H' w1:=by
 have vJ:∀b l,σ b=some l->(if b=H.next then some (⟨w.heap.size,0,0,false,true⟩:Loc) else σ b)=some l:=fun b l hb=>by
  by_cases hx:b=H.next
  ·subst hx;rw [bj H.next ⟨Nat.le_refl _,by omega⟩] at hb;cases hb
  ·rw [if_neg hx];exact hb
 have hold:∀k,k < w.heap.size->w1.heap[k]?=w.heap[k]?:=fun k hk=>by rw [eV,Array.getElem?_push_lt hk,Array.getElem?_eq_getElem hk]
 have mK:∀x,fresh H H' x↔x=H.next:=fun x=>⟨fun h=>by have:=h.1;have:=h.2;omega,fun h=>⟨by omega,by omega⟩⟩
 have vh:∀x,x≠H.next->(H'.get x).isSome=true->∃B2,H.get x=some B2:=fun x hx hi=>by
  obtain ⟨B2,hB⟩:=Option.isSome_iff_exists.1 hi
  exact ⟨B2,KF x B2 hx hB⟩
 refine ⟨⟨fun b l B2 hb hs hg=>?_,fun b b' l l' hb dY hs dd hi eG ho gH he=>?_,fun b b' l l' hb hs dd hi ho gH=>?_,fun b l hs ho=>?_⟩,fun b hb=>if_neg (fun h=>hb ((mK b).2 h)),by rw [eV];simp,fun k hk _=>hold k hk,fun k hk ⟨b,l,hb,hs,hi,ho,he⟩=>?_,fun b l hb hs=>?_,ET⟩
 ·by_cases hx:b=H.next
  ·subst hx
   rw [Il] at hg
   simp only [if_true] at hs
   cases hg;cases hs
   exact qc _
  ·simp only [if_neg hx] at hs
   have hF:=hb.resolve_right (fun h=>hx ((mK b).1 h))
   have cY:=hr.aU b l B2 hF hs (KF b B2 hx hg)
   exact cY.move vJ (hold _ cY.lt)
 ·have lt:∀b l,F b->σ b=some l->(∃B2,H.get b=some B2)->l.aU < w.heap.size:=fun b l hF hs ⟨B2,hB⟩=>(hr.aU b l B2 hF hs hB).lt
  by_cases hx:b=H.next <;> by_cases dZ:b'=H.next
  ·rw [hx,dZ]
  ·simp only [if_neg dZ] at dd
   have Ux:=dY.resolve_right (fun h=>dZ ((mK b').1 h))
   have:=lt b' l' Ux dd (vh b' dZ eG)
   simp only [if_pos hx] at hs
   cases hs
   simp only at he
   omega
  ·simp only [if_neg hx] at hs
   have hF:=hb.resolve_right (fun h=>hx ((mK b).1 h))
   have:=lt b l hF hs (vh b hx hi)
   simp only [if_pos dZ] at dd
   cases dd
   simp only at he
   omega
  ·obtain ⟨B1,pW⟩:=vh b hx hi
   obtain ⟨B2,pX⟩:=vh b' dZ eG
   simp only [if_neg hx] at hs
   simp only [if_neg dZ] at dd
   exact hr.inj b b' l l' (hb.resolve_right (fun h=>hx ((mK b).1 h))) (dY.resolve_right (fun h=>dZ ((mK b').1 h))) hs dd (by rw [pW];rfl) (by rw [pX];rfl) ho gH he
 ·have dZ:b'≠H.next:=fun dZ=>by
   simp only [if_pos dZ] at dd
   cases dd;cases gH
  simp only [if_neg dZ] at dd
  by_cases hx:b=H.next
  ·simp only [if_pos hx] at hs
   cases hs
   simp only
   exact fun e=>Nat.lt_irrefl _ (e▸hr.aH b' l' dd gH)
  ·obtain ⟨B1,pW⟩:=vh b hx hi
   simp only [if_neg hx] at hs
   exact hr.sep b b' l l' (hb.resolve_right (fun h=>hx ((mK b).1 h))) hs dd (by rw [pW];rfl) ho gH
 ·have hx:b≠H.next:=fun hx=>by
   simp only [if_pos hx] at hs
   cases hs;cases ho
  simp only [if_neg hx] at hs
  have:=hr.aH b l hs ho
  rw [eV];simp;omega
 ·by_cases hx:b=H.next
  ·simp only [if_pos hx] at hs
   cases hs
   simp only at he
   omega
  ·obtain ⟨B1,pW⟩:=vh b hx hi
   simp only [if_neg hx] at hs
   exact ⟨b,l,hb.resolve_right (fun h=>hx ((mK b).1 h)),hs,by rw [pW];rfl,ho,he⟩
 ·have:=(mK b).1 hb
  simp only [if_pos this] at hs
  cases hs;rfl
theorem adD {σ:bG} {w:World} {F:Nat->Prop} {H:ad} {b:Nat} {B B':cw} {L:Loc} {o:Obj} (hF:F b) (hr:Rel P σ F H.get w) (hL:σ b=some L) (hB:H.get b=some B) (jt:B.ro=false)
  (ix:BR P σ B' L {w with heap:=w.heap.setIfInBounds L.aU o}):jo P F σ H w σ (H.ah b B') {w with heap:=w.heap.setIfInBounds L.aU o}:=by
 have cY:=hr.aU b L _ hF hL hB
 have other:∀k,k≠L.aU->(w.heap.setIfInBounds L.aU o)[k]?=w.heap[k]?:=fun k hk=>by rw [Array.getElem?_setIfInBounds,if_neg (fun e=>hk e.symm)]
 have live:∀x,(if x=b then some B' else H.get x).isSome=(H.get x).isSome:=by
  intro x
  by_cases kK:x=b
  ·subst kK;simp [hB]
  ·simp [kK]
 have v9:∀x,¬fresh H (H.ah b B') x:=fun x hx=>by
  have h1:=hx.1;have h2:x < H.next:=hx.2
  omega
 refine ⟨⟨fun x l B2 hx hs jf=>?_,fun x x' l l' hx dZ hs dd hi eG ho gH he=>?_,fun x x' l l' hx hs dd hi ho gH=>?_,fun x l hs ho=>by simpa using hr.aH x l hs ho⟩,fun _ _=>rfl,by simp,fun k hk hn=>?_,fun k hk ⟨x,l,hx,hs,hi,he⟩=>?_,fun x l hx=>absurd hx (v9 x),⟨rfl,rfl,rfl⟩⟩
 ·have dZ:=hx.resolve_right (v9 x)
  by_cases kK:x=b
  ·subst kK
   simp only [ad.ah,if_true] at jf
   cases jf
   obtain rfl:l=L:=by rw [hL] at hs;exact (Option.some.inj hs).symm
   exact ix
  ·simp only [ad.ah,if_neg kK] at jf
   refine (hr.aU x l B2 dZ hs jf).move (fun _ _ h=>h) (other l.aU fun e=>?_)
   cases uG:l.ro
   ·exact kK (hr.inj x b l L dZ hF hs hL (by rw [jf];rfl) (by rw [hB];rfl) uG (cY.own jt) e)
   ·exact hr.sep b x L l hF hL hs (by rw [hB];rfl) (cY.own jt) uG e.symm
 ·simp only [ad.ah] at hi eG
  rw [live] at hi eG
  exact hr.inj x x' l l' (hx.resolve_right (v9 x)) (dZ.resolve_right (v9 x')) hs dd hi eG ho gH he
 ·simp only [ad.ah] at hi
  rw [live] at hi
  exact hr.sep x x' l l' (hx.resolve_right (v9 x)) hs dd hi ho gH
 ·exact other k fun e=>hn ⟨b,L,hF,hL,by rw [hB];rfl,cY.own jt,e.symm⟩
 ·simp only [ad.ah] at hi
  rw [live] at hi
  exact ⟨x,l,hx.resolve_right (v9 x),hs,hi,he⟩
theorem acm {ty:TypeId} {F:Nat->Prop} {o:Oper} {t:Act} {H H':ad} {v:Value} (hw:H.wf) (ho:o.op=.makeMap ty none) (hh:NT ty H=.ok v H'):w9 P F o t H v H':=by
 cases hh
 refine ⟨Nz hw F,x0 fun σ w a hr hf hx=>?_⟩
 refine ⟨_,.map (some w.heap.size),{w with heap:=w.heap.push (.map #[] 0)},acR (B:=⟨[],ty,false,false⟩) (o:=.map #[] 0) hw hr rfl (by simp [ad.push]) (fun x B2 hx hg=>by simpa [ad.push,hx] using hg) hf (fun σ'=>⟨fun _=>⟨#[],0,[],by simp,rfl,rfl⟩,fun e=>(by cases e),fun _=>rfl,fun _=>rfl⟩) rfl,VR.map (l:=⟨w.heap.size,0,0,false,true⟩) ⟨if_pos rfl,rfl⟩,.inl ?_⟩
 unfold execOp
 rw [ho]
 rfl
theorem adE {ty:TypeId} {x i:Operand} {ok:Bool} {o:Oper} {t:Act} {H H':ad} {v:Value} (hw:H.wf) (ho:o.op=.lookup ty x i ok) (hh:EU P ty (t.eval x) (t.eval i) ok H=.ok v H'):H'=H/\sW P dT o t H v H':=by
 unfold EU at hh
 split at hh
 ·rename_i b n fA oC
  split at hh
  ·rename_i B hB
   split at hh
   ·rename_i hm
    split at hh
    ·rename_i kv hk
     cases hh
     refine ⟨rfl,x0 fun σ w a hr hf hx=>?_⟩
     have h1:=hx x (by rw [ho];simp [Op.operands])
     have h2:=hx i (by rw [ho];simp [Op.operands])
     rw [fA] at h1
     rw [oC] at h2
     obtain ⟨L,⟨hL,hW⟩,he⟩:=h1.YL
     obtain ⟨es,ck,kv',hg,F3,hc⟩:=(hr.aU b L _ trivial hL hB).map hW
     rw [hc,Ki] at hk
     cases hk
     refine ⟨σ,(if ok=true then .tuple #[.int .i64 ((getM kv n).getD 0),.bool (getM kv n).isSome] else .int .i64 ((getM kv n).getD 0)),w,.refl hr rfl,?_,.inl ?_⟩
     rotate_left
     ·unfold execOp
      rw [ho]
      simp only [he,h2.int,Sem.run_bind,adC hm hg F3,Result.andThen_ok,Sem.run_pure]
     ·cases ok
      ·exact .same rfl
      ·exact .tuple rfl fun i hi=>.same (match i,hi with
       | 0,_=>rfl
       | 1,_=>rfl)
    ·cases hh
   ·cases hh
  ·cases hh
 ·cases hh
theorem ael {ty:TypeId} {x i y:Operand} {o:Oper} {t:Act} {H H':ad} {v:Value} (hw:H.wf) (ho:o.op=.mapUpdate ty x i y) (hh:Fi P ty (t.eval x) (t.eval i) (t.eval y) H=.ok v H'):i5 dT H H'/\sW P dT o t H v H':=by
 unfold Fi at hh
 split at hh
 ·rename_i b n u fA oC hy1
  split at hh
  ·rename_i B hB
   split at hh
   ·rename_i hm
    obtain ⟨hm,oE⟩:=hm
    split at hh
    ·rename_i kv hk
     cases hh
     refine ⟨(YJ hw (ad.Da hw hB)).all,x0 fun σ w a hr hf hx=>?_⟩
     have h1:=hx x (by rw [ho];simp [Op.operands])
     have h2:=hx i (by rw [ho];simp [Op.operands])
     have h3:=hx y (by rw [ho];simp [Op.operands])
     rw [fA] at h1
     rw [oC] at h2
     rw [hy1] at h3
     obtain ⟨L,⟨hL,hW⟩,he⟩:=h1.YL
     have cY:=hr.aU b L _ trivial hL hB
     obtain ⟨es,ck,kv',hg,F3,hc⟩:=cY.map hW
     rw [hc,Ki] at hk
     cases hk
     obtain ⟨L3,PA,akM,eu⟩:=aek hm (n:=n) (v:=u) hg F3
     have be:L.aU < w.heap.size:=(Array.getElem?_eq_some_iff.1 hg).1
     refine ⟨σ,undef,{w with heap:=w.heap.setIfInBounds L.aU (.map L3 PA)},adD trivial hr hL hB oE ⟨fun _=>⟨L3,PA,_,by simp [be],akM,rfl⟩,fun e=>(by rw [hW] at e;cases e),cY.room,fun _=>cY.own oE⟩,.undef σ,.inr ⟨?_,rfl⟩⟩
     unfold execOp
     rw [ho]
     simp only [he,h2.int,h3.int,eu,Sem.run_bind,Result.andThen_ok,Sem.run_pure]
    ·cases hh
   ·cases hh
  ·cases hh
 ·cases hh
end
end Go.Proofs.YtinjmfblebpnnaaGreat.Ab
namespace Go.Proofs.YtinjmfblebpnnaaGreat.Ab
open Go Classical
section
variable {P:Program}
def Dc (P:Program) (ev:Operand->Value) (op:Op) (n:Nat):Nat->Prop:=match op with
 | .load _ a=>K2 (ev a)
 | .store _ a _=>K2 (ev a)
 | .convert s _ _=>(match P.underlying s with
  | some (.int _)=>fun _=>False
  | _=>fun x=>x < n)
 | .lookup _ _ _ _ | .mapUpdate _ _ _ _=>fun x=>x < n
 | .call c=>(match c.callee with
  | .builtin .len | .builtin .min | .builtin .max=>fun _=>False
  | _=>fun x=>x < n)
 | _=>fun _=>False
theorem EC {o:Oper} {t:Act} {H H':ad} {v:Value} (hw:H.wf) (h1:i5 dT H H') (h3:sW P dT o t H v H'):w9 P (fun x=>x < H.next) o t H v H':=
 ⟨⟨h1.next,h1.wf,fun b hb hn=>absurd hb hn⟩,ach hw h3⟩
theorem acS {o:Oper} {t:Act} {H H':ad} {v:Value} (hw:H.wf) (gi:o.op.operands.all tY=true) (hh:oB P t.eval o.op H=.ok v H'):w9 P (Dc P t.eval o.op H.next) o t H v H':=by
 cases ho:o.op <;> rw [ho] at hh <;> simp only [oB] at hh <;> simp only [Dc] <;> try (cases hh;done)
 case makeMap ty r=>
  cases r with
  | none=>exact acm hw ho hh
  | some x=>cases hh
 case lookup ty x i ok=>
  obtain ⟨rfl,h⟩:=adE hw ho hh
  exact EC hw (.refl hw) h
 case mapUpdate ty x i y=>
  obtain ⟨h1,h2⟩:=ael hw ho hh
  exact EC hw h1 h2
 case move x=>
  cases hh
  exact pF hw fun σ a hx=>⟨_,hx x (by rw [ho];simp [Op.operands]),fun w=>by
   unfold execOp;rw [ho];rfl⟩
 case assign x=>
  cases hh
  exact pF hw fun σ a hx=>⟨_,hx x (by rw [ho];simp [Op.operands]),fun w=>by
   unfold execOp;rw [ho];rfl⟩
 case pick c x y=>
  obtain ⟨h',hk,rfl⟩:=oP hh
  clear hh;have hh:=hk;clear hk
  unfold C8 at hh
  split at hh
  ·rename_i b hb
   cases hh
   refine pF hw fun σ a hx=>?_
   have h1:=hx c (by rw [ho];simp [Op.operands])
   have h2:=hx x (by rw [ho];simp [Op.operands])
   have h3:=hx y (by rw [ho];simp [Op.operands])
   rw [hb] at h1
   refine ⟨if b then a.eval x else a.eval y,?_,fun w=>by
   unfold execOp;rw [ho];simp [h1.bool,asBool]⟩
   cases b
   ·exact h3
   ·exact h2
  ·cases hh
 case alloc e=>
  unfold C0 at hh
  split at hh
  ·rename_i z hz
   obtain ⟨i,zv,h1,h2,rfl,h3,h4⟩:=Ew hz
   refine NU hw hh fun σ w a hx=>⟨zv.cells,h4 σ,_,fun σ' hs=>.ptr ⟨hs,rfl⟩,?_⟩
   unfold execOp
   rw [ho]
   simp [Instr.alloc,h3,newVar,Hm]
  ·cases hh
 case box e x=>
  refine NU hw hh fun σ w a hx=>⟨(a.eval x).cells,(hx x (by rw [ho];simp [Op.operands])).cells,_,fun σ' hs=>.ptr ⟨hs,rfl⟩,?_⟩
  unfold execOp
  rw [ho]
  simp [Instr.box,newVar,Hm]
 case build ty ps=>
  have hp:∀(σ:bG) (a:Act),(∀x∈o.op.operands,VR σ (t.eval x) (a.eval x))->PL σ (parts t.eval ps.toList) (ps.map fun (i,x)=>(i,a.eval x)).toList:=fun σ a hx=>by
   have:=Sr (σ:=σ) (ρ:=t.eval) (ρ':=a.eval) (ps:=ps.toList) fun p hp=>hx p.2 (by rw [ho];simp [Op.operands];exact ⟨p.1,by simpa using hp⟩)
   simpa using this
  obtain ⟨h',hk,rfl⟩:=oP hh
  clear hh;have hh:=hk;clear hk
  exact pF hw fun σ a hx=>(acg hh (hp σ a hx)).2.exec (by
   unfold execOp;rw [ho])
 case buildSlice ty len ps=>
  unfold sw at hh
  split at hh
  ·rename_i e hu
   split at hh
   ·rename_i n z hn hz
    obtain ⟨i,zv,h1,h2,rfl,h3,h4⟩:=Ew hz
    split at hh
    rotate_left
    ·cases hh
    rename_i hc
    obtain ⟨eA,il,At⟩:=hc
    split at hh
    ·rename_i cs aX
     refine NU hw hh fun σ w a hx=>?_
     have hp:PL σ (parts t.eval ps.toList) (ps.map fun (i,x)=>(i,a.eval x)).toList:=by
      have:=Sr (σ:=σ) (ρ:=t.eval) (ρ':=a.eval) (ps:=ps.toList) fun p hp=>hx p.2 (by rw [ho];simp [Op.operands];exact ⟨p.1,by simpa using hp⟩)
      simpa using this
     have F1:zv.cells.size=n:=by simpa using At
     have yU:VL σ (ff zv.cells.toList len) ((Array.range (len * n)).map (fun i=>zv.cells[i % zv.cells.size]!)).toList:=by
      have:=QT zv.cells (by omega) len
      rw [F1] at this ⊢
      rw [this]
      have key:∀k,VL σ (ff zv.cells.toList k) (ff zv.cells.toList k):=by
       intro k
       induction k with
       | zero=>exact .nil σ
       | succ k ih=>exact (h4 σ).append ih
      exact key len
     obtain ⟨vw,c6,hv⟩:=Q5 hp aX yU
     refine ⟨vw,hv,.slice (some ⟨w.heap.size,0,none⟩) len len,fun σ' hs=>by simpa using VR.slice (n:=len) (c:=len) (o:=0) ⟨hs,rfl⟩,?_⟩
     have awi:¬(16777216 < len * n):=by omega
     have e0:∀f:Nat->Value,Array.map f (Array.range 0)=#[]:=fun _=>by apply Array.ext';simp
     have e:(Instr.buildSlice ty len (ps.map fun (i,x)=>(i,a.eval x))).run P w=.ok (.slice (some ⟨w.heap.size,0,none⟩) len len) (w.alloc (.cells vw e)):=by
      generalize (ps.map fun (i,x)=>(i,a.eval x))=I1 at c6
      simp only [Instr.buildSlice,Sem.run_bind,run_underlying hu,Result.andThen_ok,oi hn]
      by_cases h0:len * n=0
      ·rw [h0] at c6 ⊢
       rw [e0] at c6
       simp [e0,c6,Hm]
      ·have akN:¬(len * n > 2 ^ 24):=by simpa using eA
       rw [if_neg akN,if_neg h0]
       simp only [Sem.run_bind,h3,Result.andThen_ok,Sem.run_pure,c6,Hm]
     unfold execOp
     rw [ho]
     simp only [Sem.run_bind,e,Result.andThen_ok,Sem.run_pure]
    ·cases hh
   ·cases hh
  ·cases hh
 case load ty ao=>exact (X2 hw ho hh).2
 case store ty ao xo=>exact acP hw ho hh
 case nilCheck x=>
  obtain ⟨h',hk,rfl⟩:=oP hh
  clear hh;have hh:=hk;clear hk
  exact pF hw fun σ a hx=>(adt hh (hx x (by rw [ho];simp [Op.operands])) ho rfl).2
 case binOp op ty x y yt=>
  obtain ⟨h',hk,rfl⟩:=oP hh
  clear hh;have hh:=hk;clear hk
  unfold eC at hh
  split at hh
  ·rename_i v0 hv
   cases hh
   refine pF hw fun σ a hx=>(ads x y hv (hx x (by rw [ho];simp [Op.operands])) (hx y (by rw [ho];simp [Op.operands]))).exec ?_
   unfold execOp
   rw [ho]
  ·cases hh
 case unOp op ty x=>
  obtain ⟨h',hk,rfl⟩:=oP hh
  clear hh;have hh:=hk;clear hk
  exact pF hw fun σ a hx=>(aed hh (hx x (by rw [ho];simp [Op.operands]))).2.exec (by
   unfold execOp;rw [ho])
 case makeFunc fn first cap=>
  cases hh
  refine pF hw fun σ a hx=>?_
  have h1:=Ks (σ:=σ) (ρ:=t.eval) (ρ':=a.eval) (l:=first.toList) fun x fA=>hx x (by rw [ho];simp [Op.operands];exact .inl (by simpa using fA))
  have h2:=Ks (σ:=σ) (ρ:=t.eval) (ρ':=a.eval) (l:=cap.toList) fun x fA=>hx x (by rw [ho];simp [Op.operands];exact .inr (by simpa using fA))
  refine ⟨_,.func h1.xp.1 h2.xp.1 h1.xp.2 h2.xp.2,fun w=>?_⟩
  unfold execOp
  rw [ho]
  simp [Instr.makeFunc]
  constructor <;> (apply Array.ext';simp)
 case slice ty x lo hi mx=>
  obtain ⟨h',hk,rfl⟩:=oP hh
  clear hh;have hh:=hk;clear hk
  refine pF hw fun σ a hx=>(acf hh (hx x (by rw [ho];simp [Op.operands])) (RX (ρ':=a.eval) fun y hy=>hx y ?_) (RX (ρ':=a.eval) fun y hy=>hx y ?_) (RX (ρ':=a.eval) fun y hy=>hx y ?_)).2.exec (by
   unfold execOp;rw [ho])
  ·rw [ho];simp [Op.operands] at hy ⊢;simp [hy]
  ·rw [ho];simp [Op.operands] at hy ⊢;simp [hy]
  ·rw [ho];simp [Op.operands] at hy ⊢;simp [hy]
 case fieldAddr s x f=>
  obtain ⟨h',hk,rfl⟩:=oP hh
  clear hh;have hh:=hk;clear hk
  exact pF hw fun σ a hx=>(abL hh (hx x (by rw [ho];simp [Op.operands]))).2.exec (by
   unfold execOp;rw [ho])
 case field s x f=>
  obtain ⟨h',hk,rfl⟩:=oP hh
  clear hh;have hh:=hk;clear hk
  exact pF hw fun σ a hx=>(acd hh (hx x (by rw [ho];simp [Op.operands]))).2.exec (by
   unfold execOp;rw [ho])
 case indexAddr s x i=>
  obtain ⟨h',hk,rfl⟩:=oP hh
  clear hh;have hh:=hk;clear hk
  exact pF hw fun σ a hx=>(abM hh (hx x (by rw [ho];simp [Op.operands])) (hx i (by rw [ho];simp [Op.operands]))).2.exec (by
   unfold execOp;rw [ho])
 case index s x i=>
  obtain ⟨h',hk,rfl⟩:=oP hh
  clear hh;have hh:=hk;clear hk
  exact pF hw fun σ a hx=>(ace hh (hx x (by rw [ho];simp [Op.operands])) (hx i (by rw [ho];simp [Op.operands]))).2.exec (by
   unfold execOp;rw [ho])
 case extract x i=>
  obtain ⟨h',hk,rfl⟩:=oP hh
  clear hh;have hh:=hk;clear hk
  exact pF hw fun σ a hx=>(abT hh (hx x (by rw [ho];simp [Op.operands]))).2.exec (by
   unfold execOp;rw [ho])
 case makeSlice ty lo co=>
  unfold CU at hh
  split at hh
  ·rename_i e l c hu hl DP
   split at hh
   ·rename_i i z hi hz
    obtain ⟨i',zv,h1,h2,rfl,h3,h4⟩:=Ew hz
    obtain rfl:i'=i:=by rw [hi] at h1;exact (Option.some.inj h1).symm
    split at hh
    rotate_left
    ·cases hh
    rename_i hc
    obtain ⟨c1,c2,c3,c4,c5⟩:=hc
    refine NU hw hh fun σ w a hx=>?_
    have lX:=hx lo (by rw [ho];simp [Op.operands])
    have sY:=hx co (by rw [ho];simp [Op.operands])
    rw [hl] at lX
    rw [DP] at sY
    have F1:zv.cells.size=i'.size:=by simpa using c5
    have yU:VL σ (ff zv.cells.toList c) ((Array.range (c * i'.size)).map (fun i=>zv.cells[i % zv.cells.size]!)).toList:=by
     have:=QT zv.cells (by omega) c
     rw [F1] at this ⊢
     rw [this]
     have key:∀k,VL σ (ff zv.cells.toList k) (ff zv.cells.toList k):=by
      intro k
      induction k with
      | zero=>exact .nil σ
      | succ k ih=>exact (h4 σ).append ih
     exact key c
    refine ⟨_,yU,.slice (some ⟨w.heap.size,0,none⟩) l c,fun σ' hs=>by simpa using VR.slice (n:=l) (c:=c) (o:=0) ⟨hs,rfl⟩,?_⟩
    have wc:IntKind.i64.wrap (c:Int)=(c:Int):=J2 (n:=Int.ofNat c) (by rw [A8,blt_eq,decide_eq_true_eq];exact c4)
    have wl:IntKind.i64.wrap (l:Int)=(l:Int):=J2 (n:=Int.ofNat l) (by rw [A8,blt_eq,decide_eq_true_eq];exact Nat.lt_of_le_of_lt c1 c4)
    have w0:IntKind.i64.wrap 0=0:=rfl
    have t1:¬((c:Int) < 0):=by omega
    have t2:¬((281474976710656:Int) < i'.bytes * (c:Int)):=by
     have h5:((i'.bytes * c:Nat):Int)<=((281474976710656:Nat):Int):=Int.ofNat_le.2 c2
     rw [Int.natCast_mul] at h5
     omega
    have t3:¬((l:Int) < 0):=by omega
    have t4:¬((c:Int) < (l:Int)):=by omega
    unfold execOp
    rw [ho]
    by_cases h0:c * i'.size=0
    ·have j5:c=0:=by rcases Nat.mul_eq_zero.1 h0 with h | h <;> omega
     subst j5
     have B4:l=0:=by omega
     subst B4
     simp [Instr.makeSlice,run_underlying hu,lX.int,sY.int,asInt,asIntOf,typeInfo,hi,sizeOf,w0,Hm]
     have e0:∀f:Nat->Value,Array.map f (Array.range 0)=#[]:=fun _=>by apply Array.ext';simp
     rw [e0,e0]
    ·simp [Instr.makeSlice,run_underlying hu,lX.int,sY.int,asInt,asIntOf,typeInfo,hi,sizeOf,wc,wl,t2,t4,h0,h3,Hm]
     intro mh
     omega
   ·cases hh
  ·cases hh
 case convert s d x=>
  unfold oR at hh
  split at hh
  ·rename_i k k2 hs hd
   split at hh
   ·rename_i k3 n hxv
    cases hh
    rw [hs]
    refine pF hw fun σ a hx=>?_
    have h1:=hx x (by rw [ho];simp [Op.operands])
    rw [hxv] at h1
    refine ⟨.int k2 (pH k2 n),.same rfl,fun w=>?_⟩
    unfold execOp
    rw [ho]
    simp [convert,run_underlying hs,run_underlying hd,h1.int,Conv.intToInt,qu]
   ·cases hh
  ·rename_i e hs hd
   rw [hs]
   split at hh
   ·rename_i he
    obtain ⟨rfl,⟨xa,n,xc,hxa⟩,eu⟩:=abQ (P:=P) hh
    refine EC hw (.refl hw) (x0 fun σ w a hr hf hx=>?_)
    have h1:=hx x (by rw [ho];simp [Op.operands])
    obtain ⟨v',hv,dQ⟩:=eu σ w _ hr h1
    refine ⟨σ,v',w,.refl hr rfl,hv,.inl ?_⟩
    rw [hxa] at h1
    obtain ⟨a',c',eK,_⟩:=h1.tZ
    rw [eK] at dQ
    unfold execOp
    rw [ho]
    simp only [eK,Sem.run_bind,run_convert_bytes_string w s d e a' n c' hs he hd,dQ,Result.andThen_ok,Sem.run_pure]
   ·cases hh
  ·cases hh
 case call c=>
  unfold Im at hh
  split at hh
  ·rename_i f hf
   obtain ⟨h',hk,rfl⟩:=oP hh
   clear hh;have hh:=hk;clear hk
   unfold x9 at hh
   simp only [cond_eq_ite] at hh
   (repeat' split at hh) <;> cases hh
  ·rename_i b hb
   have hex:∀(a:Act),execOp a.eval o=builtin b c.argTypes o.type (c.args.map fun | .const _=>true | _=>false) (c.args.map a.eval):=fun a=>by
    unfold execOp
    rw [ho]
    simp only [resolve,hb]
    rfl
   have zX:∀(σ:bG) (a:Act),(∀x∈o.op.operands,VR σ (t.eval x) (a.eval x))->VL σ (pS t.eval c.args.toList) (c.args.map a.eval).toList:=fun σ a hx=>by
    have:=Ks (σ:=σ) (ρ:=t.eval) (ρ':=a.eval) (l:=c.args.toList) fun x fA=>hx x (by rw [ho];simp [Op.operands,Call.operands,hb];simpa using fA)
    simpa using this
   have one:∀{σ:bG} {x:Value} {ar:Array Value},VL σ [x] ar.toList->∃x',ar=#[x']/\VR σ x x':=fun h=>by
    obtain ⟨x',a',he,hx,ha⟩:=h.of_cons
    rw [ha.of_nil] at he
    exact ⟨x',by apply Array.ext';simpa using he,hx⟩
   have two:∀{σ:bG} {x y:Value} {ar:Array Value},VL σ [x,y] ar.toList->∃x' y',ar=#[x',y']/\VR σ x x'/\VR σ y y':=fun h=>by
    obtain ⟨x',a',he,hx,ha⟩:=h.of_cons
    obtain ⟨y',a2,im,hy,Ur⟩:=ha.of_cons
    rw [im,Ur.of_nil] at he
    exact ⟨x',y',by apply Array.ext';simpa using he,hx,hy⟩
   unfold LY at hh
   split at hh
   ·rename_i x yV
    split at hh
    ·rename_i t0 tl F4
     have L5:c.argTypes[0]?=some t0:=by rw [<-Array.getElem?_toList,F4];rfl
     obtain ⟨h',hk,rfl⟩:=oP hh
     clear hh;have hh:=hk;clear hk
     rw [hb]
     refine pF hw fun σ a hx=>?_
     have h1:=zX σ a hx
     rw [yV] at h1
     obtain ⟨x',he,dZ⟩:=one h1
     obtain ⟨v',hv,eu⟩:=(adu (P:=P) (ty:=o.type) hh dZ c.argTypes L5).2
     refine ⟨v',hv,fun w=>?_⟩
     rw [hex,he]
     simp [builtin,eu]
    ·cases hh
   ·rename_i s x yV
    split at hh
    ·rename_i t1 t2 F4
     split at hh
     ·rename_i e2 rW
      have F5:c.argTypes=#[t1,t2]:=by apply Array.ext';simpa using F4
      rw [hb]
      obtain ⟨dI,eu⟩:=ab0 (P:=P) (ty:=o.type) hw hh rW
      refine EC hw dI (x0 fun σ w a hr hf hx=>?_)
      have h1:=zX σ a hx
      rw [yV] at h1
      obtain ⟨s',x',he,dd,dZ⟩:=two h1
      obtain ⟨σ',v',w',hp,hv,dQ⟩:=eu σ w s' x' hr hf dd dZ
      refine ⟨σ',v',w',hp,hv,.inl ?_⟩
      rw [hex,he,F5]
      simp [builtin,dQ]
     ·cases hh
    ·cases hh
   ·rename_i d x yV
    split at hh
    ·rename_i t0 tl F4
     have L5:c.argTypes[0]?=some t0:=by rw [<-Array.getElem?_toList,F4];rfl
     rw [hb]
     obtain ⟨dI,eu⟩:=acQ (P:=P) (ty:=o.type) hw L5 hh
     refine EC hw dI (x0 fun σ w a hr hf hx=>?_)
     have h1:=zX σ a hx
     rw [yV] at h1
     obtain ⟨d',x',he,I4,dZ⟩:=two h1
     obtain ⟨v',w',hp,hv,dQ⟩:=eu σ w d' x' hr I4 dZ
     refine ⟨σ,v',w',hp,hv,.inl ?_⟩
     rw [hex,he]
     simp [builtin,dQ]
    ·cases hh
   ·rename_i x yV
    split at hh
    ·rename_i t0 tl F4
     have L5:c.argTypes[0]?=some t0:=by rw [<-Array.getElem?_toList,F4];rfl
     rw [hb]
     obtain ⟨dI,eu⟩:=ack (P:=P) (ty:=o.type) hw L5 hh
     refine EC hw dI (x0 fun σ w a hr hf hx=>?_)
     have h1:=zX σ a hx
     rw [yV] at h1
     obtain ⟨x',he,dZ⟩:=one h1
     obtain ⟨v',w',hp,hv,dQ⟩:=eu σ w x' hr dZ
     refine ⟨σ,v',w',hp,hv,.inl ?_⟩
     rw [hex,he]
     simp [builtin,dQ]
    ·cases hh
   ·rename_i x y yV
    obtain ⟨h',hk,rfl⟩:=oP hh
    clear hh;have hh:=hk;clear hk
    rw [hb]
    refine pF hw fun σ a hx=>?_
    have h1:=zX σ a hx
    rw [yV] at h1
    obtain ⟨x',y',he,dZ,UD⟩:=two h1
    obtain ⟨v',hv,eu⟩:=(XZ (P:=P) hh dZ UD c.argTypes o.type).2
    refine ⟨v',hv,fun w=>?_⟩
    rw [hex,he]
    simp only [Bool.false_eq_true,if_false] at eu
    simp [builtin,eu]
   ·rename_i x y yV
    obtain ⟨h',hk,rfl⟩:=oP hh
    clear hh;have hh:=hk;clear hk
    rw [hb]
    refine pF hw fun σ a hx=>?_
    have h1:=zX σ a hx
    rw [yV] at h1
    obtain ⟨x',y',he,dZ,UD⟩:=two h1
    obtain ⟨v',hv,eu⟩:=(XZ (P:=P) hh dZ UD c.argTypes o.type).2
    refine ⟨v',hv,fun w=>?_⟩
    rw [hex,he]
    simp only [if_true] at eu
    simp [builtin,eu]
   ·cases hh
  ·cases hh
end
end Go.Proofs.YtinjmfblebpnnaaGreat.Ab
