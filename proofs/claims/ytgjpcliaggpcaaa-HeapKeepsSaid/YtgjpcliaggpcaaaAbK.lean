/- An evaluator over an abstract heap, that the kernel runs. -/
import Derived.Orders
import Derived.KernelRfl
set_option linter.unusedVariables false
set_option linter.unusedSimpArgs false
namespace Go.Proofs.Ytgjpcliaggpcaaa.Ab
open Go

inductive Tr (α : Type) where
  | lf
  | nd (v : Option α) (l r : Tr α)

namespace Tr
variable {α : Type}
noncomputable def get (t : Tr α) : Nat → Option α :=
  Tr.rec (motive := fun _ => Nat → Option α) (fun _ => none)
    (fun v _ _ gl gr n => Nat.rec (motive := fun _ => Option α) v (fun m _ => Bool.rec (motive := fun _ => Option α) (gr (Nat.div m (nat_lit 2))) (gl (Nat.div m (nat_lit 2))) (Nat.beq (Nat.mod m (nat_lit 2)) (nat_lit 0))) n) t
/-- Laid open. -/
noncomputable def opn (t : Tr α) {β : Type} (k : Option α → Tr α → Tr α → β) : β := Tr.rec (motive := fun _ => β) (k none .lf .lf) (fun v l r _ _ => k v l r) t
/-- Brought to a head before it is handed on. -/
noncomputable def now (t : Tr α) {β : Type} (k : Tr α → β) : β := Tr.rec (motive := fun _ => β) (k .lf) (fun v l r _ _ => k (.nd v l r)) t
noncomputable def put (f : Nat) : Tr α → Nat → Option α → Tr α :=
  Nat.rec (motive := fun _ => Tr α → Nat → Option α → Tr α) (fun t _ _ => t)
    (fun _ ih t n a => t.opn fun v l r => Nat.rec (motive := fun _ => Tr α) (.nd a l r)
      (fun m _ => Bool.rec (motive := fun _ => Tr α) ((ih r (Nat.div m (nat_lit 2)) a).now fun r => .nd v l r) ((ih l (Nat.div m (nat_lit 2)) a).now fun l => .nd v l r) (Nat.beq (Nat.mod m (nat_lit 2)) (nat_lit 0))) n) f
end Tr

structure KB where
  cs : Tr Value
  len : Nat
  elem : Nat
  opn : Bool

structure KH where
  hp : Tr KB
  nx : Nat
  wr : Nat

/-- A number brought to a literal. -/
noncomputable def frc {β : Type} (n : Nat) (k : Nat → β) : β := Nat.rec (motive := fun _ => β) (k 0) (fun m _ => k (Nat.succ m)) n

noncomputable def frcI {β : Type} (n : Int) (k : Int → β) : β := match n with
  | .ofNat n => frc n fun n => k (.ofNat n)
  | .negSucc n => frc n fun n => k (.negSucc n)

noncomputable def frcV {β : Type} (v : Value) (k : Value → β) : β := match v with
  | .int x n => frcI n fun n => k (.int x n)
  | .bool b => Bool.rec (motive := fun _ => β) (k (.bool false)) (k (.bool true)) b
  | .pointer (some ⟨b, o, none⟩) => frc b fun b => frc o fun o => k (.pointer (some ⟨b, o, none⟩))
  | .slice (some ⟨b, o, none⟩) n c => frc b fun b => frc o fun o => frc n fun n => frc c fun c => k (.slice (some ⟨b, o, none⟩) n c)
  | v => k v

def iLt : Int → Int → Bool
  | .ofNat a, .ofNat b => Nat.blt a b
  | .ofNat _, .negSucc _ => false
  | .negSucc _, .ofNat _ => true
  | .negSucc a, .negSucc b => Nat.blt b a
def iEq : Int → Int → Bool
  | .ofNat a, .ofNat b => Nat.beq a b
  | .negSucc a, .negSucc b => Nat.beq a b
  | _, _ => false
def fitsI64 : Int → Bool
  | .ofNat a => Nat.blt a 9223372036854775808
  | .negSucc a => Nat.blt a 9223372036854775808
def wrapK (k : IntKind) (n : Int) : Int := match k with
  | .i64 => bif fitsI64 n then n else IntKind.wrap .i64 n
  | .u8 => match n with
    | .ofNat a => bif Nat.blt a 256 then n else IntKind.wrap .u8 n
    | _ => IntKind.wrap .u8 n
  | .u64 => match n with
    | .ofNat a => bif Nat.blt a 18446744073709551616 then n else IntKind.wrap .u64 n
    | _ => IntKind.wrap .u64 n
  | k => IntKind.wrap k n

noncomputable def bytesEq (x : List UInt8) : List UInt8 → Bool :=
  List.rec (motive := fun _ => List UInt8 → Bool) (fun y => List.rec (motive := fun _ => Bool) true (fun _ _ _ => false) y)
    (fun a _ ih y => List.rec (motive := fun _ => Bool) false (fun b ys _ => Bool.rec (motive := fun _ => Bool) false (ih ys) (Nat.beq a.toNat b.toNat)) y) x
noncomputable def lGet {α : Type} (l : List α) : Nat → Option α :=
  List.rec (motive := fun _ => Nat → Option α) (fun _ => none) (fun a _ ih n => Nat.rec (motive := fun _ => Option α) (some a) (fun m _ => ih m) n) l
noncomputable def lDrop {α : Type} (l : List α) : Nat → List α :=
  List.rec (motive := fun _ => Nat → List α) (fun _ => []) (fun a t ih n => Nat.rec (motive := fun _ => List α) (a :: t) (fun m _ => ih m) n) l
noncomputable def lTake {α : Type} (l : List α) : Nat → List α :=
  List.rec (motive := fun _ => Nat → List α) (fun _ => []) (fun a t ih n => Nat.rec (motive := fun _ => List α) [] (fun m _ => a :: ih m) n) l
noncomputable def lLen {α : Type} (l : List α) : Nat := List.rec (motive := fun _ => Nat) 0 (fun _ _ n => Nat.succ n) l

/-- The bits of a number. -/
def bitsK (k : IntKind) (a : Int) : Nat := match a with
  | .ofNat n => n % 2 ^ k.bits
  | .negSucc n => (Int.negSucc n % ((2 ^ k.bits : Nat) : Int)).toNat

noncomputable def shiftK (op : BinOp) (k : IntKind) (a b : Int) : Option Value := match b with
  | .ofNat b => match op with
    | .shl => some (.int k (wrapK k (a * Int.ofNat (2 ^ (bif Nat.ble b k.bits then b else k.bits)))))
    | .shr => some (.int k (a.fdiv (Int.ofNat (2 ^ (bif Nat.ble b k.bits then b else k.bits)))))
    | _ => none
  | _ => none

noncomputable def intK (op : BinOp) (k : IntKind) (a b : Int) : Option Value := match op with
  | .add => some (.int k (wrapK k (a + b)))
  | .sub => some (.int k (wrapK k (a - b)))
  | .mul => some (.int k (wrapK k (a * b)))
  | .quo => bif iEq b 0 then none else some (.int k (wrapK k (a.tdiv b)))
  | .rem => bif iEq b 0 then none else some (.int k (a.tmod b))
  | .eql => some (.bool (iEq a b))
  | .neq => some (.bool (!iEq a b))
  | .lss => some (.bool (iLt a b))
  | .leq => some (.bool (!iLt b a))
  | .gtr => some (.bool (iLt b a))
  | .geq => some (.bool (!iLt a b))
  | .and => some (.int k (wrapK k (.ofNat (Nat.land (bitsK k a) (bitsK k b)))))
  | .or => some (.int k (wrapK k (.ofNat (Nat.lor (bitsK k a) (bitsK k b)))))
  | .xor => some (.int k (wrapK k (.ofNat (Nat.xor (bitsK k a) (bitsK k b)))))
  | .andNot => some (.int k (wrapK k (.ofNat (Nat.land (bitsK k a) (2 ^ k.bits - 1 - bitsK k b)))))
  | _ => none

noncomputable def strK (op : BinOp) (a b : ByteArray) : Option Value := match op with
  | .add => bif Nat.blt (lLen a.data.toList + lLen b.data.toList) 4611686018427387904 then some (.string ⟨(a.data.toList ++ b.data.toList).toArray⟩) else none
  | .eql => some (.bool (bytesEq a.data.toList b.data.toList))
  | .neq => some (.bool (!bytesEq a.data.toList b.data.toList))
  | _ => none

/-- What an operation comes to. -/
inductive KO where
  | no
  | ok (v : Value) (h : KH)
  | call (f : FuncId) (args : Array Value)

section
variable (P : Program)

noncomputable def isAggK (t : TypeId) : Option Bool := match P.underlying t with
  | some (.struct _) | some (.array _ _) => some true
  | some _ => some false
  | none => none
noncomputable def sizeK (t : TypeId) : Option Nat := match P.info? t with
  | some i => some i.size
  | none => none

/-- n cells from one on. -/
noncomputable def cellsK (cs : Tr Value) (n : Nat) : Nat → Option (List Value) :=
  Nat.rec (motive := fun _ => Nat → Option (List Value)) (fun _ => some []) (fun _ ih o => match cs.get o with
    | some v => match ih (Nat.succ o) with
      | some l => some (v :: l)
      | none => none
    | none => none) n

/-- A block that is there. -/
noncomputable def getB (h : KH) (b : Nat) : Option KB := bif Nat.blt b h.nx && Nat.blt b 1073741824 then h.hp.get b else none

noncomputable def loadK (ty : TypeId) (v : Value) (h : KH) : KO := match v with
  | .pointer (some ⟨b, o, none⟩) => match getB h b with
    | some B => match isAggK P ty with
      | some true => match sizeK P ty with
        | some n => bif Nat.ble (o + n) B.len then (match cellsK B.cs n o with
          | some l => .ok (.agg l.toArray) h
          | none => .no) else .no
        | none => .no
      | some false => bif Nat.blt o B.len then (match B.cs.get o with
        | some v => .ok v h
        | none => .no) else .no
      | none => .no
    | none => .no
  | _ => .no

/-- Values of one cell. -/
noncomputable def oneK (v : Value) : Bool := match v with
  | .agg _ => false
  | .tuple _ => false
  | _ => true
noncomputable def onesK (l : List Value) : Bool := List.rec (motive := fun _ => Bool) true (fun v _ r => Bool.rec (motive := fun _ => Bool) false r (oneK v)) l

noncomputable def putsK (vs : List Value) : Tr Value → Nat → Tr Value :=
  List.rec (motive := fun _ => Tr Value → Nat → Tr Value) (fun t _ => t) (fun v _ ih t o => frcV v fun v => (t.put 40 o (some v)).now fun t => ih t (Nat.succ o)) vs

noncomputable def writeK (b o : Nat) (vs : List Value) (v : Value) (h : KH) : KO := match getB h b with
  | some B => bif Nat.ble (o + lLen vs) B.len && Nat.blt B.len 1073741824 && onesK vs then
      (putsK vs B.cs o).now fun cs => (h.hp.put 40 b (some ⟨cs, B.len, B.elem, B.opn⟩)).now fun hp => frc (Nat.lor h.wr (2 ^ b)) fun wr => .ok v ⟨hp, h.nx, wr⟩
    else .no
  | none => .no

noncomputable def storeK (ty : TypeId) (a x : Value) (h : KH) : KO := match a with
  | .pointer (some ⟨b, o, none⟩) => match sizeK P ty with
    | some n => bif Nat.beq (lLen x.cells.toList) n then writeK b o x.cells.toList undef h else .no
    | none => .no
  | _ => .no

noncomputable def newK (cs : List Value) (elem : TypeId) (opn : Bool) (k : Nat → Value) (h : KH) : KO :=
  frc (lLen cs) fun n => bif Nat.blt n 1073741824 && Nat.blt h.nx 1073741824 then
    (putsK cs .lf 0).now fun t => (h.hp.put 40 h.nx (some ⟨t, n, elem, opn⟩)).now fun hp => frc (Nat.succ h.nx) fun nx => .ok (k h.nx) ⟨hp, nx, h.wr⟩
  else .no

noncomputable def ptrTo (b : Nat) : Value := .pointer (some ⟨b, 0, none⟩)

/-- Values without an address. -/
def flat : Value → Bool
  | .bool _ | .int _ _ | .float _ _ | .complex _ _ _ | .string _ | .pointer none | .slice none _ _ | .map none | .chan none | .nilFunc | .nilIface => true
  | _ => false
/-- Cells that mean the same wherever. -/
def flats (l : List Value) : Bool := l.all flat

/-- Operands that mean the same on both sides. -/
def okOperand : Operand → Bool
  | .tmp _ | .func _ => true
  | .const v => flat v
  | .global _ => false

noncomputable def zeroK (t : TypeId) : Option (List Value) := match P.info? t with
  | some i => match i.zero with
    | some z => bif flats z.cells.toList then some z.cells.toList else none
    | none => none
  | none => none

noncomputable def nCells (z : List Value) (n : Nat) : List Value := Nat.rec (motive := fun _ => List Value) [] (fun _ l => z ++ l) n

noncomputable def spliceK (cs : List Value) (o : Nat) (vs : List Value) : List Value := lTake cs o ++ (vs ++ lDrop cs (o + lLen vs))

noncomputable def fillK (place : Nat → Option (Nat × Nat)) (parts : List (Nat × Value)) : List Value → Option (List Value) :=
  List.rec (motive := fun _ => List Value → Option (List Value)) (fun cs => some cs) (fun p _ ih cs => match place p.1 with
    | some (off, size) => bif Nat.beq (lLen p.2.cells.toList) size && Nat.ble (off + size) (lLen cs) then ih (spliceK cs off p.2.cells.toList) else none
    | none => none) parts

noncomputable def placesK (fs : List Field) : Option (List (Nat × Nat)) :=
  List.rec (motive := fun _ => Option (List (Nat × Nat))) (some []) (fun f _ r => match sizeK P f.type, r with
    | some n, some l => some ((f.offset, n) :: l)
    | _, _ => none) fs

noncomputable def buildK (t : TypeId) (parts : List (Nat × Value)) (h : KH) : KO := match zeroK P t, P.underlying t with
  | some z, some (.struct fs) => match placesK P fs.toList with
    | some pl => match fillK (fun i => lGet pl i) parts z with
      | some cs => .ok (.agg cs.toArray) h
      | none => .no
    | none => .no
  | some z, some (.array _ e) => match sizeK P e with
    | some n => match fillK (fun i => some (i * n, n)) parts z with
      | some cs => .ok (.agg cs.toArray) h
      | none => .no
    | none => .no
  | _, _ => .no

noncomputable def buildSliceK (t : TypeId) (len : Nat) (parts : List (Nat × Value)) (h : KH) : KO := match P.underlying t with
  | some (.slice e) => match sizeK P e, zeroK P e with
    | some n, some z => bif Nat.ble (len * n) 16777216 && Nat.blt 0 n && Nat.beq (lLen z) n then (match fillK (fun i => some (i * n, n)) parts (nCells z len) with
      | some cs => newK cs e false (fun b => .slice (some ⟨b, 0, none⟩) len len) h
      | none => .no) else .no
    | _, _ => .no
  | _ => .no

noncomputable def makeSliceK (t : TypeId) (l c : Value) (h : KH) : KO := match P.underlying t, l, c with
  | some (.slice e), .int .i64 (.ofNat l), .int .i64 (.ofNat c) => match P.info? e, zeroK P e with
    | some i, some z => bif Nat.ble l c && Nat.ble (i.bytes * c) 281474976710656 && Nat.blt 0 i.size && Nat.blt c 9223372036854775808 && Nat.beq (lLen z) i.size then newK (nCells z c) e false (fun b => .slice (some ⟨b, 0, none⟩) l c) h else .no
    | _, _ => .no
  | _, _, _ => .no

noncomputable def fieldAddrK (s : TypeId) (a : Value) (f : Nat) (h : KH) : KO := match a, P.underlying s with
  | .pointer (some ⟨b, o, none⟩), some (.struct fs) => match lGet fs.toList f with
    | some f => match sizeK P f.type with
      | some n => bif Nat.blt 0 n then .ok (.pointer (some ⟨b, o + f.offset, none⟩)) h else .no
      | none => .no
    | none => .no
  | _, _ => .no

noncomputable def indexAddrK (t : TypeId) (x i : Value) (h : KH) : KO := match P.underlying t, x, i with
  | some (.slice e), .slice (some ⟨b, o, none⟩) n _, .int _ (.ofNat i) => match sizeK P e with
    | some s => bif Nat.blt i n then .ok (.pointer (some ⟨b, o + i * s, none⟩)) h else .no
    | none => .no
  | some (.array n e), .pointer (some ⟨b, o, none⟩), .int _ (.ofNat i) => match sizeK P e with
    | some s => bif Nat.blt i n then .ok (.pointer (some ⟨b, o + i * s, none⟩)) h else .no
    | none => .no
  | _, _, _ => .no

noncomputable def partK (t : TypeId) (cs : List Value) (off : Nat) : Option Value := match isAggK P t with
  | some true => match sizeK P t with
    | some n => some (.agg (lTake (lDrop cs off) n).toArray)
    | none => none
  | some false => lGet cs off
  | none => none

noncomputable def eqBool (x y : Value) : Option Bool := match x, y with
  | .bool a, .bool b => some (a == b)
  | _, _ => none
noncomputable def eqInt (x y : Value) : Option Bool := match x, y with
  | .int j a, .int k b => bif decide (j = k) then some (iEq a b) else none
  | _, _ => none
noncomputable def eqStr (x y : Value) : Option Bool := match x, y with
  | .string a, .string b => some (bytesEq a.data.toList b.data.toList)
  | _, _ => none
noncomputable def eqSlice (x y : Value) : Option Bool := match x, y with
  | .slice a _ _, .slice b _ _ => bif a.isNone then some b.isNone else bif b.isNone then some false else none
  | _, _ => none
noncomputable def eqPtr (x y : Value) : Option Bool := match x, y with
  | .pointer a, .pointer b => bif a.isNone then some b.isNone else bif b.isNone then some false else none
  | _, _ => none

noncomputable def eqFieldsK (eq : TypeId → Value → Value → Option Bool) (xs ys : List Value) (fs : List Field) : Option Bool :=
  List.rec (motive := fun _ => Option Bool) (some true) (fun f _ r => bif decide (f.name = "_") then none else match partK P f.type xs f.offset, partK P f.type ys f.offset with
    | some a, some b => match eq f.type a b with
      | some true => r
      | some false => some false
      | none => none
    | _, _ => none) fs

noncomputable def eqK (d : Nat) : TypeId → Value → Value → Option Bool :=
  Nat.rec (motive := fun _ => TypeId → Value → Value → Option Bool) (fun _ _ _ => none) (fun _ eq t x y => match P.underlying t with
    | some .bool => eqBool x y
    | some (.int _) => eqInt x y
    | some .string => eqStr x y
    | some (.slice _) => eqSlice x y
    | some (.pointer _) => eqPtr x y
    | some (.struct fs) => match x, y with
      | .agg xs, .agg ys => bif P.stoodInHeld t || P.eqGuardType P.depth t then none else eqFieldsK P eq xs.toList ys.toList fs.toList
      | _, _ => none
    | _ => none) d

noncomputable def binK (op : BinOp) (t : TypeId) (x y : Value) : Option Value := match x, y with
  | .int k a, .int k' b => match op with
    | .shl => shiftK .shl k a b
    | .shr => shiftK .shr k a b
    | op => bif decide (k = k') then intK op k a b else none
  | .string a, .string b => strK op a b
  | .int _ _, _ => none
  | .string _, _ => none
  | x, y => match op with
    | .eql => (eqK P 10000 t x y).map .bool
    | .neq => (eqK P 10000 t x y).map fun b => .bool (!b)
    | _ => none

noncomputable def fieldK (t : TypeId) (x : Value) (f : Nat) (h : KH) : KO := match x, P.underlying t with
  | .agg cs, some (.struct fs) => match lGet fs.toList f with
    | some f => match partK P f.type cs.toList f.offset with
      | some v => .ok v h
      | none => .no
    | none => .no
  | _, _ => .no

noncomputable def indexK (t : TypeId) (x i : Value) (h : KH) : KO := match P.underlying t, x, i with
  | some .string, .string s, .int _ (.ofNat i) => match lGet s.data.toList i with
    | some c => .ok (.int .u8 (.ofNat c.toNat)) h
    | none => .no
  | some (.array n e), .agg cs, .int _ (.ofNat i) => match sizeK P e with
    | some s => bif Nat.blt i n then (match partK P e cs.toList (i * s) with
      | some v => .ok v h
      | none => .no) else .no
    | none => .no
  | _, _, _ => .no

noncomputable def bndK (x : Option Value) (d : Nat) (k : Nat → KO) : KO := match x with
  | none => k d
  | some (.int _ (.ofNat n)) => k n
  | _ => .no

noncomputable def sliceK (t : TypeId) (x : Value) (lo hi mx : Option Value) (h : KH) : KO := match P.underlying t, x, mx with
  | some .string, .string s, none => bndK lo 0 fun l => bndK hi (lLen s.data.toList) fun r =>
      bif Nat.ble l r && Nat.ble r (lLen s.data.toList) then .ok (.string ⟨(lTake (lDrop s.data.toList l) (r - l)).toArray⟩) h else .no
  | some (.slice e), .slice none n c, none => match sizeK P e with
    | some _ => bndK lo 0 fun l => bndK hi n fun r => bif Nat.ble l r && Nat.ble r c && Nat.beq c 0 then .ok (.slice none (r - l) (c - l)) h else .no
    | none => .no
  | some (.slice e), .slice (some ⟨b, o, none⟩) n c, none => match sizeK P e with
    | some s => bndK lo 0 fun l => bndK hi n fun r =>
      bif Nat.ble l r && Nat.ble r c then (bif Nat.blt l c || Nat.beq l 0 then .ok (.slice (some ⟨b, o + l * s, none⟩) (r - l) (c - l)) h else .ok (.slice (some ⟨b, o, some 0⟩) (r - l) 0) h) else .no
    | none => .no
  | some (.slice e), .slice (some ⟨b, o, some s⟩) n _, none => match sizeK P e with
    | some _ => bndK lo 0 fun l => bndK hi n fun r => bif Nat.beq l 0 && Nat.beq r 0 then .ok (.slice (some ⟨b, o, some s⟩) 0 0) h else .no
    | none => .no
  | some (.slice e), .slice (some ⟨b, o, none⟩) n c, some m => match sizeK P e with
    | some _ => bndK lo 0 fun l => bndK (some (hi.getD undef)) n fun r => bndK (some m) c fun m => bif Nat.ble l r && Nat.ble r m && Nat.ble m c then .ok (.slice (some ⟨b, o, some 0⟩) (r - l) 0) h else .no
    | none => .no
  | _, _, _ => .no

/-- The cells of a slice, or a string. -/
noncomputable def srcK (size : Nat) (x : Value) (h : KH) : Option (Nat × List Value) := match x with
  | .slice none n _ => bif Nat.beq n 0 then some (0, []) else none
  | .slice (some ⟨b, o, none⟩) n _ => match getB h b with
    | some B => bif Nat.ble (o + n * size) B.len then (match cellsK B.cs (n * size) o with
      | some l => some (n, l)
      | none => none) else none
    | none => none
  | _ => none

noncomputable def growK (e : TypeId) (size sl n b : Nat) (B : KB) (new : List Value) (h : KH) : KO :=
  bif Nat.blt ((sl + n) * size) 1073741824 && Nat.blt h.nx 1073741824 then
    (putsK new B.cs (sl * size)).now fun cs => frc ((sl + n) * size) fun len => (h.hp.put 40 b none).now fun hp => (hp.put 40 h.nx (some ⟨cs, len, e, true⟩)).now fun hp => frc (Nat.lor h.wr (2 ^ b)) fun wr => frc (Nat.succ h.nx) fun nx =>
      .ok (.slice (some ⟨h.nx, 0, none⟩) (sl + n) (sl + n)) ⟨hp, nx, wr⟩
  else .no

noncomputable def appendK (t : TypeId) (s x : Value) (h : KH) : KO := match P.underlying t with
  | some (.slice e) => match P.info? e, zeroK P e with
    | some i, some z => match srcK i.size x h with
      | some (n, new) => bif Nat.beq (lLen z) i.size && Nat.blt (n * i.bytes) 140737488355328 && Nat.blt n 9223372036854775808 && Nat.blt 0 i.bytes then (match s with
        | .slice none sl sc => bif Nat.beq sl 0 && Nat.beq sc 0 then
            (bif Nat.beq n 0 then .ok s h else newK new e true (fun b => .slice (some ⟨b, 0, none⟩) n n) h) else .no
        | .slice (some ⟨b, o, none⟩) sl sc => match getB h b with
          | some B => bif Nat.ble (sl + n) sc then
              (bif Nat.ble (o + sc * i.size) B.len then writeK b (o + sl * i.size) new (.slice (some ⟨b, o, none⟩) (sl + n) sc) h else .no)
            else bif Nat.blt ((sl + n) * i.bytes) 140737488355328 && Nat.blt (sl + n) 9223372036854775808 && Nat.beq (o + sc * i.size) B.len && Nat.ble sl sc && Nat.beq B.elem e then
              (bif B.opn then
                  -- in its place, or not: nobody reads the old block any more
                  (bif Nat.beq o 0 && onesK new then growK e i.size sl n b B new h else .no)
                else (match cellsK B.cs (sl * i.size) o with
                  | some old => newK (old ++ new) e true (fun b => .slice (some ⟨b, 0, none⟩) (sl + n) (sl + n)) h
                  | none => .no))
            else .no
          | none => .no
        | _ => .no) else .no
      | none => .no
    | _, _ => .no
  | _ => .no

noncomputable def copyK (t : TypeId) (d x : Value) (h : KH) : KO := match P.underlying t with
  | some (.slice e) => match sizeK P e, d, x with
    | some size, .slice (some ⟨b, o, none⟩) dn _, .slice (some ⟨b2, o2, none⟩) n _ => frc (bif Nat.ble n dn then n else dn) fun m => match getB h b2 with
      | some B => bif Nat.ble (o2 + m * size) B.len then (match cellsK B.cs (m * size) o2 with
        | some l => writeK b o l (.int .i64 (.ofNat m)) h
        | none => .no) else .no
      | none => .no
    | some _, .slice a dn _, .slice a2 n _ => bif Nat.beq dn 0 || Nat.beq n 0 then .ok (.int .i64 (.ofNat 0)) h else .no
    | _, _, _ => .no
  | _ => .no

noncomputable def lenK (t : TypeId) (x : Value) (h : KH) : KO := match P.underlying t, x with
  | some .string, .string s => .ok (.int .i64 (.ofNat (lLen s.data.toList))) h
  | some (.slice _), .slice _ n _ => .ok (.int .i64 (.ofNat n)) h
  | _, _ => .no

noncomputable def minK (mx : Bool) (x y : Value) (h : KH) : KO := match x, y with
  | .int k a, .int _ b => bif mx then .ok (.int k (bif iLt a b then b else a)) h else .ok (.int k (bif iLt b a then b else a)) h
  | _, _ => .no

noncomputable def bytesK (l : List Value) : Option (List Int) := List.rec (motive := fun _ => Option (List Int)) (some []) (fun v _ r => match v, r with
  | .int .u8 n, some l => some (n :: l)
  | _, _ => none) l

noncomputable def toStringK (x : Value) (h : KH) : KO := match srcK 1 x h with
  | some (_, l) => match bytesK l with
    | some ns => .ok (.string ⟨(List.rec (motive := fun _ => List UInt8) [] (fun n _ r => UInt8.ofNat n.toNat :: r) ns).toArray⟩) h
    | none => .no
  | none => .no

noncomputable def convK (src dst : TypeId) (x : Value) (h : KH) : KO := match P.underlying src, P.underlying dst, x with
  | some (.int _), some (.int k), .int _ n => .ok (.int k (wrapK k n)) h
  | some (.slice e), some .string, x => match P.underlying e with
    | some (.int .u8) => toStringK x h
    | _ => .no
  | _, _, _ => .no

noncomputable def unK (op : UnOp) (x : Value) (h : KH) : KO := match op, x with
  | .not, .bool b => .ok (.bool (!b)) h
  | .neg, .int k n => .ok (.int k (wrapK k (0 - n))) h
  | _, _ => .no

noncomputable def callK (f : Value) (args : Array Value) : KO := match f with
  | .func (.func g) first cap => match P.funcs[g]? with
    | some fn => bif decide (fn.name = "runtime.NumGoroutine") || fn.body.isNone then .no else .call g ((first.toList ++ args.toList) ++ cap.toList).toArray
    | none => .no
  | _ => .no

noncomputable def biK (b : Builtin) (ts : Array TypeId) (args : List Value) (h : KH) : KO := match b, args with
  | .len, [x] => match ts.toList with
    | t :: _ => lenK P t x h
    | _ => .no
  | .append, [s, x] => match ts.toList with
    | [t, t2] => match P.underlying t2 with
      | some (.slice _) => appendK P t s x h
      | _ => .no
    | _ => .no
  | .copy, [d, x] => match ts.toList with
    | t :: _ => copyK P t d x h
    | _ => .no
  | .min, [x, y] => minK false x y h
  | .max, [x, y] => minK true x y h
  | _, _ => .no

noncomputable def pickK (c a b : Value) (h : KH) : KO := match c with
  | .bool c => .ok (Bool.rec (motive := fun _ => Value) b a c) h
  | _ => .no

noncomputable def nilK (x : Value) (h : KH) : KO := match x with
  | .pointer (some a) => .ok x h
  | .func (.func _) _ _ => .ok x h
  | _ => .no

noncomputable def binO (op : BinOp) (t : TypeId) (x y : Value) (h : KH) : KO := match binK P op t x y with
  | some v => .ok v h
  | none => .no

noncomputable def evs (ev : Operand → Value) (l : List Operand) : List Value := List.rec (motive := fun _ => List Value) [] (fun x _ r => ev x :: r) l

noncomputable def callO (ev : Operand → Value) (c : Call) (h : KH) : KO := match c.callee with
  | .value f => callK P (ev f) (evs ev c.args.toList).toArray
  | .builtin b => biK P b c.argTypes (evs ev c.args.toList) h
  | _ => .no

noncomputable def parts (ev : Operand → Value) (l : List (Nat × Operand)) : List (Nat × Value) := List.rec (motive := fun _ => List (Nat × Value)) [] (fun x _ r => (x.1, ev x.2) :: r) l

noncomputable def allocO (t : TypeId) (h : KH) : KO := match zeroK P t with
  | some z => newK z t false ptrTo h
  | none => .no

noncomputable def extractO (x : Value) (i : Nat) (h : KH) : KO := match x with
  | .tuple vs => match lGet vs.toList i with
    | some v => .ok v h
    | none => .no
  | _ => .no

noncomputable def opK (ev : Operand → Value) (op : Op) (h : KH) : KO := match op with
  | .move x => .ok (ev x) h
  | .assign x => .ok (ev x) h
  | .pick c a b => pickK (ev c) (ev a) (ev b) h
  | .alloc t => allocO P t h
  | .box t x => newK (ev x).cells.toList t false ptrTo h
  | .build t ps => buildK P t (parts ev ps.toList) h
  | .buildSlice t n ps => buildSliceK P t n (parts ev ps.toList) h
  | .load t a => loadK P t (ev a) h
  | .store t a x => storeK P t (ev a) (ev x) h
  | .nilCheck x => nilK (ev x) h
  | .binOp op t x y _ => binO P op t (ev x) (ev y) h
  | .unOp op _ x => unK op (ev x) h
  | .convert s d x => convK P s d (ev x) h
  | .makeFunc f first cap => .ok (.func f (evs ev first.toList).toArray (evs ev cap.toList).toArray) h
  | .makeSlice t l c => makeSliceK P t (ev l) (ev c) h
  | .slice t x lo hi mx => sliceK P t (ev x) (lo.map ev) (hi.map ev) (mx.map ev) h
  | .fieldAddr s x f => fieldAddrK P s (ev x) f h
  | .field t x f => fieldK P t (ev x) f h
  | .indexAddr t x i => indexAddrK P t (ev x) (ev i) h
  | .index t x i => indexK P t (ev x) (ev i) h
  | .extract t i => extractO (ev t) i h
  | .call c => callO P ev c h
  | _ => .no

/-- What an operation uses: a block; nothing (some none); whatever (none). -/
noncomputable def footK (ev : Operand → Value) (op : Op) : Option (Option Nat) := match op with
  | .load _ a => match ev a with
    | .pointer (some ⟨b, _, _⟩) => some (some b)
    | _ => some none
  | .store _ a _ => match ev a with
    | .pointer (some ⟨b, _, _⟩) => some (some b)
    | _ => some none
  | .convert _ _ _ => none
  | .call _ => none
  | _ => some none

noncomputable def evK (tm : Tr Value) (x : Operand) : Value := match x with
  | .tmp t => match tm.get t with
    | some v => v
    | none => undef
  | .const v => v
  | .func f => .func (.func f) #[] #[]
  | .global g => .pointer (some ⟨g, 0, none⟩)

/-- Calls that were taken as told: their function, arguments and answer. -/
abbrev Lg := List (Nat × Array Value × Value)

/-- What code comes to. -/
inductive CR where
  | no (why : Nat)
  | nrm (tm : Tr Value) (h : KH) (g : Lg)
  | ret (tm : Tr Value) (h : KH) (g : Lg)
  | ext (id : Nat) (tm : Tr Value) (h : KH) (g : Lg)

/-- A call that is taken as told: of a function, by its second argument; which functions' code may be run; and what is known of calls ('nt': proved once, for all that it speaks of). -/
structure Ov where
  fn : Nat
  arg : Nat
  val : Nat
  may : Nat
  nt : FuncId → Array Value → KH → Option (Value × KH)

noncomputable def ovK (o : Ov) (f : Nat) (args : Array Value) : Option Value := bif Nat.beq f o.fn then (match args.toList with
    | [_, .int .i64 (.ofNat m)] => bif Nat.beq m o.arg then some (.int .i64 (.ofNat o.val)) else none
    | _ => none) else none

/-- Is a bit set? -/
def bitB (m n : Nat) : Bool := Nat.beq (Nat.land (Nat.shiftRight m n) 1) 1

def opersOk (n : Nat) (ops : Array Oper) : Bool := ops.toList.all fun o => o.op.operands.all okOperand && (match o.dst with
  | some d => Nat.blt d n
  | none => true)

/-- What waits for what. -/
def edgesOf (ops : Array Oper) (k : Nat) : List Nat :=
  match ops[k]? with
  | some o => (o.after.toList.filter fun e => Region.binds .any e).map (·.on)
  | none => []
def befM (ops : Array Oper) : Nat → List Nat
  | 0 => []
  | n + 1 => befM ops n ++ [(edgesOf ops n).foldl (fun s e => s ||| (2 ^ e ||| (befM ops n).getD e 0)) 0]
/-- Two of a region that wait for each other, or have no temporary in common. -/
def pairOk (ops : Array Oper) (m : List Nat) (i k : Nat) : Bool :=
  (m.getD k 0).testBit i || match ops[i]?, ops[k]? with
    | some x, some y => x.apart ops y
    | _, _ => true
/-- A region whose operations have no temporary in common unless they wait for each other. -/
def regionOk (ops : Array Oper) : Bool :=
  (List.range ops.size).all fun k => (edgesOf ops k).all (fun e => decide (e < k)) && (List.range k).all fun i => pairOk ops (befM ops ops.size) i k

/-- What must stand of code ahead of any run. -/
def codeOk (n : Nat) : Code → Bool
  | .skip | .exit _ | .ret | .label _ => true
  | .seq a b => codeOk n a && codeOk n b
  | .cond c a b => okOperand c && codeOk n a && codeOk n b
  | .block _ a | .loop a => codeOk n a
  | .region _ ops draw => opersOk n ops && (!draw || regionOk ops)
  | _ => false

noncomputable def wantK (ops : Array Oper) (tm : Tr Value) (g : Option (Nat × Bool)) : Bool := match g with
  | none => true
  | some (j, want) => match lGet ops.toList j with
    | some o => match o.dst with
      | some d => match tm.get d with
        | some (.bool b) => b == want
        | _ => false
      | none => false
    | none => false

noncomputable def putK (tm : Tr Value) (d : Option Nat) (v : Value) : Tr Value := match d with
  | some d => frcV v fun v => tm.put 40 d (some v)
  | none => tm

noncomputable def argsT (args : List Value) : Tr Value := putsK args .lf 0

noncomputable def resK (rs : List ResultVar) (tm : Tr Value) (h : KH) : Option (List Value) :=
  List.rec (motive := fun _ => Option (List Value)) (some []) (fun r _ l => match l with
    | some l => match r with
      | .tmp t => some (evK tm (.tmp t) :: l)
      | .cell a t => match loadK P t (evK tm (.tmp a)) h with
        | .ok v _ => some (v :: l)
        | _ => none
    | none => none) rs

noncomputable def tupK (l : List Value) : Value := match l with
  | [v] => v
  | l => .tuple l.toArray

/-- A call, by whatever runs code. -/
noncomputable def fnK (rec : Nat → Code → Tr Value → KH → Lg → CR) (ov : Ov) (f : FuncId) (args : Array Value) (h : KH) (g : Lg) (k : Value → KH → Lg → CR) : CR := match ov.nt f args h with
  | some (v, h) => k v h g
  | none => match ovK ov f args with
  | some v => k v h ((f, args, v) :: g)
  | none => match P.funcs[f]? with
    | some fn => match fn.body with
      | some c => bif bitB ov.may f && Nat.ble (lLen args.toList) fn.ntmps then (match (argsT args.toList).now fun tm => rec fn.ntmps c tm h g with
        | .nrm tm h g => (match resK P fn.results.toList tm h with
          | some l => k (tupK l) h g
          | none => .no 1)
        | .ret tm h g => (match resK P fn.results.toList tm h with
          | some l => k (tupK l) h g
          | none => .no 2)
        | .no w => .no w
        | .ext _ _ _ _ => .no 3) else .no 6
      | none => .no 4
    | none => .no 5

noncomputable def opsK (rec : Nat → Code → Tr Value → KH → Lg → CR) (ov : Ov) (all : Array Oper) (l : List Oper) : Tr Value → KH → Lg → CR :=
  List.rec (motive := fun _ => Tr Value → KH → Lg → CR) (fun tm h g => .nrm tm h g) (fun o _ ih tm h g =>
    Bool.rec (motive := fun _ => CR) ((putK tm o.dst undef).now fun tm => ih tm h g) (match opK P (evK tm) o.op h with
      | .ok v h => (putK tm o.dst v).now fun tm => ih tm h g
      | .call f args => fnK P rec ov f args h g fun v h g => (putK tm o.dst v).now fun tm => ih tm h g
      | .no => .no 7) (wantK all tm o.guard)) l

/-- What an operation of a region that draws has used and turned, and which blocks it made. -/
structure FW where
  f : Option (Option Nat)
  w : Nat
  a : Nat
  b : Nat

noncomputable def hits (f : Option (Option Nat)) (w : Nat) : Bool := match f with
  | some none => false
  | some (some b) => w.testBit b
  | none => !Nat.beq w 0

/-- Neither turns what the other uses. -/
noncomputable def indep (x y : FW) : Bool := !hits y.f x.w && !hits x.f y.w && Nat.beq (y.w / 2 ^ x.a % 2 ^ (x.b - x.a)) 0

noncomputable def freeK (ops : Array Oper) (r : List FW) : Bool :=
  (List.range ops.size).all fun k => (List.range k).all fun i => ((befM ops ops.size).getD k 0).testBit i || match r[i]?, r[k]? with
    | some x, some y => indep x y
    | _, _ => false

/-- A region that draws: what its operations use and turn is told. -/
noncomputable def drawK (rec : Nat → Code → Tr Value → KH → Lg → CR) (ov : Ov) (all : Array Oper) (l : List Oper) : List FW → Bool → Tr Value → KH → Lg → CR :=
  List.rec (motive := fun _ => List FW → Bool → Tr Value → KH → Lg → CR) (fun r clean tm h g => bif clean || freeK all r then .nrm tm h g else .no 8) (fun o _ ih r clean tm h g =>
    Bool.rec (motive := fun _ => CR) ((putK tm o.dst undef).now fun tm => ih (r ++ [⟨some none, 0, h.nx, h.nx⟩]) clean tm h g) (match opK P (evK tm) o.op ⟨h.hp, h.nx, 0⟩ with
      | .ok v h' => frc h'.wr fun wr => frc (Nat.lor h.wr wr) fun wr' => (putK tm o.dst v).now fun tm' => ih (r ++ [⟨footK (evK tm) o.op, wr, h.nx, h'.nx⟩]) (clean && Nat.beq wr 0) tm' ⟨h'.hp, h'.nx, wr'⟩ g
      | .call f args => fnK P rec ov f args ⟨h.hp, h.nx, 0⟩ g fun v h' g => frc (h'.wr % 2 ^ h.nx) fun wr => frc (Nat.lor h.wr wr) fun wr' => (putK tm o.dst v).now fun tm' => ih (r ++ [⟨none, wr, h.nx, h'.nx⟩]) (clean && Nat.beq wr 0) tm' ⟨h'.hp, h'.nx, wr'⟩ g
      | .no => .no 10) (wantK all tm o.guard)) l

noncomputable def stepK (ov : Ov) (rec : Nat → Code → Tr Value → KH → Lg → CR) (n : Nat) (c : Code) (tm : Tr Value) (h : KH) (g : Lg) : CR := match c with
  | .skip => .nrm tm h g
  | .seq a b => match rec n a tm h g with
    | .nrm tm h g => rec n b tm h g
    | r => r
  | .cond x a b => match evK tm x with
    | .bool v => Bool.rec (motive := fun _ => CR) (rec n b tm h g) (rec n a tm h g) v
    | _ => .no 11
  | .block id a => match rec n a tm h g with
    | .ext i tm h g => bif Nat.beq i id then .nrm tm h g else .ext i tm h g
    | r => r
  | .loop a => match rec n a tm h g with
    | .nrm tm h g => rec n (.loop a) tm h g
    | r => r
  | .exit id => .ext id tm h g
  | .ret => .ret tm h g
  | .label _ => .nrm tm h g
  | .region _ ops draw => Bool.rec (motive := fun _ => CR) (opsK P rec ov ops ops.toList tm h g) (drawK P rec ov ops ops.toList [] true tm h g) draw
  | _ => .no 12

noncomputable def runK (ov : Ov) (m : Nat) : Nat → Code → Tr Value → KH → Lg → CR := Nat.rec (motive := fun _ => Nat → Code → Tr Value → KH → Lg → CR) (fun _ _ _ _ _ => .no 13) (fun _ ih => stepK P ov ih) m

noncomputable def isTrue (v : Value) : Bool := match v with
  | .bool b => b
  | _ => false

/-- A call that is to answer true: what it comes to, and the calls that were taken as told; else a number that says why not. -/
noncomputable def runs (ov : Ov) (m : Nat) (f : FuncId) (args : Array Value) : Option Lg := match fnK P (runK P ov m) ov f args ⟨.lf, 0, 0⟩ [] fun v h g => bif isTrue v then .nrm .lf h g else .no 14 with
  | .nrm _ _ g => some g
  | _ => none
noncomputable def why (ov : Ov) (m : Nat) (f : FuncId) (args : Array Value) : Nat := match fnK P (runK P ov m) ov f args ⟨.lf, 0, 0⟩ [] fun v h g => bif isTrue v then .nrm .lf h g else .no 14 with
  | .nrm _ _ g => 0
  | .no w => w + 1
  | _ => 1
end
end Go.Proofs.Ytgjpcliaggpcaaa.Ab
