/- Walks: what code comes to, as a proposition that rewriting takes apart; and that it is so of the model. -/
import Derived.Test.YtgjpcliaggpcaaaAbW3
set_option linter.unusedVariables false
set_option linter.unusedSimpArgs false
namespace Go.Proofs.Ytgjpcliaggpcaaa.Ab
open Go Classical

abbrev Env := Nat → Value
def putE (E : Env) (d : Option Nat) (v : Value) : Env := match d with
  | some d => fun i => if i = d then v else E i
  | none => E
def evE (E : Env) (x : Operand) : Value := match x with
  | .tmp i => E i
  | .const v => v
  | .func f => .func (.func f) #[] #[]
  | .global g => .pointer (some ⟨g, 0, none⟩)
def argsE (l : List Value) : Env := fun i => l.getD i undef

structure TE (n : Nat) (t : Act) (E : Env) : Prop where
  get : ∀ i, t.tmps.getD i undef = E i
  size : t.tmps.size = n
  dfr : t.defers = []

theorem TE.ev {n : Nat} {t : Act} {E : Env} (h : TE n t E) : evE E = t.eval := by
  funext x
  cases x with
  | tmp i => exact (h.get i).symm
  | const v => rfl
  | func f => rfl
  | global g => rfl

theorem TE.put {n : Nat} {t : Act} {E : Env} (h : TE n t E) {d : Option Nat} (hd : ∀ x, d = some x → x < n) (v : Value) : TE n (t.put d v) (putE E d v) := by
  refine ⟨fun i => ?_, by rw [put_size]; exact h.size, by rw [put_defers']; exact h.dfr⟩
  rw [put_getD]
  cases d with
  | none => rw [if_neg (fun hx => by cases hx.1)]; exact h.get i
  | some x =>
    have hx := hd x rfl
    rw [h.size]
    show _ = if i = x then v else E i
    by_cases hi : i = x
    · subst hi; simp [hx]
    · have : ¬ (some x = some i ∧ i < n) := fun hh => hi (Option.some.inj hh.1).symm
      rw [if_neg this, if_neg hi]; exact h.get i

/-- A guard's truth. -/
def wantV (v : Value) (want : Bool) : Bool := match v with
  | .bool b => b == want
  | _ => false
def wantD (E : Env) (want : Bool) (d : Option (Option Nat)) : Bool := match d with
  | some (some d) => wantV (E d) want
  | _ => false
def wantE (ds : List (Option Nat)) (E : Env) (gd : Option (Nat × Bool)) : Bool := match gd with
  | none => true
  | some (j, want) => wantD E want ds[j]?

theorem wantE_eq {n : Nat} {t : Act} {E : Env} (h : TE n t E) (ops : Array Oper) (o : Oper) : wantE (ops.toList.map (·.dst)) E o.guard = Region.wanted o (yielded ops t.tmps) := by
  unfold Region.wanted wantE
  cases hg : o.guard with
  | none => rfl
  | some jw =>
    obtain ⟨j, want⟩ := jw
    simp only [List.getElem?_map, Array.getElem?_toList, yielded]
    cases ho : ops[j]? with
    | none => simp [wantD]
    | some o2 =>
      simp only [Option.map_some, Option.bind_some]
      cases hd : o2.dst with
      | none => simp [wantD]
      | some d =>
        simp only [Option.bind_some]
        have hh := h.get d
        by_cases hlt : d < t.tmps.size
        · have : t.tmps.getD d undef = t.tmps[d] := by simp [Array.getD, hlt]
          rw [this] at hh
          simp only [wantD, Array.getElem?_eq_getElem hlt, ← hh]
          cases t.tmps[d] <;> simp [wantV]
        · have : t.tmps.getD d undef = undef := by simp [Array.getD, hlt]
          rw [this] at hh
          simp only [wantD, Array.getElem?_eq_none (Nat.le_of_not_lt hlt), ← hh]
          simp [wantV, undef]

/-- A heap in good order. -/
structure Fine (H : AHeap) : Prop where
  wf : H.wf
  fz : ∀ b, H.fz b = true → b < H.next

/-- What is kept, from one heap to another. -/
structure KX (X : Nat → Bool) (H H' : AHeap) : Prop where
  nx : H.next ≤ H'.next
  get : ∀ b, X b = true → H'.get b = H.get b
  fz : ∀ b, X b = true → H'.fz b = true
  fine : Fine H'

/-- What a call comes to. -/
def FnW (P : Program) (f : FuncId) (args : Array Value) (H : AHeap) (K : Value → AHeap → Prop) : Prop :=
  Fine H → ∃ v H', Stp All H H' ∧ FnT P f args H v H' ∧ KX H.fz H H' ∧ K v H'

theorem FnW.mono {P : Program} {f : FuncId} {args : Array Value} {H : AHeap} {K K' : Value → AHeap → Prop} (h : FnW P f args H K) (hk : ∀ v H', KX H.fz H H' → K v H' → K' v H') : FnW P f args H K' := fun hf => by
  obtain ⟨v, H', h1, h2, h3, h4⟩ := h hf
  exact ⟨v, H', h1, h2, h3, hk v H' h3 h4⟩

/-- The ghost told anew. -/
def AHeap.tell (H : AHeap) (fz : Nat → Bool) : AHeap := ⟨H.next, H.get, fz⟩

theorem FnW.tell {P : Program} {f : FuncId} {args : Array Value} {H : AHeap} {K : Value → AHeap → Prop}
    (h : FnW P f args H fun v H' => ∃ fz' : Nat → Bool, (∀ b, H.fz b = true → fz' b = true) ∧ (∀ b, fz' b = true → b < H'.next) ∧ K v (H'.tell fz')) : FnW P f args H K := fun hf => by
  obtain ⟨v, H', h1, h2, h3, fz', h4, h5, h6⟩ := h hf
  exact ⟨v, H'.tell fz', ⟨h1.next, h1.wf, h1.same⟩, fun σ w args' hr hfr ha => (h2 σ w args' hr hfr ha).mono fun e w' ⟨σ', v', h, p, hv⟩ => ⟨σ', v', h, ⟨p.rel, p.ext, p.size, p.keep, p.img, p.fro, p.rest⟩, hv⟩, ⟨h3.nx, h3.get, h4, ⟨h3.fine.wf, h5⟩⟩, h6⟩

/-- Kinds of operations: 0 asks nothing of the heap; 1 loads; 2 makes a block; 3 calls; 4 others. -/
def clsOf (P : Program) (op : Op) : Nat := match op with
  | .move _ | .assign _ | .pick _ _ _ | .nilCheck _ | .binOp _ _ _ _ _ | .unOp _ _ _ | .fieldAddr _ _ _ | .field _ _ _ | .indexAddr _ _ _ | .index _ _ _ | .extract _ _ | .build _ _ | .makeFunc _ _ _ | .slice _ _ _ _ _ => 0
  | .load _ _ => 1
  | .alloc _ | .box _ _ | .buildSlice _ _ _ | .makeSlice _ _ _ => 2
  | .convert s _ _ => (match P.underlying s with
    | some (.int _) => 0
    | _ => 4)
  | .call c => (match c.callee with
    | .value _ => 3
    | .builtin .len | .builtin .min | .builtin .max => 0
    | _ => 4)
  | _ => 4

/-- Two that may stand in either order whatever they come to; two that may where more is shown of them. -/
def pairFree (a b : Nat) : Bool := a == 0 || b == 0 || (a == 1 && (b == 1 || b == 2)) || (a == 2 && (b == 2 || b == 3)) || ((a == 3 || a == 4) && b == 2)
def pairTold (a b : Nat) : Bool := (a == 1 && (b == 3 || b == 4)) || ((a == 3 || a == 4 || a == 2) && b == 1) || (a == 2 && b == 4)
def clsAt (P : Program) (ops : Array Oper) (i : Nat) : Nat := match ops[i]? with
  | some o => clsOf P o.op
  | none => 0
/-- A drawn region's pairs: in order, free, or told. -/
def confOk (P : Program) (ops : Array Oper) (tb : List (Nat × Nat)) : Bool :=
  (List.range ops.size).all fun k => (List.range k).all fun i => ((befM ops ops.size).getD k 0).testBit i || pairFree (clsAt P ops i) (clsAt P ops k) || (pairTold (clsAt P ops i) (clsAt P ops k) && tb.contains (i, k))

/-- What is noted of an operation of a drawn region: what it saw, which block it made, and the heap around it. -/
structure Rec where
  ob : Obs
  nw : Option Nat
  h : AHeap
  h' : AHeap

noncomputable def obsA (P : Program) (ev : Operand → Value) (op : Op) : Obs := match op with
  | .load ty a => (match ev a with
    | .pointer (some ⟨b, o, none⟩) => some (b, seeA P ty o)
    | _ => none)
  | _ => none
def newOf (P : Program) (op : Op) (H : AHeap) : Option Nat := if clsOf P op = 2 then some H.next else none

def see1 (ob : Obs) (H H' : AHeap) : Prop := match ob with
  | some (b, π) => π (H'.get b) = π (H.get b)
  | none => True
def new1 (nw : Option Nat) (H H' : AHeap) : Prop := match nw with
  | some a => H'.get a = H.get a
  | none => True
/-- What is to be shown of two told: neither turns what the other saw. -/
def obl1 (r : Option Rec) (ob : Obs) (H H' : AHeap) : Prop := match r with
  | some r => see1 ob r.h r.h' ∧ see1 r.ob H H' ∧ new1 r.nw H H'
  | none => True
def look (acc : List (Nat × Rec)) (i : Nat) : Option Rec := match acc with
  | [] => none
  | p :: acc => if p.1 = i then some p.2 else look acc i
def oblT (tb : List (Nat × Nat)) (k : Nat) (acc : List (Nat × Rec)) (ob : Obs) (H H' : AHeap) : Prop := match tb with
  | [] => True
  | p :: tb => (if p.2 = k then obl1 (look acc p.1) ob H H' else True) ∧ oblT tb k acc ob H H'
def told (tb : List (Nat × Nat)) (i : Nat) : Bool := tb.any fun p => p.1 == i
def note (tb : List (Nat × Nat)) (i : Nat) (r : Rec) (acc : List (Nat × Rec)) : List (Nat × Rec) := if told tb i = true then (i, r) :: acc else acc

section
variable (P : Program) (X : Nat → Bool)

def wOp (ev : Operand → Value) (op : Op) (H : AHeap) (K : Value → AHeap → Prop) : Prop := match opA P ev op H with
  | .ok v H' => (∀ b, b < H.next → X b = true → H'.get b = H.get b) ∧ K v H'
  | .call f args => FnW P f args H K
  | .no => False

def wOps (ds : List (Option Nat)) : List Oper → Env → AHeap → (Env → AHeap → Prop) → Prop
  | [], E, H, K => K E H
  | o :: l, E, H, K => if wantE ds E o.guard = true then wOp P X (evE E) o.op H (fun v H' => wOps ds l (putE E o.dst v) H' K) else wOps ds l (putE E o.dst undef) H K

/-- A drawn region: in the text's order, and what is told is shown. -/
def wDraw (tb : List (Nat × Nat)) (ds : List (Option Nat)) : List Oper → Nat → List (Nat × Rec) → Env → AHeap → (Env → AHeap → Prop) → Prop
  | [], _, _, E, H, K => K E H
  | o :: l, k, acc, E, H, K => if wantE ds E o.guard = true then wOp P X (evE E) o.op H (fun v H' => oblT tb k acc (obsA P (evE E) o.op) H H' ∧
      wDraw tb ds l (k + 1) (note tb k ⟨obsA P (evE E) o.op, newOf P o.op H, H, H'⟩ acc) (putE E o.dst v) H' K) else wDraw tb ds l (k + 1) acc (putE E o.dst undef) H K

def thenQ (k : Env → AHeap → Prop) (Q : Exit → Env → AHeap → Prop) : Exit → Env → AHeap → Prop
  | .normal, E, H => k E H
  | e, E, H => Q e E H
def blkQ (id : Nat) (Q : Exit → Env → AHeap → Prop) : Exit → Env → AHeap → Prop
  | .exit i, E, H => if i = id then Q .normal E H else Q (.exit i) E H
  | e, E, H => Q e E H
def cndV (v : Value) (x y : Prop) : Prop := match v with
  | .bool b => if b = true then x else y
  | _ => False

def itW (step : Env → AHeap → (Exit → Env → AHeap → Prop) → Prop) : Nat → Env → AHeap → (Exit → Env → AHeap → Prop) → Prop
  | 0, _, _, _ => False
  | n + 1, E, H, Q => step E H (thenQ (fun E H => itW step n E H Q) Q)

/-- Pairs told, by the region's number. -/
abbrev Tbl := List (Nat × List (Nat × Nat))
def tbl (T : Tbl) (id : Nat) : List (Nat × Nat) := match T with
  | [] => []
  | p :: T => if p.1 = id then p.2 else tbl T id

def wC (T : Tbl) : Code → Env → AHeap → (Exit → Env → AHeap → Prop) → Prop
  | .skip, E, H, Q => Q .normal E H
  | .label _, E, H, Q => Q .normal E H
  | .exit id, E, H, Q => Q (.exit id) E H
  | .ret, E, H, Q => Q .ret E H
  | .seq a b, E, H, Q => wC T a E H (thenQ (fun E H => wC T b E H Q) Q)
  | .cond c a b, E, H, Q => cndV (evE E c) (wC T a E H Q) (wC T b E H Q)
  | .block id a, E, H, Q => wC T a E H (blkQ id Q)
  | .loop a, E, H, Q => ∃ n, itW (wC T a) n E H Q
  | .region _ ops false, E, H, Q => wOps P X (ops.toList.map (·.dst)) ops.toList E H (Q .normal)
  | .region id ops true, E, H, Q => wDraw P X (tbl T id) (ops.toList.map (·.dst)) ops.toList 0 [] E H (Q .normal)
  | _, _, _, _ => False

/-- What must stand of code ahead of a walk. -/
def codeW (T : Tbl) (n : Nat) : Code → Bool
  | .skip | .exit _ | .ret | .label _ => true
  | .seq a b => codeW T n a && codeW T n b
  | .cond c a b => okOperand c && codeW T n a && codeW T n b
  | .block _ a | .loop a => codeW T n a
  | .region id ops draw => opersOk n ops && (!draw || (regionOk ops && confOk P ops (tbl T id)))
  | _ => false

noncomputable def resA (rs : List ResultVar) (E : Env) (H : AHeap) : Option (List Value) := match rs with
  | [] => some []
  | r :: rs => match resA rs E H with
    | some l => (match r with
      | .tmp t => some (E t :: l)
      | .cell a t => match loadA P t (E a) H with
        | .ok v _ => some (v :: l)
        | _ => none)
    | none => none
def resW (rs : List ResultVar) (E : Env) (H : AHeap) (K : Value → AHeap → Prop) : Prop := match resA P rs E H with
  | some l => K (tupK l) H
  | none => False
def finQ (rs : List ResultVar) (K : Value → AHeap → Prop) : Exit → Env → AHeap → Prop
  | .normal, E, H => resW P rs E H K
  | .ret, E, H => resW P rs E H K
  | _, _, _ => False
end

section
variable {P : Program} {X : Nat → Bool}

/-- What stands all along a walk. -/
structure Inv0 (X : Nat → Bool) (H : AHeap) : Prop where
  fine : Fine H
  sub : ∀ b, X b = true → H.fz b = true

theorem KX.refl {H : AHeap} (h : Inv0 X H) : KX X H H := ⟨Nat.le_refl _, fun _ _ => rfl, h.sub, h.fine⟩
theorem KX.trans {H H1 H2 : AHeap} (h : KX X H H1) (h' : KX X H1 H2) : KX X H H2 :=
  ⟨Nat.le_trans h.nx h'.nx, fun b hb => (h'.get b hb).trans (h.get b hb), h'.fz, h'.fine⟩
theorem KX.inv {H H' : AHeap} (h : KX X H H') : Inv0 X H' := ⟨h.fine, h.fz⟩

/-- An operation tells no less of the ghost. -/
structure Grows (H H' : AHeap) : Prop where
  nx : H.next ≤ H'.next
  fz : ∀ b, H.fz b = true → H'.fz b = true
  fw : (∀ b, H.fz b = true → b < H.next) → ∀ b, H'.fz b = true → b < H'.next

theorem Grows.refl (H : AHeap) : Grows H H := ⟨Nat.le_refl _, fun _ h => h, fun h => h⟩
theorem Grows.upd (H : AHeap) (b : Nat) (B : ABlk) : Grows H (H.upd b B) := ⟨Nat.le_refl _, fun _ h => h, fun h => h⟩
theorem Grows.push (H : AHeap) (B : ABlk) : Grows H (H.push B) := by
  refine ⟨Nat.le_succ _, fun b h => ?_, fun h b hb => ?_⟩
  · show (b == H.next || H.fz b) = true
    rw [h, Bool.or_true]
  · have hb' : (b == H.next || H.fz b) = true := hb
    show b < H.next + 1
    rw [Bool.or_eq_true, beq_iff_eq] at hb'
    rcases hb' with h1 | h1
    · omega
    · have := h b h1; omega
theorem Grows.grow (H : AHeap) (c : Nat) (B : ABlk) : Grows H (H.grow c B) := by
  refine ⟨Nat.le_succ _, fun b h => ?_, fun h b hb => ?_⟩
  · show (b == H.next || H.fz b) = true
    rw [h, Bool.or_true]
  · have hb' : (b == H.next || H.fz b) = true := hb
    show b < H.next + 1
    rw [Bool.or_eq_true, beq_iff_eq] at hb'
    rcases hb' with h1 | h1
    · omega
    · have := h b h1; omega
theorem lift_grows {r : KO} {H H' : AHeap} {v : Value} (h : liftA r H = .ok v H') : Grows H H' := by
  obtain ⟨_, _, rfl⟩ := lift_ok h; exact .refl _
theorem write_grows {b o : Nat} {vs : List Value} {v v' : Value} {H H' : AHeap} (hh : writeA b o vs v H = .ok v' H') : Grows H H' := by
  unfold writeA at hh
  (repeat' split at hh) <;> cases hh
  exact .upd _ _ _
theorem new_grows {cs : List Value} {e : TypeId} {opn : Bool} {k : Nat → Value} {H H' : AHeap} {v : Value} (hh : newA cs e opn k H = .ok v H') : Grows H H' := by
  cases hh; exact .push _ _

theorem op_grows {ev : Operand → Value} {op : Op} {H H' : AHeap} {v : Value} (hh : opA P ev op H = .ok v H') : Grows H H' := by
  cases op <;> simp only [opA] at hh <;> first
    | (cases hh; done)
    | (cases hh; exact .refl _)
    | exact lift_grows hh
    | exact new_grows hh
    | skip
  case alloc => unfold allocA at hh; split at hh <;> first | exact new_grows hh | (cases hh; done)
  case buildSlice => unfold buildSliceA at hh; (repeat' split at hh) <;> first | exact new_grows hh | (cases hh; done)
  case makeSlice => unfold makeSliceA at hh; (repeat' split at hh) <;> first | exact new_grows hh | (cases hh; done)
  case load => unfold loadA at hh; (repeat' split at hh) <;> cases hh <;> exact .refl _
  case store => unfold storeA at hh; (repeat' split at hh) <;> first | exact write_grows hh | (cases hh; done)
  case convert =>
    unfold convA at hh; (repeat' split at hh) <;> first | (cases hh; done) | (cases hh; exact .refl _) | (unfold toStringA at hh; (repeat' split at hh) <;> first | (cases hh; done) | (cases hh; exact .refl _))
  case call =>
    unfold callA at hh
    split at hh
    · exact lift_grows hh
    · unfold biA at hh
      (repeat' split at hh) <;> first
        | (cases hh; done)
        | exact lift_grows hh
        | (unfold appendA at hh; (repeat' split at hh) <;> first | (cases hh; done) | (cases hh; exact .refl _) | exact new_grows hh | exact write_grows hh | (cases hh; exact .grow _ _ _))
        | (unfold copyA at hh; (repeat' split at hh) <;> first | (cases hh; done) | (cases hh; exact .refl _) | exact write_grows hh)
        | (unfold clearA at hh; (repeat' split at hh) <;> first | (cases hh; done) | (cases hh; exact .refl _) | exact write_grows hh)
    · cases hh

theorem quiet_same {ev : Operand → Value} {op : Op} {H H' : AHeap} {v : Value} (hq : quietOp op = true) (hh : opA P ev op H = .ok v H') : H' = H := by
  cases op <;> simp only [opA] at hh <;> first
    | (exact (Bool.false_ne_true hq).elim)
    | (cases hh; rfl)
    | (unfold loadA at hh; (repeat' split at hh) <;> cases hh <;> rfl)
    | exact (lift_ok hh).elim fun _ h => h.2

theorem call_only {ev : Operand → Value} {op : Op} {H : AHeap} {f : FuncId} {args : Array Value} (hh : opA P ev op H = .call f args) : opK P ev op h0 = .call f args ∧ quietOp op = false := by
  have nl : ∀ {r : KO}, r.isCall = false → liftA r H ≠ .call f args := fun {r} hr he => by
    cases r with
    | call => cases hr
    | ok => cases he
    | no => cases he
  cases op <;> simp only [opA] at hh
  case call c =>
    refine ⟨?_, rfl⟩
    unfold callA at hh
    show callO P ev c h0 = _
    unfold callO
    split at hh
    · rename_i fv hc
      rw [hc]
      simp only
      cases hk : callK P (ev fv) (evs ev c.args.toList).toArray with
      | call f1 a1 => rw [hk] at hh; cases hh; rfl
      | ok => rw [hk] at hh; cases hh
      | no => rw [hk] at hh; cases hh
    · exfalso
      unfold biA at hh
      (repeat' split at hh) <;> first
        | (cases hh; done)
        | exact nl (lenK_nc _ _ _) hh
        | exact nl (minK_nc _ _ _ _) hh
        | (unfold appendA newA writeA at hh; (repeat' split at hh) <;> cases hh)
        | (unfold copyA writeA at hh; (repeat' split at hh) <;> cases hh)
        | (unfold clearA writeA at hh; (repeat' split at hh) <;> cases hh)
    · cases hh
  all_goals exfalso
  all_goals first
    | (cases hh; done)
    | (unfold allocA newA at hh; (repeat' split at hh) <;> cases hh; done)
    | (unfold buildSliceA newA at hh; (repeat' split at hh) <;> cases hh; done)
    | (unfold makeSliceA newA at hh; (repeat' split at hh) <;> cases hh; done)
    | (unfold loadA at hh; (repeat' split at hh) <;> cases hh; done)
    | (unfold storeA writeA at hh; (repeat' split at hh) <;> cases hh; done)
    | (unfold convA toStringA at hh; (repeat' split at hh) <;> cases hh; done)
    | skip
  all_goals
    have hc : ∀ {r : KO}, liftA r H = .call f args → r = .call f args := fun {r} he => by
      cases r with
      | call => cases he; rfl
      | ok => cases he
      | no => cases he
    have h2 := hc hh
    first
    | (unfold pickK at h2; split at h2 <;> cases h2; done)
    | (unfold buildK at h2; (repeat' split at h2) <;> cases h2; done)
    | (unfold nilK at h2; (repeat' split at h2) <;> cases h2; done)
    | (unfold binO at h2; (repeat' split at h2) <;> cases h2; done)
    | (unfold unK at h2; (repeat' split at h2) <;> cases h2; done)
    | (unfold extractO at h2; (repeat' split at h2) <;> cases h2; done)
    | (unfold fieldK at h2; (repeat' split at h2) <;> cases h2; done)
    | (unfold fieldAddrK at h2; simp only [cond_eq_ite] at h2; (repeat' split at h2) <;> cases h2; done)
    | (unfold indexAddrK at h2; simp only [cond_eq_ite] at h2; (repeat' split at h2) <;> cases h2; done)
    | (unfold indexK at h2; simp only [cond_eq_ite] at h2; (repeat' split at h2) <;> cases h2; done)
    | (unfold sliceK at h2; simp only [bndK, cond_eq_ite] at h2; (repeat' split at h2) <;> cases h2; done)
end
end Go.Proofs.Ytgjpcliaggpcaaa.Ab
