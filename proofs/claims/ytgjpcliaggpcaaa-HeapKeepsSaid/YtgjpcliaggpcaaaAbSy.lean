/- Steps of the evaluator, for walks over open inputs by rewriting. -/
import Derived.Test.YtgjpcliaggpcaaaAbT
set_option linter.unusedVariables false
set_option linter.unusedSimpArgs false
namespace Go.Proofs.Ytgjpcliaggpcaaa.Ab
open Go

/-- An equation that rewriting is not to take for one by computation. -/
theorem nr {α : Sort _} {a b : α} (h : a = b) : a = b := h

section
variable {P : Program} {ov : Ov} {rec : Nat → Code → Tr Value → KH → Lg → CR} {n : Nat} {tm : Tr Value} {h : KH} {g : Lg}

/-- What follows on code that ends as it should; rewriting does not go into it before that is known. -/
noncomputable def andA (r : CR) (k : Tr Value → KH → Lg → CR) : CR := match r with
  | .nrm tm h g => k tm h g
  | r => r
@[congr] theorem andA_congr {r r' : CR} {k : Tr Value → KH → Lg → CR} (h : r = r') : andA r k = andA r' k := by rw [h]
theorem andA_nrm {k : Tr Value → KH → Lg → CR} : andA (.nrm tm h g) k = k tm h g := nr rfl
theorem andA_ret {k : Tr Value → KH → Lg → CR} : andA (.ret tm h g) k = .ret tm h g := nr rfl
theorem andA_ext {i : Nat} {k : Tr Value → KH → Lg → CR} : andA (.ext i tm h g) k = .ext i tm h g := nr rfl
noncomputable def blkA (id : Nat) (r : CR) : CR := match r with
  | .ext i tm h g => bif Nat.beq i id then .nrm tm h g else .ext i tm h g
  | r => r
theorem blkA_nrm {id : Nat} : blkA id (.nrm tm h g) = .nrm tm h g := nr rfl
theorem blkA_ret {id : Nat} : blkA id (.ret tm h g) = .ret tm h g := nr rfl
theorem blkA_ext {id i : Nat} : blkA id (.ext i tm h g) = if i = id then .nrm tm h g else .ext i tm h g := by
  show (bif Nat.beq i id then CR.nrm tm h g else .ext i tm h g) = _
  rw [beq_eq]; by_cases hh : i = id <;> simp [hh]
noncomputable def koA (r : KO) (k : Value → KH → CR) (c : FuncId → Array Value → CR) : CR := match r with
  | .ok v h => k v h
  | .call f args => c f args
  | .no => .no 7
@[congr] theorem koA_congr {r r' : KO} {k : Value → KH → CR} {c : FuncId → Array Value → CR} (h : r = r') : koA r k c = koA r' k c := by rw [h]
theorem koA_ok {v : Value} {k : Value → KH → CR} {c : FuncId → Array Value → CR} : koA (.ok v h) k c = k v h := nr rfl
theorem koA_call {f : FuncId} {args : Array Value} {k : Value → KH → CR} {c : FuncId → Array Value → CR} : koA (.call f args) k c = c f args := nr rfl
/-- One of two, by a truth. -/
def iteA {α : Type} (b : Bool) (x y : α) : α := if b = true then x else y
@[congr] theorem iteA_congr {α : Type} {b b' : Bool} {x y : α} (h : b = b') : iteA b x y = iteA b' x y := by rw [h]
theorem iteA_true {α : Type} {x y : α} : iteA true x y = x := nr rfl
theorem iteA_false {α : Type} {x y : α} : iteA false x y = y := nr rfl
noncomputable def cndA (v : Value) (x y : CR) : CR := match v with
  | .bool b => iteA b x y
  | _ => .no 11
@[congr] theorem cndA_congr {v v' : Value} {x y : CR} (h : v = v') : cndA v x y = cndA v' x y := by rw [h]
theorem cndA_bool {b : Bool} {x y : CR} : cndA (.bool b) x y = iteA b x y := nr rfl

theorem sy_seq {a b : Code} : stepK P ov rec n (.seq a b) tm h g = andA (rec n a tm h g) (fun tm h g => rec n b tm h g) := nr rfl
theorem sy_skip : stepK P ov rec n .skip tm h g = .nrm tm h g := nr rfl
theorem sy_ret : stepK P ov rec n .ret tm h g = .ret tm h g := nr rfl
theorem sy_exit {id : Nat} : stepK P ov rec n (.exit id) tm h g = .ext id tm h g := nr rfl
theorem sy_loop {a : Code} : stepK P ov rec n (.loop a) tm h g = andA (rec n a tm h g) (fun tm h g => rec n (.loop a) tm h g) := nr rfl
theorem sy_block {id : Nat} {a : Code} : stepK P ov rec n (.block id a) tm h g = blkA id (rec n a tm h g) := nr rfl
theorem sy_cond {x : Operand} {a b : Code} : stepK P ov rec n (.cond x a b) tm h g = cndA (evK tm x) (rec n a tm h g) (rec n b tm h g) := by
  show (match evK tm x with
    | .bool v => Bool.rec (motive := fun _ => CR) (rec n b tm h g) (rec n a tm h g) v
    | _ => .no 11) = _
  unfold cndA
  split
  · rename_i v _; cases v <;> rfl
  · rfl
theorem sy_run {m : Nat} {c : Code} : runK P ov (m + 1) n c tm h g = stepK P ov (runK P ov m) n c tm h g := nr rfl
theorem ev_tmp {i : Nat} : evK tm (.tmp i) = (tm.get i).getD undef := by
  show (match tm.get i with | some v => v | none => undef) = _
  cases tm.get i <;> rfl
theorem ev_const {v : Value} : evK tm (.const v) = v := nr rfl
theorem ev_put {d i : Nat} {v : Value} (h : d < 1000) : evK (putK tm (some d) v) (.tmp i) = if i = d then v else evK tm (.tmp i) := by
  rw [ev_tmp, ev_tmp]
  simp only [putK, frcV_eq]
  rw [Tr.get_put 40 tm d i _ (Nat.lt_of_lt_of_le (m := 1001) (by omega) (by decide))]
  split <;> simp
theorem ev_args {l : List Value} {i : Nat} (h : l.length < 1000) : evK (argsT l) (.tmp i) = l.getD i undef := by
  rw [ev_tmp]
  unfold argsT; rw [putsK_get l .lf 0 i (by omega)]
  by_cases hi : i < l.length
  · simp [hi]
  · simp [hi, Tr.get_lf]
theorem ev_same {d : Nat} {v : Value} (h : d < 1000) : evK (putK tm (some d) v) (.tmp d) = v := by rw [ev_put h, if_pos rfl]
theorem ev_other {d i : Nat} {v : Value} (h : d < 1000) (hne : i ≠ d) : evK (putK tm (some d) v) (.tmp i) = evK tm (.tmp i) := by rw [ev_put h, if_neg hne]
theorem ev_none {v : Value} : putK tm none v = tm := nr rfl

/-- A guard's truth, by the temporary that it looks at. -/
def wantB (v : Value) (want : Bool) : Bool := match v with
  | .bool b => b == want
  | _ => false
theorem wantB_bool {b w : Bool} : wantB (.bool b) w = (b == w) := nr rfl
noncomputable def wantO (tm : Tr Value) (want : Bool) (d : Option (Option Nat)) : Bool := match d with
  | some (some d) => wantB (evK tm (.tmp d)) want
  | _ => false
theorem wantO_some {want : Bool} {d : Nat} : wantO tm want (some (some d)) = wantB (evK tm (.tmp d)) want := nr rfl
noncomputable def wantR (ds : List (Option Nat)) (tm : Tr Value) (gd : Option (Nat × Bool)) : Bool := match gd with
  | none => true
  | some (j, want) => wantO tm want ds[j]?
theorem wantR_some {ds : List (Option Nat)} {j : Nat} {want : Bool} : wantR ds tm (some (j, want)) = wantO tm want ds[j]? := nr rfl

@[congr] theorem wantO_congr {tm : Tr Value} {want : Bool} {d d' : Option (Option Nat)} (h : d = d') : wantO tm want d = wantO tm want d' := by rw [h]

/-- A region's operations: by their targets, what is left of them. -/
noncomputable def opsR (P : Program) (ov : Ov) (rec : Nat → Code → Tr Value → KH → Lg → CR) (ds : List (Option Nat)) (l : List Oper) (tm : Tr Value) (h : KH) (g : Lg) : CR := match l with
  | [] => .nrm tm h g
  | o :: l => iteA (wantR ds tm o.guard) (koA (opK P (evK tm) o.op h) (fun v h => opsR P ov rec ds l (putK tm o.dst v) h g)
      (fun f args => fnK P rec ov f args h g fun v h g => opsR P ov rec ds l (putK tm o.dst v) h g)) (opsR P ov rec ds l (putK tm o.dst undef) h g)
@[congr] theorem opsR_congr {ds ds' : List (Option Nat)} {l : List Oper} {tm tm' : Tr Value} (hd : ds = ds') (ht : tm = tm') : opsR P ov rec ds l tm h g = opsR P ov rec ds' l tm' h g := by rw [hd, ht]

theorem want_eq {ops : Array Oper} {gd : Option (Nat × Bool)} : wantK ops tm gd = wantR (ops.toList.map (·.dst)) tm gd := by
  unfold wantK wantR wantO
  cases gd with
  | none => rfl
  | some jw =>
    obtain ⟨j, want⟩ := jw
    simp only [lGet_eq, Array.getElem?_toList, List.getElem?_map]
    cases ho : ops[j]? with
    | none => rfl
    | some o =>
      simp only [Option.map_some]
      cases hd : o.dst with
      | none => rfl
      | some d =>
        simp only []
        rw [ev_tmp]
        cases htm : tm.get d with
        | none => rfl
        | some v => cases v <;> rfl

theorem opsR_eq {ops : Array Oper} : ∀ (l : List Oper) (tm : Tr Value) (h : KH) (g : Lg), opsK P rec ov ops l tm h g = opsR P ov rec (ops.toList.map (·.dst)) l tm h g
  | [], tm, h, g => rfl
  | o :: l, tm, h, g => by
    rw [opsK_cons, opsR, want_eq]
    have hk : (fun (v : Value) (h : KH) (g : Lg) => opsK P rec ov ops l (putK tm o.dst v) h g) = fun v h g => opsR P ov rec (ops.toList.map (·.dst)) l (putK tm o.dst v) h g := by
      funext v h g; exact opsR_eq l _ _ _
    rw [hk, opsR_eq l]
    cases hw : wantR (ops.toList.map (·.dst)) tm o.guard
    · rfl
    · cases hop : opK P (evK tm) o.op h with
      | ok v h => exact opsR_eq l _ _ _
      | call f args => rfl
      | no => rfl

theorem sy_region {id : Nat} {l : List Oper} : stepK P ov rec n (.region id (List.toArray l) false) tm h g = opsR P ov rec (l.map (·.dst)) l tm h g := opsR_eq (ops := List.toArray l) l tm h g
theorem sy_nil {ds : List (Option Nat)} : opsR P ov rec ds [] tm h g = .nrm tm h g := by rw [opsR]
theorem sy_op {ds : List (Option Nat)} {d : Option Nat} {op : Op} {ty : TypeId} {pos : String} {aft : Array Edge} {l : List Oper} :
    opsR P ov rec ds (⟨d, op, ty, pos, aft, none⟩ :: l) tm h g = koA (opK P (evK tm) op h) (fun v h => opsR P ov rec ds l (putK tm d v) h g)
      (fun f args => fnK P rec ov f args h g fun v h g => opsR P ov rec ds l (putK tm d v) h g) := by rw [opsR]; rfl
theorem sy_guard {ds : List (Option Nat)} {d : Option Nat} {op : Op} {ty : TypeId} {pos : String} {aft : Array Edge} {l : List Oper} {j : Nat} {want : Bool} :
    opsR P ov rec ds (⟨d, op, ty, pos, aft, some (j, want)⟩ :: l) tm h g = iteA (wantR ds tm (some (j, want))) (koA (opK P (evK tm) op h) (fun v h => opsR P ov rec ds l (putK tm d v) h g)
      (fun f args => fnK P rec ov f args h g fun v h g => opsR P ov rec ds l (putK tm d v) h g)) (opsR P ov rec ds l (putK tm d undef) h g) := by rw [opsR]
theorem ds_cons {d : Option Nat} {op : Op} {ty : TypeId} {pos : String} {aft : Array Edge} {gd : Option (Nat × Bool)} {l : List Oper} : List.map (fun o : Oper => o.dst) (⟨d, op, ty, pos, aft, gd⟩ :: l) = d :: List.map (fun o : Oper => o.dst) l := nr rfl
theorem ds_nil : List.map (fun o : Oper => o.dst) [] = [] := nr rfl

section ops
variable {ev : Operand → Value}
theorem op_move {x : Operand} : opK P ev (.move x) h = .ok (ev x) h := nr rfl
theorem op_assign {x : Operand} : opK P ev (.assign x) h = .ok (ev x) h := nr rfl
theorem op_pick {c a b : Operand} : opK P ev (.pick c a b) h = pickK (ev c) (ev a) (ev b) h := nr rfl
theorem op_alloc {t : TypeId} : opK P ev (.alloc t) h = allocO P t h := nr rfl
theorem op_box {t : TypeId} {x : Operand} : opK P ev (.box t x) h = newK (ev x).cells.toList t false ptrTo h := nr rfl
theorem op_load {t : TypeId} {x : Operand} : opK P ev (.load t x) h = loadK P t (ev x) h := nr rfl
theorem op_store {t : TypeId} {a x : Operand} : opK P ev (.store t a x) h = storeK P t (ev a) (ev x) h := nr rfl
theorem op_nil {x : Operand} : opK P ev (.nilCheck x) h = nilK (ev x) h := nr rfl
theorem op_bin {op : BinOp} {t s : TypeId} {x y : Operand} : opK P ev (.binOp op t x y s) h = binO P op t (ev x) (ev y) h := nr rfl
theorem op_un {op : UnOp} {t : TypeId} {x : Operand} : opK P ev (.unOp op t x) h = unK op (ev x) h := nr rfl
theorem op_conv {a b : TypeId} {x : Operand} : opK P ev (.convert a b x) h = convK P a b (ev x) h := nr rfl
theorem op_fieldAddr {t : TypeId} {x : Operand} {f : Nat} : opK P ev (.fieldAddr t x f) h = fieldAddrK P t (ev x) f h := nr rfl
theorem op_field {t : TypeId} {x : Operand} {f : Nat} : opK P ev (.field t x f) h = fieldK P t (ev x) f h := nr rfl
theorem op_indexAddr {t : TypeId} {x i : Operand} : opK P ev (.indexAddr t x i) h = indexAddrK P t (ev x) (ev i) h := nr rfl
theorem op_index {t : TypeId} {x i : Operand} : opK P ev (.index t x i) h = indexK P t (ev x) (ev i) h := nr rfl
theorem op_extract {x : Operand} {i : Nat} : opK P ev (.extract x i) h = extractO (ev x) i h := nr rfl
theorem op_slice {t : TypeId} {x : Operand} {lo hi mx : Option Operand} : opK P ev (.slice t x lo hi mx) h = sliceK P t (ev x) (lo.map ev) (hi.map ev) (mx.map ev) h := nr rfl
theorem op_len {t : TypeId} {x : Operand} {ts : List TypeId} : opK P ev (.call { callee := .builtin .len, args := #[x], argTypes := ⟨t :: ts⟩ }) h = lenK P t (ev x) h := nr rfl
theorem pick_true {a b : Value} : pickK (.bool true) a b h = .ok a h := nr rfl
theorem pick_false {a b : Value} : pickK (.bool false) a b h = .ok b h := nr rfl
theorem un_not {b : Bool} : unK .not (.bool b) h = .ok (.bool (!b)) h := nr rfl
theorem bin_lss {t : TypeId} {k : IntKind} {a b : Int} : binO P .lss t (.int k a) (.int k b) h = .ok (.bool (iLt a b)) h := by simp [binO, binK, intK]
theorem bin_leq {t : TypeId} {k : IntKind} {a b : Int} : binO P .leq t (.int k a) (.int k b) h = .ok (.bool (!iLt b a)) h := by simp [binO, binK, intK]
theorem bin_gtr {t : TypeId} {k : IntKind} {a b : Int} : binO P .gtr t (.int k a) (.int k b) h = .ok (.bool (iLt b a)) h := by simp [binO, binK, intK]
theorem bin_geq {t : TypeId} {k : IntKind} {a b : Int} : binO P .geq t (.int k a) (.int k b) h = .ok (.bool (!iLt a b)) h := by simp [binO, binK, intK]
theorem bin_eql {t : TypeId} {k : IntKind} {a b : Int} : binO P .eql t (.int k a) (.int k b) h = .ok (.bool (iEq a b)) h := by simp [binO, binK, intK]
theorem bin_neq {t : TypeId} {k : IntKind} {a b : Int} : binO P .neq t (.int k a) (.int k b) h = .ok (.bool (!iEq a b)) h := by simp [binO, binK, intK]
theorem bin_add {t : TypeId} {k : IntKind} {a b : Int} : binO P .add t (.int k a) (.int k b) h = .ok (.int k (wrapK k (a + b))) h := by simp [binO, binK, intK]
theorem bin_sub {t : TypeId} {k : IntKind} {a b : Int} : binO P .sub t (.int k a) (.int k b) h = .ok (.int k (wrapK k (a - b))) h := by simp [binO, binK, intK]
theorem str_eql {t : TypeId} {a b : ByteArray} : binO P .eql t (.string a) (.string b) h = .ok (.bool (bytesEq a.data.toList b.data.toList)) h := by simp [binO, binK, strK]
theorem str_neq {t : TypeId} {a b : ByteArray} : binO P .neq t (.string a) (.string b) h = .ok (.bool (!bytesEq a.data.toList b.data.toList)) h := by simp [binO, binK, strK]
end ops

theorem res_nil {tm : Tr Value} : resK P [] tm h = some [] := nr rfl
theorem nil_ptr {a : Addr} : nilK (.pointer (some a)) h = .ok (.pointer (some a)) h := nr rfl
theorem load_one {ty : TypeId} {b o : Nat} {B : KB} {v : Value} (ha : isAggK P ty = some false) (hb : getB h b = some B) (hl : o < B.len) (hv : B.cs.get o = some v) :
    loadK P ty (.pointer (some ⟨b, o, none⟩)) h = .ok v h := by
  simp [loadK, hb, ha, blt_eq, hl, hv]
theorem index_at {t e : TypeId} {b o n c j s : Nat} {k : IntKind} (hu : P.underlying t = some (.slice e)) (hs : sizeK P e = some s) (hj : j < n) :
    indexAddrK P t (.slice (some ⟨b, o, none⟩) n c) (.int k (.ofNat j)) h = .ok (.pointer (some ⟨b, o + j * s, none⟩)) h := by
  simp [indexAddrK, hu, hs, blt_eq, hj]
end
end Go.Proofs.Ytgjpcliaggpcaaa.Ab
