/- Drawn regions that write nothing, over open inputs. -/
import Derived.Test.YtgjpcliaggpcaaaAbV
set_option linter.unusedVariables false
set_option linter.unusedSimpArgs false
namespace Go.Proofs.Ytgjpcliaggpcaaa.Ab
open Go
def quietOp : Op → Bool
  | .move _ | .assign _ | .pick _ _ _ | .load _ _ | .nilCheck _ | .binOp _ _ _ _ _ | .unOp _ _ _ | .fieldAddr _ _ _ | .field _ _ _ | .indexAddr _ _ _ | .index _ _ _ | .extract _ _ => true
  | _ => false
/-- A result but for the heap. -/
noncomputable def KO.under (r : KO) (h : KH) : KO := match r with
  | .ok v _ => .ok v h
  | _ => .no
theorem getB_wr {hp : Tr KB} {nx w w' : Nat} {b : Nat} : getB ⟨hp, nx, w⟩ b = getB ⟨hp, nx, w'⟩ b := rfl
theorem q_load {P : Program} {t : TypeId} {x : Value} {hp : Tr KB} {nx w w' : Nat} : loadK P t x ⟨hp, nx, w⟩ = KO.under (loadK P t x ⟨hp, nx, w'⟩) ⟨hp, nx, w⟩ := by
  unfold loadK
  simp only [getB_wr (w := w) (w' := 0), getB_wr (w := w') (w' := 0)]
  split
  · cases getB ⟨hp, nx, 0⟩ _ with
    | none => rfl
    | some B =>
      simp only []
      cases isAggK P t with
      | none => rfl
      | some a =>
        cases a
        · simp only []
          cases Nat.blt _ B.len
          · rfl
          · simp only [cond_true]; cases B.cs.get _ <;> rfl
        · simp only []
          cases sizeK P t with
          | none => rfl
          | some n =>
            simp only []
            cases Nat.ble _ B.len
            · rfl
            · simp only [cond_true]; cases cellsK B.cs n _ <;> rfl
  · rfl
theorem q_pick {c a b : Value} {h h' : KH} : pickK c a b h = KO.under (pickK c a b h') h := by unfold pickK; cases c <;> rfl
theorem q_nil {x : Value} {h h' : KH} : nilK x h = KO.under (nilK x h') h := by unfold nilK; split <;> rfl
theorem q_bin {P : Program} {op : BinOp} {t : TypeId} {x y : Value} {h h' : KH} : binO P op t x y h = KO.under (binO P op t x y h') h := by unfold binO; cases binK P op t x y <;> rfl
theorem q_un {op : UnOp} {x : Value} {h h' : KH} : unK op x h = KO.under (unK op x h') h := by unfold unK; split <;> rfl
theorem q_ext {x : Value} {i : Nat} {h h' : KH} : extractO x i h = KO.under (extractO x i h') h := by
  unfold extractO; split
  · cases lGet _ i <;> rfl
  · rfl
theorem q_fa {P : Program} {t : TypeId} {x : Value} {f : Nat} {h h' : KH} : fieldAddrK P t x f h = KO.under (fieldAddrK P t x f h') h := by
  unfold fieldAddrK; split
  · cases lGet _ f with
    | none => rfl
    | some f =>
      simp only []
      cases sizeK P f.type with
      | none => rfl
      | some n => simp only []; cases Nat.blt 0 n <;> rfl
  · rfl
theorem q_f {P : Program} {t : TypeId} {x : Value} {f : Nat} {h h' : KH} : fieldK P t x f h = KO.under (fieldK P t x f h') h := by
  unfold fieldK; split
  · cases lGet _ f with
    | none => rfl
    | some f => simp only []; cases partK P f.type _ f.offset <;> rfl
  · rfl
theorem q_ia {P : Program} {t : TypeId} {x i : Value} {h h' : KH} : indexAddrK P t x i h = KO.under (indexAddrK P t x i h') h := by
  unfold indexAddrK; split
  · cases sizeK P _ with
    | none => rfl
    | some s => simp only []; cases Nat.blt _ _ <;> rfl
  · cases sizeK P _ with
    | none => rfl
    | some s => simp only []; cases Nat.blt _ _ <;> rfl
  · rfl
theorem q_i {P : Program} {t : TypeId} {x i : Value} {h h' : KH} : indexK P t x i h = KO.under (indexK P t x i h') h := by
  unfold indexK; split
  · cases lGet _ _ <;> rfl
  · cases sizeK P _ with
    | none => rfl
    | some s =>
      simp only []
      cases Nat.blt _ _
      · rfl
      · simp only [cond_true]; cases partK P _ _ _ <;> rfl
  · rfl

theorem quiet_op {P : Program} {ev : Operand → Value} {op : Op} (hq : quietOp op = true) {hp : Tr KB} {nx w w' : Nat} : opK P ev op ⟨hp, nx, w⟩ = KO.under (opK P ev op ⟨hp, nx, w'⟩) ⟨hp, nx, w⟩ := by
  cases op
  all_goals first
    | (exact (Bool.false_ne_true hq).elim)
    | rfl
    | exact q_pick
    | exact q_load
    | exact q_nil
    | exact q_bin
    | exact q_un
    | exact q_fa
    | exact q_f
    | exact q_ia
    | exact q_i
    | exact q_ext

section
variable {P : Program} {ov : Ov} {rec : Nat → Code → Tr Value → KH → Lg → CR} {n : Nat} {tm : Tr Value} {h : KH} {g : Lg}
noncomputable def koD (r : KO) (k : Value → CR) : CR := match r with
  | .ok v _ => k v
  | _ => .no 10
@[congr] theorem koD_congr {r r' : KO} {k : Value → CR} (h : r = r') : koD r k = koD r' k := by rw [h]
theorem koD_ok {v : Value} {k : Value → CR} : koD (.ok v h) k = k v := nr rfl

/-- A quiet region's operations. -/
noncomputable def drawR (P : Program) (ds : List (Option Nat)) (l : List Oper) (tm : Tr Value) (h : KH) (g : Lg) : CR := match l with
  | [] => .nrm tm h g
  | o :: l => iteA (wantR ds tm o.guard) (koD (opK P (evK tm) o.op h) (fun v => drawR P ds l (putK tm o.dst v) h g)) (drawR P ds l (putK tm o.dst undef) h g)

theorem draw_eq {ops : Array Oper} : ∀ (l : List Oper) (r : List FW) (tm : Tr Value) (h : KH) (g : Lg), l.all (fun o => quietOp o.op) = true → drawK P rec ov ops l r true tm h g = drawR P (ops.toList.map (·.dst)) l tm h g
  | [], r, tm, h, g, _ => rfl
  | o :: l, r, tm, h, g, hq => by
    rw [List.all_cons, Bool.and_eq_true] at hq
    rw [drawK_cons, drawR, want_eq]
    cases hw : wantR (ops.toList.map (·.dst)) tm o.guard
    · rw [if_neg (by simp), iteA_false]; exact draw_eq l _ _ _ _ hq.2
    · rw [if_pos rfl, iteA_true]
      obtain ⟨hp, nx, w⟩ := h
      have e0 := quiet_op (P := P) (ev := evK tm) hq.1 (hp := hp) (nx := nx) (w := w) (w' := 0)
      have e1 := quiet_op (P := P) (ev := evK tm) hq.1 (hp := hp) (nx := nx) (w := 0) (w' := 0)
      cases hop : opK P (evK tm) o.op ⟨hp, nx, 0⟩ with
      | ok v h1 =>
        rw [hop] at e0 e1
        have e2 : h1 = ⟨hp, nx, 0⟩ := by injection e1
        subst e2
        rw [e0]
        show drawK P rec ov ops l _ _ (putK tm o.dst v) ⟨hp, nx, Nat.lor w 0⟩ g = drawR P _ l (putK tm o.dst v) ⟨hp, nx, w⟩ g
        rw [show Nat.lor w 0 = w from Nat.or_zero w]
        exact draw_eq l _ _ _ _ hq.2
      | call f a => rw [hop] at e1; cases e1
      | no => rw [hop] at e0; rw [e0]; rfl

theorem sy_draw {id : Nat} {l : List Oper} (hq : l.all (fun o => quietOp o.op) = true) : stepK P ov rec n (.region id (List.toArray l) true) tm h g = drawR P (l.map (·.dst)) l tm h g := draw_eq (ops := List.toArray l) l [] tm h g hq
theorem dr_nil {ds : List (Option Nat)} : drawR P ds [] tm h g = .nrm tm h g := by rw [drawR]
theorem dr_op {ds : List (Option Nat)} {d : Option Nat} {op : Op} {ty : TypeId} {pos : String} {aft : Array Edge} {l : List Oper} :
    drawR P ds (⟨d, op, ty, pos, aft, none⟩ :: l) tm h g = koD (opK P (evK tm) op h) (fun v => drawR P ds l (putK tm d v) h g) := by rw [drawR]; rfl
theorem dr_guard {ds : List (Option Nat)} {d : Option Nat} {op : Op} {ty : TypeId} {pos : String} {aft : Array Edge} {l : List Oper} {j : Nat} {want : Bool} :
    drawR P ds (⟨d, op, ty, pos, aft, some (j, want)⟩ :: l) tm h g = iteA (wantR ds tm (some (j, want))) (koD (opK P (evK tm) op h) (fun v => drawR P ds l (putK tm d v) h g)) (drawR P ds l (putK tm d undef) h g) := by rw [drawR]

theorem ev_func {f : FuncId} : evK tm (.func f) = .func (.func f) #[] #[] := nr rfl
theorem op_call {ev : Operand → Value} {x : Operand} {l : List Operand} {ts : Array TypeId} : opK P ev (.call { callee := .value x, args := List.toArray l, argTypes := ts }) h = callK P (ev x) (evs ev l).toArray := nr rfl
theorem evs_nil {ev : Operand → Value} : evs ev [] = [] := nr rfl
theorem evs_cons {ev : Operand → Value} {x : Operand} {l : List Operand} : evs ev (x :: l) = ev x :: evs ev l := nr rfl
theorem call_func {f : FuncId} {fn : Func} {args : Array Value} (hf : P.funcs[f]? = some fn) (hn : decide (fn.name = "runtime.NumGoroutine") = false) (hb : fn.body.isNone = false) :
    callK P (.func (.func f) #[] #[]) args = .call f args := by
  simp only [callK, hf, hn, hb, Bool.or_self, cond_false]
  simp
end
end Go.Proofs.Ytgjpcliaggpcaaa.Ab
