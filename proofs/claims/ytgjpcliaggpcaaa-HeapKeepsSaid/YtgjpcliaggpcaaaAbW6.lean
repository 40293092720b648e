/- The steps of walks, for rewriting. -/
import Derived.Test.YtgjpcliaggpcaaaAbW5
import Derived.Attr
set_option linter.unusedVariables false
set_option linter.unusedSimpArgs false
namespace Go.Proofs.Ytgjpcliaggpcaaa.Ab
open Go Classical

universe u
/-- Beside what rewriting is not to look into. -/
inductive Tag {α : Sort u} (a : α) : Type
  | mk
/-- One of two, by a truth; rewriting looks at the truth alone. -/
def iteP (b : Bool) (x y : Prop) (_ : Tag x) (_ : Tag y) : Prop := if b = true then x else y

section
variable {P : Program} {X : Nat → Bool} {T : Tbl} {E : Env} {H : AHeap} {Q : Exit → Env → AHeap → Prop}
@[go_sem] theorem iteP_true {x y : Prop} {t : Tag x} {s : Tag y} : iteP true x y t s = x := nr rfl
@[go_sem] theorem iteP_false {x y : Prop} {t : Tag x} {s : Tag y} : iteP false x y t s = y := by simp [iteP]
@[congr] theorem iteP_congr {b b' : Bool} {x y : Prop} {t : Tag x} {s : Tag y} (h : b = b') : iteP b x y t s = iteP b' x y t s := by rw [h]

/-- A test's value. -/
def cndT (v : Value) (x y : Prop) (_ : Tag x) (_ : Tag y) : Prop := cndV v x y
@[congr] theorem cndT_congr {v v' : Value} {x y : Prop} {t : Tag x} {s : Tag y} (h : v = v') : cndT v x y t s = cndT v' x y t s := by rw [h]
@[go_sem] theorem cndT_bool {b : Bool} {x y : Prop} {t : Tag x} {s : Tag y} : cndT (.bool b) x y t s = iteP b x y t s := nr rfl

@[go_sem ↓] theorem w_skip : wC P X T .skip E H Q = Q .normal E H := nr rfl
@[go_sem ↓] theorem w_label {l : Nat} : wC P X T (.label l) E H Q = Q .normal E H := nr rfl
@[go_sem ↓] theorem w_exit {i : Nat} : wC P X T (.exit i) E H Q = Q (.exit i) E H := nr rfl
@[go_sem ↓] theorem w_ret : wC P X T .ret E H Q = Q .ret E H := nr rfl
@[go_sem ↓] theorem w_seq {a b : Code} : wC P X T (.seq a b) E H Q = wC P X T a E H (thenQ (fun E H => wC P X T b E H Q) Q) := nr rfl
@[go_sem ↓] theorem w_block {id : Nat} {a : Code} : wC P X T (.block id a) E H Q = wC P X T a E H (blkQ id Q) := nr rfl
@[go_sem ↓] theorem w_cond {c : Operand} {a b : Code} : wC P X T (.cond c a b) E H Q = cndT (evE E c) (wC P X T a E H Q) (wC P X T b E H Q) .mk .mk := nr rfl
@[go_sem ↓] theorem w_region {id : Nat} {l : List Oper} : wC P X T (.region id (List.toArray l) false) E H Q = wOps P X (l.map (·.dst)) l E H (Q .normal) := nr rfl
theorem wDraw_nil : ∀ (ds : List (Option Nat)) (l : List Oper) (k : Nat) (acc : List (Nat × Rec)) (E : Env) (H : AHeap) (K : Env → AHeap → Prop), wDraw P X [] ds l k acc E H K = wOps P X ds l E H K
  | ds, [], k, acc, E, H, K => rfl
  | ds, o :: l, k, acc, E, H, K => by
    rw [wDraw, wOps]
    simp only [wDraw_nil ds l, oblT, true_and]
/-- A drawn region of which nothing is told. -/
noncomputable def wTold (P : Program) (X : Nat → Bool) (tb : List (Nat × Nat)) (l : List Oper) (E : Env) (H : AHeap) (K : Env → AHeap → Prop) : Prop := wDraw P X tb (l.map (·.dst)) l 0 [] E H K
@[congr] theorem wTold_congr {tb tb' : List (Nat × Nat)} {l : List Oper} {K : Env → AHeap → Prop} (h : tb = tb') : wTold P X tb l E H K = wTold P X tb' l E H K := by rw [h]
@[go_sem ↓] theorem w_draw {id : Nat} {l : List Oper} : wC P X T (.region id (List.toArray l) true) E H Q = wTold P X (tbl T id) l E H (Q .normal) := nr rfl
@[go_sem] theorem w_told_nil {l : List Oper} {K : Env → AHeap → Prop} : wTold P X [] l E H K = wOps P X (l.map (·.dst)) l E H K := wDraw_nil _ _ _ _ _ _ _
@[go_sem] theorem w_told_cons {p : Nat × Nat} {tb : List (Nat × Nat)} {l : List Oper} {K : Env → AHeap → Prop} : wTold P X (p :: tb) l E H K = wDraw P X (p :: tb) (l.map (·.dst)) l 0 [] E H K := nr rfl
@[go_sem] theorem tbl_nil {id : Nat} : tbl [] id = [] := nr rfl
@[go_sem] theorem tbl_cons {p : Nat × List (Nat × Nat)} {T : Tbl} {id : Nat} : tbl (p :: T) id = if p.1 = id then p.2 else tbl T id := nr rfl

@[congr] theorem wOps_congr {ds ds' : List (Option Nat)} {l : List Oper} {K : Env → AHeap → Prop} (h : ds = ds') : wOps P X ds l E H K = wOps P X ds' l E H K := by rw [h]
@[congr] theorem wDraw_congr {tb : List (Nat × Nat)} {ds ds' : List (Option Nat)} {l : List Oper} {k k' : Nat} {acc acc' : List (Nat × Rec)} {K : Env → AHeap → Prop} (h : ds = ds') (hk : k = k') (ha : acc = acc') : wDraw P X tb ds l k acc E H K = wDraw P X tb ds' l k' acc' E H K := by rw [h, hk, ha]
@[go_sem] theorem thenQ_normal {k : Env → AHeap → Prop} : thenQ k Q .normal E H = k E H := nr rfl
@[go_sem] theorem thenQ_ret {k : Env → AHeap → Prop} : thenQ k Q .ret E H = Q .ret E H := nr rfl
@[go_sem] theorem thenQ_exit {k : Env → AHeap → Prop} {i : Nat} : thenQ k Q (.exit i) E H = Q (.exit i) E H := nr rfl
@[go_sem] theorem blkQ_normal {id : Nat} : blkQ id Q .normal E H = Q .normal E H := nr rfl
@[go_sem] theorem blkQ_ret {id : Nat} : blkQ id Q .ret E H = Q .ret E H := nr rfl
@[go_sem] theorem blkQ_exit {id i : Nat} : blkQ id Q (.exit i) E H = if i = id then Q .normal E H else Q (.exit i) E H := nr rfl
/-- What follows on an operation. -/
def cpsA (P : Program) (X : Nat → Bool) (H : AHeap) (r : AO) (K : Value → AHeap → Prop) (_ : Tag K) : Prop := match r with
  | .ok v H' => (∀ b, b < H.next → X b = true → H'.get b = H.get b) ∧ K v H'
  | .call f args => FnW P f args H K
  | .no => False
/-- A call that is to be shown. -/
def Cll (P : Program) (f : FuncId) (args : Array Value) (H : AHeap) (K : Value → AHeap → Prop) (_ : Tag K) : Prop := FnW P f args H K
theorem Cll.by {P : Program} {f : FuncId} {args : Array Value} {H : AHeap} {K K' : Value → AHeap → Prop} {t : Tag K} (h : FnW P f args H K') (hk : ∀ v H', KX H.fz H H' → K' v H' → K v H') : Cll P f args H K t := h.mono hk
@[congr] theorem cpsA_congr {r r' : AO} {K : Value → AHeap → Prop} {t : Tag K} (h : r = r') : cpsA P X H r K t = cpsA P X H r' K t := by rw [h]
@[congr] theorem Cll_congr {f : FuncId} {args args' : Array Value} {K : Value → AHeap → Prop} {t : Tag K} (h : args = args') : Cll P f args H K t = Cll P f args' H K t := by rw [h]
@[go_sem] theorem cps_same {v : Value} {K : Value → AHeap → Prop} {t : Tag K} : cpsA P X H (.ok v H) K t = K v H := propext ⟨fun h => h.2, fun h => ⟨fun _ _ _ => rfl, h⟩⟩
@[go_sem] theorem cps_push {v : Value} {B : ABlk} {K : Value → AHeap → Prop} {t : Tag K} : cpsA P X H (.ok v (H.push B)) K t = K v (H.push B) := propext ⟨fun h => h.2, fun h => ⟨fun b hb _ => get_push_lt hb, h⟩⟩
@[go_sem] theorem cps_upd {v : Value} {b : Nat} {B : ABlk} {K : Value → AHeap → Prop} {t : Tag K} (hx : X b = false) : cpsA P X H (.ok v (H.upd b B)) K t = K v (H.upd b B) := propext ⟨fun h => h.2, fun h => ⟨fun c _ hc => by
  show (if c = b then some B else H.get c) = _
  rw [if_neg (fun e => by rw [e, hx] at hc; cases hc)], h⟩⟩
@[go_sem] theorem cps_grow {v : Value} {b : Nat} {B : ABlk} {K : Value → AHeap → Prop} {t : Tag K} (hx : X b = false) : cpsA P X H (.ok v (H.grow b B)) K t = K v (H.grow b B) := propext ⟨fun h => h.2, fun h => ⟨fun c hc hcx => by
  show (if c = H.next then some B else if c = b then none else H.get c) = _
  rw [if_neg (by omega), if_neg (fun e => by rw [e, hx] at hcx; cases hcx)], h⟩⟩
@[go_sem] theorem cps_repush {v : Value} {B C : ABlk} {K : Value → AHeap → Prop} {t : Tag K} (hx : X H.next = false) : cpsA P X (H.push B) (.ok v (H.push C)) K t = K v (H.push C) := propext ⟨fun h => h.2, fun h => ⟨fun c _ hcx => by
  show (if c = H.next then some C else H.get c) = (if c = H.next then some B else H.get c)
  have : c ≠ H.next := fun e => by rw [e, hx] at hcx; cases hcx
  rw [if_neg this, if_neg this], h⟩⟩
@[go_sem] theorem cps_call {f : FuncId} {args : Array Value} {K : Value → AHeap → Prop} {t : Tag K} : cpsA P X H (.call f args) K t = Cll P f args H K t := nr rfl

@[go_sem ↓] theorem wOps_nil {ds : List (Option Nat)} {K : Env → AHeap → Prop} : wOps P X ds [] E H K = K E H := nr rfl
@[go_sem ↓] theorem wOps_op {ds : List (Option Nat)} {d : Option Nat} {op : Op} {ty : TypeId} {pos : String} {aft : Array Edge} {l : List Oper} {K : Env → AHeap → Prop} :
    wOps P X ds (⟨d, op, ty, pos, aft, none⟩ :: l) E H K = wOp P X (evE E) op H (fun v H => wOps P X ds l (putE E d v) H K) := by rw [wOps]; simp [wantE]
@[go_sem ↓] theorem wOps_guard {ds : List (Option Nat)} {d : Option Nat} {op : Op} {ty : TypeId} {pos : String} {aft : Array Edge} {l : List Oper} {j : Nat} {want : Bool} {K : Env → AHeap → Prop} :
    wOps P X ds (⟨d, op, ty, pos, aft, some (j, want)⟩ :: l) E H K = iteP (wantD E want ds[j]?) (wOp P X (evE E) op H (fun v H => wOps P X ds l (putE E d v) H K)) (wOps P X ds l (putE E d undef) H K) .mk .mk := by rw [wOps]; rfl
@[go_sem ↓] theorem wDraw_end {tb : List (Nat × Nat)} {ds : List (Option Nat)} {k : Nat} {acc : List (Nat × Rec)} {K : Env → AHeap → Prop} : wDraw P X tb ds [] k acc E H K = K E H := nr rfl
/-- Is an operation the later one of two that are told? -/
def confl (tb : List (Nat × Nat)) (k : Nat) : Bool := tb.any fun p => p.2 == k
theorem obl_free {tb : List (Nat × Nat)} {k : Nat} {acc : List (Nat × Rec)} {ob : Obs} {H H' : AHeap} (h : confl tb k = false) : oblT tb k acc ob H H' = True := by
  induction tb with
  | nil => rfl
  | cons p tb ih =>
    simp only [confl, List.any_cons, Bool.or_eq_false_iff] at h
    have h1 : ¬ p.2 = k := by simpa using h.1
    rw [oblT, if_neg h1, ih h.2]; simp
/-- An operation of a drawn region, by whether it is told of: as the earlier one, as the later one. -/
noncomputable def dOp (P : Program) (X : Nat → Bool) (b1 b2 : Bool) (tb : List (Nat × Nat)) (ds : List (Option Nat)) (d : Option Nat) (op : Op) (l : List Oper) (k : Nat) (acc : List (Nat × Rec)) (E : Env) (H : AHeap) (K : Env → AHeap → Prop) (_ : Tag (l, op, K, E)) : Prop :=
  wOp P X (evE E) op H (fun v H' => (if b2 = true then oblT tb k acc (obsA P (evE E) op) H H' else True) ∧ wDraw P X tb ds l (k + 1) (if b1 = true then (k, ⟨obsA P (evE E) op, newOf P op H, H, H'⟩) :: acc else acc) (putE E d v) H' K)
@[congr] theorem dOp_congr {b1 b1' b2 b2' : Bool} {tb : List (Nat × Nat)} {ds : List (Option Nat)} {d : Option Nat} {op : Op} {l : List Oper} {k : Nat} {acc : List (Nat × Rec)} {K : Env → AHeap → Prop} {t : Tag (l, op, K, E)} (h1 : b1 = b1') (h2 : b2 = b2') : dOp P X b1 b2 tb ds d op l k acc E H K t = dOp P X b1' b2' tb ds d op l k acc E H K t := by rw [h1, h2]
theorem dOp_eq {tb : List (Nat × Nat)} {ds : List (Option Nat)} {d : Option Nat} {op : Op} {l : List Oper} {k : Nat} {acc : List (Nat × Rec)} {K : Env → AHeap → Prop} :
    wOp P X (evE E) op H (fun v H' => oblT tb k acc (obsA P (evE E) op) H H' ∧ wDraw P X tb ds l (k + 1) (note tb k ⟨obsA P (evE E) op, newOf P op H, H, H'⟩ acc) (putE E d v) H' K) = dOp P X (told tb k) (confl tb k) tb ds d op l k acc E H K .mk := by
  unfold dOp note
  cases hc : confl tb k
  · simp only [obl_free hc, Bool.false_eq_true, if_false]
  · simp only [if_true]
@[go_sem] theorem dOp_ff {tb : List (Nat × Nat)} {ds : List (Option Nat)} {d : Option Nat} {op : Op} {l : List Oper} {k : Nat} {acc : List (Nat × Rec)} {K : Env → AHeap → Prop} {t : Tag (l, op, K, E)} : dOp P X false false tb ds d op l k acc E H K t = wOp P X (evE E) op H (fun v H' => wDraw P X tb ds l (k + 1) acc (putE E d v) H' K) := by
  unfold dOp; simp
@[go_sem] theorem dOp_tf {tb : List (Nat × Nat)} {ds : List (Option Nat)} {d : Option Nat} {op : Op} {l : List Oper} {k : Nat} {acc : List (Nat × Rec)} {K : Env → AHeap → Prop} {t : Tag (l, op, K, E)} : dOp P X true false tb ds d op l k acc E H K t = wOp P X (evE E) op H (fun v H' => wDraw P X tb ds l (k + 1) ((k, ⟨obsA P (evE E) op, newOf P op H, H, H'⟩) :: acc) (putE E d v) H' K) := by
  unfold dOp; simp
@[go_sem] theorem dOp_ft {tb : List (Nat × Nat)} {ds : List (Option Nat)} {d : Option Nat} {op : Op} {l : List Oper} {k : Nat} {acc : List (Nat × Rec)} {K : Env → AHeap → Prop} {t : Tag (l, op, K, E)} : dOp P X false true tb ds d op l k acc E H K t = wOp P X (evE E) op H (fun v H' => oblT tb k acc (obsA P (evE E) op) H H' ∧ wDraw P X tb ds l (k + 1) acc (putE E d v) H' K) := by
  unfold dOp; simp
@[go_sem] theorem dOp_tt {tb : List (Nat × Nat)} {ds : List (Option Nat)} {d : Option Nat} {op : Op} {l : List Oper} {k : Nat} {acc : List (Nat × Rec)} {K : Env → AHeap → Prop} {t : Tag (l, op, K, E)} : dOp P X true true tb ds d op l k acc E H K t = wOp P X (evE E) op H (fun v H' => oblT tb k acc (obsA P (evE E) op) H H' ∧ wDraw P X tb ds l (k + 1) ((k, ⟨obsA P (evE E) op, newOf P op H, H, H'⟩) :: acc) (putE E d v) H' K) := by
  unfold dOp; simp
@[go_sem ↓] theorem wDraw_op {tb : List (Nat × Nat)} {ds : List (Option Nat)} {d : Option Nat} {op : Op} {ty : TypeId} {pos : String} {aft : Array Edge} {l : List Oper} {k : Nat} {acc : List (Nat × Rec)} {K : Env → AHeap → Prop} :
    wDraw P X tb ds (⟨d, op, ty, pos, aft, none⟩ :: l) k acc E H K = dOp P X (told tb k) (confl tb k) tb ds d op l k acc E H K .mk := by
  rw [← dOp_eq, wDraw]; simp [wantE]
@[go_sem ↓] theorem wDraw_guard {tb : List (Nat × Nat)} {ds : List (Option Nat)} {d : Option Nat} {op : Op} {ty : TypeId} {pos : String} {aft : Array Edge} {l : List Oper} {k : Nat} {acc : List (Nat × Rec)} {j : Nat} {want : Bool} {K : Env → AHeap → Prop} :
    wDraw P X tb ds (⟨d, op, ty, pos, aft, some (j, want)⟩ :: l) k acc E H K = iteP (wantD E want ds[j]?) (dOp P X (told tb k) (confl tb k) tb ds d op l k acc E H K .mk) (wDraw P X tb ds l (k + 1) acc (putE E d undef) H K) .mk .mk := by rw [← dOp_eq, wDraw]; rfl
@[go_sem] theorem confl_nil {i : Nat} : confl [] i = false := nr rfl
@[go_sem] theorem confl_cons {p : Nat × Nat} {tb : List (Nat × Nat)} {i : Nat} : confl (p :: tb) i = (p.2 == i || confl tb i) := nr rfl
attribute [go_sem] ds_cons ds_nil
@[congr] theorem wantD_congr {want : Bool} {d d' : Option (Option Nat)} (h : d = d') : wantD E want d = wantD E want d' := by rw [h]
@[go_sem] theorem wantD_some {want : Bool} {d : Nat} : wantD E want (some (some d)) = wantV (E d) want := nr rfl
@[go_sem] theorem wantV_bool {b w : Bool} : wantV (.bool b) w = (b == w) := nr rfl
@[go_sem] theorem beq_tt {b : Bool} : (b == true) = b := by cases b <;> rfl
@[go_sem] theorem beq_ff {b : Bool} : (b == false) = !b := by cases b <;> rfl
attribute [go_sem] Bool.not_true Bool.not_false List.getElem?_cons_succ List.getElem?_cons_zero

@[go_sem ↓] theorem evE_tmp {i : Nat} : evE E (.tmp i) = E i := nr rfl
@[go_sem ↓] theorem evE_const {v : Value} : evE E (.const v) = v := nr rfl
@[go_sem ↓] theorem evE_func {f : FuncId} : evE E (.func f) = .func (.func f) #[] #[] := nr rfl
@[go_sem ↓] theorem putE_none {v : Value} : putE E none v = E := nr rfl
@[go_sem ↓] theorem putE_same {d : Nat} {v : Value} : putE E (some d) v d = v := if_pos rfl
@[go_sem ↓] theorem putE_other {d i : Nat} {v : Value} (h : i ≠ d) : putE E (some d) v i = E i := if_neg h
@[go_sem] theorem argsE_at {l : List Value} {i : Nat} : argsE l i = l.getD i undef := nr rfl
attribute [go_sem] List.getD_cons_zero List.getD_cons_succ ne_eq not_false_eq_true Nat.reduceEqDiff

section ops
variable {K : Value → AHeap → Prop} {ev : Operand → Value}
theorem wOp_cps {op : Op} : wOp P X ev op H K = cpsA P X H (opA P ev op H) K .mk := nr rfl
@[go_sem ↓] theorem o_move {x : Operand} : wOp P X ev (.move x) H K = cpsA P X H (.ok (ev x) H) K .mk := nr rfl
@[go_sem ↓] theorem o_assign {x : Operand} : wOp P X ev (.assign x) H K = cpsA P X H (.ok (ev x) H) K .mk := nr rfl
@[go_sem ↓] theorem o_pick {c a b : Operand} : wOp P X ev (.pick c a b) H K = cpsA P X H (liftA (pickK (ev c) (ev a) (ev b) h0) H) K .mk := nr rfl
@[go_sem ↓] theorem o_alloc {t : TypeId} : wOp P X ev (.alloc t) H K = cpsA P X H (allocA P t H) K .mk := nr rfl
@[go_sem ↓] theorem o_box {t : TypeId} {x : Operand} : wOp P X ev (.box t x) H K = cpsA P X H (newA (ev x).cells.toList t false ptrTo H) K .mk := nr rfl
@[go_sem ↓] theorem o_build {t : TypeId} {l : List (Nat × Operand)} : wOp P X ev (.build t (List.toArray l)) H K = cpsA P X H (liftA (buildK P t (parts ev l) h0) H) K .mk := nr rfl
@[go_sem ↓] theorem o_buildSlice {t : TypeId} {n : Nat} {l : List (Nat × Operand)} : wOp P X ev (.buildSlice t n (List.toArray l)) H K = cpsA P X H (buildSliceA P t n (parts ev l) H) K .mk := nr rfl
@[go_sem ↓] theorem o_load {t : TypeId} {a : Operand} : wOp P X ev (.load t a) H K = cpsA P X H (loadA P t (ev a) H) K .mk := nr rfl
@[go_sem ↓] theorem o_store {t : TypeId} {a x : Operand} : wOp P X ev (.store t a x) H K = cpsA P X H (storeA P t (ev a) (ev x) H) K .mk := nr rfl
@[go_sem ↓] theorem o_nil {x : Operand} : wOp P X ev (.nilCheck x) H K = cpsA P X H (liftA (nilK (ev x) h0) H) K .mk := nr rfl
@[go_sem ↓] theorem o_bin {op : BinOp} {t s : TypeId} {x y : Operand} : wOp P X ev (.binOp op t x y s) H K = cpsA P X H (liftA (binO P op t (ev x) (ev y) h0) H) K .mk := nr rfl
@[go_sem ↓] theorem o_un {op : UnOp} {t : TypeId} {x : Operand} : wOp P X ev (.unOp op t x) H K = cpsA P X H (liftA (unK op (ev x) h0) H) K .mk := nr rfl
@[go_sem ↓] theorem o_conv {s d : TypeId} {x : Operand} : wOp P X ev (.convert s d x) H K = cpsA P X H (convA P s d (ev x) H) K .mk := nr rfl
@[go_sem ↓] theorem o_makeFunc {f : Fn} {a b : List Operand} : wOp P X ev (.makeFunc f (List.toArray a) (List.toArray b)) H K = cpsA P X H (.ok (.func f (evs ev a).toArray (evs ev b).toArray) H) K .mk := nr rfl
@[go_sem ↓] theorem o_makeSlice {t : TypeId} {l c : Operand} : wOp P X ev (.makeSlice t l c) H K = cpsA P X H (makeSliceA P t (ev l) (ev c) H) K .mk := nr rfl
@[go_sem ↓] theorem o_slice {t : TypeId} {x : Operand} {lo hi mx : Option Operand} : wOp P X ev (.slice t x lo hi mx) H K = cpsA P X H (liftA (sliceK P t (ev x) (lo.map ev) (hi.map ev) (mx.map ev) h0) H) K .mk := nr rfl
@[go_sem ↓] theorem o_fieldAddr {t : TypeId} {x : Operand} {f : Nat} : wOp P X ev (.fieldAddr t x f) H K = cpsA P X H (liftA (fieldAddrK P t (ev x) f h0) H) K .mk := nr rfl
@[go_sem ↓] theorem o_field {t : TypeId} {x : Operand} {f : Nat} : wOp P X ev (.field t x f) H K = cpsA P X H (liftA (fieldK P t (ev x) f h0) H) K .mk := nr rfl
@[go_sem ↓] theorem o_indexAddr {t : TypeId} {x i : Operand} : wOp P X ev (.indexAddr t x i) H K = cpsA P X H (liftA (indexAddrK P t (ev x) (ev i) h0) H) K .mk := nr rfl
@[go_sem ↓] theorem o_index {t : TypeId} {x i : Operand} : wOp P X ev (.index t x i) H K = cpsA P X H (liftA (indexK P t (ev x) (ev i) h0) H) K .mk := nr rfl
@[go_sem ↓] theorem o_extract {x : Operand} {i : Nat} : wOp P X ev (.extract x i) H K = cpsA P X H (liftA (extractO (ev x) i h0) H) K .mk := nr rfl
@[go_sem ↓] theorem o_call {x : Operand} {l : List Operand} {ts : Array TypeId} : wOp P X ev (.call { callee := .value x, args := List.toArray l, argTypes := ts }) H K = cpsA P X H (liftA (callK P (ev x) (evs ev l).toArray) H) K .mk := nr rfl
@[go_sem ↓] theorem o_len {t : TypeId} {x : Operand} {ts : List TypeId} : wOp P X ev (.call { callee := .builtin .len, args := #[x], argTypes := ⟨t :: ts⟩ }) H K = cpsA P X H (liftA (lenK P t (ev x) h0) H) K .mk := nr rfl
@[go_sem ↓] theorem o_append {t t2 : TypeId} {x y : Operand} : wOp P X ev (.call { callee := .builtin .append, args := #[x, y], argTypes := #[t, t2] }) H K = cpsA P X H (match P.underlying t2 with
      | some (.slice _) => appendA P t (ev x) (ev y) H
      | _ => .no) K .mk := nr rfl
@[go_sem ↓] theorem o_copy {t : TypeId} {x y : Operand} {ts : List TypeId} : wOp P X ev (.call { callee := .builtin .copy, args := #[x, y], argTypes := ⟨t :: ts⟩ }) H K = cpsA P X H (copyA P t (ev x) (ev y) H) K .mk := nr rfl
@[go_sem ↓] theorem o_clear {t : TypeId} {x : Operand} {ts : List TypeId} : wOp P X ev (.call { callee := .builtin .clear, args := #[x], argTypes := ⟨t :: ts⟩ }) H K = cpsA P X H (clearA P t (ev x) H) K .mk := nr rfl
@[go_sem ↓] theorem o_min {x y : Operand} {ts : Array TypeId} : wOp P X ev (.call { callee := .builtin .min, args := #[x, y], argTypes := ts }) H K = cpsA P X H (liftA (minK false (ev x) (ev y) h0) H) K .mk := nr rfl
@[go_sem ↓] theorem o_max {x y : Operand} {ts : Array TypeId} : wOp P X ev (.call { callee := .builtin .max, args := #[x, y], argTypes := ts }) H K = cpsA P X H (liftA (minK true (ev x) (ev y) h0) H) K .mk := nr rfl
end ops
attribute [go_sem] evs_nil evs_cons
@[go_sem] theorem parts_nil {ev : Operand → Value} : parts ev [] = [] := nr rfl
@[go_sem] theorem parts_cons {ev : Operand → Value} {p : Nat × Operand} {l : List (Nat × Operand)} : parts ev (p :: l) = (p.1, ev p.2) :: parts ev l := nr rfl
@[congr] theorem liftA_congr {r r' : KO} (h : r = r') : liftA r H = liftA r' H := by rw [h]
@[go_sem] theorem lift_eq {v : Value} {h : KH} : liftA (.ok v h) H = .ok v H := nr rfl
@[go_sem] theorem lift_call {f : FuncId} {args : Array Value} : liftA (.call f args) H = .call f args := nr rfl

section vals
variable {h : KH}
attribute [go_sem] pick_true pick_false un_not nil_ptr
@[go_sem] theorem un_neg {k : IntKind} {n : Int} : unK .neg (.int k n) h = .ok (.int k (wrapK k (0 - n))) h := nr rfl
@[go_sem] theorem b_lss {t : TypeId} {k : IntKind} {a b : Int} : binO P .lss t (.int k a) (.int k b) h = .ok (.bool (decide (a < b))) h := by simp [binO, binK, intK, iLt_eq]
@[go_sem] theorem b_leq {t : TypeId} {k : IntKind} {a b : Int} : binO P .leq t (.int k a) (.int k b) h = .ok (.bool (decide (a ≤ b))) h := by
  simp only [binO, binK, intK, decide_true, cond_true, iLt_eq]
  congr 2; rw [Bool.eq_iff_iff]; simp
@[go_sem] theorem b_gtr {t : TypeId} {k : IntKind} {a b : Int} : binO P .gtr t (.int k a) (.int k b) h = .ok (.bool (decide (b < a))) h := by simp [binO, binK, intK, iLt_eq]
@[go_sem] theorem b_geq {t : TypeId} {k : IntKind} {a b : Int} : binO P .geq t (.int k a) (.int k b) h = .ok (.bool (decide (b ≤ a))) h := by
  simp only [binO, binK, intK, decide_true, cond_true, iLt_eq]
  congr 2; rw [Bool.eq_iff_iff]; simp
@[go_sem] theorem b_eql {t : TypeId} {k : IntKind} {a b : Int} : binO P .eql t (.int k a) (.int k b) h = .ok (.bool (decide (a = b))) h := by simp [binO, binK, intK, iEq_eq]
@[go_sem] theorem b_neq {t : TypeId} {k : IntKind} {a b : Int} : binO P .neq t (.int k a) (.int k b) h = .ok (.bool (!decide (a = b))) h := by simp [binO, binK, intK, iEq_eq]
@[go_sem] theorem b_add {t : TypeId} {k : IntKind} {a b : Int} : binO P .add t (.int k a) (.int k b) h = .ok (.int k (k.wrap (a + b))) h := by simp [binO, binK, intK, wrapK_eq]
@[go_sem] theorem b_sub {t : TypeId} {k : IntKind} {a b : Int} : binO P .sub t (.int k a) (.int k b) h = .ok (.int k (k.wrap (a - b))) h := by simp [binO, binK, intK, wrapK_eq]
@[go_sem] theorem b_mul {t : TypeId} {k : IntKind} {a b : Int} : binO P .mul t (.int k a) (.int k b) h = .ok (.int k (k.wrap (a * b))) h := by simp [binO, binK, intK, wrapK_eq]
@[go_sem] theorem b_quo {t : TypeId} {k : IntKind} {a b : Int} (hb : b ≠ 0) : binO P .quo t (.int k a) (.int k b) h = .ok (.int k (k.wrap (a.tdiv b))) h := by simp [binO, binK, intK, wrapK_eq, iEq_eq, hb]
@[go_sem] theorem b_rem {t : TypeId} {k : IntKind} {a b : Int} (hb : b ≠ 0) : binO P .rem t (.int k a) (.int k b) h = .ok (.int k (a.tmod b)) h := by simp [binO, binK, intK, iEq_eq, hb]
@[go_sem] theorem s_eql {t : TypeId} {a b : ByteArray} : binO P .eql t (.string a) (.string b) h = .ok (.bool (decide (a.data.toList = b.data.toList))) h := by simp [binO, binK, strK, bytesEq_eq]
@[go_sem] theorem s_neq {t : TypeId} {a b : ByteArray} : binO P .neq t (.string a) (.string b) h = .ok (.bool (!decide (a.data.toList = b.data.toList))) h := by simp [binO, binK, strK, bytesEq_eq]

/-- Where a field lies. -/
noncomputable def offK (P : Program) (s : TypeId) (f : Nat) : Option Nat := match P.underlying s with
  | some (.struct fs) => match lGet fs.toList f with
    | some f => match sizeK P f.type with
      | some n => bif Nat.blt 0 n then some f.offset else none
      | none => none
    | none => none
  | _ => none
def foA (off : Option Nat) (b o : Nat) (h : KH) : KO := match off with
  | some off => .ok (.pointer (some ⟨b, o + off, none⟩)) h
  | none => .no
@[go_sem] theorem foA_some {off b o : Nat} : foA (some off) b o h = .ok (.pointer (some ⟨b, o + off, none⟩)) h := nr rfl
@[go_sem] theorem field_at {s : TypeId} {b o f : Nat} : fieldAddrK P s (.pointer (some ⟨b, o, none⟩)) f h = foA (offK P s f) b o h := by
  unfold fieldAddrK offK
  cases hu : P.underlying s with
  | none => rfl
  | some d =>
    cases d with
    | struct fs =>
      simp only
      cases lGet fs.toList f with
      | none => rfl
      | some f1 =>
        simp only
        cases sizeK P f1.type with
        | none => rfl
        | some n => simp only; cases Nat.blt 0 n <;> rfl
    | _ => rfl
/-- A field of a value: its type, and where. -/
noncomputable def fldK (P : Program) (s : TypeId) (f : Nat) : Option (TypeId × Nat) := match P.underlying s with
  | some (.struct fs) => match lGet fs.toList f with
    | some f => some (f.type, f.offset)
    | none => none
  | _ => none
theorem field_of {s ty : TypeId} {f off : Nat} {cs : Array Value} (hf : fldK P s f = some (ty, off)) : fieldK P s (.agg cs) f h = match partK P ty cs.toList off with
    | some v => .ok v h
    | none => .no := by
  unfold fldK at hf
  unfold fieldK
  split at hf
  · rename_i fs hu
    split at hf
    · rename_i f1 hf1
      cases hf
      rw [hu]
      simp only [hf1]
      rfl
    · cases hf
  · cases hf
def fpA (a : Option Bool) (n : Option Nat) (l : List Value) (off : Nat) (h : KH) : KO := match a with
  | some true => (match n with
    | some n => .ok (.agg ((l.drop off).take n).toArray) h
    | none => .no)
  | some false => (match l[off]? with
    | some v => .ok v h
    | none => .no)
  | none => .no
noncomputable def fvA (P : Program) (q : Option (TypeId × Nat)) (l : List Value) (h : KH) : KO := match q with
  | some (ty, off) => fpA (isAggK P ty) (sizeK P ty) l off h
  | none => .no
@[go_sem] theorem fvA_some {ty : TypeId} {off : Nat} {l : List Value} : fvA P (some (ty, off)) l h = fpA (isAggK P ty) (sizeK P ty) l off h := nr rfl
def vaA (v : Option Value) (h : KH) : KO := match v with
  | some v => .ok v h
  | none => .no
@[go_sem] theorem vaA_some {v : Value} : vaA (some v) h = .ok v h := nr rfl
@[go_sem] theorem fpA_one {n : Option Nat} {l : List Value} {off : Nat} : fpA (some false) n l off h = vaA l[off]? h := by
  show (match l[off]? with | some v => KO.ok v h | none => .no) = _
  cases l[off]? <;> rfl
@[go_sem] theorem fpA_agg {n : Nat} {l : List Value} {off : Nat} : fpA (some true) (some n) l off h = .ok (.agg ((l.drop off).take n).toArray) h := nr rfl
@[go_sem] theorem field_v {s : TypeId} {f : Nat} {l : List Value} : fieldK P s (.agg (List.toArray l)) f h = fvA P (fldK P s f) l h := by
  unfold fieldK fldK
  cases hu : P.underlying s with
  | none => rfl
  | some d =>
    cases d with
    | struct fs =>
      simp only
      cases lGet fs.toList f with
      | none => rfl
      | some f1 =>
        simp only [fvA, partK, fpA]
        cases isAggK P f1.type with
        | none => rfl
        | some a =>
          cases a
          · simp only [lGet_eq]
            cases l[f1.offset]? <;> rfl
          · simp only [lTake_eq, lDrop_eq]
            cases sizeK P f1.type <;> rfl
    | _ => rfl
/-- A slice's elements: their type, and their size. -/
noncomputable def elK (P : Program) (t : TypeId) : Option (TypeId × Nat) := match P.underlying t with
  | some (.slice e) => match sizeK P e with
    | some s => some (e, s)
    | none => none
  | _ => none
def ixA (q : Option (TypeId × Nat)) (b o n : Nat) (i : Int) (h : KH) : KO := match q with
  | some (_, s) => if 0 ≤ i ∧ i.toNat < n then .ok (.pointer (some ⟨b, o + i.toNat * s, none⟩)) h else .no
  | none => .no
@[go_sem] theorem ixA_some {e : TypeId} {s b o n : Nat} {i : Int} : ixA (some (e, s)) b o n i h = if 0 ≤ i ∧ i.toNat < n then .ok (.pointer (some ⟨b, o + i.toNat * s, none⟩)) h else .no := nr rfl
@[go_sem] theorem index_sl {t : TypeId} {b o n c : Nat} {k : IntKind} {i : Int} (he : (elK P t).isSome = true) :
    indexAddrK P t (.slice (some ⟨b, o, none⟩) n c) (.int k i) h = ixA (elK P t) b o n i h := by
  unfold elK at he ⊢
  unfold indexAddrK
  cases hu : P.underlying t with
  | none => rw [hu] at he; cases he
  | some d =>
    rw [hu] at he
    cases d with
    | slice e =>
      simp only at he ⊢
      cases hs : sizeK P e with
      | none => rw [hs] at he; cases he
      | some s =>
        simp only [ixA]
        cases i with
        | ofNat j =>
          simp only
          rw [blt_eq]
          by_cases hj : j < n
          · simp [hj, hs]
          · simp [hj, hs]
        | negSucc j =>
          simp only
          rw [if_neg (by intro h; have := h.1; simp at this)]
    | _ => cases he
def leA (q : Option (TypeId × Nat)) (n : Nat) (h : KH) : KO := match q with
  | some _ => .ok (.int .i64 ((n : Nat) : Int)) h
  | none => .no
@[go_sem] theorem leA_some {q : TypeId × Nat} {n : Nat} : leA (some q) n h = .ok (.int .i64 ((n : Nat) : Int)) h := nr rfl
@[go_sem] theorem len_slice {t : TypeId} {a : Option Addr} {n c : Nat} (he : (elK P t).isSome = true) : lenK P t (.slice a n c) h = leA (elK P t) n h := by
  unfold elK at he ⊢
  unfold lenK
  cases hu : P.underlying t with
  | none => rw [hu] at he; cases he
  | some d =>
    rw [hu] at he
    cases d with
    | slice e =>
      simp only at he ⊢
      cases hs : sizeK P e with
      | none => rw [hs] at he; cases he
      | some s => rfl
    | _ => cases he
@[go_sem] theorem len_string {t : TypeId} {s : ByteArray} (hu : P.underlying t = some .string) : lenK P t (.string s) h = .ok (.int .i64 ((s.data.toList.length : Nat) : Int)) h := by
  unfold lenK; rw [hu]; simp [lLen_eq]
@[go_sem] theorem ext_at {l : List Value} {i : Nat} : extractO (.tuple (List.toArray l)) i h = vaA l[i]? h := by
  simp only [extractO, lGet_eq]
  cases l[i]? <;> rfl
attribute [go_sem] Option.isSome_some Int.natCast_nonneg Int.toNat_natCast
theorem call_cap {f : FuncId} {fn : Func} {cap : List Value} {args : List Value} (hf : P.funcs[f]? = some fn) (hn : decide (fn.name = "runtime.NumGoroutine") = false) (hb : fn.body.isNone = false) :
    callK P (.func (.func f) #[] (List.toArray cap)) (List.toArray args) = .call f (List.toArray (args ++ cap)) := by
  simp only [callK, hf, hn, hb, Bool.or_self, cond_false]
  simp
end vals

/-- A condition, and what follows on it. -/
def okA (v : Option Value) (H : AHeap) : AO := match v with
  | some v => .ok v H
  | none => .no
@[go_sem] theorem okA_some {v : Value} : okA (some v) H = .ok v H := nr rfl
@[go_sem] theorem load_at {t : TypeId} {b o : Nat} : loadA P t (.pointer (some ⟨b, o, none⟩)) H = okA (seeA P t o (H.get b)) H := by
  show (match seeA P t o (H.get b) with | some v => AO.ok v H | none => .no) = _
  cases seeA P t o (H.get b) <;> rfl
/-- What is seen of cells, by a type's kind and size. -/
def aggA (a : Option Bool) (n : Option Nat) (cs : List Value) (o : Nat) : Option Value := match a with
  | some true => (match n with
    | some n => if o + n ≤ cs.length then some (.agg ((cs.drop o).take n).toArray) else none
    | none => none)
  | some false => cs[o]?
  | none => none
@[go_sem] theorem see_some' {t : TypeId} {o : Nat} {B : ABlk} : seeA P t o (some B) = aggA (isAggK P t) (sizeK P t) B.cells o := by
  unfold seeA aggA; rfl
@[go_sem] theorem agg_one {n : Option Nat} {cs : List Value} {o : Nat} : aggA (some false) n cs o = cs[o]? := nr rfl
@[go_sem] theorem agg_row {n : Nat} {cs : List Value} {o : Nat} : aggA (some true) (some n) cs o = if o + n ≤ cs.length then some (.agg ((cs.drop o).take n).toArray) else none := nr rfl
noncomputable def stA (n : Option Nat) (x : List Value) (B : Option ABlk) (b o : Nat) (H : AHeap) : AO := match n, B with
  | some n, some B => if x.length = n ∧ o + n ≤ B.cells.length ∧ onesK x = true ∧ B.ro = false then .ok undef (H.upd b ⟨spliceA B.cells o x, B.elem, B.opn, false⟩) else .no
  | _, _ => .no
@[go_sem] theorem store_at {t : TypeId} {b o : Nat} {x : Value} : storeA P t (.pointer (some ⟨b, o, none⟩)) x H = stA (sizeK P t) x.cells.toList (H.get b) b o H := by
  unfold storeA stA
  simp only
  cases sizeK P t with
  | none => rfl
  | some n =>
    simp only [writeA]
    cases H.get b with
    | none => simp
    | some B =>
      simp only
      by_cases h1 : x.cells.toList.length = n
      · subst h1; simp
      · rw [if_neg h1, if_neg (fun h => h1 h.1)]
@[go_sem] theorem stA_some {n : Nat} {x : List Value} {B : ABlk} {b o : Nat} : stA (some n) x (some B) b o H = if x.length = n ∧ o + n ≤ B.cells.length ∧ onesK x = true ∧ B.ro = false then .ok undef (H.upd b ⟨spliceA B.cells o x, B.elem, B.opn, false⟩) else .no := nr rfl
@[go_sem] theorem ones_nil : onesK [] = true := nr rfl
@[go_sem] theorem ones_cons {v : Value} {l : List Value} : onesK (v :: l) = (oneK v && onesK l) := by
  rw [onesK_cons]; cases oneK v <;> rfl
@[go_sem] theorem one_int {k : IntKind} {n : Int} : oneK (.int k n) = true := nr rfl
@[go_sem] theorem one_bool {b : Bool} : oneK (.bool b) = true := nr rfl
@[go_sem] theorem one_string {s : ByteArray} : oneK (.string s) = true := nr rfl
@[go_sem] theorem one_pointer {a : Option Addr} : oneK (.pointer a) = true := nr rfl
@[go_sem] theorem one_slice {a : Option Addr} {n c : Nat} : oneK (.slice a n c) = true := nr rfl
@[go_sem] theorem cells_int {k : IntKind} {n : Int} : (Value.int k n).cells.toList = [.int k n] := nr rfl
@[go_sem] theorem cells_bool {b : Bool} : (Value.bool b).cells.toList = [.bool b] := nr rfl
@[go_sem] theorem cells_string {s : ByteArray} : (Value.string s).cells.toList = [.string s] := nr rfl
@[go_sem] theorem cells_pointer {a : Option Addr} : (Value.pointer a).cells.toList = [.pointer a] := nr rfl
@[go_sem] theorem cells_slice {a : Option Addr} {n c : Nat} : (Value.slice a n c).cells.toList = [.slice a n c] := nr rfl
@[go_sem] theorem cells_agg {l : List Value} : (Value.agg (List.toArray l)).cells.toList = l := by simp [Value.cells]
attribute [go_sem] List.length_cons List.length_nil List.drop_succ_cons List.drop_zero List.take_succ_cons List.take_zero List.take_nil Nat.zero_add Nat.reduceAdd Nat.reduceLeDiff if_true if_false true_and and_true and_self Bool.and_self Nat.le_refl List.set_cons_zero List.set_cons_succ
@[go_sem] theorem splice_one {cs : List Value} {o : Nat} {v : Value} (h : o < cs.length) : spliceA cs o [v] = cs.set o v := by
  unfold spliceA
  rw [List.set_eq_take_append_cons_drop, if_pos h]; rfl

/-- What was just made, turned. -/
@[go_sem] theorem upd_push {B C : ABlk} : (H.push B).upd H.next C = H.push C := by
  unfold AHeap.push AHeap.upd
  congr 1
  funext x
  by_cases h : x = H.next
  · simp [h]
  · simp [h]
@[go_sem] theorem get_push {B : ABlk} {b : Nat} : (H.push B).get b = if b = H.next then some B else H.get b := nr rfl
@[go_sem] theorem get_upd {B : ABlk} {b c : Nat} : (H.upd c B).get b = if b = c then some B else H.get b := nr rfl
@[go_sem] theorem get_grow {B : ABlk} {b c : Nat} : (H.grow c B).get b = if b = H.next then some B else if b = c then none else H.get b := nr rfl
@[go_sem] theorem get_tell {b : Nat} {fz : Nat → Bool} : (H.tell fz).get b = H.get b := nr rfl
@[go_sem] theorem next_push {B : ABlk} : (H.push B).next = H.next + 1 := nr rfl
@[go_sem] theorem next_upd {B : ABlk} {c : Nat} : (H.upd c B).next = H.next := nr rfl
@[go_sem] theorem next_grow {B : ABlk} {c : Nat} : (H.grow c B).next = H.next + 1 := nr rfl
@[go_sem] theorem next_tell {fz : Nat → Bool} : (H.tell fz).next = H.next := nr rfl
@[go_sem] theorem fz_push {B : ABlk} {b : Nat} : (H.push B).fz b = (b == H.next || H.fz b) := nr rfl
@[go_sem] theorem fz_upd {B : ABlk} {b c : Nat} : (H.upd c B).fz b = H.fz b := nr rfl
@[go_sem] theorem fz_grow {B : ABlk} {b c : Nat} : (H.grow c B).fz b = (b == H.next || H.fz b) := nr rfl
@[go_sem] theorem fz_tell {b : Nat} {fz : Nat → Bool} : (H.tell fz).fz b = fz b := nr rfl

/-- Blocks that are made. -/
noncomputable def alA (z : Option (List Value)) (t : TypeId) (H : AHeap) : AO := match z with
  | some z => .ok (.pointer (some ⟨H.next, 0, none⟩)) (H.push ⟨z, t, false, false⟩)
  | none => .no
@[go_sem] theorem alloc_at {t : TypeId} : allocA P t H = alA (zeroK P t) t H := by
  unfold allocA alA
  cases zeroK P t <;> rfl
@[go_sem] theorem alA_some {z : List Value} {t : TypeId} : alA (some z) t H = .ok (.pointer (some ⟨H.next, 0, none⟩)) (H.push ⟨z, t, false, false⟩) := nr rfl
@[go_sem] theorem new_ptr {cs : List Value} {t : TypeId} : newA cs t false ptrTo H = .ok (.pointer (some ⟨H.next, 0, none⟩)) (H.push ⟨cs, t, false, false⟩) := nr rfl
@[go_sem] theorem splice_nil {o : Nat} {vs : List Value} : spliceA [] o vs = vs := by simp [spliceA]
@[go_sem] theorem splice_z {a : Value} {cs vs : List Value} : spliceA (a :: cs) 0 vs = vs ++ (a :: cs).drop vs.length := by simp [spliceA]
@[go_sem] theorem splice_s {a : Value} {cs vs : List Value} {o : Nat} : spliceA (a :: cs) (o + 1) vs = a :: spliceA cs o vs := by simp [spliceA, Nat.add_right_comm]
attribute [go_sem] List.cons_append List.nil_append List.append_nil
/-- A struct's fields: where they lie, and how many cells they take. -/
noncomputable def plK (P : Program) (t : TypeId) : Option (List (Nat × Nat)) := match P.underlying t with
  | some (.struct fs) => placesK P fs.toList
  | _ => none
noncomputable def fiA (q : Option (Nat × Nat)) (vs : List Value) (k : List Value → Option (List Value)) (cs : List Value) : Option (List Value) := match q with
  | some (off, size) => if vs.length = size ∧ off + size ≤ cs.length then k (spliceA cs off vs) else none
  | none => none
@[go_sem] theorem fiA_some {off size : Nat} {vs : List Value} {k : List Value → Option (List Value)} {cs : List Value} : fiA (some (off, size)) vs k cs = if vs.length = size ∧ off + size ≤ cs.length then k (spliceA cs off vs) else none := nr rfl
noncomputable def fillA (pl : List (Nat × Nat)) (ps : List (Nat × Value)) (cs : List Value) : Option (List Value) := fillK (fun i => lGet pl i) ps cs
@[go_sem] theorem fill_nil {pl : List (Nat × Nat)} {cs : List Value} : fillA pl [] cs = some cs := nr rfl
@[go_sem] theorem fill_cons {pl : List (Nat × Nat)} {p : Nat × Value} {ps : List (Nat × Value)} {cs : List Value} : fillA pl (p :: ps) cs = fiA pl[p.1]? p.2.cells.toList (fillA pl ps) cs := by
  show (match lGet pl p.1 with
    | some (off, size) => bif Nat.beq (lLen p.2.cells.toList) size && Nat.ble (off + size) (lLen cs) then fillK (fun i => lGet pl i) ps (spliceK cs off p.2.cells.toList) else none
    | none => none) = _
  rw [lGet_eq]
  cases pl[p.1]? with
  | none => rfl
  | some q =>
    obtain ⟨off, size⟩ := q
    simp only [fiA, beq_eq, ble_eq, lLen_eq, spliceK_eq]
    by_cases h : p.2.cells.toList.length = size ∧ off + size ≤ cs.length
    · rw [if_pos h]; simp only [h.1, h.2, decide_true, Bool.and_self, cond_true]; rw [← h.1]; rfl
    · rw [if_neg h]
      cases hc : decide (p.2.cells.toList.length = size) && decide (off + size ≤ cs.length)
      · rfl
      · rw [Bool.and_eq_true, decide_eq_true_eq, decide_eq_true_eq] at hc; exact absurd hc h
noncomputable def bkA (z : Option (List Value)) (pl : Option (List (Nat × Nat))) (ps : List (Nat × Value)) (h : KH) : KO := match z, pl with
  | some z, some pl => (match fillA pl ps z with
    | some cs => .ok (.agg cs.toArray) h
    | none => .no)
  | _, _ => .no
def agA (cs : Option (List Value)) (h : KH) : KO := match cs with
  | some cs => .ok (.agg cs.toArray) h
  | none => .no
@[go_sem] theorem agA_some {cs : List Value} {h : KH} : agA (some cs) h = .ok (.agg cs.toArray) h := nr rfl
@[go_sem] theorem bkA_some {z : List Value} {pl : List (Nat × Nat)} {ps : List (Nat × Value)} {h : KH} : bkA (some z) (some pl) ps h = agA (fillA pl ps z) h := by
  simp only [bkA, agA]
@[go_sem] theorem build_st {t : TypeId} {ps : List (Nat × Value)} {h : KH} (hp : (plK P t).isSome = true) : buildK P t ps h = bkA (zeroK P t) (plK P t) ps h := by
  unfold plK at hp ⊢
  unfold buildK bkA
  cases hu : P.underlying t with
  | none => rw [hu] at hp; cases hp
  | some d =>
    rw [hu] at hp
    cases d with
    | struct fs =>
      simp only at hp ⊢
      cases zeroK P t with
      | none => rfl
      | some z =>
        simp only
        cases placesK P fs.toList with
        | none => rfl
        | some pl => rfl
    | _ => cases hp
section told
@[go_sem] theorem oblT_nil {k : Nat} {acc : List (Nat × Rec)} {ob : Obs} {H H' : AHeap} : oblT [] k acc ob H H' = True := nr rfl
@[go_sem] theorem oblT_cons {p : Nat × Nat} {tb : List (Nat × Nat)} {k : Nat} {acc : List (Nat × Rec)} {ob : Obs} {H H' : AHeap} : oblT (p :: tb) k acc ob H H' = ((if p.2 = k then obl1 (look acc p.1) ob H H' else True) ∧ oblT tb k acc ob H H') := nr rfl
@[go_sem] theorem told_nil {i : Nat} : told [] i = false := nr rfl
@[go_sem] theorem told_cons {p : Nat × Nat} {tb : List (Nat × Nat)} {i : Nat} : told (p :: tb) i = (p.1 == i || told tb i) := nr rfl
@[go_sem] theorem note_eq {tb : List (Nat × Nat)} {i : Nat} {r : Rec} {acc : List (Nat × Rec)} : note tb i r acc = if told tb i = true then (i, r) :: acc else acc := nr rfl
@[go_sem] theorem look_nil {i : Nat} : look [] i = none := nr rfl
@[go_sem] theorem look_cons {p : Nat × Rec} {acc : List (Nat × Rec)} {i : Nat} : look (p :: acc) i = if p.1 = i then some p.2 else look acc i := nr rfl
@[go_sem] theorem obl1_none {ob : Obs} {H H' : AHeap} : obl1 none ob H H' = True := nr rfl
@[go_sem] theorem obl1_some {r : Rec} {ob : Obs} {H H' : AHeap} : obl1 (some r) ob H H' = (see1 ob r.h r.h' ∧ see1 r.ob H H' ∧ new1 r.nw H H') := nr rfl
@[go_sem] theorem see1_none {H H' : AHeap} : see1 none H H' = True := nr rfl
@[go_sem] theorem see1_some {b : Nat} {π : Option ABlk → Option Value} {H H' : AHeap} : see1 (some (b, π)) H H' = (π (H'.get b) = π (H.get b)) := nr rfl
@[go_sem] theorem new1_none {H H' : AHeap} : new1 none H H' = True := nr rfl
@[go_sem] theorem new1_some {a : Nat} {H H' : AHeap} : new1 (some a) H H' = (H'.get a = H.get a) := nr rfl
noncomputable def obsV (P : Program) (t : TypeId) (v : Value) : Obs := match v with
  | .pointer (some ⟨b, o, none⟩) => some (b, seeA P t o)
  | _ => none
@[go_sem] theorem obs_load {ev : Operand → Value} {t : TypeId} {a : Operand} : obsA P ev (.load t a) = obsV P t (ev a) := nr rfl
@[go_sem] theorem obsV_ptr {t : TypeId} {b o : Nat} : obsV P t (.pointer (some ⟨b, o, none⟩)) = some (b, seeA P t o) := nr rfl
@[go_sem] theorem obs_call {ev : Operand → Value} {c : Call} : obsA P ev (.call c) = none := nr rfl
@[go_sem] theorem obs_store {ev : Operand → Value} {t : TypeId} {a x : Operand} : obsA P ev (.store t a x) = none := nr rfl
@[go_sem] theorem obs_conv {ev : Operand → Value} {s d : TypeId} {x : Operand} : obsA P ev (.convert s d x) = none := nr rfl
@[go_sem] theorem obs_alloc {ev : Operand → Value} {t : TypeId} : obsA P ev (.alloc t) = none := nr rfl
@[go_sem] theorem obs_box {ev : Operand → Value} {t : TypeId} {x : Operand} : obsA P ev (.box t x) = none := nr rfl
@[go_sem] theorem obs_bs {ev : Operand → Value} {t : TypeId} {n : Nat} {l : Array (Nat × Operand)} : obsA P ev (.buildSlice t n l) = none := nr rfl
@[go_sem] theorem obs_ms {ev : Operand → Value} {t : TypeId} {x y : Operand} : obsA P ev (.makeSlice t x y) = none := nr rfl
@[go_sem] theorem newOf_load {t : TypeId} {a : Operand} : newOf P (.load t a) H = none := nr (by unfold newOf; rw [if_neg (by simp [clsOf])])
@[go_sem] theorem newOf_store {t : TypeId} {a x : Operand} : newOf P (.store t a x) H = none := nr (by unfold newOf; rw [if_neg (by simp [clsOf])])
@[go_sem] theorem newOf_call {c : Call} : newOf P (.call c) H = none := nr (by
  unfold newOf; rw [if_neg]
  simp only [clsOf]
  split <;> decide)
@[go_sem] theorem newOf_alloc {t : TypeId} : newOf P (.alloc t) H = some H.next := nr (by unfold newOf; rw [if_pos (by simp [clsOf])])
@[go_sem] theorem newOf_box {t : TypeId} {x : Operand} : newOf P (.box t x) H = some H.next := nr (by unfold newOf; rw [if_pos (by simp [clsOf])])
@[go_sem] theorem newOf_bs {t : TypeId} {n : Nat} {l : Array (Nat × Operand)} : newOf P (.buildSlice t n l) H = some H.next := nr (by unfold newOf; rw [if_pos (by simp [clsOf])])
@[go_sem] theorem newOf_ms {t : TypeId} {x y : Operand} : newOf P (.makeSlice t x y) H = some H.next := nr (by unfold newOf; rw [if_pos (by simp [clsOf])])
attribute [go_sem] Nat.reduceBEq Bool.or_false Bool.false_or Bool.or_true Bool.true_or Bool.false_eq_true and_true true_and
end told

section res
variable {K : Value → AHeap → Prop}
@[go_sem] theorem finQ_ret {rs : List ResultVar} : finQ P rs K .ret E H = resW P rs E H K := nr rfl
@[go_sem] theorem finQ_normal {rs : List ResultVar} : finQ P rs K .normal E H = resW P rs E H K := nr rfl
noncomputable def resC (P : Program) (rs : List ResultVar) (E : Env) (H : AHeap) (k : List Value → Prop) : Prop := match rs with
  | [] => k []
  | .tmp t :: rs => resC P rs E H (fun l => k (E t :: l))
  | .cell a t :: rs => match loadA P t (E a) H with
    | .ok v _ => resC P rs E H (fun l => k (v :: l))
    | _ => False
theorem resC_eq : ∀ (rs : List ResultVar) (k : List Value → Prop), resC P rs E H k = match resA P rs E H with
    | some l => k l
    | none => False
  | [], k => rfl
  | .tmp t :: rs, k => by
    rw [resC, resC_eq rs, resA]
    cases resA P rs E H <;> rfl
  | .cell a t :: rs, k => by
    rw [resC, resA]
    cases h : loadA P t (E a) H with
    | ok v H1 =>
      simp only
      rw [resC_eq rs]
      cases resA P rs E H <;> simp only [h]
    | call f args => simp only; cases resA P rs E H <;> simp only [h]
    | no => simp only; cases resA P rs E H <;> simp only [h]
@[go_sem] theorem resW_eq {rs : List ResultVar} : resW P rs E H K = resC P rs E H (fun l => K (tupK l) H) := by rw [resC_eq]; rfl
@[congr] theorem resC_congr {rs rs' : List ResultVar} {k : List Value → Prop} (h : rs = rs') : resC P rs E H k = resC P rs' E H k := by rw [h]
@[go_sem] theorem resC_nil {k : List Value → Prop} : resC P [] E H k = k [] := nr rfl
@[go_sem] theorem resC_tmp {t : Nat} {rs : List ResultVar} {k : List Value → Prop} : resC P (.tmp t :: rs) E H k = resC P rs E H (fun l => k (E t :: l)) := nr rfl
/-- A result out of a cell. -/
def celA (r : AO) (k : Value → Prop) : Prop := match r with
  | .ok v _ => k v
  | _ => False
@[congr] theorem celA_congr {r r' : AO} {k : Value → Prop} (h : r = r') : celA r k = celA r' k := by rw [h]
@[go_sem] theorem celA_ok {v : Value} {k : Value → Prop} : celA (.ok v H) k = k v := nr rfl
@[go_sem] theorem resC_cell {a : Nat} {t : TypeId} {rs : List ResultVar} {k : List Value → Prop} : resC P (.cell a t :: rs) E H k = celA (loadA P t (E a) H) (fun v => resC P rs E H (fun l => k (v :: l))) := nr rfl
@[go_sem] theorem tup_one {v : Value} : tupK [v] = v := nr rfl
@[go_sem] theorem tup_nil : tupK [] = .tuple #[] := nr rfl
@[go_sem] theorem tup_two {v w : Value} {l : List Value} : tupK (v :: w :: l) = .tuple (v :: w :: l).toArray := nr rfl
end res

theorem wOp_mono {ev : Operand → Value} {op : Op} {K K' : Value → AHeap → Prop} (hk : ∀ v H, K v H → K' v H) (h : wOp P X ev op H K) : wOp P X ev op H K' := by
  unfold wOp at h ⊢
  split
  · rename_i v H' he; rw [he] at h; exact ⟨h.1, hk _ _ h.2⟩
  · rename_i f args he; rw [he] at h; exact h.mono fun v H' _ hh => hk v H' hh
  · rename_i he; rw [he] at h; exact h
theorem wOps_mono {ds : List (Option Nat)} : ∀ {l : List Oper} {E : Env} {H : AHeap} {K K' : Env → AHeap → Prop}, (∀ E H, K E H → K' E H) → wOps P X ds l E H K → wOps P X ds l E H K'
  | [], E, H, K, K', hk, h => hk E H h
  | o :: l, E, H, K, K', hk, h => by
    rw [wOps] at h ⊢
    split
    · rename_i hw; rw [if_pos hw] at h; exact wOp_mono (fun v H h => wOps_mono hk h) h
    · rename_i hw; rw [if_neg hw] at h; exact wOps_mono hk h
theorem wDraw_mono {tb : List (Nat × Nat)} {ds : List (Option Nat)} : ∀ {l : List Oper} {k : Nat} {acc : List (Nat × Rec)} {E : Env} {H : AHeap} {K K' : Env → AHeap → Prop}, (∀ E H, K E H → K' E H) → wDraw P X tb ds l k acc E H K → wDraw P X tb ds l k acc E H K'
  | [], k, acc, E, H, K, K', hk, h => hk E H h
  | o :: l, k, acc, E, H, K, K', hk, h => by
    rw [wDraw] at h ⊢
    split
    · rename_i hw; rw [if_pos hw] at h; exact wOp_mono (fun v H h => ⟨h.1, wDraw_mono hk h.2⟩) h
    · rename_i hw; rw [if_neg hw] at h; exact wDraw_mono hk h
theorem itW_mono {step : Env → AHeap → (Exit → Env → AHeap → Prop) → Prop} (hs : ∀ E H Q Q', (∀ e E H, Q e E H → Q' e E H) → step E H Q → step E H Q') : ∀ {n : Nat} {E : Env} {H : AHeap} {Q Q' : Exit → Env → AHeap → Prop}, (∀ e E H, Q e E H → Q' e E H) → itW step n E H Q → itW step n E H Q'
  | 0, E, H, Q, Q', hq, h => h
  | n + 1, E, H, Q, Q', hq, h => by
    rw [itW] at h ⊢
    refine hs E H _ _ (fun e E H h => ?_) h
    cases e with
    | normal => exact itW_mono hs hq h
    | _ => exact hq _ _ _ h
theorem wC_mono : ∀ {c : Code} {E : Env} {H : AHeap} {Q Q' : Exit → Env → AHeap → Prop}, (∀ e E H, Q e E H → Q' e E H) → wC P X T c E H Q → wC P X T c E H Q' := by
  intro c
  induction c with
  | skip => intro E H Q Q' hq h; exact hq _ _ _ h
  | label l => intro E H Q Q' hq h; exact hq _ _ _ h
  | exit id => intro E H Q Q' hq h; exact hq _ _ _ h
  | ret => intro E H Q Q' hq h; exact hq _ _ _ h
  | region id ops draw =>
    intro E H Q Q' hq h
    cases draw
    · exact wOps_mono (hq .normal) h
    · exact wDraw_mono (hq .normal) h
  | seq a b iha ihb =>
    intro E H Q Q' hq h
    rw [wC] at h ⊢
    refine iha (fun e E H h => ?_) h
    cases e with
    | normal => exact ihb hq h
    | _ => exact hq _ _ _ h
  | cond x a b iha ihb =>
    intro E H Q Q' hq h
    rw [wC] at h ⊢
    unfold cndV at h ⊢
    split
    · rename_i v hv
      rw [hv] at h
      simp only at h
      split
      · rename_i hb; rw [if_pos hb] at h; exact iha hq h
      · rename_i hb; rw [if_neg hb] at h; exact ihb hq h
    · rename_i hv
      split at h
      · rename_i v hv2; exact (hv _ hv2).elim
      · exact h
  | block id a iha =>
    intro E H Q Q' hq h
    rw [wC] at h ⊢
    refine iha (fun e E H h => ?_) h
    cases e with
    | exit i =>
      simp only [blkQ] at h ⊢
      split
      · rename_i he; rw [if_pos he] at h; exact hq _ _ _ h
      · rename_i he; rw [if_neg he] at h; exact hq _ _ _ h
    | _ => exact hq _ _ _ h
  | loop a iha =>
    intro E H Q Q' hq h
    rw [wC] at h ⊢
    obtain ⟨n, h⟩ := h
    exact ⟨n, itW_mono (step := wC P X T a) (fun E H Q Q' => iha) hq h⟩
  | rangeFunc f ps x y => intro E H Q Q' hq h; cases h
  | scope b => intro E H Q Q' hq h; cases h
  | goto l => intro E H Q Q' hq h; cases h
  | refuse w => intro E H Q Q' hq h; cases h

/-- A loop: what holds at each round's head, by a number that goes down. -/
theorem w_loop {a : Code} (I : Nat → Env → AHeap → Prop) {n : Nat} (h0 : I n E H) (hr : ∀ n E H, I n E H → wC P X T a E H (thenQ (fun E' H' => ∃ m, m < n ∧ I m E' H') Q)) : wC P X T (.loop a) E H Q := by
  rw [wC]
  refine ⟨n + 1, ?_⟩
  have key : ∀ k n E H, n < k → I n E H → itW (wC P X T a) k E H Q := by
    intro k
    induction k with
    | zero => intro n E H hn; omega
    | succ k ih =>
      intro n E H hn hI
      rw [itW]
      refine wC_mono (fun e E' H' h => ?_) (hr n E H hI)
      cases e with
      | normal =>
        obtain ⟨m, hm, h⟩ := h
        exact ih m E' H' (by omega) h
      | _ => exact h
  exact key (n + 1) n E H (by omega) h0
end
end Go.Proofs.Ytgjpcliaggpcaaa.Ab
