/- The operations of the evaluator that neither read nor turn memory, one by one. -/
import Derived.Test.YtgjpcliaggpcaaaAbF
set_option linter.unusedVariables false
set_option linter.unusedSimpArgs false
namespace Go.Proofs.Ytgjpcliaggpcaaa.Ab
open Go Classical

section
variable {P : Program}

/-- It yields a value that fits, in whatever world. -/
def Yl (P : Program) (σ : Sig) (v : Value) (s : Sem Value) : Prop := ∃ v', VR σ v v' ∧ ∀ w, s.run P w = .ok v' w

theorem guard_int {op : BinOp} {t : TypeId} {x y : Operand} {k k' : IntKind} {a b : Int} (w : World) : (eqGuard op t x y (.int k a) (.int k' b)).run P w = .ok () w := by
  cases op <;> simp [eqGuard]
theorem guard_str {op : BinOp} {t : TypeId} {x y : Operand} {a b : ByteArray} (w : World) : (eqGuard op t x y (.string a) (.string b)).run P w = .ok () w := by
  cases op <;> simp [eqGuard]

theorem bitsK_eq (k : IntKind) (a : Int) : bitsK k a = (BitVec.ofInt k.bits a).toNat := by
  rw [BitVec.toNat_ofInt]
  cases a with
  | ofNat n =>
    show n % 2 ^ k.bits = _
    have e : ((Int.ofNat n) % ((2 ^ k.bits : Nat) : Int)) = ((n % 2 ^ k.bits : Nat) : Int) := by simp
    rw [e]; rfl
  | negSucc n => rfl

theorem intK_run {σ : Sig} {op : BinOp} {t : TypeId} {k : IntKind} {a b : Int} {v : Value} (h : intK op k a b = some v) : Yl P σ v (binOp op t (.int k a) (.int k b)) := by
  cases op <;> simp only [intK] at h
  case add => cases h; exact ⟨_, .same rfl, fun w => by simp [binOp, Op.intArith, wrapK_eq]⟩
  case sub => cases h; exact ⟨_, .same rfl, fun w => by simp [binOp, Op.intArith, wrapK_eq]⟩
  case mul => cases h; exact ⟨_, .same rfl, fun w => by simp [binOp, Op.intArith, wrapK_eq]⟩
  case quo =>
    rw [iEq_eq] at h
    by_cases hb : b = 0
    · simp [hb] at h
    · simp only [hb, decide_false, cond_false, Option.some.injEq] at h
      subst h
      exact ⟨_, .same rfl, fun w => by simp [binOp, Op.intDiv, wrapK_eq, hb]⟩
  case rem =>
    rw [iEq_eq] at h
    by_cases hb : b = 0
    · simp [hb] at h
    · simp only [hb, decide_false, cond_false, Option.some.injEq] at h
      subst h
      exact ⟨_, .same rfl, fun w => by simp [binOp, Op.intDiv, hb]⟩
  case eql => cases h; exact ⟨_, .same rfl, fun w => by simp [binOp, Op.intCmp, iEq_eq]; rfl⟩
  case neq => cases h; exact ⟨_, .same rfl, fun w => by simp [binOp, Op.intCmp, iEq_eq]; rfl⟩
  case lss => cases h; exact ⟨_, .same rfl, fun w => by simp [binOp, Op.intCmp, iLt_eq]⟩
  case leq => cases h; exact ⟨_, .same rfl, fun w => by simp [binOp, Op.intCmp, iLt_eq, ← decide_not, Int.not_lt]⟩
  case gtr => cases h; exact ⟨_, .same rfl, fun w => by simp [binOp, Op.intCmp, iLt_eq]⟩
  case geq => cases h; exact ⟨_, .same rfl, fun w => by simp [binOp, Op.intCmp, iLt_eq, ← decide_not, Int.not_lt]⟩
  case and => cases h; exact ⟨_, .same rfl, fun w => by simp [binOp, Op.intBits, wrapK_eq, bitsK_eq]⟩
  case or => cases h; exact ⟨_, .same rfl, fun w => by simp [binOp, Op.intBits, wrapK_eq, bitsK_eq]⟩
  case xor => cases h; exact ⟨_, .same rfl, fun w => by simp [binOp, Op.intBits, wrapK_eq, bitsK_eq]⟩
  case andNot => cases h; exact ⟨_, .same rfl, fun w => by simp [binOp, Op.intBits, wrapK_eq, bitsK_eq]⟩
  all_goals cases h

theorem shiftK_run {σ : Sig} {op : BinOp} {t : TypeId} {k k' : IntKind} {a b : Int} {v : Value} (h : shiftK op k a b = some v) : Yl P σ v (binOp op t (.int k a) (.int k' b)) := by
  unfold shiftK at h
  split at h
  · rename_i b
    have hm : (bif Nat.ble b k.bits then b else k.bits) = min b k.bits := by
      rw [ble_eq]
      by_cases hb : b ≤ k.bits
      · simp [hb, Nat.min_eq_left hb]
      · simp [hb, Nat.min_eq_right (Nat.le_of_not_le hb)]
    have hp : ((2 ^ (min b k.bits) : Nat) : Int) = (2 : Int) ^ (min b k.bits) := by simp
    split at h
    · cases h
      refine ⟨_, .same rfl, fun w => ?_⟩
      rw [hm]
      simp [binOp, Op.shift, wrapK_eq]
      intro hneg; omega
    · cases h
      refine ⟨_, .same rfl, fun w => ?_⟩
      rw [hm]
      simp [binOp, Op.shift]
      intro hneg; omega
    · cases h
  · cases h

theorem bytes_append (a b : ByteArray) : (⟨(a.data.toList ++ b.data.toList).toArray⟩ : ByteArray) = a ++ b := by
  apply ByteArray.ext
  apply Array.ext'
  simp

theorem lLen_bytes (a : ByteArray) : lLen a.data.toList = a.size := by rw [lLen_eq]; exact Array.length_toList

theorem strK_run {σ : Sig} {op : BinOp} {t : TypeId} {a b : ByteArray} {v : Value} (h : strK op a b = some v) : Yl P σ v (binOp op t (.string a) (.string b)) := by
  cases op <;> simp only [strK] at h
  case add =>
    rw [lLen_bytes, lLen_bytes, blt_eq] at h
    by_cases hs : a.size + b.size < 4611686018427387904
    · simp only [hs, decide_true, cond_true, Option.some.injEq] at h
      subst h
      rw [bytes_append]
      have h2 : ¬ (9223372036854775807 < (a.size : Int) + (b.size : Int)) := by omega
      exact ⟨_, .same rfl, fun w => by simp [binOp, Op.stringOp, h2, IntKind.max, IntKind.signed, IntKind.bits]⟩
    · simp [hs] at h
  case eql => cases h; exact ⟨_, .same rfl, fun w => by simp [binOp, Op.stringOp, bytesEq_eq, ByteArray.toList_eq]; exact Bool.eq_iff_iff.2 (by simp)⟩
  case neq => cases h; exact ⟨_, .same rfl, fun w => by simp [binOp, Op.stringOp, bytesEq_eq, ByteArray.toList_eq]; exact Bool.eq_iff_iff.2 (by simp)⟩
  all_goals cases h

/-- Values that an equality by type speaks of. -/
def eqable : Value → Bool
  | .bool _ | .slice _ _ _ | .pointer _ | .agg _ => true
  | _ => false

theorem eqK_able {d : Nat} {t : TypeId} {x y : Value} {b : Bool} (h : eqK P d t x y = some b) (hx : ∀ k n, x ≠ .int k n) (hs : ∀ s, x ≠ .string s) : eqable x = true ∧ eqable y = true := by
  cases d with
  | zero => cases h
  | succ d =>
    rw [eqK_succ] at h
    split at h
    · unfold eqBool at h; split at h <;> first | (cases h; done) | exact ⟨rfl, rfl⟩
    · unfold eqInt at h; split at h
      · exact absurd rfl (hx _ _)
      · cases h
    · unfold eqStr at h; split at h
      · exact absurd rfl (hs _)
      · cases h
    · unfold eqSlice at h; split at h <;> first | (cases h; done) | exact ⟨rfl, rfl⟩
    · unfold eqPtr at h; split at h <;> first | (cases h; done) | exact ⟨rfl, rfl⟩
    · split at h <;> first | (cases h; done) | exact ⟨rfl, rfl⟩
    · cases h

theorem eqK_guard {d : Nat} {t : TypeId} {x y : Value} {b : Bool} (h : eqK P d t x y = some b) {xs ys : Array Value} (hx : x = .agg xs) : P.eqGuardType P.depth t = false := by
  subst hx
  cases d with
  | zero => cases h
  | succ d =>
    rw [eqK_succ] at h
    split at h
    · cases h
    · cases h
    · cases h
    · cases h
    · cases h
    · split at h
      · rename_i heq
        cases hg : P.eqGuardType P.depth t
        · rfl
        · simp [hg] at h
      · cases h
    · cases h

theorem VR.able {σ : Sig} {x x' : Value} (h : VR σ x x') (he : eqable x = true) : eqable x' = true ∧ ((∃ a, x = .agg a ∧ ∃ a', x' = .agg a') ∨ (∀ a', x' ≠ .agg a')) := by
  cases h with
  | same h => exact ⟨he, .inr (fun a' e => by subst e; cases h)⟩
  | ptr h => exact ⟨rfl, .inr (fun a' e => by cases e)⟩
  | slice h => exact ⟨rfl, .inr (fun a' e => by cases e)⟩
  | opq => exact ⟨rfl, .inr (fun a' e => by cases e)⟩
  | agg h1 h2 => exact ⟨rfl, .inl ⟨_, rfl, _, rfl⟩⟩
  | func => cases he
  | tuple => cases he

theorem guard_able {op : BinOp} {t : TypeId} {x y : Operand} {a b : Value} (ha : eqable a = true) (hb : eqable b = true) (hg : (∀ xs, a ≠ .agg xs) ∨ P.eqGuardType P.depth t = false) (w : World) :
    (eqGuard op t x y a b).run P w = .ok () w := by
  cases a <;> first | (cases ha; done) | skip
  all_goals cases b <;> first | (cases hb; done) | skip
  all_goals cases op <;> simp [eqGuard]
  all_goals
    rcases hg with hg | hg
    · exact absurd rfl (hg _)
    · simp [run_program, hg]

theorem binOp_able {t : TypeId} {a b : Value} (ha : eqable a = true) (hb : eqable b = true) :
    binOp .eql t a b = (do pure (.bool (← Op.equal t a b))) ∧ binOp .neq t a b = (do pure (.bool (!(← Op.equal t a b)))) := by
  cases a <;> first | (cases ha; done) | skip
  all_goals cases b <;> first | (cases hb; done) | exact ⟨rfl, rfl⟩

theorem binK_run {σ : Sig} {op : BinOp} {t : TypeId} {x y x' y' : Value} {v : Value} (xo yo : Operand) (h : binK P op t x y = some v) (hx : VR σ x x') (hy : VR σ y y') :
    Yl P σ v (do eqGuard op t xo yo x' y'; binOp op t x' y') := by
  have key : ∀ b, eqK P 10000 t x y = some b → (∀ k n, x ≠ .int k n) → (∀ s, x ≠ .string s) → op = .eql ∨ op = .neq → v = .bool (if op = .eql then b else !b) → Yl P σ v (do eqGuard op t xo yo x' y'; binOp op t x' y') := by
    intro b he h1 h2 hop hv
    obtain ⟨ax, ay⟩ := eqK_able he h1 h2
    obtain ⟨ax', cx⟩ := hx.able ax
    obtain ⟨ay', _⟩ := hy.able ay
    have hg : (∀ xs, x' ≠ .agg xs) ∨ P.eqGuardType P.depth t = false := by
      rcases cx with ⟨a, ha, _⟩ | hn
      · exact .inr (eqK_guard (ys := #[]) he ha)
      · exact .inl hn
    obtain ⟨e1, e2⟩ := binOp_able (t := t) ax' ay'
    have hr := eqK_run 10000 he hx hy
    refine ⟨v, .same (by rw [hv]; rfl), fun w => ?_⟩
    rcases hop with rfl | rfl
    · rw [e1, hv]; simp [guard_able ax' ay' hg, Op.equal, Op.maxDepth, hr]
    · rw [e2, hv]; simp [guard_able ax' ay' hg, Op.equal, Op.maxDepth, hr]
  unfold binK at h
  split at h
  · rename_i k a k' b
    split at h
    · obtain ⟨v', h1, h2⟩ := shiftK_run (P := P) (σ := σ) (t := t) (k' := k') h
      rw [hx.int, hy.int]
      exact ⟨v', h1, fun w => by simp [guard_int, h2]⟩
    · obtain ⟨v', h1, h2⟩ := shiftK_run (P := P) (σ := σ) (t := t) (k' := k') h
      rw [hx.int, hy.int]
      exact ⟨v', h1, fun w => by simp [guard_int, h2]⟩
    · by_cases hk : k = k'
      · subst hk
        simp only [decide_true, cond_true] at h
        obtain ⟨v', h1, h2⟩ := intK_run (P := P) (σ := σ) (t := t) h
        rw [hx.int, hy.int]
        exact ⟨v', h1, fun w => by simp [guard_int, h2]⟩
      · simp [hk] at h
  · obtain ⟨v', h1, h2⟩ := strK_run (P := P) (σ := σ) (t := t) h
    rw [hx.string, hy.string]
    exact ⟨v', h1, fun w => by simp [guard_str, h2]⟩
  · cases h
  · cases h
  · rename_i hn1 hn2 hi hs
    split at h
    · obtain ⟨b, hb, rfl⟩ := Option.map_eq_some_iff.1 h
      exact key b hb (fun k n e => hn1 k n e) (fun s e => hn2 s e) (.inl rfl) (by simp)
    · obtain ⟨b, hb, rfl⟩ := Option.map_eq_some_iff.1 h
      exact key b hb (fun k n e => hn1 k n e) (fun s e => hn2 s e) (.inr rfl) (by simp)
    · cases h

theorem unK_run {σ : Sig} {op : UnOp} {x x' : Value} {v : Value} {h h' : KH} (hh : unK op x h = .ok v h') (hx : VR σ x x') : h' = h ∧ Yl P σ v (Op.unary op x') := by
  unfold unK at hh
  split at hh
  · cases hh; rw [hx.bool]; exact ⟨rfl, _, .same rfl, fun w => by simp [Op.unary]⟩
  · cases hh; rw [hx.int]; exact ⟨rfl, _, .same rfl, fun w => by simp [Op.unary, Op.intArith, wrapK_eq]⟩
  · cases hh

theorem nilK_run {σ : Sig} {x x' : Value} {v : Value} {h h' : KH} {o : Oper} {a : Act} {xo : Operand} (hh : nilK x h = .ok v h') (hx : VR σ x x') (ho : o.op = .nilCheck xo) (he : a.eval xo = x') :
    h' = h ∧ ∃ v', VR σ v v' ∧ ∀ w, (execOp a.eval o).run P w = .ok (.value v') w := by
  unfold nilK at hh
  split at hh
  · cases hh
    refine ⟨rfl, x', hx, fun w => ?_⟩
    obtain ⟨a', rfl, ha⟩ := hx.ptr_any
    cases a' with
    | none => cases ha
    | some a' => simp [execOp, ho, he]
  · cases hh
    refine ⟨rfl, x', hx, fun w => ?_⟩
    obtain ⟨f', c', rfl, _, _⟩ := hx.func_inv
    simp [execOp, ho, he]
  · cases hh

theorem extractO_run {σ : Sig} {x x' : Value} {i : Nat} {v : Value} {h h' : KH} (hh : extractO x i h = .ok v h') (hx : VR σ x x') : h' = h ∧ Yl P σ v (Instr.extract x' i) := by
  unfold extractO at hh
  split at hh
  · obtain ⟨a', rfl, ha⟩ := hx.tuple_inv
    rw [lGet_eq] at hh
    split at hh
    · rename_i v0 hv0
      cases hh
      have hlt : i < a'.size := by
        have := (List.getElem?_eq_some_iff.1 hv0).1
        rw [← ha.1]; simpa using this
      refine ⟨rfl, a'[i], ?_, fun w => by simp [Instr.extract, Array.getElem?_eq_getElem hlt]⟩
      have := ha.toL.at i
      simpa [List.getD_eq_getElem?_getD, hv0, Array.getElem?_eq_getElem hlt] using this
    · cases hh
  · cases hh

theorem addr_add (b o n : Nat) : (⟨b, o, none⟩ : Addr).add n = ⟨b, o + n, none⟩ := by unfold Addr.add; split <;> simp_all

theorem fieldAddrK_run {σ : Sig} {s : TypeId} {x x' : Value} {f : Nat} {v : Value} {h h' : KH} (hh : fieldAddrK P s x f h = .ok v h') (hx : VR σ x x') : h' = h ∧ Yl P σ v (Instr.fieldAt s x' f) := by
  unfold fieldAddrK at hh
  split at hh
  · rename_i b o fs hu
    rw [lGet_eq] at hh
    split at hh
    · rename_i f0 hf0
      split at hh
      · rename_i n hn
        rw [blt_eq] at hh
        by_cases hpos : 0 < n
        · simp only [hpos, decide_true, cond_true, KO.ok.injEq] at hh
          obtain ⟨rfl, rfl⟩ := hh
          obtain ⟨l, hl, rfl⟩ := hx.ptr_inv
          refine ⟨rfl, _, .ptr hl, fun w => ?_⟩
          have hn0 : n ≠ 0 := by omega
          simp only [Array.getElem?_toList] at hf0
          simp [Instr.fieldAt, run_underlying hu, hf0, Instr.sureAddr, fieldPlace, sizeK_run hn, hn0, addr_add, Nat.add_assoc]
        · simp [hpos] at hh
      · cases hh
    · cases hh
  · cases hh

theorem indexAddrK_run {σ : Sig} {t : TypeId} {x x' i i' : Value} {v : Value} {h h' : KH} (hh : indexAddrK P t x i h = .ok v h') (hx : VR σ x x') (hi : VR σ i i') : h' = h ∧ Yl P σ v (Instr.indexAt t x' i') := by
  unfold indexAddrK at hh
  split at hh
  · rename_i e b o n c k j hu
    split at hh
    · rename_i s hs
      rw [blt_eq] at hh
      by_cases hlt : j < n
      · simp only [hlt, decide_true, cond_true, KO.ok.injEq] at hh
        obtain ⟨rfl, rfl⟩ := hh
        obtain ⟨l, hl, rfl⟩ := hx.slice_inv
        rw [hi.int]
        refine ⟨rfl, _, .ptr hl, fun w => ?_⟩
        have h0 : (0 : Int) ≤ Int.ofNat j ∧ Int.ofNat j < (n : Int) := by constructor <;> simp <;> omega
        simp [Instr.indexAt, asIntOf, run_underlying hu, sizeK_run hs, addr_add, Nat.add_assoc, hlt]
      · simp [hlt] at hh
    · cases hh
  · rename_i n e b o k j hu
    split at hh
    · rename_i s hs
      rw [blt_eq] at hh
      by_cases hlt : j < n
      · simp only [hlt, decide_true, cond_true, KO.ok.injEq] at hh
        obtain ⟨rfl, rfl⟩ := hh
        obtain ⟨l, hl, rfl⟩ := hx.ptr_inv
        rw [hi.int]
        refine ⟨rfl, _, .ptr hl, fun w => ?_⟩
        simp [Instr.indexAt, asIntOf, run_underlying hu, sizeK_run hs, addr_add, Nat.add_assoc, hlt, Instr.sureAddr]
      · simp [hlt] at hh
    · cases hh
  · cases hh

theorem fieldK_run {σ : Sig} {t : TypeId} {x x' : Value} {f : Nat} {v : Value} {h h' : KH} (hh : fieldK P t x f h = .ok v h') (hx : VR σ x x') : h' = h ∧ Yl P σ v (Instr.field t x' f) := by
  unfold fieldK at hh
  split at hh
  · rename_i cs fs hu
    obtain ⟨cs', rfl, hcs⟩ := hx.agg_inv
    rw [lGet_eq] at hh
    split at hh
    · rename_i f0 hf0
      split at hh
      · rename_i v0 hv0
        cases hh
        obtain ⟨v', h1, h2⟩ := partK_run hv0 hcs.toL
        simp only [Array.getElem?_toList] at hf0
        exact ⟨rfl, v', h2, fun w => by simp [Instr.field, run_underlying hu, hf0, asAgg, h1]⟩
      · cases hh
    · cases hh
  · cases hh

theorem indexK_run {σ : Sig} {t : TypeId} {x x' i i' : Value} {v : Value} {h h' : KH} (hh : indexK P t x i h = .ok v h') (hx : VR σ x x') (hi : VR σ i i') : h' = h ∧ Yl P σ v (Instr.index t x' i') := by
  unfold indexK at hh
  split at hh
  · rename_i s k j hu
    rw [lGet_eq] at hh
    split at hh
    · rename_i c hc
      cases hh
      rw [hx.string, hi.int]
      refine ⟨rfl, _, .same rfl, fun w => ?_⟩
      have hlt : j < s.size := (List.getElem?_eq_some_iff.1 hc).1
      have : s[j]? = some c := by
        rw [getElem?_pos s j hlt, ← (List.getElem?_eq_some_iff.1 hc).2]
        rfl
      simp [Instr.index, asIntOf, run_underlying hu, this]
    · cases hh
  · rename_i n e cs k j hu
    split at hh
    · rename_i s hs
      rw [blt_eq] at hh
      by_cases hlt : j < n
      · simp only [hlt, decide_true, cond_true] at hh
        split at hh
        · rename_i v0 hv0
          cases hh
          obtain ⟨cs', rfl, hcs⟩ := hx.agg_inv
          obtain ⟨v', h1, h2⟩ := partK_run hv0 hcs.toL
          rw [hi.int]
          exact ⟨rfl, v', h2, fun w => by simp [Instr.index, asIntOf, run_underlying hu, hlt, sizeK_run hs, h1]⟩
        · cases hh
      · simp [hlt] at hh
    · cases hh
  · cases hh
end
end Go.Proofs.Ytgjpcliaggpcaaa.Ab
