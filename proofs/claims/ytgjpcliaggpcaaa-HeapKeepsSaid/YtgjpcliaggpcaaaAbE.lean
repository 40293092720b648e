/- The operations of the evaluator come to what the model's come to: those that neither read nor turn memory. -/
import Derived.Test.YtgjpcliaggpcaaaAbD
import Derived.Test.YtgjpcliaggpcaaaAbK
import Derived.Laws.Slices
import Derived.Handy
set_option linter.unusedVariables false
set_option linter.unusedSimpArgs false
namespace Go.Proofs.Ytgjpcliaggpcaaa.Ab
open Go Classical

section
variable {P : Program}

theorem VR.ptr_inv {σ : Sig} {b o : Nat} {v : Value} (h : VR σ (.pointer (some ⟨b, o, none⟩)) v) : ∃ l, σ b = some l ∧ v = .pointer (some ⟨l.blk, l.base + o, none⟩) := by
  cases h with
  | same h => cases h
  | ptr h => exact ⟨_, h, rfl⟩
theorem VR.slice_inv {σ : Sig} {b o n c : Nat} {v : Value} (h : VR σ (.slice (some ⟨b, o, none⟩) n c) v) : ∃ l, σ b = some l ∧ v = .slice (some ⟨l.blk, l.base + o, none⟩) n (c + l.room) := by
  cases h with
  | same h => cases h
  | slice h => exact ⟨_, h, rfl⟩
theorem VR.slice_nil {σ : Sig} {n c : Nat} {v : Value} (h : VR σ (.slice none n c) v) : v = .slice none n c := by cases h; rfl
theorem VR.agg_inv {σ : Sig} {a : Array Value} {v : Value} (h : VR σ (.agg a) v) : ∃ a', v = .agg a' ∧ VRs σ a a' := by
  cases h with
  | same h => cases h
  | agg h1 h2 => exact ⟨_, rfl, h1, h2⟩
theorem VR.tuple_inv {σ : Sig} {a : Array Value} {v : Value} (h : VR σ (.tuple a) v) : ∃ a', v = .tuple a' ∧ VRs σ a a' := by
  cases h with
  | same h => cases h
  | tuple h1 h2 => exact ⟨_, rfl, h1, h2⟩
theorem VR.func_inv {σ : Sig} {fn : Fn} {f c : Array Value} {v : Value} (h : VR σ (.func fn f c) v) : ∃ f' c', v = .func fn f' c' ∧ VRs σ f f' ∧ VRs σ c c' := by
  cases h with
  | same h => cases h
  | func h1 h2 h3 h4 => exact ⟨_, _, rfl, ⟨h1, h3⟩, h2, h4⟩

/-- Lists of values. -/
def VL (σ : Sig) (a a' : List Value) : Prop := a.length = a'.length ∧ ∀ i, i < a.length → VR σ (a.getD i undef) (a'.getD i undef)

theorem VRs.toL {σ : Sig} {a a' : Array Value} (h : VRs σ a a') : VL σ a.toList a'.toList := by
  refine ⟨by simpa using h.1, fun i hi => ?_⟩
  have := h.at i
  simpa [Array.getD_eq_getD_getElem?, List.getD_eq_getElem?_getD] using this
theorem VL.toA {σ : Sig} {a a' : List Value} (h : VL σ a a') : VRs σ a.toArray a'.toArray := by
  refine ⟨by simpa using h.1, fun i hi => ?_⟩
  have := h.2 i (by simpa using hi)
  simpa [Array.getD_eq_getD_getElem?, List.getD_eq_getElem?_getD] using this
theorem VL.at {σ : Sig} {a a' : List Value} (h : VL σ a a') (i : Nat) : VR σ (a.getD i undef) (a'.getD i undef) := by
  by_cases hi : i < a.length
  · exact h.2 i hi
  · rw [List.getD_eq_getElem?_getD, List.getD_eq_getElem?_getD, List.getElem?_eq_none (by omega), List.getElem?_eq_none (by have := h.1; omega)]; exact .undef σ
theorem VL.nil (σ : Sig) : VL σ [] [] := ⟨rfl, fun i h => absurd h (by simp)⟩
theorem VL.cons {σ : Sig} {x x' : Value} {a a' : List Value} (hx : VR σ x x') (h : VL σ a a') : VL σ (x :: a) (x' :: a') := by
  refine ⟨by simp [h.1], fun i hi => ?_⟩
  cases i with
  | zero => exact hx
  | succ i => simpa using h.at i
theorem VL.of_cons {σ : Sig} {x : Value} {a l' : List Value} (h : VL σ (x :: a) l') : ∃ x' a', l' = x' :: a' ∧ VR σ x x' ∧ VL σ a a' := by
  cases l' with
  | nil => have := h.1; simp at this
  | cons x' a' => exact ⟨x', a', rfl, by simpa using h.at 0, by have := h.1; simpa using this, fun i hi => by simpa using h.at (i + 1)⟩
theorem VL.of_nil {σ : Sig} {l' : List Value} (h : VL σ [] l') : l' = [] := List.length_eq_zero_iff.1 h.1.symm
theorem VL.append {σ : Sig} {a a' b b' : List Value} (h : VL σ a a') (h' : VL σ b b') : VL σ (a ++ b) (a' ++ b') := by
  induction a generalizing a' with
  | nil => rw [h.of_nil]; exact h'
  | cons x a ih => obtain ⟨x', a'', rfl, hx, ha⟩ := h.of_cons; exact .cons hx (ih ha)
theorem VL.mono {σ σ' : Sig} {a a' : List Value} (h : VL σ a a') (hs : ∀ b l, σ b = some l → σ' b = some l) : VL σ' a a' := ⟨h.1, fun i hi => (h.2 i hi).mono hs⟩
theorem VL.drop {σ : Sig} {a a' : List Value} (h : VL σ a a') (n : Nat) : VL σ (a.drop n) (a'.drop n) := by
  refine ⟨by simp [h.1], fun i hi => ?_⟩
  have := h.at (n + i)
  simpa [List.getD_eq_getElem?_getD, List.getElem?_drop] using this
theorem VL.take {σ : Sig} {a a' : List Value} (h : VL σ a a') (n : Nat) : VL σ (a.take n) (a'.take n) := by
  refine ⟨by simp [h.1], fun i hi => ?_⟩
  have hi' : i < n := by simp at hi; omega
  have := h.at i
  simpa [List.getD_eq_getElem?_getD, List.getElem?_take, hi'] using this

theorem lGet_eq {α : Type} : ∀ (l : List α) (n : Nat), lGet l n = l[n]?
  | [], n => by simp [lGet]
  | a :: l, 0 => rfl
  | a :: l, n + 1 => by rw [List.getElem?_cons_succ, ← lGet_eq l n]; rfl
theorem lDrop_eq {α : Type} : ∀ (l : List α) (n : Nat), lDrop l n = l.drop n
  | [], n => by simp [lDrop]
  | a :: l, 0 => rfl
  | a :: l, n + 1 => by rw [List.drop_succ_cons, ← lDrop_eq l n]; rfl
theorem lTake_eq {α : Type} : ∀ (l : List α) (n : Nat), lTake l n = l.take n
  | [], n => by simp [lTake]
  | a :: l, 0 => rfl
  | a :: l, n + 1 => by rw [List.take_succ_cons, ← lTake_eq l n]; rfl
theorem lLen_eq {α : Type} : ∀ (l : List α), lLen l = l.length
  | [] => rfl
  | a :: l => by rw [List.length_cons, ← lLen_eq l]; rfl

theorem frc_eq {β : Type} (n : Nat) (k : Nat → β) : frc n k = k n := by cases n <;> rfl
theorem frcI_eq {β : Type} (n : Int) (k : Int → β) : frcI n k = k n := by cases n <;> simp [frcI, frc_eq]
theorem frcV_eq {β : Type} (v : Value) (k : Value → β) : frcV v k = k v := by
  unfold frcV
  split
  · rw [frcI_eq]
  · rename_i b; cases b <;> rfl
  · simp only [frc_eq]
  · simp only [frc_eq]
  · rfl

theorem blt_eq (a b : Nat) : Nat.blt a b = decide (a < b) := by rw [Bool.eq_iff_iff]; simp [Nat.blt_eq]
theorem ble_eq (a b : Nat) : Nat.ble a b = decide (a ≤ b) := by rw [Bool.eq_iff_iff]; simp [Nat.ble_eq]
theorem beq_eq (a b : Nat) : Nat.beq a b = decide (a = b) := by rw [Bool.eq_iff_iff]; simp [Nat.beq_eq]
theorem iLt_eq (a b : Int) : iLt a b = decide (a < b) := by
  cases a <;> cases b <;> simp only [iLt, blt_eq] <;> rw [Bool.eq_iff_iff] <;> simp only [decide_eq_true_eq, Bool.false_eq_true, Int.ofNat_eq_natCast] <;> (constructor <;> intro h <;> first | omega | exact h.elim | trivial)
theorem iEq_eq (a b : Int) : iEq a b = decide (a = b) := by
  cases a <;> cases b <;> simp only [iEq, beq_eq] <;> rw [Bool.eq_iff_iff] <;> simp only [decide_eq_true_eq, Bool.false_eq_true, Int.ofNat_eq_natCast] <;> (constructor <;> intro h <;> first | omega | exact h.elim | trivial)
theorem wrap_fits {n : Int} (h : fitsI64 n = true) : IntKind.wrap .i64 n = n := by
  have : -9223372036854775808 ≤ n ∧ n < 9223372036854775808 := by
    cases n with
    | ofNat a => simp only [fitsI64, blt_eq, decide_eq_true_eq] at h; simp only [Int.ofNat_eq_natCast]; omega
    | negSucc a => simp only [fitsI64, blt_eq, decide_eq_true_eq] at h; omega
  unfold IntKind.wrap
  simp only [IntKind.bits, IntKind.signed, Bool.true_and]
  split <;> simp_all <;> omega
theorem wrapK_eq (k : IntKind) (n : Int) : wrapK k n = k.wrap n := by
  cases k <;> try rfl
  · show (bif fitsI64 n then n else IntKind.wrap .i64 n) = _
    cases h : fitsI64 n
    · rfl
    · rw [cond_true, wrap_fits h]
  · cases n with
    | negSucc a => rfl
    | ofNat a =>
      show (bif Nat.blt a 256 then Int.ofNat a else IntKind.wrap .u8 (Int.ofNat a)) = _
      cases h : Nat.blt a 256
      · rfl
      · rw [cond_true]
        rw [blt_eq, decide_eq_true_eq] at h
        unfold IntKind.wrap
        simp [IntKind.bits, IntKind.signed]; omega
  · cases n with
    | negSucc a => rfl
    | ofNat a =>
      show (bif Nat.blt a 18446744073709551616 then Int.ofNat a else IntKind.wrap .u64 (Int.ofNat a)) = _
      cases h : Nat.blt a 18446744073709551616
      · rfl
      · rw [cond_true]
        rw [blt_eq, decide_eq_true_eq] at h
        unfold IntKind.wrap
        simp [IntKind.bits, IntKind.signed]; omega

theorem bytesEq_eq : ∀ (x y : List UInt8), bytesEq x y = decide (x = y)
  | [], [] => rfl
  | [], _ :: _ => rfl
  | _ :: _, [] => rfl
  | a :: x, b :: y => by
    have : bytesEq (a :: x) (b :: y) = Bool.rec (motive := fun _ => Bool) false (bytesEq x y) (Nat.beq a.toNat b.toNat) := rfl
    rw [this, bytesEq_eq x y]
    cases h : Nat.beq a.toNat b.toNat
    · have : a ≠ b := fun e => by subst e; simp at h
      simp [this]
    · have : a = b := UInt8.toNat_inj.1 (Nat.eq_of_beq_eq_true h)
      subst this
      simp
end
end Go.Proofs.Ytgjpcliaggpcaaa.Ab
