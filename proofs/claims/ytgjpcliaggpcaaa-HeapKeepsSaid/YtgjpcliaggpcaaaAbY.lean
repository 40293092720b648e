/- The evaluator's heap over open inputs: blocks made and cells written. -/
import Derived.Test.YtgjpcliaggpcaaaAbSz
set_option linter.unusedVariables false
set_option linter.unusedSimpArgs false
namespace Go.Proofs.Ytgjpcliaggpcaaa.Ab
open Go

section
variable {P : Program} {h : KH}
noncomputable def pushK (h : KH) (B : KB) : KH := ⟨h.hp.put 40 h.nx (some B), h.nx + 1, h.wr⟩
noncomputable def setK (h : KH) (b : Nat) (B : KB) : KH := ⟨h.hp.put 40 b (some B), h.nx, Nat.lor h.wr (2 ^ b)⟩

theorem getB_lt {b : Nat} {B : KB} (hB : getB h b = some B) : b < h.nx ∧ b < 1073741824 := by
  unfold getB at hB
  cases h1 : Nat.blt b h.nx && Nat.blt b 1073741824 with
  | false => rw [h1] at hB; cases hB
  | true => rw [Bool.and_eq_true, blt_eq, blt_eq, decide_eq_true_eq, decide_eq_true_eq] at h1; exact h1

theorem getB_push {B : KB} {b : Nat} (hn : h.nx < 1073741824) : getB (pushK h B) b = if b = h.nx then some B else getB h b := by
  unfold getB pushK
  rw [Tr.get_put 40 h.hp h.nx b _ (by have e : (2 : Nat) ^ 40 = 1099511627776 := (by decide); omega)]
  simp only [blt_eq]
  by_cases hb : b = h.nx
  · subst hb; simp [hn]
  · rw [if_neg hb, if_neg hb]
    by_cases h1 : b < h.nx
    · have : b < h.nx + 1 := by omega
      simp [h1, this]
    · have : ¬ b < h.nx + 1 := by omega
      simp [h1, this]

theorem getB_set {B B0 : KB} {b b' : Nat} (h0 : getB h b = some B0) : getB (setK h b B) b' = if b' = b then some B else getB h b' := by
  obtain ⟨h1, h2⟩ := getB_lt h0
  unfold getB setK
  rw [Tr.get_put 40 h.hp b b' _ (by have e : (2 : Nat) ^ 40 = 1099511627776 := (by decide); omega)]
  by_cases hb : b' = b
  · subst hb; simp [blt_eq, h1, h2]
  · rw [if_neg hb, if_neg hb]

theorem new_eq {cs : List Value} {e : TypeId} {opn : Bool} {k : Nat → Value} (hn : h.nx < 1073741824) (hl : cs.length < 1073741824) :
    newK cs e opn k h = .ok (k h.nx) (pushK h ⟨putsK cs .lf 0, cs.length, e, opn⟩) := by
  unfold newK
  simp only [frc_eq, lLen_eq, blt_eq, hn, hl, decide_true, Bool.and_self, cond_true, Tr.now_eq]
  rfl

theorem write_eq {b o : Nat} {vs : List Value} {v : Value} {B : KB} (hB : getB h b = some B) (hle : o + vs.length ≤ B.len) (hlen : B.len < 1073741824) (h1 : onesK vs = true) :
    writeK b o vs v h = .ok v (setK h b ⟨putsK vs B.cs o, B.len, B.elem, B.opn⟩) := by
  unfold writeK
  have : Nat.ble (o + vs.length) B.len = true := Nat.ble_eq ▸ hle
  simp only [hB, frc_eq, lLen_eq, this, blt_eq, hlen, h1, decide_true, Bool.and_self, cond_true, Tr.now_eq]
  rfl
end
end Go.Proofs.Ytgjpcliaggpcaaa.Ab
