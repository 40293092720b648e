/- The evaluator's memory, and its loads, stores and new blocks. -/
import Derived.Test.YtgjpcliaggpcaaaAbH
import Derived.Laws.CopyRow
import Derived.Laws.Rows
set_option linter.unusedVariables false
set_option linter.unusedSimpArgs false
namespace Go.Proofs.Ytgjpcliaggpcaaa.Ab
open Go Classical

namespace Tr
variable {α : Type}
theorem get_lf (n : Nat) : (Tr.lf : Tr α).get n = none := rfl
theorem get_nd_zero (v : Option α) (l r : Tr α) : (Tr.nd v l r).get 0 = v := rfl
theorem get_nd_succ (v : Option α) (l r : Tr α) (m : Nat) : (Tr.nd v l r).get (m + 1) = if m % 2 = 0 then l.get (m / 2) else r.get (m / 2) := by
  show Bool.rec (motive := fun _ => Option α) (r.get (m / 2)) (l.get (m / 2)) (Nat.beq (m % 2) 0) = _
  rw [beq_eq]
  by_cases h : m % 2 = 0 <;> simp [h]
theorem now_eq (t : Tr α) {β : Type} (k : Tr α → β) : t.now k = k t := by cases t <;> rfl
theorem put_zero (f : Nat) (t : Tr α) (a : Option α) : t.put (f + 1) 0 a = t.opn fun v l r => .nd a l r := by cases t <;> rfl
theorem put_succ (f : Nat) (t : Tr α) (m : Nat) (a : Option α) : t.put (f + 1) (m + 1) a = t.opn fun v l r => if m % 2 = 0 then .nd v (l.put f (m / 2) a) r else .nd v l (r.put f (m / 2) a) := by
  show (t.opn fun v l r => Bool.rec (motive := fun _ => Tr α) ((r.put f (m / 2) a).now fun r => .nd v l r) ((l.put f (m / 2) a).now fun l => .nd v l r) (Nat.beq (m % 2) 0)) = _
  congr 1
  funext v l r
  rw [beq_eq, now_eq, now_eq]
  by_cases h : m % 2 = 0 <;> simp [h]
theorem get_opn_lf (k : Option α → Tr α → Tr α → Tr α) : (Tr.lf : Tr α).opn k = k none .lf .lf := rfl
theorem get_opn_nd (v : Option α) (l r : Tr α) (k : Option α → Tr α → Tr α → Tr α) : (Tr.nd v l r).opn k = k v l r := rfl

theorem get_put : ∀ (f : Nat) (t : Tr α) (n m : Nat) (a : Option α), n + 1 < 2 ^ f → (t.put f n a).get m = if m = n then a else t.get m
  | 0, t, n, m, a, h => by simp at h
  | f + 1, t, n, m, a, h => by
    have base : ∀ (v : Option α) (l r : Tr α), ((match n with
        | 0 => Tr.nd a l r
        | n + 1 => if n % 2 = 0 then .nd v (l.put f (n / 2) a) r else .nd v l (r.put f (n / 2) a)) : Tr α).get m = if m = n then a else (Tr.nd v l r).get m := by
      intro v l r
      cases n with
      | zero =>
        cases m with
        | zero => simp [get_nd_zero]
        | succ m => simp [get_nd_succ]
      | succ n =>
        have hb : n / 2 + 1 < 2 ^ f := by rw [Nat.pow_succ] at h; omega
        cases m with
        | zero =>
          simp only []
          split <;> simp [get_nd_zero]
        | succ m =>
          simp only []
          by_cases h1 : n % 2 = 0
          · rw [if_pos h1, get_nd_succ, get_nd_succ, get_put f l (n / 2) (m / 2) a hb]
            by_cases h2 : m % 2 = 0
            · simp only [h2, if_true]
              by_cases h3 : m = n
              · subst h3; simp
              · have : ¬ (m / 2 = n / 2) := by omega
                simp [h3, this]
            · have : ¬ (m = n) := by omega
              simp [h2, this]
          · rw [if_neg h1, get_nd_succ, get_nd_succ, get_put f r (n / 2) (m / 2) a hb]
            by_cases h2 : m % 2 = 0
            · have : ¬ (m = n) := by omega
              simp [h2, this]
            · simp only [h2, if_false]
              by_cases h3 : m = n
              · subst h3; simp
              · have : ¬ (m / 2 = n / 2) := by omega
                simp [h3, this]
    cases n with
    | zero =>
      rw [put_zero]
      cases t with
      | lf => rw [get_opn_lf, base none .lf .lf]; cases m <;> simp [get_lf, get_nd_zero, get_nd_succ]
      | nd v l r => rw [get_opn_nd, base v l r]
    | succ n =>
      rw [put_succ]
      cases t with
      | lf =>
        rw [get_opn_lf]
        have := base none .lf .lf
        simp only [] at this
        rw [this]
        cases m <;> simp [get_lf, get_nd_zero, get_nd_succ]
      | nd v l r => rw [get_opn_nd]; exact base v l r
end Tr

section
variable {P : Program}

noncomputable def absB (B : KB) : ABlk := { cells := (List.range B.len).map fun i => (B.cs.get i).getD undef, elem := B.elem, opn := B.opn }
noncomputable def absH (h : KH) : AHeap := { next := h.nx, get := fun b => if b < h.nx then (h.hp.get b).map absB else none }

theorem absH_wf (h : KH) : (absH h).wf := fun b hb => by
  have : ¬ b < h.nx := Nat.not_lt.2 hb
  simp [absH, this]

theorem getB_spec {h : KH} {b : Nat} {B : KB} (hb : getB h b = some B) : b < h.nx ∧ b < 1073741824 ∧ h.hp.get b = some B ∧ (absH h).get b = some (absB B) := by
  unfold getB at hb
  rw [blt_eq, blt_eq] at hb
  by_cases h1 : b < h.nx <;> by_cases h2 : b < 1073741824 <;> simp [h1, h2] at hb
  exact ⟨h1, h2, hb, by simp [absH, h1, hb]⟩

theorem absB_len (B : KB) : (absB B).cells.length = B.len := by simp [absB]
theorem absB_get {B : KB} {i : Nat} (hi : i < B.len) : (absB B).cells.getD i undef = (B.cs.get i).getD undef := by
  simp [absB, List.getD_eq_getElem?_getD, hi]

theorem cellsK_spec {cs : Tr Value} : ∀ (n o : Nat) {l : List Value}, cellsK cs n o = some l → l.length = n ∧ ∀ i, i < n → cs.get (o + i) = some (l.getD i undef)
  | 0, o, l, h => by cases h; exact ⟨rfl, fun i hi => absurd hi (by omega)⟩
  | n + 1, o, l, h => by
    have h2 : (match cs.get o with
      | some v => match cellsK cs n (o + 1) with
        | some l => some (v :: l)
        | none => none
      | none => none) = some l := h
    clear h
    split at h2
    · rename_i v hv
      split at h2
      · rename_i l' hl
        cases h2
        obtain ⟨h1, h3⟩ := cellsK_spec n (o + 1) hl
        refine ⟨by simp [h1], fun i hi => ?_⟩
        cases i with
        | zero => simpa using hv
        | succ i =>
          have := h3 i (by omega)
          rw [show o + (i + 1) = o + 1 + i by omega]
          simpa using this
      · cases h2
    · cases h2

/-- The cells of a block, where it lies. -/
theorem BR.rows {σ : Sig} {B : KB} {L : Loc} {w : World} (h : BR P σ (absB B) L w) : ∃ cs : Array Value, w.heap[L.blk]? = some (.cells cs B.elem (0, 0)) ∧ cs.size = L.base + B.len + L.room * P.cellsOf B.elem ∧
    ∀ i, i < B.len → VR σ ((B.cs.get i).getD undef) (cs.getD (L.base + i) undef) := by
  obtain ⟨cs, h1, h2, h3⟩ := h.cs rfl
  rw [absB_len] at h2 h3
  exact ⟨cs, h1, h2, fun i hi => by have := h3 i hi; rwa [absB_get hi] at this⟩

theorem cells_VL {σ : Sig} {B : KB} {base o n : Nat} {cs : Array Value} {l : List Value} (hc : cellsK B.cs n o = some l) (hb : o + n ≤ B.len)
    (hv : ∀ i, i < B.len → VR σ ((B.cs.get i).getD undef) (cs.getD (base + i) undef)) (hs : base + B.len ≤ cs.size) :
    VL σ l ((List.range n).map fun j => cs.getD (base + (o + j)) undef) := by
  obtain ⟨h1, h2⟩ := cellsK_spec n o hc
  refine ⟨by simp [h1], fun i hi => ?_⟩
  rw [h1] at hi
  have := hv (o + i) (by omega)
  rw [h2 i hi] at this
  simpa [List.getD_eq_getElem?_getD, hi] using this

theorem run_cells {w : World} {g base o n : Nat} {cs : Array Value} {e : TypeId} {fr : Nat × Nat} (hg : w.heap[g]? = some (.cells cs e fr)) (hs : base + o + n ≤ cs.size) :
    (loadCells ⟨g, base + o, none⟩ n).run P w = .ok ((List.range n).map fun j => cs.getD (base + (o + j)) undef).toArray w := by
  refine run_loadCells w ⟨g, base + o, none⟩ n (fun j => cs.getD (base + (o + j)) undef) fun j hj => ?_
  have hlt : base + (o + j) < cs.size := by omega
  rw [addr_add]
  simp [World.cell?, hg, Nat.add_assoc, Array.getD, hlt]

def ptrF (x : Value) : Nat → Prop := fun b => match x with
  | .pointer (some a) => b = a.block
  | _ => False

theorem loadK_run {ty : TypeId} {x v : Value} {h h' : KH} (hh : loadK P ty x h = .ok v h') :
    h' = h ∧ ∀ σ w x', Rel P σ (ptrF x) (absH h).get w → VR σ x x' → ∃ v', VR σ v v' ∧ ∀ a, x' = .pointer (some a) → (loadVar ty a).run P w = .ok v' w := by
  unfold loadK at hh
  split at hh
  · rename_i b o
    split at hh
    · rename_i B hB
      obtain ⟨hb1, hb2, hb3, hb4⟩ := getB_spec hB
      split at hh
      · rename_i ha
        split at hh
        · rename_i n hn
          obtain ⟨hc, hh⟩ := bif_ok hh
          rw [ble_eq, decide_eq_true_eq] at hc
          split at hh
          · rename_i l hl
            cases hh
            refine ⟨rfl, fun σ w x' hr hx => ?_⟩
            obtain ⟨L, hL, rfl⟩ := hx.ptr_inv
            obtain ⟨cs, hg, hsz, hv⟩ := (hr.blk b L _ rfl hL hb4).rows
            have hvl := (cells_VL hl hc hv (by omega)).toA
            refine ⟨_, .agg hvl.1 hvl.2, fun a ha' => ?_⟩
            cases ha'
            have hrc := run_cells (P := P) (base := L.base) (o := o) (n := n) hg (by omega)
            simp only [loadVar, Sem.run_bind, isAggK_run ha, Result.andThen_ok, if_true, sizeK_run hn, hrc, Sem.run_pure]
          · cases hh
        · cases hh
      · rename_i ha
        obtain ⟨hc, hh⟩ := bif_ok hh
        rw [blt_eq, decide_eq_true_eq] at hc
        split at hh
        · rename_i v0 hv0
          cases hh
          refine ⟨rfl, fun σ w x' hr hx => ?_⟩
          obtain ⟨L, hL, rfl⟩ := hx.ptr_inv
          obtain ⟨cs, hg, hsz, hv⟩ := (hr.blk b L _ rfl hL hb4).rows
          have hvo := hv o hc
          rw [hv0] at hvo
          refine ⟨_, hvo, fun a ha' => ?_⟩
          cases ha'
          have hlt : L.base + o < cs.size := by omega
          simp [loadVar, isAggK_run ha, run_load, World.cell?, hg, Array.getD, hlt]
        · cases hh
      · cases hh
    · cases hh
  · cases hh
end
end Go.Proofs.Ytgjpcliaggpcaaa.Ab
