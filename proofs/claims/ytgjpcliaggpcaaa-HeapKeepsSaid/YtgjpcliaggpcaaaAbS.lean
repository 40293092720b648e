/- What the evaluator comes to, the model comes to: regions that draw their order. -/
import Derived.Test.YtgjpcliaggpcaaaAbR
set_option linter.unusedVariables false
set_option linter.unusedSimpArgs false
namespace Go.Proofs.Ytgjpcliaggpcaaa.Ab
open Go Classical

section
variable {P : Program}

/-- A region in the text's own order, so far. -/
structure PT (P : Program) (ops : Array Oper) (m : Nat) where
  t : Nat → Act
  H : Nat → AHeap
  v : Nat → Value
  F : Nat → Nat → Prop
  wf : (H 0).wf
  step : ∀ (i : Nat) (o : Oper), i < m → ops[i]? = some o → OpAt P ops (F i) o (t i) (H i) (v i) (H (i + 1))
  put : ∀ (i : Nat) (o : Oper), i < m → ops[i]? = some o → t (i + 1) = (t i).put o.dst (v i)
  stp : ∀ i, i < m → Stp (F i) (H i) (H (i + 1))
  opn : ∀ (i : Nat) (o : Oper), i < m → ops[i]? = some o → o.op.operands.all okOperand = true
  lt : ∀ i b, i < m → F i b → b < (H i).next

def PT.start (ops : Array Oper) (t : Act) (H : AHeap) (hw : H.wf) : PT P ops 0 := ⟨fun _ => t, fun _ => H, fun _ => undef, fun _ _ => False, hw,
  fun i o h => absurd h (by omega), fun i o h => absurd h (by omega), fun i h => absurd h (by omega), fun i o h => absurd h (by omega), fun i b h => absurd h (by omega)⟩

noncomputable def PT.more {ops : Array Oper} {m : Nat} (T : PT P ops m) (o : Oper) (ho : ops[m]? = some o) (F : Nat → Prop) (v : Value) (H' : AHeap) (h1 : OpAt P ops F o (T.t m) (T.H m) v H')
    (h2 : Stp F (T.H m) H') (h3 : o.op.operands.all okOperand = true) (h4 : ∀ b, F b → b < (T.H m).next) : PT P ops (m + 1) where
  t := fun j => if j ≤ m then T.t j else (T.t m).put o.dst v
  H := fun j => if j ≤ m then T.H j else H'
  v := fun j => if j < m then T.v j else v
  F := fun j => if j < m then T.F j else F
  wf := by rw [if_pos (Nat.zero_le _)]; exact T.wf
  step := fun i o2 hi ho2 => by
    by_cases hc : i < m
    · have h5 : i ≤ m := by omega
      have h6 : i + 1 ≤ m := by omega
      simp only [hc, h5, h6, if_true]
      exact T.step i o2 hc ho2
    · obtain rfl : i = m := by omega
      have h6 : ¬ (i + 1 ≤ i) := by omega
      simp only [Nat.lt_irrefl, Nat.le_refl, h6, if_true, if_false]
      rw [ho] at ho2; cases ho2; exact h1
  put := fun i o2 hi ho2 => by
    by_cases hc : i < m
    · have h5 : i ≤ m := by omega
      have h6 : i + 1 ≤ m := by omega
      simp only [hc, h5, h6, if_true]
      exact T.put i o2 hc ho2
    · obtain rfl : i = m := by omega
      have h6 : ¬ (i + 1 ≤ i) := by omega
      simp only [Nat.lt_irrefl, Nat.le_refl, h6, if_true, if_false]
      rw [ho] at ho2; cases ho2; rfl
  stp := fun i hi => by
    by_cases hc : i < m
    · have h5 : i ≤ m := by omega
      have h6 : i + 1 ≤ m := by omega
      simp only [hc, h5, h6, if_true]
      exact T.stp i hc
    · obtain rfl : i = m := by omega
      have h6 : ¬ (i + 1 ≤ i) := by omega
      simp only [Nat.lt_irrefl, Nat.le_refl, h6, if_true, if_false]
      exact h2
  opn := fun i o2 hi ho2 => by
    by_cases hc : i < m
    · exact T.opn i o2 hc ho2
    · obtain rfl : i = m := by omega
      rw [ho] at ho2; cases ho2; exact h3
  lt := fun i b hi hF => by
    by_cases hc : i < m
    · have h5 : i ≤ m := by omega
      simp only [hc, h5, if_true] at hF ⊢
      exact T.lt i b hc hF
    · obtain rfl : i = m := by omega
      simp only [Nat.lt_irrefl, Nat.le_refl, if_true, if_false] at hF ⊢
      exact h4 b hF

def PT.done {ops : Array Oper} (T : PT P ops ops.size) : Tra P ops where
  t := T.t
  H := T.H
  v := T.v
  F := T.F
  wf := T.wf
  step := fun i o ho _ => T.step i o (Array.getElem?_eq_some_iff.1 ho).1 ho
  put := fun i o ho => T.put i o (Array.getElem?_eq_some_iff.1 ho).1 ho
  stp := T.stp
  opn := fun i o ho => T.opn i o (Array.getElem?_eq_some_iff.1 ho).1 ho
  lt := T.lt
  obs := fun _ => none
  obsq := fun i o ho b π h => by cases h

/-- What is said to be used. -/
def usesF (f : Option (Option Nat)) (b : Nat) : Prop := match f with
  | some none => False
  | some (some x) => b = x
  | none => True

/-- What is noted of an operation is so. -/
structure RecOk (r : FW) (F : Nat → Prop) (H H' : AHeap) : Prop where
  f : ∀ b, F b → usesF r.f b
  a : r.a = H.next
  b : r.b = H'.next
  told : ∀ b, b < H.next → H'.get b ≠ H.get b → r.w.testBit b = true

theorem hits_spec {f : Option (Option Nat)} {w b : Nat} (h : hits f w = false) (hb : usesF f b) : w.testBit b = false := by
  cases f with
  | none =>
    have : w = 0 := by simpa [hits, beq_eq] using h
    subst this; simp
  | some f =>
    cases f with
    | none => exact hb.elim
    | some x =>
      have hb' : b = x := hb
      rw [hb']; exact h

theorem free_of {ops : Array Oper} {T : PT P ops ops.size} {x y : FW} {i k : Nat} (hik : i < k) (hk : k < ops.size) (hx : RecOk x (T.F i) (T.H i) (T.H (i + 1))) (hy : RecOk y (T.F k) (T.H k) (T.H (k + 1)))
    (hi : indep x y = true) : T.done.Free i k := by
  unfold indep at hi
  rw [Bool.and_eq_true, Bool.and_eq_true, Bool.not_eq_true', Bool.not_eq_true', beq_eq, decide_eq_true_eq] at hi
  obtain ⟨⟨h1, h2⟩, h3⟩ := hi
  refine ⟨fun b hb hlt => ?_, fun b hb => ?_, (fun b π h => by cases h), (fun b π h => by cases h)⟩
  · by_cases hne : (T.H (i + 1)).get b = (T.H i).get b
    · exact hne
    · have := hx.told b hlt hne
      rw [hits_spec h1 (hy.f b hb)] at this; cases this
  · by_cases hne : (T.H (k + 1)).get b = (T.H k).get b
    · exact hne
    · have hnk := T.done.next_le (i := i + 1) (k := k) hik (by omega)
      have hni := T.done.next_le (i := i) (k := i + 1) (by omega) (by omega)
      have hnk' : (T.H (i + 1)).next ≤ (T.H k).next := hnk
      have hni' : (T.H i).next ≤ (T.H (i + 1)).next := hni
      rcases hb with hb | hb
      · have hlt : b < (T.H i).next := T.lt i b (by omega) hb
        have := hy.told b (by omega) hne
        rw [hits_spec h2 (hx.f b hb)] at this; cases this
      · have hb1 : (T.H i).next ≤ b := hb.1
        have hb2 : b < (T.H (i + 1)).next := hb.2
        have := hy.told b (by omega) hne
        have h4 : (y.w / 2 ^ x.a % 2 ^ (x.b - x.a)).testBit (b - x.a) = y.w.testBit b := by
          rw [Nat.testBit_mod_two_pow, Nat.testBit_div_two_pow]
          have e1 : b - x.a < x.b - x.a := by rw [hx.a, hx.b]; omega
          have e2 : b - x.a + x.a = b := by rw [hx.a]; omega
          simp [e1, e2]
        rw [h3] at h4
        rw [← h4] at this
        simp at this

theorem clean_indep {x y : FW} (hx : x.w = 0) (hy : y.w = 0) : indep x y = true := by
  unfold indep hits
  rw [hx, hy]
  cases x.f with
  | none => cases y.f with
    | none => simp [beq_eq]
    | some f => cases f <;> simp [beq_eq]
  | some f => cases f <;> (cases y.f with
    | none => simp [beq_eq]
    | some f => cases f <;> simp [beq_eq])

theorem foot_lt {ev : Operand → Value} {op : Op} {h h' : KH} {v : Value} {b : Nat} (hh : opK P ev op h = .ok v h') (hf : footK ev op = some (some b)) : b < h.nx := by
  cases op <;> simp only [footK] at hf <;> try (cases hf; done)
  case load ty a =>
    simp only [opK] at hh
    unfold loadK at hh
    split at hh
    · rename_i b' o' he
      rw [he] at hf
      cases hf
      split at hh
      · rename_i B hB; exact (getB_spec hB).1
      · cases hh
    · cases hh
  case store ty a x =>
    simp only [opK] at hh
    unfold storeK at hh
    split at hh
    · rename_i b' o' he
      rw [he] at hf
      cases hf
      split at hh
      · obtain ⟨_, hh⟩ := bif_ok hh
        unfold writeK at hh
        split at hh
        · rename_i B hB; exact (getB_spec hB).1
        · cases hh
      · cases hh
    · cases hh

theorem drawK_cons {rec : Nat → Code → Tr Value → KH → Lg → CR} {ov : Ov} {ops : Array Oper} (o : Oper) (l : List Oper) (r : List FW) (clean : Bool) (tm : Tr Value) (h : KH) (g : Lg) :
    drawK P rec ov ops (o :: l) r clean tm h g = if wantK ops tm o.guard = true then (match opK P (evK tm) o.op ⟨h.hp, h.nx, 0⟩ with
      | .ok v h' => drawK P rec ov ops l (r ++ [⟨footK (evK tm) o.op, h'.wr, h.nx, h'.nx⟩]) (clean && Nat.beq h'.wr 0) (putK tm o.dst v) ⟨h'.hp, h'.nx, Nat.lor h.wr h'.wr⟩ g
      | .call f args => fnK P rec ov f args ⟨h.hp, h.nx, 0⟩ g fun v h' g => drawK P rec ov ops l (r ++ [⟨none, h'.wr % 2 ^ h.nx, h.nx, h'.nx⟩]) (clean && Nat.beq (h'.wr % 2 ^ h.nx) 0) (putK tm o.dst v) ⟨h'.hp, h'.nx, Nat.lor h.wr (h'.wr % 2 ^ h.nx)⟩ g
      | .no => .no 10) else drawK P rec ov ops l (r ++ [⟨some none, 0, h.nx, h.nx⟩]) clean (putK tm o.dst undef) h g := by
  show Bool.rec (motive := fun _ => CR) ((putK tm o.dst undef).now fun tm => drawK P rec ov ops l (r ++ [⟨some none, 0, h.nx, h.nx⟩]) clean tm h g) (match opK P (evK tm) o.op ⟨h.hp, h.nx, 0⟩ with
      | .ok v h' => frc h'.wr fun wr => frc (Nat.lor h.wr wr) fun wr' => (putK tm o.dst v).now fun tm' => drawK P rec ov ops l (r ++ [⟨footK (evK tm) o.op, wr, h.nx, h'.nx⟩]) (clean && Nat.beq wr 0) tm' ⟨h'.hp, h'.nx, wr'⟩ g
      | .call f args => fnK P rec ov f args ⟨h.hp, h.nx, 0⟩ g fun v h' g => frc (h'.wr % 2 ^ h.nx) fun wr => frc (Nat.lor h.wr wr) fun wr' => (putK tm o.dst v).now fun tm' => drawK P rec ov ops l (r ++ [⟨none, wr, h.nx, h'.nx⟩]) (clean && Nat.beq wr 0) tm' ⟨h'.hp, h'.nx, wr'⟩ g
      | .no => .no 10) (wantK ops tm o.guard) = _
  simp only [Tr.now_eq, frc_eq]
  cases wantK ops tm o.guard <;> simp

/-- How far a region that draws has come. -/
structure Sofar (P : Program) (ops : Array Oper) (i : Nat) (r : List FW) (clean : Bool) (t : Act) (h : KH) (T : PT P ops i) : Prop where
  t : T.t i = t
  H : T.H i = absH h
  len : r.length = i
  recs : ∀ j x, r[j]? = some x → RecOk x (T.F j) (T.H j) (T.H (j + 1))
  clean : clean = true → ∀ x ∈ r, x.w = 0

theorem Sofar.next {ops : Array Oper} {i : Nat} {r : List FW} {clean : Bool} {t : Act} {h : KH} {T : PT P ops i} (s : Sofar P ops i r clean t h T) {o : Oper} (ho : ops[i]? = some o) {F : Nat → Prop} {v : Value} {h' h2 : KH}
    (h1 : OpAt P ops F o (T.t i) (T.H i) v (absH h')) (hst : Stp F (T.H i) (absH h')) (h3 : o.op.operands.all okOperand = true) (h4 : ∀ b, F b → b < (T.H i).next) {x : FW} {c : Bool}
    (hx : RecOk x F (T.H i) (absH h')) (hc : c = true → clean = true ∧ x.w = 0) (he : absH h2 = absH h') :
    Sofar P ops (i + 1) (r ++ [x]) c (t.put o.dst v) h2 (T.more o ho F v (absH h') h1 hst h3 h4) := by
  have hn : ¬ (i + 1 ≤ i) := by omega
  refine ⟨?_, ?_, by simp [s.len], fun j y hy => ?_, fun hcc y hy => ?_⟩
  · simp only [PT.more, hn, if_false, s.t]
  · simp only [PT.more, hn, if_false, he]
  · by_cases hj : j < i
    · rw [List.getElem?_append_left (by rw [s.len]; exact hj)] at hy
      have h5 : j ≤ i := by omega
      have h6 : j + 1 ≤ i := by omega
      simp only [PT.more, hj, h5, h6, if_true]
      exact s.recs j y hy
    · rw [List.getElem?_append_right (by rw [s.len]; omega)] at hy
      have hj2 : j = i := by
        rcases Nat.lt_or_ge i j with h5 | h5
        · rw [List.getElem?_eq_none (by simp [s.len]; omega)] at hy; cases hy
        · omega
      subst hj2
      simp only [s.len, Nat.sub_self, List.getElem?_cons_zero, Option.some.injEq] at hy
      subst hy
      simp only [PT.more, Nat.lt_irrefl, Nat.le_refl, hn, if_true, if_false]
      exact hx
  · rcases List.mem_append.1 hy with hy | hy
    · exact s.clean (hc hcc).1 y hy
    · rw [List.mem_singleton.1 hy]; exact (hc hcc).2

theorem PT.more_zero {ops : Array Oper} {m : Nat} (T : PT P ops m) (o : Oper) (ho : ops[m]? = some o) (F : Nat → Prop) (v : Value) (H' : AHeap) (h1 : OpAt P ops F o (T.t m) (T.H m) v H')
    (h2 : Stp F (T.H m) H') (h3 : o.op.operands.all okOperand = true) (h4 : ∀ b, F b → b < (T.H m).next) : (T.more o ho F v H' h1 h2 h3 h4).t 0 = T.t 0 ∧ (T.more o ho F v H' h1 h2 h3 h4).H 0 = T.H 0 := by
  simp [PT.more]

theorem drawK_sound {rec : Nat → Code → Tr Value → KH → Lg → CR} (hrec : RecS P rec) {ov : Ov} (hmay : MayOk P ov.may) (hnt : NtOk P ov.nt) {ops : Array Oper} : ∀ (l : List Oper) (i : Nat) (r : List FW) (clean : Bool) (tm : Tr Value) (h : KH) (g : Lg), ops.toList.drop i = l → i + l.length = ops.size →
    Ok (drawK P rec ov ops l r clean tm h g) → (∀ x ∈ g, x ∈ lgOf (drawK P rec ov ops l r clean tm h g)) ∧ (Told P (lgOf (drawK P rec ov ops l r clean tm h g)) → ∀ n t, opersOk n ops = true → n < 1073741824 → TK n t tm →
      ∀ T : PT P ops i, Sofar P ops i r clean t h T → ∃ T' : PT P ops ops.size, T'.t 0 = T.t 0 ∧ T'.H 0 = T.H 0 ∧ FreeAll T'.done ∧ ∃ tm' h' g', drawK P rec ov ops l r clean tm h g = .nrm tm' h' g' ∧ TK n (T'.t ops.size) tm' ∧ T'.H ops.size = absH h' ∧ WrOk h h' ∧ h.nx ≤ h'.nx)
  | [], i, r, clean, tm, h, g, _, hl, hok => by
    have e : drawK P rec ov ops [] r clean tm h g = bif clean || freeK ops r then .nrm tm h g else .no 8 := rfl
    rw [e] at hok ⊢
    cases hc : (clean || freeK ops r)
    · rw [hc] at hok; exact (ok_no hok).elim
    · refine ⟨fun x hx => hx, fun _ n t _ _ ht T s => ?_⟩
      have hi : i = ops.size := by simpa using hl
      subst hi
      refine ⟨T, rfl, rfl, fun i k hik hk hb => ?_, tm, h, g, rfl, by rw [s.t]; exact ht, s.H, .refl h, Nat.le_refl _⟩
      have hri : r[i]? = some (r[i]'(by rw [s.len]; omega)) := List.getElem?_eq_getElem _
      have hrk : r[k]? = some (r[k]'(by rw [s.len]; omega)) := List.getElem?_eq_getElem _
      refine free_of hik hk (s.recs i _ hri) (s.recs k _ hrk) ?_
      rw [Bool.or_eq_true] at hc
      rcases hc with hc | hc
      · exact clean_indep (s.clean hc _ (List.getElem_mem _)) (s.clean hc _ (List.getElem_mem _))
      · unfold freeK at hc
        rw [List.all_eq_true] at hc
        have h1 := hc k (List.mem_range.2 hk)
        rw [List.all_eq_true] at h1
        have h2 := h1 i (List.mem_range.2 hik)
        rw [hri, hrk] at h2
        rw [Bool.or_eq_true] at h2
        rcases h2 with h2 | h2
        · exact absurd (befM_bef ops _ _ _ h2) hb
        · exact h2
  | o :: l, i, r, clean, tm, h, g, hd, hl, hok => by
    have hi : ops[i]? = some o := by
      have := List.getElem?_drop (xs := ops.toList) (i := i) (j := 0)
      rw [hd] at this
      simpa using this.symm
    have hd' : ops.toList.drop (i + 1) = l := by
      rw [← List.drop_drop, hd]; rfl
    have hl' : i + 1 + l.length = ops.size := by simp only [List.length_cons] at hl; omega
    have habs : absH ⟨h.hp, h.nx, 0⟩ = absH h := rfl
    rw [drawK_cons] at hok ⊢
    by_cases hw : wantK ops tm o.guard = true
    · rw [if_pos hw] at hok ⊢
      cases hop : opK P (evK tm) o.op ⟨h.hp, h.nx, 0⟩ with
      | no => rw [hop] at hok; exact (ok_no hok).elim
      | ok v h1 =>
        simp only [hop] at hok ⊢
        obtain ⟨hsub, hcode⟩ := drawK_sound hrec hmay hnt l (i + 1) _ _ _ _ g hd' hl' hok
        refine ⟨hsub, fun htold n t hops hn ht T s => ?_⟩
        obtain ⟨ho1, ho2⟩ := opersOk_spec hops hi
        rw [ht.ev] at hop
        have hs := opK_sound (P := P) ho1 hop
        have hst' : Stp (footF t.eval o.op h.nx) (T.H i) (absH h1) := by rw [s.H]; exact hs.stp
        have hat : OpAt P ops (footF t.eval o.op h.nx) o (T.t i) (T.H i) v (absH h1) := by
          unfold OpAt
          rw [s.t, s.H, ← wantK_eq ht, if_pos hw]
          exact hs.op
        have hlt : ∀ b, footF t.eval o.op h.nx b → b < (T.H i).next := fun b hb => by
          rw [s.H]
          show b < h.nx
          cases hfk : footK t.eval o.op with
          | none => simp only [footF, hfk] at hb; exact hb
          | some f =>
            cases f with
            | none => simp only [footF, hfk] at hb
            | some x => simp only [footF, hfk] at hb; rw [hb]; exact foot_lt (h := ⟨h.hp, h.nx, 0⟩) hop hfk
        have hrk : RecOk ⟨footK (evK tm) o.op, h1.wr, h.nx, h1.nx⟩ (footF t.eval o.op h.nx) (T.H i) (absH h1) := by
          refine ⟨fun b hb => ?_, by rw [s.H]; rfl, rfl, fun b hb hne => ?_⟩
          · rw [ht.ev]
            cases hfk : footK t.eval o.op with
            | none => trivial
            | some f =>
              cases f with
              | none => simp only [footF, hfk] at hb
              | some x => simp only [footF, hfk] at hb; exact hb
          · rw [s.H] at hb hne
            exact hs.wr.told b hb hne
        obtain ⟨T', e1, e2, e3, tm', h', g', e4, e5, e6, e7, e8⟩ := hcode htold n _ hops hn (ht.put hn ho2 v) _ (s.next hi hat hst' ho1 hlt hrk (c := clean && Nat.beq h1.wr 0) (fun hc => by
          rw [Bool.and_eq_true, beq_eq, decide_eq_true_eq] at hc; exact hc) (h2 := ⟨h1.hp, h1.nx, Nat.lor h.wr h1.wr⟩) rfl)
        obtain ⟨z1, z2⟩ := PT.more_zero T o hi (footF t.eval o.op h.nx) v (absH h1) hat hst' ho1 hlt
        have hnx : h.nx ≤ h1.nx := hs.stp.next
        refine ⟨T', e1.trans z1, e2.trans z2, e3, tm', h', g', e4, e5, e6, WrOk.trans (h1 := ⟨h1.hp, h1.nx, Nat.lor h.wr h1.wr⟩) hnx ⟨fun b hb => ?_, fun b hb hne => ?_⟩ e7, Nat.le_trans hnx e8⟩
        · show (h.wr ||| h1.wr).testBit b = true
          rw [Nat.testBit_or, hb]; rfl
        · show (h.wr ||| h1.wr).testBit b = true
          rw [Nat.testBit_or, hs.wr.told b hb hne, Bool.or_true]
      | call f args =>
        simp only [hop] at hok ⊢
        have hk : ∀ (v : Value) (h1 : KH) (g1 : Lg), Ok (drawK P rec ov ops l (r ++ [⟨none, h1.wr % 2 ^ h.nx, h.nx, h1.nx⟩]) (clean && Nat.beq (h1.wr % 2 ^ h.nx) 0) (putK tm o.dst v) ⟨h1.hp, h1.nx, Nat.lor h.wr (h1.wr % 2 ^ h.nx)⟩ g1) →
            ∀ x ∈ g1, x ∈ lgOf (drawK P rec ov ops l (r ++ [⟨none, h1.wr % 2 ^ h.nx, h.nx, h1.nx⟩]) (clean && Nat.beq (h1.wr % 2 ^ h.nx) 0) (putK tm o.dst v) ⟨h1.hp, h1.nx, Nat.lor h.wr (h1.wr % 2 ^ h.nx)⟩ g1) :=
          fun v h1 g1 hok1 => (drawK_sound hrec hmay hnt l (i + 1) _ _ _ _ g1 hd' hl' hok1).1
        obtain ⟨hsub, hfn⟩ := fnK_sound hrec hmay hnt (k := fun (v : Value) (h1 : KH) (g1 : Lg) => drawK P rec ov ops l (r ++ [⟨none, h1.wr % 2 ^ h.nx, h.nx, h1.nx⟩]) (clean && Nat.beq (h1.wr % 2 ^ h.nx) 0) (putK tm o.dst v) ⟨h1.hp, h1.nx, Nat.lor h.wr (h1.wr % 2 ^ h.nx)⟩ g1) hk hok
        refine ⟨hsub, fun htold n t hops hn ht T s => ?_⟩
        obtain ⟨v, H1, hst, hft, h1, g1, rfl, hwr, hnx, hres⟩ := hfn htold
        rw [hres] at hok htold ⊢
        obtain ⟨_, hcode⟩ := drawK_sound hrec hmay hnt l (i + 1) _ _ _ _ g1 hd' hl' hok
        obtain ⟨ho1, ho2⟩ := opersOk_spec hops hi
        rw [ht.ev] at hop
        have hcall := call_op hop hft
        have hst' : Stp (fun x => x < h.nx) (T.H i) (absH h1) := by rw [s.H]; exact ⟨hst.next, hst.wf, fun b hb hn => absurd hb hn⟩
        have hat : OpAt P ops (fun x => x < h.nx) o (T.t i) (T.H i) v (absH h1) := by
          unfold OpAt
          rw [s.t, s.H, ← wantK_eq ht, if_pos hw]
          exact opT_narrow (absH_wf h) hcall
        have hlt : ∀ b, b < h.nx → b < (T.H i).next := fun b hb => by rw [s.H]; exact hb
        have hbit : ∀ b, b < h.nx → (absH h1).get b ≠ (absH h).get b → (h1.wr % 2 ^ h.nx).testBit b = true := fun b hb hne => by
          rw [Nat.testBit_mod_two_pow, hwr.told b hb hne]; simpa using hb
        have hrk : RecOk ⟨none, h1.wr % 2 ^ h.nx, h.nx, h1.nx⟩ (fun x => x < h.nx) (T.H i) (absH h1) := by
          refine ⟨fun b hb => trivial, by rw [s.H]; rfl, rfl, fun b hb hne => ?_⟩
          rw [s.H] at hb hne
          exact hbit b hb hne
        obtain ⟨T', e1, e2, e3, tm', h', g', e4, e5, e6, e7, e8⟩ := hcode htold n _ hops hn (ht.put hn ho2 v) _ (s.next hi hat hst' ho1 hlt hrk (c := clean && Nat.beq (h1.wr % 2 ^ h.nx) 0) (fun hc => by
          rw [Bool.and_eq_true, beq_eq, decide_eq_true_eq] at hc; exact hc) (h2 := ⟨h1.hp, h1.nx, Nat.lor h.wr (h1.wr % 2 ^ h.nx)⟩) rfl)
        obtain ⟨z1, z2⟩ := PT.more_zero T o hi (fun x => x < h.nx) v (absH h1) hat hst' ho1 hlt
        refine ⟨T', e1.trans z1, e2.trans z2, e3, tm', h', g', e4, e5, e6, WrOk.trans (h1 := ⟨h1.hp, h1.nx, Nat.lor h.wr (h1.wr % 2 ^ h.nx)⟩) hnx ⟨fun b hb => ?_, fun b hb hne => ?_⟩ e7, Nat.le_trans hnx e8⟩
        · show (h.wr ||| (h1.wr % 2 ^ h.nx)).testBit b = true
          rw [Nat.testBit_or, hb]; rfl
        · show (h.wr ||| (h1.wr % 2 ^ h.nx)).testBit b = true
          rw [Nat.testBit_or, hbit b hb hne, Bool.or_true]
    · rw [if_neg hw] at hok ⊢
      obtain ⟨hsub, hcode⟩ := drawK_sound hrec hmay hnt l (i + 1) _ _ _ _ g hd' hl' hok
      refine ⟨hsub, fun htold n t hops hn ht T s => ?_⟩
      obtain ⟨ho1, ho2⟩ := opersOk_spec hops hi
      have hst' : Stp (fun _ => False) (T.H i) (absH h) := by rw [s.H]; exact .refl (absH_wf _)
      have hat : OpAt P ops (fun _ => False) o (T.t i) (T.H i) undef (absH h) := by
        unfold OpAt
        rw [s.t, s.H, ← wantK_eq ht, if_neg hw]
        exact ⟨rfl, rfl⟩
      have hrk : RecOk ⟨some none, 0, h.nx, h.nx⟩ (fun _ => False) (T.H i) (absH h) := by
        refine ⟨fun b hb => hb, by rw [s.H]; rfl, rfl, fun b hb hne => ?_⟩
        rw [s.H] at hne
        exact absurd rfl hne
      obtain ⟨T', e1, e2, e3, tm', h', g', e4, e5, e6, e7, e8⟩ := hcode htold n _ hops hn (ht.put hn ho2 undef) _ (s.next hi hat hst' ho1 (fun _ h => h.elim) hrk (c := clean) (fun hc => ⟨hc, rfl⟩) rfl)
      obtain ⟨z1, z2⟩ := PT.more_zero T o hi (fun _ => False) undef (absH h) hat hst' ho1 (fun _ h => h.elim)
      exact ⟨T', e1.trans z1, e2.trans z2, e3, tm', h', g', e4, e5, e6, e7, e8⟩
end
end Go.Proofs.Ytgjpcliaggpcaaa.Ab
