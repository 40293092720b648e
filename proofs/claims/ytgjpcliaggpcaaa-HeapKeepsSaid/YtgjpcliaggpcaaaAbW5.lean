/- Walks are so of the model. -/
import Derived.Test.YtgjpcliaggpcaaaAbW4
set_option linter.unusedVariables false
set_option linter.unusedSimpArgs false
namespace Go.Proofs.Ytgjpcliaggpcaaa.Ab
open Go Classical

section
variable {P : Program} {X : Nat → Bool}

/-- What an operation of a walk comes to. -/
structure StepW (P : Program) (X : Nat → Bool) (o : Oper) (t : Act) (H : AHeap) (v : Value) (H' : AHeap) : Prop where
  op : OpS2 P (fun x => x < H.next) o t H v H'
  kx : KX X H H'
  fz : ∀ b, H.fz b = true → H'.fz b = true
  pure : clsOf P o.op = 0 → H' = H ∧ OpS2 P (fun _ => False) o t H v H'
  load : clsOf P o.op = 1 → H' = H ∧ ∀ b π, obsA P t.eval o.op = some (b, π) → b < H.next ∧ ∀ H2 : AHeap, π (H2.get b) = π (H.get b) → OpQ P o t H2 v
  ob : clsOf P o.op = 1 → ∃ b π, obsA P t.eval o.op = some (b, π)
  new : clsOf P o.op = 2 → OpS2 P (fun _ => False) o t H v H' ∧ ∃ B, H' = H.push B
  call : clsOf P o.op = 3 → KX H.fz H H'

theorem footA_lt {ev : Operand → Value} {op : Op} {H H' : AHeap} {v : Value} (hw : H.wf) (hh : opA P ev op H = .ok v H') : ∀ b, footA P ev op H.next b → b < H.next := by
  intro b hb
  cases op <;> simp only [footA] at hb <;> first
    | (exact hb.elim)
    | exact hb
    | skip
  case load ty a =>
    simp only [opA] at hh
    unfold loadA at hh
    split at hh
    · rename_i b0 o0 ha
      rw [ha] at hb
      obtain rfl : b = b0 := hb
      split at hh
      · rename_i v0 hv; obtain ⟨B, hB⟩ := see_some hv; exact AHeap.wf_lt hw hB
      · cases hh
    · cases hh
  case convert s d x =>
    cases h : P.underlying s with
    | none => rw [h] at hb; exact hb
    | some u => rw [h] at hb; cases u <;> first | exact hb | exact hb.elim
  case call c =>
    cases h : c.callee with
    | builtin u => rw [h] at hb; cases u <;> first | exact hb | exact hb.elim
    | _ => rw [h] at hb; exact hb
  case store ty a x =>
    simp only [opA] at hh
    unfold storeA at hh
    split at hh
    · rename_i b0 o0 ha
      rw [ha] at hb
      obtain rfl : b = b0 := hb
      split at hh
      · split at hh
        · exact (writeA_run (P := P) hw hh).2.1
        · cases hh
      · cases hh
    · cases hh

theorem new_push {cs : List Value} {e : TypeId} {opn : Bool} {k : Nat → Value} {H H' : AHeap} {v : Value} (hh : newA cs e opn k H = .ok v H') : ∃ B, H' = H.push B := by cases hh; exact ⟨_, rfl⟩

theorem op2_narrow {F : Nat → Prop} {o : Oper} {t : Act} {H H' : AHeap} {v : Value} (hw : H.wf) (h : OpS2 P F o t H v H') (hF : ∀ b, F b → b < H.next) : OpS2 P (fun x => x < H.next) o t H v H' :=
  ⟨⟨h.stp.next, h.stp.wf, fun b hb hn => absurd hb hn⟩, OpT.wide hw h.stp hF h.op⟩

theorem pure_foot {ev : Operand → Value} {op : Op} {n : Nat} (hc : clsOf P op = 0) : footA P ev op n = fun _ => False := by
  cases op <;> simp only [clsOf, footA] at hc ⊢ <;> first
    | (cases hc; done)
    | skip
  case convert s d x => split at hc <;> first | (cases hc; done) | (rename_i h; rw [h])
  case call c => split at hc <;> first | (cases hc; done) | (rename_i h; rw [h])

theorem new_foot {ev : Operand → Value} {op : Op} {n : Nat} (hc : clsOf P op = 2) : footA P ev op n = fun _ => False := by
  cases op <;> simp only [clsOf, footA] at hc ⊢ <;> first
    | (cases hc; done)
    | skip
  case convert s d x => split at hc <;> first | (cases hc; done) | (rename_i h; rw [h])
  case call c => split at hc <;> first | (cases hc; done) | (rename_i h; rw [h])

theorem pure_same {ev : Operand → Value} {op : Op} {H H' : AHeap} {v : Value} (hc : clsOf P op = 0) (hh : opA P ev op H = .ok v H') : H' = H := by
  cases op <;> simp only [clsOf] at hc <;> simp only [opA] at hh <;> first
    | (cases hc; done)
    | (cases hh; rfl)
    | exact (lift_ok hh).elim fun _ h => h.2
    | skip
  case convert s d x =>
    split at hc
    · rename_i k hs
      unfold convA at hh
      rw [hs] at hh
      split at hh
      · split at hh <;> cases hh; rfl
      · rename_i e h1 h2; cases h1
      · cases hh
    · cases hc
  case call c =>
    unfold callA at hh
    split at hc <;> first | (cases hc; done) | skip
    all_goals
      rename_i hcal
      rw [hcal] at hh
      simp only at hh
      unfold biA at hh
      (repeat' split at hh) <;> first
        | exact (lift_ok hh).elim fun _ h => h.2
        | (cases hh; done)
        | contradiction

theorem new_same {ev : Operand → Value} {op : Op} {H H' : AHeap} {v : Value} (hc : clsOf P op = 2) (hh : opA P ev op H = .ok v H') : ∃ B, H' = H.push B := by
  cases op <;> simp only [clsOf] at hc <;> simp only [opA] at hh <;> first
    | (cases hc; done)
    | exact new_push hh
    | skip
  case alloc => unfold allocA at hh; split at hh <;> first | exact new_push hh | (cases hh; done)
  case buildSlice => unfold buildSliceA at hh; (repeat' split at hh) <;> first | exact new_push hh | (cases hh; done)
  case makeSlice => unfold makeSliceA at hh; (repeat' split at hh) <;> first | exact new_push hh | (cases hh; done)
  case convert s d x => split at hc <;> cases hc
  case call c => split at hc <;> cases hc

theorem load_only {op : Op} (hc : clsOf P op = 1) : ∃ ty a, op = .load ty a := by
  cases op <;> simp only [clsOf] at hc <;> first
    | (cases hc; done)
    | exact ⟨_, _, rfl⟩
    | skip
  case convert s d x => split at hc <;> cases hc
  case call c => split at hc <;> cases hc

theorem call_cls {ev : Operand → Value} {op : Op} {H : AHeap} {f : FuncId} {args : Array Value} (hh : opA P ev op H = .call f args) : clsOf P op = 3 := by
  obtain ⟨hop, _⟩ := call_only hh
  obtain ⟨c, fv, rfl, hc, _⟩ := call_of hop
  simp only [clsOf, hc]

theorem cls_call_ok {ev : Operand → Value} {op : Op} {H H' : AHeap} {v : Value} (hc : clsOf P op = 3) (hh : opA P ev op H = .ok v H') : False := by
  cases op <;> simp only [clsOf] at hc <;> first
    | (cases hc; done)
    | skip
  case convert s d x => split at hc <;> cases hc
  case call c =>
    simp only [opA] at hh
    unfold callA at hh
    split at hc <;> first | (cases hc; done) | skip
    rename_i fv hcal
    rw [hcal] at hh
    obtain ⟨h', hk, _⟩ := lift_ok hh
    unfold callK at hk
    simp only [cond_eq_ite] at hk
    (repeat' split at hk) <;> cases hk

theorem wOp_step {n : Nat} {o : Oper} {t : Act} {E : Env} {H : AHeap} {K : Value → AHeap → Prop} (ht : TE n t E) (hi : Inv0 X H) (hok : o.op.operands.all okOperand = true)
    (h : wOp P X (evE E) o.op H K) : ∃ v H', StepW P X o t H v H' ∧ K v H' := by
  unfold wOp at h
  rw [ht.ev] at h
  cases hop : opA P t.eval o.op H with
  | no => rw [hop] at h; exact h.elim
  | ok v H' =>
    rw [hop] at h
    obtain ⟨h1, h2⟩ := h
    have hs := opA_sound (P := P) hi.fine.wf hok hop
    have hg := op_grows hop
    refine ⟨v, H', ⟨op2_narrow hi.fine.wf hs (footA_lt hi.fine.wf hop), ⟨hg.nx, fun b hb => h1 b (hi.fine.fz b (hi.sub b hb)) hb, fun b hb => hg.fz b (hi.sub b hb), ⟨hs.stp.wf, hg.fw hi.fine.fz⟩⟩, hg.fz,
      fun hc => ⟨pure_same hc hop, by rw [← pure_foot (ev := t.eval) (n := H.next) hc]; exact hs⟩, fun hc => ?_, fun hc => ?_, fun hc => ⟨by rw [← new_foot (ev := t.eval) (n := H.next) hc]; exact hs, new_same hc hop⟩, fun hc => (cls_call_ok hc hop).elim⟩, h2⟩
    · obtain ⟨ty, ao, he⟩ := load_only hc
      rw [he] at hop
      simp only [opA] at hop
      refine ⟨(loadA_op hi.fine.wf he hop).1, fun b π hob => ?_⟩
      rw [he] at hob
      simp only [obsA] at hob
      unfold loadA at hop
      split at hop
      · rename_i b0 o0 ha
        rw [ha] at hob
        cases hob
        split at hop
        · rename_i v0 hv0
          cases hop
          obtain ⟨B, hB⟩ := see_some hv0
          exact ⟨AHeap.wf_lt hi.fine.wf hB, fun H2 h2 => loadA_quiet he ha (h2.trans hv0)⟩
        · cases hop
      · cases hop
    · obtain ⟨ty, ao, he⟩ := load_only hc
      rw [he] at hop
      simp only [opA] at hop
      unfold loadA at hop
      split at hop
      · rename_i b0 o0 ha
        rw [he]
        simp only [obsA]
        rw [ha]
        exact ⟨_, _, rfl⟩
      · cases hop
  | call f args =>
    rw [hop] at h
    obtain ⟨v, H', h1, h2, h3, h4⟩ := h hi.fine
    obtain ⟨hop2, hnq⟩ := call_only hop
    have hcl := call_cls hop
    exact ⟨v, H', ⟨op2_all hi.fine.wf h1 (call_op hop2 h2), ⟨h3.nx, fun b hb => h3.get b (hi.sub b hb), fun b hb => h3.fz b (hi.sub b hb), h3.fine⟩, h3.fz, fun hc => (by rw [hcl] at hc; cases hc),
      fun hc => (by rw [hcl] at hc; cases hc), fun hc => (by rw [hcl] at hc; cases hc), fun hc => (by rw [hcl] at hc; cases hc), fun _ => h3⟩, h4⟩

theorem wOps_sound {n : Nat} {ops : Array Oper} (hops : opersOk n ops = true) : ∀ (l : List Oper) (i : Nat) (t : Act) (E : Env) (H : AHeap) (K : Env → AHeap → Prop), ops.toList.drop i = l → TE n t E → Inv0 X H →
    wOps P X (ops.toList.map (·.dst)) l E H K → RO P ops (List.range' i l.length) t H fun e t' H' => e = .normal ∧ ∃ E', TE n t' E' ∧ KX X H H' ∧ K E' H'
  | [], i, t, E, H, K, _, ht, hi, h => ro_nil hi.fine.wf ⟨rfl, E, ht, .refl hi, h⟩
  | o :: l, i, t, E, H, K, hd, ht, hi, h => by
    have ho : ops[i]? = some o := by
      have := List.getElem?_drop (xs := ops.toList) (i := i) (j := 0)
      rw [hd] at this
      simpa using this.symm
    have hd' : ops.toList.drop (i + 1) = l := by
      rw [← List.drop_drop, hd]; rfl
    rw [List.length_cons, List.range'_succ]
    obtain ⟨ho1, ho2⟩ := opersOk_spec hops ho
    rw [wOps] at h
    split at h
    · rename_i hw
      obtain ⟨v, H', hst, hk⟩ := wOp_step ht hi ho1 h
      have hs := hst.op
      refine ro_cons ho hs.stp.all ho1 ?_ ((wOps_sound hops l (i + 1) _ _ H' K hd' (ht.put ho2 v) hst.kx.inv hk).mono fun e t' H2 _ ⟨he, E', h1, h2, h3⟩ => ⟨he, E', h1, hst.kx.trans h2, h3⟩)
      unfold OpAt
      rw [← wantE_eq ht, if_pos hw]
      exact OpT.wide hi.fine.wf hs.stp (fun _ _ => trivial) hs.op
    · rename_i hw
      refine ro_cons ho (.refl hi.fine.wf) ho1 ?_ (wOps_sound hops l (i + 1) _ _ H K hd' (ht.put ho2 undef) hi h)
      unfold OpAt
      rw [← wantE_eq ht, if_neg hw]
      exact ⟨rfl, rfl⟩

/-- A drawn region so far, with what is seen. -/
structure PD (P : Program) (ops : Array Oper) (m : Nat) where
  t : Nat → Act
  H : Nat → AHeap
  v : Nat → Value
  F : Nat → Nat → Prop
  obs : Nat → Obs
  wf : (H 0).wf
  step : ∀ (i : Nat) (o : Oper), i < m → ops[i]? = some o → obs i = none → OpAt P ops (F i) o (t i) (H i) (v i) (H (i + 1))
  put : ∀ (i : Nat) (o : Oper), i < m → ops[i]? = some o → t (i + 1) = (t i).put o.dst (v i)
  stp : ∀ i, i < m → Stp (F i) (H i) (H (i + 1))
  opn : ∀ (i : Nat) (o : Oper), i < m → ops[i]? = some o → o.op.operands.all okOperand = true
  lt : ∀ i b, i < m → F i b → b < (H i).next
  obsq : ∀ (i : Nat) (o : Oper), i < m → ops[i]? = some o → ObsOk P ops (obs i) (F i) o (t i) (H i) (v i) (H (i + 1))

def PD.start (ops : Array Oper) (t : Act) (H : AHeap) (hw : H.wf) : PD P ops 0 := ⟨fun _ => t, fun _ => H, fun _ => undef, fun _ _ => False, fun _ => none, hw,
  fun i o h => absurd h (by omega), fun i o h => absurd h (by omega), fun i h => absurd h (by omega), fun i o h => absurd h (by omega), fun i b h => absurd h (by omega), fun i o h => absurd h (by omega)⟩

noncomputable def PD.more {ops : Array Oper} {m : Nat} (T : PD P ops m) (o : Oper) (ho : ops[m]? = some o) (F : Nat → Prop) (ob : Obs) (v : Value) (H' : AHeap) (h1 : ob = none → OpAt P ops F o (T.t m) (T.H m) v H')
    (h2 : Stp F (T.H m) H') (h3 : o.op.operands.all okOperand = true) (h4 : ∀ b, F b → b < (T.H m).next) (h5 : ObsOk P ops ob F o (T.t m) (T.H m) v H') : PD P ops (m + 1) where
  t := fun j => if j ≤ m then T.t j else (T.t m).put o.dst v
  H := fun j => if j ≤ m then T.H j else H'
  v := fun j => if j < m then T.v j else v
  F := fun j => if j < m then T.F j else F
  obs := fun j => if j < m then T.obs j else ob
  wf := by rw [if_pos (Nat.zero_le _)]; exact T.wf
  step := fun i o2 hi ho2 hob => by
    by_cases hc : i < m
    · have h5 : i ≤ m := by omega
      have h6 : i + 1 ≤ m := by omega
      simp only [hc, h5, h6, if_true] at hob ⊢
      exact T.step i o2 hc ho2 hob
    · obtain rfl : i = m := by omega
      have h6 : ¬ (i + 1 ≤ i) := by omega
      simp only [Nat.lt_irrefl, Nat.le_refl, h6, if_true, if_false] at hob ⊢
      rw [ho] at ho2; cases ho2; exact h1 hob
  put := fun i o2 hi ho2 => by
    by_cases hc : i < m
    · have h5 : i ≤ m := by omega
      have h6 : i + 1 ≤ m := by omega
      simp only [hc, h5, h6, if_true]
      exact T.put i o2 hc ho2
    · obtain rfl : i = m := by omega
      have h6 : ¬ (i + 1 ≤ i) := by omega
      simp only [Nat.lt_irrefl, Nat.le_refl, h6, if_true, if_false]
      rw [ho] at ho2; cases ho2; rfl
  stp := fun i hi => by
    by_cases hc : i < m
    · have h5 : i ≤ m := by omega
      have h6 : i + 1 ≤ m := by omega
      simp only [hc, h5, h6, if_true]
      exact T.stp i hc
    · obtain rfl : i = m := by omega
      have h6 : ¬ (i + 1 ≤ i) := by omega
      simp only [Nat.lt_irrefl, Nat.le_refl, h6, if_true, if_false]
      exact h2
  opn := fun i o2 hi ho2 => by
    by_cases hc : i < m
    · exact T.opn i o2 hc ho2
    · obtain rfl : i = m := by omega
      rw [ho] at ho2; cases ho2; exact h3
  lt := fun i b hi hF => by
    by_cases hc : i < m
    · have h5 : i ≤ m := by omega
      simp only [hc, h5, if_true] at hF ⊢
      exact T.lt i b hc hF
    · obtain rfl : i = m := by omega
      simp only [Nat.lt_irrefl, Nat.le_refl, if_true, if_false] at hF ⊢
      exact h4 b hF
  obsq := fun i o2 hi ho2 => by
    by_cases hc : i < m
    · have h5 : i ≤ m := by omega
      have h6 : i + 1 ≤ m := by omega
      simp only [hc, h5, h6, if_true]
      exact T.obsq i o2 hc ho2
    · obtain rfl : i = m := by omega
      have h6 : ¬ (i + 1 ≤ i) := by omega
      simp only [Nat.lt_irrefl, Nat.le_refl, h6, if_true, if_false]
      rw [ho] at ho2; cases ho2; exact h5

def PD.done {ops : Array Oper} (T : PD P ops ops.size) : Tra P ops where
  t := T.t
  H := T.H
  v := T.v
  F := T.F
  wf := T.wf
  obs := T.obs
  step := fun i o ho hob => T.step i o (Array.getElem?_eq_some_iff.1 ho).1 ho hob
  put := fun i o ho => T.put i o (Array.getElem?_eq_some_iff.1 ho).1 ho
  stp := T.stp
  opn := fun i o ho => T.opn i o (Array.getElem?_eq_some_iff.1 ho).1 ho
  lt := T.lt
  obsq := fun i o ho => T.obsq i o (Array.getElem?_eq_some_iff.1 ho).1 ho

/-- What is known of one operation of a drawn region, by its kind. -/
structure IdxOk (c : Nat) (ob : Obs) (F : Nat → Prop) (H H' : AHeap) : Prop where
  pure : c = 0 → H' = H ∧ ∀ b, ¬ F b
  load : c = 1 → H' = H ∧ (∀ b, ¬ F b) ∧ ∀ b π, ob = some (b, π) → b < H.next
  new : c = 2 → (∀ b, ¬ F b) ∧ (H' = H ∨ ∃ B, H' = H.push B)
  call : c = 3 → H' = H ∨ KX H.fz H H'
  obn : c ≠ 1 → ob = none
  fz : ∀ b, H.fz b = true → H'.fz b = true
  foot : ∀ b, F b → b < H.next

/-- What is known of two that are told. -/
structure TwoOk (ci : Nat) (obi obk : Obs) (Hi Hi' Hk Hk' : AHeap) : Prop where
  a : see1 obk Hi Hi'
  b : see1 obi Hk Hk'
  c : ci = 2 → Hi' = Hi ∨ Hk'.get Hi.next = Hk.get Hi.next

structure DrawW (P : Program) (ops : Array Oper) (tb : List (Nat × Nat)) (m : Nat) (T : PD P ops m) (acc : List (Nat × Rec)) : Prop where
  idx : ∀ j, j < m → IdxOk (clsAt P ops j) (T.obs j) (T.F j) (T.H j) (T.H (j + 1))
  two : ∀ i k, i < k → k < m → (i, k) ∈ tb → TwoOk (clsAt P ops i) (T.obs i) (T.obs k) (T.H i) (T.H (i + 1)) (T.H k) (T.H (k + 1))
  acc : ∀ j, j < m → told tb j = true → look acc j = some ⟨T.obs j, if clsAt P ops j = 2 then some (T.H j).next else none, T.H j, T.H (j + 1)⟩ ∨ (T.obs j = none ∧ T.H (j + 1) = T.H j)

theorem told_of {tb : List (Nat × Nat)} {i k : Nat} (h : (i, k) ∈ tb) : told tb i = true := by
  unfold told; rw [List.any_eq_true]; exact ⟨_, h, by simp⟩

theorem oblT_spec {tb : List (Nat × Nat)} {k : Nat} {acc : List (Nat × Rec)} {ob : Obs} {H H' : AHeap} (h : oblT tb k acc ob H H') : ∀ i, (i, k) ∈ tb → obl1 (look acc i) ob H H' := by
  induction tb with
  | nil => intro i hi; cases hi
  | cons p tb ih =>
    intro i hi
    rw [oblT] at h
    rcases List.mem_cons.1 hi with rfl | hi
    · have := h.1; rwa [if_pos rfl] at this
    · exact ih h.2 i hi

theorem DrawW.next {ops : Array Oper} {tb : List (Nat × Nat)} {i : Nat} {T : PD P ops i} {acc acc' : List (Nat × Rec)} (d : DrawW P ops tb i T acc) {o : Oper} (ho : ops[i]? = some o) {F : Nat → Prop} {ob : Obs} {v : Value} {H' : AHeap} (h1 : ob = none → OpAt P ops F o (T.t i) (T.H i) v H')
    (h2 : Stp F (T.H i) H') (h3 : o.op.operands.all okOperand = true) (h4 : ∀ b, F b → b < (T.H i).next) (h5 : ObsOk P ops ob F o (T.t i) (T.H i) v H')
    (hx : IdxOk (clsAt P ops i) ob F (T.H i) H') (ht : ∀ j, j < i → (j, i) ∈ tb → TwoOk (clsAt P ops j) (T.obs j) ob (T.H j) (T.H (j + 1)) (T.H i) H')
    (ha : ∀ j, j < i → told tb j = true → look acc' j = look acc j) (hai : told tb i = true → look acc' i = some ⟨ob, if clsAt P ops i = 2 then some (T.H i).next else none, T.H i, H'⟩ ∨ (ob = none ∧ H' = T.H i)) :
    DrawW P ops tb (i + 1) (T.more o ho F ob v H' h1 h2 h3 h4 h5) acc' := by
  have low : ∀ j, j < i → (if j ≤ i then T.H j else H') = T.H j ∧ (if j + 1 ≤ i then T.H (j + 1) else H') = T.H (j + 1) := fun j hj => ⟨if_pos (by omega), if_pos (by omega)⟩
  refine ⟨fun j hj => ?_, fun j k hjk hk hm => ?_, fun j hj htl => ?_⟩
  · simp only [PD.more]
    by_cases hji : j < i
    · rw [if_pos hji, if_pos hji, (low j hji).1, (low j hji).2]; exact d.idx j hji
    · obtain rfl : j = i := by omega
      rw [if_neg (by omega), if_neg (by omega), if_pos (Nat.le_refl _), if_neg (by omega)]; exact hx
  · simp only [PD.more]
    by_cases hki : k < i
    · rw [if_pos hki, if_pos (by omega : j < i), (low j (by omega)).1, (low j (by omega)).2, (low k hki).1, (low k hki).2]; exact d.two j k hjk hki hm
    · obtain rfl : k = i := by omega
      rw [if_pos hjk, if_neg (by omega), (low j hjk).1, (low j hjk).2, if_pos (Nat.le_refl _), if_neg (by omega)]; exact ht j hjk hm
  · simp only [PD.more]
    by_cases hji : j < i
    · rw [if_pos hji, (low j hji).1, (low j hji).2, ha j hji htl]; exact d.acc j hji htl
    · obtain rfl : j = i := by omega
      have h6 : ¬ (j + 1 ≤ j) := by omega
      simp only [Nat.lt_irrefl, Nat.le_refl, h6, if_true, if_false]; exact hai htl

theorem look_lt {tb : List (Nat × Nat)} {i : Nat} {r : Rec} {acc : List (Nat × Rec)} {j : Nat} (hj : j < i) : look (note tb i r acc) j = look acc j := by
  unfold note
  split
  · rw [look, if_neg (by simp only; omega)]
  · rfl
theorem look_at {tb : List (Nat × Nat)} {i : Nat} {r : Rec} {acc : List (Nat × Rec)} (h : told tb i = true) : look (note tb i r acc) i = some r := by
  unfold note
  rw [if_pos h, look, if_pos rfl]

theorem wDraw_sound {n : Nat} {ops : Array Oper} {tb : List (Nat × Nat)} (hops : opersOk n ops = true) : ∀ (l : List Oper) (i : Nat) (acc : List (Nat × Rec)) (E : Env) (K : Env → AHeap → Prop) (T : PD P ops i), ops.toList.drop i = l → i + l.length = ops.size → DrawW P ops tb i T acc → TE n (T.t i) E → Inv0 X (T.H i) →
    wDraw P X tb (ops.toList.map (·.dst)) l i acc E (T.H i) K → ∃ (T' : PD P ops ops.size) (acc' : List (Nat × Rec)), T'.t 0 = T.t 0 ∧ T'.H 0 = T.H 0 ∧ DrawW P ops tb ops.size T' acc' ∧ ∃ E', TE n (T'.t ops.size) E' ∧ KX X (T.H i) (T'.H ops.size) ∧ K E' (T'.H ops.size)
  | [], i, acc, E, K, T, hd, hl, d, ht, hi, h => by
    obtain rfl : i = ops.size := by simpa using hl
    exact ⟨T, acc, rfl, rfl, d, E, ht, .refl hi, h⟩
  | o :: l, i, acc, E, K, T, hd, hl, d, ht, hi, h => by
    have ho : ops[i]? = some o := by
      have := List.getElem?_drop (xs := ops.toList) (i := i) (j := 0)
      rw [hd] at this
      simpa using this.symm
    have hd' : ops.toList.drop (i + 1) = l := by
      rw [← List.drop_drop, hd]; rfl
    have hl' : i + 1 + l.length = ops.size := by simp at hl; omega
    obtain ⟨ho1, ho2⟩ := opersOk_spec hops ho
    have hcl : clsAt P ops i = clsOf P o.op := by unfold clsAt; rw [ho]
    have more : ∀ (F : Nat → Prop) (ob : Obs) (v : Value) (H' : AHeap) (acc' : List (Nat × Rec)) (h1 : ob = none → OpAt P ops F o (T.t i) (T.H i) v H') (h2 : Stp F (T.H i) H') (h4 : ∀ b, F b → b < (T.H i).next) (h5 : ObsOk P ops ob F o (T.t i) (T.H i) v H'), KX X (T.H i) H' →
        IdxOk (clsAt P ops i) ob F (T.H i) H' → (∀ j, j < i → (j, i) ∈ tb → TwoOk (clsAt P ops j) (T.obs j) ob (T.H j) (T.H (j + 1)) (T.H i) H') → (∀ j, j < i → told tb j = true → look acc' j = look acc j) →
        (told tb i = true → look acc' i = some ⟨ob, if clsAt P ops i = 2 then some (T.H i).next else none, T.H i, H'⟩ ∨ (ob = none ∧ H' = T.H i)) →
        wDraw P X tb (ops.toList.map (·.dst)) l (i + 1) acc' (putE E o.dst v) H' K → ∃ (T' : PD P ops ops.size) (acc' : List (Nat × Rec)), T'.t 0 = T.t 0 ∧ T'.H 0 = T.H 0 ∧ DrawW P ops tb ops.size T' acc' ∧ ∃ E', TE n (T'.t ops.size) E' ∧ KX X (T.H i) (T'.H ops.size) ∧ K E' (T'.H ops.size) := by
      intro F ob v H' acc' h1 h2 h4 h5 hkx hx htw ha hai hk
      have et : (T.more o ho F ob v H' h1 h2 ho1 h4 h5).t (i + 1) = (T.t i).put o.dst v := by simp only [PD.more]; rw [if_neg (by omega)]
      have eh : (T.more o ho F ob v H' h1 h2 ho1 h4 h5).H (i + 1) = H' := by simp only [PD.more]; rw [if_neg (by omega)]
      have et0 : (T.more o ho F ob v H' h1 h2 ho1 h4 h5).t 0 = T.t 0 := by simp only [PD.more]; rw [if_pos (Nat.zero_le _)]
      have eh0 : (T.more o ho F ob v H' h1 h2 ho1 h4 h5).H 0 = T.H 0 := by simp only [PD.more]; rw [if_pos (Nat.zero_le _)]
      obtain ⟨T', acc2, a1, a2, a3, E', a4, a5, a6⟩ := wDraw_sound hops l (i + 1) acc' (putE E o.dst v) K (T.more o ho F ob v H' h1 h2 ho1 h4 h5) hd' hl' (d.next ho h1 h2 ho1 h4 h5 hx htw ha hai) (by rw [et]; exact ht.put ho2 v) (by rw [eh]; exact hkx.inv) (by rw [eh]; exact hk)
      rw [eh] at a5
      exact ⟨T', acc2, by rw [a1, et0], by rw [a2, eh0], a3, E', a4, hkx.trans a5, a6⟩
    rw [wDraw] at h
    split at h
    · rename_i hw
      have hwt : Region.wanted o (yielded ops (T.t i).tmps) = true := by rw [← wantE_eq ht]; exact hw
      obtain ⟨v, H', hst, hobl, hk⟩ := wOp_step ht hi ho1 h
      rw [ht.ev] at hobl hk
      have twos : ∀ ob : Obs, ob = obsA P (T.t i).eval o.op → ∀ j, j < i → (j, i) ∈ tb → TwoOk (clsAt P ops j) (T.obs j) ob (T.H j) (T.H (j + 1)) (T.H i) H' := fun ob hob j hj hm => by
        have h6 := oblT_spec hobl j hm
        rcases d.acc j hj (told_of hm) with h7 | ⟨h7, h8⟩
        · rw [h7] at h6
          obtain ⟨q1, q2, q3⟩ := h6
          refine ⟨hob ▸ q1, q2, fun hc => ?_⟩
          simp only [if_pos hc] at q3
          exact .inr q3
        · refine ⟨?_, by rw [h7]; exact trivial, fun _ => .inl h8⟩
          rw [h8]
          unfold see1
          split
          · rfl
          · trivial
      have hnote : told tb i = true → look (note tb i ⟨obsA P (T.t i).eval o.op, newOf P o.op (T.H i), T.H i, H'⟩ acc) i = some ⟨obsA P (T.t i).eval o.op, if clsAt P ops i = 2 then some (T.H i).next else none, T.H i, H'⟩ := fun h => by
        rw [look_at h]; unfold newOf; rw [hcl]
      have hopat : ∀ {F : Nat → Prop}, OpT P F o (T.t i) (T.H i) v H' → OpAt P ops F o (T.t i) (T.H i) v H' := fun {F} h => by
        unfold OpAt; rw [if_pos hwt]; exact h
      by_cases hc1 : clsOf P o.op = 1
      · obtain ⟨b, π, hob⟩ := hst.ob hc1
        obtain ⟨hHH, hq⟩ := hst.load hc1
        subst hHH
        refine more (fun _ => False) (obsA P (T.t i).eval o.op) v (T.H i) _ (fun he => by rw [hob] at he; cases he) (.refl hi.fine.wf) (fun b hb => hb.elim) (fun b π hb => ⟨rfl, fun _ h => h, fun _ => (hq b π hb).2, fun hn => absurd hwt hn⟩) hst.kx
          ⟨fun hc => (by rw [hcl, hc1] at hc; cases hc), fun _ => ⟨rfl, fun _ h => h, fun b π hb => (hq b π hb).1⟩, fun hc => (by rw [hcl, hc1] at hc; cases hc), fun hc => (by rw [hcl, hc1] at hc; cases hc), fun hc => absurd (hcl.trans hc1) hc, fun _ h => h, fun b hb => hb.elim⟩
          (twos _ rfl) (fun j hj _ => look_lt hj) (fun h => .inl (hnote h)) hk
      · have hobn : obsA P (T.t i).eval o.op = none := by
          unfold obsA
          split
          · rename_i ty a he; rw [he] at hc1; exact absurd rfl hc1
          · rfl
        have obsn : ObsOk P ops none (fun _ => False) o (T.t i) (T.H i) v H' := fun b π h => by cases h
        rw [hobn] at hk hnote
        by_cases hc0 : clsOf P o.op = 0
        · obtain ⟨hHH, hs⟩ := hst.pure hc0
          exact more (fun _ => False) none v H' _ (fun _ => hopat hs.op) hs.stp (fun b hb => hb.elim) obsn hst.kx
            ⟨fun _ => ⟨hHH, fun _ h => h⟩, fun hc => (by rw [hcl, hc0] at hc; cases hc), fun hc => (by rw [hcl, hc0] at hc; cases hc), fun hc => (by rw [hcl, hc0] at hc; cases hc), fun _ => rfl, hst.fz, fun b hb => hb.elim⟩
            (twos _ hobn.symm) (fun j hj _ => look_lt hj) (fun h => .inl (hnote h)) hk
        · by_cases hc2 : clsOf P o.op = 2
          · obtain ⟨hs, hB⟩ := hst.new hc2
            exact more (fun _ => False) none v H' _ (fun _ => hopat hs.op) hs.stp (fun b hb => hb.elim) obsn hst.kx
              ⟨fun hc => (by rw [hcl, hc2] at hc; cases hc), fun hc => (by rw [hcl, hc2] at hc; cases hc), fun _ => ⟨fun _ h => h, .inr hB⟩, fun hc => (by rw [hcl, hc2] at hc; cases hc), fun _ => rfl, hst.fz, fun b hb => hb.elim⟩
              (twos _ hobn.symm) (fun j hj _ => look_lt hj) (fun h => .inl (hnote h)) hk
          · exact more (fun x => x < (T.H i).next) none v H' _ (fun _ => hopat hst.op.op) hst.op.stp (fun b hb => hb) (fun b π h => by cases h) hst.kx
              ⟨fun hc => absurd (hcl.symm.trans hc) hc0, fun hc => absurd (hcl.symm.trans hc) hc1, fun hc => absurd (hcl.symm.trans hc) hc2, fun hc => .inr (hst.call (hcl.symm.trans hc)), fun _ => rfl, hst.fz, fun b hb => hb⟩
              (twos _ hobn.symm) (fun j hj _ => look_lt hj) (fun h => .inl (hnote h)) hk
    · rename_i hw
      have hwt : ¬ Region.wanted o (yielded ops (T.t i).tmps) = true := by rw [← wantE_eq ht]; exact hw
      refine more (fun _ => False) none undef (T.H i) acc ?_ (.refl hi.fine.wf) (fun b hb => hb.elim) (fun b π h => by cases h) (.refl hi)
        ⟨fun _ => ⟨rfl, fun _ h => h⟩, fun _ => ⟨rfl, fun _ h => h, fun b π h => by cases h⟩, fun _ => ⟨fun _ h => h, .inl rfl⟩, fun _ => .inl rfl, fun _ => rfl, fun _ h => h, fun b hb => hb.elim⟩
        (fun j hj hm => ⟨trivial, ?_, fun _ => .inr rfl⟩) (fun _ _ _ => rfl) (fun _ => .inr ⟨rfl, rfl⟩) h
      · intro _
        unfold OpAt
        rw [if_neg hwt]
        exact ⟨rfl, rfl⟩
      · unfold see1
        split
        · rfl
        · trivial

theorem see1_spec {ob : Obs} {H H' : AHeap} (h : see1 ob H H') {b : Nat} {π : Option ABlk → Option Value} (hob : ob = some (b, π)) : π (H'.get b) = π (H.get b) := by
  rw [hob] at h; exact h

theorem get_push_lt {H : AHeap} {B : ABlk} {b : Nat} (h : b < H.next) : (H.push B).get b = H.get b := by
  show (if b = H.next then some B else H.get b) = _
  rw [if_neg (by omega)]

theorem PD.nxs {ops : Array Oper} {m : Nat} (T : PD P ops m) {i k : Nat} (h : i ≤ k) (hk : k ≤ m) : (T.H i).next ≤ (T.H k).next := by
  induction h with
  | refl => exact Nat.le_refl _
  | @step k hik ih =>
    have hk' : k + 1 ≤ m := hk
    exact Nat.le_trans (ih (by omega)) (T.stp k (by omega)).next

theorem free_draw {ops : Array Oper} {tb : List (Nat × Nat)} {T : PD P ops ops.size} {acc : List (Nat × Rec)} (d : DrawW P ops tb ops.size T acc) (hl : confOk P ops tb = true) : FreeAll T.done := by
  intro i k hik hk hb
  unfold confOk at hl
  have h1 := List.all_eq_true.1 (List.all_eq_true.1 hl k (List.mem_range.2 hk)) i (List.mem_range.2 hik)
  rw [Bool.or_eq_true, Bool.or_eq_true] at h1
  have hi := d.idx i (by omega)
  have hx := d.idx k hk
  have n1 := T.nxs (show i ≤ k by omega) (Nat.le_of_lt hk)
  have n2 := T.nxs (show i + 1 ≤ k by omega) (Nat.le_of_lt hk)
  have htw0 := d.two i k hik hk
  generalize clsAt P ops i = ci at h1 hi htw0
  generalize clsAt P ops k = ck at h1 hx
  have none_of : ∀ {c : Nat} {ob : Obs} {b : Nat} {π : Option ABlk → Option Value}, (c ≠ 1 → ob = none) → ob = some (b, π) → c = 1 := fun {c ob b π} h he => by
    by_cases hc : c = 1
    · exact hc
    · rw [h hc] at he; cases he
  have nofr : ∀ {b}, T.H (i + 1) = T.H i → ¬ fresh (T.H i) (T.H (i + 1)) b := fun {b} he hf => by
    have := hf.1; have := hf.2; rw [he] at this; omega
  have oldk : ∀ {b}, ck = 2 → b < (T.H k).next → (T.H (k + 1)).get b = (T.H k).get b := fun {b} hc hlt => by
    rcases (hx.new hc).2 with h | ⟨B, h⟩
    · rw [h]
    · rw [h, get_push_lt hlt]
  rcases h1 with (h1 | h1) | h1
  · exact absurd (befM_bef ops _ _ _ h1) hb
  · unfold pairFree at h1
    simp only [Bool.or_eq_true, Bool.and_eq_true, beq_iff_eq] at h1
    rcases h1 with (((h1 | h1) | h1) | h1) | h1
    · -- i asks nothing
      obtain ⟨e, hF⟩ := hi.pure h1
      exact ⟨fun b _ _ => by show (T.H (i + 1)).get b = _; rw [e]; rfl, fun b hb => (hb.elim (fun h => absurd h (hF b)) (fun h => absurd h (nofr e))), fun b π _ => by show π ((T.H (i + 1)).get b) = _; rw [e]; rfl,
        fun b π ho => by have := none_of hi.obn ho; omega⟩
    · obtain ⟨e, hF⟩ := hx.pure h1
      exact ⟨fun b hb => absurd hb (hF b), fun b _ => by show (T.H (k + 1)).get b = _; rw [e]; rfl, fun b π ho => by have := none_of hx.obn ho; omega, fun b π _ => by show π ((T.H (k + 1)).get b) = _; rw [e]; rfl⟩
    · obtain ⟨h1, h2⟩ := h1
      obtain ⟨e, hF, hlt⟩ := hi.load h1
      refine ⟨fun b _ _ => by show (T.H (i + 1)).get b = _; rw [e]; rfl, fun b hb => (hb.elim (fun h => absurd h (hF b)) (fun h => absurd h (nofr e))), fun b π _ => by show π ((T.H (i + 1)).get b) = _; rw [e]; rfl, fun b π ho => ?_⟩
      show π ((T.H (k + 1)).get b) = π ((T.H k).get b)
      rcases h2 with h2 | h2
      · rw [(hx.load h2).1]
      · rw [oldk h2 (Nat.lt_of_lt_of_le (hlt b π ho) n1)]
    · obtain ⟨h1, h2⟩ := h1
      obtain ⟨hF, hB⟩ := hi.new h1
      have hold : ∀ b, b < (T.H i).next → (T.H (i + 1)).get b = (T.H i).get b := fun b hlt => by
        rcases hB with h | ⟨B, h⟩
        · rw [h]
        · rw [h, get_push_lt hlt]
      have hck : ck ≠ 1 := by rcases h2 with h | h <;> omega
      have hci : ci ≠ 1 := by omega
      refine ⟨fun b _ hlt => hold b hlt, fun b hb => ?_, fun b π ho => absurd (none_of hx.obn ho) hck, fun b π ho => absurd (none_of hi.obn ho) hci⟩
      have hfr := hb.resolve_left (hF b)
      show (T.H (k + 1)).get b = (T.H k).get b
      rcases h2 with h2 | h2
      · exact oldk h2 (Nat.lt_of_lt_of_le hfr.2 n2)
      · rcases hx.call h2 with h | h
        · rw [h]
        · refine h.get b ?_
          -- the block has been told since it was made
          have hfz : ∀ j, i + 1 ≤ j → j ≤ k → (T.H j).fz b = true := by
            intro j hj
            induction hj with
            | refl =>
              intro _
              rcases hB with h | ⟨B, h⟩
              · exact absurd hfr (nofr h)
              · have : b = (T.H i).next := by
                  have h3 : (T.H i).next ≤ b := hfr.1
                  have h4 : b < (T.H (i + 1)).next := hfr.2
                  rw [h] at h4
                  have h5 : b < (T.H i).next + 1 := h4
                  omega
                rw [h, this]
                show ((T.H i).next == (T.H i).next || (T.H i).fz (T.H i).next) = true
                simp
            | @step j hj ih =>
              intro hjk
              have hj' : i + 1 ≤ j := hj
              have hjk' : j + 1 ≤ k := hjk
              exact (d.idx j (by omega)).fz b (ih (by omega))
          exact hfz k (by omega) (Nat.le_refl _)
    · obtain ⟨h1, h2⟩ := h1
      have hck : ck ≠ 1 := by omega
      have hci : ci ≠ 1 := by rcases h1 with h | h <;> omega
      refine ⟨fun b hb => absurd hb ((hx.new h2).1 b), fun b hb => ?_, fun b π ho => absurd (none_of hx.obn ho) hck, fun b π ho => absurd (none_of hi.obn ho) hci⟩
      refine oldk h2 ?_
      rcases hb with hb | hb
      · exact Nat.lt_of_lt_of_le (hi.foot b hb) n1
      · exact Nat.lt_of_lt_of_le hb.2 n2
  · rw [Bool.and_eq_true] at h1
    obtain ⟨h1, hmem⟩ := h1
    have htw := htw0 (by simpa using hmem)
    unfold pairTold at h1
    simp only [Bool.or_eq_true, Bool.and_eq_true, beq_iff_eq] at h1
    rcases h1 with (h1 | h1) | h1
    · obtain ⟨h1, h2⟩ := h1
      obtain ⟨e, hF, hlt⟩ := hi.load h1
      have hck : ck ≠ 1 := by rcases h2 with h | h <;> omega
      exact ⟨fun b _ _ => by show (T.H (i + 1)).get b = _; rw [e]; rfl, fun b hb => (hb.elim (fun h => absurd h (hF b)) (fun h => absurd h (nofr e))), fun b π ho => absurd (none_of hx.obn ho) hck, fun b π ho => see1_spec htw.b ho⟩
    · obtain ⟨h1, h2⟩ := h1
      obtain ⟨e, hF, hlt⟩ := hx.load h2
      have hci : ci ≠ 1 := by rcases h1 with (h | h) | h <;> omega
      exact ⟨fun b hb => absurd hb (hF b), fun b _ => by show (T.H (k + 1)).get b = _; rw [e]; rfl, fun b π ho => see1_spec htw.a ho, fun b π ho => absurd (none_of hi.obn ho) hci⟩
    · obtain ⟨h1, h2⟩ := h1
      obtain ⟨hF, hB⟩ := hi.new h1
      have hck : ck ≠ 1 := by omega
      have hci : ci ≠ 1 := by omega
      refine ⟨fun b _ hlt => ?_, fun b hb => ?_, fun b π ho => absurd (none_of hx.obn ho) hck, fun b π ho => absurd (none_of hi.obn ho) hci⟩
      · show (T.H (i + 1)).get b = (T.H i).get b
        rcases hB with h | ⟨B, h⟩
        · rw [h]
        · rw [h]; exact get_push_lt hlt
      · have hfr := hb.resolve_left (hF b)
        rcases htw.c h1 with h | h
        · exact absurd hfr (nofr h)
        · rcases hB with h3 | ⟨B, h3⟩
          · exact absurd hfr (nofr h3)
          · have : b = (T.H i).next := by
              have h4 : (T.H i).next ≤ b := hfr.1
              have h5 : b < (T.H (i + 1)).next := hfr.2
              rw [h3] at h5
              have h6 : b < (T.H i).next + 1 := h5
              omega
            rw [this]; exact h

/-- The end of a walk of code. -/
def EndW (X : Nat → Bool) (n : Nat) (H : AHeap) (Q : Exit → Env → AHeap → Prop) (e : Exit) (t' : Act) (H' : AHeap) : Prop := ∃ E', TE n t' E' ∧ KX X H H' ∧ Q e E' H'

theorem region_W (hm : P.follows .mixedOrders = true) {T : Tbl} {n id : Nat} {ops : Array Oper} {draw : Bool} {t : Act} {E : Env} {H : AHeap} {Q : Exit → Env → AHeap → Prop} (hc : codeW P T n (.region id ops draw) = true) (ht : TE n t E) (hi : Inv0 X H)
    (h : wC P X T (.region id ops draw) E H Q) : RC P (.region id ops draw) t H (EndW X n H Q) := by
  simp only [codeW, Bool.and_eq_true, Bool.or_eq_true] at hc
  obtain ⟨hops, hdr⟩ := hc
  cases draw with
  | false =>
    rw [wC] at h
    refine rc_region ?_
    have := wOps_sound (P := P) (X := X) hops ops.toList 0 t E H (Q .normal) rfl ht hi h
    rw [List.range_eq_range']
    have e : ops.toList.length = ops.size := by simp
    rw [e] at this
    exact this.mono fun e t' H' _ ⟨he, E', h1, h2, h3⟩ => by subst he; exact ⟨E', h1, h2, h3⟩
  | true =>
    rw [wC] at h
    have hdr2 : regionOk ops = true ∧ confOk P ops (tbl T id) = true := by simpa using hdr
    obtain ⟨T', acc', e1, e2, d, E', h1, h2, h3⟩ := wDraw_sound (P := P) (X := X) hops ops.toList 0 [] E (Q .normal) (PD.start ops t H hi.fine.wf) rfl (by simp) ⟨fun j hj => absurd hj (Nat.not_lt_zero j), fun j k _ hk => absurd hk (Nat.not_lt_zero k), fun j hj => absurd hj (Nat.not_lt_zero j)⟩ ht hi h
    have hreg := region_drawn T'.done hm (regionOk_spec hdr2.1) (free_draw d hdr2.2) id
    have h7 : T'.done.t 0 = t := e1
    have h8 : T'.done.H 0 = H := e2
    rw [h7, h8] at hreg
    have h9 : Stp All H (T'.H ops.size) := ⟨h2.nx, h2.fine.wf, fun b _ hn => absurd trivial hn⟩
    exact ⟨.normal, T'.t ops.size, T'.H ops.size, h9, hreg, E', h1, h2, h3⟩

theorem EndW.after {n : Nat} {H H1 : AHeap} {Q : Exit → Env → AHeap → Prop} {e : Exit} {t' : Act} {H' : AHeap} (h : KX X H H1) (h' : EndW X n H1 Q e t' H') : EndW X n H Q e t' H' := by
  obtain ⟨E', h1, h2, h3⟩ := h'
  exact ⟨E', h1, h.trans h2, h3⟩

theorem wC_sound (hm : P.follows .mixedOrders = true) {T : Tbl} {n : Nat} : ∀ (c : Code) (t : Act) (E : Env) (H : AHeap) (Q : Exit → Env → AHeap → Prop), codeW P T n c = true → TE n t E → Inv0 X H → wC P X T c E H Q → RC P c t H (EndW X n H Q) := by
  intro c
  induction c with
  | skip => intro t E H Q _ ht hi h; exact rc_skip hi.fine.wf ⟨E, ht, .refl hi, h⟩
  | label l => intro t E H Q _ ht hi h; exact rc_label hi.fine.wf ⟨E, ht, .refl hi, h⟩
  | exit id => intro t E H Q _ ht hi h; exact rc_exit hi.fine.wf ⟨E, ht, .refl hi, h⟩
  | ret => intro t E H Q _ ht hi h; exact rc_ret hi.fine.wf ⟨E, ht, .refl hi, h⟩
  | region id ops draw => intro t E H Q hc ht hi h; exact region_W hm hc ht hi h
  | seq a b iha ihb =>
    intro t E H Q hc ht hi h
    simp only [codeW, Bool.and_eq_true] at hc
    rw [wC] at h
    refine rc_seq ((iha t E H _ hc.1 ht hi h).mono fun e t' H' _ hf => ?_)
    obtain ⟨E', h1, h2, h3⟩ := hf
    cases e with
    | normal => exact (ihb t' E' H' Q hc.2 h1 h2.inv h3).mono fun e2 t2 H2 _ hf2 => hf2.after h2
    | _ => exact ⟨E', h1, h2, h3⟩
  | cond x a b iha ihb =>
    intro t E H Q hc ht hi h
    simp only [codeW, Bool.and_eq_true] at hc
    rw [wC] at h
    unfold cndV at h
    split at h
    · rename_i v hx
      rw [ht.ev] at hx
      refine rc_cond hx hc.1.1 ?_
      cases v
      · exact ihb t E H Q hc.2 ht hi h
      · exact iha t E H Q hc.1.2 ht hi h
    · exact h.elim
  | block id a iha =>
    intro t E H Q hc ht hi h
    rw [wC] at h
    refine rc_block ((iha t E H _ hc ht hi h).mono fun e t' H' _ hf => ?_)
    obtain ⟨E', h1, h2, h3⟩ := hf
    cases e with
    | exit i =>
      simp only [blkQ] at h3
      simp only
      split
      · rename_i he; rw [if_pos he] at h3; exact ⟨E', h1, h2, h3⟩
      · rename_i he; rw [if_neg he] at h3; exact ⟨E', h1, h2, h3⟩
    | _ => exact ⟨E', h1, h2, h3⟩
  | loop a iha =>
    intro t E H Q hc ht hi h
    rw [wC] at h
    obtain ⟨m, h⟩ := h
    refine rc_loop ?_
    induction m generalizing t E H with
    | zero => exact h.elim
    | succ m ih =>
      rw [itW] at h
      refine rl_more ((iha t E H _ hc ht hi h).mono fun e t' H' _ hf => ?_)
      obtain ⟨E', h1, h2, h3⟩ := hf
      cases e with
      | normal => exact (ih t' E' H' h1 h2.inv h3).mono fun e2 t2 H2 _ hf2 => hf2.after h2
      | _ => exact ⟨E', h1, h2, h3⟩
  | rangeFunc f ps x y => intro t E H Q hc; cases hc
  | scope b => intro t E H Q hc; cases hc
  | goto l => intro t E H Q hc; cases hc
  | refuse w => intro t E H Q hc; cases hc

theorem resA_run {n : Nat} {t : Act} {E : Env} {H : AHeap} (hw : H.wf) (ht : TE n t E) {σ : Sig} {w : World} {a : Act} (hr : Rel P σ All H.get w) (hta : TR σ t a) :
    ∀ {rs : List ResultVar} {l : List Value}, resA P rs E H = some l → ∃ l', VL σ l l' ∧ (rs.mapM (rvS a)).run P w = .ok l' w
  | [], l, hh => by cases hh; exact ⟨[], .nil σ, by simp⟩
  | r :: rs, l, hh => by
    have h2 := hh
    rw [resA] at h2
    clear hh
    split at h2
    · rename_i l0 hl0
      obtain ⟨l', hv, hrun⟩ := resA_run hw ht hr hta hl0
      split at h2
      · rename_i d
        cases h2
        refine ⟨a.tmps.getD d undef :: l', .cons ?_ hv, ?_⟩
        · rw [← ht.get]; exact hta.tm.at d
        · rw [List.mapM_cons]
          simp only [Sem.run_bind, rvS, Sem.run_pure, Result.andThen_ok, hrun]
      · rename_i d ty
        split at h2
        · rename_i v h3 hl
          cases h2
          have hvr : VR σ (E d) (a.tmps.getD d undef) := by rw [← ht.get]; exact hta.tm.at d
          unfold loadA at hl
          split at hl
          · rename_i b off ha
            rw [ha] at hvr
            obtain ⟨L, hL, had⟩ := hvr.ptr_inv
            split at hl
            · rename_i v0 hv0
              cases hl
              obtain ⟨v', hv', hrun2⟩ := see_run hv0 trivial hr hL
              refine ⟨v' :: l', .cons hv' hv, ?_⟩
              rw [List.mapM_cons]
              simp only [Sem.run_bind, rvS, had, asAddr, Sem.run_pure, Result.andThen_ok, hrun2, hrun]
            · cases hl
          · cases hl
        · cases h2
    · cases h2

theorem resT_ofA {n : Nat} {t : Act} {E : Env} {H : AHeap} {fn : Func} {l : List Value} (hw : H.wf) (ht : TE n t E) (hl : resA P fn.results.toList E H = some l) : ResT P fn t H (tupK l) := by
  intro σ w a hr hta
  obtain ⟨l', hv, hrun⟩ := resA_run hw ht hr hta hl
  have hm : (results fn a.tmps).run P w = .ok (if h : l'.toArray.size = 1 then l'.toArray[0] else .tuple l'.toArray) w := by
    have e : results fn a.tmps = (do let vs ← fn.results.mapM (rvS a); pure (if h : vs.size = 1 then vs[0] else .tuple vs)) := rfl
    rw [e, Sem.run_bind, Array.mapM_eq_mapM_toList, Sem.run_map, hrun]
    rfl
  refine ⟨_, hm, ?_⟩
  unfold tupK
  split
  · rename_i v
    obtain ⟨v', a', rfl, hv1, ha⟩ := hv.of_cons
    rw [ha.of_nil]
    exact hv1
  · rename_i hne
    have hlen := hv.1
    have : ¬ l'.toArray.size = 1 := by
      intro h1
      have h2 : l.length = 1 := by simpa [hlen] using h1
      obtain ⟨v, rfl⟩ := List.length_eq_one_iff.1 h2
      exact hne v rfl
    rw [dif_neg this]
    exact .tuple hv.toA.1 hv.toA.2

theorem start_TE {fn : Func} {args : Array Value} (hle : args.size ≤ fn.ntmps) : TE fn.ntmps (start fn args) (argsE args.toList) := by
  refine ⟨fun i => ?_, by simp [start]; omega, rfl⟩
  simp only [start, argsE]
  by_cases hi : i < args.size
  · simp [Array.getD, hi, Array.getElem_append, List.getD_eq_getElem?_getD, Nat.lt_add_right _ hi]
  · by_cases hi2 : i < args.size + (fn.ntmps - args.size)
    · simp [Array.getD, hi, hi2, Array.getElem_append]
    · simp [Array.getD, hi, hi2]

/-- A function whose code may be walked. -/
def okW (P : Program) (T : Tbl) (f : Nat) : Bool := match P.funcs[f]? with
  | some fn => (match fn.body with
    | some c => codeW P T fn.ntmps c
    | none => false)
  | none => false

/-- A call, by a walk of its code. -/
theorem fnW_of {f : FuncId} (T : Tbl) {fn : Func} {c : Code} {l : List Value} {H : AHeap} {K : Value → AHeap → Prop} (hm : P.follows .mixedOrders = true) (hf : P.funcs[f]? = some fn) (hb : fn.body = some c) (hc : codeW P T fn.ntmps c = true)
    (hl : l.length ≤ fn.ntmps) (h : Fine H → wC P H.fz T c (argsE l) H (finQ P fn.results.toList K)) : FnW P f l.toArray H K := by
  intro hfine
  have hi : Inv0 H.fz H := ⟨hfine, fun _ h => h⟩
  have hrc := wC_sound (T := T) hm c (start fn l.toArray) (argsE l) H _ hc (start_TE (by simpa using hl)) hi (h hfine)
  have hfn : FnR P f l.toArray H fun v H' => KX H.fz H H' ∧ K v H' := by
    refine fn_of hf hb (hrc.mono fun e t' H' _ hE => ?_)
    obtain ⟨E', h1, h2, h3⟩ := hE
    have hcase : ∀ {e : Exit}, finQ P fn.results.toList K e E' H' → (e = .normal ∨ e = .ret) ∧ resW P fn.results.toList E' H' K := fun {e} hq => by
      cases e with
      | normal => exact ⟨.inl rfl, hq⟩
      | ret => exact ⟨.inr rfl, hq⟩
      | _ => exact hq.elim
    obtain ⟨he, hw⟩ := hcase h3
    refine ⟨he, ?_⟩
    unfold resW at hw
    split at hw
    · rename_i vs hvs
      exact ⟨_, resT_ofA h2.fine.wf h1 hvs, h2, hw⟩
    · exact hw.elim
  obtain ⟨v, H', h1, h2, h3, h4⟩ := hfn
  exact ⟨v, H', h1, h2, h3, h4⟩
theorem okW_spec {T : Tbl} {f : FuncId} {fn : Func} (h : okW P T f = true) (hf : P.funcs[f]? = some fn) : ∃ c, fn.body = some c ∧ codeW P T fn.ntmps c = true := by
  unfold okW at h
  rw [hf] at h
  simp only at h
  split at h
  · rename_i c hc; exact ⟨c, hc, h⟩
  · cases h

/-- A call, by a walk of its code: the function's check told at once. -/
theorem fnW_ok {f : FuncId} {fn : Func} {l : List Value} {H : AHeap} {K : Value → AHeap → Prop} (T : Tbl) (hm : P.follows .mixedOrders = true) (hf : P.funcs[f]? = some fn) (hc : okW P T f = true) {m : Nat} (hl : l.length ≤ m) (hn : m ≤ fn.ntmps) {rs : List ResultVar} (hr : fn.results.toList = rs)
    (h : Fine H → wC P H.fz T (fn.body.getD .skip) (argsE l) H (finQ P rs K)) : FnW P f l.toArray H K := by
  obtain ⟨c, hb, hc⟩ := okW_spec hc hf
  rw [hb] at h
  exact fnW_of T hm hf hb hc (Nat.le_trans hl hn) (hr ▸ h)
end
end Go.Proofs.Ytgjpcliaggpcaaa.Ab
