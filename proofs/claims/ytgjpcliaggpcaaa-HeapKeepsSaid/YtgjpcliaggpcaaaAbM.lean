/- Every operation of the evaluator comes to what the model's comes to. -/
import Derived.Test.YtgjpcliaggpcaaaAbL
set_option linter.unusedVariables false
set_option linter.unusedSimpArgs false
namespace Go.Proofs.Ytgjpcliaggpcaaa.Ab
open Go Classical

section
variable {P : Program}

structure OpS (P : Program) (F : Nat → Prop) (o : Oper) (t : Act) (h : KH) (v : Value) (h' : KH) : Prop where
  stp : Stp F (absH h) (absH h')
  wr : WrOk h h'
  op : OpT P F o t (absH h) v (absH h')

theorem opT_of {F : Nat → Prop} {o : Oper} {t : Act} {H H' : AHeap} {v : Value} (h : ∀ (σ : Sig) (w : World) (a : Act), Rel P σ F H.get w → Fresh σ H H' → (∀ x ∈ o.op.operands, VR σ (t.eval x) (a.eval x)) →
    ∃ σ' v' w', Post P F σ H w σ' H' w' ∧ VR σ' v v' ∧ ((execOp a.eval o).run P w = .ok (.value v') w' ∨ ((execOp a.eval o).run P w = .ok .skip w' ∧ v' = undef))) : OpT P F o t H v H' := by
  intro σ w a K Q hr hf hx hk
  obtain ⟨σ', v', w', hp, hv, hrun⟩ := h σ w a hr hf hx
  unfold Oper.wp
  rcases hrun with hrun | ⟨hrun, rfl⟩
  · rw [hrun]; exact hk σ' v' w' hp hv
  · rw [hrun]; exact hk σ' undef w' hp hv

theorem opS_pure {F : Nat → Prop} {o : Oper} {t : Act} {h h' : KH} {v : Value} (he : h' = h)
    (hy : ∀ (σ : Sig) (a : Act), (∀ x ∈ o.op.operands, VR σ (t.eval x) (a.eval x)) → ∃ v', VR σ v v' ∧ ∀ w, (execOp a.eval o).run P w = .ok (.value v') w) : OpS P F o t h v h' := by
  subst he
  exact ⟨.refl (absH_wf _), .refl _, opT_of fun σ w a hr hf hx => let ⟨v', h1, h2⟩ := hy σ a hx; ⟨σ, v', w, .refl hr rfl, h1, .inl (h2 w)⟩⟩

theorem Yl.exec {σ : Sig} {v : Value} {s : Sem Value} {n : Sem Next} (hy : Yl P σ v s) (he : n = (do pure (.value (← s)))) : ∃ v', VR σ v v' ∧ ∀ w, n.run P w = .ok (.value v') w := by
  obtain ⟨v', h1, h2⟩ := hy
  exact ⟨v', h1, fun w => by rw [he]; simp [h2]⟩

/-- A block that is made. -/
theorem opS_new {F : Nat → Prop} {o : Oper} {t : Act} {h h' : KH} {v : Value} {cs : List Value} {elem : TypeId} {k : Nat → Value} (hh : newK cs elem false k h = .ok v h')
    (hk : ∀ (σ : Sig) l, σ h.nx = some l → l.base = 0 → l.room = 0 → ∀ v', VR σ (k h.nx) v' → True)
    (hrun : ∀ (σ : Sig) (w : World) (a : Act), (∀ x ∈ o.op.operands, VR σ (t.eval x) (a.eval x)) → ∃ cs' : Array Value, VL σ cs cs'.toList ∧
      ∃ v', (∀ σ' : Sig, σ' h.nx = some ⟨w.heap.size, 0, 0, false⟩ → VR σ' (k h.nx) v') ∧ (execOp a.eval o).run P w = .ok (.value v') (w.alloc (.cells cs' elem))) : OpS P F o t h v h' := by
  obtain ⟨rfl, hnx, hwr, hst, B, hBc, hBe, hBo, hget⟩ := newK_spec hh
  refine ⟨hst F, hwr, opT_of fun σ w a hr hf hx => ?_⟩
  obtain ⟨cs', hcs, v', hv', hr2⟩ := hrun σ w a hx
  refine ⟨_, v', _, new_post (room := 0) (B := B) (absH_wf h) hr hnx hget hf (cs := cs') ?_ (fun j hj => ?_) (fun _ => rfl) (by rw [hBe]; rfl), hv' _ (if_pos rfl), .inl hr2⟩
  · rw [hBc, hcs.1]; simp
  · rw [hBc] at hj ⊢
    have := hcs.at j
    simpa [Array.getD_eq_getD_getElem?, List.getD_eq_getElem?_getD] using this

theorem storeK_op {ty : TypeId} {ao xo : Operand} {o : Oper} {t : Act} {h h' : KH} {v : Value} {b off : Nat} (ho : o.op = .store ty ao xo) (ha : t.eval ao = .pointer (some ⟨b, off, none⟩))
    (hh : storeK P ty (t.eval ao) (t.eval xo) h = .ok v h') : OpS P (fun x => x = b) o t h v h' := by
  unfold storeK at hh
  rw [ha] at hh
  simp only at hh
  split at hh
  · rename_i n hn
    obtain ⟨hc, hh⟩ := bif_ok hh
    rw [beq_eq, decide_eq_true_eq, lLen_eq] at hc
    obtain ⟨rfl, hnx, hst, hwr, hrun⟩ := write_run (P := P) hh
    refine ⟨hst, hwr, opT_of fun σ w a hr hf hx => ?_⟩
    have h1 := hx ao (by rw [ho]; simp [Op.operands])
    have h2 := hx xo (by rw [ho]; simp [Op.operands])
    rw [ha] at h1
    obtain ⟨L, hL, he⟩ := h1.ptr_inv
    obtain ⟨w', hw', hp⟩ := hrun σ w (fun x => x = b) rfl hr L hL _ h2.cells
    refine ⟨σ, undef, w', hp, .undef σ, .inr ⟨?_, rfl⟩⟩
    have hsz : (a.eval xo).cells.size = n := by have := h2.cells.1; simp at this hc; omega
    unfold execOp
    rw [ho]
    simp only [he, Instr.storeAt, Instr.sureAddr, storeVar, Sem.run_bind, Sem.run_pure, Result.andThen_ok, sizeK_run hn, hsz, ne_eq, not_true_eq_false, if_false, hw']
  · cases hh

theorem loadK_op {ty : TypeId} {ao : Operand} {o : Oper} {t : Act} {h h' : KH} {v : Value} {b off : Nat} (ho : o.op = .load ty ao) (ha : t.eval ao = .pointer (some ⟨b, off, none⟩))
    (hh : loadK P ty (t.eval ao) h = .ok v h') : OpS P (fun x => x = b) o t h v h' := by
  obtain ⟨rfl, hrun⟩ := loadK_run (P := P) hh
  refine ⟨.refl (absH_wf _), .refl _, opT_of fun σ w a hr hf hx => ?_⟩
  have h1 := hx ao (by rw [ho]; simp [Op.operands])
  have hF : ∀ x, ptrF (t.eval ao) x → x = b := fun x hx => by rw [ha] at hx; exact hx
  obtain ⟨v', hv, hl⟩ := hrun σ w (a.eval ao) (hr.sub hF) h1
  rw [ha] at h1
  obtain ⟨L, hL, he⟩ := h1.ptr_inv
  refine ⟨σ, v', w, .refl hr rfl, hv, .inl ?_⟩
  unfold execOp
  rw [ho]
  simp only [he, Instr.loadAt, Instr.sureAddr, Sem.run_bind, Sem.run_pure, Result.andThen_ok, hl _ he]

theorem bytesK_cons (x : Value) (l : List Value) : bytesK (x :: l) = match x, bytesK l with
    | .int .u8 n, some l => some (n :: l)
    | _, _ => none := rfl
theorem bytesK_spec {σ : Sig} : ∀ {l : List Value} {ns : List Int} {l' : List Value}, bytesK l = some ns → VL σ l l' → l' = ns.map (Value.int .u8)
  | [], ns, l', h, hv => by cases h; exact hv.of_nil
  | x :: l, ns, l', h, hv => by
    obtain ⟨x', a', rfl, hx, ha⟩ := hv.of_cons
    have h2 := h
    rw [bytesK_cons] at h2
    clear h hv
    split at h2
    · rename_i n l0 hl0
      cases h2
      rw [hx.int, bytesK_spec hl0 ha]; rfl
    · cases h2

theorem bytes_fold : ∀ (ns : List Int) (s : ByteArray), ns.foldl (fun r n => r.push (UInt8.ofNat n.toNat)) s = ⟨s.data ++ (List.rec (motive := fun _ => List UInt8) [] (fun n _ r => UInt8.ofNat n.toNat :: r) ns : List UInt8).toArray⟩
  | [], s => by
    apply ByteArray.ext
    simp
  | n :: ns, s => by
    rw [List.foldl_cons, bytes_fold ns]
    apply ByteArray.ext
    apply Array.ext'
    simp [ByteArray.push]

theorem toStringK_run {x v : Value} {h h' : KH} (hh : toStringK x h = .ok v h') : h' = h ∧ ∀ (σ : Sig) (w : World) x', Rel P σ All (absH h).get w → VR σ x x' → ∃ v', VR σ v v' ∧ (Conv.bytesToString x').run P w = .ok v' w := by
  unfold toStringK at hh
  split at hh
  · rename_i n l hsrc
    obtain ⟨hnl, ⟨xa, xc, rfl⟩, hsrun⟩ := srcK_run (P := P) hsrc
    split at hh
    · rename_i ns hns
      cases hh
      refine ⟨rfl, fun σ w x' hr hx => ?_⟩
      obtain ⟨l', hl', hfc⟩ := hsrun σ w All (fun _ _ _ => trivial) hr x' hx
      have he := bytesK_spec hns hl'
      have hf := hfc w rfl
      refine ⟨_, .same rfl, ?_⟩
      obtain ⟨a', c', rfl, _⟩ := hx.slice_any
      cases a' with
      | none =>
        simp only [Builtin.firstCells, Sem.run_pure, Result.ok.injEq, and_true] at hf
        have : l' = [] := by simpa using hf.symm
        rw [this] at he
        have : ns = [] := by cases ns with
          | nil => rfl
          | cons a b => simp at he
        subst this
        simp only [Conv.bytesToString, Sem.run_pure]
        rfl
      | some a =>
        simp only [Builtin.firstCells, Nat.mul_one] at hf
        rw [he] at hf
        rw [run_bytesToString w a n c' ns hf, bytes_fold]
        congr 2
        apply ByteArray.ext
        simp
    · cases hh
  · cases hh
end
end Go.Proofs.Ytgjpcliaggpcaaa.Ab
