/- What the evaluator comes to, the model comes to: regions in the text's order. -/
import Derived.Test.YtgjpcliaggpcaaaAbQ
set_option linter.unusedVariables false
set_option linter.unusedSimpArgs false
namespace Go.Proofs.Ytgjpcliaggpcaaa.Ab
open Go Classical

section
variable {P : Program}

def KO.isCall : KO → Bool
  | .call _ _ => true
  | _ => false

theorem newK_nc (cs : List Value) (e : TypeId) (o : Bool) (k : Nat → Value) (h : KH) : (newK cs e o k h).isCall = false := by
  unfold newK
  simp only [frc_eq, Tr.now_eq, cond_eq_ite]
  split <;> rfl
theorem writeK_nc (b o : Nat) (vs : List Value) (v : Value) (h : KH) : (writeK b o vs v h).isCall = false := by
  unfold writeK
  simp only [frc_eq, Tr.now_eq, cond_eq_ite]
  (repeat' split) <;> rfl
theorem growK_nc (e : TypeId) (size sl n b : Nat) (B : KB) (new : List Value) (h : KH) : (growK e size sl n b B new h).isCall = false := by
  unfold growK
  simp only [frc_eq, Tr.now_eq, cond_eq_ite]
  (repeat' split) <;> rfl
theorem loadK_nc (t : TypeId) (v : Value) (h : KH) : (loadK P t v h).isCall = false := by
  unfold loadK
  simp only [cond_eq_ite]
  (repeat' split) <;> rfl
theorem storeK_nc (t : TypeId) (a v : Value) (h : KH) : (storeK P t a v h).isCall = false := by
  unfold storeK
  simp only [cond_eq_ite]
  (repeat' split) <;> first | rfl | exact writeK_nc ..
theorem appendK_nc (t : TypeId) (s x : Value) (h : KH) : (appendK P t s x h).isCall = false := by
  unfold appendK
  simp only [cond_eq_ite]
  (repeat' split) <;> first | rfl | exact writeK_nc .. | exact growK_nc .. | exact newK_nc ..
theorem copyK_nc (t : TypeId) (d x : Value) (h : KH) : (copyK P t d x h).isCall = false := by
  unfold copyK
  simp only [frc_eq, cond_eq_ite]
  (repeat' split) <;> first | rfl | exact writeK_nc ..
theorem lenK_nc (t : TypeId) (x : Value) (h : KH) : (lenK P t x h).isCall = false := by
  unfold lenK
  (repeat' split) <;> rfl
theorem minK_nc (m : Bool) (x y : Value) (h : KH) : (minK m x y h).isCall = false := by
  unfold minK
  simp only [cond_eq_ite]
  (repeat' split) <;> rfl
theorem bndK_nc {x : Option Value} {d : Nat} {k : Nat → KO} (hk : ∀ n, (k n).isCall = false) : (bndK x d k).isCall = false := by
  unfold bndK
  (repeat' split) <;> first | rfl | exact hk _

theorem call_of {ev : Operand → Value} {op : Op} {h : KH} {f : FuncId} {args : Array Value} (hh : opK P ev op h = .call f args) : ∃ c fv, op = .call c ∧ c.callee = .value fv ∧ callK P (ev fv) (evs ev c.args.toList).toArray = .call f args := by
  have key : (opK P ev op h).isCall = true := by rw [hh]; rfl
  cases op <;> simp only [opK] at hh key <;> try (cases key; done)
  case pick => unfold pickK at key; (repeat' split at key) <;> cases key
  case alloc =>
    unfold allocO at key
    split at key
    · rw [newK_nc] at key; cases key
    · cases key
  case box => rw [newK_nc] at key; cases key
  case build => unfold buildK at key; (repeat' split at key) <;> cases key
  case buildSlice =>
    unfold buildSliceK at key
    simp only [cond_eq_ite] at key
    (repeat' split at key) <;> first | (cases key; done) | (rw [newK_nc] at key; cases key)
  case load => rw [loadK_nc] at key; cases key
  case store => rw [storeK_nc] at key; cases key
  case nilCheck => unfold nilK at key; (repeat' split at key) <;> cases key
  case binOp => unfold binO at key; (repeat' split at key) <;> cases key
  case unOp => unfold unK at key; (repeat' split at key) <;> cases key
  case convert =>
    unfold convK toStringK at key
    (repeat' split at key) <;> cases key
  case makeSlice =>
    unfold makeSliceK at key
    simp only [cond_eq_ite] at key
    (repeat' split at key) <;> first | (cases key; done) | (rw [newK_nc] at key; cases key)
  case slice =>
    unfold sliceK at key
    simp only [bndK, cond_eq_ite] at key
    (repeat' split at key) <;> cases key
  case fieldAddr =>
    unfold fieldAddrK at key
    simp only [cond_eq_ite] at key
    (repeat' split at key) <;> cases key
  case field => unfold fieldK at key; (repeat' split at key) <;> cases key
  case indexAddr =>
    unfold indexAddrK at key
    simp only [cond_eq_ite] at key
    (repeat' split at key) <;> cases key
  case index =>
    unfold indexK at key
    simp only [cond_eq_ite] at key
    (repeat' split at key) <;> cases key
  case extract => unfold extractO at key; (repeat' split at key) <;> cases key
  case call c =>
    cases hc : c.callee with
    | value fv => simp only [callO, hc] at hh; exact ⟨c, fv, rfl, hc, hh⟩
    | invoke r m => simp only [callO, hc] at hh; cases hh
    | builtin b =>
      simp only [callO, hc] at key
      unfold biK at key
      (repeat' split at key) <;> first | (cases key; done) | (rw [lenK_nc] at key; cases key) | (rw [appendK_nc] at key; cases key) | (rw [minK_nc] at key; cases key) | (rw [copyK_nc] at key; cases key)

theorem call_op {o : Oper} {t : Act} {h : KH} {f : FuncId} {args : Array Value} {H H' : AHeap} {v : Value} (hh : opK P t.eval o.op h = .call f args) (hfn : FnT P f args H v H') : OpT P All o t H v H' := by
  obtain ⟨c, fv, ho, hc, hk⟩ := call_of hh
  unfold callK at hk
  split at hk
  · rename_i g first cap hfv
    split at hk
    · rename_i fn hg
      simp only [cond_eq_ite] at hk
      split at hk
      · cases hk
      · rename_i hno
        cases hk
        intro σ w a K Q hr hf hx hcont
        have h1 := hx fv (by rw [ho]; simp [Op.operands, Call.operands, hc])
        rw [hfv] at h1
        obtain ⟨first', cap', he, hf1, hc1⟩ := h1.func_inv
        have hargs := evs_VL (σ := σ) (ρ := t.eval) (ρ' := a.eval) (l := c.args.toList) fun x hx1 => hx x (by rw [ho]; simp [Op.operands, Call.operands, hc]; exact .inr (by simpa using hx1))
        have hall := ((hf1.toL.append hargs).append hc1.toL).toA
        have harr : ((first'.toList ++ c.args.toList.map a.eval) ++ cap'.toList).toArray = first' ++ c.args.map a.eval ++ cap' := by apply Array.ext'; simp
        rw [harr] at hall
        rw [Bool.or_eq_true, not_or] at hno
        have hname : ¬ (fn.name = "runtime.NumGoroutine") := by simpa using hno.1
        have hname2 : (fn.name == "runtime.NumGoroutine") = false := by simpa using hname
        have hbody : fn.body.isNone = false := Bool.eq_false_iff.2 hno.2
        unfold Oper.wp execOp
        rw [ho]
        simp only [resolve, hc, Deferred.ofValue, he, Sem.run_bind, Sem.run_pure, Result.andThen_ok, invoke, callFunc, run_program, hg, hname2, hbody, Bool.false_eq_true, if_false, Oper.upon]
        refine Calls.mono (hfn σ w _ hr hf hall) ?_
        rintro e w' ⟨σ', v', rfl, hp, hv⟩
        exact hcont σ' v' w' hp hv
    · cases hk
  · cases hk

theorem opsK_cons {rec : Nat → Code → Tr Value → KH → Lg → CR} {ov : Ov} {ops : Array Oper} (o : Oper) (l : List Oper) (tm : Tr Value) (h : KH) (g : Lg) :
    opsK P rec ov ops (o :: l) tm h g = if wantK ops tm o.guard = true then (match opK P (evK tm) o.op h with
      | .ok v h => opsK P rec ov ops l (putK tm o.dst v) h g
      | .call f args => fnK P rec ov f args h g fun v h g => opsK P rec ov ops l (putK tm o.dst v) h g
      | .no => .no 7) else opsK P rec ov ops l (putK tm o.dst undef) h g := by
  show Bool.rec (motive := fun _ => CR) ((putK tm o.dst undef).now fun tm => opsK P rec ov ops l tm h g) (match opK P (evK tm) o.op h with
      | .ok v h => (putK tm o.dst v).now fun tm => opsK P rec ov ops l tm h g
      | .call f args => fnK P rec ov f args h g fun v h g => (putK tm o.dst v).now fun tm => opsK P rec ov ops l tm h g
      | .no => .no 7) (wantK ops tm o.guard) = _
  simp only [Tr.now_eq]
  cases wantK ops tm o.guard <;> simp

theorem opsK_sound {rec : Nat → Code → Tr Value → KH → Lg → CR} (hrec : RecS P rec) {ov : Ov} (hmay : MayOk P ov.may) (hnt : NtOk P ov.nt) {ops : Array Oper} : ∀ (l : List Oper) (i : Nat) (tm : Tr Value) (h : KH) (g : Lg), ops.toList.drop i = l →
    Ok (opsK P rec ov ops l tm h g) → (∀ x ∈ g, x ∈ lgOf (opsK P rec ov ops l tm h g)) ∧ (Told P (lgOf (opsK P rec ov ops l tm h g)) → ∀ n t, opersOk n ops = true → n < 1073741824 → TK n t tm →
      RO P ops (List.range' i l.length) t (absH h) (Fin n h (opsK P rec ov ops l tm h g)))
  | [], i, tm, h, g, _, _ => ⟨fun x hx => hx, fun _ n t _ _ ht => ro_nil (absH_wf _) ⟨tm, h, g, rfl, ht, .refl _, Nat.le_refl _, rfl⟩⟩
  | o :: l, i, tm, h, g, hd, hok => by
    have hi : ops[i]? = some o := by
      have := List.getElem?_drop (xs := ops.toList) (i := i) (j := 0)
      rw [hd] at this
      simpa using this.symm
    have hd' : ops.toList.drop (i + 1) = l := by
      rw [← List.drop_drop, hd]; rfl
    rw [opsK_cons] at hok ⊢
    rw [List.length_cons, List.range'_succ]
    by_cases hw : wantK ops tm o.guard = true
    · rw [if_pos hw] at hok ⊢
      cases hop : opK P (evK tm) o.op h with
      | no => rw [hop] at hok; exact (ok_no hok).elim
      | ok v h1 =>
        simp only [hop] at hok ⊢
        obtain ⟨hsub, hcode⟩ := opsK_sound hrec hmay hnt l (i + 1) _ h1 g hd' hok
        refine ⟨hsub, fun htold n t hops hn ht => ?_⟩
        obtain ⟨ho1, ho2⟩ := opersOk_spec hops hi
        rw [ht.ev] at hop
        have hs := opK_sound (P := P) ho1 hop
        refine ro_cons hi hs.stp.all ho1 ?_ ((hcode htold n _ hops hn (ht.put hn ho2 v)).mono fun e t' H' _ hf => hf.after hs.wr hs.stp.next)
        unfold OpAt
        rw [← wantK_eq ht, if_pos hw]
        exact OpT.wide (absH_wf _) hs.stp (fun _ _ => trivial) hs.op
      | call f args =>
        simp only [hop] at hok ⊢
        have hk : ∀ v h1 g1, Ok (opsK P rec ov ops l (putK tm o.dst v) h1 g1) → ∀ x ∈ g1, x ∈ lgOf (opsK P rec ov ops l (putK tm o.dst v) h1 g1) := fun v h1 g1 hok1 => (opsK_sound hrec hmay hnt l (i + 1) _ h1 g1 hd' hok1).1
        obtain ⟨hsub, hfn⟩ := fnK_sound hrec hmay hnt hk hok
        refine ⟨hsub, fun htold n t hops hn ht => ?_⟩
        obtain ⟨v, H1, hst, hft, h1, g1, rfl, hwr, hnx, hres⟩ := hfn htold
        rw [hres] at hok htold ⊢
        obtain ⟨_, hcode⟩ := opsK_sound hrec hmay hnt l (i + 1) _ h1 g1 hd' hok
        obtain ⟨ho1, ho2⟩ := opersOk_spec hops hi
        rw [ht.ev] at hop
        refine ro_cons hi hst ho1 ?_ ((hcode htold n _ hops hn (ht.put hn ho2 v)).mono fun e t' H' _ hf => hf.after hwr hnx)
        unfold OpAt
        rw [← wantK_eq ht, if_pos hw]
        exact call_op hop hft
    · rw [if_neg hw] at hok ⊢
      obtain ⟨hsub, hcode⟩ := opsK_sound hrec hmay hnt l (i + 1) _ h g hd' hok
      refine ⟨hsub, fun htold n t hops hn ht => ?_⟩
      obtain ⟨ho1, ho2⟩ := opersOk_spec hops hi
      refine ro_cons hi (.refl (absH_wf _)) ho1 ?_ (hcode htold n _ hops hn (ht.put hn ho2 undef))
      unfold OpAt
      rw [← wantK_eq ht, if_neg hw]
      exact ⟨rfl, rfl⟩
end
end Go.Proofs.Ytgjpcliaggpcaaa.Ab
