/- Code and functions over the abstract heap. -/
import Derived.Test.YtgjpcliaggpcaaaAbC
set_option linter.unusedVariables false
set_option linter.unusedSimpArgs false
namespace Go.Proofs.Ytgjpcliaggpcaaa.Ab
open Go Classical

section
variable {P : Program}

/-- A piece of code, run or looped ('run' says which): from one state to another. -/
def CT (P : Program) (run : (Exit → Act → World → Prop) → Act → World → Prop) (t : Act) (H : AHeap) (e : Exit) (t' : Act) (H' : AHeap) : Prop :=
  ∀ (σ : Sig) (w : World) (a : Act) (Q : Exit → Act → World → Prop), Rel P σ All H.get w → Fresh σ H H' → TR σ t a →
    (∀ σ' a' w', Post P All σ H w σ' H' w' → TR σ' t' a' → Q e a' w') → run Q a w

/-- From a state a piece of code comes to one of Ψ. -/
def Reach (P : Program) (run : (Exit → Act → World → Prop) → Act → World → Prop) (t : Act) (H : AHeap) (Ψ : Exit → Act → AHeap → Prop) : Prop :=
  ∃ e t' H', Stp All H H' ∧ CT P run t H e t' H' ∧ Ψ e t' H'

abbrev RC (P : Program) (c : Code) := Reach P fun Q a w => c.wp P Q a w

def LoopAt (P : Program) (c : Code) (Q : Exit → Act → World → Prop) (a : Act) (w : World) : Prop :=
  ∀ (b : Frame) (k : List Item) (cs : List Frame), ∃ e a' w', Q e a' w' ∧ Arrives P (lone (b.at a (.code c :: .inLoop c :: k)) cs w) b k cs e a' w'

theorem wp_loop_at {c : Code} {Q : Exit → Act → World → Prop} {a : Act} {w : World} (h : LoopAt P c Q a w) : (Code.loop c).wp P Q a w :=
  fun b k cs => let ⟨e, a', w', hq, harr⟩ := h b k cs; ⟨e, a', w', hq, .of_steps (.one step_loop) harr⟩

theorem loopAt_more {c : Code} {Q : Exit → Act → World → Prop} {a : Act} {w : World} (h : c.wp P (Exit.then (LoopAt P c Q) Q) a w) : LoopAt P c Q a w := by
  intro b k cs
  obtain ⟨e, a₁, w₁, hq, harr⟩ := h b (.inLoop c :: k) cs
  cases e with
  | normal =>
    obtain ⟨e₂, a₂, w₂, hq₂, harr₂⟩ := hq b k cs
    exact ⟨e₂, a₂, w₂, hq₂, .of_steps (Steps.trans harr (.one step_inLoop)) harr₂⟩
  | exit id => exact ⟨_, a₁, w₁, hq, .pass (x := .inLoop c) rfl (fun _ _ => .inl (by simp)) harr⟩
  | goto l => exact ⟨_, a₁, w₁, hq, .pass (x := .inLoop c) rfl (fun _ _ => .inl (by simp)) harr⟩
  | ret => exact ⟨_, a₁, w₁, hq, .pass (x := .inLoop c) rfl (fun _ _ => .inl (by simp)) harr⟩
  | panic ch => exact ⟨_, a₁, w₁, hq, .pass (x := .inLoop c) rfl (fun _ _ => .inl (by simp)) harr⟩
  | outgrown => exact ⟨_, a₁, w₁, hq, .pass (x := .inLoop c) rfl (fun _ _ => .inl (by simp)) harr⟩

abbrev RL (P : Program) (c : Code) := Reach P (LoopAt P c)

theorem Stp.refl {F : Nat → Prop} {H : AHeap} (h : H.wf) : Stp F H H := ⟨Nat.le_refl _, h, fun _ _ _ => rfl⟩
theorem Stp.trans {H H1 H2 : AHeap} (h : Stp All H H1) (h' : Stp All H1 H2) : Stp All H H2 := ⟨Nat.le_trans h.next h'.next, h'.wf, fun _ _ hn => absurd trivial hn⟩
theorem Stp.all {F : Nat → Prop} {H H' : AHeap} (h : Stp F H H') : Stp All H H' := ⟨h.next, h.wf, fun _ _ hn => absurd trivial hn⟩

theorem Reach.mono {run : (Exit → Act → World → Prop) → Act → World → Prop} {t : Act} {H : AHeap} {Ψ Ψ' : Exit → Act → AHeap → Prop}
    (h : Reach P run t H Ψ) (hm : ∀ e t' H', Stp All H H' → Ψ e t' H' → Ψ' e t' H') : Reach P run t H Ψ' := by
  obtain ⟨e, t', H', h1, h2, h3⟩ := h
  exact ⟨e, t', H', h1, h2, hm _ _ _ h1 h3⟩

theorem Reach.now {run : (Exit → Act → World → Prop) → Act → World → Prop} {t : Act} {H : AHeap} {e : Exit} {Ψ : Exit → Act → AHeap → Prop} (hw : H.wf)
    (hr : ∀ Q a w, Q e a w → run Q a w) (h : Ψ e t H) : Reach P run t H Ψ :=
  ⟨e, t, H, .refl hw, fun σ w a Q hr' hf ht hq => hr Q a w (hq σ a w (.refl hr' rfl) ht), h⟩

theorem rc_skip {t : Act} {H : AHeap} {Ψ : Exit → Act → AHeap → Prop} (hw : H.wf) (h : Ψ .normal t H) : RC P .skip t H Ψ := .now hw (fun _ _ _ => wp_skip) h
theorem rc_label {l : Nat} {t : Act} {H : AHeap} {Ψ : Exit → Act → AHeap → Prop} (hw : H.wf) (h : Ψ .normal t H) : RC P (.label l) t H Ψ := .now hw (fun _ _ _ => wp_label) h
theorem rc_exit {id : Nat} {t : Act} {H : AHeap} {Ψ : Exit → Act → AHeap → Prop} (hw : H.wf) (h : Ψ (.exit id) t H) : RC P (.exit id) t H Ψ := .now hw (fun _ _ _ => wp_exit) h
theorem rc_ret {t : Act} {H : AHeap} {Ψ : Exit → Act → AHeap → Prop} (hw : H.wf) (h : Ψ .ret t H) : RC P .ret t H Ψ := .now hw (fun _ _ _ => wp_ret) h

/-- Two pieces in a row, whatever they are. -/
theorem Reach.andThen {run run1 run2 : (Exit → Act → World → Prop) → Act → World → Prop} {t : Act} {H : AHeap} {Ψ : Exit → Act → AHeap → Prop}
    (hrun : ∀ Q a w, run1 (Exit.then (run2 Q) Q) a w → run Q a w)
    (h : Reach P run1 t H (fun e t' H' => match e with | .normal => Reach P run2 t' H' Ψ | e => Ψ e t' H')) : Reach P run t H Ψ := by
  obtain ⟨e, t1, H1, s1, c1, h1⟩ := h
  by_cases he : e = .normal
  · subst he
    obtain ⟨e2, t2, H2, s2, c2, h2⟩ := h1
    refine ⟨e2, t2, H2, s1.trans s2, fun σ w a Q hr hf ht hq => hrun Q a w (c1 σ w a _ hr (hf.left s2.next) ht ?_), h2⟩
    intro σ1 a1 w1 p1 ht1
    refine c2 σ1 w1 a1 Q (p1.rel.sub fun _ _ => .inl trivial) (hf.right s1.next p1) ht1 ?_
    intro σ2 a2 w2 p2 ht2
    exact hq σ2 a2 w2 (p1.trans s1.next s2.next p2) ht2
  · have h1' : Ψ e t1 H1 := by cases e <;> first | exact absurd rfl he | exact h1
    refine ⟨e, t1, H1, s1, fun σ w a Q hr hf ht hq => hrun Q a w (c1 σ w a _ hr hf ht ?_), h1'⟩
    intro σ1 a1 w1 p1 ht1
    have := hq σ1 a1 w1 p1 ht1
    cases e <;> first | exact absurd rfl he | exact this

theorem rc_seq {x y : Code} {t : Act} {H : AHeap} {Ψ : Exit → Act → AHeap → Prop}
    (h : RC P x t H (fun e t' H' => match e with | .normal => RC P y t' H' Ψ | e => Ψ e t' H')) : RC P (.seq x y) t H Ψ :=
  .andThen (fun _ _ _ h => wp_seq h) h

theorem rl_more {c : Code} {t : Act} {H : AHeap} {Ψ : Exit → Act → AHeap → Prop}
    (h : RC P c t H (fun e t' H' => match e with | .normal => RL P c t' H' Ψ | e => Ψ e t' H')) : RL P c t H Ψ :=
  .andThen (fun _ _ _ h => loopAt_more h) h

theorem rc_loop {c : Code} {t : Act} {H : AHeap} {Ψ : Exit → Act → AHeap → Prop} (h : RL P c t H Ψ) : RC P (.loop c) t H Ψ := by
  obtain ⟨e, t1, H1, s1, c1, h1⟩ := h
  exact ⟨e, t1, H1, s1, fun σ w a Q hr hf ht hq => wp_loop_at (c1 σ w a Q hr hf ht hq), h1⟩

theorem rc_block {id : Nat} {c : Code} {t : Act} {H : AHeap} {Ψ : Exit → Act → AHeap → Prop}
    (h : RC P c t H (fun e t' H' => match e with | .exit i => if i = id then Ψ .normal t' H' else Ψ (.exit i) t' H' | e => Ψ e t' H')) : RC P (.block id c) t H Ψ := by
  obtain ⟨e, t1, H1, s1, c1, h1⟩ := h
  by_cases he : e = .exit id
  · subst he
    simp only [if_true] at h1
    exact ⟨.normal, t1, H1, s1, fun σ w a Q hr hf ht hq => wp_block (c1 σ w a _ hr hf ht fun σ' a' w' p ht' => by
      simp only [Exit.inBlock, if_true]; exact hq σ' a' w' p ht'), h1⟩
  · have h1' : Ψ e t1 H1 := by
      cases e with
      | exit i =>
        have hne : i ≠ id := fun h => he (h ▸ rfl)
        simp only [hne, if_false] at h1; exact h1
      | _ => exact h1
    refine ⟨e, t1, H1, s1, fun σ w a Q hr hf ht hq => wp_block (c1 σ w a _ hr hf ht fun σ' a' w' p ht' => ?_), h1'⟩
    have := hq σ' a' w' p ht'
    cases e with
    | exit i =>
      have hne : i ≠ id := fun h => he (h ▸ rfl)
      simp only [Exit.inBlock, hne, if_false]; exact this
    | _ => exact this

theorem VR.bool {σ : Sig} {b : Bool} {v : Value} (h : VR σ (.bool b) v) : v = .bool b := by cases h; rfl
theorem VR.int {σ : Sig} {k : IntKind} {n : Int} {v : Value} (h : VR σ (.int k n) v) : v = .int k n := by cases h; rfl
theorem VR.string {σ : Sig} {s : ByteArray} {v : Value} (h : VR σ (.string s) v) : v = .string s := by cases h; rfl

theorem rc_cond {c : Operand} {x y : Code} {t : Act} {H : AHeap} {b : Bool} {Ψ : Exit → Act → AHeap → Prop} (hc : t.eval c = .bool b)
    (ho : okOperand c = true) (h : RC P (if b then x else y) t H Ψ) : RC P (.cond c x y) t H Ψ := by
  obtain ⟨e, t1, H1, s1, c1, h1⟩ := h
  refine ⟨e, t1, H1, s1, fun σ w a Q hr hf ht hq => wp_cond (t := b) ?_ (c1 σ w a Q hr hf ht hq), h1⟩
  have := ht.ev ho
  rw [hc] at this
  exact this.bool

/-- A region whose order is the text's: what is left of it. -/
abbrev RO (P : Program) (ops : Array Oper) (l : List Nat) := Reach P fun Q a w => wpOps P ops Q l a w

theorem ro_nil {ops : Array Oper} {t : Act} {H : AHeap} {Ψ : Exit → Act → AHeap → Prop} (hw : H.wf) (h : Ψ .normal t H) : RO P ops [] t H Ψ :=
  .now hw (fun _ _ _ h => h) h

theorem rc_region {id : Nat} {ops : Array Oper} {t : Act} {H : AHeap} {Ψ : Exit → Act → AHeap → Prop} (h : RO P ops (List.range ops.size) t H Ψ) :
    RC P (.region id ops false) t H Ψ := by
  obtain ⟨e, t1, H1, s1, c1, h1⟩ := h
  exact ⟨e, t1, H1, s1, fun σ w a Q hr hf ht hq => wp_region (c1 σ w a Q hr hf ht hq), h1⟩

theorem wanted_TR {σ : Sig} {t a : Act} {o : Oper} {ops : Array Oper} (h : TR σ t a) : Region.wanted o (yielded ops t.tmps) = Region.wanted o (yielded ops a.tmps) :=
  wanted_VR h.tm.1 fun d _ => h.tm.at d

theorem ro_cons {ops : Array Oper} {i : Nat} {o : Oper} {rest : List Nat} {t : Act} {H : AHeap} {v : Value} {H' : AHeap} {Ψ : Exit → Act → AHeap → Prop}
    (ho : ops[i]? = some o) (hs : Stp All H H') (hok : o.op.operands.all okOperand = true) (h : OpAt P ops All o t H v H') (hn : RO P ops rest (t.put o.dst v) H' Ψ) :
    RO P ops (i :: rest) t H Ψ := by
  obtain ⟨e, t1, H1, s1, c1, h1⟩ := hn
  refine ⟨e, t1, H1, hs.trans s1, fun σ w a Q hr hf ht hq => ?_, h1⟩
  simp only [wpOps, ho]
  have hw := wanted_TR (o := o) (ops := ops) ht
  rw [← hw]
  unfold OpAt at h
  have cont : ∀ σ' v' w', Post P All σ H w σ' H' w' → VR σ' v v' → wpOps P ops Q rest (a.put o.dst v') w' := fun σ' v' w' p hv =>
    c1 σ' w' _ Q (p.rel.sub fun _ _ => .inl trivial) (hf.right hs.next p) ((ht.mono (p.up (hf.left s1.next))).put hv _)
      (fun σ2 a2 w2 p2 ht2 => hq σ2 a2 w2 (p.trans hs.next s1.next p2) ht2)
  by_cases hwt : Region.wanted o (yielded ops t.tmps) = true
  · rw [if_pos hwt] at h ⊢
    refine .inl (h σ w a _ Q hr (hf.left s1.next) (fun x hx => ht.ev (Array.all_eq_true_iff_forall_mem.1 hok x hx)) cont)
  · rw [if_neg hwt] at h ⊢
    refine cont σ undef w ?_ (h.1 ▸ VR.undef σ)
    rw [h.2]
    exact Post.refl hr rfl

/-- A function's call. -/
def FnT (P : Program) (f : FuncId) (args : Array Value) (H : AHeap) (v : Value) (H' : AHeap) : Prop :=
  ∀ (σ : Sig) (w : World) (args' : Array Value), Rel P σ All H.get w → Fresh σ H H' → VRs σ args args' →
    Calls P f args' w fun e w' => ∃ σ' v', e = .returned v' ∧ Post P All σ H w σ' H' w' ∧ VR σ' v v'

def FnR (P : Program) (f : FuncId) (args : Array Value) (H : AHeap) (Φ : Value → AHeap → Prop) : Prop :=
  ∃ v H', Stp All H H' ∧ FnT P f args H v H' ∧ Φ v H'

theorem FnR.mono {f : FuncId} {args : Array Value} {H : AHeap} {Φ Φ' : Value → AHeap → Prop} (h : FnR P f args H Φ) (hm : ∀ v H', Stp All H H' → Φ v H' → Φ' v H') : FnR P f args H Φ' := by
  obtain ⟨v, H', h1, h2, h3⟩ := h
  exact ⟨v, H', h1, h2, hm _ _ h1 h3⟩

/-- What a function answers, out of its last state. -/
def ResT (P : Program) (fn : Func) (t : Act) (H : AHeap) (v : Value) : Prop :=
  ∀ σ w a, Rel P σ All H.get w → TR σ t a → ∃ v', (results fn a.tmps).run P w = .ok v' w ∧ VR σ v v'

def start (fn : Func) (args : Array Value) : Act := { tmps := args ++ Array.replicate (fn.ntmps - args.size) undef, defers := [] }

theorem fn_of {f : FuncId} {fn : Func} {c : Code} {args : Array Value} {H : AHeap} {Φ : Value → AHeap → Prop} (hf : P.funcs[f]? = some fn) (hb : fn.body = some c)
    (h : RC P c (start fn args) H fun e t' H' => (e = .normal ∨ e = .ret) ∧ ∃ v, ResT P fn t' H' v ∧ Φ v H') : FnR P f args H Φ := by
  obtain ⟨e, t1, H1, s1, c1, he, v, hv, hΦ⟩ := h
  refine ⟨v, H1, s1, fun σ w args' hr hfr ha => calls_of_wp hf hb (c1 σ w _ _ hr hfr ⟨⟨?_, fun i _ => ?_⟩, rfl, rfl⟩ ?_), hΦ⟩
  · simp [start, ha.1]
  · have key : ∀ (x : Array Value) (n : Nat), (x ++ Array.replicate n undef).getD i undef = x.getD i undef := by
      intro x n
      by_cases hi : i < x.size
      · simp [Array.getD, hi, Array.getElem_append, Nat.lt_add_right n hi]
      · by_cases hi2 : i < x.size + n
        · simp [Array.getD, hi, hi2, Array.getElem_append]
        · simp [Array.getD, hi, hi2]
    simp only [start]
    rw [key, key]
    exact ha.at i
  · intro σ' a' w' p ht
    obtain ⟨v', hv1, hv2⟩ := hv σ' w' a' (p.rel.sub fun _ _ => .inl trivial) ht
    have : bodyPost P fn (fun e w' => ∃ σ' v', e = .returned v' ∧ Post P All σ H w σ' H1 w' ∧ VR σ' v v') .normal a' w' := ⟨ht.da, v', hv1, σ', v', rfl, p, hv2⟩
    rcases he with rfl | rfl <;> exact this

end
end Go.Proofs.Ytgjpcliaggpcaaa.Ab
