/- Every operation over the abstract heap itself comes to what the model's comes to. -/
import Derived.Test.YtgjpcliaggpcaaaAbW2
set_option linter.unusedVariables false
set_option linter.unusedSimpArgs false
namespace Go.Proofs.Ytgjpcliaggpcaaa.Ab
open Go Classical

section
variable {P : Program}

/-- What an operation uses. -/
def footA (P : Program) (ev : Operand → Value) (op : Op) (n : Nat) : Nat → Prop := match op with
  | .load _ a => ptrF (ev a)
  | .store _ a _ => ptrF (ev a)
  | .convert s _ _ => (match P.underlying s with
    | some (.int _) => fun _ => False
    | _ => fun x => x < n)
  | .call c => (match c.callee with
    | .builtin .len | .builtin .min | .builtin .max => fun _ => False
    | _ => fun x => x < n)
  | _ => fun _ => False

theorem op2_all {o : Oper} {t : Act} {H H' : AHeap} {v : Value} (hw : H.wf) (h1 : Stp All H H') (h3 : OpT P All o t H v H') : OpS2 P (fun x => x < H.next) o t H v H' :=
  ⟨⟨h1.next, h1.wf, fun b hb hn => absurd hb hn⟩, opT_narrow hw h3⟩

theorem opA_sound {o : Oper} {t : Act} {H H' : AHeap} {v : Value} (hw : H.wf) (hok : o.op.operands.all okOperand = true) (hh : opA P t.eval o.op H = .ok v H') : OpS2 P (footA P t.eval o.op H.next) o t H v H' := by
  cases ho : o.op <;> rw [ho] at hh <;> simp only [opA] at hh <;> simp only [footA] <;> try (cases hh; done)
  case move x =>
    cases hh
    exact op2_pure hw fun σ a hx => ⟨_, hx x (by rw [ho]; simp [Op.operands]), fun w => by
      unfold execOp; rw [ho]; rfl⟩
  case assign x =>
    cases hh
    exact op2_pure hw fun σ a hx => ⟨_, hx x (by rw [ho]; simp [Op.operands]), fun w => by
      unfold execOp; rw [ho]; rfl⟩
  case pick c x y =>
    obtain ⟨h', hk, rfl⟩ := lift_ok hh
    clear hh; have hh := hk; clear hk
    unfold pickK at hh
    split at hh
    · rename_i b hb
      cases hh
      refine op2_pure hw fun σ a hx => ?_
      have h1 := hx c (by rw [ho]; simp [Op.operands])
      have h2 := hx x (by rw [ho]; simp [Op.operands])
      have h3 := hx y (by rw [ho]; simp [Op.operands])
      rw [hb] at h1
      refine ⟨if b then a.eval x else a.eval y, ?_, fun w => by
      unfold execOp; rw [ho]; simp [h1.bool, asBool]⟩
      cases b
      · exact h3
      · exact h2
    · cases hh
  case alloc e =>
    unfold allocA at hh
    split at hh
    · rename_i z hz
      obtain ⟨i, zv, h1, h2, rfl, h3, h4⟩ := zeroK_spec hz
      refine op2_new hw hh fun σ w a hx => ⟨zv.cells, h4 σ, _, fun σ' hs => .ptr hs, ?_⟩
      unfold execOp
      rw [ho]
      simp [Instr.alloc, h3, newVar, run_newRow]
    · cases hh
  case box e x =>
    refine op2_new hw hh fun σ w a hx => ⟨(a.eval x).cells, (hx x (by rw [ho]; simp [Op.operands])).cells, _, fun σ' hs => .ptr hs, ?_⟩
    unfold execOp
    rw [ho]
    simp [Instr.box, newVar, run_newRow]
  case build ty ps =>
    have hp : ∀ (σ : Sig) (a : Act), (∀ x ∈ o.op.operands, VR σ (t.eval x) (a.eval x)) → PL σ (parts t.eval ps.toList) (ps.map fun (i, x) => (i, a.eval x)).toList := fun σ a hx => by
      have := PL_of (σ := σ) (ρ := t.eval) (ρ' := a.eval) (ps := ps.toList) fun p hp => hx p.2 (by rw [ho]; simp [Op.operands]; exact ⟨p.1, by simpa using hp⟩)
      simpa using this
    obtain ⟨h', hk, rfl⟩ := lift_ok hh
    clear hh; have hh := hk; clear hk
    exact op2_pure hw fun σ a hx => (buildK_run hh (hp σ a hx)).2.exec (by
      unfold execOp; rw [ho])
  case buildSlice ty len ps =>
    unfold buildSliceA at hh
    split at hh
    · rename_i e hu
      split at hh
      · rename_i n z hn hz
        obtain ⟨i, zv, h1, h2, rfl, h3, h4⟩ := zeroK_spec hz
        split at hh
        rotate_left
        · cases hh
        rename_i hc
        obtain ⟨hc1, hc2, hc3⟩ := hc
        split at hh
        · rename_i cs hcs
          refine op2_new hw hh fun σ w a hx => ?_
          have hp : PL σ (parts t.eval ps.toList) (ps.map fun (i, x) => (i, a.eval x)).toList := by
            have := PL_of (σ := σ) (ρ := t.eval) (ρ' := a.eval) (ps := ps.toList) fun p hp => hx p.2 (by rw [ho]; simp [Op.operands]; exact ⟨p.1, by simpa using hp⟩)
            simpa using this
          have hzs : zv.cells.size = n := by simpa using hc3
          have hvn : VL σ (nCells zv.cells.toList len) ((Array.range (len * n)).map (fun i => zv.cells[i % zv.cells.size]!)).toList := by
            have := nCells_range zv.cells (by omega) len
            rw [hzs] at this ⊢
            rw [this]
            have key : ∀ k, VL σ (nCells zv.cells.toList k) (nCells zv.cells.toList k) := by
              intro k
              induction k with
              | zero => exact .nil σ
              | succ k ih => exact (h4 σ).append ih
            exact key len
          obtain ⟨out', hfl, hv⟩ := fillK_run hp hcs hvn
          refine ⟨out', hv, .slice (some ⟨w.heap.size, 0, none⟩) len len, fun σ' hs => by simpa using VR.slice (n := len) (c := len) (o := 0) hs, ?_⟩
          have hc1' : ¬ (16777216 < len * n) := by omega
          have e0 : ∀ f : Nat → Value, Array.map f (Array.range 0) = #[] := fun _ => by apply Array.ext'; simp
          have e : (Instr.buildSlice ty len (ps.map fun (i, x) => (i, a.eval x))).run P w = .ok (.slice (some ⟨w.heap.size, 0, none⟩) len len) (w.alloc (.cells out' e)) := by
            generalize (ps.map fun (i, x) => (i, a.eval x)) = ps' at hfl
            simp only [Instr.buildSlice, Sem.run_bind, run_underlying hu, Result.andThen_ok, sizeK_run hn]
            by_cases h0 : len * n = 0
            · rw [h0] at hfl ⊢
              rw [e0] at hfl
              simp [e0, hfl, run_newRow]
            · have hc2' : ¬ (len * n > 2 ^ 24) := by simpa using hc1
              rw [if_neg hc2', if_neg h0]
              simp only [Sem.run_bind, h3, Result.andThen_ok, Sem.run_pure, hfl, run_newRow]
          unfold execOp
          rw [ho]
          simp only [Sem.run_bind, e, Result.andThen_ok, Sem.run_pure]
        · cases hh
      · cases hh
    · cases hh
  case load ty ao => exact (loadA_op hw ho hh).2
  case store ty ao xo => exact storeA_op hw ho hh
  case nilCheck x =>
    obtain ⟨h', hk, rfl⟩ := lift_ok hh
    clear hh; have hh := hk; clear hk
    exact op2_pure hw fun σ a hx => (nilK_run hh (hx x (by rw [ho]; simp [Op.operands])) ho rfl).2
  case binOp op ty x y yt =>
    obtain ⟨h', hk, rfl⟩ := lift_ok hh
    clear hh; have hh := hk; clear hk
    unfold binO at hh
    split at hh
    · rename_i v0 hv
      cases hh
      refine op2_pure hw fun σ a hx => (binK_run x y hv (hx x (by rw [ho]; simp [Op.operands])) (hx y (by rw [ho]; simp [Op.operands]))).exec ?_
      unfold execOp
      rw [ho]
    · cases hh
  case unOp op ty x =>
    obtain ⟨h', hk, rfl⟩ := lift_ok hh
    clear hh; have hh := hk; clear hk
    exact op2_pure hw fun σ a hx => (unK_run hh (hx x (by rw [ho]; simp [Op.operands]))).2.exec (by
      unfold execOp; rw [ho])
  case makeFunc fn first cap =>
    cases hh
    refine op2_pure hw fun σ a hx => ?_
    have h1 := evs_VL (σ := σ) (ρ := t.eval) (ρ' := a.eval) (l := first.toList) fun x hx1 => hx x (by rw [ho]; simp [Op.operands]; exact .inl (by simpa using hx1))
    have h2 := evs_VL (σ := σ) (ρ := t.eval) (ρ' := a.eval) (l := cap.toList) fun x hx1 => hx x (by rw [ho]; simp [Op.operands]; exact .inr (by simpa using hx1))
    refine ⟨_, .func h1.toA.1 h2.toA.1 h1.toA.2 h2.toA.2, fun w => ?_⟩
    unfold execOp
    rw [ho]
    simp [Instr.makeFunc]
    constructor <;> (apply Array.ext'; simp)
  case slice ty x lo hi mx =>
    obtain ⟨h', hk, rfl⟩ := lift_ok hh
    clear hh; have hh := hk; clear hk
    refine op2_pure hw fun σ a hx => (sliceK_run hh (hx x (by rw [ho]; simp [Op.operands])) (OV_map (ρ' := a.eval) fun y hy => hx y ?_) (OV_map (ρ' := a.eval) fun y hy => hx y ?_) (OV_map (ρ' := a.eval) fun y hy => hx y ?_)).2.exec (by
      unfold execOp; rw [ho])
    · rw [ho]; simp [Op.operands] at hy ⊢; simp [hy]
    · rw [ho]; simp [Op.operands] at hy ⊢; simp [hy]
    · rw [ho]; simp [Op.operands] at hy ⊢; simp [hy]
  case fieldAddr s x f =>
    obtain ⟨h', hk, rfl⟩ := lift_ok hh
    clear hh; have hh := hk; clear hk
    exact op2_pure hw fun σ a hx => (fieldAddrK_run hh (hx x (by rw [ho]; simp [Op.operands]))).2.exec (by
      unfold execOp; rw [ho])
  case field s x f =>
    obtain ⟨h', hk, rfl⟩ := lift_ok hh
    clear hh; have hh := hk; clear hk
    exact op2_pure hw fun σ a hx => (fieldK_run hh (hx x (by rw [ho]; simp [Op.operands]))).2.exec (by
      unfold execOp; rw [ho])
  case indexAddr s x i =>
    obtain ⟨h', hk, rfl⟩ := lift_ok hh
    clear hh; have hh := hk; clear hk
    exact op2_pure hw fun σ a hx => (indexAddrK_run hh (hx x (by rw [ho]; simp [Op.operands])) (hx i (by rw [ho]; simp [Op.operands]))).2.exec (by
      unfold execOp; rw [ho])
  case index s x i =>
    obtain ⟨h', hk, rfl⟩ := lift_ok hh
    clear hh; have hh := hk; clear hk
    exact op2_pure hw fun σ a hx => (indexK_run hh (hx x (by rw [ho]; simp [Op.operands])) (hx i (by rw [ho]; simp [Op.operands]))).2.exec (by
      unfold execOp; rw [ho])
  case extract x i =>
    obtain ⟨h', hk, rfl⟩ := lift_ok hh
    clear hh; have hh := hk; clear hk
    exact op2_pure hw fun σ a hx => (extractO_run hh (hx x (by rw [ho]; simp [Op.operands]))).2.exec (by
      unfold execOp; rw [ho])
  case makeSlice ty lo co =>
    unfold makeSliceA at hh
    split at hh
    · rename_i e l c hu hl hcv
      split at hh
      · rename_i i z hi hz
        obtain ⟨i', zv, h1, h2, rfl, h3, h4⟩ := zeroK_spec hz
        obtain rfl : i' = i := by rw [hi] at h1; exact (Option.some.inj h1).symm
        split at hh
        rotate_left
        · cases hh
        rename_i hc
        obtain ⟨c1, c2, c3, c4, c5⟩ := hc
        refine op2_new hw hh fun σ w a hx => ?_
        have hl' := hx lo (by rw [ho]; simp [Op.operands])
        have hc' := hx co (by rw [ho]; simp [Op.operands])
        rw [hl] at hl'
        rw [hcv] at hc'
        have hzs : zv.cells.size = i'.size := by simpa using c5
        have hvn : VL σ (nCells zv.cells.toList c) ((Array.range (c * i'.size)).map (fun i => zv.cells[i % zv.cells.size]!)).toList := by
          have := nCells_range zv.cells (by omega) c
          rw [hzs] at this ⊢
          rw [this]
          have key : ∀ k, VL σ (nCells zv.cells.toList k) (nCells zv.cells.toList k) := by
            intro k
            induction k with
            | zero => exact .nil σ
            | succ k ih => exact (h4 σ).append ih
          exact key c
        refine ⟨_, hvn, .slice (some ⟨w.heap.size, 0, none⟩) l c, fun σ' hs => by simpa using VR.slice (n := l) (c := c) (o := 0) hs, ?_⟩
        have wc : IntKind.i64.wrap (c : Int) = (c : Int) := wrap_fits (n := Int.ofNat c) (by rw [fitsI64, blt_eq, decide_eq_true_eq]; exact c4)
        have wl : IntKind.i64.wrap (l : Int) = (l : Int) := wrap_fits (n := Int.ofNat l) (by rw [fitsI64, blt_eq, decide_eq_true_eq]; exact Nat.lt_of_le_of_lt c1 c4)
        have w0 : IntKind.i64.wrap 0 = 0 := rfl
        have t1 : ¬ ((c : Int) < 0) := by omega
        have t2 : ¬ ((281474976710656 : Int) < i'.bytes * (c : Int)) := by
          have h5 : ((i'.bytes * c : Nat) : Int) ≤ ((281474976710656 : Nat) : Int) := Int.ofNat_le.2 c2
          rw [Int.natCast_mul] at h5
          omega
        have t3 : ¬ ((l : Int) < 0) := by omega
        have t4 : ¬ ((c : Int) < (l : Int)) := by omega
        unfold execOp
        rw [ho]
        by_cases h0 : c * i'.size = 0
        · have hc0 : c = 0 := by rcases Nat.mul_eq_zero.1 h0 with h | h <;> omega
          subst hc0
          have hl0 : l = 0 := by omega
          subst hl0
          simp [Instr.makeSlice, run_underlying hu, hl'.int, hc'.int, asInt, asIntOf, typeInfo, hi, sizeOf, w0, run_newRow]
          have e0 : ∀ f : Nat → Value, Array.map f (Array.range 0) = #[] := fun _ => by apply Array.ext'; simp
          rw [e0, e0]
        · simp [Instr.makeSlice, run_underlying hu, hl'.int, hc'.int, asInt, asIntOf, typeInfo, hi, sizeOf, wc, wl, t2, t4, h0, h3, run_newRow]
          intro hx2
          omega
      · cases hh
    · cases hh
  case convert s d x =>
    unfold convA at hh
    split at hh
    · rename_i k k2 hs hd
      split at hh
      · rename_i k3 n hxv
        cases hh
        rw [hs]
        refine op2_pure hw fun σ a hx => ?_
        have h1 := hx x (by rw [ho]; simp [Op.operands])
        rw [hxv] at h1
        refine ⟨.int k2 (wrapK k2 n), .same rfl, fun w => ?_⟩
        unfold execOp
        rw [ho]
        simp [convert, run_underlying hs, run_underlying hd, h1.int, Conv.intToInt, wrapK_eq]
      · cases hh
    · rename_i e hs hd
      rw [hs]
      split at hh
      · rename_i he
        obtain ⟨rfl, ⟨xa, n, xc, hxa⟩, hrun⟩ := toStringA_run (P := P) hh
        refine op2_all hw (.refl hw) (opT_of fun σ w a hr hf hx => ?_)
        have h1 := hx x (by rw [ho]; simp [Op.operands])
        obtain ⟨v', hv, hr2⟩ := hrun σ w _ hr h1
        refine ⟨σ, v', w, .refl hr rfl, hv, .inl ?_⟩
        rw [hxa] at h1
        obtain ⟨a', c', hsl, _⟩ := h1.slice_any
        rw [hsl] at hr2
        unfold execOp
        rw [ho]
        simp only [hsl, Sem.run_bind, run_convert_bytes_string w s d e a' n c' hs he hd, hr2, Result.andThen_ok, Sem.run_pure]
      · cases hh
    · cases hh
  case call c =>
    unfold callA at hh
    split at hh
    · rename_i f hf
      obtain ⟨h', hk, rfl⟩ := lift_ok hh
      clear hh; have hh := hk; clear hk
      unfold callK at hh
      simp only [cond_eq_ite] at hh
      (repeat' split at hh) <;> cases hh
    · rename_i b hb
      have hex : ∀ (a : Act), execOp a.eval o = builtin b c.argTypes o.type (c.args.map fun | .const _ => true | _ => false) (c.args.map a.eval) := fun a => by
        unfold execOp
        rw [ho]
        simp only [resolve, hb]
        rfl
      have hargs : ∀ (σ : Sig) (a : Act), (∀ x ∈ o.op.operands, VR σ (t.eval x) (a.eval x)) → VL σ (evs t.eval c.args.toList) (c.args.map a.eval).toList := fun σ a hx => by
        have := evs_VL (σ := σ) (ρ := t.eval) (ρ' := a.eval) (l := c.args.toList) fun x hx1 => hx x (by rw [ho]; simp [Op.operands, Call.operands, hb]; simpa using hx1)
        simpa using this
      have one : ∀ {σ : Sig} {x : Value} {ar : Array Value}, VL σ [x] ar.toList → ∃ x', ar = #[x'] ∧ VR σ x x' := fun h => by
        obtain ⟨x', a', he, hx, ha⟩ := h.of_cons
        rw [ha.of_nil] at he
        exact ⟨x', by apply Array.ext'; simpa using he, hx⟩
      have two : ∀ {σ : Sig} {x y : Value} {ar : Array Value}, VL σ [x, y] ar.toList → ∃ x' y', ar = #[x', y'] ∧ VR σ x x' ∧ VR σ y y' := fun h => by
        obtain ⟨x', a', he, hx, ha⟩ := h.of_cons
        obtain ⟨y', a2, he2, hy, ha2⟩ := ha.of_cons
        rw [he2, ha2.of_nil] at he
        exact ⟨x', y', by apply Array.ext'; simpa using he, hx, hy⟩
      unfold biA at hh
      split at hh
      · rename_i x hxe
        split at hh
        · rename_i t0 tl hts
          have ht0 : c.argTypes[0]? = some t0 := by rw [← Array.getElem?_toList, hts]; rfl
          obtain ⟨h', hk, rfl⟩ := lift_ok hh
          clear hh; have hh := hk; clear hk
          rw [hb]
          refine op2_pure hw fun σ a hx => ?_
          have h1 := hargs σ a hx
          rw [hxe] at h1
          obtain ⟨x', he, hx'⟩ := one h1
          obtain ⟨v', hv, hrun⟩ := (lenK_run (P := P) (ty := o.type) hh hx' c.argTypes ht0).2
          refine ⟨v', hv, fun w => ?_⟩
          rw [hex, he]
          simp [builtin, hrun]
        · cases hh
      · rename_i s x hxe
        split at hh
        · rename_i t1 t2 hts
          split at hh
          · rename_i e2 hu2
            have hta : c.argTypes = #[t1, t2] := by apply Array.ext'; simpa using hts
            rw [hb]
            obtain ⟨hst, hrun⟩ := appendA_run (P := P) (ty := o.type) hw hh hu2
            refine op2_all hw hst (opT_of fun σ w a hr hf hx => ?_)
            have h1 := hargs σ a hx
            rw [hxe] at h1
            obtain ⟨s', x', he, hs', hx'⟩ := two h1
            obtain ⟨σ', v', w', hp, hv, hr2⟩ := hrun σ w s' x' hr hf hs' hx'
            refine ⟨σ', v', w', hp, hv, .inl ?_⟩
            rw [hex, he, hta]
            simp [builtin, hr2]
          · cases hh
        · cases hh
      · rename_i d x hxe
        split at hh
        · rename_i t0 tl hts
          have ht0 : c.argTypes[0]? = some t0 := by rw [← Array.getElem?_toList, hts]; rfl
          rw [hb]
          obtain ⟨hst, hrun⟩ := copyA_run (P := P) (ty := o.type) hw ht0 hh
          refine op2_all hw hst (opT_of fun σ w a hr hf hx => ?_)
          have h1 := hargs σ a hx
          rw [hxe] at h1
          obtain ⟨d', x', he, hd', hx'⟩ := two h1
          obtain ⟨v', w', hp, hv, hr2⟩ := hrun σ w d' x' hr hd' hx'
          refine ⟨σ, v', w', hp, hv, .inl ?_⟩
          rw [hex, he]
          simp [builtin, hr2]
        · cases hh
      · rename_i x hxe
        split at hh
        · rename_i t0 tl hts
          have ht0 : c.argTypes[0]? = some t0 := by rw [← Array.getElem?_toList, hts]; rfl
          rw [hb]
          obtain ⟨hst, hrun⟩ := clearA_run (P := P) (ty := o.type) hw ht0 hh
          refine op2_all hw hst (opT_of fun σ w a hr hf hx => ?_)
          have h1 := hargs σ a hx
          rw [hxe] at h1
          obtain ⟨x', he, hx'⟩ := one h1
          obtain ⟨v', w', hp, hv, hr2⟩ := hrun σ w x' hr hx'
          refine ⟨σ, v', w', hp, hv, .inl ?_⟩
          rw [hex, he]
          simp [builtin, hr2]
        · cases hh
      · rename_i x y hxe
        obtain ⟨h', hk, rfl⟩ := lift_ok hh
        clear hh; have hh := hk; clear hk
        rw [hb]
        refine op2_pure hw fun σ a hx => ?_
        have h1 := hargs σ a hx
        rw [hxe] at h1
        obtain ⟨x', y', he, hx', hy'⟩ := two h1
        obtain ⟨v', hv, hrun⟩ := (minK_run (P := P) hh hx' hy' c.argTypes o.type).2
        refine ⟨v', hv, fun w => ?_⟩
        rw [hex, he]
        simp only [Bool.false_eq_true, if_false] at hrun
        simp [builtin, hrun]
      · rename_i x y hxe
        obtain ⟨h', hk, rfl⟩ := lift_ok hh
        clear hh; have hh := hk; clear hk
        rw [hb]
        refine op2_pure hw fun σ a hx => ?_
        have h1 := hargs σ a hx
        rw [hxe] at h1
        obtain ⟨x', y', he, hx', hy'⟩ := two h1
        obtain ⟨v', hv, hrun⟩ := (minK_run (P := P) hh hx' hy' c.argTypes o.type).2
        refine ⟨v', hv, fun w => ?_⟩
        rw [hex, he]
        simp only [if_true] at hrun
        simp [builtin, hrun]
      · cases hh
    · cases hh
end
end Go.Proofs.Ytgjpcliaggpcaaa.Ab
