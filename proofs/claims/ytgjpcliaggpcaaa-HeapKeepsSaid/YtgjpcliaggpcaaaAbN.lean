/- Every operation of the evaluator comes to what the model's comes to: the whole. -/
import Derived.Test.YtgjpcliaggpcaaaAbM
set_option linter.unusedVariables false
set_option linter.unusedSimpArgs false
namespace Go.Proofs.Ytgjpcliaggpcaaa.Ab
open Go Classical

section
variable {P : Program}

theorem nCells_len (z : List Value) : ∀ k, (nCells z k).length = k * z.length
  | 0 => by simp only [Nat.zero_mul]; rfl
  | k + 1 => by
    have : nCells z (k + 1) = z ++ nCells z k := rfl
    rw [this, List.length_append, nCells_len z k, Nat.add_mul]; omega

theorem nCells_range (z : Array Value) (hz : 0 < z.size) : ∀ k, ((Array.range (k * z.size)).map (fun i => z[i % z.size]!)).toList = nCells z.toList k := by
  have key : ∀ k i, i < k * z.size → (nCells z.toList k)[i]? = z[i % z.size]? := by
    intro k
    induction k with
    | zero => intro i hi; simp at hi
    | succ k ih =>
      intro i hi
      have e : nCells z.toList (k + 1) = z.toList ++ nCells z.toList k := rfl
      rw [e]
      by_cases h : i < z.size
      · rw [List.getElem?_append_left (by simpa using h), Nat.mod_eq_of_lt h]; simp
      · rw [List.getElem?_append_right (by simpa using Nat.le_of_not_lt h)]
        have h2 : i - z.toList.length < k * z.size := by simp; rw [Nat.add_mul] at hi; omega
        rw [ih _ h2]
        congr 1
        simp only [Array.length_toList]
        conv => rhs; rw [show i = i - z.size + z.size by omega, Nat.add_mod_right]
  intro k
  apply List.ext_getElem?
  intro i
  by_cases hi : i < k * z.size
  · rw [key k i hi]
    have hm : i % z.size < z.size := Nat.mod_lt _ hz
    simp [hi, hm]
  · rw [List.getElem?_eq_none (by simpa using hi), List.getElem?_eq_none (by rw [nCells_len]; simpa using hi)]

theorem run_newRow (w : World) (e : TypeId) (cs : Array Value) : (newRow e cs).run P w = .ok ⟨w.heap.size, 0, none⟩ (w.alloc (.cells cs e)) := rfl

theorem PL_of {σ : Sig} {ρ ρ' : Operand → Value} : ∀ {ps : List (Nat × Operand)}, (∀ p ∈ ps, VR σ (ρ p.2) (ρ' p.2)) → PL σ (parts ρ ps) (ps.map fun (i, x) => (i, ρ' x))
  | [], _ => .nil
  | p :: ps, h => .cons (h p (by simp)) (PL_of fun q hq => h q (by simp [hq]))

theorem evs_VL {σ : Sig} {ρ ρ' : Operand → Value} : ∀ {l : List Operand}, (∀ x ∈ l, VR σ (ρ x) (ρ' x)) → VL σ (evs ρ l) (l.map ρ')
  | [], _ => .nil σ
  | x :: l, h => .cons (h x (by simp)) (evs_VL fun y hy => h y (by simp [hy]))

theorem OV_map {σ : Sig} {ρ ρ' : Operand → Value} {x : Option Operand} (h : ∀ y ∈ x.toArray, VR σ (ρ y) (ρ' y)) : OV σ (x.map ρ) (x.map ρ') := by
  cases x with
  | none => exact .inl ⟨rfl, rfl⟩
  | some y => exact .inr ⟨_, _, rfl, rfl, h y (by simp)⟩

/-- What an operation uses. -/
def footF (ev : Operand → Value) (op : Op) (n : Nat) : Nat → Prop := match footK ev op with
  | some none => fun _ => False
  | some (some b) => fun x => x = b
  | none => fun x => x < n

theorem opT_narrow {o : Oper} {t : Act} {H H' : AHeap} {v : Value} (hw : H.wf) (h : OpT P All o t H v H') : OpT P (fun x => x < H.next) o t H v H' := by
  intro σ w a K Q hr hf hx hk
  have lt : ∀ b, (H.get b).isSome = true → b < H.next := fun b hi => by
    rcases Nat.lt_or_ge b H.next with h1 | h1
    · exact h1
    · rw [hw b h1] at hi; cases hi
  refine h σ w a K Q ⟨fun b l B _ hs hg => hr.blk b l B (lt b (by rw [hg]; rfl)) hs hg, fun b b' l l' _ _ hs hs' hi hi' => hr.inj b b' l l' (lt b hi) (lt b' hi') hs hs' hi hi', fun b b' l l' _ hs hs' hi => hr.sep b b' l l' (lt b hi) hs hs' hi, hr.old⟩ hf hx ?_
  intro σ' v' w' hp hv
  exact hk σ' v' w' ⟨hp.rel.sub fun _ _ => .inl trivial, hp.ext, hp.size,
    fun k hk2 hn => hp.keep k hk2 (fun ⟨b, l, _, hs, hi, he⟩ => hn ⟨b, l, lt b hi, hs, hi, he⟩), fun k hk2 ⟨b, l, _, hx⟩ => let ⟨b0, l0, _, hs, hi, he⟩ := hp.img k hk2 ⟨b, l, .inl trivial, hx⟩; ⟨b0, l0, lt b0 hi, hs, hi, he⟩, hp.fro, hp.rest⟩ hv

theorem opS_all {o : Oper} {t : Act} {h h' : KH} {v : Value} (h1 : Stp All (absH h) (absH h')) (h2 : WrOk h h') (h3 : OpT P All o t (absH h) v (absH h')) : OpS P (fun x => x < h.nx) o t h v h' :=
  ⟨⟨h1.next, h1.wf, fun b hb hn => absurd hb hn⟩, h2, opT_narrow (absH_wf h) h3⟩

theorem opK_sound {o : Oper} {t : Act} {h h' : KH} {v : Value} (hok : o.op.operands.all okOperand = true) (hh : opK P t.eval o.op h = .ok v h') : OpS P (footF t.eval o.op h.nx) o t h v h' := by
  cases ho : o.op <;> rw [ho] at hh <;> simp only [opK] at hh <;> try (cases hh; done)
  case move x =>
    cases hh
    exact opS_pure rfl fun σ a hx => ⟨_, hx x (by rw [ho]; simp [Op.operands]), fun w => by
      unfold execOp; rw [ho]; rfl⟩
  case assign x =>
    cases hh
    exact opS_pure rfl fun σ a hx => ⟨_, hx x (by rw [ho]; simp [Op.operands]), fun w => by
      unfold execOp; rw [ho]; rfl⟩
  case pick c x y =>
    unfold pickK at hh
    split at hh
    · rename_i b hb
      cases hh
      refine opS_pure rfl fun σ a hx => ?_
      have h1 := hx c (by rw [ho]; simp [Op.operands])
      have h2 := hx x (by rw [ho]; simp [Op.operands])
      have h3 := hx y (by rw [ho]; simp [Op.operands])
      rw [hb] at h1
      refine ⟨if b then a.eval x else a.eval y, ?_, fun w => by
      unfold execOp; rw [ho]; simp [h1.bool, asBool]⟩
      cases b
      · exact h3
      · exact h2
    · cases hh
  case alloc e =>
    unfold allocO at hh
    split at hh
    · rename_i z hz
      obtain ⟨i, zv, h1, h2, rfl, h3, h4⟩ := zeroK_spec hz
      refine opS_new hh (fun _ _ _ _ _ _ _ => trivial) fun σ w a hx => ⟨zv.cells, h4 σ, _, fun σ' hs => .ptr hs, ?_⟩
      unfold execOp
      rw [ho]
      simp [Instr.alloc, h3, newVar, run_newRow]
    · cases hh
  case box e x =>
    refine opS_new hh (fun _ _ _ _ _ _ _ => trivial) fun σ w a hx => ⟨(a.eval x).cells, (hx x (by rw [ho]; simp [Op.operands])).cells, _, fun σ' hs => .ptr hs, ?_⟩
    unfold execOp
    rw [ho]
    simp [Instr.box, newVar, run_newRow]
  case build ty ps =>
    have hp : ∀ (σ : Sig) (a : Act), (∀ x ∈ o.op.operands, VR σ (t.eval x) (a.eval x)) → PL σ (parts t.eval ps.toList) (ps.map fun (i, x) => (i, a.eval x)).toList := fun σ a hx => by
      have := PL_of (σ := σ) (ρ := t.eval) (ρ' := a.eval) (ps := ps.toList) fun p hp => hx p.2 (by rw [ho]; simp [Op.operands]; exact ⟨p.1, by simpa using hp⟩)
      simpa using this
    have h0 : h' = h := by
      unfold buildK at hh; try simp only [cond_eq_ite] at hh
      (repeat' split at hh) <;> first | (injection hh with _ e; exact e.symm) | (cases hh; done)
    exact opS_pure h0 fun σ a hx => (buildK_run hh (hp σ a hx)).2.exec (by
      unfold execOp; rw [ho])
  case buildSlice ty len ps =>
    unfold buildSliceK at hh
    split at hh
    · rename_i e hu
      split at hh
      · rename_i n z hn hz
        obtain ⟨i, zv, h1, h2, rfl, h3, h4⟩ := zeroK_spec hz
        obtain ⟨hc, hh⟩ := bif_ok hh
        rw [Bool.and_eq_true, Bool.and_eq_true, ble_eq, blt_eq, beq_eq, decide_eq_true_eq, decide_eq_true_eq, decide_eq_true_eq, lLen_eq] at hc
        obtain ⟨⟨hc1, hc2⟩, hc3⟩ := hc
        split at hh
        · rename_i cs hcs
          refine opS_new hh (fun _ _ _ _ _ _ _ => trivial) fun σ w a hx => ?_
          have hp : PL σ (parts t.eval ps.toList) (ps.map fun (i, x) => (i, a.eval x)).toList := by
            have := PL_of (σ := σ) (ρ := t.eval) (ρ' := a.eval) (ps := ps.toList) fun p hp => hx p.2 (by rw [ho]; simp [Op.operands]; exact ⟨p.1, by simpa using hp⟩)
            simpa using this
          have hzs : zv.cells.size = n := by simpa using hc3
          have hvn : VL σ (nCells zv.cells.toList len) ((Array.range (len * n)).map (fun i => zv.cells[i % zv.cells.size]!)).toList := by
            have := nCells_range zv.cells (by omega) len
            rw [hzs] at this ⊢
            rw [this]
            have key : ∀ k, VL σ (nCells zv.cells.toList k) (nCells zv.cells.toList k) := by
              intro k
              induction k with
              | zero => exact .nil σ
              | succ k ih => exact (h4 σ).append ih
            exact key len
          obtain ⟨out', hfl, hv⟩ := fillK_run hp hcs hvn
          refine ⟨out', hv, .slice (some ⟨w.heap.size, 0, none⟩) len len, fun σ' hs => by simpa using VR.slice (n := len) (c := len) (o := 0) hs, ?_⟩
          have hc1' : ¬ (16777216 < len * n) := by omega
          have e0 : ∀ f : Nat → Value, Array.map f (Array.range 0) = #[] := fun _ => by apply Array.ext'; simp
          have e : (Instr.buildSlice ty len (ps.map fun (i, x) => (i, a.eval x))).run P w = .ok (.slice (some ⟨w.heap.size, 0, none⟩) len len) (w.alloc (.cells out' e)) := by
            generalize (ps.map fun (i, x) => (i, a.eval x)) = ps' at hfl
            simp only [Instr.buildSlice, Sem.run_bind, run_underlying hu, Result.andThen_ok, sizeK_run hn]
            by_cases h0 : len * n = 0
            · rw [h0] at hfl ⊢
              rw [e0] at hfl
              simp [e0, hfl, run_newRow]
            · have hc2' : ¬ (len * n > 2 ^ 24) := by simpa using hc1
              rw [if_neg hc2', if_neg h0]
              simp only [Sem.run_bind, h3, Result.andThen_ok, Sem.run_pure, hfl, run_newRow]
          unfold execOp
          rw [ho]
          simp only [Sem.run_bind, e, Result.andThen_ok, Sem.run_pure]
        · cases hh
      · cases hh
    · cases hh
  case load ty ao =>
    have hh2 := hh
    unfold loadK at hh2
    split at hh2
    · rename_i b off ha
      have := loadK_op (o := o) ho ha hh
      simpa [footF, footK, ha, ho] using this
    · cases hh2
  case store ty ao xo =>
    have hh2 := hh
    unfold storeK at hh2
    split at hh2
    · rename_i b off ha
      have := storeK_op (o := o) ho ha hh
      simpa [footF, footK, ha, ho] using this
    · cases hh2
  case nilCheck x =>
    have h0 : h' = h := by
      unfold nilK at hh; try simp only [cond_eq_ite] at hh
      (repeat' split at hh) <;> first | (injection hh with _ e; exact e.symm) | (cases hh; done)
    exact opS_pure h0 fun σ a hx => (nilK_run hh (hx x (by rw [ho]; simp [Op.operands])) ho rfl).2
  case binOp op ty x y yt =>
    unfold binO at hh
    split at hh
    · rename_i v0 hv
      cases hh
      refine opS_pure rfl fun σ a hx => (binK_run x y hv (hx x (by rw [ho]; simp [Op.operands])) (hx y (by rw [ho]; simp [Op.operands]))).exec ?_
      unfold execOp
      rw [ho]
    · cases hh
  case unOp op ty x =>
    have h0 : h' = h := by
      unfold unK at hh; try simp only [cond_eq_ite] at hh
      (repeat' split at hh) <;> first | (injection hh with _ e; exact e.symm) | (cases hh; done)
    exact opS_pure h0 fun σ a hx => (unK_run hh (hx x (by rw [ho]; simp [Op.operands]))).2.exec (by
      unfold execOp; rw [ho])
  case makeFunc fn first cap =>
    cases hh
    refine opS_pure rfl fun σ a hx => ?_
    have h1 := evs_VL (σ := σ) (ρ := t.eval) (ρ' := a.eval) (l := first.toList) fun x hx1 => hx x (by rw [ho]; simp [Op.operands]; exact .inl (by simpa using hx1))
    have h2 := evs_VL (σ := σ) (ρ := t.eval) (ρ' := a.eval) (l := cap.toList) fun x hx1 => hx x (by rw [ho]; simp [Op.operands]; exact .inr (by simpa using hx1))
    refine ⟨_, .func h1.toA.1 h2.toA.1 h1.toA.2 h2.toA.2, fun w => ?_⟩
    unfold execOp
    rw [ho]
    simp [Instr.makeFunc]
    constructor <;> (apply Array.ext'; simp)
  case slice ty x lo hi mx =>
    have h0 : h' = h := by
      unfold sliceK at hh
      simp only [bndK, cond_eq_ite] at hh
      (repeat' split at hh) <;> first | (injection hh with _ e; exact e.symm) | (cases hh; done)
    refine opS_pure h0 fun σ a hx => (sliceK_run hh (hx x (by rw [ho]; simp [Op.operands])) (OV_map (ρ' := a.eval) fun y hy => hx y ?_) (OV_map (ρ' := a.eval) fun y hy => hx y ?_) (OV_map (ρ' := a.eval) fun y hy => hx y ?_)).2.exec (by
      unfold execOp; rw [ho])
    · rw [ho]; simp [Op.operands] at hy ⊢; simp [hy]
    · rw [ho]; simp [Op.operands] at hy ⊢; simp [hy]
    · rw [ho]; simp [Op.operands] at hy ⊢; simp [hy]
  case fieldAddr s x f =>
    have h0 : h' = h := by
      unfold fieldAddrK at hh; try simp only [cond_eq_ite] at hh
      (repeat' split at hh) <;> first | (injection hh with _ e; exact e.symm) | (cases hh; done)
    exact opS_pure h0 fun σ a hx => (fieldAddrK_run hh (hx x (by rw [ho]; simp [Op.operands]))).2.exec (by
      unfold execOp; rw [ho])
  case field s x f =>
    have h0 : h' = h := by
      unfold fieldK at hh; try simp only [cond_eq_ite] at hh
      (repeat' split at hh) <;> first | (injection hh with _ e; exact e.symm) | (cases hh; done)
    exact opS_pure h0 fun σ a hx => (fieldK_run hh (hx x (by rw [ho]; simp [Op.operands]))).2.exec (by
      unfold execOp; rw [ho])
  case indexAddr s x i =>
    have h0 : h' = h := by
      unfold indexAddrK at hh; try simp only [cond_eq_ite] at hh
      (repeat' split at hh) <;> first | (injection hh with _ e; exact e.symm) | (cases hh; done)
    exact opS_pure h0 fun σ a hx => (indexAddrK_run hh (hx x (by rw [ho]; simp [Op.operands])) (hx i (by rw [ho]; simp [Op.operands]))).2.exec (by
      unfold execOp; rw [ho])
  case index s x i =>
    have h0 : h' = h := by
      unfold indexK at hh; try simp only [cond_eq_ite] at hh
      (repeat' split at hh) <;> first | (injection hh with _ e; exact e.symm) | (cases hh; done)
    exact opS_pure h0 fun σ a hx => (indexK_run hh (hx x (by rw [ho]; simp [Op.operands])) (hx i (by rw [ho]; simp [Op.operands]))).2.exec (by
      unfold execOp; rw [ho])
  case extract x i =>
    have h0 : h' = h := by
      unfold extractO at hh; try simp only [cond_eq_ite] at hh
      (repeat' split at hh) <;> first | (injection hh with _ e; exact e.symm) | (cases hh; done)
    exact opS_pure h0 fun σ a hx => (extractO_run hh (hx x (by rw [ho]; simp [Op.operands]))).2.exec (by
      unfold execOp; rw [ho])
  case makeSlice ty lo co =>
    unfold makeSliceK at hh
    split at hh
    · rename_i e l c hu hl hcv
      split at hh
      · rename_i i z hi hz
        obtain ⟨i', zv, h1, h2, rfl, h3, h4⟩ := zeroK_spec hz
        obtain rfl : i' = i := by rw [hi] at h1; exact (Option.some.inj h1).symm
        obtain ⟨hc, hh⟩ := bif_ok hh
        rw [Bool.and_eq_true, Bool.and_eq_true, Bool.and_eq_true, Bool.and_eq_true, ble_eq, ble_eq, blt_eq, blt_eq, beq_eq, decide_eq_true_eq, decide_eq_true_eq, decide_eq_true_eq, decide_eq_true_eq, decide_eq_true_eq, lLen_eq] at hc
        obtain ⟨⟨⟨⟨c1, c2⟩, c3⟩, c4⟩, c5⟩ := hc
        refine opS_new hh (fun _ _ _ _ _ _ _ => trivial) fun σ w a hx => ?_
        have hl' := hx lo (by rw [ho]; simp [Op.operands])
        have hc' := hx co (by rw [ho]; simp [Op.operands])
        rw [hl] at hl'
        rw [hcv] at hc'
        have hzs : zv.cells.size = i'.size := by simpa using c5
        have hvn : VL σ (nCells zv.cells.toList c) ((Array.range (c * i'.size)).map (fun i => zv.cells[i % zv.cells.size]!)).toList := by
          have := nCells_range zv.cells (by omega) c
          rw [hzs] at this ⊢
          rw [this]
          have key : ∀ k, VL σ (nCells zv.cells.toList k) (nCells zv.cells.toList k) := by
            intro k
            induction k with
            | zero => exact .nil σ
            | succ k ih => exact (h4 σ).append ih
          exact key c
        refine ⟨_, hvn, .slice (some ⟨w.heap.size, 0, none⟩) l c, fun σ' hs => by simpa using VR.slice (n := l) (c := c) (o := 0) hs, ?_⟩
        have wc : IntKind.i64.wrap (c : Int) = (c : Int) := wrap_fits (n := Int.ofNat c) (by rw [fitsI64, blt_eq, decide_eq_true_eq]; exact c4)
        have wl : IntKind.i64.wrap (l : Int) = (l : Int) := wrap_fits (n := Int.ofNat l) (by rw [fitsI64, blt_eq, decide_eq_true_eq]; exact Nat.lt_of_le_of_lt c1 c4)
        have w0 : IntKind.i64.wrap 0 = 0 := rfl
        have t1 : ¬ ((c : Int) < 0) := by omega
        have t2 : ¬ ((281474976710656 : Int) < i'.bytes * (c : Int)) := by
          have h5 : ((i'.bytes * c : Nat) : Int) ≤ ((281474976710656 : Nat) : Int) := Int.ofNat_le.2 c2
          rw [Int.natCast_mul] at h5
          omega
        have t3 : ¬ ((l : Int) < 0) := by omega
        have t4 : ¬ ((c : Int) < (l : Int)) := by omega
        unfold execOp
        rw [ho]
        by_cases h0 : c * i'.size = 0
        · have hc0 : c = 0 := by rcases Nat.mul_eq_zero.1 h0 with h | h <;> omega
          subst hc0
          have hl0 : l = 0 := by omega
          subst hl0
          simp [Instr.makeSlice, run_underlying hu, hl'.int, hc'.int, asInt, asIntOf, typeInfo, hi, sizeOf, w0, run_newRow]
          have e0 : ∀ f : Nat → Value, Array.map f (Array.range 0) = #[] := fun _ => by apply Array.ext'; simp
          rw [e0, e0]
        · simp [Instr.makeSlice, run_underlying hu, hl'.int, hc'.int, asInt, asIntOf, typeInfo, hi, sizeOf, wc, wl, t2, t4, h0, h3, run_newRow]
          intro hx2
          omega
      · cases hh
    · cases hh
  case convert s d x =>
    unfold convK at hh
    split at hh
    · rename_i k k2 k3 n hs hd hxv
      cases hh
      refine opS_all (.refl (absH_wf _)) (.refl _) (opT_of fun σ w a hr hf hx => ?_)
      have h1 := hx x (by rw [ho]; simp [Op.operands])
      rw [hxv] at h1
      refine ⟨σ, .int k2 (wrapK k2 n), w, .refl hr rfl, .same rfl, .inl ?_⟩
      unfold execOp
      rw [ho]
      simp [convert, run_underlying hs, run_underlying hd, h1.int, Conv.intToInt, wrapK_eq]
    · rename_i e hs hd
      split at hh
      · rename_i he
        obtain ⟨rfl, hrun⟩ := toStringK_run (P := P) hh
        refine opS_all (.refl (absH_wf _)) (.refl _) (opT_of fun σ w a hr hf hx => ?_)
        have h1 := hx x (by rw [ho]; simp [Op.operands])
        obtain ⟨v', hv, hr2⟩ := hrun σ w _ hr h1
        refine ⟨σ, v', w, .refl hr rfl, hv, .inl ?_⟩
        have hsl : ∃ a' n c, a.eval x = .slice a' n c := by
          unfold toStringK at hh
          split at hh
          · rename_i n l hsrc
            obtain ⟨_, ⟨xa, xc, he2⟩, _⟩ := srcK_run (P := P) hsrc
            rw [he2] at h1
            obtain ⟨a', c', h5, _⟩ := h1.slice_any
            exact ⟨a', n, c', h5⟩
          · cases hh
        obtain ⟨a', n, c, hsl⟩ := hsl
        rw [hsl] at hr2
        unfold execOp
        rw [ho]
        simp only [hsl, Sem.run_bind, run_convert_bytes_string w s d e a' n c hs he hd, hr2, Result.andThen_ok, Sem.run_pure]
      · cases hh
    · cases hh
  case call c =>
    unfold callO at hh
    split at hh
    · rename_i f hf
      unfold callK at hh
      simp only [cond_eq_ite] at hh
      (repeat' split at hh) <;> cases hh
    · rename_i b hb
      have hex : ∀ (a : Act), execOp a.eval o = builtin b c.argTypes o.type (c.args.map fun | .const _ => true | _ => false) (c.args.map a.eval) := fun a => by
        unfold execOp
        rw [ho]
        simp only [resolve, hb]
        rfl
      have hargs : ∀ (σ : Sig) (a : Act), (∀ x ∈ o.op.operands, VR σ (t.eval x) (a.eval x)) → VL σ (evs t.eval c.args.toList) (c.args.map a.eval).toList := fun σ a hx => by
        have := evs_VL (σ := σ) (ρ := t.eval) (ρ' := a.eval) (l := c.args.toList) fun x hx1 => hx x (by rw [ho]; simp [Op.operands, Call.operands, hb]; simpa using hx1)
        simpa using this
      have one : ∀ {σ : Sig} {x : Value} {ar : Array Value}, VL σ [x] ar.toList → ∃ x', ar = #[x'] ∧ VR σ x x' := fun h => by
        obtain ⟨x', a', he, hx, ha⟩ := h.of_cons
        rw [ha.of_nil] at he
        exact ⟨x', by apply Array.ext'; simpa using he, hx⟩
      have two : ∀ {σ : Sig} {x y : Value} {ar : Array Value}, VL σ [x, y] ar.toList → ∃ x' y', ar = #[x', y'] ∧ VR σ x x' ∧ VR σ y y' := fun h => by
        obtain ⟨x', a', he, hx, ha⟩ := h.of_cons
        obtain ⟨y', a2, he2, hy, ha2⟩ := ha.of_cons
        rw [he2, ha2.of_nil] at he
        exact ⟨x', y', by apply Array.ext'; simpa using he, hx, hy⟩
      unfold biK at hh
      split at hh
      · rename_i x hxe
        split at hh
        · rename_i t0 tl hts
          have ht0 : c.argTypes[0]? = some t0 := by rw [← Array.getElem?_toList, hts]; rfl
          have h0 : h' = h := by
            unfold lenK at hh; try simp only [cond_eq_ite] at hh
            (repeat' split at hh) <;> first | (injection hh with _ e; exact e.symm) | (cases hh; done)
          subst h0
          refine opS_all (.refl (absH_wf _)) (.refl _) (opT_of fun σ w a hr hf hx => ?_)
          have h1 := hargs σ a hx
          rw [hxe] at h1
          obtain ⟨x', he, hx'⟩ := one h1
          obtain ⟨v', hv, hrun⟩ := (lenK_run (P := P) (ty := o.type) hh hx' c.argTypes ht0).2
          refine ⟨σ, v', w, .refl hr rfl, hv, .inl ?_⟩
          rw [hex, he]
          simp [builtin, hrun]
        · cases hh
      · rename_i s x hxe
        split at hh
        · rename_i t1 t2 hts
          split at hh
          · rename_i e2 hu2
            have hta : c.argTypes = #[t1, t2] := by apply Array.ext'; simpa using hts
            obtain ⟨hwr, hst, hrun⟩ := appendK_run (P := P) (ty := o.type) hh hu2
            refine opS_all hst hwr (opT_of fun σ w a hr hf hx => ?_)
            have h1 := hargs σ a hx
            rw [hxe] at h1
            obtain ⟨s', x', he, hs', hx'⟩ := two h1
            obtain ⟨σ', v', w', hp, hv, hr2⟩ := hrun σ w s' x' hr hf hs' hx'
            refine ⟨σ', v', w', hp, hv, .inl ?_⟩
            rw [hex, he, hta]
            simp [builtin, hr2]
          · cases hh
        · cases hh
      · rename_i d x hxe
        split at hh
        · rename_i t0 tl hts
          have ht0 : c.argTypes[0]? = some t0 := by rw [← Array.getElem?_toList, hts]; rfl
          obtain ⟨hwr, hst, hrun⟩ := copyK_run (P := P) (ty := o.type) ht0 hh
          refine opS_all hst hwr (opT_of fun σ w a hr hf hx => ?_)
          have h1 := hargs σ a hx
          rw [hxe] at h1
          obtain ⟨d', x', he, hd', hx'⟩ := two h1
          obtain ⟨v', w', hp, hv, hr2⟩ := hrun σ w d' x' hr hd' hx'
          refine ⟨σ, v', w', hp, hv, .inl ?_⟩
          rw [hex, he]
          simp [builtin, hr2]
        · cases hh
      · rename_i x y hxe
        have h0 : h' = h := by
            unfold minK at hh; try simp only [cond_eq_ite] at hh
            (repeat' split at hh) <;> first | (injection hh with _ e; exact e.symm) | (cases hh; done)
        subst h0
        refine opS_all (.refl (absH_wf _)) (.refl _) (opT_of fun σ w a hr hf hx => ?_)
        have h1 := hargs σ a hx
        rw [hxe] at h1
        obtain ⟨x', y', he, hx', hy'⟩ := two h1
        obtain ⟨v', hv, hrun⟩ := (minK_run (P := P) hh hx' hy' c.argTypes o.type).2
        refine ⟨σ, v', w, .refl hr rfl, hv, .inl ?_⟩
        rw [hex, he]
        simp only [Bool.false_eq_true, if_false] at hrun
        simp [builtin, hrun]
      · rename_i x y hxe
        have h0 : h' = h := by
            unfold minK at hh; try simp only [cond_eq_ite] at hh
            (repeat' split at hh) <;> first | (injection hh with _ e; exact e.symm) | (cases hh; done)
        subst h0
        refine opS_all (.refl (absH_wf _)) (.refl _) (opT_of fun σ w a hr hf hx => ?_)
        have h1 := hargs σ a hx
        rw [hxe] at h1
        obtain ⟨x', y', he, hx', hy'⟩ := two h1
        obtain ⟨v', hv, hrun⟩ := (minK_run (P := P) hh hx' hy' c.argTypes o.type).2
        refine ⟨σ, v', w, .refl hr rfl, hv, .inl ?_⟩
        rw [hex, he]
        simp only [if_true] at hrun
        simp [builtin, hrun]
      · cases hh
    · cases hh
end
end Go.Proofs.Ytgjpcliaggpcaaa.Ab
