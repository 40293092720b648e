/- Operations over the abstract heap itself, for walks over open inputs: blocks as rows of cells, no bound on how many. -/
import Derived.Test.YtgjpcliaggpcaaaAbX
set_option linter.unusedVariables false
set_option linter.unusedSimpArgs false
namespace Go.Proofs.Ytgjpcliaggpcaaa.Ab
open Go Classical

/-- A block turned. -/
def AHeap.upd (H : AHeap) (b : Nat) (B : ABlk) : AHeap := ⟨H.next, fun x => if x = b then some B else H.get x, H.fz⟩
/-- A block made. -/
def AHeap.push (H : AHeap) (B : ABlk) : AHeap := ⟨H.next + 1, fun x => if x = H.next then some B else H.get x, fun x => x == H.next || H.fz x⟩
/-- A block made in another one's place. -/
def AHeap.grow (H : AHeap) (b : Nat) (B : ABlk) : AHeap := ⟨H.next + 1, fun x => if x = H.next then some B else if x = b then none else H.get x, fun x => x == H.next || H.fz x⟩

theorem AHeap.wf_lt {H : AHeap} (hw : H.wf) {b : Nat} {B : ABlk} (h : H.get b = some B) : b < H.next := by
  rcases Nat.lt_or_ge b H.next with h1 | h1
  · exact h1
  · rw [hw b h1] at h; cases h

inductive AO where
  | no
  | ok (v : Value) (H : AHeap)
  | call (f : FuncId) (args : Array Value)

def spliceA (cs : List Value) (o : Nat) (vs : List Value) : List Value := cs.take o ++ (vs ++ cs.drop (o + vs.length))

section
variable (P : Program)

/-- What a load sees of a block. -/
noncomputable def seeA (ty : TypeId) (o : Nat) (B : Option ABlk) : Option Value := match B with
  | some B => match isAggK P ty with
    | some true => match sizeK P ty with
      | some n => if o + n ≤ B.cells.length then some (.agg ((B.cells.drop o).take n).toArray) else none
      | none => none
    | some false => B.cells[o]?
    | none => none
  | none => none

noncomputable def loadA (ty : TypeId) (v : Value) (H : AHeap) : AO := match v with
  | .pointer (some ⟨b, o, none⟩) => match seeA P ty o (H.get b) with
    | some v => .ok v H
    | none => .no
  | _ => .no

noncomputable def writeA (b o : Nat) (vs : List Value) (v : Value) (H : AHeap) : AO := match H.get b with
  | some B => if o + vs.length ≤ B.cells.length ∧ onesK vs = true ∧ B.ro = false then .ok v (H.upd b ⟨spliceA B.cells o vs, B.elem, B.opn, false⟩) else .no
  | none => .no

noncomputable def storeA (ty : TypeId) (a x : Value) (H : AHeap) : AO := match a with
  | .pointer (some ⟨b, o, none⟩) => match sizeK P ty with
    | some n => if x.cells.toList.length = n then writeA b o x.cells.toList undef H else .no
    | none => .no
  | _ => .no

noncomputable def newA (cs : List Value) (elem : TypeId) (opn : Bool) (k : Nat → Value) (H : AHeap) : AO := .ok (k H.next) (H.push ⟨cs, elem, opn, false⟩)

noncomputable def allocA (t : TypeId) (H : AHeap) : AO := match zeroK P t with
  | some z => newA z t false ptrTo H
  | none => .no

noncomputable def buildSliceA (t : TypeId) (len : Nat) (parts : List (Nat × Value)) (H : AHeap) : AO := match P.underlying t with
  | some (.slice e) => match sizeK P e, zeroK P e with
    | some n, some z => if len * n ≤ 16777216 ∧ 0 < n ∧ z.length = n then (match fillK (fun i => some (i * n, n)) parts (nCells z len) with
      | some cs => newA cs e false (fun b => .slice (some ⟨b, 0, none⟩) len len) H
      | none => .no) else .no
    | _, _ => .no
  | _ => .no

noncomputable def makeSliceA (t : TypeId) (l c : Value) (H : AHeap) : AO := match P.underlying t, l, c with
  | some (.slice e), .int .i64 (.ofNat l), .int .i64 (.ofNat c) => match P.info? e, zeroK P e with
    | some i, some z => if l ≤ c ∧ i.bytes * c ≤ 281474976710656 ∧ 0 < i.size ∧ c < 9223372036854775808 ∧ z.length = i.size then newA (nCells z c) e false (fun b => .slice (some ⟨b, 0, none⟩) l c) H else .no
    | _, _ => .no
  | _, _, _ => .no

/-- The cells of a slice. -/
noncomputable def srcA (size : Nat) (x : Value) (H : AHeap) : Option (Nat × List Value) := match x with
  | .slice a n _ => if n = 0 then some (0, []) else (match a with
    | some ⟨b, o, none⟩ => (match H.get b with
      | some B => if o + n * size ≤ B.cells.length then some (n, (B.cells.drop o).take (n * size)) else none
      | none => none)
    | _ => none)
  | _ => none

noncomputable def appendA (t : TypeId) (s x : Value) (H : AHeap) : AO := match P.underlying t with
  | some (.slice e) => match P.info? e, zeroK P e with
    | some i, some z => match srcA i.size x H with
      | some (n, new) => if z.length = i.size ∧ n * i.bytes < 140737488355328 ∧ n < 9223372036854775808 ∧ 0 < i.bytes then (match s with
        | .slice none sl sc => if sl = 0 ∧ sc = 0 then
            (if n = 0 then .ok s H else newA new e true (fun b => .slice (some ⟨b, 0, none⟩) n n) H) else .no
        | .slice (some ⟨b, o, none⟩) sl sc => match H.get b with
          | some B => if sl + n ≤ sc then
              (if o + sc * i.size ≤ B.cells.length then writeA b (o + sl * i.size) new (.slice (some ⟨b, o, none⟩) (sl + n) sc) H else .no)
            else if (sl + n) * i.bytes < 140737488355328 ∧ sl + n < 9223372036854775808 ∧ o + sc * i.size = B.cells.length ∧ sl ≤ sc ∧ B.elem = e ∧ B.ro = false then
              (if B.opn = true then
                  (if o = 0 ∧ onesK new = true then .ok (.slice (some ⟨H.next, 0, none⟩) (sl + n) (sl + n)) (H.grow b ⟨B.cells.take (sl * i.size) ++ new, e, true, false⟩) else .no)
                else newA ((B.cells.drop o).take (sl * i.size) ++ new) e true (fun b => .slice (some ⟨b, 0, none⟩) (sl + n) (sl + n)) H)
            else .no
          | none => .no
        | _ => .no) else .no
      | none => .no
    | _, _ => .no
  | _ => .no

noncomputable def copyA (t : TypeId) (d x : Value) (H : AHeap) : AO := match P.underlying t with
  | some (.slice e) => match sizeK P e, d, x with
    | some size, .slice (some ⟨b, o, none⟩) dn _, .slice (some ⟨b2, o2, none⟩) n _ => match H.get b2 with
      | some B => if o2 + min n dn * size ≤ B.cells.length then writeA b o ((B.cells.drop o2).take (min n dn * size)) (.int .i64 (.ofNat (min n dn))) H else .no
      | none => .no
    | some _, .slice a dn _, .slice a2 n _ => if dn = 0 ∨ n = 0 then .ok (.int .i64 (.ofNat 0)) H else .no
    | _, _, _ => .no
  | _ => .no

noncomputable def clearA (t : TypeId) (x : Value) (H : AHeap) : AO := match P.underlying t, x with
  | some (.slice e), .slice a n _ => if n = 0 then .ok (.tuple #[]) H else (match a with
    | some ⟨b, o, none⟩ => match zeroK P e with
      | some z => if 0 < z.length then writeA b o (nCells z n) (.tuple #[]) H else .no
      | none => .no
    | _ => .no)
  | _, _ => .no

noncomputable def strA (ns : List Int) : List UInt8 := List.rec (motive := fun _ => List UInt8) [] (fun n _ r => UInt8.ofNat n.toNat :: r) ns

noncomputable def toStringA (x : Value) (H : AHeap) : AO := match srcA 1 x H with
  | some (_, l) => match bytesK l with
    | some ns => .ok (.string ⟨(strA ns).toArray⟩) H
    | none => .no
  | none => .no

/-- The evaluator's heap, empty: for operations that ask nothing of it. -/
noncomputable def h0 : KH := ⟨.lf, 0, 0⟩

/-- What an operation that asks nothing of the heap comes to. -/
def liftA (r : KO) (H : AHeap) : AO := match r with
  | .ok v _ => .ok v H
  | .no => .no
  | .call f a => .call f a

noncomputable def convA (src dst : TypeId) (x : Value) (H : AHeap) : AO := match P.underlying src, P.underlying dst with
  | some (.int _), some (.int k) => (match x with
    | .int _ n => .ok (.int k (wrapK k n)) H
    | _ => .no)
  | some (.slice e), some .string => match P.underlying e with
    | some (.int .u8) => toStringA x H
    | _ => .no
  | _, _ => .no

noncomputable def biA (b : Builtin) (ts : Array TypeId) (args : List Value) (H : AHeap) : AO := match b, args with
  | .len, [x] => match ts.toList with
    | t :: _ => liftA (lenK P t x h0) H
    | _ => .no
  | .append, [s, x] => match ts.toList with
    | [t, t2] => match P.underlying t2 with
      | some (.slice _) => appendA P t s x H
      | _ => .no
    | _ => .no
  | .copy, [d, x] => match ts.toList with
    | t :: _ => copyA P t d x H
    | _ => .no
  | .clear, [x] => match ts.toList with
    | t :: _ => clearA P t x H
    | _ => .no
  | .min, [x, y] => liftA (minK false x y h0) H
  | .max, [x, y] => liftA (minK true x y h0) H
  | _, _ => .no

noncomputable def callA (ev : Operand → Value) (c : Call) (H : AHeap) : AO := match c.callee with
  | .value f => liftA (callK P (ev f) (evs ev c.args.toList).toArray) H
  | .builtin b => biA P b c.argTypes (evs ev c.args.toList) H
  | _ => .no

noncomputable def opA (ev : Operand → Value) (op : Op) (H : AHeap) : AO := match op with
  | .move x => .ok (ev x) H
  | .assign x => .ok (ev x) H
  | .pick c a b => liftA (pickK (ev c) (ev a) (ev b) h0) H
  | .alloc t => allocA P t H
  | .box t x => newA (ev x).cells.toList t false ptrTo H
  | .build t ps => liftA (buildK P t (parts ev ps.toList) h0) H
  | .buildSlice t n ps => buildSliceA P t n (parts ev ps.toList) H
  | .load t a => loadA P t (ev a) H
  | .store t a x => storeA P t (ev a) (ev x) H
  | .nilCheck x => liftA (nilK (ev x) h0) H
  | .binOp op t x y _ => liftA (binO P op t (ev x) (ev y) h0) H
  | .unOp op _ x => liftA (unK op (ev x) h0) H
  | .convert s d x => convA P s d (ev x) H
  | .makeFunc f first cap => .ok (.func f (evs ev first.toList).toArray (evs ev cap.toList).toArray) H
  | .makeSlice t l c => makeSliceA P t (ev l) (ev c) H
  | .slice t x lo hi mx => liftA (sliceK P t (ev x) (lo.map ev) (hi.map ev) (mx.map ev) h0) H
  | .fieldAddr s x f => liftA (fieldAddrK P s (ev x) f h0) H
  | .field t x f => liftA (fieldK P t (ev x) f h0) H
  | .indexAddr t x i => liftA (indexAddrK P t (ev x) (ev i) h0) H
  | .index t x i => liftA (indexK P t (ev x) (ev i) h0) H
  | .extract t i => liftA (extractO (ev t) i h0) H
  | .call c => callA P ev c H
  | _ => .no
end

section
variable {P : Program}

structure OpS2 (P : Program) (F : Nat → Prop) (o : Oper) (t : Act) (H : AHeap) (v : Value) (H' : AHeap) : Prop where
  stp : Stp F H H'
  op : OpT P F o t H v H'

theorem op2_pure {F : Nat → Prop} {o : Oper} {t : Act} {H : AHeap} {v : Value} (hw : H.wf)
    (hy : ∀ (σ : Sig) (a : Act), (∀ x ∈ o.op.operands, VR σ (t.eval x) (a.eval x)) → ∃ v', VR σ v v' ∧ ∀ w, (execOp a.eval o).run P w = .ok (.value v') w) : OpS2 P F o t H v H :=
  ⟨.refl hw, opT_of fun σ w a hr hf hx => let ⟨v', h1, h2⟩ := hy σ a hx; ⟨σ, v', w, .refl hr rfl, h1, .inl (h2 w)⟩⟩

theorem lift_ok {r : KO} {H H' : AHeap} {v : Value} (h : liftA r H = .ok v H') : ∃ h', r = .ok v h' ∧ H' = H := by
  cases r with
  | ok v1 h1 => cases h; exact ⟨_, rfl, rfl⟩
  | no => cases h
  | call f a => cases h

theorem push_stp {H : AHeap} {B : ABlk} (hw : H.wf) (F : Nat → Prop) : Stp F H (H.push B) :=
  ⟨Nat.le_succ _, fun b hb => by
    have hb' : H.next + 1 ≤ b := hb
    show (if b = H.next then some B else H.get b) = none
    rw [if_neg (by omega)]; exact hw b (by omega), fun b hb _ => by
    show (if b = H.next then some B else H.get b) = _
    rw [if_neg (by omega)]⟩

theorem upd_stp {H : AHeap} {b : Nat} {B : ABlk} (hw : H.wf) (hb : b < H.next) : Stp (fun x => x = b) H (H.upd b B) :=
  ⟨Nat.le_refl _, fun x hx => by
    have hx' : H.next ≤ x := hx
    show (if x = b then some B else H.get x) = none
    rw [if_neg (by omega)]; exact hw x hx', fun x hx hn => by
    show (if x = b then some B else H.get x) = _
    rw [if_neg hn]⟩

theorem op2_new {F : Nat → Prop} {o : Oper} {t : Act} {H H' : AHeap} {v : Value} {cs : List Value} {elem : TypeId} {k : Nat → Value} (hw : H.wf) (hh : newA cs elem false k H = .ok v H')
    (hrun : ∀ (σ : Sig) (w : World) (a : Act), (∀ x ∈ o.op.operands, VR σ (t.eval x) (a.eval x)) → ∃ cs' : Array Value, VL σ cs cs'.toList ∧
      ∃ v', (∀ σ' : Sig, σ' H.next = some ⟨w.heap.size, 0, 0, false⟩ → VR σ' (k H.next) v') ∧ (execOp a.eval o).run P w = .ok (.value v') (w.alloc (.cells cs' elem))) : OpS2 P F o t H v H' := by
  cases hh
  refine ⟨push_stp hw F, opT_of fun σ w a hr hf hx => ?_⟩
  obtain ⟨cs', hcs, v', hv', hr2⟩ := hrun σ w a hx
  refine ⟨_, v', _, new_post (room := 0) (B := ⟨cs, elem, false, false⟩) hw hr rfl (fun x => rfl) hf (cs := cs') ?_ (fun j hj => ?_) (fun _ => rfl) rfl, hv' _ (if_pos rfl), .inl hr2⟩
  · show cs'.size = cs.length + 0 * _
    rw [hcs.1]; simp
  · have := hcs.at j
    simpa [Array.getD_eq_getD_getElem?, List.getD_eq_getElem?_getD] using this

/-- Cells out of a block, where it lies. -/
theorem rows_VL {σ : Sig} {B : ABlk} {base o n : Nat} {cs : Array Value} (hb : o + n ≤ B.cells.length)
    (hv : ∀ i, i < B.cells.length → VR σ (B.cells.getD i undef) (cs.getD (base + i) undef)) :
    VL σ ((B.cells.drop o).take n) ((List.range n).map fun j => cs.getD (base + (o + j)) undef) := by
  refine ⟨by simp; omega, fun i hi => ?_⟩
  have hi' : i < n := by simp at hi; omega
  have := hv (o + i) (by omega)
  simpa [List.getD_eq_getElem?_getD, hi'] using this

/-- What is seen is what a load comes to. -/
theorem see_run {ty : TypeId} {o : Nat} {b : Nat} {v : Value} {F : Nat → Prop} {H : AHeap} {σ : Sig} {w : World} {L : Loc} (h : seeA P ty o (H.get b) = some v) (hF : F b) (hr : Rel P σ F H.get w) (hL : σ b = some L) :
    ∃ v', VR σ v v' ∧ (loadVar ty ⟨L.blk, L.base + o, none⟩).run P w = .ok v' w := by
  unfold seeA at h
  split at h
  · rename_i B hB
    obtain ⟨cs, e0, fr, hg, hsz, hv, _⟩ := (hr.blk b L _ hF hL hB).see
    split at h
    · rename_i hag
      split at h
      · rename_i n hn
        split at h
        · rename_i hc
          cases h
          have hvl := (rows_VL (o := o) (n := n) hc hv).toA
          have hrc := run_cells (P := P) (base := L.base) (o := o) (n := n) hg (by omega)
          refine ⟨_, .agg hvl.1 hvl.2, ?_⟩
          simp only [loadVar, Sem.run_bind, isAggK_run hag, Result.andThen_ok, if_true, sizeK_run hn, hrc, Sem.run_pure]
        · cases h
      · cases h
    · rename_i hag
      have hc : o < B.cells.length := (List.getElem?_eq_some_iff.1 h).1
      have hvo := hv o hc
      rw [List.getD_eq_getElem?_getD, h] at hvo
      have hlt : L.base + o < cs.size := by omega
      refine ⟨_, hvo, ?_⟩
      simp [loadVar, isAggK_run hag, run_load, World.cell?, hg, Array.getD, hlt]
    · cases h
  · cases h

theorem see_some {ty : TypeId} {o : Nat} {H : AHeap} {b : Nat} {v : Value} (h : seeA P ty o (H.get b) = some v) : ∃ B, H.get b = some B := by
  unfold seeA at h
  split at h
  · rename_i B hB; exact ⟨B, hB⟩
  · cases h

theorem loadA_quiet {ty : TypeId} {ao : Operand} {o : Oper} {t : Act} {H : AHeap} {v : Value} {b off : Nat} (ho : o.op = .load ty ao) (ha : t.eval ao = .pointer (some ⟨b, off, none⟩))
    (hh : seeA P ty off (H.get b) = some v) : OpQ P o t H v := by
  intro σ w a K Q hr hx hk
  have h1 := hx ao (by rw [ho]; simp [Op.operands])
  rw [ha] at h1
  obtain ⟨L, hL, he⟩ := h1.ptr_inv
  obtain ⟨v', hv, hl⟩ := see_run hh trivial hr hL
  have e : (execOp a.eval o).run P w = .ok (.value v') w := by
    unfold execOp
    rw [ho]
    simp only [he, Instr.loadAt, Instr.sureAddr, Sem.run_bind, Sem.run_pure, Result.andThen_ok, hl]
  unfold Oper.wp
  rw [e]
  exact hk v' hv

/-- What reads at most uses nothing, for whoever asks in the text's own order. -/
theorem loadA_op {ty : TypeId} {ao : Operand} {o : Oper} {t : Act} {H H' : AHeap} {v : Value} (hw : H.wf) (ho : o.op = .load ty ao) (hh : loadA P ty (t.eval ao) H = .ok v H') :
    H' = H ∧ OpS2 P (ptrF (t.eval ao)) o t H v H' := by
  unfold loadA at hh
  split at hh
  · rename_i b off ha
    split at hh
    · rename_i v0 hv0
      cases hh
      refine ⟨rfl, .refl hw, opT_of fun σ w a hr hf hx => ?_⟩
      have h1 := hx ao (by rw [ho]; simp [Op.operands])
      rw [ha] at h1
      obtain ⟨L, hL, he⟩ := h1.ptr_inv
      obtain ⟨v', hv, hl⟩ := see_run hv0 (by rw [ha]; rfl) hr hL
      refine ⟨σ, v', w, .refl hr rfl, hv, .inl ?_⟩
      unfold execOp
      rw [ho]
      simp only [he, Instr.loadAt, Instr.sureAddr, Sem.run_bind, Sem.run_pure, Result.andThen_ok, hl]
    · cases hh
  · cases hh

theorem writeA_run {b o : Nat} {vs : List Value} {v v' : Value} {H H' : AHeap} (hw : H.wf) (hh : writeA b o vs v H = .ok v' H') :
    v' = v ∧ b < H.next ∧ Stp (fun x => x = b) H H' ∧
    ∀ (σ : Sig) (w : World) (F : Nat → Prop), F b → Rel P σ F H.get w → ∀ L, σ b = some L → ∀ vs', VL σ vs vs' →
      ∃ w', (storeCells ⟨L.blk, L.base + o, none⟩ vs').run P w = .ok () w' ∧ Post P F σ H w σ H' w' := by
  unfold writeA at hh
  split at hh
  · rename_i B hB
    split at hh
    · rename_i hc
      obtain ⟨hc1, hc3, hbo⟩ := hc
      cases hh
      have hb1 := AHeap.wf_lt hw hB
      refine ⟨rfl, hb1, upd_stp hw hb1, ?_⟩
      · intro σ w F hF hr L hL vs' hvs
        have hbr := hr.blk b L _ hF hL hB
        obtain ⟨cs, hg, hsz, hv⟩ := hbr.cs hbo
        have hlen := hvs.1
        have hrun := run_storeCells_at (P := P) L.blk (L.base + o) B.elem vs' 0 cs w hg (by omega) (hvs.ones hc3)
        refine ⟨_, hrun, ?_⟩
        simp only [Nat.add_zero]
        generalize hnew : (cs.toList.take (L.base + o) ++ vs' ++ cs.toList.drop (L.base + o + vs'.length)).toArray = new
        have hnsz : new.size = cs.size := by rw [← hnew]; simp; omega
        have hngd : ∀ q, new.getD q undef = if L.base + o ≤ q ∧ q < L.base + o + vs'.length then vs'.getD (q - (L.base + o)) undef else cs.getD q undef := by
          intro q
          have := splice_getD cs.toList vs' (L.base + o) q (by simp; omega)
          rw [← hnew]
          simpa [Array.getD_eq_getD_getElem?, List.getD_eq_getElem?_getD] using this
        have hsgd : ∀ q, (spliceA B.cells o vs).getD q undef = if o ≤ q ∧ q < o + vs.length then vs.getD (q - o) undef else B.cells.getD q undef := fun q => by
          have := splice_getD B.cells vs o q hc1
          rw [List.append_assoc] at this; exact this
        have hslen : (spliceA B.cells o vs).length = B.cells.length := by simp [spliceA]; omega
        have hw2 : (w.setRow L.blk new).heap[L.blk]? = some (.cells new B.elem (0, 0)) := setRow_heap w L.blk cs new B.elem (0, 0) hg
        have live : ∀ x, (if x = b then some (⟨spliceA B.cells o vs, B.elem, B.opn, false⟩ : ABlk) else H.get x).isSome = (H.get x).isSome := by
          intro x
          by_cases hxb : x = b
          · subst hxb; simp [hB]
          · simp [hxb]
        have nof : ∀ x, ¬ fresh H (H.upd b ⟨spliceA B.cells o vs, B.elem, B.opn, false⟩) x := fun x hx => by
          have h1 := hx.1; have h2 : x < H.next := hx.2
          omega
        refine ⟨⟨fun x l B2 hx hs hg2 => ?_, fun x x' l l' hx hx' hs hs' hi hi' ho ho' he => ?_, fun x x' l l' hx hs hs' hi ho ho' => ?_, fun x l hs ho => by simpa using hr.old x l hs ho⟩, fun _ _ => rfl, by simp, fun k hk hn => ?_, fun k hk ⟨x, l, hx, hs, hi, he⟩ => ?_, fun x l hx => absurd hx (nof x), ⟨rfl, rfl, rfl⟩⟩
        · have hx' := hx.resolve_right (nof x)
          by_cases hxb : x = b
          · subst hxb
            simp only [AHeap.upd, if_true] at hg2
            cases hg2
            obtain rfl : l = L := by rw [hL] at hs; exact (Option.some.inj hs).symm
            refine BR.mk' ⟨new, hw2, by rw [hslen, hnsz]; exact hsz, fun i hi => ?_⟩ hbr.room (fun _ => hbr.own hbo)
            rw [hslen] at hi
            rw [hsgd, hngd]
            by_cases h1 : o ≤ i ∧ i < o + vs.length
            · have h2 : l.base + o ≤ l.base + i ∧ l.base + i < l.base + o + vs'.length := by omega
              rw [if_pos h1, if_pos h2]
              have e : l.base + i - (l.base + o) = i - o := by omega
              rw [e]
              exact hvs.at (i - o)
            · have h2 : ¬ (l.base + o ≤ l.base + i ∧ l.base + i < l.base + o + vs'.length) := by omega
              rw [if_neg h1, if_neg h2]
              exact hv i hi
          · simp only [AHeap.upd, if_neg hxb] at hg2
            refine (hr.blk x l B2 hx' hs hg2).move (fun _ _ h => h) (setRow_other w L.blk l.blk new fun e => ?_)
            cases hlr : l.ro
            · exact hxb (hr.inj x b l L hx' hF hs hL (by rw [hg2]; rfl) (by rw [hB]; rfl) hlr (hbr.own hbo) e)
            · exact hr.sep b x L l hF hL hs (by rw [hB]; rfl) (hbr.own hbo) hlr e.symm
        · simp only [AHeap.upd] at hi hi'
          rw [live] at hi hi'
          exact hr.inj x x' l l' (hx.resolve_right (nof x)) (hx'.resolve_right (nof x')) hs hs' hi hi' ho ho' he
        · simp only [AHeap.upd] at hi
          rw [live] at hi
          exact hr.sep x x' l l' (hx.resolve_right (nof x)) hs hs' hi ho ho'
        · refine setRow_other w L.blk k new fun e => hn ⟨b, L, hF, hL, by rw [hB]; rfl, hbr.own hbo, e.symm⟩
        · simp only [AHeap.upd] at hi
          rw [live] at hi
          exact ⟨x, l, hx.resolve_right (nof x), hs, hi, he⟩
    · cases hh
  · cases hh

theorem storeA_op {ty : TypeId} {ao xo : Operand} {o : Oper} {t : Act} {H H' : AHeap} {v : Value} (hw : H.wf) (ho : o.op = .store ty ao xo)
    (hh : storeA P ty (t.eval ao) (t.eval xo) H = .ok v H') : OpS2 P (ptrF (t.eval ao)) o t H v H' := by
  unfold storeA at hh
  split at hh
  · rename_i b off ha
    split at hh
    · rename_i n hn
      split at hh
      · rename_i hc
        obtain ⟨rfl, hb1, hst, hrun⟩ := writeA_run (P := P) hw hh
        have hF : ptrF (t.eval ao) = fun x => x = b := by rw [ha]; rfl
        rw [hF]
        refine ⟨hst, opT_of fun σ w a hr hf hx => ?_⟩
        have h1 := hx ao (by rw [ho]; simp [Op.operands])
        have h2 := hx xo (by rw [ho]; simp [Op.operands])
        rw [ha] at h1
        obtain ⟨L, hL, he⟩ := h1.ptr_inv
        obtain ⟨w', hw', hp⟩ := hrun σ w (fun x => x = b) rfl hr L hL _ h2.cells
        refine ⟨σ, undef, w', hp, .undef σ, .inr ⟨?_, rfl⟩⟩
        have hsz : (a.eval xo).cells.size = n := by have := h2.cells.1; simp at this hc; omega
        unfold execOp
        rw [ho]
        simp only [he, Instr.storeAt, Instr.sureAddr, storeVar, Sem.run_bind, Sem.run_pure, Result.andThen_ok, sizeK_run hn, hsz, ne_eq, not_true_eq_false, if_false, hw']
      · cases hh
    · cases hh
  · cases hh

theorem srcA_run {size : Nat} {x : Value} {H : AHeap} {n : Nat} {l : List Value} (hh : srcA size x H = some (n, l)) :
    l.length = n * size ∧ (∃ a c, x = .slice a n c) ∧ ∀ (σ : Sig) (w : World) (F : Nat → Prop), (∀ b o, (∃ c, x = .slice (some ⟨b, o, none⟩) n c) → F b) → Rel P σ F H.get w → ∀ x', VR σ x x' →
      ∃ l', VL σ l l' ∧ ∀ w', w'.heap = w.heap → (Builtin.firstCells size n x').run P w' = .ok l'.toArray w' := by
  unfold srcA at hh
  split at hh
  · rename_i a n0 c0
    split at hh
    · rename_i h0
      subst h0
      cases hh
      refine ⟨by simp, ⟨_, _, rfl⟩, fun σ w F _ hr x' hx => ⟨[], .nil σ, fun w' _ => ?_⟩⟩
      obtain ⟨a', c', rfl, _⟩ := hx.slice_any
      cases a' <;> simp [Builtin.firstCells, loadCells, loadCellsFrom]
    · split at hh
      · rename_i b o
        split at hh
        · rename_i B hB
          split at hh
          · rename_i hc
            cases hh
            refine ⟨by simp; omega, ⟨_, _, rfl⟩, fun σ w F hF hr x' hx => ?_⟩
            obtain ⟨L, hL, rfl⟩ := hx.slice_inv
            obtain ⟨cs, e0, fr, hg, hsz, hv, _⟩ := (hr.blk b L _ (hF b o ⟨_, rfl⟩) hL hB).see
            refine ⟨_, rows_VL hc hv, fun w' hw' => ?_⟩
            simp only [Builtin.firstCells]
            exact run_cells (P := P) (base := L.base) (o := o) (n := n * size) (by rw [hw']; exact hg) (by omega)
          · cases hh
        · cases hh
      · cases hh
  · cases hh
end
end Go.Proofs.Ytgjpcliaggpcaaa.Ab
