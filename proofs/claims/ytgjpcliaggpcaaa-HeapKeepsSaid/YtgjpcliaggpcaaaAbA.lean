/- An abstract heap beside the model's: blocks by number, a map of these onto the model's own blocks that only grows, and the order that a region draws: whatever is picked, it comes to what the text's own order comes to. -/
import Derived.Orders
import Derived.Laws.Append
import Derived.Test.YtgjpcliaggpcaaaAbK
set_option linter.unusedVariables false
set_option linter.unusedSimpArgs false
namespace Go.Proofs.Ytgjpcliaggpcaaa.Ab
open Go

/-- Where an abstract block lies: the model's block, from which cell on, and how many elements more there is room for behind it. -/
structure Loc where
  blk : Nat
  base : Nat
  room : Nat
  /-- It came in: it is read alone, and others may lie over it that are read alone. -/
  ro : Bool := false

abbrev Sig := Nat → Option Loc

/-- An abstract block: its cells; 'opn': room behind it is not known. -/
structure ABlk where
  cells : List Value
  elem : TypeId
  opn : Bool
  /-- It came in: it is read alone. -/
  ro : Bool := false

inductive VR (σ : Sig) : Value → Value → Prop
  | same {v : Value} : flat v = true → VR σ v v
  | ptr {b o : Nat} {l : Loc} : σ b = some l → VR σ (.pointer (some ⟨b, o, none⟩)) (.pointer (some ⟨l.blk, l.base + o, none⟩))
  | slice {b o n c : Nat} {l : Loc} : σ b = some l → VR σ (.slice (some ⟨b, o, none⟩) n c) (.slice (some ⟨l.blk, l.base + o, none⟩) n (c + l.room))
  | opq {b o s n k c : Nat} {a : Addr} : VR σ (.slice (some ⟨b, o, some s⟩) n k) (.slice (some a) n c)
  | func {fn : Fn} {f f' c c' : Array Value} : f.size = f'.size → c.size = c'.size → (∀ i, i < f.size → VR σ (f.getD i undef) (f'.getD i undef)) →
      (∀ i, i < c.size → VR σ (c.getD i undef) (c'.getD i undef)) → VR σ (.func fn f c) (.func fn f' c')
  | agg {a a' : Array Value} : a.size = a'.size → (∀ i, i < a.size → VR σ (a.getD i undef) (a'.getD i undef)) → VR σ (.agg a) (.agg a')
  | tuple {a a' : Array Value} : a.size = a'.size → (∀ i, i < a.size → VR σ (a.getD i undef) (a'.getD i undef)) → VR σ (.tuple a) (.tuple a')

theorem VR.mono {σ σ' : Sig} {v v' : Value} (h : VR σ v v') (hs : ∀ b l, σ b = some l → σ' b = some l) : VR σ' v v' := by
  induction h with
  | same h => exact .same h
  | ptr h => exact .ptr (hs _ _ h)
  | slice h => exact .slice (hs _ _ h)
  | opq => exact .opq
  | func h1 h2 _ _ ih1 ih2 => exact .func h1 h2 ih1 ih2
  | agg h _ ih => exact .agg h ih
  | tuple h _ ih => exact .tuple h ih

theorem VR.undef (σ : Sig) : VR σ undef undef := .tuple rfl (fun i h => absurd h (by simp))

/-- Rows of values. -/
def VRs (σ : Sig) (a a' : Array Value) : Prop := a.size = a'.size ∧ ∀ i, i < a.size → VR σ (a.getD i undef) (a'.getD i undef)

theorem getD_undef {a : Array Value} {i : Nat} (h : ¬ i < a.size) : a.getD i undef = undef := by simp [Array.getD, h]

theorem VRs.at {σ : Sig} {a a' : Array Value} (h : VRs σ a a') (i : Nat) : VR σ (a.getD i undef) (a'.getD i undef) := by
  by_cases hi : i < a.size
  · exact h.2 i hi
  · rw [getD_undef hi, getD_undef (by rw [← h.1]; exact hi)]; exact .undef σ

theorem VRs.mono {σ σ' : Sig} {a a' : Array Value} (h : VRs σ a a') (hs : ∀ b l, σ b = some l → σ' b = some l) : VRs σ' a a' :=
  ⟨h.1, fun i hi => (h.2 i hi).mono hs⟩

/-- A block and where it lies. -/
structure BR (P : Program) (σ : Sig) (B : ABlk) (l : Loc) (w : World) : Prop where
  see : ∃ (cs : Array Value) (e : TypeId) (fr : Nat × Nat), w.heap[l.blk]? = some (.cells cs e fr) ∧ l.base + B.cells.length ≤ cs.size ∧
    (∀ i, i < B.cells.length → VR σ (B.cells.getD i undef) (cs.getD (l.base + i) undef)) ∧
    (l.ro = false → e = B.elem ∧ fr = (0, 0) ∧ cs.size = l.base + B.cells.length + l.room * P.cellsOf B.elem)
  room : B.opn = false → l.room = 0
  own : B.ro = false → l.ro = false

/-- Of a block of one's own. -/
theorem BR.cs {P : Program} {σ : Sig} {B : ABlk} {l : Loc} {w : World} (h : BR P σ B l w) (ho : B.ro = false) : ∃ cs : Array Value, w.heap[l.blk]? = some (.cells cs B.elem (0, 0)) ∧ cs.size = l.base + B.cells.length + l.room * P.cellsOf B.elem ∧
    ∀ i, i < B.cells.length → VR σ (B.cells.getD i undef) (cs.getD (l.base + i) undef) := by
  obtain ⟨cs, e, fr, h1, h2, h3, h4⟩ := h.see
  obtain ⟨rfl, rfl, h5⟩ := h4 (h.own ho)
  exact ⟨cs, h1, h5, h3⟩

theorem BR.mk' {P : Program} {σ : Sig} {B : ABlk} {l : Loc} {w : World} (h : ∃ cs : Array Value, w.heap[l.blk]? = some (.cells cs B.elem (0, 0)) ∧ cs.size = l.base + B.cells.length + l.room * P.cellsOf B.elem ∧
    ∀ i, i < B.cells.length → VR σ (B.cells.getD i undef) (cs.getD (l.base + i) undef)) (hr : B.opn = false → l.room = 0) (ho : B.ro = false → l.ro = false) : BR P σ B l w := by
  obtain ⟨cs, h1, h2, h3⟩ := h
  exact ⟨⟨cs, _, _, h1, by omega, h3, fun _ => ⟨rfl, rfl, h2⟩⟩, hr, ho⟩

theorem BR.lt {P : Program} {σ : Sig} {B : ABlk} {l : Loc} {w : World} (h : BR P σ B l w) : l.blk < w.heap.size := by
  obtain ⟨cs, e, fr, h, _⟩ := h.see
  exact (Array.getElem?_eq_some_iff.1 h).1

theorem BR.move {P : Program} {σ σ' : Sig} {B : ABlk} {l : Loc} {w w' : World} (h : BR P σ B l w) (hs : ∀ b l, σ b = some l → σ' b = some l)
    (hw : w'.heap[l.blk]? = w.heap[l.blk]?) : BR P σ' B l w' := by
  obtain ⟨cs, e, fr, h1, h2, h3, h4⟩ := h.see
  exact ⟨⟨cs, e, fr, hw ▸ h1, h2, fun i hi => (h3 i hi).mono hs, h4⟩, h.room, h.own⟩

/-- The blocks of F lie in the world as the map says. -/
structure Rel (P : Program) (σ : Sig) (F : Nat → Prop) (g : Nat → Option ABlk) (w : World) : Prop where
  blk : ∀ b l B, F b → σ b = some l → g b = some B → BR P σ B l w
  inj : ∀ b b' l l', F b → F b' → σ b = some l → σ b' = some l' → (g b).isSome = true → (g b').isSome = true → l.ro = false → l'.ro = false → l.blk = l'.blk → b = b'
  sep : ∀ b b' l l', F b → σ b = some l → σ b' = some l' → (g b).isSome = true → l.ro = false → l'.ro = true → l.blk ≠ l'.blk
  old : ∀ b l, σ b = some l → l.ro = true → l.blk < w.heap.size

theorem Rel.sub {P : Program} {σ : Sig} {F F' : Nat → Prop} {g : Nat → Option ABlk} {w : World} (h : Rel P σ F g w) (hF : ∀ b, F' b → F b) : Rel P σ F' g w :=
  ⟨fun b l B hb => h.blk b l B (hF b hb), fun b b' l l' hb hb' => h.inj b b' l l' (hF b hb) (hF b' hb'), fun b b' l l' hb => h.sep b b' l l' (hF b hb), h.old⟩

theorem Rel.cong {P : Program} {σ : Sig} {F : Nat → Prop} {g g' : Nat → Option ABlk} {w : World} (h : Rel P σ F g w) (hg : ∀ b, F b → ∀ l, σ b = some l → (g' b).isSome = true → g' b = g b) : Rel P σ F g' w :=
  ⟨fun b l B hb hs hB => h.blk b l B hb hs (by rw [← hg b hb l hs (by rw [hB]; rfl)]; exact hB), fun b b' l l' hb hb' hs hs' hi hi' => h.inj b b' l l' hb hb' hs hs' ((hg b hb l hs hi) ▸ hi) ((hg b' hb' l' hs' hi') ▸ hi'),
    fun b b' l l' hb hs hs' hi => h.sep b b' l l' hb hs hs' ((hg b hb l hs hi) ▸ hi), h.old⟩

/-- A block of the model's that one of F lies in, and is its own. -/
def Img (σ : Sig) (F : Nat → Prop) (g : Nat → Option ABlk) (k : Nat) : Prop := ∃ b l, F b ∧ σ b = some l ∧ (g b).isSome = true ∧ l.ro = false ∧ l.blk = k

structure AHeap where
  next : Nat
  get : Nat → Option ABlk
  /-- Blocks that a call must leave as they are (told beside; the model knows nothing of it). -/
  fz : Nat → Bool := fun _ => false

def AHeap.wf (H : AHeap) : Prop := ∀ b, H.next ≤ b → H.get b = none

/-- Blocks that are made on the way. -/
def fresh (H H' : AHeap) (b : Nat) : Prop := H.next ≤ b ∧ b < H'.next

/-- Nothing but F turns. -/
structure Stp (F : Nat → Prop) (H H' : AHeap) : Prop where
  next : H.next ≤ H'.next
  wf : H'.wf
  same : ∀ b, b < H.next → ¬ F b → H'.get b = H.get b

def Fresh (σ : Sig) (H H' : AHeap) : Prop := ∀ b, fresh H H' b → σ b = none

structure Post (P : Program) (F : Nat → Prop) (σ : Sig) (H : AHeap) (w : World) (σ' : Sig) (H' : AHeap) (w' : World) : Prop where
  rel : Rel P σ' (fun b => F b ∨ fresh H H' b) H'.get w'
  ext : ∀ b, ¬ fresh H H' b → σ' b = σ b
  size : w.heap.size ≤ w'.heap.size
  keep : ∀ k, k < w.heap.size → ¬ Img σ F H.get k → w'.heap[k]? = w.heap[k]?
  img : ∀ k, k < w.heap.size → Img σ' (fun b => F b ∨ fresh H H' b) H'.get k → Img σ F H.get k
  fro : ∀ b l, fresh H H' b → σ' b = some l → l.ro = false
  rest : w'.os = w.os ∧ w'.tape = w.tape ∧ w'.output = w.output

theorem Post.up {P : Program} {F : Nat → Prop} {σ : Sig} {H : AHeap} {w : World} {σ' : Sig} {H' : AHeap} {w' : World} (h : Post P F σ H w σ' H' w')
    (hf : Fresh σ H H') : ∀ b l, σ b = some l → σ' b = some l := fun b l hb => by
  by_cases hx : fresh H H' b
  · rw [hf b hx] at hb; cases hb
  · rw [h.ext b hx]; exact hb

def All : Nat → Prop := fun _ => True

theorem nofresh (H : AHeap) (b : Nat) : ¬ fresh H H b := fun x => by have := x.1; have := x.2; omega

theorem Post.refl {P : Program} {F : Nat → Prop} {σ : Sig} {H : AHeap} {w w' : World} (h : Rel P σ F H.get w) (hw : w'.heap = w.heap) (hrest : w'.os = w.os ∧ w'.tape = w.tape ∧ w'.output = w.output := by exact ⟨rfl, rfl, rfl⟩) : Post P F σ H w σ H w' where
  rel := ⟨fun b l B hb hs hg => (h.blk b l B (hb.resolve_right (nofresh H b)) hs hg).move (fun _ _ h => h) (by rw [hw]),
    fun b b' l l' hb hb' => h.inj b b' l l' (hb.resolve_right (nofresh H b)) (hb'.resolve_right (nofresh H b')), fun b b' l l' hb => h.sep b b' l l' (hb.resolve_right (nofresh H b)), fun b l hs ho => by rw [hw]; exact h.old b l hs ho⟩
  ext := fun _ _ => rfl
  size := by rw [hw]; exact Nat.le_refl _
  keep := fun k _ _ => by rw [hw]
  img := fun k _ ⟨b, l, hb, h1⟩ => ⟨b, l, hb.resolve_right (nofresh H b), h1⟩
  fro := fun b l hb => absurd hb (nofresh H b)
  rest := hrest

theorem Post.trans {P : Program} {σ σ1 σ2 : Sig} {H H1 H2 : AHeap} {w w1 w2 : World} (n1 : H.next ≤ H1.next) (n2 : H1.next ≤ H2.next)
    (p : Post P All σ H w σ1 H1 w1) (q : Post P All σ1 H1 w1 σ2 H2 w2) : Post P All σ H w σ2 H2 w2 where
  rel := q.rel.sub fun b _ => .inl trivial
  ext := fun b hb => by
    rw [q.ext b (fun x => hb ⟨Nat.le_trans n1 x.1, x.2⟩), p.ext b (fun x => hb ⟨x.1, Nat.lt_of_lt_of_le x.2 n2⟩)]
  size := Nat.le_trans p.size q.size
  keep := fun k hk hi => by
    rw [q.keep k (Nat.lt_of_lt_of_le hk p.size) (fun ⟨b, l, _, hx⟩ => hi (p.img k hk ⟨b, l, .inl trivial, hx⟩)), p.keep k hk hi]
  img := fun k hk ⟨b, l, hb, hx⟩ => by
    obtain ⟨b1, l1, _, hx1⟩ := q.img k (Nat.lt_of_lt_of_le hk p.size) ⟨b, l, .inl trivial, hx⟩
    exact p.img k hk ⟨b1, l1, .inl trivial, hx1⟩
  fro := fun b l hb hs => by
    by_cases h2 : fresh H1 H2 b
    · exact q.fro b l h2 hs
    · rw [q.ext b h2] at hs
      refine p.fro b l ⟨hb.1, ?_⟩ hs
      rcases Nat.lt_or_ge b H1.next with h | h
      · exact h
      · exact absurd ⟨h, hb.2⟩ h2
  rest := ⟨q.rest.1.trans p.rest.1, q.rest.2.1.trans p.rest.2.1, q.rest.2.2.trans p.rest.2.2⟩

theorem Fresh.left {σ : Sig} {H H1 H2 : AHeap} (h : Fresh σ H H2) (n2 : H1.next ≤ H2.next) : Fresh σ H H1 :=
  fun b hb => h b ⟨hb.1, Nat.lt_of_lt_of_le hb.2 n2⟩
theorem Fresh.right {P : Program} {F : Nat → Prop} {σ σ1 : Sig} {H H1 H2 : AHeap} {w w1 : World} (h : Fresh σ H H2) (n1 : H.next ≤ H1.next)
    (p : Post P F σ H w σ1 H1 w1) : Fresh σ1 H1 H2 := fun b hb => by
  rw [p.ext b (fun x => by have := x.2; have := hb.1; omega)]
  exact h b ⟨Nat.le_trans n1 hb.1, hb.2⟩

/-- One operation: what it comes to, wherever the blocks lie. -/
def OpT (P : Program) (F : Nat → Prop) (o : Oper) (t : Act) (H : AHeap) (v : Value) (H' : AHeap) : Prop :=
  ∀ (σ : Sig) (w : World) (a : Act) (K : Act → World → Prop) (Q : Exit → Act → World → Prop), Rel P σ F H.get w → Fresh σ H H' →
    (∀ x ∈ o.op.operands, VR σ (t.eval x) (a.eval x)) →
    (∀ σ' v' w', Post P F σ H w σ' H' w' → VR σ' v v' → K (a.put o.dst v') w') → o.wp P a w K Q

/-- An operation that uses less may be said to use more. -/
theorem OpT.wide {P : Program} {F F' : Nat → Prop} {o : Oper} {t : Act} {H : AHeap} {v : Value} {H' : AHeap} (hw : H.wf) (hs : Stp F H H')
    (hF : ∀ b, F b → F' b) (h : OpT P F o t H v H') : OpT P F' o t H v H' := by
  intro σ w a K Q hr hf hx hk
  refine h σ w a K Q (hr.sub hF) hf hx ?_
  intro σ' v' w' hp hv
  have hup := hp.up hf
  have old : ∀ b, F' b → ¬ F b → ¬ fresh H H' b → (H'.get b).isSome = true → H'.get b = H.get b := fun b _ hn hn2 hi => by
    by_cases hlt : b < H.next
    · exact hs.same b hlt hn
    · exfalso
      have : ¬ b < H'.next := fun hb => hn2 ⟨by omega, hb⟩
      rw [hs.wf b (by omega)] at hi; cases hi
  have apart : ∀ b l, F' b → ¬ F b → ¬ fresh H H' b → σ' b = some l → (H'.get b).isSome = true → l.blk < w.heap.size ∧ ¬ Img σ F H.get l.blk := fun b l h1 h2 h3 h4 h5 => by
    have hg := old b h1 h2 h3 h5
    rw [hp.ext b h3] at h4
    obtain ⟨B, hB⟩ := Option.isSome_iff_exists.1 (hg ▸ h5)
    refine ⟨(hr.blk b l B h1 h4 hB).lt, fun ⟨b0, l0, hb0, hs0, hi0, ho0, he⟩ => h2 ?_⟩
    cases hlr : l.ro
    · rw [← hr.inj b0 b l0 l (hF _ hb0) h1 hs0 h4 hi0 (by rw [hB]; rfl) ho0 hlr he]; exact hb0
    · exact absurd he (hr.sep b0 b l0 l (hF _ hb0) hs0 h4 hi0 ho0 hlr)
  refine hk σ' v' w' ⟨⟨?_, ?_, ?_, hp.rel.old⟩, hp.ext, hp.size, fun k hk hi => hp.keep k hk (fun ⟨b, l, hb, hx⟩ => hi ⟨b, l, hF b hb, hx⟩), ?_, hp.fro, hp.rest⟩ hv
  · intro b l B hb hsb hg
    by_cases h1 : F b ∨ fresh H H' b
    · exact hp.rel.blk b l B h1 hsb hg
    · have h2 : ¬ F b := fun h => h1 (.inl h)
      have h3 : ¬ fresh H H' b := fun h => h1 (.inr h)
      have hb' : F' b := hb.resolve_right h3
      obtain ⟨hlt, hni⟩ := apart b l hb' h2 h3 hsb (by rw [hg]; rfl)
      have hgo := old b hb' h2 h3 (by rw [hg]; rfl)
      exact (hr.blk b l B hb' (by rw [← hp.ext b h3]; exact hsb) (by rw [← hgo]; exact hg)).move hup (hp.keep _ hlt hni)
  · intro b b' l l' hb hb' hsb hsb' hi hi' ho ho' he
    by_cases h1 : F b ∨ fresh H H' b <;> by_cases h1' : F b' ∨ fresh H H' b'
    · exact hp.rel.inj b b' l l' h1 h1' hsb hsb' hi hi' ho ho' he
    · have h3 : ¬ fresh H H' b' := fun h => h1' (.inr h)
      obtain ⟨hlt, hni⟩ := apart b' l' (hb'.resolve_right h3) (fun h => h1' (.inl h)) h3 hsb' hi'
      exact absurd (hp.img l'.blk hlt ⟨b, l, h1, hsb, hi, ho, he⟩) hni
    · have h3 : ¬ fresh H H' b := fun h => h1 (.inr h)
      obtain ⟨hlt, hni⟩ := apart b l (hb.resolve_right h3) (fun h => h1 (.inl h)) h3 hsb hi
      exact absurd (hp.img l.blk hlt ⟨b', l', h1', hsb', hi', ho', he.symm⟩) hni
    · have h3 : ¬ fresh H H' b := fun h => h1 (.inr h)
      have h3' : ¬ fresh H H' b' := fun h => h1' (.inr h)
      have hg := old b (hb.resolve_right h3) (fun h => h1 (.inl h)) h3 hi
      have hg' := old b' (hb'.resolve_right h3') (fun h => h1' (.inl h)) h3' hi'
      exact hr.inj b b' l l' (hb.resolve_right h3) (hb'.resolve_right h3') (by rw [← hp.ext b h3]; exact hsb) (by rw [← hp.ext b' h3']; exact hsb') (hg ▸ hi) (hg' ▸ hi') ho ho' he
  · intro b b' l l' hb hsb hsb' hi ho ho'
    by_cases h1 : F b ∨ fresh H H' b
    · exact hp.rel.sep b b' l l' h1 hsb hsb' hi ho ho'
    · have h3 : ¬ fresh H H' b := fun h => h1 (.inr h)
      have h3' : ¬ fresh H H' b' := fun h => by have := hp.fro b' l' h hsb'; rw [ho'] at this; cases this
      have hg := old b (hb.resolve_right h3) (fun h => h1 (.inl h)) h3 hi
      exact hr.sep b b' l l' (hb.resolve_right h3) (by rw [← hp.ext b h3]; exact hsb) (by rw [← hp.ext b' h3']; exact hsb') (hg ▸ hi) ho ho'
  · rintro k hk ⟨b, l, hb, hsb, hi, ho, he⟩
    by_cases h1 : F b ∨ fresh H H' b
    · obtain ⟨b0, l0, hb0, hx⟩ := hp.img k hk ⟨b, l, h1, hsb, hi, ho, he⟩
      exact ⟨b0, l0, hF b0 hb0, hx⟩
    · have h3 : ¬ fresh H H' b := fun h => h1 (.inr h)
      have hb' := hb.resolve_right h3
      exact ⟨b, l, hb', by rw [← hp.ext b h3]; exact hsb, (old b hb' (fun h => h1 (.inl h)) h3 hi) ▸ hi, ho, he⟩

/-- Temporaries. -/
structure TR (σ : Sig) (t a : Act) : Prop where
  tm : VRs σ t.tmps a.tmps
  dt : t.defers = []
  da : a.defers = []

theorem eval_VR {σ : Sig} {t a : Act} {x : Operand} (hx : okOperand x = true) (h : ∀ d, x = .tmp d → VR σ (t.tmps.getD d undef) (a.tmps.getD d undef)) :
    VR σ (t.eval x) (a.eval x) := by
  cases x with
  | tmp d => exact h d rfl
  | const v => exact .same hx
  | func f => exact .func rfl rfl (fun i h => absurd h (by simp)) (fun i h => absurd h (by simp))
  | global g => cases hx

theorem yielded_VR {σ : Sig} {t a : Act} {ops : Array Oper} {j : Nat} (hsz : t.tmps.size = a.tmps.size)
    (h : ∀ d, (ops[j]?).bind (·.dst) = some d → VR σ (t.tmps.getD d undef) (a.tmps.getD d undef)) :
    yielded ops t.tmps j = yielded ops a.tmps j := by
  unfold yielded
  cases hd : (ops[j]?).bind (·.dst) with
  | none => rfl
  | some d =>
    have hv := h d hd
    simp only [Option.bind_some]
    by_cases hlt : d < t.tmps.size
    · have hlt' : d < a.tmps.size := hsz ▸ hlt
      simp only [Array.getD, hlt, hlt', dif_pos] at hv
      simp only [Array.getElem?_eq_getElem hlt, Array.getElem?_eq_getElem hlt']
      change VR σ t.tmps[d] a.tmps[d] at hv
      generalize t.tmps[d] = x at hv
      generalize a.tmps[d] = y at hv
      cases hv <;> rfl
    · rw [Array.getElem?_eq_none (Nat.le_of_not_lt hlt), Array.getElem?_eq_none (by rw [← hsz]; exact Nat.le_of_not_lt hlt)]

theorem put_getD (t : Act) (dst : Option Tmp) (v : Value) (d : Nat) : (t.put dst v).tmps.getD d undef = if dst = some d ∧ d < t.tmps.size then v else t.tmps.getD d undef := by
  cases dst with
  | none => simp [Act.put]
  | some e =>
    by_cases h : e = d
    · subst h
      by_cases hlt : e < t.tmps.size
      · simp [Act.put, Array.getD, hlt]
      · simp [Act.put, Array.getD, hlt]
    · have : ¬ (some e = some d ∧ d < t.tmps.size) := fun hh => h (Option.some.inj hh.1)
      rw [if_neg this]
      by_cases hlt : d < t.tmps.size
      · simp [Act.put, Array.getD, hlt, Array.getElem_setIfInBounds, h]
      · simp [Act.put, Array.getD, hlt]

theorem put_size (t : Act) (dst : Option Tmp) (v : Value) : (t.put dst v).tmps.size = t.tmps.size := by cases dst <;> simp [Act.put]
theorem put_defers' (t : Act) (dst : Option Tmp) (v : Value) : (t.put dst v).defers = t.defers := by cases dst <;> rfl

theorem TR.put {σ : Sig} {t a : Act} (h : TR σ t a) {v v' : Value} (hv : VR σ v v') (dst : Option Tmp) : TR σ (t.put dst v) (a.put dst v') := by
  refine ⟨⟨by rw [put_size, put_size]; exact h.tm.1, fun i _ => ?_⟩, by rw [put_defers']; exact h.dt, by rw [put_defers']; exact h.da⟩
  rw [put_getD, put_getD, ← h.tm.1]
  split
  · exact hv
  · exact h.tm.at i

theorem TR.mono {σ σ' : Sig} {t a : Act} (h : TR σ t a) (hs : ∀ b l, σ b = some l → σ' b = some l) : TR σ' t a := ⟨h.tm.mono hs, h.dt, h.da⟩

theorem TR.ev {σ : Sig} {t a : Act} (h : TR σ t a) {x : Operand} (hx : okOperand x = true) : VR σ (t.eval x) (a.eval x) := eval_VR hx fun d _ => h.tm.at d

end Go.Proofs.Ytgjpcliaggpcaaa.Ab
