/- Numbers written over numbers: what else is laid keeps its form. -/
import Derived.Test.YtgjpcliaggpcaaaAbR5
set_option linter.unusedVariables false
set_option linter.unusedSimpArgs false
namespace Go.Proofs.Ytgjpcliaggpcaaa.Ab
open Go

/-- A whole number, whichever. -/
def Rp.hole : Rp Unit := ⟨1, by decide, fun _ cs _ f => (∃ x, cs = [.int .i64 x]) ∧ f = [], fun h => by obtain ⟨⟨x, rfl⟩, _⟩ := h; rfl, fun h _ => h⟩

/-- What stands for x stands for g x. -/
def Mor {α β : Type} (r : Rp α) (r' : Rp β) (g : α → β) : Prop := r'.sz = r.sz ∧ ∀ H cs x f, r.E H cs x f → r'.E H cs (g x) f
theorem mor_hole : Mor .int .hole fun _ => () := ⟨rfl, fun H cs x f h => ⟨⟨x, h.1⟩, h.2⟩⟩
theorem mor_id {α : Type} (r : Rp α) : Mor r r fun x => x := ⟨rfl, fun _ _ _ _ h => h⟩
theorem mor_pair {α β α' β' : Type} {a : Rp α} {b : Rp β} {a' : Rp α'} {b' : Rp β'} {g : α → α'} {k : β → β'} (h1 : Mor a a' g) (h2 : Mor b b' k) : Mor (.pair a b) (.pair a' b') fun x => (g x.1, k x.2) :=
  ⟨by show a'.sz + b'.sz = a.sz + b.sz; rw [h1.1, h2.1], fun H cs x f ⟨c1, c2, f1, f2, e1, e2, e3, e4⟩ => ⟨c1, c2, f1, f2, e1, e2, h1.2 _ _ _ _ e3, h2.2 _ _ _ _ e4⟩⟩
theorem Arr.mor {α β : Type} {r : Rp α} {r' : Rp β} {g : α → β} (hm : Mor r r' g) {H : AHeap} : ∀ {cs : List Value} {l : List α} {f : List Nat}, Arr r H cs l f → Arr r' H cs (l.map g) f
  | cs, [], f, h => h
  | cs, x :: l, f, h => by
    obtain ⟨c, cs', f1, f2, rfl, rfl, h1, h2⟩ := h
    exact ⟨c, cs', f1, f2, rfl, rfl, hm.2 _ _ _ _ h1, h2.mor hm⟩
theorem Sl.mor {α β : Type} {r : Rp α} {r' : Rp β} {g : α → β} (hm : Mor r r' g) {H : AHeap} {v : Value} {l : List α} {f : List Nat} (h : Sl r H v l f) : Sl r' H v (l.map g) f := by
  rcases h with ⟨rfl, rfl, rfl⟩ | ⟨a, c, rfl, rfl, rfl⟩ | ⟨b, o, c, B, g1, rfl, h2, h3, rfl, h4, h5⟩
  · exact .inl ⟨rfl, rfl, rfl⟩
  · exact .inr (.inl ⟨a, c, rfl, rfl, rfl⟩)
  · exact .inr (.inr ⟨b, o, c, B, g1, by rw [List.length_map], by simpa using h2, by rw [List.length_map]; exact h3, rfl, h4, h5.mor hm⟩)
theorem mor_slice {α β : Type} {r : Rp α} {r' : Rp β} {g : α → β} (hm : Mor r r' g) : Mor (.slice r) (.slice r') (List.map g) := ⟨rfl, fun H cs l f ⟨v, e, h⟩ => ⟨v, e, h.mor hm⟩⟩

/-- Cells that are as they were, but for numbers. -/
def Lo (cs cs' : List Value) : Prop := cs'.length = cs.length ∧ ∀ (i : Nat) (v : Value), cs[i]? = some v → cs'[i]? = some v ∨ ((∃ x, v = Value.int .i64 x) ∧ ∃ y, cs'[i]? = some (Value.int .i64 y))
theorem Lo.refl (cs : List Value) : Lo cs cs := ⟨rfl, fun _ _ h => .inl h⟩
theorem Lo.trans {a b c : List Value} (h : Lo a b) (h' : Lo b c) : Lo a c := ⟨h'.1.trans h.1, fun i v hv => by
  rcases h.2 i v hv with e | ⟨⟨x, rfl⟩, y, e⟩
  · exact h'.2 i v e
  · rcases h'.2 i _ e with e2 | ⟨_, z, e2⟩
    · exact .inr ⟨⟨x, rfl⟩, y, e2⟩
    · exact .inr ⟨⟨x, rfl⟩, z, e2⟩⟩
theorem Lo.set {cs : List Value} {k : Nat} {x y : Int} (h : cs[k]? = some (.int .i64 x)) : Lo cs (cs.set k (.int .i64 y)) := ⟨List.length_set .., fun i v hv => by
  by_cases e : k = i
  · subst e
    rw [h] at hv
    cases hv
    exact .inr ⟨⟨x, rfl⟩, y, by rw [List.getElem?_set_self ((List.getElem?_eq_some_iff.1 h).1)]⟩
  · exact .inl (by rw [List.getElem?_set_ne e]; exact hv)⟩
theorem Lo.drop {a b : List Value} (h : Lo a b) (o : Nat) : Lo (a.drop o) (b.drop o) := ⟨by rw [List.length_drop, List.length_drop, h.1], fun i v hv => by
  rw [List.getElem?_drop] at hv ⊢
  exact h.2 _ v hv⟩
theorem Lo.split {c1 c2 d : List Value} (h : Lo (c1 ++ c2) d) : ∃ d1 d2, d = d1 ++ d2 ∧ Lo c1 d1 ∧ Lo c2 d2 := by
  have hl : d.length = c1.length + c2.length := by rw [h.1, List.length_append]
  refine ⟨d.take c1.length, d.drop c1.length, (List.take_append_drop _ _).symm, ⟨by rw [List.length_take]; omega, fun i v hv => ?_⟩, ⟨by rw [List.length_drop]; omega, fun i v hv => ?_⟩⟩
  · have hi := (List.getElem?_eq_some_iff.1 hv).1
    rw [List.getElem?_take, if_pos hi]
    exact h.2 i v (by rw [List.getElem?_append_left hi]; exact hv)
  · rw [List.getElem?_drop]
    exact h.2 _ v (by rw [List.getElem?_append_right (by omega), Nat.add_sub_cancel_left]; exact hv)
theorem Lo.one {v : Value} {d : List Value} (h : Lo [v] d) (hv : ∀ x, v ≠ .int .i64 x) : d = [v] := by
  obtain ⟨h1, h2⟩ := h
  match d, h1 with
  | [u], _ =>
    rcases h2 0 v rfl with e | ⟨⟨x, e⟩, _⟩
    · simp at e; rw [e]
    · exact absurd e (hv x)
theorem Lo.num {x : Int} {d : List Value} (h : Lo [.int .i64 x] d) : ∃ y, d = [.int .i64 y] := by
  obtain ⟨h1, h2⟩ := h
  match d, h1 with
  | [u], _ =>
    rcases h2 0 _ rfl with e | ⟨_, y, e⟩
    · simp at e; exact ⟨x, by rw [e]⟩
    · simp at e; exact ⟨y, by rw [e]⟩

def LoH (H H' : AHeap) : Prop := ∀ b B, H.get b = some B → ∃ B', H'.get b = some B' ∧ Lo B.cells B'.cells
def Rp.Loose {α : Type} (r : Rp α) : Prop := ∀ {H H' : AHeap} {cs cs' : List Value} {x : α} {f : List Nat}, LoH H H' → Lo cs cs' → r.E H cs x f → r.E H' cs' x f
theorem loose_hole : Rp.hole.Loose := fun hH hc ⟨⟨x, e⟩, hf⟩ => by subst e; exact ⟨hc.num, hf⟩
theorem loose_bool : Rp.bool.Loose := fun hH hc ⟨e, hf⟩ => by subst e; exact ⟨hc.one (by simp), hf⟩
theorem loose_pair {α β : Type} {a : Rp α} {b : Rp β} (ha : a.Loose) (hb : b.Loose) : (Rp.pair a b).Loose := fun hH hc ⟨c1, c2, f1, f2, e1, e2, h1, h2⟩ => by
  subst e1
  obtain ⟨d1, d2, rfl, l1, l2⟩ := hc.split
  exact ⟨d1, d2, f1, f2, rfl, e2, ha hH l1 h1, hb hH l2 h2⟩
theorem Arr.loose {α : Type} {r : Rp α} (hr : r.Loose) {H H' : AHeap} (hH : LoH H H') : ∀ {cs cs' : List Value} {l : List α} {f : List Nat}, Arr r H cs l f → Lo cs cs' → Arr r H' cs' l f
  | cs, cs', [], f, h, _ => h
  | cs, cs', x :: l, f, h, hc => by
    obtain ⟨c, c', f1, f2, rfl, rfl, h1, h2⟩ := h
    obtain ⟨d1, d2, rfl, l1, l2⟩ := hc.split
    exact ⟨d1, d2, f1, f2, rfl, rfl, hr hH l1 h1, h2.loose hr hH l2⟩
theorem Sl.loose {α : Type} {r : Rp α} (hr : r.Loose) {H H' : AHeap} (hH : LoH H H') {v : Value} {l : List α} {f : List Nat} (h : Sl r H v l f) : Sl r H' v l f := by
  rcases h with h | h | ⟨b, o, c, B, g, h1, h2, h3, rfl, h4, h5⟩
  · exact .inl h
  · exact .inr (.inl h)
  · obtain ⟨B', hB, hl⟩ := hH b B h4
    exact .inr (.inr ⟨b, o, c, B', g, h1, h2, h3, rfl, hB, h5.loose hr hH (hl.drop o)⟩)
theorem loose_slice {α : Type} {r : Rp α} (hr : r.Loose) : (Rp.slice r).Loose := fun hH hc ⟨v, e, h⟩ => by
  subst e
  obtain ⟨a, c, rfl⟩ := h.val
  rw [hc.one (by simp)]
  exact ⟨_, rfl, h.loose hr hH⟩

/-- Numbers were written over numbers, in blocks from n on. -/
structure Tw (n : Nat) (H H' : AHeap) : Prop where
  nx : H'.next = H.next
  low : ∀ b, b < n → H'.get b = H.get b
  lo : LoH H H'
  ro : ∀ b B, H'.get b = some B → B.ro = true → H.get b = some B
theorem Tw.refl (n : Nat) (H : AHeap) : Tw n H H := ⟨rfl, fun _ _ => rfl, fun b B h => ⟨B, h, .refl _⟩, fun _ _ h _ => h⟩
theorem Tw.set {n : Nat} {H H1 : AHeap} (h : Tw n H H1) {b k : Nat} {B : ABlk} {x y : Int} (hb : n ≤ b) (hB : H1.get b = some B) (hk : B.cells[k]? = some (.int .i64 x)) : Tw n H (H1.upd b ⟨B.cells.set k (.int .i64 y), B.elem, B.opn, false⟩) :=
  ⟨h.nx, fun c hc => by rw [get_upd, if_neg (by omega)]; exact h.low c hc, fun c C hC => by
    obtain ⟨C', h1, h2⟩ := h.lo c C hC
    by_cases e : c = b
    · subst e
      rw [hB] at h1
      cases h1
      exact ⟨_, by rw [get_upd, if_pos rfl], h2.trans (.set hk)⟩
    · exact ⟨C', by rw [get_upd, if_neg e]; exact h1, h2⟩, fun c C hC hr => by
    rw [get_upd] at hC
    split at hC
    · cases hC; cases hr
    · exact h.ro c C hC hr⟩
theorem Tw.trans {n : Nat} {H H1 H2 : AHeap} (h : Tw n H H1) (h' : Tw n H1 H2) : Tw n H H2 := ⟨h'.nx.trans h.nx, fun b hb => (h'.low b hb).trans (h.low b hb), fun b B hB => by
  obtain ⟨B1, h1, l1⟩ := h.lo b B hB
  obtain ⟨B2, h2, l2⟩ := h'.lo b B1 h1
  exact ⟨B2, h2, l1.trans l2⟩, fun b B hB hr => h.ro b B (h'.ro b B hB hr) hr⟩
theorem Tw.old {H H1 H2 : AHeap} (ho : Old H H1) (h : Tw H.next H1 H2) : Old H H2 := ⟨by rw [h.nx]; exact ho.nx, fun b hb => (h.low b hb).trans (ho.get b hb), fun b B hB hr => ho.ro b B (h.ro b B hB hr) hr⟩
end Go.Proofs.Ytgjpcliaggpcaaa.Ab
