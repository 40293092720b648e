/- What cells stand for: data laid in the abstract heap, with the blocks that they lean on. -/
import Derived.Test.YtgjpcliaggpcaaaAbW7
set_option linter.unusedVariables false
set_option linter.unusedSimpArgs false
namespace Go.Proofs.Ytgjpcliaggpcaaa.Ab
open Go

/-- A kind of data: how many cells it takes, and what cells stand for it; the blocks that it leans on are listed. -/
structure Rp (α : Type) where
  sz : Nat
  pos : 0 < sz
  E : AHeap → List Value → α → List Nat → Prop
  len : ∀ {H cs x f}, E H cs x f → cs.length = sz
  keep : ∀ {H H' cs x f}, E H cs x f → (∀ b ∈ f, H'.get b = H.get b) → E H' cs x f

def Rp.int : Rp Int := ⟨1, by decide, fun _ cs x f => cs = [.int .i64 x] ∧ f = [], fun h => by rw [h.1]; rfl, fun h _ => h⟩
def Rp.bool : Rp Bool := ⟨1, by decide, fun _ cs x f => cs = [.bool x] ∧ f = [], fun h => by rw [h.1]; rfl, fun h _ => h⟩
def Rp.str : Rp (List UInt8) := ⟨1, by decide, fun _ cs x f => cs = [.string ⟨x.toArray⟩] ∧ f = [], fun h => by rw [h.1]; rfl, fun h _ => h⟩
def Rp.pair {α β : Type} (a : Rp α) (b : Rp β) : Rp (α × β) := ⟨a.sz + b.sz, by have := a.pos; omega, fun H cs x f => ∃ c1 c2 f1 f2, cs = c1 ++ c2 ∧ f = f1 ++ f2 ∧ a.E H c1 x.1 f1 ∧ b.E H c2 x.2 f2,
  fun ⟨c1, c2, f1, f2, h, _, h1, h2⟩ => by rw [h, List.length_append, a.len h1, b.len h2],
  fun ⟨c1, c2, f1, f2, h, hf, h1, h2⟩ hk => ⟨c1, c2, f1, f2, h, hf, a.keep h1 fun b hb => hk b (by rw [hf]; simp [hb]), b.keep h2 fun b hb => hk b (by rw [hf]; simp [hb])⟩⟩
def Rp.iso {α β : Type} (a : Rp α) (g : β → α) : Rp β := ⟨a.sz, a.pos, fun H cs x f => a.E H cs (g x) f, fun h => a.len h, fun h hk => a.keep h hk⟩

/-- Rows of cells, one behind the other. -/
def Arr {α : Type} (r : Rp α) (H : AHeap) : List Value → List α → List Nat → Prop
  | cs, [], f => f = []
  | cs, x :: l, f => ∃ c cs' f1 f2, cs = c ++ cs' ∧ f = f1 ++ f2 ∧ r.E H c x f1 ∧ Arr r H cs' l f2

theorem Arr.len {α : Type} {r : Rp α} {H : AHeap} : ∀ {cs : List Value} {l : List α} {f : List Nat}, Arr r H cs l f → l.length * r.sz ≤ cs.length
  | cs, [], f, h => by simp
  | cs, x :: l, f, h => by
    obtain ⟨c, cs', f1, f2, rfl, _, h1, h2⟩ := h
    have e1 := r.len h1
    have e2 := Arr.len h2
    rw [List.length_cons, Nat.add_mul, List.length_append]; omega
theorem Arr.keep {α : Type} {r : Rp α} {H H' : AHeap} : ∀ {cs : List Value} {l : List α} {f : List Nat}, Arr r H cs l f → (∀ b ∈ f, H'.get b = H.get b) → Arr r H' cs l f
  | cs, [], f, h, _ => h
  | cs, x :: l, f, h, hk => by
    obtain ⟨c, cs', f1, f2, rfl, rfl, h1, h2⟩ := h
    exact ⟨c, cs', f1, f2, rfl, rfl, r.keep h1 fun b hb => hk b (by simp [hb]), h2.keep fun b hb => hk b (by simp [hb])⟩
/-- Cells behind do not matter. -/
theorem Arr.more {α : Type} {r : Rp α} {H : AHeap} : ∀ {cs : List Value} {l : List α} {f : List Nat} (ds : List Value), Arr r H cs l f → Arr r H (cs ++ ds) l f
  | cs, [], f, ds, h => h
  | cs, x :: l, f, ds, h => by
    obtain ⟨c, cs', f1, f2, rfl, rfl, h1, h2⟩ := h
    exact ⟨c, cs' ++ ds, f1, f2, by simp, rfl, h1, h2.more ds⟩
theorem Arr.split {α : Type} {r : Rp α} {H : AHeap} : ∀ {l1 l2 : List α} {cs : List Value} {f : List Nat}, Arr r H cs (l1 ++ l2) f → ∃ c1 c2 f1 f2, cs = c1 ++ c2 ∧ f = f1 ++ f2 ∧ c1.length = l1.length * r.sz ∧ Arr r H c1 l1 f1 ∧ Arr r H c2 l2 f2
  | [], l2, cs, f, h => ⟨[], cs, [], f, rfl, rfl, by simp, rfl, h⟩
  | x :: l1, l2, cs, f, h => by
    obtain ⟨c, cs', f1, f2, rfl, rfl, h1, h2⟩ := h
    obtain ⟨c1, c2, g1, g2, rfl, rfl, e, h3, h4⟩ := h2.split
    exact ⟨c ++ c1, c2, f1 ++ g1, g2, by simp, by simp, by rw [List.length_append, e, r.len h1, List.length_cons, Nat.add_mul]; omega, ⟨c, c1, f1, g1, rfl, rfl, h1, h3⟩, h4⟩
theorem Arr.join {α : Type} {r : Rp α} {H : AHeap} : ∀ {l1 l2 : List α} {c1 c2 : List Value} {f1 f2 : List Nat}, c1.length = l1.length * r.sz → Arr r H c1 l1 f1 → Arr r H c2 l2 f2 → Arr r H (c1 ++ c2) (l1 ++ l2) (f1 ++ f2)
  | [], l2, c1, c2, f1, f2, e, h1, h2 => by
    have : c1 = [] := List.length_eq_zero_iff.1 (by simpa using e)
    have h3 : f1 = [] := h1
    rw [this, h3]; exact h2
  | x :: l1, l2, c1, c2, f1, f2, e, h1, h2 => by
    obtain ⟨c, cs', g1, g2, rfl, rfl, h3, h4⟩ := h1
    have e1 := r.len h3
    exact ⟨c, cs' ++ c2, g1, g2 ++ f2, by simp, by simp, h3, h4.join (by rw [List.length_append, List.length_cons, Nat.add_mul] at e; omega) h2⟩
theorem Arr.one {α : Type} {r : Rp α} {H : AHeap} {c : List Value} {x : α} {f : List Nat} (h : r.E H c x f) : Arr r H c [x] f := ⟨c, [], f, [], by simp, by simp, h, rfl⟩
theorem Arr.of_one {α : Type} {r : Rp α} {H : AHeap} {c : List Value} {x : α} {f : List Nat} (h : Arr r H c [x] f) : ∃ c1 c2, c = c1 ++ c2 ∧ r.E H c1 x f := by
  obtain ⟨c1, c2, f1, f2, rfl, rfl, h1, h2⟩ := h
  have h3 : f2 = [] := h2
  exact ⟨c1, c2, rfl, by rw [h3, List.append_nil]; exact h1⟩
/-- One of them. -/
theorem Arr.at {α : Type} {r : Rp α} {H : AHeap} {cs : List Value} {l : List α} {f : List Nat} (h : Arr r H cs l f) {i : Nat} {x : α} (hi : l[i]? = some x) :
    ∃ f1 f2 f3, f = f1 ++ (f2 ++ f3) ∧ i * r.sz + r.sz ≤ cs.length ∧ r.E H ((cs.drop (i * r.sz)).take r.sz) x f2 := by
  obtain ⟨hlt, rfl⟩ := List.getElem?_eq_some_iff.1 hi
  have hl : l = l.take i ++ (l[i] :: l.drop (i + 1)) := by simp
  rw [hl] at h
  obtain ⟨c1, c2, f1, f2, rfl, rfl, e, _, h2⟩ := h.split
  have e1 : (l.take i).length = i := by simp; omega
  rw [e1] at e
  obtain ⟨c, cs', g1, g2, rfl, rfl, h3, h4⟩ := h2
  have e2 := r.len h3
  refine ⟨f1, g1, g2, rfl, by simp; omega, ?_⟩
  rw [List.drop_append_of_le_length (by omega), ← e, List.drop_length, List.nil_append, List.take_append_of_le_length (by omega), List.take_of_length_le (by omega)]
  exact h3
/-- One turned. -/
theorem Arr.put {α : Type} {r : Rp α} {H : AHeap} {cs : List Value} {l : List α} {f : List Nat} (h : Arr r H cs l f) {i : Nat} (hi : i < l.length) :
    ∃ f1 f2 f3, f = f1 ++ (f2 ++ f3) ∧ i * r.sz + r.sz ≤ cs.length ∧ r.E H ((cs.drop (i * r.sz)).take r.sz) l[i] f2 ∧
      ∀ (H' : AHeap) c' y f', (∀ b, b ∈ f1 ∨ b ∈ f3 → H'.get b = H.get b) → r.E H' c' y f' → Arr r H' (spliceA cs (i * r.sz) c') (l.set i y) (f1 ++ (f' ++ f3)) := by
  have hl : l = l.take i ++ (l[i] :: l.drop (i + 1)) := by simp
  rw [hl] at h
  obtain ⟨c1, c2, f1, f2, rfl, rfl, e, h1, h2⟩ := h.split
  have e1 : (l.take i).length = i := by simp; omega
  rw [e1] at e
  obtain ⟨c, cs', g1, g2, rfl, rfl, h3, h4⟩ := h2
  have e2 := r.len h3
  refine ⟨f1, g1, g2, rfl, by simp; omega, ?_, fun H' c' y f' hk h' => ?_⟩
  · rw [List.drop_append_of_le_length (by omega), ← e, List.drop_length, List.nil_append, List.take_append_of_le_length (by omega), List.take_of_length_le (by omega)]
    exact h3
  · have e3 := r.len h'
    have hs : spliceA (c1 ++ (c ++ cs')) (i * r.sz) c' = c1 ++ (c' ++ cs') := by
      unfold spliceA
      rw [List.take_append_of_le_length (by omega), List.take_of_length_le (by omega), List.drop_append, List.drop_eq_nil_of_le (by omega), List.nil_append, List.drop_append_of_le_length (by omega), List.drop_eq_nil_of_le (by omega)]
      rfl
    rw [hs, List.set_eq_take_append_cons_drop, if_pos hi]
    exact Arr.join (by rw [e1]; exact e) (h1.keep fun b hb => hk b (.inl hb)) ⟨c', cs', f', g2, rfl, rfl, h', h4.keep fun b hb => hk b (.inr hb)⟩

/-- A slice's cell. -/
def Sl {α : Type} (r : Rp α) (H : AHeap) (v : Value) (l : List α) (f : List Nat) : Prop :=
  (v = .slice none 0 0 ∧ l = [] ∧ f = []) ∨ (∃ a c, v = .slice (some a) 0 c ∧ l = [] ∧ f = []) ∨
    ∃ b o c B g, v = .slice (some ⟨b, o, none⟩) l.length c ∧ l ≠ [] ∧ l.length ≤ c ∧ f = b :: g ∧ H.get b = some B ∧ Arr r H (B.cells.drop o) l g

theorem Sl.keep {α : Type} {r : Rp α} {H H' : AHeap} {v : Value} {l : List α} {f : List Nat} (h : Sl r H v l f) (hk : ∀ b ∈ f, H'.get b = H.get b) : Sl r H' v l f := by
  rcases h with h | h | ⟨b, o, c, B, g, h1, h2, h3, rfl, h4, h5⟩
  · exact .inl h
  · exact .inr (.inl h)
  · exact .inr (.inr ⟨b, o, c, B, g, h1, h2, h3, rfl, by rw [hk b (by simp)]; exact h4, h5.keep fun x hx => hk x (by simp [hx])⟩)
def Rp.slice {α : Type} (r : Rp α) : Rp (List α) := ⟨1, by decide, fun H cs l f => ∃ v, cs = [v] ∧ Sl r H v l f, fun ⟨v, h, _⟩ => by rw [h]; rfl, fun ⟨v, h, hs⟩ hk => ⟨v, h, hs.keep hk⟩⟩

theorem Sl.val {α : Type} {r : Rp α} {H : AHeap} {v : Value} {l : List α} {f : List Nat} (h : Sl r H v l f) : ∃ a c, v = .slice a l.length c := by
  rcases h with ⟨rfl, rfl, _⟩ | ⟨a, c, rfl, rfl, _⟩ | ⟨b, o, c, B, g, rfl, _⟩ <;> exact ⟨_, _, rfl⟩
/-- An element that is read. -/
theorem Sl.at {α : Type} {r : Rp α} {H : AHeap} {v : Value} {l : List α} {f : List Nat} (h : Sl r H v l f) {i : Nat} {x : α} (hi : l[i]? = some x) :
    ∃ b o c B g, v = .slice (some ⟨b, o, none⟩) l.length c ∧ H.get b = some B ∧ b ∈ f ∧ (∀ y ∈ g, y ∈ f) ∧ o + i * r.sz + r.sz ≤ B.cells.length ∧ r.E H ((B.cells.drop (o + i * r.sz)).take r.sz) x g := by
  have hlt := (List.getElem?_eq_some_iff.1 hi).1
  rcases h with ⟨_, rfl, _⟩ | ⟨a, c, _, rfl, _⟩ | ⟨b, o, c, B, g, rfl, h2, h3, rfl, h4, h5⟩
  · simp at hlt
  · simp at hlt
  · obtain ⟨f1, f2, f3, rfl, h6, h7⟩ := h5.at hi
    rw [List.length_drop] at h6
    rw [List.drop_drop] at h7
    exact ⟨b, o, c, B, f2, rfl, h4, by simp, fun y hy => by simp [hy], by have := r.pos; omega, h7⟩
/-- What a slice hands on whole. -/
theorem Sl.src {α : Type} {r : Rp α} {H : AHeap} {v : Value} {l : List α} {f : List Nat} (h : Sl r H v l f) {size : Nat} (hs : size = r.sz) : ∃ cs g, srcA size v H = some (l.length, cs) ∧ cs.length = l.length * r.sz ∧ Arr r H cs l g ∧ (∀ y ∈ g, y ∈ f) := by
  subst hs
  rcases h with ⟨rfl, rfl, _⟩ | ⟨a, c, rfl, rfl, _⟩ | ⟨b, o, c, B, g, rfl, h2, h3, rfl, h4, h5⟩
  · exact ⟨[], [], rfl, by simp, rfl, by simp⟩
  · exact ⟨[], [], rfl, by simp, rfl, by simp⟩
  · have e := h5.len
    rw [List.length_drop] at e
    have hpos : 0 < l.length := List.length_pos_iff.2 h2
    have h6 : 0 < l.length * r.sz := Nat.mul_pos hpos r.pos
    have hsp : B.cells.drop o = (B.cells.drop o).take (l.length * r.sz) ++ (B.cells.drop o).drop (l.length * r.sz) := (List.take_append_drop _ _).symm
    have h7 := h5
    rw [← List.append_nil l] at h7
    obtain ⟨c1, c2, f1, f2, h8, h9, h10, h11, h12⟩ := h7.split
    have h13 : f2 = [] := h12
    refine ⟨(B.cells.drop o).take (l.length * r.sz), g, ?_, by simp; omega, ?_, fun y hy => by simp [hy]⟩
    · simp only [srcA]
      rw [if_neg (by omega), h4]
      simp only
      rw [if_pos (by omega)]
    · rw [h8, List.take_append_of_le_length (by omega), List.take_of_length_le (by omega), h9, h13, List.append_nil]
      exact h11
end Go.Proofs.Ytgjpcliaggpcaaa.Ab
