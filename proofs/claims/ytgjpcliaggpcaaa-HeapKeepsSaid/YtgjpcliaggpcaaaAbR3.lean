/- Slices turned in their places. -/
import Derived.Test.YtgjpcliaggpcaaaAbR2
set_option linter.unusedVariables false
set_option linter.unusedSimpArgs false
namespace Go.Proofs.Ytgjpcliaggpcaaa.Ab
open Go

theorem splice_same {cs : List Value} {o n : Nat} (h : o + n ≤ cs.length) : spliceA cs o ((cs.drop o).take n) = cs := by
  unfold spliceA
  have e : ((cs.drop o).take n).length = n := by simp; omega
  rw [e]
  have h1 : (cs.drop o).take n ++ cs.drop (o + n) = cs.drop o := by rw [← List.drop_drop]; exact List.take_append_drop n (cs.drop o)
  rw [h1, List.take_append_drop]
theorem splice_drop {cs vs : List Value} {o k : Nat} : (spliceA cs (o + k) vs).drop o = spliceA (cs.drop o) k vs ∨ cs.length < o + k := by
  by_cases h : o + k ≤ cs.length
  · left
    unfold spliceA
    rw [List.drop_append_of_le_length (by simp; omega), List.drop_take, List.drop_drop]
    congr 1
    · congr 1; omega
    · rw [Nat.add_assoc]
  · right; omega
theorem splice_len {cs vs : List Value} {o : Nat} (h : o + vs.length ≤ cs.length) : (spliceA cs o vs).length = cs.length := by
  simp [spliceA]; omega

/-- An element of a slice, in its place: read, and turned. -/
theorem Sl.put {α : Type} {r : Rp α} {H : AHeap} {v : Value} {l : List α} {f : List Nat} (h : Sl r H v l f) {i : Nat} (hi : i < l.length) :
    ∃ b o c B f1 f2 f3, v = .slice (some ⟨b, o, none⟩) l.length c ∧ l.length ≤ c ∧ H.get b = some B ∧ f = b :: (f1 ++ (f2 ++ f3)) ∧ o + i * r.sz + r.sz ≤ B.cells.length ∧ r.E H ((B.cells.drop (o + i * r.sz)).take r.sz) l[i] f2 ∧
      ∀ (H' : AHeap) (B' : ABlk) c' y f', (∀ z, z ∈ f1 ∨ z ∈ f3 → H'.get z = H.get z) → H'.get b = some B' → B'.cells = spliceA B.cells (o + i * r.sz) c' → r.E H' c' y f' → Sl r H' v (l.set i y) (b :: (f1 ++ (f' ++ f3))) := by
  rcases h with ⟨_, rfl, _⟩ | ⟨a, c, _, rfl, _⟩ | ⟨b, o, c, B, g, rfl, h2, h3, rfl, h4, h5⟩
  · simp at hi
  · simp at hi
  · obtain ⟨f1, f2, f3, rfl, h6, h7, h8⟩ := h5.put hi
    rw [List.length_drop] at h6
    rw [List.drop_drop] at h7
    have hp := r.pos
    refine ⟨b, o, c, B, f1, f2, f3, rfl, h3, h4, rfl, by omega, h7, fun H' B' c' y f' hk hB' hcs hE => ?_⟩
    refine .inr (.inr ⟨b, o, c, B', f1 ++ (f' ++ f3), by simp, by rw [Ne, ← List.length_eq_zero_iff]; simp; omega, by simpa using h3, rfl, hB', ?_⟩)
    have := h8 H' c' y f' hk hE
    rw [hcs]
    rcases splice_drop (cs := B.cells) (vs := c') (o := o) (k := i * r.sz) with e | e
    · rw [e]; exact this
    · omega
/-- The same row that grows. -/
theorem Ow.put {α : Type} {r : Rp α} {ty : TypeId} {H : AHeap} {v : Value} {l : List α} {f : List Nat} (h : Ow r ty H v l f) {i : Nat} (hi : i < l.length) :
    ∃ b cs f1 f2 f3, v = .slice (some ⟨b, 0, none⟩) l.length l.length ∧ H.get b = some ⟨cs, ty, true, false⟩ ∧ f = b :: (f1 ++ (f2 ++ f3)) ∧ i * r.sz + r.sz ≤ cs.length ∧ r.E H ((cs.drop (i * r.sz)).take r.sz) l[i] f2 ∧
      ∀ (H' : AHeap) c' y f', (∀ z, z ∈ f1 ∨ z ∈ f3 → H'.get z = H.get z) → H'.get b = some ⟨spliceA cs (i * r.sz) c', ty, true, false⟩ → r.E H' c' y f' → Ow r ty H' v (l.set i y) (b :: (f1 ++ (f' ++ f3))) := by
  rcases h with ⟨_, rfl, _⟩ | ⟨b, cs, g, rfl, h2, rfl, h4, h5, h6⟩
  · simp at hi
  · obtain ⟨f1, f2, f3, rfl, h7, h8, h9⟩ := h6.put hi
    refine ⟨b, cs, f1, f2, f3, rfl, h4, rfl, h7, h8, fun H' c' y f' hk hB' hE => ?_⟩
    have e := r.len hE
    refine .inr ⟨b, _, f1 ++ (f' ++ f3), by simp, by rw [Ne, ← List.length_eq_zero_iff]; simp; omega, rfl, hB', ?_, h9 H' c' y f' hk hE⟩
    rw [splice_len (by omega), List.length_set]; exact h5

theorem Arr.none_take {α : Type} {r : Rp α} {H : AHeap} {cs : List Value} {l : List α} {f : List Nat} (h : Arr r H cs l f) (k : Nat) : ∃ g, Arr r H cs (l.take k) g ∧ ∀ y ∈ g, y ∈ f := by
  have h1 := h
  rw [← List.take_append_drop k l] at h1
  obtain ⟨c1, c2, f1, f2, rfl, rfl, e, h2, h3⟩ := h1.split
  exact ⟨f1, h2.more c2, fun y hy => by simp [hy]⟩
section
variable {P : Program} {H : AHeap}
/-- A slice cut at its end. -/
theorem Sl.to {α : Type} {r : Rp α} {v : Value} {l : List α} {f : List Nat} {t e : TypeId} {k : Nat} (h : Sl r H v l f) (he : elK P t = some (e, r.sz)) (hk : k ≤ l.length) :
    ∃ v' g, sliceK P t v none (some (.int .i64 (k : Nat))) none h0 = .ok v' h0 ∧ Sl r H v' (l.take k) g ∧ ∀ y ∈ g, y ∈ f := by
  have hu : P.underlying t = some (.slice e) ∧ sizeK P e = some r.sz := by
    unfold elK at he
    split at he
    · rename_i e1 hu
      split at he
      · rename_i s hs; cases he; exact ⟨hu, hs⟩
      · cases he
    · cases he
  have hlen : (l.take k).length = k := by simp; omega
  have key : ∀ (b o n c : Nat), k ≤ c → sliceK P t (.slice (some ⟨b, o, none⟩) n c) none (some (.int .i64 (k : Nat))) none h0 = .ok (.slice (some ⟨b, o, none⟩) k c) h0 := fun b o n c hc => by
    simp only [sliceK, hu.1, hu.2, bndK]
    show (bif Nat.ble 0 k && Nat.ble k c then (bif Nat.blt 0 c || Nat.beq 0 0 then KO.ok _ _ else _) else .no) = _
    have h1 : (Nat.ble 0 k && Nat.ble k c) = true := by simp [ble_eq]; omega
    have h2 : (Nat.blt 0 c || Nat.beq 0 0) = true := by simp [beq_eq]
    rw [h1, cond_true, h2, cond_true]; simp
  rcases h with ⟨rfl, rfl, rfl⟩ | ⟨⟨b, o, sp⟩, c, rfl, rfl, rfl⟩ | ⟨b, o, c, B, g, rfl, h2, h3, rfl, h4, h5⟩
  · have : k = 0 := by simpa using hk
    subst this
    refine ⟨.slice none 0 0, [], ?_, .inl ⟨rfl, rfl, rfl⟩, by simp⟩
    simp only [sliceK, hu.1, hu.2, bndK]
    rfl
  · have : k = 0 := by simpa using hk
    subst this
    cases sp with
    | none => exact ⟨_, [], key b o 0 c (Nat.zero_le _), .inr (.inl ⟨_, c, rfl, by simp, rfl⟩), by simp⟩
    | some sp =>
      refine ⟨.slice (some ⟨b, o, some sp⟩) 0 0, [], ?_, .inr (.inl ⟨_, 0, rfl, by simp, rfl⟩), by simp⟩
      simp only [sliceK, hu.1, hu.2, bndK]
      rfl
  · refine (by
      obtain ⟨g2, h6, h7⟩ := h5.none_take k
      by_cases hk0 : k = 0
      · subst hk0
        exact ⟨_, [], key b o _ c (Nat.zero_le _), .inr (.inl ⟨_, c, rfl, by simp, rfl⟩), by simp⟩
      · refine ⟨_, b :: g2, key b o _ c (by omega), .inr (.inr ⟨b, o, c, B, g2, by rw [hlen], fun e => ?_, by omega, rfl, h4, h6⟩), fun y hy => ?_⟩
        · have := congrArg List.length e; rw [hlen] at this; exact hk0 (by simpa using this)
        · rcases List.mem_cons.1 hy with e | e
          · simp [e]
          · simp [h7 y e])
@[go_sem] theorem min_nat {a b : Nat} {h : KH} {k k' : IntKind} : minK false (.int k (a : Nat)) (.int k' (b : Nat)) h = .ok (.int k ((min a b : Nat) : Int)) h := by
  simp only [minK, iLt_eq, cond_false]
  by_cases hb : (b : Int) < a
  · simp only [hb, decide_true, cond_true]; rw [Nat.min_eq_right (by omega)]
  · simp only [hb, decide_false, cond_false]; rw [Nat.min_eq_left (by omega)]
end
theorem arr_ints (H : AHeap) : ∀ xs : List Int, Arr .int H (xs.map (.int .i64)) xs []
  | [] => rfl
  | x :: xs => ⟨[.int .i64 x], xs.map (.int .i64), [], [], rfl, rfl, ⟨rfl, rfl⟩, arr_ints H xs⟩
/-- A slice of whole numbers that came in. -/
theorem ints_sl {w : World} {v : Value} {xs : List Int} {e : TypeId} {tb : List InRow} {i : Nat} (h : IntsIn w v xs) (hi : tb[i]? = some (intsRow e v xs)) : ∃ f, Sl .int (inHeap tb) (intsA i v xs) xs f ∧ ∀ y ∈ f, y < (inHeap tb).next := by
  have hlt : i < tb.length := (List.getElem?_eq_some_iff.1 hi).1
  rcases ints_see h hi with ⟨h1, h2⟩ | ⟨c, h1, h2, h3⟩
  · exact ⟨[], .inl ⟨h1, h2, rfl⟩, by simp⟩
  · by_cases hx : xs = []
    · subst hx; exact ⟨[], .inr (.inl ⟨_, _, h1, rfl, rfl⟩), by simp⟩
    · exact ⟨[i], .inr (.inr ⟨_, _, _, _, [], h1, hx, h2, rfl, h3 hx, arr_ints _ xs⟩), by simpa [inHeap] using hlt⟩
attribute [go_sem] Int.reduceEq Int.reduceLT Int.reduceLE decide_true decide_false Nat.left_eq_add Nat.add_eq_left Nat.add_left_cancel_iff Nat.reduceEqDiff Nat.add_zero Nat.mul_one
end Go.Proofs.Ytgjpcliaggpcaaa.Ab
