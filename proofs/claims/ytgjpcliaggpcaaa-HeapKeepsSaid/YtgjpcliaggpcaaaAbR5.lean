/- What came in, whatever its depth, as rows of the abstract heap: whole numbers, bools, strings, structs of two or three, slices of these. -/
import Derived.Test.YtgjpcliaggpcaaaAbR4
import Derived.ChangeArms
import Derived.ChangeSlices
import Derived.Deep.Slices
import Derived.DataReads
set_option linter.unusedVariables false
set_option linter.unusedSimpArgs false
namespace Go.Proofs.Ytgjpcliaggpcaaa.Ab
open Go Go.ChangeShapes Go.WideShapes Go.Deep Classical

theorem inSig_up {tb more : List InRow} {b : Nat} {l : Loc} (h : inSig tb b = some l) : inSig (tb ++ more) b = some l := by
  unfold inSig at h ⊢
  cases hr : tb[b]? with
  | none => rw [hr] at h; cases h
  | some r =>
    rw [List.getElem?_append_left (List.getElem?_eq_some_iff.1 hr).1, hr]
    rw [hr] at h
    exact h
theorem inHeap_up {tb more : List InRow} {b : Nat} (hb : b < tb.length) : (inHeap (tb ++ more)).get b = (inHeap tb).get b := by
  simp only [inHeap, List.getElem?_append_left hb]
theorem cell_spot {w : World} {a : Addr} {v : Value} (h : w.cell? a = some v) : a.spot = none := by
  unfold World.cell? at h
  split at h
  · split at h
    · cases h
    · rename_i hs
      cases hsp : a.spot with
      | none => rfl
      | some s => rw [hsp] at hs; simp at hs
  · cases h

/-- Cells of what came in can be laid as rows. -/
def Laid {α : Type} (r : Rp α) (w : World) (v : α) (cs : List Value) : Prop :=
  ∀ tb, InOk tb w → ∃ more acs f, InOk (tb ++ more) w ∧ r.E (inHeap (tb ++ more)) acs v f ∧ VL (inSig (tb ++ more)) acs cs ∧ ∀ b ∈ f, b < (tb ++ more).length

structure Comes {α : Type} (P : Program) (t : TypeId) (r : Rp α) (Q : α → Prop) : Prop where
  cells : P.cellsOf t = r.sz
  reads : ∀ {H : Type} (enc : TypeId × Value → H) (w : World) (base : Nat) (spare : Nat → Bool) (held : Bool) (fuel : Nat) (cs : List Value) (x : DataW H × List MemPlace),
    DataW.trod enc P w base spare held fuel t cs = some x → ∃ v, Q v ∧ Laid r w v cs

theorem comes_int {P : Program} {t : TypeId} (ht : P.underlying t = some (.int .i64)) (hC : P.cellsOf t = 1) : Comes P t .int (fun n => (Lit.int .i64 n).wf = true) :=
  ⟨hC, fun enc w base spare held fuel cs x h => by
    obtain ⟨n, rfl, _, hw⟩ := DataW.trod_int ht h
    exact ⟨n, hw, fun tb ht => ⟨[], [.int .i64 n], [], by rw [List.append_nil]; exact ht, ⟨rfl, rfl⟩, .cons (.same rfl) (.nil _), by simp⟩⟩⟩
theorem comes_bool {P : Program} {t : TypeId} (ht : P.underlying t = some .bool) (hC : P.cellsOf t = 1) : Comes P t .bool (fun _ => True) :=
  ⟨hC, fun enc w base spare held fuel cs x h => by
    obtain ⟨b, rfl, _⟩ := DataW.trod_bool ht h
    exact ⟨b, trivial, fun tb ht => ⟨[], [.bool b], [], by rw [List.append_nil]; exact ht, ⟨rfl, rfl⟩, .cons (.same rfl) (.nil _), by simp⟩⟩⟩
theorem Laid.pair {α β : Type} {a : Rp α} {b : Rp β} {w : World} {x : α} {y : β} {c1 c2 : List Value} (h1 : Laid a w x c1) (h2 : Laid b w y c2) : Laid (.pair a b) w (x, y) (c1 ++ c2) := fun tb ht => by
  obtain ⟨m1, a1, f1, k1, e1, v1, b1⟩ := h1 tb ht
  obtain ⟨m2, a2, f2, k2, e2, v2, b2⟩ := h2 _ k1
  refine ⟨m1 ++ m2, a1 ++ a2, f1 ++ f2, by rw [← List.append_assoc]; exact k2, ?_, ?_, ?_⟩
  · rw [← List.append_assoc]
    exact ⟨a1, a2, f1, f2, rfl, rfl, a.keep e1 fun i hi => inHeap_up (b1 i hi), e2⟩
  · rw [← List.append_assoc]
    exact (v1.mono fun i l h => inSig_up h).append v2
  · intro i hi
    rw [← List.append_assoc]
    rcases List.mem_append.1 hi with hi | hi
    · have := b1 i hi; rw [List.length_append]; omega
    · exact b2 i hi
theorem Laid.iso {α β : Type} {a : Rp α} {g : β → α} {w : World} {y : β} {c : List Value} (h : Laid a w (g y) c) : Laid (.iso a g) w y c := h
theorem comes_struct2 {α β γ : Type} {P : Program} {t : TypeId} {f0 f1 : Field} {k0 : Rp α} {k1 : Rp β} {Q0 : α → Prop} {Q1 : β → Prop} (hs : P.underlying t = some (.struct #[f0, f1]))
    (h0 : Comes P f0.type k0 Q0) (h1 : Comes P f1.type k1 Q1) (o0 : f0.offset = 0) (o1 : f1.offset = k0.sz) (hC : P.cellsOf t = k0.sz + k1.sz) (g : γ → α × β) (mk : α → β → γ) (hg : ∀ a b, g (mk a b) = (a, b)) :
    Comes P t (.iso (.pair k0 k1) g) (fun x => Q0 (g x).1 ∧ Q1 (g x).2) :=
  ⟨hC, fun enc w base spare held fuel cs x h => by
    obtain ⟨xs, n, _, _, hlen, hxl, hf⟩ := DataW.trod_struct hs h
    have hx2 : xs.length = 2 := by simpa using hxl
    have e0 : xs[0]? = some (xs[0]'(by omega)) := List.getElem?_eq_getElem (by omega)
    have e1 : xs[1]? = some (xs[1]'(by omega)) := List.getElem?_eq_getElem (by omega)
    obtain ⟨v0, q0, a0⟩ := h0.reads enc w base spare held n _ _ ((hf 0 f0 rfl).trans e0)
    obtain ⟨v1, q1, a1⟩ := h1.reads enc w base spare held n _ _ ((hf 1 f1 rfl).trans e1)
    rw [o0, h0.cells, List.drop_zero] at a0
    rw [o1, h1.cells] at a1
    have hl : (cs.drop k0.sz).take k1.sz = cs.drop k0.sz := List.take_of_length_le (by simp; omega)
    rw [hl] at a1
    refine ⟨mk v0 v1, by rw [hg]; exact ⟨q0, q1⟩, ?_⟩
    have := a0.pair a1
    rw [List.take_append_drop] at this
    refine Laid.iso ?_
    rw [hg]; exact this⟩

/-- Rows of cells that came in. -/
theorem laid_row {α : Type} {r : Rp α} {w : World} {a : Addr} {f : Nat → α} : ∀ (n : Nat), (∀ i, i < n → ∃ cs, cs.length = r.sz ∧ (∀ j, j < r.sz → w.cell? (a.add (i * r.sz + j)) = cs[j]?) ∧ Laid r w (f i) cs) → ∀ tb, InOk tb w →
    ∃ more acs g, InOk (tb ++ more) w ∧ Arr r (inHeap (tb ++ more)) acs ((List.range n).map f) g ∧ acs.length = n * r.sz ∧ (∀ j, j < acs.length → ∃ v', w.cell? (a.add j) = some v' ∧ VR (inSig (tb ++ more)) (acs.getD j undef) v') ∧ ∀ b ∈ g, b < (tb ++ more).length
  | 0, _, tb, ht => ⟨[], [], [], by rw [List.append_nil]; exact ht, rfl, by simp, by simp, by simp⟩
  | n + 1, h, tb, ht => by
    obtain ⟨m1, a1, g1, k1, e1, l1, v1, b1⟩ := laid_row n (fun i hi => h i (by omega)) tb ht
    obtain ⟨cs, hcl, hcc, hl⟩ := h n (by omega)
    obtain ⟨m2, a2, g2, k2, e2, v2, b2⟩ := hl _ k1
    have l2 := r.len e2
    refine ⟨m1 ++ m2, a1 ++ a2, g1 ++ g2, by rw [← List.append_assoc]; exact k2, ?_, ?_, ?_, ?_⟩
    · rw [← List.append_assoc, List.range_succ, List.map_append]
      exact Arr.join (by simpa using l1) (e1.keep fun i hi => inHeap_up (b1 i hi)) (Arr.one e2)
    · rw [List.length_append, l1, l2, Nat.add_mul]; omega
    · intro j hj
      rw [List.length_append, l1, l2] at hj
      rw [← List.append_assoc]
      by_cases hjl : j < a1.length
      · obtain ⟨v', hv, hr⟩ := v1 j hjl
        refine ⟨v', hv, ?_⟩
        rw [show (a1 ++ a2).getD j undef = a1.getD j undef from by simp [List.getD_eq_getElem?_getD, List.getElem?_append_left hjl]]
        exact hr.mono fun i l h => inSig_up h
      · have hk : j - n * r.sz < r.sz := by omega
        have hc := hcc _ hk
        rw [show n * r.sz + (j - n * r.sz) = j from by omega, List.getElem?_eq_getElem (by omega)] at hc
        refine ⟨_, hc, ?_⟩
        rw [show (a1 ++ a2).getD j undef = a2.getD (j - n * r.sz) undef from by simp [List.getD_eq_getElem?_getD, List.getElem?_append_right (Nat.le_of_not_lt hjl), l1]]
        have := v2.at (j - n * r.sz)
        rwa [show cs.getD (j - n * r.sz) undef = cs[j - n * r.sz]'(by omega) from by rw [List.getD_eq_getElem?_getD, List.getElem?_eq_getElem (by omega)]; rfl] at this
    · intro i hi
      rw [← List.append_assoc]
      rcases List.mem_append.1 hi with hi | hi
      · have := b1 i hi; rw [List.length_append]; omega
      · exact b2 i hi

/-- A slice's value, as a walk is handed it. -/
theorem laid_slice {α : Type} {r : Rp α} {w : World} {a : Addr} {len cap : Nat} {f : Nat → α} (e : TypeId) (hle : len ≤ cap) (h : ∀ i, i < len → ∃ cs, cs.length = r.sz ∧ (∀ j, j < r.sz → w.cell? (a.add (i * r.sz + j)) = cs[j]?) ∧ Laid r w (f i) cs) :
    ∀ tb, InOk tb w → ∃ more v g, InOk (tb ++ more) w ∧ Sl r (inHeap (tb ++ more)) v ((List.range len).map f) g ∧ VR (inSig (tb ++ more)) v (.slice (some a) len cap) ∧ ∀ b ∈ g, b < (tb ++ more).length := fun tb ht => by
  by_cases h0 : len = 0
  · subst h0
    exact ⟨[], .slice (some ⟨0, 0, some 0⟩) 0 0, [], by rw [List.append_nil]; exact ht, .inr (.inl ⟨_, _, rfl, rfl, rfl⟩), .opq, by simp⟩
  · obtain ⟨m1, acs, g, k1, e1, l1, v1, b1⟩ := laid_row len h tb ht
    have hpos : 0 < acs.length := by rw [l1]; exact Nat.mul_pos (by omega) r.pos
    obtain ⟨u, hu, _⟩ := v1 0 hpos
    have hsp : a.spot = none := by have := cell_spot hu; simpa [Addr.add] using this
    have hblk : a.block < w.heap.size := by
      rw [addr_plus hsp] at hu
      obtain ⟨cs, el, fr, hb, _⟩ := cell_block hu
      exact (Array.getElem?_eq_some_iff.1 hb).1
    have hne : acs ≠ [] := List.length_pos_iff.1 hpos
    let R : InRow := ⟨some a, acs, e⟩
    have hat : (tb ++ m1 ++ [R])[(tb ++ m1).length]? = some R := by simp
    have hsig : inSig (tb ++ m1 ++ [R]) (tb ++ m1).length = some ⟨a.block, a.off, 0, true⟩ := by unfold inSig; rw [hat]; rfl
    have hget : (inHeap (tb ++ m1 ++ [R])).get (tb ++ m1).length = some ⟨acs, e, false, true⟩ := by
      show ((tb ++ m1 ++ [R])[(tb ++ m1).length]?.bind _) = _
      rw [hat]
      simp [R, hne]
    refine ⟨m1 ++ [R], .slice (some ⟨(tb ++ m1).length, 0, none⟩) len cap, (tb ++ m1).length :: g, ?_, ?_, ?_, ?_⟩
    · rw [← List.append_assoc]
      intro i r' a' hi ha
      by_cases hi' : i < (tb ++ m1).length
      · rw [List.getElem?_append_left hi'] at hi
        obtain ⟨p1, p2, p3⟩ := k1 i r' a' hi ha
        exact ⟨p1, p2, fun j hj => (p3 j hj).elim fun v' hv => ⟨v', hv.1, hv.2.mono fun i l h => inSig_up h⟩⟩
      · have hlt := (List.getElem?_eq_some_iff.1 hi).1
        rw [List.length_append, List.length_singleton] at hlt
        have : i = (tb ++ m1).length := by omega
        subst this
        rw [hat] at hi
        cases hi
        cases ha
        exact ⟨hsp, hblk, fun j hj => (v1 j hj).elim fun v' hv => ⟨v', hv.1, hv.2.mono fun i l h => inSig_up h⟩⟩
    · rw [← List.append_assoc]
      have hlen : ((List.range len).map f).length = len := by simp
      refine .inr (.inr ⟨_, 0, cap, ⟨acs, e, false, true⟩, g, by rw [hlen], ?_, by rw [hlen]; exact hle, rfl, hget, ?_⟩)
      · intro hnil; rw [hnil] at hlen; simp at hlen; omega
      · exact e1.keep fun i hi => inHeap_up (b1 i hi)
    · rw [← List.append_assoc]
      have := VR.slice (n := len) (c := cap) (o := 0) hsig
      obtain ⟨b, o, s⟩ := a
      simp only at hsp
      subst hsp
      simpa using this
    · rw [← List.append_assoc]
      intro i hi
      rcases List.mem_cons.1 hi with rfl | hi
      · simp
      · have := b1 i hi; rw [List.length_append]; omega

theorem comes_slice {α : Type} [Inhabited α] {P : Program} {t e : TypeId} {r : Rp α} {Q : α → Prop} (ht : P.underlying t = some (.slice e)) (hC : P.cellsOf t = 1) (he : Comes P e r Q) :
    Comes P t (.slice r) (fun l => l.length ≤ 9223372036854775807 ∧ ∀ v ∈ l, Q v) :=
  ⟨hC, fun enc w base spare held fuel cs x h => by
    rcases open_slice ht h with ⟨rfl, _⟩ | ⟨a, len, cap, m, n, D, Pl, rfl, _, hl, hm, hmm, _, hi⟩
    · exact ⟨[], ⟨by simp, by simp⟩, fun tb ht => ⟨[], [.slice none 0 0], [], by rw [List.append_nil]; exact ht, ⟨_, rfl, .inl ⟨rfl, rfl, rfl⟩⟩, .cons (.same rfl) (.nil _), by simp⟩⟩
    · have hle : len ≤ m := by rw [hmm]; split <;> omega
      have hex : ∀ i, i < len → ∃ v : α, Q v ∧ ∃ c, c.length = r.sz ∧ (∀ j, j < r.sz → w.cell? (a.add (i * r.sz + j)) = c[j]?) ∧ Laid r w v c := by
        intro i hlt
        obtain ⟨cs', hc, hx⟩ := hi i (by omega)
        obtain ⟨v, hq, hk⟩ := he.reads enc w base spare held n cs' _ hx
        obtain ⟨_, hcl, hat⟩ := World.cells?_some hc
        refine ⟨v, hq, cs', by rw [hcl]; exact he.cells, fun j hj => ?_, hk⟩
        have h1 := hat j (by rw [he.cells]; exact hj)
        rw [← he.cells, ← Go.Deep.add_add, h1]
      obtain ⟨f, hf⟩ := choose_lt (α := α) hex
      have hmax : len ≤ 9223372036854775807 := by unfold maxLen at hm; omega
      refine ⟨(List.range len).map f, ⟨by simpa using hmax, fun v hv => ?_⟩, fun tb htb => ?_⟩
      · obtain ⟨i, hi1, rfl⟩ := List.mem_map.1 hv
        exact (hf i (List.mem_range.1 hi1)).1
      · obtain ⟨more, v, g, k1, k2, k3, k4⟩ := laid_slice e hl (fun i hi => (hf i hi).2) tb htb
        exact ⟨more, [v], g, k1, ⟨v, rfl, k2⟩, .cons k3 (.nil _), k4⟩⟩

/-- A slice that comes in as an argument. -/
theorem comes_sliceV {α : Type} {H : Type} {enc : TypeId × Value → H} {P : Program} {w : World} {base : Nat} {spare : Nat → Bool} {held : Bool} {rr : Go.Reach} {b0 : Nat} {t e : TypeId} {r : Rp α} {Q : List α → Prop} {v : Value} {d : DataW H} {p : List MemPlace}
    (ho : Comes P t (.slice r) Q) (ht : P.underlying t = some (.slice e)) (hv : Value.okWide P w rr b0 t v) (h : DataW.Trod enc P w base spare held t v d p) :
    ∃ xs, Q xs ∧ ∀ tb, InOk tb w → ∃ more a f, InOk (tb ++ more) w ∧ Sl r (inHeap (tb ++ more)) a xs f ∧ VR (inSig (tb ++ more)) a v ∧ ∀ b ∈ f, b < (tb ++ more).length := by
  obtain ⟨a, len, cap, rfl⟩ := okWide_slice ht hv
  obtain ⟨fuel, hf⟩ := h
  obtain ⟨xs, hq, hl⟩ := ho.reads enc w base spare held fuel _ _ hf
  refine ⟨xs, hq, fun tb htb => ?_⟩
  obtain ⟨more, acs, f, k1, ⟨v, rfl, k2⟩, k3, k4⟩ := hl tb htb
  refine ⟨more, v, f, k1, k2, ?_, k4⟩
  obtain ⟨x', a', hx, h1, h2⟩ := VL.of_cons k3
  rw [show (Value.slice a len cap).cells.toList = [.slice a len cap] from by simp [Value.cells]] at hx
  cases hx
  exact h1
/-- A struct of two whole numbers that comes in as an argument. -/
theorem comes_ints2V {H : Type} {enc : TypeId × Value → H} {P : Program} {w : World} {base : Nat} {spare : Nat → Bool} {held : Bool} {rr : Go.Reach} {b0 : Nat} {t : TypeId} {f0 f1 : Field} {v : Value} {d : DataW H} {p : List MemPlace}
    (hs : P.underlying t = some (.struct #[f0, f1])) (u0 : P.underlying f0.type = some (.int .i64)) (u1 : P.underlying f1.type = some (.int .i64)) (c0 : P.cellsOf f0.type = 1) (c1 : P.cellsOf f1.type = 1) (o0 : f0.offset = 0) (o1 : f1.offset = 1) (hC : P.cellsOf t = 2)
    (hv : Value.okWide P w rr b0 t v) (h : DataW.Trod enc P w base spare held t v d p) : ∃ x y, v = .agg #[.int .i64 x, .int .i64 y] ∧ (Lit.int .i64 x).wf = true ∧ (Lit.int .i64 y).wf = true := by
  obtain ⟨cs, rfl, _⟩ := okWide_struct hs hv
  obtain ⟨fuel, hf⟩ := h
  obtain ⟨xs, n, _, _, hlen, hxl, hf⟩ := DataW.trod_struct hs hf
  have hx2 : xs.length = 2 := by simpa using hxl
  have e0 : xs[0]? = some (xs[0]'(by omega)) := List.getElem?_eq_getElem (by omega)
  have e1 : xs[1]? = some (xs[1]'(by omega)) := List.getElem?_eq_getElem (by omega)
  obtain ⟨x, hx, _, wx⟩ := DataW.trod_int u0 ((hf 0 f0 rfl).trans e0)
  obtain ⟨y, hy, _, wy⟩ := DataW.trod_int u1 ((hf 1 f1 rfl).trans e1)
  rw [o0, c0, List.drop_zero] at hx
  rw [o1, c1] at hy
  have hlen' : cs.toList.length = 2 := by simpa [Value.cells, hC] using hlen
  have hcs : (Value.agg cs).cells.toList = cs.toList := by simp [Value.cells]
  rw [hcs] at hx hy
  have : cs.toList = [.int .i64 x, .int .i64 y] := by
    match hl : cs.toList, hlen' with
    | [p, q], _ => rw [hl] at hx hy; simp at hx hy; rw [hx, hy]
  exact ⟨x, y, by rw [show cs = #[.int .i64 x, .int .i64 y] from by rw [← Array.toArray_toList (xs := cs), this]], wx, wy⟩
/-- A struct of two, as a pair. -/
theorem comes_pair {α β : Type} {P : Program} {t : TypeId} {f0 f1 : Field} {k0 : Rp α} {k1 : Rp β} {Q0 : α → Prop} {Q1 : β → Prop} (hs : P.underlying t = some (.struct #[f0, f1]))
    (h0 : Comes P f0.type k0 Q0) (h1 : Comes P f1.type k1 Q1) (o0 : f0.offset = 0) (o1 : f1.offset = k0.sz) (hC : P.cellsOf t = k0.sz + k1.sz) : Comes P t (.pair k0 k1) (fun x => Q0 x.1 ∧ Q1 x.2) :=
  comes_struct2 (γ := α × β) hs h0 h1 o0 o1 hC id Prod.mk fun _ _ => rfl
/-- An argument among rows that came in. -/
structure ArgIn {α : Type} (r : Rp α) (tb : List InRow) (v a : Value) (xs : List α) (f : List Nat) : Prop where
  sl : Sl r (inHeap tb) a xs f
  vr : VR (inSig tb) a v
  lt : ∀ b ∈ f, b < (inHeap tb).next
theorem ArgIn.up {α : Type} {r : Rp α} {tb : List InRow} {v a : Value} {xs : List α} {f : List Nat} (h : ArgIn r tb v a xs f) (more : List InRow) : ArgIn r (tb ++ more) v a xs f :=
  ⟨h.sl.keep fun b hb => inHeap_up (h.lt b hb), h.vr.mono fun b l hb => inSig_up hb, fun b hb => by
    show b < (tb ++ more).length
    rw [List.length_append]; exact Nat.lt_add_right _ (h.lt b hb)⟩
theorem comes_arg {α : Type} {H : Type} {enc : TypeId × Value → H} {P : Program} {w : World} {base : Nat} {spare : Nat → Bool} {held : Bool} {rr : Go.Reach} {b0 : Nat} {t e : TypeId} {r : Rp α} {Q : List α → Prop} {v : Value} {d : DataW H} {p : List MemPlace}
    (ho : Comes P t (.slice r) Q) (ht : P.underlying t = some (.slice e)) (hv : Value.okWide P w rr b0 t v) (h : DataW.Trod enc P w base spare held t v d p) :
    ∃ xs, Q xs ∧ ∀ tb, InOk tb w → ∃ more a f, InOk (tb ++ more) w ∧ ArgIn r (tb ++ more) v a xs f := by
  obtain ⟨xs, q, hl⟩ := comes_sliceV ho ht hv h
  exact ⟨xs, q, fun tb htb => (hl tb htb).elim fun more h => h.elim fun a h => h.elim fun f h => ⟨more, a, f, h.1, h.2.1, h.2.2.1, h.2.2.2⟩⟩
theorem inOk_nil (w : World) : InOk [] w := fun i r a h => by simp at h
theorem vr_ints2 {σ : Sig} {x y : Int} : VR σ (.agg #[.int .i64 x, .int .i64 y]) (.agg #[.int .i64 x, .int .i64 y]) := .agg rfl fun i hi => by
  match i, hi with
  | 0, _ => exact .same rfl
  | 1, _ => exact .same rfl
end Go.Proofs.Ytgjpcliaggpcaaa.Ab
