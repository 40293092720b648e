/- Appends, and what else a walk meets, by what cells stand for. -/
import Derived.Test.YtgjpcliaggpcaaaAbR1
set_option linter.unusedVariables false
set_option linter.unusedSimpArgs false
namespace Go.Proofs.Ytgjpcliaggpcaaa.Ab
open Go

section
variable {P : Program} {X : Nat → Bool} {H : AHeap}

theorem eqK_at {t : TypeId} {x y : Value} : eqK P 10000 t x y = (match P.underlying t with
    | some .bool => eqBool x y
    | some (.int _) => eqInt x y
    | some .string => eqStr x y
    | some (.slice _) => eqSlice x y
    | some (.pointer _) => eqPtr x y
    | some (.struct fs) => match x, y with
      | .agg xs, .agg ys => bif P.stoodInHeld t || P.eqGuardType P.depth t then none else eqFieldsK P (eqK P 9999) xs.toList ys.toList fs.toList
      | _, _ => none
    | _ => none) := eqK_succ 9999 t x y
@[go_sem] theorem b_eql_nil {t : TypeId} {a : Option Addr} {n c : Nat} {h : KH} (he : (elK P t).isSome = true) : binO P .eql t (.slice a n c) (.slice none 0 0) h = .ok (.bool a.isNone) h := by
  unfold elK at he
  simp only [binO, binK, eqK_at]
  cases hu : P.underlying t with
  | none => rw [hu] at he; cases he
  | some d =>
    rw [hu] at he
    cases d with
    | slice e => cases a <;> rfl
    | _ => cases he
@[go_sem] theorem b_neq_nil {t : TypeId} {a : Option Addr} {n c : Nat} {h : KH} (he : (elK P t).isSome = true) : binO P .neq t (.slice a n c) (.slice none 0 0) h = .ok (.bool (!a.isNone)) h := by
  unfold elK at he
  simp only [binO, binK, eqK_at]
  cases hu : P.underlying t with
  | none => rw [hu] at he; cases he
  | some d =>
    rw [hu] at he
    cases d with
    | slice e => cases a <;> rfl
    | _ => cases he
attribute [go_sem] Option.isNone_none Option.isNone_some
/-- Of a slice's type: its elements' type, cells and bytes. -/
noncomputable def apK (P : Program) (t : TypeId) : Option (TypeId × Nat × Nat) := match P.underlying t with
  | some (.slice e) => match P.info? e, zeroK P e with
    | some i, some z => bif Nat.beq (lLen z) i.size && Nat.blt 0 i.bytes then some (e, i.size, i.bytes) else none
    | _, _ => none
  | _ => none
theorem apK_spec {t e : TypeId} {sz by_ : Nat} (h : apK P t = some (e, sz, by_)) : P.underlying t = some (.slice e) ∧ ∃ i z, P.info? e = some i ∧ zeroK P e = some z ∧ z.length = i.size ∧ 0 < i.bytes ∧ i.size = sz ∧ i.bytes = by_ := by
  unfold apK at h
  split at h
  · rename_i e1 hu
    split at h
    · rename_i i z hi hz
      cases hc : Nat.beq (lLen z) i.size && Nat.blt 0 i.bytes
      · rw [hc] at h; cases h
      · rw [hc] at h
        rw [Bool.and_eq_true, beq_eq, blt_eq, decide_eq_true_eq, decide_eq_true_eq, lLen_eq] at hc
        cases h
        exact ⟨hu, i, z, hi, hz, hc.1, hc.2, rfl, rfl⟩
    · cases h
  · cases h

theorem app_nil {t e : TypeId} {sz by_ n : Nat} {x : Value} {new : List Value} (ha : apK P t = some (e, sz, by_)) (hs : srcA sz x H = some (n, new)) (hn : n * by_ < 140737488355328) (h0 : 0 < n) :
    appendA P t (.slice none 0 0) x H = .ok (.slice (some ⟨H.next, 0, none⟩) n n) (H.push ⟨new, e, true, false⟩) := by
  obtain ⟨hu, i, z, hi, hz, h1, h2, rfl, rfl⟩ := apK_spec ha
  have h3 : n ≤ n * i.bytes := Nat.le_mul_of_pos_right _ h2
  simp only [appendA, hu, hi, hz, hs]
  rw [if_pos ⟨h1, hn, by omega, h2⟩, if_pos (by simp), if_neg (by omega)]
  rfl
theorem app_none {t e : TypeId} {sz by_ : Nat} {x : Value} {new : List Value} (ha : apK P t = some (e, sz, by_)) (hs : srcA sz x H = some (0, new)) :
    appendA P t (.slice none 0 0) x H = .ok (.slice none 0 0) H := by
  obtain ⟨hu, i, z, hi, hz, h1, h2, rfl, rfl⟩ := apK_spec ha
  simp only [appendA, hu, hi, hz, hs]
  rw [if_pos ⟨h1, by omega, by omega, h2⟩, if_pos (by simp)]
  rfl
theorem app_grow' {t e : TypeId} {sz by_ n b sl : Nat} {x : Value} {new cs : List Value} (ha : apK P t = some (e, sz, by_)) (hs : srcA sz x H = some (n, new)) (hB : H.get b = some ⟨cs, e, true, false⟩) (hl : cs.length = sl * sz)
    (hn : (sl + n) * by_ < 140737488355328) (h0 : 0 < n) (h1s : onesK new = true) :
    appendA P t (.slice (some ⟨b, 0, none⟩) sl sl) x H = .ok (.slice (some ⟨H.next, 0, none⟩) (sl + n) (sl + n)) (H.grow b ⟨cs ++ new, e, true, false⟩) := by
  obtain ⟨hu, i, z, hi, hz, h1, h2, rfl, rfl⟩ := apK_spec ha
  have h3 : sl + n ≤ (sl + n) * i.bytes := Nat.le_mul_of_pos_right _ h2
  have h4 : n * i.bytes ≤ (sl + n) * i.bytes := Nat.mul_le_mul_right _ (by omega)
  have h5 : cs.take (sl * i.size) = cs := List.take_of_length_le (by omega)
  simp only [appendA, hu, hi, hz, hs, hB]
  rw [if_pos ⟨h1, by omega, by omega, h2⟩, if_neg (by omega), if_pos ⟨hn, by omega, by omega, Nat.le_refl _, trivial, trivial⟩, if_pos trivial, if_pos ⟨trivial, h1s⟩, h5]
theorem app_copy {t e : TypeId} {sz by_ n b o sl sc : Nat} {x : Value} {new cs : List Value} (ha : apK P t = some (e, sz, by_)) (hs : srcA sz x H = some (n, new)) (hB : H.get b = some ⟨cs, e, false, false⟩) (hl : cs.length = o + sc * sz)
    (hsl : sl ≤ sc) (hn : (sl + n) * by_ < 140737488355328) (h0 : sc < sl + n) :
    appendA P t (.slice (some ⟨b, o, none⟩) sl sc) x H = .ok (.slice (some ⟨H.next, 0, none⟩) (sl + n) (sl + n)) (H.push ⟨(cs.drop o).take (sl * sz) ++ new, e, true, false⟩) := by
  obtain ⟨hu, i, z, hi, hz, h1, h2, rfl, rfl⟩ := apK_spec ha
  have h3 : sl + n ≤ (sl + n) * i.bytes := Nat.le_mul_of_pos_right _ h2
  have h4 : n * i.bytes ≤ (sl + n) * i.bytes := Nat.mul_le_mul_right _ (by omega)
  simp only [appendA, hu, hi, hz, hs, hB]
  rw [if_pos ⟨h1, by omega, by omega, h2⟩, if_neg (by omega), if_pos ⟨hn, by omega, by omega, hsl, trivial, trivial⟩, if_neg (by decide)]
  rfl
theorem app_at {t e : TypeId} {sz by_ n b o sl sc : Nat} {x : Value} {new : List Value} {B : ABlk} (ha : apK P t = some (e, sz, by_)) (hs : srcA sz x H = some (n, new)) (hnl : new.length = n * sz) (hB : H.get b = some B) (hro : B.ro = false) (hl : o + sc * sz ≤ B.cells.length)
    (hn : n * by_ < 140737488355328) (h0 : sl + n ≤ sc) (h1s : onesK new = true) :
    appendA P t (.slice (some ⟨b, o, none⟩) sl sc) x H = .ok (.slice (some ⟨b, o, none⟩) (sl + n) sc) (H.upd b ⟨spliceA B.cells (o + sl * sz) new, B.elem, B.opn, false⟩) := by
  obtain ⟨hu, i, z, hi, hz, h1, h2, rfl, rfl⟩ := apK_spec ha
  have h3 : n ≤ n * i.bytes := Nat.le_mul_of_pos_right _ h2
  have h5 : (sl + n) * i.size ≤ sc * i.size := Nat.mul_le_mul_right _ h0
  rw [Nat.add_mul] at h5
  simp only [appendA, hu, hi, hz, hs, hB]
  rw [if_pos ⟨h1, hn, by omega, h2⟩, if_pos h0, if_pos hl]
  simp only [writeA, hB]
  rw [if_pos ⟨by omega, h1s, hro⟩]

/-- All that was there is as it was. -/
structure Old (H H' : AHeap) : Prop where
  nx : H.next ≤ H'.next
  get : ∀ b, b < H.next → H'.get b = H.get b
  ro : ∀ b B, H'.get b = some B → B.ro = true → H.get b = some B
theorem Old.refl (H : AHeap) : Old H H := ⟨Nat.le_refl _, fun _ _ => rfl, fun _ _ h _ => h⟩
theorem Old.trans {H H1 H2 : AHeap} (h : Old H H1) (h' : Old H1 H2) : Old H H2 := ⟨Nat.le_trans h.nx h'.nx, fun b hb => (h'.get b (Nat.lt_of_lt_of_le hb h.nx)).trans (h.get b hb), fun b B hb hr => h.ro b B (h'.ro b B hb hr) hr⟩
theorem Old.push (H : AHeap) (B : ABlk) (hB : B.ro = false := by rfl) : Old H (H.push B) := ⟨Nat.le_succ _, fun b hb => get_push_lt hb, fun b C hb hr => by
  rw [get_push] at hb
  split at hb
  · cases hb; rw [hB] at hr; cases hr
  · exact hb⟩
/-- Own blocks may turn. -/
theorem Old.upd {H H1 : AHeap} (h : Old H H1) {b : Nat} (hb : H.next ≤ b) (B : ABlk) (hB : B.ro = false := by rfl) : Old H (H1.upd b B) := ⟨h.nx, fun c hc => by
  show (if c = b then some B else H1.get c) = _
  rw [if_neg (by omega)]; exact h.get c hc, fun c C hc hr => by
  have hc : (if c = b then some B else H1.get c) = some C := hc
  split at hc
  · cases hc; rw [hB] at hr; cases hr
  · exact h.ro c C hc hr⟩
theorem Old.grow {H H1 : AHeap} (h : Old H H1) {b : Nat} (hb : H.next ≤ b) (B : ABlk) (hB : B.ro = false := by rfl) : Old H (H1.grow b B) := ⟨Nat.le_succ_of_le h.nx, fun c hc => by
  have := h.nx
  show (if c = H1.next then some B else if c = b then none else H1.get c) = _
  rw [if_neg (by omega), if_neg (by omega)]; exact h.get c hc, fun c C hc hr => by
  have hc : (if c = H1.next then some B else if c = b then none else H1.get c) = some C := hc
  (repeat' split at hc)
  · cases hc; rw [hB] at hr; cases hr
  · cases hc
  · exact h.ro c C hc hr⟩
theorem Fine.wf_lt {H : AHeap} (h : Fine H) {b : Nat} {B : ABlk} (hb : H.get b = some B) : b < H.next := AHeap.wf_lt h.wf hb
/-- Own blocks are not read alone. -/
theorem Old.free {H H1 : AHeap} (h : Old H H1) (hf : Fine H) {b : Nat} (hb : H.next ≤ b) {B : ABlk} (hB : H1.get b = some B) : B.ro = false := by
  cases hr : B.ro
  · rfl
  · have := AHeap.wf_lt hf.wf (h.ro b B hB hr); omega
theorem Fine.fresh {H : AHeap} (h : Fine H) {b : Nat} (hb : H.next ≤ b) : H.fz b = false := by
  cases hz : H.fz b
  · rfl
  · have := h.fz b hz; omega

/-- A row that grows, of one's own. -/
def Ow {α : Type} (r : Rp α) (ty : TypeId) (H : AHeap) (v : Value) (l : List α) (f : List Nat) : Prop :=
  (v = .slice none 0 0 ∧ l = [] ∧ f = []) ∨
    ∃ b cs g, v = .slice (some ⟨b, 0, none⟩) l.length l.length ∧ l ≠ [] ∧ f = b :: g ∧ H.get b = some ⟨cs, ty, true, false⟩ ∧ cs.length = l.length * r.sz ∧ Arr r H cs l g
theorem Ow.nil {α : Type} (r : Rp α) (ty : TypeId) (H : AHeap) : Ow r ty H (.slice none 0 0) [] [] := .inl ⟨rfl, rfl, rfl⟩
theorem Ow.sl {α : Type} {r : Rp α} {ty : TypeId} {H : AHeap} {v : Value} {l : List α} {f : List Nat} (h : Ow r ty H v l f) : Sl r H v l f := by
  rcases h with h | ⟨b, cs, g, h1, h2, h3, h4, h5, h6⟩
  · exact .inl h
  · exact .inr (.inr ⟨b, 0, _, _, g, h1, h2, Nat.le_refl _, h3, h4, h6⟩)
theorem Ow.keep {α : Type} {r : Rp α} {ty : TypeId} {H H' : AHeap} {v : Value} {l : List α} {f : List Nat} (h : Ow r ty H v l f) (hk : ∀ b ∈ f, H'.get b = H.get b) : Ow r ty H' v l f := by
  rcases h with h | ⟨b, cs, g, h1, h2, rfl, h4, h5, h6⟩
  · exact .inl h
  · exact .inr ⟨b, cs, g, h1, h2, rfl, by rw [hk b (by simp)]; exact h4, h5, h6.keep fun x hx => hk x (by simp [hx])⟩

theorem Arr.bnd {α : Type} {r : Rp α} : ∀ {cs : List Value} {l : List α} {f : List Nat}, Arr r H cs l f → True := fun _ => trivial

/-- Elements of two numbers, say. -/
theorem Rp.int_E {H : AHeap} {cs : List Value} {x : Int} {f : List Nat} : Rp.int.E H cs x f ↔ cs = [.int .i64 x] ∧ f = [] := Iff.rfl
theorem Rp.bool_E {H : AHeap} {cs : List Value} {x : Bool} {f : List Nat} : Rp.bool.E H cs x f ↔ cs = [.bool x] ∧ f = [] := Iff.rfl
theorem Rp.slice_E {α : Type} {r : Rp α} {H : AHeap} {cs : List Value} {l : List α} {f : List Nat} : (Rp.slice r).E H cs l f ↔ ∃ v, cs = [v] ∧ Sl r H v l f := Iff.rfl
theorem Rp.pair_E {α β : Type} {a : Rp α} {b : Rp β} {H : AHeap} {cs : List Value} {x : α × β} {f : List Nat} : (Rp.pair a b).E H cs x f ↔ ∃ c1 c2 f1 f2, cs = c1 ++ c2 ∧ f = f1 ++ f2 ∧ a.E H c1 x.1 f1 ∧ b.E H c2 x.2 f2 := Iff.rfl

/-- A row that is made, element by element. -/
noncomputable def bsA (q : Option (TypeId × Nat × Nat)) (z : Option (List Value)) (n : Nat) (ps : List (Nat × Value)) (H : AHeap) : AO := match q, z with
  | some (e, sz, _), some z => if n * sz ≤ 16777216 ∧ 0 < sz then (match fillK (fun i => some (i * sz, sz)) ps (nCells z n) with
    | some cs => newA cs e false (fun b => .slice (some ⟨b, 0, none⟩) n n) H
    | none => .no) else .no
  | _, _ => .no
theorem build_at {t e : TypeId} {sz by_ n : Nat} {z : List Value} {ps : List (Nat × Value)} {cs : List Value} (ha : apK P t = some (e, sz, by_)) (hz : zeroK P e = some z) (hp : 0 < sz) (hn : n * sz ≤ 16777216) (hf : fillK (fun i => some (i * sz, sz)) ps (nCells z n) = some cs) :
    buildSliceA P t n ps H = .ok (.slice (some ⟨H.next, 0, none⟩) n n) (H.push ⟨cs, e, false, false⟩) := by
  obtain ⟨hu, i, z', hi, hz', h1, h2, rfl, rfl⟩ := apK_spec ha
  rw [hz] at hz'; cases hz'
  have hs : sizeK P e = some i.size := by unfold sizeK; rw [hi]
  simp only [buildSliceA, hu, hs, hz]
  rw [if_pos ⟨hn, hp, h1⟩, hf]
  rfl
theorem build_none {t e : TypeId} {sz by_ : Nat} (ha : apK P t = some (e, sz, by_)) (hp : 0 < sz) : buildSliceA P t 0 [] H = .ok (.slice (some ⟨H.next, 0, none⟩) 0 0) (H.push ⟨[], e, false, false⟩) := by
  obtain ⟨hu, i, z, hi, hz, h1, h2, rfl, rfl⟩ := apK_spec ha
  exact build_at ha hz hp (by omega) rfl
/-- A slice that is made. -/
theorem make_at {t e : TypeId} {sz by_ n c : Nat} {z : List Value} (ha : apK P t = some (e, sz, by_)) (hz : zeroK P e = some z) (hp : 0 < sz) (hn : n ≤ c) (hc : by_ * c ≤ 281474976710656) (h63 : c < 9223372036854775808) :
    makeSliceA P t (.int .i64 ((n : Nat) : Int)) (.int .i64 ((c : Nat) : Int)) H = .ok (.slice (some ⟨H.next, 0, none⟩) n c) (H.push ⟨nCells z c, e, false, false⟩) := by
  obtain ⟨hu, i, z', hi, hz', h1, h2, rfl, rfl⟩ := apK_spec ha
  rw [hz] at hz'; cases hz'
  show (match P.underlying t, Value.int .i64 (.ofNat n), Value.int .i64 (.ofNat c) with
    | some (.slice e), .int .i64 (.ofNat l), .int .i64 (.ofNat c) => (match P.info? e, zeroK P e with
      | some i, some z => if l ≤ c ∧ i.bytes * c ≤ 281474976710656 ∧ 0 < i.size ∧ c < 9223372036854775808 ∧ z.length = i.size then newA (nCells z c) e false (fun b => .slice (some ⟨b, 0, none⟩) l c) H else .no
      | _, _ => .no)
    | _, _, _ => .no) = _
  rw [hu]
  simp only [hi, hz]
  rw [if_pos ⟨hn, hc, hp, h63, h1⟩]
  rfl
theorem arr_cells {α : Type} {r : Rp α} {z : List Value} {x : α} (hE : r.E H z x []) : ∀ n, Arr r H (nCells z n) (List.replicate n x) []
  | 0 => rfl
  | n + 1 => ⟨z, nCells z n, [], [], rfl, rfl, hE, arr_cells hE n⟩
/-- A row of one. -/
theorem build_one {t e : TypeId} {sz by_ : Nat} {v : Value} (ha : apK P t = some (e, sz, by_)) (hp : 0 < sz) (h24 : sz ≤ 16777216) (hv : v.cells.toList.length = sz) : buildSliceA P t 1 [(0, v)] H = .ok (.slice (some ⟨H.next, 0, none⟩) 1 1) (H.push ⟨v.cells.toList, e, false, false⟩) := by
  obtain ⟨hu, i, z, hi, hz, h1, h2, rfl, rfl⟩ := apK_spec ha
  refine build_at ha hz hp (by omega) ?_
  have e1 : nCells z 1 = z := by show z ++ [] = z; simp
  rw [e1]
  show (bif Nat.beq (lLen v.cells.toList) i.size && Nat.ble (0 * i.size + i.size) (lLen z) then some (spliceK z (0 * i.size) v.cells.toList) else none) = _
  have e2 : (Nat.beq (lLen v.cells.toList) i.size && Nat.ble (0 * i.size + i.size) (lLen z)) = true := by
    rw [Bool.and_eq_true, beq_eq, ble_eq, decide_eq_true_eq, decide_eq_true_eq, lLen_eq, lLen_eq]; omega
  rw [e2, cond_true, spliceK_eq]
  simp only [Nat.zero_mul, List.take_zero, List.nil_append, Nat.zero_add]
  rw [List.drop_eq_nil_of_le (by omega), List.append_nil]

/-- A row of one, handed on. -/
theorem src_one {b c sz : Nat} {B : ABlk} (hB : H.get b = some B) (hl : B.cells.length = sz) : srcA sz (.slice (some ⟨b, 0, none⟩) 1 c) H = some (1, B.cells) := by
  simp only [srcA]
  rw [if_neg (by decide), hB]
  simp only
  rw [if_pos (by omega), List.drop_zero, List.take_of_length_le (by omega)]
theorem nodup_apart {f g : List Nat} {n : Nat} (hf : f.Nodup) (hg : g.Nodup) (h1 : ∀ y ∈ f, y < n) (h2 : ∀ y ∈ g, n ≤ y) : (f ++ g).Nodup := by
  rw [List.nodup_append]
  exact ⟨hf, hg, fun a ha b hb e => by have := h1 a ha; have := h2 b hb; omega⟩
theorem wrap_nat {n : Nat} (h : n < 9223372036854775808) : IntKind.wrap .i64 ((n : Nat) : Int) = ((n : Nat) : Int) := by
  have : fitsI64 (Int.ofNat n) = true := by
    show Nat.blt n 9223372036854775808 = true
    rw [blt_eq]; simpa using h
  exact wrap_fits this
theorem wrap_add {n k : Nat} (h : n + k < 9223372036854775808) : IntKind.wrap .i64 (((n : Nat) : Int) + ((k : Nat) : Int)) = ((n + k : Nat) : Int) := by
  rw [← Int.natCast_add]; exact wrap_nat h

/-- Rows of own blocks: each once, all made since a heap. -/
structure Own (n : Nat) (H : AHeap) (f : List Nat) : Prop where
  nd : f.Nodup
  lo : ∀ y ∈ f, n ≤ y
  hi : ∀ y ∈ f, y < H.next

/-- An append to a row that grows. -/
theorem cps_app {α : Type} {r : Rp α} {t e : TypeId} {by_ : Nat} {v x : Value} {l m : List α} {f g : List Nat} {new : List Value} {K : Value → AHeap → Prop} (ha : apK P t = some (e, r.sz, by_)) (how : Ow r e H v l f) (hf : ∀ y ∈ f, y < H.next) (hnd : (f ++ g).Nodup) (hg : ∀ y ∈ g, y < H.next) (hX : ∀ y ∈ f, X y = false)
    (hs : srcA r.sz x H = some (m.length, new)) (hnl : new.length = m.length * r.sz) (h1 : onesK new = true) (hm : Arr r H new m g) (hne : m ≠ []) (hn : (l.length + m.length) * by_ < 140737488355328)
    (hk : ∀ v' H' f', Ow r e H' v' (l ++ m) f' → f'.Nodup → (∀ y ∈ f', y = H.next ∨ y ∈ f ∨ y ∈ g) → (∀ y ∈ f', y < H'.next) → H'.next = H.next + 1 → (∀ c, c < H.next → c ∉ f → H'.get c = H.get c) → (∀ c, H.fz c = true → H'.fz c = true) → (∀ c B, H'.get c = some B → B.ro = true → H.get c = some B) → K v' H') {tg : Tag K} : cpsA P X H (appendA P t v x H) K tg := by
  have hpos : 0 < m.length := List.length_pos_iff.2 hne
  rcases how with ⟨rfl, rfl, rfl⟩ | ⟨b, cs, g0, rfl, h2, rfl, h3, h4, h5⟩
  · rw [app_nil ha hs (by simpa using hn) hpos, cps_push]
    refine hk _ _ (H.next :: g) (.inr ⟨H.next, new, g, by simp, by simpa using hne, rfl, by rw [get_push, if_pos rfl], by simpa using hnl, hm.keep fun y hy => get_push_lt (hg y hy)⟩) ?_ ?_ ?_ rfl (fun c hc _ => get_push_lt hc) (fun c hc => by rw [fz_push, hc, Bool.or_true]) (Old.push H _).ro
    · rw [List.nodup_cons]; exact ⟨fun h => Nat.lt_irrefl _ (hg _ h), by simpa using hnd⟩
    · intro y hy; rcases List.mem_cons.1 hy with h | h
      · exact .inl h
      · exact .inr (.inr h)
    · intro y hy; rw [next_push]; rcases List.mem_cons.1 hy with h | h
      · omega
      · have := hg y h; omega
  · have hb := hf b (by simp)
    rw [app_grow' ha hs h3 h4 hn hpos h1, cps_grow (hX b (by simp))]
    have hkeep : ∀ c, c < H.next → c ≠ b → (H.grow b ⟨cs ++ new, e, true, false⟩).get c = H.get c := fun c hc hcb => by rw [get_grow, if_neg (by omega), if_neg hcb]
    rw [List.cons_append, List.nodup_cons] at hnd
    have hbg : b ∉ g0 ++ g := hnd.1
    refine hk _ _ (H.next :: (g0 ++ g)) (.inr ⟨H.next, cs ++ new, g0 ++ g, by simp, by simp [h2], rfl, by rw [get_grow, if_pos rfl], by rw [List.length_append, List.length_append, h4, hnl, Nat.add_mul], ?_⟩) ?_ ?_ ?_ rfl (fun c hc hcf => hkeep c hc (fun h => hcf (by simp [h]))) (fun c hc => by rw [fz_grow, hc, Bool.or_true]) (fun c C hc hr => by
      rw [get_grow] at hc
      (repeat' split at hc)
      · cases hc; cases hr
      · cases hc
      · exact hc)
    · refine (h5.keep fun y hy => hkeep y (hf y (by simp [hy])) (fun h => hbg (by rw [← h]; simp [hy]))).join h4 (hm.keep fun y hy => hkeep y (hg y hy) (fun h => hbg (by rw [← h]; simp [hy])))
    · rw [List.nodup_cons]
      refine ⟨fun h => ?_, hnd.2⟩
      rcases List.mem_append.1 h with h | h
      · exact Nat.lt_irrefl _ (hf _ (by simp [h]))
      · exact Nat.lt_irrefl _ (hg _ h)
    · intro y hy
      rcases List.mem_cons.1 hy with h | h
      · exact .inl h
      · rcases List.mem_append.1 h with h | h
        · exact .inr (.inl (by simp [h]))
        · exact .inr (.inr h)
    · intro y hy; rw [next_grow]; rcases List.mem_cons.1 hy with h | h
      · omega
      · rcases List.mem_append.1 h with h | h
        · have := hf y (by simp [h]); omega
        · have := hg y h; omega
/-- One more, to a row that grows. -/
theorem cps_app1 {α : Type} {r : Rp α} {t e : TypeId} {by_ b : Nat} {v : Value} {l : List α} {x : α} {f g : List Nat} {B : ABlk} {K : Value → AHeap → Prop} (ha : apK P t = some (e, r.sz, by_)) (how : Ow r e H v l f) (hf : ∀ y ∈ f, y < H.next) (hnd : (f ++ g).Nodup) (hg : ∀ y ∈ g, y < H.next) (hX : ∀ y ∈ f, X y = false)
    (hB : H.get b = some B) (hE : r.E H B.cells x g) (h1 : onesK B.cells = true) (hn : (l.length + 1) * by_ < 140737488355328) {tg : Tag K}
    (hk : ∀ v' H' f', Ow r e H' v' (l ++ [x]) f' → f'.Nodup → (∀ y ∈ f', y = H.next ∨ y ∈ f ∨ y ∈ g) → (∀ y ∈ f', y < H'.next) → H'.next = H.next + 1 → (∀ c, c < H.next → c ∉ f → H'.get c = H.get c) → (∀ c, H.fz c = true → H'.fz c = true) → (∀ c B, H'.get c = some B → B.ro = true → H.get c = some B) → K v' H') : cpsA P X H (appendA P t v (.slice (some ⟨b, 0, none⟩) 1 1) H) K tg :=
  cps_app (m := [x]) (new := B.cells) ha how hf hnd hg hX (src_one hB (r.len hE)) (by simp [r.len hE]) h1 (Arr.one hE) (by simp) hn hk
end
end Go.Proofs.Ytgjpcliaggpcaaa.Ab
