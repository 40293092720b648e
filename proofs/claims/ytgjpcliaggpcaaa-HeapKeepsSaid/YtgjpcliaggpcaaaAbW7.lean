/- From a law's arguments to a walk: what came in lies in the abstract heap, to be read alone. -/
import Derived.Test.YtgjpcliaggpcaaaAbW6
import Derived.Below
import Derived.ChangeSlices
import Derived.WideShapes
import Derived.DataReads
set_option linter.unusedVariables false
set_option linter.unusedSimpArgs false
namespace Go.Proofs.Ytgjpcliaggpcaaa.Ab
open Go Classical

/-- A row of cells that came in: where, and what is in it. -/
structure InRow where
  a : Option Addr
  cells : List Value
  ty : TypeId

def inSig (tb : List InRow) : Sig := fun i => (tb[i]?).bind fun r => r.a.map fun a => ⟨a.block, a.off, 0, true⟩
def inHeap (tb : List InRow) : AHeap := ⟨tb.length, fun i => (tb[i]?).bind fun r => if r.cells = [] then none else some ⟨r.cells, r.ty, false, true⟩, fun i => decide (i < tb.length)⟩

/-- What came in lies as the rows say. -/
def InOk (tb : List InRow) (w : World) : Prop := ∀ (i : Nat) (r : InRow) (a : Addr), tb[i]? = some r → r.a = some a → a.spot = none ∧ a.block < w.heap.size ∧ ∀ j, j < r.cells.length → ∃ v', w.cell? (a.add j) = some v' ∧ VR (inSig tb) (r.cells.getD j undef) v'

theorem inHeap_fine (tb : List InRow) : Fine (inHeap tb) := by
  refine ⟨fun b hb => ?_, fun b hb => by simpa [inHeap] using hb⟩
  have : tb.length ≤ b := hb
  simp [inHeap, List.getElem?_eq_none this]

theorem cell_block {w : World} {a : Addr} {v : Value} (h : w.cell? a = some v) : ∃ cs e fr, w.heap[a.block]? = some (.cells cs e fr) ∧ cs[a.off]? = some v := by
  unfold World.cell? at h
  split at h
  · rename_i cs e fr hb
    split at h
    · cases h
    · exact ⟨cs, e, fr, hb, h⟩
  · cases h

theorem addr_plus {a : Addr} (h : a.spot = none) (j : Nat) : a.add j = ⟨a.block, a.off + j, none⟩ := by
  obtain ⟨b, o, s⟩ := a
  subst h
  exact addr_add b o j

theorem in_sig {tb : List InRow} {b : Nat} {l : Loc} (hs : inSig tb b = some l) : ∃ r a, tb[b]? = some r ∧ r.a = some a ∧ l = ⟨a.block, a.off, 0, true⟩ := by
  unfold inSig at hs
  cases hr : tb[b]? with
  | none => rw [hr] at hs; cases hs
  | some r =>
    rw [hr] at hs
    simp only [Option.bind_some] at hs
    cases ha : r.a with
    | none => rw [ha] at hs; cases hs
    | some a => rw [ha] at hs; cases hs; exact ⟨r, a, rfl, ha, rfl⟩

theorem in_rel (P : Program) {tb : List InRow} {w : World} (h : InOk tb w) : Rel P (inSig tb) All (inHeap tb).get w := by
  have ro : ∀ b l, inSig tb b = some l → l.ro = true := fun b l hs => (in_sig hs).elim fun r h => h.elim fun a h => h.2.2 ▸ rfl
  refine ⟨fun b l B _ hs hg => ?_, fun b b' l l' _ _ hs _ _ _ ho => ?_, fun b b' l l' _ hs _ _ ho => ?_, fun b l hs _ => ?_⟩
  · obtain ⟨r, a, hr, ha, rfl⟩ := in_sig hs
    simp only [inHeap, hr, Option.bind_some] at hg
    split at hg
    · cases hg
    · rename_i hne
      cases hg
      obtain ⟨hsp, hlt, hc⟩ := h b r a hr ha
      have hpos : 0 < r.cells.length := List.length_pos_iff.2 hne
      have hall : ∀ cs e fr, w.heap[a.block]? = some (.cells cs e fr) → ∀ j, j < r.cells.length → a.off + j < cs.size ∧ VR (inSig tb) (r.cells.getD j undef) (cs.getD (a.off + j) undef) := fun cs e fr hb j hj => by
        obtain ⟨v', hv, hvr⟩ := hc j hj
        rw [addr_plus hsp] at hv
        obtain ⟨cs', e', fr', hb', hcv⟩ := cell_block hv
        simp only at hb' hcv
        rw [hb] at hb'
        cases hb'
        obtain ⟨h1, h2⟩ := Array.getElem?_eq_some_iff.1 hcv
        refine ⟨h1, ?_⟩
        have : cs.getD (a.off + j) undef = v' := by simp [Array.getD, h1, h2]
        rw [this]; exact hvr
      obtain ⟨v', hv, _⟩ := hc 0 hpos
      rw [addr_plus hsp] at hv
      obtain ⟨cs, e, fr, hb, _⟩ := cell_block hv
      refine ⟨⟨cs, e, fr, hb, ?_, fun i hi => (hall cs e fr hb i hi).2, fun hl => by cases hl⟩, fun _ => rfl, fun hl => by cases hl⟩
      have := (hall cs e fr hb (r.cells.length - 1) (by omega)).1
      show a.off + r.cells.length ≤ cs.size
      omega
  · rw [ro b l hs] at ho; cases ho
  · rw [ro b l hs] at ho; cases ho
  · obtain ⟨r, a, hr, ha, rfl⟩ := in_sig hs
    exact (h b r a hr ha).2.1

/-- A law's call, by a walk. -/
theorem law_calls {P : Program} {f : FuncId} {vs vs' : List Value} {tb : List InRow} {W : World} (hin : InOk tb W) (hargs : VL (inSig tb) vs vs')
    (h : FnW P f vs.toArray (inHeap tb) fun v _ => v = .bool true) : Calls P f vs'.toArray W fun e W' => e = .returned (.bool true) ∧ Go.RowKit.Below W.heap.size W W' := by
  obtain ⟨v, H', hst, hft, _, rfl⟩ := h (inHeap_fine tb)
  refine (hft (inSig tb) W vs'.toArray (in_rel P hin) (fun b hb => ?_) hargs.toA).mono ?_
  · have h1 : tb.length ≤ b := hb.1
    simp [inSig, List.getElem?_eq_none h1]
  · rintro e W' ⟨σ', v', rfl, hp, hv⟩
    rw [hv.bool]
    refine ⟨rfl, hp.rest.1, hp.rest.2.1, hp.rest.2.2, hp.size, fun k hk => hp.keep k hk ?_⟩
    rintro ⟨b, l, _, hs, _, ho, _⟩
    obtain ⟨r, a, _, _, rfl⟩ := in_sig hs
    cases ho

/-- A slice that came in, of which something can be read. -/
theorem slice_in {P : Program} {w : World} {r : Go.Reach} {base : Nat} {t e : TypeId} {a : Addr} {n c : Nat} (hu : P.underlying t = some (.slice e)) (h : Value.okWide P w r base t (.slice (some a) n c)) : a.spot = none ∧ a.block < w.heap.size ∧ n ≤ c := by
  unfold Value.okWide at h
  rw [hu] at h
  simp only at h
  unfold Cell.okWide at h
  rw [hu] at h
  simp only at h
  unfold Cell.ok at h
  rw [hu] at h
  simp only at h
  obtain ⟨hl, _, _, hs, row, cells, hsh, _⟩ := h
  refine ⟨hs, ?_, hl⟩
  unfold World.shape? at hsh
  split at hsh
  · rename_i cs el fr hb
    exact (Array.getElem?_eq_some_iff.1 hb).1
  · cases hsh

/-- A slice of whole numbers that came in: as an argument, and as a row. -/
structure IntsIn (w : World) (v : Value) (xs : List Int) : Prop where
  ex : (v = .slice none 0 0 ∧ xs = []) ∨ ∃ a c, v = .slice (some a) xs.length c ∧ xs.length ≤ c ∧ a.spot = none ∧ a.block < w.heap.size ∧ ∀ j, j < xs.length → w.cell? (a.add j) = some (.int .i64 (xs.getD j 0))
  wf : ∀ n ∈ xs, (Lit.int .i64 n).wf = true
  len : xs.length ≤ 9223372036854775807

theorem ints_in {P : Program} {H : Type} {enc : TypeId × Value → H} {w : World} {base b0 : Nat} {spare : Nat → Bool} {held : Bool} {r : Go.Reach} {t e : TypeId} {v : Value} {d : DataW H} {p : List MemPlace} (hu : P.underlying t = some (.slice e)) (he : P.underlying e = some (.int .i64)) (hc : P.cellsOf e = 1)
    (hv : Value.okWide P w r b0 t v) (h : DataW.Trod enc P w base spare held t v d p) : ∃ xs, IntsIn w v xs := by
  obtain ⟨a0, n0, c0, rfl⟩ := Go.WideShapes.okWide_slice hu hv
  obtain ⟨fuel, hf⟩ := h
  rcases Go.ChangeShapes.open_ints hu he hc hf with ⟨hcs, _⟩ | ⟨a, len, cap, zs, hcs, _, hl, hm, hzl, _, hcell, hwf⟩
  · simp [Value.cells] at hcs
    obtain ⟨rfl, rfl, rfl⟩ := hcs
    exact ⟨[], .inl ⟨rfl, rfl⟩, by simp, by simp⟩
  · simp [Value.cells] at hcs
    obtain ⟨rfl, rfl, rfl⟩ := hcs
    obtain ⟨h1, h2, h3⟩ := slice_in hu hv
    have hle : n0 ≤ zs.length := by rw [hzl]; split <;> omega
    have hlen : (zs.take n0).length = n0 := by simp; omega
    refine ⟨zs.take n0, .inr ⟨a, c0, by rw [hlen], by rw [hlen]; exact hl, h1, h2, fun j hj => ?_⟩, fun n hn => hwf n (List.mem_of_mem_take hn), by rw [hlen]; unfold maxLen at hm; omega⟩
    rw [hlen] at hj
    rw [hcell j (by omega)]
    simp [List.getD_eq_getElem?_getD, List.getElem?_take, hj]

/-- What the walk is handed for it, as the i-th row. -/
def intsA (i : Nat) (v : Value) (xs : List Int) : Value := match v with
  | .slice (some _) _ c => .slice (some ⟨i, 0, none⟩) xs.length c
  | v => v
def intsRow (e : TypeId) (v : Value) (xs : List Int) : InRow := match v with
  | .slice (some a) _ _ => ⟨some a, xs.map (.int .i64), e⟩
  | _ => ⟨none, [], e⟩
theorem ints_row {w : World} {v : Value} {xs : List Int} {e : TypeId} (h : IntsIn w v xs) (σ : Sig) (a : Addr) (ha : (intsRow e v xs).a = some a) :
    a.spot = none ∧ a.block < w.heap.size ∧ ∀ j, j < (intsRow e v xs).cells.length → ∃ v', w.cell? (a.add j) = some v' ∧ VR σ ((intsRow e v xs).cells.getD j undef) v' := by
  rcases h.ex with ⟨rfl, rfl⟩ | ⟨a1, c, rfl, hl, hs, hb, hc⟩
  · cases ha
  · cases ha
    refine ⟨hs, hb, fun j hj => ?_⟩
    have hj' : j < xs.length := by simpa [intsRow] using hj
    refine ⟨_, hc j hj', ?_⟩
    have : (intsRow e (.slice (some a) xs.length c) xs).cells.getD j undef = .int .i64 (xs.getD j 0) := by simp [intsRow, List.getD_eq_getElem?_getD, hj']
    rw [this]; exact .same rfl
theorem ints_arg {w : World} {v : Value} {xs : List Int} {e : TypeId} {tb : List InRow} {i : Nat} (h : IntsIn w v xs) (hi : tb[i]? = some (intsRow e v xs)) : VR (inSig tb) (intsA i v xs) v := by
  rcases h.ex with ⟨rfl, rfl⟩ | ⟨a, c, rfl, hl, hs, hb, hc⟩
  · exact .same rfl
  · have hsig : inSig tb i = some ⟨a.block, a.off, 0, true⟩ := by simp [inSig, hi, intsRow]
    have := VR.slice (n := xs.length) (c := c) (o := 0) hsig
    obtain ⟨b, o, s⟩ := a
    simp only at hs
    subst hs
    simpa [intsA] using this
/-- What a walk sees of it. -/
theorem ints_see {w : World} {v : Value} {xs : List Int} {e : TypeId} {tb : List InRow} {i : Nat} (h : IntsIn w v xs) (hi : tb[i]? = some (intsRow e v xs)) : (intsA i v xs = .slice none 0 0 ∧ xs = []) ∨
    (∃ c, intsA i v xs = .slice (some ⟨i, 0, none⟩) xs.length c ∧ xs.length ≤ c ∧ (xs ≠ [] → (inHeap tb).get i = some ⟨xs.map (.int .i64), e, false, true⟩)) := by
  rcases h.ex with ⟨rfl, rfl⟩ | ⟨a, c, rfl, hl, hs, hb, hc⟩
  · exact .inl ⟨rfl, rfl⟩
  · refine .inr ⟨c, rfl, hl, fun hne => ?_⟩
    simp [inHeap, hi, intsRow, hne]
end Go.Proofs.Ytgjpcliaggpcaaa.Ab
