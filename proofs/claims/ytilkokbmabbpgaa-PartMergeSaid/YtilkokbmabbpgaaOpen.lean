/- Arguments that can be read, as values of the print's kinds: whole numbers, bools, strings, slices and small structs of these, whatever their depth. -/
import Derived.Test.YtilkokbmabbpgaaWWords
import Derived.ChangeArms
import Derived.ChangeSlices
import Derived.Deep.Slices
import Derived.DataReads
namespace Go.Proofs.Ytilkokbmabbpgaa.Opn
open Go.RowKit Go.ChangeShapes Go.WideShapes Go.Deep Go.Proofs.YtilkokbmabbpgaaW.PrintWords

/-- What can be read at a type reads as a value of a kind, of which Q holds. -/
structure Opens {α : Type} (P : Program) (t : TypeId) (k : Kd α) (Q : α → Prop) : Prop where
  cells : P.cellsOf t = k.sz
  reads : ∀ {H : Type} (enc : TypeId × Value → H) (w : World) (base : Nat) (spare : Nat → Bool) (held : Bool) (fuel : Nat) (cs : List Value) (x : DataW H × List MemPlace),
    DataW.trod enc P w base spare held fuel t cs = some x → ∃ v, k.K w v cs ∧ Q v

theorem opens_int {P : Program} {t : TypeId} {ik : IntKind} (ht : P.underlying t = some (.int ik)) (hC : P.cellsOf t = 1) : Opens P t (Kd.int ik) (fun n => (Lit.int ik n).wf = true) :=
  ⟨hC, fun enc w base spare held fuel cs x h => by
    obtain ⟨n, rfl, _, hw⟩ := DataW.trod_int ht h
    exact ⟨n, rfl, hw⟩⟩

theorem opens_bool {P : Program} {t : TypeId} (ht : P.underlying t = some .bool) (hC : P.cellsOf t = 1) : Opens P t Kd.bool (fun _ => True) :=
  ⟨hC, fun enc w base spare held fuel cs x h => by
    obtain ⟨b, rfl, _⟩ := DataW.trod_bool ht h
    exact ⟨b, rfl, trivial⟩⟩

theorem opens_slice {α : Type} [Inhabited α] {P : Program} {t e : TypeId} {k : Kd α} {Q : α → Prop} (ht : P.underlying t = some (.slice e)) (hC : P.cellsOf t = 1) (he : Opens P e k Q) :
    Opens P t (Kd.slice e k) (fun l => l.length ≤ 9223372036854775807 ∧ ∀ v ∈ l, Q v) :=
  ⟨hC, fun enc w base spare held fuel cs x h => by
    rcases open_slice ht h with ⟨rfl, _⟩ | ⟨a, len, cap, m, n, D, Pl, rfl, _, hl, hm, hmm, _, hi⟩
    · refine ⟨[], ⟨none, 0, rfl, Nat.le_refl _, rfl, by simp, fun h0 => by simp at h0⟩, by simp, by simp⟩
    · have hle : len ≤ m := by rw [hmm]; split <;> omega
      have hex : ∀ i, i < len → ∃ v : α, Q v ∧ ∃ c, k.K w v c ∧ ∀ j u, c[j]? = some u → w.cell? (a.add (i * k.sz + j)) = some u := by
        intro i hlt
        obtain ⟨cs', hc, hx⟩ := hi i (by omega)
        obtain ⟨v, hk, hq⟩ := he.reads enc w base spare held n cs' _ hx
        obtain ⟨_, hcl, hat⟩ := World.cells?_some hc
        refine ⟨v, hq, cs', hk, fun j u hj => ?_⟩
        have hjl : j < cs'.length := (List.getElem?_eq_some_iff.1 hj).1
        have h1 := hat j (by omega)
        rw [← he.cells, ← Go.Deep.add_add, h1, hj]
      obtain ⟨f, hf⟩ := choose_lt (α := α) hex
      have hlen : ((List.range len).map f).length = len := by simp
      have hmax : len ≤ 9223372036854775807 := by unfold maxLen at hm; omega
      refine ⟨(List.range len).map f, ⟨some a, cap, by rw [hlen], by rw [hlen]; exact hl, ?_⟩, by rw [hlen]; exact hmax, ?_⟩
      · refine ⟨rfl, by rw [hlen]; exact hmax, fun _ => ⟨a, rfl, fun j p hj => ?_⟩⟩
        have hjl : j < len := by
          have := (List.getElem?_eq_some_iff.1 hj).1
          simpa using this
        have hp : f j = p := by simpa [hjl] using hj
        obtain ⟨_, c, hk, hcell⟩ := hf j hjl
        rw [hp] at hk
        exact ⟨c, k.K_len hk, hk, hcell⟩
      · intro v hv
        obtain ⟨i, hi1, rfl⟩ := List.mem_map.1 hv
        exact (hf i (List.mem_range.1 hi1)).1⟩

theorem opens_struct2 {α β γ : Type} {P : Program} {t : TypeId} {f0 f1 : Field} {k0 : Kd α} {k1 : Kd β} {Q0 : α → Prop} {Q1 : β → Prop} (hs : P.underlying t = some (.struct #[f0, f1]))
    (h0 : Opens P f0.type k0 Q0) (h1 : Opens P f1.type k1 Q1) (o0 : f0.offset = 0) (o1 : f1.offset = k0.sz) (hC : P.cellsOf t = k0.sz + k1.sz) (g : γ → α × β) (mk : α → β → γ) (hg : ∀ a b, g (mk a b) = (a, b)) :
    Opens P t (Kd.iso (Kd.pair k0 k1) g) (fun x => Q0 (g x).1 ∧ Q1 (g x).2) :=
  ⟨hC, fun enc w base spare held fuel cs x h => by
    obtain ⟨xs, n, _, _, hlen, hxl, hf⟩ := DataW.trod_struct hs h
    have hx2 : xs.length = 2 := by simpa using hxl
    have e0 : xs[0]? = some (xs[0]'(by omega)) := List.getElem?_eq_getElem (by omega)
    have e1 : xs[1]? = some (xs[1]'(by omega)) := List.getElem?_eq_getElem (by omega)
    obtain ⟨v0, a0, q0⟩ := h0.reads enc w base spare held n _ _ ((hf 0 f0 rfl).trans e0)
    obtain ⟨v1, a1, q1⟩ := h1.reads enc w base spare held n _ _ ((hf 1 f1 rfl).trans e1)
    rw [o0, h0.cells, List.drop_zero] at a0
    rw [o1, h1.cells] at a1
    have hl : (cs.drop k0.sz).take k1.sz = cs.drop k0.sz := List.take_of_length_le (by simp; omega)
    rw [hl] at a1
    refine ⟨mk v0 v1, ?_, by rw [hg]; exact ⟨q0, q1⟩⟩
    show (Kd.pair k0 k1).K w (g (mk v0 v1)) cs
    rw [hg]
    exact ⟨_, _, (List.take_append_drop k0.sz cs).symm, a0, a1⟩⟩

/-- A struct that comes by value. -/
theorem opens_value {α : Type} {H : Type} {enc : TypeId × Value → H} {P : Program} {w : World} {base : Nat} {spare : Nat → Bool} {held : Bool} {r : Reach} {b0 : Nat} {t : TypeId} {fs : Array Field} {k : Kd α} {Q : α → Prop} {v : Value} {d : DataW H} {p : List MemPlace}
    (ho : Opens P t k Q) (hs : P.underlying t = some (.struct fs)) (hv : Value.okWide P w r b0 t v) (h : DataW.Trod enc P w base spare held t v d p) : ∃ (x : α) (cs : List Value), v = .agg cs.toArray ∧ k.K w x cs ∧ Q x := by
  obtain ⟨cs, rfl, _⟩ := okWide_struct hs hv
  obtain ⟨fuel, hf⟩ := h
  obtain ⟨x, hk, hq⟩ := ho.reads enc w base spare held fuel _ _ hf
  exact ⟨x, cs.toList, by simp, by simpa [Value.cells] using hk, hq⟩

/-- A slice. -/
theorem opens_sliceV {α : Type} {H : Type} {enc : TypeId × Value → H} {P : Program} {w : World} {base : Nat} {spare : Nat → Bool} {held : Bool} {r : Reach} {b0 : Nat} {t e : TypeId} {k : Kd α} {Q : List α → Prop} {v : Value} {d : DataW H} {p : List MemPlace}
    (ho : Opens P t (Kd.slice e k) Q) (ht : P.underlying t = some (.slice e)) (hv : Value.okWide P w r b0 t v) (h : DataW.Trod enc P w base spare held t v d p) : ∃ (A : Option Addr) (c : Nat) (xs : List α), v = .slice A xs.length c ∧ xs.length ≤ c ∧ Kd.C k w A xs.length xs ∧ Q xs := by
  obtain ⟨a, len, cap, rfl⟩ := okWide_slice ht hv
  obtain ⟨fuel, hf⟩ := h
  obtain ⟨xs, ⟨A, c, hcs, hl, hC⟩, hq⟩ := ho.reads enc w base spare held fuel _ _ hf
  simp [Value.cells] at hcs
  obtain ⟨rfl, rfl, rfl⟩ := hcs
  exact ⟨a, cap, xs, rfl, hl, hC, hq⟩
end Go.Proofs.Ytilkokbmabbpgaa.Opn
