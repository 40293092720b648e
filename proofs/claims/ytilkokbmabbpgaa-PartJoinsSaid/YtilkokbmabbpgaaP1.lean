/- Classes (part): are these classes, are things there, two classes are one, a join. -/
import Derived.Test.YtilkokbmabbpgaaAbP
set_option linter.unusedVariables false
set_option linter.unusedSimpArgs false
set_option maxRecDepth 100000
namespace Go.Proofs.Ytilkokbmabbpgaa.Ab
open Go

/-- Are these classes? -/
def Cls (p : List Int) : Prop := ∀ i, i < p.length → 0 ≤ p.getD i 0 ∧ p.getD i 0 ≤ i ∧ p.getD (p.getD i 0).toNat 0 = p.getD i 0

theorem right_w {H : AHeap} {v : Value} {p : List Int} {f : List Nat} (h : Sl .int H v p f) (hl : p.length < 1000000) : FnW Try.prog 14 #[v] H (fun r H' => (∃ b, r = .bool b ∧ (b = true ↔ Cls p)) ∧ H = H') := by
  refine fw_14 (Nat.le_refl _) fun hf => ?_
  simp only [Try.f14, Option.getD_some]
  obtain ⟨a0, c0, hv0⟩ := h.val
  simp only [go_sem, hv0]
  refine w_for 268435356 p.length (fun i V H1 => V 7 = .int .i64 (i : Nat) ∧ H = H1 ∧ ∀ j, j < i → 0 ≤ p.getD j 0 ∧ p.getD j 0 ≤ j ∧ p.getD (p.getD j 0).toNat 0 = p.getD j 0) ⟨by simp only [go_sem]; rfl, rfl, fun j hj => by omega⟩ ?_ ?_ (by rfl)
  · rintro i V H1 hi ⟨e7, rfl, hall⟩
    obtain ⟨b, o, c, B, hv, hB, hbf, hcell⟩ := h.int_at hi
    rw [hv0] at hv
    cases hv
    generalize hk : p.getD i 0 = k at hcell
    by_cases h1 : k < 0
    · simp only [go_sem, e7, hi, hB, hcell, h1]
      exact ⟨_, rfl, by constructor; intro h; cases h; intro h; have := (h i hi).1; omega⟩
    · by_cases h2 : (i : Int) < k
      · simp only [go_sem, e7, hi, hB, hcell, h1, h2]
        exact ⟨_, rfl, by constructor; intro h; cases h; intro h; have := (h i hi).2.1; omega⟩
      · have hkl : k.toNat < p.length := by omega
        have h0 : 0 ≤ k := by omega
        obtain ⟨b2, o2, c2, B2, hv2, hB2, _, hcell2⟩ := h.int_at hkl
        rw [hv0] at hv2
        cases hv2
        rw [hB] at hB2
        cases hB2
        by_cases h3 : p.getD k.toNat 0 = k
        · simp only [go_sem, e7, hi, hB, hcell, h1, h2, h0, hkl, hcell2, h3, wrap_succ hi (by omega)]
          refine fun j hj => ?_
          by_cases hji : j = i
          · subst hji; rw [hk]; exact ⟨h0, by omega, h3⟩
          · exact hall j (by omega)
        · simp only [go_sem, e7, hi, hB, hcell, h1, h2, h0, hkl, hcell2, h3]
          exact ⟨_, rfl, by constructor; intro h; cases h; intro h; have := (h i hi).2.2; rw [hk] at this; exact absurd this h3⟩
  · rintro V H1 ⟨e7, rfl, hall⟩
    simp only [go_sem, e7]
    exact ⟨_, rfl, by constructor; intro _; exact hall; intro _; rfl⟩
theorem right2_w {H : AHeap} {v : Value} {p : List Int} {f : List Nat} (h : Sl .int H v p f) (hl : p.length < 1000000) : FnW Try.prog 24 #[v] H (fun r H' => (∃ b, r = .bool b ∧ (b = true ↔ Cls p)) ∧ H = H') := by
  refine fw_24 (Nat.le_refl _) fun hf => ?_
  simp only [Try.f24, Option.getD_some]
  obtain ⟨a0, c0, hv0⟩ := h.val
  simp only [go_sem, hv0]
  refine w_for 268435356 p.length (fun i V H1 => V 7 = .int .i64 (i : Nat) ∧ H = H1 ∧ ∀ j, j < i → 0 ≤ p.getD j 0 ∧ p.getD j 0 ≤ j ∧ p.getD (p.getD j 0).toNat 0 = p.getD j 0) ⟨by simp only [go_sem]; rfl, rfl, fun j hj => by omega⟩ ?_ ?_ (by rfl)
  · rintro i V H1 hi ⟨e7, rfl, hall⟩
    obtain ⟨b, o, c, B, hv, hB, hbf, hcell⟩ := h.int_at hi
    rw [hv0] at hv
    cases hv
    generalize hk : p.getD i 0 = k at hcell
    by_cases h1 : k < 0
    · simp only [go_sem, e7, hi, hB, hcell, h1]
      exact ⟨_, rfl, by constructor; intro h; cases h; intro h; have := (h i hi).1; omega⟩
    · by_cases h2 : (i : Int) < k
      · simp only [go_sem, e7, hi, hB, hcell, h1, h2]
        exact ⟨_, rfl, by constructor; intro h; cases h; intro h; have := (h i hi).2.1; omega⟩
      · have hkl : k.toNat < p.length := by omega
        have h0 : 0 ≤ k := by omega
        obtain ⟨b2, o2, c2, B2, hv2, hB2, _, hcell2⟩ := h.int_at hkl
        rw [hv0] at hv2
        cases hv2
        rw [hB] at hB2
        cases hB2
        by_cases h3 : p.getD k.toNat 0 = k
        · simp only [go_sem, e7, hi, hB, hcell, h1, h2, h0, hkl, hcell2, h3, wrap_succ hi (by omega)]
          refine fun j hj => ?_
          by_cases hji : j = i
          · subst hji; rw [hk]; exact ⟨h0, by omega, h3⟩
          · exact hall j (by omega)
        · simp only [go_sem, e7, hi, hB, hcell, h1, h2, h0, hkl, hcell2, h3]
          exact ⟨_, rfl, by constructor; intro h; cases h; intro h; have := (h i hi).2.2; rw [hk] at this; exact absurd this h3⟩
  · rintro V H1 ⟨e7, rfl, hall⟩
    simp only [go_sem, e7]
    exact ⟨_, rfl, by constructor; intro _; exact hall; intro _; rfl⟩

/-- Are things there? -/
def In (l : List Int) (n : Nat) : Prop := ∀ x ∈ l, 0 ≤ x ∧ x < n
theorem In.at {l : List Int} {n i : Nat} (h : In l n) (hi : i < l.length) : 0 ≤ l.getD i 0 ∧ l.getD i 0 < n := by
  have e : l.getD i 0 = l[i] := by simp [List.getD_eq_getElem?_getD, hi]
  rw [e]; exact h _ (List.getElem_mem hi)
theorem In.of {l : List Int} {n : Nat} (h : ∀ i, i < l.length → 0 ≤ l.getD i 0 ∧ l.getD i 0 < n) : In l n := fun x hx => by
  obtain ⟨i, hi, rfl⟩ := List.getElem_of_mem hx
  have e : l.getD i 0 = l[i] := by simp [List.getD_eq_getElem?_getD, hi]
  rw [← e]; exact h i hi
theorem inPart_w {H : AHeap} {v w : Value} {p l : List Int} {f g : List Nat} (h : Sl .int H v p f) (hg : Sl .int H w l g) (hl : l.length < 1000000) : FnW Try.prog 32 #[v, w] H (fun r H' => (∃ b, r = .bool b ∧ (b = true ↔ In l p.length)) ∧ H = H') := by
  refine fw_32 (Nat.le_refl _) fun hf => ?_
  simp only [Try.f32, Option.getD_some]
  obtain ⟨a0, c0, hv0⟩ := h.val
  obtain ⟨a1, c1, hv1⟩ := hg.val
  simp only [go_sem, hv0, hv1]
  refine w_for 4193872 l.length (fun i V H1 => V 9 = .int .i64 (i : Nat) ∧ H = H1 ∧ ∀ j, j < i → 0 ≤ l.getD j 0 ∧ l.getD j 0 < p.length) ⟨by simp only [go_sem]; rfl, rfl, fun j hj => by omega⟩ ?_ ?_ (by rfl)
  · rintro i V H1 hi ⟨e9, rfl, hall⟩
    obtain ⟨b, o, c, B, hv, hB, hbf, hcell⟩ := hg.int_at hi
    rw [hv1] at hv
    cases hv
    generalize hk : l.getD i 0 = k at hcell
    by_cases h1 : k < 0
    · simp only [go_sem, e9, hi, hB, hcell, h1]
      exact ⟨_, rfl, by constructor; intro h; cases h; intro h; have := (h.at hi).1; omega⟩
    · by_cases h2 : ((p.length : Nat) : Int) ≤ k
      · simp only [go_sem, e9, hi, hB, hcell, h1, h2]
        exact ⟨_, rfl, by constructor; intro h; cases h; intro h; have := (h.at hi).2; omega⟩
      · simp only [go_sem, e9, hi, hB, hcell, h1, h2, wrap_succ hi (by omega)]
        refine fun j hj => ?_
        by_cases hji : j = i
        · subst hji; omega
        · exact hall j (by omega)
  · rintro V H1 ⟨e9, rfl, hall⟩
    simp only [go_sem, e9]
    exact ⟨_, rfl, by constructor; intro _; exact In.of hall; intro _; rfl⟩
end Go.Proofs.Ytilkokbmabbpgaa.Ab
