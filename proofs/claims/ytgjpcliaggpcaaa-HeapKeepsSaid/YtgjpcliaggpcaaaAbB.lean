/- A region that draws its order comes, whatever is picked, to what the text's own order comes to: for operations that use and turn what the others, unless they wait for each other, neither use nor turn. -/
import Derived.Test.YtgjpcliaggpcaaaAbA
set_option linter.unusedVariables false
set_option linter.unusedSimpArgs false
namespace Go.Proofs.Ytgjpcliaggpcaaa.Ab
open Go Classical

inductive Bef (ops : Array Oper) (i : Nat) : Nat → Prop
  | one {k : Nat} : i ∈ edgesOf ops k → Bef ops i k
  | more {j k : Nat} : Bef ops i j → j ∈ edgesOf ops k → Bef ops i k

theorem foldl_bit (f : Nat → Nat) (l : List Nat) (s i : Nat) (h : (l.foldl (fun s e => s ||| f e) s).testBit i = true) : s.testBit i = true ∨ ∃ e ∈ l, (f e).testBit i = true := by
  induction l generalizing s with
  | nil => exact .inl h
  | cons e l ih =>
    simp only [List.foldl_cons] at h
    rcases ih _ h with h | ⟨e', he, h⟩
    · rw [Nat.testBit_or, Bool.or_eq_true] at h
      exact h.imp id fun h => ⟨e, by simp, h⟩
    · exact .inr ⟨e', by simp [he], h⟩

theorem befM_len (ops : Array Oper) (n : Nat) : (befM ops n).length = n := by induction n <;> simp_all [befM]

theorem befM_bef (ops : Array Oper) : ∀ (n k i : Nat), ((befM ops n).getD k 0).testBit i = true → Bef ops i k
  | 0, k, i, h => by simp [befM] at h
  | n + 1, k, i, h => by
    by_cases hk : k < n
    · refine befM_bef ops n k i ?_
      rw [befM, List.getD_eq_getElem?_getD, List.getElem?_append_left (by rw [befM_len]; exact hk), ← List.getD_eq_getElem?_getD] at h
      exact h
    · by_cases hk' : k = n
      · subst hk'
        rw [befM, List.getD_eq_getElem?_getD, List.getElem?_append_right (by rw [befM_len]; exact Nat.le_refl _), befM_len] at h
        simp only [Nat.sub_self, List.getElem?_cons_zero, Option.getD_some] at h
        rcases foldl_bit _ _ _ _ h with h | ⟨e, he, h⟩
        · simp at h
        · rw [Nat.testBit_or, Bool.or_eq_true] at h
          rcases h with h | h
          · rw [Nat.testBit_two_pow] at h
            exact .one (by rw [← (of_decide_eq_true h : e = i)]; exact he)
          · exact .more (befM_bef ops k e i h) he
      · rw [befM, List.getD_eq_getElem?_getD, List.getElem?_eq_none (by rw [List.length_append, befM_len]; simp; omega)] at h
        simp at h

structure RegionOk (ops : Array Oper) : Prop where
  lt : ∀ k e, k < ops.size → e ∈ edgesOf ops k → e < k
  pair : ∀ i k x y, i < k → ops[i]? = some x → ops[k]? = some y → ¬ Bef ops i k → x.apart ops y = true

theorem regionOk_spec {ops : Array Oper} (h : regionOk ops = true) : RegionOk ops := by
  unfold regionOk at h
  rw [List.all_eq_true] at h
  refine ⟨fun k e hk he => ?_, fun i k x y hik hx hy hb => ?_⟩
  · have := h k (List.mem_range.2 hk)
    rw [Bool.and_eq_true, List.all_eq_true, List.all_eq_true] at this
    exact of_decide_eq_true (this.1 e he)
  · have hk : k < ops.size := (Array.getElem?_eq_some_iff.1 hy).1
    have := h k (List.mem_range.2 hk)
    rw [Bool.and_eq_true, List.all_eq_true, List.all_eq_true] at this
    have := this.2 i (List.mem_range.2 hik)
    unfold pairOk at this
    rw [Bool.or_eq_true] at this
    rcases this with h1 | h1
    · exact absurd (befM_bef ops _ _ _ h1) hb
    · rw [hx, hy] at h1; exact h1

/-- One operation of a region in the text's own order. -/
def OpAt (P : Program) (ops : Array Oper) (F : Nat → Prop) (o : Oper) (t : Act) (H : AHeap) (v : Value) (H' : AHeap) : Prop :=
  if Region.wanted o (yielded ops t.tmps) = true then OpT P F o t H v H' else v = undef ∧ H' = H

/-- An operation that reads at most, in whatever heap: it leaves the world's heap as it was. -/
def OpQ (P : Program) (o : Oper) (t : Act) (H : AHeap) (v : Value) : Prop :=
  ∀ (σ : Sig) (w : World) (a : Act) (K : Act → World → Prop) (Q : Exit → Act → World → Prop), Rel P σ All H.get w →
    (∀ x ∈ o.op.operands, VR σ (t.eval x) (a.eval x)) → (∀ v', VR σ v v' → K (a.put o.dst v') w) → o.wp P a w K Q

/-- What an operation sees of a block. -/
abbrev Obs := Option (Nat × (Option ABlk → Option Value))

/-- An operation that reads at most: what it sees decides what it comes to. -/
def ObsOk (P : Program) (ops : Array Oper) (ob : Obs) (F : Nat → Prop) (o : Oper) (t : Act) (H : AHeap) (v : Value) (H' : AHeap) : Prop :=
  ∀ b π, ob = some (b, π) → H' = H ∧ (∀ x, ¬ F x) ∧ (Region.wanted o (yielded ops t.tmps) = true → ∀ H2 : AHeap, π (H2.get b) = π (H.get b) → OpQ P o t H2 v) ∧ (¬ Region.wanted o (yielded ops t.tmps) = true → v = undef)

/-- A region in the text's own order. -/
structure Tra (P : Program) (ops : Array Oper) where
  t : Nat → Act
  H : Nat → AHeap
  v : Nat → Value
  F : Nat → Nat → Prop
  wf : (H 0).wf
  obs : Nat → Obs
  step : ∀ (i : Nat) (o : Oper), ops[i]? = some o → obs i = none → OpAt P ops (F i) o (t i) (H i) (v i) (H (i + 1))
  put : ∀ (i : Nat) (o : Oper), ops[i]? = some o → t (i + 1) = (t i).put o.dst (v i)
  stp : ∀ i, i < ops.size → Stp (F i) (H i) (H (i + 1))
  opn : ∀ (i : Nat) (o : Oper), ops[i]? = some o → o.op.operands.all okOperand = true
  lt : ∀ i b, i < ops.size → F i b → b < (H i).next
  obsq : ∀ (i : Nat) (o : Oper), ops[i]? = some o → ObsOk P ops (obs i) (F i) o (t i) (H i) (v i) (H (i + 1))

/-- What one uses the other does not turn. -/
structure Tra.Free {P : Program} {ops : Array Oper} (T : Tra P ops) (i k : Nat) : Prop where
  c2 : ∀ b, T.F k b → b < (T.H i).next → (T.H (i + 1)).get b = (T.H i).get b
  c3 : ∀ b, (T.F i b ∨ fresh (T.H i) (T.H (i + 1)) b) → (T.H (k + 1)).get b = (T.H k).get b
  c4 : ∀ b π, T.obs k = some (b, π) → π ((T.H (i + 1)).get b) = π ((T.H i).get b)
  c5 : ∀ b π, T.obs i = some (b, π) → π ((T.H (k + 1)).get b) = π ((T.H k).get b)

section
variable {P : Program} {ops : Array Oper} (T : Tra P ops)

def dstOf (ops : Array Oper) (i : Nat) : Option Tmp := (ops[i]?).bind (·.dst)

noncomputable def tv (L : Nat → Prop) : Nat → Nat → Value
  | 0, d => (T.t 0).tmps.getD d undef
  | m + 1, d => if L m ∧ dstOf ops m = some d ∧ d < (T.t 0).tmps.size then T.v m else tv L m d

noncomputable def hv (L : Nat → Prop) : Nat → Nat → Option ABlk
  | 0, b => (T.H 0).get b
  | m + 1, b => if L m ∧ (T.H (m + 1)).get b ≠ (T.H m).get b then (T.H (m + 1)).get b else hv L m b

theorem Tra.next_le : ∀ {i k : Nat}, i ≤ k → k ≤ ops.size → (T.H i).next ≤ (T.H k).next := by
  intro i k h
  induction h with
  | refl => exact fun _ => Nat.le_refl _
  | @step m hm ih =>
    intro hk
    have h1 := ih (Nat.le_of_succ_le hk)
    have h2 := (T.stp m hk).next
    exact Nat.le_trans h1 h2

theorem Tra.wfs (i : Nat) (hi : i ≤ ops.size) : (T.H i).wf := by
  cases i with
  | zero => exact T.wf
  | succ i => exact (T.stp i (by omega)).wf

theorem Tra.size : ∀ (i : Nat), i ≤ ops.size → (T.t i).tmps.size = (T.t 0).tmps.size
  | 0, _ => rfl
  | i + 1, h => by
    have ho : ops[i]? = some ops[i] := Array.getElem?_eq_getElem (by omega)
    rw [T.put i _ ho, put_size]; exact Tra.size i (by omega)

theorem Tra.def' : ∀ (i : Nat), i ≤ ops.size → (T.t i).defers = (T.t 0).defers
  | 0, _ => rfl
  | i + 1, h => by
    have ho : ops[i]? = some ops[i] := Array.getElem?_eq_getElem (by omega)
    rw [T.put i _ ho, put_defers']; exact Tra.def' i (by omega)

theorem Tra.t_succ {i : Nat} (hi : i < ops.size) (d : Nat) : (T.t (i + 1)).tmps.getD d undef = if dstOf ops i = some d ∧ d < (T.t 0).tmps.size then T.v i else (T.t i).tmps.getD d undef := by
  have ho : ops[i]? = some ops[i] := Array.getElem?_eq_getElem hi
  rw [T.put i _ ho, put_getD, T.size i (by omega)]
  simp only [dstOf, ho, Option.bind_some]

/-- What has been done is closed under what waits. -/
structure Down (ops : Array Oper) (L : Nat → Prop) : Prop where
  lt : ∀ i, L i → i < ops.size
  edge : ∀ k e, L k → e ∈ edgesOf ops k → L e

theorem Down.bef {L : Nat → Prop} (h : Down ops L) {i k : Nat} (hb : Bef ops i k) (hk : ∀ e ∈ edgesOf ops k, L e) : L i := by
  induction hb with
  | one he => exact hk _ he
  | more _ he ih => exact ih fun e he' => h.edge _ e (hk _ he) he'

variable {T}

theorem tv_at {L : Nat → Prop} (hd : Down ops L) (ok : RegionOk ops) {k : Nat} {o : Oper} (ho : ops[k]? = some o) (hk : ¬ L k) (he : ∀ e ∈ edgesOf ops k, L e)
    {d : Nat} (hdk : d ∈ o.looksAt ops ∨ o.dst = some d) {n : Nat} (hn : k ≤ n) (hns : n ≤ ops.size) : tv T L n d = (T.t k).tmps.getD d undef := by
  have hks : k < ops.size := (Array.getElem?_eq_some_iff.1 ho).1
  have low : ∀ m, m ≤ k → tv T L m d = (T.t m).tmps.getD d undef := by
    intro m
    induction m with
    | zero => exact fun _ => rfl
    | succ m ih =>
      intro hm
      have hms : m < ops.size := by omega
      rw [T.t_succ hms, tv, ih (by omega)]
      by_cases hdst : dstOf ops m = some d
      · have hom : ops[m]? = some ops[m] := Array.getElem?_eq_getElem hms
        have hLm : L m := by
          by_cases hb : Bef ops m k
          · exact hd.bef hb he
          · obtain ⟨h1, h2, h3⟩ := Oper.apart_spec (ok.pair m k _ _ (by omega) hom ho hb)
            simp only [dstOf, hom, Option.bind_some] at hdst
            rcases hdk with hdk | hdk
            · exact absurd hdk (h1 d hdst)
            · exact absurd hdk (h2 d hdst)
        simp [hLm]
      · simp [hdst]
  have high : ∀ m, k ≤ m → m ≤ n → tv T L m d = tv T L k d := by
    intro m hm
    induction hm with
    | refl => exact fun _ => rfl
    | @step m hm ih =>
      intro hmn
      have hkm : k ≤ m := hm
      have hmn : m + 1 ≤ n := hmn
      have hms : m < ops.size := by omega
      rw [tv, ih (by omega)]
      by_cases hc : L m ∧ dstOf ops m = some d ∧ d < (T.t 0).tmps.size
      · exfalso
        have hne : k ≠ m := fun h => hk (h ▸ hc.1)
        have hom : ops[m]? = some ops[m] := Array.getElem?_eq_getElem hms
        by_cases hb : Bef ops k m
        · exact hk (hd.bef hb fun e he => hd.edge m e hc.1 he)
        · obtain ⟨h1, h2, h3⟩ := Oper.apart_spec (ok.pair k m _ _ (by omega) ho hom hb)
          have hdst := hc.2.1
          simp only [dstOf, hom, Option.bind_some] at hdst
          rcases hdk with hdk | hdk
          · exact h3 d hdst hdk
          · exact h2 d hdk hdst
      · rw [if_neg hc]
  rw [high n hn (Nat.le_refl _), low k (Nat.le_refl _)]

/-- The conditions on the heap, for all two that do not wait for each other. -/
def FreeAll (T : Tra P ops) : Prop := ∀ i k, i < k → k < ops.size → ¬ Bef ops i k → T.Free i k

theorem hv_at {L : Nat → Prop} (hd : Down ops L) (fr : FreeAll T) {σ : Sig} (hσ : ∀ i, i < ops.size → ¬ L i → ∀ b, fresh (T.H i) (T.H (i + 1)) b → σ b = none)
    {k : Nat} (hks : k < ops.size) (hk : ¬ L k) (he : ∀ e ∈ edgesOf ops k, L e) {b : Nat} {l : Loc} (hb : T.F k b) (hlt : b < (T.H k).next) (hs : σ b = some l)
    {n : Nat} (hn : k ≤ n) (hns : n ≤ ops.size) : hv T L n b = (T.H k).get b := by
  have low : ∀ m, m ≤ k → hv T L m b = (T.H m).get b := by
    intro m
    induction m with
    | zero => exact fun _ => rfl
    | succ m ih =>
      intro hm
      rw [hv, ih (by omega)]
      by_cases hc : (T.H (m + 1)).get b = (T.H m).get b
      · simp [hc]
      · by_cases hL : L m
        · simp [hL, hc]
        · exfalso
          have hnb : ¬ Bef ops m k := fun h => hL (hd.bef h he)
          have hfr := fr m k (by omega) hks hnb
          by_cases hlm : b < (T.H m).next
          · exact hc (hfr.c2 b hb hlm)
          · have hx : fresh (T.H m) (T.H (m + 1)) b := ⟨by omega, by
              rcases Nat.lt_or_ge b (T.H (m + 1)).next with h | h
              · exact h
              · exact absurd (by rw [T.wfs (m + 1) (by omega) b h, T.wfs m (by omega) b (by omega)]) hc⟩
            rw [hσ m (by omega) hL b hx] at hs; cases hs
  have high : ∀ m, k ≤ m → m ≤ n → hv T L m b = hv T L k b := by
    intro m hm
    induction hm with
    | refl => exact fun _ => rfl
    | @step m hm ih =>
      intro hmn
      have hkm : k ≤ m := hm
      have hmn : m + 1 ≤ n := hmn
      rw [hv, ih (by omega)]
      by_cases hc : L m ∧ (T.H (m + 1)).get b ≠ (T.H m).get b
      · exfalso
        have hne : k ≠ m := fun h => hk (h ▸ hc.1)
        have hnb : ¬ Bef ops k m := fun hb => hk (hd.bef hb fun e he => hd.edge m e hc.1 he)
        exact hc.2 ((fr k m (by omega) (by omega) hnb).c3 b (.inl hb))
      · rw [if_neg hc]
  rw [high n hn (Nat.le_refl _), low k (Nat.le_refl _)]

/-- What is seen of a block does not hang on the order. -/
theorem hv_obs {L : Nat → Prop} (hd : Down ops L) (fr : FreeAll T) {k : Nat} (hks : k < ops.size) (hk : ¬ L k) (he : ∀ e ∈ edgesOf ops k, L e) {b : Nat} {π : Option ABlk → Option Value} (hob : T.obs k = some (b, π))
    {n : Nat} (hn : k ≤ n) (hns : n ≤ ops.size) : π (hv T L n b) = π ((T.H k).get b) := by
  have low : ∀ m, m ≤ k → π (hv T L m b) = π ((T.H m).get b) := by
    intro m
    induction m with
    | zero => exact fun _ => rfl
    | succ m ih =>
      intro hm
      rw [hv]
      by_cases hL : L m
      · by_cases hc : (T.H (m + 1)).get b = (T.H m).get b
        · rw [if_neg (fun h => h.2 hc), ih (by omega), hc]
        · rw [if_pos ⟨hL, hc⟩]
      · rw [if_neg (fun h => hL h.1), ih (by omega)]
        have hnb : ¬ Bef ops m k := fun h => hL (hd.bef h he)
        exact ((fr m k (by omega) hks hnb).c4 b π hob).symm
  have unb : ∀ m, L m → ¬ Bef ops k m := fun m hL hb => hk (hd.bef hb fun e he' => hd.edge m e hL he')
  have same : ∀ m, k ≤ m → m < ops.size → L m → (T.H (m + 1)).get b ≠ (T.H m).get b → ∀ j, k ≤ j → j ≤ m → π ((T.H j).get b) = π ((T.H k).get b) := by
    intro m hkm hms hLm hch j hkj
    induction hkj with
    | refl => exact fun _ => rfl
    | @step j hj ih =>
      intro hjm
      have hkj : k ≤ j := hj
      have hjm : j + 1 ≤ m := hjm
      rw [← ih (by omega)]
      by_cases hLj : L j
      · have hne : k ≠ j := fun h => hk (h ▸ hLj)
        exact (fr k j (by omega) (by omega) (unb j hLj)).c5 b π hob
      · have hnb : ¬ Bef ops j m := fun hb => hLj (hd.bef hb fun e he' => hd.edge m e hLm he')
        by_cases hF : T.F m b
        · by_cases hlt : b < (T.H j).next
          · rw [(fr j m (by omega) hms hnb).c2 b hF hlt]
          · by_cases hx : fresh (T.H j) (T.H (j + 1)) b
            · exact absurd ((fr j m (by omega) hms hnb).c3 b (.inr hx)) hch
            · have hlt2 : (T.H (j + 1)).next ≤ b := by
                rcases Nat.lt_or_ge b (T.H (j + 1)).next with h | h
                · exact absurd ⟨by omega, h⟩ hx
                · exact h
              rw [T.wfs (j + 1) (by omega) b hlt2, T.wfs j (by omega) b (by omega)]
        · by_cases hlt : b < (T.H m).next
          · exact absurd ((T.stp m hms).same b hlt hF) hch
          · have h1 := T.next_le (show j + 1 ≤ m by omega) (by omega)
            have h2 := T.next_le (show j ≤ m by omega) (by omega)
            rw [T.wfs (j + 1) (by omega) b (by omega), T.wfs j (by omega) b (by omega)]
  have high : ∀ m, k ≤ m → m ≤ n → π (hv T L m b) = π ((T.H k).get b) := by
    intro m hm
    induction hm with
    | refl => exact fun _ => low k (Nat.le_refl _)
    | @step m hm ih =>
      intro hmn
      have hkm : k ≤ m := hm
      have hmn : m + 1 ≤ n := hmn
      rw [hv]
      by_cases hc : L m ∧ (T.H (m + 1)).get b ≠ (T.H m).get b
      · rw [if_pos hc]
        have hne : k ≠ m := fun h => hk (h ▸ hc.1)
        rw [(fr k m (by omega) (by omega) (unb m hc.1)).c5 b π hob]
        exact same m hkm (by omega) hc.1 hc.2 m hkm (Nat.le_refl _)
      · rw [if_neg hc]; exact ih (by omega)
  exact high n hn (Nat.le_refl _)

theorem hv_fresh {L : Nat → Prop} (hd : Down ops L) (fr : FreeAll T) {k : Nat} (hks : k < ops.size) (hk : ¬ L k) {b : Nat} (hb : fresh (T.H k) (T.H (k + 1)) b)
    {n : Nat} (hn : k ≤ n) (hns : n ≤ ops.size) : hv T L n b = none := by
  have low : ∀ m, m ≤ k → hv T L m b = none := by
    intro m
    induction m with
    | zero => exact fun _ => T.wf b (Nat.le_trans (T.next_le (Nat.zero_le k) (by omega)) hb.1)
    | succ m ih =>
      intro hm
      rw [hv, ih (by omega), T.wfs (m + 1) (by omega) b (Nat.le_trans (T.next_le hm (by omega)) hb.1)]
      simp
  have high : ∀ m, k ≤ m → m ≤ n → hv T L m b = hv T L k b := by
    intro m hm
    induction hm with
    | refl => exact fun _ => rfl
    | @step m hm ih =>
      intro hmn
      have hkm : k ≤ m := hm
      have hmn : m + 1 ≤ n := hmn
      rw [hv, ih (by omega)]
      by_cases hc : L m ∧ (T.H (m + 1)).get b ≠ (T.H m).get b
      · exfalso
        have hne : k ≠ m := fun h => hk (h ▸ hc.1)
        have hnb : ¬ Bef ops k m := fun hb => hk (hd.bef hb fun e he => hd.edge m e hc.1 he)
        exact hc.2 ((fr k m (by omega) (by omega) hnb).c3 b (.inr hb))
      · rw [if_neg hc]
  rw [high n hn (Nat.le_refl _), low k (Nat.le_refl _)]

def also (L : Nat → Prop) (k : Nat) : Nat → Prop := fun i => L i ∨ i = k

theorem tv_also {L : Nat → Prop} (hd : Down ops L) (ok : RegionOk ops) {k : Nat} {o : Oper} (ho : ops[k]? = some o) (hk : ¬ L k) (he : ∀ e ∈ edgesOf ops k, L e)
    (d : Nat) {n : Nat} (hn : k < n) (hns : n ≤ ops.size) : tv T (also L k) n d = if o.dst = some d ∧ d < (T.t 0).tmps.size then T.v k else tv T L n d := by
  have low : ∀ m, m ≤ k → tv T (also L k) m d = tv T L m d := by
    intro m
    induction m with
    | zero => exact fun _ => rfl
    | succ m ih =>
      intro hm
      rw [tv, tv, ih (by omega)]
      have : also L k m ↔ L m := ⟨fun h => h.resolve_right (by omega), .inl⟩
      simp only [this]
  have at_ : tv T (also L k) (k + 1) d = if o.dst = some d ∧ d < (T.t 0).tmps.size then T.v k else tv T L k d := by
    rw [tv, low k (Nat.le_refl _)]
    have h1 : also L k k := .inr rfl
    have h2 : dstOf ops k = o.dst := by simp [dstOf, ho]
    simp only [h1, h2, true_and]
  have at' : tv T L (k + 1) d = tv T L k d := by rw [tv, if_neg (fun h => hk h.1)]
  have high : ∀ m, k + 1 ≤ m → m ≤ n → tv T (also L k) m d = if o.dst = some d ∧ d < (T.t 0).tmps.size then T.v k else tv T L m d := by
    intro m hm
    induction hm with
    | refl => exact fun _ => by rw [at_, at']
    | @step m hm ih =>
      intro hmn
      have hmn : m + 1 ≤ n := hmn
      have hkm : k < m := hm
      have hms : m < ops.size := by omega
      rw [tv, tv, ih (by omega)]
      have : also L k m ↔ L m := ⟨fun h => h.resolve_right (by omega), .inl⟩
      simp only [this]
      by_cases hc : L m ∧ dstOf ops m = some d ∧ d < (T.t 0).tmps.size
      · rw [if_pos hc, if_pos hc, if_neg]
        rintro ⟨hdk, _⟩
        have hom : ops[m]? = some ops[m] := Array.getElem?_eq_getElem hms
        have hnb : ¬ Bef ops k m := fun hb => hk (hd.bef hb fun e he => hd.edge m e hc.1 he)
        obtain ⟨h1, h2, h3⟩ := Oper.apart_spec (ok.pair k m _ _ hkm ho hom hnb)
        have hdst := hc.2.1
        simp only [dstOf, hom, Option.bind_some] at hdst
        exact h2 d hdk hdst
      · rw [if_neg hc, if_neg hc]
  exact high n hn (Nat.le_refl _)

theorem hv_also {L : Nat → Prop} (hd : Down ops L) (fr : FreeAll T) {k : Nat} (hks : k < ops.size) (hk : ¬ L k) (b : Nat) {n : Nat} (hn : k < n) (hns : n ≤ ops.size) :
    hv T (also L k) n b = if (T.H (k + 1)).get b ≠ (T.H k).get b then (T.H (k + 1)).get b else hv T L n b := by
  have low : ∀ m, m ≤ k → hv T (also L k) m b = hv T L m b := by
    intro m
    induction m with
    | zero => exact fun _ => rfl
    | succ m ih =>
      intro hm
      rw [hv, hv, ih (by omega)]
      have : also L k m ↔ L m := ⟨fun h => h.resolve_right (by omega), .inl⟩
      simp only [this]
  have at_ : hv T (also L k) (k + 1) b = if (T.H (k + 1)).get b ≠ (T.H k).get b then (T.H (k + 1)).get b else hv T L k b := by
    rw [hv, low k (Nat.le_refl _)]
    have h1 : also L k k := .inr rfl
    simp only [h1, true_and]
  have at' : hv T L (k + 1) b = hv T L k b := by rw [hv, if_neg (fun h => hk h.1)]
  have high : ∀ m, k + 1 ≤ m → m ≤ n → hv T (also L k) m b = if (T.H (k + 1)).get b ≠ (T.H k).get b then (T.H (k + 1)).get b else hv T L m b := by
    intro m hm
    induction hm with
    | refl => exact fun _ => by rw [at_, at']
    | @step m hm ih =>
      intro hmn
      have hmn : m + 1 ≤ n := hmn
      have hkm : k < m := hm
      rw [hv, hv, ih (by omega)]
      have : also L k m ↔ L m := ⟨fun h => h.resolve_right (by omega), .inl⟩
      simp only [this]
      by_cases hc : L m ∧ (T.H (m + 1)).get b ≠ (T.H m).get b
      · rw [if_pos hc, if_pos hc, if_neg]
        intro hch
        have hnb : ¬ Bef ops k m := fun hb => hk (hd.bef hb fun e he => hd.edge m e hc.1 he)
        refine hc.2 ((fr k m hkm (by omega) hnb).c3 b ?_)
        by_cases hlt : b < (T.H k).next
        · by_cases hF : T.F k b
          · exact .inl hF
          · exact absurd ((T.stp k hks).same b hlt hF) hch
        · refine .inr ⟨by omega, ?_⟩
          rcases Nat.lt_or_ge b (T.H (k + 1)).next with h | h
          · exact h
          · exact absurd (by rw [T.wfs (k + 1) (by omega) b h, T.wfs k (by omega) b (by omega)]) hch
      · rw [if_neg hc, if_neg hc]
  exact high n hn (Nat.le_refl _)

/-- What holds while a region is on its way. -/
structure Inv (T : Tra P ops) (σ₀ : Sig) (w₀ : World) (L : Nat → Prop) (σ : Sig) (a : Act) (w : World) : Prop where
  down : Down ops L
  size : a.tmps.size = (T.t 0).tmps.size
  tm : ∀ d, VR σ (tv T L ops.size d) (a.tmps.getD d undef)
  dfr : a.defers = []
  fr : ∀ i, i < ops.size → ¬ L i → ∀ b, fresh (T.H i) (T.H (i + 1)) b → σ b = none
  rel : Rel P σ All (hv T L ops.size) w
  ext : ∀ b, ¬ fresh (T.H 0) (T.H ops.size) b → σ b = σ₀ b
  wsz : w₀.heap.size ≤ w.heap.size
  keep : ∀ k, k < w₀.heap.size → ¬ Img σ₀ All (T.H 0).get k → w.heap[k]? = w₀.heap[k]?
  img : ∀ k, k < w₀.heap.size → Img σ All (hv T L ops.size) k → Img σ₀ All (T.H 0).get k
  fro : ∀ b l, fresh (T.H 0) (T.H ops.size) b → σ b = some l → l.ro = false
  rest : w.os = w₀.os ∧ w.tape = w₀.tape ∧ w.output = w₀.output

theorem Inv.next {σ₀ σ σ' : Sig} {w₀ w w' : World} {L : Nat → Prop} {a : Act} {v' : Value} (ok : RegionOk ops) (fr : FreeAll T) (h : Inv T σ₀ w₀ L σ a w) {k : Nat} {o : Oper}
    (ho : ops[k]? = some o) (hk : ¬ L k) (he : ∀ e ∈ edgesOf ops k, L e) (hp : Post P (T.F k) σ (T.H k) w σ' (T.H (k + 1)) w') (hv' : VR σ' (T.v k) v') :
    Inv T σ₀ w₀ (also L k) σ' (a.put o.dst v') w' := by
  have hks : k < ops.size := (Array.getElem?_eq_some_iff.1 ho).1
  have hfresh : Fresh σ (T.H k) (T.H (k + 1)) := h.fr k hks hk
  have hup := hp.up hfresh
  have hvk : ∀ b l, T.F k b → σ b = some l → ((T.H k).get b).isSome = true → hv T L ops.size b = (T.H k).get b := fun b l hF hs hi => by
    refine hv_at h.down fr h.fr hks hk he hF ?_ hs (Nat.le_of_lt hks) (Nat.le_refl _)
    rcases Nat.lt_or_ge b (T.H k).next with h' | h'
    · exact h'
    · rw [T.wfs k (Nat.le_of_lt hks) b h'] at hi; cases hi
  have himg : ∀ j, Img σ (T.F k) (T.H k).get j → Img σ All (hv T L ops.size) j := fun j ⟨b, l, hF, hs, hi, hj⟩ => ⟨b, l, trivial, hs, (hvk b l hF hs hi) ▸ hi, hj⟩
  have hal : ∀ b, hv T (also L k) ops.size b = if (T.H (k + 1)).get b ≠ (T.H k).get b then (T.H (k + 1)).get b else hv T L ops.size b := fun b => hv_also h.down fr hks hk b hks (Nat.le_refl _)
  -- inside: what the operation uses or makes
  have hin : ∀ b l, (T.F k b ∨ fresh (T.H k) (T.H (k + 1)) b) → σ' b = some l → (hv T (also L k) ops.size b).isSome = true → hv T (also L k) ops.size b = (T.H (k + 1)).get b := fun b l hx hs hi => by
    rw [hal] at hi ⊢
    by_cases hc : (T.H (k + 1)).get b ≠ (T.H k).get b
    · rw [if_pos hc]
    · rw [if_neg hc] at hi ⊢
      have hc' : (T.H (k + 1)).get b = (T.H k).get b := Classical.not_not.1 hc
      by_cases hfb : fresh (T.H k) (T.H (k + 1)) b
      · rw [hv_fresh h.down fr hks hk hfb (Nat.le_of_lt hks) (Nat.le_refl _)] at hi; cases hi
      · have hF := hx.resolve_right hfb
        rw [hp.ext b hfb] at hs
        rw [hc']
        exact hv_at h.down fr h.fr hks hk he hF (T.lt k b hks hF) hs (Nat.le_of_lt hks) (Nat.le_refl _)
  have hout : ∀ b l, ¬ (T.F k b ∨ fresh (T.H k) (T.H (k + 1)) b) → σ' b = some l → (hv T (also L k) ops.size b).isSome = true →
      hv T (also L k) ops.size b = hv T L ops.size b ∧ σ b = some l ∧ l.blk < w.heap.size ∧ ¬ Img σ (T.F k) (T.H k).get l.blk := fun b l hx hs hi => by
    have hF : ¬ T.F k b := fun h => hx (.inl h)
    have hfb : ¬ fresh (T.H k) (T.H (k + 1)) b := fun h => hx (.inr h)
    have hc : (T.H (k + 1)).get b = (T.H k).get b := by
      by_cases hlt : b < (T.H k).next
      · exact (T.stp k hks).same b hlt hF
      · have : (T.H (k + 1)).next ≤ b := by
          rcases Nat.lt_or_ge b (T.H (k + 1)).next with h2 | h2
          · exact absurd ⟨by omega, h2⟩ hfb
          · exact h2
        rw [T.wfs (k + 1) (by omega) b this, T.wfs k (by omega) b (by omega)]
    have he1 : hv T (also L k) ops.size b = hv T L ops.size b := by rw [hal, if_neg (fun h => h hc)]
    have hs' : σ b = some l := by rw [← hp.ext b hfb]; exact hs
    rw [he1] at hi
    obtain ⟨B, hB⟩ := Option.isSome_iff_exists.1 hi
    refine ⟨he1, hs', (h.rel.blk b l B trivial hs' hB).lt, fun ⟨b0, l0, hb0, hs0, hi0, ho0, heq⟩ => hF ?_⟩
    cases hlr : l.ro
    · have := h.rel.inj b0 b l0 l trivial trivial hs0 hs' ((hvk b0 l0 hb0 hs0 hi0) ▸ hi0) hi ho0 hlr heq
      exact this ▸ hb0
    · exact absurd heq (h.rel.sep b0 b l0 l trivial hs0 hs' ((hvk b0 l0 hb0 hs0 hi0) ▸ hi0) ho0 hlr)
  refine ⟨⟨fun i hi => ?_, fun i e hi hx => ?_⟩, by rw [put_size]; exact h.size, fun d => ?_, by rw [put_defers']; exact h.dfr, fun i hi hL b hb => ?_, ⟨?_, ?_, ?_, hp.rel.old⟩, fun b hb => ?_, Nat.le_trans h.wsz hp.size, fun j hj hn => ?_, ?_, fun b l hb hs => ?_, ⟨hp.rest.1.trans h.rest.1, hp.rest.2.1.trans h.rest.2.1, hp.rest.2.2.trans h.rest.2.2⟩⟩
  · rcases hi with hi | rfl
    · exact h.down.lt i hi
    · exact hks
  · rcases hi with hi | rfl
    · exact .inl (h.down.edge i e hi hx)
    · exact .inl (he e hx)
  · rw [tv_also h.down ok ho hk he d hks (Nat.le_refl _), put_getD, h.size]
    split
    · exact hv'
    · exact (h.tm d).mono hup
  · have hne : i ≠ k := fun h2 => hL (.inr h2)
    rw [hp.ext b (fun hx => ?_)]
    · exact h.fr i hi (fun h2 => hL (.inl h2)) b hb
    · rcases Nat.lt_or_ge i k with h2 | h2
      · have := T.next_le (i := i + 1) (k := k) h2 (by omega)
        have := hx.1; have := hb.2; omega
      · have := T.next_le (i := k + 1) (k := i) (by omega) (by omega)
        have := hx.2; have := hb.1; omega
  · intro b l B _ hs hg
    by_cases hx : T.F k b ∨ fresh (T.H k) (T.H (k + 1)) b
    · exact hp.rel.blk b l B hx hs (by rw [← hin b l hx hs (by rw [hg]; rfl)]; exact hg)
    · obtain ⟨h1, h2, h3, h4⟩ := hout b l hx hs (by rw [hg]; rfl)
      exact (h.rel.blk b l B trivial h2 (by rw [← h1]; exact hg)).move hup (hp.keep _ h3 h4)
  · intro b b' l l' _ _ hs hs' hi hi' ho ho' heq
    by_cases hx : T.F k b ∨ fresh (T.H k) (T.H (k + 1)) b <;> by_cases hx' : T.F k b' ∨ fresh (T.H k) (T.H (k + 1)) b'
    · exact hp.rel.inj b b' l l' hx hx' hs hs' ((hin b l hx hs hi) ▸ hi) ((hin b' l' hx' hs' hi') ▸ hi') ho ho' heq
    · obtain ⟨h1, h2, h3, h4⟩ := hout b' l' hx' hs' hi'
      exact absurd (hp.img l'.blk h3 ⟨b, l, hx, hs, (hin b l hx hs hi) ▸ hi, ho, heq⟩) h4
    · obtain ⟨h1, h2, h3, h4⟩ := hout b l hx hs hi
      exact absurd (hp.img l.blk h3 ⟨b', l', hx', hs', (hin b' l' hx' hs' hi') ▸ hi', ho', heq.symm⟩) h4
    · obtain ⟨h1, h2, h3, h4⟩ := hout b l hx hs hi
      obtain ⟨h1', h2', h3', h4'⟩ := hout b' l' hx' hs' hi'
      exact h.rel.inj b b' l l' trivial trivial h2 h2' (h1 ▸ hi) (h1' ▸ hi') ho ho' heq
  · intro b b' l l' _ hs hs' hi ho ho'
    by_cases hx : T.F k b ∨ fresh (T.H k) (T.H (k + 1)) b
    · exact hp.rel.sep b b' l l' hx hs hs' ((hin b l hx hs hi) ▸ hi) ho ho'
    · obtain ⟨h1, h2, h3, h4⟩ := hout b l hx hs hi
      have hnf : ¬ fresh (T.H k) (T.H (k + 1)) b' := fun hf => by have := hp.fro b' l' hf hs'; rw [ho'] at this; cases this
      exact h.rel.sep b b' l l' trivial h2 (by rw [← hp.ext b' hnf]; exact hs') (h1 ▸ hi) ho ho'
  · rw [hp.ext b (fun hx => hb ⟨Nat.le_trans (T.next_le (Nat.zero_le k) (by omega)) hx.1, Nat.lt_of_lt_of_le hx.2 (T.next_le (by omega) (Nat.le_refl _))⟩)]
    exact h.ext b hb
  · rw [hp.keep j (Nat.lt_of_lt_of_le hj h.wsz) (fun hi => hn (h.img j hj (himg j hi))), h.keep j hj hn]
  · rintro j hj ⟨b, l, _, hs, hi, heq⟩
    by_cases hx : T.F k b ∨ fresh (T.H k) (T.H (k + 1)) b
    · exact h.img j hj (himg j (hp.img j (Nat.lt_of_lt_of_le hj h.wsz) ⟨b, l, hx, hs, (hin b l hx hs hi) ▸ hi, heq⟩))
    · obtain ⟨h1, h2, h3, h4⟩ := hout b l hx hs hi
      exact h.img j hj ⟨b, l, trivial, h2, h1 ▸ hi, heq⟩
  · by_cases hx : fresh (T.H k) (T.H (k + 1)) b
    · exact hp.fro b l hx hs
    · rw [hp.ext b hx] at hs; exact h.fro b l hb hs

end
end Go.Proofs.Ytgjpcliaggpcaaa.Ab
