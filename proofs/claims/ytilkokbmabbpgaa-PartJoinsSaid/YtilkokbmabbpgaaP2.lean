/- Classes (part), further: within, copies, cuts, ties. -/
import Derived.Test.YtilkokbmabbpgaaP1
set_option linter.unusedVariables false
set_option linter.unusedSimpArgs false
set_option maxRecDepth 100000
namespace Go.Proofs.Ytilkokbmabbpgaa.Ab
open Go

/-- Within. -/
def wIn (v n : Int) : Int := if n < 1 then 0 else if Int.tmod v n < 0 then Int.tmod v n + n else Int.tmod v n
theorem wIn_bd (v n : Int) (h : 1 ≤ n) : 0 ≤ wIn v n ∧ wIn v n < n := by
  have h1 : Int.tmod v n < n := Int.tmod_lt_of_pos v (by omega)
  have h2 : -n < Int.tmod v n := by
    have := Int.tmod_lt_of_pos (-v) (show 0 < n by omega)
    rw [Int.neg_tmod] at this
    omega
  unfold wIn
  rw [if_neg (by omega)]
  split <;> omega
theorem wrap_in {n : Int} (h1 : -9223372036854775808 ≤ n) (h2 : n < 9223372036854775808) : IntKind.wrap .i64 n = n := by
  apply wrap_fits
  cases n with
  | ofNat a => show Nat.blt a 9223372036854775808 = true; rw [blt_eq, decide_eq_true_eq]; have : (Int.ofNat a) = (a : Int) := rfl; omega
  | negSucc a => show Nat.blt a 9223372036854775808 = true; rw [blt_eq, decide_eq_true_eq]; have := Int.negSucc_eq a; omega
theorem within_w {H : AHeap} {v n : Int} (hn : n < 4611686018427387904) : FnW Try.prog 12 #[.int .i64 v, .int .i64 n] H (fun r H' => r = .int .i64 (wIn v n) ∧ H = H') := by
  refine fw_12 (Nat.le_refl _) fun hf => ?_
  simp only [Try.f12, Option.getD_some]
  by_cases h1 : n < 1
  · simp only [go_sem, h1]
    simp [wIn, h1]
  · have hn0 : n ≠ 0 := by omega
    have b1 : Int.tmod v n < n := Int.tmod_lt_of_pos v (by omega)
    have b2 : -n < Int.tmod v n := by
      have := Int.tmod_lt_of_pos (-v) (show 0 < n by omega)
      rw [Int.neg_tmod] at this
      omega
    by_cases h2 : Int.tmod v n < 0
    · have hw := wrap_in (n := Int.tmod v n + n) (by omega) (by omega)
      simp only [go_sem, h1, hn0, h2, hw]
      simp [wIn, h1, h2]
    · simp only [go_sem, h1, hn0, h2]
      simp [wIn, h1, h2]

theorem int_nf {H : AHeap} : ∀ {l : List Int} {cs : List Value} {f : List Nat}, Arr Rp.int H cs l f → f = []
  | [], cs, f, h => h
  | x :: l, cs, f, h => by
    obtain ⟨c, cs', f1, f2, rfl, rfl, ⟨rfl, rfl⟩, h2⟩ := h
    rw [int_nf h2]; rfl
theorem int_ones {H : AHeap} : ∀ {l : List Int} {cs : List Value} {f : List Nat}, Arr Rp.int H cs l f → cs.length = l.length → onesK cs = true
  | [], cs, f, h, e => by
    have : cs = [] := List.length_eq_zero_iff.1 (by simpa using e)
    rw [this]; rfl
  | x :: l, cs, f, h, e => by
    obtain ⟨c, cs', f1, f2, rfl, rfl, ⟨rfl, rfl⟩, h2⟩ := h
    simp only [List.cons_append, List.nil_append, ones_cons, one_int, Bool.true_and]
    exact int_ones h2 (by simp at e ⊢; omega)
/-- append([]int(nil), l...). -/
theorem app_ints {H : AHeap} {X : Nat → Bool} {v : Value} {l : List Int} {f : List Nat} {K : Value → AHeap → Prop} {tg : Tag K} (h : Sl .int H v l f) (hl : l.length < 1000000)
    (hk : ∀ v' H' f', Sl .int H' v' l f' → Own H.next H' f' → Old H H' → (∀ c, H'.get c = none → H.get c = none) → (∀ y, H.fz y = true → H'.fz y = true) → K v' H') : cpsA Try.prog X H (appendA Try.prog 22 (.slice none 0 0) v H) K tg := by
  obtain ⟨cs, g, e1, e2, e3, _⟩ := h.src (size := 1) rfl
  have := int_nf e3; subst this
  by_cases h0 : l = []
  · subst h0
    rw [app_none ap_22 e1, cps_same]
    exact hk _ H [] (.inl ⟨rfl, rfl, rfl⟩) ⟨List.nodup_nil, by simp, by simp⟩ (Old.refl H) (fun _ h => h) (fun _ h => h)
  · have hpos : 0 < l.length := List.length_pos_iff.2 h0
    rw [app_nil ap_22 e1 (by omega) hpos, cps_push]
    refine hk _ _ [H.next] (.inr (.inr ⟨H.next, 0, _, _, [], rfl, h0, Nat.le_refl _, rfl, by rw [get_push, if_pos rfl], e3.keep (by simp)⟩)) ⟨by simp, by simp, by simp [next_push]⟩ (Old.push H _) (fun c hc => ?_) (fun y hy => by rw [fz_push, hy, Bool.or_true])
    rw [get_push] at hc
    split at hc
    · cases hc
    · exact hc
theorem copyi_w {H : AHeap} {v : Value} {l : List Int} {f : List Nat} (h : Sl .int H v l f) (hl : l.length < 1000000) :
    FnW Try.prog 18 #[v] H (fun v' H' => Old H H' ∧ ∃ f', Sl .int H' v' l f' ∧ Own H.next H' f') := by
  refine fw_18 (Nat.le_refl _) fun hf => ?_
  simp only [Try.f18, Option.getD_some]
  simp only [go_sem]
  refine app_ints h hl ?_
  intro v' H' f' h1 h2 h3 _ _
  simp only [go_sem]
  exact ⟨h3, f', h1, h2⟩
theorem cut_w {H : AHeap} {v : Value} {l : List Int} {f : List Nat} {n : Nat} (h : Sl .int H v l f) (hn : n < 100000) :
    FnW Try.prog 11 #[v, .int .i64 (n : Nat)] H (fun v' H' => Old H H' ∧ ∃ f', Sl .int H' v' (l.take n) f' ∧ Own H.next H' f') := by
  refine fw_11 (Nat.le_refl _) fun hf => ?_
  simp only [Try.f11, Option.getD_some]
  obtain ⟨a0, c0, hv0⟩ := h.val
  obtain ⟨v1, g, e1, e2, e3⟩ := h.to (P := Try.prog) (t := 22) (k := min l.length n) (by exact el_22) (Nat.min_le_left _ _)
  subst hv0
  simp only [go_sem, Option.map_none, Option.map_some, e1]
  have et : l.take (min l.length n) = l.take n := by
    rcases Nat.le_total l.length n with h | h
    · rw [Nat.min_eq_left h, List.take_length, List.take_of_length_le h]
    · rw [Nat.min_eq_right h]
  rw [et] at e2
  refine Cll.by (copyi_w e2 (by simp; omega)) ?_
  rintro v2 H2 - ⟨hold, f2, hs, ho⟩
  simp only [go_sem]
  exact ⟨hold, f2, hs, ho⟩
/-- slices.Clone: to be turned by others, too. -/
theorem clone_w {H : AHeap} {v : Value} {l : List Int} {f : List Nat} (h : Sl .int H v l f) (hl : l.length < 1000000) :
    FnW Try.prog 29 #[v] H (fun v' H' => Old H H' ∧ ∃ f', Sl .int H' v' l f' ∧ Own H.next H' f' ∧ ∀ y ∈ f', H'.fz y = false) := by
  have main : Fine H → FnW Try.prog 29 #[v] H (fun v' H' => Old H H' ∧ ∃ f', Sl .int H' v' l f' ∧ Own H.next H' f') := fun hf0 => by
    refine fw_29 (Nat.le_refl _) fun hf => ?_
    simp only [Try.f29, Option.getD_some]
    have hsrc := h.src (size := 1) rfl
    rcases h with ⟨rfl, rfl, rfl⟩ | ⟨b, o, c, rfl, rfl, rfl⟩ | ⟨b, o, c, B, g, rfl, hne, hlc, rfl, hB, hA⟩
    · simp only [go_sem]
      exact ⟨Old.refl H, [], .inl ⟨rfl, rfl, rfl⟩, ⟨List.nodup_nil, by simp, by simp⟩⟩
    · have hx : H.fz H.next = false := hf.fresh (Nat.le_refl _)
      simp only [go_sem, build_none ap_22 (by decide)]
      rw [app_at (n := 0) (new := []) ap_22 rfl rfl (by rw [get_push, if_pos rfl]) rfl (Nat.le_refl _) (by decide) (Nat.le_refl _) rfl]
      simp only [go_sem, hx]
      exact ⟨Old.push H _, [], .inr (.inl ⟨_, _, _, rfl, rfl, rfl⟩), ⟨List.nodup_nil, by simp, by simp⟩⟩
    · have hx : H.fz H.next = false := hf.fresh (Nat.le_refl _)
      have hpos : 0 < l.length := List.length_pos_iff.2 hne
      have hlt := hf.wf_lt hB
      have hsrc2 := (Sl.src (r := .int) (H := H.push ⟨[], 3, false, false⟩) (v := .slice (some ⟨b, o, none⟩) l.length c) (l := l) (f := b :: g) (.inr (.inr ⟨b, o, c, B, g, rfl, hne, hlc, rfl, by rw [get_push_lt hlt]; exact hB, by
        have := int_nf hA; subst this; exact hA.keep (by simp)⟩)) (size := 1) rfl)
      obtain ⟨cs, g2, e1, e2, e3, _⟩ := hsrc2
      have := int_nf e3; subst this
      simp only [go_sem, build_none ap_22 (by decide)]
      rw [app_copy ap_22 e1 (by rw [get_push, if_pos rfl]) (by simp) (Nat.le_refl _) (by omega) (by omega)]
      simp only [go_sem]
      refine ⟨(Old.push H _).trans (Old.push _ _), [H.next + 1], .inr (.inr ⟨H.next + 1, 0, l.length, _, [], rfl, hne, Nat.le_refl _, rfl, by rw [get_push, next_push, if_pos rfl], ?_⟩), ⟨by simp, by simp, by simp [next_push]⟩⟩
      exact e3.keep (by simp)
  intro hf
  refine FnW.tell ((main hf).mono fun v' H' hkx ⟨hold, f', hs, ho⟩ => ⟨H.fz, fun b hb => hb, fun b hb => Nat.lt_of_lt_of_le (hf.fz b hb) hold.nx, ⟨⟨hold.nx, hold.get, hold.ro⟩, f', hs.keep (fun b hb => rfl), ⟨ho.nd, ho.lo, ho.hi⟩, fun y hy => hf.fresh (ho.lo y hy)⟩⟩) hf

/-- Same. -/
theorem same_w {H : AHeap} {v w : Value} {p l : List Int} {f g : List Nat} (h : Sl .int H v p f) (hg : Sl .int H w l g) (hl : p.length < 1000000) : FnW Try.prog 17 #[v, w] H (fun r H' => (∃ b, r = .bool b ∧ (b = true ↔ p = l)) ∧ H = H') := by
  refine fw_17 (Nat.le_refl _) fun hf => ?_
  simp only [Try.f17, Option.getD_some]
  obtain ⟨a0, c0, hv0⟩ := h.val
  obtain ⟨a1, c1, hv1⟩ := hg.val
  by_cases hpl : p.length = l.length
  · simp only [go_sem, hv0, hv1, hpl]
    refine w_for 67106864 p.length (fun i V H1 => V 5 = .int .i64 (i : Nat) ∧ H = H1 ∧ ∀ j, j < i → p.getD j 0 = l.getD j 0) ⟨by simp only [go_sem]; rfl, rfl, fun j hj => by omega⟩ ?_ ?_ (by rfl)
    · rintro i V H1 hi ⟨e5, rfl, hall⟩
      obtain ⟨b, o, c, B, hv, hB, _, hcell⟩ := h.int_at hi
      obtain ⟨b2, o2, c2, B2, hv2, hB2, _, hcell2⟩ := hg.int_at (i := i) (by omega)
      rw [hv0] at hv
      cases hv
      rw [hv1] at hv2
      cases hv2
      have hi' : i < l.length := by omega
      by_cases h3 : p.getD i 0 = l.getD i 0
      · simp only [go_sem, hpl, e5, hi', hB, hcell, hB2, hcell2, h3, wrap_succ hi (by omega)]
        refine fun j hj => ?_
        by_cases hji : j = i
        · subst hji; exact h3
        · exact hall j (by omega)
      · simp only [go_sem, hpl, e5, hi', hB, hcell, hB2, hcell2, h3]
        exact ⟨_, rfl, by constructor; intro h; cases h; intro h; rw [h] at h3; exact absurd rfl h3⟩
    · rintro V H1 ⟨e5, rfl, hall⟩
      simp only [go_sem, hpl, e5]
      refine ⟨_, rfl, by
        constructor
        · intro _
          refine List.ext_getElem hpl fun i h1 h2 => ?_
          have := hall i h1
          simpa [List.getD_eq_getElem?_getD, h1, h2] using this
        · intro _; rfl⟩
  · simp only [go_sem, hv0, hv1, hpl]
    exact ⟨_, rfl, by constructor; intro h; cases h; intro h; rw [h] at hpl; exact absurd rfl hpl⟩

/-- there: its closure. -/
theorem thereC_w {H : AHeap} {b : Nat} {B : ABlk} {a : Option Addr} {n c : Nat} {x : Int} (hB : H.get b = some B) (hc : B.cells[0]? = some (.slice a n c)) : FnW Try.prog 35 #[.int .i64 x, .pointer (some ⟨b, 0, none⟩)] H (fun r H' => (∃ q, r = .bool q ∧ (q = true ↔ ¬ (0 ≤ x ∧ x < (n : Nat)))) ∧ H = H') := by
  refine fw_35 (Nat.le_refl _) fun hf => ?_
  simp only [Try.f35, Option.getD_some]
  by_cases h1 : x < 0
  · simp only [go_sem, h1]
    exact ⟨_, rfl, by constructor; intro _; omega; intro _; rfl⟩
  · by_cases h2 : ((n : Nat) : Int) ≤ x
    · simp only [go_sem, h1, hB, hc, h2]
      exact ⟨_, rfl, by constructor; intro _; omega; intro _; rfl⟩
    · simp only [go_sem, h1, hB, hc, h2]
      exact ⟨_, rfl, by constructor; intro h; cases h; intro h; omega⟩
theorem indexF_w {H : AHeap} {w : Value} {l : List Int} {g : List Nat} {b : Nat} {q : Int → Prop} (hg : Sl .int H w l g) (hl : l.length < 1000000)
    (hq : ∀ x, FnW Try.prog 35 #[.int .i64 x, .pointer (some ⟨b, 0, none⟩)] H (fun r H' => (∃ t, r = .bool t ∧ (t = true ↔ q x)) ∧ H = H')) :
    FnW Try.prog 37 #[w, .func (.func 35) #[] #[.pointer (some ⟨b, 0, none⟩)]] H (fun r H' => (∃ k : Int, r = .int .i64 k ∧ (0 ≤ k ↔ ∃ x ∈ l, q x)) ∧ H = H') := by
  refine fw_37 (Nat.le_refl _) fun hf => ?_
  simp only [Try.f37, Option.getD_some]
  obtain ⟨a1, c1, hv1⟩ := hg.val
  simp only [go_sem, hv1]
  refine w_for 524080 l.length (fun i V H1 => V 8 = .int .i64 (i : Nat) ∧ H = H1 ∧ ∀ j, j < i → ¬ q (l.getD j 0)) ⟨by simp only [go_sem]; rfl, rfl, fun j hj => by omega⟩ ?_ ?_ (by rfl)
  · rintro i V H1 hi ⟨e8, rfl, hall⟩
    obtain ⟨b2, o2, c2, B2, hv2, hB2, _, hcell2⟩ := hg.int_at hi
    rw [hv1] at hv2
    cases hv2
    simp only [go_sem, e8, hi, hB2, hcell2]
    refine Cll.by (hq _) ?_
    rintro _ _ - ⟨⟨t, rfl, ht⟩, rfl⟩
    have hmem : l.getD i 0 ∈ l := by simp [List.getD_eq_getElem?_getD, hi]
    cases t
    · simp only [go_sem, e8, wrap_succ hi (by omega)]
      refine fun j hj => ?_
      by_cases hji : j = i
      · subst hji; simpa using ht
      · exact hall j (by omega)
    · simp only [go_sem, e8]
      exact ⟨_, rfl, ⟨fun _ => ⟨_, hmem, ht.1 rfl⟩, fun _ => by omega⟩⟩
  · rintro V H1 ⟨e8, rfl, hall⟩
    simp only [go_sem, e8]
    refine ⟨_, rfl, ⟨fun h => absurd h (by decide), fun ⟨x, hx, hqx⟩ => ?_⟩⟩
    obtain ⟨i, hi, rfl⟩ := List.getElem_of_mem hx
    have e : l.getD i 0 = l[i] := by simp [List.getD_eq_getElem?_getD, hi]
    exact absurd hqx (e ▸ hall i hi)
theorem containsF_w {H : AHeap} {w : Value} {l : List Int} {g : List Nat} {b : Nat} {q : Int → Prop} (hg : Sl .int H w l g) (hl : l.length < 1000000)
    (hq : ∀ x, FnW Try.prog 35 #[.int .i64 x, .pointer (some ⟨b, 0, none⟩)] H (fun r H' => (∃ t, r = .bool t ∧ (t = true ↔ q x)) ∧ H = H')) :
    FnW Try.prog 34 #[w, .func (.func 35) #[] #[.pointer (some ⟨b, 0, none⟩)]] H (fun r H' => (∃ t, r = .bool t ∧ (t = true ↔ ∃ x ∈ l, q x)) ∧ H = H') := by
  refine fw_34 (Nat.le_refl _) fun hf => ?_
  simp only [Try.f34, Option.getD_some]
  simp only [go_sem]
  refine Cll.by (indexF_w hg hl hq) ?_
  rintro _ _ - ⟨⟨k, rfl, hk⟩, rfl⟩
  simp only [go_sem]
  exact ⟨_, rfl, by rw [decide_eq_true_iff]; exact hk⟩
theorem there_w {H : AHeap} {v w : Value} {p l : List Int} {f g : List Nat} (h : Sl .int H v p f) (hg : Sl .int H w l g) (hgl : ∀ y ∈ g, y < H.next) (hl : l.length < 1000000) :
    FnW Try.prog 28 #[v, w] H (fun r H' => Old H H' ∧ ∃ b, r = .bool b ∧ (b = true ↔ In l p.length)) := by
  refine fw_28 (Nat.le_refl _) fun hf => ?_
  simp only [Try.f28, Option.getD_some]
  obtain ⟨a0, c0, hv0⟩ := h.val
  simp only [go_sem, hv0]
  refine Cll.by (containsF_w (q := fun x => ¬ (0 ≤ x ∧ x < (p.length : Nat))) (hg.keep fun y hy => get_push_lt (hgl y hy)) hl (fun x => thereC_w (by rw [get_push, if_pos rfl]) rfl)) ?_
  rintro _ _ - ⟨⟨t, rfl, ht⟩, rfl⟩
  simp only [go_sem]
  refine ⟨Old.push H _, _, rfl, ?_⟩
  have e : (t = true) ↔ ¬ In l p.length := ht.trans ⟨fun ⟨x, hx, hn⟩ hi => hn (hi x hx), fun hn => Classical.byContradiction fun hc => hn fun x hx => Classical.byContradiction fun h => hc ⟨x, hx, h⟩⟩
  cases t
  · exact ⟨fun _ => Classical.byContradiction fun h => (by have := e.2 h; cases this), fun _ => rfl⟩
  · exact ⟨fun h => (by cases h), fun h => absurd h (e.1 rfl)⟩
end Go.Proofs.Ytilkokbmabbpgaa.Ab
