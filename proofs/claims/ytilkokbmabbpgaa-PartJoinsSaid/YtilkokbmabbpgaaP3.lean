/- Classes (part): two classes are one; a join. -/
import Derived.Test.YtilkokbmabbpgaaP2
set_option linter.unusedVariables false
set_option linter.unusedSimpArgs false
set_option maxRecDepth 100000
namespace Go.Proofs.Ytilkokbmabbpgaa.Ab
open Go

theorem min_int {k k' : IntKind} {a b : Int} {h : KH} : minK false (.int k a) (.int k' b) h = .ok (.int k (min a b)) h := by
  simp only [minK, iLt_eq, cond_false]
  by_cases hb : b < a
  · simp only [hb, decide_true, cond_true]; rw [Int.min_eq_right (by omega)]
  · simp only [hb, decide_false, cond_false]; rw [Int.min_eq_left (by omega)]
theorem getD_set {xs : List Int} {i j : Nat} {x : Int} (hi : i < xs.length) : (xs.set i x).getD j 0 = if j = i then x else xs.getD j 0 := by
  rw [List.getD_eq_getElem?_getD, List.getElem?_set, List.getD_eq_getElem?_getD]
  by_cases h : i = j
  · subst h; simp [hi]
  · rw [if_neg h, if_neg (fun e => h e.symm)]

/-- Two classes are one. -/
def Tied (q q' : List Int) (a b : Int) : Prop := q'.length = q.length ∧ ∀ j, j < q.length → q'.getD j 0 = if q.getD j 0 = a ∨ q.getD j 0 = b then min a b else q.getD j 0
theorem tie_w {H : AHeap} {v : Value} {q : List Int} {f : List Nat} {a b : Int} (h : Sl .int H v q f) (hfz : ∀ y ∈ f, H.fz y = false) (hro : ∀ y ∈ f, ∀ B, H.get y = some B → B.ro = false)
    (ha : 0 ≤ a ∧ a < q.length) (hb : 0 ≤ b ∧ b < q.length) (hl : q.length < 1000000) :
    FnW Try.prog 30 #[v, .int .i64 a, .int .i64 b] H (fun _ H' => ∃ q', Tied q q' (q.getD a.toNat 0) (q.getD b.toNat 0) ∧ Sl .int H' v q' f ∧ Upd f H H') := by
  refine fw_30 (Nat.le_refl _) fun hf => ?_
  simp only [Try.f30, Option.getD_some]
  obtain ⟨ha0, ha1⟩ := ha
  obtain ⟨hb0, hb1⟩ := hb
  have ha2 : a.toNat < q.length := by omega
  have hb2 : b.toNat < q.length := by omega
  obtain ⟨b0, o0, c0, B0, hv0, hB0, hbf0, hca⟩ := h.int_at ha2
  obtain ⟨b0', o0', c0', B0', hv0', hB0', _, hcb⟩ := h.int_at hb2
  rw [hv0] at hv0'
  cases hv0'
  rw [hB0] at hB0'
  cases hB0'
  generalize hda : q.getD a.toNat 0 = x at hca ⊢
  generalize hdb : q.getD b.toNat 0 = y at hcb ⊢
  simp only [go_sem, hv0, ha0, ha2, hb0, hb2, hB0, hca, hcb]
  refine w_for 274877644992 q.length (fun i V H1 => V 18 = .int .i64 (i : Nat) ∧ ∃ q', q'.length = q.length ∧ (∀ j, j < q.length → q'.getD j 0 = if j < i ∧ (q.getD j 0 = x ∨ q.getD j 0 = y) then min x y else q.getD j 0) ∧ Sl .int H1 v q' f ∧ Upd f H H1)
    ⟨by simp only [go_sem]; rfl, q, rfl, fun j hj => by simp, h, Upd.refl hro⟩ ?_ ?_ (by rfl)
  · rintro i V H1 hi ⟨e18, q', hq1, hq2, hs, hu⟩
    have hi' : i < q'.length := by omega
    obtain ⟨b1, o1, c1, B1, hv1, hB1, rfl, hlt, hcell, hput⟩ := hs.int_put hi'
    rw [hv0, hq1] at hv1
    cases hv1
    have hcur : q'.getD i 0 = q.getD i 0 := by rw [hq2 i hi]; simp
    rw [hcur] at hcell
    generalize hk : q.getD i 0 = k at hcell
    have hX : H.fz b0 = false := hfz b0 (by simp)
    have hro1 : B1.ro = false := hu.ro b0 (by simp) B1 hB1
    have key : ∀ q'' : List Int, (∀ j, j < q.length → q''.getD j 0 = if j = i then (if k = x ∨ k = y then min x y else k) else q'.getD j 0) → ∀ j, j < q.length → q''.getD j 0 = if j < i + 1 ∧ (q.getD j 0 = x ∨ q.getD j 0 = y) then min x y else q.getD j 0 := by
      intro q'' hq j hj
      rw [hq j hj]
      by_cases hji : j = i
      · subst hji; rw [if_pos rfl, hk]; simp
      · rw [if_neg hji, hq2 j hj]
        have : j < i ↔ j < i + 1 := by omega
        simp only [this]
    have hw := wrap_succ hi (by omega)
    have hlt' : o0 + i + 1 ≤ B1.cells.length := hlt
    by_cases h1 : k = x
    · simp only [go_sem, e18, hi, hB1, hcell, h1, min_int, hlt, hlt', hX, hro1, hw]
      exact ⟨q'.set i (min x y), by rw [List.length_set]; exact hq1, key _ (fun j hj => by rw [getD_set hi', h1]; simp), hput _ (min x y) (if_pos rfl), hu.upd (by simp) rfl⟩
    · by_cases h2 : k = y
      · simp only [go_sem, e18, hi, hB1, hcell, h1, h2, min_int, hlt, hlt', hX, hro1, hw]
        have h12 : ¬ y = x := fun e => h1 (h2.trans e)
        simp only [go_sem, e18, hi, hB1, hcell, h12, min_int, hlt, hlt', hX, hro1, hw]
        exact ⟨q'.set i (min x y), by rw [List.length_set]; exact hq1, key _ (fun j hj => by rw [getD_set hi', h2]; simp), hput _ (min x y) (if_pos rfl), hu.upd (by simp) rfl⟩
      · simp only [go_sem, e18, hi, hB1, hcell, h1, h2, hw]
        exact ⟨q', hq1, key _ (fun j hj => by
          by_cases hji : j = i
          · subst hji; rw [if_pos rfl, if_neg (by simp [h1, h2]), hcur, hk]
          · rw [if_neg hji]), hs, hu⟩
  · rintro V H1 ⟨e18, q', hq1, hq2, hs, hu⟩
    simp only [go_sem, e18]
    refine ⟨q', ⟨hq1, fun j hj => ?_⟩, by rw [← hv0]; exact hs, hu⟩
    rw [hq2 j hj]
    simp only [hj, true_and]

/-- Ties keep classes. -/
theorem Cls.tied {q q' : List Int} {i k : Nat} (h : Cls q) (hi : i < q.length) (hk : k < q.length) (ht : Tied q q' (q.getD i 0) (q.getD k 0)) : Cls q' := by
  obtain ⟨hl, hq⟩ := ht
  obtain ⟨a0, a1, a2⟩ := h i hi
  obtain ⟨b0, b1, b2⟩ := h k hk
  generalize q.getD i 0 = a at *
  generalize q.getD k 0 = b at *
  have ha : a.toNat < q.length := by omega
  have hb : b.toNat < q.length := by omega
  intro j hj
  rw [hl] at hj
  obtain ⟨c0, c1, c2⟩ := h j hj
  have hc : (q.getD j 0).toNat < q.length := by omega
  rw [hq j hj]
  by_cases hab : q.getD j 0 = a ∨ q.getD j 0 = b
  · rw [if_pos hab]
    have hm : min a b = a ∨ min a b = b := by omega
    refine ⟨by omega, by omega, ?_⟩
    rcases hm with e | e
    · rw [e, hq _ ha, if_pos (.inl a2), e]
    · rw [e, hq _ hb, if_pos (.inr b2), e]
  · rw [if_neg hab]
    refine ⟨c0, c1, ?_⟩
    rw [hq _ hc, c2, if_neg hab]
def At (p l : List Int) (i : Nat) : Int := p.getD (l.getD i 0).toNat 0
/-- No two of them are together. -/
def Good (p l : List Int) (n : Nat) : Prop := ∀ a, a < n → ∀ k, k < a → At p l a ≠ At p l k
/-- One of the first of them is with it. -/
def Tch (p l : List Int) (n : Nat) (i : Nat) : Prop := ∃ t, t < n ∧ At p l t = p.getD i 0
/-- What a join comes to, after so many. -/
structure Joined (p l : List Int) (n : Nat) (q : List Int) : Prop where
  len : q.length = p.length
  cls : Cls q
  eqv : ∀ i k, i < p.length → k < p.length → (q.getD i 0 = q.getD k 0 ↔ p.getD i 0 = p.getD k 0 ∨ (Tch p l n i ∧ Tch p l n k))
theorem Joined.zero {p l : List Int} (h : Cls p) : Joined p l 0 p := ⟨rfl, h, fun i k hi hk => ⟨.inl, fun h => h.elim id fun h => by obtain ⟨t, ht, _⟩ := h.1; omega⟩⟩
theorem Joined.next {p l q q' : List Int} {n : Nat} (h : Joined p l n q) (hn : n < l.length) (hl : In l p.length) (ht : Tied q q' (q.getD (l.getD 0 0).toNat 0) (q.getD (l.getD n 0).toNat 0)) : Joined p l (n + 1) q' := by
  have h0 := hl.at (show 0 < l.length by omega)
  have h1 := hl.at hn
  have l0 : (l.getD 0 0).toNat < p.length := by omega
  have l1 : (l.getD n 0).toNat < p.length := by omega
  refine ⟨ht.1.trans h.len, h.cls.tied (by rw [h.len]; exact l0) (by rw [h.len]; exact l1) ht, fun i k hi hk => ?_⟩
  have key : ∀ i, i < p.length → ((q.getD i 0 = q.getD (l.getD 0 0).toNat 0 ∨ q.getD i 0 = q.getD (l.getD n 0).toNat 0) ↔ Tch p l (n + 1) i) := by
    intro i hi
    rw [h.eqv i _ hi l0, h.eqv i _ hi l1]
    constructor
    · rintro ((e | ⟨⟨t, ht, e⟩, _⟩) | (e | ⟨⟨t, ht, e⟩, _⟩))
      · exact ⟨0, by omega, e.symm⟩
      · exact ⟨t, by omega, e⟩
      · exact ⟨n, by omega, e.symm⟩
      · exact ⟨t, by omega, e⟩
    · rintro ⟨t, ht, e⟩
      by_cases htn : t = n
      · subst htn; exact .inr (.inl e.symm)
      · exact .inl (.inr ⟨⟨t, by omega, e⟩, ⟨0, by omega, rfl⟩⟩)
  obtain ⟨hq1, hq2⟩ := ht
  have e := h.eqv i k hi hk
  have ki := key i hi
  have kk := key k hk
  have tn : ∀ i, Tch p l n i → Tch p l (n + 1) i := fun i ⟨t, ht, e⟩ => ⟨t, by omega, e⟩
  have tc : ∀ i k, p.getD i 0 = p.getD k 0 → Tch p l (n + 1) i → Tch p l (n + 1) k := fun i k he ⟨t, ht, e⟩ => ⟨t, ht, e.trans he⟩
  rw [hq2 i (by rw [h.len]; exact hi), hq2 k (by rw [h.len]; exact hk)]
  generalize q.getD (l.getD 0 0).toNat 0 = a at *
  generalize q.getD (l.getD n 0).toNat 0 = b at *
  have hm : min a b = a ∨ min a b = b := by omega
  by_cases ci : q.getD i 0 = a ∨ q.getD i 0 = b
  · by_cases ck : q.getD k 0 = a ∨ q.getD k 0 = b
    · rw [if_pos ci, if_pos ck]
      exact ⟨fun _ => .inr ⟨ki.1 ci, kk.1 ck⟩, fun _ => rfl⟩
    · rw [if_pos ci, if_neg ck]
      refine ⟨fun e1 => absurd (by rcases hm with h | h <;> omega) ck, fun e1 => ?_⟩
      rcases e1 with e1 | ⟨_, e2⟩
      · exact absurd (kk.2 (tc i k e1 (ki.1 ci))) ck
      · exact absurd (kk.2 e2) ck
  · by_cases ck : q.getD k 0 = a ∨ q.getD k 0 = b
    · rw [if_neg ci, if_pos ck]
      refine ⟨fun e1 => absurd (by rcases hm with h | h <;> omega) ci, fun e1 => ?_⟩
      rcases e1 with e1 | ⟨e2, _⟩
      · exact absurd (ki.2 (tc k i e1.symm (kk.1 ck))) ci
      · exact absurd (ki.2 e2) ci
    · rw [if_neg ci, if_neg ck, e]
      exact ⟨fun h => h.elim .inl fun h => absurd (ki.2 (tn i h.1)) ci, fun h => h.elim .inl fun h => absurd (ki.2 h.1) ci⟩

/-- Join. -/
theorem join_w {H : AHeap} {v w : Value} {p l : List Int} {f g : List Nat} (h : Sl .int H v p f) (hfl : ∀ y ∈ f, y < H.next) (hg : Sl .int H w l g) (hgl : ∀ y ∈ g, y < H.next) (hp : Cls p) (hin : In l p.length) (hpl : p.length < 1000000) (hll : l.length < 1000000) :
    FnW Try.prog 13 #[v, w] H (fun r H' => Old H H' ∧ ∃ v' b q f', r = .tuple #[v', .bool b] ∧ (b = true ↔ Good p l l.length) ∧ Joined p l l.length q ∧ Sl .int H' v' q f' ∧ Own H.next H' f') := by
  refine fw_13 (Nat.le_refl _) fun hf => ?_
  simp only [Try.f13, Option.getD_some]
  obtain ⟨a0, c0, hv0⟩ := h.val
  obtain ⟨a1, c1, hw0⟩ := hg.val
  simp only [go_sem]
  refine Cll.by (right_w h hpl) ?_
  rintro _ _ - ⟨⟨b1, rfl, hb1⟩, rfl⟩
  obtain rfl := hb1.2 hp
  simp only [go_sem]
  refine Cll.by (there_w h hg hgl hll) ?_
  rintro _ H1 - ⟨hold1, b2, rfl, hb2⟩
  obtain rfl := hb2.2 hin
  have h1 := h.keep fun y hy => hold1.get y (hfl y hy)
  simp only [go_sem]
  refine Cll.by (clone_w h1 hpl) ?_
  rintro v2 H2 - ⟨hold2, f2, hs2, ho2, hz2⟩
  have hold02 := hold1.trans hold2
  have h2 := h.keep fun y hy => hold02.get y (hfl y hy)
  have hg2 := hg.keep fun y hy => hold02.get y (hgl y hy)
  simp only [go_sem, hw0]
  refine w_for 4503599593816800 l.length (fun i V H3 => V 25 = .int .i64 (i : Nat) ∧ H2 = H3 ∧ ∃ b, V 5 = .bool b ∧ (b = true ↔ Good p l i)) ⟨by simp only [go_sem]; rfl, rfl, true, by simp only [go_sem], ⟨fun _ a ha => by omega, fun _ => rfl⟩⟩ ?_ ?_ (by rfl)
  · rintro i V H3 hi ⟨e25, rfl, b, e5, hb⟩
    obtain ⟨b3, o3, c3, B3, hv3, hB3, _, hc3⟩ := hg2.int_at hi
    rw [hw0] at hv3
    cases hv3
    obtain ⟨vt, gt, et, st, sub⟩ := hg2.to (P := Try.prog) (t := 22) (k := i) (by exact el_22) (by omega)
    rw [hw0] at et
    obtain ⟨at1, ct1, hvt⟩ := st.val
    have htl : (l.take i).length = i := by rw [List.length_take]; omega
    rw [htl] at hvt
    have hia := hin.at hi
    simp only [go_sem, e25, e5, hi, hB3, hc3, Option.map_none, Option.map_some, et, hvt]
    refine w_for 2251782633816608 i (fun j V' H4 => V' 34 = .int .i64 (j : Nat) ∧ H2 = H4 ∧ ∃ b, V' 5 = .bool b ∧ (b = true ↔ Good p l i ∧ ∀ k, k < j → At p l i ≠ At p l k)) ⟨by simp only [go_sem]; rfl, rfl, b, by simp only [go_sem, e5], by rw [hb]; exact ⟨fun h => ⟨h, fun k hk => by omega⟩, fun h => h.1⟩⟩ ?_ ?_ (by rfl)
    · rintro j V' H4 hj ⟨e34, rfl, b', e5', hb'⟩
      have hjt : j < (l.take i).length := by omega
      obtain ⟨b4, o4, c4, B4, hv4, hB4, _, hc4⟩ := st.int_at hjt
      rw [hvt, htl] at hv4
      cases hv4
      have hlj : (l.take i).getD j 0 = l.getD j 0 := by simp [List.getD_eq_getElem?_getD, List.getElem?_take, hj]
      rw [hlj] at hc4
      have hja := hin.at (show j < l.length by omega)
      have hx1 : (l.getD i 0).toNat < p.length := by omega
      have hx2 : (l.getD j 0).toNat < p.length := by omega
      obtain ⟨b5, o5, c5, B5, hv5, hB5, _, hc5⟩ := h2.int_at hx1
      obtain ⟨b6, o6, c6, B6, hv6, hB6, _, hc6⟩ := h2.int_at hx2
      rw [hv5] at hv6
      cases hv6
      rw [hB5] at hB6
      cases hB6
      have hw := wrap_succ hj (by omega)
      have step : ∀ t : Bool, (t = true ↔ (b' = true ∧ ¬ p.getD (l.getD i 0).toNat 0 = p.getD (l.getD j 0).toNat 0)) → (t = true ↔ Good p l i ∧ ∀ k, k < j + 1 → At p l i ≠ At p l k) := by
        intro t ht
        rw [ht, hb']
        constructor
        · rintro ⟨⟨g1, g2⟩, g3⟩
          refine ⟨g1, fun k hk => ?_⟩
          by_cases hkj : k = j
          · subst hkj; exact g3
          · exact g2 k (by omega)
        · rintro ⟨g1, g2⟩
          exact ⟨⟨g1, fun k hk => g2 k (by omega)⟩, g2 j (by omega)⟩
      cases b'
      · simp only [go_sem, e34, e5', hj, hB4, hc4, hw]
        exact ⟨_, rfl, step false (by simp)⟩
      · simp only [go_sem, e34, e5', hj, hB4, hc4, hw, hv5, hia.1, hx1, hja.1, hx2, hB5, hc5, hc6]
        exact ⟨_, rfl, step _ (by simp)⟩
    · rintro V' H4 ⟨e34, rfl, b', e5', hb'⟩
      simp only [go_sem, e34, e25, e5', wrap_succ hi (by omega)]
      refine ⟨_, rfl, ?_⟩
      rw [hb']
      constructor
      · rintro ⟨g1, g2⟩ a ha k hk
        by_cases hai : a = i
        · subst hai; exact g2 k hk
        · exact g1 a (by omega) k hk
      · exact fun g => ⟨fun a ha => g a (by omega), fun k hk => g i (by omega) k hk⟩
  · rintro V H3 ⟨e25, rfl, b, e5, hb⟩
    simp only [go_sem, e25, e5, hw0]
    have hro2 : ∀ y ∈ f2, ∀ B, H2.get y = some B → B.ro = false := fun y hy B hB => hold02.free hf (Nat.le_trans hold1.nx (ho2.lo y hy)) hB
    refine w_for 36875473748909623296 l.length (fun i V' H3 => V' 54 = .int .i64 (i : Nat) ∧ ∃ q, Joined p l i q ∧ Sl .int H3 v2 q f2 ∧ Upd f2 H2 H3) ⟨by simp only [go_sem]; rfl, p, Joined.zero hp, hs2, Upd.refl hro2⟩ ?_ ?_ (by rfl)
    · rintro i V' H3 hi ⟨e54, q, hj, hs3, hu⟩
      have hu0 := hold02.turn hu (fun y hy => Nat.le_trans hold1.nx (ho2.lo y hy))
      have hg3 := hg.keep fun y hy => hu0.get y (hgl y hy)
      obtain ⟨b3, o3, c3, B3, hv3, hB3, _, hc3⟩ := hg3.int_at hi
      rw [hw0] at hv3
      cases hv3
      have hl0 : 0 < l.length := by omega
      obtain ⟨b4, o4, c4, B4, hv4, hB4, _, hc4⟩ := hg3.int_at hl0
      rw [hw0] at hv4
      cases hv4
      rw [hB3] at hB4
      cases hB4
      rw [Nat.add_zero] at hc4
      simp only [go_sem, e54, hi, hl0, hB3, hc3, hc4]
      have i0 := hin.at hl0
      have i1 := hin.at hi
      refine Cll.by (tie_w hs3 (fun y hy => by rw [hu.fz y]; exact hz2 y hy) hu.ro (by rw [hj.len]; exact i0) (by rw [hj.len]; exact i1) (by rw [hj.len]; exact hpl)) ?_
      rintro _ H4 - ⟨q', ht, hs4, hu4⟩
      simp only [go_sem, e54, wrap_succ hi (by omega)]
      exact ⟨q', hj.next hi hin ht, hs4, hu.trans hu4⟩
    · rintro V' H3 ⟨e54, q, hj, hs3, hu⟩
      simp only [go_sem, e54, e5]
      exact ⟨hold02.turn hu (fun y hy => Nat.le_trans hold1.nx (ho2.lo y hy)), _, _, q, f2, rfl, hb, hj, hs3, ⟨ho2.nd, fun y hy => Nat.le_trans hold1.nx (ho2.lo y hy), fun y hy => by rw [hu.nx]; exact ho2.hi y hy⟩⟩
end Go.Proofs.Ytilkokbmabbpgaa.Ab
