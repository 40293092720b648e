/- Classes (part): the document's join; new ones; classes that are made of numbers. -/
import Derived.Test.YtilkokbmabbpgaaP3
set_option linter.unusedVariables false
set_option linter.unusedSimpArgs false
set_option maxRecDepth 100000
namespace Go.Proofs.Ytilkokbmabbpgaa.Ab
open Go

/-- The document's join: classes again. -/
theorem joinPart_w {H : AHeap} {v w : Value} {p l : List Int} {f g : List Nat} (h : Sl .int H v p f) (hfl : ∀ y ∈ f, y < H.next) (hg : Sl .int H w l g) (hgl : ∀ y ∈ g, y < H.next) (hp : Cls p) (hin : In l p.length) (hpl : p.length < 1000000) (hll : l.length < 1000000) :
    FnW Try.prog 22 #[v, w] H (fun r H' => Old H H' ∧ ∃ v' b q f', r = .tuple #[v', .bool b] ∧ q.length = p.length ∧ Cls q ∧ Sl .int H' v' q f' ∧ Own H.next H' f') := by
  refine fw_22 (Nat.le_refl _) fun hf => ?_
  simp only [Try.f22, Option.getD_some]
  obtain ⟨a0, c0, hv0⟩ := h.val
  obtain ⟨a1, c1, hw0⟩ := hg.val
  simp only [go_sem]
  refine Cll.by (right2_w h hpl) ?_
  rintro _ _ - ⟨⟨b1, rfl, hb1⟩, rfl⟩
  obtain rfl := hb1.2 hp
  simp only [go_sem]
  refine Cll.by (inPart_w h hg hll) ?_
  rintro _ _ - ⟨⟨b2, rfl, hb2⟩, rfl⟩
  obtain rfl := hb2.2 hin
  simp only [go_sem]
  refine app_ints h hpl ?_
  intro v2 H2 f2 hs2 ho2 hold2 _ hz2
  have h2 := h.keep fun y hy => hold2.get y (hfl y hy)
  have hg2 := hg.keep fun y hy => hold2.get y (hgl y hy)
  simp only [go_sem]
  have hro2 : ∀ y ∈ f2, ∀ B, H2.get y = some B → B.ro = false := fun y hy B hB => hold2.free hf (ho2.lo y hy) hB
  refine w_while 154742504910672534345621376 (fun n V H3 => ∃ i b q, i + n = l.length + 1 ∧ 1 ≤ i ∧ V 8 = .int .i64 (i : Nat) ∧ V 7 = .bool b ∧ q.length = p.length ∧ Cls q ∧ Sl .int H3 v2 q f2 ∧ Upd f2 H2 H3) (n := l.length) ⟨1, true, p, by omega, by omega, by simp only [go_sem]; rfl, by simp only [go_sem], rfl, hp, hs2, Upd.refl hro2⟩ ?_ (by rfl)
  rintro n V H3 ⟨i, b, q, hi, hi1, e8, e7, hql, hqc, hs3, hu⟩
  have hu0 := hold2.turn hu ho2.lo
  have h3 := h.keep fun y hy => hu0.get y (hfl y hy)
  have hg3 := hg.keep fun y hy => hu0.get y (hgl y hy)
  by_cases hil : i < l.length
  · have hq0 : 0 < l.length := by omega
    obtain ⟨b3, o3, c3, B3, hv3, hB3, _, hc3⟩ := hg3.int_at hil
    rw [hw0] at hv3
    cases hv3
    obtain ⟨b4, o4, c4, B4, hv4, hB4, _, hc4⟩ := hg3.int_at hq0
    rw [hw0] at hv4
    cases hv4
    rw [hB3] at hB4
    cases hB4
    rw [Nat.add_zero] at hc4
    have i0 := hin.at hq0
    have i1 := hin.at hil
    have hx0 : (l.getD 0 0).toNat < p.length := by omega
    have hx1 : (l.getD i 0).toNat < p.length := by omega
    simp only [go_sem, e8, e7, hw0, hil]
    refine w_for 9007198180999808 i (fun j V' H4 => V' 9 = .int .i64 (j : Nat) ∧ H3 = H4 ∧ ∃ b, V' 7 = .bool b) ⟨by simp only [go_sem]; rfl, rfl, b, by simp only [go_sem, e7]⟩ ?_ ?_ (by rfl)
    · rintro j V' H4 hj ⟨e9, rfl, b', e7'⟩
      have hjl : j < l.length := by omega
      obtain ⟨b5, o5, c5, B5, hv5, hB5, _, hc5⟩ := hg3.int_at hjl
      rw [hw0] at hv5
      cases hv5
      rw [hB3] at hB5
      cases hB5
      have ij := hin.at hjl
      have hxj : (l.getD j 0).toNat < p.length := by omega
      obtain ⟨b6, o6, c6, B6, hv6, hB6, _, hc6⟩ := h3.int_at hx1
      obtain ⟨b7, o7, c7, B7, hv7, hB7, _, hc7⟩ := h3.int_at hxj
      rw [hv6] at hv7
      cases hv7
      rw [hB6] at hB7
      cases hB7
      have hw := wrap_succ hj (by omega)
      cases b'
      · simp only [go_sem, e9, e8, e7', hj, hw]
        exact ⟨_, rfl⟩
      · simp only [go_sem, e9, e8, e7', hj, hw, hw0, hil, hjl, hB3, hc3, hc5, hv6, hB6, hc6, hc7, i1.1, ij.1, hx1, hxj]
        exact ⟨_, rfl⟩
    · rintro V' H4 ⟨e9, rfl, b', e7'⟩
      have y0 : (l.getD 0 0).toNat < q.length := by omega
      have y1 : (l.getD i 0).toNat < q.length := by omega
      obtain ⟨b6, o6, c6, B6, hv6, hB6, _, hc6⟩ := hs3.int_at y0
      obtain ⟨b7, o7, c7, B7, hv7, hB7, _, hc7⟩ := hs3.int_at y1
      rw [hv6] at hv7
      cases hv7
      rw [hB6] at hB7
      cases hB7
      generalize hda : q.getD (l.getD 0 0).toNat 0 = x at hc6
      generalize hdb : q.getD (l.getD i 0).toNat 0 = y at hc7
      have hX2 : ∀ y ∈ f2, H.fz y = false := fun y hy => hf.fresh (ho2.lo y hy)
      obtain ⟨aq, cq, hvq⟩ := hs3.val
      have fin : ∀ (q' : List Int) (lo hi : Int), (lo = x ∧ hi = y ∧ x ≤ y) ∨ (lo = y ∧ hi = x ∧ y ≤ x) → q'.length = q.length → (∀ j, j < q.length → q'.getD j 0 = if j < q.length ∧ q.getD j 0 = hi then lo else q.getD j 0) → Cls q' := fun q' lo hi hlh hq1 hq2 => by
        refine hqc.tied (i := (l.getD 0 0).toNat) (k := (l.getD i 0).toNat) y0 y1 ⟨hq1, fun j hj => ?_⟩
        rw [hq2 j hj, hda, hdb]
        simp only [hj, true_and]
        by_cases h1 : q.getD j 0 = hi
        · rw [if_pos h1, if_pos (by omega)]; omega
        · rw [if_neg h1]; split <;> omega
      obtain ⟨lo, hi, hlh, e10⟩ : ∃ lo hi : Int, ((lo = x ∧ hi = y ∧ x ≤ y) ∨ (lo = y ∧ hi = x ∧ y ≤ x)) ∧ (if y < x then lo = y ∧ hi = x else lo = x ∧ hi = y) := by
        by_cases hxy : y < x
        · exact ⟨y, x, .inr ⟨rfl, rfl, by omega⟩, by rw [if_pos hxy]; exact ⟨rfl, rfl⟩⟩
        · exact ⟨x, y, .inl ⟨rfl, rfl, by omega⟩, by rw [if_neg hxy]; exact ⟨rfl, rfl⟩⟩
      by_cases hxy : y < x
      all_goals
        first | rw [if_pos hxy] at e10 | rw [if_neg hxy] at e10
        obtain ⟨e10, e11⟩ := e10
        simp only [go_sem, e9, e8, e7', hw0, hil, hq0, hB3, hc3, hc4, hv6, hB6, hc6, hc7, i0.1, i1.1, y0, y1, hxy]
        refine w_for 154733060177706795071967232 q.length (fun k V'' H5 => V'' 73 = .int .i64 (k : Nat) ∧ ∃ q', q'.length = q.length ∧ (∀ j, j < q.length → q'.getD j 0 = if j < k ∧ q.getD j 0 = hi then lo else q.getD j 0) ∧ Sl .int H5 v2 q' f2 ∧ Upd f2 H3 H5) ⟨by simp only [go_sem]; rfl, q, rfl, fun j hj => by simp, hs3, Upd.refl hu.ro⟩ ?_ ?_ (by rfl)
        · rintro k V'' H5 hk ⟨e73, q', hq1, hq2, hs5, hu5⟩
          have hk' : k < q'.length := by omega
          obtain ⟨b8, o8, c8, B8, hv8, hB8, hf8, hlt, hcell, hput⟩ := hs5.int_put hk'
          rw [hv6, hq1] at hv8
          cases hv8
          have hcur : q'.getD k 0 = q.getD k 0 := by rw [hq2 k hk]; simp
          rw [hcur] at hcell
          have hX : H.fz b6 = false := hX2 b6 (by rw [hf8]; simp)
          have hro1 : B8.ro = false := hu5.ro b6 (by rw [hf8]; simp) B8 hB8
          have hw := wrap_succ hk (by omega)
          have hlt' : o6 + k + 1 ≤ B8.cells.length := hlt
          by_cases h1 : q.getD k 0 = hi
          · rw [h1, e11] at hcell
            simp only [go_sem, e73, hk, hv6, hB8, hcell, hlt, hlt', hX, hro1, hw]
            refine ⟨q'.set k lo, by rw [List.length_set]; exact hq1, fun j hj => ?_, by rw [hf8, ← hv6, e10]; exact hput _ _ (if_pos rfl), hu5.upd (by rw [hf8]; simp) rfl⟩
            rw [getD_set hk']
            by_cases hjk : j = k
            · subst hjk; rw [if_pos rfl, if_pos ⟨by omega, h1⟩]
            · rw [if_neg hjk, hq2 j hj]
              have : j < k ↔ j < k + 1 := by omega
              simp only [this]
          · have h2 : ¬ q.getD k 0 = (if y < x then x else y) := fun e => h1 (by rw [e]; split <;> omega)
            first | rw [if_pos hxy] at h2 | rw [if_neg hxy] at h2
            simp only [go_sem, e73, hk, hv6, hB8, hcell, h2, hw]
            refine ⟨q', hq1, fun j hj => ?_, by rw [← hv6]; exact hs5, hu5⟩
            rw [hq2 j hj]
            by_cases hjk : j = k
            · subst hjk; rw [if_neg (by omega), if_neg (fun h => h1 h.2)]
            · have : j < k ↔ j < k + 1 := by omega
              simp only [this]
        · rintro V'' H5 ⟨e73, q', hq1, hq2, hs5, hu5⟩
          simp only [go_sem, e73, hv6, e8, e7', wrap_succ hil (by omega)]
          exact ⟨n - 1, by omega, i + 1, _, q', by omega, by omega, rfl, rfl, by omega, fin q' lo hi hlh hq1 hq2, by rw [← hv6]; exact hs5, hu.trans hu5⟩
  · simp only [go_sem, e8, e7, hw0, hil]
    exact ⟨hu0, _, _, q, f2, rfl, hql, hqc, hs3, ⟨ho2.nd, ho2.lo, fun y hy => by rw [hu.nx]; exact ho2.hi y hy⟩⟩

def Iota (n : Nat) (q : List Int) : Prop := q.length = n ∧ ∀ j, j < n → q.getD j 0 = (j : Int)
theorem Iota.cls {n : Nat} {q : List Int} (h : Iota n q) : Cls q := fun i hi => by
  have e := h.2 i (by rw [← h.1]; exact hi)
  rw [e]
  exact ⟨by omega, by omega, e⟩
theorem newPart_w {H : AHeap} {n : Nat} (hn : n < 1000) : FnW Try.prog 23 #[.int .i64 (n : Nat)] H (fun v' H' => Old H H' ∧ ∃ q f', Iota n q ∧ Sl .int H' v' q f' ∧ Own H.next H' f') := by
  refine fw_23 (Nat.le_refl _) fun hf => ?_
  simp only [Try.f23, Option.getD_some]
  have n1 : ¬ ((n : Nat) : Int) < 0 := by omega
  have n2 : ¬ (1000 : Int) < ((n : Nat) : Int) := by omega
  simp only [go_sem, n1, n2]
  refine w_for 1046552 n (fun i V H1 => V 4 = .int .i64 (i : Nat) ∧ ∃ v' q f', V 3 = v' ∧ Iota i q ∧ Ow .int 3 H1 v' q f' ∧ Own H.next H1 f' ∧ Old H H1) ⟨by simp only [go_sem]; rfl, _, [], [], by simp only [go_sem], ⟨rfl, fun j hj => by omega⟩, Ow.nil _ _ _, ⟨by simp, by simp, by simp⟩, Old.refl H⟩ ?_ ?_ (by rfl)
  · rintro i V H1 hi ⟨e4, v', q, f', e3, hq, how, hown, hold⟩
    have hn1 := hold.nx
    have zI : zeroK Try.prog 3 = some [.int .i64 0] := by kernel_rfl
    simp only [go_sem, e4, e3, hi, build_one ap_22 (by decide) (by decide)]
    have hq1 := hq.1
    refine cps_app1 (r := .int) (x := (i : Int)) (g := []) ap_22 (how.keep fun y hy => get_push_lt (hown.hi y hy)) (fun y hy => Nat.lt_succ_of_lt (hown.hi y hy)) (by rw [List.append_nil]; exact hown.nd) (by simp) (fun y hy => hf.fresh (hown.lo y hy)) (by rw [get_push, if_pos rfl]) (Rp.int_E.2 ⟨rfl, rfl⟩) rfl (by omega) ?_
    intro v5 H5 f5 how5 hnd5 hmem5 hhi5 hnx5 hkp5 hfz5 hro5
    have hnx5' : H5.next = H1.next + 2 := hnx5
    have hp := hold.trans (Old.push H1 ⟨[.int .i64 ((i : Nat) : Int)], 3, false, false⟩)
    simp only [go_sem, e4, wrap_succ hi (by omega)]
    refine ⟨_, q ++ [(i : Int)], f5, rfl, ⟨by simp [hq1], fun j hj => ?_⟩, how5, ⟨hnd5, fun y hy => ?_, hhi5⟩, ⟨by omega, fun b hb => ?_, fun b B hB hr => hp.ro b B (hro5 b B hB hr) hr⟩⟩
    · rw [List.getD_eq_getElem?_getD, List.getElem?_append]
      by_cases h : j < i
      · rw [if_pos (by omega), ← List.getD_eq_getElem?_getD]; exact hq.2 j h
      · rw [if_neg (by omega)]
        have : j = i := by omega
        subst this
        simp [hq1]
    · rcases hmem5 y hy with e | e | e
      · rw [next_push] at e; omega
      · exact hown.lo y e
      · cases e
    · rw [hkp5 b (by rw [next_push]; omega) (fun e => by have := hown.lo b e; omega), hp.get b hb]
  · rintro V H1 ⟨e4, v', q, f', e3, hq, how, hown, hold⟩
    simp only [go_sem, e4, e3]
    exact ⟨hold, q, f', hq, how.sl, hown⟩
theorem new_w {H : AHeap} {n : Nat} (hn : n < 1000) : FnW Try.prog 9 #[.int .i64 (n : Nat)] H (fun v' H' => Old H H' ∧ ∃ q f', Iota n q ∧ Sl .int H' v' q f' ∧ Own H.next H' f') := by
  refine fw_9 (Nat.le_refl _) fun hf => ?_
  simp only [Try.f9, Option.getD_some]
  have n1 : ¬ ((n : Nat) : Int) < 0 := by omega
  have n2 : ¬ (1000 : Int) < ((n : Nat) : Int) := by omega
  have zI : zeroK Try.prog 3 = some [.int .i64 0] := by kernel_rfl
  simp only [go_sem, n1, n2, make_at ap_22 zI (by decide) (Nat.le_refl n) (by omega) (by omega)]
  have hz : ∃ f, Sl .int (H.push ⟨nCells [.int .i64 0] n, 3, false, false⟩) (.slice (some ⟨H.next, 0, none⟩) n n) (List.replicate n 0) f ∧ Own H.next (H.push ⟨nCells [.int .i64 0] n, 3, false, false⟩) f := by
    by_cases h0 : n = 0
    · subst h0; exact ⟨[], .inr (.inl ⟨_, _, _, rfl, rfl, rfl⟩), ⟨by simp, by simp, by simp⟩⟩
    · exact ⟨[H.next], .inr (.inr ⟨H.next, 0, n, _, [], by rw [List.length_replicate], by simp [h0], by simp, rfl, by rw [get_push, if_pos rfl], arr_cells (r := .int) (x := 0) (Rp.int_E.2 ⟨rfl, rfl⟩) n⟩), ⟨by simp, by simp, by simp [next_push]⟩⟩
  obtain ⟨f, hs, ho⟩ := hz
  refine w_for 8355856 n (fun i V H1 => V 15 = .int .i64 (i : Nat) ∧ ∃ q, q.length = n ∧ (∀ j, j < i → q.getD j 0 = (j : Int)) ∧ Sl .int H1 (.slice (some ⟨H.next, 0, none⟩) n n) q f ∧ Own H.next H1 f ∧ Old H H1) ⟨by simp only [go_sem]; rfl, _, by simp, fun j hj => by omega, hs, ho, Old.push H _⟩ ?_ ?_ (by rfl)
  · rintro i V H1 hi ⟨e15, q, hq1, hq2, hs1, ho1, hold⟩
    have hi' : i < q.length := by omega
    obtain ⟨b8, o8, c8, B8, hv8, hB8, hf8, hlt, hcell, hput⟩ := hs1.int_put hi'
    rw [hq1] at hv8
    cases hv8
    have hX : H.fz H.next = false := hf.fresh (Nat.le_refl _)
    have hro1 : B8.ro = false := hold.free hf (Nat.le_refl _) hB8
    have hlt' : i + 1 ≤ B8.cells.length := by omega
    have hlt2 : i < B8.cells.length := by omega
    simp only [go_sem, e15, hi, hB8, hlt2, hlt', hX, hro1, wrap_succ hi (by omega)]
    refine ⟨q.set i (i : Int), by rw [List.length_set]; exact hq1, fun j hj => ?_, by rw [hf8]; exact hput _ _ (by rw [get_upd, if_pos rfl, Nat.zero_add]), ⟨ho1.nd, ho1.lo, ho1.hi⟩, hold.upd (Nat.le_refl _) _⟩
    rw [getD_set hi']
    by_cases hjk : j = i
    · subst hjk; rw [if_pos rfl]
    · rw [if_neg hjk, hq2 j (by omega)]
  · rintro V H1 ⟨e15, q, hq1, hq2, hs1, ho1, hold⟩
    simp only [go_sem, e15]
    exact ⟨hold, q, f, ⟨hq1, hq2⟩, hs1, ho1⟩

theorem build_two {H : AHeap} {a b : Int} : buildSliceA Try.prog 22 2 [(0, .int .i64 a), (1, .int .i64 b)] H = .ok (.slice (some ⟨H.next, 0, none⟩) 2 2) (H.push ⟨[.int .i64 a, .int .i64 b], 3, false, false⟩) :=
  build_at ap_22 (z := [.int .i64 0]) (by kernel_rfl) (by decide) (by decide) rfl
theorem build_three {H : AHeap} {a b c : Int} : buildSliceA Try.prog 22 3 [(0, .int .i64 a), (1, .int .i64 b), (2, .int .i64 c)] H = .ok (.slice (some ⟨H.next, 0, none⟩) 3 3) (H.push ⟨[.int .i64 a, .int .i64 b, .int .i64 c], 3, false, false⟩) :=
  build_at ap_22 (z := [.int .i64 0]) (by kernel_rfl) (by decide) (by decide) rfl
theorem sl_push {H : AHeap} {xs : List Int} (hx : xs ≠ []) : Sl .int (H.push ⟨xs.map (.int .i64), 3, false, false⟩) (.slice (some ⟨H.next, 0, none⟩) xs.length xs.length) xs [H.next] :=
  .inr (.inr ⟨H.next, 0, _, _, [], rfl, hx, Nat.le_refl _, rfl, by rw [get_push, if_pos rfl], arr_ints _ xs⟩)

/-- Classes of numbers. -/
theorem made_w {H : AHeap} {v : Value} {l : List Int} {f : List Nat} {n : Int} (h : Sl .int H v l f) (hfl : ∀ y ∈ f, y < H.next) : FnW Try.prog 8 #[.int .i64 n, v] H (fun v' H' => Old H H' ∧ ∃ q f', Cls q ∧ q.length < 10 ∧ Sl .int H' v' q f' ∧ Own H.next H' f') := by
  refine fw_8 (Nat.le_refl _) fun hf => ?_
  simp only [Try.f8, Option.getD_some]
  obtain ⟨a0, c0, hv0⟩ := h.val
  simp only [go_sem]
  refine Cll.by (within_w (n := 9) (by decide)) ?_
  rintro _ _ - ⟨rfl, rfl⟩
  obtain ⟨m, hm⟩ := Int.eq_ofNat_of_zero_le (wIn_bd n 9 (by decide)).1
  have hm9 := (wIn_bd n 9 (by decide)).2
  rw [hm] at hm9
  simp only [go_sem, hm]
  refine Cll.by (newPart_w (n := m) (by omega)) ?_
  rintro v1 H1 - ⟨hold1, q1, f1, hq1, hs1, ho1⟩
  simp only [go_sem]
  have hq10 := hq1.1
  refine w_while 140737488354400 (fun k V H2 => ∃ i v2 q f2, i + k = 14 ∧ V 6 = .int .i64 (i : Nat) ∧ V 5 = v2 ∧ Cls q ∧ q.length < 10 ∧ Sl .int H2 v2 q f2 ∧ Own H.next H2 f2 ∧ Old H H2) (n := 14) ⟨0, v1, q1, f1, rfl, by simp only [go_sem]; rfl, by simp only [go_sem], hq1.cls, by omega, hs1, ho1, hold1⟩ ?_ (by rfl)
  rintro k V H2 ⟨i, v2, q, f2, hik, e6, e5, hc, hq, hs2, ho2, hold2⟩
  obtain ⟨a2, c2, hv2⟩ := hs2.val
  have hw1 : IntKind.wrap .i64 (((i : Nat) : Int) + 1) = ((i + 1 : Nat) : Int) := wrap_add (k := 1) (by omega)
  have fin : Old H H2 ∧ ∃ q f', Cls q ∧ q.length < 10 ∧ Sl .int H2 v2 q f' ∧ Own H.next H2 f' := ⟨hold2, q, f2, hc, hq, hs2, ho2⟩
  rw [hv2] at fin
  by_cases h1 : i + 1 < l.length
  · by_cases h2 : 0 < q.length
    · have h2' : (0 : Int) < (q.length : Nat) := by omega
      by_cases h3 : i < 12
      · have h3' : ((i : Nat) : Int) < 12 := by omega
        have h2l := h.keep (H' := H2) fun y hy => hold2.get y (hfl y hy)
        have hi0 : i < l.length := by omega
        obtain ⟨b3, o3, c3, B3, hv3, hB3, hbf3, hc3⟩ := h2l.int_at hi0
        obtain ⟨b4, o4, c4, B4, hv4, hB4, _, hc4⟩ := h2l.int_at h1
        rw [hv3] at hv4
        cases hv4
        rw [hB3] at hB4
        cases hB4
        have hv3' := hv3
        rw [hv0] at hv3'
        cases hv3'
        simp only [go_sem, e6, e5, hv0, hw1, h1, hv2, h2', h3', hi0, hB3, hc3]
        refine Cll.by (within_w (n := (q.length : Nat)) (by omega)) ?_
        rintro _ _ - ⟨rfl, rfl⟩
        obtain ⟨x, hx⟩ := Int.eq_ofNat_of_zero_le (wIn_bd (l.getD i 0) (q.length : Nat) (by omega)).1
        have hx1 := (wIn_bd (l.getD i 0) (q.length : Nat) (by omega)).2
        obtain ⟨y, hy⟩ := Int.eq_ofNat_of_zero_le (wIn_bd (l.getD (i + 1) 0) (q.length : Nat) (by omega)).1
        have hy1 := (wIn_bd (l.getD (i + 1) 0) (q.length : Nat) (by omega)).2
        simp only [go_sem, e6, e5, hv0, hw1, h1, hv2, hB3, hc4]
        refine Cll.by (within_w (n := (q.length : Nat)) (by omega)) ?_
        rintro _ _ - ⟨rfl, rfl⟩
        simp only [go_sem, build_two, e5]
        have hxy : In [wIn (l.getD i 0) (q.length : Nat), wIn (l.getD (i + 1) 0) (q.length : Nat)] q.length := by
          intro z hz
          simp only [List.mem_cons, List.not_mem_nil, or_false] at hz
          rcases hz with rfl | rfl <;> omega
        have hs2' : Sl .int (H2.push ⟨[.int .i64 (wIn (l.getD i 0) (q.length : Nat)), .int .i64 (wIn (l.getD (i + 1) 0) (q.length : Nat))], 3, false, false⟩) v2 q f2 := hs2.keep fun y hy => get_push_lt (ho2.hi y hy)
        refine Cll.by (joinPart_w hs2' (fun y hy => Nat.lt_succ_of_lt (ho2.hi y hy)) (sl_push (xs := [wIn (l.getD i 0) (q.length : Nat), wIn (l.getD (i + 1) 0) (q.length : Nat)]) (by simp)) (by simp [next_push]) hc hxy (by omega) (by simp)) ?_
        rintro _ H5 - ⟨hold5, v5, b5, q5, f5, rfl, hq5, hc5, hs5, ho5⟩
        have hw2 : IntKind.wrap .i64 (((i : Nat) : Int) + 2) = ((i + 2 : Nat) : Int) := wrap_add (k := 2) (by omega)
        simp only [go_sem, e6, hw2]
        have hnx2 := hold2.nx
        exact ⟨k - 2, by omega, i + 2, _, q5, f5, by omega, rfl, rfl, hc5, by omega, hs5, ⟨ho5.nd, fun y hy => by have h9 : H2.next + 1 ≤ y := ho5.lo y hy; omega, ho5.hi⟩, hold2.trans ((Old.push H2 _).trans hold5)⟩
      · have h3' : ¬ ((i : Nat) : Int) < 12 := by omega
        simp only [go_sem, e6, e5, hv0, hw1, h1, hv2, h2', h3']
        exact fin
    · have h2' : ¬ (0 : Int) < (q.length : Nat) := by omega
      simp only [go_sem, e6, e5, hv0, hw1, h1, hv2, h2']
      exact fin
  · simp only [go_sem, e6, e5, hv0, hw1, h1]
    rw [hv2]
    exact fin
end Go.Proofs.Ytilkokbmabbpgaa.Ab
