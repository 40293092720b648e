/- heap's functions, the rest. -/
import Derived.Test.YtgjpcliaggpcaaaH2
set_option linter.unusedVariables false
set_option linter.unusedSimpArgs false
set_option maxRecDepth 100000
namespace Go.Proofs.Ytgjpcliaggpcaaa.Ab
open Go

theorem eq_val {a b c d : Int} : eqK Try.prog 10000 25 (.agg #[.int .i64 a, .int .i64 b]) (.agg #[.int .i64 c, .int .i64 d]) = (match iEq a c with
    | true => (match iEq b d with
      | true => some true
      | false => some false)
    | false => some false) := by kernel_rfl
theorem neq_val {a b c d : Int} {h : KH} : binO Try.prog .neq 25 (.agg #[.int .i64 a, .int .i64 b]) (.agg #[.int .i64 c, .int .i64 d]) h = .ok (.bool (!(decide (a = c) && decide (b = d)))) h := by
  simp only [binO, binK, eq_val, iEq_eq]
  by_cases h1 : a = c <;> by_cases h2 : b = d <;> simp [h1, h2]
theorem neq_self {a b : Int} {h : KH} : binO Try.prog .neq 25 (.agg #[.int .i64 a, .int .i64 b]) (.agg #[.int .i64 a, .int .i64 b]) h = .ok (.bool false) h := by
  rw [neq_val]; simp

/-- Make. -/
theorem make_w {H : AHeap} {v vr : Value} {l : List (Int × List (Int × Int))} {f fr : List Nat} {k : Int} {r : List (Int × Int)} (h : Sl objR H v l f) (hlt : ∀ y ∈ f, y < H.next) (hl : l.length < 1000000) (hc : ∀ x ∈ l, x.2.length < 1000000)
    (hr : Sl valR H vr r fr) (hrl : ∀ y ∈ fr, y < H.next) (hr1 : r.length < 1000000) :
    FnW Try.prog 16 #[v, .int .i64 k, vr] H (fun w H' => Old H H' ∧ ∃ v' f', w = .tuple #[v', .int .i64 (l.length : Nat)] ∧ Ow objR 41 H' v' (l ++ [(k, r)]) f' ∧ Own H.next H' f') := by
  refine fw_16 (Nat.le_refl _) fun hf => ?_
  simp only [Try.f16, Option.getD_some]
  obtain ⟨a0, c0, hv0⟩ := h.val
  simp only [go_sem]
  refine Cll.by (copied_w h hlt hl hc) ?_
  rintro v1 H1 - ⟨hold1, f1, how1, hown1⟩
  simp only [go_sem]
  refine Cll.by (clone_w (hr.keep fun y hy => hold1.get y (hrl y hy)) hr1) ?_
  rintro v3 H3 - ⟨hold3, f3, hsl3, hown3⟩
  obtain ⟨a3, c3, hv3⟩ := hsl3.val
  subst hv3
  have hn1 := hold1.nx
  have hn3 := hold3.nx
  simp only [go_sem, build_one ap_26 (by decide) (by decide)]
  have h14 : Old H1 (H3.push ⟨[.int .i64 k, .slice a3 r.length c3], 41, false, false⟩) := hold3.trans (Old.push _ _)
  refine cps_app1 (r := objR) (x := (k, r)) (g := f3) ap_26 (how1.keep fun y hy => h14.get y (hown1.hi y hy)) (fun y hy => Nat.lt_of_lt_of_le (hown1.hi y hy) h14.nx) (nodup_apart hown1.nd hown3.nd hown1.hi hown3.lo)
      (fun y hy => Nat.lt_succ_of_lt (hown3.hi y hy)) (fun y hy => hf.fresh (hown1.lo y hy)) (by rw [get_push, if_pos rfl]) (objR_E.2 ⟨_, rfl, hsl3.keep fun y hy => get_push_lt (hown3.hi y hy)⟩) rfl (by omega) ?_
  intro v5 H5 f5 how5 hnd5 hmem5 hhi5 hnx5 hkp5 hfz5 hro5
  have h4 := hold1.trans h14
  have hn5 := h4.nx
  simp only [go_sem, hv0]
  refine ⟨⟨by omega, fun b hb => ?_, fun b B hB hr => h4.ro b B (hro5 b B hB hr) hr⟩, v5, f5, rfl, how5, hnd5, fun y hy => ?_, hhi5⟩
  · rw [hkp5 b (by omega) (fun e => by have := hown1.lo b e; omega), h4.get b hb]
  · rcases hmem5 y hy with e | e | e
    · omega
    · exact hown1.lo y e
    · have := hown3.lo y e; omega
/-- Read, where there is something. -/
theorem read_w {H : AHeap} {v : Value} {l : List (Int × List (Int × Int))} {f : List Nat} {n j : Nat} {x : Int × List (Int × Int)} {y : Int × Int} (h : Sl objR H v l f) (hlt : ∀ y ∈ f, y < H.next) (hx : l[n]? = some x) (hy : x.2[j]? = some y) :
    FnW Try.prog 27 #[v, .int .i64 n, .int .i64 j] H (fun w H' => Old H H' ∧ w = .agg #[.int .i64 y.1, .int .i64 y.2]) := by
  refine fw_27 (Nat.le_refl _) fun hf => ?_
  simp only [Try.f27, Option.getD_some]
  have hX : H.fz H.next = false := hf.fresh (Nat.le_refl _)
  have hn := (List.getElem?_eq_some_iff.1 hx).1
  have hj := (List.getElem?_eq_some_iff.1 hy).1
  have hh : hasB l n j = true := by
    simp only [hasB, Bool.and_eq_true, decide_eq_true_eq]
    refine ⟨⟨⟨by omega, by omega⟩, by omega⟩, ?_⟩
    rw [show ((n : Int).toNat) = n from rfl, List.getD_eq_getElem?_getD, hx]
    simp only [Option.getD_some]; omega
  have h1 : Sl objR (H.push ⟨[.int .i64 0, .int .i64 0], 25, false, false⟩) v l f := h.keep fun y hy => get_push_lt (hlt y hy)
  simp only [go_sem]
  refine Cll.by (has_w h1) ?_
  rintro _ _ - ⟨rfl, rfl⟩
  obtain ⟨b, o, c, B, gx, hv, hB, hbf, hgf, hbl, hE⟩ := h1.at hx
  obtain ⟨v2, hrow, hs2⟩ := objR_E.1 hE
  obtain ⟨b2, o2, c2, B2, gx2, hv2, hB2, hbf2, hgf2, hbl2, hE2⟩ := hs2.at hy
  have hrow2 := (valR_E.1 hE2).1
  have hcell : B.cells[o + n * 2 + 1]? = some v2 := by
    have : ((B.cells.drop (o + n * 2)).take 2)[1]? = some v2 := by
      rw [show (B.cells.drop (o + n * 2)).take 2 = _ from hrow]; rfl
    rw [List.getElem?_take, if_pos (by decide), List.getElem?_drop] at this
    exact this
  rw [get_push_lt (hlt b hbf)] at hB
  rw [get_push_lt (hlt b2 (hgf b2 hbf2))] at hB2
  have hb1 : b ≠ H.next := fun e => by have := hlt b hbf; omega
  have hb2 : b2 ≠ H.next := fun e => by have := hlt b2 (hgf b2 hbf2); omega
  have hbl2' : o2 + j * 2 + 2 ≤ B2.cells.length := hbl2
  have hrow2' : (B2.cells.drop (o2 + j * 2)).take 2 = [.int .i64 y.1, .int .i64 y.2] := hrow2
  simp only [go_sem, hh, hv, hn, hb1, hB, hcell, hv2, hj, hb2, hB2, hbl2', hrow2', hX]
  exact Old.push H _
theorem find_w {H : AHeap} {v : Value} {l : List (Int × List (Int × Int))} {f : List Nat} {n : Nat} {x : Int × List (Int × Int)} (h : Sl objR H v l f) (hlt : ∀ y ∈ f, y < H.next) (hx : l[n]? = some x) (hk : x.1 = 2) :
    FnW Try.prog 25 #[v, .agg #[.int .i64 2, .int .i64 n], .int .i64 2] H (fun w H' => Old H H' ∧ w = .tuple #[.int .i64 n, .int .i64 0]) := by
  refine fw_25 (Nat.le_refl _) fun hf => ?_
  simp only [Try.f25, Option.getD_some]
  have hn := (List.getElem?_eq_some_iff.1 hx).1
  obtain ⟨b, o, c, B, gx, hv, hB, hbf, hgf, hbl, hE⟩ := h.at hx
  obtain ⟨v2, hrow, hs2⟩ := objR_E.1 hE
  have hcell : B.cells[o + n * 2]? = some (.int .i64 2) := by
    have : ((B.cells.drop (o + n * 2)).take 2)[0]? = some (.int .i64 2) := by
      rw [show (B.cells.drop (o + n * 2)).take 2 = _ from hrow, hk]; rfl
    rw [List.getElem?_take, if_pos (by decide), List.getElem?_drop] at this
    exact this
  have hb1 : b ≠ H.next := fun e => by have := hlt b hbf; omega
  have e1 : ¬ ((n : Int) < 0) := by omega
  have e2 : ¬ ((l.length : Nat) : Int) ≤ (n : Int) := by omega
  simp only [go_sem, hv, e1, e2, decide_true, decide_false, hn, hb1, hB, hcell]
  exact Old.push H _
theorem find3_w {H : AHeap} {v : Value} {n : Nat} : FnW Try.prog 25 #[v, .agg #[.int .i64 3, .int .i64 n], .int .i64 2] H (fun w H' => Old H H' ∧ w = .tuple #[.int .i64 0, .int .i64 2]) := by
  refine fw_25 (Nat.le_refl _) fun hf => ?_
  simp only [Try.f25, Option.getD_some]
  simp only [go_sem, decide_true]
  exact Old.push H _
/-- Copy, of values. -/
theorem copyv_w {H : AHeap} {v : Value} {l : List (Int × Int)} {f : List Nat} (h : Sl valR H v l f) (hl : l.length < 1000000) :
    FnW Try.prog 46 #[v] H (fun v' H' => Old H H' ∧ ∃ f', Sl valR H' v' l f' ∧ Own H.next H' f') := by
  refine fw_46 (Nat.le_refl _) fun hf => ?_
  simp only [Try.f46, Option.getD_some]
  obtain ⟨cs, g, e1, e2, e3, _⟩ := h.src (size := 2) rfl
  have := val_nf e3; subst this
  simp only [go_sem]
  by_cases h0 : l = []
  · subst h0
    rw [app_none ap_28 e1]
    simp only [go_sem]
    exact ⟨Old.refl H, [], .inl ⟨rfl, rfl, rfl⟩, ⟨List.nodup_nil, by simp, by simp⟩⟩
  · have hpos : 0 < l.length := List.length_pos_iff.2 h0
    rw [app_nil ap_28 e1 (by omega) hpos]
    simp only [go_sem]
    exact ⟨Old.push H _, [H.next], .inr (.inr ⟨H.next, 0, _, _, [], rfl, h0, Nat.le_refl _, rfl, by rw [get_push, if_pos rfl], e3.keep (by simp)⟩), ⟨by simp, by simp, by simp [next_push]⟩⟩
theorem int_nf {H : AHeap} : ∀ {l : List Int} {cs : List Value} {f : List Nat}, Arr Rp.int H cs l f → f = []
  | [], cs, f, h => h
  | x :: l, cs, f, h => by
    obtain ⟨c, cs', f1, f2, rfl, rfl, ⟨rfl, rfl⟩, h2⟩ := h
    rw [int_nf h2]; rfl
theorem copyi_w {H : AHeap} {v : Value} {l : List Int} {f : List Nat} (h : Sl .int H v l f) (hl : l.length < 1000000) :
    FnW Try.prog 54 #[v] H (fun v' H' => Old H H' ∧ ∃ f', Sl .int H' v' l f' ∧ Own H.next H' f') := by
  refine fw_54 (Nat.le_refl _) fun hf => ?_
  simp only [Try.f54, Option.getD_some]
  obtain ⟨cs, g, e1, e2, e3, _⟩ := h.src (size := 1) rfl
  have := int_nf e3; subst this
  simp only [go_sem]
  by_cases h0 : l = []
  · subst h0
    rw [app_none ap_23 e1]
    simp only [go_sem]
    exact ⟨Old.refl H, [], .inl ⟨rfl, rfl, rfl⟩, ⟨List.nodup_nil, by simp, by simp⟩⟩
  · have hpos : 0 < l.length := List.length_pos_iff.2 h0
    rw [app_nil ap_23 e1 (by omega) hpos]
    simp only [go_sem]
    exact ⟨Old.push H _, [H.next], .inr (.inr ⟨H.next, 0, _, _, [], rfl, h0, Nat.le_refl _, rfl, by rw [get_push, if_pos rfl], e3.keep (by simp)⟩), ⟨by simp, by simp, by simp [next_push]⟩⟩
theorem cut_w {H : AHeap} {v : Value} {l : List Int} {f : List Nat} (h : Sl .int H v l f) :
    FnW Try.prog 14 #[v, .int .i64 40] H (fun v' H' => Old H H' ∧ ∃ f', Sl .int H' v' (l.take 40) f' ∧ Own H.next H' f') := by
  refine fw_14 (Nat.le_refl _) fun hf => ?_
  simp only [Try.f14, Option.getD_some]
  obtain ⟨a0, c0, hv0⟩ := h.val
  obtain ⟨v1, g, e1, e2, e3⟩ := h.to (P := Try.prog) (t := 23) (k := min l.length 40) (by exact el_23) (Nat.min_le_left _ _)
  have e40 : minK false (.int .i64 ((l.length : Nat) : Int)) (.int .i64 40) h0 = .ok (.int .i64 ((min l.length 40 : Nat) : Int)) h0 := min_nat (b := 40)
  subst hv0
  simp only [go_sem, e40, Option.map_none, Option.map_some, e1]
  have et : l.take (min l.length 40) = l.take 40 := by
    rcases Nat.le_total l.length 40 with h | h
    · rw [Nat.min_eq_left h, List.take_length, List.take_of_length_le h]
    · rw [Nat.min_eq_right h]
  rw [et] at e2
  refine Cll.by (copyi_w e2 (by simp; omega)) ?_
  rintro v2 H2 - ⟨hold, f2, hs, ho⟩
  simp only [go_sem]
  exact ⟨hold, f2, hs, ho⟩
theorem shape_w {H : AHeap} {s : ByteArray} : FnW Try.prog 23 #[.agg #[.int .i64 1, .int .i64 0, .int .i64 0, .string s, .slice none 0 0], .agg #[.int .i64 1, .int .i64 0]] H (fun w H' => Old H H' ∧ w = .bool true) := by
  refine fw_23 (Nat.le_refl _) fun hf => ?_
  simp only [Try.f23, Option.getD_some]
  simp only [go_sem, decide_true]
  exact (Old.push H _).trans (Old.push _ _)
theorem wakes_w {H : AHeap} : FnW Try.prog 22 #[] H (fun w H' => Old H H' ∧ w = .bool true) := by
  refine fw_22 (Nat.le_refl _) fun hf => ?_
  simp only [Try.f22, Option.getD_some]
  simp only [go_sem]
  refine Cll.by shape_w ?_
  rintro v2 H2 - ⟨hold, rfl⟩
  simp only [go_sem]
  exact hold

/-- Cells. -/
def sumL (l : List (Int × List (Int × Int))) : Nat := (l.map (·.2.length)).sum
theorem sumL_le {l : List (Int × List (Int × Int))} {m : Nat} (hc : ∀ x ∈ l, x.2.length < m) : sumL l ≤ l.length * m := by
  induction l with
  | nil => simp [sumL]
  | cons x l ih =>
    have h1 := hc x (by simp)
    have h2 := ih fun y hy => hc y (by simp [hy])
    simp only [sumL, List.map_cons, List.sum_cons, List.length_cons, Nat.add_mul] at h2 ⊢
    omega
theorem cells_w {H : AHeap} {v : Value} {l : List (Int × List (Int × Int))} {f : List Nat} (h : Sl objR H v l f) (hlt : ∀ y ∈ f, y < H.next) (hl : l.length < 1000000) (hc : ∀ x ∈ l, x.2.length < 1000000) :
    FnW Try.prog 29 #[v] H (fun w H' => Old H H' ∧ w = .int .i64 (sumL l : Nat)) := by
  refine fw_29 (Nat.le_refl _) fun hf => ?_
  obtain ⟨a0, c0, hv0⟩ := h.val
  simp only [Try.f29, Option.getD_some]
  simp only [go_sem, hv0]
  refine w_loop (fun n E H1 => ∃ i, i + n = l.length ∧ E 6 = v ∧ E 7 = .int .i64 (l.length : Nat) ∧ E 8 = .int .i64 (i : Nat) ∧ E 3 = .int .i64 (sumL (l.take i) : Nat) ∧ Old H H1) (n := l.length)
    ⟨0, by simp, by simp only [go_sem, hv0], by simp only [go_sem], by simp only [go_sem]; rfl, by simp only [go_sem]; rfl, Old.refl H⟩ ?_
  rintro n E H1 ⟨i, hi, e6, e7, e8, e3, hold⟩
  cases n with
  | zero =>
    have hlt1 : decide ((i : Int) < (l.length : Nat)) = false := by simp; omega
    simp only [go_sem, e6, e7, e8, e3, hlt1]
    rw [List.take_of_length_le (by omega)]
    exact ⟨hold, rfl⟩
  | succ n =>
    have hil : i < l.length := by omega
    have hx0 : l[i]? = some l[i] := List.getElem?_eq_getElem hil
    generalize hx : l[i] = x at hx0
    have hxl : x ∈ l := hx ▸ List.getElem_mem hil
    have hlt1 : decide ((i : Int) < (l.length : Nat)) = true := by simp; omega
    obtain ⟨b, o, c, B, gx, hv, hB, hbf, hgf, hbl, hE⟩ := (h.keep fun y hy => hold.get y (hlt y hy)).at hx0
    obtain ⟨v2, hrow, hs2⟩ := objR_E.1 hE
    obtain ⟨a2, c2, hv2⟩ := hs2.val
    have hn1 := hold.nx
    have hX1 : H.fz H1.next = false := hf.fresh hn1
    have hw1 : IntKind.wrap .i64 ((i : Int) + 1) = ((i + 1 : Nat) : Int) := wrap_add (k := 1) (by omega)
    have hbl' : o + i * 2 + 2 ≤ B.cells.length := hbl
    have hrow' : (B.cells.drop (o + i * 2)).take 2 = [.int .i64 x.1, .slice a2 x.2.length c2] := hv2 ▸ hrow
    have hs1 : sumL (l.take i) ≤ (l.take i).length * 1000000 := sumL_le fun y hy => hc y (List.mem_of_mem_take hy)
    have hs2 := hc x hxl
    rw [List.length_take, Nat.min_eq_left (by omega)] at hs1
    have hw2 : IntKind.wrap .i64 (((sumL (l.take i) : Nat) : Int) + ((x.2.length : Nat) : Int)) = ((sumL (l.take i) + x.2.length : Nat) : Int) := wrap_add (by omega)
    simp only [go_sem, e6, e7, e8, e3, hlt1, hv, hil, hB, hbl', hrow', hX1, hw1, hw2]
    refine ⟨n, by omega, i + 1, by omega, rfl, ?_, hold.trans (Old.push _ _)⟩
    rw [take_snoc hx0]
    simp [sumL]
end Go.Proofs.Ytgjpcliaggpcaaa.Ab
