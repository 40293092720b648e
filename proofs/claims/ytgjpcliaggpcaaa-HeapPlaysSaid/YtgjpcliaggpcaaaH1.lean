/- heap's functions over the abstract heap. -/
import Derived.Test.YtgjpcliaggpcaaaAbP
set_option linter.unusedVariables false
set_option linter.unusedSimpArgs false
set_option maxRecDepth 100000
namespace Go.Proofs.Ytgjpcliaggpcaaa.Ab
open Go

abbrev valR : Rp (Int × Int) := .pair .int .int
theorem valR_E {H : AHeap} {cs : List Value} {x : Int × Int} {f : List Nat} : valR.E H cs x f ↔ cs = [.int .i64 x.1, .int .i64 x.2] ∧ f = [] := by
  constructor
  · rintro ⟨c1, c2, f1, f2, rfl, rfl, ⟨rfl, rfl⟩, ⟨rfl, rfl⟩⟩; exact ⟨rfl, rfl⟩
  · rintro ⟨rfl, rfl⟩; exact ⟨[_], [_], [], [], rfl, rfl, ⟨rfl, rfl⟩, ⟨rfl, rfl⟩⟩
abbrev objR : Rp (Int × List (Int × Int)) := .pair .int (.slice valR)
theorem objR_E {H : AHeap} {cs : List Value} {x : Int × List (Int × Int)} {f : List Nat} : objR.E H cs x f ↔ ∃ v, cs = [.int .i64 x.1, v] ∧ Sl valR H v x.2 f := by
  constructor
  · rintro ⟨c1, c2, f1, f2, rfl, rfl, ⟨rfl, rfl⟩, ⟨v, rfl, h⟩⟩; exact ⟨v, rfl, h⟩
  · rintro ⟨v, rfl, h⟩; exact ⟨[_], [v], [], f, rfl, rfl, ⟨rfl, rfl⟩, ⟨v, rfl, h⟩⟩
theorem val_nf {H : AHeap} : ∀ {l : List (Int × Int)} {cs : List Value} {f : List Nat}, Arr valR H cs l f → f = []
  | [], cs, f, h => h
  | x :: l, cs, f, h => by
    obtain ⟨c, cs', f1, f2, rfl, rfl, h1, h2⟩ := h
    rw [(valR_E.1 h1).2, val_nf h2]; rfl
theorem val_ones {H : AHeap} : ∀ {l : List (Int × Int)} {cs : List Value} {f : List Nat}, Arr valR H cs l f → cs.length = l.length * 2 → onesK cs = true
  | [], cs, f, h, e => by
    have : cs = [] := List.length_eq_zero_iff.1 (by simpa using e)
    rw [this]; rfl
  | x :: l, cs, f, h, e => by
    obtain ⟨c, cs', f1, f2, rfl, rfl, h1, h2⟩ := h
    obtain ⟨rfl, rfl⟩ := valR_E.1 h1
    simp only [List.cons_append, List.nil_append, ones_cons, one_int, Bool.true_and]
    exact val_ones h2 (by simp at e ⊢; omega)

/-- slices.Clone of values. -/
theorem clone_w {H : AHeap} {v : Value} {l : List (Int × Int)} {f : List Nat} (h : Sl valR H v l f) (hl : l.length < 1000000) :
    FnW Try.prog 56 #[v] H (fun v' H' => Old H H' ∧ ∃ f', Sl valR H' v' l f' ∧ Own H.next H' f') := by
  refine fw_56 (Nat.le_refl _) fun hf => ?_
  simp only [Try.f56, Option.getD_some]
  have hsrc := h.src (size := 2) rfl
  rcases h with ⟨rfl, rfl, rfl⟩ | ⟨b, o, c, rfl, rfl, rfl⟩ | ⟨b, o, c, B, g, rfl, hne, hlc, rfl, hB, hA⟩
  · simp only [go_sem]
    exact ⟨Old.refl H, [], .inl ⟨rfl, rfl, rfl⟩, ⟨List.nodup_nil, by simp, by simp⟩⟩
  · have hx : H.fz H.next = false := hf.fresh (Nat.le_refl _)
    simp only [go_sem, build_none ap_28 (by decide)]
    rw [app_at (n := 0) (new := []) ap_28 rfl rfl (by rw [get_push, if_pos rfl]) rfl (Nat.le_refl _) (by decide) (Nat.le_refl _) rfl]
    simp only [go_sem, hx]
    exact ⟨Old.push H _, [], .inr (.inl ⟨_, _, _, rfl, rfl, rfl⟩), ⟨List.nodup_nil, by simp, by simp⟩⟩
  · have hx : H.fz H.next = false := hf.fresh (Nat.le_refl _)
    have hpos : 0 < l.length := List.length_pos_iff.2 hne
    have hlt := hf.wf_lt hB
    have hsrc2 := (Sl.src (r := valR) (H := H.push ⟨[], 25, false, false⟩) (v := .slice (some ⟨b, o, none⟩) l.length c) (l := l) (f := b :: g) (.inr (.inr ⟨b, o, c, B, g, rfl, hne, hlc, rfl, by rw [get_push_lt hlt]; exact hB, by
      have := val_nf hA; subst this; exact hA.keep (by simp)⟩)) (size := 2) rfl)
    obtain ⟨cs, g2, e1, e2, e3, _⟩ := hsrc2
    have := val_nf e3; subst this
    simp only [go_sem, build_none ap_28 (by decide)]
    rw [app_copy ap_28 e1 (by rw [get_push, if_pos rfl]) (by simp) (Nat.le_refl _) (by omega) (by omega)]
    simp only [go_sem]
    refine ⟨(Old.push H _).trans (Old.push _ _), [H.next + 1], .inr (.inr ⟨H.next + 1, 0, l.length, _, [], rfl, hne, Nat.le_refl _, rfl, by rw [get_push, next_push, if_pos rfl], ?_⟩), ⟨by simp, by simp, by simp [next_push]⟩⟩
    exact e3.keep (by simp)

theorem take_snoc {α : Type} {l : List α} {i : Nat} {x : α} (h : l[i]? = some x) : l.take (i + 1) = l.take i ++ [x] := by
  rw [List.take_add_one, h]; rfl

/-- heap.copied: objects in new memory. -/
theorem copied_w {H : AHeap} {v : Value} {l : List (Int × List (Int × Int))} {f : List Nat} (h : Sl objR H v l f) (hlt : ∀ y ∈ f, y < H.next) (hl : l.length < 1000000) (hc : ∀ x ∈ l, x.2.length < 1000000) :
    FnW Try.prog 55 #[v] H (fun v' H' => Old H H' ∧ ∃ f', Ow objR 41 H' v' l f' ∧ Own H.next H' f') := by
  refine fw_55 (Nat.le_refl _) fun hf => ?_
  obtain ⟨a0, c0, hv0⟩ := h.val
  simp only [Try.f55, Option.getD_some]
  simp only [go_sem, hv0]
  refine w_loop (fun n E H1 => ∃ i out g, i + n = l.length ∧ E 6 = v ∧ E 7 = .int .i64 (l.length : Nat) ∧ E 8 = .int .i64 (i : Nat) ∧ E 3 = out ∧ Ow objR 41 H1 out (l.take i) g ∧ Own H.next H1 g ∧ Old H H1) (n := l.length)
    ⟨0, _, [], by simp, by simp only [go_sem, hv0], by simp only [go_sem], by simp only [go_sem]; rfl, by simp only [go_sem]; rfl, by simpa using Ow.nil objR 41 H, ⟨List.nodup_nil, by simp, by simp⟩, Old.refl H⟩ ?_
  rintro n E H1 ⟨i, out, g, hi, e6, e7, e8, e3, how, hown, hold⟩
  cases n with
  | zero =>
    have hlt1 : decide ((i : Int) < (l.length : Nat)) = false := by simp; omega
    simp only [go_sem, e6, e7, e8, e3, hlt1]
    exact ⟨hold, g, by rw [← List.take_of_length_le (show l.length ≤ i by omega)]; exact how, hown⟩
  | succ n =>
    have hil : i < l.length := by omega
    have hx0 : l[i]? = some l[i] := List.getElem?_eq_getElem hil
    generalize hx : l[i] = x at hx0
    have hxl : x ∈ l := hx ▸ List.getElem_mem hil
    have hlt1 : decide ((i : Int) < (l.length : Nat)) = true := by simp; omega
    obtain ⟨b, o, c, B, gx, hv, hB, hbf, hgf, hbl, hE⟩ := (h.keep fun y hy => hold.get y (hlt y hy)).at hx0
    obtain ⟨v2, hrow, hs2⟩ := objR_E.1 hE
    obtain ⟨a2, c2, hv2⟩ := hs2.val
    have hn1 := hold.nx
    have hX1 : H.fz H1.next = false := hf.fresh hn1
    have hw1 : IntKind.wrap .i64 ((i : Int) + 1) = ((i + 1 : Nat) : Int) := wrap_add (k := 1) (by omega)
    have hbl' : o + i * 2 + 2 ≤ B.cells.length := hbl
    have hrow' : (B.cells.drop (o + i * 2)).take 2 = [.int .i64 x.1, .slice a2 x.2.length c2] := hv2 ▸ hrow
    simp only [go_sem, e6, e7, e8, e3, hlt1, hv, hil, hB, hbl', hrow', hX1]
    have hs3 : Sl valR (H1.push ⟨[.int .i64 x.1, .slice a2 x.2.length c2], 41, false, false⟩) (.slice a2 x.2.length c2) x.2 gx := (hv2 ▸ hs2).keep fun y hy => get_push_lt (Nat.lt_of_lt_of_le (hlt y (hgf y hy)) hn1)
    refine Cll.by (clone_w hs3 (hc x hxl)) ?_
    rintro v3 H3 - ⟨hold3, f3, hsl3, hown3⟩
    obtain ⟨a3, c3, hv3⟩ := hsl3.val
    subst hv3
    have hg5 := hold3.get H1.next (Nat.lt_succ_self _)
    have hn3 := hold3.nx
    simp only [go_sem, e3, hg5, build_one ap_26 (by decide) (by decide)]
    have h14 : Old H1 (H3.push ⟨[.int .i64 x.1, .slice a3 x.2.length c3], 41, false, false⟩) := (Old.push H1 _).trans (hold3.trans (Old.push _ _))
    refine cps_app1 (r := objR) (x := x) (g := f3) ap_26 (how.keep fun y hy => h14.get y (hown.hi y hy)) (fun y hy => Nat.lt_of_lt_of_le (hown.hi y hy) h14.nx) (nodup_apart hown.nd hown3.nd hown.hi fun y hy => Nat.le_of_succ_le (hown3.lo y hy))
      (fun y hy => Nat.lt_succ_of_lt (hown3.hi y hy)) (fun y hy => hf.fresh (hown.lo y hy)) (by rw [get_push, if_pos rfl]) (objR_E.2 ⟨_, rfl, hsl3.keep fun y hy => get_push_lt (hown3.hi y hy)⟩) rfl (by simp; omega) ?_
    intro v5 H5 f5 how5 hnd5 hmem5 hhi5 hnx5 hkp5 hfz5 hro5
    simp only [go_sem, e6, e7, e8, hw1]
    have h4 := hold.trans h14
    have hn5 := h4.nx
    have hn3' : H1.next + 1 ≤ H3.next := hn3
    refine ⟨n, by omega, i + 1, v5, f5, by omega, rfl, rfl, by rw [take_snoc hx0]; exact how5, ⟨hnd5, fun y hy => ?_, hhi5⟩, ⟨by omega, fun b hb => ?_, fun b B hB hr => h4.ro b B (hro5 b B hB hr) hr⟩⟩
    · rcases hmem5 y hy with e | e | e
      · omega
      · exact hown.lo y e
      · have h6 : H1.next + 1 ≤ y := hown3.lo y e
        omega
    · rw [hkp5 b (by omega) (fun e => by have := hown.lo b e; omega), h4.get b hb]
end Go.Proofs.Ytgjpcliaggpcaaa.Ab
