/- Law 25's objects: copies, a new one, a cell that is written, what is alike, objects of numbers. -/
import Derived.Test.YtgjpcliaggpcaaaS5
set_option linter.unusedVariables false
set_option linter.unusedSimpArgs false
set_option maxRecDepth 100000
namespace Go.Proofs.Ytgjpcliaggpcaaa.Ab
open Go

abbrev objR : Rp (Int × List (Int × Int)) := .pair .int (.slice valR)
theorem objR_E {H : AHeap} {cs : List Value} {x : Int × List (Int × Int)} {f : List Nat} : objR.E H cs x f ↔ ∃ v, cs = [.int .i64 x.1, v] ∧ Sl valR H v x.2 f := by
  constructor
  · rintro ⟨c1, c2, f1, f2, rfl, rfl, ⟨rfl, rfl⟩, ⟨v, rfl, h⟩⟩; exact ⟨v, rfl, h⟩
  · rintro ⟨v, rfl, h⟩; exact ⟨[_], [v], [], f, rfl, rfl, ⟨rfl, rfl⟩, ⟨v, rfl, h⟩⟩
abbrev ObL := List (Int × List (Int × Int))

/-- heap.copied: objects in new memory. -/
theorem hcopied_w {H : AHeap} {v : Value} {l : ObL} {f : List Nat} (h : Sl objR H v l f) (hlt : ∀ y ∈ f, y < H.next) (hl : l.length < 1000000) (hc : ∀ x ∈ l, x.2.length < 1000000) :
    FnW Try.prog 55 #[v] H (fun v' H' => Old H H' ∧ ∃ f', Ow objR 41 H' v' l f' ∧ Own H.next H' f') := by
  refine fw_55 (Nat.le_refl _) fun hf => ?_
  obtain ⟨a0, c0, hv0⟩ := h.val
  simp only [Try.f55, Option.getD_some]
  simp only [go_sem, hv0]
  refine w_for 4194088 l.length (fun i V H1 => V 8 = .int .i64 (i : Nat) ∧ ∃ out g, V 3 = out ∧ Ow objR 41 H1 out (l.take i) g ∧ Own H.next H1 g ∧ Old H H1) ⟨by simp only [go_sem]; rfl, _, [], by simp only [go_sem]; rfl, by simpa using Ow.nil objR 41 H, ⟨by simp, by simp, by simp⟩, Old.refl H⟩ ?_ ?_ (by rfl)
  · rintro i V H1 hi ⟨e8, out, g, e3, how, hown, hold⟩
    have hx0 : l[i]? = some l[i] := List.getElem?_eq_getElem hi
    generalize hx : l[i] = x at hx0
    have hxl : x ∈ l := hx ▸ List.getElem_mem hi
    obtain ⟨b, o, c, B, gx, hv, hB, hbf, hgf, hbl, hE⟩ := (h.keep fun y hy => hold.get y (hlt y hy)).at hx0
    obtain ⟨v2, hrow, hs2⟩ := objR_E.1 hE
    obtain ⟨a2, c2, hv2⟩ := hs2.val
    subst hv2
    rw [hv0] at hv
    cases hv
    have hn1 := hold.nx
    have hX1 : H.fz H1.next = false := hf.fresh hn1
    have hbl' : o + i * 2 + 2 ≤ B.cells.length := hbl
    have hrow' : (B.cells.drop (o + i * 2)).take 2 = [.int .i64 x.1, .slice a2 x.2.length c2] := hrow
    simp only [go_sem, e8, e3, hi, hB, hbl', hrow', hX1]
    have hs3 : Sl valR (H1.push ⟨[.int .i64 x.1, .slice a2 x.2.length c2], 41, false, false⟩) (.slice a2 x.2.length c2) x.2 gx := hs2.keep fun y hy => get_push_lt (Nat.lt_of_lt_of_le (hlt y (hgf y hy)) hn1)
    refine Cll.by (clone_w hs3 (hc x hxl)) ?_
    rintro v3 H3 - ⟨hold3, f3, hsl3, hown3⟩
    obtain ⟨a3, c3, hv3⟩ := hsl3.val
    subst hv3
    have hg5 : H3.get H1.next = some ⟨[.int .i64 x.1, .slice a2 x.2.length c2], 41, false, false⟩ := by rw [hold3.get H1.next (Nat.lt_succ_self _), get_push, if_pos rfl]
    have hn3 : H1.next + 1 ≤ H3.next := hold3.nx
    simp only [go_sem, e3, hg5, build_one ap_26 (by decide) (by decide)]
    have h14 : Old H1 (H3.push ⟨[.int .i64 x.1, .slice a3 x.2.length c3], 41, false, false⟩) := (Old.push H1 _).trans (hold3.trans (Old.push _ _))
    have htl : (l.take i).length = i := by rw [List.length_take]; omega
    refine cps_app1 (r := objR) (x := x) (g := f3) ap_26 (how.keep fun y hy => h14.get y (hown.hi y hy)) (fun y hy => Nat.lt_of_lt_of_le (hown.hi y hy) h14.nx) (nodup_apart hown.nd hown3.nd hown.hi fun y hy => Nat.le_of_succ_le (hown3.lo y hy))
      (fun y hy => Nat.lt_succ_of_lt (hown3.hi y hy)) (fun y hy => hf.fresh (hown.lo y hy)) (by rw [get_push, if_pos rfl]) (objR_E.2 ⟨_, rfl, hsl3.keep fun y hy => get_push_lt (hown3.hi y hy)⟩) rfl (by omega) ?_
    intro v5 H5 f5 how5 hnd5 hmem5 hhi5 hnx5 hkp5 hfz5 hro5
    simp only [go_sem, e8, wrap_succ hi (by omega)]
    have h4 := hold.trans h14
    rw [next_push] at hnx5
    refine ⟨v5, f5, rfl, by rw [take_snoc hx0]; exact how5, ⟨hnd5, fun y hy => ?_, hhi5⟩, ⟨by omega, fun b hb => ?_, fun b B hB hr => h4.ro b B (hro5 b B hB hr) hr⟩⟩
    · rcases hmem5 y hy with e | e | e
      · rw [next_push] at e; omega
      · exact hown.lo y e
      · have h6 : H1.next + 1 ≤ y := hown3.lo y e
        omega
    · rw [hkp5 b (by rw [next_push]; omega) (fun e => by have := hown.lo b e; omega), h4.get b hb]
  · rintro V H1 ⟨e8, out, g, e3, how, hown, hold⟩
    simp only [go_sem, e8, e3]
    rw [List.take_of_length_le (Nat.le_refl _)] at how
    exact ⟨hold, g, how, hown⟩

def hasB (l : List (Int × List (Int × Int))) (n at_ : Int) : Bool := decide (0 ≤ n) && decide (n < l.length) && decide (0 ≤ at_) && decide (at_ < ((l.getD n.toNat (0, [])).2.length : Nat))
theorem has_w {H : AHeap} {v : Value} {l : List (Int × List (Int × Int))} {f : List Nat} {n at_ : Int} (h : Sl objR H v l f) : FnW Try.prog 59 #[v, .int .i64 n, .int .i64 at_] H (fun r H' => r = .bool (hasB l n at_) ∧ H = H') := by
  refine fw_59 (Nat.le_refl _) fun hf => ?_
  simp only [Try.f59, Option.getD_some]
  obtain ⟨a0, c0, hv0⟩ := h.val
  by_cases h1 : 0 ≤ n
  · by_cases h2 : n < (l.length : Nat)
    · by_cases h3 : 0 ≤ at_
      · have h2' : n.toNat < l.length := by omega
        obtain ⟨b, o, c, B, gx, hv, hB, hbf, hgf, hbl, hE⟩ := h.at (List.getElem?_eq_getElem h2')
        obtain ⟨v2, hrow, hs2⟩ := objR_E.1 hE
        obtain ⟨a2, c2, hv2⟩ := hs2.val
        have hcell : B.cells[o + n.toNat * 2 + 1]? = some v2 := by
          have : ((B.cells.drop (o + n.toNat * 2)).take 2)[1]? = some v2 := by
            rw [show (B.cells.drop (o + n.toNat * 2)).take 2 = _ from hrow]; rfl
          rw [List.getElem?_take, if_pos (by decide), List.getElem?_drop] at this
          exact this
        have hg : (l.getD n.toNat (0, [])).2 = l[n.toNat].2 := by simp [List.getD_eq_getElem?_getD, h2']
        simp only [go_sem, hv, h1, h2, h2', h3, hB, hcell, hv2, decide_true, hasB, hg, Bool.true_and]
      · simp only [go_sem, hv0, h1, h2, h3, decide_true, decide_false, hasB, Bool.and_false, Bool.false_and]
    · simp only [go_sem, hv0, h1, h2, decide_true, decide_false, hasB, Bool.and_false, Bool.false_and]
  · simp only [go_sem, hv0, h1, decide_true, decide_false, hasB, Bool.and_false, Bool.false_and]

/-- Write. -/
def writeL (l : List (Int × List (Int × Int))) (n at_ : Int) (x : Int × Int) : List (Int × List (Int × Int)) := if hasB l n at_ = true then l.set n.toNat ((l.getD n.toNat (0, [])).1, (l.getD n.toNat (0, [])).2.set at_.toNat x) else l
theorem write_w {H : AHeap} {v : Value} {l : List (Int × List (Int × Int))} {f : List Nat} {n at_ : Int} {x : Int × Int} (h : Sl objR H v l f) (hlt : ∀ y ∈ f, y < H.next) (hl : l.length < 1000000) (hc : ∀ x ∈ l, x.2.length < 1000000) :
    FnW Try.prog 20 #[v, .int .i64 n, .int .i64 at_, .agg #[.int .i64 x.1, .int .i64 x.2]] H (fun v' H' => Old H H' ∧ ∃ f', Sl objR H' v' (writeL l n at_ x) f' ∧ Own H.next H' f') := by
  refine fw_20 (Nat.le_refl _) fun hf => ?_
  simp only [Try.f20, Option.getD_some]
  simp only [go_sem]
  have hs0 : Sl objR (H.push ⟨[.int .i64 x.1, .int .i64 x.2], 25, false, false⟩) v l f := h.keep fun y hy => get_push_lt (hlt y hy)
  refine Cll.by (hcopied_w hs0 (fun y hy => Nat.lt_succ_of_lt (hlt y hy)) hl hc) ?_
  rintro v1 H1 - ⟨hold1, f1, how1, hown1⟩
  have hsl1 := how1.sl
  have hn1 : H.next + 1 ≤ H1.next := hold1.nx
  simp only [go_sem]
  refine Cll.by (has_w hsl1) ?_
  rintro _ _ - ⟨rfl, rfl⟩
  have hold : Old H H1 := (Old.push H _).trans hold1
  have hown : Own H.next H1 f1 := ⟨hown1.nd, fun y hy => Nat.le_of_succ_le (hown1.lo y hy), hown1.hi⟩
  by_cases hh : hasB l n at_ = true
  · have hh' := hh
    simp only [hasB, Bool.and_eq_true, decide_eq_true_eq] at hh'
    obtain ⟨⟨⟨h1, h2⟩, h3⟩, h4⟩ := hh'
    have h2' : n.toNat < l.length := by omega
    have hg : l.getD n.toNat (0, []) = l[n.toNat] := by simp [List.getD_eq_getElem?_getD, h2']
    rw [hg] at h4
    have h4' : at_.toNat < l[n.toNat].2.length := by omega
    have hg7 : H1.get H.next = some ⟨[.int .i64 x.1, .int .i64 x.2], 25, false, false⟩ := by rw [hold1.get H.next (Nat.lt_succ_self _), get_push, if_pos rfl]
    obtain ⟨b, cs, g1, g2, g3, hv, hB, rfl, hbl, hE, hput⟩ := how1.put h2'
    obtain ⟨v2, hrow, hs2⟩ := objR_E.1 hE
    obtain ⟨b2, o2, c2, B2, k1, k2, k3, hv2, hlc2, hB2, rfl, hbl2, hE2, hput2⟩ := hs2.put h4'
    have hcell : cs[n.toNat * 2 + 1]? = some v2 := by
      have : ((cs.drop (n.toNat * 2)).take 2)[1]? = some v2 := by rw [show (cs.drop (n.toNat * 2)).take 2 = _ from hrow]; rfl
      rw [List.getElem?_take, if_pos (by decide), List.getElem?_drop] at this
      exact this
    have hX : H.fz b2 = false := hf.fresh (hown.lo b2 (by simp))
    have hbl2' : o2 + at_.toNat * 2 + 2 ≤ B2.cells.length := hbl2
    have hlen2 : o2 + at_.toNat * 2 < B2.cells.length := by omega
    have hro2 : B2.ro = false := hold.free hf (hown.lo b2 (by simp)) hB2
    simp only [go_sem, hh, hv, h2, h2', h1, h3, h4', hB, hcell, hv2, hB2, hbl2', hX, hg7, hold1.nx, hro2]
    obtain rfl := (valR_E.1 hE2).2
    have hnd := hown.nd
    have hne : ∀ z, z = b ∨ z ∈ g1 ∨ z ∈ g3 ∨ z ∈ k1 ∨ z ∈ k3 → z ≠ b2 := by
      intro z hz e
      subst e
      simp only [List.nil_append, List.nodup_cons, List.nodup_append, List.mem_append, List.mem_cons, List.cons_append, not_or] at hnd
      grind
    have hup : ∀ (B : ABlk) z, z ≠ b2 → (H1.upd b2 B).get z = H1.get z := fun B z hz => if_neg hz
    have hw : writeL l n at_ x = l.set n.toNat (l[n.toNat].1, l[n.toNat].2.set at_.toNat x) := by rw [writeL, if_pos hh, hg]
    rw [hw, ← hv]
    have hcs : spliceA cs (n.toNat * objR.sz) [.int .i64 l[n.toNat].1, v2] = cs := by rw [← hrow]; exact splice_same hbl
    refine ⟨hold.upd (hown.lo b2 (by simp)) _, _, (hput _ [.int .i64 l[n.toNat].1, v2] (l[n.toNat].1, l[n.toNat].2.set at_.toNat x) (b2 :: (k1 ++ ([] ++ k3))) ?_ ?_ (objR_E.2 ⟨v2, rfl, hput2 _ _ [.int .i64 x.1, .int .i64 x.2] x [] ?_ (if_pos rfl) rfl (valR_E.2 ⟨rfl, rfl⟩)⟩)).sl, ⟨hown.nd, hown.lo, hown.hi⟩⟩
    · intro z hz; exact hup _ z (hne z (by grind))
    · rw [hup _ b (hne b (.inl rfl)), hcs]; exact hB
    · intro z hz; exact hup _ z (hne z (by grind))
  · simp only [go_sem, hh]
    simp only [writeL, hh]
    exact ⟨hold, f1, hsl1, hown⟩
theorem make_w {H : AHeap} {v vr : Value} {l : List (Int × List (Int × Int))} {f fr : List Nat} {k : Int} {r : List (Int × Int)} (h : Sl objR H v l f) (hlt : ∀ y ∈ f, y < H.next) (hl : l.length < 1000000) (hc : ∀ x ∈ l, x.2.length < 1000000)
    (hr : Sl valR H vr r fr) (hrl : ∀ y ∈ fr, y < H.next) (hr1 : r.length < 1000000) :
    FnW Try.prog 16 #[v, .int .i64 k, vr] H (fun w H' => Old H H' ∧ ∃ v' f', w = .tuple #[v', .int .i64 (l.length : Nat)] ∧ Ow objR 41 H' v' (l ++ [(k, r)]) f' ∧ Own H.next H' f') := by
  refine fw_16 (Nat.le_refl _) fun hf => ?_
  simp only [Try.f16, Option.getD_some]
  obtain ⟨a0, c0, hv0⟩ := h.val
  simp only [go_sem]
  refine Cll.by (hcopied_w h hlt hl hc) ?_
  rintro v1 H1 - ⟨hold1, f1, how1, hown1⟩
  simp only [go_sem]
  refine Cll.by (clone_w (hr.keep fun y hy => hold1.get y (hrl y hy)) hr1) ?_
  rintro v3 H3 - ⟨hold3, f3, hsl3, hown3⟩
  obtain ⟨a3, c3, hv3⟩ := hsl3.val
  subst hv3
  have hn1 := hold1.nx
  have hn3 := hold3.nx
  simp only [go_sem, build_one ap_26 (by decide) (by decide)]
  have h14 : Old H1 (H3.push ⟨[.int .i64 k, .slice a3 r.length c3], 41, false, false⟩) := hold3.trans (Old.push _ _)
  refine cps_app1 (r := objR) (x := (k, r)) (g := f3) ap_26 (how1.keep fun y hy => h14.get y (hown1.hi y hy)) (fun y hy => Nat.lt_of_lt_of_le (hown1.hi y hy) h14.nx) (nodup_apart hown1.nd hown3.nd hown1.hi hown3.lo)
      (fun y hy => Nat.lt_succ_of_lt (hown3.hi y hy)) (fun y hy => hf.fresh (hown1.lo y hy)) (by rw [get_push, if_pos rfl]) (objR_E.2 ⟨_, rfl, hsl3.keep fun y hy => get_push_lt (hown3.hi y hy)⟩) rfl (by omega) ?_
  intro v5 H5 f5 how5 hnd5 hmem5 hhi5 hnx5 hkp5 hfz5 hro5
  have h4 := hold1.trans h14
  have hn5 := h4.nx
  simp only [go_sem, hv0]
  refine ⟨⟨by omega, fun b hb => ?_, fun b B hB hr => h4.ro b B (hro5 b B hB hr) hr⟩, v5, f5, rfl, how5, hnd5, fun y hy => ?_, hhi5⟩
  · rw [hkp5 b (by omega) (fun e => by have := hown1.lo b e; omega), h4.get b hb]
  · rcases hmem5 y hy with e | e | e
    · omega
    · exact hown1.lo y e
    · have := hown3.lo y e; omega
theorem shape_w {H : AHeap} {s : ByteArray} : FnW Try.prog 23 #[.agg #[.int .i64 1, .int .i64 0, .int .i64 0, .string s, .slice none 0 0], .agg #[.int .i64 1, .int .i64 0]] H (fun w H' => Old H H' ∧ w = .bool true) := by
  refine fw_23 (Nat.le_refl _) fun hf => ?_
  simp only [Try.f23, Option.getD_some]
  simp only [go_sem, decide_true]
  exact (Old.push H _).trans (Old.push _ _)
theorem hwakes_w {H : AHeap} : FnW Try.prog 22 #[] H (fun w H' => Old H H' ∧ w = .bool true) := by
  refine fw_22 (Nat.le_refl _) fun hf => ?_
  simp only [Try.f22, Option.getD_some]
  simp only [go_sem]
  refine Cll.by shape_w ?_
  rintro v2 H2 - ⟨hold, rfl⟩
  simp only [go_sem]
  exact hold

end Go.Proofs.Ytgjpcliaggpcaaa.Ab
