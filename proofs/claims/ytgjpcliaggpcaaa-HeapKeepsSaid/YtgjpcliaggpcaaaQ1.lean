/- Values, messages and boxes: what they stand for; post's copies. -/
import Derived.Test.YtgjpcliaggpcaaaAbP
set_option linter.unusedVariables false
set_option linter.unusedSimpArgs false
set_option maxRecDepth 100000
namespace Go.Proofs.Ytgjpcliaggpcaaa.Ab
open Go

abbrev valR : Rp (Int × Int) := .pair .int .int
theorem valR_E {H : AHeap} {cs : List Value} {x : Int × Int} {f : List Nat} : valR.E H cs x f ↔ cs = [.int .i64 x.1, .int .i64 x.2] ∧ f = [] := by
  constructor
  · rintro ⟨c1, c2, f1, f2, rfl, rfl, ⟨rfl, rfl⟩, ⟨rfl, rfl⟩⟩; exact ⟨rfl, rfl⟩
  · rintro ⟨rfl, rfl⟩; exact ⟨[_], [_], [], [], rfl, rfl, ⟨rfl, rfl⟩, ⟨rfl, rfl⟩⟩
theorem val_nf {H : AHeap} : ∀ {l : List (Int × Int)} {cs : List Value} {f : List Nat}, Arr valR H cs l f → f = []
  | [], cs, f, h => h
  | x :: l, cs, f, h => by
    obtain ⟨c, cs', f1, f2, rfl, rfl, h1, h2⟩ := h
    rw [(valR_E.1 h1).2, val_nf h2]; rfl
theorem val_ones {H : AHeap} : ∀ {l : List (Int × Int)} {cs : List Value} {f : List Nat}, Arr valR H cs l f → cs.length = l.length * 2 → onesK cs = true
  | [], cs, f, h, e => by
    have : cs = [] := List.length_eq_zero_iff.1 (by simpa using e)
    rw [this]; rfl
  | x :: l, cs, f, h, e => by
    obtain ⟨c, cs', f1, f2, rfl, rfl, h1, h2⟩ := h
    obtain ⟨rfl, rfl⟩ := valR_E.1 h1
    simp only [List.cons_append, List.nil_append, ones_cons, one_int, Bool.true_and]
    exact val_ones h2 (by simp at e ⊢; omega)

/-- slices.Clone of values. -/
theorem clone_w {H : AHeap} {v : Value} {l : List (Int × Int)} {f : List Nat} (h : Sl valR H v l f) (hl : l.length < 1000000) :
    FnW Try.prog 56 #[v] H (fun v' H' => Old H H' ∧ ∃ f', Sl valR H' v' l f' ∧ Own H.next H' f') := by
  refine fw_56 (Nat.le_refl _) fun hf => ?_
  simp only [Try.f56, Option.getD_some]
  have hsrc := h.src (size := 2) rfl
  rcases h with ⟨rfl, rfl, rfl⟩ | ⟨a, c, rfl, rfl, rfl⟩ | ⟨b, o, c, B, g, rfl, hne, hlc, rfl, hB, hA⟩
  · simp only [go_sem]
    exact ⟨Old.refl H, [], .inl ⟨rfl, rfl, rfl⟩, ⟨List.nodup_nil, by simp, by simp⟩⟩
  · have hx : H.fz H.next = false := hf.fresh (Nat.le_refl _)
    simp only [go_sem, build_none ap_28 (by decide)]
    rw [app_at (n := 0) (new := []) ap_28 rfl rfl (by rw [get_push, if_pos rfl]) rfl (Nat.le_refl _) (by decide) (Nat.le_refl _) rfl]
    simp only [go_sem, hx]
    exact ⟨Old.push H _, [], .inr (.inl ⟨_, _, rfl, rfl, rfl⟩), ⟨List.nodup_nil, by simp, by simp⟩⟩
  · have hx : H.fz H.next = false := hf.fresh (Nat.le_refl _)
    have hpos : 0 < l.length := List.length_pos_iff.2 hne
    have hlt := hf.wf_lt hB
    have hsrc2 := (Sl.src (r := valR) (H := H.push ⟨[], 25, false, false⟩) (v := .slice (some ⟨b, o, none⟩) l.length c) (l := l) (f := b :: g) (.inr (.inr ⟨b, o, c, B, g, rfl, hne, hlc, rfl, by rw [get_push_lt hlt]; exact hB, by
      have := val_nf hA; subst this; exact hA.keep (by simp)⟩)) (size := 2) rfl)
    obtain ⟨cs, g2, e1, e2, e3, _⟩ := hsrc2
    have := val_nf e3; subst this
    simp only [go_sem, build_none ap_28 (by decide)]
    rw [app_copy ap_28 e1 (by rw [get_push, if_pos rfl]) (by simp) (Nat.le_refl _) (by omega) (by omega)]
    simp only [go_sem]
    refine ⟨(Old.push H _).trans (Old.push _ _), [H.next + 1], .inr (.inr ⟨H.next + 1, 0, l.length, _, [], rfl, hne, Nat.le_refl _, rfl, by rw [get_push, next_push, if_pos rfl], ?_⟩), ⟨by simp, by simp, by simp [next_push]⟩⟩
    exact e3.keep (by simp)


/-- Messages. -/
abbrev Msg := Int × Int × List (Int × Int)
abbrev msgR : Rp Msg := .pair .int (.pair .int (.slice valR))
theorem msgR_E {H : AHeap} {cs : List Value} {x : Msg} {f : List Nat} : msgR.E H cs x f ↔ ∃ v, cs = [.int .i64 x.1, .int .i64 x.2.1, v] ∧ Sl valR H v x.2.2 f := by
  constructor
  · rintro ⟨c1, c2, f1, f2, rfl, rfl, ⟨rfl, rfl⟩, ⟨c3, c4, f3, f4, rfl, rfl, ⟨rfl, rfl⟩, ⟨v, rfl, h⟩⟩⟩; exact ⟨v, rfl, h⟩
  · rintro ⟨v, rfl, h⟩; exact ⟨[_], [_, v], [], f, rfl, rfl, ⟨rfl, rfl⟩, ⟨[_], [v], [], f, rfl, rfl, ⟨rfl, rfl⟩, ⟨v, rfl, h⟩⟩⟩
abbrev boxR : Rp (Bool × List Msg) := .pair .bool (.slice msgR)
theorem boxR_E {H : AHeap} {cs : List Value} {x : Bool × List Msg} {f : List Nat} : boxR.E H cs x f ↔ ∃ v, cs = [.bool x.1, v] ∧ Sl msgR H v x.2 f := by
  constructor
  · rintro ⟨c1, c2, f1, f2, rfl, rfl, ⟨rfl, rfl⟩, ⟨v, rfl, h⟩⟩; exact ⟨v, rfl, h⟩
  · rintro ⟨v, rfl, h⟩; exact ⟨[_], [v], [], f, rfl, rfl, ⟨rfl, rfl⟩, ⟨v, rfl, h⟩⟩
/-- A row of one's own, in a cell. -/
def Rp.own {α : Type} (r : Rp α) (ty : TypeId) : Rp (List α) := ⟨1, by decide, fun H cs l f => ∃ v, cs = [v] ∧ Ow r ty H v l f, fun ⟨v, h, _⟩ => by rw [h]; rfl, fun ⟨v, h, hs⟩ hk => ⟨v, h, hs.keep hk⟩⟩
abbrev boxO : Rp (Bool × List Msg) := .pair .bool (.own msgR 76)
theorem boxO_E {H : AHeap} {cs : List Value} {x : Bool × List Msg} {f : List Nat} : boxO.E H cs x f ↔ ∃ v, cs = [.bool x.1, v] ∧ Ow msgR 76 H v x.2 f := by
  constructor
  · rintro ⟨c1, c2, f1, f2, rfl, rfl, ⟨rfl, rfl⟩, ⟨v, rfl, h⟩⟩; exact ⟨v, rfl, h⟩
  · rintro ⟨v, rfl, h⟩; exact ⟨[_], [v], [], f, rfl, rfl, ⟨rfl, rfl⟩, ⟨v, rfl, h⟩⟩
theorem boxO_R {H : AHeap} {cs : List Value} {x : Bool × List Msg} {f : List Nat} (h : boxO.E H cs x f) : boxR.E H cs x f := by
  obtain ⟨v, h1, h2⟩ := boxO_E.1 h
  exact boxR_E.2 ⟨v, h1, h2.sl⟩

/-- How much there is. -/
structure Small (l : List (Bool × List Msg)) : Prop where
  len : l.length < 1000000
  mail : ∀ x ∈ l, x.2.length < 1000000
  args : ∀ x ∈ l, ∀ m ∈ x.2, m.2.2.length < 1000000

theorem message_w {H : AHeap} {cs : List Value} {m : Msg} {f : List Nat} (h : msgR.E H cs m f) (hlt : ∀ y ∈ f, y < H.next) (ha : m.2.2.length < 1000000) :
    FnW Try.prog 66 #[.agg cs.toArray] H (fun v' H' => Old H H' ∧ ∃ cs' f', v' = .agg cs'.toArray ∧ msgR.E H' cs' m f' ∧ Own H.next H' f') := by
  refine fw_66 (Nat.le_refl _) fun hf => ?_
  simp only [Try.f66, Option.getD_some]
  obtain ⟨v, rfl, hs⟩ := msgR_E.1 h
  have hX : H.fz H.next = false := hf.fresh (Nat.le_refl _)
  have hX1 : H.fz (H.next + 1) = false := hf.fresh (Nat.le_succ _)
  simp only [go_sem]
  have hs1 : Sl valR ((H.push ⟨[.int .i64 m.1, .int .i64 m.2.1, v], 76, false, false⟩).push ⟨[.int .i64 0, .int .i64 0, .slice none 0 0], 76, false, false⟩) v m.2.2 f := hs.keep fun y hy => by
    have := hlt y hy
    rw [get_push_lt (by rw [next_push]; omega), get_push_lt this]
  refine Cll.by (clone_w hs1 ha) ?_
  rintro v2 H2 - ⟨hold2, f2, hs2, ho2⟩
  have g0 : H2.get H.next = some ⟨[.int .i64 m.1, .int .i64 m.2.1, v], 76, false, false⟩ := by
    rw [hold2.get _ (by rw [next_push, next_push]; omega), get_push, if_neg (by rw [next_push]; omega), get_push, if_pos rfl]
  have g1 : H2.get (H.next + 1) = some ⟨[.int .i64 0, .int .i64 0, .slice none 0 0], 76, false, false⟩ := by
    rw [hold2.get _ (by rw [next_push, next_push]; omega), get_push, if_pos (by rw [next_push])]
  obtain ⟨a2, c2, hv2⟩ := hs2.val
  subst hv2
  simp only [go_sem, g0, g1, hX, hX1]
  have hold : Old H H2 := (Old.push H _).trans ((Old.push _ _).trans hold2)
  have hn2 : H.next + 2 ≤ H2.next := hold2.nx
  refine ⟨(hold.upd (Nat.le_refl _) _).upd (Nat.le_succ _) _, [.int .i64 m.1, .int .i64 m.2.1, .slice a2 m.2.2.length c2], f2, rfl, msgR_E.2 ⟨_, rfl, hs2.keep fun y hy => ?_⟩, ⟨ho2.nd, fun y hy => ?_, ho2.hi⟩⟩
  · have h6 : H.next + 2 ≤ y := ho2.lo y hy
    rw [get_upd, if_neg (by omega), get_upd, if_neg (by omega)]
  · have h6 : H.next + 2 ≤ y := ho2.lo y hy
    omega

theorem take_snoc {α : Type} {l : List α} {i : Nat} {x : α} (h : l[i]? = some x) : l.take (i + 1) = l.take i ++ [x] := by
  rw [List.take_add_one, h]; rfl

/-- Boxes in new memory, to be turned. -/
theorem copied_w0 {H : AHeap} {v : Value} {l : List (Bool × List Msg)} {f : List Nat} (h : Sl boxR H v l f) (hlt : ∀ y ∈ f, y < H.next) (hl : Small l) :
    FnW Try.prog 60 #[v] H (fun v' H' => Old H H' ∧ ∃ f', Ow boxO 81 H' v' l f' ∧ Own H.next H' f') := by
  refine fw_60 (Nat.le_refl _) fun hf => ?_
  simp only [Try.f60, Option.getD_some]
  obtain ⟨a0, c0, hv0⟩ := h.val
  have hll := hl.len
  simp only [go_sem, hv0]
  refine w_for 274877905256 l.length (fun i V H1 => V 11 = .int .i64 (i : Nat) ∧ ∃ out g, V 3 = out ∧ Ow boxO 81 H1 out (l.take i) g ∧ Own H.next H1 g ∧ Old H H1) ⟨by simp only [go_sem]; rfl, _, [], by simp only [go_sem]; rfl, by simpa using Ow.nil boxO 81 H, ⟨by simp, by simp, by simp⟩, Old.refl H⟩ ?_ ?_ (by rfl)
  · rintro i V H1 hi ⟨e11, out, g, e3, how, hown, hold⟩
    have hx0 : l[i]? = some l[i] := List.getElem?_eq_getElem hi
    generalize hx : l[i] = x at hx0
    have hxl : x ∈ l := hx ▸ List.getElem_mem hi
    have hn1 := hold.nx
    obtain ⟨b, o, c, B, gx, hv, hB, hbf, hgf, hbl, hE⟩ := (h.keep fun y hy => hold.get y (hlt y hy)).at hx0
    obtain ⟨v2, hrow, hs2⟩ := boxR_E.1 hE
    obtain ⟨a2, c2, hv2⟩ := hs2.val
    subst hv2
    rw [hv0] at hv
    cases hv
    have hbl' : o + i * 2 + 2 ≤ B.cells.length := hbl
    have hrow' : (B.cells.drop (o + i * 2)).take 2 = [.bool x.1, .slice a2 x.2.length c2] := hrow
    have hX1 : H.fz H1.next = false := hf.fresh hn1
    have hX2 : H.fz (H1.next + 1) = false := hf.fresh (by omega)
    simp only [go_sem, e11, e3, hi, hB, hbl', hrow', hX1, hX2]
    have hml := hl.mail x hxl
    generalize hHb : (H1.push ⟨[.bool x.1, .slice a2 x.2.length c2], 81, false, false⟩) = Hb
    have hnb : Hb.next = H1.next + 1 := by rw [← hHb]; rfl
    have hob : Old H1 Hb := by rw [← hHb]; exact Old.push H1 _
    refine w_for 8587837696 x.2.length (fun j V' H3 => V' 21 = .int .i64 (j : Nat) ∧ ∃ vm fm, H3.get (H1.next + 1) = some ⟨[.bool x.1, vm], 81, false, false⟩ ∧ Ow msgR 76 H3 vm (x.2.take j) fm ∧ Own (H1.next + 2) H3 fm ∧ Old Hb H3 ∧ H1.next + 2 ≤ H3.next)
      ⟨by simp only [go_sem]; rfl, .slice none 0 0, [], if_pos rfl, by simpa using Ow.nil msgR 76 _, ⟨by simp, by simp, by simp⟩, (Old.push Hb _).upd (by rw [hnb]; exact Nat.le_refl _) _, by show H1.next + 2 ≤ Hb.next + 1; omega⟩ ?_ ?_ (by rfl)
    · rintro j V' H3 hj ⟨e21, vm, fm, gm, howm, hownm, holdm, hnm⟩
      have hy0 : x.2[j]? = some x.2[j] := List.getElem?_eq_getElem hj
      generalize hy : x.2[j] = m at hy0
      have hmx : m ∈ x.2 := hy ▸ List.getElem_mem hj
      have hs3 := hs2.keep (H' := H3) fun y hy => by
        have := hlt y (hgf y hy)
        rw [holdm.get y (by omega), hob.get y (by omega)]
      obtain ⟨b3, o3, c3, B3, g3, hv3, hB3, hbf3, hgf3, hbl3, hE3⟩ := hs3.at hy0
      cases hv3
      obtain ⟨v4, hrow3, hs4⟩ := msgR_E.1 hE3
      have hbl3' : o3 + j * 3 + 3 ≤ B3.cells.length := hbl3
      have hrow3' : (B3.cells.drop (o3 + j * 3)).take 3 = [.int .i64 m.1, .int .i64 m.2.1, v4] := hrow3
      obtain ⟨a4, c4, hv4⟩ := hs4.val
      subst hv4
      have hX3 : H.fz H3.next = false := hf.fresh (by omega)
      have hne : ¬ H1.next + 1 = H3.next := by omega
      simp only [go_sem, e21, hj, hB3, hbl3', hrow3', hX3, hnb, hne, gm]
      have hE4 : msgR.E (H3.push ⟨[.int .i64 m.1, .int .i64 m.2.1, .slice a4 m.2.2.length c4], 76, false, false⟩) [.int .i64 m.1, .int .i64 m.2.1, .slice a4 m.2.2.length c4] m g3 := msgR_E.2 ⟨_, rfl, hs4.keep fun y hy => get_push_lt (by have := hlt y (hgf y (hgf3 y hy)); omega)⟩
      refine Cll.by (message_w hE4 (fun y hy => by have := hlt y (hgf y (hgf3 y hy)); rw [next_push]; omega) (hl.args x hxl m hmx)) ?_
      rintro _ H5 - ⟨hold5, cs5, f5, rfl, hE5, ho5⟩
      have hn5 : H3.next + 1 ≤ H5.next := hold5.nx
      obtain ⟨v5, rfl, hs5⟩ := msgR_E.1 hE5
      obtain ⟨a5, c5, hv5⟩ := hs5.val
      subst hv5
      have gm5 : H5.get (H1.next + 1) = some ⟨[.bool x.1, vm], 81, false, false⟩ := by rw [hold5.get _ (by rw [next_push]; omega), get_push_lt (by omega)]; exact gm
      simp only [go_sem, gm5, gm, hne, build_one ap_79 (by decide) (by decide)]
      have h35 : Old H3 (H5.push ⟨[.int .i64 m.1, .int .i64 m.2.1, .slice a5 m.2.2.length c5], 76, false, false⟩) := (Old.push H3 _).trans (hold5.trans (Old.push _ _))
      have htl : (x.2.take j).length = j := by rw [List.length_take]; omega
      refine cps_app1 (r := msgR) (x := m) (g := f5) ap_79 (howm.keep fun y hy => h35.get y (hownm.hi y hy)) (fun y hy => Nat.lt_of_lt_of_le (hownm.hi y hy) h35.nx) (nodup_apart hownm.nd ho5.nd hownm.hi fun y hy => Nat.le_of_succ_le (ho5.lo y hy))
        (fun y hy => Nat.lt_succ_of_lt (ho5.hi y hy)) (fun y hy => hf.fresh (by have := hownm.lo y hy; omega)) (by rw [get_push, if_pos rfl]) (msgR_E.2 ⟨_, rfl, hs5.keep fun y hy => get_push_lt (ho5.hi y hy)⟩) rfl (by omega) ?_
      intro v7 H7 f7 how7 hnd7 hmem7 hhi7 hnx7 hkp7 hfz7 hro7
      have hnx7' : H7.next = H5.next + 2 := hnx7
      have hnf : H1.next + 1 ∉ fm := fun e => by have := hownm.lo _ e; omega
      have gm7 : H7.get (H1.next + 1) = some ⟨[.bool x.1, vm], 81, false, false⟩ := by rw [hkp7 _ (by rw [next_push]; omega) hnf, get_push_lt (by omega)]; exact gm5
      have hlo7 : ∀ y ∈ f7, H1.next + 2 ≤ y := fun y hy => by
        rcases hmem7 y hy with e | e | e
        · rw [next_push] at e; omega
        · exact hownm.lo y e
        · have h9 : H3.next + 1 ≤ y := ho5.lo y e; omega
      obtain ⟨a7, c7, hv7⟩ := how7.sl.val
      subst hv7
      have hb7 : Old Hb H7 := by
        have h9 := holdm.trans h35
        refine ⟨by omega, fun y hy => ?_, fun y B hB hr => h9.ro y B (hro7 y B hB hr) hr⟩
        rw [hkp7 y (by rw [next_push]; omega) (fun e => by have := hownm.lo y e; omega), h9.get y hy]
      simp only [go_sem, gm7, hX2, e21, wrap_succ hj (by omega)]
      refine ⟨_, f7, rfl, ?_, ⟨hnd7, hlo7, hhi7⟩, hb7.upd (by omega) _, by omega⟩
      rw [take_snoc hy0]
      exact how7.keep fun y hy => by
        have := hlo7 y hy
        rw [get_upd, if_neg (by omega)]
    · rintro V' H3 ⟨e21, vm, fm, gm, howm, hownm, holdm, hnm⟩
      rw [List.take_of_length_le (Nat.le_refl _)] at howm
      obtain ⟨am, cm, hvm⟩ := howm.sl.val
      subst hvm
      simp only [go_sem, e21, e11, e3, gm, build_one ap_54 (by decide) (by decide)]
      have h13 : Old H1 (H3.push ⟨[.bool x.1, .slice am x.2.length cm], 81, false, false⟩) := hob.trans (holdm.trans (Old.push _ _))
      have htl : (l.take i).length = i := by rw [List.length_take]; omega
      refine cps_app1 (r := boxO) (x := x) (g := fm) ap_54 (how.keep fun y hy => h13.get y (hown.hi y hy)) (fun y hy => Nat.lt_of_lt_of_le (hown.hi y hy) h13.nx) (nodup_apart hown.nd hownm.nd hown.hi fun y hy => by have := hownm.lo y hy; omega)
        (fun y hy => Nat.lt_succ_of_lt (hownm.hi y hy)) (fun y hy => hf.fresh (hown.lo y hy)) (by rw [get_push, if_pos rfl]) (boxO_E.2 ⟨_, rfl, howm.keep fun y hy => get_push_lt (hownm.hi y hy)⟩) rfl (by omega) ?_
      intro v7 H7 f7 how7 hnd7 hmem7 hhi7 hnx7 hkp7 hfz7 hro7
      have hnx7' : H7.next = H3.next + 2 := hnx7
      simp only [go_sem, e11, wrap_succ hi (by omega)]
      have h07 := hold.trans h13
      refine ⟨_, f7, rfl, by rw [take_snoc hx0]; exact how7, ⟨hnd7, fun y hy => ?_, hhi7⟩, ⟨by omega, fun y hy => ?_, fun y B hB hr => h07.ro y B (hro7 y B hB hr) hr⟩⟩
      · rcases hmem7 y hy with e | e | e
        · rw [next_push] at e; omega
        · exact hown.lo y e
        · have := hownm.lo y e; omega
      · rw [hkp7 y (by rw [next_push]; omega) (fun e => by have := hown.lo y e; omega), h07.get y hy]
  · rintro V H1 ⟨e11, out, g, e3, how, hown, hold⟩
    simp only [go_sem, e11, e3]
    rw [List.take_of_length_le (Nat.le_refl _)] at how
    exact ⟨hold, g, how, hown⟩
end Go.Proofs.Ytgjpcliaggpcaaa.Ab
