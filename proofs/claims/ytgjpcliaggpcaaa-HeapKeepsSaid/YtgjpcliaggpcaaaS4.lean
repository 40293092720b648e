/- The law PostTells. -/
import Derived.Test.YtgjpcliaggpcaaaS3
set_option linter.unusedVariables false
set_option linter.unusedSimpArgs false
set_option maxRecDepth 100000
namespace Go.Proofs.Ytgjpcliaggpcaaa.Ab
open Go

/-- How much there is, at most. -/
structure Bd (a b c : Nat) (l : List (Bool × List Msg)) : Prop where
  len : l.length ≤ a
  mail : ∀ x ∈ l, x.2.length ≤ b
  args : ∀ x ∈ l, ∀ m ∈ x.2, m.2.2.length ≤ c
theorem Bd.small {a b c : Nat} {l : List (Bool × List Msg)} (h : Bd a b c l) (ha : a < 1000000) (hb : b < 1000000) (hc : c < 1000000) : Small l :=
  ⟨Nat.lt_of_le_of_lt h.len ha, fun x hx => Nat.lt_of_le_of_lt (h.mail x hx) hb, fun x hx m hm => Nat.lt_of_le_of_lt (h.args x hx m hm) hc⟩
theorem Bd.of (l : List (Bool × List Int)) : Bd 6 5 2 (ofL l) := by
  refine ⟨by simp [ofL]; omega, fun x hx => ?_, fun x hx m hm => ?_⟩
  · obtain ⟨y, _, rfl⟩ := List.mem_map.1 hx
    simp; omega
  · obtain ⟨y, _, rfl⟩ := List.mem_map.1 hx
    obtain ⟨n, _, rfl⟩ := List.mem_map.1 hm
    have := msgF_args n; omega
theorem Bd.opn {a b c : Nat} {l : List (Bool × List Msg)} (h : Bd a b c l) : Bd (a + 1) b c (l ++ [(false, [])]) := by
  refine ⟨by have := h.len; simp; omega, fun x hx => ?_, fun x hx m hm => ?_⟩
  · rcases List.mem_append.1 hx with e | e
    · exact h.mail x e
    · rw [List.mem_singleton] at e; subst e; simp
  · rcases List.mem_append.1 hx with e | e
    · exact h.args x e m hm
    · rw [List.mem_singleton] at e; subst e; cases hm
theorem getD_mem {l : List (Bool × List Msg)} {n : Int} (h : thereB n l.length = true) : l.getD n.toNat (false, []) ∈ l := by
  simp only [thereB, Bool.and_eq_true, decide_eq_true_eq] at h
  have hn : n.toNat < l.length := by omega
  rw [List.getD_eq_getElem?_getD, List.getElem?_eq_getElem hn]
  exact List.getElem_mem hn
theorem Bd.put {a b c : Nat} {l : List (Bool × List Msg)} (h : Bd a b c l) (n : Int) {m : Msg} (hm : m.2.2.length ≤ c) : Bd a (b + 1) c (putL l n m) := by
  unfold putL
  split
  · rename_i ht
    have hg := getD_mem ht
    refine ⟨by rw [List.length_set]; exact h.len, fun x hx => ?_, fun x hx y hy => ?_⟩
    · rcases List.mem_or_eq_of_mem_set hx with e | rfl
      · exact Nat.le_succ_of_le (h.mail x e)
      · have := h.mail _ hg; simp at this ⊢; omega
    · rcases List.mem_or_eq_of_mem_set hx with e | rfl
      · exact h.args x e y hy
      · rcases List.mem_append.1 hy with e | e
        · exact h.args _ hg y e
        · rw [List.mem_singleton] at e; subst e; exact hm
  · exact ⟨h.len, fun x hx => Nat.le_succ_of_le (h.mail x hx), h.args⟩
theorem Bd.free {a b c : Nat} {l : List (Bool × List Msg)} (h : Bd a b c l) (n : Int) : Bd a b c (freeL l n) := by
  unfold freeL
  split
  · refine ⟨by rw [List.length_set]; exact h.len, fun x hx => ?_, fun x hx y hy => ?_⟩
    · rcases List.mem_or_eq_of_mem_set hx with e | rfl
      · exact h.mail x e
      · simp
    · rcases List.mem_or_eq_of_mem_set hx with e | rfl
      · exact h.args x e y hy
      · cases hy
  · exact h
theorem Bd.take {a b c : Nat} {l : List (Bool × List Msg)} (h : Bd a b c l) (n k : Int) : Bd a b c (takeL l n k) := by
  unfold takeL
  split
  · rename_i hh
    have ht : thereB n l.length = true := by simp only [hasM, Bool.and_eq_true] at hh; exact hh.1.1
    have hg := getD_mem ht
    refine ⟨by rw [List.length_set]; exact h.len, fun x hx => ?_, fun x hx y hy => ?_⟩
    · rcases List.mem_or_eq_of_mem_set hx with e | rfl
      · exact h.mail x e
      · exact Nat.le_trans (List.length_eraseIdx_le ..) (h.mail _ hg)
    · rcases List.mem_or_eq_of_mem_set hx with e | rfl
      · exact h.args x e y hy
      · exact h.args _ hg y (List.mem_of_mem_eraseIdx hy)
  · exact h
theorem Bd.msg {a b c : Nat} {l : List (Bool × List Msg)} (h : Bd a b c l) (n k : Int) : (takeM l n k).2.2.length ≤ c := by
  unfold takeM
  split
  · rename_i hh
    simp only [hasM, Bool.and_eq_true, decide_eq_true_eq] at hh
    have hg := getD_mem hh.1.1
    have hk : k.toNat < (l.getD n.toNat (false, [])).2.length := by omega
    refine h.args _ hg _ ?_
    rw [List.getD_eq_getElem?_getD (l := (l.getD n.toNat (false, [])).2), List.getElem?_eq_getElem hk]
    exact List.getElem_mem hk
  · simp

theorem zrI : zeroK Try.prog 3 = some [.int .i64 0] := by kernel_rfl
theorem postTells_w {H : AHeap} {v : Value} {l : List (Bool × List Int)} {f : List Nat} {n k m x1 x2 : Int} (h : Sl rawR H v l f) (hlt : ∀ y ∈ f, y < H.next) :
    FnW Try.prog 12 #[v, .int .i64 n, .int .i64 k, .int .i64 m, .agg #[.int .i64 x1, .int .i64 x2]] H (fun w _ => w = .bool true) := by
  refine fw_12 (Nat.le_refl _) fun hf => ?_
  simp only [Try.f12, Option.getD_some]
  simp only [go_sem]
  have hXn : ∀ {H' : AHeap}, Old H H' → H.fz H'.next = false := fun ho => hf.fresh ho.nx
  refine Cll.by (of_w (h.keep (H' := H.push ⟨[.int .i64 x1, .int .i64 x2], 25, false, false⟩) fun y hy => get_push_lt (hlt y hy)) (fun y hy => Nat.lt_succ_of_lt (hlt y hy))) ?_
  rintro vo Ho - ⟨holdo, fo, howo, hoo⟩
  have hso := howo.sl
  have hb0 := Bd.of l
  generalize hL : ofL l = L at hso hb0
  have hsm : Small L := hb0.small (by decide) (by decide) (by decide)
  obtain ⟨ao, co, hvo⟩ := hso.val
  have hHo : Old H Ho := (Old.push H _).trans holdo
  have hno : H.next + 1 ≤ Ho.next := holdo.nx
  have ko : ∀ {H' : AHeap}, Old Ho H' → Sl boxR H' vo L fo := fun ho => (hso.keep fun y hy => ho.get y (hoo.hi y hy)).map fun _ _ _ => boxO_R
  have kl : ∀ {H' : AHeap}, Old Ho H' → ∀ y ∈ fo, y < H'.next := fun ho y hy => Nat.lt_of_lt_of_le (hoo.hi y hy) ho.nx
  have g9 : Ho.get H.next = some ⟨[.int .i64 x1, .int .i64 x2], 25, false, false⟩ := by rw [holdo.get _ (Nat.lt_succ_self _), get_push, if_pos rfl]
  simp only [go_sem, g9]
  refine Cll.by value_w ?_
  rintro _ H1 - ⟨rfl, hold1⟩
  have g91 : H1.get H.next = some ⟨[.int .i64 x1, .int .i64 x2], 25, false, false⟩ := by rw [hold1.get _ (by omega)]; exact g9
  have bl : ∀ {H' : AHeap}, buildSliceA Try.prog 28 2 [(0, .agg #[.int .i64 x1, .int .i64 x2]), (1, .agg #[.int .i64 (valF n).1, .int .i64 (valF n).2])] H' = .ok (.slice (some ⟨H'.next, 0, none⟩) 2 2) (H'.push ⟨[.int .i64 x1, .int .i64 x2, .int .i64 (valF n).1, .int .i64 (valF n).2], 25, false, false⟩) := fun {H'} =>
    build_at ap_28 zr_25 (by decide) (by decide) rfl
  simp only [go_sem, g9, g91, bl]
  generalize hHs : (H1.push ⟨[.int .i64 x1, .int .i64 x2, .int .i64 (valF n).1, .int .i64 (valF n).2], 25, false, false⟩) = Hs
  have holds : Old Ho Hs := by rw [← hHs]; exact hold1.trans (Old.push _ _)
  have hss : Sl valR Hs (.slice (some ⟨H1.next, 0, none⟩) 2 2) [(x1, x2), valF n] [H1.next] := by
    refine .inr (.inr ⟨H1.next, 0, 2, _, [], rfl, by simp, by simp, rfl, by rw [← hHs, get_push, if_pos rfl], ?_⟩)
    exact ⟨[_, _], [_, _], [], [], rfl, rfl, valR_E.2 ⟨rfl, rfl⟩, [_, _], [], [], [], rfl, rfl, valR_E.2 ⟨rfl, rfl⟩, rfl⟩
  have hns : H1.next < Hs.next := by rw [← hHs]; exact Nat.lt_succ_self _
  refine w_for 18446743523953992704 2 (fun i V H2 => V 39 = .int .i64 (i : Nat) ∧ Old Hs H2) ⟨by simp only [go_sem]; rfl, Old.refl Hs⟩ ?_ ?_ (by rfl)
  · rintro i V H2 hi ⟨e39, hold2⟩
    have hx0 : [(x1, x2), valF n][i]? = some ([(x1, x2), valF n][i]'hi) := List.getElem?_eq_getElem hi
    generalize hx : ([(x1, x2), valF n][i]'hi) = x at hx0
    obtain ⟨b, o, c, B, g, hv, hB, hbf, _, hbl, hE⟩ := (hss.keep fun y hy => hold2.get y (by rw [List.mem_singleton] at hy; omega)).at hx0
    cases hv
    rw [Nat.zero_add] at hbl hE
    have k1 : i * 2 + 2 ≤ B.cells.length := hbl
    have k3 : (B.cells.drop (i * 2)).take 2 = [.int .i64 x.1, .int .i64 x.2] := (valR_E.1 hE).1
    have ho2 := holds.trans hold2
    have hX2 : H.fz H2.next = false := hXn (hHo.trans ho2)
    simp only [go_sem, e39, hi, hB, k1, k3, hX2, Nat.zero_add]
    have ho3 : Old Ho (H2.push ⟨[.int .i64 x.1, .int .i64 x.2], 25, false, false⟩) := ho2.trans (Old.push _ _)
    refine Cll.by (find_w (ko ho3) (kl ho3) hsm.len) ?_
    rintro _ H3 - ⟨hold3, rfl⟩
    have hn3 := hold3.nx
    have g13 : H3.get H2.next = some ⟨[.int .i64 x.1, .int .i64 x.2], 25, false, false⟩ := by rw [hold3.get _ (Nat.lt_succ_self _), get_push, if_pos rfl]
    simp only [go_sem, g13]
    refine Cll.by (rfind_w (ko (ho3.trans hold3)) (kl (ho3.trans hold3)) hsm.len) ?_
    rintro _ H4 - ⟨hold4, rfl⟩
    have n1 : ((findB L x).1 = (findB L x).1) = True := eq_self _
    have n2 : ((findB L x).2 = (findB L x).2) = True := eq_self _
    simp only [go_sem, n1, n2, e39, wrap_succ hi (by omega)]
    exact ((hold2.trans (Old.push _ _)).trans hold3).trans hold4
  · rintro V H2 ⟨e39, hold2⟩
    have ho2 := holds.trans hold2
    simp only [go_sem, e39]
    refine Cll.by (open_w (ko ho2) (kl ho2) hsm) ?_
    rintro _ H3 - ⟨hold3, va, fa, rfl, hsa, hoa⟩
    simp only [go_sem]
    refine Cll.by (ropen_w (ko (ho2.trans hold3)) (kl (ho2.trans hold3)) hsm) ?_
    rintro _ H4 - ⟨hold4, vb, fb, rfl, hsb, hob⟩
    have nl : (L.length = L.length) = True := eq_self _
    obtain ⟨aa, ca, hva⟩ := hsa.val
    obtain ⟨ab, cb, hvb⟩ := hsb.val
    subst hva
    subst hvb
    simp only [go_sem]
    refine Cll.by (sameB_w (hsa.keep fun y hy => hold4.get y (hoa.hi y hy)) hsb (fun y hy => Nat.lt_of_lt_of_le (hoa.hi y hy) hold4.nx) hob.hi (hb0.opn.small (by decide) (by decide) (by decide))) ?_
    rintro _ H5 - ⟨rfl, hold5⟩
    have ho5 := ((ho2.trans hold3).trans hold4).trans hold5
    simp only [go_sem, nl]
    refine Cll.by (within_w (by decide)) ?_
    rintro _ _ - ⟨rfl, rfl⟩
    have bi : ∀ {H' : AHeap} {a b : Int}, buildSliceA Try.prog 23 2 [(0, .int .i64 a), (1, .int .i64 b)] H' = .ok (.slice (some ⟨H'.next, 0, none⟩) 2 2) (H'.push ⟨[.int .i64 a, .int .i64 b], 3, false, false⟩) := fun {H' a b} =>
      build_at ap_23 zrI (by decide) (by decide) rfl
    have si : ∀ {H' : AHeap} {a b : Int}, Sl .int (H'.push ⟨[.int .i64 a, .int .i64 b], 3, false, false⟩) (.slice (some ⟨H'.next, 0, none⟩) 2 2) [a, b] [H'.next] := fun {H' a b} => by
      refine .inr (.inr ⟨H'.next, 0, 2, _, [], rfl, by simp, by simp, rfl, by rw [get_push, if_pos rfl], ?_⟩)
      exact ⟨[_], [_], [], [], rfl, rfl, ⟨rfl, rfl⟩, [_], [], [], [], rfl, rfl, ⟨rfl, rfl⟩, rfl⟩
    simp only [go_sem, bi]
    have hsi := si (H' := H5) (a := n) (b := wIn n 7)
    generalize hH6 : (H5.push ⟨[.int .i64 n, .int .i64 (wIn n 7)], 3, false, false⟩) = H6 at hsi
    have ho6 : Old Ho H6 := by rw [← hH6]; exact ho5.trans (Old.push _ _)
    have hn6 : H5.next < H6.next := by rw [← hH6]; exact Nat.lt_succ_self _
    refine w_for 91343852333181432387420817034946343664040805376 2 (fun i V H7 => V 88 = .int .i64 (i : Nat) ∧ Old H6 H7) ⟨by simp only [go_sem]; rfl, Old.refl H6⟩ ?_ ?_ (by rfl)
    · rintro i V7 H7 hi ⟨e88, hold7⟩
      obtain ⟨b, o, c, B, hv, hB, hbf, hc⟩ := (hsi.keep fun y hy => hold7.get y (by rw [List.mem_singleton] at hy; omega)).int_at (i := i) hi
      cases hv
      generalize hx : [n, wIn n 7].getD i 0 = x at hc
      rw [Nat.zero_add] at hc
      have ho7 := ho6.trans hold7
      simp only [go_sem, e88, hi, hB, hc, Nat.zero_add]
      refine Cll.by msg_w ?_
      rintro _ H8 - ⟨hold8, cs8, f8, rfl, hE8, ho8⟩
      have hm2 := msgF_args m
      generalize hmm : msgF m = mm at hE8 hm2
      have o8 := ho7.trans hold8
      simp only [go_sem]
      refine Cll.by (put_w (ko o8) (kl o8) hsm hE8 ho8.hi (by omega)) ?_
      rintro va9 H9 - ⟨hold9, fa9, hsa9, hoa9⟩
      have o9 := o8.trans hold9
      simp only [go_sem]
      refine Cll.by msg_w ?_
      rintro _ H10 - ⟨hold10, cs10, f10, rfl, hE10, ho10⟩
      rw [hmm] at hE10
      have o10 := o9.trans hold10
      simp only [go_sem]
      refine Cll.by (rput_w (ko o10) (kl o10) hsm hE10 ho10.hi (by omega)) ?_
      rintro vb11 H11 - ⟨hold11, fb11, hsb11, hob11⟩
      have o11 := o10.trans hold11
      have q911 := hold10.trans hold11
      simp only [go_sem]
      refine Cll.by (sameB_w (hsa9.keep fun y hy => q911.get y (hoa9.hi y hy)) hsb11 (fun y hy => Nat.lt_of_lt_of_le (hoa9.hi y hy) q911.nx) hob11.hi ((hb0.put x (m := mm) (by omega)).small (by decide) (by decide) (by decide))) ?_
      rintro _ H12 - ⟨rfl, hold12⟩
      have o12 := o11.trans hold12
      simp only [go_sem]
      refine Cll.by (free_w (ko o12) (kl o12) hsm) ?_
      rintro va13 H13 - ⟨hold13, fa13, hsa13, hoa13⟩
      have o13 := o12.trans hold13
      simp only [go_sem]
      refine Cll.by (rfree_w (ko o13) (kl o13) hsm) ?_
      rintro vb14 H14 - ⟨hold14, fb14, hsb14, hob14⟩
      have o14 := o13.trans hold14
      simp only [go_sem]
      refine Cll.by (sameB_w (hsa13.keep fun y hy => hold14.get y (hoa13.hi y hy)) hsb14 (fun y hy => Nat.lt_of_lt_of_le (hoa13.hi y hy) hold14.nx) hob14.hi ((hb0.free x).small (by decide) (by decide) (by decide))) ?_
      rintro _ H15 - ⟨rfl, hold15⟩
      have o15 := o14.trans hold15
      have q15 := (((((((hold8.trans hold9).trans hold10).trans hold11).trans hold12).trans hold13).trans hold14).trans hold15)
      simp only [go_sem]
      refine Cll.by (within_w (by decide)) ?_
      rintro _ _ - ⟨rfl, rfl⟩
      simp only [go_sem, bi]
      have hsj := si (H' := H15) (a := k) (b := wIn k 6)
      generalize hH16 : (H15.push ⟨[.int .i64 k, .int .i64 (wIn k 6)], 3, false, false⟩) = H16 at hsj
      have q16 : Old H15 H16 := by rw [← hH16]; exact Old.push _ _
      have hn16 : H15.next < H16.next := by rw [← hH16]; exact Nat.lt_succ_self _
      refine w_for 45671926165926102195972693085931940838369133568 2 (fun j V H17 => V 119 = .int .i64 (j : Nat) ∧ Old H16 H17) ⟨by simp only [go_sem]; rfl, Old.refl H16⟩ ?_ ?_ (by rfl)
      · rintro j V17 H17 hj ⟨e119, hold17⟩
        obtain ⟨b, o, c, B, hv, hB, hbf, hc⟩ := (hsj.keep fun y hy => hold17.get y (by rw [List.mem_singleton] at hy; omega)).int_at (i := j) hj
        cases hv
        generalize hy : [k, wIn k 6].getD j 0 = y at hc
        rw [Nat.zero_add] at hc
        have o17 := (o15.trans q16).trans hold17
        simp only [go_sem, e119, hj, hB, hc, Nat.zero_add]
        refine Cll.by (take_w (ko o17) (kl o17) hsm) ?_
        rintro _ H18 - ⟨hold18, vc, cs18, fc, fp, rfl, hsc, hEp, hocp⟩
        have hm18 := hb0.msg x y
        have hhas := hasM L x y
        generalize hTL : takeL L x y = TL at hsc
        generalize hTM : takeM L x y = TM at hEp hm18
        obtain ⟨v18, rfl, hs18⟩ := msgR_E.1 hEp
        obtain ⟨a18, c18, hv18⟩ := hs18.val
        subst hv18
        have o18 := o17.trans hold18
        have hX18 : H.fz H18.next = false := hXn (hHo.trans o18)
        simp only [go_sem, hX18]
        have o18' : Old Ho (H18.push ⟨[.int .i64 TM.1, .int .i64 TM.2.1, .slice a18 TM.2.2.length c18], 76, false, false⟩) := o18.trans (Old.push _ _)
        refine Cll.by (rtake_w (ko o18') (kl o18') hsm) ?_
        rintro _ H19 - ⟨hold19, vd, cs19, fd, fq, rfl, hsd, hEq, hld, hlq⟩
        rw [hTL] at hsd
        rw [hTM] at hEq
        obtain ⟨v19, rfl, hs19⟩ := msgR_E.1 hEq
        obtain ⟨a19, c19, hv19⟩ := hs19.val
        subst hv19
        have o19 := o18'.trans hold19
        have hn19 : H18.next + 1 ≤ H19.next := hold19.nx
        have hX19 : H.fz H19.next = false := hXn (hHo.trans o19)
        simp only [go_sem, hX19]
        generalize hH20 : (H19.push ⟨[.int .i64 TM.1, .int .i64 TM.2.1, .slice a19 TM.2.2.length c19], 76, false, false⟩) = H20
        have q20 : Old H19 H20 := by rw [← hH20]; exact Old.push _ _
        have q1820 : Old H18 H20 := ((Old.push H18 _).trans hold19).trans q20
        have hbc : Bd 6 5 2 TL := hTL ▸ hb0.take x y
        have hfc : ∀ z ∈ fc, z < H18.next := fun z hz => hocp.hi z (List.mem_append_left _ hz)
        have hfp : ∀ z ∈ fp, z < H18.next := fun z hz => hocp.hi z (List.mem_append_right _ hz)
        have g18 : H20.get H18.next = some ⟨[.int .i64 TM.1, .int .i64 TM.2.1, .slice a18 TM.2.2.length c18], 76, false, false⟩ := by
          rw [q20.get _ (by omega), hold19.get _ (Nat.lt_succ_self _), get_push, if_pos rfl]
        have g19 : H20.get H19.next = some ⟨[.int .i64 TM.1, .int .i64 TM.2.1, .slice a19 TM.2.2.length c19], 76, false, false⟩ := by rw [← hH20, get_push, if_pos rfl]
        have hn20 : H19.next < H20.next := by rw [← hH20]; exact Nat.lt_succ_self _
        refine Cll.by (sameB_w (hsc.keep fun z hz => q1820.get z (hfc z hz)) (hsd.keep fun z hz => q20.get z (hld z hz)) (fun z hz => Nat.lt_of_lt_of_le (hfc z hz) q1820.nx) (fun z hz => Nat.lt_of_lt_of_le (hld z hz) q20.nx) (hbc.small (by decide) (by decide) (by decide))) ?_
        rintro _ H21 - ⟨rfl, q21⟩
        have g18' : H21.get H18.next = some ⟨[.int .i64 TM.1, .int .i64 TM.2.1, .slice a18 TM.2.2.length c18], 76, false, false⟩ := by rw [q21.get _ (by omega)]; exact g18
        have g19' : H21.get H19.next = some ⟨[.int .i64 TM.1, .int .i64 TM.2.1, .slice a19 TM.2.2.length c19], 76, false, false⟩ := by rw [q21.get _ (by omega)]; exact g19
        simp only [go_sem, g18', g19']
        have q1821 := q1820.trans q21
        have q1921 := q20.trans q21
        refine Cll.by (sameM_w (cs1 := [_, _, _]) (cs2 := [_, _, _]) (m := TM) (msgR_E.2 ⟨_, rfl, hs18.keep fun z hz => q1821.get z (hfp z hz)⟩) (msgR_E.2 ⟨_, rfl, hs19.keep fun z hz => q1921.get z (hlq z hz)⟩) (fun z hz => Nat.lt_of_lt_of_le (hfp z hz) q1821.nx) (fun z hz => Nat.lt_of_lt_of_le (hlq z hz) q1921.nx) (by omega)) ?_
        rintro _ H22 - ⟨rfl, q22⟩
        have nb : (!(hasM L x y == hasM L x y)) = false := by simp
        have hws : IntKind.wrap .i64 (((j : Nat) : Int) + 1) = ((j + 1 : Nat) : Int) := wrap_succ hj (by omega)
        simp only [go_sem, g18', g19', neq_bool, nb, e119, hws]
        exact (hold17.trans hold18).trans (q1821.trans q22)
      · rintro V17 H17 ⟨e119, hold17⟩
        have hws : IntKind.wrap .i64 (((i : Nat) : Int) + 1) = ((i + 1 : Nat) : Int) := wrap_succ hi (by omega)
        simp only [go_sem, e119, e88, hws]
        exact hold7.trans ((q15.trans q16).trans hold17)
    · rintro V7 H7 ⟨e88, hold7⟩
      have o7 := ho6.trans hold7
      simp only [go_sem, e88]
      refine Cll.by (count_w (ko o7) (kl o7) hsm) ?_
      rintro _ H8 - ⟨hold8, rfl⟩
      have o8 := o7.trans hold8
      simp only [go_sem]
      refine Cll.by (rcount_w (ko o8) (kl o8) hsm) ?_
      rintro _ H9 - ⟨hold9, rfl⟩
      have nc : (countL L = countL L) = True := eq_self _
      simp only [go_sem, nc]
      refine Cll.by wakes_w ?_
      rintro _ H10 - ⟨hold10, rfl⟩
      simp only [go_sem]
end Go.Proofs.Ytgjpcliaggpcaaa.Ab
