/- A box that a value is; a message less, by columbaryref25. -/
import Derived.Test.YtgjpcliaggpcaaaS1
set_option linter.unusedVariables false
set_option linter.unusedSimpArgs false
set_option maxRecDepth 100000
namespace Go.Proofs.Ytgjpcliaggpcaaa.Ab
open Go

def findB (l : List (Bool × List Msg)) (x : Int × Int) : Int × Int :=
  if x.1 = 0 ∨ x.1 = 5 then (0, 3) else if x.1 ≠ 4 ∨ thereB x.2 l.length = false then (0, 1) else if (l.getD x.2.toNat (false, [])).1 = true then (0, 4) else (x.2, 0)
theorem findB_gone {l : List (Bool × List Msg)} {x : Int × Int} (h : x.1 = 0 ∨ x.1 = 5) : findB l x = (0, 3) := if_pos h
theorem findB_shape {l : List (Bool × List Msg)} {x : Int × Int} (h : ¬ (x.1 = 0 ∨ x.1 = 5)) (h2 : x.1 ≠ 4 ∨ thereB x.2 l.length = false) : findB l x = (0, 1) := by rw [findB, if_neg h, if_pos h2]
theorem findB_is {l : List (Bool × List Msg)} {x : Int × Int} (h : x.1 = 4) (h2 : thereB x.2 l.length = true) : findB l x = if (l.getD x.2.toNat (false, [])).1 = true then (0, 4) else (x.2, 0) := by
  rw [findB, if_neg (by omega), if_neg (by rw [h2]; simp [h])]

theorem find_w {H : AHeap} {v : Value} {l : List (Bool × List Msg)} {f : List Nat} {x : Int × Int} (h : Sl boxR H v l f) (hlt : ∀ y ∈ f, y < H.next) (hl : l.length < 1000000) :
    FnW Try.prog 32 #[v, .agg #[.int .i64 x.1, .int .i64 x.2]] H (fun w H' => Old H H' ∧ w = .tuple #[.int .i64 (findB l x).1, .int .i64 (findB l x).2]) := by
  refine fw_32 (Nat.le_refl _) fun hf => ?_
  simp only [Try.f32, Option.getD_some]
  have h1 := h.keep (H' := H.push ⟨[.int .i64 x.1, .int .i64 x.2], 25, false, false⟩) fun y hy => get_push_lt (hlt y hy)
  by_cases e0 : x.1 = 0
  · rw [findB_gone (.inl e0)]
    simp only [go_sem, e0]
    exact Old.push H _
  by_cases e5 : x.1 = 5
  · rw [findB_gone (.inr e5)]
    simp only [go_sem, e0, e5]
    exact Old.push H _
  have hne : ¬ (x.1 = 0 ∨ x.1 = 5) := by omega
  by_cases e4 : x.1 = 4
  · simp only [go_sem, e0, e5, e4]
    refine Cll.by (there_w (e4 ▸ h1)) ?_
    rintro _ _ - ⟨rfl, rfl⟩
    by_cases ht : thereB x.2 l.length = true
    · have ht' := ht
      simp only [thereB, Bool.and_eq_true, decide_eq_true_eq] at ht'
      obtain ⟨h0, h2⟩ := ht'
      have hn : x.2.toNat < l.length := by omega
      obtain ⟨b, o, c, B, g, hv, hB, hbf, _, hbl, hE⟩ := h.at (List.getElem?_eq_getElem hn)
      have hbn : ¬ b = H.next := fun e => by have := hlt b hbf; omega
      obtain ⟨w1, r1, s1⟩ := boxR_E.1 hE
      have d0 : B.cells[o + x.2.toNat * 2]? = some (.bool l[x.2.toNat].1) := cell0 r1
      have hgd : l.getD x.2.toNat (false, []) = l[x.2.toNat] := by simp [List.getD_eq_getElem?_getD, hn]
      rw [findB_is e4 ht, hgd]
      cases hb : l[x.2.toNat].1
      · simp only [go_sem, ht, hv, h0, hn, hB, hbn, d0, hb]
        exact Old.push H _
      · simp only [go_sem, ht, hv, h0, hn, hB, hbn, d0, hb]
        exact Old.push H _
    · rw [findB_shape hne (.inr (by simpa using ht))]
      simp only [go_sem, ht]
      exact Old.push H _
  · rw [findB_shape hne (.inl e4)]
    simp only [go_sem, e0, e5, e4]
    exact Old.push H _
theorem rfind_w {H : AHeap} {v : Value} {l : List (Bool × List Msg)} {f : List Nat} {x : Int × Int} (h : Sl boxR H v l f) (hlt : ∀ y ∈ f, y < H.next) (hl : l.length < 1000000) :
    FnW Try.prog 47 #[v, .agg #[.int .i64 x.1, .int .i64 x.2]] H (fun w H' => Old H H' ∧ w = .tuple #[.int .i64 (findB l x).1, .int .i64 (findB l x).2]) := by
  refine fw_47 (Nat.le_refl _) fun hf => ?_
  simp only [Try.f47, Option.getD_some]
  have h1 := h.keep (H' := H.push ⟨[.int .i64 x.1, .int .i64 x.2], 25, false, false⟩) fun y hy => get_push_lt (hlt y hy)
  obtain ⟨a0, c0, hv0⟩ := h.val
  by_cases e0 : x.1 = 0
  · rw [findB_gone (.inl e0)]
    simp only [go_sem, e0]
    exact Old.push H _
  by_cases e5 : x.1 = 5
  · rw [findB_gone (.inr e5)]
    simp only [go_sem, e0, e5]
    exact Old.push H _
  have hne : ¬ (x.1 = 0 ∨ x.1 = 5) := by omega
  by_cases e4 : x.1 = 4
  · by_cases hl0 : x.2 < 0
    · rw [findB_shape hne (.inr (by simp [thereB]; omega))]
      simp only [go_sem, e0, e5, e4, hl0]
      exact Old.push H _
    by_cases hl1 : (l.length : Nat) ≤ x.2
    · rw [findB_shape hne (.inr (by simp [thereB]; omega))]
      simp only [go_sem, e0, e5, e4, hl0, hv0, hl1]
      exact Old.push H _
    have ht : thereB x.2 l.length = true := by simp [thereB]; omega
    have h0 : 0 ≤ x.2 := by omega
    have hn : x.2.toNat < l.length := by omega
    obtain ⟨b, o, c, B, g, hv, hB, hbf, _, hbl, hE⟩ := h.at (List.getElem?_eq_getElem hn)
    have hbn : ¬ b = H.next := fun e => by have := hlt b hbf; omega
    obtain ⟨w1, r1, s1⟩ := boxR_E.1 hE
    have d0 : B.cells[o + x.2.toNat * 2]? = some (.bool l[x.2.toNat].1) := cell0 r1
    have hgd : l.getD x.2.toNat (false, []) = l[x.2.toNat] := by simp [List.getD_eq_getElem?_getD, hn]
    rw [findB_is e4 ht, hgd]
    cases hb : l[x.2.toNat].1
    · simp only [go_sem, e0, e5, e4, hl0, hl1, hv, h0, hn, hB, hbn, d0, hb]
      exact Old.push H _
    · simp only [go_sem, e0, e5, e4, hl0, hl1, hv, h0, hn, hB, hbn, d0, hb]
      exact Old.push H _
  · rw [findB_shape hne (.inl e4)]
    simp only [go_sem, e0, e5, e4]
    exact Old.push H _

/-- A message less. -/
theorem rtake_w {H : AHeap} {v : Value} {l : List (Bool × List Msg)} {f : List Nat} {n k : Int} (h : Sl boxR H v l f) (hlt : ∀ y ∈ f, y < H.next) (hl : Small l) :
    FnW Try.prog 51 #[v, .int .i64 n, .int .i64 k] H (fun w H' => Old H H' ∧ ∃ v' cs f' fm, w = .tuple #[v', .agg cs.toArray, .bool (hasM l n k)] ∧ Sl boxR H' v' (takeL l n k) f' ∧ msgR.E H' cs (takeM l n k) fm ∧ (∀ y ∈ f', y < H'.next) ∧ ∀ y ∈ fm, y < H'.next) := by
  refine fw_51 (Nat.le_refl _) fun hf => ?_
  simp only [Try.f51, Option.getD_some]
  have hX0 : H.fz H.next = false := hf.fresh (Nat.le_refl _)
  simp only [go_sem]
  refine Cll.by (rcopied_w (h.keep (H' := H.push ⟨[.int .i64 0, .int .i64 0, .slice none 0 0], 76, false, false⟩) fun y hy => get_push_lt (hlt y hy)) (fun y hy => Nat.lt_succ_of_lt (hlt y hy)) hl) ?_
  rintro v1 H1 - ⟨hold1, f1, how1, ho1, hz1⟩
  have hn1 : H.next + 1 ≤ H1.next := hold1.nx
  have g0 : H1.get H.next = some ⟨[.int .i64 0, .int .i64 0, .slice none 0 0], 76, false, false⟩ := by rw [hold1.get _ (Nat.lt_succ_self _), get_push, if_pos rfl]
  have hold01 : Old H H1 := (Old.push H _).trans hold1
  have hlo1 : ∀ y ∈ f1, H.next + 1 ≤ y := ho1.lo
  have hno : hasM l n k = false → (Old H (H1.upd H.next ⟨[.int .i64 0, .int .i64 0, .slice none 0 0], 76, false, false⟩) ∧ ∃ v' cs f' fm, Value.tuple #[v1, .agg #[.int .i64 0, .int .i64 0, .slice none 0 0], .bool false] = .tuple #[v', .agg cs.toArray, .bool (hasM l n k)] ∧ Sl boxR (H1.upd H.next ⟨[.int .i64 0, .int .i64 0, .slice none 0 0], 76, false, false⟩) v' (takeL l n k) f' ∧ msgR.E (H1.upd H.next ⟨[.int .i64 0, .int .i64 0, .slice none 0 0], 76, false, false⟩) cs (takeM l n k) fm ∧ (∀ y ∈ f', y < (H1.upd H.next ⟨[.int .i64 0, .int .i64 0, .slice none 0 0], 76, false, false⟩).next) ∧ ∀ y ∈ fm, y < (H1.upd H.next ⟨[.int .i64 0, .int .i64 0, .slice none 0 0], 76, false, false⟩).next) := fun hh => by
    have h9 : ¬ hasM l n k = true := by rw [hh]; decide
    refine ⟨hold01.upd (Nat.le_refl _) _, v1, [.int .i64 0, .int .i64 0, .slice none 0 0], f1, [], by rw [hh], ?_, ?_, ho1.hi, by simp⟩
    · rw [takeL, if_neg h9]
      exact (how1.keep fun y hy => by rw [get_upd, if_neg (by have := hlo1 y hy; omega)]).sl.map fun _ _ _ => boxO_R
    · rw [takeM, if_neg h9]; exact msgR_E.2 ⟨_, rfl, .inl ⟨rfl, rfl, rfl⟩⟩
  obtain ⟨a0, c0, hv0⟩ := h.val
  simp only [go_sem]
  by_cases hl0 : n < 0
  · simp only [go_sem, hl0, g0, hX0]
    exact hno (by have : thereB n l.length = false := by simp [thereB]; omega
                  simp [hasM, this])
  by_cases hl1 : (l.length : Nat) ≤ n
  · simp only [go_sem, hl0, hv0, hl1, g0, hX0]
    exact hno (by have : thereB n l.length = false := by simp [thereB]; omega
                  simp [hasM, this])
  have ht : thereB n l.length = true := by simp [thereB]; omega
  have h0 : 0 ≤ n := by omega
  have hn : n.toNat < l.length := by omega
  by_cases hk0 : k < 0
  · simp only [go_sem, hl0, hv0, hl1, hk0, g0, hX0]
    exact hno (by simp [hasM, ht]; omega)
  have hgd : l.getD n.toNat (false, []) = l[n.toNat] := by simp [List.getD_eq_getElem?_getD, hn]
  obtain ⟨b0, o0, c0', B0, g0', hv0', hB0, hbf0, _, hbl0, hE0⟩ := h.at (List.getElem?_eq_getElem hn)
  obtain ⟨w1, r1, s1⟩ := boxR_E.1 hE0
  obtain ⟨p1, q1, hw1⟩ := s1.val
  subst hw1
  have d1 : B0.cells[o0 + n.toNat * 2 + 1]? = some (.slice p1 l[n.toNat].2.length q1) := cell1 r1
  have hB0' : H1.get b0 = some B0 := by rw [hold01.get b0 (hlt b0 hbf0)]; exact hB0
  rw [hv0] at hv0'
  cases hv0'
  by_cases hkl : (((l[n.toNat].2.length : Nat) : Int) ≤ k)
  · have hh : hasM l n k = false := by simp [hasM, ht]; intro _; rw [← List.getD_eq_getElem?_getD, hgd]; omega
    simp only [go_sem, hl0, hv0, hl1, hk0, h0, hn, hB0', d1, hkl, g0, hX0]
    exact hno hh
  obtain ⟨b, cs, g1, g2, g3, hv, hB, rfl, hbl, hE, hput⟩ := Ow.putS (r := boxO) (r' := boxR) rfl (fun _ _ _ _ h => boxO_R h) how1 hn
  obtain ⟨v2, hrow, hs2⟩ := boxO_E.1 hE
  have hcell : cs[n.toNat * 2 + 1]? = some v2 := by
    have : ((cs.drop (n.toNat * 2)).take 2)[1]? = some v2 := by rw [show (cs.drop (n.toNat * 2)).take 2 = _ from hrow]; rfl
    rw [List.getElem?_take, if_pos (by decide), List.getElem?_drop] at this
    exact this
  have hkn : k.toNat < l[n.toNat].2.length := by omega
  have hk0' : 0 ≤ k := by omega
  have hx := hl.mail _ (List.getElem_mem hn)
  obtain ⟨kn, rfl⟩ := Int.eq_ofNat_of_zero_le hk0'
  rw [Int.toNat_natCast] at hkn
  have hh : hasM l n (kn : Int) = true := by
    rw [hasM, ht, hgd, Bool.true_and, Bool.and_eq_true]
    exact ⟨by simp, by simpa using hkn⟩
  have htk : takeL l n (kn : Int) = l.set n.toNat (l[n.toNat].1, l[n.toNat].2.eraseIdx kn) := by rw [takeL, if_pos hh, hgd]; rfl
  have htm : takeM l n (kn : Int) = l[n.toNat].2[kn] := by rw [takeM, if_pos hh, hgd]; simp [List.getD_eq_getElem?_getD, hkn]
  obtain ⟨l1, m, l2, hsplit, hl1', hm1⟩ : ∃ l1 m l2, l[n.toNat].2 = l1 ++ m :: l2 ∧ l1.length = kn ∧ l[n.toNat].2[kn] = m := ⟨l[n.toNat].2.take kn, l[n.toNat].2[kn], l[n.toNat].2.drop (kn + 1), by simp, by simp; omega, rfl⟩
  have her : l[n.toNat].2.eraseIdx kn = l1 ++ l2 := by rw [hsplit, ← hl1', List.eraseIdx_append_of_length_le (Nat.le_refl _), Nat.sub_self]; rfl
  rw [htk, htm, her, hm1]
  have hlen : l[n.toNat].2.length = l1.length + l2.length + 1 := by rw [hsplit]; simp; omega
  rw [hsplit] at hs2
  rcases hs2 with ⟨_, hs2, _⟩ | ⟨b2, cs2, gg, hv2', _, rfl, hB2, hcl, hA⟩
  · simp at hs2
  obtain ⟨c1, c2', ga, gb, rfl, rfl, ec1, hA1, hA2⟩ := hA.split
  obtain ⟨cm, c3, gm, gc, rfl, rfl, hmE, hA3⟩ := hA2
  have ec1' : c1.length = l1.length * 3 := ec1
  have ecm : cm.length = 3 := msgR.len hmE
  have hcl' : (c1 ++ (cm ++ c3)).length = (l1.length + l2.length + 1) * 3 := by
    rw [← hsplit, hlen] at hcl; exact hcl
  have ec3 : c3.length = l2.length * 3 := by rw [List.length_append, List.length_append] at hcl'; omega
  rw [← hsplit, hlen] at hv2'
  subst hv2'
  have hld : kn * 3 + 3 ≤ (c1 ++ (cm ++ c3)).length := by rw [hcl']; omega
  have hrd : ((c1 ++ (cm ++ c3)).drop (kn * 3)).take 3 = cm := by
    rw [← hl1', ← ec1', List.drop_left, ← ecm, List.take_left]
  have hX1 : H.fz H1.next = false := hf.fresh (by omega)
  have hkn' : kn < l1.length + l2.length + 1 := by omega
  have hw : IntKind.wrap .i64 (((kn : Nat) : Int) + 1) = ((kn + 1 : Nat) : Int) := wrap_succ hkn' (by omega)
  have hbH1 : b < H1.next := ho1.hi b (by simp)
  have hb2H1 : b2 < H1.next := ho1.hi b2 (by simp)
  have hne1 : ¬ b = H1.next := by omega
  have hne2 : ¬ b2 = H1.next := by omega
  have hone : onesK cm = true := msg_ones (Arr.one hmE) (by rw [ecm]; rfl)
  obtain ⟨vA, hcm, hsA⟩ := msgR_E.1 hmE
  obtain ⟨aA, cA, hvA⟩ := hsA.val
  subst hvA
  have s2 : sliceK Try.prog 79 (.slice (some ⟨b2, 0, none⟩) (l1.length + l2.length + 1) (l1.length + l2.length + 1)) none (some (.int .i64 (kn : Nat))) none Ab.h0 = .ok (.slice (some ⟨b2, 0, none⟩) kn (l1.length + l2.length + 1)) Ab.h0 :=
    slice_to el_79 (by omega)
  have hkll : ¬ ((l1.length + l2.length + 1 : Nat) : Int) ≤ (kn : Nat) := by omega
  rw [hlen] at d1
  simp only [go_sem, hl0, hv0, hl1, hk0, h0, hn, hB0', d1, hkll, hv, hB, hcell, hB2, hkn', hld, hrd, hX1, hone, ecm, s2, Option.map_none, Option.map_some, hne1, hne2]
  have hHm : Old H (H1.push ⟨cm, 76, false, false⟩) := hold01.trans (Old.push _ _)
  have hnd := List.nodup_iff_count.1 ho1.nd
  have hca : ∀ z, List.count z (b :: (g1 ++ (b2 :: (ga ++ (gm ++ gc)) ++ g3))) ≤ 1 := hnd
  have hnin : ∀ z, z ∈ g1 ∨ z ∈ ga ∨ z ∈ gm ∨ z ∈ gc ∨ z ∈ g3 → z ≠ b ∧ z ≠ b2 := fun z hz => by
    have h1 := hca z
    simp only [List.count_cons, List.count_append] at h1
    have h2 : 0 < List.count z g1 + List.count z ga + List.count z gm + List.count z gc + List.count z g3 := by
      rcases hz with h | h | h | h | h <;> (have := List.count_pos_iff.2 h; omega)
    refine ⟨fun e => ?_, fun e => ?_⟩
    · subst e; simp at h1; omega
    · subst e; simp at h1; omega
  have hbb : b2 ≠ b := fun e => by
    have h1 := hca b
    subst e
    simp [List.count_cons, List.count_append] at h1
  have hlz : ∀ z, z ∈ g1 ∨ z ∈ ga ∨ z ∈ gm ∨ z ∈ gc ∨ z ∈ g3 → H.next + 1 ≤ z ∧ z < H1.next := fun z hz => by
    have hm : z ∈ b :: (g1 ++ (b2 :: (ga ++ (gm ++ gc)) ++ g3)) := by
      simp only [List.mem_cons, List.mem_append]
      rcases hz with h | h | h | h | h <;> simp [h]
    exact ⟨hlo1 z hm, ho1.hi z hm⟩
  have hsub : ∀ z, List.count z ga + List.count z gc ≤ 1 := fun z => by
    have h1 := hca z
    simp only [List.count_cons, List.count_append] at h1
    omega
  have kp : ∀ z, z < H1.next → (H1.push ⟨cm, 76, false, false⟩).get z = H1.get z := fun z hz => get_push_lt hz
  have hga : Own H.next (H1.push ⟨cm, 76, false, false⟩) ga := ⟨List.nodup_iff_count.2 fun z => by have := hsub z; omega, fun z hz => by have := (hlz z (by simp [hz])).1; omega, fun z hz => by have := (hlz z (by simp [hz])).2; rw [next_push]; omega⟩
  have src1 : srcA 3 (.slice (some ⟨b2, 0, none⟩) kn (l1.length + l2.length + 1)) (H1.push ⟨cm, 76, false, false⟩) = some (l1.length, c1) := by
    simp only [srcA]
    by_cases hk : kn = 0
    · rw [if_pos hk]
      have : c1 = [] := List.length_eq_zero_iff.1 (by rw [ec1', hl1', hk])
      rw [this, hl1', hk]
    · rw [if_neg hk, kp b2 hb2H1, hB2]
      simp only
      rw [if_pos (by rw [hcl']; omega), hl1', List.drop_zero, ← hl1', ← ec1', List.take_left]
  refine cps_more (Hb := H) (r := msgR) (m := l1) (g := ga) (new := c1) ap_79 (Ow.nil msgR 76 _) hHm ⟨by simp, by simp, by simp⟩ hga (by simp) (by simp) src1 ec1 (msg_ones hA1 ec1') (hA1.keep fun z hz => kp z (hlz z (by simp [hz])).2) (by simp; omega) ?_
  intro v3 H3 f3 how3 ho3 hmem3 hnx3 hnx3' hkp3 hold3
  rw [List.nil_append] at how3
  rw [next_push] at hnx3 hnx3'
  have kp3 : ∀ z, z < H1.next → H3.get z = H1.get z := fun z hz => by rw [hkp3 z (by rw [next_push]; omega) (by simp), kp z hz]
  have hB3 : H3.get b = some ⟨cs, 81, true, false⟩ := by rw [kp3 b hbH1]; exact hB
  have hB23 : H3.get b2 = some ⟨c1 ++ (cm ++ c3), 76, true, false⟩ := by rw [kp3 b2 hb2H1]; exact hB2
  obtain ⟨v4, s3, src2⟩ : ∃ v4, sliceK Try.prog 79 (.slice (some ⟨b2, 0, none⟩) (l1.length + l2.length + 1) (l1.length + l2.length + 1)) (some (.int .i64 ((kn + 1 : Nat) : Int))) none none Ab.h0 = .ok v4 Ab.h0 ∧ srcA 3 v4 H3 = some (l2.length, c3) := by
    by_cases hz : l2.length = 0
    · have : c3 = [] := List.length_eq_zero_iff.1 (by omega)
      have hke : kn + 1 = l1.length + l2.length + 1 := by omega
      rw [hz, this, hke]
      exact ⟨_, by rw [hz]; exact slice_end el_79 (by omega), rfl⟩
    · refine ⟨_, slice_from el_79 (by omega) (Nat.le_refl _) (by omega), ?_⟩
      rw [show l1.length + l2.length + 1 - (kn + 1) = l2.length by omega, Nat.zero_add]
      simp only [srcA]
      rw [if_neg hz, hB23]
      simp only
      rw [if_pos (by rw [hcl']; omega)]
      have : (c1 ++ (cm ++ c3)).drop ((kn + 1) * 3) = c3 := by
        rw [← List.append_assoc, show (kn + 1) * 3 = (c1 ++ cm).length from by rw [List.length_append, ec1', ecm]; omega, List.drop_left]
      rw [this, List.take_of_length_le (by omega)]
  obtain ⟨a3, c3', hv3⟩ := how3.sl.val
  subst hv3
  simp only [go_sem, hv, h0, hn, hB3, hne1, hB, hcell, hw, s3, Option.map_none, Option.map_some]
  have hgc : Own H.next H3 gc := ⟨List.nodup_iff_count.2 fun z => by have := hsub z; omega, fun z hz => by have := (hlz z (by simp [hz])).1; omega, fun z hz => by have := (hlz z (by simp [hz])).2; omega⟩
  refine cps_more (Hb := H) (r := msgR) (m := l2) (g := gc) (new := c3) ap_79 how3 hold3 ho3 hgc (fun z hz hz2 => ?_) (fun z hz => hf.fresh (ho3.lo z hz)) src2 ec3 (msg_ones hA3 ec3) (hA3.keep fun z hz => kp3 z (hlz z (by simp [hz])).2) (by omega) ?_
  · have h2 := (hlz z (by simp [hz2])).2
    rcases hmem3 z hz with e | e | e
    · rw [next_push] at e; omega
    · cases e
    · have h3 := hsub z
      have := List.count_pos_iff.2 e
      have := List.count_pos_iff.2 hz2
      omega
  intro v5 H5 f5 how5 ho5 hmem5 hnx5 hnx5' hkp5 hold5
  have hf3 : ∀ z, z ∈ f3 → z = H1.next + 1 ∨ z ∈ ga := fun z hz => by
    rcases hmem3 z hz with e | e | e
    · exact .inl e
    · cases e
    · exact .inr e
  have kp5 : ∀ z, z < H1.next → z ∉ ga → H5.get z = H1.get z := fun z hz hn => by
    rw [hkp5 z (by omega) (fun e => ?_), kp3 z hz]
    rcases hf3 z e with e | e
    · omega
    · exact hn e
  have hB5 : H5.get b = some ⟨cs, 81, true, false⟩ := by rw [kp5 b hbH1 (fun e => (hnin b (by simp [e])).1 rfl)]; exact hB
  have hT5 : H5.get H1.next = some ⟨cm, 76, false, false⟩ := by
    rw [hkp5 _ (by omega) (fun e => ?_), hkp3 _ (by rw [next_push]; omega) (by simp), get_push, if_pos rfl]
    rcases hf3 _ e with e | e
    · omega
    · have := (hlz _ (.inr (.inl e))).2; omega
  have h05 : H5.get H.next = some ⟨[.int .i64 0, .int .i64 0, .slice none 0 0], 76, false, false⟩ := by
    rw [kp5 _ (by omega) (fun e => by have := (hlz _ (.inr (.inl e))).1; omega)]; exact g0
  obtain ⟨a5, c5, hv5⟩ := how5.sl.val
  subst hv5
  have hXb : H.fz b = false := hf.fresh (Nat.le_of_succ_le (hlo1 b (by simp)))
  have hlt2 : n.toNat * 2 + 1 < cs.length := by have : n.toNat * 2 + 2 ≤ cs.length := hbl; omega
  have hlt3 : n.toNat * 2 + 1 + 1 ≤ cs.length := hlt2
  have hA1' : ¬ H1.next = b := fun e => hne1 e.symm
  have hH0 : ¬ H.next = b := by have := hlo1 b (by simp); omega
  rw [hcm] at hT5
  simp only [go_sem, hv, h0, hn, hB5, hXb, hlt2, hlt3, hA1', hH0, hT5, h05, hX0]
  have hbl1 : H.next + 1 ≤ b := hlo1 b (by simp)
  have hsp : cs.set (n.toNat * 2 + 1) (.slice a5 (l1 ++ l2).length c5) = spliceA cs (n.toNat * boxO.sz) [.bool l[n.toNat].1, .slice a5 (l1 ++ l2).length c5] := by
    have := splice_sub (vs := [.slice a5 (l1 ++ l2).length c5]) hrow (k := 1) (Nat.le_refl 2) hbl
    rw [show n.toNat * boxO.sz + 1 = n.toNat * 2 + 1 from rfl, splice_one hlt2] at this
    rw [this]; rfl
  have hf5 : ∀ z, z ∈ f5 → z = H3.next ∨ z = H1.next + 1 ∨ z ∈ ga ∨ z ∈ gc := fun z hz => by
    rcases hmem5 z hz with e | e | e
    · exact .inl e
    · rcases hf3 z e with e | e
      · exact .inr (.inl e)
      · exact .inr (.inr (.inl e))
    · exact .inr (.inr (.inr e))
  have hf5b : b ∉ f5 := fun e => by
    rcases hf5 b e with h | h | h | h
    · omega
    · omega
    · exact (hnin b (by simp [h])).1 rfl
    · exact (hnin b (by simp [h])).1 rfl
  have hf50 : H.next ∉ f5 := fun e => by
    rcases hf5 _ e with h | h | h | h
    · omega
    · omega
    · have := (hlz _ (.inr (.inl h))).1; omega
    · have := (hlz _ (.inr (.inr (.inr (.inl h))))).1; omega
  have hgets : ∀ (B2 B3 : ABlk) z, z ∈ g1 ∨ z ∈ g3 ∨ z ∈ gm → ((H5.upd b B2).upd H.next B3).get z = H1.get z := fun B2 B3 z hz => by
    have h1 := hlz z (by rcases hz with h | h | h <;> simp [h])
    have h2 := hnin z (by rcases hz with h | h | h <;> simp [h])
    rw [get_upd, if_neg (by omega), get_upd, if_neg h2.1, kp5 z h1.2]
    intro e
    have h3 := hca z
    simp only [List.count_cons, List.count_append] at h3
    have := List.count_pos_iff.2 e
    rcases hz with h | h | h <;> (have := List.count_pos_iff.2 h; omega)
  refine ⟨(hold5.upd (by omega) _).upd (Nat.le_refl _) _, .slice (some ⟨b, 0, none⟩) l.length l.length, [.int .i64 m.1, .int .i64 m.2.1, .slice aA m.2.2.length cA], b :: (g1 ++ (f5 ++ g3)), gm, by rw [hh], ?_, ?_, fun z hz => ?_, fun z hz => ?_⟩
  · rw [← hv]
    refine hput _ _ [.bool l[n.toNat].1, .slice a5 (l1 ++ l2).length c5] (l[n.toNat].1, l1 ++ l2) f5 (fun z hz => hgets _ _ z (by rcases hz with h | h <;> simp [h])) (by rw [get_upd, if_neg (by omega), get_upd, if_pos rfl]) hsp (boxR_E.2 ⟨_, rfl, how5.sl.keep fun z hz => ?_⟩)
    rw [get_upd, if_neg (fun e => hf50 (by rw [← e]; exact hz)), get_upd, if_neg (fun e => hf5b (by rw [← e]; exact hz))]
  · exact msgR_E.2 ⟨_, rfl, hsA.keep fun z hz => hgets _ _ z (by simp [hz])⟩
  · show z < H5.next
    simp only [List.mem_cons, List.mem_append] at hz
    rcases hz with h | h | h | h
    · omega
    · have := (hlz z (by simp [h])).2; omega
    · exact ho5.hi z h
    · have := (hlz z (by simp [h])).2; omega
  · show z < H5.next
    have := (hlz z (by simp [hz])).2; omega
end Go.Proofs.Ytgjpcliaggpcaaa.Ab
