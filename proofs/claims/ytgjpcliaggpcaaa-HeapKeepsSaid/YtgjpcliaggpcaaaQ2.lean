/- post: a new box, a message more, one less, a freed one, how many. -/
import Derived.Test.YtgjpcliaggpcaaaQ1
set_option linter.unusedVariables false
set_option linter.unusedSimpArgs false
set_option maxRecDepth 100000
namespace Go.Proofs.Ytgjpcliaggpcaaa.Ab
open Go

theorem copied_w {H : AHeap} {v : Value} {l : List (Bool × List Msg)} {f : List Nat} (h : Sl boxR H v l f) (hlt : ∀ y ∈ f, y < H.next) (hl : Small l) :
    FnW Try.prog 60 #[v] H (fun v' H' => Old H H' ∧ ∃ f', Ow boxO 81 H' v' l f' ∧ Own H.next H' f' ∧ ∀ y, H.next ≤ y → H'.fz y = false) := by
  intro hf
  exact FnW.tell ((copied_w0 h hlt hl).mono fun v' H' hkx ⟨hold, f', hs, ho⟩ => ⟨H.fz, fun b hb => hb, fun b hb => Nat.lt_of_lt_of_le (hf.fz b hb) hold.nx, ⟨⟨hold.nx, hold.get, hold.ro⟩, f', hs.keep (fun b hb => rfl), ⟨ho.nd, ho.lo, ho.hi⟩, fun y hy => hf.fresh hy⟩⟩) hf

def thereB (n : Int) (len : Nat) : Bool := decide (0 ≤ n) && decide (n < len)
theorem there_w {H : AHeap} {v : Value} {f : List Nat} {n : Int} {α : Type} {r : Rp α} {l' : List α} (h : Sl r H v l' f) : FnW Try.prog 61 #[v, .int .i64 n] H (fun r H' => r = .bool (thereB n l'.length) ∧ H = H') := by
  refine fw_61 (Nat.le_refl _) fun hf => ?_
  simp only [Try.f61, Option.getD_some]
  obtain ⟨a0, c0, hv0⟩ := h.val
  by_cases h1 : 0 ≤ n
  · simp only [go_sem, hv0, h1, thereB, Bool.true_and]
  · simp only [go_sem, hv0, h1, thereB, Bool.false_and]

theorem open_w {H : AHeap} {v : Value} {l : List (Bool × List Msg)} {f : List Nat} (h : Sl boxR H v l f) (hlt : ∀ y ∈ f, y < H.next) (hl : Small l) :
    FnW Try.prog 31 #[v] H (fun w H' => Old H H' ∧ ∃ v' f', w = .tuple #[v', .int .i64 (l.length : Nat)] ∧ Sl boxR H' v' (l ++ [(false, [])]) f' ∧ Own H.next H' f') := by
  refine fw_31 (Nat.le_refl _) fun hf => ?_
  simp only [Try.f31, Option.getD_some]
  obtain ⟨a0, c0, hv0⟩ := h.val
  have hll := hl.len
  simp only [go_sem]
  refine Cll.by (copied_w h hlt hl) ?_
  rintro v1 H1 - ⟨hold1, f1, how1, ho1, _⟩
  simp only [go_sem, build_one ap_54 (by decide) (by decide)]
  have h1 : Old H (H1.push ⟨[.bool false, .slice none 0 0], 81, false, false⟩) := hold1.trans (Old.push _ _)
  refine cps_snoc (Hb := H) (r := boxO) (x := (false, [])) (g := []) ap_54 (how1.keep fun y hy => get_push_lt (ho1.hi y hy)) h1 ⟨ho1.nd, ho1.lo, fun y hy => Nat.lt_succ_of_lt (ho1.hi y hy)⟩ ⟨by simp, by simp, by simp⟩ (by simp) (fun y hy => hf.fresh (ho1.lo y hy)) (by rw [get_push, if_pos rfl]) (boxO_E.2 ⟨_, rfl, Ow.nil _ _ _⟩) rfl (by omega) ?_
  intro v' H' f' how' ho' _ _ _ hold'
  simp only [go_sem, hv0]
  exact ⟨hold', _, f', rfl, how'.sl.map fun _ _ _ => boxO_R, ho'⟩

/-- A message more. -/
def putL (l : List (Bool × List Msg)) (n : Int) (m : Msg) : List (Bool × List Msg) := if thereB n l.length = true then l.set n.toNat ((l.getD n.toNat (false, [])).1, (l.getD n.toNat (false, [])).2 ++ [m]) else l
theorem put_w {H : AHeap} {v : Value} {l : List (Bool × List Msg)} {f fm : List Nat} {n : Int} {cs : List Value} {m : Msg} (h : Sl boxR H v l f) (hlt : ∀ y ∈ f, y < H.next) (hl : Small l) (hm : msgR.E H cs m fm) (hmlt : ∀ y ∈ fm, y < H.next) (hma : m.2.2.length < 1000000) :
    FnW Try.prog 40 #[v, .int .i64 n, .agg cs.toArray] H (fun v' H' => Old H H' ∧ ∃ f', Sl boxR H' v' (putL l n m) f' ∧ Own H.next H' f') := by
  refine fw_40 (Nat.le_refl _) fun hf => ?_
  simp only [Try.f40, Option.getD_some]
  have hll := hl.len
  obtain ⟨vm, rfl, hsm⟩ := msgR_E.1 hm
  simp only [go_sem]
  refine Cll.by (copied_w (h.keep (H' := H.push ⟨[.int .i64 m.1, .int .i64 m.2.1, vm], 76, false, false⟩) fun y hy => get_push_lt (hlt y hy)) (fun y hy => Nat.lt_succ_of_lt (hlt y hy)) hl) ?_
  rintro v1 H1 - ⟨hold1, f1, how1, ho1, _⟩
  have hn1 : H.next + 1 ≤ H1.next := hold1.nx
  have g0 : H1.get H.next = some ⟨[.int .i64 m.1, .int .i64 m.2.1, vm], 76, false, false⟩ := by rw [hold1.get _ (Nat.lt_succ_self _), get_push, if_pos rfl]
  have hold01 : Old H H1 := (Old.push H _).trans hold1
  have hlo1 : ∀ y ∈ f1, H.next + 1 ≤ y := ho1.lo
  simp only [go_sem]
  refine Cll.by (there_w how1.sl) ?_
  rintro _ _ - ⟨rfl, rfl⟩
  by_cases ht : thereB n l.length = true
  · have ht' := ht
    simp only [thereB, Bool.and_eq_true, decide_eq_true_eq] at ht'
    obtain ⟨h0, h1⟩ := ht'
    have hn : n.toNat < l.length := by omega
    obtain ⟨b, cs, g1, g2, g3, hv, hB, rfl, hbl, hE, hput⟩ := how1.put hn
    obtain ⟨v2, hrow, hs2⟩ := boxO_E.1 hE
    have hcell : cs[n.toNat * 2 + 1]? = some v2 := by
      have : ((cs.drop (n.toNat * 2)).take 2)[1]? = some v2 := by rw [show (cs.drop (n.toNat * 2)).take 2 = _ from hrow]; rfl
      rw [List.getElem?_take, if_pos (by decide), List.getElem?_drop] at this
      exact this
    have hgd : l.getD n.toNat (false, []) = l[n.toNat] := by simp [List.getD_eq_getElem?_getD, hn]
    have hx := hl.mail _ (List.getElem_mem hn)
    have hbl' : n.toNat * 2 + 2 ≤ cs.length := hbl
    have hm1 : msgR.E H1 [.int .i64 m.1, .int .i64 m.2.1, vm] m fm := msgR_E.2 ⟨vm, rfl, hsm.keep fun y hy => hold01.get y (hmlt y hy)⟩
    simp only [go_sem, ht, hv, h0, hn, hB, hcell, g0]
    refine Cll.by (message_w hm1 (fun y hy => Nat.lt_of_lt_of_le (hmlt y hy) hold01.nx) hma) ?_
    rintro _ H2 - ⟨hold2, cs2, f2, rfl, hE2, ho2⟩
    obtain ⟨vm2, rfl, hsm2⟩ := msgR_E.1 hE2
    obtain ⟨a2, c2, hv2⟩ := hsm2.val
    subst hv2
    have hbH1 : b < H1.next := ho1.hi b (by simp)
    have hB2 : H2.get b = some ⟨cs, 81, true, false⟩ := by rw [hold2.get b hbH1]; exact hB
    have g02 : H2.get H.next = H1.get H.next := hold2.get _ (by omega)
    simp only [go_sem, g02, hB2, hB, hcell, build_one ap_79 (by decide) (by decide)]
    have hn2 := hold2.nx
    have h12 : Old H (H2.push ⟨[.int .i64 m.1, .int .i64 m.2.1, .slice a2 m.2.2.length c2], 76, false, false⟩) := hold01.trans (hold2.trans (Old.push _ _))
    have hg2 : ∀ y ∈ g2, y < H1.next := fun y hy => ho1.hi y (by simp [hy])
    have hg2l : ∀ y ∈ g2, H.next ≤ y := fun y hy => Nat.le_of_succ_le (hlo1 y (by simp [hy]))
    have hnd := ho1.nd
    have hbn : b ∉ g1 ++ (g2 ++ g3) := (List.nodup_cons.1 hnd).1
    have hnd2 := (List.nodup_cons.1 hnd).2
    have hg2nd : g2.Nodup := (List.nodup_append.1 (List.nodup_append.1 hnd2).2.1).1
    refine cps_snoc (Hb := H) (r := msgR) (x := m) (g := f2) ap_79 (hs2.keep fun y hy => by rw [get_push_lt (by have := hg2 y hy; omega), hold2.get y (hg2 y hy)]) h12 ⟨hg2nd, hg2l, fun y hy => by have := hg2 y hy; rw [next_push]; omega⟩ ⟨ho2.nd, fun y hy => by have := ho2.lo y hy; omega, fun y hy => Nat.lt_succ_of_lt (ho2.hi y hy)⟩ (fun y hy hy2 => by have := hg2 y hy; have := ho2.lo y hy2; omega) (fun y hy => hf.fresh (hg2l y hy)) (by rw [get_push, if_pos rfl]) (msgR_E.2 ⟨_, rfl, hsm2.keep fun y hy => get_push_lt (ho2.hi y hy)⟩) rfl (by omega) ?_
    intro v3 H3 f3 how3 ho3 hmem3 hnx3 hkp3 hold3
    have hnx3' : H3.next = H2.next + 2 := hnx3
    have hbg2 : b ∉ g2 := fun e => hbn (by simp [e])
    have hB3 : H3.get b = some ⟨cs, 81, true, false⟩ := by rw [hkp3 b (by rw [next_push]; omega) hbg2, get_push_lt (by omega)]; exact hB2
    obtain ⟨a3, c3, hv3⟩ := how3.sl.val
    subst hv3
    have hXb : H.fz b = false := hf.fresh (Nat.le_of_succ_le (hlo1 b (by simp)))
    have hlt2 : n.toNat * 2 + 1 < cs.length := by omega
    have hlt3 : n.toNat * 2 + 1 + 1 ≤ cs.length := by omega
    simp only [go_sem, h0, hn, hB3, hXb, hlt2, hlt3]
    have hput' : putL l n m = l.set n.toNat (l[n.toNat].1, l[n.toNat].2 ++ [m]) := by rw [putL, if_pos ht, hgd]
    rw [hput', ← hv]
    have hb1 : H.next ≤ b := Nat.le_of_succ_le (hlo1 b (by simp))
    have hkeep : ∀ z, z ∈ g1 ∨ z ∈ g3 → H3.get z = H1.get z := fun z hz => by
      have hz1 : z < H1.next := ho1.hi z (by rcases hz with h | h <;> simp [h])
      have hz2 : z ∉ g2 := fun e => by
        have h2 := List.nodup_append.1 hnd2
        rcases hz with h | h
        · exact h2.2.2 z h z (by simp [e]) rfl
        · exact (List.nodup_append.1 h2.2.1).2.2 z e z h rfl
      rw [hkp3 z (by rw [next_push]; omega) hz2, get_push_lt (by omega), hold2.get z hz1]
    have hzb : ∀ z, z ∈ g1 ∨ z ∈ g3 → z ≠ b := fun z hz e => hbn (by rcases hz with h | h <;> simp [← e, h])
    have hf3b : b ∉ f3 := fun e => by
      rcases hmem3 b e with h | h | h
      · rw [next_push] at h; omega
      · exact hbg2 h
      · have := ho2.lo b h; omega
    have hsp : cs.set (n.toNat * 2 + 1) (.slice a3 (l[n.toNat].2 ++ [m]).length c3) = spliceA cs (n.toNat * boxO.sz) [.bool l[n.toNat].1, .slice a3 (l[n.toNat].2 ++ [m]).length c3] := by
      have := splice_sub (vs := [.slice a3 (l[n.toNat].2 ++ [m]).length c3]) hrow (k := 1) (Nat.le_refl 2) hbl
      rw [show n.toNat * boxO.sz + 1 = n.toNat * 2 + 1 from rfl, splice_one hlt2] at this
      rw [this]; rfl
    refine ⟨hold3.upd hb1 _, b :: (g1 ++ (f3 ++ g3)), (hput (H3.upd b ⟨cs.set (n.toNat * 2 + 1) (.slice a3 (l[n.toNat].2 ++ [m]).length c3), 81, true, false⟩) [.bool l[n.toNat].1, .slice a3 (l[n.toNat].2 ++ [m]).length c3] (l[n.toNat].1, l[n.toNat].2 ++ [m]) f3 (fun z hz => ?_) ?_ ?_).sl.map fun _ _ _ => boxO_R, ?_⟩
    · rw [get_upd, if_neg (hzb z hz)]; exact hkeep z hz
    · rw [get_upd, if_pos rfl, hsp]
    · refine boxO_E.2 ⟨_, rfl, how3.keep fun y hy => ?_⟩
      rw [get_upd, if_neg (fun e => hf3b (by rw [← e]; exact hy))]
    · have hob : Own H.next H1 ((b :: g1) ++ (g2 ++ g3)) := ⟨hnd, fun y hy => Nat.le_of_succ_le (hlo1 y hy), ho1.hi⟩
      have := hob.swap ho3 (fun y hy => by
        rcases hmem3 y hy with h | h | h
        · rw [next_push] at h; left; omega
        · exact .inr h
        · have := ho2.lo y h; left; omega) (by omega)
      exact ⟨this.nd, this.lo, this.hi⟩
  · simp only [go_sem, ht]
    simp only [putL, ht]
    exact ⟨hold01, f1, how1.sl.map fun _ _ _ => boxO_R, ⟨ho1.nd, fun y hy => Nat.le_of_succ_le (hlo1 y hy), ho1.hi⟩⟩

/-- A freed box. -/
def freeL (l : List (Bool × List Msg)) (n : Int) : List (Bool × List Msg) := if thereB n l.length = true then l.set n.toNat (true, []) else l
theorem free_w {H : AHeap} {v : Value} {l : List (Bool × List Msg)} {f : List Nat} {n : Int} (h : Sl boxR H v l f) (hlt : ∀ y ∈ f, y < H.next) (hl : Small l) :
    FnW Try.prog 33 #[v, .int .i64 n] H (fun v' H' => Old H H' ∧ ∃ f', Sl boxR H' v' (freeL l n) f' ∧ Own H.next H' f') := by
  refine fw_33 (Nat.le_refl _) fun hf => ?_
  simp only [Try.f33, Option.getD_some]
  simp only [go_sem]
  refine Cll.by (copied_w h hlt hl) ?_
  rintro v1 H1 - ⟨hold1, f1, how1, ho1, _⟩
  simp only [go_sem]
  refine Cll.by (there_w how1.sl) ?_
  rintro _ _ - ⟨rfl, rfl⟩
  by_cases ht : thereB n l.length = true
  · have ht' := ht
    simp only [thereB, Bool.and_eq_true, decide_eq_true_eq] at ht'
    obtain ⟨h0, h1⟩ := ht'
    have hn : n.toNat < l.length := by omega
    obtain ⟨b, cs, g1, g2, g3, hv, hB, rfl, hbl, hE, hput⟩ := how1.put hn
    have hbl' : n.toNat * 2 + 2 ≤ cs.length := hbl
    have hXb : H.fz b = false := hf.fresh (ho1.lo b (by simp))
    simp only [go_sem, ht, hv, h0, hn, hB, hXb, hbl']
    have hnd := List.nodup_cons.1 ho1.nd
    rw [freeL, if_pos ht, ← hv]
    have hob : Own H.next H1 ((b :: g1) ++ (g2 ++ g3)) := ⟨ho1.nd, ho1.lo, ho1.hi⟩
    have hsw := hob.swap (g := []) (H3 := H1) ⟨by simp, by simp, by simp⟩ (by simp) (Nat.le_refl _)
    refine ⟨hold1.upd (ho1.lo b (by simp)) _, b :: (g1 ++ ([] ++ g3)), (hput (H1.upd b ⟨spliceA cs (n.toNat * 2) [.bool true, .slice none 0 0], 81, true, false⟩) [.bool true, .slice none 0 0] (true, []) [] (fun z hz => ?_) (if_pos rfl) (boxO_E.2 ⟨_, rfl, Ow.nil _ _ _⟩)).sl.map fun _ _ _ => boxO_R, ⟨hsw.nd, hsw.lo, hsw.hi⟩⟩
    rw [get_upd, if_neg (fun e => hnd.1 (by rcases hz with h | h <;> simp [← e, h]))]
  · simp only [go_sem, ht]
    simp only [freeL, ht]
    exact ⟨hold1, f1, how1.sl.map fun _ _ _ => boxO_R, ho1⟩

/-- How many messages. -/
def countL (l : List (Bool × List Msg)) : Nat := (l.map (·.2.length)).sum
theorem countL_le {l : List (Bool × List Msg)} {m : Nat} (hc : ∀ x ∈ l, x.2.length < m) : countL l ≤ l.length * m := by
  induction l with
  | nil => simp [countL]
  | cons x l ih =>
    have h1 := hc x (by simp)
    have h2 := ih fun y hy => hc y (by simp [hy])
    simp only [countL, List.map_cons, List.sum_cons, List.length_cons, Nat.add_mul] at h2 ⊢
    omega
theorem count_w {H : AHeap} {v : Value} {l : List (Bool × List Msg)} {f : List Nat} (h : Sl boxR H v l f) (hlt : ∀ y ∈ f, y < H.next) (hl : Small l) :
    FnW Try.prog 42 #[v] H (fun w H' => Old H H' ∧ w = .int .i64 (countL l : Nat)) := by
  refine fw_42 (Nat.le_refl _) fun hf => ?_
  simp only [Try.f42, Option.getD_some]
  obtain ⟨a0, c0, hv0⟩ := h.val
  have hll := hl.len
  simp only [go_sem, hv0]
  refine w_for 261928 l.length (fun i V H1 => V 8 = .int .i64 (i : Nat) ∧ V 3 = .int .i64 (countL (l.take i) : Nat) ∧ Old H H1) ⟨by simp only [go_sem]; rfl, by simp only [go_sem]; rfl, Old.refl H⟩ ?_ ?_ (by rfl)
  · rintro i V H1 hi ⟨e8, e3, hold⟩
    have hx0 : l[i]? = some l[i] := List.getElem?_eq_getElem hi
    generalize hx : l[i] = x at hx0
    have hxl : x ∈ l := hx ▸ List.getElem_mem hi
    obtain ⟨b, o, c, B, gx, hv, hB, hbf, hgf, hbl, hE⟩ := (h.keep fun y hy => hold.get y (hlt y hy)).at hx0
    obtain ⟨v2, hrow, hs2⟩ := boxR_E.1 hE
    obtain ⟨a2, c2, hv2⟩ := hs2.val
    subst hv2
    rw [hv0] at hv
    cases hv
    have hbl' : o + i * 2 + 2 ≤ B.cells.length := hbl
    have hrow' : (B.cells.drop (o + i * 2)).take 2 = [.bool x.1, .slice a2 x.2.length c2] := hrow
    have hX1 : H.fz H1.next = false := hf.fresh hold.nx
    have hs1 : countL (l.take i) ≤ (l.take i).length * 1000000 := countL_le fun y hy => hl.mail y (List.mem_of_mem_take hy)
    rw [List.length_take, Nat.min_eq_left (by omega)] at hs1
    have hs2 := hl.mail x hxl
    have hw2 : IntKind.wrap .i64 (((countL (l.take i) : Nat) : Int) + ((x.2.length : Nat) : Int)) = ((countL (l.take i) + x.2.length : Nat) : Int) := wrap_add (by omega)
    simp only [go_sem, e8, e3, hi, hB, hbl', hrow', hX1, hw2, wrap_succ hi (by omega)]
    refine ⟨?_, hold.trans (Old.push _ _)⟩
    rw [take_snoc hx0]
    simp [countL]
  · rintro V H1 ⟨e8, e3, hold⟩
    simp only [go_sem, e8, e3]
    rw [List.take_of_length_le (Nat.le_refl _)]
    exact ⟨hold, rfl⟩

theorem msg_ones {H : AHeap} : ∀ {l : List Msg} {cs : List Value} {f : List Nat}, Arr msgR H cs l f → cs.length = l.length * 3 → onesK cs = true
  | [], cs, f, h, e => by
    have : cs = [] := List.length_eq_zero_iff.1 (by simpa using e)
    rw [this]; rfl
  | x :: l, cs, f, h, e => by
    obtain ⟨c, cs', f1, f2, rfl, rfl, h1, h2⟩ := h
    obtain ⟨v, rfl, hs⟩ := msgR_E.1 h1
    obtain ⟨a, c, rfl⟩ := hs.val
    simp only [List.cons_append, List.nil_append, ones_cons, one_int, one_slice, Bool.true_and]
    exact msg_ones h2 (by simp at e ⊢; omega)
theorem upd_upd {H : AHeap} {b : Nat} {B C : ABlk} : (H.upd b B).upd b C = H.upd b C := by
  unfold AHeap.upd
  congr 1
  funext x
  by_cases h : x = b <;> simp [h]
/-- slices.Delete, of one. -/
theorem delete_w {H : AHeap} {l1 l2 : List Msg} {m : Msg} {b : Nat} {c1 cm c3 : List Value} {g1 gm g3 : List Nat} (h4 : H.get b = some ⟨c1 ++ (cm ++ c3), 76, true, false⟩) (hA1 : Arr msgR H c1 l1 g1) (hm : msgR.E H cm m gm) (hA3 : Arr msgR H c3 l2 g3)
    (e1' : c1.length = l1.length * 3) (hlc3 : c3.length = l2.length * 3) (hXb : H.fz b = false) (hb1 : b ∉ g1) (hb3 : b ∉ g3) (hl : l1.length + l2.length + 1 < 1000000) :
    FnW Try.prog 67 #[.slice (some ⟨b, 0, none⟩) (l1.length + l2.length + 1) (l1.length + l2.length + 1), .int .i64 (l1.length : Nat), .int .i64 ((l1.length + 1 : Nat) : Int)] H (fun v' H' => ∃ B' f', H' = H.upd b B' ∧ B'.ro = false ∧ Sl msgR H' v' (l1 ++ l2) f' ∧ (f' = [] ∨ f' = b :: (g1 ++ g3))) := by
  refine fw_67 (Nat.le_refl _) fun hf => ?_
  simp only [Try.f67, Option.getD_some]
  have em' : cm.length = 3 := msgR.len hm
  have s1 : sliceK Try.prog 79 (.slice (some ⟨b, 0, none⟩) (l1.length + l2.length + 1) (l1.length + l2.length + 1)) (some (.int .i64 (l1.length : Nat))) (some (.int .i64 ((l1.length + 1 : Nat) : Int))) (some (.int .i64 ((l1.length + l2.length + 1 : Nat) : Int))) h0 = .ok (.slice (some ⟨b, 0, some 0⟩) 1 0) h0 := by
    have := slice_three (P := Try.prog) (t := 79) (b := b) (o := 0) (n := l1.length + l2.length + 1) (c := l1.length + l2.length + 1) (lo := l1.length) (hi := l1.length + 1) (m := l1.length + l2.length + 1) el_79 (by omega) (by omega) (Nat.le_refl _)
    rwa [Nat.add_sub_cancel_left] at this
  have s2 : sliceK Try.prog 79 (.slice (some ⟨b, 0, none⟩) (l1.length + l2.length + 1) (l1.length + l2.length + 1)) none (some (.int .i64 (l1.length : Nat))) none h0 = .ok (.slice (some ⟨b, 0, none⟩) l1.length (l1.length + l2.length + 1)) h0 :=
    slice_to el_79 (by omega)
  obtain ⟨v3, s3, hsrc⟩ : ∃ v3, sliceK Try.prog 79 (.slice (some ⟨b, 0, none⟩) (l1.length + l2.length + 1) (l1.length + l2.length + 1)) (some (.int .i64 ((l1.length + 1 : Nat) : Int))) none none h0 = .ok v3 h0 ∧ srcA 3 v3 H = some (l2.length, c3) := by
    by_cases hz : l2.length = 0
    · have : c3 = [] := List.length_eq_zero_iff.1 (by omega)
      rw [hz, this]
      exact ⟨_, slice_end el_79 (by omega), rfl⟩
    · refine ⟨_, slice_from el_79 (by omega) (Nat.le_refl _) (by omega), ?_⟩
      rw [show l1.length + l2.length + 1 - (l1.length + 1) = l2.length by omega, Nat.zero_add]
      simp only [srcA]
      rw [if_neg hz, h4]
      simp only
      rw [if_pos (by simp; omega)]
      have : (c1 ++ (cm ++ c3)).drop ((l1.length + 1) * 3) = c3 := by
        rw [← List.append_assoc, List.drop_append_of_le_length (by simp; omega), List.drop_eq_nil_of_le (by simp; omega), List.nil_append]
      rw [this, List.take_of_length_le (by omega)]
  have s4 : appendA Try.prog 79 (.slice (some ⟨b, 0, none⟩) l1.length (l1.length + l2.length + 1)) v3 H = .ok (.slice (some ⟨b, 0, none⟩) (l1.length + l2.length) (l1.length + l2.length + 1)) (H.upd b ⟨spliceA (c1 ++ (cm ++ c3)) (0 + l1.length * 3) c3, 76, true, false⟩) :=
    app_at ap_79 hsrc hlc3 h4 rfl (by simp; omega) (by omega) (by omega) (msg_ones hA3 hlc3)
  have s5 : sliceK Try.prog 79 (.slice (some ⟨b, 0, none⟩) (l1.length + l2.length) (l1.length + l2.length + 1)) (some (.int .i64 ((l1.length + l2.length : Nat) : Int))) (some (.int .i64 ((l1.length + l2.length + 1 : Nat) : Int))) none h0 = .ok (.slice (some ⟨b, (l1.length + l2.length) * 3, none⟩) 1 1) h0 := by
    have := slice_of (P := Try.prog) (t := 79) (b := b) (o := 0) (n := l1.length + l2.length) (c := l1.length + l2.length + 1) (lo := l1.length + l2.length) (hi := l1.length + l2.length + 1) el_79 (by omega) (Nat.le_refl _) (.inl (by omega))
    rwa [Nat.add_sub_cancel_left, Nat.zero_add] at this
  have hsp : spliceA (c1 ++ (cm ++ c3)) (0 + l1.length * 3) c3 = c1 ++ (c3 ++ (cm ++ c3).drop c3.length) := by
    unfold spliceA
    rw [Nat.zero_add, ← e1', List.take_left, List.drop_append, List.drop_eq_nil_of_le (by omega), List.nil_append, Nat.add_sub_cancel_left]
  have hl4 : ((cm ++ c3).drop c3.length).length = 3 := by rw [List.length_drop, List.length_append]; omega
  rw [hsp] at s4
  generalize (cm ++ c3).drop c3.length = c4 at hl4 s4
  have s6 : ∀ H1 : AHeap, H1.get b = some ⟨c1 ++ (c3 ++ c4), 76, true, false⟩ → clearA Try.prog 79 (.slice (some ⟨b, (l1.length + l2.length) * 3, none⟩) 1 1) H1 = .ok (.tuple #[]) (H1.upd b ⟨c1 ++ (c3 ++ [.int .i64 0, .int .i64 0, .slice none 0 0]), 76, true, false⟩) := fun H1 hB1 => by
    rw [clear_at (n := 1) el_79 zr_76 (by decide) (by decide) hB1 (by simp; omega) rfl rfl]
    have : spliceA (c1 ++ (c3 ++ c4)) ((l1.length + l2.length) * 3) (nCells [.int .i64 0, .int .i64 0, .slice none 0 0] 1) = c1 ++ (c3 ++ [.int .i64 0, .int .i64 0, .slice none 0 0]) := by
      have e7 : (l1.length + l2.length) * 3 = (c1 ++ c3).length := by rw [List.length_append]; omega
      have ec : c1 ++ (c3 ++ c4) = (c1 ++ c3) ++ c4 := by simp
      rw [e7, ec]
      unfold spliceA
      rw [List.take_left, List.drop_append, List.drop_eq_nil_of_le (by omega), List.nil_append]
      have e8 : (c1 ++ c3).length + (nCells [.int .i64 0, .int .i64 0, .slice none 0 0] 1).length - (c1 ++ c3).length = c4.length := by rw [Nat.add_sub_cancel_left]; exact hl4.symm
      rw [e8, List.drop_length, List.append_nil]
      show (c1 ++ c3) ++ ([.int .i64 0, .int .i64 0, .slice none 0 0] ++ []) = _
      rw [List.append_nil, List.append_assoc]
    rw [this]
  simp only [go_sem, Option.map_none, Option.map_some, s1, s2, s3, s4, s5, s6, hXb]
  rw [upd_upd]
  have hk1 : ∀ z, z ∈ g1 ∨ z ∈ g3 → ∀ B, (H.upd b B).get z = H.get z := fun z hz B => by
    rw [get_upd, if_neg]
    rintro rfl
    rcases hz with h | h
    · exact hb1 h
    · exact hb3 h
  by_cases he : l1 ++ l2 = []
  · obtain ⟨rfl, rfl⟩ := List.append_eq_nil_iff.1 he
    exact ⟨_, [], rfl, rfl, .inr (.inl ⟨_, _, rfl, rfl, rfl⟩), .inl rfl⟩
  · refine ⟨_, b :: (g1 ++ g3), rfl, rfl, .inr (.inr ⟨b, 0, _, _, g1 ++ g3, by rw [List.length_append], he, by rw [List.length_append]; omega, rfl, if_pos rfl, ?_⟩), .inr rfl⟩
    show Arr msgR _ ((c1 ++ (c3 ++ [Value.int .i64 0, Value.int .i64 0, Value.slice none 0 0])).drop 0) (l1 ++ l2) (g1 ++ g3)
    rw [List.drop_zero]
    exact Arr.join e1' (hA1.keep fun z hz => hk1 z (.inl hz) _) ((hA3.keep fun z hz => hk1 z (.inr hz) _).more _)

/-- One message less. -/
def hasM (l : List (Bool × List Msg)) (n k : Int) : Bool := thereB n l.length && decide (0 ≤ k) && decide (k < ((l.getD n.toNat (false, [])).2.length : Nat))
def takeL (l : List (Bool × List Msg)) (n k : Int) : List (Bool × List Msg) := if hasM l n k = true then l.set n.toNat ((l.getD n.toNat (false, [])).1, (l.getD n.toNat (false, [])).2.eraseIdx k.toNat) else l
def takeM (l : List (Bool × List Msg)) (n k : Int) : Msg := if hasM l n k = true then (l.getD n.toNat (false, [])).2.getD k.toNat (0, 0, []) else (0, 0, [])
theorem take_w {H : AHeap} {v : Value} {l : List (Bool × List Msg)} {f : List Nat} {n k : Int} (h : Sl boxR H v l f) (hlt : ∀ y ∈ f, y < H.next) (hl : Small l) :
    FnW Try.prog 41 #[v, .int .i64 n, .int .i64 k] H (fun w H' => Old H H' ∧ ∃ v' cs f' fm, w = .tuple #[v', .agg cs.toArray, .bool (hasM l n k)] ∧ Sl boxR H' v' (takeL l n k) f' ∧ msgR.E H' cs (takeM l n k) fm ∧ Own H.next H' (f' ++ fm)) := by
  refine fw_41 (Nat.le_refl _) fun hf => ?_
  simp only [Try.f41, Option.getD_some]
  have hX0 : H.fz H.next = false := hf.fresh (Nat.le_refl _)
  simp only [go_sem]
  refine Cll.by (copied_w (h.keep (H' := H.push ⟨[.int .i64 0, .int .i64 0, .slice none 0 0], 76, false, false⟩) fun y hy => get_push_lt (hlt y hy)) (fun y hy => Nat.lt_succ_of_lt (hlt y hy)) hl) ?_
  rintro v1 H1 - ⟨hold1, f1, how1, ho1, hz1⟩
  have hn1 : H.next + 1 ≤ H1.next := hold1.nx
  have g0 : H1.get H.next = some ⟨[.int .i64 0, .int .i64 0, .slice none 0 0], 76, false, false⟩ := by rw [hold1.get _ (Nat.lt_succ_self _), get_push, if_pos rfl]
  have hold01 : Old H H1 := (Old.push H _).trans hold1
  have hlo1 : ∀ y ∈ f1, H.next + 1 ≤ y := ho1.lo
  have hno : hasM l n k = false → (Old H (H1.upd H.next ⟨[.int .i64 0, .int .i64 0, .slice none 0 0], 76, false, false⟩) ∧ ∃ v' cs f' fm, Value.tuple #[v1, .agg #[.int .i64 0, .int .i64 0, .slice none 0 0], .bool false] = .tuple #[v', .agg cs.toArray, .bool (hasM l n k)] ∧ Sl boxR (H1.upd H.next ⟨[.int .i64 0, .int .i64 0, .slice none 0 0], 76, false, false⟩) v' (takeL l n k) f' ∧ msgR.E (H1.upd H.next ⟨[.int .i64 0, .int .i64 0, .slice none 0 0], 76, false, false⟩) cs (takeM l n k) fm ∧ Own H.next (H1.upd H.next ⟨[.int .i64 0, .int .i64 0, .slice none 0 0], 76, false, false⟩) (f' ++ fm)) := fun hh => by
    have h9 : ¬ hasM l n k = true := by rw [hh]; decide
    refine ⟨hold01.upd (Nat.le_refl _) _, v1, [.int .i64 0, .int .i64 0, .slice none 0 0], f1, [], by rw [hh], ?_, ?_, ?_⟩
    · rw [takeL, if_neg h9]
      exact (how1.keep fun y hy => by rw [get_upd, if_neg (by have := hlo1 y hy; omega)]).sl.map fun _ _ _ => boxO_R
    · rw [takeM, if_neg h9]; exact msgR_E.2 ⟨_, rfl, .inl ⟨rfl, rfl, rfl⟩⟩
    · rw [List.append_nil]; exact ⟨ho1.nd, fun y hy => Nat.le_of_succ_le (hlo1 y hy), ho1.hi⟩
  simp only [go_sem]
  refine Cll.by (there_w how1.sl) ?_
  rintro _ _ - ⟨rfl, rfl⟩
  by_cases ht : thereB n l.length = true
  · have ht' := ht
    simp only [thereB, Bool.and_eq_true, decide_eq_true_eq] at ht'
    obtain ⟨h0, h1⟩ := ht'
    have hn : n.toNat < l.length := by omega
    by_cases hk0 : k < 0
    · simp only [go_sem, ht, hk0, g0, hX0]
      exact hno (by simp [hasM, ht]; omega)
    · obtain ⟨b, cs, g1, g2, g3, hv, hB, rfl, hbl, hE, hput⟩ := Ow.putS (r := boxO) (r' := boxR) rfl (fun _ _ _ _ h => boxO_R h) how1 hn
      obtain ⟨v2, hrow, hs2⟩ := boxO_E.1 hE
      have hcell : cs[n.toNat * 2 + 1]? = some v2 := by
        have : ((cs.drop (n.toNat * 2)).take 2)[1]? = some v2 := by rw [show (cs.drop (n.toNat * 2)).take 2 = _ from hrow]; rfl
        rw [List.getElem?_take, if_pos (by decide), List.getElem?_drop] at this
        exact this
      have hgd : l.getD n.toNat (false, []) = l[n.toNat] := by simp [List.getD_eq_getElem?_getD, hn]
      obtain ⟨a2, c2, hv2⟩ := hs2.sl.val
      by_cases hkl : (((l[n.toNat].2.length : Nat) : Int) ≤ k)
      · have hh : hasM l n k = false := by simp [hasM, ht]; intro _; rw [← List.getD_eq_getElem?_getD, hgd]; omega
        simp only [go_sem, ht, hk0, hv, h0, hn, hB, hcell, hv2, hkl, g0, hX0]
        rw [← hv]
        exact hno hh
      · have hkn : k.toNat < l[n.toNat].2.length := by omega
        have hk0' : 0 ≤ k := by omega
        have hx := hl.mail _ (List.getElem_mem hn)
        obtain ⟨kn, rfl⟩ := Int.eq_ofNat_of_zero_le hk0'
        rw [Int.toNat_natCast] at hkn
        have hh : hasM l n (kn : Int) = true := by
          rw [hasM, ht, hgd, Bool.true_and, Bool.and_eq_true]
          exact ⟨by simp, by simpa using hkn⟩
        have htk : takeL l n (kn : Int) = l.set n.toNat (l[n.toNat].1, l[n.toNat].2.eraseIdx kn) := by rw [takeL, if_pos hh, hgd]; rfl
        have htm : takeM l n (kn : Int) = l[n.toNat].2[kn] := by rw [takeM, if_pos hh, hgd]; simp [List.getD_eq_getElem?_getD, hkn]
        obtain ⟨l1, m, l2, hsplit, hl1, hm1⟩ : ∃ l1 m l2, l[n.toNat].2 = l1 ++ m :: l2 ∧ l1.length = kn ∧ l[n.toNat].2[kn] = m := ⟨l[n.toNat].2.take kn, l[n.toNat].2[kn], l[n.toNat].2.drop (kn + 1), by simp, by simp; omega, rfl⟩
        have her : l[n.toNat].2.eraseIdx kn = l1 ++ l2 := by rw [hsplit, ← hl1, List.eraseIdx_append_of_length_le (Nat.le_refl _), Nat.sub_self]; rfl
        rw [htk, htm, her, hm1]
        have hlen : l[n.toNat].2.length = l1.length + l2.length + 1 := by rw [hsplit]; simp; omega
        rw [hsplit] at hs2
        rcases hs2 with ⟨_, hs2, _⟩ | ⟨b2, cs2, gg, hv2', _, rfl, hB2, hcl, hA⟩
        · simp at hs2
        obtain ⟨c1, c2', ga, gb, rfl, rfl, ec1, hA1, hA2⟩ := hA.split
        obtain ⟨cm, c3, gm, gc, rfl, rfl, hmE, hA3⟩ := hA2
        have ec1' : c1.length = l1.length * 3 := ec1
        have ecm : cm.length = 3 := msgR.len hmE
        have hcl' : (c1 ++ (cm ++ c3)).length = (l1.length + l2.length + 1) * 3 := by
          rw [← hsplit, hlen] at hcl; exact hcl
        have ec3 : c3.length = l2.length * 3 := by rw [List.length_append, List.length_append] at hcl'; omega
        rw [← hsplit, hlen] at hv2'
        subst hv2'
        have hld : kn * 3 + 3 ≤ (c1 ++ (cm ++ c3)).length := by rw [hcl']; omega
        have hrd : ((c1 ++ (cm ++ c3)).drop (kn * 3)).take 3 = cm := by
          rw [← hl1, ← ec1', List.drop_left, ← ecm, List.take_left]
        have hX1 : H.fz H1.next = false := hf.fresh (by omega)
        have hkn' : kn < l1.length + l2.length + 1 := by omega
        have hkk : ¬ (l1.length + l2.length + 1 ≤ kn) := by omega
        have hw : IntKind.wrap .i64 (((kn : Nat) : Int) + 1) = ((kn + 1 : Nat) : Int) := wrap_succ hkn' (by omega)
        have hbH1 : b < H1.next := ho1.hi b (by simp)
        have hb2H1 : b2 < H1.next := ho1.hi b2 (by simp)
        have hne1 : ¬ b = H1.next := by omega
        have hne2 : ¬ b2 = H1.next := by omega
        have hnd := List.nodup_iff_count.1 ho1.nd
        have hone : onesK cm = true := msg_ones (Arr.one hmE) (by rw [ecm]; rfl)
        simp only [go_sem, ht, hk0, hv, h0, hn, hB, hcell, hB2, hkn', hkk, hld, hrd, hX1, hw, hne1, hne2, ecm, hone]
        subst hl1
        have hca : ∀ z, List.count z (b :: (g1 ++ (b2 :: (ga ++ (gm ++ gc)) ++ g3))) ≤ 1 := hnd
        have hnin : ∀ z, z ∈ g1 ∨ z ∈ ga ∨ z ∈ gm ∨ z ∈ gc ∨ z ∈ g3 → z ≠ b ∧ z ≠ b2 := fun z hz => by
          have h1 := hca z
          simp only [List.count_cons, List.count_append] at h1
          have h2 : 0 < List.count z g1 + List.count z ga + List.count z gm + List.count z gc + List.count z g3 := by
            rcases hz with h | h | h | h | h <;> (have := List.count_pos_iff.2 h; omega)
          refine ⟨fun e => ?_, fun e => ?_⟩
          · subst e; simp at h1; omega
          · subst e; simp at h1; omega
        have hbb : b2 ≠ b := fun e => by
          have h1 := hca b
          subst e
          simp [List.count_cons, List.count_append] at h1
        have hlz : ∀ z, z ∈ g1 ∨ z ∈ ga ∨ z ∈ gm ∨ z ∈ gc ∨ z ∈ g3 → H.next + 1 ≤ z ∧ z < H1.next := fun z hz => by
          have hm : z ∈ b :: (g1 ++ (b2 :: (ga ++ (gm ++ gc)) ++ g3)) := by
            simp only [List.mem_cons, List.mem_append]
            rcases hz with h | h | h | h | h <;> simp [h]
          exact ⟨hlo1 z hm, ho1.hi z hm⟩
        have kp : ∀ z, z < H1.next → (H1.push ⟨cm, 76, false, false⟩).get z = H1.get z := fun z hz => get_push_lt hz
        have hb2l : H.next + 1 ≤ b2 := hlo1 b2 (by simp)
        have hbl1 : H.next + 1 ≤ b := hlo1 b (by simp)
        refine Cll.by (delete_w (H := H1.push ⟨cm, 76, false, false⟩) (gm := gm) (by rw [kp b2 hb2H1]; exact hB2) (hA1.keep fun z hz => kp z (hlz z (by simp [hz])).2) (msgR.keep hmE fun z hz => kp z (hlz z (by simp [hz])).2) (hA3.keep fun z hz => kp z (hlz z (by simp [hz])).2) ec1' ec3
          (by rw [fz_push, hz1 b2 (by rw [next_push]; exact hb2l)]; simp [hne2]) (fun e => (hnin b2 (by simp [e])).2 rfl) (fun e => (hnin b2 (by simp [e])).2 rfl) (by omega)) ?_
        rintro v5 _ - ⟨B5, f5, rfl, hro5, hs5, hf5⟩
        obtain ⟨a5, c5, hv5⟩ := hs5.val
        subst hv5
        obtain ⟨vA, hcm, hsA⟩ := msgR_E.1 hmE
        obtain ⟨aA, cA, hvA⟩ := hsA.val
        rw [hvA] at hcm
        have hXb : H.fz b = false := hf.fresh (by omega)
        have hbb' : ¬ b = b2 := fun e => hbb e.symm
        have hA0 : ¬ H1.next = b2 := fun e => hne2 e.symm
        have hA1' : ¬ H1.next = b := fun e => hne1 e.symm
        have hH0 : ¬ H.next = b := by omega
        have hH1 : ¬ H.next = b2 := by omega
        have hH2 : ¬ H.next = H1.next := by omega
        have hlt2 : n.toNat * 2 + 1 < cs.length := by have : n.toNat * 2 + 2 ≤ cs.length := hbl; omega
        have hlt3 : n.toNat * 2 + 1 + 1 ≤ cs.length := hlt2
        simp only [go_sem, hv, h0, hn, hB, hbb', hne1, hXb, hlt2, hlt3, hA0, hA1', hH0, hH1, hH2, g0, hX0, hcm]
        have hHn : ∀ z, H.next + 1 ≤ z → ¬ z = H.next := fun z hz => by omega
        have hget : ∀ (B1 B2 B3 : ABlk) z, z ∈ g1 ∨ z ∈ ga ∨ z ∈ gm ∨ z ∈ gc ∨ z ∈ g3 → ((((H1.push B1).upd b2 B5).upd b B2).upd H.next B3).get z = H1.get z := fun B1 B2 B3 z hz => by
          have h1 := hlz z hz
          have h2 := hnin z hz
          rw [get_upd, if_neg (hHn z h1.1), get_upd, if_neg h2.1, get_upd, if_neg h2.2, get_push_lt h1.2]
        have hb5 : ∀ z, z ∈ f5 → z = b2 ∨ z ∈ ga ∨ z ∈ gc := fun z hz => by
          rcases hf5 with e | e
          · rw [e] at hz; cases hz
          · rw [e] at hz; simpa using hz
        have hsp : cs.set (n.toNat * 2 + 1) (.slice a5 (l1 ++ l2).length c5) = spliceA cs (n.toNat * boxO.sz) [.bool l[n.toNat].1, .slice a5 (l1 ++ l2).length c5] := by
          have := splice_sub (vs := [.slice a5 (l1 ++ l2).length c5]) hrow (k := 1) (Nat.le_refl 2) hbl
          rw [show n.toNat * boxO.sz + 1 = n.toNat * 2 + 1 from rfl, splice_one hlt2] at this
          rw [this]; rfl
        refine ⟨(((hold01.trans (Old.push H1 _)).upd (by omega) _ hro5).upd (by omega) _).upd (Nat.le_refl _) _, .slice (some ⟨b, 0, none⟩) l.length l.length, [.int .i64 m.1, .int .i64 m.2.1, .slice aA m.2.2.length cA], b :: (g1 ++ (f5 ++ g3)), gm, by rw [hh], ?_, ?_, ?_⟩
        · rw [← hv]
          refine hput _ _ [.bool l[n.toNat].1, .slice a5 (l1 ++ l2).length c5] (l[n.toNat].1, l1 ++ l2) f5 (fun z hz => hget _ _ _ z (by rcases hz with h | h <;> simp [h])) (by rw [get_upd, if_neg (hHn b hbl1), get_upd, if_pos rfl]) hsp (boxR_E.2 ⟨_, rfl, hs5.keep fun z hz => ?_⟩)
          rcases hb5 z hz with e | e | e
          · rw [get_upd, if_neg (hHn z (by omega)), get_upd, if_neg (by rw [e]; exact hbb), hcm]
          · have h1 := hlz z (by simp [e]); have h2 := hnin z (by simp [e])
            rw [get_upd, if_neg (hHn z h1.1), get_upd, if_neg h2.1, hcm]
          · have h1 := hlz z (by simp [e]); have h2 := hnin z (by simp [e])
            rw [get_upd, if_neg (hHn z h1.1), get_upd, if_neg h2.1, hcm]
        · rw [hvA] at hsA
          exact msgR_E.2 ⟨_, rfl, hsA.keep fun z hz => hget _ _ _ z (by simp [hz])⟩
        · have hmem : ∀ z, z ∈ b :: (g1 ++ (f5 ++ g3)) ++ gm → z = b ∨ z = b2 ∨ (z ∈ g1 ∨ z ∈ ga ∨ z ∈ gm ∨ z ∈ gc ∨ z ∈ g3) := fun z hz => by
            simp only [List.mem_append, List.mem_cons] at hz
            rcases hz with (h | h | h | h) | h
            · exact .inl h
            · simp [h]
            · rcases hb5 z h with e | e | e <;> simp [e]
            · simp [h]
            · simp [h]
          refine ⟨List.nodup_iff_count.2 fun z => ?_, fun z hz => ?_, fun z hz => ?_⟩
          · have h1 := hca z
            rcases hf5 with e | e <;> rw [e] <;> simp only [List.cons_append, List.append_assoc, List.nil_append, List.count_cons, List.count_append] at h1 ⊢ <;> omega
          · rcases hmem z hz with e | e | e
            · omega
            · omega
            · have := (hlz z e).1; omega
          · show z < H1.next + 1
            rcases hmem z hz with e | e | e
            · omega
            · omega
            · have := (hlz z e).2; omega
  · simp only [go_sem, ht, g0, hX0]
    exact hno (by simp [hasM, ht])
end Go.Proofs.Ytgjpcliaggpcaaa.Ab
