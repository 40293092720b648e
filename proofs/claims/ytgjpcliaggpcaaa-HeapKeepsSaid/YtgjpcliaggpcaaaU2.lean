/- The law HeapKeeps. -/
import Derived.Test.YtgjpcliaggpcaaaU1
set_option linter.unusedVariables false
set_option linter.unusedSimpArgs false
set_option maxRecDepth 100000
namespace Go.Proofs.Ytgjpcliaggpcaaa.Ab
open Go

def valH (n : Int) : Int × Int := (wIn n 7, wIn (IntKind.wrap .i64 (Int.tdiv n 7)) 9 - 1)
theorem hvalue_w {H : AHeap} {n : Int} : FnW Try.prog 15 #[.int .i64 n] H (fun r H' => r = .agg #[.int .i64 (valH n).1, .int .i64 (valH n).2] ∧ Old H H') := by
  refine fw_15 (Nat.le_refl _) fun hf => ?_
  simp only [Try.f15, Option.getD_some]
  simp only [go_sem]
  refine Cll.by (within_w (by decide)) ?_
  rintro _ _ - ⟨rfl, rfl⟩
  have h7 : (7 : Int) ≠ 0 := by decide
  simp only [go_sem, h7]
  refine Cll.by (within_w (by decide)) ?_
  rintro _ _ - ⟨rfl, rfl⟩
  have hb := wIn_bd (IntKind.wrap .i64 (Int.tdiv n 7)) 9 (by decide)
  have hw := wrap_in (n := wIn (IntKind.wrap .i64 (Int.tdiv n 7)) 9 - 1) (by omega) (by omega)
  have hX : H.fz H.next = false := hf.fresh (Nat.le_refl _)
  simp only [go_sem, hw, hX]
  exact ⟨rfl, Old.push H _⟩

abbrev rawO : Rp (Int × List Int) := .pair .int (.slice .int)
theorem rawO_E {H : AHeap} {cs : List Value} {x : Int × List Int} {f : List Nat} : rawO.E H cs x f ↔ ∃ v, cs = [.int .i64 x.1, v] ∧ Sl .int H v x.2 f := by
  constructor
  · rintro ⟨c1, c2, f1, f2, rfl, rfl, ⟨rfl, rfl⟩, ⟨v, rfl, h⟩⟩; exact ⟨v, rfl, h⟩
  · rintro ⟨v, rfl, h⟩; exact ⟨[_], [v], [], f, rfl, rfl, ⟨rfl, rfl⟩, ⟨v, rfl, h⟩⟩
theorem copyo_w {H : AHeap} {v : Value} {l : List (Int × List Int)} {f : List Nat} (h : Sl rawO H v l f) (hlt : ∀ y ∈ f, y < H.next) (hl : l.length < 1000000) :
    FnW Try.prog 70 #[v] H (fun v' H' => Old H H' ∧ ∃ f', Sl rawO H' v' l f' ∧ ∀ y ∈ f', y < H'.next) := by
  refine fw_70 (Nat.le_refl _) fun hf => ?_
  simp only [Try.f70, Option.getD_some]
  simp only [go_sem]
  refine app_all (r := rawO) ap_22 h hlt (by omega) ?_
  intro v' H' f' h1 h2 _ h3 _
  simp only [go_sem]
  exact ⟨h2, f', h1, h3⟩
theorem cuto_w {H : AHeap} {v : Value} {l : List (Int × List Int)} {f : List Nat} {n : Nat} (h : Sl rawO H v l f) (hlt : ∀ y ∈ f, y < H.next) (hn : n < 100000) :
    FnW Try.prog 53 #[v, .int .i64 (n : Nat)] H (fun v' H' => Old H H' ∧ ∃ f', Sl rawO H' v' (l.take n) f' ∧ ∀ y ∈ f', y < H'.next) := by
  refine fw_53 (Nat.le_refl _) fun hf => ?_
  simp only [Try.f53, Option.getD_some]
  obtain ⟨a0, c0, hv0⟩ := h.val
  obtain ⟨v1, g, e1, e2, e3⟩ := h.to (P := Try.prog) (t := 22) (k := min l.length n) (by exact el_22) (Nat.min_le_left _ _)
  subst hv0
  simp only [go_sem, Option.map_none, Option.map_some, e1]
  have et : l.take (min l.length n) = l.take n := by
    rcases Nat.le_total l.length n with h | h
    · rw [Nat.min_eq_left h, List.take_length, List.take_of_length_le h]
    · rw [Nat.min_eq_right h]
  rw [et] at e2
  refine Cll.by (copyo_w e2 (fun y hy => hlt y (e3 y hy)) (by simp; omega)) ?_
  rintro v2 H2 - ⟨hold, f2, hs, ho⟩
  simp only [go_sem]
  exact ⟨hold, f2, hs, ho⟩


theorem sameO_w {H : AHeap} {v1 v2 : Value} {l : ObL} {f1 f2 : List Nat} (h1 : Sl objR H v1 l f1) (h2 : Sl objR H v2 l f2) (hl : l.length < 1000000) (hc : ∀ x ∈ l, x.2.length < 1000000) :
    FnW Try.prog 18 #[v1, v2] H (fun w H' => w = .bool true ∧ H = H') := by
  refine fw_18 (Nat.le_refl _) fun hf => ?_
  simp only [Try.f18, Option.getD_some]
  obtain ⟨a1, c1, hv1⟩ := h1.val
  obtain ⟨a2, c2, hv2⟩ := h2.val
  have nl : (l.length = l.length) = True := eq_self _
  simp only [go_sem, hv1, hv2, nl]
  refine w_for 4398046502960 l.length (fun i V H1 => V 13 = .int .i64 (i : Nat) ∧ H = H1) ⟨by simp only [go_sem]; rfl, rfl⟩ ?_ ?_ (by rfl)
  · rintro i V H1 hi ⟨e13, rfl⟩
    have hx0 : l[i]? = some l[i] := List.getElem?_eq_getElem hi
    generalize hx : l[i] = x at hx0
    have hxl : x ∈ l := hx ▸ List.getElem_mem hi
    obtain ⟨b, o, c, B, g, hv, hB, hbf, hgf, hbl, hE⟩ := h1.at hx0
    obtain ⟨b', o', c', B', g', hv', hB', hbf', hgf', hbl', hE'⟩ := h2.at hx0
    rw [hv1] at hv
    cases hv
    rw [hv2] at hv'
    cases hv'
    obtain ⟨w1, r1, s1⟩ := objR_E.1 hE
    obtain ⟨w2, r2, s2⟩ := objR_E.1 hE'
    obtain ⟨p1, q1, hw1⟩ := s1.val
    obtain ⟨p2, q2, hw2⟩ := s2.val
    subst hw1
    subst hw2
    have d0 : B.cells[o + i * 2]? = some (.int .i64 x.1) := cell0 r1
    have d1 : B.cells[o + i * 2 + 1]? = some (.slice p1 x.2.length q1) := cell1 r1
    have d0' : B'.cells[o' + i * 2]? = some (.int .i64 x.1) := cell0 r2
    have d1' : B'.cells[o' + i * 2 + 1]? = some (.slice p2 x.2.length q2) := cell1 r2
    have nm : (x.1 = x.1) = True := eq_self _
    simp only [go_sem, e13, hi, hB, hB', d0, d1, d0', d1', nm]
    refine Cll.by (sameV_w s1 s2 (hc x hxl)) ?_
    rintro _ _ - ⟨rfl, rfl⟩
    simp only [go_sem, e13, wrap_succ hi (by omega)]
  · rintro V H1 ⟨e13, rfl⟩
    simp only [go_sem, e13]

abbrev objO : Rp (Int × List (Int × Int)) := .pair .int (.own valR 25)
theorem objO_E {H : AHeap} {cs : List Value} {x : Int × List (Int × Int)} {f : List Nat} : objO.E H cs x f ↔ ∃ v, cs = [.int .i64 x.1, v] ∧ Ow valR 25 H v x.2 f := by
  constructor
  · rintro ⟨c1, c2, f1, f2, rfl, rfl, ⟨rfl, rfl⟩, ⟨v, rfl, h⟩⟩; exact ⟨v, rfl, h⟩
  · rintro ⟨v, rfl, h⟩; exact ⟨[_], [v], [], f, rfl, rfl, ⟨rfl, rfl⟩, ⟨v, rfl, h⟩⟩
theorem objO_R {H : AHeap} {cs : List Value} {x : Int × List (Int × Int)} {f : List Nat} (h : objO.E H cs x f) : objR.E H cs x f := by
  obtain ⟨v, h1, h2⟩ := objO_E.1 h
  exact objR_E.2 ⟨v, h1, h2.sl⟩
/-- Objects of raw ones. -/
def ofO (l : List (Int × List Int)) : ObL := (l.take 6).map fun x => (wIn x.1 4 - 1, (x.2.take 6).map valH)
theorem ofO_bd (l : List (Int × List Int)) : (ofO l).length ≤ 6 ∧ ∀ x ∈ ofO l, x.2.length ≤ 6 := by
  refine ⟨by simp [ofO]; omega, fun x hx => ?_⟩
  obtain ⟨y, _, rfl⟩ := List.mem_map.1 hx
  simp; omega
theorem hof_w {H : AHeap} {v : Value} {l : List (Int × List Int)} {f : List Nat} (h : Sl rawO H v l f) (hlt : ∀ y ∈ f, y < H.next) :
    FnW Try.prog 13 #[v] H (fun v' H' => Old H H' ∧ ∃ f', Ow objO 41 H' v' (ofO l) f' ∧ Own H.next H' f') := by
  refine fw_13 (Nat.le_refl _) fun hf => ?_
  simp only [Try.f13, Option.getD_some]
  simp only [go_sem]
  refine Cll.by (cuto_w (n := 6) h hlt (by decide)) ?_
  rintro vc Hc - ⟨holdc, fc, hsc, hltc⟩
  obtain ⟨a0, c0, hv0⟩ := hsc.val
  have hnc := holdc.nx
  generalize hlc : l.take 6 = lc at hsc hv0
  have hll : lc.length ≤ 6 := by rw [← hlc]; simp; omega
  have hof : ofO l = lc.map fun x => (wIn x.1 4 - 1, (x.2.take 6).map valH) := by rw [ofO, hlc]
  simp only [go_sem, hv0]
  refine w_for 4398046507368 lc.length (fun i V H1 => V 12 = .int .i64 (i : Nat) ∧ ∃ out g, V 3 = out ∧ Ow objO 41 H1 out ((lc.take i).map fun x => (wIn x.1 4 - 1, (x.2.take 6).map valH)) g ∧ Own Hc.next H1 g ∧ Old Hc H1) ⟨by simp only [go_sem]; rfl, _, [], by simp only [go_sem]; rfl, by simpa using Ow.nil objO 41 Hc, ⟨by simp, by simp, by simp⟩, Old.refl Hc⟩ ?_ ?_ (by rfl)
  · rintro i V H1 hi ⟨e12, out, g, e3, how, hown, holc⟩
    have hold := holdc.trans holc
    have hx0 : lc[i]? = some lc[i] := List.getElem?_eq_getElem hi
    generalize hx : lc[i] = x at hx0
    have hn1 := hold.nx
    have hn1c := holc.nx
    obtain ⟨b, o, c, B, gx, hv, hB, hbf, hgf, hbl, hE⟩ := (hsc.keep fun y hy => holc.get y (hltc y hy)).at hx0
    obtain ⟨v2, hrow, hs2⟩ := rawO_E.1 hE
    obtain ⟨a2, c2, hv2⟩ := hs2.val
    subst hv2
    rw [hv0] at hv
    cases hv
    have hbl' : o + i * 2 + 2 ≤ B.cells.length := hbl
    have hrow' : (B.cells.drop (o + i * 2)).take 2 = [.int .i64 x.1, .slice a2 x.2.length c2] := hrow
    have hX1 : H.fz H1.next = false := hf.fresh hn1
    have hX2 : H.fz (H1.next + 1) = false := hf.fresh (by omega)
    simp only [go_sem, e12, e3, hi, hB, hbl', hrow', hX1, hX2]
    refine Cll.by (within_w (by decide)) ?_
    rintro _ _ - ⟨rfl, rfl⟩
    have hwb := wIn_bd x.1 4 (by decide)
    have hwr := wrap_in (n := wIn x.1 4 - 1) (by omega) (by omega)
    simp only [go_sem, hwr, hX2]
    generalize hrec : wIn x.1 4 - 1 = rc
    generalize hHb : (((H1.push ⟨[.int .i64 x.1, .slice a2 x.2.length c2], 94, false, false⟩).push ⟨[.int .i64 0, .slice none 0 0], 41, false, false⟩).upd (H1.next + 1) ⟨[.int .i64 rc, .slice none 0 0], 41, false, false⟩) = Hb
    have hnb : Hb.next = H1.next + 2 := by rw [← hHb]; rfl
    have hob : Old H1 Hb := by rw [← hHb]; exact ((Old.push H1 _).trans (Old.push _ _)).upd (Nat.le_succ _) _
    have gb : Hb.get (H1.next + 1) = some ⟨[.int .i64 rc, .slice none 0 0], 41, false, false⟩ := by rw [← hHb, get_upd, if_pos rfl]
    have hltx : ∀ y ∈ gx, y < H1.next := fun y hy => by have := hltc y (hgf y hy); omega
    refine Cll.by (cut_w (n := 6) (hs2.keep (H' := Hb) fun y hy => hob.get y (hltx y hy)) (by decide)) ?_
    rintro vd Hd - ⟨holdd, fd, hsd, hod⟩
    obtain ⟨a3, c3, hv3⟩ := hsd.val
    have hnd := holdd.nx
    generalize hld : x.2.take 6 = ld at hsd hv3
    have hlld : ld.length ≤ 6 := by rw [← hld]; simp; omega
    simp only [go_sem, hv3]
    refine w_for 137405399296 ld.length (fun j V' H3 => V' 25 = .int .i64 (j : Nat) ∧ ∃ vm fm, H3.get (H1.next + 1) = some ⟨[.int .i64 rc, vm], 41, false, false⟩ ∧ Ow valR 25 H3 vm ((ld.take j).map valH) fm ∧ Own (H1.next + 2) H3 fm ∧ Old H1 H3 ∧ (∀ y ∈ fd, H3.get y = Hd.get y) ∧ (∀ y ∈ fd, y ∉ fm) ∧ Hd.next ≤ H3.next)
      ⟨by simp only [go_sem]; rfl, .slice none 0 0, [], by rw [holdd.get _ (by omega)]; exact gb, by simpa using Ow.nil valR 25 _, ⟨by simp, by simp, by simp⟩, hob.trans holdd, fun _ _ => rfl, by simp, Nat.le_refl _⟩ ?_ ?_ (by rfl)
    · rintro j V' H3 hj ⟨e25, vm, fm, gm, howm, hownm, holdm, hkd, hdd, hnm⟩
      have hs3 := hsd.keep (H' := H3) hkd
      obtain ⟨b3, o3, c3', B3, hv3', hB3, hb3f, hc3⟩ := hs3.int_at hj
      rw [hv3] at hv3'
      cases hv3'
      have hX3 : H.fz H3.next = false := hf.fresh (by omega)
      have hne : ¬ H1.next + 1 = H3.next := by omega
      simp only [go_sem, e25, hj, hB3, hc3, gm, hne]
      refine Cll.by hvalue_w ?_
      rintro _ H5 - ⟨rfl, hold5⟩
      have hn5 : H3.next ≤ H5.next := hold5.nx
      have gm5 : H5.get (H1.next + 1) = some ⟨[.int .i64 rc, vm], 41, false, false⟩ := by rw [hold5.get _ (by omega)]; exact gm
      have hne5 : ¬ H1.next + 1 = H5.next := by omega
      generalize hmy : valH (ld.getD j 0) = my
      simp only [go_sem, gm5, gm, hne5, build_one ap_28 (by decide) (by decide)]
      have h35 : Old H3 (H5.push ⟨[.int .i64 my.1, .int .i64 my.2], 25, false, false⟩) := hold5.trans (Old.push _ _)
      have htl : ((ld.take j).map valH).length = j := by rw [List.length_map, List.length_take]; omega
      refine cps_app1 (r := valR) (x := my) (g := []) ap_28 (howm.keep fun y hy => h35.get y (hownm.hi y hy)) (fun y hy => Nat.lt_of_lt_of_le (hownm.hi y hy) h35.nx) (by simpa using hownm.nd)
        (by simp) (fun y hy => hf.fresh (by have := hownm.lo y hy; omega)) (by rw [get_push, if_pos rfl]) (valR_E.2 ⟨rfl, rfl⟩) rfl (by omega) ?_
      intro v7 H7 f7 how7 hnd7 hmem7 hhi7 hnx7 hkp7 hfz7 hro7
      have hnx7' : H7.next = H5.next + 2 := hnx7
      have hnf : ∀ z, z < H1.next + 2 → z ∉ fm := fun z hz e => by have := hownm.lo _ e; omega
      have gm7 : H7.get (H1.next + 1) = some ⟨[.int .i64 rc, vm], 41, false, false⟩ := by rw [hkp7 _ (by rw [next_push]; omega) (hnf _ (by omega)), get_push_lt (by omega)]; exact gm5
      have hlo7 : ∀ y ∈ f7, H1.next + 2 ≤ y := fun y hy => by
        rcases hmem7 y hy with e | e | e
        · rw [next_push] at e; omega
        · exact hownm.lo y e
        · cases e
      obtain ⟨a7, c7, hv7⟩ := how7.sl.val
      subst hv7
      have h17 : Old H1 H7 := by
        have h9 := holdm.trans h35
        refine ⟨by omega, fun y hy => ?_, fun y B hB hr => h9.ro y B (hro7 y B hB hr) hr⟩
        rw [hkp7 y (by rw [next_push]; omega) (hnf y (by omega)), h9.get y hy]
      have hws : IntKind.wrap .i64 (((j : Nat) : Int) + 1) = ((j + 1 : Nat) : Int) := wrap_succ hj (by omega)
      simp only [go_sem, gm7, hX2, e25, hws]
      have hfdlo : ∀ y ∈ fd, H1.next + 2 ≤ y ∧ y < H3.next := fun y hy => by have := hod.lo y hy; have := hod.hi y hy; omega
      refine ⟨_, f7, rfl, ?_, ⟨hnd7, hlo7, hhi7⟩, h17.upd (by omega) _, fun y hy => ?_, fun y hy e => ?_, by omega⟩
      · rw [show (ld.take (j + 1)).map valH = (ld.take j).map valH ++ [my] from by rw [List.take_add_one, List.getElem?_eq_getElem hj, List.map_append, ← hmy]; simp [List.getD_eq_getElem?_getD, hj]]
        exact how7.keep fun y hy => by
          have := hlo7 y hy
          rw [get_upd, if_neg (by omega)]
      · have h1 := hfdlo y hy
        rw [if_neg (by omega), hkp7 y (by rw [next_push]; omega) (hdd y hy), h35.get y h1.2]
        exact hkd y hy
      · have h1 := hfdlo y hy
        rcases hmem7 y e with e | e | e
        · rw [next_push] at e; omega
        · exact hdd y hy e
        · cases e
    · rintro V' H3 ⟨e25, vm, fm, gm, howm, hownm, holdm, hkd, hdd, hnm⟩
      rw [List.take_of_length_le (Nat.le_refl _)] at howm
      obtain ⟨am, cm, hvm⟩ := howm.sl.val
      subst hvm
      simp only [go_sem, e25, e12, e3, gm, build_one ap_26 (by decide) (by decide)]
      generalize hmb : ld.map valH = mb at howm
      have h13 : Old H1 (H3.push ⟨[.int .i64 rc, .slice am mb.length cm], 41, false, false⟩) := holdm.trans (Old.push _ _)
      have htl : ((lc.take i).map fun x => ((wIn x.1 4 - 1, (x.2.take 6).map valH) : Int × List (Int × Int))).length = i := by rw [List.length_map, List.length_take]; omega
      refine cps_app1 (r := objO) (x := (rc, mb)) (g := fm) ap_26 (how.keep fun y hy => h13.get y (hown.hi y hy)) (fun y hy => Nat.lt_of_lt_of_le (hown.hi y hy) h13.nx) (nodup_apart hown.nd hownm.nd hown.hi fun y hy => by have := hownm.lo y hy; omega)
        (fun y hy => Nat.lt_succ_of_lt (hownm.hi y hy)) (fun y hy => hf.fresh (by have := hown.lo y hy; omega)) (by rw [get_push, if_pos rfl]) (objO_E.2 ⟨_, rfl, howm.keep fun y hy => get_push_lt (hownm.hi y hy)⟩) rfl (by omega) ?_
      intro v7 H7 f7 how7 hnd7 hmem7 hhi7 hnx7 hkp7 hfz7 hro7
      have hnx7' : H7.next = H3.next + 2 := hnx7
      simp only [go_sem, e12, wrap_succ hi (by omega)]
      have h07 := holc.trans h13
      have hgl : ∀ z, z < Hc.next → z ∉ g := fun z hz e => by have := hown.lo z e; omega
      refine ⟨_, f7, rfl, ?_, ⟨hnd7, fun y hy => ?_, hhi7⟩, ⟨by omega, fun y hy => ?_, fun y B hB hr => h07.ro y B (hro7 y B hB hr) hr⟩⟩
      · rw [show ((lc.take (i + 1)).map fun x => ((wIn x.1 4 - 1, (x.2.take 6).map valH) : Int × List (Int × Int))) = ((lc.take i).map fun x => (wIn x.1 4 - 1, (x.2.take 6).map valH)) ++ [(rc, mb)] from by rw [List.take_add_one, hx0, List.map_append, ← hmb, ← hld, ← hrec]; rfl]
        exact how7
      · rcases hmem7 y hy with e | e | e
        · rw [next_push] at e; omega
        · exact hown.lo y e
        · have := hownm.lo y e; omega
      · rw [hkp7 y (by rw [next_push]; omega) (hgl y hy), h07.get y hy]
  · rintro V H1 ⟨e12, out, g, e3, how, hown, holc⟩
    simp only [go_sem, e12, e3]
    rw [List.take_of_length_le (Nat.le_refl _)] at how
    rw [hof]
    exact ⟨holdc.trans holc, g, how, hown.up hnc⟩

abbrev objS : Rp (Unit × List (Unit × Unit)) := .pair .hole (.slice valS)
theorem objS_E {H : AHeap} {cs : List Value} {x : Unit × List (Unit × Unit)} {f : List Nat} (h : objS.E H cs x f) : ∃ a v, cs = [.int .i64 a, v] ∧ Sl valS H v x.2 f := by
  obtain ⟨c1, c2, f1, f2, rfl, rfl, ⟨⟨a, rfl⟩, rfl⟩, ⟨v, rfl, h⟩⟩ := h; exact ⟨a, v, rfl, h⟩
theorem mor_obj : Mor objR objS fun x => ((), x.2.map fun _ => ((), ())) := mor_pair mor_hole (mor_slice mor_val)
def shpO (l : ObL) : List (Unit × List (Unit × Unit)) := l.map fun x => ((), x.2.map fun _ => ((), ()))
theorem loose_obj : objS.Loose := loose_pair loose_hole (loose_slice loose_val)
theorem zrOBS : zeroK Try.prog 26 = some [.slice none 0 0] := by kernel_rfl

theorem heapKeeps_w {H : AHeap} {v : Value} {l : List (Int × List Int)} {f : List Nat} {n k x1 x2 : Int} (h : Sl rawO H v l f) (hlt : ∀ y ∈ f, y < H.next) :
    FnW Try.prog 4 #[v, .int .i64 n, .int .i64 k, .agg #[.int .i64 x1, .int .i64 x2]] H (fun w _ => w = .bool true) := by
  refine fw_4 (Nat.le_refl _) fun hf => ?_
  simp only [Try.f4, Option.getD_some]
  simp only [go_sem]
  have hXn : ∀ {H' : AHeap}, Old H H' → H.fz H'.next = false := fun ho => hf.fresh ho.nx
  obtain ⟨hb1, hb2⟩ := ofO_bd l
  refine Cll.by (hof_w (h.keep (H' := H.push ⟨[.int .i64 x1, .int .i64 x2], 25, false, false⟩) fun y hy => get_push_lt (hlt y hy)) (fun y hy => Nat.lt_succ_of_lt (hlt y hy))) ?_
  rintro vo Ho - ⟨holdo, fo, howo, hoo⟩
  have hHo : Old H Ho := (Old.push H _).trans holdo
  simp only [go_sem]
  refine Cll.by (hof_w (h.keep fun y hy => hHo.get y (hlt y hy)) (fun y hy => Nat.lt_of_lt_of_le (hlt y hy) hHo.nx)) ?_
  rintro vw Hx - ⟨owx0, fw, howw, how⟩
  generalize hL : ofO l = L at howo howw hb1 hb2
  have hL1 : L.length < 1000000 := by omega
  have hL2 : ∀ x ∈ L, x.2.length < 1000000 := fun x hx => by have := hb2 x hx; omega
  have oHx : Old H Hx := hHo.trans owx0
  have g9 : Hx.get H.next = some ⟨[.int .i64 x1, .int .i64 x2], 25, false, false⟩ := by rw [(holdo.trans owx0).get _ (Nat.lt_succ_self _), get_push, if_pos rfl]
  have hno : H.next + 1 ≤ Ho.next := holdo.nx
  have hnx : Ho.next ≤ Hx.next := owx0.nx
  have ko : ∀ {H' : AHeap}, Old Hx H' → Sl objR H' vo L fo := fun ho => (howo.sl.keep fun y hy => (owx0.trans ho).get y (hoo.hi y hy)).map fun _ _ _ => objO_R
  have kl : ∀ {H' : AHeap}, Old Hx H' → ∀ y ∈ fo, y < H'.next := fun ho y hy => Nat.lt_of_lt_of_le (hoo.hi y hy) (owx0.trans ho).nx
  have kw : ∀ {H' : AHeap}, Old Hx H' → Sl objR H' vw L fw := fun ho => (howw.sl.keep fun y hy => ho.get y (how.hi y hy)).map fun _ _ _ => objO_R
  have bl : ∀ {H' : AHeap}, buildSliceA Try.prog 28 2 [(0, .agg #[.int .i64 x1, .int .i64 x2]), (1, .agg #[.int .i64 x1, .int .i64 x2])] H' = .ok (.slice (some ⟨H'.next, 0, none⟩) 2 2) (H'.push ⟨[.int .i64 x1, .int .i64 x2, .int .i64 x1, .int .i64 x2], 25, false, false⟩) := fun {H'} =>
    build_at ap_28 zr_25 (by decide) (by decide) rfl
  simp only [go_sem, g9, bl]
  generalize hHs : (Hx.push ⟨[.int .i64 x1, .int .i64 x2, .int .i64 x1, .int .i64 x2], 25, false, false⟩) = Hs
  have oxs : Old Hx Hs := by rw [← hHs]; exact Old.push _ _
  have hss : Sl valR Hs (.slice (some ⟨Hx.next, 0, none⟩) 2 2) [(x1, x2), (x1, x2)] [Hx.next] := by
    refine .inr (.inr ⟨Hx.next, 0, 2, _, [], rfl, by simp, by simp, rfl, by rw [← hHs, get_push, if_pos rfl], ?_⟩)
    exact ⟨[_, _], [_, _], [], [], rfl, rfl, valR_E.2 ⟨rfl, rfl⟩, [_, _], [], [], [], rfl, rfl, valR_E.2 ⟨rfl, rfl⟩, rfl⟩
  have hns : Hx.next < Hs.next := by rw [← hHs]; exact Nat.lt_succ_self _
  refine Cll.by (make_w (ko oxs) (kl oxs) hL1 hL2 hss (by simpa using hns) (by simp)) ?_
  rintro _ Ha - ⟨olda, va, fa, rfl, hsa, hoa⟩
  have oxa := oxs.trans olda
  have g9a : Ha.get H.next = some ⟨[.int .i64 x1, .int .i64 x2], 25, false, false⟩ := by rw [oxa.get _ (by omega)]; exact g9
  simp only [go_sem]
  refine Cll.by (within_w (by decide)) ?_
  rintro _ _ - ⟨rfl, rfl⟩
  simp only [go_sem]
  refine Cll.by (within_w (by decide)) ?_
  rintro _ _ - ⟨rfl, rfl⟩
  generalize hy1 : wIn n 6 = y1
  generalize hy2 : wIn k 6 = y2
  simp only [go_sem, g9a]
  refine Cll.by (write_w (x := (x1, x2)) (ko oxa) (kl oxa) hL1 hL2) ?_
  rintro vb Hb - ⟨oldb, fb, hsb, hob⟩
  have oxb := oxa.trans oldb
  have g9b : Hb.get H.next = some ⟨[.int .i64 x1, .int .i64 x2], 25, false, false⟩ := by rw [oxb.get _ (by omega)]; exact g9
  obtain ⟨aa, ca, hva⟩ := hsa.sl.val
  obtain ⟨ab, cb, hvb⟩ := hsb.val
  have bl2 : buildSliceA Try.prog 39 2 [(0, va), (1, vb)] Hb = .ok (.slice (some ⟨Hb.next, 0, none⟩) 2 2) (Hb.push ⟨[va, vb], 26, false, false⟩) := by
    rw [hva, hvb]
    exact build_at ap_39 zrOBS (by decide) (by decide) rfl
  simp only [go_sem, g9a, g9b, bl2]
  generalize hHz : (Hb.push ⟨[va, vb], 26, false, false⟩) = Hz
  have obz : Old Hb Hz := by rw [← hHz]; exact Old.push _ _
  have oxz : Old Hx Hz := oxb.trans obz
  have oaz : Old Ha Hz := oldb.trans obz
  have hnz : Hb.next < Hz.next := by rw [← hHz]; exact Nat.lt_succ_self _
  have nxs := oxs.nx
  have nxa := olda.nx
  have nxb := oldb.nx
  have hz : Sl (.slice objS) Hz (.slice (some ⟨Hb.next, 0, none⟩) 2 2) [shpO (L ++ [(1, [(x1, x2), (x1, x2)])]), shpO (writeL L y1 y2 (x1, x2))] (Hb.next :: (fa ++ (fb ++ []))) := by
    refine .inr (.inr ⟨Hb.next, 0, 2, _, fa ++ (fb ++ []), rfl, by simp, by simp, rfl, by rw [← hHz, get_push, if_pos rfl], ?_⟩)
    exact ⟨[va], [vb], fa, _, rfl, rfl, ⟨va, rfl, (hsa.sl.keep fun z hz => oaz.get z (hoa.hi z hz)).mor mor_obj⟩, [vb], [], fb, _, rfl, rfl, ⟨vb, rfl, (hsb.keep fun z hz => obz.get z (hob.hi z hz)).mor mor_obj⟩, rfl⟩
  have hzlo : ∀ z ∈ (Hb.next :: (fa ++ (fb ++ []))), Hx.next ≤ z ∧ z < Hz.next := fun z hz => by
    simp only [List.mem_cons, List.mem_append, List.not_mem_nil, or_false] at hz
    rcases hz with e | e | e
    · omega
    · have := hoa.lo z e; have := hoa.hi z e; omega
    · have := hob.lo z e; have := hob.hi z e; omega
  have hlens : ∀ Lz ∈ [shpO (L ++ [(1, [(x1, x2), (x1, x2)])]), shpO (writeL L y1 y2 (x1, x2))], Lz.length ≤ 7 ∧ ∀ w ∈ Lz, w.2.length ≤ 6 := by
    have key : ∀ (L' : ObL), L'.length ≤ 7 → (∀ w ∈ L', w.2.length ≤ 6) → (shpO L').length ≤ 7 ∧ ∀ w ∈ shpO L', w.2.length ≤ 6 := fun L' h1 h2 => by
      refine ⟨by rw [shpO, List.length_map]; exact h1, fun w hw => ?_⟩
      obtain ⟨w', hw', rfl⟩ := List.mem_map.1 hw
      rw [List.length_map]; exact h2 w' hw'
    intro Lz hLz
    simp only [List.mem_cons, List.not_mem_nil, or_false] at hLz
    rcases hLz with rfl | rfl
    · refine key _ (by simp; omega) fun w hw => ?_
      rcases List.mem_append.1 hw with e | e
      · exact hb2 w e
      · rw [List.mem_singleton] at e; subst e; simp
    · unfold writeL
      split
      · rename_i hh
        refine key _ (by rw [List.length_set]; omega) fun w hw => ?_
        rcases List.mem_or_eq_of_mem_set hw with e | e
        · exact hb2 w e
        · subst e
          simp only [hasB, Bool.and_eq_true, decide_eq_true_eq] at hh
          have hn : y1.toNat < L.length := by omega
          have := hb2 _ (List.getElem_mem hn)
          rw [List.length_set, List.getD_eq_getElem?_getD, List.getElem?_eq_getElem hn]
          exact this
      · exact key _ (by omega) hb2
  generalize [shpO (L ++ [(1, [(x1, x2), (x1, x2)])]), shpO (writeL L y1 y2 (x1, x2))] = LL at hz hlens
  have hll : LL.length = 2 := by
    obtain ⟨a1, c1, e⟩ := hz.val
    simp at e; omega
  generalize (Hb.next :: (fa ++ (fb ++ []))) = fz at hz hzlo
  have hlow : ∀ {H1 : AHeap}, Tw Hx.next Hz H1 → ∀ {b : Nat} {B : ABlk}, Hx.next ≤ b → H1.get b = some B → H.fz b = false ∧ B.ro = false := by
    intro H1 hT b B hb hB
    exact ⟨hf.fresh (Nat.le_trans oHx.nx hb), (oHx.trans (hT.old oxz)).free hf (Nat.le_trans oHx.nx hb) hB⟩
  refine w_for 4835703278456317675798528 2 (fun i V H1 => V 41 = .int .i64 (i : Nat) ∧ Tw Hx.next Hz H1) ⟨by simp only [go_sem]; rfl, Tw.refl _ _⟩ ?_ ?_ (by rfl)
  · rintro i V H1 hi ⟨e41, hT1⟩
    have hx0 : LL[i]? = some (LL[i]'(by omega)) := List.getElem?_eq_getElem (by omega)
    generalize hLz : (LL[i]'(by omega)) = Lz at hx0
    have hLm : Lz ∈ LL := hLz ▸ List.getElem_mem _
    obtain ⟨hz1, hz2⟩ := hlens Lz hLm
    obtain ⟨b, o, c, B, g, hv, hB, hbf, hgf, hbl, vz, hrow, hsz⟩ := (hz.loose (loose_slice loose_obj) hT1.lo).at hx0
    rw [hll] at hv
    cases hv
    have hglo : ∀ w ∈ g, Hx.next ≤ w := fun w hw => (hzlo w (hgf w hw)).1
    rw [Nat.zero_add] at hrow hbl
    have hc : B.cells[i]? = some vz := by
      have : ((B.cells.drop (i * 1)).take 1)[0]? = some vz := by rw [show (B.cells.drop (i * 1)).take 1 = _ from hrow]; rfl
      rw [List.getElem?_take, if_pos (by decide), List.getElem?_drop, Nat.mul_one, Nat.add_zero] at this
      exact this
    obtain ⟨az, cz, hvz⟩ := hsz.val
    simp only [go_sem, e41, hi, hB, hc, hvz]
    refine w_for 2417851639088520861253632 Lz.length (fun j V H2 => V 47 = .int .i64 (j : Nat) ∧ Tw Hx.next H1 H2) ⟨by simp only [go_sem]; rfl, Tw.refl _ _⟩ ?_ ?_ (by rfl)
    · rintro j V2 H2 hj ⟨e47, hT2⟩
      have hy0 : Lz[j]? = some Lz[j] := List.getElem?_eq_getElem hj
      generalize hw : Lz[j] = w at hy0
      have hw1 := hz2 w (hw ▸ List.getElem_mem hj)
      have get2 : ∀ {H' : AHeap}, Tw Hx.next H1 H' → ∃ b' o' c' B' g' r' a' d', Value.slice az Lz.length cz = .slice (some ⟨b', o', none⟩) Lz.length c' ∧ H'.get b' = some B' ∧ Hx.next ≤ b' ∧ B'.cells[o' + j * 2]? = some (.int .i64 r') ∧ B'.cells[o' + j * 2 + 1]? = some (.slice a' w.2.length d') ∧ Sl valS H' (.slice a' w.2.length d') w.2 g' ∧ ∀ z ∈ g', Hx.next ≤ z := by
        intro H' hT'
        obtain ⟨b5, o5, c5, B5, g5, hv5, hB5, hbf5, hgf5, hbl5, hE5⟩ := (hsz.loose loose_obj hT'.lo).at hy0
        obtain ⟨r5, v5, hrow5, hs5⟩ := objS_E hE5
        obtain ⟨a5, d5, hv5'⟩ := hs5.val
        exact ⟨b5, o5, c5, B5, g5, r5, a5, d5, hvz ▸ hv5, hB5, hglo _ hbf5, cell0 hrow5, hv5' ▸ cell1 hrow5, hv5' ▸ hs5, fun z hz => hglo z (hgf5 z hz)⟩
      obtain ⟨b4, o4, c4, B4, g4, r4, a4, d4, hv4, hB4, hb4, hr4, hc4, hs4, hlo4⟩ := get2 hT2
      cases hv4
      obtain ⟨hX4, hro4⟩ := hlow (hT1.trans hT2) hb4 hB4
      have hl4 : o4 + j * 2 < B4.cells.length := (List.getElem?_eq_some_iff.1 hr4).1
      have hl5 : o4 + j * 2 + 1 ≤ B4.cells.length := hl4
      have hT4 := hT2.set (y := IntKind.wrap .i64 (r4 + 7)) hb4 hB4 hr4
      simp only [go_sem, e47, hj, hB4, hr4, hX4, hro4, hl4]
      rw [if_pos hl5, cps_upd hX4]
      generalize hH4 : (H2.upd b4 ⟨B4.cells.set (o4 + j * 2) (.int .i64 (IntKind.wrap .i64 (r4 + 7))), B4.elem, B4.opn, false⟩) = H4 at hT4 ⊢
      obtain ⟨b7, o7, c7, B7, g7, r7, a7, d7, hv7, hB7, hb7, hr7, hc7, hs7, hlo7⟩ := get2 hT4
      cases hv7
      simp only [go_sem, e47, hj, hB7, hc7]
      refine w_for 1208907372870555465285632 w.2.length (fun q V H5 => V 64 = .int .i64 (q : Nat) ∧ Tw Hx.next H4 H5) ⟨by simp only [go_sem]; rfl, Tw.refl _ _⟩ ?_ ?_ (by rfl)
      · rintro q V4 H5 hq ⟨e64, hT5⟩
        have hT25 := hT4.trans hT5
        obtain ⟨b9, o9, c9, B9, g9, r9, a9, d9, hv9, hB9, hb9, hr9, hc9, hs9, hlo9⟩ := get2 hT25
        cases hv9
        obtain ⟨b10, o10, c10, B10, g10, hv10, hB10, hbf10, _, _, hE10⟩ := hs9.at (i := q) (List.getElem?_eq_getElem hq)
        cases hv10
        obtain ⟨r10, s10, hrow10⟩ := valS_E hE10
        have hc10 : B10.cells[o10 + q * 2 + 1]? = some (.int .i64 s10) := cell1 hrow10
        have hb10 := hlo9 b10 hbf10
        obtain ⟨hX10, hro10⟩ := hlow (hT1.trans hT25) hb10 hB10
        have hl10 : o10 + q * 2 + 1 < B10.cells.length := (List.getElem?_eq_some_iff.1 hc10).1
        have hl11 : o10 + q * 2 + 1 + 1 ≤ B10.cells.length := hl10
        have hT6 := hT5.set (y := IntKind.wrap .i64 (s10 + 7)) hb10 hB10 hc10
        have hws : IntKind.wrap .i64 (((q : Nat) : Int) + 1) = ((q + 1 : Nat) : Int) := wrap_succ hq (by omega)
        simp only [go_sem, e47, e64, hj, hq, hB9, hc9, hB10, hc10, hX10, hro10, hl10, hl11, hws]
        exact hT6
      · rintro V4 H5 ⟨e64, hT5⟩
        have hws : IntKind.wrap .i64 (((j : Nat) : Int) + 1) = ((j + 1 : Nat) : Int) := wrap_succ hj (by omega)
        simp only [go_sem, e64, e47, hws]
        exact hT4.trans hT5
    · rintro V2 H2 ⟨e47, hT2⟩
      have hws : IntKind.wrap .i64 (((i : Nat) : Int) + 1) = ((i + 1 : Nat) : Int) := wrap_succ hi (by omega)
      simp only [go_sem, e47, e41, hws]
      exact hT1.trans hT2
  · rintro V H1 ⟨e41, hT1⟩
    have o1 : Old Hx H1 := hT1.old oxz
    simp only [go_sem, e41]
    refine Cll.by (sameO_w (ko o1) (kw o1) hL1 hL2) ?_
    rintro _ _ - ⟨rfl, rfl⟩
    simp only [go_sem]
    refine Cll.by hwakes_w ?_
    rintro _ H2 - ⟨o2, rfl⟩
    simp only [go_sem]
end Go.Proofs.Ytgjpcliaggpcaaa.Ab
