/- The law HeapPlays. -/
import Derived.Test.YtgjpcliaggpcaaaH3
set_option linter.unusedVariables false
set_option linter.unusedSimpArgs false
set_option maxRecDepth 100000
namespace Go.Proofs.Ytgjpcliaggpcaaa.Ab
open Go

abbrev rowsR : Rp (List (Int × Int)) := .slice valR
def objs (W : List (List (Int × Int))) : List (Int × List (Int × Int)) := W.map fun r => (2, r)
theorem objs_len (W : List (List (Int × Int))) : (objs W).length = W.length := List.length_map ..
theorem objs_at (W : List (List (Int × Int))) (i : Nat) : (objs W)[i]? = W[i]?.map fun r => (2, r) := List.getElem?_map ..

theorem hasB_objs {W : List (List (Int × Int))} {n k : Nat} (hn : n < W.length) : hasB (objs W) n k = decide (k < W[n].length) := by
  have e : (objs W).getD n (0, []) = (2, W[n]) := by rw [List.getD_eq_getElem?_getD, objs_at, List.getElem?_eq_getElem hn]; rfl
  rw [hasB, show ((n : Int).toNat) = n from rfl, e, objs_len]
  have h1 : decide ((0 : Int) ≤ (n : Nat)) = true := by simp
  have h2 : decide (((n : Nat) : Int) < (W.length : Nat)) = true := by simp; omega
  have h3 : decide ((0 : Int) ≤ (k : Nat)) = true := by simp
  rw [h1, h2, h3, Bool.and_self, Bool.and_self, Bool.true_and]
  simp
theorem writeL_objs {W : List (List (Int × Int))} {n k : Nat} {x : Int × Int} (hn : n < W.length) : writeL (objs W) n k x = if k < W[n].length then objs (W.set n (W[n].set k x)) else objs W := by
  have e : (objs W).getD n (0, []) = (2, W[n]) := by rw [List.getD_eq_getElem?_getD, objs_at, List.getElem?_eq_getElem hn]; rfl
  rw [writeL, hasB_objs hn, show ((n : Int).toNat) = n from rfl, e]
  by_cases h : k < W[n].length
  · rw [if_pos h, if_pos (by simpa using h)]; simp [objs, List.map_set]
  · rw [if_neg h, if_neg (by simpa using h)]

theorem heapPlays_w {H : AHeap} {v : Value} {xs : List Int} {f : List Nat} (h : Sl .int H v xs f) (hlt : ∀ y ∈ f, y < H.next) : FnW Try.prog 11 #[v] H (fun w _ => w = .bool true) := by
  refine fw_11 (Nat.le_refl _) fun hf => ?_
  simp only [Try.f11, Option.getD_some]
  simp only [go_sem]
  refine Cll.by (cut_w h) ?_
  rintro v1 Hc - ⟨holdc, fc, hsc, hoc⟩
  generalize hL : xs.take 40 = L at hsc
  have hL40 : L.length ≤ 40 := by rw [← hL]; simp; omega
  obtain ⟨a1, c1, hv1⟩ := hsc.val
  simp only [go_sem, hv1]
  refine w_loop (fun n E H1 => ∃ i W vl fl vt ft, i + n = L.length ∧ E 23 = v1 ∧ E 24 = .int .i64 (L.length : Nat) ∧ E 25 = .int .i64 (i : Nat) ∧ E 3 = vl ∧ E 4 = vt ∧
    Sl objR H1 vl (objs W) fl ∧ Ow rowsR 28 H1 vt W ft ∧ Own Hc.next H1 (fl ++ ft) ∧ Old Hc H1 ∧ W.length ≤ i ∧ ∀ r ∈ W, r.length ≤ 4) (n := L.length)
    ⟨0, [], _, [], _, [], by simp, by simp only [go_sem, hv1], by simp only [go_sem], by simp only [go_sem]; rfl, rfl, rfl, .inl ⟨by simp only [go_sem], rfl, rfl⟩, .inl ⟨by simp only [go_sem], rfl, rfl⟩, ⟨by simp, by simp, by simp⟩, Old.refl Hc, by simp, by simp⟩ ?_
  rintro n E H1 ⟨i, W, vl, fl, vt, ft, hi, e23, e24, e25, e3, e4, hl, ht, hown, hold, hWi, hW4⟩
  obtain ⟨al, cl, hvl⟩ := hl.val
  obtain ⟨at', ct, hvt⟩ := ht.sl.val
  rw [objs_len] at hvl
  cases n with
  | zero =>
    have hlt1 : decide ((i : Int) < (L.length : Nat)) = false := by simp; omega
    simp only [go_sem, e23, e24, e25, e3, e4, hlt1, hvt]
    have hlW : W.length < 1000000 := by omega
    have hcW : ∀ x ∈ objs W, x.2.length < 1000000 := fun x hx => by
      obtain ⟨r1, hr1, rfl⟩ := List.mem_map.1 hx
      have := hW4 r1 hr1; simp only; omega
    have hflt : ∀ y ∈ fl, y < H1.next := fun y hy => hown.hi y (by simp [hy])
    refine w_loop (fun m E H2 => ∃ k, k + m = W.length ∧ E 3 = .slice al W.length cl ∧ E 113 = .slice at' W.length ct ∧ E 114 = .int .i64 (W.length : Nat) ∧ E 115 = .int .i64 (k : Nat) ∧ E 13 = .int .i64 (sumL (objs (W.take k)) : Nat) ∧ Old H1 H2) (n := W.length)
      ⟨0, by simp, by simp only [go_sem, e3, hvl], by simp only [go_sem, e4, hvt], by simp only [go_sem], by simp only [go_sem]; rfl, by simp only [go_sem]; rfl, Old.refl H1⟩ ?_
    rintro m E H2 ⟨k, hk, e3, e113, e114, e115, e13, hold2⟩
    have hn2 := hold2.nx
    have hl2 : Sl objR H2 (.slice al W.length cl) (objs W) fl := hvl ▸ hl.keep fun y hy => hold2.get y (hflt y hy)
    cases m with
    | zero =>
      have hlt2 : decide ((k : Int) < (W.length : Nat)) = false := by simp; omega
      simp only [go_sem, e3, e113, e114, e115, e13, hlt2]
      refine Cll.by (cells_w hl2 (fun y hy => Nat.lt_of_lt_of_le (hflt y hy) hn2) (by rw [objs_len]; exact hlW) hcW) ?_
      rintro _ H3 - ⟨hold3, rfl⟩
      rw [List.take_of_length_le (by omega)] at e13
      have hq : decide (((sumL (objs W) : Nat) : Int) = (sumL (objs W) : Nat)) = true := by simp
      simp only [go_sem, e13, hq]
      refine Cll.by wakes_w ?_
      rintro _ H4 - ⟨hold4, rfl⟩
      simp only [go_sem]
    | succ m =>
      have hkl : k < W.length := by omega
      have hlt2 : decide ((k : Int) < (W.length : Nat)) = true := by simp; omega
      have hx2 : W[k]? = some W[k] := List.getElem?_eq_getElem hkl
      have hr4 := hW4 W[k] (List.getElem_mem hkl)
      generalize hr : W[k] = r at hx2 hr4
      have hrow : rowsR.E = rowsR.E := rfl
      obtain ⟨b4, o4, c4, B4, g4, hvt4, hB4, hbf4, hgf4, hbl4, v2, hrow2, hs2⟩ := (ht.sl.keep (H' := H2) fun y hy => hold2.get y (hown.hi y (by simp [hy]))).at hx2
      rw [hvt] at hvt4
      obtain ⟨rfl, -, rfl⟩ := Value.slice.inj hvt4
      obtain ⟨a2, c2, hv2⟩ := hs2.val
      have hcell4 : B4.cells[o4 + k]? = some v2 := by
        have : ((B4.cells.drop (o4 + k * 1)).take 1)[0]? = some v2 := by
          rw [show (B4.cells.drop (o4 + k * 1)).take 1 = _ from hrow2]; rfl
        rw [List.getElem?_take, if_pos (by decide), List.getElem?_drop, Nat.mul_one, Nat.add_zero] at this
        exact this
      have hs1 : sumL (objs (W.take k)) ≤ (objs (W.take k)).length * 5 := sumL_le fun y hy => by
        obtain ⟨r1, hr1, rfl⟩ := List.mem_map.1 hy
        have := hW4 r1 (List.mem_of_mem_take hr1); simp only; omega
      rw [objs_len, List.length_take, Nat.min_eq_left (by omega)] at hs1
      have hw2 : IntKind.wrap .i64 (((sumL (objs (W.take k)) : Nat) : Int) + ((r.length : Nat) : Int)) = ((sumL (objs (W.take k)) + r.length : Nat) : Int) := wrap_add (by omega)
      have hsum : sumL (objs (W.take k)) + r.length = sumL (objs (W.take (k + 1))) := by rw [take_snoc hx2]; simp [objs, sumL]
      rw [hsum] at hw2
      have hobj : (objs W)[k]? = some (2, r) := by rw [objs_at, hx2]; rfl
      simp only [go_sem, e3, e113, e114, e115, e13, hlt2, hkl, hB4, hcell4, hv2, hw2]
      refine Cll.by (find_w hl2 (fun y hy => Nat.lt_of_lt_of_le (hflt y hy) hn2) hobj rfl) ?_
      rintro _ H3 - ⟨hold3, rfl⟩
      simp only [go_sem, e3]
      refine Cll.by (find3_w (n := k)) ?_
      rintro _ H4 - ⟨hold4, rfl⟩
      have nk : decide ((k : Int) = k) = true := by simp
      have hold24 := hold3.trans hold4
      simp only [go_sem, e3, e113, e114, e115, nk]
      refine w_loop (fun m E H5 => ∃ j, j + m = r.length ∧ E 3 = .slice al W.length cl ∧ E 113 = .slice (some ⟨b4, o4, none⟩) W.length ct ∧ E 114 = .int .i64 (W.length : Nat) ∧ E 115 = .int .i64 (k : Nat) ∧ E 13 = .int .i64 (sumL (objs (W.take (k + 1))) : Nat) ∧
        E 14 = .int .i64 (k : Nat) ∧ E 149 = .slice a2 r.length c2 ∧ E 150 = .int .i64 (r.length : Nat) ∧ E 151 = .int .i64 (j : Nat) ∧ Old H4 H5) (n := r.length)
        ⟨0, by simp, by simp only [go_sem, e3], by simp only [go_sem, e113], by simp only [go_sem, e114], by simp only [go_sem, e115], by simp only [go_sem], by simp only [go_sem], by simp only [go_sem], by simp only [go_sem], by simp only [go_sem]; rfl, Old.refl H4⟩ ?_
      rintro m2 E H5 ⟨j, hj, e3, e113, e114, e115, e13, e14, e149, e150, e151, hold5⟩
      have hold15 := hold2.trans (hold24.trans hold5)
      have hn5 := hold15.nx
      have hl5 : Sl objR H5 (.slice al W.length cl) (objs W) fl := hvl ▸ hl.keep fun y hy => hold15.get y (hflt y hy)
      cases m2 with
      | zero =>
        have hlt3 : decide ((j : Int) < (r.length : Nat)) = false := by simp; omega
        have hw3 : IntKind.wrap .i64 ((k : Int) + 1) = ((k + 1 : Nat) : Int) := wrap_add (k := 1) (by omega)
        simp only [go_sem, e3, e113, e114, e115, e13, e14, e149, e150, e151, hlt3, hw3]
        exact ⟨m, by omega, k + 1, by omega, rfl, rfl, hold15⟩
      | succ m2 =>
        have hjl : j < r.length := by omega
        have hlt3 : decide ((j : Int) < (r.length : Nat)) = true := by simp; omega
        have hw3 : IntKind.wrap .i64 ((j : Int) + 1) = ((j + 1 : Nat) : Int) := wrap_add (k := 1) (by omega)
        have hy : r[j]? = some r[j] := List.getElem?_eq_getElem hjl
        generalize r[j] = y at hy
        have hg4 : ∀ z ∈ g4, z < H1.next := fun z hz => hown.hi z (by rw [List.mem_append]; exact .inr (hgf4 z hz))
        obtain ⟨b6, o6, c6, B6, g6, ev6, hB6, hbf6, _, hbl6, hE6⟩ := (hs2.keep (H' := H5) fun z hz => (hold24.trans hold5).get z (Nat.lt_of_lt_of_le (hg4 z hz) hn2)).at hy
        rw [hv2] at ev6
        obtain ⟨rfl, -, rfl⟩ := Value.slice.inj ev6
        have hrow6 : (B6.cells.drop (o6 + j * 2)).take 2 = [.int .i64 y.1, .int .i64 y.2] := (valR_E.1 hE6).1
        have hbl6' : o6 + j * 2 + 2 ≤ B6.cells.length := hbl6
        have hX5 : H.fz H5.next = false := hf.fresh (Nat.le_trans holdc.nx (Nat.le_trans hold.nx hn5))
        have hl6 : Sl objR (H5.push ⟨[.int .i64 y.1, .int .i64 y.2], 25, false, false⟩) (.slice al W.length cl) (objs W) fl := hl5.keep fun z hz => get_push_lt (Nat.lt_of_lt_of_le (hflt z hz) hn5)
        simp only [go_sem, e3, e113, e114, e115, e13, e14, e149, e150, e151, hlt3, hjl, hB6, hbl6', hrow6, hX5]
        refine Cll.by (read_w hl6 (fun z hz => Nat.lt_succ_of_lt (Nat.lt_of_lt_of_le (hflt z hz) hn5)) hobj hy) ?_
        rintro _ H7 - ⟨hold7, rfl⟩
        have hg7 : H7.get H5.next = some ⟨[.int .i64 y.1, .int .i64 y.2], 25, false, false⟩ := by rw [hold7.get H5.next (Nat.lt_succ_self _), get_push, if_pos rfl]
        simp only [go_sem, hg7, neq_self, e3, e113, e114, e115, e13, e14, e149, e150, e151, hw3]
        refine ⟨m2, by omega, j + 1, by omega, rfl, hold5.trans ((Old.push H5 _).trans hold7)⟩
  | succ n =>
    have hil : i < L.length := by omega
    have hx0 : L[i]? = some L[i] := List.getElem?_eq_getElem hil
    generalize hx : L[i] = x at hx0
    have hlt1 : decide ((i : Int) < (L.length : Nat)) = true := by simp; omega
    obtain ⟨b, o, c, B, gx, hv, hB, hbf, hgf, hbl, hE⟩ := (hsc.keep fun y hy => hold.get y (hoc.hi y hy)).at hx0
    have hrow := (Rp.int_E.1 hE).1
    have hcell : B.cells[o + i]? = some (.int .i64 x) := by
      have : ((B.cells.drop (o + i * 1)).take 1)[0]? = some (.int .i64 x) := by
        rw [show (B.cells.drop (o + i * 1)).take 1 = _ from hrow]; rfl
      rw [List.getElem?_take, if_pos (by decide), List.getElem?_drop, Nat.mul_one, Nat.add_zero] at this
      exact this
    have hw1 : IntKind.wrap .i64 ((i : Int) + 1) = ((i + 1 : Nat) : Int) := wrap_add (k := 1) (by omega)
    by_cases hmk : Int.tmod x 3 = 0 ∨ W.length = 0
    · have e1 : (decide (Int.tmod x 3 = 0) = true) ∨ (decide (Int.tmod x 3 = 0) = false ∧ decide (((W.length : Nat) : Int) = 0) = true) := by
        by_cases h3 : Int.tmod x 3 = 0
        · left; simpa using h3
        · right; exact ⟨by simpa using h3, by rcases hmk with h | h; exact absurd h h3; simp [h]⟩
      have n3 : (3 : Int) ≠ 0 := by decide
      have n30 : (30 : Int) ≠ 0 := by decide
      obtain ⟨kn, hkn⟩ := Int.eq_ofNat_of_zero_le (wIn_bd (IntKind.wrap .i64 (Int.tdiv x 3)) 4 (by decide)).1
      have hk4 := (wIn_bd (IntKind.wrap .i64 (Int.tdiv x 3)) 4 (by decide)).2
      rw [hkn] at hk4
      rcases e1 with e1 | ⟨e1, e2⟩
      have e2 := e1
      all_goals
        simp only [go_sem, e23, e24, e25, e3, e4, hlt1, hv1, hv1 ▸ hv, hil, hB, hcell, n3, e1, e2, hvl]
        refine Cll.by (within_w (n := 4) (by decide)) ?_
        rintro _ _ - ⟨rfl, rfl⟩
        rw [hkn]
        simp only [go_sem, make_at ap_28 zr_25 (by decide) (Nat.le_refl kn) (by omega) (by omega), e23, e24, e25, e3, e4]
        have hz : Sl valR (H1.push ⟨nCells [.int .i64 0, .int .i64 0] kn, 25, false, false⟩) (.slice (some ⟨H1.next, 0, none⟩) kn kn) (List.replicate kn (0, 0)) (if kn = 0 then [] else [H1.next]) := by
          by_cases h0 : kn = 0
          · rw [if_pos h0]; subst h0; exact .inr (.inl ⟨_, _, _, rfl, rfl, rfl⟩)
          · rw [if_neg h0]; exact .inr (.inr ⟨H1.next, 0, kn, _, [], by rw [List.length_replicate], by simp [h0], by simp, rfl, by rw [get_push, if_pos rfl], arr_cells (r := valR) (x := (0, 0)) (valR_E.2 ⟨rfl, rfl⟩) kn⟩)
        refine w_loop (fun n E H2 => ∃ j r fr, j + n = kn ∧ E 23 = .slice a1 L.length c1 ∧ E 24 = .int .i64 (L.length : Nat) ∧ E 25 = .int .i64 (i : Nat) ∧ E 3 = .slice al W.length cl ∧ E 4 = vt ∧ E 6 = .int .i64 x ∧
          E 7 = .slice (some ⟨H1.next, 0, none⟩) kn kn ∧ E 42 = .int .i64 (kn : Nat) ∧ E 43 = .int .i64 (j : Nat) ∧ r.length = kn ∧ Sl valR H2 (.slice (some ⟨H1.next, 0, none⟩) kn kn) r fr ∧ Own H1.next H2 fr ∧ Old H1 H2) (n := kn)
          ⟨0, _, _, by simp, by simp only [go_sem, e23, hv1], by simp only [go_sem, e24], by simp only [go_sem, e25], by simp only [go_sem, e3, hvl], by simp only [go_sem, e4], by simp only [go_sem], by simp only [go_sem], by simp only [go_sem], by simp only [go_sem]; rfl, by simp, hz, ⟨by split <;> simp, by split <;> simp, by split <;> simp [next_push]⟩, Old.push H1 _⟩ ?_
        rintro m E H2 ⟨j, r, fr, hj, e23, e24, e25, e3, e4, e6, e7, e42, e43, hrl, hr, hro, hold2⟩
        have hc2 := hold.trans hold2
        cases m with
        | zero =>
          have hlt2 : decide ((j : Int) < (kn : Nat)) = false := by simp; omega
          simp only [go_sem, e23, e24, e25, e3, e4, e6, e7, e42, e43, hlt2]
          have hl2 : Sl objR H2 (.slice al W.length cl) (objs W) fl := hvl ▸ hl.keep fun y hy => hold2.get y (hown.hi y (by simp [hy]))
          have ht2 : Ow rowsR 28 H2 vt W ft := ht.keep fun y hy => hold2.get y (hown.hi y (by simp [hy]))
          have hn2 := hold2.nx
          refine Cll.by (make_w hl2 (fun y hy => Nat.lt_of_lt_of_le (hown.hi y (by simp [hy])) hn2) (by rw [objs_len]; omega) (fun x hx => ?_) hr hro.hi (by omega)) ?_
          · obtain ⟨r1, hr1, rfl⟩ := List.mem_map.1 hx
            have := hW4 r1 hr1; simp only; omega
          rintro _ H3 - ⟨hold3, v3, f3, rfl, hl3, ho3⟩
          obtain ⟨a3, c3, hv3⟩ := hl3.sl.val
          have hl3n : (objs W ++ [((2 : Int), r)]).length = W.length + 1 := by rw [List.length_append, objs_len]; rfl
          rw [hl3n] at hv3
          have hwW : IntKind.wrap .i64 (((W.length : Nat) : Int) + 1) = ((W.length + 1 : Nat) : Int) := wrap_add (k := 1) (by omega)
          have hr3 : Sl valR H3 (.slice (some ⟨H1.next, 0, none⟩) kn kn) r fr := hr.keep fun y hy => hold3.get y (hro.hi y hy)
          simp only [go_sem, e23, e24, e25, e3, e4, e6, e7, objs_len, hv3, hwW]
          refine Cll.by (copyv_w hr3 (by omega)) ?_
          rintro v5 H5 - ⟨hold5, f5, hs5, ho5⟩
          obtain ⟨a5, c5, hv5⟩ := hs5.val
          simp only [go_sem, e4, hv5, build_one ap_89 (by decide) (by decide)]
          have hn3 := hold3.nx
          have hn5 := hold5.nx
          have h57 : Old H1 (H5.push ⟨[.slice a5 r.length c5], 28, false, false⟩) := hold2.trans (hold3.trans (hold5.trans (Old.push _ _)))
          have hftlt : ∀ y ∈ ft, y < H1.next := fun y hy => hown.hi y (by simp [hy])
          have hflt : ∀ y ∈ fl, y < H1.next := fun y hy => hown.hi y (by simp [hy])
          have hndft : ft.Nodup := (List.nodup_append.1 hown.nd).2.1
          refine cps_app1 (r := rowsR) (x := r) (g := f5) ap_89 (ht.keep fun y hy => h57.get y (hftlt y hy)) (fun y hy => Nat.lt_of_lt_of_le (hftlt y hy) h57.nx) (nodup_apart hndft ho5.nd (n := H3.next) (fun y hy => by have := hftlt y hy; omega) ho5.lo)
            (fun y hy => Nat.lt_succ_of_lt (ho5.hi y hy)) (fun y hy => hf.fresh (Nat.le_trans holdc.nx (hown.lo y (by simp [hy])))) (by rw [get_push, if_pos rfl]) ⟨_, rfl, hv5 ▸ hs5.keep fun y hy => get_push_lt (ho5.hi y hy)⟩ rfl (by omega) ?_
          intro v7 H7 f7 how7 hnd7 hmem7 hhi7 hnx7 hkp7 hfz7 hro7
          have hnx7' : H7.next = H5.next + 2 := hnx7
          simp only [go_sem, e23, e24, e25, hw1]
          have hf7 : ∀ y ∈ f7, y < H1.next ∨ H3.next ≤ y := fun y hy => by
            rcases hmem7 y hy with e | e | e
            · rw [next_push] at e; omega
            · exact .inl (hftlt y e)
            · exact .inr (ho5.lo y e)
          have hlo7 : ∀ y ∈ f7, Hc.next ≤ y := fun y hy => by
            have := hold.nx
            rcases hmem7 y hy with e | e | e
            · rw [next_push] at e; omega
            · exact hown.lo y (by simp [e])
            · have := ho5.lo y e; omega
          have hlo3 : ∀ y ∈ f3, H2.next ≤ y := ho3.lo
          have hcx := hold.nx
          refine ⟨n, by omega, i + 1, W ++ [r], _, f3, _, f7, by omega, hv1.symm, rfl, rfl, rfl, ?_, how7, ⟨?_, fun y hy => ?_, fun y hy => ?_⟩, ?_, by simp; omega, fun r1 hr1 => ?_⟩
          · rw [show objs (W ++ [r]) = objs W ++ [(2, r)] from List.map_append, ← hv3]
            exact hl3.sl.keep fun y hy => by
              have h1 := ho3.lo y hy
              have h2 := ho3.hi y hy
              rw [hkp7 y (by rw [next_push]; omega) (fun e => by have := hftlt y e; omega), get_push_lt (by omega), hold5.get y h2]
          · rw [List.nodup_append]
            refine ⟨ho3.nd, hnd7, fun a ha b hb e => ?_⟩
            have h1 := ho3.lo a ha
            have h2 := ho3.hi a ha
            rcases hf7 b hb with h | h <;> omega
          · rcases List.mem_append.1 hy with h | h
            · have := ho3.lo y h; omega
            · exact hlo7 y h
          · rcases List.mem_append.1 hy with h | h
            · have := ho3.hi y h; omega
            · exact hhi7 y h
          · have h0 := hold.trans h57
            refine ⟨by omega, fun b hb => ?_, fun b B hB hr => h0.ro b B (hro7 b B hB hr) hr⟩
            rw [hkp7 b (by rw [next_push]; omega) (fun e => by have := hown.lo b (by simp [e]); omega), h0.get b hb]
          · rcases List.mem_append.1 hr1 with h | h
            · exact hW4 r1 h
            · rw [List.mem_singleton.1 h]; omega
        | succ m =>
          have hlt2 : decide ((j : Int) < (kn : Nat)) = true := by simp; omega
          have hw2 : IntKind.wrap .i64 ((j : Int) + 1) = ((j + 1 : Nat) : Int) := wrap_add (k := 1) (by omega)
          simp only [go_sem, e23, e24, e25, e3, e4, e6, e7, e42, e43, hlt2]
          refine Cll.by value_w ?_
          rintro _ H3 - ⟨rfl, hold3⟩
          have hjl : j < r.length := by omega
          obtain ⟨b, o, c, B, k1, k2, k3, ev, ec, gB, rfl, hbl, hE, hput⟩ := hr.put hjl
          cases ev
          have gB3 : H3.get H1.next = some B := by rw [hold3.get _ (hro.hi _ (by simp))]; exact gB
          have hX : H.fz H1.next = false := hf.fresh (Nat.le_trans holdc.nx hold.nx)
          have hbl' : j * 2 + 2 ≤ B.cells.length := by have : 0 + j * 2 + 2 ≤ B.cells.length := hbl
                                                       omega
          have hro2 : B.ro = false := (holdc.trans hc2).free hf (Nat.le_trans holdc.nx hold.nx) gB
          have hX1 : H.fz H1.next = false := hf.fresh (Nat.le_trans holdc.nx hold.nx)
          simp only [go_sem, e23, e24, e25, e3, e4, e6, e7, e42, e43, hjl, gB3, hbl', hro2, hX1, hw2]
          obtain rfl := (valR_E.1 hE).2
          refine ⟨m, by omega, j + 1, r.set j (valF (IntKind.wrap .i64 (x + j))), H1.next :: (k1 ++ ([] ++ k3)), by omega, rfl, by simp, ?_, ⟨hro.nd, hro.lo, fun y hy => Nat.lt_of_lt_of_le (hro.hi y hy) hold3.nx⟩, (hold2.trans hold3).upd (Nat.le_refl _) _⟩
          refine hput _ _ [.int .i64 (valF (IntKind.wrap .i64 (x + j))).1, .int .i64 (valF (IntKind.wrap .i64 (x + j))).2] _ [] (fun z hz => ?_) (if_pos rfl) (by show _ = spliceA B.cells (0 + j * 2) _; rw [Nat.zero_add]) (valR_E.2 ⟨rfl, rfl⟩)
          have hz1 : z ∈ H1.next :: (k1 ++ ([] ++ k3)) := by grind
          have hnd := hro.nd
          rw [List.nodup_cons] at hnd
          have hzne : z ≠ H1.next := fun e => hnd.1 (by rw [← e]; grind)
          rw [get_upd, if_neg hzne, hold3.get z (hro.hi z hz1)]
    · have hW0 : 0 < W.length := by omega
      have e1 : decide (Int.tmod x 3 = 0) = false := decide_eq_false fun h => hmk (.inl h)
      have e2 : decide (((W.length : Nat) : Int) = 0) = false := decide_eq_false fun h => by omega
      have n3 : (3 : Int) ≠ 0 := by decide
      have n30 : (30 : Int) ≠ 0 := by decide
      have bn := wIn_bd (IntKind.wrap .i64 (Int.tdiv x 3)) (W.length : Nat) (by omega)
      obtain ⟨wn, hwn⟩ := Int.eq_ofNat_of_zero_le bn.1
      have ba := wIn_bd (IntKind.wrap .i64 (Int.tdiv x 30)) 4 (by decide)
      obtain ⟨an, han⟩ := Int.eq_ofNat_of_zero_le ba.1
      have hwnl : wn < W.length := by omega
      simp only [go_sem, e23, e24, e25, e3, e4, hlt1, hv1, hv1 ▸ hv, hil, hB, hcell, n3, e1, e2, hvl]
      refine Cll.by (within_w (n := (W.length : Nat)) (by omega)) ?_
      rintro _ _ - ⟨rfl, rfl⟩
      simp only [go_sem, hwn, n30]
      refine Cll.by (within_w (n := 4) (by decide)) ?_
      rintro _ _ - ⟨rfl, rfl⟩
      simp only [go_sem, han, e3, hvl]
      refine Cll.by value_w ?_
      rintro _ H2 - ⟨rfl, hold2⟩
      have hn2 := hold2.nx
      have hl2 : Sl objR H2 (.slice al W.length cl) (objs W) fl := hvl ▸ hl.keep fun y hy => hold2.get y (hown.hi y (by simp [hy]))
      simp only [go_sem, e3, hvl]
      refine Cll.by (write_w (x := valF x) hl2 (fun y hy => Nat.lt_of_lt_of_le (hown.hi y (by simp [hy])) hn2) (by rw [objs_len]; omega) (fun x hx => ?_)) ?_
      · obtain ⟨r1, hr1, rfl⟩ := List.mem_map.1 hx
        have := hW4 r1 hr1; simp only; omega
      rintro v3 H3 - ⟨hold3, f3, hl3, ho3⟩
      obtain ⟨b4, cs4, g1, g2, g3, hvt4, hB4, rfl, hbl4, hE4, hput4⟩ := (ht.keep (H' := H3) fun y hy => (hold2.trans hold3).get y (hown.hi y (by simp [hy]))).put hwnl
      obtain ⟨v2, hrow2, hs2⟩ := hE4
      obtain ⟨a2, c2, hv2⟩ := hs2.val
      have hcell4 : cs4[wn]? = some v2 := by
        have : ((cs4.drop (wn * 1)).take 1)[0]? = some v2 := by
          rw [show (cs4.drop (wn * 1)).take 1 = _ from hrow2]; rfl
        rw [List.getElem?_take, if_pos (by decide), List.getElem?_drop, Nat.mul_one, Nat.add_zero] at this
        exact this
      simp only [go_sem, e23, e24, e25, e4, hvt4, hwnl, hB4, hcell4, hv2]
      rw [writeL_objs hwnl] at hl3
      have hn3 := hold3.nx
      have hcx := hold.nx
      have h13 := hold2.trans hold3
      have hlo3 : ∀ y ∈ f3, H1.next ≤ y := fun y hy => Nat.le_trans hn2 (ho3.lo y hy)
      by_cases hk : an < W[wn].length
      · rw [if_pos hk] at hl3
        obtain ⟨a3, c3, hv3⟩ := hl3.val
        rw [objs_len, List.length_set] at hv3
        have d1 : decide ((an : Int) < (W[wn].length : Nat)) = true := by simp; omega
        obtain ⟨b6, o6, c6, B6, k1, k2, k3, ev, ec, gB6, rfl, hbl6, hE6, hput6⟩ := hs2.put hk
        rw [hv2] at ev
        cases ev
        simp only [go_sem, d1, e4, hvt4, hwnl, hB4, hcell4, hv2]
        refine Cll.by value_w ?_
        rintro _ H5 - ⟨rfl, hold5⟩
        have hn5 := hold5.nx
        have h15 := h13.trans hold5
        have hX6 : H.fz b6 = false := hf.fresh (Nat.le_trans holdc.nx (hown.lo b6 (by simp)))
        have gB5 : H5.get b6 = some B6 := by rw [hold5.get b6 (Nat.lt_of_lt_of_le (hown.hi b6 (by simp)) h13.nx)]; exact gB6
        have gB45 : H5.get b4 = H3.get b4 := hold5.get b4 (Nat.lt_of_lt_of_le (hown.hi b4 (by simp)) h13.nx)
        have hro6 : B6.ro = false := (holdc.trans (hold.trans h15)).free hf (Nat.le_trans holdc.nx (hown.lo b6 (by simp))) gB5
        have hbl6' : o6 + an * 2 + 2 ≤ B6.cells.length := hbl6
        have nl3 : decide (((W.length : Nat) : Int) = (W.length : Nat)) = true := by simp
        simp only [go_sem, e23, e24, e25, e4, hvt4, hk, gB5, hbl6', hro6, hX6, gB45, hv3, nl3, hw1]
        obtain rfl := (valR_E.1 hE6).2
        have hnd := (List.nodup_append.1 hown.nd).2.1
        have hne : ∀ z, z = b4 ∨ z ∈ g1 ∨ z ∈ g3 ∨ z ∈ k1 ∨ z ∈ k3 → z ≠ b6 := by
          intro z hz e
          subst e
          simp only [List.nil_append, List.nodup_cons, List.nodup_append, List.mem_append, List.mem_cons, List.cons_append, not_or] at hnd
          grind
        have h35 : ∀ (B : ABlk) z, z ∈ b4 :: (g1 ++ (b6 :: (k1 ++ ([] ++ k3)) ++ g3)) → z ≠ b6 → (H5.upd b6 B).get z = H3.get z := fun B z hz hzb => by
          rw [get_upd, if_neg hzb, hold5.get z (Nat.lt_of_lt_of_le (hown.hi z (by rw [List.mem_append]; exact .inr hz)) h13.nx)]
        have hcs4 : spliceA cs4 (wn * rowsR.sz) [v2] = cs4 := by rw [← hrow2]; exact splice_same hbl4
        have hb6 : b6 < H1.next := hown.hi b6 (by simp)
        refine ⟨n, by omega, i + 1, W.set wn (W[wn].set an (valF x)), _, f3, _, b4 :: (g1 ++ (b6 :: (k1 ++ ([] ++ k3)) ++ g3)), by omega, rfl, rfl, rfl, ?_, ?_, ⟨?_, fun y hy => ?_, fun y hy => ?_⟩, (hold.trans h15).upd (hown.lo b6 (by simp)) _, by simp; omega, fun r1 hr1 => ?_⟩
        · rw [← hv3]
          exact hl3.keep fun y hy => by
            have h1 := hlo3 y hy
            rw [get_upd, if_neg (by omega), hold5.get y (ho3.hi y hy)]
        · rw [← hvt4]
          refine hput4 (H5.upd b6 ⟨spliceA B6.cells (o6 + an * 2) [.int .i64 (valF x).1, .int .i64 (valF x).2], B6.elem, B6.opn, false⟩) [v2] _ (b6 :: (k1 ++ ([] ++ k3))) (fun z hz => h35 _ z (by grind) (hne z (by grind))) (by rw [h35 _ b4 (by simp) (hne b4 (.inl rfl)), hcs4]; exact hB4) ⟨v2, rfl, ?_⟩
          exact hput6 (H5.upd b6 ⟨spliceA B6.cells (o6 + an * 2) [.int .i64 (valF x).1, .int .i64 (valF x).2], B6.elem, B6.opn, false⟩) ⟨spliceA B6.cells (o6 + an * 2) [.int .i64 (valF x).1, .int .i64 (valF x).2], B6.elem, B6.opn, false⟩ [.int .i64 (valF x).1, .int .i64 (valF x).2] (valF x) [] (fun z hz => h35 _ z (by grind) (hne z (by grind))) (if_pos rfl) rfl (valR_E.2 ⟨rfl, rfl⟩)
        · rw [List.nodup_append]
          refine ⟨ho3.nd, hnd, fun a ha b hb e => ?_⟩
          have h1 := hlo3 a ha
          have h2 := hown.hi b (by rw [List.mem_append]; exact .inr hb)
          omega
        · rcases List.mem_append.1 hy with h | h
          · have := hlo3 y h; omega
          · exact hown.lo y (by rw [List.mem_append]; exact .inr h)
        · rcases List.mem_append.1 hy with h | h
          · have h1 := ho3.hi y h; show y < H5.next; omega
          · have h1 := hown.hi y (by rw [List.mem_append]; exact .inr h); have := h15.nx; show y < H5.next; omega
        · rcases List.mem_or_eq_of_mem_set hr1 with h | h
          · exact hW4 r1 h
          · rw [h, List.length_set]; exact hW4 _ (List.getElem_mem hwnl)
      · rw [if_neg hk] at hl3
        obtain ⟨a3, c3, hv3⟩ := hl3.val
        rw [objs_len] at hv3
        have d1 : decide ((an : Int) < (W[wn].length : Nat)) = false := by simp; omega
        have nl3 : decide (((W.length : Nat) : Int) = (W.length : Nat)) = true := by simp
        simp only [go_sem, d1, e23, e24, e25, e4, hvt4, hv3, nl3, hw1]
        refine ⟨n, by omega, i + 1, W, _, f3, _, _, by omega, rfl, rfl, rfl, by rw [← hv3]; exact hl3, by rw [← hvt4]; exact ht.keep fun y hy => h13.get y (hown.hi y (by rw [List.mem_append]; exact .inr hy)), ⟨?_, fun y hy => ?_, fun y hy => ?_⟩, hold.trans h13, by omega, hW4⟩
        · rw [List.nodup_append]
          refine ⟨ho3.nd, (List.nodup_append.1 hown.nd).2.1, fun a ha b hb e => ?_⟩
          have h1 := hlo3 a ha
          have h2 := hown.hi b (by rw [List.mem_append]; exact .inr hb)
          omega
        · rcases List.mem_append.1 hy with h | h
          · have := hlo3 y h; omega
          · exact hown.lo y (by rw [List.mem_append]; exact .inr h)
        · rcases List.mem_append.1 hy with h | h
          · exact ho3.hi y h
          · have h1 := hown.hi y (by rw [List.mem_append]; exact .inr h); have := h13.nx; omega
end Go.Proofs.Ytgjpcliaggpcaaa.Ab
