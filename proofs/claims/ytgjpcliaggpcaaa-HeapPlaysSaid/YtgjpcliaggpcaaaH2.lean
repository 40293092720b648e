/- heap's functions, further. -/
import Derived.Test.YtgjpcliaggpcaaaH1
set_option linter.unusedVariables false
set_option linter.unusedSimpArgs false
set_option maxRecDepth 100000
namespace Go.Proofs.Ytgjpcliaggpcaaa.Ab
open Go

/-- Within. -/
def wIn (v n : Int) : Int := if n < 1 then 0 else if Int.tmod v n < 0 then Int.tmod v n + n else Int.tmod v n
theorem wIn_bd (v n : Int) (h : 1 ≤ n) : 0 ≤ wIn v n ∧ wIn v n < n := by
  have h1 : Int.tmod v n < n := Int.tmod_lt_of_pos v (by omega)
  have h2 : -n < Int.tmod v n := by
    have := Int.tmod_lt_of_pos (-v) (show 0 < n by omega)
    rw [Int.neg_tmod] at this
    omega
  unfold wIn
  rw [if_neg (by omega)]
  split <;> omega
theorem wrap_in {n : Int} (h1 : -9223372036854775808 ≤ n) (h2 : n < 9223372036854775808) : IntKind.wrap .i64 n = n := by
  apply wrap_fits
  cases n with
  | ofNat a => show Nat.blt a 9223372036854775808 = true; rw [blt_eq, decide_eq_true_eq]; have : (Int.ofNat a) = (a : Int) := rfl; omega
  | negSucc a => show Nat.blt a 9223372036854775808 = true; rw [blt_eq, decide_eq_true_eq]; have := Int.negSucc_eq a; omega
theorem within_w {H : AHeap} {v n : Int} (hn : n < 4611686018427387904) : FnW Try.prog 19 #[.int .i64 v, .int .i64 n] H (fun r H' => r = .int .i64 (wIn v n) ∧ H = H') := by
  refine fw_19 (Nat.le_refl _) fun hf => ?_
  simp only [Try.f19, Option.getD_some]
  by_cases h1 : n < 1
  · simp only [go_sem, h1, decide_true]
    simp [wIn, h1]
  · have hn0 : n ≠ 0 := by omega
    have b1 : Int.tmod v n < n := Int.tmod_lt_of_pos v (by omega)
    have b2 : -n < Int.tmod v n := by
      have := Int.tmod_lt_of_pos (-v) (show 0 < n by omega)
      rw [Int.neg_tmod] at this
      omega
    by_cases h2 : Int.tmod v n < 0
    · have hw := wrap_in (n := Int.tmod v n + n) (by omega) (by omega)
      simp only [go_sem, h1, hn0, h2, hw, decide_true, decide_false]
      simp [wIn, h1, h2]
    · simp only [go_sem, h1, hn0, h2, decide_true, decide_false]
      simp [wIn, h1, h2]

def valF (n : Int) : Int × Int := (wIn n 7, wIn (IntKind.wrap .i64 (Int.tdiv n 7)) 9 - 1)
theorem value_w {H : AHeap} {n : Int} : FnW Try.prog 15 #[.int .i64 n] H (fun r H' => r = .agg #[.int .i64 (valF n).1, .int .i64 (valF n).2] ∧ Old H H') := by
  refine fw_15 (Nat.le_refl _) fun hf => ?_
  simp only [Try.f15, Option.getD_some]
  simp only [go_sem]
  refine Cll.by (within_w (by decide)) ?_
  rintro _ _ - ⟨rfl, rfl⟩
  have h7 : (7 : Int) ≠ 0 := by decide
  simp only [go_sem, h7]
  refine Cll.by (within_w (by decide)) ?_
  rintro _ _ - ⟨rfl, rfl⟩
  have hb := wIn_bd (IntKind.wrap .i64 (Int.tdiv n 7)) 9 (by decide)
  have hw := wrap_in (n := wIn (IntKind.wrap .i64 (Int.tdiv n 7)) 9 - 1) (by omega) (by omega)
  have hX : H.fz H.next = false := hf.fresh (Nat.le_refl _)
  simp only [go_sem, hw, hX]
  exact ⟨rfl, Old.push H _⟩

/-- Has. -/
def hasB (l : List (Int × List (Int × Int))) (n at_ : Int) : Bool := decide (0 ≤ n) && decide (n < l.length) && decide (0 ≤ at_) && decide (at_ < ((l.getD n.toNat (0, [])).2.length : Nat))
theorem has_w {H : AHeap} {v : Value} {l : List (Int × List (Int × Int))} {f : List Nat} {n at_ : Int} (h : Sl objR H v l f) : FnW Try.prog 59 #[v, .int .i64 n, .int .i64 at_] H (fun r H' => r = .bool (hasB l n at_) ∧ H = H') := by
  refine fw_59 (Nat.le_refl _) fun hf => ?_
  simp only [Try.f59, Option.getD_some]
  obtain ⟨a0, c0, hv0⟩ := h.val
  by_cases h1 : 0 ≤ n
  · by_cases h2 : n < (l.length : Nat)
    · by_cases h3 : 0 ≤ at_
      · have h2' : n.toNat < l.length := by omega
        obtain ⟨b, o, c, B, gx, hv, hB, hbf, hgf, hbl, hE⟩ := h.at (List.getElem?_eq_getElem h2')
        obtain ⟨v2, hrow, hs2⟩ := objR_E.1 hE
        obtain ⟨a2, c2, hv2⟩ := hs2.val
        have hcell : B.cells[o + n.toNat * 2 + 1]? = some v2 := by
          have : ((B.cells.drop (o + n.toNat * 2)).take 2)[1]? = some v2 := by
            rw [show (B.cells.drop (o + n.toNat * 2)).take 2 = _ from hrow]; rfl
          rw [List.getElem?_take, if_pos (by decide), List.getElem?_drop] at this
          exact this
        have hg : (l.getD n.toNat (0, [])).2 = l[n.toNat].2 := by simp [List.getD_eq_getElem?_getD, h2']
        simp only [go_sem, hv, h1, h2, h2', h3, hB, hcell, hv2, decide_true, hasB, hg, Bool.true_and]
      · simp only [go_sem, hv0, h1, h2, h3, decide_true, decide_false, hasB, Bool.and_false, Bool.false_and]
    · simp only [go_sem, hv0, h1, h2, decide_true, decide_false, hasB, Bool.and_false, Bool.false_and]
  · simp only [go_sem, hv0, h1, decide_true, decide_false, hasB, Bool.and_false, Bool.false_and]

/-- Write. -/
def writeL (l : List (Int × List (Int × Int))) (n at_ : Int) (x : Int × Int) : List (Int × List (Int × Int)) := if hasB l n at_ = true then l.set n.toNat ((l.getD n.toNat (0, [])).1, (l.getD n.toNat (0, [])).2.set at_.toNat x) else l
theorem write_w {H : AHeap} {v : Value} {l : List (Int × List (Int × Int))} {f : List Nat} {n at_ : Int} {x : Int × Int} (h : Sl objR H v l f) (hlt : ∀ y ∈ f, y < H.next) (hl : l.length < 1000000) (hc : ∀ x ∈ l, x.2.length < 1000000) :
    FnW Try.prog 20 #[v, .int .i64 n, .int .i64 at_, .agg #[.int .i64 x.1, .int .i64 x.2]] H (fun v' H' => Old H H' ∧ ∃ f', Sl objR H' v' (writeL l n at_ x) f' ∧ Own H.next H' f') := by
  refine fw_20 (Nat.le_refl _) fun hf => ?_
  simp only [Try.f20, Option.getD_some]
  simp only [go_sem]
  have hs0 : Sl objR (H.push ⟨[.int .i64 x.1, .int .i64 x.2], 25, false, false⟩) v l f := h.keep fun y hy => get_push_lt (hlt y hy)
  refine Cll.by (copied_w hs0 (fun y hy => Nat.lt_succ_of_lt (hlt y hy)) hl hc) ?_
  rintro v1 H1 - ⟨hold1, f1, how1, hown1⟩
  have hsl1 := how1.sl
  have hn1 : H.next + 1 ≤ H1.next := hold1.nx
  simp only [go_sem]
  refine Cll.by (has_w hsl1) ?_
  rintro _ _ - ⟨rfl, rfl⟩
  have hold : Old H H1 := (Old.push H _).trans hold1
  have hown : Own H.next H1 f1 := ⟨hown1.nd, fun y hy => Nat.le_of_succ_le (hown1.lo y hy), hown1.hi⟩
  by_cases hh : hasB l n at_ = true
  · have hh' := hh
    simp only [hasB, Bool.and_eq_true, decide_eq_true_eq] at hh'
    obtain ⟨⟨⟨h1, h2⟩, h3⟩, h4⟩ := hh'
    have h2' : n.toNat < l.length := by omega
    have hg : l.getD n.toNat (0, []) = l[n.toNat] := by simp [List.getD_eq_getElem?_getD, h2']
    rw [hg] at h4
    have h4' : at_.toNat < l[n.toNat].2.length := by omega
    have hg7 : H1.get H.next = some ⟨[.int .i64 x.1, .int .i64 x.2], 25, false, false⟩ := by rw [hold1.get H.next (Nat.lt_succ_self _), get_push, if_pos rfl]
    obtain ⟨b, cs, g1, g2, g3, hv, hB, rfl, hbl, hE, hput⟩ := how1.put h2'
    obtain ⟨v2, hrow, hs2⟩ := objR_E.1 hE
    obtain ⟨b2, o2, c2, B2, k1, k2, k3, hv2, hlc2, hB2, rfl, hbl2, hE2, hput2⟩ := hs2.put h4'
    have hcell : cs[n.toNat * 2 + 1]? = some v2 := by
      have : ((cs.drop (n.toNat * 2)).take 2)[1]? = some v2 := by rw [show (cs.drop (n.toNat * 2)).take 2 = _ from hrow]; rfl
      rw [List.getElem?_take, if_pos (by decide), List.getElem?_drop] at this
      exact this
    have hX : H.fz b2 = false := hf.fresh (hown.lo b2 (by simp))
    have hbl2' : o2 + at_.toNat * 2 + 2 ≤ B2.cells.length := hbl2
    have hlen2 : o2 + at_.toNat * 2 < B2.cells.length := by omega
    have hro2 : B2.ro = false := hold.free hf (hown.lo b2 (by simp)) hB2
    simp only [go_sem, hh, hv, h2, h2', h1, h3, h4', hB, hcell, hv2, hB2, hbl2', hX, hg7, hold1.nx, hro2]
    obtain rfl := (valR_E.1 hE2).2
    have hnd := hown.nd
    have hne : ∀ z, z = b ∨ z ∈ g1 ∨ z ∈ g3 ∨ z ∈ k1 ∨ z ∈ k3 → z ≠ b2 := by
      intro z hz e
      subst e
      simp only [List.nil_append, List.nodup_cons, List.nodup_append, List.mem_append, List.mem_cons, List.cons_append, not_or] at hnd
      grind
    have hup : ∀ (B : ABlk) z, z ≠ b2 → (H1.upd b2 B).get z = H1.get z := fun B z hz => if_neg hz
    have hw : writeL l n at_ x = l.set n.toNat (l[n.toNat].1, l[n.toNat].2.set at_.toNat x) := by rw [writeL, if_pos hh, hg]
    rw [hw, ← hv]
    have hcs : spliceA cs (n.toNat * objR.sz) [.int .i64 l[n.toNat].1, v2] = cs := by rw [← hrow]; exact splice_same hbl
    refine ⟨hold.upd (hown.lo b2 (by simp)) _, _, (hput _ [.int .i64 l[n.toNat].1, v2] (l[n.toNat].1, l[n.toNat].2.set at_.toNat x) (b2 :: (k1 ++ ([] ++ k3))) ?_ ?_ (objR_E.2 ⟨v2, rfl, hput2 _ _ [.int .i64 x.1, .int .i64 x.2] x [] ?_ (if_pos rfl) rfl (valR_E.2 ⟨rfl, rfl⟩)⟩)).sl, ⟨hown.nd, hown.lo, hown.hi⟩⟩
    · intro z hz; exact hup _ z (hne z (by grind))
    · rw [hup _ b (hne b (.inl rfl)), hcs]; exact hB
    · intro z hz; exact hup _ z (hne z (by grind))
  · simp only [go_sem, hh]
    simp only [writeL, hh]
    exact ⟨hold, f1, hsl1, hown⟩
end Go.Proofs.Ytgjpcliaggpcaaa.Ab
