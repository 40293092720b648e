/- Law 26's values, messages and boxes of numbers. -/
import Derived.Test.YtgjpcliaggpcaaaS2
import Derived.Test.YtgjpcliaggpcaaaAbR5
set_option linter.unusedVariables false
set_option linter.unusedSimpArgs false
set_option maxRecDepth 100000
namespace Go.Proofs.Ytgjpcliaggpcaaa.Ab
open Go

/-- Within. -/
def wIn (v n : Int) : Int := if n < 1 then 0 else if Int.tmod v n < 0 then Int.tmod v n + n else Int.tmod v n
theorem wIn_bd (v n : Int) (h : 1 ≤ n) : 0 ≤ wIn v n ∧ wIn v n < n := by
  have h1 : Int.tmod v n < n := Int.tmod_lt_of_pos v (by omega)
  have h2 : -n < Int.tmod v n := by
    have := Int.tmod_lt_of_pos (-v) (show 0 < n by omega)
    rw [Int.neg_tmod] at this
    omega
  unfold wIn
  rw [if_neg (by omega)]
  split <;> omega
theorem wrap_in {n : Int} (h1 : -9223372036854775808 ≤ n) (h2 : n < 9223372036854775808) : IntKind.wrap .i64 n = n := by
  apply wrap_fits
  cases n with
  | ofNat a => show Nat.blt a 9223372036854775808 = true; rw [blt_eq, decide_eq_true_eq]; have : (Int.ofNat a) = (a : Int) := rfl; omega
  | negSucc a => show Nat.blt a 9223372036854775808 = true; rw [blt_eq, decide_eq_true_eq]; have := Int.negSucc_eq a; omega
theorem within_w {H : AHeap} {v n : Int} (hn : n < 4611686018427387904) : FnW Try.prog 19 #[.int .i64 v, .int .i64 n] H (fun r H' => r = .int .i64 (wIn v n) ∧ H = H') := by
  refine fw_19 (Nat.le_refl _) fun hf => ?_
  simp only [Try.f19, Option.getD_some]
  by_cases h1 : n < 1
  · simp only [go_sem, h1]
    simp [wIn, h1]
  · have hn0 : n ≠ 0 := by omega
    have b1 : Int.tmod v n < n := Int.tmod_lt_of_pos v (by omega)
    have b2 : -n < Int.tmod v n := by
      have := Int.tmod_lt_of_pos (-v) (show 0 < n by omega)
      rw [Int.neg_tmod] at this
      omega
    by_cases h2 : Int.tmod v n < 0
    · have hw := wrap_in (n := Int.tmod v n + n) (by omega) (by omega)
      simp only [go_sem, h1, hn0, h2, hw]
      simp [wIn, h1, h2]
    · simp only [go_sem, h1, hn0, h2]
      simp [wIn, h1, h2]

theorem int_nf {H : AHeap} : ∀ {l : List Int} {cs : List Value} {f : List Nat}, Arr Rp.int H cs l f → f = []
  | [], cs, f, h => h
  | x :: l, cs, f, h => by
    obtain ⟨c, cs', f1, f2, rfl, rfl, ⟨rfl, rfl⟩, h2⟩ := h
    rw [int_nf h2]; rfl
theorem int_ones {H : AHeap} : ∀ {l : List Int} {cs : List Value} {f : List Nat}, Arr Rp.int H cs l f → cs.length = l.length → onesK cs = true
  | [], cs, f, h, e => by
    have : cs = [] := List.length_eq_zero_iff.1 (by simpa using e)
    rw [this]; rfl
  | x :: l, cs, f, h, e => by
    obtain ⟨c, cs', f1, f2, rfl, rfl, ⟨rfl, rfl⟩, h2⟩ := h
    simp only [List.cons_append, List.nil_append, ones_cons, one_int, Bool.true_and]
    exact int_ones h2 (by simp at e ⊢; omega)
/-- append([]int(nil), l...). -/
theorem app_ints {H : AHeap} {X : Nat → Bool} {v : Value} {l : List Int} {f : List Nat} {K : Value → AHeap → Prop} {tg : Tag K} (h : Sl .int H v l f) (hl : l.length < 1000000)
    (hk : ∀ v' H' f', Sl .int H' v' l f' → Own H.next H' f' → Old H H' → (∀ c, H'.get c = none → H.get c = none) → (∀ y, H.fz y = true → H'.fz y = true) → K v' H') : cpsA Try.prog X H (appendA Try.prog 23 (.slice none 0 0) v H) K tg := by
  obtain ⟨cs, g, e1, e2, e3, _⟩ := h.src (size := 1) rfl
  have := int_nf e3; subst this
  by_cases h0 : l = []
  · subst h0
    rw [app_none ap_23 e1, cps_same]
    exact hk _ H [] (.inl ⟨rfl, rfl, rfl⟩) ⟨List.nodup_nil, by simp, by simp⟩ (Old.refl H) (fun _ h => h) (fun _ h => h)
  · have hpos : 0 < l.length := List.length_pos_iff.2 h0
    rw [app_nil ap_23 e1 (by omega) hpos, cps_push]
    refine hk _ _ [H.next] (.inr (.inr ⟨H.next, 0, _, _, [], rfl, h0, Nat.le_refl _, rfl, by rw [get_push, if_pos rfl], e3.keep (by simp)⟩)) ⟨by simp, by simp, by simp [next_push]⟩ (Old.push H _) (fun c hc => ?_) (fun y hy => by rw [fz_push, hy, Bool.or_true])
    rw [get_push] at hc
    split at hc
    · cases hc
    · exact hc
theorem copyi_w {H : AHeap} {v : Value} {l : List Int} {f : List Nat} (h : Sl .int H v l f) (hl : l.length < 1000000) :
    FnW Try.prog 54 #[v] H (fun v' H' => Old H H' ∧ ∃ f', Sl .int H' v' l f' ∧ Own H.next H' f') := by
  refine fw_54 (Nat.le_refl _) fun hf => ?_
  simp only [Try.f54, Option.getD_some]
  simp only [go_sem]
  refine app_ints h hl ?_
  intro v' H' f' h1 h2 h3 _ _
  simp only [go_sem]
  exact ⟨h3, f', h1, h2⟩
theorem cut_w {H : AHeap} {v : Value} {l : List Int} {f : List Nat} {n : Nat} (h : Sl .int H v l f) (hn : n < 100000) :
    FnW Try.prog 14 #[v, .int .i64 (n : Nat)] H (fun v' H' => Old H H' ∧ ∃ f', Sl .int H' v' (l.take n) f' ∧ Own H.next H' f') := by
  refine fw_14 (Nat.le_refl _) fun hf => ?_
  simp only [Try.f14, Option.getD_some]
  obtain ⟨a0, c0, hv0⟩ := h.val
  obtain ⟨v1, g, e1, e2, e3⟩ := h.to (P := Try.prog) (t := 23) (k := min l.length n) (by exact el_23) (Nat.min_le_left _ _)
  subst hv0
  simp only [go_sem, Option.map_none, Option.map_some, e1]
  have et : l.take (min l.length n) = l.take n := by
    rcases Nat.le_total l.length n with h | h
    · rw [Nat.min_eq_left h, List.take_length, List.take_of_length_le h]
    · rw [Nat.min_eq_right h]
  rw [et] at e2
  refine Cll.by (copyi_w e2 (by simp; omega)) ?_
  rintro v2 H2 - ⟨hold, f2, hs, ho⟩
  simp only [go_sem]
  exact ⟨hold, f2, hs, ho⟩

theorem wakes_w {H : AHeap} : FnW Try.prog 34 #[] H (fun w H' => Old H H' ∧ w = .bool true) := by
  refine fw_34 (Nat.le_refl _) fun hf => ?_
  simp only [Try.f34, Option.getD_some]
  have hz : Small [] := ⟨by decide, by simp, by simp⟩
  simp only [go_sem]
  refine Cll.by (open_w (l := []) (.inl ⟨rfl, rfl, rfl⟩) (by simp) hz) ?_
  rintro _ H1 - ⟨hold1, v1, f1, rfl, hs1, ho1⟩
  obtain ⟨a1, c1, hv1⟩ := hs1.val
  subst hv1
  simp only [go_sem]
  refine Cll.by (count_w (l := []) (.inl ⟨rfl, rfl, rfl⟩) (by simp) hz) ?_
  rintro _ H2 - ⟨hold2, rfl⟩
  have e0 : (((countL [] : Nat) : Int) = 0) = True := by simp [countL]
  have e1 : (((1 : Nat) : Int) = 1) = True := by simp
  have e2 : (((0 : Nat) : Int) = 0) = True := by simp
  simp only [go_sem, e0, e1, e2]
  exact hold1.trans hold2


def valF (n : Int) : Int × Int := (wIn n 7, wIn (IntKind.wrap .i64 (Int.tdiv n 7)) 8 - 1)
theorem value_w {H : AHeap} {n : Int} : FnW Try.prog 37 #[.int .i64 n] H (fun r H' => r = .agg #[.int .i64 (valF n).1, .int .i64 (valF n).2] ∧ Old H H') := by
  refine fw_37 (Nat.le_refl _) fun hf => ?_
  simp only [Try.f37, Option.getD_some]
  simp only [go_sem]
  refine Cll.by (within_w (by decide)) ?_
  rintro _ _ - ⟨rfl, rfl⟩
  have h7 : (7 : Int) ≠ 0 := by decide
  simp only [go_sem, h7]
  refine Cll.by (within_w (by decide)) ?_
  rintro _ _ - ⟨rfl, rfl⟩
  have hb := wIn_bd (IntKind.wrap .i64 (Int.tdiv n 7)) 8 (by decide)
  have hw := wrap_in (n := wIn (IntKind.wrap .i64 (Int.tdiv n 7)) 8 - 1) (by omega) (by omega)
  have hX : H.fz H.next = false := hf.fresh (Nat.le_refl _)
  simp only [go_sem, hw, hX]
  exact ⟨rfl, Old.push H _⟩

def argsF (n : Int) (k : Nat) : List (Int × Int) := (List.range k).map fun i => valF (IntKind.wrap .i64 (IntKind.wrap .i64 (Int.tdiv n 1000) + (i : Nat)))
theorem argsF_succ (n : Int) (k : Nat) : argsF n (k + 1) = argsF n k ++ [valF (IntKind.wrap .i64 (IntKind.wrap .i64 (Int.tdiv n 1000) + (k : Nat)))] := by
  unfold argsF; rw [List.range_succ, List.map_append]; rfl
theorem argsF_len (n : Int) (k : Nat) : (argsF n k).length = k := by simp [argsF]
def msgF (n : Int) : Msg := (wIn n 5, wIn (IntKind.wrap .i64 (Int.tdiv n 5)) 50, argsF n (wIn (IntKind.wrap .i64 (Int.tdiv n 250)) 3).toNat)
theorem msgF_args (n : Int) : (msgF n).2.2.length < 3 := by
  have := wIn_bd (IntKind.wrap .i64 (Int.tdiv n 250)) 3 (by decide)
  show (argsF n _).length < 3
  rw [argsF_len]; omega
theorem msg_w {H : AHeap} {n : Int} : FnW Try.prog 43 #[.int .i64 n] H (fun r H' => Old H H' ∧ ∃ cs f, r = .agg cs.toArray ∧ msgR.E H' cs (msgF n) f ∧ Own H.next H' f) := by
  refine fw_43 (Nat.le_refl _) fun hf => ?_
  simp only [Try.f43, Option.getD_some]
  have hX : H.fz H.next = false := hf.fresh (Nat.le_refl _)
  have hX1 : H.fz (H.next + 1) = false := hf.fresh (Nat.le_succ _)
  simp only [go_sem]
  refine Cll.by (within_w (by decide)) ?_
  rintro _ _ - ⟨rfl, rfl⟩
  have h5 : (5 : Int) ≠ 0 := by decide
  simp only [go_sem, h5]
  refine Cll.by (within_w (by decide)) ?_
  rintro _ _ - ⟨rfl, rfl⟩
  simp only [go_sem, hX1]
  have hkb := wIn_bd (IntKind.wrap .i64 (Int.tdiv n 250)) 3 (by decide)
  obtain ⟨k, hk⟩ := Int.eq_ofNat_of_zero_le hkb.1
  rw [hk] at hkb
  have hm : msgF n = (wIn n 5, wIn (IntKind.wrap .i64 (Int.tdiv n 5)) 50, argsF n k) := by rw [msgF, hk]; rfl
  have h250 : (250 : Int) ≠ 0 := by decide
  have h1000 : (1000 : Int) ≠ 0 := by decide
  refine w_for 268433424 k (fun i V H1 => V 4 = .int .i64 (i : Nat) ∧ ∃ vm g, H1.get (H.next + 1) = some ⟨[.int .i64 (wIn n 5), .int .i64 (wIn (IntKind.wrap .i64 (Int.tdiv n 5)) 50), vm], 76, false, false⟩ ∧ Ow valR 25 H1 vm (argsF n i) g ∧ Own (H.next + 2) H1 g ∧ Old H H1 ∧ H.next + 2 ≤ H1.next ∧ H1.get H.next = some ⟨[.int .i64 0, .int .i64 0, .slice none 0 0], 76, false, false⟩)
    ⟨by simp only [go_sem]; rfl, .slice none 0 0, [], if_pos rfl, Ow.nil valR 25 _, ⟨by simp, by simp, by simp⟩, ((Old.push H _).trans (Old.push _ _)).upd (Nat.le_succ _) _, Nat.le_refl _, by
      rw [get_upd, if_neg (by omega), get_push, if_neg (by rw [next_push]; omega), get_push, if_pos rfl]⟩ ?_ ?_ (by rfl)
  · rintro i V H1 hi ⟨e4, vm, g, gm, how, hown, hold, hn1, g0⟩
    have hic : ((i : Nat) : Int) < ((k : Nat) : Int) := by omega
    have hXn : H.fz H1.next = false := hf.fresh (by omega)
    simp only [go_sem, e4, h250]
    refine Cll.by (within_w (by decide)) ?_
    rintro _ _ - ⟨rfl, rfl⟩
    simp only [go_sem, e4, hk, hi, gm, h1000]
    refine Cll.by value_w ?_
    rintro _ H2 - ⟨rfl, hold2⟩
    have hn2 := hold2.nx
    have gm2 : H2.get (H.next + 1) = some ⟨[.int .i64 (wIn n 5), .int .i64 (wIn (IntKind.wrap .i64 (Int.tdiv n 5)) 50), vm], 76, false, false⟩ := by rw [hold2.get _ (by omega)]; exact gm
    have hne : ¬ H.next + 1 = H2.next := by omega
    simp only [go_sem, gm2, gm, hne, build_one ap_28 (by decide) (by decide)]
    generalize hval : valF (IntKind.wrap .i64 (IntKind.wrap .i64 (Int.tdiv n 1000) + (i : Nat))) = y
    have h12 : Old H1 (H2.push ⟨[.int .i64 y.1, .int .i64 y.2], 25, false, false⟩) := hold2.trans (Old.push _ _)
    refine cps_app1 (r := valR) (x := y) (g := []) ap_28 (how.keep fun z hz => h12.get z (hown.hi z hz)) (fun z hz => Nat.lt_of_lt_of_le (hown.hi z hz) h12.nx) (by simpa using hown.nd) (by simp) (fun z hz => hf.fresh (by have := hown.lo z hz; omega)) (by rw [get_push, if_pos rfl]) (valR_E.2 ⟨rfl, rfl⟩) rfl (by rw [argsF_len]; omega) ?_
    intro v7 H7 f7 how7 hnd7 hmem7 hhi7 hnx7 hkp7 hfz7 hro7
    have hnx7' : H7.next = H2.next + 2 := hnx7
    have hng : ∀ z, z < H.next + 2 → z ∉ g := fun z hz e => by have := hown.lo z e; omega
    have gm7 : H7.get (H.next + 1) = some ⟨[.int .i64 (wIn n 5), .int .i64 (wIn (IntKind.wrap .i64 (Int.tdiv n 5)) 50), vm], 76, false, false⟩ := by rw [hkp7 _ (by rw [next_push]; omega) (hng _ (by omega)), get_push_lt (by omega)]; exact gm2
    have g07 : H7.get H.next = some ⟨[.int .i64 0, .int .i64 0, .slice none 0 0], 76, false, false⟩ := by rw [hkp7 _ (by rw [next_push]; omega) (hng _ (by omega)), h12.get _ (by omega)]; exact g0
    have hlo7 : ∀ z ∈ f7, H.next + 2 ≤ z := fun z hz => by
      rcases hmem7 z hz with e | e | e
      · rw [next_push] at e; omega
      · exact hown.lo z e
      · cases e
    obtain ⟨a7, c7, hv7⟩ := how7.sl.val
    subst hv7
    have h07 : Old H H7 := by
      have h9 := hold.trans h12
      exact ⟨by omega, fun z hz => by rw [hkp7 z (by rw [next_push]; omega) (hng z (by omega)), h9.get z hz], fun z B hB hr => h9.ro z B (hro7 z B hB hr) hr⟩
    have hws : IntKind.wrap .i64 (((i : Nat) : Int) + 1) = ((i + 1 : Nat) : Int) := wrap_succ hi (by omega)
    simp only [go_sem, gm7, hX1, e4, hws]
    refine ⟨_, f7, rfl, ?_, ⟨hnd7, hlo7, hhi7⟩, h07.upd (by omega) _, by omega, g07⟩
    rw [argsF_succ, hval]
    exact how7.keep fun z hz => by
      have := hlo7 z hz
      rw [get_upd, if_neg (by omega)]
  · rintro V H1 ⟨e4, vm, g, gm, how, hown, hold, hn1, g0⟩
    simp only [go_sem, e4, h250]
    refine Cll.by (within_w (by decide)) ?_
    rintro _ _ - ⟨rfl, rfl⟩
    obtain ⟨a7, c7, hv7⟩ := how.sl.val
    subst hv7
    simp only [go_sem, hk, gm, g0, hX]
    refine ⟨hold.upd (Nat.le_refl _) _, [_, _, _], g, rfl, msgR_E.2 ⟨_, by rw [hm], ?_⟩, ⟨hown.nd, fun z hz => by have := hown.lo z hz; omega, hown.hi⟩⟩
    rw [hm]
    exact how.sl.keep fun z hz => by
      have := hown.lo z hz
      rw [get_upd, if_neg (by omega)]

abbrev rawR : Rp (Bool × List Int) := .pair .bool (.slice .int)
theorem rawR_E {H : AHeap} {cs : List Value} {x : Bool × List Int} {f : List Nat} : rawR.E H cs x f ↔ ∃ v, cs = [.bool x.1, v] ∧ Sl .int H v x.2 f := by
  constructor
  · rintro ⟨c1, c2, f1, f2, rfl, rfl, ⟨rfl, rfl⟩, ⟨v, rfl, h⟩⟩; exact ⟨v, rfl, h⟩
  · rintro ⟨v, rfl, h⟩; exact ⟨[_], [v], [], f, rfl, rfl, ⟨rfl, rfl⟩, ⟨v, rfl, h⟩⟩
theorem copyr_w {H : AHeap} {v : Value} {l : List (Bool × List Int)} {f : List Nat} (h : Sl rawR H v l f) (hlt : ∀ y ∈ f, y < H.next) (hl : l.length < 1000000) :
    FnW Try.prog 71 #[v] H (fun v' H' => Old H H' ∧ ∃ f', Sl rawR H' v' l f' ∧ ∀ y ∈ f', y < H'.next) := by
  refine fw_71 (Nat.le_refl _) fun hf => ?_
  simp only [Try.f71, Option.getD_some]
  simp only [go_sem]
  refine app_all (r := rawR) ap_62 h hlt (by omega) ?_
  intro v' H' f' h1 h2 _ h3 _
  simp only [go_sem]
  exact ⟨h2, f', h1, h3⟩
theorem cutr_w {H : AHeap} {v : Value} {l : List (Bool × List Int)} {f : List Nat} {n : Nat} (h : Sl rawR H v l f) (hlt : ∀ y ∈ f, y < H.next) (hn : n < 100000) :
    FnW Try.prog 62 #[v, .int .i64 (n : Nat)] H (fun v' H' => Old H H' ∧ ∃ f', Sl rawR H' v' (l.take n) f' ∧ ∀ y ∈ f', y < H'.next) := by
  refine fw_62 (Nat.le_refl _) fun hf => ?_
  simp only [Try.f62, Option.getD_some]
  obtain ⟨a0, c0, hv0⟩ := h.val
  obtain ⟨v1, g, e1, e2, e3⟩ := h.to (P := Try.prog) (t := 62) (k := min l.length n) (by exact el_62) (Nat.min_le_left _ _)
  subst hv0
  simp only [go_sem, Option.map_none, Option.map_some, e1]
  have et : l.take (min l.length n) = l.take n := by
    rcases Nat.le_total l.length n with h | h
    · rw [Nat.min_eq_left h, List.take_length, List.take_of_length_le h]
    · rw [Nat.min_eq_right h]
  rw [et] at e2
  refine Cll.by (copyr_w e2 (fun y hy => hlt y (e3 y hy)) (by simp; omega)) ?_
  rintro v2 H2 - ⟨hold, f2, hs, ho⟩
  simp only [go_sem]
  exact ⟨hold, f2, hs, ho⟩

/-- Boxes of raw ones. -/
def ofL (l : List (Bool × List Int)) : List (Bool × List Msg) := (l.take 6).map fun x => (x.1, (x.2.take 5).map msgF)
theorem ofL_small (l : List (Bool × List Int)) : Small (ofL l) := by
  refine ⟨by simp [ofL]; omega, fun x hx => ?_, fun x hx m hm => ?_⟩
  · obtain ⟨y, _, rfl⟩ := List.mem_map.1 hx
    simp; omega
  · obtain ⟨y, _, rfl⟩ := List.mem_map.1 hx
    obtain ⟨n, _, rfl⟩ := List.mem_map.1 hm
    have := msgF_args n; omega
theorem of_w {H : AHeap} {v : Value} {l : List (Bool × List Int)} {f : List Nat} (h : Sl rawR H v l f) (hlt : ∀ y ∈ f, y < H.next) :
    FnW Try.prog 35 #[v] H (fun v' H' => Old H H' ∧ ∃ f', Ow boxO 81 H' v' (ofL l) f' ∧ Own H.next H' f') := by
  refine fw_35 (Nat.le_refl _) fun hf => ?_
  simp only [Try.f35, Option.getD_some]
  simp only [go_sem]
  refine Cll.by (cutr_w (n := 6) h hlt (by decide)) ?_
  rintro vc Hc - ⟨holdc, fc, hsc, hltc⟩
  obtain ⟨a0, c0, hv0⟩ := hsc.val
  have hnc := holdc.nx
  generalize hlc : l.take 6 = lc at hsc hv0
  have hll : lc.length ≤ 6 := by rw [← hlc]; simp; omega
  have hof : ofL l = lc.map fun x => (x.1, (x.2.take 5).map msgF) := by rw [ofL, hlc]
  simp only [go_sem, hv0]
  refine w_for 1099511624040 lc.length (fun i V H1 => V 12 = .int .i64 (i : Nat) ∧ ∃ out g, V 3 = out ∧ Ow boxO 81 H1 out ((lc.take i).map fun x => (x.1, (x.2.take 5).map msgF)) g ∧ Own Hc.next H1 g ∧ Old Hc H1) ⟨by simp only [go_sem]; rfl, _, [], by simp only [go_sem]; rfl, by simpa using Ow.nil boxO 81 Hc, ⟨by simp, by simp, by simp⟩, Old.refl Hc⟩ ?_ ?_ (by rfl)
  · rintro i V H1 hi ⟨e12, out, g, e3, how, hown, holc⟩
    have hold := holdc.trans holc
    have hx0 : lc[i]? = some lc[i] := List.getElem?_eq_getElem hi
    generalize hx : lc[i] = x at hx0
    have hn1 := hold.nx
    have hn1c := holc.nx
    obtain ⟨b, o, c, B, gx, hv, hB, hbf, hgf, hbl, hE⟩ := (hsc.keep fun y hy => holc.get y (hltc y hy)).at hx0
    obtain ⟨v2, hrow, hs2⟩ := rawR_E.1 hE
    obtain ⟨a2, c2, hv2⟩ := hs2.val
    subst hv2
    rw [hv0] at hv
    cases hv
    have hbl' : o + i * 2 + 2 ≤ B.cells.length := hbl
    have hrow' : (B.cells.drop (o + i * 2)).take 2 = [.bool x.1, .slice a2 x.2.length c2] := hrow
    have hX1 : H.fz H1.next = false := hf.fresh hn1
    have hX2 : H.fz (H1.next + 1) = false := hf.fresh (by omega)
    simp only [go_sem, e12, e3, hi, hB, hbl', hrow', hX1, hX2]
    generalize hHb : (((H1.push ⟨[.bool x.1, .slice a2 x.2.length c2], 103, false, false⟩).push ⟨[.bool false, .slice none 0 0], 81, false, false⟩).upd (H1.next + 1) ⟨[.bool x.1, .slice none 0 0], 81, false, false⟩) = Hb
    have hnb : Hb.next = H1.next + 2 := by rw [← hHb]; rfl
    have hob : Old H1 Hb := by rw [← hHb]; exact ((Old.push H1 _).trans (Old.push _ _)).upd (Nat.le_succ _) _
    have gb : Hb.get (H1.next + 1) = some ⟨[.bool x.1, .slice none 0 0], 81, false, false⟩ := by rw [← hHb, get_upd, if_pos rfl]
    have hltx : ∀ y ∈ gx, y < H1.next := fun y hy => by have := hltc y (hgf y hy); omega
    refine Cll.by (cut_w (n := 5) (hs2.keep (H' := Hb) fun y hy => hob.get y (hltx y hy)) (by decide)) ?_
    rintro vd Hd - ⟨holdd, fd, hsd, hod⟩
    obtain ⟨a3, c3, hv3⟩ := hsd.val
    have hnd := holdd.nx
    generalize hld : x.2.take 5 = ld at hsd hv3
    have hlld : ld.length ≤ 5 := by rw [← hld]; simp; omega
    simp only [go_sem, hv3]
    refine w_for 34351350016 ld.length (fun j V' H3 => V' 23 = .int .i64 (j : Nat) ∧ ∃ vm fm, H3.get (H1.next + 1) = some ⟨[.bool x.1, vm], 81, false, false⟩ ∧ Ow msgR 76 H3 vm ((ld.take j).map msgF) fm ∧ Own (H1.next + 2) H3 fm ∧ Old H1 H3 ∧ (∀ y ∈ fd, H3.get y = Hd.get y) ∧ (∀ y ∈ fd, y ∉ fm) ∧ Hd.next ≤ H3.next)
      ⟨by simp only [go_sem]; rfl, .slice none 0 0, [], by rw [holdd.get _ (by omega)]; exact gb, by simpa using Ow.nil msgR 76 _, ⟨by simp, by simp, by simp⟩, hob.trans holdd, fun _ _ => rfl, by simp, Nat.le_refl _⟩ ?_ ?_ (by rfl)
    · rintro j V' H3 hj ⟨e23, vm, fm, gm, howm, hownm, holdm, hkd, hdd, hnm⟩
      have hs3 := hsd.keep (H' := H3) hkd
      obtain ⟨b3, o3, c3', B3, hv3', hB3, hb3f, hc3⟩ := hs3.int_at hj
      rw [hv3] at hv3'
      cases hv3'
      have hX3 : H.fz H3.next = false := hf.fresh (by omega)
      have hne : ¬ H1.next + 1 = H3.next := by omega
      simp only [go_sem, e23, hj, hB3, hc3, gm, hne]
      refine Cll.by msg_w ?_
      rintro _ H5 - ⟨hold5, cs5, f5, rfl, hE5, ho5⟩
      have hn5 : H3.next ≤ H5.next := hold5.nx
      obtain ⟨v5, rfl, hs5⟩ := msgR_E.1 hE5
      obtain ⟨a5, c5, hv5⟩ := hs5.val
      subst hv5
      have gm5 : H5.get (H1.next + 1) = some ⟨[.bool x.1, vm], 81, false, false⟩ := by rw [hold5.get _ (by omega)]; exact gm
      have hne5 : ¬ H1.next + 1 = H5.next := by omega
      generalize hmy : msgF (ld.getD j 0) = my at hE5 hs5
      simp only [go_sem, gm5, gm, hne5, build_one ap_79 (by decide) (by decide)]
      have h35 : Old H3 (H5.push ⟨[.int .i64 my.1, .int .i64 my.2.1, .slice a5 my.2.2.length c5], 76, false, false⟩) := hold5.trans (Old.push _ _)
      have htl : ((ld.take j).map msgF).length = j := by rw [List.length_map, List.length_take]; omega
      refine cps_app1 (r := msgR) (x := my) (g := f5) ap_79 (howm.keep fun y hy => h35.get y (hownm.hi y hy)) (fun y hy => Nat.lt_of_lt_of_le (hownm.hi y hy) h35.nx) (nodup_apart hownm.nd ho5.nd hownm.hi ho5.lo)
        (fun y hy => Nat.lt_succ_of_lt (ho5.hi y hy)) (fun y hy => hf.fresh (by have := hownm.lo y hy; omega)) (by rw [get_push, if_pos rfl]) (msgR_E.2 ⟨_, rfl, hs5.keep fun y hy => get_push_lt (ho5.hi y hy)⟩) rfl (by omega) ?_
      intro v7 H7 f7 how7 hnd7 hmem7 hhi7 hnx7 hkp7 hfz7 hro7
      have hnx7' : H7.next = H5.next + 2 := hnx7
      have hnf : ∀ z, z < H1.next + 2 → z ∉ fm := fun z hz e => by have := hownm.lo _ e; omega
      have gm7 : H7.get (H1.next + 1) = some ⟨[.bool x.1, vm], 81, false, false⟩ := by rw [hkp7 _ (by rw [next_push]; omega) (hnf _ (by omega)), get_push_lt (by omega)]; exact gm5
      have hlo7 : ∀ y ∈ f7, H1.next + 2 ≤ y := fun y hy => by
        rcases hmem7 y hy with e | e | e
        · rw [next_push] at e; omega
        · exact hownm.lo y e
        · have h9 : H3.next ≤ y := ho5.lo y e; omega
      obtain ⟨a7, c7, hv7⟩ := how7.sl.val
      subst hv7
      have h17 : Old H1 H7 := by
        have h9 := holdm.trans h35
        refine ⟨by omega, fun y hy => ?_, fun y B hB hr => h9.ro y B (hro7 y B hB hr) hr⟩
        rw [hkp7 y (by rw [next_push]; omega) (hnf y (by omega)), h9.get y hy]
      have hws : IntKind.wrap .i64 (((j : Nat) : Int) + 1) = ((j + 1 : Nat) : Int) := wrap_succ hj (by omega)
      simp only [go_sem, gm7, hX2, e23, hws]
      have hfdlo : ∀ y ∈ fd, H1.next + 2 ≤ y ∧ y < H3.next := fun y hy => by have := hod.lo y hy; have := hod.hi y hy; omega
      refine ⟨_, f7, rfl, ?_, ⟨hnd7, hlo7, hhi7⟩, h17.upd (by omega) _, fun y hy => ?_, fun y hy e => ?_, by omega⟩
      · rw [show (ld.take (j + 1)).map msgF = (ld.take j).map msgF ++ [my] from by rw [List.take_add_one, List.getElem?_eq_getElem hj, List.map_append, ← hmy]; simp [List.getD_eq_getElem?_getD, hj]]
        exact how7.keep fun y hy => by
          have := hlo7 y hy
          rw [get_upd, if_neg (by omega)]
      · have h1 := hfdlo y hy
        rw [if_neg (by omega), hkp7 y (by rw [next_push]; omega) (hdd y hy), h35.get y h1.2]
        exact hkd y hy
      · have h1 := hfdlo y hy
        rcases hmem7 y e with e | e | e
        · rw [next_push] at e; omega
        · exact hdd y hy e
        · have h9 : H3.next ≤ y := ho5.lo y e; omega
    · rintro V' H3 ⟨e23, vm, fm, gm, howm, hownm, holdm, hkd, hdd, hnm⟩
      rw [List.take_of_length_le (Nat.le_refl _)] at howm
      obtain ⟨am, cm, hvm⟩ := howm.sl.val
      subst hvm
      simp only [go_sem, e23, e12, e3, gm, build_one ap_54 (by decide) (by decide)]
      generalize hmb : ld.map msgF = mb at howm
      have h13 : Old H1 (H3.push ⟨[.bool x.1, .slice am mb.length cm], 81, false, false⟩) := holdm.trans (Old.push _ _)
      have htl : ((lc.take i).map fun x => ((x.1, (x.2.take 5).map msgF) : Bool × List Msg)).length = i := by rw [List.length_map, List.length_take]; omega
      refine cps_app1 (r := boxO) (x := (x.1, mb)) (g := fm) ap_54 (how.keep fun y hy => h13.get y (hown.hi y hy)) (fun y hy => Nat.lt_of_lt_of_le (hown.hi y hy) h13.nx) (nodup_apart hown.nd hownm.nd hown.hi fun y hy => by have := hownm.lo y hy; omega)
        (fun y hy => Nat.lt_succ_of_lt (hownm.hi y hy)) (fun y hy => hf.fresh (by have := hown.lo y hy; omega)) (by rw [get_push, if_pos rfl]) (boxO_E.2 ⟨_, rfl, howm.keep fun y hy => get_push_lt (hownm.hi y hy)⟩) rfl (by omega) ?_
      intro v7 H7 f7 how7 hnd7 hmem7 hhi7 hnx7 hkp7 hfz7 hro7
      have hnx7' : H7.next = H3.next + 2 := hnx7
      simp only [go_sem, e12, wrap_succ hi (by omega)]
      have h07 := holc.trans h13
      have hgl : ∀ z, z < Hc.next → z ∉ g := fun z hz e => by have := hown.lo z e; omega
      refine ⟨_, f7, rfl, ?_, ⟨hnd7, fun y hy => ?_, hhi7⟩, ⟨by omega, fun y hy => ?_, fun y B hB hr => h07.ro y B (hro7 y B hB hr) hr⟩⟩
      · rw [show ((lc.take (i + 1)).map fun x => ((x.1, (x.2.take 5).map msgF) : Bool × List Msg)) = ((lc.take i).map fun x => (x.1, (x.2.take 5).map msgF)) ++ [(x.1, mb)] from by rw [List.take_add_one, hx0, List.map_append, ← hmb, ← hld]; rfl]
        exact how7
      · rcases hmem7 y hy with e | e | e
        · rw [next_push] at e; omega
        · exact hown.lo y e
        · have := hownm.lo y e; omega
      · rw [hkp7 y (by rw [next_push]; omega) (hgl y hy), h07.get y hy]
  · rintro V H1 ⟨e12, out, g, e3, how, hown, holc⟩
    simp only [go_sem, e12, e3]
    rw [List.take_of_length_le (Nat.le_refl _)] at how
    rw [hof]
    exact ⟨holdc.trans holc, g, how, hown.up hnc⟩
end Go.Proofs.Ytgjpcliaggpcaaa.Ab
