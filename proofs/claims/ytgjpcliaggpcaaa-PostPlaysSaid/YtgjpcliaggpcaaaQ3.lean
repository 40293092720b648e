/- The law PostPlays. -/
import Derived.Test.YtgjpcliaggpcaaaQ2
set_option linter.unusedVariables false
set_option linter.unusedSimpArgs false
set_option maxRecDepth 100000
namespace Go.Proofs.Ytgjpcliaggpcaaa.Ab
open Go

/-- Within. -/
def wIn (v n : Int) : Int := if n < 1 then 0 else if Int.tmod v n < 0 then Int.tmod v n + n else Int.tmod v n
theorem wIn_bd (v n : Int) (h : 1 ≤ n) : 0 ≤ wIn v n ∧ wIn v n < n := by
  have h1 : Int.tmod v n < n := Int.tmod_lt_of_pos v (by omega)
  have h2 : -n < Int.tmod v n := by
    have := Int.tmod_lt_of_pos (-v) (show 0 < n by omega)
    rw [Int.neg_tmod] at this
    omega
  unfold wIn
  rw [if_neg (by omega)]
  split <;> omega
theorem wrap_in {n : Int} (h1 : -9223372036854775808 ≤ n) (h2 : n < 9223372036854775808) : IntKind.wrap .i64 n = n := by
  apply wrap_fits
  cases n with
  | ofNat a => show Nat.blt a 9223372036854775808 = true; rw [blt_eq, decide_eq_true_eq]; have : (Int.ofNat a) = (a : Int) := rfl; omega
  | negSucc a => show Nat.blt a 9223372036854775808 = true; rw [blt_eq, decide_eq_true_eq]; have := Int.negSucc_eq a; omega
theorem within_w {H : AHeap} {v n : Int} (hn : n < 4611686018427387904) : FnW Try.prog 19 #[.int .i64 v, .int .i64 n] H (fun r H' => r = .int .i64 (wIn v n) ∧ H = H') := by
  refine fw_19 (Nat.le_refl _) fun hf => ?_
  simp only [Try.f19, Option.getD_some]
  by_cases h1 : n < 1
  · simp only [go_sem, h1]
    simp [wIn, h1]
  · have hn0 : n ≠ 0 := by omega
    have b1 : Int.tmod v n < n := Int.tmod_lt_of_pos v (by omega)
    have b2 : -n < Int.tmod v n := by
      have := Int.tmod_lt_of_pos (-v) (show 0 < n by omega)
      rw [Int.neg_tmod] at this
      omega
    by_cases h2 : Int.tmod v n < 0
    · have hw := wrap_in (n := Int.tmod v n + n) (by omega) (by omega)
      simp only [go_sem, h1, hn0, h2, hw]
      simp [wIn, h1, h2]
    · simp only [go_sem, h1, hn0, h2]
      simp [wIn, h1, h2]

theorem int_nf {H : AHeap} : ∀ {l : List Int} {cs : List Value} {f : List Nat}, Arr Rp.int H cs l f → f = []
  | [], cs, f, h => h
  | x :: l, cs, f, h => by
    obtain ⟨c, cs', f1, f2, rfl, rfl, ⟨rfl, rfl⟩, h2⟩ := h
    rw [int_nf h2]; rfl
theorem int_ones {H : AHeap} : ∀ {l : List Int} {cs : List Value} {f : List Nat}, Arr Rp.int H cs l f → cs.length = l.length → onesK cs = true
  | [], cs, f, h, e => by
    have : cs = [] := List.length_eq_zero_iff.1 (by simpa using e)
    rw [this]; rfl
  | x :: l, cs, f, h, e => by
    obtain ⟨c, cs', f1, f2, rfl, rfl, ⟨rfl, rfl⟩, h2⟩ := h
    simp only [List.cons_append, List.nil_append, ones_cons, one_int, Bool.true_and]
    exact int_ones h2 (by simp at e ⊢; omega)
/-- append([]int(nil), l...). -/
theorem app_ints {H : AHeap} {X : Nat → Bool} {v : Value} {l : List Int} {f : List Nat} {K : Value → AHeap → Prop} {tg : Tag K} (h : Sl .int H v l f) (hl : l.length < 1000000)
    (hk : ∀ v' H' f', Sl .int H' v' l f' → Own H.next H' f' → Old H H' → (∀ c, H'.get c = none → H.get c = none) → (∀ y, H.fz y = true → H'.fz y = true) → K v' H') : cpsA Try.prog X H (appendA Try.prog 23 (.slice none 0 0) v H) K tg := by
  obtain ⟨cs, g, e1, e2, e3, _⟩ := h.src (size := 1) rfl
  have := int_nf e3; subst this
  by_cases h0 : l = []
  · subst h0
    rw [app_none ap_23 e1, cps_same]
    exact hk _ H [] (.inl ⟨rfl, rfl, rfl⟩) ⟨List.nodup_nil, by simp, by simp⟩ (Old.refl H) (fun _ h => h) (fun _ h => h)
  · have hpos : 0 < l.length := List.length_pos_iff.2 h0
    rw [app_nil ap_23 e1 (by omega) hpos, cps_push]
    refine hk _ _ [H.next] (.inr (.inr ⟨H.next, 0, _, _, [], rfl, h0, Nat.le_refl _, rfl, by rw [get_push, if_pos rfl], e3.keep (by simp)⟩)) ⟨by simp, by simp, by simp [next_push]⟩ (Old.push H _) (fun c hc => ?_) (fun y hy => by rw [fz_push, hy, Bool.or_true])
    rw [get_push] at hc
    split at hc
    · cases hc
    · exact hc
theorem copyi_w {H : AHeap} {v : Value} {l : List Int} {f : List Nat} (h : Sl .int H v l f) (hl : l.length < 1000000) :
    FnW Try.prog 54 #[v] H (fun v' H' => Old H H' ∧ ∃ f', Sl .int H' v' l f' ∧ Own H.next H' f') := by
  refine fw_54 (Nat.le_refl _) fun hf => ?_
  simp only [Try.f54, Option.getD_some]
  simp only [go_sem]
  refine app_ints h hl ?_
  intro v' H' f' h1 h2 h3 _ _
  simp only [go_sem]
  exact ⟨h3, f', h1, h2⟩
theorem cut_w {H : AHeap} {v : Value} {l : List Int} {f : List Nat} {n : Nat} (h : Sl .int H v l f) (hn : n < 100000) :
    FnW Try.prog 14 #[v, .int .i64 (n : Nat)] H (fun v' H' => Old H H' ∧ ∃ f', Sl .int H' v' (l.take n) f' ∧ Own H.next H' f') := by
  refine fw_14 (Nat.le_refl _) fun hf => ?_
  simp only [Try.f14, Option.getD_some]
  obtain ⟨a0, c0, hv0⟩ := h.val
  obtain ⟨v1, g, e1, e2, e3⟩ := h.to (P := Try.prog) (t := 23) (k := min l.length n) (by exact el_23) (Nat.min_le_left _ _)
  subst hv0
  simp only [go_sem, Option.map_none, Option.map_some, e1]
  have et : l.take (min l.length n) = l.take n := by
    rcases Nat.le_total l.length n with h | h
    · rw [Nat.min_eq_left h, List.take_length, List.take_of_length_le h]
    · rw [Nat.min_eq_right h]
  rw [et] at e2
  refine Cll.by (copyi_w e2 (by simp; omega)) ?_
  rintro v2 H2 - ⟨hold, f2, hs, ho⟩
  simp only [go_sem]
  exact ⟨hold, f2, hs, ho⟩

theorem un_bool : Try.prog.underlying 4 = some .bool := by kernel_rfl
theorem neq_bool {a b : Bool} {h : KH} : binO Try.prog .neq 4 (.bool a) (.bool b) h = .ok (.bool (!(a == b))) h := by
  simp only [binO, binK, eqK_at, un_bool]
  cases a <;> cases b <;> rfl

theorem wakes_w {H : AHeap} : FnW Try.prog 34 #[] H (fun w H' => Old H H' ∧ w = .bool true) := by
  refine fw_34 (Nat.le_refl _) fun hf => ?_
  simp only [Try.f34, Option.getD_some]
  have hz : Small [] := ⟨by decide, by simp, by simp⟩
  simp only [go_sem]
  refine Cll.by (open_w (l := []) (.inl ⟨rfl, rfl, rfl⟩) (by simp) hz) ?_
  rintro _ H1 - ⟨hold1, v1, f1, rfl, hs1, ho1⟩
  obtain ⟨a1, c1, hv1⟩ := hs1.val
  subst hv1
  simp only [go_sem]
  refine Cll.by (count_w (l := []) (.inl ⟨rfl, rfl, rfl⟩) (by simp) hz) ?_
  rintro _ H2 - ⟨hold2, rfl⟩
  have e0 : (((countL [] : Nat) : Int) = 0) = True := by simp [countL]
  have e1 : (((1 : Nat) : Int) = 1) = True := by simp
  have e2 : (((0 : Nat) : Int) = 0) = True := by simp
  simp only [go_sem, e0, e1, e2]
  exact hold1.trans hold2

abbrev rowsO : Rp (List Int) := .own .int 3
def ids (x : Bool × List Msg) : List Int := x.2.map (·.2.1)
structure Play (Hc H1 : AHeap) (i : Nat) (L : List (Bool × List Msg)) (vl vh vf : Value) (fl fh ff : List Nat) : Prop where
  l : Sl boxR H1 vl L fl
  h : Ow rowsO 23 H1 vh (L.map ids) fh
  f : Ow .bool 4 H1 vf (L.map (·.1)) ff
  own : Own Hc.next H1 (fl ++ (fh ++ ff))
  old : Old Hc H1
  len : L.length ≤ i
  mail : ∀ x ∈ L, x.2.length ≤ i
  args : ∀ x ∈ L, ∀ m ∈ x.2, m.2.2 = []
theorem Play.small {Hc H1 : AHeap} {i : Nat} {L : List (Bool × List Msg)} {vl vh vf : Value} {fl fh ff : List Nat} (h : Play Hc H1 i L vl vh vf fl fh ff) (hi : i < 1000) : Small L :=
  ⟨by have := h.len; omega, fun x hx => by have := h.mail x hx; omega, fun x hx m hm => by rw [h.args x hx m hm]; decide⟩

theorem postPlays_w {H : AHeap} {v : Value} {xs : List Int} {f : List Nat} (h : Sl .int H v xs f) (hlt : ∀ y ∈ f, y < H.next) : FnW Try.prog 9 #[v] H (fun w _ => w = .bool true) := by
  refine fw_9 (Nat.le_refl _) fun hf => ?_
  simp only [Try.f9, Option.getD_some]
  simp only [go_sem]
  refine Cll.by (cut_w (n := 50) h (by decide)) ?_
  rintro v1 Hc - ⟨holdc, fc, hsc, hoc⟩
  generalize hL : xs.take 50 = A at hsc
  have hA50 : A.length ≤ 50 := by rw [← hL]; simp; omega
  obtain ⟨a1, c1, hv1⟩ := hsc.val
  simp only [go_sem, hv1]
  refine w_for 182687704666362864775460604089535377456983212028 A.length (fun i V H1 => V 23 = .int .i64 (i : Nat) ∧ ∃ L fl fh ff, Play Hc H1 i L (V 3) (V 4) (V 5) fl fh ff)
    ⟨by simp only [go_sem]; rfl, [], [], [], [], ⟨.inl ⟨by simp only [go_sem], rfl, rfl⟩, .inl ⟨by simp only [go_sem], rfl, rfl⟩, .inl ⟨by simp only [go_sem], rfl, rfl⟩, ⟨by simp, by simp, by simp⟩, Old.refl Hc, Nat.le_refl _, by simp, by simp⟩⟩ ?_ ?_ (by rfl)
  · rintro i V H1 hi ⟨e23, L, fl, fh, ff, hP⟩
    have hX : ∀ y, Hc.next ≤ y → H.fz y = false := fun y hy => hf.fresh (Nat.le_trans holdc.nx hy)
    obtain ⟨b, o, c, B, hv, hB, _, hcell⟩ := (hsc.keep fun y hy => hP.old.get y (hoc.hi y hy)).int_at hi
    rw [hv1] at hv
    cases hv
    generalize hx : A.getD i 0 = x at hcell
    have hlen := hP.len
    have hw1 := wrap_succ hi (show A.length < 4611686018427387904 by omega)
    have hsm := hP.small (by omega)
    obtain ⟨al, cl, hvl⟩ := hP.l.val
    obtain ⟨ah, ch, hvh⟩ := hP.h.sl.val
    rw [List.length_map] at hvh
    have n5 : (5 : Int) ≠ 0 := by decide
    have hfl : ∀ y ∈ fl, y < H1.next := fun y hy => hP.own.hi y (by simp [hy])
    have hfh : ∀ y ∈ fh, y < H1.next := fun y hy => hP.own.hi y (by simp [hy])
    have hff : ∀ y ∈ ff, y < H1.next := fun y hy => hP.own.hi y (by simp [hy])
    by_cases hop : L.length = 0 ∨ Int.tmod x 5 = 0
    · have e2 : (((L.length : Nat) : Int) = 0) = True ∨ ((((L.length : Nat) : Int) = 0) = False ∧ (Int.tmod x 5 = 0)) := by
        by_cases h0 : L.length = 0
        · left; simp [h0]
        · right; exact ⟨eq_false (by omega), by rcases hop with h | h; exact absurd h h0; exact h⟩
      rcases e2 with e2 | ⟨e2, e3⟩
      have e3 := e2
      all_goals
        simp only [go_sem, e23, hi, hB, hcell, hvl, e2, n5, e3]
        refine Cll.by (open_w (hvl ▸ hP.l) hfl hsm) ?_
        rintro _ H2 - ⟨hold2, v2, f2, rfl, hs2, ho2⟩
        obtain ⟨a2, c2, hv2⟩ := hs2.val
        subst hv2
        have hw9 : IntKind.wrap .i64 (((L.length : Nat) : Int) + 1) = ((L.length + 1 : Nat) : Int) := wrap_add (k := 1) (by omega)
        simp only [go_sem, hvl, hw9, List.length_append, build_one ap_61 (by decide) (by decide)]
        have h02 := hP.old.trans hold2
        have hn2 := hold2.nx
        have kp : ∀ y, y < H1.next → (H2.push ⟨[.slice none 0 0], 23, false, false⟩).get y = H1.get y := fun y hy => by rw [get_push_lt (by omega)]; exact hold2.get y hy
        have ofh : Own Hc.next H1 fh := hP.own.few fun z => by simp only [List.count_append]; omega
        have off : Own Hc.next H1 ff := hP.own.few fun z => by simp only [List.count_append]; omega
        refine cps_snoc (Hb := Hc) (r := rowsO) (x := []) (g := []) ap_61 (hP.h.keep fun y hy => kp y (hfh y hy)) (h02.trans (Old.push _ _)) (ofh.on (Nat.le_succ_of_le hn2)) ⟨by simp, by simp, by simp⟩ (by simp) (fun y hy => hX y (ofh.lo y hy)) (by rw [get_push, if_pos rfl]) ⟨_, rfl, Ow.nil _ _ _⟩ rfl (by rw [List.length_map]; omega) ?_
        intro v4 H4 f4 how4 ho4 hmem4 hnx4 hkp4 hold4
        have hnx4' : H4.next = H2.next + 2 := hnx4
        simp only [go_sem, build_one ap_73 (by decide) (by decide)]
        have kp4 : ∀ y, y < H1.next → y ∉ fh → (H4.push ⟨[.bool false], 4, false, false⟩).get y = H1.get y := fun y hy hn => by
          rw [get_push_lt (by omega), hkp4 y (by rw [next_push]; omega) hn]; exact kp y hy
        have hcnt := List.nodup_iff_count.1 hP.own.nd
        have hdis : ∀ y ∈ ff, y ∉ fh := fun y hy hy2 => by
          have h1 := hcnt y
          simp only [List.count_append] at h1
          have h2 := List.count_pos_iff.2 hy
          have h3 := List.count_pos_iff.2 hy2
          omega
        refine cps_snoc (Hb := Hc) (r := .bool) (x := false) (g := []) ap_73 (hP.f.keep fun y hy => kp4 y (hff y hy) (hdis y hy)) (hold4.trans (Old.push _ _)) (off.on (by rw [next_push]; omega)) ⟨by simp, by simp, by simp⟩ (by simp) (fun y hy => hX y (off.lo y hy)) (by rw [get_push, if_pos rfl]) (Rp.bool_E.2 ⟨rfl, rfl⟩) rfl (by rw [List.length_map]; omega) ?_
        intro v6 H6 f6 how6 ho6 hmem6 hnx6 hkp6 hold6
        have hnx6' : H6.next = H4.next + 2 := hnx6
        simp only [go_sem, e23, hw1]
        have m4 : ∀ y ∈ f4, y = H2.next + 1 ∨ y ∈ fh := fun y hy => by
          rcases hmem4 y hy with e | e | e
          · exact .inl e
          · exact .inr e
          · cases e
        have m6 : ∀ y ∈ f6, y = H4.next + 1 ∨ y ∈ ff := fun y hy => by
          rcases hmem6 y hy with e | e | e
          · exact .inl e
          · exact .inr e
          · cases e
        have hs2' : Sl boxR H2 (.slice a2 (L.length + 1) c2) (L ++ [(false, [])]) f2 := by
          have := hs2
          rwa [show (L ++ [((false : Bool), ([] : List Msg))]).length = L.length + 1 by simp] at this
        refine ⟨L ++ [(false, [])], f2, f4, f6, hs2'.keep fun y hy => ?_, ?_, by rw [List.map_append]; exact how6, ⟨?_, fun y hy => ?_, fun y hy => ?_⟩, hold6, by simp; omega, fun z hz => ?_, fun z hz => ?_⟩
        · have h1 := ho2.lo y hy
          have h2 := ho2.hi y hy
          rw [hkp6 y (by rw [next_push]; omega) (fun e => by have := hff y e; omega), get_push_lt (by omega), hkp4 y (by rw [next_push]; omega) (fun e => by have := hfh y e; omega), get_push_lt (by omega)]
        · rw [List.map_append]
          refine how4.keep fun y hy => ?_
          have h4 := ho4.hi y hy
          have : y ∉ ff := fun e => by
            rcases m4 y hy with h | h
            · have := hff y e; omega
            · exact hdis y e h
          rw [hkp6 y (by rw [next_push]; omega) this, get_push_lt (by omega)]
        · rw [List.nodup_append]
          refine ⟨ho2.nd, ?_, fun a ha c hc e => ?_⟩
          · rw [List.nodup_append]
            refine ⟨ho4.nd, ho6.nd, fun a ha c hc e => ?_⟩
            subst e
            rcases m4 a ha with h | h <;> rcases m6 a hc with h' | h'
            · omega
            · have := hff a h'; omega
            · have := hfh a h; omega
            · exact hdis a h' h
          · subst e
            have h1 := ho2.lo a ha
            have h2 := ho2.hi a ha
            rcases List.mem_append.1 hc with hc | hc
            · rcases m4 a hc with h | h
              · omega
              · have := hfh a h; omega
            · rcases m6 a hc with h | h
              · omega
              · have := hff a h; omega
        · have := hP.old.nx
          rcases List.mem_append.1 hy with e | e
          · have := ho2.lo y e; omega
          · rcases List.mem_append.1 e with e | e
            · exact ho4.lo y e
            · exact ho6.lo y e
        · rcases List.mem_append.1 hy with e | e
          · have := ho2.hi y e; omega
          · rcases List.mem_append.1 e with e | e
            · have := ho4.hi y e; omega
            · exact ho6.hi y e
        · rcases List.mem_append.1 hz with e | e
          · have := hP.mail z e; omega
          · rw [List.mem_singleton.1 e]; simp
        · rcases List.mem_append.1 hz with e | e
          · exact hP.args z e
          · rw [List.mem_singleton.1 e]; simp
    · have hL0 : 0 < L.length := by omega
      have e2 : (((L.length : Nat) : Int) = 0) = False := eq_false (by omega)
      have e3 : (Int.tmod x 5 = 0) = False := eq_false (by omega)
      have bn := wIn_bd (IntKind.wrap .i64 (Int.tdiv x 5)) (L.length : Nat) (by omega)
      obtain ⟨k, hk⟩ := Int.eq_ofNat_of_zero_le bn.1
      have hkL : k < L.length := by omega
      have b5 := wIn_bd x 5 (by decide)
      obtain ⟨w, hw⟩ := Int.eq_ofNat_of_zero_le b5.1
      have hw5 : w < 5 := by omega
      simp only [go_sem, e23, hi, hB, hcell, hvl, e2, n5, e3]
      refine Cll.by (within_w (n := (L.length : Nat)) (by omega)) ?_
      rintro _ _ - ⟨rfl, rfl⟩
      simp only [go_sem, hk]
      refine Cll.by (within_w (n := 5) (by decide)) ?_
      rintro _ _ - ⟨rfl, rfl⟩
      simp only [go_sem, hw]
      have ofh : Own Hc.next H1 fh := hP.own.few fun z => by simp only [List.count_append]; omega
      have off : Own Hc.next H1 ff := hP.own.few fun z => by simp only [List.count_append]; omega
      have hcnt := List.nodup_iff_count.1 hP.own.nd
      have hdis : ∀ y ∈ ff, y ∉ fh := fun y hy hy2 => by
        have h1 := hcnt y
        simp only [List.count_append] at h1
        have h2 := List.count_pos_iff.2 hy
        have h3 := List.count_pos_iff.2 hy2
        omega
      by_cases w12 : w = 1 ∨ w = 2
      · have q12 : ((((w : Nat) : Int) = 1) = True) ∨ ((((w : Nat) : Int) = 1) = False ∧ (((w : Nat) : Int) = 2) = True) := by
          rcases w12 with h | h
          · left; rw [h]; simp
          · right; rw [h]; exact ⟨eq_false (by omega), by simp⟩
        have hw12 : ∀ K : Prop, K → K := fun _ h => h
        rcases q12 with q1 | ⟨q1, q2⟩
        have q2 := q1
        all_goals
          simp only [go_sem, q1, q2]
          refine Cll.by (put_w (m := (0, (i : Int), [])) (cs := [.int .i64 0, .int .i64 (i : Int), .slice none 0 0]) (fm := []) (hvl ▸ hP.l) hfl hsm (msgR_E.2 ⟨_, rfl, .inl ⟨rfl, rfl, rfl⟩⟩) (by simp) (by show 0 < 1000000; decide)) ?_
          rintro v2 H2 - ⟨hold2, f2, hs2, ho2⟩
          have hn2 := hold2.nx
          have hpl : putL L (k : Int) (0, (i : Int), []) = L.set k (L[k].1, L[k].2 ++ [(0, (i : Int), [])]) := by
            rw [putL, if_pos (by simp [thereB]; exact hkL)]
            rw [show ((k : Int).toNat) = k from rfl, List.getD_eq_getElem?_getD, List.getElem?_eq_getElem hkL]; rfl
          rw [hpl] at hs2
          obtain ⟨a2, c2, hv2⟩ := hs2.val
          rw [List.length_set] at hv2
          obtain ⟨bh, csh, g1, g2, g3, hvh', hBh, hfhe, hblh, hEh, hputh⟩ := (hP.h.keep (H' := H2) fun y hy => hold2.get y (hfh y hy)).put (i := k) (by rw [List.length_map]; exact hkL)
          rw [List.length_map] at hvh'
          obtain ⟨vk, hrowk, howk⟩ := hEh
          have hlh : k < csh.length := by have : k * 1 + 1 ≤ csh.length := hblh; omega
          have hlh' : k + 1 ≤ csh.length := hlh
          have hcellk : csh[k]? = some vk := by
            have : ((csh.drop (k * 1)).take 1)[0]? = some vk := by rw [show (csh.drop (k * 1)).take 1 = _ from hrowk]; rfl
            rw [List.getElem?_take, if_pos (by decide), List.getElem?_drop, Nat.mul_one, Nat.add_zero] at this
            exact this
          have mbh : bh ∈ fh := by rw [hfhe]; simp
          have mg2 : ∀ y ∈ g2, y ∈ fh := fun y hy => by rw [hfhe]; simp [hy]
          have hXh := hX bh (ofh.lo bh mbh)
          have hbh1 := hfh bh mbh
          have nl : (L.length = L.length) = True := eq_self _
          simp only [go_sem, hvh', hkL, hBh, hcellk, build_one ap_23 (by decide) (by decide)]
          have hfc := List.nodup_iff_count.1 ofh.nd
          rw [hfhe] at hfc
          have hbg2 : bh ∉ g2 := fun e => by
            have h1 := hfc bh
            simp only [List.count_cons, List.count_append] at h1
            have := List.count_pos_iff.2 e
            simp at h1; omega
          have og2 : Own Hc.next H1 g2 := ofh.few fun z => by rw [hfhe]; simp only [List.count_cons, List.count_append]; omega
          have h02 := hP.old.trans hold2
          have hmk : (L.map ids)[k]'(by rw [List.length_map]; exact hkL) = ids L[k] := List.getElem_map ..
          rw [hmk] at howk
          have hml := hP.mail _ (List.getElem_mem hkL)
          refine cps_snoc (Hb := Hc) (r := .int) (x := (i : Int)) (g := []) ap_23 (howk.keep fun y hy => by have := hfh y (mg2 y hy); rw [get_push_lt (by omega)]) (h02.trans (Old.push _ _)) (og2.on (Nat.le_succ_of_le hn2)) ⟨by simp, by simp, by simp⟩ (by simp) (fun y hy => hX y (og2.lo y hy)) (by rw [get_push, if_pos rfl]) (Rp.int_E.2 ⟨rfl, rfl⟩) rfl (by rw [ids, List.length_map]; omega) ?_
          intro v7 H7 g7 how7 ho7 hmem7 hnx7 hkp7 hold7
          have hnx7' : H7.next = H2.next + 2 := hnx7
          have m7 : ∀ y ∈ g7, y = H2.next + 1 ∨ y ∈ g2 := fun y hy => by
            rcases hmem7 y hy with e | e | e
            · exact .inl e
            · exact .inr e
            · cases e
          have kp7 : ∀ y, y < H2.next → y ∉ g2 → H7.get y = H2.get y := fun y hy hn => by
            rw [hkp7 y (by rw [next_push]; omega) hn, get_push_lt hy]
          have hB7 : H7.get bh = some ⟨csh, 23, true, false⟩ := by rw [kp7 bh (by omega) hbg2]; exact hBh
          obtain ⟨a7, c7, hv7⟩ := how7.sl.val
          rw [hv7] at how7 ⊢
          simp only [go_sem, hvh', hkL, hB7, hlh, hlh', hXh, hv2, nl, e23, hw1]
          have hnbf : ∀ y, y ∈ ff → y ≠ bh := fun y hy e => hdis y hy (e ▸ mbh)
          have hcz : ∀ z, List.count z (bh :: (g1 ++ (g2 ++ g3))) ≤ 1 := hfc
          have hgk : ∀ z, z ∈ g1 ∨ z ∈ g3 → z ≠ bh ∧ z ∉ g2 := fun z hz => by
            have h1 := hcz z
            simp only [List.count_cons, List.count_append] at h1
            have h2 : 0 < List.count z g1 + List.count z g3 := by rcases hz with h | h <;> (have := List.count_pos_iff.2 h; omega)
            exact ⟨fun e => by subst e; simp at h1; omega, fun e => by have := List.count_pos_iff.2 e; omega⟩
          have hg7b : ∀ y ∈ g7, y ≠ bh := fun y hy e => by
            rcases m7 y hy with h | h
            · omega
            · exact hbg2 (e ▸ h)
          refine ⟨L.set k (L[k].1, L[k].2 ++ [(0, (i : Int), [])]), f2, bh :: (g1 ++ (g7 ++ g3)), ff, ?_, ?_, ?_, ?_, hold7.upd (ofh.lo bh mbh) _, by rw [List.length_set]; omega, fun z hz => ?_, fun z hz => ?_⟩
          · rw [hv2] at hs2
            refine hs2.keep fun y hy => ?_
            have h1 := ho2.lo y hy
            have h2 := ho2.hi y hy
            rw [get_upd, if_neg (fun e => by omega), kp7 y h2 (fun e => by have := hfh y (mg2 y e); omega)]
          · rw [List.map_set, ← hvh', show ids (L[k].1, L[k].2 ++ [(0, (i : Int), [])]) = ids L[k] ++ [(i : Int)] by simp [ids]]
            refine hputh _ [.slice a7 (ids L[k] ++ [(i : Int)]).length c7] (ids L[k] ++ [(i : Int)]) g7 (fun z hz => ?_) ?_ ⟨_, rfl, how7.keep fun y hy => by rw [get_upd, if_neg (hg7b y hy)]⟩
            · have hz1 := hgk z hz
              have hz2 : z < H1.next := hfh z (by rw [hfhe]; rcases hz with h | h <;> simp [h])
              rw [get_upd, if_neg hz1.1, kp7 z (by omega) hz1.2]
            · rw [get_upd, if_pos rfl, splice_one (by show k * 1 < _; rw [Nat.mul_one]; exact hlh)]
              show some _ = some _
              rw [show k * rowsO.sz = k from Nat.mul_one k]
          · rw [List.map_set]
            have e1 : (L.map (·.1)).set k L[k].1 = L.map (·.1) := by
              refine List.ext_getElem? fun j => ?_
              rw [List.getElem?_set]
              by_cases h : k = j
              · subst h; simp [hkL]
              · simp [h]
            rw [e1]
            refine hP.f.keep fun y hy => ?_
            rw [get_upd, if_neg (hnbf y hy), kp7 y (by have := hff y hy; omega) (fun e => hdis y hy (mg2 y e)), hold2.get y (hff y hy)]
          · have hsw := Own.swap (f1 := []) (f2 := fl) (f3 := fh ++ ff) hP.own (H3 := H2) (ho2.up hP.old.nx) (fun y hy => .inl (ho2.lo y hy)) hn2
            rw [hfhe] at hsw
            have hsw2 : Own Hc.next H2 ((f2 ++ bh :: g1) ++ (g2 ++ (g3 ++ ff))) := hsw.few fun z => by
              simp only [List.count_append, List.count_cons, List.nil_append]; omega
            have hsw3 := hsw2.swap ho7 (fun y hy => by
              rcases m7 y hy with h | h
              · left; omega
              · exact .inr h) (by omega)
            have hsw4 : Own Hc.next H7 (f2 ++ ((bh :: (g1 ++ (g7 ++ g3))) ++ ff)) := hsw3.few fun z => by
              simp only [List.count_append, List.count_cons, List.cons_append]; omega
            exact ⟨hsw4.nd, hsw4.lo, hsw4.hi⟩
          · rcases List.mem_or_eq_of_mem_set hz with e | e
            · have := hP.mail z e; omega
            · rw [e]; simp; omega
          · rcases List.mem_or_eq_of_mem_set hz with e | e
            · exact hP.args z e
            · rw [e]; intro m hm
              rcases List.mem_append.1 hm with h | h
              · exact hP.args _ (List.getElem_mem hkL) m h
              · rw [List.mem_singleton.1 h]
      · by_cases w3 : w = 3
        · have q1 : (((w : Nat) : Int) = 1) = False := eq_false (by omega)
          have q2 : (((w : Nat) : Int) = 2) = False := eq_false (by omega)
          have q3 : (((w : Nat) : Int) = 3) = True := eq_true (by omega)
          have n50 : (50 : Int) ≠ 0 := by decide
          have ba := wIn_bd (IntKind.wrap .i64 (Int.tdiv x 50)) 4 (by decide)
          obtain ⟨an, han⟩ := Int.eq_ofNat_of_zero_le ba.1
          have han4 : an < 4 := by omega
          simp only [go_sem, q1, q2, q3, n50]
          refine Cll.by (within_w (n := 4) (by decide)) ?_
          rintro _ _ - ⟨rfl, rfl⟩
          simp only [go_sem, han]
          refine Cll.by (take_w (hvl ▸ hP.l) hfl hsm) ?_
          rintro _ H2 - ⟨hold2, v2, cs2, f2, fm, rfl, hs2, hmE, ho2⟩
          have hn2 := hold2.nx
          obtain ⟨vA, rfl, hsA⟩ := msgR_E.1 hmE
          obtain ⟨aA, cA, hvA⟩ := hsA.val
          subst hvA
          have hgd : L.getD k (false, []) = L[k] := by rw [List.getD_eq_getElem?_getD, List.getElem?_eq_getElem hkL]; rfl
          have hhas : hasM L (k : Int) (an : Int) = decide (an < (ids L[k]).length) := by
            rw [hasM, show ((k : Int).toNat) = k from rfl, hgd]
            have e1 : thereB (k : Int) L.length = true := by simp [thereB]; exact hkL
            rw [e1, ids, List.length_map]
            simp
          have hX2 := hX H2.next (Nat.le_trans hP.old.nx hn2)
          obtain ⟨bh, csh, g1, g2, g3, hvh', hBh, hfhe, hblh, hEh, hputh⟩ := (hP.h.keep (H' := H2) fun y hy => hold2.get y (hfh y hy)).put (i := k) (by rw [List.length_map]; exact hkL)
          rw [List.length_map] at hvh'
          obtain ⟨vk, hrowk, howk⟩ := hEh
          have hlh : k < csh.length := by have : k * 1 + 1 ≤ csh.length := hblh; omega
          have hlh' : k + 1 ≤ csh.length := hlh
          have hcellk : csh[k]? = some vk := by
            have : ((csh.drop (k * 1)).take 1)[0]? = some vk := by rw [show (csh.drop (k * 1)).take 1 = _ from hrowk]; rfl
            rw [List.getElem?_take, if_pos (by decide), List.getElem?_drop, Nat.mul_one, Nat.add_zero] at this
            exact this
          have mbh : bh ∈ fh := by rw [hfhe]; simp
          have hbh1 := hfh bh mbh
          have hne : ¬ bh = H2.next := by omega
          have hmk : (L.map ids)[k]'(by rw [List.length_map]; exact hkL) = ids L[k] := List.getElem_map ..
          rw [hmk] at howk
          obtain ⟨ak, ck, hvk⟩ := howk.sl.val
          subst hvk
          have nl : (L.length = L.length) = True := eq_self _
          have hb0 : (!((false : Bool) == false)) = false := rfl
          have hb1 : (!((true : Bool) == true)) = false := rfl
          by_cases hok : an < (ids L[k]).length
          · have hh : hasM L (k : Int) (an : Int) = true := by rw [hhas]; exact decide_eq_true hok
            have hmid : (takeM L (k : Int) (an : Int)).2.1 = (ids L[k]).getD an 0 := by
              rw [takeM, if_pos hh, show ((k : Int).toNat) = k from rfl, show ((an : Int).toNat) = an from rfl, hgd]
              simp [ids, List.getD_eq_getElem?_getD]
              cases L[k].2[an]? <;> rfl
            obtain ⟨b7, o7, c7, B7, hv7, hB7, hb7f, hc7⟩ := howk.sl.int_at hok
            rw [hmid, hh]
            have mg2 : ∀ y ∈ g2, y ∈ fh := fun y hy => by rw [hfhe]; simp [hy]
            cases hv7
            have hne7 : ¬ b7 = H2.next := by have := hfh b7 (mg2 b7 hb7f); omega
            have hs3 : Sl .int (H2.push ⟨[.int .i64 (takeM L (k : Int) (an : Int)).1, .int .i64 ((ids L[k]).getD an 0), .slice aA (takeM L (k : Int) (an : Int)).2.2.length cA], 76, false, false⟩) (.slice (some ⟨b7, o7, none⟩) (ids L[k]).length ck) (ids L[k]) g2 := howk.sl.keep fun y hy => get_push_lt (by have := hfh y (mg2 y hy); omega)
            obtain ⟨vt, gt, et, st, subt⟩ := hs3.to (P := Try.prog) (t := 23) (k := an) (by exact el_23) (by omega)
            obtain ⟨vd, ed, csd, gd, sd, ld, Ad, subd, kpd, _⟩ := hs3.from (P := Try.prog) (t := 23) (k := an + 1) (by exact el_23) (by omega) (fun _ _ _ => trivial)
            have hwa : IntKind.wrap .i64 (((an : Nat) : Int) + 1) = ((an + 1 : Nat) : Int) := wrap_add (k := 1) (by omega)
            have nv : (((ids L[k]).getD an 0) = ((ids L[k]).getD an 0)) = True := eq_self _
            simp only [go_sem, hvh', hkL, hBh, hne, hcellk, hok, hX2, neq_bool, hb1, hne7, hB7, hc7, nv, Option.map_none, Option.map_some, et]
            generalize hHm : (H2.push ⟨[.int .i64 (takeM L (k : Int) (an : Int)).1, .int .i64 ((ids L[k]).getD an 0), .slice aA (takeM L (k : Int) (an : Int)).2.2.length cA], 76, false, false⟩) = Hm at *
            have hnm : Hm.next = H2.next + 1 := by rw [← hHm]; rfl
            have kpm : ∀ y, y < H2.next → Hm.get y = H2.get y := fun y hy => by rw [← hHm]; exact get_push_lt hy
            have h0m : Old Hc Hm := by rw [← hHm]; exact (hP.old.trans hold2).trans (Old.push _ _)
            obtain ⟨cst, gt2, es1, es2, es3, _⟩ := st.src (size := 1) rfl
            have := int_nf es3
            subst this
            have := int_nf Ad
            subst this
            have htl : ((ids L[k]).take an).length = an := by rw [List.length_take]; omega
            have hil : (ids L[k]).length ≤ i := by rw [ids, List.length_map]; exact hP.mail _ (List.getElem_mem hkL)
            refine cps_more (Hb := Hc) (r := .int) (l := []) (m := (ids L[k]).take an) (f := []) (g := []) ap_23 (Ow.nil _ _ _) h0m ⟨by simp, by simp, by simp⟩ ⟨by simp, by simp, by simp⟩ (by simp) (by simp) es1 (by rw [es2]) (int_ones es3 (by rw [es2]; show _ * 1 = _; omega)) es3 (by rw [htl]; simp; omega) ?_
            intro v3 H3 f3 how3 ho3 hmem3 hnx3 hnx3' hkp3 hold3
            rw [List.nil_append] at how3
            have hB3 : H3.get bh = some ⟨csh, 23, true, false⟩ := by rw [hkp3 bh (by omega) (by simp), kpm bh (by omega)]; exact hBh
            have hBm : Hm.get bh = some ⟨csh, 23, true, false⟩ := by rw [kpm bh (by omega)]; exact hBh
            have sd3 := kpd H3 (fun y hy => by have := hfh y (mg2 y hy); rw [hkp3 y (by omega) (by simp)])
            have hdl : ((ids L[k]).drop (an + 1)).length = (ids L[k]).length - (an + 1) := List.length_drop ..
            simp only [go_sem, hvh', hkL, hB3, hBm, hcellk, hwa, Option.map_none, Option.map_some, ed]
            rw [← hdl] at sd3 ld
            refine cps_more (Hb := Hc) (r := .int) (l := (ids L[k]).take an) (m := (ids L[k]).drop (an + 1)) (f := f3) (g := []) ap_23 how3 hold3 ho3 ⟨by simp, by simp, by simp⟩ (by simp) (fun y hy => hX y (ho3.lo y hy)) sd3 ld (int_ones Ad (by rw [ld]; show _ * 1 = _; omega)) (Ad.keep (by simp)) (by rw [htl, hdl]; omega) ?_
            intro v4 H4 f4 how4 ho4 hmem4 hnx4 hnx4' hkp4 hold4
            have m3 : ∀ y ∈ f3, y = Hm.next := fun y hy => by
              rcases hmem3 y hy with e | e | e
              · exact e
              · cases e
              · cases e
            have m4 : ∀ y ∈ f4, Hm.next ≤ y := fun y hy => by
              rcases hmem4 y hy with e | e | e
              · omega
              · have := m3 y e; omega
              · cases e
            have kp4 : ∀ y, y < Hm.next → H4.get y = Hm.get y := fun y hy => by
              rw [hkp4 y (by omega) (fun e => by have := m3 y e; omega), hkp3 y hy (by simp)]
            have hB4 : H4.get bh = some ⟨csh, 23, true, false⟩ := by rw [kp4 bh (by omega)]; exact hBm
            have hXh := hX bh (ofh.lo bh mbh)
            have her : (ids L[k]).take an ++ (ids L[k]).drop (an + 1) = ids (L[k].1, L[k].2.eraseIdx an) := by
              rw [ids, ids, List.eraseIdx_eq_take_drop_succ]; simp
            rw [her] at how4
            have htk : takeL L (k : Int) (an : Int) = L.set k (L[k].1, L[k].2.eraseIdx an) := by
              rw [takeL, if_pos hh, show ((k : Int).toNat) = k from rfl, hgd]; rfl
            rw [htk] at hs2
            obtain ⟨a2, c2, hv2⟩ := hs2.val
            rw [List.length_set] at hv2
            obtain ⟨a4, c4, hv4⟩ := how4.sl.val
            rw [hv4] at how4 ⊢
            simp only [go_sem, hvh', hkL, hB4, hlh, hlh', hXh, hv2, nl, e23, hw1]
            have hnbf : ∀ y, y ∈ ff → y ≠ bh := fun y hy e => hdis y hy (e ▸ mbh)
            have hfc := List.nodup_iff_count.1 ofh.nd
            rw [hfhe] at hfc
            have hcz : ∀ z, List.count z (bh :: (g1 ++ (g2 ++ g3))) ≤ 1 := hfc
            have hgk : ∀ z, z ∈ g1 ∨ z ∈ g3 → z ≠ bh := fun z hz => by
              have h1 := hcz z
              simp only [List.count_cons, List.count_append] at h1
              have h2 : 0 < List.count z g1 + List.count z g3 := by rcases hz with h | h <;> (have := List.count_pos_iff.2 h; omega)
              exact fun e => by subst e; simp at h1; omega
            refine ⟨L.set k (L[k].1, L[k].2.eraseIdx an), f2, bh :: (g1 ++ (f4 ++ g3)), ff, ?_, ?_, ?_, ?_, hold4.upd (ofh.lo bh mbh) _, by rw [List.length_set]; omega, fun z hz => ?_, fun z hz => ?_⟩
            · rw [hv2] at hs2
              refine hs2.keep fun y hy => ?_
              have h1 := ho2.lo y (by simp [hy])
              have h2 := ho2.hi y (by simp [hy])
              rw [get_upd, if_neg (fun e => by omega), kp4 y (by omega), kpm y h2]
            · rw [List.map_set, ← hvh']
              refine hputh _ [.slice a4 (ids (L[k].1, L[k].2.eraseIdx an)).length c4] (ids (L[k].1, L[k].2.eraseIdx an)) f4 (fun z hz => ?_) ?_ ⟨_, rfl, how4.keep fun y hy => by have := m4 y hy; rw [get_upd, if_neg (by omega)]⟩
              · have hz2 : z < H1.next := hfh z (by rw [hfhe]; rcases hz with h | h <;> simp [h])
                rw [get_upd, if_neg (hgk z hz), kp4 z (by omega), kpm z (by omega)]
              · rw [get_upd, if_pos rfl, splice_one (by show k * 1 < _; rw [Nat.mul_one]; exact hlh)]
                show some _ = some _
                rw [show k * rowsO.sz = k from Nat.mul_one k]
            · rw [List.map_set]
              have e1 : (L.map (·.1)).set k L[k].1 = L.map (·.1) := by
                refine List.ext_getElem? fun j => ?_
                rw [List.getElem?_set]
                by_cases h : k = j
                · subst h; simp [hkL]
                · simp [h]
              rw [e1]
              refine hP.f.keep fun y hy => ?_
              have := hff y hy
              rw [get_upd, if_neg (hnbf y hy), kp4 y (by omega), kpm y (by omega), hold2.get y this]
            · have hsw := Own.swap (f1 := []) (f2 := fl) (f3 := fh ++ ff) hP.own (H3 := H2) ((ho2.few (f' := f2) fun z => by simp only [List.count_append]; omega).up hP.old.nx) (fun y hy => .inl (ho2.lo y (by simp [hy]))) hn2
              rw [hfhe] at hsw
              have hsw2 : Own Hc.next H2 ((f2 ++ bh :: g1) ++ (g2 ++ (g3 ++ ff))) := hsw.few fun z => by
                simp only [List.count_append, List.count_cons, List.nil_append]; omega
              have hsw3 := hsw2.swap ho4 (fun y hy => by have := m4 y hy; left; omega) (by omega)
              have hsw4 : Own Hc.next H4 (f2 ++ ((bh :: (g1 ++ (f4 ++ g3))) ++ ff)) := hsw3.few fun z => by
                simp only [List.count_append, List.count_cons, List.cons_append]; omega
              exact ⟨hsw4.nd, hsw4.lo, hsw4.hi⟩
            · rcases List.mem_or_eq_of_mem_set hz with e | e
              · have := hP.mail z e; omega
              · rw [e]
                have h1 := hP.mail _ (List.getElem_mem hkL)
                have h2 := List.length_eraseIdx_le L[k].2 an
                show (L[k].2.eraseIdx an).length ≤ i + 1
                omega
            · rcases List.mem_or_eq_of_mem_set hz with e | e
              · exact hP.args z e
              · rw [e]; intro m hm
                exact hP.args _ (List.getElem_mem hkL) m (List.mem_of_mem_eraseIdx hm)
          · have hh : hasM L (k : Int) (an : Int) = false := by rw [hhas]; exact decide_eq_false hok
            have htk : takeL L (k : Int) (an : Int) = L := by rw [takeL, hh]; rfl
            rw [htk] at hs2
            obtain ⟨a2, c2, hv2⟩ := hs2.val
            subst hv2
            rw [hh]
            simp only [go_sem, hvh', hkL, hBh, hne, hcellk, hok, hX2, neq_bool, hb0, hw1, e23, nl]
            have hsw := Own.swap (f1 := []) (f2 := fl) (f3 := fh ++ ff) hP.own (H3 := H2) ((ho2.few (f' := f2) fun z => by simp only [List.count_append]; omega).up hP.old.nx) (fun y hy => .inl (ho2.lo y (by simp [hy]))) hn2
            have kp : ∀ (B : ABlk) y, y < H1.next → (H2.push B).get y = H1.get y := fun B y hy => by rw [get_push_lt (by omega)]; exact hold2.get y hy
            refine ⟨L, f2, fh, ff, hs2.keep fun y hy => get_push_lt (ho2.hi y (by simp [hy])), ?_, hP.f.keep fun y hy => kp _ y (hff y hy), ⟨hsw.nd, hsw.lo, fun y hy => Nat.lt_succ_of_lt (hsw.hi y hy)⟩, (hP.old.trans hold2).trans (Old.push _ _), by omega, fun z hz => by have := hP.mail z hz; omega, hP.args⟩
            rw [← hvh']
            exact hP.h.keep fun y hy => kp _ y (hfh y hy)
        · have q1 : (((w : Nat) : Int) = 1) = False := eq_false (by omega)
          have q2 : (((w : Nat) : Int) = 2) = False := eq_false (by omega)
          have q3 : (((w : Nat) : Int) = 3) = False := eq_false (by omega)
          simp only [go_sem, q1, q2, q3]
          refine Cll.by (free_w (hvl ▸ hP.l) hfl hsm) ?_
          rintro v2 H2 - ⟨hold2, f2, hs2, ho2⟩
          have hn2 := hold2.nx
          obtain ⟨bh, csh, g1, g2, g3, hvh', hBh, hfhe, hblh, hEh, hputh⟩ := (hP.h.keep (H' := H2) fun y hy => hold2.get y (hfh y hy)).put (i := k) (by rw [List.length_map]; exact hkL)
          obtain ⟨bf, csf, k1, k2, k3, hvf', hBf, hffe, hblf, hEf, hputf⟩ := (hP.f.keep (H' := H2) fun y hy => hold2.get y (hff y hy)).put (i := k) (by rw [List.length_map]; exact hkL)
          rw [List.length_map] at hvh' hvf'
          have hlh : k < csh.length := by have : k * 1 + 1 ≤ csh.length := hblh; omega
          have hlf : k < csf.length := by have : k * 1 + 1 ≤ csf.length := hblf; omega
          have hlh' : k + 1 ≤ csh.length := hlh
          have hlf' : k + 1 ≤ csf.length := hlf
          have ofh : Own Hc.next H1 fh := hP.own.few fun z => by simp only [List.count_append]; omega
          have off : Own Hc.next H1 ff := hP.own.few fun z => by simp only [List.count_append]; omega
          have mbh : bh ∈ fh := by rw [hfhe]; simp
          have mbf : bf ∈ ff := by rw [hffe]; simp
          have hcnt := List.nodup_iff_count.1 hP.own.nd
          have hdis : ∀ y ∈ ff, y ∉ fh := fun y hy hy2 => by
            have h1 := hcnt y
            simp only [List.count_append] at h1
            have h2 := List.count_pos_iff.2 hy
            have h3 := List.count_pos_iff.2 hy2
            omega
          have hbfh : ¬ bf = bh := fun e => hdis bf mbf (e ▸ mbh)
          have hXh := hX bh (ofh.lo bh mbh)
          have hXf := hX bf (off.lo bf mbf)
          have hfr : freeL L (k : Int) = L.set k (true, []) := by
            rw [freeL, if_pos (by simp [thereB]; exact hkL)]; rfl
          rw [hfr] at hs2
          obtain ⟨a2, c2, hv2⟩ := hs2.val
          rw [List.length_set] at hv2
          have nl : (L.length = L.length) = True := eq_self _
          simp only [go_sem, hvh', hvf', hkL, hBh, hlh, hlh', hXh, hbfh, hBf, hlf, hlf', hXf, hv2, nl, e23, hw1]
          have hK2 : k2 = [] := (Rp.bool_E.1 hEf).2
          have kk : ∀ (A B : ABlk) y, y ≠ bh → y ≠ bf → ((H2.upd bh A).upd bf B).get y = H2.get y := fun A B y h1 h2 => by
            rw [get_upd, if_neg h2, get_upd, if_neg h1]
          have hcz : ∀ z, List.count z fl + (List.count z (bh :: (g1 ++ (g2 ++ g3))) + List.count z (bf :: (k1 ++ (k2 ++ k3)))) ≤ 1 := fun z => by
            have := hcnt z
            rw [List.count_append, List.count_append, hfhe, hffe] at this
            exact this
          have hgk : ∀ z, z ∈ g1 ∨ z ∈ g3 → z ≠ bh ∧ z ≠ bf := fun z hz => by
            have h1 := hcz z
            simp only [List.count_cons, List.count_append] at h1
            have h2 : 0 < List.count z g1 + List.count z g3 := by rcases hz with h | h <;> (have := List.count_pos_iff.2 h; omega)
            exact ⟨fun e => by subst e; simp at h1; omega, fun e => by subst e; simp at h1; omega⟩
          have hkk : ∀ z, z ∈ k1 ∨ z ∈ k3 → z ≠ bh ∧ z ≠ bf := fun z hz => by
            have h1 := hcz z
            simp only [List.count_cons, List.count_append] at h1
            have h2 : 0 < List.count z k1 + List.count z k3 := by rcases hz with h | h <;> (have := List.count_pos_iff.2 h; omega)
            exact ⟨fun e => by subst e; simp at h1; omega, fun e => by subst e; simp at h1; omega⟩
          have h02 := hP.old.trans hold2
          refine ⟨L.set k (true, []), f2, bh :: (g1 ++ ([] ++ g3)), bf :: (k1 ++ ([] ++ k3)), ?_, ?_, ?_, ?_, (h02.upd (ofh.lo bh mbh) _).upd (off.lo bf mbf) _, by rw [List.length_set]; omega, fun z hz => ?_, fun z hz => ?_⟩
          · rw [hv2] at hs2
            refine hs2.keep fun y hy => kk _ _ y (fun e => ?_) (fun e => ?_)
            · have := ho2.lo y hy; have := hfh bh mbh; omega
            · have := ho2.lo y hy; have := hff bf mbf; omega
          · rw [List.map_set, ← hvh']
            refine hputh _ [.slice none 0 0] [] [] (fun z hz => kk _ _ z (hgk z hz).1 (hgk z hz).2) ?_ ⟨_, rfl, Ow.nil _ _ _⟩
            rw [get_upd, if_neg (fun e => hbfh e.symm), get_upd, if_pos rfl, splice_one (by show k * 1 < _; rw [Nat.mul_one]; exact hlh)]
            show some _ = some _
            rw [show k * rowsO.sz = k from Nat.mul_one k]
          · rw [List.map_set, ← hvf']
            refine hputf _ [.bool true] true [] (fun z hz => kk _ _ z (hkk z hz).1 (hkk z hz).2) ?_ (Rp.bool_E.2 ⟨rfl, rfl⟩)
            rw [get_upd, if_pos rfl, splice_one (by show k * 1 < _; rw [Nat.mul_one]; exact hlf)]
            show some _ = some _
            rw [show k * Rp.bool.sz = k from Nat.mul_one k]
          · have hsw := Own.swap (f1 := []) (f2 := fl) (f3 := fh ++ ff) hP.own (H3 := H2) (ho2.up hP.old.nx) (fun y hy => .inl (ho2.lo y hy)) hn2
            have hsw2 : Own Hc.next ((H2.upd bh ⟨csh.set k (.slice none 0 0), 23, true, false⟩).upd bf ⟨csf.set k (.bool true), 4, true, false⟩) (f2 ++ (fh ++ ff)) := ⟨hsw.nd, hsw.lo, hsw.hi⟩
            rw [hfhe, hffe] at hsw2
            refine hsw2.few fun z => ?_
            simp only [List.count_append, List.count_cons, List.nil_append]
            omega
          · rcases List.mem_or_eq_of_mem_set hz with e | e
            · have := hP.mail z e; omega
            · rw [e]; simp
          · rcases List.mem_or_eq_of_mem_set hz with e | e
            · exact hP.args z e
            · rw [e]; simp
  · rintro V H1 ⟨e23, L, fl, fh, ff, hP⟩
    have hlen := hP.len
    have hsm := hP.small (by omega)
    obtain ⟨al, cl, hvl⟩ := hP.l.val
    obtain ⟨ah, ch, hvh⟩ := hP.h.sl.val
    obtain ⟨af, cf, hvf⟩ := hP.f.sl.val
    rw [List.length_map] at hvh hvf
    have hfl : ∀ y ∈ fl, y < H1.next := fun y hy => hP.own.hi y (by simp [hy])
    simp only [go_sem, e23, hvh]
    refine w_for 822752278660602290326665925827216150648951574675280103709048836 L.length (fun j V' H2 => V' 159 = .int .i64 (j : Nat) ∧ V' 15 = .int .i64 (countL (L.take j) : Nat) ∧ H1 = H2) ⟨by simp only [go_sem]; rfl, by simp only [go_sem]; rfl, rfl⟩ ?_ ?_ (by rfl)
    · rintro j V' H2 hj ⟨e159, e15, rfl⟩
      have hx0 : L[j]? = some L[j] := List.getElem?_eq_getElem hj
      generalize hx : L[j] = x at hx0
      have hxl : x ∈ L := hx ▸ List.getElem_mem hj
      have hm := hP.mail x hxl
      obtain ⟨b, o, c, B, gx, hv, hB, hbf, hgf, hbl, hE⟩ := hP.l.at hx0
      rw [hvl] at hv
      cases hv
      obtain ⟨v2, hrow, hs2⟩ := boxR_E.1 hE
      obtain ⟨a2, c2, hv2⟩ := hs2.val
      subst hv2
      have hc0 : B.cells[o + j * 2]? = some (.bool x.1) := by
        have : ((B.cells.drop (o + j * 2)).take 2)[0]? = some (.bool x.1) := by rw [show (B.cells.drop (o + j * 2)).take 2 = _ from hrow]; rfl
        rw [List.getElem?_take, if_pos (by decide), List.getElem?_drop, Nat.add_zero] at this
        exact this
      have hc1 : B.cells[o + j * 2 + 1]? = some (.slice a2 x.2.length c2) := by
        have : ((B.cells.drop (o + j * 2)).take 2)[1]? = some (.slice a2 x.2.length c2) := by rw [show (B.cells.drop (o + j * 2)).take 2 = _ from hrow]; rfl
        rw [List.getElem?_take, if_pos (by decide), List.getElem?_drop] at this
        exact this
      obtain ⟨b4, o4, c4, B4, g4, hv4, hB4, _, _, _, vk, hrowk, howk⟩ := hP.h.sl.at (i := j) (x := ids x) (by rw [List.getElem?_map, hx0]; rfl)
      rw [hvh, List.length_map] at hv4
      cases hv4
      obtain ⟨ak, ck, hvk⟩ := howk.sl.val
      subst hvk
      have hil : (ids x).length = x.2.length := List.length_map ..
      have hck : B4.cells[o4 + j]? = some (.slice ak (ids x).length ck) := by
        have : ((B4.cells.drop (o4 + j * 1)).take 1)[0]? = some (.slice ak (ids x).length ck) := by rw [show (B4.cells.drop (o4 + j * 1)).take 1 = _ from hrowk]; rfl
        rw [List.getElem?_take, if_pos (by decide), List.getElem?_drop, Nat.mul_one, Nat.add_zero] at this
        exact this
      obtain ⟨b5, o5, c5, B5, g5, hv5, hB5, _, _, _, hrow5, _⟩ := hP.f.sl.at (i := j) (x := x.1) (by rw [List.getElem?_map, hx0]; rfl)
      rw [hvf, List.length_map] at hv5
      cases hv5
      have hc5 : B5.cells[o5 + j]? = some (.bool x.1) := by
        have : ((B5.cells.drop (o5 + j * 1)).take 1)[0]? = some (.bool x.1) := by rw [show (B5.cells.drop (o5 + j * 1)).take 1 = _ from hrow5]; rfl
        rw [List.getElem?_take, if_pos (by decide), List.getElem?_drop, Nat.mul_one, Nat.add_zero] at this
        exact this
      rw [hil] at hck
      have hs1 : countL (L.take j) ≤ (L.take j).length * 1000000 := countL_le fun y hy => hsm.mail y (List.mem_of_mem_take hy)
      rw [List.length_take, Nat.min_eq_left (by omega)] at hs1
      have hw2 : IntKind.wrap .i64 (((countL (L.take j) : Nat) : Int) + ((x.2.length : Nat) : Int)) = ((countL (L.take j) + x.2.length : Nat) : Int) := wrap_add (by omega)
      have hsum : countL (L.take j) + x.2.length = countL (L.take (j + 1)) := by
        rw [List.take_add_one, hx0]; simp [countL]
      rw [hsum] at hw2
      have nl : (x.2.length = x.2.length) = True := eq_self _
      have hbb : (!(x.1 == x.1)) = false := by simp
      simp only [go_sem, e159, e15, hj, hB4, hck, hw2, hvl, hB, hc0, hc1, nl, hvf, hB5, hc5, neq_bool, hbb]
      refine w_for 411373000779433817198360377744626022412475915230672733820682244 x.2.length (fun t V2 H2 => V2 191 = .int .i64 (t : Nat) ∧ H1 = H2) ⟨by simp only [go_sem]; rfl, rfl⟩ ?_ ?_ (by rfl)
      · rintro t V2 H2 ht ⟨e191, rfl⟩
        have hy0 : x.2[t]? = some x.2[t] := List.getElem?_eq_getElem ht
        obtain ⟨b6, o6, c6, B6, g6, hv6, hB6, _, _, _, hE6⟩ := hs2.at hy0
        cases hv6
        obtain ⟨v7, hrow6, _⟩ := msgR_E.1 hE6
        have hc6 : B6.cells[o6 + t * 3 + 1]? = some (.int .i64 x.2[t].2.1) := by
          have : ((B6.cells.drop (o6 + t * 3)).take 3)[1]? = some (.int .i64 x.2[t].2.1) := by rw [show (B6.cells.drop (o6 + t * 3)).take 3 = _ from hrow6]; rfl
          rw [List.getElem?_take, if_pos (by decide), List.getElem?_drop] at this
          exact this
        obtain ⟨b8, o8, c8, B8, hv8, hB8, _, hc8⟩ := howk.sl.int_at (i := t) (by rw [hil]; exact ht)
        rw [hil] at hv8
        cases hv8
        have hid : (ids x).getD t 0 = x.2[t].2.1 := by simp [ids, List.getD_eq_getElem?_getD, ht]
        rw [hid] at hc8
        have nv : (x.2[t].2.1 = x.2[t].2.1) = True := eq_self _
        simp only [go_sem, e191, ht, hB8, hc8, hvl, hj, hB, hc1, hB6, hc6, nv, wrap_succ ht (by omega)]
      · rintro V2 H2 ⟨e191, rfl⟩
        simp only [go_sem, e191, e159, wrap_succ hj (by omega)]
    · rintro V' H2 ⟨e159, e15, rfl⟩
      rw [List.take_of_length_le (Nat.le_refl _)] at e15
      simp only [go_sem, e159, e15, hvl]
      refine Cll.by (count_w (hvl ▸ hP.l) hfl hsm) ?_
      rintro _ H3 - ⟨hold3, rfl⟩
      have nc : (countL L = countL L) = True := eq_self _
      simp only [go_sem, e15, nc]
      refine Cll.by wakes_w ?_
      rintro _ H4 - ⟨hold4, rfl⟩
      simp only [go_sem]
end Go.Proofs.Ytgjpcliaggpcaaa.Ab
