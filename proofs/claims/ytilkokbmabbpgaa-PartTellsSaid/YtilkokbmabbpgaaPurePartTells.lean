/- PartTells as a statement over numbers and lists: of any classes, any things, joined, alone, merged, kept as the document says. For all numbers and lists. -/
import Derived.Test.YtilkokbmabbpgaaPPartTellsx10
namespace Go.Proofs.Ytilkokbmabbpgaa.Pure
open Go.RowKit Go.Proofs.Ytilkokbmabbpgaa.There Go.Proofs.Ytilkokbmabbpgaa.PPartTells Go.Proofs.YtilkokbmabbpgaaW.PrintWords Go.Proofs.YtilkokbmabbpgaaW.PrintLast Go.Proofs.YtilkokbmabbpgaaW.PrintMore
set_option linter.unusedVariables false
set_option linter.unusedSimpArgs false

theorem wrap_id {x : Int} (h0 : -9223372036854775808 ≤ x) (h1 : x ≤ 9223372036854775807) : wrap64 x = x := by unfold wrap64; omega

theorem step_i {i : Int} {n : Nat} (h0 : 0 ≤ i) (h1 : i < (n : Int)) (hn : n ≤ 9223372036854775807) : wrap64 (i + 1) = i + 1 := wrap_id (by omega) (by omega)

theorem drop_cons {α : Type} (l : List α) (d : α) (i : Int) (h0 : 0 ≤ i) (h1 : i < (l.length : Int)) : l.drop i.toNat = l.getD i.toNat d :: l.drop (i + 1).toNat := by
  have hlt : i.toNat < l.length := by omega
  rw [List.drop_eq_getElem_cons hlt, List.getD_eq_getElem?_getD, List.getElem?_eq_getElem hlt, show (i + 1).toNat = i.toNat + 1 by omega]
  rfl

theorem drop_end {α : Type} (l : List α) (i : Int) (h1 : ¬ i < (l.length : Int)) : l.drop i.toNat = [] := List.drop_eq_nil_of_le (by omega)

/-- With rounds enough it tells something. -/
def Tells {α : Type} (g : Nat → Option α) (Q : α → Prop) : Prop := ∃ r, Ev g r ∧ Q r

theorem Tells.step {α : Type} {g f : Nat → Option α} {Q : α → Prop} (h : ∀ k, g (k + 1) = f k) (k : Tells f Q) : Tells g Q := by
  obtain ⟨r, hr, hq⟩ := k
  exact ⟨r, Ev.step h hr, hq⟩

theorem Tells.now {α : Type} {Q : α → Prop} (r : α) (h : Q r) : Tells (fun _ => some r) Q := ⟨r, Ev.now r, h⟩

theorem Tells.bind {α β : Type} {g : Nat → Option α} {f : Nat → α → Option β} {P : α → Prop} {Q : β → Prop} (h : Tells g P) (k : ∀ a, P a → Tells (fun n => f n a) Q) : Tells (fun n => (g n).bind (f n)) Q := by
  obtain ⟨a, ha, hp⟩ := h
  obtain ⟨r, hr, hq⟩ := k a hp
  exact ⟨r, Ev.bind ha hr, hq⟩

theorem Tells.bindAt {α β : Type} {g : Option α} {a : α} {f : Nat → α → Option β} {Q : β → Prop} (h : g = some a) (k : Tells (fun n => f n a) Q) : Tells (fun n => g.bind (f n)) Q := by
  subst h
  exact k

theorem Tells.congr {α : Type} {g f : Nat → Option α} {Q : α → Prop} (h : ∀ k, g k = f k) (k : Tells f Q) : Tells g Q := by
  obtain ⟨r, hr, hq⟩ := k
  exact ⟨r, Ev.congr h hr, hq⟩

theorem Tells.mono {α : Type} {g : Nat → Option α} {P Q : α → Prop} (k : Tells g P) (h : ∀ a, P a → Q a) : Tells g Q := by
  obtain ⟨r, hr, hp⟩ := k
  exact ⟨r, hr, h r hp⟩

theorem Tells.yes {g : Nat → Option Bool} (k : Tells g (· = true)) : ∃ k, g k = some true := by
  obtain ⟨r, ⟨K, hK⟩, rfl⟩ := k
  exact ⟨K, hK K (Nat.le_refl _)⟩

theorem within_tells (v n : Int) (h : 1 ≤ n) (hn : n ≤ 1000000) : ∃ r, columbarykeep_Within.f v n = some r ∧ 0 ≤ r ∧ r < n := by
  have h1 : Int.tmod v n < n := Int.tmod_lt_of_pos v (by omega)
  have h2 : -n < Int.tmod v n := by
    have := Int.tmod_lt_of_pos (-v) (show 0 < n by omega)
    rw [Int.neg_tmod] at this
    omega
  unfold columbarykeep_Within.f
  rw [if_neg (by omega), if_neg (by omega)]
  by_cases c : Int.tmod v n < 0
  · rw [if_pos c]
    have e : wrap64 (Int.tmod v n + n) = Int.tmod v n + n := by unfold wrap64; omega
    exact ⟨_, rfl, by omega, by omega⟩
  · rw [if_neg c]
    exact ⟨_, rfl, by omega, by omega⟩

theorem cut_int (l : List Int) (n : Int) (h0 : 0 ≤ n) (h1 : n ≤ 1000) : columbarykeep_Cut_int.f l n = some (l.take n.toNat) := by
  have e : l.take ((mn (l.length : Int) n) : Int).toNat = l.take n.toNat := by
    by_cases c : (l.length : Int) ≤ n
    · rw [List.take_of_length_le (by unfold mn; omega), List.take_of_length_le (by omega)]
    · rw [show mn (l.length : Int) n = n by unfold mn; omega]
  have hl : (l.take n.toNat).length ≤ 1000 := by rw [List.length_take]; omega
  unfold columbarykeep_Cut_int.f columbarykeep_Copy_int.f
  rw [if_pos (by unfold mn; omega), if_pos (by unfold mn; omega), e, if_pos (by simp only [List.length_nil]; omega)]
  rfl

theorem rd_set (p : List Int) (j v i : Int) (hj0 : 0 ≤ j) (hj : j < (p.length : Int)) (hi0 : 0 ≤ i) : rd (p.set j.toNat v) i = if i = j then v else rd p i := by
  unfold rd
  rw [List.getD_eq_getElem?_getD, List.getElem?_set]
  by_cases h : i = j
  · subst h
    rw [if_pos rfl, if_pos rfl, if_pos (by omega)]
    rfl
  · rw [if_neg (by omega), if_neg h, ← List.getD_eq_getElem?_getD]

theorem rd_ext (p q : List Int) (hl : p.length = q.length) (h : ∀ i : Int, 0 ≤ i → i < (p.length : Int) → rd p i = rd q i) : p = q := by
  apply List.ext_getElem hl
  intro i h1 h2
  have := h (i : Int) (by omega) (by omega)
  simpa [rd, List.getD_eq_getElem?_getD, h1, h2] using this

/-- Classes, each told by its least thing. -/
def Rt (p : List Int) : Prop := ∀ i : Int, 0 ≤ i → i < (p.length : Int) → 0 ≤ rd p i ∧ rd p i ≤ i ∧ rd p (rd p i) = rd p i

theorem right_loop (p : List Int) (hp : Rt p) (hl : p.length ≤ 1000) (d : Nat) : ∀ i : Int, 0 ≤ i → (p.length : Int) - i = d → Tells (fun k => part_Right.l0 k p p (p.length : Int) i) (· = true) := by
  induction d with
  | zero =>
    intro i h0 hd
    refine Tells.step (f := fun _ => some true) (fun k => ?_) (Tells.now _ rfl)
    simp only [part_Right.l0]
    rw [if_neg (by omega)]
  | succ d ih =>
    intro i h0 hd
    have hlt : i < (p.length : Int) := by omega
    obtain ⟨a, b, c⟩ := hp i h0 hlt
    refine Tells.step (fun k => ?_) (ih (i + 1) (by omega) (by omega))
    simp only [part_Right.l0]
    rw [if_pos hlt, if_pos h0, if_pos hlt, if_neg (by omega), if_neg (by omega), if_pos a, if_pos (by omega), if_pos c, step_i h0 hlt (by omega)]

theorem right_tells (p : List Int) (hp : Rt p) (hl : p.length ≤ 1000) : Tells (fun k => part_Right.f k p) (· = true) := right_loop p hp hl p.length 0 (by omega) (by omega)

theorem rright_same : ∀ (k : Nat) (a b : List Int) (n i : Int), columbaryref17_RightPart.l0 k a b n i = part_Right.l0 k a b n i
  | 0, _, _, _, _ => rfl
  | k + 1, a, b, n, i => by simp only [columbaryref17_RightPart.l0, part_Right.l0, rright_same k]

theorem rright_tells (p : List Int) (hp : Rt p) (hl : p.length ≤ 1000) : Tells (fun k => columbaryref17_RightPart.f k p) (· = true) := Tells.congr (fun k => rright_same k p p _ 0) (right_tells p hp hl)

theorem rin_loop (p l : List Int) (hin : ∀ i : Int, 0 ≤ i → i < (l.length : Int) → 0 ≤ rd l i ∧ rd l i < (p.length : Int)) (hl : l.length ≤ 1000) (d : Nat) : ∀ i : Int, 0 ≤ i → (l.length : Int) - i = d → Tells (fun k => columbaryref17_inPart.l0 k p l (l.length : Int) i) (· = true) := by
  induction d with
  | zero =>
    intro i h0 hd
    refine Tells.step (f := fun _ => some true) (fun k => ?_) (Tells.now _ rfl)
    simp only [columbaryref17_inPart.l0]
    rw [if_neg (by omega)]
  | succ d ih =>
    intro i h0 hd
    have hlt : i < (l.length : Int) := by omega
    obtain ⟨a, b⟩ := hin i h0 hlt
    refine Tells.step (fun k => ?_) (ih (i + 1) (by omega) (by omega))
    simp only [columbaryref17_inPart.l0]
    rw [if_pos hlt, if_pos h0, if_pos hlt, if_neg (by omega), if_neg (by omega), step_i h0 hlt (by omega)]

/-- The class b's things become a's. -/
def joined (q : List Int) (a b : Int) : List Int := q.map fun v => if v = b then a else v

theorem joined_length (q : List Int) (a b : Int) : (joined q a b).length = q.length := List.length_map ..

theorem rd_joined (q : List Int) (a b i : Int) (h0 : 0 ≤ i) (h1 : i < (q.length : Int)) : rd (joined q a b) i = if rd q i = b then a else rd q i := by
  have h : i.toNat < q.length := by omega
  simp [rd, joined, List.getD_eq_getElem?_getD, h]

theorem joined_rt (q : List Int) (hq : Rt q) (a b x y : Int) (hx0 : 0 ≤ x) (hx : x < (q.length : Int)) (hy0 : 0 ≤ y) (hy : y < (q.length : Int)) (ha : a = rd q x ∨ a = rd q y) (hb : b = rd q x ∨ b = rd q y) (hab : a ≤ b) : Rt (joined q a b) := by
  have fx := hq x hx0 hx
  have fy := hq y hy0 hy
  have ha0 : 0 ≤ a ∧ rd q a = a ∧ a < (q.length : Int) := by
    rcases ha with rfl | rfl
    · exact ⟨fx.1, fx.2.2, by omega⟩
    · exact ⟨fy.1, fy.2.2, by omega⟩
  intro i h0 h1
  rw [joined_length] at h1
  obtain ⟨i0, i1, i2⟩ := hq i h0 h1
  rw [rd_joined q a b i h0 h1]
  by_cases c : rd q i = b
  · rw [if_pos c, rd_joined q a b a ha0.1 ha0.2.2, ha0.2.1]
    refine ⟨ha0.1, by omega, ?_⟩
    by_cases e : a = b
    · rw [if_pos e]
    · rw [if_neg e]
  · rw [if_neg c, rd_joined q a b _ i0 (by omega), i2, if_neg c]
    exact ⟨i0, i1, rfl⟩

theorem rjoin_l2 {Q : List Int × Bool → Prop} (p l : List Int) (q0 : List Int) (g : Bool) (x8 a b : Int) (hl : q0.length ≤ 1000) (next : Tells (fun k => columbaryref17_JoinPart.l0 k p l (joined q0 a b) g (wrap64 (x8 + 1))) Q) (d : Nat) :
    ∀ (i : Int) (q : List Int), 0 ≤ i → (q0.length : Int) - i = d → q.length = q0.length → (∀ j : Int, 0 ≤ j → j < (q0.length : Int) → rd q j = if j < i then rd (joined q0 a b) j else rd q0 j) →
      Tells (fun k => columbaryref17_JoinPart.l2 k p l q g x8 a b (q0.length : Int) i) Q := by
  induction d with
  | zero =>
    intro i q h0 hd hq he
    have e : q = joined q0 a b := rd_ext _ _ (by rw [hq, joined_length]) (fun j j0 j1 => by rw [he j j0 (by omega), if_pos (by omega)])
    subst e
    refine Tells.step (fun k => ?_) next
    simp only [columbaryref17_JoinPart.l2]
    rw [if_neg (by omega)]
  | succ d ih =>
    intro i q h0 hd hq he
    have hlt : i < (q0.length : Int) := by omega
    have hi := he i h0 hlt
    rw [if_neg (by omega)] at hi
    have hj := rd_joined q0 a b i h0 hlt
    by_cases c : rd q i = b
    · refine Tells.step (fun k => ?_) (ih (i + 1) (q.set i.toNat a) (by omega) (by omega) (by rw [List.length_set]; exact hq) (fun j j0 j1 => ?_))
      · simp only [columbaryref17_JoinPart.l2]
        rw [if_pos hlt, if_pos h0, if_pos (by omega), if_pos c, step_i h0 hlt (by omega)]
      · rw [rd_set q i a j h0 (by omega) j0]
        by_cases e : j = i
        · rw [if_pos e, if_pos (by omega), e, hj, if_pos (by omega)]
        · rw [if_neg e, he j j0 j1]
          by_cases e2 : j < i
          · rw [if_pos e2, if_pos (by omega)]
          · rw [if_neg e2, if_neg (by omega)]
    · refine Tells.step (fun k => ?_) (ih (i + 1) q (by omega) (by omega) hq (fun j j0 j1 => ?_))
      · simp only [columbaryref17_JoinPart.l2]
        rw [if_pos hlt, if_pos h0, if_pos (by omega), if_neg c, step_i h0 hlt (by omega)]
      · rw [he j j0 j1]
        by_cases e : j = i
        · rw [if_neg (by omega), if_pos (by omega), e, hj, if_neg (by omega)]
        · by_cases e2 : j < i
          · rw [if_pos e2, if_pos (by omega)]
          · rw [if_neg e2, if_neg (by omega)]

theorem rjoin_two (p : List Int) (hp : Rt p) (hl : p.length ≤ 1000) (x y : Int) (hx0 : 0 ≤ x) (hx : x < (p.length : Int)) (hy0 : 0 ≤ y) (hy : y < (p.length : Int)) : Tells (fun k => columbaryref17_JoinPart.f k p [x, y]) (fun r => Rt r.1 ∧ r.1.length = p.length) := by
  have end_ : ∀ a b g, Rt (joined p a b) → Tells (fun k => columbaryref17_JoinPart.l0 k p [x, y] (joined p a b) g (wrap64 (1 + 1))) (fun r => Rt r.1 ∧ r.1.length = p.length) := by
    intro a b g hr
    refine Tells.step (f := fun _ => some (joined p a b, g)) (fun k => ?_) (Tells.now _ ⟨hr, joined_length _ _ _⟩)
    simp only [columbaryref17_JoinPart.l0]
    rw [if_neg (by unfold wrap64; simp)]
  have mid : ∀ a b g, Rt (joined p a b) → Tells (fun k => columbaryref17_JoinPart.j3 k p [x, y] p g 1 a b) (fun r => Rt r.1 ∧ r.1.length = p.length) := by
    intro a b g hr
    refine Tells.step (fun k => ?_) (rjoin_l2 p [x, y] p g 1 a b hl (end_ a b g hr) p.length 0 p (by omega) (by omega) rfl (fun j j0 j1 => by rw [if_neg (by omega)]))
    simp only [columbaryref17_JoinPart.j3]
  have l1b : ∀ g, Tells (fun k => columbaryref17_JoinPart.l1 k p [x, y] p g 1 1) (fun r => Rt r.1 ∧ r.1.length = p.length) := by
    intro g
    have e0 : rd [x, y] 0 = x := rfl
    have e1 : rd [x, y] 1 = y := rfl
    by_cases c : rd p x > rd p y
    · refine Tells.step (fun k => ?_) (mid (rd p y) (rd p x) g (joined_rt p hp _ _ x y hx0 hx hy0 hy (.inr rfl) (.inl rfl) (by omega)))
      simp only [columbaryref17_JoinPart.l1, e0, e1]
      rw [if_neg (by omega), if_pos (by simp), if_pos hx0, if_pos hx, if_pos (by omega), if_pos (by simp), if_pos hy0, if_pos hy, if_pos c]
    · refine Tells.step (fun k => ?_) (mid (rd p x) (rd p y) g (joined_rt p hp _ _ x y hx0 hx hy0 hy (.inl rfl) (.inr rfl) (by omega)))
      simp only [columbaryref17_JoinPart.l1, e0, e1]
      rw [if_neg (by omega), if_pos (by simp), if_pos hx0, if_pos hx, if_pos (by omega), if_pos (by simp), if_pos hy0, if_pos hy, if_neg c]
  have w1 : wrap64 (0 + 1) = 1 := by unfold wrap64; omega
  have l0a : Tells (fun k => columbaryref17_JoinPart.l0 k p [x, y] p true 1) (fun r => Rt r.1 ∧ r.1.length = p.length) := by
    refine Tells.step (f := fun k => columbaryref17_JoinPart.l1 k p [x, y] p true 1 0) (fun k => ?_) (Tells.step (fun k => ?_) (l1b (rd p y != rd p x)))
    · simp only [columbaryref17_JoinPart.l0]
      rw [if_pos (by simp)]
    · have e0 : rd [x, y] 0 = x := rfl
      have e1 : rd [x, y] 1 = y := rfl
      simp only [columbaryref17_JoinPart.l1, e0, e1]
      rw [if_pos (by omega), if_pos trivial, if_pos (by omega), if_pos (by simp), if_pos hy0, if_pos hy, if_pos (by omega), if_pos (by simp), if_pos hx0, if_pos hx, w1]
  unfold columbaryref17_JoinPart.f
  refine Tells.bind (rright_tells p hp hl) (fun t ht => ?_)
  subst ht
  simp only [if_true]
  refine Tells.bind (rin_loop p [x, y] (fun i i0 i1 => ?_) (by simp) 2 0 (by omega) (by simp)) (fun t ht => ?_)
  · have : i = 0 ∨ i = 1 := by simp at i1; omega
    rcases this with rfl | rfl
    · exact ⟨hx0, hx⟩
    · exact ⟨hy0, hy⟩
  · subst ht
    refine Tells.step (fun k => ?_) l0a
    simp only [columbaryref17_JoinPart.j0]
    rw [if_neg (by simp), if_pos (by simp only [List.length_nil]; omega), List.nil_append]

theorem rnew_loop (n : Int) (hn : n ≤ 1000) (d : Nat) : ∀ (i : Int) (acc : List Int), 0 ≤ i → n - i = d → (acc.length : Int) = i → (∀ j : Int, 0 ≤ j → j < i → rd acc j = j) → Tells (fun k => columbaryref17_NewPart.l0 k n acc i) (fun p => (p.length : Int) = n ∧ ∀ j : Int, 0 ≤ j → j < n → rd p j = j) := by
  induction d with
  | zero =>
    intro i acc h0 hd ha he
    refine Tells.step (f := fun _ => some acc) (fun k => ?_) (Tells.now _ ⟨by omega, fun j j0 j1 => he j j0 (by omega)⟩)
    simp only [columbaryref17_NewPart.l0]
    rw [if_neg (by omega)]
  | succ d ih =>
    intro i acc h0 hd ha he
    refine Tells.step (fun k => ?_) (ih (i + 1) (acc ++ [i]) (by omega) (by omega) (by rw [List.length_append]; simp; omega) (fun j j0 j1 => ?_))
    · simp only [columbaryref17_NewPart.l0]
      rw [if_pos (by omega), if_pos (by omega), wrap_id (by omega) (by omega)]
    · by_cases e : j = i
      · subst e
        unfold rd
        rw [List.getD_eq_getElem?_getD, List.getElem?_append_right (by omega), show j.toNat - acc.length = 0 by omega]
        rfl
      · have := he j j0 (by omega)
        unfold rd at this ⊢
        rw [List.getD_eq_getElem?_getD, List.getElem?_append_left (by omega), ← List.getD_eq_getElem?_getD]
        exact this

theorem rnew_tells (n : Int) (h0 : 0 ≤ n) (hn : n ≤ 1000) : Tells (fun k => columbaryref17_NewPart.f k n) (fun p => (p.length : Int) = n ∧ Rt p) := by
  unfold columbaryref17_NewPart.f
  simp only [if_neg (show ¬ n < 0 by omega), decide_eq_false (show ¬ n > 1000 by omega)]
  refine Tells.mono (P := fun p => (p.length : Int) = n ∧ ∀ j : Int, 0 ≤ j → j < n → rd p j = j) (Tells.step (fun k => ?_) (rnew_loop n hn n.toNat 0 [] (by omega) (by omega) (by simp) (fun j j0 j1 => by omega))) (fun p hp => ⟨hp.1, fun i i0 i1 => ?_⟩)
  · simp only [columbaryref17_NewPart.j0]
    rw [if_neg (by simp)]
  · rw [hp.2 i i0 (by omega), hp.2 i i0 (by omega)]
    omega

theorem made_loop (l : List Int) (hl : l.length ≤ 9223372036854775807) (d : Nat) : ∀ (i : Int) (p : List Int), 0 ≤ i → i ≤ 14 → 14 - i ≤ 2 * d → Rt p → p.length ≤ 8 → Tells (fun k => columbarylaw22_made.l0 k l p i) (fun q => Rt q ∧ q.length ≤ 8) := by
  have stop : ∀ (i : Int) (p : List Int), Rt p → p.length ≤ 8 → Tells (fun k => columbarylaw22_made.j1 k l p i false) (fun q => Rt q ∧ q.length ≤ 8) := by
    intro i p hp hl8
    refine Tells.step (f := fun _ => some p) (fun k => ?_) (Tells.now _ ⟨hp, hl8⟩)
    simp only [columbarylaw22_made.j1]
    rw [if_neg (by simp)]
  induction d with
  | zero =>
    intro i p h0 h1 hd hp hl8
    refine Tells.step (f := fun k => columbarylaw22_made.j1 k l p i false) (fun k => ?_) (stop i p hp hl8)
    simp only [columbarylaw22_made.l0, decide_eq_false (show ¬ i < 12 by omega)]
    split
    · split <;> rfl
    · rfl
  | succ d ih =>
    intro i p h0 h1 hd hp hl8
    by_cases c : wrap64 (i + 1) < (l.length : Int) ∧ (p.length : Int) > 0 ∧ i < 12
    · have e : wrap64 (i + 1) = i + 1 := wrap_id (by omega) (by omega)
      have hlt : i + 1 < (l.length : Int) := by rw [← e]; exact c.1
      obtain ⟨x, hx, x0, x1⟩ := within_tells (rd l i) (p.length : Int) (by omega) (by omega)
      obtain ⟨y, hy, y0, y1⟩ := within_tells (rd l (i + 1)) (p.length : Int) (by omega) (by omega)
      refine Tells.step (f := fun k => columbarylaw22_made.j1 k l p i true) (fun k => ?_) (Tells.step (f := fun k => (columbaryref17_JoinPart.f k p [x, y]).bind fun b => columbarylaw22_made.l0 k l b.1 (i + 2)) (fun k => ?_) (Tells.bind (rjoin_two p hp (by omega) x y x0 x1 y0 y1) (fun b hb => ih (i + 2) b.1 (by omega) (by omega) (by omega) hb.1 (by omega))))
      · simp only [columbarylaw22_made.l0]
        rw [if_pos c.1, if_pos c.2.1, decide_eq_true c.2.2]
      · simp only [columbarylaw22_made.j1]
        have h6 : i < (l.length : Int) := by omega
        rw [if_pos trivial, if_pos h0, if_pos h6, hx]
        simp only [Option.bind_some]
        rw [e, if_pos (by omega), if_pos hlt, hy]
        simp only [Option.bind_some]
        rw [show wrap64 (i + 2) = i + 2 from wrap_id (by omega) (by omega)]
    · refine Tells.step (f := fun k => columbarylaw22_made.j1 k l p i false) (fun k => ?_) (stop i p hp hl8)
      simp only [columbarylaw22_made.l0]
      by_cases c1 : wrap64 (i + 1) < (l.length : Int)
      · by_cases c2 : (p.length : Int) > 0
        · rw [if_pos c1, if_pos c2, decide_eq_false (fun h => c ⟨c1, c2, h⟩)]
        · rw [if_pos c1, if_neg c2]
      · rw [if_neg c1]

theorem made_tells (n : Int) (l : List Int) (hl : l.length ≤ 9223372036854775807) : Tells (fun k => columbarylaw22_made.f k n l) (fun q => Rt q ∧ q.length ≤ 8) := by
  obtain ⟨t, ht, t0, t1⟩ := within_tells n 9 (by omega) (by omega)
  unfold columbarylaw22_made.f
  refine Tells.bindAt ht ?_
  refine Tells.bind (rnew_tells t t0 (by omega)) (fun p hp => ?_)
  exact made_loop l hl 7 0 p (by omega) (by omega) (by omega) hp.2 (by omega)

theorem clone_int (l : List Int) (h : l.length ≤ 1000) : slices_Clone_int_int.f l = some l := by
  unfold slices_Clone_int_int.f
  simp only [Option.bind_some, List.length_nil, List.nil_append]
  rw [if_pos (by omega)]

theorem there_yes (p l : List Int) (h : ∀ x ∈ l, 0 ≤ x ∧ x < (p.length : Int)) : part_there.f p l = some true := by
  unfold part_there.f
  have : l.any (off p.length) = false := by
    rw [List.any_eq_false]
    intro x hx
    have := h x hx
    simp [off]
    omega
  rw [this]
  rfl

/-- The first thing of a number like i's. -/
def Fst (q : List Int) (i r : Int) : Prop := 0 ≤ r ∧ r ≤ i ∧ rd q r = rd q i ∧ ∀ j : Int, 0 ≤ j → j < r → rd q j ≠ rd q i

theorem index_loop (q : List Int) (hl : q.length ≤ 1000) (i : Int) (hi : i < (q.length : Int)) (d : Nat) : ∀ j : Int, 0 ≤ j → j ≤ i → i - j = d → (∀ m : Int, 0 ≤ m → m < j → rd q m ≠ rd q i) → Tells (fun k => slices_Index_int_int.l0 k q (rd q i) (q.length : Int) j) (fun r => Fst q i r) := by
  induction d with
  | zero =>
    intro j h0 h1 hd hn
    obtain rfl : j = i := by omega
    refine Tells.step (f := fun _ => some j) (fun k => ?_) (Tells.now _ ⟨h0, h1, rfl, hn⟩)
    simp only [slices_Index_int_int.l0]
    rw [if_pos hi, if_pos h0, if_pos hi, if_pos trivial]
  | succ d ih =>
    intro j h0 h1 hd hn
    have hlt : j < (q.length : Int) := by omega
    by_cases c : rd q i = rd q j
    · refine Tells.step (f := fun _ => some j) (fun k => ?_) (Tells.now _ ⟨h0, h1, c.symm, hn⟩)
      simp only [slices_Index_int_int.l0]
      rw [if_pos hlt, if_pos h0, if_pos hlt, if_pos c]
    · refine Tells.step (fun k => ?_) (ih (j + 1) (by omega) (by omega) (by omega) (fun m m0 m1 => ?_))
      · simp only [slices_Index_int_int.l0]
        rw [if_pos hlt, if_pos h0, if_pos hlt, if_neg c, step_i h0 hlt (by omega)]
      · by_cases e : m = j
        · subst e; exact fun h => c h.symm
        · exact hn m m0 (by omega)

theorem index_tells (q : List Int) (hl : q.length ≤ 1000) (i : Int) (h0 : 0 ≤ i) (hi : i < (q.length : Int)) : Tells (fun k => slices_Index_int_int.f k q (rd q i)) (fun r => Fst q i r) :=
  index_loop q hl i hi i.toNat 0 (by omega) (by omega) (by omega) (fun m m0 m1 => by omega)

theorem lowest_loop (q : List Int) (hl : q.length ≤ 1000) (d : Nat) : ∀ (i : Int) (o : List Int), 0 ≤ i → (q.length : Int) - i = d → o.length = q.length → (∀ j : Int, 0 ≤ j → j < i → Fst q j (rd o j)) →
    Tells (fun k => part_lowest.l0 k q o q (q.length : Int) i) (fun o => o.length = q.length ∧ ∀ j : Int, 0 ≤ j → j < (q.length : Int) → Fst q j (rd o j)) := by
  induction d with
  | zero =>
    intro i o h0 hd ho hf
    refine Tells.step (f := fun _ => some o) (fun k => ?_) (Tells.now _ ⟨ho, fun j j0 j1 => hf j j0 (by omega)⟩)
    simp only [part_lowest.l0]
    rw [if_neg (by omega)]
  | succ d ih =>
    intro i o h0 hd ho hf
    have hlt : i < (q.length : Int) := by omega
    refine Tells.step (f := fun k => (slices_Index_int_int.f k q (rd q i)).bind fun t => part_lowest.l0 k q (o.set i.toNat t) q (q.length : Int) (i + 1)) (fun k => ?_) (Tells.bind (index_tells q hl i h0 hlt) (fun t ht => ih (i + 1) _ (by omega) (by omega) (by rw [List.length_set]; exact ho) (fun j j0 j1 => ?_)))
    · have hc : i < (o.length : Int) := by omega
      simp only [part_lowest.l0]
      rw [if_pos hlt, if_pos h0, if_pos hlt]
      simp only [if_pos hc, step_i h0 hlt (show q.length ≤ 9223372036854775807 by omega)]
    · rw [rd_set o i t j h0 (by omega) j0]
      by_cases e : j = i
      · rw [if_pos e, e]; exact ht
      · rw [if_neg e]; exact hf j j0 (by omega)

theorem lowest_tells (q : List Int) (hl : q.length ≤ 1000) : Tells (fun k => part_lowest.f k q) (fun o => o.length = q.length ∧ ∀ j : Int, 0 ≤ j → j < (q.length : Int) → Fst q j (rd o j)) := by
  unfold part_lowest.f
  simp only [if_pos (show (0 : Int) ≤ (q.length : Int) by omega), if_pos (show ((q.length : Int) : Int).toNat ≤ 35184372088832 by omega)]
  exact lowest_loop q hl q.length 0 _ (by omega) (by omega) (by rw [List.length_replicate]; omega) (fun j j0 j1 => by omega)

theorem fst_same (q : List Int) (i k a b : Int) (ha : Fst q i a) (hb : Fst q k b) : (a == b) = decide (rd q i = rd q k) := by
  by_cases c : rd q i = rd q k
  · rw [decide_eq_true c, beq_iff_eq]
    by_cases h1 : a < b
    · exact absurd (ha.2.2.1.trans c) (hb.2.2.2 a ha.1 h1)
    · by_cases h2 : b < a
      · exact absurd (hb.2.2.1.trans c.symm) (ha.2.2.2 b hb.1 h2)
      · omega
  · rw [decide_eq_false c, beq_eq_false_iff_ne]
    rintro rfl
    exact c (ha.2.2.1.symm.trans hb.2.2.1)

theorem fst_rt (q o : List Int) (ho : o.length = q.length) (h : ∀ j : Int, 0 ≤ j → j < (q.length : Int) → Fst q j (rd o j)) : Rt o := by
  intro i h0 h1
  have f := h i h0 (by omega)
  have g := h (rd o i) f.1 (by have := f.2.1; omega)
  refine ⟨f.1, f.2.1, ?_⟩
  have e := fst_same q i (rd o i) _ _ f g
  rw [decide_eq_true f.2.2.1.symm, beq_iff_eq] at e
  exact e.symm

theorem wakes_tells : Tells (fun k => columbarylaw22_wakes.f k) (· = true) := ⟨true, Ev.of columbarylaw22_wakes.mono (k := 40) (by decide +kernel), rfl⟩

/-- Things that rise, each once, all there. -/
def Rises (l : List Int) (n : Int) : Prop := (∀ j : Int, 0 ≤ j → j < (l.length : Int) → 0 ≤ rd l j ∧ rd l j < n) ∧ ∀ j : Int, 0 < j → j < (l.length : Int) → rd l (j - 1) < rd l j

theorem rd_append (l : List Int) (v j : Int) (j0 : 0 ≤ j) (j1 : j ≤ (l.length : Int)) : rd (l ++ [v]) j = if j = (l.length : Int) then v else rd l j := by
  unfold rd
  by_cases e : j = (l.length : Int)
  · rw [if_pos e, List.getD_eq_getElem?_getD, List.getElem?_append_right (by omega), show j.toNat - l.length = 0 by omega]
    rfl
  · rw [if_neg e, List.getD_eq_getElem?_getD, List.getElem?_append_left (by omega), ← List.getD_eq_getElem?_getD]

theorem mem_rd (l : List Int) (x : Int) (h : x ∈ l) : ∃ j : Int, 0 ≤ j ∧ j < (l.length : Int) ∧ rd l j = x := by
  obtain ⟨i, hi, e⟩ := List.mem_iff_getElem.1 h
  exact ⟨(i : Int), by omega, by omega, by simp [rd, List.getD_eq_getElem?_getD, hi, e]⟩

theorem keep_loop (p l : List Int) (hr : Rises l (p.length : Int)) (hl : l.length ≤ 1000) (d : Nat) : ∀ (i : Int) (o : List Int), 0 ≤ i → (l.length : Int) - i = d → (o.length : Int) = i → (∀ j : Int, 0 ≤ j → j < i → rd o j = rd p (rd l j)) →
    Tells (fun k => part_Keep.l0 k p l o l (l.length : Int) i) (fun r => ∃ q : List Int, q.length = l.length ∧ (∀ j : Int, 0 ≤ j → j < (l.length : Int) → rd q j = rd p (rd l j)) ∧ r.length = l.length ∧ ∀ j : Int, 0 ≤ j → j < (l.length : Int) → Fst q j (rd r j)) := by
  induction d with
  | zero =>
    intro i o h0 hd ho he
    have hol : o.length = l.length := by omega
    refine Tells.step (f := fun k => (part_lowest.f k o).bind fun t => some t) (fun k => ?_) (Tells.bind (lowest_tells o (by omega)) (fun r h => Tells.now r ⟨o, hol, fun j j0 j1 => he j j0 (by omega), by rw [h.1, hol], fun j j0 j1 => h.2 j j0 (by omega)⟩))
    simp only [part_Keep.l0]
    rw [if_neg (by omega)]
  | succ d ih =>
    intro i o h0 hd ho he
    have hlt : i < (l.length : Int) := by omega
    obtain ⟨a, b⟩ := hr.1 i h0 hlt
    have next := ih (i + 1) (o ++ [rd p (rd l i)]) (by omega) (by omega) (by rw [List.length_append]; simp; omega) (fun j j0 j1 => by
      rw [rd_append o _ j j0 (by omega)]
      by_cases e : j = (o.length : Int)
      · rw [if_pos e, show j = i by omega]
      · rw [if_neg e, he j j0 (by omega)])
    refine Tells.step (fun k => ?_) next
    simp only [part_Keep.l0]
    rw [if_pos hlt, if_pos h0, if_pos hlt]
    by_cases c : i > 0
    · have e : wrap64 (i - 1) = i - 1 := wrap_id (by omega) (by omega)
      rw [if_pos c, e, if_pos (by omega), if_pos (by omega), if_neg (by have := hr.2 i c hlt; omega), if_pos a, if_pos b, if_pos (by omega), step_i h0 hlt (by omega)]
    · rw [if_neg c, if_pos a, if_pos b, if_pos (by omega), step_i h0 hlt (by omega)]

theorem keep_tells (p : List Int) (hp : Rt p) (hpl : p.length ≤ 1000) (l : List Int) (hr : Rises l (p.length : Int)) (hl : l.length ≤ 1000) :
    Tells (fun k => part_Keep.f k p l) (fun r => ∃ q : List Int, q.length = l.length ∧ (∀ j : Int, 0 ≤ j → j < (l.length : Int) → rd q j = rd p (rd l j)) ∧ r.length = l.length ∧ ∀ j : Int, 0 ≤ j → j < (l.length : Int) → Fst q j (rd r j)) := by
  unfold part_Keep.f
  refine Tells.bind (right_tells p hp hpl) (fun t ht => ?_)
  subst ht
  simp only [if_true]
  refine Tells.bindAt (there_yes p l (fun x hx => by
    obtain ⟨j, j0, j1, rfl⟩ := mem_rd l x hx
    exact hr.1 j j0 j1)) ?_
  refine Tells.step (fun k => ?_) (keep_loop p l hr hl l.length 0 [] (by omega) (by omega) (by simp) (fun j j0 j1 => by omega))
  simp only [part_Keep.j0]
  rw [if_neg (by simp)]

theorem new_loop (n : Int) (d : Nat) : ∀ (i : Int) (o : List Int), 0 ≤ i → (o.length : Int) = n → n ≤ 1000 → n - i = d → (∀ j : Int, 0 ≤ j → j < i → rd o j = j) → Tells (fun k => part_New.l0 k o n i) (fun o => (o.length : Int) = n ∧ ∀ j : Int, 0 ≤ j → j < n → rd o j = j) := by
  induction d with
  | zero =>
    intro i o h0 ho hn hd he
    refine Tells.step (f := fun _ => some o) (fun k => ?_) (Tells.now _ ⟨ho, fun j j0 j1 => he j j0 (by omega)⟩)
    simp only [part_New.l0]
    rw [if_neg (by omega)]
  | succ d ih =>
    intro i o h0 ho hn hd he
    refine Tells.step (fun k => ?_) (ih (i + 1) (o.set i.toNat i) (by omega) (by rw [List.length_set]; exact ho) hn (by omega) (fun j j0 j1 => by
      rw [rd_set o i i j h0 (by omega) j0]
      by_cases e : j = i
      · rw [if_pos e, e]
      · rw [if_neg e]; exact he j j0 (by omega)))
    simp only [part_New.l0]
    rw [if_pos (by omega), if_pos h0, if_pos (by omega), wrap_id (by omega) (by omega)]

theorem new_tells (n : Int) (h0 : 0 ≤ n) (hn : n ≤ 1000) : Tells (fun k => part_New.f k n) (fun o => (o.length : Int) = n ∧ ∀ j : Int, 0 ≤ j → j < n → rd o j = j) := by
  unfold part_New.f
  simp only [if_neg (show ¬ n < 0 by omega), decide_eq_false (show ¬ n > 1000 by omega)]
  have e : ((List.replicate n.toNat (0 : Int)).length : Int) = n := by rw [List.length_replicate]; omega
  refine Tells.step (f := fun k => part_New.l0 k (List.replicate n.toNat 0) n 0) (fun k => ?_) (new_loop n n.toNat 0 _ (by omega) e hn (by omega) (fun j j0 j1 => by omega))
  simp only [part_New.j0]
  rw [if_neg (by simp), if_pos h0, if_pos (by omega)]
  simp only [Option.bind_some]
  rw [e]

theorem same_loop (l : List Int) (hl : l.length ≤ 1000) (d : Nat) : ∀ i : Int, 0 ≤ i → (l.length : Int) - i = d → Tells (fun k => columbarykeep_Same_int.l0 k l l i) (· = true) := by
  induction d with
  | zero =>
    intro i h0 hd
    refine Tells.step (f := fun _ => some true) (fun k => ?_) (Tells.now _ rfl)
    simp only [columbarykeep_Same_int.l0]
    rw [if_neg (by omega)]
  | succ d ih =>
    intro i h0 hd
    have hlt : i < (l.length : Int) := by omega
    refine Tells.step (fun k => ?_) (ih (i + 1) (by omega) (by omega))
    simp only [columbarykeep_Same_int.l0]
    rw [if_pos hlt, if_pos h0, if_pos hlt, if_pos trivial, step_i h0 hlt (by omega)]

theorem same_tells (l : List Int) (hl : l.length ≤ 1000) : Tells (fun k => columbarykeep_Same_int.f k l l) (· = true) := by
  unfold columbarykeep_Same_int.f
  simp only [if_true]
  exact same_loop l hl l.length 0 (by omega) (by omega)

/-- Of right classes each is told its least thing already. -/
theorem fst_is (p : List Int) (hp : Rt p) (j r : Int) (j0 : 0 ≤ j) (j1 : j < (p.length : Int)) (h : Fst p j r) : r = rd p j := by
  obtain ⟨a, b, c⟩ := hp j j0 j1
  obtain ⟨r0, r1, r2, r3⟩ := h
  have d := (hp r r0 (by omega)).2.1
  by_cases e : rd p j < r
  · exact absurd c (r3 _ a e)
  · omega

theorem there_no (p l : List Int) (h : ¬ ∀ x ∈ l, 0 ≤ x ∧ x < (p.length : Int)) : part_there.f p l = some false := by
  unfold part_there.f
  have : l.any (off p.length) = true := by
    rw [List.any_eq_true]
    apply Classical.byContradiction
    intro c
    refine h (fun x hx => Classical.byContradiction fun d => c ⟨x, hx, ?_⟩)
    simp [off]
    omega
  rw [this]
  rfl

theorem rd_mem (l : List Int) (j : Int) (j0 : 0 ≤ j) (j1 : j < (l.length : Int)) : rd l j ∈ l := by
  have h : j.toNat < l.length := by omega
  unfold rd
  rw [List.getD_eq_getElem?_getD, List.getElem?_eq_getElem h]
  exact List.getElem_mem h

theorem right_any_loop (p : List Int) (hl : p.length ≤ 1000) (d : Nat) : ∀ i : Int, 0 ≤ i → (p.length : Int) - i = d → (∀ j : Int, 0 ≤ j → j < i → 0 ≤ rd p j ∧ rd p j ≤ j ∧ rd p (rd p j) = rd p j) → Tells (fun k => part_Right.l0 k p p (p.length : Int) i) (fun t => t = true → Rt p) := by
  induction d with
  | zero =>
    intro i h0 hd hp
    refine Tells.step (f := fun _ => some true) (fun k => ?_) (Tells.now _ (fun _ j j0 j1 => hp j j0 (by omega)))
    simp only [part_Right.l0]
    rw [if_neg (by omega)]
  | succ d ih =>
    intro i h0 hd hp
    have hlt : i < (p.length : Int) := by omega
    have no : Tells (fun _ => some false) (fun t => t = true → Rt p) := Tells.now _ (fun h => absurd h (by simp))
    by_cases c1 : rd p i < 0
    · refine Tells.step (fun k => ?_) no
      simp only [part_Right.l0]
      rw [if_pos hlt, if_pos h0, if_pos hlt, if_pos c1]
    · by_cases c2 : rd p i > i
      · refine Tells.step (fun k => ?_) no
        simp only [part_Right.l0]
        rw [if_pos hlt, if_pos h0, if_pos hlt, if_neg c1, if_pos c2]
      · by_cases c3 : rd p (rd p i) = rd p i
        · refine Tells.step (fun k => ?_) (ih (i + 1) (by omega) (by omega) (fun j j0 j1 => ?_))
          · simp only [part_Right.l0]
            rw [if_pos hlt, if_pos h0, if_pos hlt, if_neg c1, if_neg c2, if_pos (by omega), if_pos (by omega), if_pos c3, step_i h0 hlt (by omega)]
          · by_cases e : j = i
            · subst e; exact ⟨by omega, by omega, c3⟩
            · exact hp j j0 (by omega)
        · refine Tells.step (fun k => ?_) no
          simp only [part_Right.l0]
          rw [if_pos hlt, if_pos h0, if_pos hlt, if_neg c1, if_neg c2, if_pos (by omega), if_pos (by omega), if_neg c3]

/-- Of any classes both say the same: are these classes? -/
theorem right_any (p : List Int) (hl : p.length ≤ 1000) : ∃ t, Ev (fun k => part_Right.f k p) t ∧ Ev (fun k => columbaryref17_RightPart.f k p) t ∧ (t = true → Rt p) := by
  obtain ⟨t, ht, hq⟩ := right_any_loop p hl p.length 0 (by omega) (by omega) (fun j j0 j1 => by omega)
  exact ⟨t, ht, Ev.congr (fun k => rright_same k p p _ 0) ht, hq⟩

theorem rin_no_loop (p l : List Int) (hl : l.length ≤ 1000) (hn : ¬ ∀ x ∈ l, 0 ≤ x ∧ x < (p.length : Int)) (d : Nat) : ∀ i : Int, 0 ≤ i → (l.length : Int) - i = d → (∀ j : Int, 0 ≤ j → j < i → 0 ≤ rd l j ∧ rd l j < (p.length : Int)) → Tells (fun k => columbaryref17_inPart.l0 k p l (l.length : Int) i) (· = false) := by
  induction d with
  | zero =>
    intro i h0 hd hp
    exact absurd (fun x hx => by
      obtain ⟨j, j0, j1, rfl⟩ := mem_rd l x hx
      exact hp j j0 (by omega)) hn
  | succ d ih =>
    intro i h0 hd hp
    have hlt : i < (l.length : Int) := by omega
    have no : Tells (fun _ => some false) (· = false) := Tells.now _ rfl
    by_cases c1 : rd l i < 0
    · refine Tells.step (fun k => ?_) no
      simp only [columbaryref17_inPart.l0]
      rw [if_pos hlt, if_pos h0, if_pos hlt, if_pos c1]
    · by_cases c2 : rd l i ≥ (p.length : Int)
      · refine Tells.step (fun k => ?_) no
        simp only [columbaryref17_inPart.l0]
        rw [if_pos hlt, if_pos h0, if_pos hlt, if_neg c1, if_pos c2]
      · refine Tells.step (fun k => ?_) (ih (i + 1) (by omega) (by omega) (fun j j0 j1 => ?_))
        · simp only [columbaryref17_inPart.l0]
          rw [if_pos hlt, if_pos h0, if_pos hlt, if_neg c1, if_neg c2, step_i h0 hlt (by omega)]
        · by_cases e : j = i
          · subst e; omega
          · exact hp j j0 (by omega)

/-- Of any things both say the same: are these there? -/
theorem in_any (p l : List Int) (hl : l.length ≤ 1000) : ∃ t, part_there.f p l = some t ∧ Ev (fun k => columbaryref17_inPart.f k p l) t ∧ (t = true → ∀ j : Int, 0 ≤ j → j < (l.length : Int) → 0 ≤ rd l j ∧ rd l j < (p.length : Int)) := by
  by_cases h : ∀ x ∈ l, 0 ≤ x ∧ x < (p.length : Int)
  · have hj : ∀ j : Int, 0 ≤ j → j < (l.length : Int) → 0 ≤ rd l j ∧ rd l j < (p.length : Int) := fun j j0 j1 => h _ (rd_mem l j j0 j1)
    obtain ⟨t, ht, rfl⟩ := rin_loop p l hj hl l.length 0 (by omega) (by omega)
    exact ⟨true, there_yes p l h, ht, fun _ => hj⟩
  · obtain ⟨t, ht, rfl⟩ := rin_no_loop p l hl h l.length 0 (by omega) (by omega) (fun j j0 j1 => by omega)
    exact ⟨false, there_no p l h, ht, fun h => absurd h (by simp)⟩

/-- The classes of two things made one. -/
def one (q : List Int) (x y : Int) : List Int := if rd q x > rd q y then joined q (rd q y) (rd q x) else joined q (rd q x) (rd q y)

theorem one_length (q : List Int) (x y : Int) : (one q x y).length = q.length := by
  unfold one
  split <;> exact joined_length _ _ _

theorem one_rt (q : List Int) (hq : Rt q) (x y : Int) (x0 : 0 ≤ x) (x1 : x < (q.length : Int)) (y0 : 0 ≤ y) (y1 : y < (q.length : Int)) : Rt (one q x y) := by
  unfold one
  split
  · exact joined_rt q hq _ _ x y x0 x1 y0 y1 (.inr rfl) (.inl rfl) (by omega)
  · exact joined_rt q hq _ _ x y x0 x1 y0 y1 (.inl rfl) (.inr rfl) (by omega)

theorem joined_self (q : List Int) (a : Int) : joined q a a = q := by
  unfold joined
  have : (fun v : Int => if v = a then a else v) = id := by
    funext v
    by_cases h : v = a
    · rw [if_pos h, h]; rfl
    · rw [if_neg h]; rfl
  rw [this, List.map_id]

theorem one_self (q : List Int) (x : Int) : one q x x = q := by
  unfold one
  rw [if_neg (by omega)]
  exact joined_self _ _

theorem one_comm (q : List Int) (x y : Int) : one q x y = one q y x := by
  unfold one
  by_cases c : rd q x > rd q y
  · rw [if_pos c, if_neg (by omega)]
  · by_cases d : rd q y > rd q x
    · rw [if_neg c, if_pos d]
    · rw [if_neg c, if_neg d, show rd q x = rd q y by omega]

theorem one_same (q : List Int) (x y : Int) (h : rd q x = rd q y) : one q x y = q := by
  unfold one
  rw [if_neg (by omega), h]
  exact joined_self _ _

theorem rd_one (q : List Int) (x y j : Int) (j0 : 0 ≤ j) (j1 : j < (q.length : Int)) : rd (one q x y) j = if rd q j = rd q x then mn (rd q x) (rd q y) else if rd q j = rd q y then mn (rd q x) (rd q y) else rd q j := by
  unfold one
  by_cases c : rd q x > rd q y
  · rw [if_pos c, rd_joined q _ _ j j0 j1]
    by_cases d : rd q j = rd q x
    · rw [if_pos d, if_pos d]; unfold mn; omega
    · rw [if_neg d, if_neg d]
      by_cases e : rd q j = rd q y
      · rw [if_pos e, e]; unfold mn; omega
      · rw [if_neg e]
  · rw [if_neg c, rd_joined q _ _ j j0 j1]
    by_cases d : rd q j = rd q x
    · rw [if_pos d]
      by_cases e : rd q j = rd q y
      · rw [if_pos e]; unfold mn; omega
      · rw [if_neg e, d]; unfold mn; omega
    · rw [if_neg d]
      by_cases e : rd q j = rd q y
      · rw [if_pos e, if_pos e]; unfold mn; omega
      · rw [if_neg e, if_neg e]

theorem tie_loop (q0 : List Int) (hl : q0.length ≤ 1000) (x y : Int) (d : Nat) : ∀ (i : Int) (q : List Int), 0 ≤ i → (q0.length : Int) - i = d → q.length = q0.length → (∀ j : Int, 0 ≤ j → j < (q0.length : Int) → rd q j = if j < i then rd (one q0 x y) j else rd q0 j) →
    Tells (fun k => part_tie.l0 k q (rd q0 x) (rd q0 y) (q0.length : Int) i) (· = one q0 x y) := by
  induction d with
  | zero =>
    intro i q h0 hd hq he
    refine Tells.step (f := fun _ => some q) (fun k => ?_) (Tells.now _ (rd_ext _ _ (by rw [hq, one_length]) (fun j j0 j1 => by rw [he j j0 (by omega), if_pos (by omega)])))
    simp only [part_tie.l0]
    rw [if_neg (by omega)]
  | succ d ih =>
    intro i q h0 hd hq he
    have hlt : i < (q0.length : Int) := by omega
    have hi := he i h0 hlt
    rw [if_neg (by omega)] at hi
    have ho := rd_one q0 x y i h0 hlt
    have put : rd (one q0 x y) i = mn (rd q0 x) (rd q0 y) → Tells (fun k => part_tie.l0 k (q.set i.toNat (mn (rd q0 x) (rd q0 y))) (rd q0 x) (rd q0 y) (q0.length : Int) (i + 1)) (· = one q0 x y) := fun e => ih (i + 1) _ (by omega) (by omega) (by rw [List.length_set]; exact hq) (fun j j0 j1 => by
      rw [rd_set q i _ j h0 (by omega) j0]
      by_cases f : j = i
      · rw [if_pos f, if_pos (by omega), f, e]
      · rw [if_neg f, he j j0 j1]
        by_cases g : j < i
        · rw [if_pos g, if_pos (by omega)]
        · rw [if_neg g, if_neg (by omega)])
    by_cases c1 : rd q i = rd q0 x
    · rw [if_pos (by omega)] at ho
      refine Tells.step (fun k => ?_) (put ho)
      simp only [part_tie.l0]
      rw [if_pos hlt, if_pos h0, if_pos (by omega), if_pos c1, step_i h0 hlt (by omega)]
    · rw [if_neg (by omega)] at ho
      by_cases c2 : rd q i = rd q0 y
      · rw [if_pos (by omega)] at ho
        refine Tells.step (fun k => ?_) (put ho)
        simp only [part_tie.l0]
        rw [if_pos hlt, if_pos h0, if_pos (by omega), if_neg c1, if_pos c2, step_i h0 hlt (by omega)]
      · rw [if_neg (by omega)] at ho
        refine Tells.step (fun k => ?_) (ih (i + 1) q (by omega) (by omega) hq (fun j j0 j1 => ?_))
        · simp only [part_tie.l0]
          rw [if_pos hlt, if_pos h0, if_pos (by omega), if_neg c1, if_neg c2, step_i h0 hlt (by omega)]
        · rw [he j j0 j1]
          by_cases g : j < i
          · rw [if_pos g, if_pos (by omega)]
          · rw [if_neg g]
            by_cases f : j = i
            · rw [if_pos (by omega), f, ho]
            · rw [if_neg (by omega)]

theorem tie_tells (q : List Int) (hl : q.length ≤ 1000) (x y : Int) (x0 : 0 ≤ x) (x1 : x < (q.length : Int)) (y0 : 0 ≤ y) (y1 : y < (q.length : Int)) : Tells (fun k => part_tie.f k q x y) (· = one q x y) := by
  unfold part_tie.f
  simp only [if_pos x0, if_pos x1, if_pos y0, if_pos y1]
  exact tie_loop q hl x y q.length 0 q (by omega) (by omega) rfl (fun j j0 j1 => by rw [if_neg (by omega)])

/-- The classes behind n of some things, each joined to the first. -/
def chain (p l : List Int) : Nat → List Int
  | 0 => p
  | n + 1 => one (chain p l n) (rd l 0) (rd l (n : Int))

theorem chain_length (p l : List Int) : ∀ n, (chain p l n).length = p.length
  | 0 => rfl
  | n + 1 => (one_length _ _ _).trans (chain_length p l n)

theorem chain_one (p l : List Int) : chain p l 1 = p := one_self p _

/-- So far no two of them are of one class: the i-th is beside those ahead of k. -/
def Free (p l : List Int) (i k : Int) : Prop := (∀ b a : Int, 0 ≤ a → a < b → b < i → rd p (rd l b) ≠ rd p (rd l a)) ∧ ∀ a : Int, 0 ≤ a → a < k → rd p (rd l i) ≠ rd p (rd l a)

theorem free_step (p l : List Int) (i k : Int) (k0 : 0 ≤ k) : Free p l i (k + 1) ↔ Free p l i k ∧ rd p (rd l i) ≠ rd p (rd l k) := by
  constructor
  · exact fun h => ⟨⟨h.1, fun a a0 a1 => h.2 a a0 (by omega)⟩, h.2 k k0 (by omega)⟩
  · rintro ⟨h, e⟩
    refine ⟨h.1, fun a a0 a1 => ?_⟩
    by_cases c : a = k
    · subst c; exact e
    · exact h.2 a a0 (by omega)

theorem free_next (p l : List Int) (i : Int) : Free p l (i + 1) 0 ↔ Free p l i i := by
  constructor
  · exact fun h => ⟨fun b a a0 a1 b1 => h.1 b a a0 a1 (by omega), fun a a0 a1 => h.1 i a a0 a1 (by omega)⟩
  · intro h
    refine ⟨fun b a a0 a1 b1 => ?_, fun a a0 a1 => by omega⟩
    by_cases c : b = i
    · subst c; exact h.2 a a0 a1
    · exact h.1 b a a0 a1 (by omega)

theorem free_put (p l : List Int) (i k : Int) (k0 : 0 ≤ k) (g : Bool) (hg : g = true ↔ Free p l i k) (g' : Bool) (h : g' = (g && (rd p (rd l i) != rd p (rd l k)))) : g' = true ↔ Free p l i (k + 1) := by
  rw [free_step p l i k k0, ← hg, h]
  simp

/-- What is told of joining: the classes, and whether no two were of one. -/
def Joint (p l : List Int) (r : List Int × Bool) : Prop := r.1 = chain p l l.length ∧ (r.2 = true ↔ Free p l (l.length : Int) 0)

theorem joint_same (p l : List Int) (r s : List Int × Bool) (hr : Joint p l r) (hs : Joint p l s) : r = s := by
  refine Prod.ext (hr.1.trans hs.1.symm) ?_
  have := hr.2.trans hs.2.symm
  cases h1 : r.2 <;> cases h2 : s.2 <;> simp_all

theorem join_l2 (p l : List Int) (hpl : p.length ≤ 1000) (hl : l.length ≤ 1000) (hin : ∀ j : Int, 0 ≤ j → j < (l.length : Int) → 0 ≤ rd l j ∧ rd l j < (p.length : Int)) (g : Bool) (hg : g = true ↔ Free p l (l.length : Int) 0) (d : Nat) : ∀ n : Nat, n + d = l.length →
    Tells (fun k => part_Join.l2 k l (chain p l n) g l (l.length : Int) (n : Int)) (Joint p l) := by
  induction d with
  | zero =>
    intro n hd
    refine Tells.step (f := fun _ => some (chain p l n, g)) (fun k => ?_) (Tells.now _ ⟨by rw [show n = l.length by omega], hg⟩)
    simp only [part_Join.l2]
    rw [if_neg (by omega)]
  | succ d ih =>
    intro n hd
    obtain ⟨a, b⟩ := hin 0 (by omega) (by omega)
    obtain ⟨a2, b2⟩ := hin (n : Int) (by omega) (by omega)
    have hc := chain_length p l n
    refine Tells.step (f := fun k => (part_tie.f k (chain p l n) (rd l 0) (rd l (n : Int))).bind fun t => part_Join.l2 k l t g l (l.length : Int) ((n + 1 : Nat) : Int)) (fun k => ?_) (Tells.bind (tie_tells (chain p l n) (by omega) _ _ a (by omega) a2 (by omega)) (fun t ht => ?_))
    · simp only [part_Join.l2]
      rw [if_pos (by omega), if_pos (by omega), if_pos (by omega), if_pos (by omega), step_i (by omega) (show (n : Int) < (l.length : Int) by omega) (by omega)]
      rfl
    · subst ht
      exact ih (n + 1) (by omega)

theorem rd_take (l : List Int) (i k : Int) (h0 : 0 ≤ k) (h : k < i) : rd (l.take i.toNat) k = rd l k := by
  unfold rd
  rw [List.getD_eq_getElem?_getD, List.getElem?_take, if_pos (by omega), ← List.getD_eq_getElem?_getD]

theorem join_l1 (p l : List Int) (hpl : p.length ≤ 1000) (hl : l.length ≤ 1000) (hin : ∀ j : Int, 0 ≤ j → j < (l.length : Int) → 0 ≤ rd l j ∧ rd l j < (p.length : Int)) (i : Int) (i0 : 0 ≤ i) (i1 : i < (l.length : Int))
    (next : ∀ g : Bool, (g = true ↔ Free p l i i) → Tells (fun k => part_Join.l0 k p l p g l (l.length : Int) (i + 1)) (Joint p l)) (d : Nat) : ∀ (k : Int) (g : Bool), 0 ≤ k → i - k = d → (g = true ↔ Free p l i k) →
    Tells (fun n => part_Join.l1 n p l p g (rd l i) l (l.length : Int) i (l.take i.toNat) i k) (Joint p l) := by
  have lt : ((l.take i.toNat).length : Int) = i := by rw [List.length_take]; omega
  induction d with
  | zero =>
    intro k g h0 hd hg
    obtain rfl : k = i := by omega
    refine Tells.step (fun n => ?_) (next g hg)
    simp only [part_Join.l1]
    rw [if_neg (by omega), step_i i0 i1 (by omega)]
  | succ d ih =>
    intro k g h0 hd hg
    have hlt : k < i := by omega
    obtain ⟨a, b⟩ := hin i i0 i1
    obtain ⟨a2, b2⟩ := hin k h0 (by omega)
    cases g with
    | true =>
      refine Tells.step (fun n => ?_) (ih (k + 1) (rd p (rd l i) != rd p (rd l k)) (by omega) (by omega) (free_put p l i k h0 true hg _ (by simp)))
      simp only [part_Join.l1]
      rw [if_pos hlt, if_pos h0, if_pos (by omega), if_pos trivial, if_pos a, if_pos b, rd_take l i k h0 hlt, if_pos a2, if_pos b2, wrap_id (by omega) (by omega)]
    | false =>
      refine Tells.step (fun n => ?_) (ih (k + 1) false (by omega) (by omega) (free_put p l i k h0 false hg _ (by simp)))
      simp only [part_Join.l1]
      rw [if_pos hlt, if_pos h0, if_pos (by omega), if_neg (by simp), wrap_id (by omega) (by omega)]

theorem join_l0 (p l : List Int) (hpl : p.length ≤ 1000) (hl : l.length ≤ 1000) (hin : ∀ j : Int, 0 ≤ j → j < (l.length : Int) → 0 ≤ rd l j ∧ rd l j < (p.length : Int)) (d : Nat) : ∀ (i : Int) (g : Bool), 0 ≤ i → (l.length : Int) - i = d → (g = true ↔ Free p l i 0) →
    Tells (fun k => part_Join.l0 k p l p g l (l.length : Int) i) (Joint p l) := by
  induction d with
  | zero =>
    intro i g h0 hd hg
    obtain rfl : i = (l.length : Int) := by omega
    refine Tells.step (fun k => ?_) (join_l2 p l hpl hl hin g hg l.length 0 (by omega))
    simp only [part_Join.l0]
    rw [if_neg (by omega)]
    rfl
  | succ d ih =>
    intro i g h0 hd hg
    have hlt : i < (l.length : Int) := by omega
    have lt : ((l.take i.toNat).length : Int) = i := by rw [List.length_take]; omega
    refine Tells.step (fun k => ?_) (join_l1 p l hpl hl hin i h0 hlt (fun g hg => ih (i + 1) g (by omega) (by omega) (hg.trans (free_next p l i).symm)) i.toNat 0 g (by omega) (by omega) hg)
    simp only [part_Join.l0]
    rw [if_pos hlt, if_pos h0, if_pos hlt, if_pos (by omega), lt]

theorem rjoin_l1 (p l : List Int) (hpl : p.length ≤ 1000) (hl : l.length ≤ 1000) (hin : ∀ j : Int, 0 ≤ j → j < (l.length : Int) → 0 ≤ rd l j ∧ rd l j < (p.length : Int)) (i : Nat) (i1 : i < l.length)
    (next : ∀ g : Bool, (g = true ↔ Free p l i i) → Tells (fun k => columbaryref17_JoinPart.l0 k p l (chain p l (i + 1)) g (wrap64 ((i : Int) + 1))) (Joint p l)) (d : Nat) : ∀ (k : Int) (g : Bool), 0 ≤ k → (i : Int) - k = d → (g = true ↔ Free p l i k) →
    Tells (fun n => columbaryref17_JoinPart.l1 n p l (chain p l i) g i k) (Joint p l) := by
  obtain ⟨a, b⟩ := hin (i : Int) (by omega) (by omega)
  have hc := chain_length p l i
  induction d with
  | zero =>
    intro k g h0 hd hg
    obtain rfl : k = (i : Int) := by omega
    obtain ⟨a2, b2⟩ := hin 0 (by omega) (by omega)
    have nx := next g hg
    by_cases c : rd (chain p l i) (rd l 0) > rd (chain p l i) (rd l (i : Int))
    · have e : chain p l (i + 1) = joined (chain p l i) (rd (chain p l i) (rd l (i : Int))) (rd (chain p l i) (rd l 0)) := if_pos c
      rw [e] at nx
      refine Tells.step (f := fun n => columbaryref17_JoinPart.j3 n p l (chain p l i) g i (rd (chain p l i) (rd l (i : Int))) (rd (chain p l i) (rd l 0))) (fun n => ?_) (Tells.step (fun n => ?_) (rjoin_l2 p l (chain p l i) g (i : Int) _ _ (by omega) nx p.length 0 (chain p l i) (by omega) (by omega) rfl (fun j j0 j1 => by rw [if_neg (by omega)])))
      · simp only [columbaryref17_JoinPart.l1]
        rw [if_neg (by omega), if_pos (by omega), if_pos a2, if_pos (by omega), if_pos (by omega), if_pos (by omega), if_pos a, if_pos (by omega), if_pos c]
      · simp only [columbaryref17_JoinPart.j3]
    · have e : chain p l (i + 1) = joined (chain p l i) (rd (chain p l i) (rd l 0)) (rd (chain p l i) (rd l (i : Int))) := if_neg c
      rw [e] at nx
      refine Tells.step (f := fun n => columbaryref17_JoinPart.j3 n p l (chain p l i) g i (rd (chain p l i) (rd l 0)) (rd (chain p l i) (rd l (i : Int)))) (fun n => ?_) (Tells.step (fun n => ?_) (rjoin_l2 p l (chain p l i) g (i : Int) _ _ (by omega) nx p.length 0 (chain p l i) (by omega) (by omega) rfl (fun j j0 j1 => by rw [if_neg (by omega)])))
      · simp only [columbaryref17_JoinPart.l1]
        rw [if_neg (by omega), if_pos (by omega), if_pos a2, if_pos (by omega), if_pos (by omega), if_pos (by omega), if_pos a, if_pos (by omega), if_neg c]
      · simp only [columbaryref17_JoinPart.j3]
  | succ d ih =>
    intro k g h0 hd hg
    have hlt : k < (i : Int) := by omega
    obtain ⟨a2, b2⟩ := hin k h0 (by omega)
    cases g with
    | true =>
      refine Tells.step (fun n => ?_) (ih (k + 1) (rd p (rd l (i : Int)) != rd p (rd l k)) (by omega) (by omega) (free_put p l i k h0 true hg _ (by simp)))
      simp only [columbaryref17_JoinPart.l1]
      rw [if_pos hlt, if_pos trivial, if_pos (by omega), if_pos (by omega), if_pos a, if_pos b, if_pos h0, if_pos (by omega), if_pos a2, if_pos b2, wrap_id (by omega) (by omega)]
    | false =>
      refine Tells.step (fun n => ?_) (ih (k + 1) false (by omega) (by omega) (free_put p l i k h0 false hg _ (by simp)))
      simp only [columbaryref17_JoinPart.l1]
      rw [if_pos hlt, if_neg (by simp), wrap_id (by omega) (by omega)]

theorem rjoin_l0 (p l : List Int) (hpl : p.length ≤ 1000) (hl : l.length ≤ 1000) (hin : ∀ j : Int, 0 ≤ j → j < (l.length : Int) → 0 ≤ rd l j ∧ rd l j < (p.length : Int)) (d : Nat) : ∀ (i : Nat) (g : Bool), i + d = l.length → (g = true ↔ Free p l i 0) →
    Tells (fun k => columbaryref17_JoinPart.l0 k p l (chain p l i) g (i : Int)) (Joint p l) := by
  induction d with
  | zero =>
    intro i g hd hg
    obtain rfl : i = l.length := by omega
    refine Tells.step (f := fun _ => some (chain p l l.length, g)) (fun k => ?_) (Tells.now _ ⟨rfl, hg⟩)
    simp only [columbaryref17_JoinPart.l0]
    rw [if_neg (by omega)]
  | succ d ih =>
    intro i g hd hg
    refine Tells.step (fun k => ?_) (rjoin_l1 p l hpl hl hin i (by omega) (fun g hg => ?_) i 0 g (by omega) (by omega) hg)
    · simp only [columbaryref17_JoinPart.l0]
      rw [if_pos (by omega)]
    · rw [wrap_id (by omega) (by omega)]
      exact ih (i + 1) g (by omega) (hg.trans (free_next p l i).symm)

theorem free_none (p l : List Int) : Free p l 0 0 := ⟨fun b a _ _ _ => by omega, fun a _ _ => by omega⟩

theorem rjoin_all (p l : List Int) (hpl : p.length ≤ 1000) (hl : l.length ≤ 1000) (hin : ∀ j : Int, 0 ≤ j → j < (l.length : Int) → 0 ≤ rd l j ∧ rd l j < (p.length : Int)) : Tells (fun k => columbaryref17_JoinPart.l0 k p l p true 1) (Joint p l) := by
  cases l with
  | nil =>
    refine Tells.step (f := fun _ => some (p, true)) (fun k => ?_) (Tells.now _ ⟨rfl, iff_of_true rfl (free_none p [])⟩)
    simp only [columbaryref17_JoinPart.l0]
    rw [if_neg (by simp)]
  | cons x l =>
    have h := rjoin_l0 p (x :: l) hpl hl hin l.length 1 true (by rw [List.length_cons]; omega) (iff_of_true rfl ⟨fun b a _ _ _ => by omega, fun a _ _ => by omega⟩)
    rw [chain_one] at h
    exact h

/-- Of any classes, any things: joined, both tell the same. -/
theorem joins_both (p l : List Int) (hpl : p.length ≤ 1000) (hl : l.length ≤ 1000) : ∃ r, Ev (fun k => part_Join.f k p l) r ∧ Ev (fun k => columbaryref17_JoinPart.f k p l) r ∧ r.1.length ≤ 1000 := by
  obtain ⟨t, ht, hr, hq⟩ := right_any p hpl
  have no1 : Ev (fun k => part_Join.j0 k p l true) (([] : List Int), false) := Ev.step (f := fun _ => some (([] : List Int), false)) (fun k => by simp only [part_Join.j0]; rw [if_pos trivial]) (Ev.now _)
  have no2 : Ev (fun k => columbaryref17_JoinPart.j0 k p l true) (([] : List Int), false) := Ev.step (f := fun _ => some (([] : List Int), false)) (fun k => by simp only [columbaryref17_JoinPart.j0]; rw [if_pos trivial]) (Ev.now _)
  cases t with
  | false => exact ⟨([], false), Ev.bind ht (by simpa using no1), Ev.bind hr (by simpa using no2), by simp⟩
  | true =>
    obtain ⟨u, hu, hv, hin⟩ := in_any p l hl
    cases u with
    | false => exact ⟨([], false), Ev.bind ht (by simpa [hu] using no1), Ev.bind hr (by simpa using Ev.bind (f := fun k t => columbaryref17_JoinPart.j0 k p l (!t)) hv (by simpa using no2)), by simp⟩
    | true =>
      obtain ⟨r, h1, j1⟩ := join_l0 p l hpl hl (hin rfl) l.length 0 true (by omega) (by omega) (iff_of_true rfl (free_none p l))
      obtain ⟨s, h2, j2⟩ := rjoin_all p l hpl hl (hin rfl)
      obtain rfl := joint_same p l r s j1 j2
      have y1 : Ev (fun k => part_Join.j0 k p l false) r := Ev.step (fun k => by simp only [part_Join.j0]; rw [if_neg (by simp), clone_int p hpl]; rfl) h1
      have y2 : Ev (fun k => columbaryref17_JoinPart.j0 k p l false) r := Ev.step (fun k => by simp only [columbaryref17_JoinPart.j0]; rw [if_neg (by simp), if_pos (by simp only [List.length_nil]; omega), List.nil_append]) h2
      refine ⟨r, Ev.bind ht (by simpa [hu] using y1), Ev.bind hr (by simpa using Ev.bind (f := fun k t => columbaryref17_JoinPart.j0 k p l (!t)) hv (by simpa using y2)), ?_⟩
      rw [j1.1, chain_length]
      exact hpl

/-- One by one what the second's things hang together. -/
def merged (p q : List Int) : Nat → List Int
  | 0 => p
  | n + 1 => one (merged p q n) (n : Int) (rd q (n : Int))

theorem merged_length (p q : List Int) : ∀ n, (merged p q n).length = p.length
  | 0 => rfl
  | n + 1 => (one_length _ _ _).trans (merged_length p q n)

theorem merged_rt (p q : List Int) (hp : Rt p) (hq : Rt q) (hl : p.length = q.length) : ∀ n, n ≤ p.length → Rt (merged p q n)
  | 0, _ => hp
  | n + 1, h => by
    have e := merged_length p q n
    obtain ⟨a, b, c⟩ := hq (n : Int) (by omega) (by omega)
    exact one_rt _ (merged_rt p q hp hq hl n (by omega)) _ _ (by omega) (by omega) a (by omega)

theorem merge_l0 (p q : List Int) (hq : Rt q) (hl : p.length = q.length) (hpl : p.length ≤ 1000) (d : Nat) : ∀ n : Nat, n + d = q.length → Tells (fun k => part_Merge.l0 k (merged p q n) q (q.length : Int) (n : Int)) (· = merged p q q.length) := by
  induction d with
  | zero =>
    intro n hd
    refine Tells.step (f := fun _ => some (merged p q n)) (fun k => ?_) (Tells.now _ (by rw [show n = q.length by omega]))
    simp only [part_Merge.l0]
    rw [if_neg (by omega)]
  | succ d ih =>
    intro n hd
    obtain ⟨a, b, c⟩ := hq (n : Int) (by omega) (by omega)
    have hc := merged_length p q n
    refine Tells.step (f := fun k => (part_tie.f k (merged p q n) (n : Int) (rd q (n : Int))).bind fun t => part_Merge.l0 k t q (q.length : Int) ((n + 1 : Nat) : Int)) (fun k => ?_) (Tells.bind (tie_tells (merged p q n) (by omega) _ _ (by omega) (by omega) a (by omega)) (fun t ht => ?_))
    · simp only [part_Merge.l0]
      rw [if_pos (by omega), if_pos (by omega), if_pos (by omega), step_i (by omega) (show (n : Int) < (q.length : Int) by omega) (by omega)]
      rfl
    · subst ht
      exact ih (n + 1) (by omega)

/-- Two things joined, by the document: their classes are one. -/
theorem rjoin_pair (p : List Int) (hp : Rt p) (hpl : p.length ≤ 1000) (x y : Int) (x0 : 0 ≤ x) (x1 : x < (p.length : Int)) (y0 : 0 ≤ y) (y1 : y < (p.length : Int)) : Tells (fun k => columbaryref17_JoinPart.f k p [x, y]) (fun r => r.1 = one p x y) := by
  have hin : ∀ j : Int, 0 ≤ j → j < (([x, y] : List Int).length : Int) → 0 ≤ rd [x, y] j ∧ rd [x, y] j < (p.length : Int) := by
    intro j j0 j1
    have : j = 0 ∨ j = 1 := by simp at j1; omega
    rcases this with rfl | rfl
    · exact ⟨x0, x1⟩
    · exact ⟨y0, y1⟩
  unfold columbaryref17_JoinPart.f
  refine Tells.bind (rright_tells p hp hpl) (fun t ht => ?_)
  subst ht
  simp only [if_true]
  refine Tells.bind (rin_loop p [x, y] hin (by simp) 2 0 (by omega) (by simp)) (fun t ht => ?_)
  subst ht
  refine Tells.step (fun k => ?_) (Tells.mono (rjoin_all p [x, y] hpl (by simp) hin) (fun r hr => ?_))
  · simp only [columbaryref17_JoinPart.j0]
    rw [if_neg (by simp), if_pos (by simp only [List.length_nil]; omega), List.nil_append]
  · rw [hr.1]
    show one (chain p [x, y] 1) _ _ = _
    rw [chain_one]
    rfl

theorem rmerge_l0 (p q : List Int) (hp : Rt p) (hq : Rt q) (hl : p.length = q.length) (hpl : p.length ≤ 1000) (d : Nat) : ∀ n : Nat, n + d = q.length → Tells (fun k => columbaryref17_MergePart.l0 k q (merged p q n) (q.length : Int) (n : Int)) (· = merged p q q.length) := by
  induction d with
  | zero =>
    intro n hd
    refine Tells.step (f := fun _ => some (merged p q n)) (fun k => ?_) (Tells.now _ (by rw [show n = q.length by omega]))
    simp only [columbaryref17_MergePart.l0]
    rw [if_neg (by omega)]
  | succ d ih =>
    intro n hd
    obtain ⟨a, b, c⟩ := hq (n : Int) (by omega) (by omega)
    have hc := merged_length p q n
    have w : wrap64 ((n : Int) + 1) = ((n + 1 : Nat) : Int) := by rw [step_i (by omega) (show (n : Int) < (q.length : Int) by omega) (by omega)]; rfl
    by_cases e : rd q (n : Int) = (n : Int)
    · have s : merged p q (n + 1) = merged p q n := by
        show one _ _ _ = _
        rw [e]
        exact one_self _ _
      refine Tells.step (fun k => ?_) (ih (n + 1) (by omega))
      simp only [columbaryref17_MergePart.l0]
      rw [if_pos (by omega), if_pos (by omega), if_pos (by omega), if_pos e, w, s]
    · refine Tells.step (f := fun k => (columbaryref17_JoinPart.f k (merged p q n) [rd q (n : Int), (n : Int)]).bind fun b => columbaryref17_MergePart.l0 k q b.1 (q.length : Int) ((n + 1 : Nat) : Int)) (fun k => ?_) (Tells.bind (rjoin_pair (merged p q n) (merged_rt p q hp hq hl n (by omega)) (by omega) _ _ a (by omega) (by omega) (by omega)) (fun t ht => ?_))
      · simp only [columbaryref17_MergePart.l0]
        rw [if_pos (by omega), if_pos (by omega), if_pos (by omega), if_neg e, w]
      · rw [ht, one_comm]
        exact ih (n + 1) (by omega)

theorem merge_both (p q : List Int) (hpl : p.length ≤ 1000) (hql : q.length ≤ 1000) : ∃ r, Ev (fun k => part_Merge.f k p q) r ∧ Ev (fun k => columbaryref17_MergePart.f k p q) r ∧ r.length ≤ 1000 := by
  obtain ⟨t, ht, hr, hq1⟩ := right_any p hpl
  have no1 : Ev (fun k => part_Merge.j0 k p q true) ([] : List Int) := Ev.step (f := fun _ => some ([] : List Int)) (fun k => by simp only [part_Merge.j0]; rw [if_pos trivial]) (Ev.now _)
  have no2 : Ev (fun k => columbaryref17_MergePart.j0 k p q true) ([] : List Int) := Ev.step (f := fun _ => some ([] : List Int)) (fun k => by simp only [columbaryref17_MergePart.j0]; rw [if_pos trivial]) (Ev.now _)
  cases t with
  | false => exact ⟨[], Ev.bind ht (by simpa using no1), Ev.bind hr (by simpa using no2), by simp⟩
  | true =>
    obtain ⟨u, hu, hv, hq2⟩ := right_any q hql
    cases u with
    | false => exact ⟨[], Ev.bind ht (by simpa using Ev.bind (f := fun k t => if t = true then part_Merge.j0 k p q ((p.length : Int) != (q.length : Int)) else part_Merge.j0 k p q true) hu (by simpa using no1)), Ev.bind hr (by simpa using Ev.bind (f := fun k t => if t = true then columbaryref17_MergePart.j0 k p q ((p.length : Int) != (q.length : Int)) else columbaryref17_MergePart.j0 k p q true) hv (by simpa using no2)), by simp⟩
    | true =>
      by_cases c : p.length = q.length
      · obtain ⟨r, h1, rfl⟩ := merge_l0 p q (hq2 rfl) c hpl q.length 0 (by omega)
        obtain ⟨s, h2, rfl⟩ := rmerge_l0 p q (hq1 rfl) (hq2 rfl) c hpl q.length 0 (by omega)
        have e : ((p.length : Int) != (q.length : Int)) = false := by rw [c]; simp
        have y1 : Ev (fun k => part_Merge.j0 k p q false) (merged p q q.length) := Ev.step (fun k => by simp only [part_Merge.j0]; rw [if_neg (by simp), clone_int p hpl]; rfl) h1
        have y2 : Ev (fun k => columbaryref17_MergePart.j0 k p q false) (merged p q q.length) := Ev.step (fun k => by simp only [columbaryref17_MergePart.j0]; rw [if_neg (by simp), if_pos (by simp only [List.length_nil]; omega), List.nil_append]; rfl) h2
        refine ⟨merged p q q.length, Ev.bind ht ?_, Ev.bind hr ?_, by rw [merged_length]; exact hpl⟩
        · simp only [if_true]
          refine Ev.bind hu ?_
          simp only [if_true, e]
          exact y1
        · simp only [if_true]
          refine Ev.bind hv ?_
          simp only [if_true, e]
          exact y2
      · have e : ((p.length : Int) != (q.length : Int)) = true := by simp; omega
        refine ⟨[], Ev.bind ht ?_, Ev.bind hr ?_, by simp⟩
        · simp only [if_true]
          refine Ev.bind hu ?_
          simp only [if_true, e]
          exact no1
        · simp only [if_true]
          refine Ev.bind hv ?_
          simp only [if_true, e]
          exact no2

/-- Some of them by numbers that no class has. -/
def Parted (p l q : List Int) : Prop := q.length = p.length ∧ ∀ j : Int, 0 ≤ j → j < (p.length : Int) → rd q j = if j ∈ l then -1 - j else rd p j

theorem alone_l0 (p l : List Int) (hpl : p.length ≤ 1000) (hl : l.length ≤ 1000) (hin : ∀ j : Int, 0 ≤ j → j < (l.length : Int) → 0 ≤ rd l j ∧ rd l j < (p.length : Int)) (d : Nat) : ∀ (i : Int) (q : List Int), 0 ≤ i → (l.length : Int) - i = d → q.length = p.length → (∀ j : Int, 0 ≤ j → j < (p.length : Int) → rd q j = if j ∈ l.take i.toNat then -1 - j else rd p j) →
    Tells (fun k => part_Alone.l0 k q l (l.length : Int) i) (fun o => o.length = p.length ∧ ∃ q, Parted p l q ∧ ∀ j : Int, 0 ≤ j → j < (p.length : Int) → Fst q j (rd o j)) := by
  induction d with
  | zero =>
    intro i q h0 hd hq he
    rw [List.take_of_length_le (by omega)] at he
    refine Tells.step (f := fun k => (part_lowest.f k q).bind fun t => some t) (fun k => ?_) (Tells.bind (lowest_tells q (by omega)) (fun o ho => Tells.now o ⟨by rw [ho.1, hq], q, ⟨hq, he⟩, fun j j0 j1 => ho.2 j j0 (by omega)⟩))
    simp only [part_Alone.l0]
    rw [if_neg (by omega)]
  | succ d ih =>
    intro i q h0 hd hq he
    have hlt : i < (l.length : Int) := by omega
    obtain ⟨a, b⟩ := hin i h0 hlt
    have w : wrap64 (-1 - rd l i) = -1 - rd l i := wrap_id (by omega) (by omega)
    refine Tells.step (fun k => ?_) (ih (i + 1) (q.set (rd l i).toNat (-1 - rd l i)) (by omega) (by omega) (by rw [List.length_set]; exact hq) (fun j j0 j1 => ?_))
    · simp only [part_Alone.l0]
      rw [if_pos hlt, if_pos h0, if_pos hlt, if_pos a, if_pos (by omega), w, step_i h0 hlt (by omega)]
    · rw [rd_set q (rd l i) _ j a (by omega) j0, he j j0 j1]
      have hn : i.toNat < l.length := by omega
      have ht : l.take (i + 1).toNat = l.take i.toNat ++ [rd l i] := by
        rw [show (i + 1).toNat = i.toNat + 1 by omega, List.take_succ_eq_append_getElem hn]
        congr 1
        unfold rd
        rw [List.getD_eq_getElem?_getD, List.getElem?_eq_getElem hn]
        rfl
      rw [ht]
      by_cases c : j = rd l i
      · rw [if_pos c, if_pos (by simp [c]), c]
      · rw [if_neg c]
        by_cases e : j ∈ l.take i.toNat
        · rw [if_pos e, if_pos (by simp [e])]
        · rw [if_neg e, if_neg (by simp [e, c])]

theorem hasInt_loop (l : List Int) (hl : l.length ≤ 1000) (x : Int) (d : Nat) : ∀ i : Int, 0 ≤ i → (l.length : Int) - i = d → (∀ j : Int, 0 ≤ j → j < i → rd l j ≠ x) → Tells (fun k => columbaryref17_hasInt.l0 k x l (l.length : Int) i) (· = decide (x ∈ l)) := by
  induction d with
  | zero =>
    intro i h0 hd hn
    have : ¬ x ∈ l := fun h => by
      obtain ⟨j, j0, j1, e⟩ := mem_rd l x h
      exact hn j j0 (by omega) e
    refine Tells.step (f := fun _ => some false) (fun k => ?_) (Tells.now _ (by rw [decide_eq_false this]))
    simp only [columbaryref17_hasInt.l0]
    rw [if_neg (by omega)]
  | succ d ih =>
    intro i h0 hd hn
    have hlt : i < (l.length : Int) := by omega
    by_cases c : rd l i = x
    · refine Tells.step (f := fun _ => some true) (fun k => ?_) (Tells.now _ (by rw [decide_eq_true (c ▸ rd_mem l i h0 hlt)]))
      simp only [columbaryref17_hasInt.l0]
      rw [if_pos hlt, if_pos h0, if_pos hlt, if_pos c]
    · refine Tells.step (fun k => ?_) (ih (i + 1) (by omega) (by omega) (fun j j0 j1 => ?_))
      · simp only [columbaryref17_hasInt.l0]
        rw [if_pos hlt, if_pos h0, if_pos hlt, if_neg c, step_i h0 hlt (by omega)]
      · by_cases e : j = i
        · subst e; exact c
        · exact hn j j0 (by omega)

theorem hasInt_tells (l : List Int) (hl : l.length ≤ 1000) (x : Int) : Tells (fun k => columbaryref17_hasInt.f k l x) (· = decide (x ∈ l)) := hasInt_loop l hl x l.length 0 (by omega) (by omega) (fun j j0 j1 => by omega)

/-- Two things stay together just if they were so and neither is to be alone. -/
theorem parted_same (p l q : List Int) (hp : Rt p) (hq : Parted p l q) (i k : Int) (k0 : 0 ≤ k) (ki : k < i) (i1 : i < (p.length : Int)) : rd q k = rd q i ↔ rd p k = rd p i ∧ ¬ k ∈ l ∧ ¬ i ∈ l := by
  have a := (hp k k0 (by omega)).1
  have b := (hp i (by omega) i1).1
  rw [hq.2 k k0 (by omega), hq.2 i (by omega) i1]
  by_cases c : k ∈ l
  · by_cases d : i ∈ l
    · rw [if_pos c, if_pos d]
      exact ⟨fun h => by omega, fun h => absurd c h.2.1⟩
    · rw [if_pos c, if_neg d]
      exact ⟨fun h => by omega, fun h => absurd c h.2.1⟩
  · by_cases d : i ∈ l
    · rw [if_neg c, if_pos d]
      exact ⟨fun h => by omega, fun h => absurd d h.2.2⟩
    · rw [if_neg c, if_neg d]
      exact ⟨fun h => ⟨h, c, d⟩, fun h => h.1⟩

/-- So far each is told by the first of its number. -/
def Firsts (q : List Int) (i : Int) (o : List Int) : Prop := ∀ j : Int, 0 ≤ j → j < i → Fst q j (rd o j)

theorem fst_self (q : List Int) (i : Int) (i0 : 0 ≤ i) (h : ∀ m : Int, 0 ≤ m → m < i → rd q m ≠ rd q i) : Fst q i i := ⟨i0, by omega, rfl, h⟩

theorem fst_of (q : List Int) (i k r : Int) (ki : k < i) (h : Fst q k r) (e : rd q k = rd q i) : Fst q i r := ⟨h.1, by have := h.2.1; omega, h.2.2.1.trans e, fun j j0 j1 => by rw [← e]; exact h.2.2.2 j j0 j1⟩

theorem ralone_l1 (p l q : List Int) (hp : Rt p) (hpl : p.length ≤ 1000) (hl : l.length ≤ 1000) (hq : Parted p l q) (i : Int) (i0 : 0 ≤ i) (i1 : i < (p.length : Int)) {Q : List Int → Prop}
    (next : ∀ o : List Int, o.length = p.length → Firsts q (i + 1) o → Tells (fun k => columbaryref17_AlonePart.l0 k p l o (p.length : Int) (i + 1)) Q) (o : List Int) (ho : o.length = p.length) (hf : Firsts q i o) (hi : rd o i = i) (d : Nat) : ∀ k : Int, 0 ≤ k → i - k = d → (∀ m : Int, 0 ≤ m → m < k → rd q m ≠ rd q i) →
    Tells (fun n => columbaryref17_AlonePart.l1 n p l o i k (p.length : Int) i) Q := by
  induction d with
  | zero =>
    intro k h0 hd hn
    obtain rfl : k = i := by omega
    refine Tells.step (fun n => ?_) (next o ho (fun j j0 j1 => ?_))
    · simp only [columbaryref17_AlonePart.l1]
      rw [if_neg (by omega), step_i i0 i1 (by omega)]
    · by_cases e : j = k
      · rw [e, hi]; exact fst_self q k i0 hn
      · exact hf j j0 (by omega)
  | succ d ih =>
    intro k h0 hd hn
    have hlt : k < i := by omega
    have ps := parted_same p l q hp hq i k h0 hlt i1
    have go : rd q k ≠ rd q i → Tells (fun n => columbaryref17_AlonePart.l1 n p l o i (k + 1) (p.length : Int) i) Q := fun e => ih (k + 1) (by omega) (by omega) (fun m m0 m1 => by
      by_cases f : m = k
      · subst f; exact e
      · exact hn m m0 (by omega))
    have w : wrap64 (k + 1) = k + 1 := wrap_id (by omega) (by omega)
    by_cases c : rd p k = rd p i
    · refine Tells.step (f := fun n => (columbaryref17_hasInt.f n l k).bind fun t => if t = true then columbaryref17_AlonePart.l1 n p l o i (k + 1) (p.length : Int) i else ((columbaryref17_hasInt.f n l i).bind fun u => if u = true then columbaryref17_AlonePart.l1 n p l o i (k + 1) (p.length : Int) i else columbaryref17_AlonePart.l0 n p l (o.set i.toNat (rd o k)) (p.length : Int) (i + 1))) (fun n => ?_) (Tells.bind (hasInt_tells l hl k) (fun t ht => ?_))
      · simp only [columbaryref17_AlonePart.l1]
        rw [if_pos hlt, if_pos h0, if_pos (by omega), if_pos i0, if_pos i1, if_pos c, w, step_i i0 i1 (by omega)]
        simp only [if_pos (show k < (o.length : Int) by omega), if_pos (show i < (o.length : Int) by omega)]
      · subst ht
        by_cases c1 : k ∈ l
        · rw [decide_eq_true c1]
          simp only [if_true]
          exact go (fun h => (ps.1 h).2.1 c1)
        · rw [decide_eq_false c1]
          simp only [if_neg (show ¬ false = true by simp)]
          refine Tells.bind (hasInt_tells l hl i) (fun u hu => ?_)
          subst hu
          by_cases c2 : i ∈ l
          · rw [decide_eq_true c2]
            simp only [if_true]
            exact go (fun h => (ps.1 h).2.2 c2)
          · rw [decide_eq_false c2]
            simp only [if_neg (show ¬ false = true by simp)]
            refine next _ (by rw [List.length_set]; exact ho) (fun j j0 j1 => ?_)
            rw [rd_set o i _ j i0 (by omega) j0]
            by_cases e : j = i
            · rw [if_pos e, e]
              exact fst_of q i k _ hlt (hf k h0 hlt) (ps.2 ⟨c, c1, c2⟩)
            · rw [if_neg e]
              exact hf j j0 (by omega)
    · refine Tells.step (fun n => ?_) (go (fun h => c (ps.1 h).1))
      simp only [columbaryref17_AlonePart.l1]
      rw [if_pos hlt, if_pos h0, if_pos (by omega), if_pos i0, if_pos i1, if_neg c, w]

theorem ralone_l0 (p l q : List Int) (hp : Rt p) (hpl : p.length ≤ 1000) (hl : l.length ≤ 1000) (hq : Parted p l q) (d : Nat) : ∀ (i : Int) (o : List Int), 0 ≤ i → (p.length : Int) - i = d → o.length = p.length → Firsts q i o →
    Tells (fun n => columbaryref17_AlonePart.l0 n p l o (p.length : Int) i) (fun o => o.length = p.length ∧ Firsts q (p.length : Int) o) := by
  induction d with
  | zero =>
    intro i o h0 hd ho hf
    refine Tells.step (f := fun _ => some o) (fun k => ?_) (Tells.now _ ⟨ho, fun j j0 j1 => hf j j0 (by omega)⟩)
    simp only [columbaryref17_AlonePart.l0]
    rw [if_neg (by omega)]
  | succ d ih =>
    intro i o h0 hd ho hf
    have hlt : i < (p.length : Int) := by omega
    refine Tells.step (fun n => ?_) (ralone_l1 p l q hp hpl hl hq i h0 hlt (fun o ho hf => ih (i + 1) o (by omega) (by omega) ho hf) (o.set i.toNat i) (by rw [List.length_set]; exact ho) (fun j j0 j1 => by rw [rd_set o i _ j h0 (by omega) j0, if_neg (by omega)]; exact hf j j0 j1) (by rw [rd_set o i _ i h0 (by omega) h0, if_pos rfl]) i.toNat 0 (by omega) (by omega) (fun m m0 m1 => by omega))
    simp only [columbaryref17_AlonePart.l0]
    rw [if_pos hlt, if_pos h0, if_pos (by omega)]

theorem firsts_same (q a b : List Int) (ha : a.length = q.length) (hb : b.length = q.length) (fa : Firsts q (q.length : Int) a) (fb : Firsts q (q.length : Int) b) : a = b := by
  refine rd_ext a b (by omega) (fun j j0 j1 => ?_)
  have e := fst_same q j j _ _ (fa j j0 (by omega)) (fb j j0 (by omega))
  rw [decide_eq_true rfl, beq_iff_eq] at e
  exact e

theorem alone_both (p l : List Int) (hpl : p.length ≤ 1000) (hl : l.length ≤ 1000) : ∃ r, Ev (fun k => part_Alone.f k p l) r ∧ Ev (fun k => columbaryref17_AlonePart.f k p l) r ∧ r.length ≤ 1000 := by
  obtain ⟨t, ht, hr, hq⟩ := right_any p hpl
  have no1 : Ev (fun k => part_Alone.j0 k p l true) ([] : List Int) := Ev.step (f := fun _ => some ([] : List Int)) (fun k => by simp only [part_Alone.j0]; rw [if_pos trivial]) (Ev.now _)
  have no2 : Ev (fun k => columbaryref17_AlonePart.j0 k p l true) ([] : List Int) := Ev.step (f := fun _ => some ([] : List Int)) (fun k => by simp only [columbaryref17_AlonePart.j0]; rw [if_pos trivial]) (Ev.now _)
  cases t with
  | false => exact ⟨[], Ev.bind ht (by simpa using no1), Ev.bind hr (by simpa using no2), by simp⟩
  | true =>
    obtain ⟨u, hu, hv, hin⟩ := in_any p l hl
    cases u with
    | false => exact ⟨[], Ev.bind ht (by simpa [hu] using no1), Ev.bind hr (by simpa using Ev.bind (f := fun k t => columbaryref17_AlonePart.j0 k p l (!t)) hv (by simpa using no2)), by simp⟩
    | true =>
      obtain ⟨a, h1, la, q, hq1, fa⟩ := alone_l0 p l hpl hl (hin rfl) l.length 0 p (by omega) (by omega) rfl (fun j j0 j1 => by simp)
      obtain ⟨b, h2, lb, fb⟩ := ralone_l0 p l q (hq rfl) hpl hl hq1 p.length 0 (List.replicate p.length 0) (by omega) (by omega) (by simp) (fun j j0 j1 => by omega)
      have e := hq1.1
      obtain rfl := firsts_same q a b (by omega) (by omega) (fun j j0 j1 => fa j j0 (by omega)) (fun j j0 j1 => fb j j0 (by omega))
      have y1 : Ev (fun k => part_Alone.j0 k p l false) a := Ev.step (fun k => by simp only [part_Alone.j0]; rw [if_neg (by simp), clone_int p hpl]; rfl) h1
      have y2 : Ev (fun k => columbaryref17_AlonePart.j0 k p l false) a := Ev.step (fun k => by simp only [columbaryref17_AlonePart.j0]; rw [if_neg (by simp), if_pos (by omega), if_pos (by omega)]; rfl) h2
      exact ⟨a, Ev.bind ht (by simpa [hu] using y1), Ev.bind hr (by simpa using Ev.bind (f := fun k t => columbaryref17_AlonePart.j0 k p l (!t)) hv (by simpa using y2)), by omega⟩

theorem rkeep_l2 (p l q : List Int) (hl : l.length ≤ 1000) (hin : ∀ j : Int, 0 ≤ j → j < (l.length : Int) → 0 ≤ rd l j ∧ rd l j < (p.length : Int)) (hq : ∀ j : Int, 0 ≤ j → j < (l.length : Int) → rd q j = rd p (rd l j)) (i : Int) (i0 : 0 ≤ i) (i1 : i < (l.length : Int)) {Q : List Int → Prop}
    (next : ∀ o : List Int, (o.length : Int) = i + 1 → Firsts q (i + 1) o → Tells (fun k => columbaryref17_KeepPart.l1 k p l o (l.length : Int) (i + 1)) Q) (o : List Int) (ho : (o.length : Int) = i + 1) (hf : Firsts q i o) (hi : rd o i = i) (d : Nat) : ∀ k : Int, 0 ≤ k → i - k = d → (∀ m : Int, 0 ≤ m → m < k → rd q m ≠ rd q i) →
    Tells (fun n => columbaryref17_KeepPart.l2 n p l o i k (l.length : Int) i) Q := by
  induction d with
  | zero =>
    intro k h0 hd hn
    obtain rfl : k = i := by omega
    refine Tells.step (fun n => ?_) (next o ho (fun j j0 j1 => ?_))
    · simp only [columbaryref17_KeepPart.l2]
      rw [if_neg (by omega), step_i i0 i1 (by omega)]
    · by_cases e : j = k
      · rw [e, hi]; exact fst_self q k i0 hn
      · exact hf j j0 (by omega)
  | succ d ih =>
    intro k h0 hd hn
    have hlt : k < i := by omega
    have w : wrap64 (k + 1) = k + 1 := wrap_id (by omega) (by omega)
    obtain ⟨a, b⟩ := hin i i0 i1
    obtain ⟨a2, b2⟩ := hin k h0 (by omega)
    by_cases c : rd p (rd l k) = rd p (rd l i)
    · refine Tells.step (fun n => ?_) (next (o.set i.toNat (rd o k)) (by rw [List.length_set]; exact ho) (fun j j0 j1 => ?_))
      · simp only [columbaryref17_KeepPart.l2]
        rw [if_pos hlt, if_pos h0, if_pos (by omega), if_pos a2, if_pos b2, if_pos i0, if_pos i1, if_pos a, if_pos b, if_pos c, if_pos (by omega), if_pos (by omega), step_i i0 i1 (by omega)]
      · rw [rd_set o i _ j i0 (by omega) j0]
        by_cases e : j = i
        · rw [if_pos e, e]
          exact fst_of q i k _ hlt (hf k h0 hlt) (by rw [hq k h0 (by omega), hq i i0 i1, c])
        · rw [if_neg e]
          exact hf j j0 (by omega)
    · refine Tells.step (fun n => ?_) (ih (k + 1) (by omega) (by omega) (fun m m0 m1 => ?_))
      · simp only [columbaryref17_KeepPart.l2]
        rw [if_pos hlt, if_pos h0, if_pos (by omega), if_pos a2, if_pos b2, if_pos i0, if_pos i1, if_pos a, if_pos b, if_neg c, w]
      · by_cases f : m = k
        · subst f
          rw [hq m h0 (by omega), hq i i0 i1]
          exact c
        · exact hn m m0 (by omega)

theorem rkeep_l1 (p l q : List Int) (hl : l.length ≤ 1000) (hin : ∀ j : Int, 0 ≤ j → j < (l.length : Int) → 0 ≤ rd l j ∧ rd l j < (p.length : Int)) (hq : ∀ j : Int, 0 ≤ j → j < (l.length : Int) → rd q j = rd p (rd l j)) (d : Nat) : ∀ (i : Int) (o : List Int), 0 ≤ i → (l.length : Int) - i = d → (o.length : Int) = i → Firsts q i o →
    Tells (fun n => columbaryref17_KeepPart.l1 n p l o (l.length : Int) i) (fun o => o.length = l.length ∧ Firsts q (l.length : Int) o) := by
  induction d with
  | zero =>
    intro i o h0 hd ho hf
    refine Tells.step (f := fun _ => some o) (fun k => ?_) (Tells.now _ ⟨by omega, fun j j0 j1 => hf j j0 (by omega)⟩)
    simp only [columbaryref17_KeepPart.l1]
    rw [if_neg (by omega)]
  | succ d ih =>
    intro i o h0 hd ho hf
    have hlt : i < (l.length : Int) := by omega
    refine Tells.step (fun n => ?_) (rkeep_l2 p l q hl hin hq i h0 hlt (fun o ho hf => ih (i + 1) o (by omega) (by omega) ho hf) (o ++ [i]) (by rw [List.length_append]; simp; omega) (fun j j0 j1 => by rw [rd_append o i j j0 (by omega), if_neg (by omega)]; exact hf j j0 j1) (by rw [rd_append o i i h0 (by omega), if_pos (by omega)]) i.toNat 0 (by omega) (by omega) (fun m m0 m1 => by omega))
    simp only [columbaryref17_KeepPart.l1]
    rw [if_pos hlt, if_pos (by omega)]

theorem rkeep_yes (p l : List Int) (hl : l.length ≤ 1000) (hr : Rises l (p.length : Int)) (q : List Int) (hq : ∀ j : Int, 0 ≤ j → j < (l.length : Int) → rd q j = rd p (rd l j)) (d : Nat) : ∀ i : Int, 1 ≤ i → (l.length : Int) - i ≤ d → Tells (fun n => columbaryref17_KeepPart.l0 n p l i) (fun o => o.length = l.length ∧ Firsts q (l.length : Int) o) := by
  induction d with
  | zero =>
    intro i h0 hd
    refine Tells.step (fun n => ?_) (rkeep_l1 p l q hl hr.1 hq l.length 0 [] (by omega) (by omega) (by simp) (fun j j0 j1 => by omega))
    simp only [columbaryref17_KeepPart.l0]
    rw [if_neg (by omega)]
  | succ d ih =>
    intro i h0 hd
    by_cases hlt : i < (l.length : Int)
    · have w : wrap64 (i - 1) = i - 1 := wrap_id (by omega) (by omega)
      have := hr.2 i (by omega) hlt
      refine Tells.step (fun n => ?_) (ih (i + 1) (by omega) (by omega))
      simp only [columbaryref17_KeepPart.l0]
      rw [if_pos hlt, w, if_pos (by omega), if_pos (by omega), if_pos (by omega), if_neg (by omega), step_i (by omega) hlt (by omega)]
    · refine Tells.step (fun n => ?_) (rkeep_l1 p l q hl hr.1 hq l.length 0 [] (by omega) (by omega) (by simp) (fun j j0 j1 => by omega))
      simp only [columbaryref17_KeepPart.l0]
      rw [if_neg hlt]

theorem rkeep_no (p l : List Int) (hl : l.length ≤ 1000) (hn : ¬ ∀ j : Int, 0 < j → j < (l.length : Int) → rd l (j - 1) < rd l j) (d : Nat) : ∀ i : Int, 1 ≤ i → (l.length : Int) - i ≤ d → (∀ j : Int, 0 < j → j < i → rd l (j - 1) < rd l j) → Tells (fun n => columbaryref17_KeepPart.l0 n p l i) (· = []) := by
  induction d with
  | zero =>
    intro i h0 hd hs
    exact absurd (fun j j0 j1 => hs j j0 (by omega)) hn
  | succ d ih =>
    intro i h0 hd hs
    by_cases hlt : i < (l.length : Int)
    · have w : wrap64 (i - 1) = i - 1 := wrap_id (by omega) (by omega)
      by_cases c : rd l (i - 1) ≥ rd l i
      · refine Tells.step (f := fun _ => some []) (fun n => ?_) (Tells.now _ rfl)
        simp only [columbaryref17_KeepPart.l0]
        rw [if_pos hlt, w, if_pos (by omega), if_pos (by omega), if_pos (by omega), if_pos c]
      · refine Tells.step (fun n => ?_) (ih (i + 1) (by omega) (by omega) (fun j j0 j1 => ?_))
        · simp only [columbaryref17_KeepPart.l0]
          rw [if_pos hlt, w, if_pos (by omega), if_pos (by omega), if_pos (by omega), if_neg c, step_i (by omega) hlt (by omega)]
        · by_cases e : j = i
          · subst e; omega
          · exact hs j j0 (by omega)
    · exact absurd (fun j j0 j1 => hs j j0 (by omega)) hn

theorem keep_no (p l : List Int) (hl : l.length ≤ 1000) (hin : ∀ j : Int, 0 ≤ j → j < (l.length : Int) → 0 ≤ rd l j ∧ rd l j < (p.length : Int)) (hn : ¬ ∀ j : Int, 0 < j → j < (l.length : Int) → rd l (j - 1) < rd l j) (d : Nat) : ∀ (i : Int) (o : List Int), 0 ≤ i → (l.length : Int) - i = d → (o.length : Int) = i → (∀ j : Int, 0 < j → j < i → rd l (j - 1) < rd l j) → Tells (fun k => part_Keep.l0 k p l o l (l.length : Int) i) (· = []) := by
  induction d with
  | zero =>
    intro i o h0 hd ho hs
    exact absurd (fun j j0 j1 => hs j j0 (by omega)) hn
  | succ d ih =>
    intro i o h0 hd ho hs
    have hlt : i < (l.length : Int) := by omega
    obtain ⟨a, b⟩ := hin i h0 hlt
    have next : (0 < i → rd l (i - 1) < rd l i) → Tells (fun k => part_Keep.l0 k p l (o ++ [rd p (rd l i)]) l (l.length : Int) (i + 1)) (· = []) := fun e => ih (i + 1) _ (by omega) (by omega) (by rw [List.length_append]; simp; omega) (fun j j0 j1 => by
      by_cases f : j = i
      · subst f; exact e j0
      · exact hs j j0 (by omega))
    by_cases c : i > 0
    · have e : wrap64 (i - 1) = i - 1 := wrap_id (by omega) (by omega)
      by_cases c2 : rd l (i - 1) ≥ rd l i
      · refine Tells.step (f := fun _ => some []) (fun n => ?_) (Tells.now _ rfl)
        simp only [part_Keep.l0]
        rw [if_pos hlt, if_pos h0, if_pos hlt, if_pos c, e, if_pos (by omega), if_pos (by omega), if_pos c2]
      · refine Tells.step (fun k => ?_) (next (fun _ => by omega))
        simp only [part_Keep.l0]
        rw [if_pos hlt, if_pos h0, if_pos hlt, if_pos c, e, if_pos (by omega), if_pos (by omega), if_neg c2, if_pos a, if_pos b, if_pos (by omega), step_i h0 hlt (by omega)]
    · refine Tells.step (fun k => ?_) (next (fun h => absurd h c))
      simp only [part_Keep.l0]
      rw [if_pos hlt, if_pos h0, if_pos hlt, if_neg c, if_pos a, if_pos b, if_pos (by omega), step_i h0 hlt (by omega)]

theorem keep_both (p l : List Int) (hpl : p.length ≤ 1000) (hl : l.length ≤ 1000) : ∃ r, Ev (fun k => part_Keep.f k p l) r ∧ Ev (fun k => columbaryref17_KeepPart.f k p l) r ∧ r.length ≤ 1000 := by
  obtain ⟨t, ht, hr, hq⟩ := right_any p hpl
  have no1 : Ev (fun k => part_Keep.j0 k p l true) ([] : List Int) := Ev.step (f := fun _ => some ([] : List Int)) (fun k => by simp only [part_Keep.j0]; rw [if_pos trivial]) (Ev.now _)
  have no2 : Ev (fun k => columbaryref17_KeepPart.j0 k p l true) ([] : List Int) := Ev.step (f := fun _ => some ([] : List Int)) (fun k => by simp only [columbaryref17_KeepPart.j0]; rw [if_pos trivial]) (Ev.now _)
  have s1 : ∀ k, part_Keep.j0 (k + 1) p l false = part_Keep.l0 k p l [] l (l.length : Int) 0 := fun k => by simp only [part_Keep.j0]; rw [if_neg (by simp)]
  have s2 : ∀ k, columbaryref17_KeepPart.j0 (k + 1) p l false = columbaryref17_KeepPart.l0 k p l 1 := fun k => by simp only [columbaryref17_KeepPart.j0]; rw [if_neg (by simp)]
  cases t with
  | false => exact ⟨[], Ev.bind ht (by simpa using no1), Ev.bind hr (by simpa using no2), by simp⟩
  | true =>
    obtain ⟨u, hu, hv, hin⟩ := in_any p l hl
    cases u with
    | false => exact ⟨[], Ev.bind ht (by simpa [hu] using no1), Ev.bind hr (by simpa using Ev.bind (f := fun k t => columbaryref17_KeepPart.j0 k p l (!t)) hv (by simpa using no2)), by simp⟩
    | true =>
      have fin : ∀ a : List Int, a.length ≤ 1000 → Ev (fun k => part_Keep.j0 k p l false) a → Ev (fun k => columbaryref17_KeepPart.j0 k p l false) a → ∃ r, Ev (fun k => part_Keep.f k p l) r ∧ Ev (fun k => columbaryref17_KeepPart.f k p l) r ∧ r.length ≤ 1000 := fun a ha y1 y2 =>
        ⟨a, Ev.bind ht (by simpa [hu] using y1), Ev.bind hr (by simpa using Ev.bind (f := fun k t => columbaryref17_KeepPart.j0 k p l (!t)) hv (by simpa using y2)), ha⟩
      by_cases c : ∀ j : Int, 0 < j → j < (l.length : Int) → rd l (j - 1) < rd l j
      · obtain ⟨a, h1, q, hql, hqe, la, fa⟩ := keep_loop p l ⟨hin rfl, c⟩ hl l.length 0 [] (by omega) (by omega) (by simp) (fun j j0 j1 => by omega)
        obtain ⟨b, h2, lb, fb⟩ := rkeep_yes p l hl ⟨hin rfl, c⟩ q hqe l.length 1 (by omega) (by omega)
        obtain rfl := firsts_same q a b (by omega) (by omega) (fun j j0 j1 => fa j j0 (by omega)) (fun j j0 j1 => fb j j0 (by omega))
        exact fin a (by omega) (Ev.step s1 h1) (Ev.step s2 h2)
      · obtain ⟨a, h1, rfl⟩ := keep_no p l hl (hin rfl) c l.length 0 [] (by omega) (by omega) (by simp) (fun j j0 j1 => by omega)
        obtain ⟨b, h2, rfl⟩ := rkeep_no p l hl c l.length 1 (by omega) (by omega) (fun j j0 j1 => by omega)
        exact fin [] (by simp) (Ev.step s1 h1) (Ev.step s2 h2)

theorem news_both (n : Int) : ∃ r, Ev (fun k => part_New.f k n) r ∧ Ev (fun k => columbaryref17_NewPart.f k n) r ∧ r.length ≤ 1000 := by
  by_cases h : 0 ≤ n ∧ n ≤ 1000
  · obtain ⟨a, h1, la, ea⟩ := new_tells n h.1 h.2
    obtain ⟨b, h2, lb, eb⟩ : Tells (fun k => columbaryref17_NewPart.f k n) (fun p => (p.length : Int) = n ∧ ∀ j : Int, 0 ≤ j → j < n → rd p j = j) := by
      unfold columbaryref17_NewPart.f
      simp only [if_neg (show ¬ n < 0 by omega), decide_eq_false (show ¬ n > 1000 by omega)]
      refine Tells.step (fun k => ?_) (rnew_loop n h.2 n.toNat 0 [] (by omega) (by omega) (by simp) (fun j j0 j1 => by omega))
      simp only [columbaryref17_NewPart.j0]
      rw [if_neg (by simp)]
    obtain rfl : a = b := rd_ext a b (by omega) (fun j j0 j1 => by rw [ea j j0 (by omega), eb j j0 (by omega)])
    exact ⟨a, h1, h2, by omega⟩
  · have no1 : Ev (fun k => part_New.j0 k n true) ([] : List Int) := Ev.step (f := fun _ => some ([] : List Int)) (fun k => by simp only [part_New.j0]; rw [if_pos trivial]) (Ev.now _)
    have no2 : Ev (fun k => columbaryref17_NewPart.j0 k n true) ([] : List Int) := Ev.step (f := fun _ => some ([] : List Int)) (fun k => by simp only [columbaryref17_NewPart.j0]; rw [if_pos trivial]) (Ev.now _)
    refine ⟨[], ?_, ?_, by simp⟩
    · unfold part_New.f
      by_cases c : n < 0
      · simpa only [if_pos c] using no1
      · simpa only [if_neg c, decide_eq_true (show n > 1000 by omega)] using no1
    · unfold columbaryref17_NewPart.f
      by_cases c : n < 0
      · simpa only [if_pos c] using no2
      · simpa only [if_neg c, decide_eq_true (show n > 1000 by omega)] using no2

theorem things_loop (n : Int) (n0 : 0 ≤ n) (n1 : n ≤ 1000) (c : List Int) (hc : c.length ≤ 5) (d : Nat) : ∀ (i : Int) (o : List Int), 0 ≤ i → (c.length : Int) - i = d → (o.length : Int) = i → Tells (fun k => columbarylaw22_things.l0 k n o c (c.length : Int) i) (fun x => x.length ≤ 5) := by
  induction d with
  | zero =>
    intro i o h0 hd ho
    refine Tells.step (f := fun _ => some o) (fun k => ?_) (Tells.now _ (by omega))
    simp only [columbarylaw22_things.l0]
    rw [if_neg (by omega)]
  | succ d ih =>
    intro i o h0 hd ho
    have hlt : i < (c.length : Int) := by omega
    have next : ∀ v : Int, Tells (fun k => columbarylaw22_things.l0 k n (o ++ [v]) c (c.length : Int) (i + 1)) (fun x => x.length ≤ 5) := fun v => ih (i + 1) _ (by omega) (by omega) (by rw [List.length_append]; simp; omega)
    by_cases e : Int.tmod (rd c i) 6 = 0
    · refine Tells.step (fun k => ?_) (next (rd c i))
      simp only [columbarylaw22_things.l0]
      rw [if_pos hlt, if_pos h0, if_pos hlt, if_pos e, if_pos (by omega), step_i h0 hlt (by omega)]
    · obtain ⟨r, hr, r0, r1⟩ := within_tells (rd c i) (mx n 1) (by unfold mx; omega) (by unfold mx; omega)
      refine Tells.step (fun k => ?_) (next r)
      simp only [columbarylaw22_things.l0]
      rw [if_pos hlt, if_pos h0, if_pos hlt, if_neg e, hr]
      simp only [Option.bind_some]
      rw [if_pos (by omega), step_i h0 hlt (by omega)]

theorem things_tells (l : List Int) (n : Int) (n0 : 0 ≤ n) (n1 : n ≤ 1000) : Tells (fun k => columbarylaw22_things.f k l n) (fun x => x.length ≤ 5) := by
  unfold columbarylaw22_things.f
  refine Tells.bindAt (cut_int l 5 (by omega) (by omega)) ?_
  have hc : (l.take (5 : Int).toNat).length ≤ 5 := by rw [List.length_take]; omega
  exact things_loop n n0 n1 _ hc (l.take (5 : Int).toNat).length 0 [] (by omega) (by omega) (by simp)

theorem law_j1 (m : Int) (p q x : List Int) (hpl : p.length ≤ 1000) (hql : q.length ≤ 1000) (hx : x.length ≤ 1000) (j : List Int) (ok : Bool) (hj : j.length ≤ 1000) : Tells (fun k => columbarylaw22_PartTells.j1 k m p q x j ok j ok) (· = true) := by
  obtain ⟨n, n1, n2, nl⟩ := news_both m
  obtain ⟨r, r1, r2, _⟩ := right_any p hpl
  obtain ⟨a, a1, a2, al⟩ := alone_both p x hpl hx
  obtain ⟨g, g1, g2, gl⟩ := merge_both p q hpl hql
  obtain ⟨c, c1, c2, cl⟩ := keep_both p x hpl hx
  refine Tells.step (fun k => by simp only [columbarylaw22_PartTells.j1]; rfl) ?_
  refine Tells.bind (P := (· = n)) ⟨n, n1, rfl⟩ (fun t ht => ?_)
  subst ht
  refine Tells.bind (P := (· = t)) ⟨t, n2, rfl⟩ (fun u hu => ?_)
  subst hu
  refine Tells.bind (same_tells u nl) (fun b hb => ?_)
  subst hb
  simp only [if_true]
  refine Tells.bind (P := (· = r)) ⟨r, r1, rfl⟩ (fun t ht => ?_)
  subst ht
  refine Tells.bind (P := (· = t)) ⟨t, r2, rfl⟩ (fun u hu => ?_)
  subst hu
  simp only [beq_self_eq_true, if_true]
  refine Tells.bind (same_tells j hj) (fun b hb => ?_)
  subst hb
  simp only [if_true]
  refine Tells.bind (P := (· = a)) ⟨a, a1, rfl⟩ (fun t ht => ?_)
  subst ht
  refine Tells.bind (P := (· = t)) ⟨t, a2, rfl⟩ (fun u hu => ?_)
  subst hu
  refine Tells.bind (same_tells u al) (fun b hb => ?_)
  subst hb
  simp only [if_true]
  refine Tells.bind (P := (· = g)) ⟨g, g1, rfl⟩ (fun t ht => ?_)
  subst ht
  refine Tells.bind (P := (· = t)) ⟨t, g2, rfl⟩ (fun u hu => ?_)
  subst hu
  refine Tells.bind (same_tells u gl) (fun b hb => ?_)
  subst hb
  simp only [if_true]
  refine Tells.bind (P := (· = c)) ⟨c, c1, rfl⟩ (fun t ht => ?_)
  subst ht
  refine Tells.bind (P := (· = t)) ⟨t, c2, rfl⟩ (fun u hu => ?_)
  subst hu
  refine Tells.bind (same_tells u cl) (fun b hb => ?_)
  subst hb
  simp only [if_true]
  exact Tells.bind wakes_tells (fun t ht => Tells.now t ht)

theorem law_j0 (l : List Int) (n : Int) (p q : List Int) (hpl : p.length ≤ 1000) (hql : q.length ≤ 1000) : Tells (fun k => columbarylaw22_PartTells.j0 k l n p q) (· = true) := by
  refine Tells.step (fun k => by simp only [columbarylaw22_PartTells.j0]; rfl) ?_
  refine Tells.bind (things_tells l (p.length : Int) (by omega) (by omega)) (fun x hx => ?_)
  obtain ⟨j, j1, j2, jl⟩ := joins_both p x hpl (by omega)
  refine Tells.bind (P := (· = j)) ⟨j, j1, rfl⟩ (fun t ht => ?_)
  subst ht
  refine Tells.bind (P := (· = t)) ⟨t, j2, rfl⟩ (fun u hu => ?_)
  subst hu
  by_cases c : Int.tmod n 3 = 0
  · simp only [if_pos c]
    exact law_j1 n p q x hpl hql (by omega) u.1 u.2 jl
  · simp only [if_neg c]
    obtain ⟨r, hr, r0, r1⟩ := within_tells n 1100 (by omega) (by omega)
    exact Tells.bindAt hr (law_j1 r p q x hpl hql (by omega) u.1 u.2 jl)

theorem PartTells (raw a b l : List Int) (n how : Int) (_ : raw.length ≤ 9223372036854775807 ∧ ∀ v ∈ raw, (Lit.int .i64 v).wf = true) (ha : a.length ≤ 9223372036854775807 ∧ ∀ v ∈ a, (Lit.int .i64 v).wf = true) (hb : b.length ≤ 9223372036854775807 ∧ ∀ v ∈ b, (Lit.int .i64 v).wf = true) (_ : l.length ≤ 9223372036854775807 ∧ ∀ v ∈ l, (Lit.int .i64 v).wf = true) (_ : (Lit.int .i64 n).wf = true) (_ : (Lit.int .i64 how).wf = true) : ∃ k, columbarylaw22_PartTells.f k raw a b l n how = some true := by
  refine Tells.yes ?_
  unfold columbarylaw22_PartTells.f
  refine Tells.bind (made_tells n a ha.1) (fun p hp => ?_)
  refine Tells.bind (made_tells n b hb.1) (fun q hq => ?_)
  by_cases c : Int.tmod how 4 = 0
  · simp only [if_pos c]
    exact Tells.bindAt (cut_int raw 9 (by omega) (by omega)) (law_j0 l n _ q (by rw [List.length_take]; omega) (by omega))
  · simp only [if_neg c]
    exact law_j0 l n p q (by omega) (by omega)

end Go.Proofs.Ytilkokbmabbpgaa.Pure
