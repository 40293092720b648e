/- PartAlone as a statement over numbers and lists: who is alone is so, and nobody else is parted. For all numbers and lists. -/
import Derived.Test.YtilkokbmabbpgaaPPartAlonex7
namespace Go.Proofs.Ytilkokbmabbpgaa.Pure
open Go.RowKit Go.Proofs.Ytilkokbmabbpgaa.There Go.Proofs.Ytilkokbmabbpgaa.PPartAlone Go.Proofs.YtilkokbmabbpgaaW.PrintWords Go.Proofs.YtilkokbmabbpgaaW.PrintLast Go.Proofs.YtilkokbmabbpgaaW.PrintMore
set_option linter.unusedVariables false
set_option linter.unusedSimpArgs false

theorem wrap_id {x : Int} (h0 : -9223372036854775808 ≤ x) (h1 : x ≤ 9223372036854775807) : wrap64 x = x := by unfold wrap64; omega

theorem step_i {i : Int} {n : Nat} (h0 : 0 ≤ i) (h1 : i < (n : Int)) (hn : n ≤ 9223372036854775807) : wrap64 (i + 1) = i + 1 := wrap_id (by omega) (by omega)

theorem drop_cons {α : Type} (l : List α) (d : α) (i : Int) (h0 : 0 ≤ i) (h1 : i < (l.length : Int)) : l.drop i.toNat = l.getD i.toNat d :: l.drop (i + 1).toNat := by
  have hlt : i.toNat < l.length := by omega
  rw [List.drop_eq_getElem_cons hlt, List.getD_eq_getElem?_getD, List.getElem?_eq_getElem hlt, show (i + 1).toNat = i.toNat + 1 by omega]
  rfl

theorem drop_end {α : Type} (l : List α) (i : Int) (h1 : ¬ i < (l.length : Int)) : l.drop i.toNat = [] := List.drop_eq_nil_of_le (by omega)

/-- With rounds enough it tells something. -/
def Tells {α : Type} (g : Nat → Option α) (Q : α → Prop) : Prop := ∃ r, Ev g r ∧ Q r

theorem Tells.step {α : Type} {g f : Nat → Option α} {Q : α → Prop} (h : ∀ k, g (k + 1) = f k) (k : Tells f Q) : Tells g Q := by
  obtain ⟨r, hr, hq⟩ := k
  exact ⟨r, Ev.step h hr, hq⟩

theorem Tells.now {α : Type} {Q : α → Prop} (r : α) (h : Q r) : Tells (fun _ => some r) Q := ⟨r, Ev.now r, h⟩

theorem Tells.bind {α β : Type} {g : Nat → Option α} {f : Nat → α → Option β} {P : α → Prop} {Q : β → Prop} (h : Tells g P) (k : ∀ a, P a → Tells (fun n => f n a) Q) : Tells (fun n => (g n).bind (f n)) Q := by
  obtain ⟨a, ha, hp⟩ := h
  obtain ⟨r, hr, hq⟩ := k a hp
  exact ⟨r, Ev.bind ha hr, hq⟩

theorem Tells.bindAt {α β : Type} {g : Option α} {a : α} {f : Nat → α → Option β} {Q : β → Prop} (h : g = some a) (k : Tells (fun n => f n a) Q) : Tells (fun n => g.bind (f n)) Q := by
  subst h
  exact k

theorem Tells.congr {α : Type} {g f : Nat → Option α} {Q : α → Prop} (h : ∀ k, g k = f k) (k : Tells f Q) : Tells g Q := by
  obtain ⟨r, hr, hq⟩ := k
  exact ⟨r, Ev.congr h hr, hq⟩

theorem Tells.mono {α : Type} {g : Nat → Option α} {P Q : α → Prop} (k : Tells g P) (h : ∀ a, P a → Q a) : Tells g Q := by
  obtain ⟨r, hr, hp⟩ := k
  exact ⟨r, hr, h r hp⟩

theorem Tells.yes {g : Nat → Option Bool} (k : Tells g (· = true)) : ∃ k, g k = some true := by
  obtain ⟨r, ⟨K, hK⟩, rfl⟩ := k
  exact ⟨K, hK K (Nat.le_refl _)⟩

theorem within_tells (v n : Int) (h : 1 ≤ n) (hn : n ≤ 1000000) : ∃ r, columbarykeep_Within.f v n = some r ∧ 0 ≤ r ∧ r < n := by
  have h1 : Int.tmod v n < n := Int.tmod_lt_of_pos v (by omega)
  have h2 : -n < Int.tmod v n := by
    have := Int.tmod_lt_of_pos (-v) (show 0 < n by omega)
    rw [Int.neg_tmod] at this
    omega
  unfold columbarykeep_Within.f
  rw [if_neg (by omega), if_neg (by omega)]
  by_cases c : Int.tmod v n < 0
  · rw [if_pos c]
    have e : wrap64 (Int.tmod v n + n) = Int.tmod v n + n := by unfold wrap64; omega
    exact ⟨_, rfl, by omega, by omega⟩
  · rw [if_neg c]
    exact ⟨_, rfl, by omega, by omega⟩

theorem rd_set (p : List Int) (j v i : Int) (hj0 : 0 ≤ j) (hj : j < (p.length : Int)) (hi0 : 0 ≤ i) : rd (p.set j.toNat v) i = if i = j then v else rd p i := by
  unfold rd
  rw [List.getD_eq_getElem?_getD, List.getElem?_set]
  by_cases h : i = j
  · subst h
    rw [if_pos rfl, if_pos rfl, if_pos (by omega)]
    rfl
  · rw [if_neg (by omega), if_neg h, ← List.getD_eq_getElem?_getD]

theorem rd_ext (p q : List Int) (hl : p.length = q.length) (h : ∀ i : Int, 0 ≤ i → i < (p.length : Int) → rd p i = rd q i) : p = q := by
  apply List.ext_getElem hl
  intro i h1 h2
  have := h (i : Int) (by omega) (by omega)
  simpa [rd, List.getD_eq_getElem?_getD, h1, h2] using this

/-- Classes, each told by its least thing. -/
def Rt (p : List Int) : Prop := ∀ i : Int, 0 ≤ i → i < (p.length : Int) → 0 ≤ rd p i ∧ rd p i ≤ i ∧ rd p (rd p i) = rd p i

theorem right_loop (p : List Int) (hp : Rt p) (hl : p.length ≤ 1000) (d : Nat) : ∀ i : Int, 0 ≤ i → (p.length : Int) - i = d → Tells (fun k => part_Right.l0 k p p (p.length : Int) i) (· = true) := by
  induction d with
  | zero =>
    intro i h0 hd
    refine Tells.step (f := fun _ => some true) (fun k => ?_) (Tells.now _ rfl)
    simp only [part_Right.l0]
    rw [if_neg (by omega)]
  | succ d ih =>
    intro i h0 hd
    have hlt : i < (p.length : Int) := by omega
    obtain ⟨a, b, c⟩ := hp i h0 hlt
    refine Tells.step (fun k => ?_) (ih (i + 1) (by omega) (by omega))
    simp only [part_Right.l0]
    rw [if_pos hlt, if_pos h0, if_pos hlt, if_neg (by omega), if_neg (by omega), if_pos a, if_pos (by omega), if_pos c, step_i h0 hlt (by omega)]

theorem right_tells (p : List Int) (hp : Rt p) (hl : p.length ≤ 1000) : Tells (fun k => part_Right.f k p) (· = true) := right_loop p hp hl p.length 0 (by omega) (by omega)

theorem rright_same : ∀ (k : Nat) (a b : List Int) (n i : Int), columbaryref17_RightPart.l0 k a b n i = part_Right.l0 k a b n i
  | 0, _, _, _, _ => rfl
  | k + 1, a, b, n, i => by simp only [columbaryref17_RightPart.l0, part_Right.l0, rright_same k]

theorem rright_tells (p : List Int) (hp : Rt p) (hl : p.length ≤ 1000) : Tells (fun k => columbaryref17_RightPart.f k p) (· = true) := Tells.congr (fun k => rright_same k p p _ 0) (right_tells p hp hl)

theorem rin_loop (p l : List Int) (hin : ∀ i : Int, 0 ≤ i → i < (l.length : Int) → 0 ≤ rd l i ∧ rd l i < (p.length : Int)) (hl : l.length ≤ 1000) (d : Nat) : ∀ i : Int, 0 ≤ i → (l.length : Int) - i = d → Tells (fun k => columbaryref17_inPart.l0 k p l (l.length : Int) i) (· = true) := by
  induction d with
  | zero =>
    intro i h0 hd
    refine Tells.step (f := fun _ => some true) (fun k => ?_) (Tells.now _ rfl)
    simp only [columbaryref17_inPart.l0]
    rw [if_neg (by omega)]
  | succ d ih =>
    intro i h0 hd
    have hlt : i < (l.length : Int) := by omega
    obtain ⟨a, b⟩ := hin i h0 hlt
    refine Tells.step (fun k => ?_) (ih (i + 1) (by omega) (by omega))
    simp only [columbaryref17_inPart.l0]
    rw [if_pos hlt, if_pos h0, if_pos hlt, if_neg (by omega), if_neg (by omega), step_i h0 hlt (by omega)]

/-- The class b's things become a's. -/
def joined (q : List Int) (a b : Int) : List Int := q.map fun v => if v = b then a else v

theorem joined_length (q : List Int) (a b : Int) : (joined q a b).length = q.length := List.length_map ..

theorem rd_joined (q : List Int) (a b i : Int) (h0 : 0 ≤ i) (h1 : i < (q.length : Int)) : rd (joined q a b) i = if rd q i = b then a else rd q i := by
  have h : i.toNat < q.length := by omega
  simp [rd, joined, List.getD_eq_getElem?_getD, h]

theorem joined_rt (q : List Int) (hq : Rt q) (a b x y : Int) (hx0 : 0 ≤ x) (hx : x < (q.length : Int)) (hy0 : 0 ≤ y) (hy : y < (q.length : Int)) (ha : a = rd q x ∨ a = rd q y) (hb : b = rd q x ∨ b = rd q y) (hab : a ≤ b) : Rt (joined q a b) := by
  have fx := hq x hx0 hx
  have fy := hq y hy0 hy
  have ha0 : 0 ≤ a ∧ rd q a = a ∧ a < (q.length : Int) := by
    rcases ha with rfl | rfl
    · exact ⟨fx.1, fx.2.2, by omega⟩
    · exact ⟨fy.1, fy.2.2, by omega⟩
  intro i h0 h1
  rw [joined_length] at h1
  obtain ⟨i0, i1, i2⟩ := hq i h0 h1
  rw [rd_joined q a b i h0 h1]
  by_cases c : rd q i = b
  · rw [if_pos c, rd_joined q a b a ha0.1 ha0.2.2, ha0.2.1]
    refine ⟨ha0.1, by omega, ?_⟩
    by_cases e : a = b
    · rw [if_pos e]
    · rw [if_neg e]
  · rw [if_neg c, rd_joined q a b _ i0 (by omega), i2, if_neg c]
    exact ⟨i0, i1, rfl⟩

theorem rjoin_l2 (p l : List Int) (q0 : List Int) (g : Bool) (x8 a b : Int) (hl : q0.length ≤ 1000) (next : Tells (fun k => columbaryref17_JoinPart.l0 k p l (joined q0 a b) g (wrap64 (x8 + 1))) (fun r => Rt r.1 ∧ r.1.length = q0.length)) (d : Nat) :
    ∀ (i : Int) (q : List Int), 0 ≤ i → (q0.length : Int) - i = d → q.length = q0.length → (∀ j : Int, 0 ≤ j → j < (q0.length : Int) → rd q j = if j < i then rd (joined q0 a b) j else rd q0 j) →
      Tells (fun k => columbaryref17_JoinPart.l2 k p l q g x8 a b (q0.length : Int) i) (fun r => Rt r.1 ∧ r.1.length = q0.length) := by
  induction d with
  | zero =>
    intro i q h0 hd hq he
    have e : q = joined q0 a b := rd_ext _ _ (by rw [hq, joined_length]) (fun j j0 j1 => by rw [he j j0 (by omega), if_pos (by omega)])
    subst e
    refine Tells.step (fun k => ?_) next
    simp only [columbaryref17_JoinPart.l2]
    rw [if_neg (by omega)]
  | succ d ih =>
    intro i q h0 hd hq he
    have hlt : i < (q0.length : Int) := by omega
    have hi := he i h0 hlt
    rw [if_neg (by omega)] at hi
    have hj := rd_joined q0 a b i h0 hlt
    by_cases c : rd q i = b
    · refine Tells.step (fun k => ?_) (ih (i + 1) (q.set i.toNat a) (by omega) (by omega) (by rw [List.length_set]; exact hq) (fun j j0 j1 => ?_))
      · simp only [columbaryref17_JoinPart.l2]
        rw [if_pos hlt, if_pos h0, if_pos (by omega), if_pos c, step_i h0 hlt (by omega)]
      · rw [rd_set q i a j h0 (by omega) j0]
        by_cases e : j = i
        · rw [if_pos e, if_pos (by omega), e, hj, if_pos (by omega)]
        · rw [if_neg e, he j j0 j1]
          by_cases e2 : j < i
          · rw [if_pos e2, if_pos (by omega)]
          · rw [if_neg e2, if_neg (by omega)]
    · refine Tells.step (fun k => ?_) (ih (i + 1) q (by omega) (by omega) hq (fun j j0 j1 => ?_))
      · simp only [columbaryref17_JoinPart.l2]
        rw [if_pos hlt, if_pos h0, if_pos (by omega), if_neg c, step_i h0 hlt (by omega)]
      · rw [he j j0 j1]
        by_cases e : j = i
        · rw [if_neg (by omega), if_pos (by omega), e, hj, if_neg (by omega)]
        · by_cases e2 : j < i
          · rw [if_pos e2, if_pos (by omega)]
          · rw [if_neg e2, if_neg (by omega)]

theorem rjoin_two (p : List Int) (hp : Rt p) (hl : p.length ≤ 1000) (x y : Int) (hx0 : 0 ≤ x) (hx : x < (p.length : Int)) (hy0 : 0 ≤ y) (hy : y < (p.length : Int)) : Tells (fun k => columbaryref17_JoinPart.f k p [x, y]) (fun r => Rt r.1 ∧ r.1.length = p.length) := by
  have end_ : ∀ a b g, Rt (joined p a b) → Tells (fun k => columbaryref17_JoinPart.l0 k p [x, y] (joined p a b) g (wrap64 (1 + 1))) (fun r => Rt r.1 ∧ r.1.length = p.length) := by
    intro a b g hr
    refine Tells.step (f := fun _ => some (joined p a b, g)) (fun k => ?_) (Tells.now _ ⟨hr, joined_length _ _ _⟩)
    simp only [columbaryref17_JoinPart.l0]
    rw [if_neg (by unfold wrap64; simp)]
  have mid : ∀ a b g, Rt (joined p a b) → Tells (fun k => columbaryref17_JoinPart.j3 k p [x, y] p g 1 a b) (fun r => Rt r.1 ∧ r.1.length = p.length) := by
    intro a b g hr
    refine Tells.step (fun k => ?_) (rjoin_l2 p [x, y] p g 1 a b hl (end_ a b g hr) p.length 0 p (by omega) (by omega) rfl (fun j j0 j1 => by rw [if_neg (by omega)]))
    simp only [columbaryref17_JoinPart.j3]
  have l1b : ∀ g, Tells (fun k => columbaryref17_JoinPart.l1 k p [x, y] p g 1 1) (fun r => Rt r.1 ∧ r.1.length = p.length) := by
    intro g
    have e0 : rd [x, y] 0 = x := rfl
    have e1 : rd [x, y] 1 = y := rfl
    by_cases c : rd p x > rd p y
    · refine Tells.step (fun k => ?_) (mid (rd p y) (rd p x) g (joined_rt p hp _ _ x y hx0 hx hy0 hy (.inr rfl) (.inl rfl) (by omega)))
      simp only [columbaryref17_JoinPart.l1, e0, e1]
      rw [if_neg (by omega), if_pos (by simp), if_pos hx0, if_pos hx, if_pos (by omega), if_pos (by simp), if_pos hy0, if_pos hy, if_pos c]
    · refine Tells.step (fun k => ?_) (mid (rd p x) (rd p y) g (joined_rt p hp _ _ x y hx0 hx hy0 hy (.inl rfl) (.inr rfl) (by omega)))
      simp only [columbaryref17_JoinPart.l1, e0, e1]
      rw [if_neg (by omega), if_pos (by simp), if_pos hx0, if_pos hx, if_pos (by omega), if_pos (by simp), if_pos hy0, if_pos hy, if_neg c]
  have w1 : wrap64 (0 + 1) = 1 := by unfold wrap64; omega
  have l0a : Tells (fun k => columbaryref17_JoinPart.l0 k p [x, y] p true 1) (fun r => Rt r.1 ∧ r.1.length = p.length) := by
    refine Tells.step (f := fun k => columbaryref17_JoinPart.l1 k p [x, y] p true 1 0) (fun k => ?_) (Tells.step (fun k => ?_) (l1b (rd p y != rd p x)))
    · simp only [columbaryref17_JoinPart.l0]
      rw [if_pos (by simp)]
    · have e0 : rd [x, y] 0 = x := rfl
      have e1 : rd [x, y] 1 = y := rfl
      simp only [columbaryref17_JoinPart.l1, e0, e1]
      rw [if_pos (by omega), if_pos trivial, if_pos (by omega), if_pos (by simp), if_pos hy0, if_pos hy, if_pos (by omega), if_pos (by simp), if_pos hx0, if_pos hx, w1]
  unfold columbaryref17_JoinPart.f
  refine Tells.bind (rright_tells p hp hl) (fun t ht => ?_)
  subst ht
  simp only [if_true]
  refine Tells.bind (rin_loop p [x, y] (fun i i0 i1 => ?_) (by simp) 2 0 (by omega) (by simp)) (fun t ht => ?_)
  · have : i = 0 ∨ i = 1 := by simp at i1; omega
    rcases this with rfl | rfl
    · exact ⟨hx0, hx⟩
    · exact ⟨hy0, hy⟩
  · subst ht
    refine Tells.step (fun k => ?_) l0a
    simp only [columbaryref17_JoinPart.j0]
    rw [if_neg (by simp), if_pos (by simp only [List.length_nil]; omega), List.nil_append]

theorem rnew_loop (n : Int) (hn : n ≤ 1000) (d : Nat) : ∀ (i : Int) (acc : List Int), 0 ≤ i → n - i = d → (acc.length : Int) = i → (∀ j : Int, 0 ≤ j → j < i → rd acc j = j) → Tells (fun k => columbaryref17_NewPart.l0 k n acc i) (fun p => (p.length : Int) = n ∧ ∀ j : Int, 0 ≤ j → j < n → rd p j = j) := by
  induction d with
  | zero =>
    intro i acc h0 hd ha he
    refine Tells.step (f := fun _ => some acc) (fun k => ?_) (Tells.now _ ⟨by omega, fun j j0 j1 => he j j0 (by omega)⟩)
    simp only [columbaryref17_NewPart.l0]
    rw [if_neg (by omega)]
  | succ d ih =>
    intro i acc h0 hd ha he
    refine Tells.step (fun k => ?_) (ih (i + 1) (acc ++ [i]) (by omega) (by omega) (by rw [List.length_append]; simp; omega) (fun j j0 j1 => ?_))
    · simp only [columbaryref17_NewPart.l0]
      rw [if_pos (by omega), if_pos (by omega), wrap_id (by omega) (by omega)]
    · by_cases e : j = i
      · subst e
        unfold rd
        rw [List.getD_eq_getElem?_getD, List.getElem?_append_right (by omega), show j.toNat - acc.length = 0 by omega]
        rfl
      · have := he j j0 (by omega)
        unfold rd at this ⊢
        rw [List.getD_eq_getElem?_getD, List.getElem?_append_left (by omega), ← List.getD_eq_getElem?_getD]
        exact this

theorem rnew_tells (n : Int) (h0 : 0 ≤ n) (hn : n ≤ 1000) : Tells (fun k => columbaryref17_NewPart.f k n) (fun p => (p.length : Int) = n ∧ Rt p) := by
  unfold columbaryref17_NewPart.f
  simp only [if_neg (show ¬ n < 0 by omega), decide_eq_false (show ¬ n > 1000 by omega)]
  refine Tells.mono (P := fun p => (p.length : Int) = n ∧ ∀ j : Int, 0 ≤ j → j < n → rd p j = j) (Tells.step (fun k => ?_) (rnew_loop n hn n.toNat 0 [] (by omega) (by omega) (by simp) (fun j j0 j1 => by omega))) (fun p hp => ⟨hp.1, fun i i0 i1 => ?_⟩)
  · simp only [columbaryref17_NewPart.j0]
    rw [if_neg (by simp)]
  · rw [hp.2 i i0 (by omega), hp.2 i i0 (by omega)]
    omega

theorem made_loop (l : List Int) (hl : l.length ≤ 9223372036854775807) (d : Nat) : ∀ (i : Int) (p : List Int), 0 ≤ i → i ≤ 14 → 14 - i ≤ 2 * d → Rt p → p.length ≤ 8 → Tells (fun k => columbarylaw22_made.l0 k l p i) (fun q => Rt q ∧ q.length ≤ 8) := by
  have stop : ∀ (i : Int) (p : List Int), Rt p → p.length ≤ 8 → Tells (fun k => columbarylaw22_made.j1 k l p i false) (fun q => Rt q ∧ q.length ≤ 8) := by
    intro i p hp hl8
    refine Tells.step (f := fun _ => some p) (fun k => ?_) (Tells.now _ ⟨hp, hl8⟩)
    simp only [columbarylaw22_made.j1]
    rw [if_neg (by simp)]
  induction d with
  | zero =>
    intro i p h0 h1 hd hp hl8
    refine Tells.step (f := fun k => columbarylaw22_made.j1 k l p i false) (fun k => ?_) (stop i p hp hl8)
    simp only [columbarylaw22_made.l0, decide_eq_false (show ¬ i < 12 by omega)]
    split
    · split <;> rfl
    · rfl
  | succ d ih =>
    intro i p h0 h1 hd hp hl8
    by_cases c : wrap64 (i + 1) < (l.length : Int) ∧ (p.length : Int) > 0 ∧ i < 12
    · have e : wrap64 (i + 1) = i + 1 := wrap_id (by omega) (by omega)
      have hlt : i + 1 < (l.length : Int) := by rw [← e]; exact c.1
      obtain ⟨x, hx, x0, x1⟩ := within_tells (rd l i) (p.length : Int) (by omega) (by omega)
      obtain ⟨y, hy, y0, y1⟩ := within_tells (rd l (i + 1)) (p.length : Int) (by omega) (by omega)
      refine Tells.step (f := fun k => columbarylaw22_made.j1 k l p i true) (fun k => ?_) (Tells.step (f := fun k => (columbaryref17_JoinPart.f k p [x, y]).bind fun b => columbarylaw22_made.l0 k l b.1 (i + 2)) (fun k => ?_) (Tells.bind (rjoin_two p hp (by omega) x y x0 x1 y0 y1) (fun b hb => ih (i + 2) b.1 (by omega) (by omega) (by omega) hb.1 (by omega))))
      · simp only [columbarylaw22_made.l0]
        rw [if_pos c.1, if_pos c.2.1, decide_eq_true c.2.2]
      · simp only [columbarylaw22_made.j1]
        have h6 : i < (l.length : Int) := by omega
        rw [if_pos trivial, if_pos h0, if_pos h6, hx]
        simp only [Option.bind_some]
        rw [e, if_pos (by omega), if_pos hlt, hy]
        simp only [Option.bind_some]
        rw [show wrap64 (i + 2) = i + 2 from wrap_id (by omega) (by omega)]
    · refine Tells.step (f := fun k => columbarylaw22_made.j1 k l p i false) (fun k => ?_) (stop i p hp hl8)
      simp only [columbarylaw22_made.l0]
      by_cases c1 : wrap64 (i + 1) < (l.length : Int)
      · by_cases c2 : (p.length : Int) > 0
        · rw [if_pos c1, if_pos c2, decide_eq_false (fun h => c ⟨c1, c2, h⟩)]
        · rw [if_pos c1, if_neg c2]
      · rw [if_neg c1]

theorem made_tells (n : Int) (l : List Int) (hl : l.length ≤ 9223372036854775807) : Tells (fun k => columbarylaw22_made.f k n l) (fun q => Rt q ∧ q.length ≤ 8) := by
  obtain ⟨t, ht, t0, t1⟩ := within_tells n 9 (by omega) (by omega)
  unfold columbarylaw22_made.f
  refine Tells.bindAt ht ?_
  refine Tells.bind (rnew_tells t t0 (by omega)) (fun p hp => ?_)
  exact made_loop l hl 7 0 p (by omega) (by omega) (by omega) hp.2 (by omega)

theorem clone_int (l : List Int) (h : l.length ≤ 1000) : slices_Clone_int_int.f l = some l := by
  unfold slices_Clone_int_int.f
  simp only [Option.bind_some, List.length_nil, List.nil_append]
  rw [if_pos (by omega)]

theorem there_yes (p l : List Int) (h : ∀ x ∈ l, 0 ≤ x ∧ x < (p.length : Int)) : part_there.f p l = some true := by
  unfold part_there.f
  have : l.any (off p.length) = false := by
    rw [List.any_eq_false]
    intro x hx
    have := h x hx
    simp [off]
    omega
  rw [this]
  rfl

/-- The first thing of a number like i's. -/
def Fst (q : List Int) (i r : Int) : Prop := 0 ≤ r ∧ r ≤ i ∧ rd q r = rd q i ∧ ∀ j : Int, 0 ≤ j → j < r → rd q j ≠ rd q i

theorem index_loop (q : List Int) (hl : q.length ≤ 1000) (i : Int) (hi : i < (q.length : Int)) (d : Nat) : ∀ j : Int, 0 ≤ j → j ≤ i → i - j = d → (∀ m : Int, 0 ≤ m → m < j → rd q m ≠ rd q i) → Tells (fun k => slices_Index_int_int.l0 k q (rd q i) (q.length : Int) j) (fun r => Fst q i r) := by
  induction d with
  | zero =>
    intro j h0 h1 hd hn
    obtain rfl : j = i := by omega
    refine Tells.step (f := fun _ => some j) (fun k => ?_) (Tells.now _ ⟨h0, h1, rfl, hn⟩)
    simp only [slices_Index_int_int.l0]
    rw [if_pos hi, if_pos h0, if_pos hi, if_pos trivial]
  | succ d ih =>
    intro j h0 h1 hd hn
    have hlt : j < (q.length : Int) := by omega
    by_cases c : rd q i = rd q j
    · refine Tells.step (f := fun _ => some j) (fun k => ?_) (Tells.now _ ⟨h0, h1, c.symm, hn⟩)
      simp only [slices_Index_int_int.l0]
      rw [if_pos hlt, if_pos h0, if_pos hlt, if_pos c]
    · refine Tells.step (fun k => ?_) (ih (j + 1) (by omega) (by omega) (by omega) (fun m m0 m1 => ?_))
      · simp only [slices_Index_int_int.l0]
        rw [if_pos hlt, if_pos h0, if_pos hlt, if_neg c, step_i h0 hlt (by omega)]
      · by_cases e : m = j
        · subst e; exact fun h => c h.symm
        · exact hn m m0 (by omega)

theorem index_tells (q : List Int) (hl : q.length ≤ 1000) (i : Int) (h0 : 0 ≤ i) (hi : i < (q.length : Int)) : Tells (fun k => slices_Index_int_int.f k q (rd q i)) (fun r => Fst q i r) :=
  index_loop q hl i hi i.toNat 0 (by omega) (by omega) (by omega) (fun m m0 m1 => by omega)

theorem lowest_loop (q : List Int) (hl : q.length ≤ 1000) (d : Nat) : ∀ (i : Int) (o : List Int), 0 ≤ i → (q.length : Int) - i = d → o.length = q.length → (∀ j : Int, 0 ≤ j → j < i → Fst q j (rd o j)) →
    Tells (fun k => part_lowest.l0 k q o q (q.length : Int) i) (fun o => o.length = q.length ∧ ∀ j : Int, 0 ≤ j → j < (q.length : Int) → Fst q j (rd o j)) := by
  induction d with
  | zero =>
    intro i o h0 hd ho hf
    refine Tells.step (f := fun _ => some o) (fun k => ?_) (Tells.now _ ⟨ho, fun j j0 j1 => hf j j0 (by omega)⟩)
    simp only [part_lowest.l0]
    rw [if_neg (by omega)]
  | succ d ih =>
    intro i o h0 hd ho hf
    have hlt : i < (q.length : Int) := by omega
    refine Tells.step (f := fun k => (slices_Index_int_int.f k q (rd q i)).bind fun t => part_lowest.l0 k q (o.set i.toNat t) q (q.length : Int) (i + 1)) (fun k => ?_) (Tells.bind (index_tells q hl i h0 hlt) (fun t ht => ih (i + 1) _ (by omega) (by omega) (by rw [List.length_set]; exact ho) (fun j j0 j1 => ?_)))
    · have hc : i < (o.length : Int) := by omega
      simp only [part_lowest.l0]
      rw [if_pos hlt, if_pos h0, if_pos hlt]
      simp only [if_pos hc, step_i h0 hlt (show q.length ≤ 9223372036854775807 by omega)]
    · rw [rd_set o i t j h0 (by omega) j0]
      by_cases e : j = i
      · rw [if_pos e, e]; exact ht
      · rw [if_neg e]; exact hf j j0 (by omega)

theorem lowest_tells (q : List Int) (hl : q.length ≤ 1000) : Tells (fun k => part_lowest.f k q) (fun o => o.length = q.length ∧ ∀ j : Int, 0 ≤ j → j < (q.length : Int) → Fst q j (rd o j)) := by
  unfold part_lowest.f
  simp only [if_pos (show (0 : Int) ≤ (q.length : Int) by omega), if_pos (show ((q.length : Int) : Int).toNat ≤ 35184372088832 by omega)]
  exact lowest_loop q hl q.length 0 _ (by omega) (by omega) (by rw [List.length_replicate]; omega) (fun j j0 j1 => by omega)

theorem fst_same (q : List Int) (i k a b : Int) (ha : Fst q i a) (hb : Fst q k b) : (a == b) = decide (rd q i = rd q k) := by
  by_cases c : rd q i = rd q k
  · rw [decide_eq_true c, beq_iff_eq]
    by_cases h1 : a < b
    · exact absurd (ha.2.2.1.trans c) (hb.2.2.2 a ha.1 h1)
    · by_cases h2 : b < a
      · exact absurd (hb.2.2.1.trans c.symm) (ha.2.2.2 b hb.1 h2)
      · omega
  · rw [decide_eq_false c, beq_eq_false_iff_ne]
    rintro rfl
    exact c (ha.2.2.1.symm.trans hb.2.2.1)

theorem fst_rt (q o : List Int) (ho : o.length = q.length) (h : ∀ j : Int, 0 ≤ j → j < (q.length : Int) → Fst q j (rd o j)) : Rt o := by
  intro i h0 h1
  have f := h i h0 (by omega)
  have g := h (rd o i) f.1 (by have := f.2.1; omega)
  refine ⟨f.1, f.2.1, ?_⟩
  have e := fst_same q i (rd o i) _ _ f g
  rw [decide_eq_true f.2.2.1.symm, beq_iff_eq] at e
  exact e.symm

theorem wakes_tells : Tells (fun k => columbarylaw22_wakes.f k) (· = true) := ⟨true, Ev.of columbarylaw22_wakes.mono (k := 40) (by decide +kernel), rfl⟩

theorem alone_tells (p : List Int) (hp : Rt p) (hl : p.length ≤ 1000) (x : Int) (x0 : 0 ≤ x) (x1 : x < (p.length : Int)) : Tells (fun k => part_Alone.f k p [x]) (fun o => o.length = p.length ∧ ∀ j : Int, 0 ≤ j → j < (p.length : Int) → Fst (p.set x.toNat (-1 - x)) j (rd o j)) := by
  have e : wrap64 (-1 - x) = -1 - x := wrap_id (by omega) (by omega)
  unfold part_Alone.f
  refine Tells.bind (right_tells p hp hl) (fun t ht => ?_)
  subst ht
  simp only [if_true]
  refine Tells.bindAt (there_yes p [x] (by simp [x0, x1])) ?_
  refine Tells.step (f := fun k => part_Alone.l0 k p [x] 1 0) (fun k => ?_) (Tells.step (f := fun k => part_Alone.l0 k (p.set x.toNat (-1 - x)) [x] 1 1) (fun k => ?_) (Tells.step (f := fun k => (part_lowest.f k (p.set x.toNat (-1 - x))).bind fun t => some t) (fun k => ?_) ?_))
  · simp only [part_Alone.j0]
    rw [if_neg (by simp), clone_int p hl]
    rfl
  · have e0 : rd [x] 0 = x := rfl
    simp only [part_Alone.l0, e0]
    rw [if_pos (by omega), if_pos (by omega), if_pos (by simp), if_pos x0, if_pos x1, e, show wrap64 (0 + 1) = 1 from by unfold wrap64; omega]
  · simp only [part_Alone.l0]
    rw [if_neg (by omega)]
  · refine Tells.bind (lowest_tells _ (by rw [List.length_set]; exact hl)) (fun o ho => Tells.now o ?_)
    rw [List.length_set] at ho
    exact ho

theorem check_inner (p o : List Int) (hl : p.length ≤ 1000) (ho : o.length = p.length) (x : Int) (i : Int) (i0 : 0 ≤ i) (i1 : i < (p.length : Int))
    (he : ∀ k : Int, 0 ≤ k → k < (p.length : Int) → (rd o i == rd o k) = if i = k then true else if rd p i = rd p k then (decide (i ≠ x) && decide (k ≠ x)) else false)
    (next : Tells (fun k => columbarylaw22_PartAlone.l0 k x p o (p.length : Int) (wrap64 (i + 1))) (· = true)) (d : Nat) : ∀ k : Int, 0 ≤ k → (p.length : Int) - k = d → Tells (fun n => columbarylaw22_PartAlone.l1 n x p o i (p.length : Int) i (p.length : Int) k) (· = true) := by
  induction d with
  | zero =>
    intro k h0 hd
    refine Tells.step (fun n => ?_) next
    simp only [columbarylaw22_PartAlone.l1]
    rw [if_neg (by omega)]
  | succ d ih =>
    intro k h0 hd
    have hlt : k < (p.length : Int) := by omega
    have hlo : k < (o.length : Int) := by omega
    have hio : i < (o.length : Int) := by omega
    have h := he k h0 hlt
    refine Tells.step (fun n => ?_) (ih (k + 1) (by omega) (by omega))
    simp only [columbarylaw22_PartAlone.l1]
    rw [if_pos hlt, if_pos i0, if_pos hio, if_pos h0, if_pos hlo, step_i h0 hlt (by omega)]
    by_cases c1 : i = k
    · rw [if_pos c1] at h
      rw [if_pos c1, h, if_neg (by simp)]
    · rw [if_neg c1] at h
      rw [if_neg c1, if_pos i1, if_pos hlt]
      by_cases c2 : rd p i = rd p k
      · rw [if_pos c2] at h
        rw [if_pos c2]
        by_cases c3 : i = x
        · rw [if_pos c3, h, if_neg (by simp [c3])]
        · rw [if_neg c3, h, if_neg (by
            by_cases c4 : k = x
            · simp [c4]
            · simp [c3, c4])]
      · rw [if_neg c2] at h
        rw [if_neg c2, h, if_neg (by simp)]

theorem check_outer (p o : List Int) (hl : p.length ≤ 1000) (ho : o.length = p.length) (x : Int)
    (he : ∀ i k : Int, 0 ≤ i → i < (p.length : Int) → 0 ≤ k → k < (p.length : Int) → (rd o i == rd o k) = if i = k then true else if rd p i = rd p k then (decide (i ≠ x) && decide (k ≠ x)) else false) (d : Nat) :
    ∀ i : Int, 0 ≤ i → (p.length : Int) - i = d → Tells (fun n => columbarylaw22_PartAlone.l0 n x p o (p.length : Int) i) (· = true) := by
  induction d with
  | zero =>
    intro i h0 hd
    refine Tells.step (f := fun k => (columbarylaw22_wakes.f k).bind fun t => some t) (fun n => ?_) (Tells.bind wakes_tells (fun t ht => Tells.now t ht))
    simp only [columbarylaw22_PartAlone.l0]
    rw [if_neg (by omega)]
  | succ d ih =>
    intro i h0 hd
    have hlt : i < (p.length : Int) := by omega
    refine Tells.step (fun n => ?_) (check_inner p o hl ho x i h0 hlt (fun k k0 k1 => he i k h0 hlt k0 k1) (by rw [step_i h0 hlt (by omega)]; exact ih (i + 1) (by omega) (by omega)) p.length 0 (by omega) (by omega))
    simp only [columbarylaw22_PartAlone.l0]
    rw [if_pos hlt]

theorem PartAlone (n : Int) (l : List Int) (x : Int) (_ : (Lit.int .i64 n).wf = true) (hl : l.length ≤ 9223372036854775807 ∧ ∀ v ∈ l, (Lit.int .i64 v).wf = true) (_ : (Lit.int .i64 x).wf = true) : ∃ k, columbarylaw22_PartAlone.f k n l x = some true := by
  refine Tells.yes ?_
  unfold columbarylaw22_PartAlone.f
  refine Tells.bind (made_tells n l hl.1) (fun p hp => ?_)
  by_cases c : (p.length : Int) = 0
  · simp only [if_pos c]
    exact Tells.bind wakes_tells (fun t ht => Tells.now t ht)
  · simp only [if_neg c]
    obtain ⟨y, hy, y0, y1⟩ := within_tells x (p.length : Int) (by omega) (by omega)
    refine Tells.bindAt hy ?_
    refine Tells.bind (alone_tells p hp.1 (by omega) y y0 y1) (fun o ho => ?_)
    have hoq : o.length = (p.set y.toNat (-1 - y)).length := by rw [List.length_set]; exact ho.1
    have hrt : Rt o := fst_rt (p.set y.toNat (-1 - y)) o hoq (fun j j0 j1 => ho.2 j j0 (by rw [List.length_set] at j1; exact j1))
    simp only [if_pos (show (o.length : Int) = (p.length : Int) by omega)]
    refine Tells.bind (right_tells o hrt (by omega)) (fun t ht => ?_)
    subst ht
    refine Tells.step (fun k => ?_) (check_outer p o (by omega) ho.1 y (fun i k i0 i1 k0 k1 => ?_) p.length 0 (by omega) (by omega))
    · simp only [columbarylaw22_PartAlone.j0]
      rw [if_neg (by simp)]
    · rw [fst_same _ i k _ _ (ho.2 i i0 i1) (ho.2 k k0 k1), rd_set p y _ i y0 y1 i0, rd_set p y _ k y0 y1 k0]
      have pi := (hp.1 i i0 i1).1
      have pk := (hp.1 k k0 k1).1
      by_cases c1 : i = k
      · subst c1
        rw [if_pos rfl]
        exact decide_eq_true rfl
      · rw [if_neg c1]
        by_cases c2 : i = y
        · rw [if_pos c2, if_neg (by omega), decide_eq_false (by omega)]
          simp [c2]
        · by_cases c3 : k = y
          · rw [if_neg c2, if_pos c3, decide_eq_false (by omega)]
            simp [c3]
          · rw [if_neg c2, if_neg c3]
            by_cases c4 : rd p i = rd p k
            · rw [if_pos c4, decide_eq_true c4]
              simp [c2, c3]
            · rw [if_neg c4, decide_eq_false c4]

end Go.Proofs.Ytilkokbmabbpgaa.Pure
