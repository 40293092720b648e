/- PartMerge as a statement over numbers and lists: merged in whatever order it is the same, merged with what is finer nothing turns, two are together just if a way of both leads there. For all numbers and lists. -/
import Derived.Test.YtilkokbmabbpgaaPPartMergex7
namespace Go.Proofs.Ytilkokbmabbpgaa.Pure
open Go.RowKit Go.Proofs.Ytilkokbmabbpgaa.There Go.Proofs.Ytilkokbmabbpgaa.PPartMerge Go.Proofs.YtilkokbmabbpgaaW.PrintWords Go.Proofs.YtilkokbmabbpgaaW.PrintLast Go.Proofs.YtilkokbmabbpgaaW.PrintMore
set_option linter.unusedVariables false
set_option linter.unusedSimpArgs false

theorem wrap_id {x : Int} (h0 : -9223372036854775808 ≤ x) (h1 : x ≤ 9223372036854775807) : wrap64 x = x := by unfold wrap64; omega

theorem step_i {i : Int} {n : Nat} (h0 : 0 ≤ i) (h1 : i < (n : Int)) (hn : n ≤ 9223372036854775807) : wrap64 (i + 1) = i + 1 := wrap_id (by omega) (by omega)

theorem drop_cons {α : Type} (l : List α) (d : α) (i : Int) (h0 : 0 ≤ i) (h1 : i < (l.length : Int)) : l.drop i.toNat = l.getD i.toNat d :: l.drop (i + 1).toNat := by
  have hlt : i.toNat < l.length := by omega
  rw [List.drop_eq_getElem_cons hlt, List.getD_eq_getElem?_getD, List.getElem?_eq_getElem hlt, show (i + 1).toNat = i.toNat + 1 by omega]
  rfl

theorem drop_end {α : Type} (l : List α) (i : Int) (h1 : ¬ i < (l.length : Int)) : l.drop i.toNat = [] := List.drop_eq_nil_of_le (by omega)

/-- With rounds enough it tells something. -/
def Tells {α : Type} (g : Nat → Option α) (Q : α → Prop) : Prop := ∃ r, Ev g r ∧ Q r

theorem Tells.step {α : Type} {g f : Nat → Option α} {Q : α → Prop} (h : ∀ k, g (k + 1) = f k) (k : Tells f Q) : Tells g Q := by
  obtain ⟨r, hr, hq⟩ := k
  exact ⟨r, Ev.step h hr, hq⟩

theorem Tells.now {α : Type} {Q : α → Prop} (r : α) (h : Q r) : Tells (fun _ => some r) Q := ⟨r, Ev.now r, h⟩

theorem Tells.bind {α β : Type} {g : Nat → Option α} {f : Nat → α → Option β} {P : α → Prop} {Q : β → Prop} (h : Tells g P) (k : ∀ a, P a → Tells (fun n => f n a) Q) : Tells (fun n => (g n).bind (f n)) Q := by
  obtain ⟨a, ha, hp⟩ := h
  obtain ⟨r, hr, hq⟩ := k a hp
  exact ⟨r, Ev.bind ha hr, hq⟩

theorem Tells.bindAt {α β : Type} {g : Option α} {a : α} {f : Nat → α → Option β} {Q : β → Prop} (h : g = some a) (k : Tells (fun n => f n a) Q) : Tells (fun n => g.bind (f n)) Q := by
  subst h
  exact k

theorem Tells.congr {α : Type} {g f : Nat → Option α} {Q : α → Prop} (h : ∀ k, g k = f k) (k : Tells f Q) : Tells g Q := by
  obtain ⟨r, hr, hq⟩ := k
  exact ⟨r, Ev.congr h hr, hq⟩

theorem Tells.mono {α : Type} {g : Nat → Option α} {P Q : α → Prop} (k : Tells g P) (h : ∀ a, P a → Q a) : Tells g Q := by
  obtain ⟨r, hr, hp⟩ := k
  exact ⟨r, hr, h r hp⟩

theorem Tells.yes {g : Nat → Option Bool} (k : Tells g (· = true)) : ∃ k, g k = some true := by
  obtain ⟨r, ⟨K, hK⟩, rfl⟩ := k
  exact ⟨K, hK K (Nat.le_refl _)⟩

theorem within_tells (v n : Int) (h : 1 ≤ n) (hn : n ≤ 1000000) : ∃ r, columbarykeep_Within.f v n = some r ∧ 0 ≤ r ∧ r < n := by
  have h1 : Int.tmod v n < n := Int.tmod_lt_of_pos v (by omega)
  have h2 : -n < Int.tmod v n := by
    have := Int.tmod_lt_of_pos (-v) (show 0 < n by omega)
    rw [Int.neg_tmod] at this
    omega
  unfold columbarykeep_Within.f
  rw [if_neg (by omega), if_neg (by omega)]
  by_cases c : Int.tmod v n < 0
  · rw [if_pos c]
    have e : wrap64 (Int.tmod v n + n) = Int.tmod v n + n := by unfold wrap64; omega
    exact ⟨_, rfl, by omega, by omega⟩
  · rw [if_neg c]
    exact ⟨_, rfl, by omega, by omega⟩

theorem rd_set (p : List Int) (j v i : Int) (hj0 : 0 ≤ j) (hj : j < (p.length : Int)) (hi0 : 0 ≤ i) : rd (p.set j.toNat v) i = if i = j then v else rd p i := by
  unfold rd
  rw [List.getD_eq_getElem?_getD, List.getElem?_set]
  by_cases h : i = j
  · subst h
    rw [if_pos rfl, if_pos rfl, if_pos (by omega)]
    rfl
  · rw [if_neg (by omega), if_neg h, ← List.getD_eq_getElem?_getD]

theorem rd_ext (p q : List Int) (hl : p.length = q.length) (h : ∀ i : Int, 0 ≤ i → i < (p.length : Int) → rd p i = rd q i) : p = q := by
  apply List.ext_getElem hl
  intro i h1 h2
  have := h (i : Int) (by omega) (by omega)
  simpa [rd, List.getD_eq_getElem?_getD, h1, h2] using this

/-- Classes, each told by its least thing. -/
def Rt (p : List Int) : Prop := ∀ i : Int, 0 ≤ i → i < (p.length : Int) → 0 ≤ rd p i ∧ rd p i ≤ i ∧ rd p (rd p i) = rd p i

theorem right_loop (p : List Int) (hp : Rt p) (hl : p.length ≤ 1000) (d : Nat) : ∀ i : Int, 0 ≤ i → (p.length : Int) - i = d → Tells (fun k => part_Right.l0 k p p (p.length : Int) i) (· = true) := by
  induction d with
  | zero =>
    intro i h0 hd
    refine Tells.step (f := fun _ => some true) (fun k => ?_) (Tells.now _ rfl)
    simp only [part_Right.l0]
    rw [if_neg (by omega)]
  | succ d ih =>
    intro i h0 hd
    have hlt : i < (p.length : Int) := by omega
    obtain ⟨a, b, c⟩ := hp i h0 hlt
    refine Tells.step (fun k => ?_) (ih (i + 1) (by omega) (by omega))
    simp only [part_Right.l0]
    rw [if_pos hlt, if_pos h0, if_pos hlt, if_neg (by omega), if_neg (by omega), if_pos a, if_pos (by omega), if_pos c, step_i h0 hlt (by omega)]

theorem right_tells (p : List Int) (hp : Rt p) (hl : p.length ≤ 1000) : Tells (fun k => part_Right.f k p) (· = true) := right_loop p hp hl p.length 0 (by omega) (by omega)

theorem rright_same : ∀ (k : Nat) (a b : List Int) (n i : Int), columbaryref17_RightPart.l0 k a b n i = part_Right.l0 k a b n i
  | 0, _, _, _, _ => rfl
  | k + 1, a, b, n, i => by simp only [columbaryref17_RightPart.l0, part_Right.l0, rright_same k]

theorem rright_tells (p : List Int) (hp : Rt p) (hl : p.length ≤ 1000) : Tells (fun k => columbaryref17_RightPart.f k p) (· = true) := Tells.congr (fun k => rright_same k p p _ 0) (right_tells p hp hl)

theorem rin_loop (p l : List Int) (hin : ∀ i : Int, 0 ≤ i → i < (l.length : Int) → 0 ≤ rd l i ∧ rd l i < (p.length : Int)) (hl : l.length ≤ 1000) (d : Nat) : ∀ i : Int, 0 ≤ i → (l.length : Int) - i = d → Tells (fun k => columbaryref17_inPart.l0 k p l (l.length : Int) i) (· = true) := by
  induction d with
  | zero =>
    intro i h0 hd
    refine Tells.step (f := fun _ => some true) (fun k => ?_) (Tells.now _ rfl)
    simp only [columbaryref17_inPart.l0]
    rw [if_neg (by omega)]
  | succ d ih =>
    intro i h0 hd
    have hlt : i < (l.length : Int) := by omega
    obtain ⟨a, b⟩ := hin i h0 hlt
    refine Tells.step (fun k => ?_) (ih (i + 1) (by omega) (by omega))
    simp only [columbaryref17_inPart.l0]
    rw [if_pos hlt, if_pos h0, if_pos hlt, if_neg (by omega), if_neg (by omega), step_i h0 hlt (by omega)]

/-- The class b's things become a's. -/
def joined (q : List Int) (a b : Int) : List Int := q.map fun v => if v = b then a else v

theorem joined_length (q : List Int) (a b : Int) : (joined q a b).length = q.length := List.length_map ..

theorem rd_joined (q : List Int) (a b i : Int) (h0 : 0 ≤ i) (h1 : i < (q.length : Int)) : rd (joined q a b) i = if rd q i = b then a else rd q i := by
  have h : i.toNat < q.length := by omega
  simp [rd, joined, List.getD_eq_getElem?_getD, h]

theorem joined_rt (q : List Int) (hq : Rt q) (a b x y : Int) (hx0 : 0 ≤ x) (hx : x < (q.length : Int)) (hy0 : 0 ≤ y) (hy : y < (q.length : Int)) (ha : a = rd q x ∨ a = rd q y) (hb : b = rd q x ∨ b = rd q y) (hab : a ≤ b) : Rt (joined q a b) := by
  have fx := hq x hx0 hx
  have fy := hq y hy0 hy
  have ha0 : 0 ≤ a ∧ rd q a = a ∧ a < (q.length : Int) := by
    rcases ha with rfl | rfl
    · exact ⟨fx.1, fx.2.2, by omega⟩
    · exact ⟨fy.1, fy.2.2, by omega⟩
  intro i h0 h1
  rw [joined_length] at h1
  obtain ⟨i0, i1, i2⟩ := hq i h0 h1
  rw [rd_joined q a b i h0 h1]
  by_cases c : rd q i = b
  · rw [if_pos c, rd_joined q a b a ha0.1 ha0.2.2, ha0.2.1]
    refine ⟨ha0.1, by omega, ?_⟩
    by_cases e : a = b
    · rw [if_pos e]
    · rw [if_neg e]
  · rw [if_neg c, rd_joined q a b _ i0 (by omega), i2, if_neg c]
    exact ⟨i0, i1, rfl⟩

theorem rjoin_l2 {Q : List Int × Bool → Prop} (p l : List Int) (q0 : List Int) (g : Bool) (x8 a b : Int) (hl : q0.length ≤ 1000) (next : Tells (fun k => columbaryref17_JoinPart.l0 k p l (joined q0 a b) g (wrap64 (x8 + 1))) Q) (d : Nat) :
    ∀ (i : Int) (q : List Int), 0 ≤ i → (q0.length : Int) - i = d → q.length = q0.length → (∀ j : Int, 0 ≤ j → j < (q0.length : Int) → rd q j = if j < i then rd (joined q0 a b) j else rd q0 j) →
      Tells (fun k => columbaryref17_JoinPart.l2 k p l q g x8 a b (q0.length : Int) i) Q := by
  induction d with
  | zero =>
    intro i q h0 hd hq he
    have e : q = joined q0 a b := rd_ext _ _ (by rw [hq, joined_length]) (fun j j0 j1 => by rw [he j j0 (by omega), if_pos (by omega)])
    subst e
    refine Tells.step (fun k => ?_) next
    simp only [columbaryref17_JoinPart.l2]
    rw [if_neg (by omega)]
  | succ d ih =>
    intro i q h0 hd hq he
    have hlt : i < (q0.length : Int) := by omega
    have hi := he i h0 hlt
    rw [if_neg (by omega)] at hi
    have hj := rd_joined q0 a b i h0 hlt
    by_cases c : rd q i = b
    · refine Tells.step (fun k => ?_) (ih (i + 1) (q.set i.toNat a) (by omega) (by omega) (by rw [List.length_set]; exact hq) (fun j j0 j1 => ?_))
      · simp only [columbaryref17_JoinPart.l2]
        rw [if_pos hlt, if_pos h0, if_pos (by omega), if_pos c, step_i h0 hlt (by omega)]
      · rw [rd_set q i a j h0 (by omega) j0]
        by_cases e : j = i
        · rw [if_pos e, if_pos (by omega), e, hj, if_pos (by omega)]
        · rw [if_neg e, he j j0 j1]
          by_cases e2 : j < i
          · rw [if_pos e2, if_pos (by omega)]
          · rw [if_neg e2, if_neg (by omega)]
    · refine Tells.step (fun k => ?_) (ih (i + 1) q (by omega) (by omega) hq (fun j j0 j1 => ?_))
      · simp only [columbaryref17_JoinPart.l2]
        rw [if_pos hlt, if_pos h0, if_pos (by omega), if_neg c, step_i h0 hlt (by omega)]
      · rw [he j j0 j1]
        by_cases e : j = i
        · rw [if_neg (by omega), if_pos (by omega), e, hj, if_neg (by omega)]
        · by_cases e2 : j < i
          · rw [if_pos e2, if_pos (by omega)]
          · rw [if_neg e2, if_neg (by omega)]

theorem rjoin_two (p : List Int) (hp : Rt p) (hl : p.length ≤ 1000) (x y : Int) (hx0 : 0 ≤ x) (hx : x < (p.length : Int)) (hy0 : 0 ≤ y) (hy : y < (p.length : Int)) : Tells (fun k => columbaryref17_JoinPart.f k p [x, y]) (fun r => Rt r.1 ∧ r.1.length = p.length) := by
  have end_ : ∀ a b g, Rt (joined p a b) → Tells (fun k => columbaryref17_JoinPart.l0 k p [x, y] (joined p a b) g (wrap64 (1 + 1))) (fun r => Rt r.1 ∧ r.1.length = p.length) := by
    intro a b g hr
    refine Tells.step (f := fun _ => some (joined p a b, g)) (fun k => ?_) (Tells.now _ ⟨hr, joined_length _ _ _⟩)
    simp only [columbaryref17_JoinPart.l0]
    rw [if_neg (by unfold wrap64; simp)]
  have mid : ∀ a b g, Rt (joined p a b) → Tells (fun k => columbaryref17_JoinPart.j3 k p [x, y] p g 1 a b) (fun r => Rt r.1 ∧ r.1.length = p.length) := by
    intro a b g hr
    refine Tells.step (fun k => ?_) (rjoin_l2 p [x, y] p g 1 a b hl (end_ a b g hr) p.length 0 p (by omega) (by omega) rfl (fun j j0 j1 => by rw [if_neg (by omega)]))
    simp only [columbaryref17_JoinPart.j3]
  have l1b : ∀ g, Tells (fun k => columbaryref17_JoinPart.l1 k p [x, y] p g 1 1) (fun r => Rt r.1 ∧ r.1.length = p.length) := by
    intro g
    have e0 : rd [x, y] 0 = x := rfl
    have e1 : rd [x, y] 1 = y := rfl
    by_cases c : rd p x > rd p y
    · refine Tells.step (fun k => ?_) (mid (rd p y) (rd p x) g (joined_rt p hp _ _ x y hx0 hx hy0 hy (.inr rfl) (.inl rfl) (by omega)))
      simp only [columbaryref17_JoinPart.l1, e0, e1]
      rw [if_neg (by omega), if_pos (by simp), if_pos hx0, if_pos hx, if_pos (by omega), if_pos (by simp), if_pos hy0, if_pos hy, if_pos c]
    · refine Tells.step (fun k => ?_) (mid (rd p x) (rd p y) g (joined_rt p hp _ _ x y hx0 hx hy0 hy (.inl rfl) (.inr rfl) (by omega)))
      simp only [columbaryref17_JoinPart.l1, e0, e1]
      rw [if_neg (by omega), if_pos (by simp), if_pos hx0, if_pos hx, if_pos (by omega), if_pos (by simp), if_pos hy0, if_pos hy, if_neg c]
  have w1 : wrap64 (0 + 1) = 1 := by unfold wrap64; omega
  have l0a : Tells (fun k => columbaryref17_JoinPart.l0 k p [x, y] p true 1) (fun r => Rt r.1 ∧ r.1.length = p.length) := by
    refine Tells.step (f := fun k => columbaryref17_JoinPart.l1 k p [x, y] p true 1 0) (fun k => ?_) (Tells.step (fun k => ?_) (l1b (rd p y != rd p x)))
    · simp only [columbaryref17_JoinPart.l0]
      rw [if_pos (by simp)]
    · have e0 : rd [x, y] 0 = x := rfl
      have e1 : rd [x, y] 1 = y := rfl
      simp only [columbaryref17_JoinPart.l1, e0, e1]
      rw [if_pos (by omega), if_pos trivial, if_pos (by omega), if_pos (by simp), if_pos hy0, if_pos hy, if_pos (by omega), if_pos (by simp), if_pos hx0, if_pos hx, w1]
  unfold columbaryref17_JoinPart.f
  refine Tells.bind (rright_tells p hp hl) (fun t ht => ?_)
  subst ht
  simp only [if_true]
  refine Tells.bind (rin_loop p [x, y] (fun i i0 i1 => ?_) (by simp) 2 0 (by omega) (by simp)) (fun t ht => ?_)
  · have : i = 0 ∨ i = 1 := by simp at i1; omega
    rcases this with rfl | rfl
    · exact ⟨hx0, hx⟩
    · exact ⟨hy0, hy⟩
  · subst ht
    refine Tells.step (fun k => ?_) l0a
    simp only [columbaryref17_JoinPart.j0]
    rw [if_neg (by simp), if_pos (by simp only [List.length_nil]; omega), List.nil_append]

theorem rnew_loop (n : Int) (hn : n ≤ 1000) (d : Nat) : ∀ (i : Int) (acc : List Int), 0 ≤ i → n - i = d → (acc.length : Int) = i → (∀ j : Int, 0 ≤ j → j < i → rd acc j = j) → Tells (fun k => columbaryref17_NewPart.l0 k n acc i) (fun p => (p.length : Int) = n ∧ ∀ j : Int, 0 ≤ j → j < n → rd p j = j) := by
  induction d with
  | zero =>
    intro i acc h0 hd ha he
    refine Tells.step (f := fun _ => some acc) (fun k => ?_) (Tells.now _ ⟨by omega, fun j j0 j1 => he j j0 (by omega)⟩)
    simp only [columbaryref17_NewPart.l0]
    rw [if_neg (by omega)]
  | succ d ih =>
    intro i acc h0 hd ha he
    refine Tells.step (fun k => ?_) (ih (i + 1) (acc ++ [i]) (by omega) (by omega) (by rw [List.length_append]; simp; omega) (fun j j0 j1 => ?_))
    · simp only [columbaryref17_NewPart.l0]
      rw [if_pos (by omega), if_pos (by omega), wrap_id (by omega) (by omega)]
    · by_cases e : j = i
      · subst e
        unfold rd
        rw [List.getD_eq_getElem?_getD, List.getElem?_append_right (by omega), show j.toNat - acc.length = 0 by omega]
        rfl
      · have := he j j0 (by omega)
        unfold rd at this ⊢
        rw [List.getD_eq_getElem?_getD, List.getElem?_append_left (by omega), ← List.getD_eq_getElem?_getD]
        exact this

theorem rnew_tells (n : Int) (h0 : 0 ≤ n) (hn : n ≤ 1000) : Tells (fun k => columbaryref17_NewPart.f k n) (fun p => (p.length : Int) = n ∧ Rt p) := by
  unfold columbaryref17_NewPart.f
  simp only [if_neg (show ¬ n < 0 by omega), decide_eq_false (show ¬ n > 1000 by omega)]
  refine Tells.mono (P := fun p => (p.length : Int) = n ∧ ∀ j : Int, 0 ≤ j → j < n → rd p j = j) (Tells.step (fun k => ?_) (rnew_loop n hn n.toNat 0 [] (by omega) (by omega) (by simp) (fun j j0 j1 => by omega))) (fun p hp => ⟨hp.1, fun i i0 i1 => ?_⟩)
  · simp only [columbaryref17_NewPart.j0]
    rw [if_neg (by simp)]
  · rw [hp.2 i i0 (by omega), hp.2 i i0 (by omega)]
    omega

theorem made_loop (m : Nat) (hm : m ≤ 8) (l : List Int) (hl : l.length ≤ 9223372036854775807) (d : Nat) : ∀ (i : Int) (p : List Int), 0 ≤ i → i ≤ 14 → 14 - i ≤ 2 * d → Rt p → p.length = m → Tells (fun k => columbarylaw22_made.l0 k l p i) (fun q => Rt q ∧ q.length = m) := by
  have stop : ∀ (i : Int) (p : List Int), Rt p → p.length = m → Tells (fun k => columbarylaw22_made.j1 k l p i false) (fun q => Rt q ∧ q.length = m) := by
    intro i p hp hl8
    refine Tells.step (f := fun _ => some p) (fun k => ?_) (Tells.now _ ⟨hp, hl8⟩)
    simp only [columbarylaw22_made.j1]
    rw [if_neg (by simp)]
  induction d with
  | zero =>
    intro i p h0 h1 hd hp hl8
    refine Tells.step (f := fun k => columbarylaw22_made.j1 k l p i false) (fun k => ?_) (stop i p hp hl8)
    simp only [columbarylaw22_made.l0, decide_eq_false (show ¬ i < 12 by omega)]
    split
    · split <;> rfl
    · rfl
  | succ d ih =>
    intro i p h0 h1 hd hp hl8
    by_cases c : wrap64 (i + 1) < (l.length : Int) ∧ (p.length : Int) > 0 ∧ i < 12
    · have e : wrap64 (i + 1) = i + 1 := wrap_id (by omega) (by omega)
      have hlt : i + 1 < (l.length : Int) := by rw [← e]; exact c.1
      obtain ⟨x, hx, x0, x1⟩ := within_tells (rd l i) (p.length : Int) (by omega) (by omega)
      obtain ⟨y, hy, y0, y1⟩ := within_tells (rd l (i + 1)) (p.length : Int) (by omega) (by omega)
      refine Tells.step (f := fun k => columbarylaw22_made.j1 k l p i true) (fun k => ?_) (Tells.step (f := fun k => (columbaryref17_JoinPart.f k p [x, y]).bind fun b => columbarylaw22_made.l0 k l b.1 (i + 2)) (fun k => ?_) (Tells.bind (rjoin_two p hp (by omega) x y x0 x1 y0 y1) (fun b hb => ih (i + 2) b.1 (by omega) (by omega) (by omega) hb.1 (by omega))))
      · simp only [columbarylaw22_made.l0]
        rw [if_pos c.1, if_pos c.2.1, decide_eq_true c.2.2]
      · simp only [columbarylaw22_made.j1]
        have h6 : i < (l.length : Int) := by omega
        rw [if_pos trivial, if_pos h0, if_pos h6, hx]
        simp only [Option.bind_some]
        rw [e, if_pos (by omega), if_pos hlt, hy]
        simp only [Option.bind_some]
        rw [show wrap64 (i + 2) = i + 2 from wrap_id (by omega) (by omega)]
    · refine Tells.step (f := fun k => columbarylaw22_made.j1 k l p i false) (fun k => ?_) (stop i p hp hl8)
      simp only [columbarylaw22_made.l0]
      by_cases c1 : wrap64 (i + 1) < (l.length : Int)
      · by_cases c2 : (p.length : Int) > 0
        · rw [if_pos c1, if_pos c2, decide_eq_false (fun h => c ⟨c1, c2, h⟩)]
        · rw [if_pos c1, if_neg c2]
      · rw [if_neg c1]

/-- Made of one number all have as many things. -/
theorem made_same (n : Int) : ∃ m : Nat, m ≤ 8 ∧ ∀ l : List Int, l.length ≤ 9223372036854775807 → Tells (fun k => columbarylaw22_made.f k n l) (fun q => Rt q ∧ q.length = m) := by
  obtain ⟨t, ht, t0, t1⟩ := within_tells n 9 (by omega) (by omega)
  refine ⟨t.toNat, by omega, fun l hl => ?_⟩
  unfold columbarylaw22_made.f
  refine Tells.bindAt ht ?_
  refine Tells.bind (rnew_tells t t0 (by omega)) (fun p hp => ?_)
  exact made_loop t.toNat (by omega) l hl 7 0 p (by omega) (by omega) (by omega) hp.2 (by omega)

theorem made_tells (n : Int) (l : List Int) (hl : l.length ≤ 9223372036854775807) : Tells (fun k => columbarylaw22_made.f k n l) (fun q => Rt q ∧ q.length ≤ 8) := by
  obtain ⟨m, hm, h⟩ := made_same n
  exact Tells.mono (h l hl) (fun q hq => ⟨hq.1, by omega⟩)

theorem clone_int (l : List Int) (h : l.length ≤ 1000) : slices_Clone_int_int.f l = some l := by
  unfold slices_Clone_int_int.f
  simp only [Option.bind_some, List.length_nil, List.nil_append]
  rw [if_pos (by omega)]

theorem wakes_tells : Tells (fun k => columbarylaw22_wakes.f k) (· = true) := ⟨true, Ev.of columbarylaw22_wakes.mono (k := 40) (by decide +kernel), rfl⟩

theorem new_loop (n : Int) (d : Nat) : ∀ (i : Int) (o : List Int), 0 ≤ i → (o.length : Int) = n → n ≤ 1000 → n - i = d → (∀ j : Int, 0 ≤ j → j < i → rd o j = j) → Tells (fun k => part_New.l0 k o n i) (fun o => (o.length : Int) = n ∧ ∀ j : Int, 0 ≤ j → j < n → rd o j = j) := by
  induction d with
  | zero =>
    intro i o h0 ho hn hd he
    refine Tells.step (f := fun _ => some o) (fun k => ?_) (Tells.now _ ⟨ho, fun j j0 j1 => he j j0 (by omega)⟩)
    simp only [part_New.l0]
    rw [if_neg (by omega)]
  | succ d ih =>
    intro i o h0 ho hn hd he
    refine Tells.step (fun k => ?_) (ih (i + 1) (o.set i.toNat i) (by omega) (by rw [List.length_set]; exact ho) hn (by omega) (fun j j0 j1 => by
      rw [rd_set o i i j h0 (by omega) j0]
      by_cases e : j = i
      · rw [if_pos e, e]
      · rw [if_neg e]; exact he j j0 (by omega)))
    simp only [part_New.l0]
    rw [if_pos (by omega), if_pos h0, if_pos (by omega), wrap_id (by omega) (by omega)]

theorem new_tells (n : Int) (h0 : 0 ≤ n) (hn : n ≤ 1000) : Tells (fun k => part_New.f k n) (fun o => (o.length : Int) = n ∧ ∀ j : Int, 0 ≤ j → j < n → rd o j = j) := by
  unfold part_New.f
  simp only [if_neg (show ¬ n < 0 by omega), decide_eq_false (show ¬ n > 1000 by omega)]
  have e : ((List.replicate n.toNat (0 : Int)).length : Int) = n := by rw [List.length_replicate]; omega
  refine Tells.step (f := fun k => part_New.l0 k (List.replicate n.toNat 0) n 0) (fun k => ?_) (new_loop n n.toNat 0 _ (by omega) e hn (by omega) (fun j j0 j1 => by omega))
  simp only [part_New.j0]
  rw [if_neg (by simp), if_pos h0, if_pos (by omega)]
  simp only [Option.bind_some]
  rw [e]

theorem same_loop (l : List Int) (hl : l.length ≤ 1000) (d : Nat) : ∀ i : Int, 0 ≤ i → (l.length : Int) - i = d → Tells (fun k => columbarykeep_Same_int.l0 k l l i) (· = true) := by
  induction d with
  | zero =>
    intro i h0 hd
    refine Tells.step (f := fun _ => some true) (fun k => ?_) (Tells.now _ rfl)
    simp only [columbarykeep_Same_int.l0]
    rw [if_neg (by omega)]
  | succ d ih =>
    intro i h0 hd
    have hlt : i < (l.length : Int) := by omega
    refine Tells.step (fun k => ?_) (ih (i + 1) (by omega) (by omega))
    simp only [columbarykeep_Same_int.l0]
    rw [if_pos hlt, if_pos h0, if_pos hlt, if_pos trivial, step_i h0 hlt (by omega)]

theorem same_tells (l : List Int) (hl : l.length ≤ 1000) : Tells (fun k => columbarykeep_Same_int.f k l l) (· = true) := by
  unfold columbarykeep_Same_int.f
  simp only [if_true]
  exact same_loop l hl l.length 0 (by omega) (by omega)

/-- The classes of two things made one. -/
def one (q : List Int) (x y : Int) : List Int := if rd q x > rd q y then joined q (rd q y) (rd q x) else joined q (rd q x) (rd q y)

theorem one_length (q : List Int) (x y : Int) : (one q x y).length = q.length := by
  unfold one
  split <;> exact joined_length _ _ _

theorem one_rt (q : List Int) (hq : Rt q) (x y : Int) (x0 : 0 ≤ x) (x1 : x < (q.length : Int)) (y0 : 0 ≤ y) (y1 : y < (q.length : Int)) : Rt (one q x y) := by
  unfold one
  split
  · exact joined_rt q hq _ _ x y x0 x1 y0 y1 (.inr rfl) (.inl rfl) (by omega)
  · exact joined_rt q hq _ _ x y x0 x1 y0 y1 (.inl rfl) (.inr rfl) (by omega)

theorem joined_self (q : List Int) (a : Int) : joined q a a = q := by
  unfold joined
  have : (fun v : Int => if v = a then a else v) = id := by
    funext v
    by_cases h : v = a
    · rw [if_pos h, h]; rfl
    · rw [if_neg h]; rfl
  rw [this, List.map_id]

theorem one_self (q : List Int) (x : Int) : one q x x = q := by
  unfold one
  rw [if_neg (by omega)]
  exact joined_self _ _

theorem one_comm (q : List Int) (x y : Int) : one q x y = one q y x := by
  unfold one
  by_cases c : rd q x > rd q y
  · rw [if_pos c, if_neg (by omega)]
  · by_cases d : rd q y > rd q x
    · rw [if_neg c, if_pos d]
    · rw [if_neg c, if_neg d, show rd q x = rd q y by omega]

theorem one_same (q : List Int) (x y : Int) (h : rd q x = rd q y) : one q x y = q := by
  unfold one
  rw [if_neg (by omega), h]
  exact joined_self _ _

theorem rd_one (q : List Int) (x y j : Int) (j0 : 0 ≤ j) (j1 : j < (q.length : Int)) : rd (one q x y) j = if rd q j = rd q x then mn (rd q x) (rd q y) else if rd q j = rd q y then mn (rd q x) (rd q y) else rd q j := by
  unfold one
  by_cases c : rd q x > rd q y
  · rw [if_pos c, rd_joined q _ _ j j0 j1]
    by_cases d : rd q j = rd q x
    · rw [if_pos d, if_pos d]; unfold mn; omega
    · rw [if_neg d, if_neg d]
      by_cases e : rd q j = rd q y
      · rw [if_pos e, e]; unfold mn; omega
      · rw [if_neg e]
  · rw [if_neg c, rd_joined q _ _ j j0 j1]
    by_cases d : rd q j = rd q x
    · rw [if_pos d]
      by_cases e : rd q j = rd q y
      · rw [if_pos e]; unfold mn; omega
      · rw [if_neg e, d]; unfold mn; omega
    · rw [if_neg d]
      by_cases e : rd q j = rd q y
      · rw [if_pos e, if_pos e]; unfold mn; omega
      · rw [if_neg e, if_neg e]

theorem tie_loop (q0 : List Int) (hl : q0.length ≤ 1000) (x y : Int) (d : Nat) : ∀ (i : Int) (q : List Int), 0 ≤ i → (q0.length : Int) - i = d → q.length = q0.length → (∀ j : Int, 0 ≤ j → j < (q0.length : Int) → rd q j = if j < i then rd (one q0 x y) j else rd q0 j) →
    Tells (fun k => part_tie.l0 k q (rd q0 x) (rd q0 y) (q0.length : Int) i) (· = one q0 x y) := by
  induction d with
  | zero =>
    intro i q h0 hd hq he
    refine Tells.step (f := fun _ => some q) (fun k => ?_) (Tells.now _ (rd_ext _ _ (by rw [hq, one_length]) (fun j j0 j1 => by rw [he j j0 (by omega), if_pos (by omega)])))
    simp only [part_tie.l0]
    rw [if_neg (by omega)]
  | succ d ih =>
    intro i q h0 hd hq he
    have hlt : i < (q0.length : Int) := by omega
    have hi := he i h0 hlt
    rw [if_neg (by omega)] at hi
    have ho := rd_one q0 x y i h0 hlt
    have put : rd (one q0 x y) i = mn (rd q0 x) (rd q0 y) → Tells (fun k => part_tie.l0 k (q.set i.toNat (mn (rd q0 x) (rd q0 y))) (rd q0 x) (rd q0 y) (q0.length : Int) (i + 1)) (· = one q0 x y) := fun e => ih (i + 1) _ (by omega) (by omega) (by rw [List.length_set]; exact hq) (fun j j0 j1 => by
      rw [rd_set q i _ j h0 (by omega) j0]
      by_cases f : j = i
      · rw [if_pos f, if_pos (by omega), f, e]
      · rw [if_neg f, he j j0 j1]
        by_cases g : j < i
        · rw [if_pos g, if_pos (by omega)]
        · rw [if_neg g, if_neg (by omega)])
    by_cases c1 : rd q i = rd q0 x
    · rw [if_pos (by omega)] at ho
      refine Tells.step (fun k => ?_) (put ho)
      simp only [part_tie.l0]
      rw [if_pos hlt, if_pos h0, if_pos (by omega), if_pos c1, step_i h0 hlt (by omega)]
    · rw [if_neg (by omega)] at ho
      by_cases c2 : rd q i = rd q0 y
      · rw [if_pos (by omega)] at ho
        refine Tells.step (fun k => ?_) (put ho)
        simp only [part_tie.l0]
        rw [if_pos hlt, if_pos h0, if_pos (by omega), if_neg c1, if_pos c2, step_i h0 hlt (by omega)]
      · rw [if_neg (by omega)] at ho
        refine Tells.step (fun k => ?_) (ih (i + 1) q (by omega) (by omega) hq (fun j j0 j1 => ?_))
        · simp only [part_tie.l0]
          rw [if_pos hlt, if_pos h0, if_pos (by omega), if_neg c1, if_neg c2, step_i h0 hlt (by omega)]
        · rw [he j j0 j1]
          by_cases g : j < i
          · rw [if_pos g, if_pos (by omega)]
          · rw [if_neg g]
            by_cases f : j = i
            · rw [if_pos (by omega), f, ho]
            · rw [if_neg (by omega)]

theorem tie_tells (q : List Int) (hl : q.length ≤ 1000) (x y : Int) (x0 : 0 ≤ x) (x1 : x < (q.length : Int)) (y0 : 0 ≤ y) (y1 : y < (q.length : Int)) : Tells (fun k => part_tie.f k q x y) (· = one q x y) := by
  unfold part_tie.f
  simp only [if_pos x0, if_pos x1, if_pos y0, if_pos y1]
  exact tie_loop q hl x y q.length 0 q (by omega) (by omega) rfl (fun j j0 j1 => by rw [if_neg (by omega)])

/-- One by one what the second's things hang together. -/
def merged (p q : List Int) : Nat → List Int
  | 0 => p
  | n + 1 => one (merged p q n) (n : Int) (rd q (n : Int))

theorem merged_length (p q : List Int) : ∀ n, (merged p q n).length = p.length
  | 0 => rfl
  | n + 1 => (one_length _ _ _).trans (merged_length p q n)

theorem merged_rt (p q : List Int) (hp : Rt p) (hq : Rt q) (hl : p.length = q.length) : ∀ n, n ≤ p.length → Rt (merged p q n)
  | 0, _ => hp
  | n + 1, h => by
    have e := merged_length p q n
    obtain ⟨a, b, c⟩ := hq (n : Int) (by omega) (by omega)
    exact one_rt _ (merged_rt p q hp hq hl n (by omega)) _ _ (by omega) (by omega) a (by omega)

theorem merge_l0 (p q : List Int) (hq : Rt q) (hl : p.length = q.length) (hpl : p.length ≤ 1000) (d : Nat) : ∀ n : Nat, n + d = q.length → Tells (fun k => part_Merge.l0 k (merged p q n) q (q.length : Int) (n : Int)) (· = merged p q q.length) := by
  induction d with
  | zero =>
    intro n hd
    refine Tells.step (f := fun _ => some (merged p q n)) (fun k => ?_) (Tells.now _ (by rw [show n = q.length by omega]))
    simp only [part_Merge.l0]
    rw [if_neg (by omega)]
  | succ d ih =>
    intro n hd
    obtain ⟨a, b, c⟩ := hq (n : Int) (by omega) (by omega)
    have hc := merged_length p q n
    refine Tells.step (f := fun k => (part_tie.f k (merged p q n) (n : Int) (rd q (n : Int))).bind fun t => part_Merge.l0 k t q (q.length : Int) ((n + 1 : Nat) : Int)) (fun k => ?_) (Tells.bind (tie_tells (merged p q n) (by omega) _ _ (by omega) (by omega) a (by omega)) (fun t ht => ?_))
    · simp only [part_Merge.l0]
      rw [if_pos (by omega), if_pos (by omega), if_pos (by omega), step_i (by omega) (show (n : Int) < (q.length : Int) by omega) (by omega)]
      rfl
    · subst ht
      exact ih (n + 1) (by omega)

/-- What the first tells of one class the second does, too. -/
def Le (a b : List Int) : Prop := ∀ i j : Int, 0 ≤ i → i < (a.length : Int) → 0 ≤ j → j < (a.length : Int) → rd a i = rd a j → rd b i = rd b j

/-- A saying that does not part what is of one class. -/
def Keeps (a : List Int) (c : Int → Int) : Prop := ∀ i j : Int, 0 ≤ i → i < (a.length : Int) → 0 ≤ j → j < (a.length : Int) → rd a i = rd a j → c i = c j

theorem rt_ext (a b : List Int) (ha : Rt a) (hb : Rt b) (hl : a.length = b.length) (h1 : Le a b) (h2 : Le b a) : a = b := by
  refine rd_ext a b hl (fun i i0 i1 => ?_)
  obtain ⟨a0, a1, a2⟩ := ha i i0 i1
  obtain ⟨b0, b1, b2⟩ := hb i i0 (by omega)
  have e1 := h1 (rd a i) i a0 (by omega) i0 i1 a2
  have e2 := h2 (rd b i) i b0 (by omega) i0 (by omega) b2
  have f1 := (hb (rd a i) a0 (by omega)).2.1
  have f2 := (ha (rd b i) b0 (by omega)).2.1
  omega

/-- The second and the first hang together what m does, and no more. -/
def Joins (p q m : List Int) : Prop := Rt m ∧ m.length = p.length ∧ Le p m ∧ Le q m ∧ ∀ c : Int → Int, Keeps p c → Keeps q c → Keeps m c

theorem merged_le (p q : List Int) : ∀ n, Le p (merged p q n)
  | 0 => fun i j _ _ _ _ h => h
  | n + 1 => fun i j i0 i1 j0 j1 h => by
    have e := merged_length p q n
    show rd (one (merged p q n) _ _) i = rd (one (merged p q n) _ _) j
    rw [rd_one _ _ _ i i0 (by omega), rd_one _ _ _ j j0 (by omega), merged_le p q n i j i0 i1 j0 j1 h]

theorem merged_at (p q : List Int) (hq : Rt q) (hl : p.length = q.length) : ∀ n : Nat, n ≤ q.length → ∀ i : Int, 0 ≤ i → i < (n : Int) → rd (merged p q n) i = rd (merged p q n) (rd q i)
  | 0, _ => fun i i0 i1 => by omega
  | n + 1, hn => fun i i0 i1 => by
    have e := merged_length p q n
    obtain ⟨a, b, c⟩ := hq i i0 (by omega)
    show rd (one (merged p q n) _ _) i = rd (one (merged p q n) _ _) (rd q i)
    rw [rd_one _ _ _ i i0 (by omega), rd_one _ _ _ (rd q i) a (by omega)]
    by_cases h : i = (n : Int)
    · subst h
      rw [if_pos rfl]
      by_cases g : rd (merged p q n) (rd q (n : Int)) = rd (merged p q n) (n : Int)
      · rw [if_pos g]
      · rw [if_neg g, if_pos rfl]
    · rw [merged_at p q hq hl n (by omega) i i0 (by omega)]

theorem merged_most (p q : List Int) (hq : Rt q) (hl : p.length = q.length) (c : Int → Int) (hp : Keeps p c) (hc : Keeps q c) : ∀ n : Nat, n ≤ q.length → Keeps (merged p q n) c
  | 0, _ => hp
  | n + 1, hn => fun i j i0 i1 j0 j1 h => by
    have e := merged_length p q n
    have e2 := merged_length p q (n + 1)
    obtain ⟨a, b, d⟩ := hq (n : Int) (by omega) (by omega)
    have ih : ∀ i j : Int, 0 ≤ i → i < (p.length : Int) → 0 ≤ j → j < (p.length : Int) → rd (merged p q n) i = rd (merged p q n) j → c i = c j := fun i j i0 i1 j0 j1 h => merged_most p q hq hl c hp hc n (by omega) i j i0 (by omega) j0 (by omega) h
    have hxy : c (n : Int) = c (rd q (n : Int)) := hc _ _ (by omega) (by omega) a (by omega) d.symm
    have h' : rd (one (merged p q n) (n : Int) (rd q (n : Int))) i = rd (one (merged p q n) (n : Int) (rd q (n : Int))) j := h
    rw [rd_one _ _ _ i i0 (by omega), rd_one _ _ _ j j0 (by omega)] at h'
    have inn : ∀ i : Int, 0 ≤ i → i < (p.length : Int) → (rd (merged p q n) i = rd (merged p q n) (n : Int) ∨ rd (merged p q n) i = rd (merged p q n) (rd q (n : Int))) → c i = c (n : Int) := fun i i0 i1 g => by
      rcases g with g | g
      · exact ih _ _ i0 i1 (by omega) (by omega) g
      · exact (ih _ _ i0 i1 a (by omega) g).trans hxy.symm
    have mm : mn (rd (merged p q n) (n : Int)) (rd (merged p q n) (rd q (n : Int))) = rd (merged p q n) (n : Int) ∨ mn (rd (merged p q n) (n : Int)) (rd (merged p q n) (rd q (n : Int))) = rd (merged p q n) (rd q (n : Int)) := by unfold mn; omega
    by_cases u : rd (merged p q n) i = rd (merged p q n) (n : Int) ∨ rd (merged p q n) i = rd (merged p q n) (rd q (n : Int))
    · have hi : (if rd (merged p q n) i = rd (merged p q n) (n : Int) then mn (rd (merged p q n) (n : Int)) (rd (merged p q n) (rd q (n : Int))) else if rd (merged p q n) i = rd (merged p q n) (rd q (n : Int)) then mn (rd (merged p q n) (n : Int)) (rd (merged p q n) (rd q (n : Int))) else rd (merged p q n) i) = mn (rd (merged p q n) (n : Int)) (rd (merged p q n) (rd q (n : Int))) := by
        by_cases u1 : rd (merged p q n) i = rd (merged p q n) (n : Int)
        · rw [if_pos u1]
        · rw [if_neg u1, if_pos (u.resolve_left u1)]
      rw [hi] at h'
      by_cases v : rd (merged p q n) j = rd (merged p q n) (n : Int) ∨ rd (merged p q n) j = rd (merged p q n) (rd q (n : Int))
      · exact (inn i i0 (by omega) u).trans (inn j j0 (by omega) v).symm
      · rw [if_neg (fun w => v (.inl w)), if_neg (fun w => v (.inr w))] at h'
        exact absurd (mm.elim (fun m => Or.inl (by omega)) (fun m => Or.inr (by omega))) v
    · rw [if_neg (fun w => u (.inl w)), if_neg (fun w => u (.inr w))] at h'
      by_cases v : rd (merged p q n) j = rd (merged p q n) (n : Int) ∨ rd (merged p q n) j = rd (merged p q n) (rd q (n : Int))
      · have hj : (if rd (merged p q n) j = rd (merged p q n) (n : Int) then mn (rd (merged p q n) (n : Int)) (rd (merged p q n) (rd q (n : Int))) else if rd (merged p q n) j = rd (merged p q n) (rd q (n : Int)) then mn (rd (merged p q n) (n : Int)) (rd (merged p q n) (rd q (n : Int))) else rd (merged p q n) j) = mn (rd (merged p q n) (n : Int)) (rd (merged p q n) (rd q (n : Int))) := by
          by_cases u1 : rd (merged p q n) j = rd (merged p q n) (n : Int)
          · rw [if_pos u1]
          · rw [if_neg u1, if_pos (v.resolve_left u1)]
        rw [hj] at h'
        exact absurd (mm.elim (fun m => Or.inl (by omega)) (fun m => Or.inr (by omega))) u
      · rw [if_neg (fun w => v (.inl w)), if_neg (fun w => v (.inr w))] at h'
        exact ih i j i0 (by omega) j0 (by omega) h'

theorem merged_joins (p q : List Int) (hp : Rt p) (hq : Rt q) (hl : p.length = q.length) : Joins p q (merged p q q.length) := by
  refine ⟨merged_rt p q hp hq hl _ (by omega), merged_length p q _, merged_le p q _, fun i j i0 i1 j0 j1 h => ?_, fun c h1 h2 => merged_most p q hq hl c h1 h2 _ (by omega)⟩
  rw [merged_at p q hq hl _ (by omega) i i0 i1, merged_at p q hq hl _ (by omega) j j0 j1, h]

theorem merge_tells (p q : List Int) (hp : Rt p) (hq : Rt q) (hl : p.length = q.length) (hpl : p.length ≤ 1000) : Tells (fun k => part_Merge.f k p q) (Joins p q) := by
  unfold part_Merge.f
  refine Tells.bind (right_tells p hp hpl) (fun t ht => ?_)
  subst ht
  simp only [if_true]
  refine Tells.bind (right_tells q hq (by omega)) (fun t ht => ?_)
  subst ht
  have e : ((p.length : Int) != (q.length : Int)) = false := by rw [hl]; simp
  simp only [if_true, e]
  refine Tells.step (fun k => ?_) (Tells.mono (merge_l0 p q hq hl hpl q.length 0 (by omega)) (fun r hr => by subst hr; exact merged_joins p q hp hq hl))
  simp only [part_Merge.j0]
  rw [if_neg (by simp), clone_int p hpl]
  rfl

theorem Le.refl (a : List Int) : Le a a := fun _ _ _ _ _ _ h => h

theorem Le.trans {a b c : List Int} (hl : a.length = b.length) (h : Le a b) (g : Le b c) : Le a c := fun i j i0 i1 j0 j1 e => g i j i0 (by omega) j0 (by omega) (h i j i0 i1 j0 j1 e)

theorem Joins.most {p q m x : List Int} (h : Joins p q m) (h1 : Le p x) (h2 : Le q x) : Le m x := fun i j i0 i1 j0 j1 e => h.2.2.2.2 (rd x) (fun i j => h1 i j) (fun i j => h2 i j) i j i0 i1 j0 j1 e

theorem joins_comm {p q m n : List Int} (hl : p.length = q.length) (h : Joins p q m) (g : Joins q p n) : m = n :=
  rt_ext m n h.1 g.1 (by rw [h.2.1, g.2.1, hl]) (h.most g.2.2.2.1 g.2.2.1) (g.most h.2.2.2.1 h.2.2.1)

theorem joins_assoc {p q r m a b n : List Int} (h1 : p.length = q.length) (h2 : q.length = r.length) (hm : Joins p q m) (ha : Joins m r a) (hb : Joins q r b) (hn : Joins p b n) : a = n :=
  rt_ext a n ha.1 hn.1 (by rw [ha.2.1, hm.2.1, hn.2.1])
    (ha.most (hm.most hn.2.2.1 (Le.trans (by rw [hb.2.1]) hb.2.2.1 hn.2.2.2.1)) (Le.trans (by rw [hb.2.1, h2]) hb.2.2.2.1 hn.2.2.2.1))
    (hn.most (Le.trans (by rw [hm.2.1]) hm.2.2.1 ha.2.2.1) (hb.most (Le.trans (by rw [hm.2.1, h1]) hm.2.2.2.1 ha.2.2.1) ha.2.2.2.1))

theorem joins_more {m p n : List Int} (hm : Rt m) (h : Le p m) (g : Joins m p n) : n = m :=
  rt_ext n m g.1 hm g.2.1 (g.most (Le.refl m) h) g.2.2.1

/-- How many of the first n are not yet so. -/
def open_ (f : Int → Bool) : Nat → Nat
  | 0 => 0
  | n + 1 => open_ f n + (if f (n : Int) then 0 else 1)

theorem open_le (f g : Int → Bool) : ∀ n : Nat, (∀ j : Int, 0 ≤ j → j < (n : Int) → f j = true → g j = true) → open_ g n ≤ open_ f n
  | 0, _ => Nat.le_refl _
  | n + 1, h => by
    have a := open_le f g n (fun j j0 j1 => h j j0 (by omega))
    have b := h (n : Int) (by omega) (by omega)
    unfold open_
    by_cases c : f (n : Int) = true
    · rw [if_pos c, if_pos (b c)]; omega
    · rw [if_neg c]; split <;> omega

theorem open_lt (f g : Int → Bool) : ∀ n : Nat, (∀ j : Int, 0 ≤ j → j < (n : Int) → f j = true → g j = true) → (∃ j : Int, 0 ≤ j ∧ j < (n : Int) ∧ f j = false ∧ g j = true) → open_ g n < open_ f n
  | 0, _, ⟨j, j0, j1, _⟩ => by omega
  | n + 1, h, ⟨j, j0, j1, j2, j3⟩ => by
    have b := h (n : Int) (by omega) (by omega)
    unfold open_
    by_cases e : j = (n : Int)
    · subst e
      have a := open_le f g n (fun j j0 j1 => h j j0 (by omega))
      rw [j2, j3, if_pos rfl, if_neg (by simp)]
      omega
    · have a := open_lt f g n (fun j j0 j1 => h j j0 (by omega)) ⟨j, j0, by omega, j2, j3⟩
      by_cases c : f (n : Int) = true
      · rw [if_pos c, if_pos (b c)]; omega
      · rw [if_neg c]; split <;> omega

theorem open_zero (f : Int → Bool) : ∀ n : Nat, open_ f n = 0 → ∀ j : Int, 0 ≤ j → j < (n : Int) → f j = true
  | 0, _ => fun j j0 j1 => by omega
  | n + 1, h => fun j j0 j1 => by
    unfold open_ at h
    by_cases c : f (n : Int) = true
    · rw [if_pos c] at h
      by_cases e : j = (n : Int)
      · subst e; exact c
      · exact open_zero f n (by omega) j j0 (by omega)
    · rw [if_neg c] at h; omega

theorem open_all (f : Int → Bool) : ∀ n : Nat, open_ f n ≤ n
  | 0 => Nat.le_refl _
  | n + 1 => by
    have := open_all f n
    unfold open_
    split <;> omega

/-- Two of one class of p, or of q. -/
def Edge (p q : List Int) (i k : Int) : Prop := rd p i = rd p k ∨ rd q i = rd q k

/-- A way between: no lower than the class's least, no higher than the thing. -/
def Way (m w : List Int) : Prop := w.length = m.length ∧ ∀ j : Int, 0 ≤ j → j < (m.length : Int) → rd m j ≤ rd w j ∧ rd w j ≤ j

/-- Behind one going through from w to v: nothing rose, and who hangs together with another is no higher than that was. -/
def Went (p q m w v : List Int) : Prop := Way m v ∧ (∀ j : Int, 0 ≤ j → j < (m.length : Int) → rd v j ≤ rd w j) ∧ ∀ i k : Int, 0 ≤ i → i < (m.length : Int) → 0 ≤ k → k < (m.length : Int) → Edge p q i k → rd v k ≤ rd w i

theorem went_less (p q m w v : List Int) (hm : Joins p q m) (hpq : p.length = q.length) (hw : Way m w) (hv : Went p q m w v) : open_ (fun j => decide (rd v j = rd m j)) m.length ≤ open_ (fun j => decide (rd w j = rd m j)) m.length - 1 := by
  have le : ∀ j : Int, 0 ≤ j → j < (m.length : Int) → decide (rd w j = rd m j) = true → decide (rd v j = rd m j) = true := fun j j0 j1 h => by
    have h := of_decide_eq_true h
    have a := (hv.1.2 j j0 j1).1
    have b := hv.2.1 j j0 j1
    exact decide_eq_true (by omega)
  by_cases z : open_ (fun j => decide (rd w j = rd m j)) m.length = 0
  · have := open_le _ _ m.length le
    omega
  · have ex : ∃ j : Int, 0 ≤ j ∧ j < (m.length : Int) ∧ decide (rd w j = rd m j) = false ∧ decide (rd v j = rd m j) = true := by
      apply Classical.byContradiction
      intro no
      refine z ?_
      have all : ∀ j : Int, 0 ≤ j → j < (m.length : Int) → decide (rd w j = rd m j) = true := by
        intro j j0 j1
        -- a saying that parts those that are told their least from the others
        have ml := hm.2.1
        have keep : ∀ i k : Int, 0 ≤ i → i < (m.length : Int) → 0 ≤ k → k < (m.length : Int) → Edge p q i k → rd m i = rd m k → rd w i = rd m i → rd w k = rd m k := by
          intro i k i0 i1 k0 k1 ed me wi
          apply Classical.byContradiction
          intro wk
          have a := hv.2.2 i k i0 i1 k0 k1 ed
          have b := (hv.1.2 k k0 k1).1
          exact no ⟨k, k0, k1, decide_eq_false wk, decide_eq_true (by omega)⟩
        have same : ∀ i k : Int, 0 ≤ i → i < (m.length : Int) → 0 ≤ k → k < (m.length : Int) → Edge p q i k → rd m i = rd m k → (if rd w i = rd m i then (1 : Int) else 0) = if rd w k = rd m k then (1 : Int) else 0 := by
          intro i k i0 i1 k0 k1 ed me
          by_cases a : rd w i = rd m i
          · rw [if_pos a, if_pos (keep i k i0 i1 k0 k1 ed me a)]
          · have b : ¬ rd w k = rd m k := fun b => a (keep k i k0 k1 i0 i1 (ed.elim (fun h => Or.inl h.symm) (fun h => Or.inr h.symm)) me.symm b)
            rw [if_neg a, if_neg b]
        obtain ⟨r0, r1, r2⟩ := hm.1 j j0 j1
        have e := hm.2.2.2.2 (fun i => if rd w i = rd m i then (1 : Int) else 0) (fun i k i0 i1 k0 k1 h => same i k i0 (by omega) k0 (by omega) (.inl h) (hm.2.2.1 i k i0 i1 k0 k1 h)) (fun i k i0 i1 k0 k1 h => same i k i0 (by omega) k0 (by omega) (.inr h) (hm.2.2.2.1 i k i0 i1 k0 k1 h)) (rd m j) j r0 (by omega) j0 j1 r2
        have f := hw.2 (rd m j) r0 (by omega)
        have g : rd w (rd m j) = rd m (rd m j) := by omega
        simp only [if_pos g] at e
        apply decide_eq_true
        apply Classical.byContradiction
        intro h
        rw [if_neg h] at e
        omega
      have : ∀ n : Nat, n ≤ m.length → open_ (fun j => decide (rd w j = rd m j)) n = 0 := by
        intro n
        induction n with
        | zero => intro _; rfl
        | succ n ih =>
          intro hn
          unfold open_
          rw [ih (by omega), if_pos (all (n : Int) (by omega) (by omega))]
      exact this _ (Nat.le_refl _)
    have := open_lt _ _ m.length le ex
    omega

/-- Of one going through: so far, to the pair of i and k. -/
def Going (p q m w0 : List Int) (i k : Int) (w : List Int) : Prop := Way m w ∧ (∀ j : Int, 0 ≤ j → j < (m.length : Int) → rd w j ≤ rd w0 j) ∧ ∀ a b : Int, 0 ≤ a → a < (m.length : Int) → 0 ≤ b → b < (m.length : Int) → (a < i ∨ (a = i ∧ b < k)) → Edge p q a b → rd w b ≤ rd w0 a

theorem going_put (p q m w0 w : List Int) (hm : Joins p q m) (hpq : p.length = q.length) (i k : Int) (i0 : 0 ≤ i) (i1 : i < (m.length : Int)) (k0 : 0 ≤ k) (k1 : k < (m.length : Int)) (h : Going p q m w0 i k w) (e : Edge p q i k) : Going p q m w0 i (k + 1) ((w.set i.toNat (mn (rd w i) (rd w k))).set k.toNat (mn (rd w i) (rd w k))) := by
  obtain ⟨⟨wl, wb⟩, hb, hg⟩ := h
  have ml := hm.2.1
  have me : rd m i = rd m k := by
    rcases e with e | e
    · exact hm.2.2.1 i k i0 (by omega) k0 (by omega) e
    · exact hm.2.2.2.1 i k i0 (by omega) k0 (by omega) e
  have wi := wb i i0 i1
  have wk := wb k k0 k1
  have at_ : ∀ j : Int, 0 ≤ j → rd ((w.set i.toNat (mn (rd w i) (rd w k))).set k.toNat (mn (rd w i) (rd w k))) j = if j = k then mn (rd w i) (rd w k) else if j = i then mn (rd w i) (rd w k) else rd w j := fun j j0 => by
    rw [rd_set _ k _ j k0 (by rw [List.length_set]; omega) j0, rd_set w i _ j i0 (by omega) j0]
  have low : ∀ j : Int, 0 ≤ j → j < (m.length : Int) → rd ((w.set i.toNat (mn (rd w i) (rd w k))).set k.toNat (mn (rd w i) (rd w k))) j ≤ rd w j := fun j j0 j1 => by
    rw [at_ j j0]
    by_cases a : j = k
    · rw [if_pos a, a]; unfold mn; omega
    · rw [if_neg a]
      by_cases b : j = i
      · rw [if_pos b, b]; unfold mn; omega
      · rw [if_neg b]; omega
  refine ⟨⟨by rw [List.length_set, List.length_set]; exact wl, fun j j0 j1 => ?_⟩, fun j j0 j1 => ?_, fun a b a0 a1 b0 b1 ab ed => ?_⟩
  · have := wb j j0 j1
    have lw := low j j0 j1
    refine ⟨?_, by omega⟩
    rw [at_ j j0]
    by_cases a : j = k
    · rw [if_pos a, a]; unfold mn; omega
    · rw [if_neg a]
      by_cases b : j = i
      · rw [if_pos b, b]; unfold mn; omega
      · rw [if_neg b]; omega
  · have := low j j0 j1
    have := hb j j0 j1
    omega
  · have lb := low b b0 b1
    by_cases c : a < i ∨ (a = i ∧ b < k)
    · have := hg a b a0 a1 b0 b1 c ed
      omega
    · have ea : a = i := by omega
      have eb : b = k := by omega
      subst ea eb
      have := hb a a0 a1
      rw [at_ b b0, if_pos rfl]
      unfold mn
      omega

theorem going_skip (p q m w0 w : List Int) (i k : Int) (h : Going p q m w0 i k w) (e : ¬ Edge p q i k) : Going p q m w0 i (k + 1) w :=
  ⟨h.1, h.2.1, fun a b a0 a1 b0 b1 ab ed => by
    by_cases c : a < i ∨ (a = i ∧ b < k)
    · exact h.2.2 a b a0 a1 b0 b1 c ed
    · have ea : a = i := by omega
      have eb : b = k := by omega
      subst ea eb
      exact absurd ed e⟩

theorem going_l2 (p q m w0 : List Int) (hm : Joins p q m) (hpq : p.length = q.length) (hl : p.length ≤ 1000) (x80 x81 : Int) (i : Int) (i0 : 0 ≤ i) (i1 : i < (p.length : Int)) {Q : Bool → Prop}
    (next : ∀ w : List Int, Going p q m w0 (i + 1) 0 w → Tells (fun k => columbarylaw22_PartMerge.l1 k p q m w x80 x81 (p.length : Int) (i + 1)) Q) (d : Nat) : ∀ (k : Int) (w : List Int), 0 ≤ k → (p.length : Int) - k = d → Going p q m w0 i k w →
    Tells (fun n => columbarylaw22_PartMerge.l2 n p q m w i x80 x81 (p.length : Int) i (p.length : Int) k) Q := by
  have ml := hm.2.1
  induction d with
  | zero =>
    intro k w k0 hd hg
    refine Tells.step (fun n => ?_) (next w ⟨hg.1, hg.2.1, fun a b a0 a1 b0 b1 ab ed => hg.2.2 a b a0 a1 b0 b1 (by omega) ed⟩)
    simp only [columbarylaw22_PartMerge.l2]
    rw [if_neg (by omega), step_i i0 i1 (by omega)]
  | succ d ih =>
    intro k w k0 hd hg
    have hlt : k < (p.length : Int) := by omega
    have wl := hg.1.1
    by_cases c1 : rd p i = rd p k
    · refine Tells.step (fun n => ?_) (ih (k + 1) _ (by omega) (by omega) (going_put p q m w0 w hm hpq i k i0 (by omega) k0 (by omega) hg (.inl c1)))
      simp only [columbarylaw22_PartMerge.l2]
      rw [if_pos hlt, if_pos i0, if_pos i1, if_pos k0, if_pos hlt, if_pos c1, if_pos (by omega), if_pos (by omega), step_i k0 hlt (by omega)]
    · by_cases c2 : rd q i = rd q k
      · refine Tells.step (fun n => ?_) (ih (k + 1) _ (by omega) (by omega) (going_put p q m w0 w hm hpq i k i0 (by omega) k0 (by omega) hg (.inr c2)))
        simp only [columbarylaw22_PartMerge.l2]
        rw [if_pos hlt, if_pos i0, if_pos i1, if_pos k0, if_pos hlt, if_neg c1, if_pos (by omega), if_pos (by omega), if_pos c2, if_pos (by omega), if_pos (by omega), step_i k0 hlt (by omega)]
      · refine Tells.step (fun n => ?_) (ih (k + 1) w (by omega) (by omega) (going_skip p q m w0 w i k hg (fun h => h.elim c1 c2)))
        simp only [columbarylaw22_PartMerge.l2]
        rw [if_pos hlt, if_pos i0, if_pos i1, if_pos k0, if_pos hlt, if_neg c1, if_pos (by omega), if_pos (by omega), if_neg c2, step_i k0 hlt (by omega)]

theorem going_l1 (p q m w0 : List Int) (hm : Joins p q m) (hpq : p.length = q.length) (hl : p.length ≤ 1000) (x80 x81 : Int) {Q : Bool → Prop}
    (next : ∀ w : List Int, Went p q m w0 w → Tells (fun k => columbarylaw22_PartMerge.l0 k p q m w x80 (wrap64 (x81 + 1))) Q) (d : Nat) : ∀ (i : Int) (w : List Int), 0 ≤ i → (p.length : Int) - i = d → Going p q m w0 i 0 w →
    Tells (fun n => columbarylaw22_PartMerge.l1 n p q m w x80 x81 (p.length : Int) i) Q := by
  have ml := hm.2.1
  induction d with
  | zero =>
    intro i w i0 hd hg
    refine Tells.step (fun n => ?_) (next w ⟨hg.1, hg.2.1, fun a b a0 a1 b0 b1 ed => hg.2.2 a b a0 a1 b0 b1 (by omega) ed⟩)
    simp only [columbarylaw22_PartMerge.l1]
    rw [if_neg (by omega)]
  | succ d ih =>
    intro i w i0 hd hg
    have hlt : i < (p.length : Int) := by omega
    refine Tells.step (fun n => ?_) (going_l2 p q m w0 hm hpq hl x80 x81 i i0 hlt (fun w hg => ih (i + 1) w (by omega) (by omega) hg) p.length 0 w (by omega) (by omega) hg)
    simp only [columbarylaw22_PartMerge.l1]
    rw [if_pos hlt]

theorem last_loop (m : List Int) (hl : m.length ≤ 1000) (d : Nat) : ∀ i : Int, 0 ≤ i → (m.length : Int) - i = d → Tells (fun n => columbarylaw22_PartMerge.l3 n m m (m.length : Int) i) (· = true) := by
  induction d with
  | zero =>
    intro i h0 hd
    refine Tells.step (f := fun k => (columbarylaw22_wakes.f k).bind fun t => some t) (fun n => ?_) (Tells.bind wakes_tells (fun t ht => Tells.now t ht))
    simp only [columbarylaw22_PartMerge.l3]
    rw [if_neg (by omega)]
  | succ d ih =>
    intro i h0 hd
    have hlt : i < (m.length : Int) := by omega
    refine Tells.step (fun n => ?_) (ih (i + 1) (by omega) (by omega))
    simp only [columbarylaw22_PartMerge.l3]
    rw [if_pos hlt, if_pos h0, if_pos hlt, if_pos hlt, if_pos trivial, step_i h0 hlt (by omega)]

theorem rounds_loop (p q m : List Int) (hm : Joins p q m) (hpq : p.length = q.length) (hl : p.length ≤ 1000) (d : Nat) : ∀ (c : Int) (w : List Int), 0 ≤ c → (p.length : Int) - c = d → Way m w → open_ (fun j => decide (rd w j = rd m j)) m.length ≤ d →
    Tells (fun n => columbarylaw22_PartMerge.l0 n p q m w (p.length : Int) c) (· = true) := by
  have ml := hm.2.1
  induction d with
  | zero =>
    intro c w c0 hd hw ho
    have z := open_zero _ m.length (show open_ (fun j => decide (rd w j = rd m j)) m.length = 0 by omega)
    have e : w = m := rd_ext w m hw.1 (fun j j0 j1 => of_decide_eq_true (z j j0 (by have := hw.1; omega)))
    subst e
    refine Tells.step (fun n => ?_) (last_loop w (by omega) w.length 0 (by omega) (by omega))
    simp only [columbarylaw22_PartMerge.l0]
    rw [if_neg (by omega)]
  | succ d ih =>
    intro c w c0 hd hw ho
    have hlt : c < (p.length : Int) := by omega
    refine Tells.step (fun n => ?_) (going_l1 p q m w hm hpq hl (p.length : Int) c (fun v hv => ?_) p.length 0 w (by omega) (by omega) ⟨hw, fun j j0 j1 => by omega, fun a b a0 a1 b0 b1 ab ed => by omega⟩)
    · simp only [columbarylaw22_PartMerge.l0]
      rw [if_pos hlt]
    · rw [step_i c0 hlt (by omega)]
      have := went_less p q m w v hm hpq hw hv
      exact ih (c + 1) v (by omega) (by omega) hv.1 (by omega)

theorem law_j0 (p q m : List Int) (hp : Rt p) (hm : Joins p q m) (hpq : p.length = q.length) (hl : p.length ≤ 1000) : Tells (fun k => columbarylaw22_PartMerge.j0 k p q m false) (· = true) := by
  have ml := hm.2.1
  refine Tells.step (fun k => ?_) (rounds_loop p q m hm hpq hl p.length 0 p (by omega) (by omega) ⟨by omega, fun j j0 j1 => ?_⟩ (by have := open_all (fun j => decide (rd p j = rd m j)) m.length; omega))
  · simp only [columbarylaw22_PartMerge.j0]
    rw [if_neg (by simp)]
    unfold columbarykeep_Copy_int.f
    rw [if_pos (by simp only [List.length_nil]; omega), List.nil_append]
    rfl
  · obtain ⟨a, b, c⟩ := hp j j0 (by omega)
    have e := hm.2.2.1 (rd p j) j a (by omega) j0 (by omega) c
    have f := (hm.1 (rd p j) a (by omega)).2.1
    omega

theorem PartMerge (n : Int) (a b c : List Int) (_ : (Lit.int .i64 n).wf = true) (ha : a.length ≤ 9223372036854775807 ∧ ∀ v ∈ a, (Lit.int .i64 v).wf = true) (hb : b.length ≤ 9223372036854775807 ∧ ∀ v ∈ b, (Lit.int .i64 v).wf = true) (hc : c.length ≤ 9223372036854775807 ∧ ∀ v ∈ c, (Lit.int .i64 v).wf = true) : ∃ k, columbarylaw22_PartMerge.f k n a b c = some true := by
  obtain ⟨s, hs, made⟩ := made_same n
  refine Tells.yes ?_
  unfold columbarylaw22_PartMerge.f
  refine Tells.bind (made a ha.1) (fun p hp => ?_)
  refine Tells.bind (made b hb.1) (fun q hq => ?_)
  refine Tells.bind (made c hc.1) (fun r hr => ?_)
  have pq : p.length = q.length := by omega
  have qr : q.length = r.length := by omega
  refine Tells.bind (merge_tells p q hp.1 hq.1 pq (by omega)) (fun m hm => ?_)
  refine Tells.bind (merge_tells q p hq.1 hp.1 pq.symm (by omega)) (fun m2 hm2 => ?_)
  obtain rfl := joins_comm pq hm hm2
  have ml := hm.2.1
  refine Tells.bind (same_tells m (by omega)) (fun t ht => ?_)
  subst ht
  simp only [if_true]
  refine Tells.bind (merge_tells m r hm.1 hr.1 (by omega) (by omega)) (fun x hx => ?_)
  refine Tells.bind (merge_tells q r hq.1 hr.1 qr (by omega)) (fun y hy => ?_)
  have yl := hy.2.1
  refine Tells.bind (merge_tells p y hp.1 hy.1 (by omega) (by omega)) (fun z hz => ?_)
  obtain rfl := joins_assoc pq qr hm hx hy hz
  have xl := hx.2.1
  refine Tells.bind (same_tells x (by omega)) (fun t ht => ?_)
  subst ht
  simp only [if_true]
  refine Tells.bind (merge_tells m p hm.1 hp.1 (by omega) (by omega)) (fun u hu => ?_)
  obtain rfl := joins_more hm.1 hm.2.2.1 hu
  refine Tells.bind (same_tells u (by omega)) (fun t ht => ?_)
  subst ht
  simp only [if_true]
  refine Tells.bind (new_tells (p.length : Int) (by omega) (by omega)) (fun e he => ?_)
  have er : Rt e := fun j j0 j1 => by rw [he.2 j j0 (by omega), he.2 j j0 (by omega)]; omega
  refine Tells.bind (merge_tells p e hp.1 er (by omega) (by omega)) (fun v hv => ?_)
  have le : Le e p := fun i j i0 i1 j0 j1 h => by
    rw [he.2 i i0 (by omega), he.2 j j0 (by omega)] at h
    rw [h]
  obtain rfl := joins_more hp.1 le hv
  refine Tells.bind (same_tells v (by omega)) (fun t ht => ?_)
  subst ht
  simp only [if_true]
  have ne : ((u.length : Int) != (v.length : Int)) = false := by rw [ml]; simp
  rw [ne]
  exact law_j0 v q u hp.1 hm pq (by omega)

end Go.Proofs.Ytilkokbmabbpgaa.Pure
