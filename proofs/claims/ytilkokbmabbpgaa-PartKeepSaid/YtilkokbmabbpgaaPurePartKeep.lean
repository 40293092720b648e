/- PartKeep as a statement over numbers and lists: of some things those are together that were so; kept all they are as they were. For all numbers and lists. -/
import Derived.Test.YtilkokbmabbpgaaPPartKeepx7
namespace Go.Proofs.Ytilkokbmabbpgaa.Pure
open Go.RowKit Go.Proofs.Ytilkokbmabbpgaa.There Go.Proofs.Ytilkokbmabbpgaa.PPartKeep Go.Proofs.YtilkokbmabbpgaaW.PrintWords Go.Proofs.YtilkokbmabbpgaaW.PrintLast Go.Proofs.YtilkokbmabbpgaaW.PrintMore
set_option linter.unusedVariables false
set_option linter.unusedSimpArgs false

theorem wrap_id {x : Int} (h0 : -9223372036854775808 ≤ x) (h1 : x ≤ 9223372036854775807) : wrap64 x = x := by unfold wrap64; omega

theorem step_i {i : Int} {n : Nat} (h0 : 0 ≤ i) (h1 : i < (n : Int)) (hn : n ≤ 9223372036854775807) : wrap64 (i + 1) = i + 1 := wrap_id (by omega) (by omega)

theorem drop_cons {α : Type} (l : List α) (d : α) (i : Int) (h0 : 0 ≤ i) (h1 : i < (l.length : Int)) : l.drop i.toNat = l.getD i.toNat d :: l.drop (i + 1).toNat := by
  have hlt : i.toNat < l.length := by omega
  rw [List.drop_eq_getElem_cons hlt, List.getD_eq_getElem?_getD, List.getElem?_eq_getElem hlt, show (i + 1).toNat = i.toNat + 1 by omega]
  rfl

theorem drop_end {α : Type} (l : List α) (i : Int) (h1 : ¬ i < (l.length : Int)) : l.drop i.toNat = [] := List.drop_eq_nil_of_le (by omega)

/-- With rounds enough it tells something. -/
def Tells {α : Type} (g : Nat → Option α) (Q : α → Prop) : Prop := ∃ r, Ev g r ∧ Q r

theorem Tells.step {α : Type} {g f : Nat → Option α} {Q : α → Prop} (h : ∀ k, g (k + 1) = f k) (k : Tells f Q) : Tells g Q := by
  obtain ⟨r, hr, hq⟩ := k
  exact ⟨r, Ev.step h hr, hq⟩

theorem Tells.now {α : Type} {Q : α → Prop} (r : α) (h : Q r) : Tells (fun _ => some r) Q := ⟨r, Ev.now r, h⟩

theorem Tells.bind {α β : Type} {g : Nat → Option α} {f : Nat → α → Option β} {P : α → Prop} {Q : β → Prop} (h : Tells g P) (k : ∀ a, P a → Tells (fun n => f n a) Q) : Tells (fun n => (g n).bind (f n)) Q := by
  obtain ⟨a, ha, hp⟩ := h
  obtain ⟨r, hr, hq⟩ := k a hp
  exact ⟨r, Ev.bind ha hr, hq⟩

theorem Tells.bindAt {α β : Type} {g : Option α} {a : α} {f : Nat → α → Option β} {Q : β → Prop} (h : g = some a) (k : Tells (fun n => f n a) Q) : Tells (fun n => g.bind (f n)) Q := by
  subst h
  exact k

theorem Tells.congr {α : Type} {g f : Nat → Option α} {Q : α → Prop} (h : ∀ k, g k = f k) (k : Tells f Q) : Tells g Q := by
  obtain ⟨r, hr, hq⟩ := k
  exact ⟨r, Ev.congr h hr, hq⟩

theorem Tells.mono {α : Type} {g : Nat → Option α} {P Q : α → Prop} (k : Tells g P) (h : ∀ a, P a → Q a) : Tells g Q := by
  obtain ⟨r, hr, hp⟩ := k
  exact ⟨r, hr, h r hp⟩

theorem Tells.yes {g : Nat → Option Bool} (k : Tells g (· = true)) : ∃ k, g k = some true := by
  obtain ⟨r, ⟨K, hK⟩, rfl⟩ := k
  exact ⟨K, hK K (Nat.le_refl _)⟩

theorem within_tells (v n : Int) (h : 1 ≤ n) (hn : n ≤ 1000000) : ∃ r, columbarykeep_Within.f v n = some r ∧ 0 ≤ r ∧ r < n := by
  have h1 : Int.tmod v n < n := Int.tmod_lt_of_pos v (by omega)
  have h2 : -n < Int.tmod v n := by
    have := Int.tmod_lt_of_pos (-v) (show 0 < n by omega)
    rw [Int.neg_tmod] at this
    omega
  unfold columbarykeep_Within.f
  rw [if_neg (by omega), if_neg (by omega)]
  by_cases c : Int.tmod v n < 0
  · rw [if_pos c]
    have e : wrap64 (Int.tmod v n + n) = Int.tmod v n + n := by unfold wrap64; omega
    exact ⟨_, rfl, by omega, by omega⟩
  · rw [if_neg c]
    exact ⟨_, rfl, by omega, by omega⟩

theorem rd_set (p : List Int) (j v i : Int) (hj0 : 0 ≤ j) (hj : j < (p.length : Int)) (hi0 : 0 ≤ i) : rd (p.set j.toNat v) i = if i = j then v else rd p i := by
  unfold rd
  rw [List.getD_eq_getElem?_getD, List.getElem?_set]
  by_cases h : i = j
  · subst h
    rw [if_pos rfl, if_pos rfl, if_pos (by omega)]
    rfl
  · rw [if_neg (by omega), if_neg h, ← List.getD_eq_getElem?_getD]

theorem rd_ext (p q : List Int) (hl : p.length = q.length) (h : ∀ i : Int, 0 ≤ i → i < (p.length : Int) → rd p i = rd q i) : p = q := by
  apply List.ext_getElem hl
  intro i h1 h2
  have := h (i : Int) (by omega) (by omega)
  simpa [rd, List.getD_eq_getElem?_getD, h1, h2] using this

/-- Classes, each told by its least thing. -/
def Rt (p : List Int) : Prop := ∀ i : Int, 0 ≤ i → i < (p.length : Int) → 0 ≤ rd p i ∧ rd p i ≤ i ∧ rd p (rd p i) = rd p i

theorem right_loop (p : List Int) (hp : Rt p) (hl : p.length ≤ 1000) (d : Nat) : ∀ i : Int, 0 ≤ i → (p.length : Int) - i = d → Tells (fun k => part_Right.l0 k p p (p.length : Int) i) (· = true) := by
  induction d with
  | zero =>
    intro i h0 hd
    refine Tells.step (f := fun _ => some true) (fun k => ?_) (Tells.now _ rfl)
    simp only [part_Right.l0]
    rw [if_neg (by omega)]
  | succ d ih =>
    intro i h0 hd
    have hlt : i < (p.length : Int) := by omega
    obtain ⟨a, b, c⟩ := hp i h0 hlt
    refine Tells.step (fun k => ?_) (ih (i + 1) (by omega) (by omega))
    simp only [part_Right.l0]
    rw [if_pos hlt, if_pos h0, if_pos hlt, if_neg (by omega), if_neg (by omega), if_pos a, if_pos (by omega), if_pos c, step_i h0 hlt (by omega)]

theorem right_tells (p : List Int) (hp : Rt p) (hl : p.length ≤ 1000) : Tells (fun k => part_Right.f k p) (· = true) := right_loop p hp hl p.length 0 (by omega) (by omega)

theorem rright_same : ∀ (k : Nat) (a b : List Int) (n i : Int), columbaryref17_RightPart.l0 k a b n i = part_Right.l0 k a b n i
  | 0, _, _, _, _ => rfl
  | k + 1, a, b, n, i => by simp only [columbaryref17_RightPart.l0, part_Right.l0, rright_same k]

theorem rright_tells (p : List Int) (hp : Rt p) (hl : p.length ≤ 1000) : Tells (fun k => columbaryref17_RightPart.f k p) (· = true) := Tells.congr (fun k => rright_same k p p _ 0) (right_tells p hp hl)

theorem rin_loop (p l : List Int) (hin : ∀ i : Int, 0 ≤ i → i < (l.length : Int) → 0 ≤ rd l i ∧ rd l i < (p.length : Int)) (hl : l.length ≤ 1000) (d : Nat) : ∀ i : Int, 0 ≤ i → (l.length : Int) - i = d → Tells (fun k => columbaryref17_inPart.l0 k p l (l.length : Int) i) (· = true) := by
  induction d with
  | zero =>
    intro i h0 hd
    refine Tells.step (f := fun _ => some true) (fun k => ?_) (Tells.now _ rfl)
    simp only [columbaryref17_inPart.l0]
    rw [if_neg (by omega)]
  | succ d ih =>
    intro i h0 hd
    have hlt : i < (l.length : Int) := by omega
    obtain ⟨a, b⟩ := hin i h0 hlt
    refine Tells.step (fun k => ?_) (ih (i + 1) (by omega) (by omega))
    simp only [columbaryref17_inPart.l0]
    rw [if_pos hlt, if_pos h0, if_pos hlt, if_neg (by omega), if_neg (by omega), step_i h0 hlt (by omega)]

/-- The class b's things become a's. -/
def joined (q : List Int) (a b : Int) : List Int := q.map fun v => if v = b then a else v

theorem joined_length (q : List Int) (a b : Int) : (joined q a b).length = q.length := List.length_map ..

theorem rd_joined (q : List Int) (a b i : Int) (h0 : 0 ≤ i) (h1 : i < (q.length : Int)) : rd (joined q a b) i = if rd q i = b then a else rd q i := by
  have h : i.toNat < q.length := by omega
  simp [rd, joined, List.getD_eq_getElem?_getD, h]

theorem joined_rt (q : List Int) (hq : Rt q) (a b x y : Int) (hx0 : 0 ≤ x) (hx : x < (q.length : Int)) (hy0 : 0 ≤ y) (hy : y < (q.length : Int)) (ha : a = rd q x ∨ a = rd q y) (hb : b = rd q x ∨ b = rd q y) (hab : a ≤ b) : Rt (joined q a b) := by
  have fx := hq x hx0 hx
  have fy := hq y hy0 hy
  have ha0 : 0 ≤ a ∧ rd q a = a ∧ a < (q.length : Int) := by
    rcases ha with rfl | rfl
    · exact ⟨fx.1, fx.2.2, by omega⟩
    · exact ⟨fy.1, fy.2.2, by omega⟩
  intro i h0 h1
  rw [joined_length] at h1
  obtain ⟨i0, i1, i2⟩ := hq i h0 h1
  rw [rd_joined q a b i h0 h1]
  by_cases c : rd q i = b
  · rw [if_pos c, rd_joined q a b a ha0.1 ha0.2.2, ha0.2.1]
    refine ⟨ha0.1, by omega, ?_⟩
    by_cases e : a = b
    · rw [if_pos e]
    · rw [if_neg e]
  · rw [if_neg c, rd_joined q a b _ i0 (by omega), i2, if_neg c]
    exact ⟨i0, i1, rfl⟩

theorem rjoin_l2 (p l : List Int) (q0 : List Int) (g : Bool) (x8 a b : Int) (hl : q0.length ≤ 1000) (next : Tells (fun k => columbaryref17_JoinPart.l0 k p l (joined q0 a b) g (wrap64 (x8 + 1))) (fun r => Rt r.1 ∧ r.1.length = q0.length)) (d : Nat) :
    ∀ (i : Int) (q : List Int), 0 ≤ i → (q0.length : Int) - i = d → q.length = q0.length → (∀ j : Int, 0 ≤ j → j < (q0.length : Int) → rd q j = if j < i then rd (joined q0 a b) j else rd q0 j) →
      Tells (fun k => columbaryref17_JoinPart.l2 k p l q g x8 a b (q0.length : Int) i) (fun r => Rt r.1 ∧ r.1.length = q0.length) := by
  induction d with
  | zero =>
    intro i q h0 hd hq he
    have e : q = joined q0 a b := rd_ext _ _ (by rw [hq, joined_length]) (fun j j0 j1 => by rw [he j j0 (by omega), if_pos (by omega)])
    subst e
    refine Tells.step (fun k => ?_) next
    simp only [columbaryref17_JoinPart.l2]
    rw [if_neg (by omega)]
  | succ d ih =>
    intro i q h0 hd hq he
    have hlt : i < (q0.length : Int) := by omega
    have hi := he i h0 hlt
    rw [if_neg (by omega)] at hi
    have hj := rd_joined q0 a b i h0 hlt
    by_cases c : rd q i = b
    · refine Tells.step (fun k => ?_) (ih (i + 1) (q.set i.toNat a) (by omega) (by omega) (by rw [List.length_set]; exact hq) (fun j j0 j1 => ?_))
      · simp only [columbaryref17_JoinPart.l2]
        rw [if_pos hlt, if_pos h0, if_pos (by omega), if_pos c, step_i h0 hlt (by omega)]
      · rw [rd_set q i a j h0 (by omega) j0]
        by_cases e : j = i
        · rw [if_pos e, if_pos (by omega), e, hj, if_pos (by omega)]
        · rw [if_neg e, he j j0 j1]
          by_cases e2 : j < i
          · rw [if_pos e2, if_pos (by omega)]
          · rw [if_neg e2, if_neg (by omega)]
    · refine Tells.step (fun k => ?_) (ih (i + 1) q (by omega) (by omega) hq (fun j j0 j1 => ?_))
      · simp only [columbaryref17_JoinPart.l2]
        rw [if_pos hlt, if_pos h0, if_pos (by omega), if_neg c, step_i h0 hlt (by omega)]
      · rw [he j j0 j1]
        by_cases e : j = i
        · rw [if_neg (by omega), if_pos (by omega), e, hj, if_neg (by omega)]
        · by_cases e2 : j < i
          · rw [if_pos e2, if_pos (by omega)]
          · rw [if_neg e2, if_neg (by omega)]

theorem rjoin_two (p : List Int) (hp : Rt p) (hl : p.length ≤ 1000) (x y : Int) (hx0 : 0 ≤ x) (hx : x < (p.length : Int)) (hy0 : 0 ≤ y) (hy : y < (p.length : Int)) : Tells (fun k => columbaryref17_JoinPart.f k p [x, y]) (fun r => Rt r.1 ∧ r.1.length = p.length) := by
  have end_ : ∀ a b g, Rt (joined p a b) → Tells (fun k => columbaryref17_JoinPart.l0 k p [x, y] (joined p a b) g (wrap64 (1 + 1))) (fun r => Rt r.1 ∧ r.1.length = p.length) := by
    intro a b g hr
    refine Tells.step (f := fun _ => some (joined p a b, g)) (fun k => ?_) (Tells.now _ ⟨hr, joined_length _ _ _⟩)
    simp only [columbaryref17_JoinPart.l0]
    rw [if_neg (by unfold wrap64; simp)]
  have mid : ∀ a b g, Rt (joined p a b) → Tells (fun k => columbaryref17_JoinPart.j3 k p [x, y] p g 1 a b) (fun r => Rt r.1 ∧ r.1.length = p.length) := by
    intro a b g hr
    refine Tells.step (fun k => ?_) (rjoin_l2 p [x, y] p g 1 a b hl (end_ a b g hr) p.length 0 p (by omega) (by omega) rfl (fun j j0 j1 => by rw [if_neg (by omega)]))
    simp only [columbaryref17_JoinPart.j3]
  have l1b : ∀ g, Tells (fun k => columbaryref17_JoinPart.l1 k p [x, y] p g 1 1) (fun r => Rt r.1 ∧ r.1.length = p.length) := by
    intro g
    have e0 : rd [x, y] 0 = x := rfl
    have e1 : rd [x, y] 1 = y := rfl
    by_cases c : rd p x > rd p y
    · refine Tells.step (fun k => ?_) (mid (rd p y) (rd p x) g (joined_rt p hp _ _ x y hx0 hx hy0 hy (.inr rfl) (.inl rfl) (by omega)))
      simp only [columbaryref17_JoinPart.l1, e0, e1]
      rw [if_neg (by omega), if_pos (by simp), if_pos hx0, if_pos hx, if_pos (by omega), if_pos (by simp), if_pos hy0, if_pos hy, if_pos c]
    · refine Tells.step (fun k => ?_) (mid (rd p x) (rd p y) g (joined_rt p hp _ _ x y hx0 hx hy0 hy (.inl rfl) (.inr rfl) (by omega)))
      simp only [columbaryref17_JoinPart.l1, e0, e1]
      rw [if_neg (by omega), if_pos (by simp), if_pos hx0, if_pos hx, if_pos (by omega), if_pos (by simp), if_pos hy0, if_pos hy, if_neg c]
  have w1 : wrap64 (0 + 1) = 1 := by unfold wrap64; omega
  have l0a : Tells (fun k => columbaryref17_JoinPart.l0 k p [x, y] p true 1) (fun r => Rt r.1 ∧ r.1.length = p.length) := by
    refine Tells.step (f := fun k => columbaryref17_JoinPart.l1 k p [x, y] p true 1 0) (fun k => ?_) (Tells.step (fun k => ?_) (l1b (rd p y != rd p x)))
    · simp only [columbaryref17_JoinPart.l0]
      rw [if_pos (by simp)]
    · have e0 : rd [x, y] 0 = x := rfl
      have e1 : rd [x, y] 1 = y := rfl
      simp only [columbaryref17_JoinPart.l1, e0, e1]
      rw [if_pos (by omega), if_pos trivial, if_pos (by omega), if_pos (by simp), if_pos hy0, if_pos hy, if_pos (by omega), if_pos (by simp), if_pos hx0, if_pos hx, w1]
  unfold columbaryref17_JoinPart.f
  refine Tells.bind (rright_tells p hp hl) (fun t ht => ?_)
  subst ht
  simp only [if_true]
  refine Tells.bind (rin_loop p [x, y] (fun i i0 i1 => ?_) (by simp) 2 0 (by omega) (by simp)) (fun t ht => ?_)
  · have : i = 0 ∨ i = 1 := by simp at i1; omega
    rcases this with rfl | rfl
    · exact ⟨hx0, hx⟩
    · exact ⟨hy0, hy⟩
  · subst ht
    refine Tells.step (fun k => ?_) l0a
    simp only [columbaryref17_JoinPart.j0]
    rw [if_neg (by simp), if_pos (by simp only [List.length_nil]; omega), List.nil_append]

theorem rnew_loop (n : Int) (hn : n ≤ 1000) (d : Nat) : ∀ (i : Int) (acc : List Int), 0 ≤ i → n - i = d → (acc.length : Int) = i → (∀ j : Int, 0 ≤ j → j < i → rd acc j = j) → Tells (fun k => columbaryref17_NewPart.l0 k n acc i) (fun p => (p.length : Int) = n ∧ ∀ j : Int, 0 ≤ j → j < n → rd p j = j) := by
  induction d with
  | zero =>
    intro i acc h0 hd ha he
    refine Tells.step (f := fun _ => some acc) (fun k => ?_) (Tells.now _ ⟨by omega, fun j j0 j1 => he j j0 (by omega)⟩)
    simp only [columbaryref17_NewPart.l0]
    rw [if_neg (by omega)]
  | succ d ih =>
    intro i acc h0 hd ha he
    refine Tells.step (fun k => ?_) (ih (i + 1) (acc ++ [i]) (by omega) (by omega) (by rw [List.length_append]; simp; omega) (fun j j0 j1 => ?_))
    · simp only [columbaryref17_NewPart.l0]
      rw [if_pos (by omega), if_pos (by omega), wrap_id (by omega) (by omega)]
    · by_cases e : j = i
      · subst e
        unfold rd
        rw [List.getD_eq_getElem?_getD, List.getElem?_append_right (by omega), show j.toNat - acc.length = 0 by omega]
        rfl
      · have := he j j0 (by omega)
        unfold rd at this ⊢
        rw [List.getD_eq_getElem?_getD, List.getElem?_append_left (by omega), ← List.getD_eq_getElem?_getD]
        exact this

theorem rnew_tells (n : Int) (h0 : 0 ≤ n) (hn : n ≤ 1000) : Tells (fun k => columbaryref17_NewPart.f k n) (fun p => (p.length : Int) = n ∧ Rt p) := by
  unfold columbaryref17_NewPart.f
  simp only [if_neg (show ¬ n < 0 by omega), decide_eq_false (show ¬ n > 1000 by omega)]
  refine Tells.mono (P := fun p => (p.length : Int) = n ∧ ∀ j : Int, 0 ≤ j → j < n → rd p j = j) (Tells.step (fun k => ?_) (rnew_loop n hn n.toNat 0 [] (by omega) (by omega) (by simp) (fun j j0 j1 => by omega))) (fun p hp => ⟨hp.1, fun i i0 i1 => ?_⟩)
  · simp only [columbaryref17_NewPart.j0]
    rw [if_neg (by simp)]
  · rw [hp.2 i i0 (by omega), hp.2 i i0 (by omega)]
    omega

theorem made_loop (l : List Int) (hl : l.length ≤ 9223372036854775807) (d : Nat) : ∀ (i : Int) (p : List Int), 0 ≤ i → i ≤ 14 → 14 - i ≤ 2 * d → Rt p → p.length ≤ 8 → Tells (fun k => columbarylaw22_made.l0 k l p i) (fun q => Rt q ∧ q.length ≤ 8) := by
  have stop : ∀ (i : Int) (p : List Int), Rt p → p.length ≤ 8 → Tells (fun k => columbarylaw22_made.j1 k l p i false) (fun q => Rt q ∧ q.length ≤ 8) := by
    intro i p hp hl8
    refine Tells.step (f := fun _ => some p) (fun k => ?_) (Tells.now _ ⟨hp, hl8⟩)
    simp only [columbarylaw22_made.j1]
    rw [if_neg (by simp)]
  induction d with
  | zero =>
    intro i p h0 h1 hd hp hl8
    refine Tells.step (f := fun k => columbarylaw22_made.j1 k l p i false) (fun k => ?_) (stop i p hp hl8)
    simp only [columbarylaw22_made.l0, decide_eq_false (show ¬ i < 12 by omega)]
    split
    · split <;> rfl
    · rfl
  | succ d ih =>
    intro i p h0 h1 hd hp hl8
    by_cases c : wrap64 (i + 1) < (l.length : Int) ∧ (p.length : Int) > 0 ∧ i < 12
    · have e : wrap64 (i + 1) = i + 1 := wrap_id (by omega) (by omega)
      have hlt : i + 1 < (l.length : Int) := by rw [← e]; exact c.1
      obtain ⟨x, hx, x0, x1⟩ := within_tells (rd l i) (p.length : Int) (by omega) (by omega)
      obtain ⟨y, hy, y0, y1⟩ := within_tells (rd l (i + 1)) (p.length : Int) (by omega) (by omega)
      refine Tells.step (f := fun k => columbarylaw22_made.j1 k l p i true) (fun k => ?_) (Tells.step (f := fun k => (columbaryref17_JoinPart.f k p [x, y]).bind fun b => columbarylaw22_made.l0 k l b.1 (i + 2)) (fun k => ?_) (Tells.bind (rjoin_two p hp (by omega) x y x0 x1 y0 y1) (fun b hb => ih (i + 2) b.1 (by omega) (by omega) (by omega) hb.1 (by omega))))
      · simp only [columbarylaw22_made.l0]
        rw [if_pos c.1, if_pos c.2.1, decide_eq_true c.2.2]
      · simp only [columbarylaw22_made.j1]
        have h6 : i < (l.length : Int) := by omega
        rw [if_pos trivial, if_pos h0, if_pos h6, hx]
        simp only [Option.bind_some]
        rw [e, if_pos (by omega), if_pos hlt, hy]
        simp only [Option.bind_some]
        rw [show wrap64 (i + 2) = i + 2 from wrap_id (by omega) (by omega)]
    · refine Tells.step (f := fun k => columbarylaw22_made.j1 k l p i false) (fun k => ?_) (stop i p hp hl8)
      simp only [columbarylaw22_made.l0]
      by_cases c1 : wrap64 (i + 1) < (l.length : Int)
      · by_cases c2 : (p.length : Int) > 0
        · rw [if_pos c1, if_pos c2, decide_eq_false (fun h => c ⟨c1, c2, h⟩)]
        · rw [if_pos c1, if_neg c2]
      · rw [if_neg c1]

theorem made_tells (n : Int) (l : List Int) (hl : l.length ≤ 9223372036854775807) : Tells (fun k => columbarylaw22_made.f k n l) (fun q => Rt q ∧ q.length ≤ 8) := by
  obtain ⟨t, ht, t0, t1⟩ := within_tells n 9 (by omega) (by omega)
  unfold columbarylaw22_made.f
  refine Tells.bindAt ht ?_
  refine Tells.bind (rnew_tells t t0 (by omega)) (fun p hp => ?_)
  exact made_loop l hl 7 0 p (by omega) (by omega) (by omega) hp.2 (by omega)

theorem clone_int (l : List Int) (h : l.length ≤ 1000) : slices_Clone_int_int.f l = some l := by
  unfold slices_Clone_int_int.f
  simp only [Option.bind_some, List.length_nil, List.nil_append]
  rw [if_pos (by omega)]

theorem there_yes (p l : List Int) (h : ∀ x ∈ l, 0 ≤ x ∧ x < (p.length : Int)) : part_there.f p l = some true := by
  unfold part_there.f
  have : l.any (off p.length) = false := by
    rw [List.any_eq_false]
    intro x hx
    have := h x hx
    simp [off]
    omega
  rw [this]
  rfl

/-- The first thing of a number like i's. -/
def Fst (q : List Int) (i r : Int) : Prop := 0 ≤ r ∧ r ≤ i ∧ rd q r = rd q i ∧ ∀ j : Int, 0 ≤ j → j < r → rd q j ≠ rd q i

theorem index_loop (q : List Int) (hl : q.length ≤ 1000) (i : Int) (hi : i < (q.length : Int)) (d : Nat) : ∀ j : Int, 0 ≤ j → j ≤ i → i - j = d → (∀ m : Int, 0 ≤ m → m < j → rd q m ≠ rd q i) → Tells (fun k => slices_Index_int_int.l0 k q (rd q i) (q.length : Int) j) (fun r => Fst q i r) := by
  induction d with
  | zero =>
    intro j h0 h1 hd hn
    obtain rfl : j = i := by omega
    refine Tells.step (f := fun _ => some j) (fun k => ?_) (Tells.now _ ⟨h0, h1, rfl, hn⟩)
    simp only [slices_Index_int_int.l0]
    rw [if_pos hi, if_pos h0, if_pos hi, if_pos trivial]
  | succ d ih =>
    intro j h0 h1 hd hn
    have hlt : j < (q.length : Int) := by omega
    by_cases c : rd q i = rd q j
    · refine Tells.step (f := fun _ => some j) (fun k => ?_) (Tells.now _ ⟨h0, h1, c.symm, hn⟩)
      simp only [slices_Index_int_int.l0]
      rw [if_pos hlt, if_pos h0, if_pos hlt, if_pos c]
    · refine Tells.step (fun k => ?_) (ih (j + 1) (by omega) (by omega) (by omega) (fun m m0 m1 => ?_))
      · simp only [slices_Index_int_int.l0]
        rw [if_pos hlt, if_pos h0, if_pos hlt, if_neg c, step_i h0 hlt (by omega)]
      · by_cases e : m = j
        · subst e; exact fun h => c h.symm
        · exact hn m m0 (by omega)

theorem index_tells (q : List Int) (hl : q.length ≤ 1000) (i : Int) (h0 : 0 ≤ i) (hi : i < (q.length : Int)) : Tells (fun k => slices_Index_int_int.f k q (rd q i)) (fun r => Fst q i r) :=
  index_loop q hl i hi i.toNat 0 (by omega) (by omega) (by omega) (fun m m0 m1 => by omega)

theorem lowest_loop (q : List Int) (hl : q.length ≤ 1000) (d : Nat) : ∀ (i : Int) (o : List Int), 0 ≤ i → (q.length : Int) - i = d → o.length = q.length → (∀ j : Int, 0 ≤ j → j < i → Fst q j (rd o j)) →
    Tells (fun k => part_lowest.l0 k q o q (q.length : Int) i) (fun o => o.length = q.length ∧ ∀ j : Int, 0 ≤ j → j < (q.length : Int) → Fst q j (rd o j)) := by
  induction d with
  | zero =>
    intro i o h0 hd ho hf
    refine Tells.step (f := fun _ => some o) (fun k => ?_) (Tells.now _ ⟨ho, fun j j0 j1 => hf j j0 (by omega)⟩)
    simp only [part_lowest.l0]
    rw [if_neg (by omega)]
  | succ d ih =>
    intro i o h0 hd ho hf
    have hlt : i < (q.length : Int) := by omega
    refine Tells.step (f := fun k => (slices_Index_int_int.f k q (rd q i)).bind fun t => part_lowest.l0 k q (o.set i.toNat t) q (q.length : Int) (i + 1)) (fun k => ?_) (Tells.bind (index_tells q hl i h0 hlt) (fun t ht => ih (i + 1) _ (by omega) (by omega) (by rw [List.length_set]; exact ho) (fun j j0 j1 => ?_)))
    · have hc : i < (o.length : Int) := by omega
      simp only [part_lowest.l0]
      rw [if_pos hlt, if_pos h0, if_pos hlt]
      simp only [if_pos hc, step_i h0 hlt (show q.length ≤ 9223372036854775807 by omega)]
    · rw [rd_set o i t j h0 (by omega) j0]
      by_cases e : j = i
      · rw [if_pos e, e]; exact ht
      · rw [if_neg e]; exact hf j j0 (by omega)

theorem lowest_tells (q : List Int) (hl : q.length ≤ 1000) : Tells (fun k => part_lowest.f k q) (fun o => o.length = q.length ∧ ∀ j : Int, 0 ≤ j → j < (q.length : Int) → Fst q j (rd o j)) := by
  unfold part_lowest.f
  simp only [if_pos (show (0 : Int) ≤ (q.length : Int) by omega), if_pos (show ((q.length : Int) : Int).toNat ≤ 35184372088832 by omega)]
  exact lowest_loop q hl q.length 0 _ (by omega) (by omega) (by rw [List.length_replicate]; omega) (fun j j0 j1 => by omega)

theorem fst_same (q : List Int) (i k a b : Int) (ha : Fst q i a) (hb : Fst q k b) : (a == b) = decide (rd q i = rd q k) := by
  by_cases c : rd q i = rd q k
  · rw [decide_eq_true c, beq_iff_eq]
    by_cases h1 : a < b
    · exact absurd (ha.2.2.1.trans c) (hb.2.2.2 a ha.1 h1)
    · by_cases h2 : b < a
      · exact absurd (hb.2.2.1.trans c.symm) (ha.2.2.2 b hb.1 h2)
      · omega
  · rw [decide_eq_false c, beq_eq_false_iff_ne]
    rintro rfl
    exact c (ha.2.2.1.symm.trans hb.2.2.1)

theorem fst_rt (q o : List Int) (ho : o.length = q.length) (h : ∀ j : Int, 0 ≤ j → j < (q.length : Int) → Fst q j (rd o j)) : Rt o := by
  intro i h0 h1
  have f := h i h0 (by omega)
  have g := h (rd o i) f.1 (by have := f.2.1; omega)
  refine ⟨f.1, f.2.1, ?_⟩
  have e := fst_same q i (rd o i) _ _ f g
  rw [decide_eq_true f.2.2.1.symm, beq_iff_eq] at e
  exact e.symm

theorem wakes_tells : Tells (fun k => columbarylaw22_wakes.f k) (· = true) := ⟨true, Ev.of columbarylaw22_wakes.mono (k := 40) (by decide +kernel), rfl⟩

/-- Things that rise, each once, all there. -/
def Rises (l : List Int) (n : Int) : Prop := (∀ j : Int, 0 ≤ j → j < (l.length : Int) → 0 ≤ rd l j ∧ rd l j < n) ∧ ∀ j : Int, 0 < j → j < (l.length : Int) → rd l (j - 1) < rd l j

theorem rd_append (l : List Int) (v j : Int) (j0 : 0 ≤ j) (j1 : j ≤ (l.length : Int)) : rd (l ++ [v]) j = if j = (l.length : Int) then v else rd l j := by
  unfold rd
  by_cases e : j = (l.length : Int)
  · rw [if_pos e, List.getD_eq_getElem?_getD, List.getElem?_append_right (by omega), show j.toNat - l.length = 0 by omega]
    rfl
  · rw [if_neg e, List.getD_eq_getElem?_getD, List.getElem?_append_left (by omega), ← List.getD_eq_getElem?_getD]

theorem mem_rd (l : List Int) (x : Int) (h : x ∈ l) : ∃ j : Int, 0 ≤ j ∧ j < (l.length : Int) ∧ rd l j = x := by
  obtain ⟨i, hi, e⟩ := List.mem_iff_getElem.1 h
  exact ⟨(i : Int), by omega, by omega, by simp [rd, List.getD_eq_getElem?_getD, hi, e]⟩

theorem keep_loop (p l : List Int) (hr : Rises l (p.length : Int)) (hl : l.length ≤ 1000) (d : Nat) : ∀ (i : Int) (o : List Int), 0 ≤ i → (l.length : Int) - i = d → (o.length : Int) = i → (∀ j : Int, 0 ≤ j → j < i → rd o j = rd p (rd l j)) →
    Tells (fun k => part_Keep.l0 k p l o l (l.length : Int) i) (fun r => ∃ q : List Int, q.length = l.length ∧ (∀ j : Int, 0 ≤ j → j < (l.length : Int) → rd q j = rd p (rd l j)) ∧ r.length = l.length ∧ ∀ j : Int, 0 ≤ j → j < (l.length : Int) → Fst q j (rd r j)) := by
  induction d with
  | zero =>
    intro i o h0 hd ho he
    have hol : o.length = l.length := by omega
    refine Tells.step (f := fun k => (part_lowest.f k o).bind fun t => some t) (fun k => ?_) (Tells.bind (lowest_tells o (by omega)) (fun r h => Tells.now r ⟨o, hol, fun j j0 j1 => he j j0 (by omega), by rw [h.1, hol], fun j j0 j1 => h.2 j j0 (by omega)⟩))
    simp only [part_Keep.l0]
    rw [if_neg (by omega)]
  | succ d ih =>
    intro i o h0 hd ho he
    have hlt : i < (l.length : Int) := by omega
    obtain ⟨a, b⟩ := hr.1 i h0 hlt
    have next := ih (i + 1) (o ++ [rd p (rd l i)]) (by omega) (by omega) (by rw [List.length_append]; simp; omega) (fun j j0 j1 => by
      rw [rd_append o _ j j0 (by omega)]
      by_cases e : j = (o.length : Int)
      · rw [if_pos e, show j = i by omega]
      · rw [if_neg e, he j j0 (by omega)])
    refine Tells.step (fun k => ?_) next
    simp only [part_Keep.l0]
    rw [if_pos hlt, if_pos h0, if_pos hlt]
    by_cases c : i > 0
    · have e : wrap64 (i - 1) = i - 1 := wrap_id (by omega) (by omega)
      rw [if_pos c, e, if_pos (by omega), if_pos (by omega), if_neg (by have := hr.2 i c hlt; omega), if_pos a, if_pos b, if_pos (by omega), step_i h0 hlt (by omega)]
    · rw [if_neg c, if_pos a, if_pos b, if_pos (by omega), step_i h0 hlt (by omega)]

theorem keep_tells (p : List Int) (hp : Rt p) (hpl : p.length ≤ 1000) (l : List Int) (hr : Rises l (p.length : Int)) (hl : l.length ≤ 1000) :
    Tells (fun k => part_Keep.f k p l) (fun r => ∃ q : List Int, q.length = l.length ∧ (∀ j : Int, 0 ≤ j → j < (l.length : Int) → rd q j = rd p (rd l j)) ∧ r.length = l.length ∧ ∀ j : Int, 0 ≤ j → j < (l.length : Int) → Fst q j (rd r j)) := by
  unfold part_Keep.f
  refine Tells.bind (right_tells p hp hpl) (fun t ht => ?_)
  subst ht
  simp only [if_true]
  refine Tells.bindAt (there_yes p l (fun x hx => by
    obtain ⟨j, j0, j1, rfl⟩ := mem_rd l x hx
    exact hr.1 j j0 j1)) ?_
  refine Tells.step (fun k => ?_) (keep_loop p l hr hl l.length 0 [] (by omega) (by omega) (by simp) (fun j j0 j1 => by omega))
  simp only [part_Keep.j0]
  rw [if_neg (by simp)]

theorem new_loop (n : Int) (d : Nat) : ∀ (i : Int) (o : List Int), 0 ≤ i → (o.length : Int) = n → n ≤ 1000 → n - i = d → (∀ j : Int, 0 ≤ j → j < i → rd o j = j) → Tells (fun k => part_New.l0 k o n i) (fun o => (o.length : Int) = n ∧ ∀ j : Int, 0 ≤ j → j < n → rd o j = j) := by
  induction d with
  | zero =>
    intro i o h0 ho hn hd he
    refine Tells.step (f := fun _ => some o) (fun k => ?_) (Tells.now _ ⟨ho, fun j j0 j1 => he j j0 (by omega)⟩)
    simp only [part_New.l0]
    rw [if_neg (by omega)]
  | succ d ih =>
    intro i o h0 ho hn hd he
    refine Tells.step (fun k => ?_) (ih (i + 1) (o.set i.toNat i) (by omega) (by rw [List.length_set]; exact ho) hn (by omega) (fun j j0 j1 => by
      rw [rd_set o i i j h0 (by omega) j0]
      by_cases e : j = i
      · rw [if_pos e, e]
      · rw [if_neg e]; exact he j j0 (by omega)))
    simp only [part_New.l0]
    rw [if_pos (by omega), if_pos h0, if_pos (by omega), wrap_id (by omega) (by omega)]

theorem new_tells (n : Int) (h0 : 0 ≤ n) (hn : n ≤ 1000) : Tells (fun k => part_New.f k n) (fun o => (o.length : Int) = n ∧ ∀ j : Int, 0 ≤ j → j < n → rd o j = j) := by
  unfold part_New.f
  simp only [if_neg (show ¬ n < 0 by omega), decide_eq_false (show ¬ n > 1000 by omega)]
  have e : ((List.replicate n.toNat (0 : Int)).length : Int) = n := by rw [List.length_replicate]; omega
  refine Tells.step (f := fun k => part_New.l0 k (List.replicate n.toNat 0) n 0) (fun k => ?_) (new_loop n n.toNat 0 _ (by omega) e hn (by omega) (fun j j0 j1 => by omega))
  simp only [part_New.j0]
  rw [if_neg (by simp), if_pos h0, if_pos (by omega)]
  simp only [Option.bind_some]
  rw [e]

theorem same_loop (l : List Int) (hl : l.length ≤ 1000) (d : Nat) : ∀ i : Int, 0 ≤ i → (l.length : Int) - i = d → Tells (fun k => columbarykeep_Same_int.l0 k l l i) (· = true) := by
  induction d with
  | zero =>
    intro i h0 hd
    refine Tells.step (f := fun _ => some true) (fun k => ?_) (Tells.now _ rfl)
    simp only [columbarykeep_Same_int.l0]
    rw [if_neg (by omega)]
  | succ d ih =>
    intro i h0 hd
    have hlt : i < (l.length : Int) := by omega
    refine Tells.step (fun k => ?_) (ih (i + 1) (by omega) (by omega))
    simp only [columbarykeep_Same_int.l0]
    rw [if_pos hlt, if_pos h0, if_pos hlt, if_pos trivial, step_i h0 hlt (by omega)]

theorem same_tells (l : List Int) (hl : l.length ≤ 1000) : Tells (fun k => columbarykeep_Same_int.f k l l) (· = true) := by
  unfold columbarykeep_Same_int.f
  simp only [if_true]
  exact same_loop l hl l.length 0 (by omega) (by omega)

/-- Of right classes each is told its least thing already. -/
theorem fst_is (p : List Int) (hp : Rt p) (j r : Int) (j0 : 0 ≤ j) (j1 : j < (p.length : Int)) (h : Fst p j r) : r = rd p j := by
  obtain ⟨a, b, c⟩ := hp j j0 j1
  obtain ⟨r0, r1, r2, r3⟩ := h
  have d := (hp r r0 (by omega)).2.1
  by_cases e : rd p j < r
  · exact absurd c (r3 _ a e)
  · omega

theorem falls_tells (p : List Int) (hp : Rt p) (hpl : p.length ≤ 1000) : Tells (fun k => part_Keep.f k p [1, 0]) (fun r => r.length = 0) := by
  have e0 : rd [1, 0] 0 = 1 := rfl
  have e1 : rd [1, 0] 1 = 0 := rfl
  unfold part_Keep.f
  refine Tells.bind (right_tells p hp hpl) (fun t ht => ?_)
  subst ht
  simp only [if_true]
  by_cases c : 2 ≤ p.length
  · refine Tells.bindAt (there_yes p [1, 0] (fun x hx => by simp at hx; omega)) ?_
    refine Tells.step (f := fun k => part_Keep.l0 k p [1, 0] [] [1, 0] 2 0) (fun k => ?_) (Tells.step (f := fun k => part_Keep.l0 k p [1, 0] [rd p 1] [1, 0] 2 1) (fun k => ?_) (Tells.step (f := fun _ => some []) (fun k => ?_) (Tells.now _ rfl)))
    · simp only [part_Keep.j0]
      rw [if_neg (by simp)]
      rfl
    · simp only [part_Keep.l0, e0]
      rw [if_pos (by omega), if_pos (by omega), if_pos (by simp), if_neg (by omega), if_pos (by omega), if_pos (by omega), if_pos (by simp), show wrap64 (0 + 1) = 1 from by unfold wrap64; omega]
      rfl
    · have w0 : wrap64 (1 - 1) = 0 := by unfold wrap64; omega
      simp only [part_Keep.l0, e1, w0, e0]
      rw [if_pos (by omega), if_pos (by omega), if_pos (by simp), if_pos (by omega), if_pos (by omega), if_pos (by simp), if_pos (by omega)]
  · have h : part_there.f p [1, 0] = some false := by
      unfold part_there.f
      have : [(1 : Int), 0].any (off p.length) = true := by
        simp [off]
        omega
      rw [this]
      rfl
    refine Tells.bindAt h ?_
    refine Tells.step (f := fun _ => some []) (fun k => ?_) (Tells.now _ rfl)
    simp only [part_Keep.j0]
    rw [if_pos (by simp)]

theorem checks_inner (p l r : List Int) (hl : l.length ≤ 1000) (hr : r.length = l.length) (hin : ∀ j : Int, 0 ≤ j → j < (l.length : Int) → 0 ≤ rd l j ∧ rd l j < (p.length : Int)) (i : Int) (i0 : 0 ≤ i) (i1 : i < (l.length : Int))
    (he : ∀ k : Int, 0 ≤ k → k < (l.length : Int) → (rd r i == rd r k) = (rd p (rd l i) == rd p (rd l k)))
    (next : Tells (fun k => columbarylaw22_PartKeep.l1 k p l r (l.length : Int) (wrap64 (i + 1))) (· = true)) (d : Nat) : ∀ k : Int, 0 ≤ k → (l.length : Int) - k = d → Tells (fun n => columbarylaw22_PartKeep.l2 n p l r i (l.length : Int) i (l.length : Int) k) (· = true) := by
  induction d with
  | zero =>
    intro k h0 hd
    refine Tells.step (fun n => ?_) next
    simp only [columbarylaw22_PartKeep.l2]
    rw [if_neg (by omega)]
  | succ d ih =>
    intro k h0 hd
    have hlt : k < (l.length : Int) := by omega
    obtain ⟨a, b⟩ := hin i i0 i1
    obtain ⟨a2, b2⟩ := hin k h0 hlt
    refine Tells.step (fun n => ?_) (ih (k + 1) (by omega) (by omega))
    simp only [columbarylaw22_PartKeep.l2]
    rw [if_pos hlt, if_pos i0, if_pos (by omega), if_pos h0, if_pos (by omega), if_pos i1, if_pos a, if_pos b, if_pos hlt, if_pos a2, if_pos b2, he k h0 hlt, if_neg (by simp), step_i h0 hlt (by omega)]

theorem checks_outer (p : List Int) (hp : Rt p) (hpl : p.length ≤ 1000) (l r : List Int) (hl : l.length ≤ 1000) (hr : r.length = l.length) (hin : ∀ j : Int, 0 ≤ j → j < (l.length : Int) → 0 ≤ rd l j ∧ rd l j < (p.length : Int))
    (he : ∀ i k : Int, 0 ≤ i → i < (l.length : Int) → 0 ≤ k → k < (l.length : Int) → (rd r i == rd r k) = (rd p (rd l i) == rd p (rd l k))) (d : Nat) :
    ∀ i : Int, 0 ≤ i → (l.length : Int) - i = d → Tells (fun n => columbarylaw22_PartKeep.l1 n p l r (l.length : Int) i) (· = true) := by
  induction d with
  | zero =>
    intro i h0 hd
    refine Tells.step (f := fun k => (part_Keep.f k p [1, 0]).bind fun t => if (t.length : Int) = 0 then ((columbarylaw22_wakes.f k).bind fun t => some t) else some false) (fun n => ?_) (Tells.bind (falls_tells p hp hpl) (fun t ht => ?_))
    · simp only [columbarylaw22_PartKeep.l1]
      rw [if_neg (by omega)]
    · simp only [if_pos (show (t.length : Int) = 0 by omega)]
      exact Tells.bind wakes_tells (fun t ht => Tells.now t ht)
  | succ d ih =>
    intro i h0 hd
    have hlt : i < (l.length : Int) := by omega
    refine Tells.step (fun n => ?_) (checks_inner p l r hl hr hin i h0 hlt (fun k k0 k1 => he i k h0 hlt k0 k1) (by rw [step_i h0 hlt (by omega)]; exact ih (i + 1) (by omega) (by omega)) l.length 0 (by omega) (by omega))
    simp only [columbarylaw22_PartKeep.l1]
    rw [if_pos hlt]

theorem wrapu_pos (x : Int) : 0 ≤ IntKind.u64.wrap x := by
  simp only [IntKind.wrap]
  exact Int.emod_nonneg _ (by decide)

theorem masked_loop (x : Int) (p : List Int) (hp : Rt p) (hpl : p.length ≤ 8) (d : Nat) : ∀ (i : Int) (l : List Int), 0 ≤ i → (p.length : Int) - i = d → (l.length : Int) ≤ i → Rises l i → Tells (fun n => columbarylaw22_PartKeep.l0 n x p l (p.length : Int) i) (· = true) := by
  induction d with
  | zero =>
    intro i l h0 hd hl hr
    have hr' : Rises l (p.length : Int) := by rw [show (p.length : Int) = i by omega]; exact hr
    refine Tells.step (f := fun k => (part_Keep.f k p l).bind fun t => if (t.length : Int) = (l.length : Int) then ((part_Right.f k t).bind fun u => (if u = true then ((part_New.f k (p.length : Int)).bind fun n => ((part_Keep.f k p n).bind fun s => ((columbarykeep_Same_int.f k s p).bind fun b => (columbarylaw22_PartKeep.j1 k p l t (!b))))) else (columbarylaw22_PartKeep.j1 k p l t true))) else (columbarylaw22_PartKeep.j1 k p l t true)) (fun n => ?_) (Tells.bind (keep_tells p hp (by omega) l hr' (by omega)) (fun t ht => ?_))
    · simp only [columbarylaw22_PartKeep.l0]
      rw [if_neg (by omega)]
    · obtain ⟨q, hq, hqe, htl, htf⟩ := ht
      simp only [if_pos (show (t.length : Int) = (l.length : Int) by omega)]
      refine Tells.bind (right_tells t (fst_rt q t (by omega) (fun j j0 j1 => htf j j0 (by omega))) (by omega)) (fun u hu => ?_)
      subst hu
      simp only [if_true]
      refine Tells.bind (new_tells (p.length : Int) (by omega) (by omega)) (fun n hn => ?_)
      refine Tells.bind (keep_tells p hp (by omega) n ⟨fun j j0 j1 => by rw [hn.2 j j0 (by omega)]; omega, fun j j0 j1 => by rw [hn.2 j (by omega) (by omega), hn.2 (j - 1) (by omega) (by omega)]; omega⟩ (by omega)) (fun s hs => ?_)
      obtain ⟨q2, hq2, hq2e, hsl, hsf⟩ := hs
      have e1 : q2 = p := rd_ext _ _ (by omega) (fun j j0 j1 => by rw [hq2e j j0 (by omega), hn.2 j j0 (by omega)])
      subst e1
      have e2 : s = q2 := rd_ext _ _ (by omega) (fun j j0 j1 => fst_is q2 hp j _ j0 (by omega) (hsf j j0 (by omega)))
      subst e2
      refine Tells.bind (same_tells s (by omega)) (fun b hb => ?_)
      subst hb
      refine Tells.step (fun k => ?_) (checks_outer s hp (by omega) l t (by omega) htl hr'.1 (fun i k i0 i1 k0 k1 => ?_) l.length 0 (by omega) (by omega))
      · simp only [columbarylaw22_PartKeep.j1]
        rw [if_neg (by simp)]
      · rw [fst_same q i k _ _ (htf i i0 i1) (htf k k0 k1), hqe i i0 i1, hqe k k0 k1]
        rfl
  | succ d ih =>
    intro i l h0 hd hl hr
    have hlt : i < (p.length : Int) := by omega
    have wi : wrap64 (i + 1) = i + 1 := wrap_id (by omega) (by omega)
    by_cases c : (Go.bits .and .u64 (shr .u64 x (IntKind.u64.wrap (i))) 1) = 1
    · refine Tells.step (fun n => ?_) (ih (i + 1) (l ++ [i]) (by omega) (by omega) (by rw [List.length_append]; simp; omega) ⟨fun j j0 j1 => ?_, fun j j0 j1 => ?_⟩)
      · simp only [columbarylaw22_PartKeep.l0]
        rw [if_pos hlt, if_pos (wrapu_pos i), if_pos c, if_pos (by omega), wi]
      · rw [List.length_append] at j1
        simp at j1
        rw [rd_append l i j j0 (by omega)]
        by_cases e : j = (l.length : Int)
        · rw [if_pos e]; omega
        · rw [if_neg e]
          have := hr.1 j j0 (by omega)
          omega
      · rw [List.length_append] at j1
        simp at j1
        rw [rd_append l i j (by omega) (by omega), rd_append l i (j - 1) (by omega) (by omega), if_neg (by omega)]
        by_cases e : j = (l.length : Int)
        · rw [if_pos e]
          exact (hr.1 (j - 1) (by omega) (by omega)).2
        · rw [if_neg e]
          exact hr.2 j j0 (by omega)
    · refine Tells.step (fun n => ?_) (ih (i + 1) l (by omega) (by omega) (by omega) ⟨fun j j0 j1 => ?_, hr.2⟩)
      · simp only [columbarylaw22_PartKeep.l0]
        rw [if_pos hlt, if_pos (wrapu_pos i), if_neg c, wi]
      · have := hr.1 j j0 j1
        omega

theorem PartKeep (n : Int) (l : List Int) (x : Int) (_ : (Lit.int .i64 n).wf = true) (hl : l.length ≤ 9223372036854775807 ∧ ∀ v ∈ l, (Lit.int .i64 v).wf = true) (_ : (Lit.int .u64 x).wf = true) : ∃ k, columbarylaw22_PartKeep.f k n l x = some true := by
  refine Tells.yes ?_
  unfold columbarylaw22_PartKeep.f
  refine Tells.bind (made_tells n l hl.1) (fun p hp => ?_)
  exact masked_loop x p hp.1 hp.2 p.length 0 [] (by omega) (by omega) (by simp) ⟨fun j j0 j1 => by simp at j1; omega, fun j j0 j1 => by simp at j1; omega⟩

end Go.Proofs.Ytilkokbmabbpgaa.Pure
