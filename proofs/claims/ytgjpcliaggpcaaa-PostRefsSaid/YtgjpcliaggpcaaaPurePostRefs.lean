/- PostRefs as a statement over numbers and lists: of any actors' values, any messages', as many are a mailbox as the document says. For all lists and numbers. -/
import Derived.Test.YtgjpcliaggpcaaaPPostRefsx5
namespace Go.Proofs.Ytgjpcliaggpcaaa.Pure
open Go.RowKit Go.Proofs.Ytgjpcliaggpcaaa.PPostRefs Go.Proofs.YtgjpcliaggpcaaaW.PrintWords Go.Proofs.YtgjpcliaggpcaaaW.PrintLast Go.Proofs.YtgjpcliaggpcaaaW.PrintMore
set_option linter.unusedVariables false
set_option linter.unusedSimpArgs false

theorem wrap_id {x : Int} (h0 : -9223372036854775808 ≤ x) (h1 : x ≤ 9223372036854775807) : wrap64 x = x := by unfold wrap64; omega

theorem step_i {i : Int} {n : Nat} (h0 : 0 ≤ i) (h1 : i < (n : Int)) (hn : n ≤ 9223372036854775807) : wrap64 (i + 1) = i + 1 := wrap_id (by omega) (by omega)

theorem drop_cons {α : Type} (l : List α) (d : α) (i : Int) (h0 : 0 ≤ i) (h1 : i < (l.length : Int)) : l.drop i.toNat = l.getD i.toNat d :: l.drop (i + 1).toNat := by
  have hlt : i.toNat < l.length := by omega
  rw [List.drop_eq_getElem_cons hlt, List.getD_eq_getElem?_getD, List.getElem?_eq_getElem hlt, show (i + 1).toNat = i.toNat + 1 by omega]
  rfl

theorem drop_end {α : Type} (l : List α) (i : Int) (h1 : ¬ i < (l.length : Int)) : l.drop i.toNat = [] := List.drop_eq_nil_of_le (by omega)

/-- With rounds enough it tells something. -/
def Tells {α : Type} (g : Nat → Option α) (Q : α → Prop) : Prop := ∃ r, Ev g r ∧ Q r

theorem Tells.step {α : Type} {g f : Nat → Option α} {Q : α → Prop} (h : ∀ k, g (k + 1) = f k) (k : Tells f Q) : Tells g Q := by
  obtain ⟨r, hr, hq⟩ := k
  exact ⟨r, Ev.step h hr, hq⟩

theorem Tells.now {α : Type} {Q : α → Prop} (r : α) (h : Q r) : Tells (fun _ => some r) Q := ⟨r, Ev.now r, h⟩

theorem Tells.bind {α β : Type} {g : Nat → Option α} {f : Nat → α → Option β} {P : α → Prop} {Q : β → Prop} (h : Tells g P) (k : ∀ a, P a → Tells (fun n => f n a) Q) : Tells (fun n => (g n).bind (f n)) Q := by
  obtain ⟨a, ha, hp⟩ := h
  obtain ⟨r, hr, hq⟩ := k a hp
  exact ⟨r, Ev.bind ha hr, hq⟩

theorem Tells.bindAt {α β : Type} {g : Option α} {a : α} {f : Nat → α → Option β} {Q : β → Prop} (h : g = some a) (k : Tells (fun n => f n a) Q) : Tells (fun n => g.bind (f n)) Q := by
  subst h
  exact k

theorem Tells.congr {α : Type} {g f : Nat → Option α} {Q : α → Prop} (h : ∀ k, g k = f k) (k : Tells f Q) : Tells g Q := by
  obtain ⟨r, hr, hq⟩ := k
  exact ⟨r, Ev.congr h hr, hq⟩

theorem Tells.mono {α : Type} {g : Nat → Option α} {P Q : α → Prop} (k : Tells g P) (h : ∀ a, P a → Q a) : Tells g Q := by
  obtain ⟨r, hr, hp⟩ := k
  exact ⟨r, hr, h r hp⟩

theorem Tells.yes {g : Nat → Option Bool} (k : Tells g (· = true)) : ∃ k, g k = some true := by
  obtain ⟨r, ⟨K, hK⟩, rfl⟩ := k
  exact ⟨K, hK K (Nat.le_refl _)⟩

theorem within_tells (v n : Int) (h : 1 ≤ n) (hn : n ≤ 1000000) : ∃ r, columbarykeep_Within.f v n = some r ∧ 0 ≤ r ∧ r < n := by
  have h1 : Int.tmod v n < n := Int.tmod_lt_of_pos v (by omega)
  have h2 : -n < Int.tmod v n := by
    have := Int.tmod_lt_of_pos (-v) (show 0 < n by omega)
    rw [Int.neg_tmod] at this
    omega
  unfold columbarykeep_Within.f
  rw [if_neg (by omega), if_neg (by omega)]
  by_cases c : Int.tmod v n < 0
  · rw [if_pos c]
    have e : wrap64 (Int.tmod v n + n) = Int.tmod v n + n := by unfold wrap64; omega
    exact ⟨_, rfl, by omega, by omega⟩
  · rw [if_neg c]
    exact ⟨_, rfl, by omega, by omega⟩

theorem cut_int (l : List Int) (n : Int) (h0 : 0 ≤ n) (h1 : n ≤ 1000) : columbarykeep_Cut_int_14.f l n = some (l.take n.toNat) := by
  have e : l.take ((mn (l.length : Int) n) : Int).toNat = l.take n.toNat := by
    by_cases c : (l.length : Int) ≤ n
    · rw [List.take_of_length_le (by unfold mn; omega), List.take_of_length_le (by omega)]
    · rw [show mn (l.length : Int) n = n by unfold mn; omega]
  have hl : (l.take n.toNat).length ≤ 1000 := by rw [List.length_take]; omega
  unfold columbarykeep_Cut_int_14.f columbarykeep_Copy_int_54.f
  rw [if_pos (by unfold mn; omega), if_pos (by unfold mn; omega), e, if_pos (by simp only [List.length_nil]; omega)]
  rfl

theorem value_tells (n : Int) : ∃ a b, columbarylaw26_value.f n = some (a, b) := by
  obtain ⟨a, ha, _, _⟩ := within_tells n 7 (by omega) (by omega)
  obtain ⟨b, hb, _, _⟩ := within_tells (wrap64 (Int.tdiv n 7)) 8 (by omega) (by omega)
  refine ⟨a, wrap64 (b - 1), ?_⟩
  unfold columbarylaw26_value.f
  rw [ha]; simp only [Option.bind_some]
  rw [hb]; rfl

theorem message_loop (x a b t : Int) (ht : columbarykeep_Within.f (wrap64 (Int.tdiv x 250)) 3 = some t) (t0 : 0 ≤ t) (t1 : t < 3) (d : Nat) : ∀ (i : Int) (acc : List S25), 0 ≤ i → i ≤ t → t - i = d → (acc.length : Int) ≤ i →
    Tells (fun k => columbarylaw26_message.l0 k x i a b acc) (fun r => r.2.2.length ≤ 2) := by
  induction d with
  | zero =>
    intro i acc h0 h1 hd ha
    refine Tells.step (f := fun _ => some (a, b, acc)) (fun k => ?_) (Tells.now _ (by show acc.length ≤ 2; omega))
    simp only [columbarylaw26_message.l0]
    rw [ht]; simp only [Option.bind_some]
    rw [if_neg (by omega)]
  | succ d ih =>
    intro i acc h0 h1 hd ha
    obtain ⟨p, q, hv⟩ := value_tells (wrap64 (wrap64 (Int.tdiv x 1000) + i))
    refine Tells.step (f := fun k => columbarylaw26_message.l0 k x (i + 1) a b (acc ++ [⟨p, q⟩])) (fun k => ?_) (ih (i + 1) _ (by omega) (by omega) (by omega) (by rw [List.length_append]; simp; omega))
    simp only [columbarylaw26_message.l0]
    rw [ht]; simp only [Option.bind_some]
    rw [if_pos (by omega), hv]; simp only [Option.bind_some]
    rw [if_pos (by omega), wrap_id (by omega) (by omega)]

theorem message_tells (x : Int) : Tells (fun k => columbarylaw26_message.f k x) (fun r => r.2.2.length ≤ 2) := by
  obtain ⟨a, ha, _, _⟩ := within_tells x 5 (by omega) (by omega)
  obtain ⟨b, hb, _, _⟩ := within_tells (wrap64 (Int.tdiv x 5)) 50 (by omega) (by omega)
  obtain ⟨t, ht, t0, t1⟩ := within_tells (wrap64 (Int.tdiv x 250)) 3 (by omega) (by omega)
  unfold columbarylaw26_message.f
  rw [ha]; simp only [Option.bind_some]
  rw [hb]; simp only [Option.bind_some]
  exact message_loop x a b t ht t0 t1 t.toNat 0 [] (by omega) (by omega) (by omega) (by simp)

/-- Few messages, of few arguments each. -/
def SmallM (l : List S76) : Prop := l.length ≤ 1000 ∧ ∀ m ∈ l, m.f2.length ≤ 1000
/-- Few mailboxes. -/
def SmallB (l : List S81) : Prop := l.length ≤ 1000 ∧ ∀ b ∈ l, SmallM b.f1

theorem getD_mem {α : Type} (l : List α) (d : α) (i : Int) (h0 : 0 ≤ i) (h1 : i < (l.length : Int)) : l.getD i.toNat d ∈ l := by
  have hlt : i.toNat < l.length := by omega
  rw [List.getD_eq_getElem?_getD, List.getElem?_eq_getElem hlt]
  exact List.getElem_mem hlt

theorem cut_raw (l : List S103) (n : Int) (h0 : 0 ≤ n) (h1 : n ≤ 1000) : columbarylaw26_Raw_62.f l n = some (l.take n.toNat) := by
  have e : l.take ((mn (l.length : Int) n) : Int).toNat = l.take n.toNat := by
    by_cases c : (l.length : Int) ≤ n
    · rw [List.take_of_length_le (by unfold mn; omega), List.take_of_length_le (by omega)]
    · rw [show mn (l.length : Int) n = n by unfold mn; omega]
  have hl : (l.take n.toNat).length ≤ 1000 := by rw [List.length_take]; omega
  unfold columbarylaw26_Raw_62.f columbarylaw26_Raw_71.f
  rw [if_pos (by unfold mn; omega), if_pos (by unfold mn; omega), e, if_pos (by simp only [List.length_nil]; omega)]
  rfl

theorem of_tells_inner (raw : List S103) (hraw : raw.length ≤ 6) (x3 : List S81) (i : Int) (fr : Bool) (t : List Int) (ht : t.length ≤ 5) (hi : 0 ≤ i) (hi1 : i < raw.length)
    (next : ∀ ms, SmallM ms → Tells (fun k => columbarylaw26_of.l0 k (x3 ++ [⟨fr, ms⟩]) raw (raw.length : Int) (i + 1)) SmallB) (hx : x3.length ≤ 1000) (d : Nat) : ∀ (j : Int) (acc : List S76), 0 ≤ j → j ≤ t.length → (t.length : Int) - j = d → (acc.length : Int) ≤ j → (∀ m ∈ acc, m.f2.length ≤ 1000) →
    Tells (fun k => columbarylaw26_of.l1 k x3 raw (raw.length : Int) i t (t.length : Int) j fr acc) SmallB := by
  induction d with
  | zero =>
    intro j acc h0 h1 hd ha hm
    refine Tells.step (fun k => ?_) (next acc ⟨by omega, hm⟩)
    simp only [columbarylaw26_of.l1]
    rw [if_neg (by omega), if_pos (by omega), step_i hi hi1 (by omega)]
  | succ d ih =>
    intro j acc h0 h1 hd ha hm
    have hlt : j < (t.length : Int) := by omega
    refine Tells.step (f := fun k => (columbarylaw26_message.f k (rd t j)).bind fun b => columbarylaw26_of.l1 k x3 raw (raw.length : Int) i t (t.length : Int) (j + 1) fr (acc ++ [⟨b.1, b.2.1, b.2.2⟩])) (fun k => ?_) (Tells.bind (message_tells _) (fun b hb => ih (j + 1) _ (by omega) (by omega) (by omega) (by rw [List.length_append]; simp; omega) ?_))
    · simp only [columbarylaw26_of.l1]
      have hc : acc.length < 3518437208883 := by omega
      rw [if_pos hlt, if_pos h0, if_pos hlt]
      simp only [if_pos hc, step_i h0 hlt (show t.length ≤ 9223372036854775807 by omega)]
    · intro m hm1
      rcases List.mem_append.1 hm1 with h | h
      · exact hm m h
      · simp at h; subst h; show b.2.2.length ≤ 1000; omega

theorem of_loop (raw : List S103) (hraw : raw.length ≤ 6) (d : Nat) : ∀ (i : Int) (acc : List S81), 0 ≤ i → i ≤ raw.length → (raw.length : Int) - i = d → (acc.length : Int) ≤ i → (∀ b ∈ acc, SmallM b.f1) →
    Tells (fun k => columbarylaw26_of.l0 k acc raw (raw.length : Int) i) SmallB := by
  induction d with
  | zero =>
    intro i acc h0 h1 hd ha hm
    refine Tells.step (f := fun _ => some acc) (fun k => ?_) (Tells.now _ ⟨by omega, hm⟩)
    simp only [columbarylaw26_of.l0]
    rw [if_neg (by omega)]
  | succ d ih =>
    intro i acc h0 h1 hd ha hm
    have hlt : i < (raw.length : Int) := by omega
    refine Tells.step (f := fun k => columbarylaw26_of.l1 k acc raw (raw.length : Int) i ((rd_T103 raw i).f1.take 5) (((rd_T103 raw i).f1.take 5).length : Int) 0 (rd_T103 raw i).f0 []) (fun k => ?_)
      (of_tells_inner raw hraw acc i _ _ (by rw [List.length_take]; omega) h0 hlt (fun ms hms => ih (i + 1) _ (by omega) (by omega) (by omega) (by rw [List.length_append]; simp; omega) ?_) (by omega) ((rd_T103 raw i).f1.take 5).length 0 [] (by omega) (by omega) (by omega) (by simp) (by simp))
    · simp only [columbarylaw26_of.l0]
      rw [if_pos hlt, if_pos h0, if_pos hlt, cut_int _ 5 (by omega) (by omega)]
      rfl
    · intro b hb
      rcases List.mem_append.1 hb with h | h
      · exact hm b h
      · simp at h; subst h; exact hms

theorem of_tells (l : List S103) : Tells (fun k => columbarylaw26_of.f k l) SmallB := by
  unfold columbarylaw26_of.f
  rw [cut_raw l 6 (by omega) (by omega)]
  simp only [Option.bind_some]
  exact of_loop _ (by rw [List.length_take]; omega) (l.take (Int.toNat 6)).length 0 [] (by omega) (by omega) (by omega) (by simp) (by simp)

theorem wakes_tells : Tells (fun k => columbarylaw26_wakes.f k) (· = true) := ⟨true, Ev.of columbarylaw26_wakes.mono (k := 5) (by decide +kernel), rfl⟩

theorem some_held : ∀ (k : Nat) (x1 x5 : Int) (x8 : List S25) (x9 x10 : Int), post_some.l0 k x1 x5 x8 x9 x10 = columbaryref25_held.l0 k x1 x5 x8 x9 x10
  | 0, _, _, _, _, _ => rfl
  | k + 1, x1, x5, x8, x9, x10 => by simp only [post_some.l0, columbaryref25_held.l0, some_held k]

theorem some_held_f (k : Nat) (l : List S25) (n : Int) : post_some.f k l n = columbaryref25_held.f k l n := some_held k _ _ _ _ _

theorem refs_same : ∀ k : Nat, (∀ x1 x5 x13 x14 x15 a b c d, post_Refs.l0 k x1 x5 x13 x14 x15 a b c d = columbaryref25_Refs.l0 k x1 x5 x13 x14 x15 a b c d) ∧
    (∀ x1 x5 x27 x28 x29, post_Refs.l1 k x1 x5 x27 x28 x29 = columbaryref25_Refs.l1 k x1 x5 x27 x28 x29) ∧
    (∀ x1 x5 x27 x28 x29 x34 x35 x36, post_Refs.l2 k x1 x5 x27 x28 x29 x34 x35 x36 = columbaryref25_Refs.l2 k x1 x5 x27 x28 x29 x34 x35 x36)
  | 0 => ⟨fun _ _ _ _ _ _ _ _ _ => rfl, fun _ _ _ _ _ => rfl, fun _ _ _ _ _ _ _ _ => rfl⟩
  | k + 1 => by
    obtain ⟨i0, i1, i2⟩ := refs_same k
    refine ⟨fun _ _ _ _ _ _ _ _ _ => ?_, fun _ _ _ _ _ => ?_, fun _ _ _ _ _ _ _ _ => ?_⟩
    · simp only [post_Refs.l0, columbaryref25_Refs.l0, i0, i1, some_held_f]
    · simp only [post_Refs.l1, columbaryref25_Refs.l1, i2]
    · simp only [post_Refs.l2, columbaryref25_Refs.l2, i1, i2, some_held_f]

theorem refs_same_f (k : Nat) (a : List S70) (b : List S41) (c : List S81) (s n : Int) : post_Refs.f k a b c s n = columbaryref25_Refs.f k a b c s n := (refs_same k).1 _ _ _ _ _ _ _ _ _

theorem some_loop (n : Int) (l : List S25) (hl : l.length ≤ 1000) (d : Nat) : ∀ (i x : Int), 0 ≤ i → (l.length : Int) - i = d → Tells (fun k => post_some.l0 k n x l (l.length : Int) i) (fun _ => True) := by
  induction d with
  | zero =>
    intro i x h0 hd
    refine Tells.step (f := fun _ => some x) (fun k => ?_) (Tells.now _ trivial)
    simp only [post_some.l0]
    rw [if_neg (by omega)]
  | succ d ih =>
    intro i x h0 hd
    have hlt : i < (l.length : Int) := by omega
    have e := step_i h0 hlt (by omega)
    by_cases c1 : (rd_T25 l i).f0 = 4
    · by_cases c2 : (rd_T25 l i).f1 = n
      · refine Tells.step (fun k => ?_) (ih (i + 1) (wrap64 (x + 1)) (by omega) (by omega))
        simp only [post_some.l0]
        rw [if_pos hlt, if_pos h0, if_pos hlt, if_pos c1, if_pos c2, e]
      · refine Tells.step (fun k => ?_) (ih (i + 1) x (by omega) (by omega))
        simp only [post_some.l0]
        rw [if_pos hlt, if_pos h0, if_pos hlt, if_pos c1, if_neg c2, e]
    · refine Tells.step (fun k => ?_) (ih (i + 1) x (by omega) (by omega))
      simp only [post_some.l0]
      rw [if_pos hlt, if_pos h0, if_pos hlt, if_neg c1, e]

theorem some_tells (n : Int) (l : List S25) (hl : l.length ≤ 1000) : Tells (fun k => post_some.f k l n) (fun _ => True) := some_loop n l hl l.length 0 0 (by omega) (by omega)

theorem refs_l2 (n : Int) (bs : List S81) (j : Int) (hj : 0 ≤ j) (hj1 : j < (bs.length : Int)) (hb : bs.length ≤ 1000) (ms : List S76) (hm : SmallM ms) (next : ∀ x, Tells (fun k => post_Refs.l1 k n x bs (bs.length : Int) (j + 1)) (fun _ => True)) (d : Nat) :
    ∀ (i x : Int), 0 ≤ i → (ms.length : Int) - i = d → Tells (fun k => post_Refs.l2 k n x bs (bs.length : Int) j ms (ms.length : Int) i) (fun _ => True) := by
  have hl := hm.1
  induction d with
  | zero =>
    intro i x h0 hd
    refine Tells.step (fun k => ?_) (next x)
    simp only [post_Refs.l2]
    rw [if_neg (by omega), step_i hj hj1 (by omega)]
  | succ d ih =>
    intro i x h0 hd
    have hlt : i < (ms.length : Int) := by omega
    refine Tells.step (f := fun k => (post_some.f k (rd_T76 ms i).f2 n).bind fun t => post_Refs.l2 k n (wrap64 (x + t)) bs (bs.length : Int) j ms (ms.length : Int) (i + 1)) (fun k => ?_) (Tells.bind (some_tells n _ (hm.2 _ (getD_mem ms z76 i h0 hlt))) (fun t _ => ih (i + 1) _ (by omega) (by omega)))
    simp only [post_Refs.l2]
    rw [if_pos hlt, if_pos h0, if_pos hlt, step_i h0 hlt (by omega)]

theorem refs_l1 (n : Int) (bs : List S81) (hb : SmallB bs) (d : Nat) : ∀ (j x : Int), 0 ≤ j → (bs.length : Int) - j = d → Tells (fun k => post_Refs.l1 k n x bs (bs.length : Int) j) (fun _ => True) := by
  have hl := hb.1
  induction d with
  | zero =>
    intro j x h0 hd
    refine Tells.step (f := fun _ => some x) (fun k => ?_) (Tells.now _ trivial)
    simp only [post_Refs.l1]
    rw [if_neg (by omega)]
  | succ d ih =>
    intro j x h0 hd
    have hlt : j < (bs.length : Int) := by omega
    refine Tells.step (fun k => ?_) (refs_l2 n bs j h0 hlt hl (rd_T81 bs j).f1 (hb.2 _ (getD_mem bs z81 j h0 hlt)) (fun y => ih (j + 1) y (by omega) (by omega)) _ 0 x (by omega) rfl)
    simp only [post_Refs.l1]
    rw [if_pos hlt, if_pos h0, if_pos hlt]

/-- Few actors, of few values each. -/
def SmallA (l : List S70) : Prop := l.length ≤ 1000 ∧ ∀ a ∈ l, a.f1.length ≤ 1000

theorem refs_l0 (n : Int) (az : List S70) (ha : SmallA az) (os : List S41) (bs : List S81) (hb : SmallB bs) (s : Int) (d : Nat) : ∀ (j x : Int), 0 ≤ j → (az.length : Int) - j = d → Tells (fun k => post_Refs.l0 k n x az (az.length : Int) j az os bs s) (fun _ => True) := by
  have hl := ha.1
  induction d with
  | zero =>
    intro j x h0 hd
    refine Tells.step (fun k => ?_) (refs_l1 n bs hb bs.length 0 x (by omega) (by omega))
    simp only [post_Refs.l0]
    rw [if_neg (by omega)]
  | succ d ih =>
    intro j x h0 hd
    have hlt : j < (az.length : Int) := by omega
    refine Tells.step (f := fun k => (post_some.f k (rd_T70 az j).f1 n).bind fun t => post_Refs.l0 k n (wrap64 (x + t)) az (az.length : Int) (j + 1) az os bs s) (fun k => ?_) (Tells.bind (some_tells n _ (ha.2 _ (getD_mem az z70 j h0 hlt))) (fun t _ => ih (j + 1) _ (by omega) (by omega)))
    simp only [post_Refs.l0]
    rw [if_pos hlt, if_pos h0, if_pos hlt, step_i h0 hlt (by omega)]

theorem refs_tells (n : Int) (az : List S70) (ha : SmallA az) (os : List S41) (bs : List S81) (hb : SmallB bs) (s : Int) : Tells (fun k => post_Refs.f k az os bs s n) (fun _ => True) := refs_l0 n az ha os bs hb s az.length 0 0 (by omega) (by omega)

theorem asked_loop (ys : List Int) (hy : ys.length ≤ 1000) (az : List S70) (ha : SmallA az) (bs : List S81) (hb : SmallB bs) (s : Int) (d : Nat) : ∀ (i : Int), 0 ≤ i → (ys.length : Int) - i = d → Tells (fun k => columbarylaw26_PostRefs.l2 k ys (ys.length : Int) i az bs s) (· = true) := by
  induction d with
  | zero =>
    intro i h0 hd
    refine Tells.step (f := fun k => (columbarylaw26_wakes.f k).bind fun t => some t) (fun k => ?_) (Tells.bind wakes_tells (fun t ht => Tells.now t ht))
    simp only [columbarylaw26_PostRefs.l2]
    rw [if_neg (by omega)]
  | succ d ih =>
    intro i h0 hd
    have hlt : i < (ys.length : Int) := by omega
    refine Tells.step (f := fun k => (post_Refs.f k az [] bs s (rd ys i)).bind fun t => columbarylaw26_PostRefs.l2 k ys (ys.length : Int) (i + 1) az bs s) (fun k => ?_) (Tells.bind (refs_tells _ az ha _ bs hb s) (fun t _ => ih (i + 1) (by omega) (by omega)))
    simp only [columbarylaw26_PostRefs.l2]
    rw [if_pos hlt, if_pos h0, if_pos hlt, ← refs_same_f, step_i h0 hlt (by omega)]
    cases post_Refs.f k az [] bs s (rd ys i) with
    | none => rfl
    | some t => simp only [Option.bind_some]; rw [if_pos trivial]

theorem actors_inner (n : Int) (es : List (List Int)) (he : es.length ≤ 6) (i : Int) (hi : 0 ≤ i) (hi1 : i < es.length) (az : List S70) (hl : az.length ≤ 1000) (bs : List S81) (s : Int) (e : List Int) (hle : e.length ≤ 8)
    (next : ∀ vs : List S25, vs.length ≤ 1000 → Tells (fun k => columbarylaw26_PostRefs.l0 k n es (es.length : Int) (i + 1) (az ++ [⟨0, vs, []⟩]) bs s) (· = true)) (d : Nat) : ∀ (j : Int) (acc : List S25), 0 ≤ j → (e.length : Int) - j = d → j ≤ e.length → (acc.length : Int) ≤ j →
    Tells (fun k => columbarylaw26_PostRefs.l1 k n es (es.length : Int) i e (e.length : Int) j az bs s 0 acc) (· = true) := by
  induction d with
  | zero =>
    intro j acc h0 hd h1 ha
    refine Tells.step (fun k => ?_) (next acc (by omega))
    simp only [columbarylaw26_PostRefs.l1]
    rw [if_neg (by omega), if_pos (by omega), step_i hi hi1 (by omega)]
  | succ d ih =>
    intro j acc h0 hd h1 ha
    have hlt : j < (e.length : Int) := by omega
    obtain ⟨p, q, hv⟩ := value_tells (rd e j)
    refine Tells.step (fun k => ?_) (ih (j + 1) (acc ++ [⟨p, q⟩]) (by omega) (by omega) (by omega) (by rw [List.length_append]; simp; omega))
    simp only [columbarylaw26_PostRefs.l1]
    rw [if_pos hlt, if_pos h0, if_pos hlt, hv]
    simp only [Option.bind_some]
    rw [if_pos (by omega), step_i h0 hlt (by omega)]

theorem actors_loop (n : Int) (es : List (List Int)) (he : es.length ≤ 6) (bs : List S81) (hb : SmallB bs) (s : Int) (d : Nat) : ∀ (i : Int) (az : List S70), 0 ≤ i → (es.length : Int) - i = d → i ≤ es.length → (az.length : Int) ≤ i → (∀ a ∈ az, a.f1.length ≤ 1000) →
    Tells (fun k => columbarylaw26_PostRefs.l0 k n es (es.length : Int) i az bs s) (· = true) := by
  induction d with
  | zero =>
    intro i az h0 hd h1 ha hm
    obtain ⟨t, ht, _, _⟩ := within_tells n 8 (by omega) (by omega)
    refine Tells.step (fun k => ?_) (asked_loop [n, wrap64 (t - 1)] (by simp) az ⟨by omega, hm⟩ bs hb s 2 0 (by omega) (by simp))
    simp only [columbarylaw26_PostRefs.l0]
    rw [if_neg (by omega), ht]
    simp only [Option.bind_some]
  | succ d ih =>
    intro i az h0 hd h1 ha hm
    have hlt : i < (es.length : Int) := by omega
    refine Tells.step (f := fun k => columbarylaw26_PostRefs.l1 k n es (es.length : Int) i ((rd_L7 es i).take 8) (((rd_L7 es i).take 8).length : Int) 0 az bs s 0 []) (fun k => ?_)
      (actors_inner n es he i h0 hlt az (by omega) bs s _ (by rw [List.length_take]; omega) (fun vs hvs => ih (i + 1) _ (by omega) (by omega) (by omega) (by rw [List.length_append]; simp; omega) ?_) _ 0 [] (by omega) (Int.sub_zero _) (by omega) (by simp))
    · simp only [columbarylaw26_PostRefs.l0]
      rw [if_pos hlt, if_pos h0, if_pos hlt, cut_int _ 8 (by omega) (by omega)]
      rfl
    · intro a hm1
      rcases List.mem_append.1 hm1 with h | h
      · exact hm a h
      · simp at h; subst h; exact hvs

theorem cut_rows (l : List (List Int)) (n : Int) (h0 : 0 ≤ n) (h1 : n ≤ 1000) : columbarykeep_Cut_int_36.f l n = some (l.take n.toNat) := by
  have e : l.take ((mn (l.length : Int) n) : Int).toNat = l.take n.toNat := by
    by_cases c : (l.length : Int) ≤ n
    · rw [List.take_of_length_le (by unfold mn; omega), List.take_of_length_le (by omega)]
    · rw [show mn (l.length : Int) n = n by unfold mn; omega]
  have hl : (l.take n.toNat).length ≤ 1000 := by rw [List.length_take]; omega
  unfold columbarykeep_Cut_int_36.f columbarykeep_Copy_int_63.f
  rw [if_pos (by unfold mn; omega), if_pos (by unfold mn; omega), e, if_pos (by simp only [List.length_nil]; omega)]
  rfl

theorem PostRefs (es : List (List Int)) (l : List S103) (n : Int) (_ : es.length ≤ 9223372036854775807 ∧ ∀ v ∈ es, v.length ≤ 9223372036854775807 ∧ ∀ x ∈ v, (Lit.int .i64 x).wf = true) (_ : l.length ≤ 9223372036854775807 ∧ ∀ v ∈ l, True ∧ (v.f1.length ≤ 9223372036854775807 ∧ ∀ x ∈ v.f1, (Lit.int .i64 x).wf = true)) (_ : (Lit.int .i64 n).wf = true) : ∃ k, columbarylaw26_PostRefs.f k es l n = some true := by
  refine Tells.yes ?_
  unfold columbarylaw26_PostRefs.f
  refine Tells.bind (of_tells l) (fun bs hb => ?_)
  refine Tells.bindAt (cut_rows es 6 (by omega) (by omega)) ?_
  exact actors_loop n _ (by rw [List.length_take]; omega) bs hb 0 _ 0 [] (by omega) (Int.sub_zero _) (by omega) (by simp) (by simp)

end Go.Proofs.Ytgjpcliaggpcaaa.Pure
