/- HeapMakes as a statement over numbers and lists: of any objects, with a new one, with a cell turned, as the document says. For all lists and numbers. -/
import Derived.Test.YtgjpcliaggpcaaaPHeapMakesx6
namespace Go.Proofs.Ytgjpcliaggpcaaa.Pure
open Go.RowKit Go.Proofs.Ytgjpcliaggpcaaa.PHeapMakes Go.Proofs.YtgjpcliaggpcaaaW.PrintWords Go.Proofs.YtgjpcliaggpcaaaW.PrintLast Go.Proofs.YtgjpcliaggpcaaaW.PrintMore
set_option linter.unusedVariables false
set_option linter.unusedSimpArgs false

theorem wrap_id {x : Int} (h0 : -9223372036854775808 ≤ x) (h1 : x ≤ 9223372036854775807) : wrap64 x = x := by unfold wrap64; omega

theorem step_i {i : Int} {n : Nat} (h0 : 0 ≤ i) (h1 : i < (n : Int)) (hn : n ≤ 9223372036854775807) : wrap64 (i + 1) = i + 1 := wrap_id (by omega) (by omega)

theorem drop_cons {α : Type} (l : List α) (d : α) (i : Int) (h0 : 0 ≤ i) (h1 : i < (l.length : Int)) : l.drop i.toNat = l.getD i.toNat d :: l.drop (i + 1).toNat := by
  have hlt : i.toNat < l.length := by omega
  rw [List.drop_eq_getElem_cons hlt, List.getD_eq_getElem?_getD, List.getElem?_eq_getElem hlt, show (i + 1).toNat = i.toNat + 1 by omega]
  rfl

theorem drop_end {α : Type} (l : List α) (i : Int) (h1 : ¬ i < (l.length : Int)) : l.drop i.toNat = [] := List.drop_eq_nil_of_le (by omega)

/-- With rounds enough it tells something. -/
def Tells {α : Type} (g : Nat → Option α) (Q : α → Prop) : Prop := ∃ r, Ev g r ∧ Q r

theorem Tells.step {α : Type} {g f : Nat → Option α} {Q : α → Prop} (h : ∀ k, g (k + 1) = f k) (k : Tells f Q) : Tells g Q := by
  obtain ⟨r, hr, hq⟩ := k
  exact ⟨r, Ev.step h hr, hq⟩

theorem Tells.now {α : Type} {Q : α → Prop} (r : α) (h : Q r) : Tells (fun _ => some r) Q := ⟨r, Ev.now r, h⟩

theorem Tells.bind {α β : Type} {g : Nat → Option α} {f : Nat → α → Option β} {P : α → Prop} {Q : β → Prop} (h : Tells g P) (k : ∀ a, P a → Tells (fun n => f n a) Q) : Tells (fun n => (g n).bind (f n)) Q := by
  obtain ⟨a, ha, hp⟩ := h
  obtain ⟨r, hr, hq⟩ := k a hp
  exact ⟨r, Ev.bind ha hr, hq⟩

theorem Tells.bindAt {α β : Type} {g : Option α} {a : α} {f : Nat → α → Option β} {Q : β → Prop} (h : g = some a) (k : Tells (fun n => f n a) Q) : Tells (fun n => g.bind (f n)) Q := by
  subst h
  exact k

theorem Tells.congr {α : Type} {g f : Nat → Option α} {Q : α → Prop} (h : ∀ k, g k = f k) (k : Tells f Q) : Tells g Q := by
  obtain ⟨r, hr, hq⟩ := k
  exact ⟨r, Ev.congr h hr, hq⟩

theorem Tells.mono {α : Type} {g : Nat → Option α} {P Q : α → Prop} (k : Tells g P) (h : ∀ a, P a → Q a) : Tells g Q := by
  obtain ⟨r, hr, hp⟩ := k
  exact ⟨r, hr, h r hp⟩

theorem Tells.yes {g : Nat → Option Bool} (k : Tells g (· = true)) : ∃ k, g k = some true := by
  obtain ⟨r, ⟨K, hK⟩, rfl⟩ := k
  exact ⟨K, hK K (Nat.le_refl _)⟩

theorem within_tells (v n : Int) (h : 1 ≤ n) (hn : n ≤ 1000000) : ∃ r, columbarykeep_Within.f v n = some r ∧ 0 ≤ r ∧ r < n := by
  have h1 : Int.tmod v n < n := Int.tmod_lt_of_pos v (by omega)
  have h2 : -n < Int.tmod v n := by
    have := Int.tmod_lt_of_pos (-v) (show 0 < n by omega)
    rw [Int.neg_tmod] at this
    omega
  unfold columbarykeep_Within.f
  rw [if_neg (by omega), if_neg (by omega)]
  by_cases c : Int.tmod v n < 0
  · rw [if_pos c]
    have e : wrap64 (Int.tmod v n + n) = Int.tmod v n + n := by unfold wrap64; omega
    exact ⟨_, rfl, by omega, by omega⟩
  · rw [if_neg c]
    exact ⟨_, rfl, by omega, by omega⟩

theorem cut_int (l : List Int) (n : Int) (h0 : 0 ≤ n) (h1 : n ≤ 1000) : columbarykeep_Cut_int.f l n = some (l.take n.toNat) := by
  have e : l.take ((mn (l.length : Int) n) : Int).toNat = l.take n.toNat := by
    by_cases c : (l.length : Int) ≤ n
    · rw [List.take_of_length_le (by unfold mn; omega), List.take_of_length_le (by omega)]
    · rw [show mn (l.length : Int) n = n by unfold mn; omega]
  have hl : (l.take n.toNat).length ≤ 1000 := by rw [List.length_take]; omega
  unfold columbarykeep_Cut_int.f columbarykeep_Copy_int.f
  rw [if_pos (by unfold mn; omega), if_pos (by unfold mn; omega), e, if_pos (by simp only [List.length_nil]; omega)]
  rfl

theorem getD_mem {α : Type} (l : List α) (d : α) (i : Int) (h0 : 0 ≤ i) (h1 : i < (l.length : Int)) : l.getD i.toNat d ∈ l := by
  have hlt : i.toNat < l.length := by omega
  rw [List.getD_eq_getElem?_getD, List.getElem?_eq_getElem hlt]
  exact List.getElem_mem hlt


theorem value_tells (n : Int) : ∃ a b, columbarylaw25_value.f n = some (a, b) := by
  obtain ⟨a, ha, _, _⟩ := within_tells n 7 (by omega) (by omega)
  obtain ⟨b, hb, _, _⟩ := within_tells (wrap64 (Int.tdiv n 7)) 9 (by omega) (by omega)
  refine ⟨a, wrap64 (b - 1), ?_⟩
  unfold columbarylaw25_value.f
  rw [ha]; simp only [Option.bind_some]
  rw [hb]; rfl

/-- Few objects, of few cells each. -/
def SmallO (l : List S41) : Prop := l.length ≤ 6 ∧ ∀ o ∈ l, -1 ≤ o.f0 ∧ o.f1.length ≤ 6

theorem cut_raw (l : List S94) (n : Int) (h0 : 0 ≤ n) (h1 : n ≤ 1000) : columbarylaw25_Raw_53.f l n = some (l.take n.toNat) := by
  have e : l.take ((mn (l.length : Int) n) : Int).toNat = l.take n.toNat := by
    by_cases c : (l.length : Int) ≤ n
    · rw [List.take_of_length_le (by unfold mn; omega), List.take_of_length_le (by omega)]
    · rw [show mn (l.length : Int) n = n by unfold mn; omega]
  have hl : (l.take n.toNat).length ≤ 1000 := by rw [List.length_take]; omega
  unfold columbarylaw25_Raw_53.f columbarylaw25_Raw_70.f
  rw [if_pos (by unfold mn; omega), if_pos (by unfold mn; omega), e, if_pos (by simp only [List.length_nil]; omega)]
  rfl

theorem of_inner (raw : List S94) (hraw : raw.length ≤ 6) (x3 : List S41) (i : Int) (rec : Int) (t : List Int) (ht : t.length ≤ 6) (hi : 0 ≤ i) (hi1 : i < raw.length)
    (next : ∀ vs : List S25, vs.length ≤ 6 → Tells (fun k => columbarylaw25_of.l0 k (x3 ++ [⟨rec, vs⟩]) raw (raw.length : Int) (i + 1)) SmallO) (hx : x3.length ≤ 1000) (d : Nat) : ∀ (j : Int) (acc : List S25), 0 ≤ j → j ≤ t.length → (t.length : Int) - j = d → (acc.length : Int) ≤ j →
    Tells (fun k => columbarylaw25_of.l1 k x3 raw (raw.length : Int) i t (t.length : Int) j rec acc) SmallO := by
  induction d with
  | zero =>
    intro j acc h0 h1 hd ha
    refine Tells.step (fun k => ?_) (next acc (by omega))
    simp only [columbarylaw25_of.l1]
    rw [if_neg (by omega), if_pos (by omega), step_i hi hi1 (by omega)]
  | succ d ih =>
    intro j acc h0 h1 hd ha
    have hlt : j < (t.length : Int) := by omega
    obtain ⟨p, q, hv⟩ := value_tells (rd t j)
    refine Tells.step (fun k => ?_) (ih (j + 1) (acc ++ [⟨p, q⟩]) (by omega) (by omega) (by omega) (by rw [List.length_append]; simp; omega))
    simp only [columbarylaw25_of.l1]
    rw [if_pos hlt, if_pos h0, if_pos hlt, hv]
    simp only [Option.bind_some]
    rw [if_pos (by omega), step_i h0 hlt (by omega)]

theorem of_loop (raw : List S94) (hraw : raw.length ≤ 6) (d : Nat) : ∀ (i : Int) (acc : List S41), 0 ≤ i → i ≤ raw.length → (raw.length : Int) - i = d → (acc.length : Int) ≤ i → (∀ b ∈ acc, -1 ≤ b.f0 ∧ b.f1.length ≤ 6) →
    Tells (fun k => columbarylaw25_of.l0 k acc raw (raw.length : Int) i) SmallO := by
  induction d with
  | zero =>
    intro i acc h0 h1 hd ha hm
    refine Tells.step (f := fun _ => some acc) (fun k => ?_) (Tells.now _ ⟨by omega, hm⟩)
    simp only [columbarylaw25_of.l0]
    rw [if_neg (by omega)]
  | succ d ih =>
    intro i acc h0 h1 hd ha hm
    have hlt : i < (raw.length : Int) := by omega
    obtain ⟨r, hr, r0, r1⟩ := within_tells (rd_T94 raw i).f0 4 (by omega) (by omega)
    have e : wrap64 (r - 1) = r - 1 := wrap_id (by omega) (by omega)
    refine Tells.step (f := fun k => columbarylaw25_of.l1 k acc raw (raw.length : Int) i ((rd_T94 raw i).f1.take 6) (((rd_T94 raw i).f1.take 6).length : Int) 0 (r - 1) []) (fun k => ?_)
      (of_inner raw hraw acc i _ _ (by rw [List.length_take]; omega) h0 hlt (fun ms hms => ih (i + 1) _ (by omega) (by omega) (by omega) (by rw [List.length_append]; simp; omega) ?_) (by omega) ((rd_T94 raw i).f1.take 6).length 0 [] (by omega) (by omega) (by omega) (by simp))
    · simp only [columbarylaw25_of.l0]
      rw [if_pos hlt, if_pos h0, if_pos hlt, hr]
      simp only [Option.bind_some]
      rw [cut_int _ 6 (by omega) (by omega), e]
      rfl
    · intro b hb
      rcases List.mem_append.1 hb with h | h
      · exact hm b h
      · simp at h; subst h; exact ⟨by show -1 ≤ r - 1; omega, hms⟩

theorem of_tells (l : List S94) : Tells (fun k => columbarylaw25_of.f k l) SmallO := by
  unfold columbarylaw25_of.f
  rw [cut_raw l 6 (by omega) (by omega)]
  simp only [Option.bind_some]
  exact of_loop _ (by rw [List.length_take]; omega) (l.take (Int.toNat 6)).length 0 [] (by omega) (by omega) (by omega) (by simp) (by simp)

theorem wakes_true : columbarylaw25_wakes.f = some true := by decide

/-- Small: few objects, of few cells each. -/
def Small (l : List S41) : Prop := l.length ≤ 1000 ∧ ∀ o ∈ l, o.f1.length ≤ 1000

theorem clone_id (l : List S25) (h : l.length ≤ 1000) : api_Value.f l = some l := by
  unfold api_Value.f
  simp only [Option.bind_some, List.length_nil, List.nil_append]
  rw [if_pos (by omega)]

theorem copied_loop (o : List S41) (hs : Small o) (d : Nat) : ∀ (k : Nat) (acc : List S41) (i : Int), 0 ≤ i → i ≤ o.length → (o.length : Int) - i = d → acc.length ≤ 2000 + i → d < k →
    heap_copied.l0 k acc o (o.length : Int) i = some (acc ++ o.drop i.toNat) := by
  induction d with
  | zero =>
    intro k acc i h0 h1 hd ha hk
    obtain ⟨k, rfl⟩ : ∃ m, k = m + 1 := ⟨k - 1, by omega⟩
    simp only [heap_copied.l0]
    rw [if_neg (by omega), drop_end _ _ (by omega), List.append_nil]
  | succ d ih =>
    intro k acc i h0 h1 hd ha hk
    obtain ⟨k, rfl⟩ : ∃ m, k = m + 1 := ⟨k - 1, by omega⟩
    have hlt : i < (o.length : Int) := by omega
    have hm : (rd_T41 o i).f1.length ≤ 1000 := hs.2 _ (getD_mem o z41 i h0 hlt)
    have hn := hs.1
    simp only [heap_copied.l0]
    rw [if_pos hlt, if_pos h0, if_pos hlt, clone_id _ hm]
    simp only [Option.bind_some]
    rw [if_pos (by omega), step_i h0 hlt (by omega), ih k _ (i + 1) (by omega) (by omega) (by omega) (by rw [List.length_append]; simp; omega) (by omega), drop_cons o z41 i h0 hlt]
    simp [rd_T41]

theorem copied_id (o : List S41) (hs : Small o) (k : Nat) (hk : o.length < k) : heap_copied.f k o = some o := by
  unfold heap_copied.f
  rw [copied_loop o hs o.length k [] 0 (by omega) (by omega) (by omega) (by simp) hk]
  simp

theorem sameValues_loop (l : List S25) (hl : l.length ≤ 1000) (d : Nat) : ∀ (k : Nat) (i : Int), 0 ≤ i → i ≤ l.length → (l.length : Int) - i = d → d < k → columbaryref25_sameValues.l0 k l l (l.length : Int) i = some true := by
  induction d with
  | zero =>
    intro k i h0 h1 hd hk
    obtain ⟨k, rfl⟩ : ∃ m, k = m + 1 := ⟨k - 1, by omega⟩
    simp only [columbaryref25_sameValues.l0]
    rw [if_neg (by omega)]
  | succ d ih =>
    intro k i h0 h1 hd hk
    obtain ⟨k, rfl⟩ : ∃ m, k = m + 1 := ⟨k - 1, by omega⟩
    have hlt : i < (l.length : Int) := by omega
    simp only [columbaryref25_sameValues.l0]
    rw [if_pos hlt, if_pos h0, if_pos hlt, if_pos hlt, if_neg (by simp), step_i h0 hlt (by omega)]
    exact ih k (i + 1) (by omega) (by omega) (by omega) (by omega)

theorem sameValues_refl (l : List S25) (hl : l.length ≤ 1000) (k : Nat) (hk : l.length < k) : columbaryref25_sameValues.f k l l = some true := by
  unfold columbaryref25_sameValues.f
  rw [if_pos rfl]
  exact sameValues_loop l hl l.length k 0 (by omega) (by omega) (by omega) hk

theorem sameObjs_loop (l : List S41) (hs : Small l) (d : Nat) : ∀ (k : Nat) (i : Int), 0 ≤ i → i ≤ l.length → (l.length : Int) - i = d → d + 1001 < k → columbaryref25_SameObjs.l0 k l l (l.length : Int) i = some true := by
  induction d with
  | zero =>
    intro k i h0 h1 hd hk
    obtain ⟨k, rfl⟩ : ∃ m, k = m + 1 := ⟨k - 1, by omega⟩
    simp only [columbaryref25_SameObjs.l0]
    rw [if_neg (by omega)]
  | succ d ih =>
    intro k i h0 h1 hd hk
    obtain ⟨k, rfl⟩ : ∃ m, k = m + 1 := ⟨k - 1, by omega⟩
    have hlt : i < (l.length : Int) := by omega
    have hm : (rd_T41 l i).f1.length ≤ 1000 := hs.2 _ (getD_mem l z41 i h0 hlt)
    have hn := hs.1
    simp only [columbaryref25_SameObjs.l0]
    rw [if_pos hlt, if_pos h0, if_pos hlt, if_pos hlt, if_pos trivial, sameValues_refl _ hm k (by omega)]
    simp only [Option.bind_some, if_true]
    rw [step_i h0 hlt (by omega)]
    exact ih k (i + 1) (by omega) (by omega) (by omega) (by omega)

theorem sameObjs_refl (l : List S41) (hs : Small l) (k : Nat) (hk : 2002 < k) : columbaryref25_SameObjs.f k l l = some true := by
  have := hs.1
  unfold columbaryref25_SameObjs.f
  rw [if_pos rfl]
  exact sameObjs_loop l hs l.length k 0 (by omega) (by omega) (by omega) (by omega)

theorem has_is (o : List S41) (n x : Int) : heap_Has.f o n x = some (decide (0 ≤ n ∧ n < o.length ∧ 0 ≤ x ∧ x < (rd_T41 o n).f1.length)) := by
  unfold heap_Has.f
  by_cases h1 : n ≥ 0
  · rw [if_pos h1]
    by_cases h2 : n < (o.length : Int)
    · rw [if_pos h2]
      by_cases h3 : x ≥ 0
      · rw [if_pos h3, if_pos h1]
        simp [h1, h2, h3]
      · rw [if_neg h3, decide_eq_false (fun h => h3 h.2.2.1)]
    · rw [if_neg h2, decide_eq_false (fun h => h2 h.2.1)]
  · rw [if_neg h1, decide_eq_false (fun h => h1 h.1)]


theorem small_of (o : List S41) (h : SmallO o) : Small o := ⟨by have := h.1; omega, fun x hx => by have := (h.2 x hx).2; omega⟩

theorem rcopied_loop (o : List S41) (hs : Small o) (d : Nat) : ∀ (k : Nat) (acc : List S41) (i : Int), 0 ≤ i → i ≤ o.length → (o.length : Int) - i = d → acc.length ≤ 2000 + i → d < k →
    columbaryref25_copyObjs.l0 k acc o (o.length : Int) i = some (acc ++ o.drop i.toNat) := by
  induction d with
  | zero =>
    intro k acc i h0 h1 hd ha hk
    obtain ⟨k, rfl⟩ : ∃ m, k = m + 1 := ⟨k - 1, by omega⟩
    simp only [columbaryref25_copyObjs.l0]
    rw [if_neg (by omega), drop_end _ _ (by omega), List.append_nil]
  | succ d ih =>
    intro k acc i h0 h1 hd ha hk
    obtain ⟨k, rfl⟩ : ∃ m, k = m + 1 := ⟨k - 1, by omega⟩
    have hlt : i < (o.length : Int) := by omega
    have hm : (rd_T41 o i).f1.length ≤ 1000 := hs.2 _ (getD_mem o z41 i h0 hlt)
    have hn := hs.1
    simp only [columbaryref25_copyObjs.l0]
    rw [if_pos hlt, if_pos h0, if_pos hlt, if_pos (by simp only [List.length_nil]; omega), if_pos (by omega), List.nil_append, step_i h0 hlt (by omega), ih k _ (i + 1) (by omega) (by omega) (by omega) (by rw [List.length_append]; simp; omega) (by omega), drop_cons o z41 i h0 hlt]
    simp [rd_T41]

theorem rcopied_id (o : List S41) (hs : Small o) (k : Nat) (hk : o.length < k) : columbaryref25_copyObjs.f k o = some o := by
  unfold columbaryref25_copyObjs.f
  rw [rcopied_loop o hs o.length k [] 0 (by omega) (by omega) (by omega) (by simp) hk]
  simp

/-- Objects with a cell turned. -/
def wr (o : List S41) (n x p q : Int) : List S41 :=
  if 0 ≤ n ∧ n < o.length ∧ 0 ≤ x ∧ x < (rd_T41 o n).f1.length then o.set n.toNat ⟨(rd_T41 o n).f0, (rd_T41 o n).f1.set x.toNat ⟨p, q⟩⟩ else o

theorem write_is (o : List S41) (hs : Small o) (k : Nat) (hk : o.length < k) (n x p q : Int) : heap_Write.f k o n x p q = some (wr o n x p q) := by
  unfold heap_Write.f wr
  rw [copied_id o hs k hk]
  simp only [Option.bind_some]
  rw [has_is]
  simp only [Option.bind_some]
  by_cases c : 0 ≤ n ∧ n < o.length ∧ 0 ≤ x ∧ x < (rd_T41 o n).f1.length
  · rw [if_pos (decide_eq_true c), if_pos c.1, if_pos c.2.1, if_pos c.2.2.1, if_pos c.2.2.2, if_pos c]
  · rw [if_neg (by simpa using c), if_neg c]

theorem rwrite_is (o : List S41) (hs : Small o) (k : Nat) (hk : o.length < k) (n x p q : Int) : columbaryref25_Write.f k o n x p q = some (wr o n x p q) := by
  unfold columbaryref25_Write.f wr
  rw [rcopied_id o hs k hk]
  simp only [Option.bind_some]
  by_cases c1 : 0 ≤ n
  · by_cases c2 : n < (o.length : Int)
    · by_cases c3 : 0 ≤ x
      · by_cases c4 : x < ((rd_T41 o n).f1.length : Int)
        · rw [if_pos c1, if_pos c2, if_pos c3, if_pos c1, if_pos c4, if_pos c2, if_pos c3, if_pos c4, if_pos ⟨c1, c2, c3, c4⟩]
        · rw [if_pos c1, if_pos c2, if_pos c3, if_pos c1, if_neg c4, if_neg (fun h => c4 h.2.2.2)]
      · rw [if_pos c1, if_pos c2, if_neg c3, if_neg (fun h => c3 h.2.2.1)]
    · rw [if_pos c1, if_neg c2, if_neg (fun h => c2 h.2.1)]
  · rw [if_neg c1, if_neg (fun h => c1 h.1)]

theorem wr_small (o : List S41) (hs : Small o) (n x p q : Int) : Small (wr o n x p q) := by
  unfold wr
  split
  · rename_i c
    refine ⟨by rw [List.length_set]; exact hs.1, fun y hy => ?_⟩
    rcases List.mem_or_eq_of_mem_set hy with h | h
    · exact hs.2 y h
    · subst h
      show (List.set _ _ _).length ≤ 1000
      rw [List.length_set]
      exact hs.2 _ (getD_mem o z41 n c.1 c.2.1)
  · exact hs

theorem make_is (o : List S41) (hs : Small o) (k : Nat) (hk : o.length < k) (r : Int) (row : List S25) (hr : row.length ≤ 1000) : heap_Make.f k o r row = some (o ++ [⟨r, row⟩], (o.length : Int)) := by
  have := hs.1
  unfold heap_Make.f
  rw [copied_id o hs k hk]
  simp only [Option.bind_some]
  rw [clone_id row hr]
  simp only [Option.bind_some]
  rw [if_pos (by omega)]

theorem rmake_is (o : List S41) (hs : Small o) (k : Nat) (hk : o.length < k) (r : Int) (row : List S25) (hr : row.length ≤ 1000) : columbaryref25_Make.f k o r row = some (o ++ [⟨r, row⟩], (o.length : Int)) := by
  have := hs.1
  unfold columbaryref25_Make.f
  rw [rcopied_id o hs k hk]
  simp only [Option.bind_some, List.nil_append]
  rw [if_pos (by simp only [List.length_nil]; omega), if_pos (by omega)]

/-- From so many rounds on it tells so. -/
theorem tells_from {α : Type} {g f : Nat → Option α} {Q : α → Prop} (K : Nat) (h : ∀ k, K ≤ k → g (k + 1) = f k) (k : Tells f Q) : Tells g Q := by
  obtain ⟨r, ⟨K', hK⟩, hq⟩ := k
  refine ⟨r, ⟨K + K' + 1, fun n hn => ?_⟩, hq⟩
  obtain ⟨m, rfl⟩ : ∃ m, n = m + 1 := ⟨n - 1, by omega⟩
  rw [h m (by omega)]
  exact hK m (by omega)

theorem writes_inner (x3 : Int) (o : List S41) (hs : Small o) (n : Int) (ns : List Int) (i : Int) (hi : 0 ≤ i) (hi1 : i < ns.length) (hn : ns.length ≤ 1000) (p q : Int) (next : Tells (fun k => columbarylaw25_HeapMakes.l1 k x3 o ns (ns.length : Int) (i + 1) p q) (· = true)) (ys : List Int) (hy : ys.length ≤ 1000) (d : Nat) :
    ∀ (j : Int), 0 ≤ j → (ys.length : Int) - j = d → Tells (fun k => columbarylaw25_HeapMakes.l2 k x3 o n ns (ns.length : Int) i ys (ys.length : Int) j p q) (· = true) := by
  have hl := hs.1
  induction d with
  | zero =>
    intro j h0 hd
    refine Tells.step (fun k => ?_) next
    simp only [columbarylaw25_HeapMakes.l2]
    rw [if_neg (by omega), step_i hi hi1 (by omega)]
  | succ d ih =>
    intro j h0 hd
    have hlt : j < (ys.length : Int) := by omega
    refine tells_from 3000 (fun k hk => ?_) (ih (j + 1) (by omega) (by omega))
    simp only [columbarylaw25_HeapMakes.l2]
    rw [if_pos hlt, if_pos h0, if_pos hlt, write_is o hs k (by omega)]
    simp only [Option.bind_some]
    rw [rwrite_is o hs k (by omega)]
    simp only [Option.bind_some]
    rw [sameObjs_refl _ (wr_small o hs _ _ _ _) k (by omega)]
    simp only [Option.bind_some, if_true]
    rw [step_i h0 hlt (by omega)]

theorem writes_loop (x3 : Int) (o : List S41) (hs : Small o) (p q : Int) (ns : List Int) (hn : ns.length ≤ 1000) (d : Nat) : ∀ (i : Int), 0 ≤ i → (ns.length : Int) - i = d → Tells (fun k => columbarylaw25_HeapMakes.l1 k x3 o ns (ns.length : Int) i p q) (· = true) := by
  induction d with
  | zero =>
    intro i h0 hd
    refine Tells.step (f := fun _ => some true) (fun k => ?_) (Tells.now _ rfl)
    simp only [columbarylaw25_HeapMakes.l1]
    rw [if_neg (by omega), wakes_true]
    rfl
  | succ d ih =>
    intro i h0 hd
    have hlt : i < (ns.length : Int) := by omega
    obtain ⟨t, ht, _, _⟩ := within_tells x3 7 (by omega) (by omega)
    refine Tells.step (fun k => ?_) (writes_inner x3 o hs (rd ns i) ns i h0 hlt hn p q (ih (i + 1) (by omega) (by omega)) [x3, t] (by simp) 2 0 (by omega) (by simp))
    simp only [columbarylaw25_HeapMakes.l1]
    rw [if_pos hlt, if_pos h0, if_pos hlt, ht]
    simp only [Option.bind_some]

theorem rows_loop (x2 x3 x4 : Int) (o : List S41) (hs : Small o) (ho : o.length ≤ 6) (p q : Int) (t : List Int) (ht : t.length ≤ 8) (d : Nat) : ∀ (i : Int) (acc : List S25), 0 ≤ i → (t.length : Int) - i = d → i ≤ t.length → (acc.length : Int) ≤ i →
    Tells (fun k => columbarylaw25_HeapMakes.l0 k x2 x3 x4 o acc t (t.length : Int) i p q) (· = true) := by
  have hl := hs.1
  induction d with
  | zero =>
    intro i acc h0 hd h1 ha
    obtain ⟨u, hu, _, _⟩ := within_tells x2 7 (by omega) (by omega)
    have hs2 : Small (o ++ [(⟨x4, acc⟩ : S41)]) := ⟨by rw [List.length_append]; simp; omega, fun y hy => by
      rcases List.mem_append.1 hy with h | h
      · exact hs.2 y h
      · simp at h; subst h; show acc.length ≤ 1000; omega⟩
    refine tells_from 3000 (f := fun k => columbarylaw25_HeapMakes.j1 k x2 x3 o false p q) (fun k hk => ?_) ?_
    · simp only [columbarylaw25_HeapMakes.l0]
      rw [if_neg (by omega), make_is o hs k (by omega) x4 acc (by omega)]
      simp only [Option.bind_some]
      rw [rmake_is o hs k (by omega) x4 acc (by omega)]
      simp only [Option.bind_some]
      rw [sameObjs_refl _ hs2 k (by omega)]
      simp
    · refine Tells.step (fun k => ?_) (writes_loop x3 o hs p q [x2, u] (by simp) 2 0 (by omega) (by simp))
      simp only [columbarylaw25_HeapMakes.j1]
      rw [if_neg (by simp), hu]
      simp only [Option.bind_some]
  | succ d ih =>
    intro i acc h0 hd h1 ha
    have hlt : i < (t.length : Int) := by omega
    obtain ⟨a, b, hv⟩ := value_tells (rd t i)
    refine Tells.step (fun k => ?_) (ih (i + 1) (acc ++ [⟨a, b⟩]) (by omega) (by omega) (by omega) (by rw [List.length_append]; simp; omega))
    simp only [columbarylaw25_HeapMakes.l0]
    rw [if_pos hlt, if_pos h0, if_pos hlt, hv]
    simp only [Option.bind_some]
    rw [if_pos (by omega), step_i h0 hlt (by omega)]

theorem HeapMakes (l : List S94) (cells : List Int) (x2 x3 x4 v0 v1 : Int) (_ : l.length ≤ 9223372036854775807 ∧ ∀ v ∈ l, (Lit.int .i64 v.f0).wf = true ∧ (v.f1.length ≤ 9223372036854775807 ∧ ∀ x ∈ v.f1, (Lit.int .i64 x).wf = true)) (_ : cells.length ≤ 9223372036854775807 ∧ ∀ v ∈ cells, (Lit.int .i64 v).wf = true) (_ : (Lit.int .i64 x2).wf = true) (_ : (Lit.int .i64 x3).wf = true) (_ : (Lit.int .i64 x4).wf = true)
    (_ : (Lit.int .i64 v0).wf = true) (_ : (Lit.int .i64 v1).wf = true) : ∃ k, columbarylaw25_HeapMakes.f k l cells x2 x3 x4 v0 v1 = some true := by
  refine Tells.yes ?_
  unfold columbarylaw25_HeapMakes.f
  refine Tells.bind (of_tells l) (fun o ho => ?_)
  refine Tells.bindAt (cut_int cells 8 (by omega) (by omega)) ?_
  exact rows_loop x2 x3 x4 o (small_of o ho) ho.1 v0 v1 _ (by rw [List.length_take]; omega) _ 0 [] (by omega) (Int.sub_zero _) (by omega) (by simp)

end Go.Proofs.Ytgjpcliaggpcaaa.Pure
