/- HeapTells as a statement over numbers and lists: of any objects, any value: of which kind it is, which object, what is in a cell, how many there are, as the document says. For all lists and numbers. -/
import Derived.Test.YtgjpcliaggpcaaaPHeapTellsx5
namespace Go.Proofs.Ytgjpcliaggpcaaa.Pure
open Go.RowKit Go.Proofs.Ytgjpcliaggpcaaa.PHeapTells Go.Proofs.YtgjpcliaggpcaaaW.PrintWords Go.Proofs.YtgjpcliaggpcaaaW.PrintLast Go.Proofs.YtgjpcliaggpcaaaW.PrintMore
set_option linter.unusedVariables false
set_option linter.unusedSimpArgs false

theorem wrap_id {x : Int} (h0 : -9223372036854775808 ≤ x) (h1 : x ≤ 9223372036854775807) : wrap64 x = x := by unfold wrap64; omega

theorem step_i {i : Int} {n : Nat} (h0 : 0 ≤ i) (h1 : i < (n : Int)) (hn : n ≤ 9223372036854775807) : wrap64 (i + 1) = i + 1 := wrap_id (by omega) (by omega)

theorem drop_cons {α : Type} (l : List α) (d : α) (i : Int) (h0 : 0 ≤ i) (h1 : i < (l.length : Int)) : l.drop i.toNat = l.getD i.toNat d :: l.drop (i + 1).toNat := by
  have hlt : i.toNat < l.length := by omega
  rw [List.drop_eq_getElem_cons hlt, List.getD_eq_getElem?_getD, List.getElem?_eq_getElem hlt, show (i + 1).toNat = i.toNat + 1 by omega]
  rfl

theorem drop_end {α : Type} (l : List α) (i : Int) (h1 : ¬ i < (l.length : Int)) : l.drop i.toNat = [] := List.drop_eq_nil_of_le (by omega)

/-- With rounds enough it tells something. -/
def Tells {α : Type} (g : Nat → Option α) (Q : α → Prop) : Prop := ∃ r, Ev g r ∧ Q r

theorem Tells.step {α : Type} {g f : Nat → Option α} {Q : α → Prop} (h : ∀ k, g (k + 1) = f k) (k : Tells f Q) : Tells g Q := by
  obtain ⟨r, hr, hq⟩ := k
  exact ⟨r, Ev.step h hr, hq⟩

theorem Tells.now {α : Type} {Q : α → Prop} (r : α) (h : Q r) : Tells (fun _ => some r) Q := ⟨r, Ev.now r, h⟩

theorem Tells.bind {α β : Type} {g : Nat → Option α} {f : Nat → α → Option β} {P : α → Prop} {Q : β → Prop} (h : Tells g P) (k : ∀ a, P a → Tells (fun n => f n a) Q) : Tells (fun n => (g n).bind (f n)) Q := by
  obtain ⟨a, ha, hp⟩ := h
  obtain ⟨r, hr, hq⟩ := k a hp
  exact ⟨r, Ev.bind ha hr, hq⟩

theorem Tells.bindAt {α β : Type} {g : Option α} {a : α} {f : Nat → α → Option β} {Q : β → Prop} (h : g = some a) (k : Tells (fun n => f n a) Q) : Tells (fun n => g.bind (f n)) Q := by
  subst h
  exact k

theorem Tells.congr {α : Type} {g f : Nat → Option α} {Q : α → Prop} (h : ∀ k, g k = f k) (k : Tells f Q) : Tells g Q := by
  obtain ⟨r, hr, hq⟩ := k
  exact ⟨r, Ev.congr h hr, hq⟩

theorem Tells.mono {α : Type} {g : Nat → Option α} {P Q : α → Prop} (k : Tells g P) (h : ∀ a, P a → Q a) : Tells g Q := by
  obtain ⟨r, hr, hp⟩ := k
  exact ⟨r, hr, h r hp⟩

theorem Tells.yes {g : Nat → Option Bool} (k : Tells g (· = true)) : ∃ k, g k = some true := by
  obtain ⟨r, ⟨K, hK⟩, rfl⟩ := k
  exact ⟨K, hK K (Nat.le_refl _)⟩

theorem within_tells (v n : Int) (h : 1 ≤ n) (hn : n ≤ 1000000) : ∃ r, columbarykeep_Within.f v n = some r ∧ 0 ≤ r ∧ r < n := by
  have h1 : Int.tmod v n < n := Int.tmod_lt_of_pos v (by omega)
  have h2 : -n < Int.tmod v n := by
    have := Int.tmod_lt_of_pos (-v) (show 0 < n by omega)
    rw [Int.neg_tmod] at this
    omega
  unfold columbarykeep_Within.f
  rw [if_neg (by omega), if_neg (by omega)]
  by_cases c : Int.tmod v n < 0
  · rw [if_pos c]
    have e : wrap64 (Int.tmod v n + n) = Int.tmod v n + n := by unfold wrap64; omega
    exact ⟨_, rfl, by omega, by omega⟩
  · rw [if_neg c]
    exact ⟨_, rfl, by omega, by omega⟩

theorem cut_int (l : List Int) (n : Int) (h0 : 0 ≤ n) (h1 : n ≤ 1000) : columbarykeep_Cut_int.f l n = some (l.take n.toNat) := by
  have e : l.take ((mn (l.length : Int) n) : Int).toNat = l.take n.toNat := by
    by_cases c : (l.length : Int) ≤ n
    · rw [List.take_of_length_le (by unfold mn; omega), List.take_of_length_le (by omega)]
    · rw [show mn (l.length : Int) n = n by unfold mn; omega]
  have hl : (l.take n.toNat).length ≤ 1000 := by rw [List.length_take]; omega
  unfold columbarykeep_Cut_int.f columbarykeep_Copy_int.f
  rw [if_pos (by unfold mn; omega), if_pos (by unfold mn; omega), e, if_pos (by simp only [List.length_nil]; omega)]
  rfl

theorem getD_mem {α : Type} (l : List α) (d : α) (i : Int) (h0 : 0 ≤ i) (h1 : i < (l.length : Int)) : l.getD i.toNat d ∈ l := by
  have hlt : i.toNat < l.length := by omega
  rw [List.getD_eq_getElem?_getD, List.getElem?_eq_getElem hlt]
  exact List.getElem_mem hlt

theorem value_tells (n : Int) : ∃ a b, columbarylaw25_value.f n = some (a, b) := by
  obtain ⟨a, ha, _, _⟩ := within_tells n 7 (by omega) (by omega)
  obtain ⟨b, hb, _, _⟩ := within_tells (wrap64 (Int.tdiv n 7)) 9 (by omega) (by omega)
  refine ⟨a, wrap64 (b - 1), ?_⟩
  unfold columbarylaw25_value.f
  rw [ha]; simp only [Option.bind_some]
  rw [hb]; rfl

/-- Few objects, of few cells each. -/
def SmallO (l : List S41) : Prop := l.length ≤ 6 ∧ ∀ o ∈ l, -1 ≤ o.f0 ∧ o.f1.length ≤ 6

theorem cut_raw (l : List S94) (n : Int) (h0 : 0 ≤ n) (h1 : n ≤ 1000) : columbarylaw25_Raw_53.f l n = some (l.take n.toNat) := by
  have e : l.take ((mn (l.length : Int) n) : Int).toNat = l.take n.toNat := by
    by_cases c : (l.length : Int) ≤ n
    · rw [List.take_of_length_le (by unfold mn; omega), List.take_of_length_le (by omega)]
    · rw [show mn (l.length : Int) n = n by unfold mn; omega]
  have hl : (l.take n.toNat).length ≤ 1000 := by rw [List.length_take]; omega
  unfold columbarylaw25_Raw_53.f columbarylaw25_Raw_70.f
  rw [if_pos (by unfold mn; omega), if_pos (by unfold mn; omega), e, if_pos (by simp only [List.length_nil]; omega)]
  rfl

theorem of_inner (raw : List S94) (hraw : raw.length ≤ 6) (x3 : List S41) (i : Int) (rec : Int) (t : List Int) (ht : t.length ≤ 6) (hi : 0 ≤ i) (hi1 : i < raw.length)
    (next : ∀ vs : List S25, vs.length ≤ 6 → Tells (fun k => columbarylaw25_of.l0 k (x3 ++ [⟨rec, vs⟩]) raw (raw.length : Int) (i + 1)) SmallO) (hx : x3.length ≤ 1000) (d : Nat) : ∀ (j : Int) (acc : List S25), 0 ≤ j → j ≤ t.length → (t.length : Int) - j = d → (acc.length : Int) ≤ j →
    Tells (fun k => columbarylaw25_of.l1 k x3 raw (raw.length : Int) i t (t.length : Int) j rec acc) SmallO := by
  induction d with
  | zero =>
    intro j acc h0 h1 hd ha
    refine Tells.step (fun k => ?_) (next acc (by omega))
    simp only [columbarylaw25_of.l1]
    rw [if_neg (by omega), if_pos (by omega), step_i hi hi1 (by omega)]
  | succ d ih =>
    intro j acc h0 h1 hd ha
    have hlt : j < (t.length : Int) := by omega
    obtain ⟨p, q, hv⟩ := value_tells (rd t j)
    refine Tells.step (fun k => ?_) (ih (j + 1) (acc ++ [⟨p, q⟩]) (by omega) (by omega) (by omega) (by rw [List.length_append]; simp; omega))
    simp only [columbarylaw25_of.l1]
    rw [if_pos hlt, if_pos h0, if_pos hlt, hv]
    simp only [Option.bind_some]
    rw [if_pos (by omega), step_i h0 hlt (by omega)]

theorem of_loop (raw : List S94) (hraw : raw.length ≤ 6) (d : Nat) : ∀ (i : Int) (acc : List S41), 0 ≤ i → i ≤ raw.length → (raw.length : Int) - i = d → (acc.length : Int) ≤ i → (∀ b ∈ acc, -1 ≤ b.f0 ∧ b.f1.length ≤ 6) →
    Tells (fun k => columbarylaw25_of.l0 k acc raw (raw.length : Int) i) SmallO := by
  induction d with
  | zero =>
    intro i acc h0 h1 hd ha hm
    refine Tells.step (f := fun _ => some acc) (fun k => ?_) (Tells.now _ ⟨by omega, hm⟩)
    simp only [columbarylaw25_of.l0]
    rw [if_neg (by omega)]
  | succ d ih =>
    intro i acc h0 h1 hd ha hm
    have hlt : i < (raw.length : Int) := by omega
    obtain ⟨r, hr, r0, r1⟩ := within_tells (rd_T94 raw i).f0 4 (by omega) (by omega)
    have e : wrap64 (r - 1) = r - 1 := wrap_id (by omega) (by omega)
    refine Tells.step (f := fun k => columbarylaw25_of.l1 k acc raw (raw.length : Int) i ((rd_T94 raw i).f1.take 6) (((rd_T94 raw i).f1.take 6).length : Int) 0 (r - 1) []) (fun k => ?_)
      (of_inner raw hraw acc i _ _ (by rw [List.length_take]; omega) h0 hlt (fun ms hms => ih (i + 1) _ (by omega) (by omega) (by omega) (by rw [List.length_append]; simp; omega) ?_) (by omega) ((rd_T94 raw i).f1.take 6).length 0 [] (by omega) (by omega) (by omega) (by simp))
    · simp only [columbarylaw25_of.l0]
      rw [if_pos hlt, if_pos h0, if_pos hlt, hr]
      simp only [Option.bind_some]
      rw [cut_int _ 6 (by omega) (by omega), e]
      rfl
    · intro b hb
      rcases List.mem_append.1 hb with h | h
      · exact hm b h
      · simp at h; subst h; exact ⟨by show -1 ≤ r - 1; omega, hms⟩

theorem of_tells (l : List S94) : Tells (fun k => columbarylaw25_of.f k l) SmallO := by
  unfold columbarylaw25_of.f
  rw [cut_raw l 6 (by omega) (by omega)]
  simp only [Option.bind_some]
  exact of_loop _ (by rw [List.length_take]; omega) (l.take (Int.toNat 6)).length 0 [] (by omega) (by omega) (by omega) (by simp) (by simp)

theorem wakes_true : columbarylaw25_wakes.f = some true := by decide

theorem shape_tells (a b c : Int) (s : ByteArray) (l : List S127) (x y : Int) : ∃ r, heap_Shape.f a b c s l x y = some r ∧ columbaryref25_Shape.f a b c s l x y = some r := by
  have e : columbaryref25_Shape.f a b c s l x y = heap_Shape.f a b c s l x y := rfl
  rw [e]
  unfold heap_Shape.f
  repeat' split
  all_goals exact ⟨_, rfl, rfl⟩

theorem find_j (k : Nat) (o : List S41) (r : Int) (b : Bool) (x y : Int) : heap_Find.j0 k o r b x y = columbaryref25_FindObj.j0 k o r b x y := by
  cases k <;> rfl

theorem find_same (k : Nat) (o : List S41) (x y r : Int) : heap_Find.f k o x y r = columbaryref25_FindObj.f k o x y r := by
  unfold heap_Find.f columbaryref25_FindObj.f
  by_cases h : x = 0
  · subst h
    simp only [find_j]
    rfl
  · simp only [find_j, if_neg h]

theorem find_tells (o : List S41) (x y r : Int) : Tells (fun k => heap_Find.f k o x y r) (fun _ => True) := by
  have hj : ∀ b, Tells (fun k => heap_Find.j0 k o r b x y) (fun _ => True) := by
    intro b
    have : ∃ p, ∀ k, heap_Find.j0 (k + 1) o r b x y = some p := by
      simp only [heap_Find.j0]
      by_cases hb : b = true
      · exact ⟨_, fun _ => by rw [if_pos hb]⟩
      by_cases h2 : x = 2
      · by_cases h3 : y < 0
        · exact ⟨_, fun _ => by rw [if_neg hb, if_pos h2, if_pos h3]⟩
        by_cases h4 : y ≥ (o.length : Int)
        · exact ⟨_, fun _ => by rw [if_neg hb, if_pos h2, if_neg h3, if_pos h4]⟩
        by_cases h5 : (rd_T41 o y).f0 = r
        · exact ⟨_, fun _ => by rw [if_neg hb, if_pos h2, if_neg h3, if_neg h4, if_pos (by omega), if_pos (by omega), if_pos h5]⟩
        · exact ⟨_, fun _ => by rw [if_neg hb, if_pos h2, if_neg h3, if_neg h4, if_pos (by omega), if_pos (by omega), if_neg h5]⟩
      · exact ⟨_, fun _ => by rw [if_neg hb, if_neg h2]⟩
    obtain ⟨p, hp⟩ := this
    exact Tells.step hp (Tells.now p trivial)
  unfold heap_Find.f
  by_cases h : x = 3
  · simp only [if_pos h]; exact Tells.now _ trivial
  · by_cases h0 : x = 0
    · simp only [if_neg h, if_pos h0]; exact hj _
    · simp only [if_neg h, if_neg h0]; exact hj _

theorem has_is (o : List S41) (n x : Int) : heap_Has.f o n x = some (decide (0 ≤ n ∧ n < o.length ∧ 0 ≤ x ∧ x < (rd_T41 o n).f1.length)) := by
  unfold heap_Has.f
  by_cases h1 : n ≥ 0
  · rw [if_pos h1]
    by_cases h2 : n < (o.length : Int)
    · rw [if_pos h2]
      by_cases h3 : x ≥ 0
      · rw [if_pos h3, if_pos h1]
        simp [h1, h2, h3]
      · rw [if_neg h3, decide_eq_false (fun h => h3 h.2.2.1)]
    · rw [if_neg h2, decide_eq_false (fun h => h2 h.2.1)]
  · rw [if_neg h1, decide_eq_false (fun h => h1 h.1)]

theorem read_same (o : List S41) (ho : SmallO o) (n x : Int) : ∃ r, heap_Read.f o n x = some r ∧ ∀ k, columbaryref25_Read.f (k + 2) o n x = some r := by
  have hr : ∀ (k : Nat) b, columbaryref25_Read.j0 (k + 2) o n x b = if b = true then (some (0, 0)) else (if x < 0 then (columbaryref25_Read.j1 (k + 1) o n x true) else (if 0 ≤ n then (if n < (o.length : Int) then (columbaryref25_Read.j1 (k + 1) o n x (decide (x ≥ (((rd_T41 o n).f1).length : Int)))) else (none)) else (none))) := fun _ _ => rfl
  have hj : ∀ (k : Nat) b, columbaryref25_Read.j1 (k + 1) o n x b = if b = true then (if 0 ≤ n then (if n < (o.length : Int) then (if ((rd_T41 o n).f0) = (-1) then (some (1, 0)) else (some (0, 0))) else (none)) else (none)) else (if 0 ≤ n then (if n < (o.length : Int) then (if 0 ≤ x then (if x < (((rd_T41 o n).f1).length : Int) then (some ((rd_T25 ((rd_T41 o n).f1) x).f0, (rd_T25 ((rd_T41 o n).f1) x).f1)) else (none)) else (none)) else (none)) else (none)) := fun _ _ => rfl
  unfold heap_Read.f columbaryref25_Read.f
  rw [has_is]
  simp only [Option.bind_some, hr, hj]
  by_cases h1 : 0 ≤ n
  · by_cases h2 : n < (o.length : Int)
    · have hb : -1 ≤ (rd_T41 o n).f0 := (ho.2 _ (getD_mem o z41 n h1 h2)).1
      by_cases h3 : 0 ≤ x ∧ x < ((rd_T41 o n).f1.length : Int)
      · refine ⟨_, by rw [if_pos (decide_eq_true ⟨h1, h2, h3⟩), if_pos h1, if_pos h2, if_pos h3.1, if_pos h3.2], fun _ => ?_⟩
        rw [if_neg (by omega), if_neg (by simp; omega), if_neg (by omega), if_pos h1, if_pos h2, if_neg (by simp; omega), if_pos h1, if_pos h2, if_pos h3.1, if_pos h3.2]
      · have hd : ¬ (decide (0 ≤ n ∧ n < o.length ∧ 0 ≤ x ∧ x < (rd_T41 o n).f1.length) = true) := fun h => h3 (of_decide_eq_true h).2.2
        by_cases h4 : (rd_T41 o n).f0 < 0
        · refine ⟨_, by rw [if_neg hd, if_pos h1, if_pos h2, if_pos h1, if_pos h4], fun _ => ?_⟩
          rw [if_neg (by omega), if_neg (by simp; omega)]
          by_cases h5 : x < 0
          · rw [if_pos h5, if_pos trivial, if_pos h1, if_pos h2, if_pos (by omega)]
          · rw [if_neg h5, if_pos h1, if_pos h2, if_pos (by simp; omega), if_pos h1, if_pos h2, if_pos (by omega)]
        · refine ⟨_, by rw [if_neg hd, if_pos h1, if_pos h2, if_pos h1, if_neg h4], fun _ => ?_⟩
          rw [if_neg (by omega), if_neg (by simp; omega)]
          by_cases h5 : x < 0
          · rw [if_pos h5, if_pos trivial, if_pos h1, if_pos h2, if_neg (by omega)]
          · rw [if_neg h5, if_pos h1, if_pos h2, if_pos (by simp; omega), if_pos h1, if_pos h2, if_neg (by omega)]
    · have hd : ¬ (decide (0 ≤ n ∧ n < o.length ∧ 0 ≤ x ∧ x < (rd_T41 o n).f1.length) = true) := fun h => h2 (of_decide_eq_true h).2.1
      refine ⟨_, by rw [if_neg hd, if_pos h1, if_neg h2], fun _ => ?_⟩
      rw [if_neg (by omega), if_pos (by simp; omega)]
  · have hd : ¬ (decide (0 ≤ n ∧ n < o.length ∧ 0 ≤ x ∧ x < (rd_T41 o n).f1.length) = true) := fun h => h1 (of_decide_eq_true h).1
    refine ⟨_, by rw [if_neg hd, if_neg h1], fun _ => ?_⟩
    rw [if_pos (by omega), if_pos trivial]

theorem cells_same : ∀ (k : Nat) (x : Int) (o : List S41) (n i : Int), heap_Cells.l0 k x o n i = columbaryref25_Cells.l0 k x o n i
  | 0, _, _, _, _ => rfl
  | k + 1, x, o, n, i => by simp only [heap_Cells.l0, columbaryref25_Cells.l0, cells_same k]

theorem cells_loop (o : List S41) (ho : o.length ≤ 1000) (d : Nat) : ∀ (i x : Int), 0 ≤ i → (o.length : Int) - i = d → Tells (fun k => heap_Cells.l0 k x o (o.length : Int) i) (fun _ => True) := by
  induction d with
  | zero =>
    intro i x h0 hd
    refine Tells.step (f := fun _ => some x) (fun k => ?_) (Tells.now _ trivial)
    simp only [heap_Cells.l0]
    rw [if_neg (by omega)]
  | succ d ih =>
    intro i x h0 hd
    have hlt : i < (o.length : Int) := by omega
    refine Tells.step (fun k => ?_) (ih (i + 1) (wrap64 (x + ((rd_T41 o i).f1.length : Int))) (by omega) (by omega))
    simp only [heap_Cells.l0]
    rw [if_pos hlt, if_pos h0, if_pos hlt, step_i h0 hlt (by omega)]

theorem reads_inner (at_ : Int) (o : List S41) (ho : SmallO o) (n : Int) (ns : List Int) (i : Int) (hi : 0 ≤ i) (hi1 : i < ns.length) (hn : ns.length ≤ 1000) (next : Tells (fun k => columbarylaw25_HeapTells.l3 k at_ o ns (ns.length : Int) (i + 1)) (· = true)) (ys : List Int) (hy : ys.length ≤ 1000) (d : Nat) :
    ∀ (j : Int), 0 ≤ j → (ys.length : Int) - j = d → Tells (fun k => columbarylaw25_HeapTells.l4 k at_ o n ns (ns.length : Int) i ys (ys.length : Int) j) (· = true) := by
  induction d with
  | zero =>
    intro j h0 hd
    refine Tells.step (fun k => ?_) next
    simp only [columbarylaw25_HeapTells.l4]
    rw [if_neg (by omega), step_i hi hi1 (by omega)]
  | succ d ih =>
    intro j h0 hd
    have hlt : j < (ys.length : Int) := by omega
    obtain ⟨r, h1, h2⟩ := read_same o ho n (rd ys j)
    obtain ⟨u, ⟨K, hK⟩, hu⟩ := ih (j + 1) (by omega) (by omega)
    refine ⟨u, ⟨K + 3, fun k hk => ?_⟩, hu⟩
    obtain ⟨k, rfl⟩ : ∃ m, k = m + 3 := ⟨k - 3, by omega⟩
    simp only [columbarylaw25_HeapTells.l4]
    rw [if_pos hlt, if_pos h0, if_pos hlt, h1]
    simp only [Option.bind_some]
    rw [h2]
    simp only [Option.bind_some]
    rw [if_neg (by simp), step_i h0 hlt (by omega)]
    exact hK (k + 2) (by omega)

theorem reads_loop (at_ : Int) (o : List S41) (ho : SmallO o) (ns : List Int) (hn : ns.length ≤ 1000) (d : Nat) : ∀ (i : Int), 0 ≤ i → (ns.length : Int) - i = d → Tells (fun k => columbarylaw25_HeapTells.l3 k at_ o ns (ns.length : Int) i) (· = true) := by
  induction d with
  | zero =>
    intro i h0 hd
    refine Tells.step (f := fun k => (heap_Cells.f k o).bind fun t => some true) (fun k => ?_) (Tells.bind (cells_loop o (by have := ho.1; omega) o.length 0 0 (by omega) (by omega)) (fun _ _ => Tells.now _ rfl))
    simp only [columbarylaw25_HeapTells.l3]
    rw [if_neg (by omega), wakes_true]
    have e : columbaryref25_Cells.f k o = heap_Cells.f k o := (cells_same k 0 o _ 0).symm
    rw [e]
    cases heap_Cells.f k o with
    | none => rfl
    | some t => simp only [Option.bind_some]; rw [if_pos trivial]
  | succ d ih =>
    intro i h0 hd
    have hlt : i < (ns.length : Int) := by omega
    obtain ⟨t, ht, _, _⟩ := within_tells at_ 7 (by omega) (by omega)
    refine Tells.step (fun k => ?_) (reads_inner at_ o ho (rd ns i) ns i h0 hlt hn (ih (i + 1) (by omega) (by omega)) [at_, t] (by simp) 2 0 (by omega) (by simp))
    simp only [columbarylaw25_HeapTells.l3]
    rw [if_pos hlt, if_pos h0, if_pos hlt, ht]
    simp only [Option.bind_some]

theorem finds_loop (x1 x2 x3 x4 x5 : Int) (o : List S41) (vs : List S25) (i : Int) (hi : 0 ≤ i) (hi1 : i < vs.length) (hv : vs.length ≤ 1000) (p q : Int) (next : Tells (fun k => columbarylaw25_HeapTells.l0 k x1 x2 x3 x4 x5 o vs (vs.length : Int) (i + 1)) (· = true)) (rs : List Int) (hr : rs.length ≤ 1000) (d : Nat) :
    ∀ (j : Int), 0 ≤ j → (rs.length : Int) - j = d → Tells (fun k => columbarylaw25_HeapTells.l2 k x1 x2 x3 x4 x5 o vs (vs.length : Int) i rs (rs.length : Int) j p q) (· = true) := by
  induction d with
  | zero =>
    intro j h0 hd
    refine Tells.step (fun k => ?_) next
    simp only [columbarylaw25_HeapTells.l2]
    rw [if_neg (by omega), step_i hi hi1 (by omega)]
  | succ d ih =>
    intro j h0 hd
    have hlt : j < (rs.length : Int) := by omega
    refine Tells.step (f := fun k => (heap_Find.f k o p q (rd rs j)).bind fun _ => columbarylaw25_HeapTells.l2 k x1 x2 x3 x4 x5 o vs (vs.length : Int) i rs (rs.length : Int) (j + 1) p q) (fun k => ?_) (Tells.bind (find_tells o p q _) (fun _ _ => ih (j + 1) (by omega) (by omega)))
    simp only [columbarylaw25_HeapTells.l2]
    rw [if_pos hlt, if_pos h0, if_pos hlt, ← find_same, step_i h0 hlt (by omega)]
    cases heap_Find.f k o p q (rd rs j) with
    | none => rfl
    | some t => simp only [Option.bind_some]; rw [if_pos trivial, if_pos trivial]

theorem shapes_loop (x1 x2 x3 x4 x5 : Int) (o : List S41) (vs : List S25) (i : Int) (hi : 0 ≤ i) (hi1 : i < vs.length) (hv : vs.length ≤ 1000) (p q : Int) (next : Tells (fun k => columbarylaw25_HeapTells.l0 k x1 x2 x3 x4 x5 o vs (vs.length : Int) (i + 1)) (· = true)) (ts : List S46) (ht : ts.length ≤ 1000) (d : Nat) :
    ∀ (j : Int), 0 ≤ j → (ts.length : Int) - j = d → Tells (fun k => columbarylaw25_HeapTells.l1 k x1 x2 x3 x4 x5 o vs (vs.length : Int) i ts (ts.length : Int) j p q) (· = true) := by
  induction d with
  | zero =>
    intro j h0 hd
    obtain ⟨t, ht, _, _⟩ := within_tells x5 4 (by omega) (by omega)
    refine Tells.step (fun k => ?_) (finds_loop x1 x2 x3 x4 x5 o vs i hi hi1 hv p q next [x5, wrap64 (t - 1)] (by simp) 2 0 (by omega) (by simp))
    simp only [columbarylaw25_HeapTells.l1]
    rw [if_neg (by omega), ht]
    simp only [Option.bind_some]
  | succ d ih =>
    intro j h0 hd
    have hlt : j < (ts.length : Int) := by omega
    obtain ⟨r, hr1, hr2⟩ := shape_tells (rd_T46 ts j).f0 (rd_T46 ts j).f1 (rd_T46 ts j).f2 (rd_T46 ts j).f3 (rd_T46 ts j).f4 p q
    refine Tells.step (fun k => ?_) (ih (j + 1) (by omega) (by omega))
    simp only [columbarylaw25_HeapTells.l1]
    rw [if_pos hlt, if_pos h0, if_pos hlt, hr1]
    simp only [Option.bind_some]
    rw [hr2]
    simp only [Option.bind_some]
    rw [if_neg (by simp), step_i h0 hlt (by omega)]

theorem values_loop (x1 x2 x3 x4 x5 : Int) (o : List S41) (ho : SmallO o) (vs : List S25) (hv : vs.length ≤ 1000) (d : Nat) :
    ∀ (i : Int), 0 ≤ i → (vs.length : Int) - i = d → Tells (fun k => columbarylaw25_HeapTells.l0 k x1 x2 x3 x4 x5 o vs (vs.length : Int) i) (· = true) := by
  induction d with
  | zero =>
    intro i h0 hd
    obtain ⟨t, ht, _, _⟩ := within_tells x3 7 (by omega) (by omega)
    refine Tells.step (fun k => ?_) (reads_loop x4 o ho [x3, t] (by simp) 2 0 (by omega) (by simp))
    simp only [columbarylaw25_HeapTells.l0]
    rw [if_neg (by omega), ht]
    simp only [Option.bind_some]
  | succ d ih =>
    intro i h0 hd
    have hlt : i < (vs.length : Int) := by omega
    obtain ⟨t, ht, _, _⟩ := within_tells x1 7 (by omega) (by omega)
    obtain ⟨u, hu, _, _⟩ := within_tells x2 6 (by omega) (by omega)
    refine Tells.step (fun k => ?_) (shapes_loop x1 x2 x3 x4 x5 o vs i h0 hlt hv (rd_T25 vs i).f0 (rd_T25 vs i).f1 (ih (i + 1) (by omega) (by omega)) [⟨x1, x2, 0, ⟨#[]⟩, []⟩, ⟨t, u, 0, ⟨#[]⟩, []⟩] (by simp) 2 0 (by omega) (by simp))
    simp only [columbarylaw25_HeapTells.l0]
    rw [if_pos hlt, if_pos h0, if_pos hlt, ht]
    simp only [Option.bind_some]
    rw [hu]
    simp only [Option.bind_some]

theorem HeapTells (l : List S94) (x1 x2 x3 x4 x5 v0 v1 : Int) (_ : l.length ≤ 9223372036854775807 ∧ ∀ v ∈ l, (Lit.int .i64 v.f0).wf = true ∧ (v.f1.length ≤ 9223372036854775807 ∧ ∀ x ∈ v.f1, (Lit.int .i64 x).wf = true)) (_ : (Lit.int .i64 x1).wf = true) (_ : (Lit.int .i64 x2).wf = true) (_ : (Lit.int .i64 x3).wf = true) (_ : (Lit.int .i64 x4).wf = true) (_ : (Lit.int .i64 x5).wf = true)
    (_ : (Lit.int .i64 v0).wf = true) (_ : (Lit.int .i64 v1).wf = true) : ∃ k, columbarylaw25_HeapTells.f k l x1 x2 x3 x4 x5 v0 v1 = some true := by
  refine Tells.yes ?_
  unfold columbarylaw25_HeapTells.f
  refine Tells.bind (of_tells l) (fun o ho => ?_)
  obtain ⟨p, q, hv⟩ := value_tells x3
  refine Tells.bindAt hv ?_
  exact values_loop x1 x2 x3 x4 x5 o ho [⟨v0, v1⟩, ⟨p, q⟩] (by simp) 2 0 (by omega) (by simp)

end Go.Proofs.Ytgjpcliaggpcaaa.Pure
