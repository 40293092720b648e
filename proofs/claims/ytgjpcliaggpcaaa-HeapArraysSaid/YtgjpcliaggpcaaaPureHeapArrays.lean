/- HeapArrays as a statement over numbers and lists: an array's cells beyond its ends are 0, and take nothing. For every list, place and number. -/
import Derived.Test.YtgjpcliaggpcaaaPHeapArraysx4
namespace Go.Proofs.Ytgjpcliaggpcaaa.Pure
open Go.RowKit Go.Proofs.Ytgjpcliaggpcaaa.PHeapArrays Go.Proofs.YtgjpcliaggpcaaaW.PrintWords Go.Proofs.YtgjpcliaggpcaaaW.PrintLast Go.Proofs.YtgjpcliaggpcaaaW.PrintMore
set_option linter.unusedVariables false
set_option linter.unusedSimpArgs false

theorem wrap_id {x : Int} (h0 : -9223372036854775808 ≤ x) (h1 : x ≤ 9223372036854775807) : wrap64 x = x := by unfold wrap64; omega

theorem step_i {i : Int} {n : Nat} (h0 : 0 ≤ i) (h1 : i < (n : Int)) (hn : n ≤ 9223372036854775807) : wrap64 (i + 1) = i + 1 := wrap_id (by omega) (by omega)

theorem drop_cons {α : Type} (l : List α) (d : α) (i : Int) (h0 : 0 ≤ i) (h1 : i < (l.length : Int)) : l.drop i.toNat = l.getD i.toNat d :: l.drop (i + 1).toNat := by
  have hlt : i.toNat < l.length := by omega
  rw [List.drop_eq_getElem_cons hlt, List.getD_eq_getElem?_getD, List.getElem?_eq_getElem hlt, show (i + 1).toNat = i.toNat + 1 by omega]
  rfl

theorem drop_end {α : Type} (l : List α) (i : Int) (h1 : ¬ i < (l.length : Int)) : l.drop i.toNat = [] := List.drop_eq_nil_of_le (by omega)

theorem cut_int (l : List Int) (n : Int) (h0 : 0 ≤ n) (h1 : n ≤ 1000) : columbarykeep_Cut_int.f l n = some (l.take n.toNat) := by
  have e : l.take ((mn (l.length : Int) n) : Int).toNat = l.take n.toNat := by
    by_cases c : (l.length : Int) ≤ n
    · rw [List.take_of_length_le (by unfold mn; omega), List.take_of_length_le (by omega)]
    · rw [show mn (l.length : Int) n = n by unfold mn; omega]
  have hl : (l.take n.toNat).length ≤ 1000 := by rw [List.length_take]; omega
  unfold columbarykeep_Cut_int.f columbarykeep_Copy_int.f
  rw [if_pos (by unfold mn; omega), if_pos (by unfold mn; omega), e, if_pos (by simp only [List.length_nil]; omega)]
  rfl

/-- Small: few objects, of few cells each. -/
def Small (l : List S41) : Prop := l.length ≤ 1000 ∧ ∀ o ∈ l, o.f1.length ≤ 1000

theorem clone_id (l : List S25) (h : l.length ≤ 1000) : api_Value.f l = some l := by
  unfold api_Value.f
  simp only [Option.bind_some, List.length_nil, List.nil_append]
  rw [if_pos (by omega)]

theorem getD_mem {α : Type} (l : List α) (d : α) (i : Int) (h0 : 0 ≤ i) (h1 : i < (l.length : Int)) : l.getD i.toNat d ∈ l := by
  have hlt : i.toNat < l.length := by omega
  rw [List.getD_eq_getElem?_getD, List.getElem?_eq_getElem hlt]
  exact List.getElem_mem hlt

theorem copied_loop (o : List S41) (hs : Small o) (d : Nat) : ∀ (k : Nat) (acc : List S41) (i : Int), 0 ≤ i → i ≤ o.length → (o.length : Int) - i = d → acc.length ≤ 2000 + i → d < k →
    heap_copied.l0 k acc o (o.length : Int) i = some (acc ++ o.drop i.toNat) := by
  induction d with
  | zero =>
    intro k acc i h0 h1 hd ha hk
    obtain ⟨k, rfl⟩ : ∃ m, k = m + 1 := ⟨k - 1, by omega⟩
    simp only [heap_copied.l0]
    rw [if_neg (by omega), drop_end _ _ (by omega), List.append_nil]
  | succ d ih =>
    intro k acc i h0 h1 hd ha hk
    obtain ⟨k, rfl⟩ : ∃ m, k = m + 1 := ⟨k - 1, by omega⟩
    have hlt : i < (o.length : Int) := by omega
    have hm : (rd_T41 o i).f1.length ≤ 1000 := hs.2 _ (getD_mem o z41 i h0 hlt)
    have hn := hs.1
    simp only [heap_copied.l0]
    rw [if_pos hlt, if_pos h0, if_pos hlt, clone_id _ hm]
    simp only [Option.bind_some]
    rw [if_pos (by omega), step_i h0 hlt (by omega), ih k _ (i + 1) (by omega) (by omega) (by omega) (by rw [List.length_append]; simp; omega) (by omega), drop_cons o z41 i h0 hlt]
    simp [rd_T41]

theorem copied_id (o : List S41) (hs : Small o) (k : Nat) (hk : o.length < k) : heap_copied.f k o = some o := by
  unfold heap_copied.f
  rw [copied_loop o hs o.length k [] 0 (by omega) (by omega) (by omega) (by simp) hk]
  simp

theorem sameValues_loop (l : List S25) (hl : l.length ≤ 1000) (d : Nat) : ∀ (k : Nat) (i : Int), 0 ≤ i → i ≤ l.length → (l.length : Int) - i = d → d < k → columbaryref25_sameValues.l0 k l l (l.length : Int) i = some true := by
  induction d with
  | zero =>
    intro k i h0 h1 hd hk
    obtain ⟨k, rfl⟩ : ∃ m, k = m + 1 := ⟨k - 1, by omega⟩
    simp only [columbaryref25_sameValues.l0]
    rw [if_neg (by omega)]
  | succ d ih =>
    intro k i h0 h1 hd hk
    obtain ⟨k, rfl⟩ : ∃ m, k = m + 1 := ⟨k - 1, by omega⟩
    have hlt : i < (l.length : Int) := by omega
    simp only [columbaryref25_sameValues.l0]
    rw [if_pos hlt, if_pos h0, if_pos hlt, if_pos hlt, if_neg (by simp), step_i h0 hlt (by omega)]
    exact ih k (i + 1) (by omega) (by omega) (by omega) (by omega)

theorem sameValues_refl (l : List S25) (hl : l.length ≤ 1000) (k : Nat) (hk : l.length < k) : columbaryref25_sameValues.f k l l = some true := by
  unfold columbaryref25_sameValues.f
  rw [if_pos rfl]
  exact sameValues_loop l hl l.length k 0 (by omega) (by omega) (by omega) hk

theorem sameObjs_loop (l : List S41) (hs : Small l) (d : Nat) : ∀ (k : Nat) (i : Int), 0 ≤ i → i ≤ l.length → (l.length : Int) - i = d → d + 1001 < k → columbaryref25_SameObjs.l0 k l l (l.length : Int) i = some true := by
  induction d with
  | zero =>
    intro k i h0 h1 hd hk
    obtain ⟨k, rfl⟩ : ∃ m, k = m + 1 := ⟨k - 1, by omega⟩
    simp only [columbaryref25_SameObjs.l0]
    rw [if_neg (by omega)]
  | succ d ih =>
    intro k i h0 h1 hd hk
    obtain ⟨k, rfl⟩ : ∃ m, k = m + 1 := ⟨k - 1, by omega⟩
    have hlt : i < (l.length : Int) := by omega
    have hm : (rd_T41 l i).f1.length ≤ 1000 := hs.2 _ (getD_mem l z41 i h0 hlt)
    have hn := hs.1
    simp only [columbaryref25_SameObjs.l0]
    rw [if_pos hlt, if_pos h0, if_pos hlt, if_pos hlt, if_pos trivial, sameValues_refl _ hm k (by omega)]
    simp only [Option.bind_some, if_true]
    rw [step_i h0 hlt (by omega)]
    exact ih k (i + 1) (by omega) (by omega) (by omega) (by omega)

theorem sameObjs_refl (l : List S41) (hs : Small l) (k : Nat) (hk : 2002 < k) : columbaryref25_SameObjs.f k l l = some true := by
  have := hs.1
  unfold columbaryref25_SameObjs.f
  rw [if_pos rfl]
  exact sameObjs_loop l hs l.length k 0 (by omega) (by omega) (by omega) (by omega)

theorem row_loop (x1 x2 : Int) (t : List Int) (ht : t.length ≤ 6) (d : Nat) : ∀ (k : Nat) (acc : List S25) (i : Int), 0 ≤ i → i ≤ t.length → (t.length : Int) - i = d → acc.length ≤ i →
    columbarylaw25_HeapArrays.l0 (k + 1 + d) x1 x2 acc t (t.length : Int) i = columbarylaw25_HeapArrays.l0 (k + 1) x1 x2 (acc ++ (t.drop i.toNat).map fun c => ⟨1, c⟩) t (t.length : Int) (t.length : Int) := by
  induction d with
  | zero =>
    intro k acc i h0 h1 hd ha
    rw [drop_end _ _ (by omega), List.map_nil, List.append_nil, show i = (t.length : Int) by omega, Nat.add_zero]
  | succ d ih =>
    intro k acc i h0 h1 hd ha
    have hlt : i < (t.length : Int) := by omega
    rw [show k + 1 + (d + 1) = (k + 1 + d) + 1 by omega]
    conv => lhs; rw [columbarylaw25_HeapArrays.l0]
    rw [if_pos hlt, if_pos h0, if_pos hlt, if_pos (by omega), step_i h0 hlt (by omega), ih k _ (i + 1) (by omega) (by omega) (by omega) (by rw [List.length_append]; simp; omega), drop_cons t 0 i h0 hlt]
    simp [rd]

theorem has_one (row : List S25) (x : Int) : heap_Has.f [⟨-1, row⟩] 0 x = some (decide (0 ≤ x ∧ x < row.length)) := by
  unfold heap_Has.f
  rw [if_pos (by omega), if_pos (by simp)]
  by_cases c : x ≥ 0
  · rw [if_pos c, if_pos (by omega)]
    simp [rd_T41, c]
  · rw [if_neg c]
    simp [c]

theorem read_in (row : List S25) (x : Int) (h0 : 0 ≤ x) (h1 : x < row.length) : heap_Read.f [⟨-1, row⟩] 0 x = some ((rd_T25 row x).f0, (rd_T25 row x).f1) := by
  unfold heap_Read.f
  rw [has_one, decide_eq_true (And.intro h0 h1)]
  simp only [Option.bind_some, if_true]
  rw [if_pos (by omega), if_pos (by simp), if_pos h0, if_pos (by simpa [rd_T41] using h1)]
  simp [rd_T41]

theorem read_out (row : List S25) (x : Int) (h : ¬ (0 ≤ x ∧ x < row.length)) : heap_Read.f [⟨-1, row⟩] 0 x = some (1, 0) := by
  unfold heap_Read.f
  rw [has_one, decide_eq_false h]
  simp only [Option.bind_some]
  rw [if_neg (by simp), if_pos (by omega), if_pos (by simp), if_pos (by omega), if_pos (by simp [rd_T41])]

theorem wakes_true : columbarylaw25_wakes.f = some true := by decide

theorem HeapArrays (l : List Int) (x n : Int) (_ : l.length ≤ 9223372036854775807 ∧ ∀ v ∈ l, (Lit.int .i64 v).wf = true) (_ : (Lit.int .i64 x).wf = true) (_ : (Lit.int .i64 n).wf = true) : ∃ k, columbarylaw25_HeapArrays.f k l x n = some true := by
  obtain ⟨t, ht, e⟩ : ∃ t : List Int, t.length ≤ 6 ∧ columbarykeep_Cut_int.f l 6 = some t := ⟨_, by rw [List.length_take]; omega, cut_int l 6 (by omega) (by omega)⟩
  refine ⟨3000 + 1 + t.length, ?_⟩
  unfold columbarylaw25_HeapArrays.f
  rw [e]
  simp only [Option.bind_some]
  rw [row_loop x n t ht t.length 3000 [] 0 (by omega) (by omega) (by omega) (by simp), List.nil_append]
  generalize hr : ((List.drop (Int.toNat 0) t).map fun c => (⟨1, c⟩ : S25)) = row
  have hrl : row.length ≤ 6 := by rw [← hr]; simpa using ht
  have hs : Small [(⟨-1, row⟩ : S41)] := ⟨by simp, fun o ho => by simp at ho; subst ho; show row.length ≤ 1000; omega⟩
  have hmake : heap_Make.f 3000 [] (-1) row = some ([⟨-1, row⟩], 0) := by
    unfold heap_Make.f
    rw [copied_id [] ⟨by simp, fun o ho => by simp at ho⟩ 3000 (by simp), clone_id row (by omega)]
    simp
  conv => lhs; rw [columbarylaw25_HeapArrays.l0]
  rw [if_neg (by omega), hmake]
  simp only [Option.bind_some]
  by_cases c : 0 ≤ x ∧ x < (row.length : Int)
  · have hw : heap_Write.f 3000 [⟨-1, row⟩] 0 x 1 n = some [⟨-1, row.set x.toNat ⟨1, n⟩⟩] := by
      unfold heap_Write.f
      rw [copied_id _ hs 3000 (by simp)]
      simp only [Option.bind_some]
      rw [has_one, decide_eq_true c]
      simp only [Option.bind_some, if_true]
      rw [if_pos (by omega), if_pos (by simp), if_pos c.1, if_pos (by simpa [rd_T41] using c.2)]
      simp [rd_T41]
    rw [read_in row x c.1 c.2, hw]
    simp only [Option.bind_some]
    rw [read_in _ x c.1 (by rw [List.length_set]; exact c.2)]
    simp only [Option.bind_some]
    rw [if_pos c.1, decide_eq_true c.2]
    rw [show (3000 : Nat) = 2999 + 1 from rfl]
    simp only [columbarylaw25_HeapArrays.j1]
    rw [if_pos trivial, if_pos c.1, if_pos c.2, if_pos (by simp)]
    have hlt : x.toNat < row.length := by omega
    have e2 : rd_T25 (row.set x.toNat ⟨1, n⟩) x = ⟨1, n⟩ := by
      unfold rd_T25
      rw [List.getD_eq_getElem?_getD, List.getElem?_set_self hlt]
      rfl
    rw [e2, if_pos (by simp), wakes_true]
    rfl
  · have hw : heap_Write.f 3000 [⟨-1, row⟩] 0 x 1 n = some [⟨-1, row⟩] := by
      unfold heap_Write.f
      rw [copied_id _ hs 3000 (by simp)]
      simp only [Option.bind_some]
      rw [has_one, decide_eq_false c]
      simp only [Option.bind_some]
      rw [if_neg (by simp)]
    have hj : columbarylaw25_HeapArrays.j1 3000 x n row [⟨-1, row⟩] [⟨-1, row⟩] false 1 0 1 0 = some true := by
      rw [show (3000 : Nat) = 2999 + 1 from rfl]
      simp only [columbarylaw25_HeapArrays.j1]
      rw [if_neg (by simp), if_pos (by simp), if_pos (by simp), sameObjs_refl _ hs 2999 (by omega)]
      simp only [Option.bind_some, if_true]
      rw [wakes_true]
      rfl
    rw [read_out row x c, hw]
    simp only [Option.bind_some]
    rw [read_out row x c]
    simp only [Option.bind_some]
    by_cases c0 : x ≥ 0
    · rw [if_pos c0, decide_eq_false (fun h => c ⟨c0, h⟩)]
      exact hj
    · rw [if_neg c0]
      exact hj

end Go.Proofs.Ytgjpcliaggpcaaa.Pure
