/- What the Go functions of this claim compute, as Lean functions, and that they do so: walks made by a program of the session out of the translation. No condition beyond what each theorem states. -/
import Derived.Test.YtgjpcliaggpcaaaPHeapTellsx0
import Derived.Test.YtgjpcliaggpcaaaPHeapTellsx1
import Derived.Test.YtgjpcliaggpcaaaPHeapTellsx2
import Derived.Test.YtgjpcliaggpcaaaPHeapTellsx3
import Derived.Test.YtgjpcliaggpcaaaPHeapTellsx4
namespace Go.Proofs.Ytgjpcliaggpcaaa.PHeapTells
open Go.RowKit Go.Proofs.YtgjpcliaggpcaaaW.PrintWords Go.Proofs.YtgjpcliaggpcaaaW.PrintLast Go.Proofs.YtgjpcliaggpcaaaW.PrintMore
attribute [local go_sem] max2_int min2_int max_two min_two max_three min_three max_four min_four   -- for this text's walks alone
set_option linter.unusedVariables false
set_option linter.unusedSimpArgs false

attribute [local go_sem high] eqA25
/-! ### columbarylaw25_HeapTells: function 5 -/
mutual
def columbarylaw25_HeapTells.l0 : Nat → Int → Int → Int → Int → Int → List (S41) → List (S25) → Int → Int → Option (Bool)
  | 0, _, _, _, _, _, _, _, _, _ => none
  | k + 1, x1, x2, x3, x4, x5, x15, x35, x36, x37 => if x37 < x36 then (if 0 ≤ x37 then (if x37 < (x35.length : Int) then ((columbarykeep_Within.f x1 7).bind fun t176 => ((columbarykeep_Within.f x2 6).bind fun t177 => ((some (([(⟨x1, x2, 0, (⟨#[]⟩ : ByteArray), ([] : List (S127))⟩ : S46), (⟨t176, t177, 0, (⟨#[]⟩ : ByteArray), ([] : List (S127))⟩ : S46)] : List (S46)) : List (S46))).bind fun y178 => (columbarylaw25_HeapTells.l1 k x1 x2 x3 x4 x5 x15 x35 x36 x37 y178 (y178.length : Int) 0 ((rd_T25 x35 x37).f0) ((rd_T25 x35 x37).f1))))) else (none)) else (none)) else ((columbarykeep_Within.f x3 7).bind fun t194 => ((some (([x3, t194] : List Int) : List Int)).bind fun y195 => (columbarylaw25_HeapTells.l3 k x4 x15 y195 (y195.length : Int) 0)))
def columbarylaw25_HeapTells.l1 : Nat → Int → Int → Int → Int → Int → List (S41) → List (S25) → Int → Int → List (S46) → Int → Int → Int → Int → Option (Bool)
  | 0, _, _, _, _, _, _, _, _, _, _, _, _, _, _ => none
  | k + 1, x1, x2, x3, x4, x5, x15, x35, x36, x37, x49, x50, x51, x176000, x176001 => if x51 < x50 then (if 0 ≤ x51 then (if x51 < (x49.length : Int) then ((heap_Shape.f ((rd_T46 x49 x51).f0) ((rd_T46 x49 x51).f1) ((rd_T46 x49 x51).f2) ((rd_T46 x49 x51).f3) ((rd_T46 x49 x51).f4) x176000 x176001).bind fun t183 => ((columbaryref25_Shape.f ((rd_T46 x49 x51).f0) ((rd_T46 x49 x51).f1) ((rd_T46 x49 x51).f2) ((rd_T46 x49 x51).f3) ((rd_T46 x49 x51).f4) x176000 x176001).bind fun t184 => (if (t183 != t184) = true then (some false) else (columbarylaw25_HeapTells.l1 k x1 x2 x3 x4 x5 x15 x35 x36 x37 x49 x50 (wrap64 (x51 + 1)) x176000 x176001)))) else (none)) else (none)) else ((columbarykeep_Within.f x5 4).bind fun t185 => ((some (([x5, wrap64 (t185 - 1)] : List Int) : List Int)).bind fun y186 => (columbarylaw25_HeapTells.l2 k x1 x2 x3 x4 x5 x15 x35 x36 x37 y186 (y186.length : Int) 0 x176000 x176001)))
def columbarylaw25_HeapTells.l2 : Nat → Int → Int → Int → Int → Int → List (S41) → List (S25) → Int → Int → List Int → Int → Int → Int → Int → Option (Bool)
  | 0, _, _, _, _, _, _, _, _, _, _, _, _, _, _ => none
  | k + 1, x1, x2, x3, x4, x5, x15, x35, x36, x37, x67, x68, x69, x176000, x176001 => if x69 < x68 then (if 0 ≤ x69 then (if x69 < (x67.length : Int) then ((heap_Find.f k x15 x176000 x176001 (rd x67 x69)).bind fun bt190 => ((columbaryref25_FindObj.f k x15 x176000 x176001 (rd x67 x69)).bind fun bt192 => (if bt190.1 = bt192.1 then (if bt190.2 = bt192.2 then (columbarylaw25_HeapTells.l2 k x1 x2 x3 x4 x5 x15 x35 x36 x37 x67 x68 (wrap64 (x69 + 1)) x176000 x176001) else (some false)) else (some false)))) else (none)) else (none)) else (columbarylaw25_HeapTells.l0 k x1 x2 x3 x4 x5 x15 x35 x36 (wrap64 (x37 + 1)))
def columbarylaw25_HeapTells.l3 : Nat → Int → List (S41) → List Int → Int → Int → Option (Bool)
  | 0, _, _, _, _, _ => none
  | k + 1, x4, x15, x100, x101, x102 => if x102 < x101 then (if 0 ≤ x102 then (if x102 < (x100.length : Int) then ((columbarykeep_Within.f x4 7).bind fun t202 => ((some (([x4, t202] : List Int) : List Int)).bind fun y203 => (columbarylaw25_HeapTells.l4 k x4 x15 (rd x100 x102) x100 x101 x102 y203 (y203.length : Int) 0))) else (none)) else (none)) else ((heap_Cells.f k x15).bind fun t198 => ((columbaryref25_Cells.f k x15).bind fun t199 => (if t198 = t199 then ((columbarylaw25_wakes.f).bind fun t200 => (some t200)) else (some false))))
def columbarylaw25_HeapTells.l4 : Nat → Int → List (S41) → Int → List Int → Int → Int → List Int → Int → Int → Option (Bool)
  | 0, _, _, _, _, _, _, _, _, _ => none
  | k + 1, x4, x15, x27, x100, x101, x102, x109, x110, x111 => if x111 < x110 then (if 0 ≤ x111 then (if x111 < (x109.length : Int) then ((heap_Read.f x15 x27 (rd x109 x111)).bind fun bt207 => ((columbaryref25_Read.f k x15 x27 (rd x109 x111)).bind fun bt209 => (if (!(bt207.1 == bt209.1) || (!(bt207.2 == bt209.2))) = true then (some false) else (columbarylaw25_HeapTells.l4 k x4 x15 x27 x100 x101 x102 x109 x110 (wrap64 (x111 + 1)))))) else (none)) else (none)) else (columbarylaw25_HeapTells.l3 k x4 x15 x100 x101 (wrap64 (x102 + 1)))
end
def columbarylaw25_HeapTells.f (k : Nat) (l0 : List (S94)) (a1 : Int) (a2 : Int) (a3 : Int) (a4 : Int) (a5 : Int) (a6_0 : Int) (a6_1 : Int) : Option (Bool) := (columbarylaw25_of.f k l0).bind fun t166 => ((columbarylaw25_value.f a3).bind fun bt169 => ((some (([(⟨a6_0, a6_1⟩ : S25), (⟨bt169.1, bt169.2⟩ : S25)] : List (S25)) : List (S25))).bind fun y171 => (columbarylaw25_HeapTells.l0 k a1 a2 a3 a4 a5 t166 y171 (y171.length : Int) 0)))
theorem columbarylaw25_HeapTells.mono_l : ∀ k, (∀ y0 y1 y2 y3 y4 y5 y6 y7 y8, LeO (columbarylaw25_HeapTells.l0 k y0 y1 y2 y3 y4 y5 y6 y7 y8) (columbarylaw25_HeapTells.l0 (k + 1) y0 y1 y2 y3 y4 y5 y6 y7 y8)) ∧ (∀ y0 y1 y2 y3 y4 y5 y6 y7 y8 y9 y10 y11 y12 y13, LeO (columbarylaw25_HeapTells.l1 k y0 y1 y2 y3 y4 y5 y6 y7 y8 y9 y10 y11 y12 y13) (columbarylaw25_HeapTells.l1 (k + 1) y0 y1 y2 y3 y4 y5 y6 y7 y8 y9 y10 y11 y12 y13)) ∧ (∀ y0 y1 y2 y3 y4 y5 y6 y7 y8 y9 y10 y11 y12 y13, LeO (columbarylaw25_HeapTells.l2 k y0 y1 y2 y3 y4 y5 y6 y7 y8 y9 y10 y11 y12 y13) (columbarylaw25_HeapTells.l2 (k + 1) y0 y1 y2 y3 y4 y5 y6 y7 y8 y9 y10 y11 y12 y13)) ∧ (∀ y0 y1 y2 y3 y4, LeO (columbarylaw25_HeapTells.l3 k y0 y1 y2 y3 y4) (columbarylaw25_HeapTells.l3 (k + 1) y0 y1 y2 y3 y4)) ∧ (∀ y0 y1 y2 y3 y4 y5 y6 y7 y8, LeO (columbarylaw25_HeapTells.l4 k y0 y1 y2 y3 y4 y5 y6 y7 y8) (columbarylaw25_HeapTells.l4 (k + 1) y0 y1 y2 y3 y4 y5 y6 y7 y8))
  | 0 => ⟨fun _ _ _ _ _ _ _ _ _ r h => by simp [columbarylaw25_HeapTells.l0] at h, fun _ _ _ _ _ _ _ _ _ _ _ _ _ _ r h => by simp [columbarylaw25_HeapTells.l1] at h, fun _ _ _ _ _ _ _ _ _ _ _ _ _ _ r h => by simp [columbarylaw25_HeapTells.l2] at h, fun _ _ _ _ _ r h => by simp [columbarylaw25_HeapTells.l3] at h, fun _ _ _ _ _ _ _ _ _ r h => by simp [columbarylaw25_HeapTells.l4] at h⟩
  | k + 1 => by
    obtain ⟨ih0, ih1, ih2, ih3, ih4⟩ := columbarylaw25_HeapTells.mono_l k
    refine ⟨?_, ?_, ?_, ?_, ?_⟩
    · intro y0 y1 y2 y3 y4 y5 y6 y7 y8
      unfold columbarylaw25_HeapTells.l0
      repeat' first
      | (with_reducible exact ih0 _ _ _ _ _ _ _ _ _)
      | (with_reducible exact ih1 _ _ _ _ _ _ _ _ _ _ _ _ _ _)
      | (with_reducible exact ih2 _ _ _ _ _ _ _ _ _ _ _ _ _ _)
      | (with_reducible exact ih3 _ _ _ _ _)
      | (with_reducible exact ih4 _ _ _ _ _ _ _ _ _)
      | (with_reducible exact columbarylaw25_of.mono _ _)
      | (with_reducible exact columbaryref25_Cells.mono _ _)
      | (with_reducible exact columbaryref25_FindObj.mono _ _ _ _ _)
      | (with_reducible exact columbaryref25_Read.mono _ _ _ _)
      | (with_reducible exact heap_Cells.mono _ _)
      | (with_reducible exact heap_Find.mono _ _ _ _ _)
      | (with_reducible exact LeO.refl _)
      | (with_reducible exact LeO.none _)
      | (with_reducible refine LeO.ite ?_ ?_)
      | (with_reducible refine LeO.bind ?_ (fun _ => ?_))
      | exact ih0 _ _ _ _ _ _ _ _ _
      | exact ih1 _ _ _ _ _ _ _ _ _ _ _ _ _ _
      | exact ih2 _ _ _ _ _ _ _ _ _ _ _ _ _ _
      | exact ih3 _ _ _ _ _
      | exact ih4 _ _ _ _ _ _ _ _ _
      | exact columbarylaw25_of.mono _ _
      | exact columbaryref25_Cells.mono _ _
      | exact columbaryref25_FindObj.mono _ _ _ _ _
      | exact columbaryref25_Read.mono _ _ _ _
      | exact heap_Cells.mono _ _
      | exact heap_Find.mono _ _ _ _ _
      | exact LeO.none _
      | refine LeO.ite ?_ ?_
      | refine LeO.bind ?_ (fun _ => ?_)
    · intro y0 y1 y2 y3 y4 y5 y6 y7 y8 y9 y10 y11 y12 y13
      unfold columbarylaw25_HeapTells.l1
      repeat' first
      | (with_reducible exact ih0 _ _ _ _ _ _ _ _ _)
      | (with_reducible exact ih1 _ _ _ _ _ _ _ _ _ _ _ _ _ _)
      | (with_reducible exact ih2 _ _ _ _ _ _ _ _ _ _ _ _ _ _)
      | (with_reducible exact ih3 _ _ _ _ _)
      | (with_reducible exact ih4 _ _ _ _ _ _ _ _ _)
      | (with_reducible exact columbarylaw25_of.mono _ _)
      | (with_reducible exact columbaryref25_Cells.mono _ _)
      | (with_reducible exact columbaryref25_FindObj.mono _ _ _ _ _)
      | (with_reducible exact columbaryref25_Read.mono _ _ _ _)
      | (with_reducible exact heap_Cells.mono _ _)
      | (with_reducible exact heap_Find.mono _ _ _ _ _)
      | (with_reducible exact LeO.refl _)
      | (with_reducible exact LeO.none _)
      | (with_reducible refine LeO.ite ?_ ?_)
      | (with_reducible refine LeO.bind ?_ (fun _ => ?_))
      | exact ih0 _ _ _ _ _ _ _ _ _
      | exact ih1 _ _ _ _ _ _ _ _ _ _ _ _ _ _
      | exact ih2 _ _ _ _ _ _ _ _ _ _ _ _ _ _
      | exact ih3 _ _ _ _ _
      | exact ih4 _ _ _ _ _ _ _ _ _
      | exact columbarylaw25_of.mono _ _
      | exact columbaryref25_Cells.mono _ _
      | exact columbaryref25_FindObj.mono _ _ _ _ _
      | exact columbaryref25_Read.mono _ _ _ _
      | exact heap_Cells.mono _ _
      | exact heap_Find.mono _ _ _ _ _
      | exact LeO.none _
      | refine LeO.ite ?_ ?_
      | refine LeO.bind ?_ (fun _ => ?_)
    · intro y0 y1 y2 y3 y4 y5 y6 y7 y8 y9 y10 y11 y12 y13
      unfold columbarylaw25_HeapTells.l2
      repeat' first
      | (with_reducible exact ih0 _ _ _ _ _ _ _ _ _)
      | (with_reducible exact ih1 _ _ _ _ _ _ _ _ _ _ _ _ _ _)
      | (with_reducible exact ih2 _ _ _ _ _ _ _ _ _ _ _ _ _ _)
      | (with_reducible exact ih3 _ _ _ _ _)
      | (with_reducible exact ih4 _ _ _ _ _ _ _ _ _)
      | (with_reducible exact columbarylaw25_of.mono _ _)
      | (with_reducible exact columbaryref25_Cells.mono _ _)
      | (with_reducible exact columbaryref25_FindObj.mono _ _ _ _ _)
      | (with_reducible exact columbaryref25_Read.mono _ _ _ _)
      | (with_reducible exact heap_Cells.mono _ _)
      | (with_reducible exact heap_Find.mono _ _ _ _ _)
      | (with_reducible exact LeO.refl _)
      | (with_reducible exact LeO.none _)
      | (with_reducible refine LeO.ite ?_ ?_)
      | (with_reducible refine LeO.bind ?_ (fun _ => ?_))
      | exact ih0 _ _ _ _ _ _ _ _ _
      | exact ih1 _ _ _ _ _ _ _ _ _ _ _ _ _ _
      | exact ih2 _ _ _ _ _ _ _ _ _ _ _ _ _ _
      | exact ih3 _ _ _ _ _
      | exact ih4 _ _ _ _ _ _ _ _ _
      | exact columbarylaw25_of.mono _ _
      | exact columbaryref25_Cells.mono _ _
      | exact columbaryref25_FindObj.mono _ _ _ _ _
      | exact columbaryref25_Read.mono _ _ _ _
      | exact heap_Cells.mono _ _
      | exact heap_Find.mono _ _ _ _ _
      | exact LeO.none _
      | refine LeO.ite ?_ ?_
      | refine LeO.bind ?_ (fun _ => ?_)
    · intro y0 y1 y2 y3 y4
      unfold columbarylaw25_HeapTells.l3
      repeat' first
      | (with_reducible exact ih0 _ _ _ _ _ _ _ _ _)
      | (with_reducible exact ih1 _ _ _ _ _ _ _ _ _ _ _ _ _ _)
      | (with_reducible exact ih2 _ _ _ _ _ _ _ _ _ _ _ _ _ _)
      | (with_reducible exact ih3 _ _ _ _ _)
      | (with_reducible exact ih4 _ _ _ _ _ _ _ _ _)
      | (with_reducible exact columbarylaw25_of.mono _ _)
      | (with_reducible exact columbaryref25_Cells.mono _ _)
      | (with_reducible exact columbaryref25_FindObj.mono _ _ _ _ _)
      | (with_reducible exact columbaryref25_Read.mono _ _ _ _)
      | (with_reducible exact heap_Cells.mono _ _)
      | (with_reducible exact heap_Find.mono _ _ _ _ _)
      | (with_reducible exact LeO.refl _)
      | (with_reducible exact LeO.none _)
      | (with_reducible refine LeO.ite ?_ ?_)
      | (with_reducible refine LeO.bind ?_ (fun _ => ?_))
      | exact ih0 _ _ _ _ _ _ _ _ _
      | exact ih1 _ _ _ _ _ _ _ _ _ _ _ _ _ _
      | exact ih2 _ _ _ _ _ _ _ _ _ _ _ _ _ _
      | exact ih3 _ _ _ _ _
      | exact ih4 _ _ _ _ _ _ _ _ _
      | exact columbarylaw25_of.mono _ _
      | exact columbaryref25_Cells.mono _ _
      | exact columbaryref25_FindObj.mono _ _ _ _ _
      | exact columbaryref25_Read.mono _ _ _ _
      | exact heap_Cells.mono _ _
      | exact heap_Find.mono _ _ _ _ _
      | exact LeO.none _
      | refine LeO.ite ?_ ?_
      | refine LeO.bind ?_ (fun _ => ?_)
    · intro y0 y1 y2 y3 y4 y5 y6 y7 y8
      unfold columbarylaw25_HeapTells.l4
      repeat' first
      | (with_reducible exact ih0 _ _ _ _ _ _ _ _ _)
      | (with_reducible exact ih1 _ _ _ _ _ _ _ _ _ _ _ _ _ _)
      | (with_reducible exact ih2 _ _ _ _ _ _ _ _ _ _ _ _ _ _)
      | (with_reducible exact ih3 _ _ _ _ _)
      | (with_reducible exact ih4 _ _ _ _ _ _ _ _ _)
      | (with_reducible exact columbarylaw25_of.mono _ _)
      | (with_reducible exact columbaryref25_Cells.mono _ _)
      | (with_reducible exact columbaryref25_FindObj.mono _ _ _ _ _)
      | (with_reducible exact columbaryref25_Read.mono _ _ _ _)
      | (with_reducible exact heap_Cells.mono _ _)
      | (with_reducible exact heap_Find.mono _ _ _ _ _)
      | (with_reducible exact LeO.refl _)
      | (with_reducible exact LeO.none _)
      | (with_reducible refine LeO.ite ?_ ?_)
      | (with_reducible refine LeO.bind ?_ (fun _ => ?_))
      | exact ih0 _ _ _ _ _ _ _ _ _
      | exact ih1 _ _ _ _ _ _ _ _ _ _ _ _ _ _
      | exact ih2 _ _ _ _ _ _ _ _ _ _ _ _ _ _
      | exact ih3 _ _ _ _ _
      | exact ih4 _ _ _ _ _ _ _ _ _
      | exact columbarylaw25_of.mono _ _
      | exact columbaryref25_Cells.mono _ _
      | exact columbaryref25_FindObj.mono _ _ _ _ _
      | exact columbaryref25_Read.mono _ _ _ _
      | exact heap_Cells.mono _ _
      | exact heap_Find.mono _ _ _ _ _
      | exact LeO.none _
      | refine LeO.ite ?_ ?_
      | refine LeO.bind ?_ (fun _ => ?_)
theorem columbarylaw25_HeapTells.mono : ∀ a0 a1 a2 a3 a4 a5 a6 a7 k, LeO (columbarylaw25_HeapTells.f k a0 a1 a2 a3 a4 a5 a6 a7) (columbarylaw25_HeapTells.f (k + 1) a0 a1 a2 a3 a4 a5 a6 a7) := by
  intro a0 a1 a2 a3 a4 a5 a6 a7 k
  obtain ⟨ih0, ih1, ih2, ih3, ih4⟩ := columbarylaw25_HeapTells.mono_l k
  unfold columbarylaw25_HeapTells.f
  repeat' first
      | (with_reducible exact ih0 _ _ _ _ _ _ _ _ _)
      | (with_reducible exact ih1 _ _ _ _ _ _ _ _ _ _ _ _ _ _)
      | (with_reducible exact ih2 _ _ _ _ _ _ _ _ _ _ _ _ _ _)
      | (with_reducible exact ih3 _ _ _ _ _)
      | (with_reducible exact ih4 _ _ _ _ _ _ _ _ _)
      | (with_reducible exact columbarylaw25_of.mono _ _)
      | (with_reducible exact columbaryref25_Cells.mono _ _)
      | (with_reducible exact columbaryref25_FindObj.mono _ _ _ _ _)
      | (with_reducible exact columbaryref25_Read.mono _ _ _ _)
      | (with_reducible exact heap_Cells.mono _ _)
      | (with_reducible exact heap_Find.mono _ _ _ _ _)
      | (with_reducible exact LeO.refl _)
      | (with_reducible exact LeO.none _)
      | (with_reducible refine LeO.ite ?_ ?_)
      | (with_reducible refine LeO.bind ?_ (fun _ => ?_))
      | exact ih0 _ _ _ _ _ _ _ _ _
      | exact ih1 _ _ _ _ _ _ _ _ _ _ _ _ _ _
      | exact ih2 _ _ _ _ _ _ _ _ _ _ _ _ _ _
      | exact ih3 _ _ _ _ _
      | exact ih4 _ _ _ _ _ _ _ _ _
      | exact columbarylaw25_of.mono _ _
      | exact columbaryref25_Cells.mono _ _
      | exact columbaryref25_FindObj.mono _ _ _ _ _
      | exact columbaryref25_Read.mono _ _ _ _
      | exact heap_Cells.mono _ _
      | exact heap_Find.mono _ _ _ _ _
      | exact LeO.none _
      | refine LeO.ite ?_ ?_
      | refine LeO.bind ?_ (fun _ => ?_)
set_option maxHeartbeats 8000000 in
set_option maxRecDepth 100000 in
theorem columbarylaw25_HeapTells.calls (k : Nat) (A0 : Option Addr) (c0 : Nat) (l0 : List (S94)) (a1 : Int) (a2 : Int) (a3 : Int) (a4 : Int) (a5 : Int) (a6_0 : Int) (a6_1 : Int) (r : Bool) (w : World) (hr0 : Kd.C k94 w A0 l0.length l0) (hc0 : l0.length ≤ c0) (h : columbarylaw25_HeapTells.f k l0 a1 a2 a3 a4 a5 a6_0 a6_1 = some r) :
    Calls Try.prog 5 #[.slice A0 l0.length c0, .int .i64 a1, .int .i64 a2, .int .i64 a3, .int .i64 a4, .int .i64 a5, .agg #[.int .i64 a6_0, .int .i64 a6_1]] w fun e w' => e = .returned (.bool r) ∧ Below w.heap.size w w' := by
  have hu25 := Try.underlying25
  have hu46 := Try.underlying46
  have HR0 := Aside0.mk hr0
  have HC0 := Aside0.mk hc0
  clear hr0 hc0
  have HB := Aside0.mk (Below.refl w.heap.size w)
  have H : ((columbarylaw25_of.f k l0).bind fun t166 => ((columbarylaw25_value.f a3).bind fun bt169 => ((some (([(⟨a6_0, a6_1⟩ : S25), (⟨bt169.1, bt169.2⟩ : S25)] : List (S25)) : List (S25))).bind fun y171 => (columbarylaw25_HeapTells.l0 k a1 a2 a3 a4 a5 t166 y171 (y171.length : Int) 0)))) = some r := h
  clear h
  replace H := Option.bind_eq_some_iff.mp H
  obtain ⟨t166, A80, H⟩ := H
  replace H : ((columbarylaw25_value.f a3).bind fun bt169 => ((some (([(⟨a6_0, a6_1⟩ : S25), (⟨bt169.1, bt169.2⟩ : S25)] : List (S25)) : List (S25))).bind fun y171 => (columbarylaw25_HeapTells.l0 k a1 a2 a3 a4 a5 t166 y171 (y171.length : Int) 0))) = some r := H
  have A8 := Aside0.mk A80
  clear A80
  replace H := Option.bind_eq_some_iff.mp H
  obtain ⟨⟨t169, t170⟩, A90, H⟩ := H
  replace H : ((some (([(⟨a6_0, a6_1⟩ : S25), (⟨t169, t170⟩ : S25)] : List (S25)) : List (S25))).bind fun y171 => (columbarylaw25_HeapTells.l0 k a1 a2 a3 a4 a5 t166 y171 (y171.length : Int) 0)) = some r := H
  have A9 := Aside0.mk A90
  clear A90
  obtain ⟨y171, hy171⟩ : ∃ y_ : List (S25), y_ = (([(⟨a6_0, a6_1⟩ : S25), (⟨t169, t170⟩ : S25)] : List (S25))) := ⟨_, rfl⟩
  replace H : (columbarylaw25_HeapTells.l0 k a1 a2 a3 a4 a5 t166 y171 (y171.length : Int) 0) = some r := by first | (rw [hy171]; with_reducible exact H) | (have H2_ := (Option.bind_some _ _).symm.trans H; rw [hy171]; with_reducible exact H2_) | (have H2_ := (Option.bind_some _ _).symm.trans H; with_reducible exact H2_) | with_reducible exact H | (rw [hy171]; exact H) | exact H
  have Ny171 := Aside0.mk hy171
  clear hy171
  have H' := Aside0.mk H
  clear H
  go_enter Try.func5, Try.ntmps5
  try go_wp2_with (first | ((with_reducible refine gate_dst (N := 13) rfl ?_); refine box_event ?hg (N := 13) ?hd (cs := #[.int .i64 a6_0, .int .i64 a6_1]) (t := 25) ?hr ?_; (case hd => rfl); (case hg => rfl); (case hr => first | (go_simp; done) | (go_simp; rfl)); intro gb165 hg w10 hbox hb; have n0_ := Aside0.mk (below_step (by repeat (first | (with_reducible first | exact HB.out | apply below_alloc | apply pw_below_drewN | apply below_drew1) | exact HB.out)) hb); have n1_ := Aside0.mk (hbox); have n2_ := Aside0.mk ((by rw [hg]; exact (below_size (by repeat (first | (with_reducible first | exact HB.out | apply below_alloc | apply pw_below_drewN | apply below_drew1) | exact HB.out))) : w.heap.size ≤ gb165)); have n3_ := Aside0.mk ((by rw [hg]; exact (below_size (by repeat (first | (with_reducible first | exact HB.out | apply below_alloc | apply pw_below_drewN | apply below_drew1) | exact HB.out))) : w.heap.size ≤ gb165)); clear HB; have HB := n0_; have BK165 := n1_; have GW165 := n2_; have GE165 := n3_; clear n0_ n1_ n2_ n3_; clear hb hbox hg) | ((with_reducible refine gate_callee (f := 13) rfl ?_); refine goesL_ (some 31) rfl rfl Try.func13 (by kernel_rfl) rfl #[.slice A0 l0.length c0] rfl (by (try simp only [List.map_toArray, List.map_cons, List.map_nil]); first | done | rfl | (simp only [List.length_drop, List.length_take]; rfl)) ?_; (with_reducible refine (columbarylaw25_of.calls k (fun k_ => k_ < w.heap.size) _ _ l0 t166 _ ?side1 A8.out).mono ?_); (case side1 => exact Kd.V_mk HC0.out (Kd.F_below (Kd.C_F k94_heap HR0.out) (by repeat (first | (with_reducible first | exact HB.out | apply below_alloc | apply pw_below_drewN | apply below_drew1 | refine below_set ?_ GE165.out) | exact HB.out)))); rintro e w11 ⟨v167, rfl, ho0, hb⟩; refine ⟨_, rfl, ?_⟩; have n0_ := Aside0.mk (Kd.N_lower (Kd.N_mono (ok' := fun k_ => k_ ≠ gb165) ho0 (fun k_ hk_ => Or.elim hk_ (fun hs_ => fun e_ => Nat.not_le.2 hs_ (by rw [e_]; exact GW165.out)) (fun hn_ => (Kd.freshB (g := gb165) (o := .cells #[.int .i64 a6_0, .int .i64 a6_1] 25 (0, 0)) (by (with_reducible repeat (first | refine blk_drewN ?_ _ | refine blk_drew ?_ | refine blk_alloc ?_ _)); exact BK165.out) k_ hn_)))) (below_size (by repeat (first | (with_reducible first | exact HB.out | apply below_alloc | apply pw_below_drewN | apply below_drew1 | refine below_set ?_ GE165.out) | exact HB.out)))); have n1_ := Aside0.mk (blk_below (g := gb165) (o := .cells #[.int .i64 a6_0, .int .i64 a6_1] 25 (0, 0)) (by (with_reducible repeat (first | refine blk_drewN ?_ _ | refine blk_drew ?_ | refine blk_alloc ?_ _)); exact BK165.out) hb); have n2_ := Aside0.mk (below_step (by repeat (first | (with_reducible first | exact HB.out | apply below_alloc | apply pw_below_drewN | apply below_drew1 | refine below_set ?_ GE165.out) | exact HB.out)) hb); clear BK165; clear HB; have HO168 := n0_; have BK165 := n1_; have HB := n2_; clear n0_ n1_ n2_; (try clear hb); (try clear hb2); (try clear hk); (try clear hi); (try clear ho0)))
  have n0_ := Aside0.mk (Kd.N_drew HO168.out)
  have n1_ := Aside0.mk (blk_drew BK165.out)
  have n2_ := Aside0.mk (below_drew1 HB.out)
  clear HO168
  clear BK165
  clear HB
  have HO168 := n0_
  have BK165 := n1_
  have HB := n2_
  clear n0_ n1_ n2_
  refine start_ (n := 6) (S := fun w' => w'.cell? ⟨gb165, 0, none⟩ = some (.int .i64 a6_0) ∧ w'.cell? ⟨gb165, 1, none⟩ = some (.int .i64 a6_1)) (ds := []) #[false, false, false, false, false, false] (by kernel_rfl) rfl rfl ⟨(blk_cell BK165.out 0).trans rfl, (blk_cell BK165.out 1).trans rfl⟩ (fun hHeld => ?_)
  generalize w11.drew = w12 at HO168 BK165 HB hHeld ⊢
  refine pure_ (i := 1) (N := some 33) (v := ?_) (a' := ?_) #[false, true, false, false, false, false] rfl rfl (by kernel_rfl) (fun _ _ _ h => h) (Or.inl ⟨by rfl, ?_⟩) ?_ ?_
  rotate_left
  · intro w'
    go_simp
    with_reducible rfl
  rotate_left
  · simp only [Act.put, List.setIfInBounds_toArray, List.set_cons_zero, List.set_cons_succ, i64_w, i32_w]
    rfl
  refine pure_ (i := 5) (N := some 37) (v := ?_) (a' := ?_) #[false, true, false, false, false, true] rfl rfl (by kernel_rfl) (fun _ _ _ h => h) (Or.inl ⟨by rfl, ?_⟩) ?_ ?_
  rotate_left
  · intro w'
    go_simp
    with_reducible rfl
  rotate_left
  · simp only [Act.put, List.setIfInBounds_toArray, List.set_cons_zero, List.set_cons_succ, i64_w, i32_w]
    rfl
  refine take_ (i := 0) (N := some 32) (v := ?_) (a' := ?_) #[true, true, false, false, false, true] rfl rfl (by kernel_rfl) (fun _ _ _ h => h) (Or.inl ⟨by rfl, ?_⟩) hHeld ?_ ?_
  rotate_left
  · rintro w' ⟨s0, s1⟩
    go_simp
    with_reducible rfl
  rotate_left
  · simp only [Act.put, List.setIfInBounds_toArray, List.set_cons_zero, List.set_cons_succ, i64_w, i32_w]
    rfl
  refine one_ (i := 2) (N := some 34) #[true, true, true, false, false, true] rfl rfl (by kernel_rfl) (by decide) (fun K hK => ?_)
  refine goes_ Try.func15 (by kernel_rfl) rfl #[.int .i64 a3] (by rfl) rfl rfl (by (try simp only [List.map_toArray, List.map_cons, List.map_nil]); first | done | rfl | (simp only [List.length_drop, List.length_take]; rfl)) ?_
  with_reducible refine (columbarylaw25_value.calls a3 t169 t170 _ A9.out).mono ?_
  rintro e w13 ⟨rfl, hb⟩
  refine ⟨_, rfl, ?_⟩
  have n0_ := Aside0.mk (Kd.N_below (by (with_reducible repeat (first | apply Kd.N_alloc | apply Kd.N_drewN | apply Kd.N_drew)); exact HO168.out) hb)
  have n1_ := Aside0.mk (blk_below (g := gb165) (o := .cells #[.int .i64 a6_0, .int .i64 a6_1] 25 (0, 0)) (by (with_reducible repeat (first | refine blk_drewN ?_ _ | refine blk_drew ?_ | refine blk_alloc ?_ _)); exact BK165.out) hb)
  have n2_ := Aside0.mk (below_step (by repeat (first | (with_reducible first | exact HB.out | apply below_alloc | apply pw_below_drewN | apply below_drew1 | refine below_set ?_ GE165.out) | exact HB.out)) hb)
  clear HO168
  clear BK165
  clear HB
  have HO168 := n0_
  have BK165 := n1_
  have HB := n2_
  clear n0_ n1_ n2_
  (try clear hb)
  (try clear hb2)
  (try clear hk)
  (try clear hi)
  refine hK.out _ _ ⟨(blk_cell BK165.out 0).trans rfl, (blk_cell BK165.out 1).trans rfl⟩ (fun hHeld => ?_)
  clear hK K
  refine norm_ (a' := ?_) ?_ ?_
  rotate_left
  · show Act.put _ (some 34) _ = _
    simp only [Act.put, List.setIfInBounds_toArray, List.set_cons_zero, List.set_cons_succ, i64_w, i32_w]
    rfl
  refine one_ (i := 3) (N := some 35) #[true, true, true, true, false, true] rfl rfl (by kernel_rfl) (by decide) (fun K hK => ?_)
  refine Kd.R_lit_step k25 _ 25 ?hg (N := 35) ?hd (xs := ([(⟨a6_0, a6_1⟩ : S25), (⟨t169, t170⟩ : S25)] : List (S25))) (inner := [.int .i64 a6_0, .int .i64 a6_1, .int .i64 t169, .int .i64 t170]) (ok := fun _ => True) (okp := fun _ => True) ?hr ?hp (fun _ hk => hk) trivial (Below.refl _ _) (Nat.le_refl _) (by simp) ?_; (case hd => rfl); (case hg => rfl); (case hr => first | (go_simp; done) | (go_simp; rfl)); (case hp => exact (Reps.c2 (show Kd.M k25 _ _ _ (⟨a6_0, a6_1⟩ : S25) [.int .i64 a6_0, .int .i64 a6_1] from (k25_mkM _ _ _ (⟨a6_0, a6_1⟩ : S25) )) (Reps.c2 (show Kd.M k25 _ _ _ (⟨t169, t170⟩ : S25) [.int .i64 t169, .int .i64 t170] from (k25_mkM _ _ _ (⟨t169, t170⟩ : S25) )) (Reps.none _ _))))
  intro v172 w14 ho15 hb hg_ hnew_
  clear hg_ hnew_
  (first | rw [← Ny171.out] at ho15 | (simp only [Int.reduceToNat] at ho15; rw [← Ny171.out] at ho15))
  have n0_ := Aside0.mk (Kd.N_elder' (by (with_reducible repeat (first | apply Kd.N_alloc | apply Kd.N_drewN | apply Kd.N_drew)); exact HO168.out) (Kd.R_base ho15) hb)
  have n1_ := Aside0.mk (Kd.R_lower (Kd.R_newB ho15 (g := gb165) (o := .cells #[.int .i64 a6_0, .int .i64 a6_1] 25 (0, 0)) (by (with_reducible repeat (first | refine blk_drewN ?_ _ | refine blk_drew ?_ | refine blk_alloc ?_ _)); exact BK165.out)) (below_size (by repeat (first | (with_reducible first | exact HB.out | apply below_alloc | apply pw_below_drewN | apply below_drew1 | refine below_set ?_ GE165.out) | exact HB.out))))
  have n2_ := Aside0.mk (blk_below (g := gb165) (o := .cells #[.int .i64 a6_0, .int .i64 a6_1] 25 (0, 0)) (by (with_reducible repeat (first | refine blk_drewN ?_ _ | refine blk_drew ?_ | refine blk_alloc ?_ _)); exact BK165.out) hb)
  have n3_ := Aside0.mk (below_step (by repeat (first | (with_reducible first | exact HB.out | apply below_alloc | apply pw_below_drewN | apply below_drew1 | refine below_set ?_ GE165.out) | exact HB.out)) hb)
  clear HO168
  clear BK165
  clear HB
  have HO168 := n0_
  have HO173 := n1_
  have BK165 := n2_
  have HB := n3_
  clear n0_ n1_ n2_ n3_
  clear hb ho15
  obtain ⟨Ao16, co16, eo16⟩ := Kd.R_slice HO173.out
  (first | subst eo16 | (injection eo16 with f1_ f2_ f3_; have f4_ := f1_.symm; have f5_ := f3_.symm; clear f1_ f2_ f3_; subst f4_; subst f5_))
  refine hK.out _ _ ⟨(blk_cell BK165.out 0).trans rfl, (blk_cell BK165.out 1).trans rfl⟩ (fun hHeld => ?_)
  clear hK K
  refine norm_ (a' := ?_) ?_ ?_
  rotate_left
  · show Act.put _ (some 35) _ = _
    simp only [Act.put, List.setIfInBounds_toArray, List.set_cons_zero, List.set_cons_succ, i64_w, i32_w]
    rfl
  refine pure_ (i := 4) (N := some 36) (v := ?_) (a' := ?_) #[true, true, true, true, true, true] rfl rfl (by kernel_rfl) (fun _ _ _ h => h) (Or.inl ⟨by rfl, ?_⟩) ?_ ?_
  rotate_left
  · intro w'
    go_simp
    with_reducible rfl
  rotate_left
  · simp only [Act.put, List.setIfInBounds_toArray, List.set_cons_zero, List.set_cons_succ, i64_w, i32_w]
    rfl
  refine done_ (by kernel_rfl) ?_
  try go_wp2
  go_loopg [37] k (fun kq v37 w' => ∃ (x37_1 : Int), v37 = .int .i64 x37_1 ∧ Aside0 (columbarylaw25_HeapTells.l0 kq a1 a2 a3 a4 a5 t166 y171 (y171.length : Int) x37_1 = some r) ∧ Aside0 (kq ≤ k) ∧ Aside0 (Kd.N k41 41 w' w.heap.size (fun k_ => some k_ ≠ ((.slice Ao16 y171.length co16) : Value).ownBlock ∧ k_ ≠ gb165) v167 t166) ∧ Aside0 (Kd.R k25 25 w' w.heap.size (fun k_ => k_ ≠ gb165) (.slice Ao16 y171.length co16) y171) ∧ Aside0 (w'.heap[gb165]? = some (.cells #[.int .i64 a6_0, .int .i64 a6_1] 25 (0, 0))) ∧ Aside0 (Below w.heap.size w w'))
  case atStart => exact ⟨(0), (by first | rfl | (simp; done) | (simp [*]; done)), H', ⟨Nat.le_refl _⟩, ⟨by (with_reducible repeat (first | apply Kd.N_alloc | apply Kd.N_drewN | apply Kd.N_drew)); exact Kd.N_mono HO168.out (fun _ hk => ⟨hk.2, hk.1⟩)⟩, ⟨by (with_reducible repeat (first | apply Kd.R_alloc | apply Kd.R_drewN | apply Kd.R_drew)); exact Kd.R_mono HO173.out (fun _ hk => hk.2)⟩, ⟨by (with_reducible repeat (first | refine blk_drewN ?_ _ | refine blk_drew ?_ | refine blk_alloc ?_ _)); exact BK165.out⟩, ⟨by repeat (first | (with_reducible first | exact HB.out | apply below_alloc | apply pw_below_drewN | apply below_drew1 | refine below_set ?_ GE165.out) | exact HB.out)⟩⟩
  case round =>
    clear H'
    try clear c1
    try clear c2
    try clear p2
    try clear c5
    try clear c13
    try clear c15
    obtain ⟨x37_1, rfl, HA, HK1, HO_15, HO_35, BK165, HB⟩ := hrel
    cases gk with
    | zero => exact absurd HA.out (by simp [columbarylaw25_HeapTells.l0])
    | succ k1 =>
      have H := HA.out
      clear HA
      simp only [columbarylaw25_HeapTells.l0] at H
      by_cases c17 : x37_1 < (y171.length : Int)
      · rw [if_pos c17] at H
        have c17b0 : decide (x37_1 < (y171.length : Int)) = true := decide_eq_true c17
        clear c17
        by_cases c18 : 0 ≤ x37_1
        · rw [if_pos c18] at H
          have c18b0 : decide (0 ≤ x37_1) = true := decide_eq_true c18
          clear c18
          by_cases c19 : x37_1 < (y171.length : Int)
          · rw [if_pos c19] at H
            have c19b0 : decide (x37_1 < (y171.length : Int)) = true := decide_eq_true c19
            clear c19
            replace H := Option.bind_eq_some_iff.mp H
            obtain ⟨t176, A200, H⟩ := H
            replace H : ((columbarykeep_Within.f a2 6).bind fun t177 => ((some (([(⟨a1, a2, 0, (⟨#[]⟩ : ByteArray), ([] : List (S127))⟩ : S46), (⟨t176, t177, 0, (⟨#[]⟩ : ByteArray), ([] : List (S127))⟩ : S46)] : List (S46)) : List (S46))).bind fun y178 => (columbarylaw25_HeapTells.l1 k1 a1 a2 a3 a4 a5 t166 y171 (y171.length : Int) x37_1 y178 (y178.length : Int) 0 ((rd_T25 y171 x37_1).f0) ((rd_T25 y171 x37_1).f1)))) = some r := H
            have A20 := Aside0.mk A200
            clear A200
            replace H := Option.bind_eq_some_iff.mp H
            obtain ⟨t177, A210, H⟩ := H
            replace H : ((some (([(⟨a1, a2, 0, (⟨#[]⟩ : ByteArray), ([] : List (S127))⟩ : S46), (⟨t176, t177, 0, (⟨#[]⟩ : ByteArray), ([] : List (S127))⟩ : S46)] : List (S46)) : List (S46))).bind fun y178 => (columbarylaw25_HeapTells.l1 k1 a1 a2 a3 a4 a5 t166 y171 (y171.length : Int) x37_1 y178 (y178.length : Int) 0 ((rd_T25 y171 x37_1).f0) ((rd_T25 y171 x37_1).f1))) = some r := H
            have A21 := Aside0.mk A210
            clear A210
            obtain ⟨y178, hy178⟩ : ∃ y_ : List (S46), y_ = (([(⟨a1, a2, 0, (⟨#[]⟩ : ByteArray), ([] : List (S127))⟩ : S46), (⟨t176, t177, 0, (⟨#[]⟩ : ByteArray), ([] : List (S127))⟩ : S46)] : List (S46))) := ⟨_, rfl⟩
            replace H : (columbarylaw25_HeapTells.l1 k1 a1 a2 a3 a4 a5 t166 y171 (y171.length : Int) x37_1 y178 (y178.length : Int) 0 ((rd_T25 y171 x37_1).f0) ((rd_T25 y171 x37_1).f1)) = some r := by first | (rw [hy178]; with_reducible exact H) | (have H2_ := (Option.bind_some _ _).symm.trans H; rw [hy178]; with_reducible exact H2_) | (have H2_ := (Option.bind_some _ _).symm.trans H; with_reducible exact H2_) | with_reducible exact H | (rw [hy178]; exact H) | exact H
            have Ny178 := Aside0.mk hy178
            clear hy178
            have H' := Aside0.mk H
            clear H
            have p174 : 0 ≤ (x37_1 : Int) := of_decide_eq_true (by first | (with_reducible assumption) | assumption)
            have q174 : x37_1 < (y171.length : Int) := of_decide_eq_true (by first | (with_reducible assumption) | assumption)
            obtain ⟨ad174, e174, hx174_0, hx174_1⟩ := at_T25 (Kd.R_reads' HO_35.out).2.2 x37_1 p174 q174
            cases e174
            replace p174 := eq_true p174
            replace q174 := eq_true q174
            go_wp2_with (first | ((with_reducible refine gate_dst (N := 17) rfl ?_); refine box_event ?hg (N := 17) ?hd (cs := #[.int .i64 0, .int .i64 0]) (t := 25) ?hr ?_; (case hd => rfl); (case hg => rfl); (case hr => first | (go_simp; done) | (go_simp; rfl)); intro gb175 hg w22 hbox hb; have n0_ := Aside0.mk (Kd.N_below (Kd.N_elderB (by (with_reducible repeat (first | apply Kd.N_alloc | apply Kd.N_drewN | apply Kd.N_drew)); exact HO_15.out) gb175 (Nat.le_of_eq hg.symm)) hb); have n1_ := Aside0.mk (Kd.R_below (Kd.R_elderB (by (with_reducible repeat (first | apply Kd.R_alloc | apply Kd.R_drewN | apply Kd.R_drew)); exact HO_35.out) gb175 (Nat.le_of_eq hg.symm)) hb); have n2_ := Aside0.mk (blk_below (g := gb165) (o := .cells #[.int .i64 a6_0, .int .i64 a6_1] 25 (0, 0)) (by (with_reducible repeat (first | refine blk_drewN ?_ _ | refine blk_drew ?_ | refine blk_alloc ?_ _)); exact BK165.out) hb); have n3_ := Aside0.mk (below_step (by repeat (first | (with_reducible first | exact HB.out | apply below_alloc | apply pw_below_drewN | apply below_drew1 | refine below_set ?_ GE165.out) | exact HB.out)) hb); have n4_ := Aside0.mk (hbox); have n5_ := Aside0.mk ((by rw [hg]; exact (below_size (by repeat (first | (with_reducible first | exact HB.out | apply below_alloc | apply pw_below_drewN | apply below_drew1 | refine below_set ?_ GE165.out) | exact HB.out))) : w.heap.size ≤ gb175)); have n6_ := Aside0.mk ((by rw [hg]; exact (below_size (by repeat (first | (with_reducible first | exact HB.out | apply below_alloc | apply pw_below_drewN | apply below_drew1 | refine below_set ?_ GE165.out) | exact HB.out))) : w.heap.size ≤ gb175)); have n7_ := Aside0.mk ((by rw [hg]; exact Nat.ne_of_lt (blk_lt (g := gb165) (o := .cells #[.int .i64 a6_0, .int .i64 a6_1] 25 (0, 0)) (by (with_reducible repeat (first | refine blk_drewN ?_ _ | refine blk_drew ?_ | refine blk_alloc ?_ _)); exact BK165.out)) : gb165 ≠ gb175)); have n8_ := Aside0.mk ((by rw [hg]; exact Nat.ne_of_gt (blk_lt (g := gb165) (o := .cells #[.int .i64 a6_0, .int .i64 a6_1] 25 (0, 0)) (by (with_reducible repeat (first | refine blk_drewN ?_ _ | refine blk_drew ?_ | refine blk_alloc ?_ _)); exact BK165.out)) : gb175 ≠ gb165)); clear HO_15; clear HO_35; clear BK165; clear HB; have HO_15 := n0_; have HO_35 := n1_; have BK165 := n2_; have HB := n3_; have BK175 := n4_; have GW175 := n5_; have GE175 := n6_; have NB165_175 := n7_; have NB175_165 := n8_; clear n0_ n1_ n2_ n3_ n4_ n5_ n6_ n7_ n8_; clear hb hbox hg; have hnb23 := NB175_165.out; have hnc23 := NB165_175.out; have hcz24_0 : w22.cell? ⟨gb175, 0, none⟩ = some (.int .i64 0) := (blk_cell BK175.out 0).trans rfl; have hcz24_1 : w22.cell? ⟨gb175, 1, none⟩ = some (.int .i64 0) := (blk_cell BK175.out 1).trans rfl; have hfz24_0 := blk_frozen BK175.out 0; have hfz24_1 := blk_frozen BK175.out 1) | ((with_reducible refine gate_callee (f := 19) rfl ?_); refine goesL_ (some 45) rfl rfl Try.func19 (by kernel_rfl) rfl #[.int .i64 a1, .int .i64 7] rfl (by (try simp only [List.map_toArray, List.map_cons, List.map_nil]); first | done | rfl | (simp only [List.length_drop, List.length_take]; rfl)) ?_; (with_reducible refine (columbarykeep_Within.calls a1 7 t176 _ A20.out).mono ?_); rintro e w' ⟨rfl, ⟨nd, rfl⟩⟩; refine ⟨_, rfl, ?_⟩) | ((with_reducible refine gate_callee (f := 19) rfl ?_); refine goesL_ (some 47) rfl rfl Try.func19 (by kernel_rfl) rfl #[.int .i64 a2, .int .i64 6] rfl (by (try simp only [List.map_toArray, List.map_cons, List.map_nil]); first | done | rfl | (simp only [List.length_drop, List.length_take]; rfl)) ?_; (with_reducible refine (columbarykeep_Within.calls a2 6 t177 _ A21.out).mono ?_); rintro e w' ⟨rfl, ⟨nd, rfl⟩⟩; refine ⟨_, rfl, ?_⟩) | ((with_reducible refine gate_dst (N := 49) rfl ?_); refine Kd.N_lit k46 _ 46 ?hg (N' := 49) ?hd (xs := ([(⟨a1, a2, 0, (⟨#[]⟩ : ByteArray), ([] : List (S127))⟩ : S46), (⟨t176, t177, 0, (⟨#[]⟩ : ByteArray), ([] : List (S127))⟩ : S46)] : List (S46))) (inner := [.int .i64 a1, .int .i64 a2, .int .i64 0, .string (⟨#[]⟩ : ByteArray), .slice none 0 0, .int .i64 t176, .int .i64 t177, .int .i64 0, .string (⟨#[]⟩ : ByteArray), .slice none 0 0]) (ok := (fun k_ => some k_ ≠ (v167 : Value).ownBlock ∧ some k_ ≠ (.slice (some ad174) y171.length co16 : Value).ownBlock ∧ k_ ≠ gb165 ∧ k_ ≠ gb175)) (okp := (fun k_ => some k_ ≠ (v167 : Value).ownBlock ∧ some k_ ≠ (.slice (some ad174) y171.length co16 : Value).ownBlock ∧ k_ ≠ gb165 ∧ k_ ≠ gb175)) ?hr ?hp (fun _ hk => hk) ((show ∀ k_, ((w22.setCell ⟨gb175, 0, none⟩ (.int .i64 ((rd_T25 y171 x37_1).f0))).setCell ⟨gb175, 1, none⟩ (.int .i64 ((rd_T25 y171 x37_1).f1))).heap.size ≤ k_ → (fun k_ => some k_ ≠ (v167 : Value).ownBlock ∧ some k_ ≠ (.slice (some ad174) y171.length co16 : Value).ownBlock ∧ k_ ≠ gb165 ∧ k_ ≠ gb175) k_ from fun k_ hk => ⟨Kd.fresh' (Kd.N_lt (by (with_reducible repeat (first | apply Kd.N_alloc | apply Kd.N_drewN | apply Kd.N_drew)); exact (Kd.N_mono (Kd.N_far (p := ⟨gb175, 1, none⟩) (Kd.N_far (p := ⟨gb175, 0, none⟩) (Kd.N_mono HO_15.out (fun k_ hk => (⟨hk, hk.2⟩ : _ ∧ k_ ≠ gb175))) (fun _ hk => hk.2) (.int .i64 ((rd_T25 y171 x37_1).f0))) (fun _ hk => hk.2) (.int .i64 ((rd_T25 y171 x37_1).f1))) (fun _ h_ => h_.1)))) k_ hk, Kd.fresh' (Kd.R_lt (by (with_reducible repeat (first | apply Kd.R_alloc | apply Kd.R_drewN | apply Kd.R_drew)); exact (Kd.R_mono (Kd.R_far (p := ⟨gb175, 1, none⟩) (Kd.R_far (p := ⟨gb175, 0, none⟩) (Kd.R_mono HO_35.out (fun k_ hk => (⟨hk, hk.2⟩ : _ ∧ k_ ≠ gb175))) (fun _ hk => hk.2) (.int .i64 ((rd_T25 y171 x37_1).f0))) (fun _ hk => hk.2) (.int .i64 ((rd_T25 y171 x37_1).f1))) (fun _ h_ => h_.1)))) k_ hk, Kd.freshB (g := gb165) (o := .cells #[.int .i64 a6_0, .int .i64 a6_1] 25 (0, 0)) (by (with_reducible repeat (first | refine blk_drewN ?_ _ | refine blk_drew ?_ | refine blk_alloc ?_ _)); refine blk_far ?_ NB165_175.out _; (with_reducible repeat (first | refine blk_drewN ?_ _ | refine blk_drew ?_ | refine blk_alloc ?_ _)); refine blk_far ?_ NB165_175.out _; (with_reducible repeat (first | refine blk_drewN ?_ _ | refine blk_drew ?_ | refine blk_alloc ?_ _)); exact BK165.out) k_ hk, Kd.freshB (g := gb175) (o := .cells #[.int .i64 ((rd_T25 y171 x37_1).f0), .int .i64 ((rd_T25 y171 x37_1).f1)] 25 (0, 0)) (by (with_reducible repeat (first | refine blk_drewN ?_ _ | refine blk_drew ?_ | refine blk_alloc ?_ _)); refine blk_put (cs := #[.int .i64 ((rd_T25 y171 x37_1).f0), .int .i64 0]) ?_ 1 _ rfl; (with_reducible repeat (first | refine blk_drewN ?_ _ | refine blk_drew ?_ | refine blk_alloc ?_ _)); refine blk_put (cs := #[.int .i64 0, .int .i64 0]) ?_ 0 _ rfl; (with_reducible repeat (first | refine blk_drewN ?_ _ | refine blk_drew ?_ | refine blk_alloc ?_ _)); exact BK175.out) k_ hk⟩) _ (Nat.le_refl _)) (Below.refl _ _) (Nat.le_refl _) (by simp) ?_; (case hd => rfl); (case hg => rfl); (case hr => first | (go_simp; done) | (go_simp; rfl)); (case hp => exact (Reps.c5 (show Kd.FK k46 _ _ (⟨a1, a2, 0, (⟨#[]⟩ : ByteArray), ([] : List (S127))⟩ : S46) [.int .i64 a1, .int .i64 a2, .int .i64 0, .string (⟨#[]⟩ : ByteArray), .slice none 0 0] from (k46_mkF _ _ (⟨a1, a2, 0, (⟨#[]⟩ : ByteArray), ([] : List (S127))⟩ : S46) (Nat.le_refl _) (Kd.F_nil _ _ _))) (Reps.c5 (show Kd.FK k46 _ _ (⟨t176, t177, 0, (⟨#[]⟩ : ByteArray), ([] : List (S127))⟩ : S46) [.int .i64 t176, .int .i64 t177, .int .i64 0, .string (⟨#[]⟩ : ByteArray), .slice none 0 0] from (k46_mkF _ _ (⟨t176, t177, 0, (⟨#[]⟩ : ByteArray), ([] : List (S127))⟩ : S46) (Nat.le_refl _) (Kd.F_nil _ _ _))) (Reps.none _ _)))); intro v179 w25 ho26 hb hg_ hnew_; clear hg_ hnew_; (first | rw [← Ny178.out] at ho26 | (simp only [Int.reduceToNat] at ho26; rw [← Ny178.out] at ho26)); have n0_ := Aside0.mk (Kd.N_elder' (by (with_reducible repeat (first | apply Kd.N_alloc | apply Kd.N_drewN | apply Kd.N_drew)); exact (Kd.N_mono (Kd.N_far (p := ⟨gb175, 1, none⟩) (Kd.N_far (p := ⟨gb175, 0, none⟩) (Kd.N_mono HO_15.out (fun k_ hk => (⟨hk, hk.2⟩ : _ ∧ k_ ≠ gb175))) (fun _ hk => hk.2) (.int .i64 ((rd_T25 y171 x37_1).f0))) (fun _ hk => hk.2) (.int .i64 ((rd_T25 y171 x37_1).f1))) (fun _ h_ => h_.1))) (Kd.N_base ho26) hb); have n1_ := Aside0.mk (Kd.R_below (by (with_reducible repeat (first | apply Kd.R_alloc | apply Kd.R_drewN | apply Kd.R_drew)); exact (Kd.R_mono (Kd.R_far (p := ⟨gb175, 1, none⟩) (Kd.R_far (p := ⟨gb175, 0, none⟩) (Kd.R_mono HO_35.out (fun k_ hk => (⟨hk, hk.2⟩ : _ ∧ k_ ≠ gb175))) (fun _ hk => hk.2) (.int .i64 ((rd_T25 y171 x37_1).f0))) (fun _ hk => hk.2) (.int .i64 ((rd_T25 y171 x37_1).f1))) (fun _ h_ => h_.1))) hb); have n2_ := Aside0.mk (Kd.N_lower ho26 (below_size (by repeat (first | (with_reducible first | exact HB.out | apply below_alloc | apply pw_below_drewN | apply below_drew1 | refine below_set ?_ GE165.out | refine below_set ?_ GE175.out) | exact HB.out)))); have n3_ := Aside0.mk (blk_below (g := gb165) (o := .cells #[.int .i64 a6_0, .int .i64 a6_1] 25 (0, 0)) (by (with_reducible repeat (first | refine blk_drewN ?_ _ | refine blk_drew ?_ | refine blk_alloc ?_ _)); refine blk_far ?_ NB165_175.out _; (with_reducible repeat (first | refine blk_drewN ?_ _ | refine blk_drew ?_ | refine blk_alloc ?_ _)); refine blk_far ?_ NB165_175.out _; (with_reducible repeat (first | refine blk_drewN ?_ _ | refine blk_drew ?_ | refine blk_alloc ?_ _)); exact BK165.out) hb); have n4_ := Aside0.mk (blk_below (g := gb175) (o := .cells #[.int .i64 ((rd_T25 y171 x37_1).f0), .int .i64 ((rd_T25 y171 x37_1).f1)] 25 (0, 0)) (by (with_reducible repeat (first | refine blk_drewN ?_ _ | refine blk_drew ?_ | refine blk_alloc ?_ _)); refine blk_put (cs := #[.int .i64 ((rd_T25 y171 x37_1).f0), .int .i64 0]) ?_ 1 _ rfl; (with_reducible repeat (first | refine blk_drewN ?_ _ | refine blk_drew ?_ | refine blk_alloc ?_ _)); refine blk_put (cs := #[.int .i64 0, .int .i64 0]) ?_ 0 _ rfl; (with_reducible repeat (first | refine blk_drewN ?_ _ | refine blk_drew ?_ | refine blk_alloc ?_ _)); exact BK175.out) hb); have n5_ := Aside0.mk (below_step (by repeat (first | (with_reducible first | exact HB.out | apply below_alloc | apply pw_below_drewN | apply below_drew1 | refine below_set ?_ GE165.out | refine below_set ?_ GE175.out) | exact HB.out)) hb); clear HO_15; clear HO_35; clear BK165; clear BK175; clear HB; have HO_15 := n0_; have HO_35 := n1_; have HO180 := n2_; have BK165 := n3_; have BK175 := n4_; have HB := n5_; clear n0_ n1_ n2_ n3_ n4_ n5_; clear hb ho26; obtain ⟨Ao27, co27, eo27⟩ := Kd.N_slice HO180.out; subst eo27))
            go_loopg [51] k1 (fun kq v51 w' => ∃ (x51_2 : Int), v51 = .int .i64 x51_2 ∧ Aside0 (columbarylaw25_HeapTells.l1 kq a1 a2 a3 a4 a5 t166 y171 (y171.length : Int) x37_1 y178 (y178.length : Int) x51_2 ((rd_T25 y171 x37_1).f0) ((rd_T25 y171 x37_1).f1) = some r) ∧ Aside0 (kq ≤ k1) ∧ Aside0 (Kd.N k41 41 w' w.heap.size (fun k_ => some k_ ≠ ((.slice (some ad174) y171.length co16) : Value).ownBlock ∧ some k_ ≠ ((.slice Ao27 y178.length co27) : Value).ownBlock ∧ k_ ≠ gb165 ∧ k_ ≠ gb175) v167 t166) ∧ Aside0 (Kd.R k25 25 w' w.heap.size (fun k_ => k_ ≠ gb165 ∧ k_ ≠ gb175) (.slice (some ad174) y171.length co16) y171) ∧ Aside0 (Kd.N k46 46 w' w.heap.size (fun k_ => some k_ ≠ (v167 : Value).ownBlock ∧ some k_ ≠ ((.slice (some ad174) y171.length co16) : Value).ownBlock ∧ k_ ≠ gb165 ∧ k_ ≠ gb175) (.slice Ao27 y178.length co27) y178) ∧ Aside0 (w'.heap[gb165]? = some (.cells #[.int .i64 a6_0, .int .i64 a6_1] 25 (0, 0))) ∧ Aside0 (w'.heap[gb175]? = some (.cells #[.int .i64 ((rd_T25 y171 x37_1).f0), .int .i64 ((rd_T25 y171 x37_1).f1)] 25 (0, 0))) ∧ Aside0 (Below w.heap.size w w'))
            case atStart => exact ⟨(0), (by first | rfl | (simp; done) | (simp [*]; done)), H', ⟨Nat.le_refl _⟩, ⟨by (with_reducible repeat (first | apply Kd.N_alloc | apply Kd.N_drewN | apply Kd.N_drew)); exact Kd.N_mono HO_15.out (fun _ hk => ⟨hk.1.1.1, ⟨hk.2, ⟨hk.1.1.2, hk.1.2⟩⟩⟩)⟩, ⟨by (with_reducible repeat (first | apply Kd.R_alloc | apply Kd.R_drewN | apply Kd.R_drew)); exact HO_35.out⟩, ⟨by (with_reducible repeat (first | apply Kd.N_alloc | apply Kd.N_drewN | apply Kd.N_drew)); exact HO180.out⟩, ⟨by (with_reducible repeat (first | refine blk_drewN ?_ _ | refine blk_drew ?_ | refine blk_alloc ?_ _)); exact BK165.out⟩, ⟨by (with_reducible repeat (first | refine blk_drewN ?_ _ | refine blk_drew ?_ | refine blk_alloc ?_ _)); exact BK175.out⟩, ⟨by repeat (first | (with_reducible first | exact HB.out | apply below_alloc | apply pw_below_drewN | apply below_drew1 | refine below_set ?_ GE165.out | refine below_set ?_ GE175.out) | exact HB.out)⟩⟩
            case round =>
              clear H'
              try clear c1
              try clear p1
              try clear q1
              try clear hx1
              try clear c2
              try clear p2
              try clear c5
              try clear c13
              try clear c15
              try clear c17
              try clear c17b0
              try clear p17
              try clear q17
              try clear hx17
              try clear c18
              try clear c18b0
              try clear c19
              try clear c19b0
              try clear c23
              try clear hcz24_0
              try clear hcz24_1
              try clear hfz24_0
              try clear hfz24_1
              try clear hx174_0
              try clear hx174_1
              try clear p174
              try clear p2
              try clear q174
              obtain ⟨x51_2, rfl, HA, HK2, HO_15, HO_35, HO_49, BK165, BK175, HB⟩ := hrel
              cases gk with
              | zero => exact absurd HA.out (by simp [columbarylaw25_HeapTells.l1])
              | succ k2 =>
                have H := HA.out
                clear HA
                simp only [columbarylaw25_HeapTells.l1] at H
                by_cases c28 : x51_2 < (y178.length : Int)
                · rw [if_pos c28] at H
                  have c28b0 : decide (x51_2 < (y178.length : Int)) = true := decide_eq_true c28
                  clear c28
                  by_cases c29 : 0 ≤ x51_2
                  · rw [if_pos c29] at H
                    have c29b0 : decide (0 ≤ x51_2) = true := decide_eq_true c29
                    clear c29
                    by_cases c30 : x51_2 < (y178.length : Int)
                    · rw [if_pos c30] at H
                      have c30b0 : decide (x51_2 < (y178.length : Int)) = true := decide_eq_true c30
                      clear c30
                      replace H := Option.bind_eq_some_iff.mp H
                      obtain ⟨t183, A310, H⟩ := H
                      replace H : ((columbaryref25_Shape.f ((rd_T46 y178 x51_2).f0) ((rd_T46 y178 x51_2).f1) ((rd_T46 y178 x51_2).f2) ((rd_T46 y178 x51_2).f3) ((rd_T46 y178 x51_2).f4) ((rd_T25 y171 x37_1).f0) ((rd_T25 y171 x37_1).f1)).bind fun t184 => (if (t183 != t184) = true then (some false) else (columbarylaw25_HeapTells.l1 k2 a1 a2 a3 a4 a5 t166 y171 (y171.length : Int) x37_1 y178 (y178.length : Int) (wrap64 (x51_2 + 1)) ((rd_T25 y171 x37_1).f0) ((rd_T25 y171 x37_1).f1)))) = some r := H
                      have A31 := Aside0.mk A310
                      clear A310
                      replace H := Option.bind_eq_some_iff.mp H
                      obtain ⟨t184, A320, H⟩ := H
                      replace H : (if (t183 != t184) = true then (some false) else (columbarylaw25_HeapTells.l1 k2 a1 a2 a3 a4 a5 t166 y171 (y171.length : Int) x37_1 y178 (y178.length : Int) (wrap64 (x51_2 + 1)) ((rd_T25 y171 x37_1).f0) ((rd_T25 y171 x37_1).f1))) = some r := H
                      have A32 := Aside0.mk A320
                      clear A320
                      by_cases c33 : (t183 != t184) = true
                      · rw [if_pos c33] at H
                        have c33b0 : (t183 != t184) = true := c33
                        (try (have c33b1 : decide (t183 = t184) = false := by simpa using c33))
                        (try (have c33b2 : (t183 == t184) = false := by simpa using c33))
                        (try (have c33b3 : ¬ (t183 = t184) := by simpa using c33))
                        clear c33
                        obtain rfl := Option.some.inj H
                        have p181 : 0 ≤ (x51_2 : Int) := of_decide_eq_true (by first | (with_reducible assumption) | assumption)
                        have q181 : x51_2 < (y178.length : Int) := of_decide_eq_true (by first | (with_reducible assumption) | assumption)
                        obtain ⟨ad181, A181_4, c181_4, e181, hx181_0, hx181_1, hx181_2, hx181_3, hx181_4, hl181_4, hi181_4⟩ := at_T46 (Kd.N_reads' HO_49.out).2.2 x51_2 p181 q181
                        cases e181
                        obtain ⟨ce181, hce181, hMe181, hcc181⟩ := Kd.N_get HO_49.out z46 x51_2 p181 (by first | exact q181 | exact of_decide_eq_true (by first | (with_reducible assumption) | assumption) | (have e_ := (Kd.N_reads' HO_49.out).1; omega))
                        obtain ⟨ua181_4, uc181_4, rfl, ul181_4, ge181_4⟩ := k46_openF hMe181
                        have hv181_4 := hcc181 4 _ rfl
                        rw [add_field _ _ 4 (by omega)] at hv181_4
                        replace hv181_4 := Option.some.inj (hv181_4.symm.trans hx181_4)
                        injection hv181_4 with hva_ hvn_ hvc_
                        rw [hva_] at ge181_4
                        rw [hvc_] at ul181_4
                        have HL181_4 := Aside0.mk (show Kd.V k127 127 _ w.heap.size _ _ ((rd_T46 y178 x51_2).f4) from Kd.V_mk ul181_4 ge181_4)
                        clear hva_ hvn_ hvc_ ge181_4 ul181_4
                        clear hcc181 hce181
                        have HR181_4 := Aside0.mk hi181_4
                        have HC181_4 := Aside0.mk hl181_4
                        clear hi181_4 hl181_4
                        replace p181 := eq_true p181
                        replace q181 := eq_true q181
                        try go_wp2_with (first | ((with_reducible refine gate_dst (N := 19) rfl ?_); refine box_event ?hg (N := 19) ?hd (cs := #[.int .i64 0, .int .i64 0, .int .i64 0, .string (⟨#[]⟩ : ByteArray), .slice none 0 0]) (t := 46) ?hr ?_; (case hd => rfl); (case hg => rfl); (case hr => first | (go_simp; done) | (go_simp; rfl)); intro gb182 hg w34 hbox hb; have n0_ := Aside0.mk (Kd.N_below (Kd.N_elderB (by (with_reducible repeat (first | apply Kd.N_alloc | apply Kd.N_drewN | apply Kd.N_drew)); exact HO_15.out) gb182 (Nat.le_of_eq hg.symm)) hb); have n1_ := Aside0.mk (Kd.R_below (by (with_reducible repeat (first | apply Kd.R_alloc | apply Kd.R_drewN | apply Kd.R_drew)); exact HO_35.out) hb); have n2_ := Aside0.mk (Kd.N_below (Kd.N_elderB (by (with_reducible repeat (first | apply Kd.N_alloc | apply Kd.N_drewN | apply Kd.N_drew)); exact HO_49.out) gb182 (Nat.le_of_eq hg.symm)) hb); have n3_ := Aside0.mk (Kd.V_below (Kd.V_elderB (by (with_reducible repeat (first | apply Kd.V_alloc | apply Kd.V_drewN | apply Kd.V_drew)); exact HL181_4.out) gb182 (Nat.le_of_eq hg.symm)) hb); have n4_ := Aside0.mk (blk_below (g := gb165) (o := .cells #[.int .i64 a6_0, .int .i64 a6_1] 25 (0, 0)) (by (with_reducible repeat (first | refine blk_drewN ?_ _ | refine blk_drew ?_ | refine blk_alloc ?_ _)); exact BK165.out) hb); have n5_ := Aside0.mk (blk_below (g := gb175) (o := .cells #[.int .i64 ((rd_T25 y171 x37_1).f0), .int .i64 ((rd_T25 y171 x37_1).f1)] 25 (0, 0)) (by (with_reducible repeat (first | refine blk_drewN ?_ _ | refine blk_drew ?_ | refine blk_alloc ?_ _)); exact BK175.out) hb); have n6_ := Aside0.mk (Kd.C_below (by repeat (first | (with_reducible exact HR181_4.out) | (with_reducible refine Kd.C_alloc ?_ _) | (with_reducible refine Kd.C_drewN ?_ _) | (with_reducible refine Kd.C_drew ?_) | exact HR181_4.out)) hb); have n7_ := Aside0.mk (below_step (by repeat (first | (with_reducible first | exact HB.out | apply below_alloc | apply pw_below_drewN | apply below_drew1 | refine below_set ?_ GE165.out | refine below_set ?_ GE175.out) | exact HB.out)) hb); have n8_ := Aside0.mk (hbox); have n9_ := Aside0.mk ((by rw [hg]; exact (below_size (by repeat (first | (with_reducible first | exact HB.out | apply below_alloc | apply pw_below_drewN | apply below_drew1 | refine below_set ?_ GE165.out | refine below_set ?_ GE175.out) | exact HB.out))) : w.heap.size ≤ gb182)); have n10_ := Aside0.mk ((by rw [hg]; exact (below_size (by repeat (first | (with_reducible first | exact HB.out | apply below_alloc | apply pw_below_drewN | apply below_drew1 | refine below_set ?_ GE165.out | refine below_set ?_ GE175.out) | exact HB.out))) : w.heap.size ≤ gb182)); have n11_ := Aside0.mk ((by rw [hg]; exact Nat.ne_of_lt (blk_lt (g := gb165) (o := .cells #[.int .i64 a6_0, .int .i64 a6_1] 25 (0, 0)) (by (with_reducible repeat (first | refine blk_drewN ?_ _ | refine blk_drew ?_ | refine blk_alloc ?_ _)); exact BK165.out)) : gb165 ≠ gb182)); have n12_ := Aside0.mk ((by rw [hg]; exact Nat.ne_of_gt (blk_lt (g := gb165) (o := .cells #[.int .i64 a6_0, .int .i64 a6_1] 25 (0, 0)) (by (with_reducible repeat (first | refine blk_drewN ?_ _ | refine blk_drew ?_ | refine blk_alloc ?_ _)); exact BK165.out)) : gb182 ≠ gb165)); have n13_ := Aside0.mk ((by rw [hg]; exact Nat.ne_of_lt (blk_lt (g := gb175) (o := .cells #[.int .i64 ((rd_T25 y171 x37_1).f0), .int .i64 ((rd_T25 y171 x37_1).f1)] 25 (0, 0)) (by (with_reducible repeat (first | refine blk_drewN ?_ _ | refine blk_drew ?_ | refine blk_alloc ?_ _)); exact BK175.out)) : gb175 ≠ gb182)); have n14_ := Aside0.mk ((by rw [hg]; exact Nat.ne_of_gt (blk_lt (g := gb175) (o := .cells #[.int .i64 ((rd_T25 y171 x37_1).f0), .int .i64 ((rd_T25 y171 x37_1).f1)] 25 (0, 0)) (by (with_reducible repeat (first | refine blk_drewN ?_ _ | refine blk_drew ?_ | refine blk_alloc ?_ _)); exact BK175.out)) : gb182 ≠ gb175)); clear HO_15; clear HO_35; clear HO_49; clear HL181_4; clear BK165; clear BK175; clear HR181_4; clear HB; have HO_15 := n0_; have HO_35 := n1_; have HO_49 := n2_; have HL181_4 := n3_; have BK165 := n4_; have BK175 := n5_; have HR181_4 := n6_; have HB := n7_; have BK182 := n8_; have GW182 := n9_; have GE182 := n10_; have NB165_182 := n11_; have NB182_165 := n12_; have NB175_182 := n13_; have NB182_175 := n14_; clear n0_ n1_ n2_ n3_ n4_ n5_ n6_ n7_ n8_ n9_ n10_ n11_ n12_ n13_ n14_; clear hb hbox hg; have hnb35 := NB182_165.out; have hnc35 := NB165_182.out; have hnb36 := NB182_175.out; have hnc36 := NB175_182.out; have hcz37_0 : w34.cell? ⟨gb182, 0, none⟩ = some (.int .i64 0) := (blk_cell BK182.out 0).trans rfl; have hcz37_1 : w34.cell? ⟨gb182, 1, none⟩ = some (.int .i64 0) := (blk_cell BK182.out 1).trans rfl; have hcz37_2 : w34.cell? ⟨gb182, 2, none⟩ = some (.int .i64 0) := (blk_cell BK182.out 2).trans rfl; have hcz37_3 : w34.cell? ⟨gb182, 3, none⟩ = some (.string (⟨#[]⟩ : ByteArray)) := (blk_cell BK182.out 3).trans rfl; have hcz37_4 : w34.cell? ⟨gb182, 4, none⟩ = some (.slice none 0 0) := (blk_cell BK182.out 4).trans rfl; have hfz37_0 := blk_frozen BK182.out 0; have hfz37_1 := blk_frozen BK182.out 1; have hfz37_2 := blk_frozen BK182.out 2; have hfz37_3 := blk_frozen BK182.out 3; have hfz37_4 := blk_frozen BK182.out 4))
                        have n0_ : Aside0 (Kd.N k41 41 (((((w34.setCell ⟨gb182, 0, none⟩ (.int .i64 ((rd_T46 y178 x51_2).f0))).setCell ⟨gb182, 1, none⟩ (.int .i64 ((rd_T46 y178 x51_2).f1))).setCell ⟨gb182, 2, none⟩ (.int .i64 ((rd_T46 y178 x51_2).f2))).setCell ⟨gb182, 3, none⟩ (.string ((rd_T46 y178 x51_2).f3))).setCell ⟨gb182, 4, none⟩ (.slice A181_4 ((rd_T46 y178 x51_2).f4).length c181_4)) w.heap.size (fun k_ => some k_ ≠ (.slice (some ad174) y171.length co16 : Value).ownBlock ∧ some k_ ≠ (.slice (some ad181) y178.length co27 : Value).ownBlock ∧ k_ ≠ gb165 ∧ k_ ≠ gb175 ∧ k_ ≠ gb182) v167 t166) := ⟨by (with_reducible repeat (first | apply Kd.N_alloc | apply Kd.N_drewN | apply Kd.N_drew)); exact Kd.N_mono (Kd.N_far (p := ⟨gb182, 4, none⟩) (Kd.N_far (p := ⟨gb182, 3, none⟩) (Kd.N_far (p := ⟨gb182, 2, none⟩) (Kd.N_far (p := ⟨gb182, 1, none⟩) (Kd.N_far (p := ⟨gb182, 0, none⟩) (Kd.N_mono HO_15.out (fun k_ hk => (⟨hk, hk.2⟩ : _ ∧ k_ ≠ gb182))) (fun _ hk => hk.2) (.int .i64 ((rd_T46 y178 x51_2).f0))) (fun _ hk => hk.2) (.int .i64 ((rd_T46 y178 x51_2).f1))) (fun _ hk => hk.2) (.int .i64 ((rd_T46 y178 x51_2).f2))) (fun _ hk => hk.2) (.string ((rd_T46 y178 x51_2).f3))) (fun _ hk => hk.2) (.slice A181_4 ((rd_T46 y178 x51_2).f4).length c181_4)) (fun _ hk => ⟨hk.1.1.1, ⟨hk.1.1.2.1, ⟨hk.1.1.2.2.1, ⟨hk.1.1.2.2.2, hk.1.2⟩⟩⟩⟩)⟩
                        have n1_ : Aside0 (Kd.R k25 25 (((((w34.setCell ⟨gb182, 0, none⟩ (.int .i64 ((rd_T46 y178 x51_2).f0))).setCell ⟨gb182, 1, none⟩ (.int .i64 ((rd_T46 y178 x51_2).f1))).setCell ⟨gb182, 2, none⟩ (.int .i64 ((rd_T46 y178 x51_2).f2))).setCell ⟨gb182, 3, none⟩ (.string ((rd_T46 y178 x51_2).f3))).setCell ⟨gb182, 4, none⟩ (.slice A181_4 ((rd_T46 y178 x51_2).f4).length c181_4)) w.heap.size (fun k_ => k_ ≠ gb165 ∧ k_ ≠ gb175) (.slice (some ad174) y171.length co16) y171) := ⟨by (with_reducible repeat (first | apply Kd.R_alloc | apply Kd.R_drewN | apply Kd.R_drew)); exact Kd.R_mono (Kd.R_far (p := ⟨gb182, 4, none⟩) (Kd.R_far (p := ⟨gb182, 3, none⟩) (Kd.R_far (p := ⟨gb182, 2, none⟩) (Kd.R_far (p := ⟨gb182, 1, none⟩) (Kd.R_far (p := ⟨gb182, 0, none⟩) (Kd.R_types HO_35.out BK182.out (by decide)) (fun _ hk => hk.2) (.int .i64 ((rd_T46 y178 x51_2).f0))) (fun _ hk => hk.2) (.int .i64 ((rd_T46 y178 x51_2).f1))) (fun _ hk => hk.2) (.int .i64 ((rd_T46 y178 x51_2).f2))) (fun _ hk => hk.2) (.string ((rd_T46 y178 x51_2).f3))) (fun _ hk => hk.2) (.slice A181_4 ((rd_T46 y178 x51_2).f4).length c181_4)) (fun _ hk => ⟨hk.1.1, hk.1.2⟩)⟩
                        have n2_ : Aside0 (Kd.N k46 46 (((((w34.setCell ⟨gb182, 0, none⟩ (.int .i64 ((rd_T46 y178 x51_2).f0))).setCell ⟨gb182, 1, none⟩ (.int .i64 ((rd_T46 y178 x51_2).f1))).setCell ⟨gb182, 2, none⟩ (.int .i64 ((rd_T46 y178 x51_2).f2))).setCell ⟨gb182, 3, none⟩ (.string ((rd_T46 y178 x51_2).f3))).setCell ⟨gb182, 4, none⟩ (.slice A181_4 ((rd_T46 y178 x51_2).f4).length c181_4)) w.heap.size (fun k_ => some k_ ≠ (v167 : Value).ownBlock ∧ some k_ ≠ (.slice (some ad174) y171.length co16 : Value).ownBlock ∧ k_ ≠ gb165 ∧ k_ ≠ gb175 ∧ k_ ≠ gb182) (.slice (some ad181) y178.length co27) y178) := ⟨by (with_reducible repeat (first | apply Kd.N_alloc | apply Kd.N_drewN | apply Kd.N_drew)); exact Kd.N_mono (Kd.N_far (p := ⟨gb182, 4, none⟩) (Kd.N_far (p := ⟨gb182, 3, none⟩) (Kd.N_far (p := ⟨gb182, 2, none⟩) (Kd.N_far (p := ⟨gb182, 1, none⟩) (Kd.N_far (p := ⟨gb182, 0, none⟩) (Kd.N_mono HO_49.out (fun k_ hk => (⟨hk, hk.2⟩ : _ ∧ k_ ≠ gb182))) (fun _ hk => hk.2) (.int .i64 ((rd_T46 y178 x51_2).f0))) (fun _ hk => hk.2) (.int .i64 ((rd_T46 y178 x51_2).f1))) (fun _ hk => hk.2) (.int .i64 ((rd_T46 y178 x51_2).f2))) (fun _ hk => hk.2) (.string ((rd_T46 y178 x51_2).f3))) (fun _ hk => hk.2) (.slice A181_4 ((rd_T46 y178 x51_2).f4).length c181_4)) (fun _ hk => ⟨hk.1.1.1, ⟨hk.1.1.2.1, ⟨hk.1.1.2.2.1, ⟨hk.1.1.2.2.2, hk.1.2⟩⟩⟩⟩)⟩
                        have n3_ : Aside0 (Kd.V k127 127 (((((w34.setCell ⟨gb182, 0, none⟩ (.int .i64 ((rd_T46 y178 x51_2).f0))).setCell ⟨gb182, 1, none⟩ (.int .i64 ((rd_T46 y178 x51_2).f1))).setCell ⟨gb182, 2, none⟩ (.int .i64 ((rd_T46 y178 x51_2).f2))).setCell ⟨gb182, 3, none⟩ (.string ((rd_T46 y178 x51_2).f3))).setCell ⟨gb182, 4, none⟩ (.slice A181_4 ((rd_T46 y178 x51_2).f4).length c181_4)) w.heap.size (fun k_ => some k_ ≠ (v167 : Value).ownBlock ∧ some k_ ≠ (.slice (some ad174) y171.length co16 : Value).ownBlock ∧ some k_ ≠ (.slice (some ad181) y178.length co27 : Value).ownBlock ∧ k_ ≠ gb165 ∧ k_ ≠ gb175 ∧ k_ ≠ gb182) (.slice A181_4 ((rd_T46 y178 x51_2).f4).length c181_4) ((rd_T46 y178 x51_2).f4)) := ⟨by (with_reducible repeat (first | apply Kd.V_alloc | apply Kd.V_drewN | apply Kd.V_drew)); exact Kd.V_mono (Kd.V_far (p := ⟨gb182, 4, none⟩) (Kd.V_far (p := ⟨gb182, 3, none⟩) (Kd.V_far (p := ⟨gb182, 2, none⟩) (Kd.V_far (p := ⟨gb182, 1, none⟩) (Kd.V_far (p := ⟨gb182, 0, none⟩) (Kd.V_mono HL181_4.out (fun k_ hk => (⟨hk, hk.2⟩ : _ ∧ k_ ≠ gb182))) (fun _ hk => hk.2) (.int .i64 ((rd_T46 y178 x51_2).f0))) (fun _ hk => hk.2) (.int .i64 ((rd_T46 y178 x51_2).f1))) (fun _ hk => hk.2) (.int .i64 ((rd_T46 y178 x51_2).f2))) (fun _ hk => hk.2) (.string ((rd_T46 y178 x51_2).f3))) (fun _ hk => hk.2) (.slice A181_4 ((rd_T46 y178 x51_2).f4).length c181_4)) (fun _ hk => ⟨hk.1.1.1.1, ⟨hk.1.1.1.2.1, ⟨hk.1.1.2, ⟨hk.1.1.1.2.2.1, ⟨hk.1.1.1.2.2.2, hk.1.2⟩⟩⟩⟩⟩)⟩
                        have n4_ : Aside0 ((((((w34.setCell ⟨gb182, 0, none⟩ (.int .i64 ((rd_T46 y178 x51_2).f0))).setCell ⟨gb182, 1, none⟩ (.int .i64 ((rd_T46 y178 x51_2).f1))).setCell ⟨gb182, 2, none⟩ (.int .i64 ((rd_T46 y178 x51_2).f2))).setCell ⟨gb182, 3, none⟩ (.string ((rd_T46 y178 x51_2).f3))).setCell ⟨gb182, 4, none⟩ (.slice A181_4 ((rd_T46 y178 x51_2).f4).length c181_4)).heap[gb165]? = some (.cells #[.int .i64 a6_0, .int .i64 a6_1] 25 (0, 0))) := ⟨by (with_reducible repeat (first | refine blk_drewN ?_ _ | refine blk_drew ?_ | refine blk_alloc ?_ _)); refine blk_far ?_ NB165_182.out _; (with_reducible repeat (first | refine blk_drewN ?_ _ | refine blk_drew ?_ | refine blk_alloc ?_ _)); refine blk_far ?_ NB165_182.out _; (with_reducible repeat (first | refine blk_drewN ?_ _ | refine blk_drew ?_ | refine blk_alloc ?_ _)); refine blk_far ?_ NB165_182.out _; (with_reducible repeat (first | refine blk_drewN ?_ _ | refine blk_drew ?_ | refine blk_alloc ?_ _)); refine blk_far ?_ NB165_182.out _; (with_reducible repeat (first | refine blk_drewN ?_ _ | refine blk_drew ?_ | refine blk_alloc ?_ _)); refine blk_far ?_ NB165_182.out _; (with_reducible repeat (first | refine blk_drewN ?_ _ | refine blk_drew ?_ | refine blk_alloc ?_ _)); exact BK165.out⟩
                        have n5_ : Aside0 ((((((w34.setCell ⟨gb182, 0, none⟩ (.int .i64 ((rd_T46 y178 x51_2).f0))).setCell ⟨gb182, 1, none⟩ (.int .i64 ((rd_T46 y178 x51_2).f1))).setCell ⟨gb182, 2, none⟩ (.int .i64 ((rd_T46 y178 x51_2).f2))).setCell ⟨gb182, 3, none⟩ (.string ((rd_T46 y178 x51_2).f3))).setCell ⟨gb182, 4, none⟩ (.slice A181_4 ((rd_T46 y178 x51_2).f4).length c181_4)).heap[gb175]? = some (.cells #[.int .i64 ((rd_T25 y171 x37_1).f0), .int .i64 ((rd_T25 y171 x37_1).f1)] 25 (0, 0))) := ⟨by (with_reducible repeat (first | refine blk_drewN ?_ _ | refine blk_drew ?_ | refine blk_alloc ?_ _)); refine blk_far ?_ NB175_182.out _; (with_reducible repeat (first | refine blk_drewN ?_ _ | refine blk_drew ?_ | refine blk_alloc ?_ _)); refine blk_far ?_ NB175_182.out _; (with_reducible repeat (first | refine blk_drewN ?_ _ | refine blk_drew ?_ | refine blk_alloc ?_ _)); refine blk_far ?_ NB175_182.out _; (with_reducible repeat (first | refine blk_drewN ?_ _ | refine blk_drew ?_ | refine blk_alloc ?_ _)); refine blk_far ?_ NB175_182.out _; (with_reducible repeat (first | refine blk_drewN ?_ _ | refine blk_drew ?_ | refine blk_alloc ?_ _)); refine blk_far ?_ NB175_182.out _; (with_reducible repeat (first | refine blk_drewN ?_ _ | refine blk_drew ?_ | refine blk_alloc ?_ _)); exact BK175.out⟩
                        have n6_ : Aside0 ((((((w34.setCell ⟨gb182, 0, none⟩ (.int .i64 ((rd_T46 y178 x51_2).f0))).setCell ⟨gb182, 1, none⟩ (.int .i64 ((rd_T46 y178 x51_2).f1))).setCell ⟨gb182, 2, none⟩ (.int .i64 ((rd_T46 y178 x51_2).f2))).setCell ⟨gb182, 3, none⟩ (.string ((rd_T46 y178 x51_2).f3))).setCell ⟨gb182, 4, none⟩ (.slice A181_4 ((rd_T46 y178 x51_2).f4).length c181_4)).heap[gb182]? = some (.cells #[.int .i64 ((rd_T46 y178 x51_2).f0), .int .i64 ((rd_T46 y178 x51_2).f1), .int .i64 ((rd_T46 y178 x51_2).f2), .string ((rd_T46 y178 x51_2).f3), .slice A181_4 ((rd_T46 y178 x51_2).f4).length c181_4] 46 (0, 0))) := ⟨by (with_reducible repeat (first | refine blk_drewN ?_ _ | refine blk_drew ?_ | refine blk_alloc ?_ _)); refine blk_put (cs := #[.int .i64 ((rd_T46 y178 x51_2).f0), .int .i64 ((rd_T46 y178 x51_2).f1), .int .i64 ((rd_T46 y178 x51_2).f2), .string ((rd_T46 y178 x51_2).f3), .slice none 0 0]) ?_ 4 _ rfl; (with_reducible repeat (first | refine blk_drewN ?_ _ | refine blk_drew ?_ | refine blk_alloc ?_ _)); refine blk_put (cs := #[.int .i64 ((rd_T46 y178 x51_2).f0), .int .i64 ((rd_T46 y178 x51_2).f1), .int .i64 ((rd_T46 y178 x51_2).f2), .string (⟨#[]⟩ : ByteArray), .slice none 0 0]) ?_ 3 _ rfl; (with_reducible repeat (first | refine blk_drewN ?_ _ | refine blk_drew ?_ | refine blk_alloc ?_ _)); refine blk_put (cs := #[.int .i64 ((rd_T46 y178 x51_2).f0), .int .i64 ((rd_T46 y178 x51_2).f1), .int .i64 0, .string (⟨#[]⟩ : ByteArray), .slice none 0 0]) ?_ 2 _ rfl; (with_reducible repeat (first | refine blk_drewN ?_ _ | refine blk_drew ?_ | refine blk_alloc ?_ _)); refine blk_put (cs := #[.int .i64 ((rd_T46 y178 x51_2).f0), .int .i64 0, .int .i64 0, .string (⟨#[]⟩ : ByteArray), .slice none 0 0]) ?_ 1 _ rfl; (with_reducible repeat (first | refine blk_drewN ?_ _ | refine blk_drew ?_ | refine blk_alloc ?_ _)); refine blk_put (cs := #[.int .i64 0, .int .i64 0, .int .i64 0, .string (⟨#[]⟩ : ByteArray), .slice none 0 0]) ?_ 0 _ rfl; (with_reducible repeat (first | refine blk_drewN ?_ _ | refine blk_drew ?_ | refine blk_alloc ?_ _)); exact BK182.out⟩
                        have n7_ : Aside0 (Below w.heap.size w (((((w34.setCell ⟨gb182, 0, none⟩ (.int .i64 ((rd_T46 y178 x51_2).f0))).setCell ⟨gb182, 1, none⟩ (.int .i64 ((rd_T46 y178 x51_2).f1))).setCell ⟨gb182, 2, none⟩ (.int .i64 ((rd_T46 y178 x51_2).f2))).setCell ⟨gb182, 3, none⟩ (.string ((rd_T46 y178 x51_2).f3))).setCell ⟨gb182, 4, none⟩ (.slice A181_4 ((rd_T46 y178 x51_2).f4).length c181_4))) := ⟨by repeat (first | (with_reducible first | exact HB.out | apply below_alloc | apply pw_below_drewN | apply below_drew1 | refine below_set ?_ GE165.out | refine below_set ?_ GE175.out | refine below_set ?_ GE182.out) | exact HB.out)⟩
                        (try clear HO_15)
                        (try clear HO_35)
                        (try clear HO_49)
                        (try clear HL181_4)
                        (try clear BK165)
                        (try clear BK175)
                        (try clear BK182)
                        (try clear HB)
                        generalize (((((w34.setCell ⟨gb182, 0, none⟩ (.int .i64 ((rd_T46 y178 x51_2).f0))).setCell ⟨gb182, 1, none⟩ (.int .i64 ((rd_T46 y178 x51_2).f1))).setCell ⟨gb182, 2, none⟩ (.int .i64 ((rd_T46 y178 x51_2).f2))).setCell ⟨gb182, 3, none⟩ (.string ((rd_T46 y178 x51_2).f3))).setCell ⟨gb182, 4, none⟩ (.slice A181_4 ((rd_T46 y178 x51_2).f4).length c181_4)) = w38 at n0_ n1_ n2_ n3_ n4_ n5_ n6_ n7_ ⊢
                        have HO_15 := n0_
                        have HO_35 := n1_
                        have HO_49 := n2_
                        have HL181_4 := n3_
                        have BK165 := n4_
                        have BK175 := n5_
                        have BK182 := n6_
                        have HB := n7_
                        clear n0_ n1_ n2_ n3_ n4_ n5_ n6_ n7_
                        have n0_ := Aside0.mk (Kd.N_drew HO_15.out)
                        have n1_ := Aside0.mk (Kd.R_drew HO_35.out)
                        have n2_ := Aside0.mk (Kd.N_drew HO_49.out)
                        have n3_ := Aside0.mk (Kd.V_drew HL181_4.out)
                        have n4_ := Aside0.mk (blk_drew BK165.out)
                        have n5_ := Aside0.mk (blk_drew BK175.out)
                        have n6_ := Aside0.mk (blk_drew BK182.out)
                        have n7_ := Aside0.mk (below_drew1 HB.out)
                        clear HO_15
                        clear HO_35
                        clear HO_49
                        clear HL181_4
                        clear BK165
                        clear BK175
                        clear BK182
                        clear HB
                        have HO_15 := n0_
                        have HO_35 := n1_
                        have HO_49 := n2_
                        have HL181_4 := n3_
                        have BK165 := n4_
                        have BK175 := n5_
                        have BK182 := n6_
                        have HB := n7_
                        clear n0_ n1_ n2_ n3_ n4_ n5_ n6_ n7_
                        refine start_ (n := 7) (S := fun w' => w'.cell? ⟨gb182, 0, none⟩ = some (.int .i64 ((rd_T46 y178 x51_2).f0)) ∧ w'.cell? ⟨gb182, 1, none⟩ = some (.int .i64 ((rd_T46 y178 x51_2).f1)) ∧ w'.cell? ⟨gb182, 2, none⟩ = some (.int .i64 ((rd_T46 y178 x51_2).f2)) ∧ w'.cell? ⟨gb182, 3, none⟩ = some (.string ((rd_T46 y178 x51_2).f3)) ∧ w'.cell? ⟨gb182, 4, none⟩ = some (.slice A181_4 ((rd_T46 y178 x51_2).f4).length c181_4) ∧ w'.cell? ⟨gb175, 0, none⟩ = some (.int .i64 ((rd_T25 y171 x37_1).f0)) ∧ w'.cell? ⟨gb175, 1, none⟩ = some (.int .i64 ((rd_T25 y171 x37_1).f1))) (ds := []) #[false, false, false, false, false, false, false] (by kernel_rfl) rfl rfl ⟨(blk_cell BK182.out 0).trans rfl, (blk_cell BK182.out 1).trans rfl, (blk_cell BK182.out 2).trans rfl, (blk_cell BK182.out 3).trans rfl, (blk_cell BK182.out 4).trans rfl, (blk_cell BK175.out 0).trans rfl, (blk_cell BK175.out 1).trans rfl⟩ (fun hHeld => ?_)
                        generalize w38.drew = w39 at HO_15 HO_35 HO_49 HL181_4 BK165 BK175 BK182 HB hHeld ⊢
                        refine take_ (i := 0) (N := some 55) (v := ?_) (a' := ?_) #[true, false, false, false, false, false, false] rfl rfl (by kernel_rfl) (fun _ _ _ h => h) (Or.inl ⟨by rfl, ?_⟩) hHeld ?_ ?_
                        rotate_left
                        · rintro w' ⟨s0, s1, s2, s3, s4, s5, s6⟩
                          go_simp
                          with_reducible rfl
                        rotate_left
                        · simp only [Act.put, List.setIfInBounds_toArray, List.set_cons_zero, List.set_cons_succ, i64_w, i32_w]
                          rfl
                        refine take_ (i := 1) (N := some 56) (v := ?_) (a' := ?_) #[true, true, false, false, false, false, false] rfl rfl (by kernel_rfl) (fun _ _ _ h => h) (Or.inl ⟨by rfl, ?_⟩) hHeld ?_ ?_
                        rotate_left
                        · rintro w' ⟨s0, s1, s2, s3, s4, s5, s6⟩
                          go_simp
                          with_reducible rfl
                        rotate_left
                        · simp only [Act.put, List.setIfInBounds_toArray, List.set_cons_zero, List.set_cons_succ, i64_w, i32_w]
                          rfl
                        refine take_ (i := 3) (N := some 58) (v := ?_) (a' := ?_) #[true, true, false, true, false, false, false] rfl rfl (by kernel_rfl) (fun _ _ _ h => h) (Or.inl ⟨by rfl, ?_⟩) hHeld ?_ ?_
                        rotate_left
                        · rintro w' ⟨s0, s1, s2, s3, s4, s5, s6⟩
                          go_simp
                          with_reducible rfl
                        rotate_left
                        · simp only [Act.put, List.setIfInBounds_toArray, List.set_cons_zero, List.set_cons_succ, i64_w, i32_w]
                          rfl
                        refine take_ (i := 4) (N := some 59) (v := ?_) (a' := ?_) #[true, true, false, true, true, false, false] rfl rfl (by kernel_rfl) (fun _ _ _ h => h) (Or.inl ⟨by rfl, ?_⟩) hHeld ?_ ?_
                        rotate_left
                        · rintro w' ⟨s0, s1, s2, s3, s4, s5, s6⟩
                          go_simp
                          with_reducible rfl
                        rotate_left
                        · simp only [Act.put, List.setIfInBounds_toArray, List.set_cons_zero, List.set_cons_succ, i64_w, i32_w]
                          rfl
                        refine one_ (i := 2) (N := some 57) #[true, true, true, true, true, false, false] rfl rfl (by kernel_rfl) (by decide) (fun K hK => ?_)
                        refine goes_ Try.func23 (by kernel_rfl) rfl #[.agg #[.int .i64 ((rd_T46 y178 x51_2).f0), .int .i64 ((rd_T46 y178 x51_2).f1), .int .i64 ((rd_T46 y178 x51_2).f2), .string ((rd_T46 y178 x51_2).f3), .slice A181_4 ((rd_T46 y178 x51_2).f4).length c181_4], .agg #[.int .i64 ((rd_T25 y171 x37_1).f0), .int .i64 ((rd_T25 y171 x37_1).f1)]] (by rfl) rfl rfl (by (try simp only [List.map_toArray, List.map_cons, List.map_nil]); first | done | rfl | (simp only [List.length_drop, List.length_take]; rfl)) ?_
                        with_reducible refine (heap_Shape.calls ((rd_T46 y178 x51_2).f0) ((rd_T46 y178 x51_2).f1) ((rd_T46 y178 x51_2).f2) ((rd_T46 y178 x51_2).f3) _ _ ((rd_T46 y178 x51_2).f4) ((rd_T25 y171 x37_1).f0) ((rd_T25 y171 x37_1).f1) t183 _ ?side1 ?side2 A31.out).mono ?_
                        (case side1 => repeat (first | exact ((Kd.V_reads' (by (with_reducible repeat (first | apply Kd.V_alloc | apply Kd.V_drewN | apply Kd.V_drew)); exact HL181_4.out)).2.2) | (with_reducible refine Kd.C_alloc ?_ _) | (with_reducible refine Kd.C_drewN ?_ _) | (with_reducible refine Kd.C_drew ?_)))
                        (case side2 => exact HC181_4.out)
                        rintro e w40 ⟨rfl, hb⟩
                        refine ⟨_, rfl, ?_⟩
                        have n0_ := Aside0.mk (Kd.N_below (by (with_reducible repeat (first | apply Kd.N_alloc | apply Kd.N_drewN | apply Kd.N_drew)); exact HO_15.out) hb)
                        have n1_ := Aside0.mk (Kd.R_below (by (with_reducible repeat (first | apply Kd.R_alloc | apply Kd.R_drewN | apply Kd.R_drew)); exact HO_35.out) hb)
                        have n2_ := Aside0.mk (Kd.N_below (by (with_reducible repeat (first | apply Kd.N_alloc | apply Kd.N_drewN | apply Kd.N_drew)); exact HO_49.out) hb)
                        have n3_ := Aside0.mk (Kd.V_below (by (with_reducible repeat (first | apply Kd.V_alloc | apply Kd.V_drewN | apply Kd.V_drew)); exact HL181_4.out) hb)
                        have n4_ := Aside0.mk (blk_below (g := gb165) (o := .cells #[.int .i64 a6_0, .int .i64 a6_1] 25 (0, 0)) (by (with_reducible repeat (first | refine blk_drewN ?_ _ | refine blk_drew ?_ | refine blk_alloc ?_ _)); exact BK165.out) hb)
                        have n5_ := Aside0.mk (blk_below (g := gb175) (o := .cells #[.int .i64 ((rd_T25 y171 x37_1).f0), .int .i64 ((rd_T25 y171 x37_1).f1)] 25 (0, 0)) (by (with_reducible repeat (first | refine blk_drewN ?_ _ | refine blk_drew ?_ | refine blk_alloc ?_ _)); exact BK175.out) hb)
                        have n6_ := Aside0.mk (blk_below (g := gb182) (o := .cells #[.int .i64 ((rd_T46 y178 x51_2).f0), .int .i64 ((rd_T46 y178 x51_2).f1), .int .i64 ((rd_T46 y178 x51_2).f2), .string ((rd_T46 y178 x51_2).f3), .slice A181_4 ((rd_T46 y178 x51_2).f4).length c181_4] 46 (0, 0)) (by (with_reducible repeat (first | refine blk_drewN ?_ _ | refine blk_drew ?_ | refine blk_alloc ?_ _)); exact BK182.out) hb)
                        have n7_ := Aside0.mk (below_step (by repeat (first | (with_reducible first | exact HB.out | apply below_alloc | apply pw_below_drewN | apply below_drew1 | refine below_set ?_ GE165.out | refine below_set ?_ GE175.out | refine below_set ?_ GE182.out) | exact HB.out)) hb)
                        clear HO_15
                        clear HO_35
                        clear HO_49
                        clear HL181_4
                        clear BK165
                        clear BK175
                        clear BK182
                        clear HB
                        have HO_15 := n0_
                        have HO_35 := n1_
                        have HO_49 := n2_
                        have HL181_4 := n3_
                        have BK165 := n4_
                        have BK175 := n5_
                        have BK182 := n6_
                        have HB := n7_
                        clear n0_ n1_ n2_ n3_ n4_ n5_ n6_ n7_
                        (try clear hb)
                        (try clear hb2)
                        (try clear hk)
                        (try clear hi)
                        refine hK.out _ _ ⟨(blk_cell BK182.out 0).trans rfl, (blk_cell BK182.out 1).trans rfl, (blk_cell BK182.out 2).trans rfl, (blk_cell BK182.out 3).trans rfl, (blk_cell BK182.out 4).trans rfl, (blk_cell BK175.out 0).trans rfl, (blk_cell BK175.out 1).trans rfl⟩ (fun hHeld => ?_)
                        clear hK K
                        refine norm_ (a' := ?_) ?_ ?_
                        rotate_left
                        · show Act.put _ (some 57) _ = _
                          simp only [Act.put, List.setIfInBounds_toArray, List.set_cons_zero, List.set_cons_succ, i64_w, i32_w]
                          rfl
                        refine one_ (i := 5) (N := some 60) #[true, true, true, true, true, true, false] rfl rfl (by kernel_rfl) (by decide) (fun K hK => ?_)
                        refine goes_ Try.func24 (by kernel_rfl) rfl #[.agg #[.int .i64 ((rd_T46 y178 x51_2).f0), .int .i64 ((rd_T46 y178 x51_2).f1), .int .i64 ((rd_T46 y178 x51_2).f2), .string ((rd_T46 y178 x51_2).f3), .slice A181_4 ((rd_T46 y178 x51_2).f4).length c181_4], .agg #[.int .i64 ((rd_T25 y171 x37_1).f0), .int .i64 ((rd_T25 y171 x37_1).f1)]] (by rfl) rfl rfl (by (try simp only [List.map_toArray, List.map_cons, List.map_nil]); first | done | rfl | (simp only [List.length_drop, List.length_take]; rfl)) ?_
                        with_reducible refine (columbaryref25_Shape.calls ((rd_T46 y178 x51_2).f0) ((rd_T46 y178 x51_2).f1) ((rd_T46 y178 x51_2).f2) ((rd_T46 y178 x51_2).f3) _ _ ((rd_T46 y178 x51_2).f4) ((rd_T25 y171 x37_1).f0) ((rd_T25 y171 x37_1).f1) t184 _ ?side1 ?side2 A32.out).mono ?_
                        (case side1 => repeat (first | exact ((Kd.V_reads' (by (with_reducible repeat (first | apply Kd.V_alloc | apply Kd.V_drewN | apply Kd.V_drew)); exact HL181_4.out)).2.2) | (with_reducible refine Kd.C_alloc ?_ _) | (with_reducible refine Kd.C_drewN ?_ _) | (with_reducible refine Kd.C_drew ?_)))
                        (case side2 => exact HC181_4.out)
                        rintro e w41 ⟨rfl, hb⟩
                        refine ⟨_, rfl, ?_⟩
                        have n0_ := Aside0.mk (Kd.N_below (by (with_reducible repeat (first | apply Kd.N_alloc | apply Kd.N_drewN | apply Kd.N_drew)); exact HO_15.out) hb)
                        have n1_ := Aside0.mk (Kd.R_below (by (with_reducible repeat (first | apply Kd.R_alloc | apply Kd.R_drewN | apply Kd.R_drew)); exact HO_35.out) hb)
                        have n2_ := Aside0.mk (Kd.N_below (by (with_reducible repeat (first | apply Kd.N_alloc | apply Kd.N_drewN | apply Kd.N_drew)); exact HO_49.out) hb)
                        have n3_ := Aside0.mk (Kd.V_below (by (with_reducible repeat (first | apply Kd.V_alloc | apply Kd.V_drewN | apply Kd.V_drew)); exact HL181_4.out) hb)
                        have n4_ := Aside0.mk (blk_below (g := gb165) (o := .cells #[.int .i64 a6_0, .int .i64 a6_1] 25 (0, 0)) (by (with_reducible repeat (first | refine blk_drewN ?_ _ | refine blk_drew ?_ | refine blk_alloc ?_ _)); exact BK165.out) hb)
                        have n5_ := Aside0.mk (blk_below (g := gb175) (o := .cells #[.int .i64 ((rd_T25 y171 x37_1).f0), .int .i64 ((rd_T25 y171 x37_1).f1)] 25 (0, 0)) (by (with_reducible repeat (first | refine blk_drewN ?_ _ | refine blk_drew ?_ | refine blk_alloc ?_ _)); exact BK175.out) hb)
                        have n6_ := Aside0.mk (blk_below (g := gb182) (o := .cells #[.int .i64 ((rd_T46 y178 x51_2).f0), .int .i64 ((rd_T46 y178 x51_2).f1), .int .i64 ((rd_T46 y178 x51_2).f2), .string ((rd_T46 y178 x51_2).f3), .slice A181_4 ((rd_T46 y178 x51_2).f4).length c181_4] 46 (0, 0)) (by (with_reducible repeat (first | refine blk_drewN ?_ _ | refine blk_drew ?_ | refine blk_alloc ?_ _)); exact BK182.out) hb)
                        have n7_ := Aside0.mk (below_step (by repeat (first | (with_reducible first | exact HB.out | apply below_alloc | apply pw_below_drewN | apply below_drew1 | refine below_set ?_ GE165.out | refine below_set ?_ GE175.out | refine below_set ?_ GE182.out) | exact HB.out)) hb)
                        clear HO_15
                        clear HO_35
                        clear HO_49
                        clear HL181_4
                        clear BK165
                        clear BK175
                        clear BK182
                        clear HB
                        have HO_15 := n0_
                        have HO_35 := n1_
                        have HO_49 := n2_
                        have HL181_4 := n3_
                        have BK165 := n4_
                        have BK175 := n5_
                        have BK182 := n6_
                        have HB := n7_
                        clear n0_ n1_ n2_ n3_ n4_ n5_ n6_ n7_
                        (try clear hb)
                        (try clear hb2)
                        (try clear hk)
                        (try clear hi)
                        refine hK.out _ _ ⟨(blk_cell BK182.out 0).trans rfl, (blk_cell BK182.out 1).trans rfl, (blk_cell BK182.out 2).trans rfl, (blk_cell BK182.out 3).trans rfl, (blk_cell BK182.out 4).trans rfl, (blk_cell BK175.out 0).trans rfl, (blk_cell BK175.out 1).trans rfl⟩ (fun hHeld => ?_)
                        clear hK K
                        refine norm_ (a' := ?_) ?_ ?_
                        rotate_left
                        · show Act.put _ (some 60) _ = _
                          simp only [Act.put, List.setIfInBounds_toArray, List.set_cons_zero, List.set_cons_succ, i64_w, i32_w]
                          rfl
                        refine pure_ (i := 6) (N := some 61) (v := ?_) (a' := ?_) #[true, true, true, true, true, true, true] rfl rfl (by kernel_rfl) (fun _ _ _ h => h) (Or.inl ⟨by rfl, ?_⟩) ?_ ?_
                        rotate_left
                        · intro w'
                          go_simp
                          with_reducible rfl
                        rotate_left
                        · simp only [Act.put, List.setIfInBounds_toArray, List.set_cons_zero, List.set_cons_succ, i64_w, i32_w]
                          rfl
                        refine done_ (by kernel_rfl) ?_
                        try go_wp2
                        go_ret
                        exact ⟨by first | rfl | (simp [errW_none, errW_some] <;> rfl) | (simp [*, errW_none, errW_some] <;> rfl), by repeat (first | (with_reducible first | exact HB.out | apply below_alloc | apply pw_below_drewN | apply below_drew1 | refine below_set ?_ GE165.out | refine below_set ?_ GE175.out | refine below_set ?_ GE182.out) | exact HB.out)⟩
                      · rw [if_neg c33] at H
                        have c33b0 : (t183 != t184) = false := by simpa using c33
                        (try (have c33b1 : decide (t183 = t184) = true := by simpa using c33))
                        (try (have c33b2 : (t183 == t184) = true := by simpa using c33))
                        clear c33
                        have H' := Aside0.mk H
                        clear H
                        have p181 : 0 ≤ (x51_2 : Int) := of_decide_eq_true (by first | (with_reducible assumption) | assumption)
                        have q181 : x51_2 < (y178.length : Int) := of_decide_eq_true (by first | (with_reducible assumption) | assumption)
                        obtain ⟨ad181, A181_4, c181_4, e181, hx181_0, hx181_1, hx181_2, hx181_3, hx181_4, hl181_4, hi181_4⟩ := at_T46 (Kd.N_reads' HO_49.out).2.2 x51_2 p181 q181
                        cases e181
                        obtain ⟨ce181, hce181, hMe181, hcc181⟩ := Kd.N_get HO_49.out z46 x51_2 p181 (by first | exact q181 | exact of_decide_eq_true (by first | (with_reducible assumption) | assumption) | (have e_ := (Kd.N_reads' HO_49.out).1; omega))
                        obtain ⟨ua181_4, uc181_4, rfl, ul181_4, ge181_4⟩ := k46_openF hMe181
                        have hv181_4 := hcc181 4 _ rfl
                        rw [add_field _ _ 4 (by omega)] at hv181_4
                        replace hv181_4 := Option.some.inj (hv181_4.symm.trans hx181_4)
                        injection hv181_4 with hva_ hvn_ hvc_
                        rw [hva_] at ge181_4
                        rw [hvc_] at ul181_4
                        have HL181_4 := Aside0.mk (show Kd.V k127 127 _ w.heap.size _ _ ((rd_T46 y178 x51_2).f4) from Kd.V_mk ul181_4 ge181_4)
                        clear hva_ hvn_ hvc_ ge181_4 ul181_4
                        clear hcc181 hce181
                        have HR181_4 := Aside0.mk hi181_4
                        have HC181_4 := Aside0.mk hl181_4
                        clear hi181_4 hl181_4
                        replace p181 := eq_true p181
                        replace q181 := eq_true q181
                        try go_wp2_with (first | ((with_reducible refine gate_dst (N := 19) rfl ?_); refine box_event ?hg (N := 19) ?hd (cs := #[.int .i64 0, .int .i64 0, .int .i64 0, .string (⟨#[]⟩ : ByteArray), .slice none 0 0]) (t := 46) ?hr ?_; (case hd => rfl); (case hg => rfl); (case hr => first | (go_simp; done) | (go_simp; rfl)); intro gb182 hg w42 hbox hb; have n0_ := Aside0.mk (Kd.N_below (Kd.N_elderB (by (with_reducible repeat (first | apply Kd.N_alloc | apply Kd.N_drewN | apply Kd.N_drew)); exact HO_15.out) gb182 (Nat.le_of_eq hg.symm)) hb); have n1_ := Aside0.mk (Kd.R_below (by (with_reducible repeat (first | apply Kd.R_alloc | apply Kd.R_drewN | apply Kd.R_drew)); exact HO_35.out) hb); have n2_ := Aside0.mk (Kd.N_below (Kd.N_elderB (by (with_reducible repeat (first | apply Kd.N_alloc | apply Kd.N_drewN | apply Kd.N_drew)); exact HO_49.out) gb182 (Nat.le_of_eq hg.symm)) hb); have n3_ := Aside0.mk (Kd.V_below (Kd.V_elderB (by (with_reducible repeat (first | apply Kd.V_alloc | apply Kd.V_drewN | apply Kd.V_drew)); exact HL181_4.out) gb182 (Nat.le_of_eq hg.symm)) hb); have n4_ := Aside0.mk (blk_below (g := gb165) (o := .cells #[.int .i64 a6_0, .int .i64 a6_1] 25 (0, 0)) (by (with_reducible repeat (first | refine blk_drewN ?_ _ | refine blk_drew ?_ | refine blk_alloc ?_ _)); exact BK165.out) hb); have n5_ := Aside0.mk (blk_below (g := gb175) (o := .cells #[.int .i64 ((rd_T25 y171 x37_1).f0), .int .i64 ((rd_T25 y171 x37_1).f1)] 25 (0, 0)) (by (with_reducible repeat (first | refine blk_drewN ?_ _ | refine blk_drew ?_ | refine blk_alloc ?_ _)); exact BK175.out) hb); have n6_ := Aside0.mk (Kd.C_below (by repeat (first | (with_reducible exact HR181_4.out) | (with_reducible refine Kd.C_alloc ?_ _) | (with_reducible refine Kd.C_drewN ?_ _) | (with_reducible refine Kd.C_drew ?_) | exact HR181_4.out)) hb); have n7_ := Aside0.mk (below_step (by repeat (first | (with_reducible first | exact HB.out | apply below_alloc | apply pw_below_drewN | apply below_drew1 | refine below_set ?_ GE165.out | refine below_set ?_ GE175.out) | exact HB.out)) hb); have n8_ := Aside0.mk (hbox); have n9_ := Aside0.mk ((by rw [hg]; exact (below_size (by repeat (first | (with_reducible first | exact HB.out | apply below_alloc | apply pw_below_drewN | apply below_drew1 | refine below_set ?_ GE165.out | refine below_set ?_ GE175.out) | exact HB.out))) : w.heap.size ≤ gb182)); have n10_ := Aside0.mk ((by rw [hg]; exact (below_size (by repeat (first | (with_reducible first | exact HB.out | apply below_alloc | apply pw_below_drewN | apply below_drew1 | refine below_set ?_ GE165.out | refine below_set ?_ GE175.out) | exact HB.out))) : w.heap.size ≤ gb182)); have n11_ := Aside0.mk ((by rw [hg]; exact Nat.ne_of_lt (blk_lt (g := gb165) (o := .cells #[.int .i64 a6_0, .int .i64 a6_1] 25 (0, 0)) (by (with_reducible repeat (first | refine blk_drewN ?_ _ | refine blk_drew ?_ | refine blk_alloc ?_ _)); exact BK165.out)) : gb165 ≠ gb182)); have n12_ := Aside0.mk ((by rw [hg]; exact Nat.ne_of_gt (blk_lt (g := gb165) (o := .cells #[.int .i64 a6_0, .int .i64 a6_1] 25 (0, 0)) (by (with_reducible repeat (first | refine blk_drewN ?_ _ | refine blk_drew ?_ | refine blk_alloc ?_ _)); exact BK165.out)) : gb182 ≠ gb165)); have n13_ := Aside0.mk ((by rw [hg]; exact Nat.ne_of_lt (blk_lt (g := gb175) (o := .cells #[.int .i64 ((rd_T25 y171 x37_1).f0), .int .i64 ((rd_T25 y171 x37_1).f1)] 25 (0, 0)) (by (with_reducible repeat (first | refine blk_drewN ?_ _ | refine blk_drew ?_ | refine blk_alloc ?_ _)); exact BK175.out)) : gb175 ≠ gb182)); have n14_ := Aside0.mk ((by rw [hg]; exact Nat.ne_of_gt (blk_lt (g := gb175) (o := .cells #[.int .i64 ((rd_T25 y171 x37_1).f0), .int .i64 ((rd_T25 y171 x37_1).f1)] 25 (0, 0)) (by (with_reducible repeat (first | refine blk_drewN ?_ _ | refine blk_drew ?_ | refine blk_alloc ?_ _)); exact BK175.out)) : gb182 ≠ gb175)); clear HO_15; clear HO_35; clear HO_49; clear HL181_4; clear BK165; clear BK175; clear HR181_4; clear HB; have HO_15 := n0_; have HO_35 := n1_; have HO_49 := n2_; have HL181_4 := n3_; have BK165 := n4_; have BK175 := n5_; have HR181_4 := n6_; have HB := n7_; have BK182 := n8_; have GW182 := n9_; have GE182 := n10_; have NB165_182 := n11_; have NB182_165 := n12_; have NB175_182 := n13_; have NB182_175 := n14_; clear n0_ n1_ n2_ n3_ n4_ n5_ n6_ n7_ n8_ n9_ n10_ n11_ n12_ n13_ n14_; clear hb hbox hg; have hnb43 := NB182_165.out; have hnc43 := NB165_182.out; have hnb44 := NB182_175.out; have hnc44 := NB175_182.out; have hcz45_0 : w42.cell? ⟨gb182, 0, none⟩ = some (.int .i64 0) := (blk_cell BK182.out 0).trans rfl; have hcz45_1 : w42.cell? ⟨gb182, 1, none⟩ = some (.int .i64 0) := (blk_cell BK182.out 1).trans rfl; have hcz45_2 : w42.cell? ⟨gb182, 2, none⟩ = some (.int .i64 0) := (blk_cell BK182.out 2).trans rfl; have hcz45_3 : w42.cell? ⟨gb182, 3, none⟩ = some (.string (⟨#[]⟩ : ByteArray)) := (blk_cell BK182.out 3).trans rfl; have hcz45_4 : w42.cell? ⟨gb182, 4, none⟩ = some (.slice none 0 0) := (blk_cell BK182.out 4).trans rfl; have hfz45_0 := blk_frozen BK182.out 0; have hfz45_1 := blk_frozen BK182.out 1; have hfz45_2 := blk_frozen BK182.out 2; have hfz45_3 := blk_frozen BK182.out 3; have hfz45_4 := blk_frozen BK182.out 4))
                        have n0_ : Aside0 (Kd.N k41 41 (((((w42.setCell ⟨gb182, 0, none⟩ (.int .i64 ((rd_T46 y178 x51_2).f0))).setCell ⟨gb182, 1, none⟩ (.int .i64 ((rd_T46 y178 x51_2).f1))).setCell ⟨gb182, 2, none⟩ (.int .i64 ((rd_T46 y178 x51_2).f2))).setCell ⟨gb182, 3, none⟩ (.string ((rd_T46 y178 x51_2).f3))).setCell ⟨gb182, 4, none⟩ (.slice A181_4 ((rd_T46 y178 x51_2).f4).length c181_4)) w.heap.size (fun k_ => some k_ ≠ (.slice (some ad174) y171.length co16 : Value).ownBlock ∧ some k_ ≠ (.slice (some ad181) y178.length co27 : Value).ownBlock ∧ k_ ≠ gb165 ∧ k_ ≠ gb175 ∧ k_ ≠ gb182) v167 t166) := ⟨by (with_reducible repeat (first | apply Kd.N_alloc | apply Kd.N_drewN | apply Kd.N_drew)); exact Kd.N_mono (Kd.N_far (p := ⟨gb182, 4, none⟩) (Kd.N_far (p := ⟨gb182, 3, none⟩) (Kd.N_far (p := ⟨gb182, 2, none⟩) (Kd.N_far (p := ⟨gb182, 1, none⟩) (Kd.N_far (p := ⟨gb182, 0, none⟩) (Kd.N_mono HO_15.out (fun k_ hk => (⟨hk, hk.2⟩ : _ ∧ k_ ≠ gb182))) (fun _ hk => hk.2) (.int .i64 ((rd_T46 y178 x51_2).f0))) (fun _ hk => hk.2) (.int .i64 ((rd_T46 y178 x51_2).f1))) (fun _ hk => hk.2) (.int .i64 ((rd_T46 y178 x51_2).f2))) (fun _ hk => hk.2) (.string ((rd_T46 y178 x51_2).f3))) (fun _ hk => hk.2) (.slice A181_4 ((rd_T46 y178 x51_2).f4).length c181_4)) (fun _ hk => ⟨hk.1.1.1, ⟨hk.1.1.2.1, ⟨hk.1.1.2.2.1, ⟨hk.1.1.2.2.2, hk.1.2⟩⟩⟩⟩)⟩
                        have n1_ : Aside0 (Kd.R k25 25 (((((w42.setCell ⟨gb182, 0, none⟩ (.int .i64 ((rd_T46 y178 x51_2).f0))).setCell ⟨gb182, 1, none⟩ (.int .i64 ((rd_T46 y178 x51_2).f1))).setCell ⟨gb182, 2, none⟩ (.int .i64 ((rd_T46 y178 x51_2).f2))).setCell ⟨gb182, 3, none⟩ (.string ((rd_T46 y178 x51_2).f3))).setCell ⟨gb182, 4, none⟩ (.slice A181_4 ((rd_T46 y178 x51_2).f4).length c181_4)) w.heap.size (fun k_ => k_ ≠ gb165 ∧ k_ ≠ gb175) (.slice (some ad174) y171.length co16) y171) := ⟨by (with_reducible repeat (first | apply Kd.R_alloc | apply Kd.R_drewN | apply Kd.R_drew)); exact Kd.R_mono (Kd.R_far (p := ⟨gb182, 4, none⟩) (Kd.R_far (p := ⟨gb182, 3, none⟩) (Kd.R_far (p := ⟨gb182, 2, none⟩) (Kd.R_far (p := ⟨gb182, 1, none⟩) (Kd.R_far (p := ⟨gb182, 0, none⟩) (Kd.R_types HO_35.out BK182.out (by decide)) (fun _ hk => hk.2) (.int .i64 ((rd_T46 y178 x51_2).f0))) (fun _ hk => hk.2) (.int .i64 ((rd_T46 y178 x51_2).f1))) (fun _ hk => hk.2) (.int .i64 ((rd_T46 y178 x51_2).f2))) (fun _ hk => hk.2) (.string ((rd_T46 y178 x51_2).f3))) (fun _ hk => hk.2) (.slice A181_4 ((rd_T46 y178 x51_2).f4).length c181_4)) (fun _ hk => ⟨hk.1.1, hk.1.2⟩)⟩
                        have n2_ : Aside0 (Kd.N k46 46 (((((w42.setCell ⟨gb182, 0, none⟩ (.int .i64 ((rd_T46 y178 x51_2).f0))).setCell ⟨gb182, 1, none⟩ (.int .i64 ((rd_T46 y178 x51_2).f1))).setCell ⟨gb182, 2, none⟩ (.int .i64 ((rd_T46 y178 x51_2).f2))).setCell ⟨gb182, 3, none⟩ (.string ((rd_T46 y178 x51_2).f3))).setCell ⟨gb182, 4, none⟩ (.slice A181_4 ((rd_T46 y178 x51_2).f4).length c181_4)) w.heap.size (fun k_ => some k_ ≠ (v167 : Value).ownBlock ∧ some k_ ≠ (.slice (some ad174) y171.length co16 : Value).ownBlock ∧ k_ ≠ gb165 ∧ k_ ≠ gb175 ∧ k_ ≠ gb182) (.slice (some ad181) y178.length co27) y178) := ⟨by (with_reducible repeat (first | apply Kd.N_alloc | apply Kd.N_drewN | apply Kd.N_drew)); exact Kd.N_mono (Kd.N_far (p := ⟨gb182, 4, none⟩) (Kd.N_far (p := ⟨gb182, 3, none⟩) (Kd.N_far (p := ⟨gb182, 2, none⟩) (Kd.N_far (p := ⟨gb182, 1, none⟩) (Kd.N_far (p := ⟨gb182, 0, none⟩) (Kd.N_mono HO_49.out (fun k_ hk => (⟨hk, hk.2⟩ : _ ∧ k_ ≠ gb182))) (fun _ hk => hk.2) (.int .i64 ((rd_T46 y178 x51_2).f0))) (fun _ hk => hk.2) (.int .i64 ((rd_T46 y178 x51_2).f1))) (fun _ hk => hk.2) (.int .i64 ((rd_T46 y178 x51_2).f2))) (fun _ hk => hk.2) (.string ((rd_T46 y178 x51_2).f3))) (fun _ hk => hk.2) (.slice A181_4 ((rd_T46 y178 x51_2).f4).length c181_4)) (fun _ hk => ⟨hk.1.1.1, ⟨hk.1.1.2.1, ⟨hk.1.1.2.2.1, ⟨hk.1.1.2.2.2, hk.1.2⟩⟩⟩⟩)⟩
                        have n3_ : Aside0 (Kd.V k127 127 (((((w42.setCell ⟨gb182, 0, none⟩ (.int .i64 ((rd_T46 y178 x51_2).f0))).setCell ⟨gb182, 1, none⟩ (.int .i64 ((rd_T46 y178 x51_2).f1))).setCell ⟨gb182, 2, none⟩ (.int .i64 ((rd_T46 y178 x51_2).f2))).setCell ⟨gb182, 3, none⟩ (.string ((rd_T46 y178 x51_2).f3))).setCell ⟨gb182, 4, none⟩ (.slice A181_4 ((rd_T46 y178 x51_2).f4).length c181_4)) w.heap.size (fun k_ => some k_ ≠ (v167 : Value).ownBlock ∧ some k_ ≠ (.slice (some ad174) y171.length co16 : Value).ownBlock ∧ some k_ ≠ (.slice (some ad181) y178.length co27 : Value).ownBlock ∧ k_ ≠ gb165 ∧ k_ ≠ gb175 ∧ k_ ≠ gb182) (.slice A181_4 ((rd_T46 y178 x51_2).f4).length c181_4) ((rd_T46 y178 x51_2).f4)) := ⟨by (with_reducible repeat (first | apply Kd.V_alloc | apply Kd.V_drewN | apply Kd.V_drew)); exact Kd.V_mono (Kd.V_far (p := ⟨gb182, 4, none⟩) (Kd.V_far (p := ⟨gb182, 3, none⟩) (Kd.V_far (p := ⟨gb182, 2, none⟩) (Kd.V_far (p := ⟨gb182, 1, none⟩) (Kd.V_far (p := ⟨gb182, 0, none⟩) (Kd.V_mono HL181_4.out (fun k_ hk => (⟨hk, hk.2⟩ : _ ∧ k_ ≠ gb182))) (fun _ hk => hk.2) (.int .i64 ((rd_T46 y178 x51_2).f0))) (fun _ hk => hk.2) (.int .i64 ((rd_T46 y178 x51_2).f1))) (fun _ hk => hk.2) (.int .i64 ((rd_T46 y178 x51_2).f2))) (fun _ hk => hk.2) (.string ((rd_T46 y178 x51_2).f3))) (fun _ hk => hk.2) (.slice A181_4 ((rd_T46 y178 x51_2).f4).length c181_4)) (fun _ hk => ⟨hk.1.1.1.1, ⟨hk.1.1.1.2.1, ⟨hk.1.1.2, ⟨hk.1.1.1.2.2.1, ⟨hk.1.1.1.2.2.2, hk.1.2⟩⟩⟩⟩⟩)⟩
                        have n4_ : Aside0 ((((((w42.setCell ⟨gb182, 0, none⟩ (.int .i64 ((rd_T46 y178 x51_2).f0))).setCell ⟨gb182, 1, none⟩ (.int .i64 ((rd_T46 y178 x51_2).f1))).setCell ⟨gb182, 2, none⟩ (.int .i64 ((rd_T46 y178 x51_2).f2))).setCell ⟨gb182, 3, none⟩ (.string ((rd_T46 y178 x51_2).f3))).setCell ⟨gb182, 4, none⟩ (.slice A181_4 ((rd_T46 y178 x51_2).f4).length c181_4)).heap[gb165]? = some (.cells #[.int .i64 a6_0, .int .i64 a6_1] 25 (0, 0))) := ⟨by (with_reducible repeat (first | refine blk_drewN ?_ _ | refine blk_drew ?_ | refine blk_alloc ?_ _)); refine blk_far ?_ NB165_182.out _; (with_reducible repeat (first | refine blk_drewN ?_ _ | refine blk_drew ?_ | refine blk_alloc ?_ _)); refine blk_far ?_ NB165_182.out _; (with_reducible repeat (first | refine blk_drewN ?_ _ | refine blk_drew ?_ | refine blk_alloc ?_ _)); refine blk_far ?_ NB165_182.out _; (with_reducible repeat (first | refine blk_drewN ?_ _ | refine blk_drew ?_ | refine blk_alloc ?_ _)); refine blk_far ?_ NB165_182.out _; (with_reducible repeat (first | refine blk_drewN ?_ _ | refine blk_drew ?_ | refine blk_alloc ?_ _)); refine blk_far ?_ NB165_182.out _; (with_reducible repeat (first | refine blk_drewN ?_ _ | refine blk_drew ?_ | refine blk_alloc ?_ _)); exact BK165.out⟩
                        have n5_ : Aside0 ((((((w42.setCell ⟨gb182, 0, none⟩ (.int .i64 ((rd_T46 y178 x51_2).f0))).setCell ⟨gb182, 1, none⟩ (.int .i64 ((rd_T46 y178 x51_2).f1))).setCell ⟨gb182, 2, none⟩ (.int .i64 ((rd_T46 y178 x51_2).f2))).setCell ⟨gb182, 3, none⟩ (.string ((rd_T46 y178 x51_2).f3))).setCell ⟨gb182, 4, none⟩ (.slice A181_4 ((rd_T46 y178 x51_2).f4).length c181_4)).heap[gb175]? = some (.cells #[.int .i64 ((rd_T25 y171 x37_1).f0), .int .i64 ((rd_T25 y171 x37_1).f1)] 25 (0, 0))) := ⟨by (with_reducible repeat (first | refine blk_drewN ?_ _ | refine blk_drew ?_ | refine blk_alloc ?_ _)); refine blk_far ?_ NB175_182.out _; (with_reducible repeat (first | refine blk_drewN ?_ _ | refine blk_drew ?_ | refine blk_alloc ?_ _)); refine blk_far ?_ NB175_182.out _; (with_reducible repeat (first | refine blk_drewN ?_ _ | refine blk_drew ?_ | refine blk_alloc ?_ _)); refine blk_far ?_ NB175_182.out _; (with_reducible repeat (first | refine blk_drewN ?_ _ | refine blk_drew ?_ | refine blk_alloc ?_ _)); refine blk_far ?_ NB175_182.out _; (with_reducible repeat (first | refine blk_drewN ?_ _ | refine blk_drew ?_ | refine blk_alloc ?_ _)); refine blk_far ?_ NB175_182.out _; (with_reducible repeat (first | refine blk_drewN ?_ _ | refine blk_drew ?_ | refine blk_alloc ?_ _)); exact BK175.out⟩
                        have n6_ : Aside0 ((((((w42.setCell ⟨gb182, 0, none⟩ (.int .i64 ((rd_T46 y178 x51_2).f0))).setCell ⟨gb182, 1, none⟩ (.int .i64 ((rd_T46 y178 x51_2).f1))).setCell ⟨gb182, 2, none⟩ (.int .i64 ((rd_T46 y178 x51_2).f2))).setCell ⟨gb182, 3, none⟩ (.string ((rd_T46 y178 x51_2).f3))).setCell ⟨gb182, 4, none⟩ (.slice A181_4 ((rd_T46 y178 x51_2).f4).length c181_4)).heap[gb182]? = some (.cells #[.int .i64 ((rd_T46 y178 x51_2).f0), .int .i64 ((rd_T46 y178 x51_2).f1), .int .i64 ((rd_T46 y178 x51_2).f2), .string ((rd_T46 y178 x51_2).f3), .slice A181_4 ((rd_T46 y178 x51_2).f4).length c181_4] 46 (0, 0))) := ⟨by (with_reducible repeat (first | refine blk_drewN ?_ _ | refine blk_drew ?_ | refine blk_alloc ?_ _)); refine blk_put (cs := #[.int .i64 ((rd_T46 y178 x51_2).f0), .int .i64 ((rd_T46 y178 x51_2).f1), .int .i64 ((rd_T46 y178 x51_2).f2), .string ((rd_T46 y178 x51_2).f3), .slice none 0 0]) ?_ 4 _ rfl; (with_reducible repeat (first | refine blk_drewN ?_ _ | refine blk_drew ?_ | refine blk_alloc ?_ _)); refine blk_put (cs := #[.int .i64 ((rd_T46 y178 x51_2).f0), .int .i64 ((rd_T46 y178 x51_2).f1), .int .i64 ((rd_T46 y178 x51_2).f2), .string (⟨#[]⟩ : ByteArray), .slice none 0 0]) ?_ 3 _ rfl; (with_reducible repeat (first | refine blk_drewN ?_ _ | refine blk_drew ?_ | refine blk_alloc ?_ _)); refine blk_put (cs := #[.int .i64 ((rd_T46 y178 x51_2).f0), .int .i64 ((rd_T46 y178 x51_2).f1), .int .i64 0, .string (⟨#[]⟩ : ByteArray), .slice none 0 0]) ?_ 2 _ rfl; (with_reducible repeat (first | refine blk_drewN ?_ _ | refine blk_drew ?_ | refine blk_alloc ?_ _)); refine blk_put (cs := #[.int .i64 ((rd_T46 y178 x51_2).f0), .int .i64 0, .int .i64 0, .string (⟨#[]⟩ : ByteArray), .slice none 0 0]) ?_ 1 _ rfl; (with_reducible repeat (first | refine blk_drewN ?_ _ | refine blk_drew ?_ | refine blk_alloc ?_ _)); refine blk_put (cs := #[.int .i64 0, .int .i64 0, .int .i64 0, .string (⟨#[]⟩ : ByteArray), .slice none 0 0]) ?_ 0 _ rfl; (with_reducible repeat (first | refine blk_drewN ?_ _ | refine blk_drew ?_ | refine blk_alloc ?_ _)); exact BK182.out⟩
                        have n7_ : Aside0 (Below w.heap.size w (((((w42.setCell ⟨gb182, 0, none⟩ (.int .i64 ((rd_T46 y178 x51_2).f0))).setCell ⟨gb182, 1, none⟩ (.int .i64 ((rd_T46 y178 x51_2).f1))).setCell ⟨gb182, 2, none⟩ (.int .i64 ((rd_T46 y178 x51_2).f2))).setCell ⟨gb182, 3, none⟩ (.string ((rd_T46 y178 x51_2).f3))).setCell ⟨gb182, 4, none⟩ (.slice A181_4 ((rd_T46 y178 x51_2).f4).length c181_4))) := ⟨by repeat (first | (with_reducible first | exact HB.out | apply below_alloc | apply pw_below_drewN | apply below_drew1 | refine below_set ?_ GE165.out | refine below_set ?_ GE175.out | refine below_set ?_ GE182.out) | exact HB.out)⟩
                        (try clear HO_15)
                        (try clear HO_35)
                        (try clear HO_49)
                        (try clear HL181_4)
                        (try clear BK165)
                        (try clear BK175)
                        (try clear BK182)
                        (try clear HB)
                        generalize (((((w42.setCell ⟨gb182, 0, none⟩ (.int .i64 ((rd_T46 y178 x51_2).f0))).setCell ⟨gb182, 1, none⟩ (.int .i64 ((rd_T46 y178 x51_2).f1))).setCell ⟨gb182, 2, none⟩ (.int .i64 ((rd_T46 y178 x51_2).f2))).setCell ⟨gb182, 3, none⟩ (.string ((rd_T46 y178 x51_2).f3))).setCell ⟨gb182, 4, none⟩ (.slice A181_4 ((rd_T46 y178 x51_2).f4).length c181_4)) = w46 at n0_ n1_ n2_ n3_ n4_ n5_ n6_ n7_ ⊢
                        have HO_15 := n0_
                        have HO_35 := n1_
                        have HO_49 := n2_
                        have HL181_4 := n3_
                        have BK165 := n4_
                        have BK175 := n5_
                        have BK182 := n6_
                        have HB := n7_
                        clear n0_ n1_ n2_ n3_ n4_ n5_ n6_ n7_
                        have n0_ := Aside0.mk (Kd.N_drew HO_15.out)
                        have n1_ := Aside0.mk (Kd.R_drew HO_35.out)
                        have n2_ := Aside0.mk (Kd.N_drew HO_49.out)
                        have n3_ := Aside0.mk (Kd.V_drew HL181_4.out)
                        have n4_ := Aside0.mk (blk_drew BK165.out)
                        have n5_ := Aside0.mk (blk_drew BK175.out)
                        have n6_ := Aside0.mk (blk_drew BK182.out)
                        have n7_ := Aside0.mk (below_drew1 HB.out)
                        clear HO_15
                        clear HO_35
                        clear HO_49
                        clear HL181_4
                        clear BK165
                        clear BK175
                        clear BK182
                        clear HB
                        have HO_15 := n0_
                        have HO_35 := n1_
                        have HO_49 := n2_
                        have HL181_4 := n3_
                        have BK165 := n4_
                        have BK175 := n5_
                        have BK182 := n6_
                        have HB := n7_
                        clear n0_ n1_ n2_ n3_ n4_ n5_ n6_ n7_
                        refine start_ (n := 7) (S := fun w' => w'.cell? ⟨gb182, 0, none⟩ = some (.int .i64 ((rd_T46 y178 x51_2).f0)) ∧ w'.cell? ⟨gb182, 1, none⟩ = some (.int .i64 ((rd_T46 y178 x51_2).f1)) ∧ w'.cell? ⟨gb182, 2, none⟩ = some (.int .i64 ((rd_T46 y178 x51_2).f2)) ∧ w'.cell? ⟨gb182, 3, none⟩ = some (.string ((rd_T46 y178 x51_2).f3)) ∧ w'.cell? ⟨gb182, 4, none⟩ = some (.slice A181_4 ((rd_T46 y178 x51_2).f4).length c181_4) ∧ w'.cell? ⟨gb175, 0, none⟩ = some (.int .i64 ((rd_T25 y171 x37_1).f0)) ∧ w'.cell? ⟨gb175, 1, none⟩ = some (.int .i64 ((rd_T25 y171 x37_1).f1))) (ds := []) #[false, false, false, false, false, false, false] (by kernel_rfl) rfl rfl ⟨(blk_cell BK182.out 0).trans rfl, (blk_cell BK182.out 1).trans rfl, (blk_cell BK182.out 2).trans rfl, (blk_cell BK182.out 3).trans rfl, (blk_cell BK182.out 4).trans rfl, (blk_cell BK175.out 0).trans rfl, (blk_cell BK175.out 1).trans rfl⟩ (fun hHeld => ?_)
                        generalize w46.drew = w47 at HO_15 HO_35 HO_49 HL181_4 BK165 BK175 BK182 HB hHeld ⊢
                        refine take_ (i := 0) (N := some 55) (v := ?_) (a' := ?_) #[true, false, false, false, false, false, false] rfl rfl (by kernel_rfl) (fun _ _ _ h => h) (Or.inl ⟨by rfl, ?_⟩) hHeld ?_ ?_
                        rotate_left
                        · rintro w' ⟨s0, s1, s2, s3, s4, s5, s6⟩
                          go_simp
                          with_reducible rfl
                        rotate_left
                        · simp only [Act.put, List.setIfInBounds_toArray, List.set_cons_zero, List.set_cons_succ, i64_w, i32_w]
                          rfl
                        refine take_ (i := 1) (N := some 56) (v := ?_) (a' := ?_) #[true, true, false, false, false, false, false] rfl rfl (by kernel_rfl) (fun _ _ _ h => h) (Or.inl ⟨by rfl, ?_⟩) hHeld ?_ ?_
                        rotate_left
                        · rintro w' ⟨s0, s1, s2, s3, s4, s5, s6⟩
                          go_simp
                          with_reducible rfl
                        rotate_left
                        · simp only [Act.put, List.setIfInBounds_toArray, List.set_cons_zero, List.set_cons_succ, i64_w, i32_w]
                          rfl
                        refine take_ (i := 3) (N := some 58) (v := ?_) (a' := ?_) #[true, true, false, true, false, false, false] rfl rfl (by kernel_rfl) (fun _ _ _ h => h) (Or.inl ⟨by rfl, ?_⟩) hHeld ?_ ?_
                        rotate_left
                        · rintro w' ⟨s0, s1, s2, s3, s4, s5, s6⟩
                          go_simp
                          with_reducible rfl
                        rotate_left
                        · simp only [Act.put, List.setIfInBounds_toArray, List.set_cons_zero, List.set_cons_succ, i64_w, i32_w]
                          rfl
                        refine take_ (i := 4) (N := some 59) (v := ?_) (a' := ?_) #[true, true, false, true, true, false, false] rfl rfl (by kernel_rfl) (fun _ _ _ h => h) (Or.inl ⟨by rfl, ?_⟩) hHeld ?_ ?_
                        rotate_left
                        · rintro w' ⟨s0, s1, s2, s3, s4, s5, s6⟩
                          go_simp
                          with_reducible rfl
                        rotate_left
                        · simp only [Act.put, List.setIfInBounds_toArray, List.set_cons_zero, List.set_cons_succ, i64_w, i32_w]
                          rfl
                        refine one_ (i := 2) (N := some 57) #[true, true, true, true, true, false, false] rfl rfl (by kernel_rfl) (by decide) (fun K hK => ?_)
                        refine goes_ Try.func23 (by kernel_rfl) rfl #[.agg #[.int .i64 ((rd_T46 y178 x51_2).f0), .int .i64 ((rd_T46 y178 x51_2).f1), .int .i64 ((rd_T46 y178 x51_2).f2), .string ((rd_T46 y178 x51_2).f3), .slice A181_4 ((rd_T46 y178 x51_2).f4).length c181_4], .agg #[.int .i64 ((rd_T25 y171 x37_1).f0), .int .i64 ((rd_T25 y171 x37_1).f1)]] (by rfl) rfl rfl (by (try simp only [List.map_toArray, List.map_cons, List.map_nil]); first | done | rfl | (simp only [List.length_drop, List.length_take]; rfl)) ?_
                        with_reducible refine (heap_Shape.calls ((rd_T46 y178 x51_2).f0) ((rd_T46 y178 x51_2).f1) ((rd_T46 y178 x51_2).f2) ((rd_T46 y178 x51_2).f3) _ _ ((rd_T46 y178 x51_2).f4) ((rd_T25 y171 x37_1).f0) ((rd_T25 y171 x37_1).f1) t183 _ ?side1 ?side2 A31.out).mono ?_
                        (case side1 => repeat (first | exact ((Kd.V_reads' (by (with_reducible repeat (first | apply Kd.V_alloc | apply Kd.V_drewN | apply Kd.V_drew)); exact HL181_4.out)).2.2) | (with_reducible refine Kd.C_alloc ?_ _) | (with_reducible refine Kd.C_drewN ?_ _) | (with_reducible refine Kd.C_drew ?_)))
                        (case side2 => exact HC181_4.out)
                        rintro e w48 ⟨rfl, hb⟩
                        refine ⟨_, rfl, ?_⟩
                        have n0_ := Aside0.mk (Kd.N_below (by (with_reducible repeat (first | apply Kd.N_alloc | apply Kd.N_drewN | apply Kd.N_drew)); exact HO_15.out) hb)
                        have n1_ := Aside0.mk (Kd.R_below (by (with_reducible repeat (first | apply Kd.R_alloc | apply Kd.R_drewN | apply Kd.R_drew)); exact HO_35.out) hb)
                        have n2_ := Aside0.mk (Kd.N_below (by (with_reducible repeat (first | apply Kd.N_alloc | apply Kd.N_drewN | apply Kd.N_drew)); exact HO_49.out) hb)
                        have n3_ := Aside0.mk (Kd.V_below (by (with_reducible repeat (first | apply Kd.V_alloc | apply Kd.V_drewN | apply Kd.V_drew)); exact HL181_4.out) hb)
                        have n4_ := Aside0.mk (blk_below (g := gb165) (o := .cells #[.int .i64 a6_0, .int .i64 a6_1] 25 (0, 0)) (by (with_reducible repeat (first | refine blk_drewN ?_ _ | refine blk_drew ?_ | refine blk_alloc ?_ _)); exact BK165.out) hb)
                        have n5_ := Aside0.mk (blk_below (g := gb175) (o := .cells #[.int .i64 ((rd_T25 y171 x37_1).f0), .int .i64 ((rd_T25 y171 x37_1).f1)] 25 (0, 0)) (by (with_reducible repeat (first | refine blk_drewN ?_ _ | refine blk_drew ?_ | refine blk_alloc ?_ _)); exact BK175.out) hb)
                        have n6_ := Aside0.mk (blk_below (g := gb182) (o := .cells #[.int .i64 ((rd_T46 y178 x51_2).f0), .int .i64 ((rd_T46 y178 x51_2).f1), .int .i64 ((rd_T46 y178 x51_2).f2), .string ((rd_T46 y178 x51_2).f3), .slice A181_4 ((rd_T46 y178 x51_2).f4).length c181_4] 46 (0, 0)) (by (with_reducible repeat (first | refine blk_drewN ?_ _ | refine blk_drew ?_ | refine blk_alloc ?_ _)); exact BK182.out) hb)
                        have n7_ := Aside0.mk (below_step (by repeat (first | (with_reducible first | exact HB.out | apply below_alloc | apply pw_below_drewN | apply below_drew1 | refine below_set ?_ GE165.out | refine below_set ?_ GE175.out | refine below_set ?_ GE182.out) | exact HB.out)) hb)
                        clear HO_15
                        clear HO_35
                        clear HO_49
                        clear HL181_4
                        clear BK165
                        clear BK175
                        clear BK182
                        clear HB
                        have HO_15 := n0_
                        have HO_35 := n1_
                        have HO_49 := n2_
                        have HL181_4 := n3_
                        have BK165 := n4_
                        have BK175 := n5_
                        have BK182 := n6_
                        have HB := n7_
                        clear n0_ n1_ n2_ n3_ n4_ n5_ n6_ n7_
                        (try clear hb)
                        (try clear hb2)
                        (try clear hk)
                        (try clear hi)
                        refine hK.out _ _ ⟨(blk_cell BK182.out 0).trans rfl, (blk_cell BK182.out 1).trans rfl, (blk_cell BK182.out 2).trans rfl, (blk_cell BK182.out 3).trans rfl, (blk_cell BK182.out 4).trans rfl, (blk_cell BK175.out 0).trans rfl, (blk_cell BK175.out 1).trans rfl⟩ (fun hHeld => ?_)
                        clear hK K
                        refine norm_ (a' := ?_) ?_ ?_
                        rotate_left
                        · show Act.put _ (some 57) _ = _
                          simp only [Act.put, List.setIfInBounds_toArray, List.set_cons_zero, List.set_cons_succ, i64_w, i32_w]
                          rfl
                        refine one_ (i := 5) (N := some 60) #[true, true, true, true, true, true, false] rfl rfl (by kernel_rfl) (by decide) (fun K hK => ?_)
                        refine goes_ Try.func24 (by kernel_rfl) rfl #[.agg #[.int .i64 ((rd_T46 y178 x51_2).f0), .int .i64 ((rd_T46 y178 x51_2).f1), .int .i64 ((rd_T46 y178 x51_2).f2), .string ((rd_T46 y178 x51_2).f3), .slice A181_4 ((rd_T46 y178 x51_2).f4).length c181_4], .agg #[.int .i64 ((rd_T25 y171 x37_1).f0), .int .i64 ((rd_T25 y171 x37_1).f1)]] (by rfl) rfl rfl (by (try simp only [List.map_toArray, List.map_cons, List.map_nil]); first | done | rfl | (simp only [List.length_drop, List.length_take]; rfl)) ?_
                        with_reducible refine (columbaryref25_Shape.calls ((rd_T46 y178 x51_2).f0) ((rd_T46 y178 x51_2).f1) ((rd_T46 y178 x51_2).f2) ((rd_T46 y178 x51_2).f3) _ _ ((rd_T46 y178 x51_2).f4) ((rd_T25 y171 x37_1).f0) ((rd_T25 y171 x37_1).f1) t184 _ ?side1 ?side2 A32.out).mono ?_
                        (case side1 => repeat (first | exact ((Kd.V_reads' (by (with_reducible repeat (first | apply Kd.V_alloc | apply Kd.V_drewN | apply Kd.V_drew)); exact HL181_4.out)).2.2) | (with_reducible refine Kd.C_alloc ?_ _) | (with_reducible refine Kd.C_drewN ?_ _) | (with_reducible refine Kd.C_drew ?_)))
                        (case side2 => exact HC181_4.out)
                        rintro e w49 ⟨rfl, hb⟩
                        refine ⟨_, rfl, ?_⟩
                        have n0_ := Aside0.mk (Kd.N_below (by (with_reducible repeat (first | apply Kd.N_alloc | apply Kd.N_drewN | apply Kd.N_drew)); exact HO_15.out) hb)
                        have n1_ := Aside0.mk (Kd.R_below (by (with_reducible repeat (first | apply Kd.R_alloc | apply Kd.R_drewN | apply Kd.R_drew)); exact HO_35.out) hb)
                        have n2_ := Aside0.mk (Kd.N_below (by (with_reducible repeat (first | apply Kd.N_alloc | apply Kd.N_drewN | apply Kd.N_drew)); exact HO_49.out) hb)
                        have n3_ := Aside0.mk (Kd.V_below (by (with_reducible repeat (first | apply Kd.V_alloc | apply Kd.V_drewN | apply Kd.V_drew)); exact HL181_4.out) hb)
                        have n4_ := Aside0.mk (blk_below (g := gb165) (o := .cells #[.int .i64 a6_0, .int .i64 a6_1] 25 (0, 0)) (by (with_reducible repeat (first | refine blk_drewN ?_ _ | refine blk_drew ?_ | refine blk_alloc ?_ _)); exact BK165.out) hb)
                        have n5_ := Aside0.mk (blk_below (g := gb175) (o := .cells #[.int .i64 ((rd_T25 y171 x37_1).f0), .int .i64 ((rd_T25 y171 x37_1).f1)] 25 (0, 0)) (by (with_reducible repeat (first | refine blk_drewN ?_ _ | refine blk_drew ?_ | refine blk_alloc ?_ _)); exact BK175.out) hb)
                        have n6_ := Aside0.mk (blk_below (g := gb182) (o := .cells #[.int .i64 ((rd_T46 y178 x51_2).f0), .int .i64 ((rd_T46 y178 x51_2).f1), .int .i64 ((rd_T46 y178 x51_2).f2), .string ((rd_T46 y178 x51_2).f3), .slice A181_4 ((rd_T46 y178 x51_2).f4).length c181_4] 46 (0, 0)) (by (with_reducible repeat (first | refine blk_drewN ?_ _ | refine blk_drew ?_ | refine blk_alloc ?_ _)); exact BK182.out) hb)
                        have n7_ := Aside0.mk (below_step (by repeat (first | (with_reducible first | exact HB.out | apply below_alloc | apply pw_below_drewN | apply below_drew1 | refine below_set ?_ GE165.out | refine below_set ?_ GE175.out | refine below_set ?_ GE182.out) | exact HB.out)) hb)
                        clear HO_15
                        clear HO_35
                        clear HO_49
                        clear HL181_4
                        clear BK165
                        clear BK175
                        clear BK182
                        clear HB
                        have HO_15 := n0_
                        have HO_35 := n1_
                        have HO_49 := n2_
                        have HL181_4 := n3_
                        have BK165 := n4_
                        have BK175 := n5_
                        have BK182 := n6_
                        have HB := n7_
                        clear n0_ n1_ n2_ n3_ n4_ n5_ n6_ n7_
                        (try clear hb)
                        (try clear hb2)
                        (try clear hk)
                        (try clear hi)
                        refine hK.out _ _ ⟨(blk_cell BK182.out 0).trans rfl, (blk_cell BK182.out 1).trans rfl, (blk_cell BK182.out 2).trans rfl, (blk_cell BK182.out 3).trans rfl, (blk_cell BK182.out 4).trans rfl, (blk_cell BK175.out 0).trans rfl, (blk_cell BK175.out 1).trans rfl⟩ (fun hHeld => ?_)
                        clear hK K
                        refine norm_ (a' := ?_) ?_ ?_
                        rotate_left
                        · show Act.put _ (some 60) _ = _
                          simp only [Act.put, List.setIfInBounds_toArray, List.set_cons_zero, List.set_cons_succ, i64_w, i32_w]
                          rfl
                        refine pure_ (i := 6) (N := some 61) (v := ?_) (a' := ?_) #[true, true, true, true, true, true, true] rfl rfl (by kernel_rfl) (fun _ _ _ h => h) (Or.inl ⟨by rfl, ?_⟩) ?_ ?_
                        rotate_left
                        · intro w'
                          go_simp
                          with_reducible rfl
                        rotate_left
                        · simp only [Act.put, List.setIfInBounds_toArray, List.set_cons_zero, List.set_cons_succ, i64_w, i32_w]
                          rfl
                        refine done_ (by kernel_rfl) ?_
                        try go_wp2
                        go_roundg k2
                        case measure => have := HK1.out; have := HK2.out; omega
                        case rel => exact ⟨(wrap64 (x51_2 + 1)), (by first | rfl | (simp; done) | (simp [*]; done)), H', ⟨by have := HK1.out; have := HK2.out; omega⟩, ⟨by (with_reducible repeat (first | apply Kd.N_alloc | apply Kd.N_drewN | apply Kd.N_drew)); exact Kd.N_mono HO_15.out (fun _ hk => ⟨hk.1, ⟨hk.2.1, ⟨hk.2.2.1, hk.2.2.2.1⟩⟩⟩)⟩, ⟨by (with_reducible repeat (first | apply Kd.R_alloc | apply Kd.R_drewN | apply Kd.R_drew)); exact HO_35.out⟩, ⟨by (with_reducible repeat (first | apply Kd.N_alloc | apply Kd.N_drewN | apply Kd.N_drew)); exact Kd.N_mono HO_49.out (fun _ hk => ⟨hk.1, ⟨hk.2.1, ⟨hk.2.2.1, hk.2.2.2.1⟩⟩⟩)⟩, ⟨by (with_reducible repeat (first | refine blk_drewN ?_ _ | refine blk_drew ?_ | refine blk_alloc ?_ _)); exact BK165.out⟩, ⟨by (with_reducible repeat (first | refine blk_drewN ?_ _ | refine blk_drew ?_ | refine blk_alloc ?_ _)); exact BK175.out⟩, ⟨by repeat (first | (with_reducible first | exact HB.out | apply below_alloc | apply pw_below_drewN | apply below_drew1 | refine below_set ?_ GE165.out | refine below_set ?_ GE175.out | refine below_set ?_ GE182.out) | exact HB.out)⟩⟩
                    · rw [if_neg c30] at H
                      exact absurd H (by simp)
                  · rw [if_neg c29] at H
                    exact absurd H (by simp)
                · rw [if_neg c28] at H
                  have c28b0 : decide (x51_2 < (y178.length : Int)) = false := decide_eq_false c28
                  clear c28
                  replace H := Option.bind_eq_some_iff.mp H
                  obtain ⟨t185, A500, H⟩ := H
                  replace H : ((some (([a5, wrap64 (t185 - 1)] : List Int) : List Int)).bind fun y186 => (columbarylaw25_HeapTells.l2 k2 a1 a2 a3 a4 a5 t166 y171 (y171.length : Int) x37_1 y186 (y186.length : Int) 0 ((rd_T25 y171 x37_1).f0) ((rd_T25 y171 x37_1).f1))) = some r := H
                  have A50 := Aside0.mk A500
                  clear A500
                  obtain ⟨y186, hy186⟩ : ∃ y_ : List Int, y_ = (([a5, wrap64 (t185 - 1)] : List Int)) := ⟨_, rfl⟩
                  replace H : (columbarylaw25_HeapTells.l2 k2 a1 a2 a3 a4 a5 t166 y171 (y171.length : Int) x37_1 y186 (y186.length : Int) 0 ((rd_T25 y171 x37_1).f0) ((rd_T25 y171 x37_1).f1)) = some r := by first | (rw [hy186]; with_reducible exact H) | (have H2_ := (Option.bind_some _ _).symm.trans H; rw [hy186]; with_reducible exact H2_) | (have H2_ := (Option.bind_some _ _).symm.trans H; with_reducible exact H2_) | with_reducible exact H | (rw [hy186]; exact H) | exact H
                  have Ny186 := Aside0.mk hy186
                  clear hy186
                  have H' := Aside0.mk H
                  clear H
                  go_wp2_with (first | ((with_reducible refine gate_callee (f := 19) rfl ?_); refine goesL_ (some 65) rfl rfl Try.func19 (by kernel_rfl) rfl #[.int .i64 a5, .int .i64 4] rfl (by (try simp only [List.map_toArray, List.map_cons, List.map_nil]); first | done | rfl | (simp only [List.length_drop, List.length_take]; rfl)) ?_; (with_reducible refine (columbarykeep_Within.calls a5 4 t185 _ A50.out).mono ?_); rintro e w' ⟨rfl, ⟨nd, rfl⟩⟩; refine ⟨_, rfl, ?_⟩) | ((with_reducible refine gate_dst (N := 67) rfl ?_); refine Kd.R_lit (Kd.int .i64) _ 3 ?hg (N := 67) ?hd (xs := ([a5, wrap64 (t185 - 1)] : List Int)) (inner := [.int .i64 a5, .int .i64 (wrap64 (t185 - 1))]) (ok := fun _ => True) (okp := fun _ => True) ?hr ?hp (fun _ hk => hk) trivial (Below.refl _ _) (Nat.le_refl _) (by simp) ?_; (case hd => rfl); (case hg => rfl); (case hr => first | (go_simp; done) | (go_simp; rfl)); (case hp => exact (Reps.one (show Kd.M (Kd.int .i64) _ _ _ a5 [.int .i64 a5] from rfl) (Reps.one (show Kd.M (Kd.int .i64) _ _ _ (wrap64 (t185 - 1)) [.int .i64 (wrap64 (t185 - 1))] from rfl) (Reps.none _ _)))); intro v187 w51 ho52 hb hg_ hnew_; clear hg_ hnew_; (first | rw [← Ny186.out] at ho52 | (simp only [Int.reduceToNat] at ho52; rw [← Ny186.out] at ho52)); have n0_ := Aside0.mk (Kd.N_elder' (by (with_reducible repeat (first | apply Kd.N_alloc | apply Kd.N_drewN | apply Kd.N_drew)); exact HO_15.out) (Kd.R_base ho52) hb); have n1_ := Aside0.mk (Kd.R_below (by (with_reducible repeat (first | apply Kd.R_alloc | apply Kd.R_drewN | apply Kd.R_drew)); exact HO_35.out) hb); have n2_ := Aside0.mk (Kd.N_elder' (by (with_reducible repeat (first | apply Kd.N_alloc | apply Kd.N_drewN | apply Kd.N_drew)); exact HO_49.out) (Kd.R_base ho52) hb); have n3_ := Aside0.mk (Kd.R_lower ho52 (below_size (by repeat (first | (with_reducible first | exact HB.out | apply below_alloc | apply pw_below_drewN | apply below_drew1 | refine below_set ?_ GE165.out | refine below_set ?_ GE175.out) | exact HB.out)))); have n4_ := Aside0.mk (blk_below (g := gb165) (o := .cells #[.int .i64 a6_0, .int .i64 a6_1] 25 (0, 0)) (by (with_reducible repeat (first | refine blk_drewN ?_ _ | refine blk_drew ?_ | refine blk_alloc ?_ _)); exact BK165.out) hb); have n5_ := Aside0.mk (blk_below (g := gb175) (o := .cells #[.int .i64 ((rd_T25 y171 x37_1).f0), .int .i64 ((rd_T25 y171 x37_1).f1)] 25 (0, 0)) (by (with_reducible repeat (first | refine blk_drewN ?_ _ | refine blk_drew ?_ | refine blk_alloc ?_ _)); exact BK175.out) hb); have n6_ := Aside0.mk (below_step (by repeat (first | (with_reducible first | exact HB.out | apply below_alloc | apply pw_below_drewN | apply below_drew1 | refine below_set ?_ GE165.out | refine below_set ?_ GE175.out) | exact HB.out)) hb); clear HO_15; clear HO_35; clear HO_49; clear BK165; clear BK175; clear HB; have HO_15 := n0_; have HO_35 := n1_; have HO_49 := n2_; have HO188 := n3_; have BK165 := n4_; have BK175 := n5_; have HB := n6_; clear n0_ n1_ n2_ n3_ n4_ n5_ n6_; clear hb ho52; obtain ⟨Ao53, co53, eo53⟩ := Kd.R_slice HO188.out; subst eo53))
                  go_loopg [69] k2 (fun kq v69 w' => ∃ (x69_3 : Int), v69 = .int .i64 x69_3 ∧ Aside0 (columbarylaw25_HeapTells.l2 kq a1 a2 a3 a4 a5 t166 y171 (y171.length : Int) x37_1 y186 (y186.length : Int) x69_3 ((rd_T25 y171 x37_1).f0) ((rd_T25 y171 x37_1).f1) = some r) ∧ Aside0 (kq ≤ k2) ∧ Aside0 (Kd.N k41 41 w' w.heap.size (fun k_ => some k_ ≠ ((.slice (some ad174) y171.length co16) : Value).ownBlock ∧ some k_ ≠ ((.slice Ao53 y186.length co53) : Value).ownBlock ∧ k_ ≠ gb165 ∧ k_ ≠ gb175) v167 t166) ∧ Aside0 (Kd.R k25 25 w' w.heap.size (fun k_ => k_ ≠ gb165 ∧ k_ ≠ gb175) (.slice (some ad174) y171.length co16) y171) ∧ Aside0 (Kd.R (Kd.int .i64) 3 w' w.heap.size (fun _ => True) (.slice Ao53 y186.length co53) y186) ∧ Aside0 (w'.heap[gb165]? = some (.cells #[.int .i64 a6_0, .int .i64 a6_1] 25 (0, 0))) ∧ Aside0 (w'.heap[gb175]? = some (.cells #[.int .i64 ((rd_T25 y171 x37_1).f0), .int .i64 ((rd_T25 y171 x37_1).f1)] 25 (0, 0))) ∧ Aside0 (Below w.heap.size w w'))
                  case atStart => exact ⟨(0), (by first | rfl | (simp; done) | (simp [*]; done)), H', ⟨Nat.le_refl _⟩, ⟨by (with_reducible repeat (first | apply Kd.N_alloc | apply Kd.N_drewN | apply Kd.N_drew)); exact Kd.N_mono HO_15.out (fun _ hk => ⟨hk.1.1, ⟨hk.2, ⟨hk.1.2.2.1, hk.1.2.2.2⟩⟩⟩)⟩, ⟨by (with_reducible repeat (first | apply Kd.R_alloc | apply Kd.R_drewN | apply Kd.R_drew)); exact HO_35.out⟩, ⟨by (with_reducible repeat (first | apply Kd.R_alloc | apply Kd.R_drewN | apply Kd.R_drew)); exact HO188.out⟩, ⟨by (with_reducible repeat (first | refine blk_drewN ?_ _ | refine blk_drew ?_ | refine blk_alloc ?_ _)); exact BK165.out⟩, ⟨by (with_reducible repeat (first | refine blk_drewN ?_ _ | refine blk_drew ?_ | refine blk_alloc ?_ _)); exact BK175.out⟩, ⟨by repeat (first | (with_reducible first | exact HB.out | apply below_alloc | apply pw_below_drewN | apply below_drew1 | refine below_set ?_ GE165.out | refine below_set ?_ GE175.out) | exact HB.out)⟩⟩
                  case round =>
                    clear H'
                    try clear c1
                    try clear p1
                    try clear q1
                    try clear hx1
                    try clear c2
                    try clear p2
                    try clear c3
                    try clear c4
                    try clear c5
                    try clear p6
                    try clear c13
                    try clear c15
                    try clear c17
                    try clear c17b0
                    try clear p17
                    try clear q17
                    try clear hx17
                    try clear c18
                    try clear c18b0
                    try clear p18
                    try clear q18
                    try clear hx18
                    try clear c19
                    try clear c19b0
                    try clear c23
                    try clear c24
                    try clear c28
                    try clear c28b0
                    try clear c29
                    try clear c29b0
                    try clear c30
                    try clear c30b0
                    try clear c33
                    try clear c33b0
                    try clear c33b1
                    try clear c33b2
                    try clear c35
                    try clear c36
                    try clear c43
                    try clear c44
                    try clear hcz24_0
                    try clear hcz24_1
                    try clear hcz37_0
                    try clear hcz37_1
                    try clear hcz37_2
                    try clear hcz37_3
                    try clear hcz37_4
                    try clear hcz45_0
                    try clear hcz45_1
                    try clear hcz45_2
                    try clear hcz45_3
                    try clear hcz45_4
                    try clear hfz24_0
                    try clear hfz24_1
                    try clear hfz37_0
                    try clear hfz37_1
                    try clear hfz37_2
                    try clear hfz37_3
                    try clear hfz37_4
                    try clear hfz45_0
                    try clear hfz45_1
                    try clear hfz45_2
                    try clear hfz45_3
                    try clear hfz45_4
                    try clear hx174_0
                    try clear hx174_1
                    try clear hx181_0
                    try clear hx181_1
                    try clear hx181_2
                    try clear hx181_3
                    try clear hx181_4
                    try clear p1
                    try clear p17
                    try clear p174
                    try clear p181
                    try clear p2
                    try clear q1
                    try clear q17
                    try clear q174
                    try clear q181
                    obtain ⟨x69_3, rfl, HA, HK3, HO_15, HO_35, HO_67, BK165, BK175, HB⟩ := hrel
                    cases gk with
                    | zero => exact absurd HA.out (by simp [columbarylaw25_HeapTells.l2])
                    | succ k3 =>
                      have H := HA.out
                      clear HA
                      simp only [columbarylaw25_HeapTells.l2] at H
                      by_cases c54 : x69_3 < (y186.length : Int)
                      · rw [if_pos c54] at H
                        have c54b0 : decide (x69_3 < (y186.length : Int)) = true := decide_eq_true c54
                        clear c54
                        by_cases c55 : 0 ≤ x69_3
                        · rw [if_pos c55] at H
                          have c55b0 : decide (0 ≤ x69_3) = true := decide_eq_true c55
                          clear c55
                          by_cases c56 : x69_3 < (y186.length : Int)
                          · rw [if_pos c56] at H
                            have c56b0 : decide (x69_3 < (y186.length : Int)) = true := decide_eq_true c56
                            clear c56
                            replace H := Option.bind_eq_some_iff.mp H
                            obtain ⟨⟨t190, t191⟩, A570, H⟩ := H
                            replace H : ((columbaryref25_FindObj.f k3 t166 ((rd_T25 y171 x37_1).f0) ((rd_T25 y171 x37_1).f1) (rd y186 x69_3)).bind fun bt192 => (if t190 = bt192.1 then (if t191 = bt192.2 then (columbarylaw25_HeapTells.l2 k3 a1 a2 a3 a4 a5 t166 y171 (y171.length : Int) x37_1 y186 (y186.length : Int) (wrap64 (x69_3 + 1)) ((rd_T25 y171 x37_1).f0) ((rd_T25 y171 x37_1).f1)) else (some false)) else (some false))) = some r := H
                            have A57 := Aside0.mk A570
                            clear A570
                            replace H := Option.bind_eq_some_iff.mp H
                            obtain ⟨⟨t192, t193⟩, A580, H⟩ := H
                            replace H : (if t190 = t192 then (if t191 = t193 then (columbarylaw25_HeapTells.l2 k3 a1 a2 a3 a4 a5 t166 y171 (y171.length : Int) x37_1 y186 (y186.length : Int) (wrap64 (x69_3 + 1)) ((rd_T25 y171 x37_1).f0) ((rd_T25 y171 x37_1).f1)) else (some false)) else (some false)) = some r := H
                            have A58 := Aside0.mk A580
                            clear A580
                            by_cases c59 : t190 = t192
                            · rw [if_pos c59] at H
                              have c59b0 : (t190 == t192) = true := beq_iff_eq.mpr c59
                              have c59b1 : (t190 != t192) = false := bne_eq_false_iff_eq.mpr c59
                              clear c59
                              by_cases c60 : t191 = t193
                              · rw [if_pos c60] at H
                                have c60b0 : (t191 == t193) = true := beq_iff_eq.mpr c60
                                have c60b1 : (t191 != t193) = false := bne_eq_false_iff_eq.mpr c60
                                clear c60
                                have H' := Aside0.mk H
                                clear H
                                have p189 : 0 ≤ (x69_3 : Int) := of_decide_eq_true (by first | (with_reducible assumption) | assumption)
                                have q189 : x69_3 < (y186.length : Int) := of_decide_eq_true (by first | (with_reducible assumption) | assumption)
                                obtain ⟨ad189, e189, hx189_0⟩ := Kd.at_int (Kd.R_reads' HO_67.out).2.2 x69_3 p189 q189
                                cases e189
                                replace p189 := eq_true p189
                                replace q189 := eq_true q189
                                have hnb61 := NB175_165.out
                                have hnc61 := NB165_175.out
                                have hcz62_0 : wr.cell? ⟨gb175, 0, none⟩ = some (.int .i64 ((rd_T25 y171 x37_1).f0)) := (blk_cell BK175.out 0).trans rfl
                                have hcz62_1 : wr.cell? ⟨gb175, 1, none⟩ = some (.int .i64 ((rd_T25 y171 x37_1).f1)) := (blk_cell BK175.out 1).trans rfl
                                have hfz62_0 := blk_frozen BK175.out 0
                                have hfz62_1 := blk_frozen BK175.out 1
                                obtain ⟨Ao63, co63, eo63⟩ := Kd.N_slice HO_15.out
                                subst eo63
                                go_wp2_with (first | ((with_reducible refine gate_callee (f := 25) rfl ?_); refine goesL_ (some 77) rfl rfl Try.func25 (by kernel_rfl) rfl #[.slice Ao63 t166.length co63, .agg #[.int .i64 ((rd_T25 y171 x37_1).f0), .int .i64 ((rd_T25 y171 x37_1).f1)], .int .i64 (rd y186 x69_3)] rfl (by (try simp only [List.map_toArray, List.map_cons, List.map_nil]); first | done | rfl | (simp only [List.length_drop, List.length_take]; rfl)) ?_; (with_reducible refine (heap_Find.calls k3 _ _ t166 ((rd_T25 y171 x37_1).f0) ((rd_T25 y171 x37_1).f1) (rd y186 x69_3) t190 t191 _ ?side1 ?side2 A57.out).mono ?_); (case side1 => repeat (first | exact (Kd.N_reads' HO_15.out).2.2 | (with_reducible refine Kd.C_alloc ?_ _) | (with_reducible refine Kd.C_drewN ?_ _) | (with_reducible refine Kd.C_drew ?_))); (case side2 => exact (Kd.N_reads' HO_15.out).2.1); rintro e w64 ⟨rfl, hb⟩; refine ⟨_, rfl, ?_⟩; have n0_ := Aside0.mk (Kd.N_below (by (with_reducible repeat (first | apply Kd.N_alloc | apply Kd.N_drewN | apply Kd.N_drew)); exact HO_15.out) hb); have n1_ := Aside0.mk (Kd.R_below (by (with_reducible repeat (first | apply Kd.R_alloc | apply Kd.R_drewN | apply Kd.R_drew)); exact HO_35.out) hb); have n2_ := Aside0.mk (Kd.R_below (by (with_reducible repeat (first | apply Kd.R_alloc | apply Kd.R_drewN | apply Kd.R_drew)); exact HO_67.out) hb); have n3_ := Aside0.mk (blk_below (g := gb165) (o := .cells #[.int .i64 a6_0, .int .i64 a6_1] 25 (0, 0)) (by (with_reducible repeat (first | refine blk_drewN ?_ _ | refine blk_drew ?_ | refine blk_alloc ?_ _)); exact BK165.out) hb); have n4_ := Aside0.mk (blk_below (g := gb175) (o := .cells #[.int .i64 ((rd_T25 y171 x37_1).f0), .int .i64 ((rd_T25 y171 x37_1).f1)] 25 (0, 0)) (by (with_reducible repeat (first | refine blk_drewN ?_ _ | refine blk_drew ?_ | refine blk_alloc ?_ _)); exact BK175.out) hb); have n5_ := Aside0.mk (below_step (by repeat (first | (with_reducible first | exact HB.out | apply below_alloc | apply pw_below_drewN | apply below_drew1 | refine below_set ?_ GE165.out | refine below_set ?_ GE175.out) | exact HB.out)) hb); clear HO_15; clear HO_35; clear HO_67; clear BK165; clear BK175; clear HB; have HO_15 := n0_; have HO_35 := n1_; have HO_67 := n2_; have BK165 := n3_; have BK175 := n4_; have HB := n5_; clear n0_ n1_ n2_ n3_ n4_ n5_; (try clear hb); (try clear hb2); (try clear hk); (try clear hi); have hcz65_0 : w64.cell? ⟨gb175, 0, none⟩ = some (.int .i64 ((rd_T25 y171 x37_1).f0)) := (blk_cell BK175.out 0).trans rfl; have hcz65_1 : w64.cell? ⟨gb175, 1, none⟩ = some (.int .i64 ((rd_T25 y171 x37_1).f1)) := (blk_cell BK175.out 1).trans rfl; have hfz65_0 := blk_frozen BK175.out 0; have hfz65_1 := blk_frozen BK175.out 1) | ((with_reducible refine gate_callee (f := 26) rfl ?_); refine goesL_ (some 84) rfl rfl Try.func26 (by kernel_rfl) rfl #[.slice Ao63 t166.length co63, .agg #[.int .i64 ((rd_T25 y171 x37_1).f0), .int .i64 ((rd_T25 y171 x37_1).f1)], .int .i64 (rd y186 x69_3)] rfl (by (try simp only [List.map_toArray, List.map_cons, List.map_nil]); first | done | rfl | (simp only [List.length_drop, List.length_take]; rfl)) ?_; (with_reducible refine (columbaryref25_FindObj.calls k3 _ _ t166 ((rd_T25 y171 x37_1).f0) ((rd_T25 y171 x37_1).f1) (rd y186 x69_3) t192 t193 _ ?side1 ?side2 A58.out).mono ?_); (case side1 => repeat (first | exact (Kd.N_reads' HO_15.out).2.2 | (with_reducible refine Kd.C_alloc ?_ _) | (with_reducible refine Kd.C_drewN ?_ _) | (with_reducible refine Kd.C_drew ?_))); (case side2 => exact (Kd.N_reads' HO_15.out).2.1); rintro e w66 ⟨rfl, hb⟩; refine ⟨_, rfl, ?_⟩; have n0_ := Aside0.mk (Kd.N_below (by (with_reducible repeat (first | apply Kd.N_alloc | apply Kd.N_drewN | apply Kd.N_drew)); exact HO_15.out) hb); have n1_ := Aside0.mk (Kd.R_below (by (with_reducible repeat (first | apply Kd.R_alloc | apply Kd.R_drewN | apply Kd.R_drew)); exact HO_35.out) hb); have n2_ := Aside0.mk (Kd.R_below (by (with_reducible repeat (first | apply Kd.R_alloc | apply Kd.R_drewN | apply Kd.R_drew)); exact HO_67.out) hb); have n3_ := Aside0.mk (blk_below (g := gb165) (o := .cells #[.int .i64 a6_0, .int .i64 a6_1] 25 (0, 0)) (by (with_reducible repeat (first | refine blk_drewN ?_ _ | refine blk_drew ?_ | refine blk_alloc ?_ _)); exact BK165.out) hb); have n4_ := Aside0.mk (blk_below (g := gb175) (o := .cells #[.int .i64 ((rd_T25 y171 x37_1).f0), .int .i64 ((rd_T25 y171 x37_1).f1)] 25 (0, 0)) (by (with_reducible repeat (first | refine blk_drewN ?_ _ | refine blk_drew ?_ | refine blk_alloc ?_ _)); exact BK175.out) hb); have n5_ := Aside0.mk (below_step (by repeat (first | (with_reducible first | exact HB.out | apply below_alloc | apply pw_below_drewN | apply below_drew1 | refine below_set ?_ GE165.out | refine below_set ?_ GE175.out) | exact HB.out)) hb); clear HO_15; clear HO_35; clear HO_67; clear BK165; clear BK175; clear HB; have HO_15 := n0_; have HO_35 := n1_; have HO_67 := n2_; have BK165 := n3_; have BK175 := n4_; have HB := n5_; clear n0_ n1_ n2_ n3_ n4_ n5_; (try clear hb); (try clear hb2); (try clear hk); (try clear hi)))
                                go_roundg k3
                                case measure => have := HK1.out; have := HK2.out; have := HK3.out; omega
                                case rel => exact ⟨(wrap64 (x69_3 + 1)), (by first | rfl | (simp; done) | (simp [*]; done)), H', ⟨by have := HK1.out; have := HK2.out; have := HK3.out; omega⟩, ⟨by (with_reducible repeat (first | apply Kd.N_alloc | apply Kd.N_drewN | apply Kd.N_drew)); exact HO_15.out⟩, ⟨by (with_reducible repeat (first | apply Kd.R_alloc | apply Kd.R_drewN | apply Kd.R_drew)); exact HO_35.out⟩, ⟨by (with_reducible repeat (first | apply Kd.R_alloc | apply Kd.R_drewN | apply Kd.R_drew)); exact HO_67.out⟩, ⟨by (with_reducible repeat (first | refine blk_drewN ?_ _ | refine blk_drew ?_ | refine blk_alloc ?_ _)); exact BK165.out⟩, ⟨by (with_reducible repeat (first | refine blk_drewN ?_ _ | refine blk_drew ?_ | refine blk_alloc ?_ _)); exact BK175.out⟩, ⟨by repeat (first | (with_reducible first | exact HB.out | apply below_alloc | apply pw_below_drewN | apply below_drew1 | refine below_set ?_ GE165.out | refine below_set ?_ GE175.out) | exact HB.out)⟩⟩
                              · rw [if_neg c60] at H
                                have c60b0 : (t191 == t193) = false := beq_eq_false_iff_ne.mpr c60
                                have c60b1 : (t191 != t193) = true := bne_iff_ne.mpr c60
                                obtain rfl := Option.some.inj H
                                have p189 : 0 ≤ (x69_3 : Int) := of_decide_eq_true (by first | (with_reducible assumption) | assumption)
                                have q189 : x69_3 < (y186.length : Int) := of_decide_eq_true (by first | (with_reducible assumption) | assumption)
                                obtain ⟨ad189, e189, hx189_0⟩ := Kd.at_int (Kd.R_reads' HO_67.out).2.2 x69_3 p189 q189
                                cases e189
                                replace p189 := eq_true p189
                                replace q189 := eq_true q189
                                have hnb67 := NB175_165.out
                                have hnc67 := NB165_175.out
                                have hcz68_0 : wr.cell? ⟨gb175, 0, none⟩ = some (.int .i64 ((rd_T25 y171 x37_1).f0)) := (blk_cell BK175.out 0).trans rfl
                                have hcz68_1 : wr.cell? ⟨gb175, 1, none⟩ = some (.int .i64 ((rd_T25 y171 x37_1).f1)) := (blk_cell BK175.out 1).trans rfl
                                have hfz68_0 := blk_frozen BK175.out 0
                                have hfz68_1 := blk_frozen BK175.out 1
                                obtain ⟨Ao69, co69, eo69⟩ := Kd.N_slice HO_15.out
                                subst eo69
                                go_wp2_with (first | ((with_reducible refine gate_callee (f := 25) rfl ?_); refine goesL_ (some 77) rfl rfl Try.func25 (by kernel_rfl) rfl #[.slice Ao69 t166.length co69, .agg #[.int .i64 ((rd_T25 y171 x37_1).f0), .int .i64 ((rd_T25 y171 x37_1).f1)], .int .i64 (rd y186 x69_3)] rfl (by (try simp only [List.map_toArray, List.map_cons, List.map_nil]); first | done | rfl | (simp only [List.length_drop, List.length_take]; rfl)) ?_; (with_reducible refine (heap_Find.calls k3 _ _ t166 ((rd_T25 y171 x37_1).f0) ((rd_T25 y171 x37_1).f1) (rd y186 x69_3) t190 t191 _ ?side1 ?side2 A57.out).mono ?_); (case side1 => repeat (first | exact (Kd.N_reads' HO_15.out).2.2 | (with_reducible refine Kd.C_alloc ?_ _) | (with_reducible refine Kd.C_drewN ?_ _) | (with_reducible refine Kd.C_drew ?_))); (case side2 => exact (Kd.N_reads' HO_15.out).2.1); rintro e w70 ⟨rfl, hb⟩; refine ⟨_, rfl, ?_⟩; have n0_ := Aside0.mk (Kd.N_below (by (with_reducible repeat (first | apply Kd.N_alloc | apply Kd.N_drewN | apply Kd.N_drew)); exact HO_15.out) hb); have n1_ := Aside0.mk (Kd.R_below (by (with_reducible repeat (first | apply Kd.R_alloc | apply Kd.R_drewN | apply Kd.R_drew)); exact HO_35.out) hb); have n2_ := Aside0.mk (Kd.R_below (by (with_reducible repeat (first | apply Kd.R_alloc | apply Kd.R_drewN | apply Kd.R_drew)); exact HO_67.out) hb); have n3_ := Aside0.mk (blk_below (g := gb165) (o := .cells #[.int .i64 a6_0, .int .i64 a6_1] 25 (0, 0)) (by (with_reducible repeat (first | refine blk_drewN ?_ _ | refine blk_drew ?_ | refine blk_alloc ?_ _)); exact BK165.out) hb); have n4_ := Aside0.mk (blk_below (g := gb175) (o := .cells #[.int .i64 ((rd_T25 y171 x37_1).f0), .int .i64 ((rd_T25 y171 x37_1).f1)] 25 (0, 0)) (by (with_reducible repeat (first | refine blk_drewN ?_ _ | refine blk_drew ?_ | refine blk_alloc ?_ _)); exact BK175.out) hb); have n5_ := Aside0.mk (below_step (by repeat (first | (with_reducible first | exact HB.out | apply below_alloc | apply pw_below_drewN | apply below_drew1 | refine below_set ?_ GE165.out | refine below_set ?_ GE175.out) | exact HB.out)) hb); clear HO_15; clear HO_35; clear HO_67; clear BK165; clear BK175; clear HB; have HO_15 := n0_; have HO_35 := n1_; have HO_67 := n2_; have BK165 := n3_; have BK175 := n4_; have HB := n5_; clear n0_ n1_ n2_ n3_ n4_ n5_; (try clear hb); (try clear hb2); (try clear hk); (try clear hi); have hcz71_0 : w70.cell? ⟨gb175, 0, none⟩ = some (.int .i64 ((rd_T25 y171 x37_1).f0)) := (blk_cell BK175.out 0).trans rfl; have hcz71_1 : w70.cell? ⟨gb175, 1, none⟩ = some (.int .i64 ((rd_T25 y171 x37_1).f1)) := (blk_cell BK175.out 1).trans rfl; have hfz71_0 := blk_frozen BK175.out 0; have hfz71_1 := blk_frozen BK175.out 1) | ((with_reducible refine gate_callee (f := 26) rfl ?_); refine goesL_ (some 84) rfl rfl Try.func26 (by kernel_rfl) rfl #[.slice Ao69 t166.length co69, .agg #[.int .i64 ((rd_T25 y171 x37_1).f0), .int .i64 ((rd_T25 y171 x37_1).f1)], .int .i64 (rd y186 x69_3)] rfl (by (try simp only [List.map_toArray, List.map_cons, List.map_nil]); first | done | rfl | (simp only [List.length_drop, List.length_take]; rfl)) ?_; (with_reducible refine (columbaryref25_FindObj.calls k3 _ _ t166 ((rd_T25 y171 x37_1).f0) ((rd_T25 y171 x37_1).f1) (rd y186 x69_3) t192 t193 _ ?side1 ?side2 A58.out).mono ?_); (case side1 => repeat (first | exact (Kd.N_reads' HO_15.out).2.2 | (with_reducible refine Kd.C_alloc ?_ _) | (with_reducible refine Kd.C_drewN ?_ _) | (with_reducible refine Kd.C_drew ?_))); (case side2 => exact (Kd.N_reads' HO_15.out).2.1); rintro e w72 ⟨rfl, hb⟩; refine ⟨_, rfl, ?_⟩; have n0_ := Aside0.mk (Kd.N_below (by (with_reducible repeat (first | apply Kd.N_alloc | apply Kd.N_drewN | apply Kd.N_drew)); exact HO_15.out) hb); have n1_ := Aside0.mk (Kd.R_below (by (with_reducible repeat (first | apply Kd.R_alloc | apply Kd.R_drewN | apply Kd.R_drew)); exact HO_35.out) hb); have n2_ := Aside0.mk (Kd.R_below (by (with_reducible repeat (first | apply Kd.R_alloc | apply Kd.R_drewN | apply Kd.R_drew)); exact HO_67.out) hb); have n3_ := Aside0.mk (blk_below (g := gb165) (o := .cells #[.int .i64 a6_0, .int .i64 a6_1] 25 (0, 0)) (by (with_reducible repeat (first | refine blk_drewN ?_ _ | refine blk_drew ?_ | refine blk_alloc ?_ _)); exact BK165.out) hb); have n4_ := Aside0.mk (blk_below (g := gb175) (o := .cells #[.int .i64 ((rd_T25 y171 x37_1).f0), .int .i64 ((rd_T25 y171 x37_1).f1)] 25 (0, 0)) (by (with_reducible repeat (first | refine blk_drewN ?_ _ | refine blk_drew ?_ | refine blk_alloc ?_ _)); exact BK175.out) hb); have n5_ := Aside0.mk (below_step (by repeat (first | (with_reducible first | exact HB.out | apply below_alloc | apply pw_below_drewN | apply below_drew1 | refine below_set ?_ GE165.out | refine below_set ?_ GE175.out) | exact HB.out)) hb); clear HO_15; clear HO_35; clear HO_67; clear BK165; clear BK175; clear HB; have HO_15 := n0_; have HO_35 := n1_; have HO_67 := n2_; have BK165 := n3_; have BK175 := n4_; have HB := n5_; clear n0_ n1_ n2_ n3_ n4_ n5_; (try clear hb); (try clear hb2); (try clear hk); (try clear hi)))
                                go_ret
                                exact ⟨by first | rfl | (simp [errW_none, errW_some] <;> rfl) | (simp [*, errW_none, errW_some] <;> rfl), by repeat (first | (with_reducible first | exact HB.out | apply below_alloc | apply pw_below_drewN | apply below_drew1 | refine below_set ?_ GE165.out | refine below_set ?_ GE175.out) | exact HB.out)⟩
                            · rw [if_neg c59] at H
                              have c59b0 : (t190 == t192) = false := beq_eq_false_iff_ne.mpr c59
                              have c59b1 : (t190 != t192) = true := bne_iff_ne.mpr c59
                              obtain rfl := Option.some.inj H
                              have p189 : 0 ≤ (x69_3 : Int) := of_decide_eq_true (by first | (with_reducible assumption) | assumption)
                              have q189 : x69_3 < (y186.length : Int) := of_decide_eq_true (by first | (with_reducible assumption) | assumption)
                              obtain ⟨ad189, e189, hx189_0⟩ := Kd.at_int (Kd.R_reads' HO_67.out).2.2 x69_3 p189 q189
                              cases e189
                              replace p189 := eq_true p189
                              replace q189 := eq_true q189
                              have hnb73 := NB175_165.out
                              have hnc73 := NB165_175.out
                              have hcz74_0 : wr.cell? ⟨gb175, 0, none⟩ = some (.int .i64 ((rd_T25 y171 x37_1).f0)) := (blk_cell BK175.out 0).trans rfl
                              have hcz74_1 : wr.cell? ⟨gb175, 1, none⟩ = some (.int .i64 ((rd_T25 y171 x37_1).f1)) := (blk_cell BK175.out 1).trans rfl
                              have hfz74_0 := blk_frozen BK175.out 0
                              have hfz74_1 := blk_frozen BK175.out 1
                              obtain ⟨Ao75, co75, eo75⟩ := Kd.N_slice HO_15.out
                              subst eo75
                              go_wp2_with (first | ((with_reducible refine gate_callee (f := 25) rfl ?_); refine goesL_ (some 77) rfl rfl Try.func25 (by kernel_rfl) rfl #[.slice Ao75 t166.length co75, .agg #[.int .i64 ((rd_T25 y171 x37_1).f0), .int .i64 ((rd_T25 y171 x37_1).f1)], .int .i64 (rd y186 x69_3)] rfl (by (try simp only [List.map_toArray, List.map_cons, List.map_nil]); first | done | rfl | (simp only [List.length_drop, List.length_take]; rfl)) ?_; (with_reducible refine (heap_Find.calls k3 _ _ t166 ((rd_T25 y171 x37_1).f0) ((rd_T25 y171 x37_1).f1) (rd y186 x69_3) t190 t191 _ ?side1 ?side2 A57.out).mono ?_); (case side1 => repeat (first | exact (Kd.N_reads' HO_15.out).2.2 | (with_reducible refine Kd.C_alloc ?_ _) | (with_reducible refine Kd.C_drewN ?_ _) | (with_reducible refine Kd.C_drew ?_))); (case side2 => exact (Kd.N_reads' HO_15.out).2.1); rintro e w76 ⟨rfl, hb⟩; refine ⟨_, rfl, ?_⟩; have n0_ := Aside0.mk (Kd.N_below (by (with_reducible repeat (first | apply Kd.N_alloc | apply Kd.N_drewN | apply Kd.N_drew)); exact HO_15.out) hb); have n1_ := Aside0.mk (Kd.R_below (by (with_reducible repeat (first | apply Kd.R_alloc | apply Kd.R_drewN | apply Kd.R_drew)); exact HO_35.out) hb); have n2_ := Aside0.mk (Kd.R_below (by (with_reducible repeat (first | apply Kd.R_alloc | apply Kd.R_drewN | apply Kd.R_drew)); exact HO_67.out) hb); have n3_ := Aside0.mk (blk_below (g := gb165) (o := .cells #[.int .i64 a6_0, .int .i64 a6_1] 25 (0, 0)) (by (with_reducible repeat (first | refine blk_drewN ?_ _ | refine blk_drew ?_ | refine blk_alloc ?_ _)); exact BK165.out) hb); have n4_ := Aside0.mk (blk_below (g := gb175) (o := .cells #[.int .i64 ((rd_T25 y171 x37_1).f0), .int .i64 ((rd_T25 y171 x37_1).f1)] 25 (0, 0)) (by (with_reducible repeat (first | refine blk_drewN ?_ _ | refine blk_drew ?_ | refine blk_alloc ?_ _)); exact BK175.out) hb); have n5_ := Aside0.mk (below_step (by repeat (first | (with_reducible first | exact HB.out | apply below_alloc | apply pw_below_drewN | apply below_drew1 | refine below_set ?_ GE165.out | refine below_set ?_ GE175.out) | exact HB.out)) hb); clear HO_15; clear HO_35; clear HO_67; clear BK165; clear BK175; clear HB; have HO_15 := n0_; have HO_35 := n1_; have HO_67 := n2_; have BK165 := n3_; have BK175 := n4_; have HB := n5_; clear n0_ n1_ n2_ n3_ n4_ n5_; (try clear hb); (try clear hb2); (try clear hk); (try clear hi); have hcz77_0 : w76.cell? ⟨gb175, 0, none⟩ = some (.int .i64 ((rd_T25 y171 x37_1).f0)) := (blk_cell BK175.out 0).trans rfl; have hcz77_1 : w76.cell? ⟨gb175, 1, none⟩ = some (.int .i64 ((rd_T25 y171 x37_1).f1)) := (blk_cell BK175.out 1).trans rfl; have hfz77_0 := blk_frozen BK175.out 0; have hfz77_1 := blk_frozen BK175.out 1) | ((with_reducible refine gate_callee (f := 26) rfl ?_); refine goesL_ (some 84) rfl rfl Try.func26 (by kernel_rfl) rfl #[.slice Ao75 t166.length co75, .agg #[.int .i64 ((rd_T25 y171 x37_1).f0), .int .i64 ((rd_T25 y171 x37_1).f1)], .int .i64 (rd y186 x69_3)] rfl (by (try simp only [List.map_toArray, List.map_cons, List.map_nil]); first | done | rfl | (simp only [List.length_drop, List.length_take]; rfl)) ?_; (with_reducible refine (columbaryref25_FindObj.calls k3 _ _ t166 ((rd_T25 y171 x37_1).f0) ((rd_T25 y171 x37_1).f1) (rd y186 x69_3) t192 t193 _ ?side1 ?side2 A58.out).mono ?_); (case side1 => repeat (first | exact (Kd.N_reads' HO_15.out).2.2 | (with_reducible refine Kd.C_alloc ?_ _) | (with_reducible refine Kd.C_drewN ?_ _) | (with_reducible refine Kd.C_drew ?_))); (case side2 => exact (Kd.N_reads' HO_15.out).2.1); rintro e w78 ⟨rfl, hb⟩; refine ⟨_, rfl, ?_⟩; have n0_ := Aside0.mk (Kd.N_below (by (with_reducible repeat (first | apply Kd.N_alloc | apply Kd.N_drewN | apply Kd.N_drew)); exact HO_15.out) hb); have n1_ := Aside0.mk (Kd.R_below (by (with_reducible repeat (first | apply Kd.R_alloc | apply Kd.R_drewN | apply Kd.R_drew)); exact HO_35.out) hb); have n2_ := Aside0.mk (Kd.R_below (by (with_reducible repeat (first | apply Kd.R_alloc | apply Kd.R_drewN | apply Kd.R_drew)); exact HO_67.out) hb); have n3_ := Aside0.mk (blk_below (g := gb165) (o := .cells #[.int .i64 a6_0, .int .i64 a6_1] 25 (0, 0)) (by (with_reducible repeat (first | refine blk_drewN ?_ _ | refine blk_drew ?_ | refine blk_alloc ?_ _)); exact BK165.out) hb); have n4_ := Aside0.mk (blk_below (g := gb175) (o := .cells #[.int .i64 ((rd_T25 y171 x37_1).f0), .int .i64 ((rd_T25 y171 x37_1).f1)] 25 (0, 0)) (by (with_reducible repeat (first | refine blk_drewN ?_ _ | refine blk_drew ?_ | refine blk_alloc ?_ _)); exact BK175.out) hb); have n5_ := Aside0.mk (below_step (by repeat (first | (with_reducible first | exact HB.out | apply below_alloc | apply pw_below_drewN | apply below_drew1 | refine below_set ?_ GE165.out | refine below_set ?_ GE175.out) | exact HB.out)) hb); clear HO_15; clear HO_35; clear HO_67; clear BK165; clear BK175; clear HB; have HO_15 := n0_; have HO_35 := n1_; have HO_67 := n2_; have BK165 := n3_; have BK175 := n4_; have HB := n5_; clear n0_ n1_ n2_ n3_ n4_ n5_; (try clear hb); (try clear hb2); (try clear hk); (try clear hi)))
                              go_ret
                              exact ⟨by first | rfl | (simp [errW_none, errW_some] <;> rfl) | (simp [*, errW_none, errW_some] <;> rfl), by repeat (first | (with_reducible first | exact HB.out | apply below_alloc | apply pw_below_drewN | apply below_drew1 | refine below_set ?_ GE165.out | refine below_set ?_ GE175.out) | exact HB.out)⟩
                          · rw [if_neg c56] at H
                            exact absurd H (by simp)
                        · rw [if_neg c55] at H
                          exact absurd H (by simp)
                      · rw [if_neg c54] at H
                        have c54b0 : decide (x69_3 < (y186.length : Int)) = false := decide_eq_false c54
                        clear c54
                        have H' := Aside0.mk H
                        clear H
                        go_wp2
                        go_roundg k3
                        case measure => have := HK1.out; have := HK2.out; have := HK3.out; omega
                        case rel => exact ⟨(wrap64 (x37_1 + 1)), (by first | rfl | (simp; done) | (simp [*]; done)), H', ⟨by have := HK1.out; have := HK2.out; have := HK3.out; omega⟩, ⟨by (with_reducible repeat (first | apply Kd.N_alloc | apply Kd.N_drewN | apply Kd.N_drew)); exact Kd.N_mono HO_15.out (fun _ hk => ⟨hk.1, hk.2.2.1⟩)⟩, ⟨by (with_reducible repeat (first | apply Kd.R_alloc | apply Kd.R_drewN | apply Kd.R_drew)); exact Kd.R_mono HO_35.out (fun _ hk => hk.1)⟩, ⟨by (with_reducible repeat (first | refine blk_drewN ?_ _ | refine blk_drew ?_ | refine blk_alloc ?_ _)); exact BK165.out⟩, ⟨by repeat (first | (with_reducible first | exact HB.out | apply below_alloc | apply pw_below_drewN | apply below_drew1 | refine below_set ?_ GE165.out | refine below_set ?_ GE175.out) | exact HB.out)⟩⟩
          · rw [if_neg c19] at H
            exact absurd H (by simp)
        · rw [if_neg c18] at H
          exact absurd H (by simp)
      · rw [if_neg c17] at H
        have c17b0 : decide (x37_1 < (y171.length : Int)) = false := decide_eq_false c17
        clear c17
        replace H := Option.bind_eq_some_iff.mp H
        obtain ⟨t194, A790, H⟩ := H
        replace H : ((some (([a3, t194] : List Int) : List Int)).bind fun y195 => (columbarylaw25_HeapTells.l3 k1 a4 t166 y195 (y195.length : Int) 0)) = some r := H
        have A79 := Aside0.mk A790
        clear A790
        obtain ⟨y195, hy195⟩ : ∃ y_ : List Int, y_ = (([a3, t194] : List Int)) := ⟨_, rfl⟩
        replace H : (columbarylaw25_HeapTells.l3 k1 a4 t166 y195 (y195.length : Int) 0) = some r := by first | (rw [hy195]; with_reducible exact H) | (have H2_ := (Option.bind_some _ _).symm.trans H; rw [hy195]; with_reducible exact H2_) | (have H2_ := (Option.bind_some _ _).symm.trans H; with_reducible exact H2_) | with_reducible exact H | (rw [hy195]; exact H) | exact H
        have Ny195 := Aside0.mk hy195
        clear hy195
        have H' := Aside0.mk H
        clear H
        go_wp2_with (first | ((with_reducible refine gate_callee (f := 19) rfl ?_); refine goesL_ (some 99) rfl rfl Try.func19 (by kernel_rfl) rfl #[.int .i64 a3, .int .i64 7] rfl (by (try simp only [List.map_toArray, List.map_cons, List.map_nil]); first | done | rfl | (simp only [List.length_drop, List.length_take]; rfl)) ?_; (with_reducible refine (columbarykeep_Within.calls a3 7 t194 _ A79.out).mono ?_); rintro e w' ⟨rfl, ⟨nd, rfl⟩⟩; refine ⟨_, rfl, ?_⟩) | ((with_reducible refine gate_dst (N := 100) rfl ?_); refine Kd.R_lit (Kd.int .i64) _ 3 ?hg (N := 100) ?hd (xs := ([a3, t194] : List Int)) (inner := [.int .i64 a3, .int .i64 t194]) (ok := fun _ => True) (okp := fun _ => True) ?hr ?hp (fun _ hk => hk) trivial (Below.refl _ _) (Nat.le_refl _) (by simp) ?_; (case hd => rfl); (case hg => rfl); (case hr => first | (go_simp; done) | (go_simp; rfl)); (case hp => exact (Reps.one (show Kd.M (Kd.int .i64) _ _ _ a3 [.int .i64 a3] from rfl) (Reps.one (show Kd.M (Kd.int .i64) _ _ _ t194 [.int .i64 t194] from rfl) (Reps.none _ _)))); intro v196 w80 ho81 hb hg_ hnew_; clear hg_ hnew_; (first | rw [← Ny195.out] at ho81 | (simp only [Int.reduceToNat] at ho81; rw [← Ny195.out] at ho81)); have n0_ := Aside0.mk (Kd.N_elder' (by (with_reducible repeat (first | apply Kd.N_alloc | apply Kd.N_drewN | apply Kd.N_drew)); exact HO_15.out) (Kd.R_base ho81) hb); have n1_ := Aside0.mk (Kd.R_below (by (with_reducible repeat (first | apply Kd.R_alloc | apply Kd.R_drewN | apply Kd.R_drew)); exact HO_35.out) hb); have n2_ := Aside0.mk (Kd.R_lower ho81 (below_size (by repeat (first | (with_reducible first | exact HB.out | apply below_alloc | apply pw_below_drewN | apply below_drew1 | refine below_set ?_ GE165.out) | exact HB.out)))); have n3_ := Aside0.mk (blk_below (g := gb165) (o := .cells #[.int .i64 a6_0, .int .i64 a6_1] 25 (0, 0)) (by (with_reducible repeat (first | refine blk_drewN ?_ _ | refine blk_drew ?_ | refine blk_alloc ?_ _)); exact BK165.out) hb); have n4_ := Aside0.mk (below_step (by repeat (first | (with_reducible first | exact HB.out | apply below_alloc | apply pw_below_drewN | apply below_drew1 | refine below_set ?_ GE165.out) | exact HB.out)) hb); clear HO_15; clear HO_35; clear BK165; clear HB; have HO_15 := n0_; have HO_35 := n1_; have HO197 := n2_; have BK165 := n3_; have HB := n4_; clear n0_ n1_ n2_ n3_ n4_; clear hb ho81; obtain ⟨Ao82, co82, eo82⟩ := Kd.R_slice HO197.out; subst eo82))
        go_loopg [102] k1 (fun kq v102 w' => ∃ (x102_2 : Int), v102 = .int .i64 x102_2 ∧ Aside0 (columbarylaw25_HeapTells.l3 kq a4 t166 y195 (y195.length : Int) x102_2 = some r) ∧ Aside0 (kq ≤ k1) ∧ Aside0 (Kd.N k41 41 w' w.heap.size (fun k_ => some k_ ≠ ((.slice Ao82 y195.length co82) : Value).ownBlock ∧ k_ ≠ gb165) v167 t166) ∧ Aside0 (Kd.R (Kd.int .i64) 3 w' w.heap.size (fun _ => True) (.slice Ao82 y195.length co82) y195) ∧ Aside0 (w'.heap[gb165]? = some (.cells #[.int .i64 a6_0, .int .i64 a6_1] 25 (0, 0))) ∧ Aside0 (Below w.heap.size w w'))
        case atStart => exact ⟨(0), (by first | rfl | (simp; done) | (simp [*]; done)), H', ⟨Nat.le_refl _⟩, ⟨by (with_reducible repeat (first | apply Kd.N_alloc | apply Kd.N_drewN | apply Kd.N_drew)); exact Kd.N_mono HO_15.out (fun _ hk => ⟨hk.2, hk.1.2⟩)⟩, ⟨by (with_reducible repeat (first | apply Kd.R_alloc | apply Kd.R_drewN | apply Kd.R_drew)); exact HO197.out⟩, ⟨by (with_reducible repeat (first | refine blk_drewN ?_ _ | refine blk_drew ?_ | refine blk_alloc ?_ _)); exact BK165.out⟩, ⟨by repeat (first | (with_reducible first | exact HB.out | apply below_alloc | apply pw_below_drewN | apply below_drew1 | refine below_set ?_ GE165.out) | exact HB.out)⟩⟩
        case round =>
          clear H'
          try clear c1
          try clear p1
          try clear q1
          try clear hx1
          try clear c2
          try clear p2
          try clear c3
          try clear c4
          try clear c5
          try clear c6
          try clear p6
          try clear c7
          try clear c13
          try clear c15
          try clear c17
          try clear c17b0
          try clear p17
          try clear q17
          try clear hx17
          try clear c18
          try clear c18b0
          try clear p18
          try clear q18
          try clear hx18
          try clear c19
          try clear c19b0
          try clear c23
          try clear c24
          try clear c25
          try clear c26
          try clear c28
          try clear c28b0
          try clear c29
          try clear c29b0
          try clear c30
          try clear c30b0
          try clear c33
          try clear c33b0
          try clear c33b1
          try clear c33b2
          try clear c35
          try clear c36
          try clear c43
          try clear c44
          try clear c54
          try clear c54b0
          try clear c55
          try clear c55b0
          try clear c56
          try clear c56b0
          try clear c59
          try clear c59b0
          try clear c59b1
          try clear c60
          try clear c60b0
          try clear c60b1
          try clear c61
          try clear p64
          try clear c67
          try clear c73
          try clear hcz24_0
          try clear hcz24_1
          try clear hcz37_0
          try clear hcz37_1
          try clear hcz37_2
          try clear hcz37_3
          try clear hcz37_4
          try clear hcz45_0
          try clear hcz45_1
          try clear hcz45_2
          try clear hcz45_3
          try clear hcz45_4
          try clear hcz62_0
          try clear hcz62_1
          try clear hcz65_0
          try clear hcz65_1
          try clear hcz68_0
          try clear hcz68_1
          try clear hcz71_0
          try clear hcz71_1
          try clear hcz74_0
          try clear hcz74_1
          try clear hcz77_0
          try clear hcz77_1
          try clear hfz24_0
          try clear hfz24_1
          try clear hfz37_0
          try clear hfz37_1
          try clear hfz37_2
          try clear hfz37_3
          try clear hfz37_4
          try clear hfz45_0
          try clear hfz45_1
          try clear hfz45_2
          try clear hfz45_3
          try clear hfz45_4
          try clear hfz62_0
          try clear hfz62_1
          try clear hfz65_0
          try clear hfz65_1
          try clear hfz68_0
          try clear hfz68_1
          try clear hfz71_0
          try clear hfz71_1
          try clear hfz74_0
          try clear hfz74_1
          try clear hfz77_0
          try clear hfz77_1
          try clear hx174_0
          try clear hx174_1
          try clear hx181_0
          try clear hx181_1
          try clear hx181_2
          try clear hx181_3
          try clear hx181_4
          try clear hx189_0
          try clear p1
          try clear p17
          try clear p174
          try clear p18
          try clear p181
          try clear p189
          try clear p2
          try clear p6
          try clear q1
          try clear q17
          try clear q174
          try clear q18
          try clear q181
          try clear q189
          obtain ⟨x102_2, rfl, HA, HK2, HO_15, HO_100, BK165, HB⟩ := hrel
          cases gk with
          | zero => exact absurd HA.out (by simp [columbarylaw25_HeapTells.l3])
          | succ k2 =>
            have H := HA.out
            clear HA
            simp only [columbarylaw25_HeapTells.l3] at H
            by_cases c83 : x102_2 < (y195.length : Int)
            · rw [if_pos c83] at H
              have c83b0 : decide (x102_2 < (y195.length : Int)) = true := decide_eq_true c83
              clear c83
              by_cases c84 : 0 ≤ x102_2
              · rw [if_pos c84] at H
                have c84b0 : decide (0 ≤ x102_2) = true := decide_eq_true c84
                clear c84
                by_cases c85 : x102_2 < (y195.length : Int)
                · rw [if_pos c85] at H
                  have c85b0 : decide (x102_2 < (y195.length : Int)) = true := decide_eq_true c85
                  clear c85
                  replace H := Option.bind_eq_some_iff.mp H
                  obtain ⟨t202, A860, H⟩ := H
                  replace H : ((some (([a4, t202] : List Int) : List Int)).bind fun y203 => (columbarylaw25_HeapTells.l4 k2 a4 t166 (rd y195 x102_2) y195 (y195.length : Int) x102_2 y203 (y203.length : Int) 0)) = some r := H
                  have A86 := Aside0.mk A860
                  clear A860
                  obtain ⟨y203, hy203⟩ : ∃ y_ : List Int, y_ = (([a4, t202] : List Int)) := ⟨_, rfl⟩
                  replace H : (columbarylaw25_HeapTells.l4 k2 a4 t166 (rd y195 x102_2) y195 (y195.length : Int) x102_2 y203 (y203.length : Int) 0) = some r := by first | (rw [hy203]; with_reducible exact H) | (have H2_ := (Option.bind_some _ _).symm.trans H; rw [hy203]; with_reducible exact H2_) | (have H2_ := (Option.bind_some _ _).symm.trans H; with_reducible exact H2_) | with_reducible exact H | (rw [hy203]; exact H) | exact H
                  have Ny203 := Aside0.mk hy203
                  clear hy203
                  have H' := Aside0.mk H
                  clear H
                  have p201 : 0 ≤ (x102_2 : Int) := of_decide_eq_true (by first | (with_reducible assumption) | assumption)
                  have q201 : x102_2 < (y195.length : Int) := of_decide_eq_true (by first | (with_reducible assumption) | assumption)
                  obtain ⟨ad201, e201, hx201_0⟩ := Kd.at_int (Kd.R_reads' HO_100.out).2.2 x102_2 p201 q201
                  cases e201
                  replace p201 := eq_true p201
                  replace q201 := eq_true q201
                  go_wp2_with (first | ((with_reducible refine gate_callee (f := 19) rfl ?_); refine goesL_ (some 108) rfl rfl Try.func19 (by kernel_rfl) rfl #[.int .i64 a4, .int .i64 7] rfl (by (try simp only [List.map_toArray, List.map_cons, List.map_nil]); first | done | rfl | (simp only [List.length_drop, List.length_take]; rfl)) ?_; (with_reducible refine (columbarykeep_Within.calls a4 7 t202 _ A86.out).mono ?_); rintro e w' ⟨rfl, ⟨nd, rfl⟩⟩; refine ⟨_, rfl, ?_⟩) | ((with_reducible refine gate_dst (N := 109) rfl ?_); refine Kd.R_lit (Kd.int .i64) _ 3 ?hg (N := 109) ?hd (xs := ([a4, t202] : List Int)) (inner := [.int .i64 a4, .int .i64 t202]) (ok := fun _ => True) (okp := fun _ => True) ?hr ?hp (fun _ hk => hk) trivial (Below.refl _ _) (Nat.le_refl _) (by simp) ?_; (case hd => rfl); (case hg => rfl); (case hr => first | (go_simp; done) | (go_simp; rfl)); (case hp => exact (Reps.one (show Kd.M (Kd.int .i64) _ _ _ a4 [.int .i64 a4] from rfl) (Reps.one (show Kd.M (Kd.int .i64) _ _ _ t202 [.int .i64 t202] from rfl) (Reps.none _ _)))); intro v204 w87 ho88 hb hg_ hnew_; clear hg_ hnew_; (first | rw [← Ny203.out] at ho88 | (simp only [Int.reduceToNat] at ho88; rw [← Ny203.out] at ho88)); have n0_ := Aside0.mk (Kd.N_elder' (by (with_reducible repeat (first | apply Kd.N_alloc | apply Kd.N_drewN | apply Kd.N_drew)); exact HO_15.out) (Kd.R_base ho88) hb); have n1_ := Aside0.mk (Kd.R_elder' (by (with_reducible repeat (first | apply Kd.R_alloc | apply Kd.R_drewN | apply Kd.R_drew)); exact HO_100.out) (Kd.R_base ho88) hb); have n2_ := Aside0.mk (Kd.R_lower (Kd.R_new' ho88 (Kd.R_lt (by (with_reducible repeat (first | apply Kd.R_alloc | apply Kd.R_drewN | apply Kd.R_drew)); exact HO_100.out))) (below_size (by repeat (first | (with_reducible first | exact HB.out | apply below_alloc | apply pw_below_drewN | apply below_drew1 | refine below_set ?_ GE165.out) | exact HB.out)))); have n3_ := Aside0.mk (blk_below (g := gb165) (o := .cells #[.int .i64 a6_0, .int .i64 a6_1] 25 (0, 0)) (by (with_reducible repeat (first | refine blk_drewN ?_ _ | refine blk_drew ?_ | refine blk_alloc ?_ _)); exact BK165.out) hb); have n4_ := Aside0.mk (below_step (by repeat (first | (with_reducible first | exact HB.out | apply below_alloc | apply pw_below_drewN | apply below_drew1 | refine below_set ?_ GE165.out) | exact HB.out)) hb); clear HO_15; clear HO_100; clear BK165; clear HB; have HO_15 := n0_; have HO_100 := n1_; have HO205 := n2_; have BK165 := n3_; have HB := n4_; clear n0_ n1_ n2_ n3_ n4_; clear hb ho88; obtain ⟨Ao89, co89, eo89⟩ := Kd.R_slice HO205.out; subst eo89))
                  go_loopg [111] k2 (fun kq v111 w' => ∃ (x111_3 : Int), v111 = .int .i64 x111_3 ∧ Aside0 (columbarylaw25_HeapTells.l4 kq a4 t166 (rd y195 x102_2) y195 (y195.length : Int) x102_2 y203 (y203.length : Int) x111_3 = some r) ∧ Aside0 (kq ≤ k2) ∧ Aside0 (Kd.N k41 41 w' w.heap.size (fun k_ => some k_ ≠ ((.slice (some ad201) y195.length co82) : Value).ownBlock ∧ some k_ ≠ ((.slice Ao89 y203.length co89) : Value).ownBlock ∧ k_ ≠ gb165) v167 t166) ∧ Aside0 (Kd.R (Kd.int .i64) 3 w' w.heap.size (fun k_ => some k_ ≠ ((.slice Ao89 y203.length co89) : Value).ownBlock) (.slice (some ad201) y195.length co82) y195) ∧ Aside0 (Kd.R (Kd.int .i64) 3 w' w.heap.size (fun k_ => some k_ ≠ ((.slice (some ad201) y195.length co82) : Value).ownBlock) (.slice Ao89 y203.length co89) y203) ∧ Aside0 (w'.heap[gb165]? = some (.cells #[.int .i64 a6_0, .int .i64 a6_1] 25 (0, 0))) ∧ Aside0 (Below w.heap.size w w'))
                  case atStart => exact ⟨(0), (by first | rfl | (simp; done) | (simp [*]; done)), H', ⟨Nat.le_refl _⟩, ⟨by (with_reducible repeat (first | apply Kd.N_alloc | apply Kd.N_drewN | apply Kd.N_drew)); exact Kd.N_mono HO_15.out (fun _ hk => ⟨hk.1.1, ⟨hk.2, hk.1.2⟩⟩)⟩, ⟨by (with_reducible repeat (first | apply Kd.R_alloc | apply Kd.R_drewN | apply Kd.R_drew)); exact Kd.R_mono HO_100.out (fun _ hk => hk.2)⟩, ⟨by (with_reducible repeat (first | apply Kd.R_alloc | apply Kd.R_drewN | apply Kd.R_drew)); exact Kd.R_mono HO205.out (fun _ hk => hk.2)⟩, ⟨by (with_reducible repeat (first | refine blk_drewN ?_ _ | refine blk_drew ?_ | refine blk_alloc ?_ _)); exact BK165.out⟩, ⟨by repeat (first | (with_reducible first | exact HB.out | apply below_alloc | apply pw_below_drewN | apply below_drew1 | refine below_set ?_ GE165.out) | exact HB.out)⟩⟩
                  case round =>
                    clear H'
                    try clear c1
                    try clear p1
                    try clear q1
                    try clear hx1
                    try clear c2
                    try clear p2
                    try clear q2
                    try clear hx2
                    try clear c3
                    try clear c4
                    try clear c5
                    try clear c6
                    try clear p6
                    try clear c7
                    try clear c8
                    try clear c13
                    try clear c15
                    try clear c17
                    try clear c17b0
                    try clear p17
                    try clear q17
                    try clear hx17
                    try clear c18
                    try clear c18b0
                    try clear p18
                    try clear q18
                    try clear hx18
                    try clear c19
                    try clear c19b0
                    try clear p20
                    try clear q20
                    try clear hx20
                    try clear c23
                    try clear c24
                    try clear c25
                    try clear c26
                    try clear c28
                    try clear c28b0
                    try clear c29
                    try clear c29b0
                    try clear c30
                    try clear c30b0
                    try clear c33
                    try clear c33b0
                    try clear c33b1
                    try clear c33b2
                    try clear c35
                    try clear c36
                    try clear c43
                    try clear c44
                    try clear c54
                    try clear c54b0
                    try clear c55
                    try clear c55b0
                    try clear c56
                    try clear c56b0
                    try clear c59
                    try clear c59b0
                    try clear c59b1
                    try clear c60
                    try clear c60b0
                    try clear c60b1
                    try clear c61
                    try clear p64
                    try clear c67
                    try clear c73
                    try clear c83
                    try clear c83b0
                    try clear c84
                    try clear c84b0
                    try clear c85
                    try clear c85b0
                    try clear hcz24_0
                    try clear hcz24_1
                    try clear hcz37_0
                    try clear hcz37_1
                    try clear hcz37_2
                    try clear hcz37_3
                    try clear hcz37_4
                    try clear hcz45_0
                    try clear hcz45_1
                    try clear hcz45_2
                    try clear hcz45_3
                    try clear hcz45_4
                    try clear hcz62_0
                    try clear hcz62_1
                    try clear hcz65_0
                    try clear hcz65_1
                    try clear hcz68_0
                    try clear hcz68_1
                    try clear hcz71_0
                    try clear hcz71_1
                    try clear hcz74_0
                    try clear hcz74_1
                    try clear hcz77_0
                    try clear hcz77_1
                    try clear hfz24_0
                    try clear hfz24_1
                    try clear hfz37_0
                    try clear hfz37_1
                    try clear hfz37_2
                    try clear hfz37_3
                    try clear hfz37_4
                    try clear hfz45_0
                    try clear hfz45_1
                    try clear hfz45_2
                    try clear hfz45_3
                    try clear hfz45_4
                    try clear hfz62_0
                    try clear hfz62_1
                    try clear hfz65_0
                    try clear hfz65_1
                    try clear hfz68_0
                    try clear hfz68_1
                    try clear hfz71_0
                    try clear hfz71_1
                    try clear hfz74_0
                    try clear hfz74_1
                    try clear hfz77_0
                    try clear hfz77_1
                    try clear hx174_0
                    try clear hx174_1
                    try clear hx181_0
                    try clear hx181_1
                    try clear hx181_2
                    try clear hx181_3
                    try clear hx181_4
                    try clear hx189_0
                    try clear hx201_0
                    try clear p1
                    try clear p17
                    try clear p174
                    try clear p18
                    try clear p181
                    try clear p189
                    try clear p2
                    try clear p201
                    try clear p6
                    try clear p64
                    try clear q1
                    try clear q17
                    try clear q174
                    try clear q18
                    try clear q181
                    try clear q189
                    try clear q201
                    obtain ⟨x111_3, rfl, HA, HK3, HO_15, HO_100, HO_109, BK165, HB⟩ := hrel
                    cases gk with
                    | zero => exact absurd HA.out (by simp [columbarylaw25_HeapTells.l4])
                    | succ k3 =>
                      have H := HA.out
                      clear HA
                      simp only [columbarylaw25_HeapTells.l4] at H
                      by_cases c90 : x111_3 < (y203.length : Int)
                      · rw [if_pos c90] at H
                        have c90b0 : decide (x111_3 < (y203.length : Int)) = true := decide_eq_true c90
                        clear c90
                        by_cases c91 : 0 ≤ x111_3
                        · rw [if_pos c91] at H
                          have c91b0 : decide (0 ≤ x111_3) = true := decide_eq_true c91
                          clear c91
                          by_cases c92 : x111_3 < (y203.length : Int)
                          · rw [if_pos c92] at H
                            have c92b0 : decide (x111_3 < (y203.length : Int)) = true := decide_eq_true c92
                            clear c92
                            replace H := Option.bind_eq_some_iff.mp H
                            obtain ⟨⟨t207, t208⟩, A930, H⟩ := H
                            replace H : ((columbaryref25_Read.f k3 t166 (rd y195 x102_2) (rd y203 x111_3)).bind fun bt209 => (if (!(t207 == bt209.1) || (!(t208 == bt209.2))) = true then (some false) else (columbarylaw25_HeapTells.l4 k3 a4 t166 (rd y195 x102_2) y195 (y195.length : Int) x102_2 y203 (y203.length : Int) (wrap64 (x111_3 + 1))))) = some r := H
                            have A93 := Aside0.mk A930
                            clear A930
                            replace H := Option.bind_eq_some_iff.mp H
                            obtain ⟨⟨t209, t210⟩, A940, H⟩ := H
                            replace H : (if (!(t207 == t209) || (!(t208 == t210))) = true then (some false) else (columbarylaw25_HeapTells.l4 k3 a4 t166 (rd y195 x102_2) y195 (y195.length : Int) x102_2 y203 (y203.length : Int) (wrap64 (x111_3 + 1)))) = some r := H
                            have A94 := Aside0.mk A940
                            clear A940
                            by_cases c95 : (!(t207 == t209) || (!(t208 == t210))) = true
                            · rw [if_pos c95] at H
                              have c95b0 : (!(t207 == t209) || (!(t208 == t210))) = true := c95
                              clear c95
                              obtain rfl := Option.some.inj H
                              have p206 : 0 ≤ (x111_3 : Int) := of_decide_eq_true (by first | (with_reducible assumption) | assumption)
                              have q206 : x111_3 < (y203.length : Int) := of_decide_eq_true (by first | (with_reducible assumption) | assumption)
                              obtain ⟨ad206, e206, hx206_0⟩ := Kd.at_int (Kd.R_reads' HO_109.out).2.2 x111_3 p206 q206
                              cases e206
                              replace p206 := eq_true p206
                              replace q206 := eq_true q206
                              obtain ⟨Ao96, co96, eo96⟩ := Kd.N_slice HO_15.out
                              subst eo96
                              go_wp2_with (first | ((with_reducible refine gate_callee (f := 27) rfl ?_); refine goesL_ (some 118) rfl rfl Try.func27 (by kernel_rfl) rfl #[.slice Ao96 t166.length co96, .int .i64 (rd y195 x102_2), .int .i64 (rd y203 x111_3)] rfl (by (try simp only [List.map_toArray, List.map_cons, List.map_nil]); first | done | rfl | (simp only [List.length_drop, List.length_take]; rfl)) ?_; (with_reducible refine (heap_Read.calls _ _ t166 (rd y195 x102_2) (rd y203 x111_3) t207 t208 _ ?side1 ?side2 A93.out).mono ?_); (case side1 => repeat (first | exact (Kd.N_reads' HO_15.out).2.2 | (with_reducible refine Kd.C_alloc ?_ _) | (with_reducible refine Kd.C_drewN ?_ _) | (with_reducible refine Kd.C_drew ?_))); (case side2 => exact (Kd.N_reads' HO_15.out).2.1); rintro e w97 ⟨rfl, hb⟩; refine ⟨_, rfl, ?_⟩; have n0_ := Aside0.mk (Kd.N_below (by (with_reducible repeat (first | apply Kd.N_alloc | apply Kd.N_drewN | apply Kd.N_drew)); exact HO_15.out) hb); have n1_ := Aside0.mk (Kd.R_below (by (with_reducible repeat (first | apply Kd.R_alloc | apply Kd.R_drewN | apply Kd.R_drew)); exact HO_100.out) hb); have n2_ := Aside0.mk (Kd.R_below (by (with_reducible repeat (first | apply Kd.R_alloc | apply Kd.R_drewN | apply Kd.R_drew)); exact HO_109.out) hb); have n3_ := Aside0.mk (blk_below (g := gb165) (o := .cells #[.int .i64 a6_0, .int .i64 a6_1] 25 (0, 0)) (by (with_reducible repeat (first | refine blk_drewN ?_ _ | refine blk_drew ?_ | refine blk_alloc ?_ _)); exact BK165.out) hb); have n4_ := Aside0.mk (below_step (by repeat (first | (with_reducible first | exact HB.out | apply below_alloc | apply pw_below_drewN | apply below_drew1 | refine below_set ?_ GE165.out) | exact HB.out)) hb); clear HO_15; clear HO_100; clear HO_109; clear BK165; clear HB; have HO_15 := n0_; have HO_100 := n1_; have HO_109 := n2_; have BK165 := n3_; have HB := n4_; clear n0_ n1_ n2_ n3_ n4_; (try clear hb); (try clear hb2); (try clear hk); (try clear hi)) | ((with_reducible refine gate_callee (f := 28) rfl ?_); refine goesL_ (some 122) rfl rfl Try.func28 (by kernel_rfl) rfl #[.slice Ao96 t166.length co96, .int .i64 (rd y195 x102_2), .int .i64 (rd y203 x111_3)] rfl (by (try simp only [List.map_toArray, List.map_cons, List.map_nil]); first | done | rfl | (simp only [List.length_drop, List.length_take]; rfl)) ?_; (with_reducible refine (columbaryref25_Read.calls k3 _ _ t166 (rd y195 x102_2) (rd y203 x111_3) t209 t210 _ ?side1 ?side2 A94.out).mono ?_); (case side1 => repeat (first | exact (Kd.N_reads' HO_15.out).2.2 | (with_reducible refine Kd.C_alloc ?_ _) | (with_reducible refine Kd.C_drewN ?_ _) | (with_reducible refine Kd.C_drew ?_))); (case side2 => exact (Kd.N_reads' HO_15.out).2.1); rintro e w98 ⟨rfl, hb⟩; refine ⟨_, rfl, ?_⟩; have n0_ := Aside0.mk (Kd.N_below (by (with_reducible repeat (first | apply Kd.N_alloc | apply Kd.N_drewN | apply Kd.N_drew)); exact HO_15.out) hb); have n1_ := Aside0.mk (Kd.R_below (by (with_reducible repeat (first | apply Kd.R_alloc | apply Kd.R_drewN | apply Kd.R_drew)); exact HO_100.out) hb); have n2_ := Aside0.mk (Kd.R_below (by (with_reducible repeat (first | apply Kd.R_alloc | apply Kd.R_drewN | apply Kd.R_drew)); exact HO_109.out) hb); have n3_ := Aside0.mk (blk_below (g := gb165) (o := .cells #[.int .i64 a6_0, .int .i64 a6_1] 25 (0, 0)) (by (with_reducible repeat (first | refine blk_drewN ?_ _ | refine blk_drew ?_ | refine blk_alloc ?_ _)); exact BK165.out) hb); have n4_ := Aside0.mk (below_step (by repeat (first | (with_reducible first | exact HB.out | apply below_alloc | apply pw_below_drewN | apply below_drew1 | refine below_set ?_ GE165.out) | exact HB.out)) hb); clear HO_15; clear HO_100; clear HO_109; clear BK165; clear HB; have HO_15 := n0_; have HO_100 := n1_; have HO_109 := n2_; have BK165 := n3_; have HB := n4_; clear n0_ n1_ n2_ n3_ n4_; (try clear hb); (try clear hb2); (try clear hk); (try clear hi)))
                              go_ret
                              exact ⟨by first | rfl | (simp [errW_none, errW_some] <;> rfl) | (simp [*, errW_none, errW_some] <;> rfl), by repeat (first | (with_reducible first | exact HB.out | apply below_alloc | apply pw_below_drewN | apply below_drew1 | refine below_set ?_ GE165.out) | exact HB.out)⟩
                            · rw [if_neg c95] at H
                              have c95b0 : (!(t207 == t209) || (!(t208 == t210))) = false := by simpa using c95
                              clear c95
                              have H' := Aside0.mk H
                              clear H
                              have p206 : 0 ≤ (x111_3 : Int) := of_decide_eq_true (by first | (with_reducible assumption) | assumption)
                              have q206 : x111_3 < (y203.length : Int) := of_decide_eq_true (by first | (with_reducible assumption) | assumption)
                              obtain ⟨ad206, e206, hx206_0⟩ := Kd.at_int (Kd.R_reads' HO_109.out).2.2 x111_3 p206 q206
                              cases e206
                              replace p206 := eq_true p206
                              replace q206 := eq_true q206
                              obtain ⟨Ao99, co99, eo99⟩ := Kd.N_slice HO_15.out
                              subst eo99
                              go_wp2_with (first | ((with_reducible refine gate_callee (f := 27) rfl ?_); refine goesL_ (some 118) rfl rfl Try.func27 (by kernel_rfl) rfl #[.slice Ao99 t166.length co99, .int .i64 (rd y195 x102_2), .int .i64 (rd y203 x111_3)] rfl (by (try simp only [List.map_toArray, List.map_cons, List.map_nil]); first | done | rfl | (simp only [List.length_drop, List.length_take]; rfl)) ?_; (with_reducible refine (heap_Read.calls _ _ t166 (rd y195 x102_2) (rd y203 x111_3) t207 t208 _ ?side1 ?side2 A93.out).mono ?_); (case side1 => repeat (first | exact (Kd.N_reads' HO_15.out).2.2 | (with_reducible refine Kd.C_alloc ?_ _) | (with_reducible refine Kd.C_drewN ?_ _) | (with_reducible refine Kd.C_drew ?_))); (case side2 => exact (Kd.N_reads' HO_15.out).2.1); rintro e w100 ⟨rfl, hb⟩; refine ⟨_, rfl, ?_⟩; have n0_ := Aside0.mk (Kd.N_below (by (with_reducible repeat (first | apply Kd.N_alloc | apply Kd.N_drewN | apply Kd.N_drew)); exact HO_15.out) hb); have n1_ := Aside0.mk (Kd.R_below (by (with_reducible repeat (first | apply Kd.R_alloc | apply Kd.R_drewN | apply Kd.R_drew)); exact HO_100.out) hb); have n2_ := Aside0.mk (Kd.R_below (by (with_reducible repeat (first | apply Kd.R_alloc | apply Kd.R_drewN | apply Kd.R_drew)); exact HO_109.out) hb); have n3_ := Aside0.mk (blk_below (g := gb165) (o := .cells #[.int .i64 a6_0, .int .i64 a6_1] 25 (0, 0)) (by (with_reducible repeat (first | refine blk_drewN ?_ _ | refine blk_drew ?_ | refine blk_alloc ?_ _)); exact BK165.out) hb); have n4_ := Aside0.mk (below_step (by repeat (first | (with_reducible first | exact HB.out | apply below_alloc | apply pw_below_drewN | apply below_drew1 | refine below_set ?_ GE165.out) | exact HB.out)) hb); clear HO_15; clear HO_100; clear HO_109; clear BK165; clear HB; have HO_15 := n0_; have HO_100 := n1_; have HO_109 := n2_; have BK165 := n3_; have HB := n4_; clear n0_ n1_ n2_ n3_ n4_; (try clear hb); (try clear hb2); (try clear hk); (try clear hi)) | ((with_reducible refine gate_callee (f := 28) rfl ?_); refine goesL_ (some 122) rfl rfl Try.func28 (by kernel_rfl) rfl #[.slice Ao99 t166.length co99, .int .i64 (rd y195 x102_2), .int .i64 (rd y203 x111_3)] rfl (by (try simp only [List.map_toArray, List.map_cons, List.map_nil]); first | done | rfl | (simp only [List.length_drop, List.length_take]; rfl)) ?_; (with_reducible refine (columbaryref25_Read.calls k3 _ _ t166 (rd y195 x102_2) (rd y203 x111_3) t209 t210 _ ?side1 ?side2 A94.out).mono ?_); (case side1 => repeat (first | exact (Kd.N_reads' HO_15.out).2.2 | (with_reducible refine Kd.C_alloc ?_ _) | (with_reducible refine Kd.C_drewN ?_ _) | (with_reducible refine Kd.C_drew ?_))); (case side2 => exact (Kd.N_reads' HO_15.out).2.1); rintro e w101 ⟨rfl, hb⟩; refine ⟨_, rfl, ?_⟩; have n0_ := Aside0.mk (Kd.N_below (by (with_reducible repeat (first | apply Kd.N_alloc | apply Kd.N_drewN | apply Kd.N_drew)); exact HO_15.out) hb); have n1_ := Aside0.mk (Kd.R_below (by (with_reducible repeat (first | apply Kd.R_alloc | apply Kd.R_drewN | apply Kd.R_drew)); exact HO_100.out) hb); have n2_ := Aside0.mk (Kd.R_below (by (with_reducible repeat (first | apply Kd.R_alloc | apply Kd.R_drewN | apply Kd.R_drew)); exact HO_109.out) hb); have n3_ := Aside0.mk (blk_below (g := gb165) (o := .cells #[.int .i64 a6_0, .int .i64 a6_1] 25 (0, 0)) (by (with_reducible repeat (first | refine blk_drewN ?_ _ | refine blk_drew ?_ | refine blk_alloc ?_ _)); exact BK165.out) hb); have n4_ := Aside0.mk (below_step (by repeat (first | (with_reducible first | exact HB.out | apply below_alloc | apply pw_below_drewN | apply below_drew1 | refine below_set ?_ GE165.out) | exact HB.out)) hb); clear HO_15; clear HO_100; clear HO_109; clear BK165; clear HB; have HO_15 := n0_; have HO_100 := n1_; have HO_109 := n2_; have BK165 := n3_; have HB := n4_; clear n0_ n1_ n2_ n3_ n4_; (try clear hb); (try clear hb2); (try clear hk); (try clear hi)))
                              go_roundg k3
                              case measure => have := HK1.out; have := HK2.out; have := HK3.out; omega
                              case rel => exact ⟨(wrap64 (x111_3 + 1)), (by first | rfl | (simp; done) | (simp [*]; done)), H', ⟨by have := HK1.out; have := HK2.out; have := HK3.out; omega⟩, ⟨by (with_reducible repeat (first | apply Kd.N_alloc | apply Kd.N_drewN | apply Kd.N_drew)); exact HO_15.out⟩, ⟨by (with_reducible repeat (first | apply Kd.R_alloc | apply Kd.R_drewN | apply Kd.R_drew)); exact HO_100.out⟩, ⟨by (with_reducible repeat (first | apply Kd.R_alloc | apply Kd.R_drewN | apply Kd.R_drew)); exact HO_109.out⟩, ⟨by (with_reducible repeat (first | refine blk_drewN ?_ _ | refine blk_drew ?_ | refine blk_alloc ?_ _)); exact BK165.out⟩, ⟨by repeat (first | (with_reducible first | exact HB.out | apply below_alloc | apply pw_below_drewN | apply below_drew1 | refine below_set ?_ GE165.out) | exact HB.out)⟩⟩
                          · rw [if_neg c92] at H
                            exact absurd H (by simp)
                        · rw [if_neg c91] at H
                          exact absurd H (by simp)
                      · rw [if_neg c90] at H
                        have c90b0 : decide (x111_3 < (y203.length : Int)) = false := decide_eq_false c90
                        clear c90
                        have H' := Aside0.mk H
                        clear H
                        go_wp2
                        go_roundg k3
                        case measure => have := HK1.out; have := HK2.out; have := HK3.out; omega
                        case rel => exact ⟨(wrap64 (x102_2 + 1)), (by first | rfl | (simp; done) | (simp [*]; done)), H', ⟨by have := HK1.out; have := HK2.out; have := HK3.out; omega⟩, ⟨by (with_reducible repeat (first | apply Kd.N_alloc | apply Kd.N_drewN | apply Kd.N_drew)); exact Kd.N_mono HO_15.out (fun _ hk => ⟨hk.1, hk.2.2⟩)⟩, ⟨by (with_reducible repeat (first | apply Kd.R_alloc | apply Kd.R_drewN | apply Kd.R_drew)); exact Kd.R_mono HO_100.out (fun _ hk => trivial)⟩, ⟨by (with_reducible repeat (first | refine blk_drewN ?_ _ | refine blk_drew ?_ | refine blk_alloc ?_ _)); exact BK165.out⟩, ⟨by repeat (first | (with_reducible first | exact HB.out | apply below_alloc | apply pw_below_drewN | apply below_drew1 | refine below_set ?_ GE165.out) | exact HB.out)⟩⟩
                · rw [if_neg c85] at H
                  exact absurd H (by simp)
              · rw [if_neg c84] at H
                exact absurd H (by simp)
            · rw [if_neg c83] at H
              have c83b0 : decide (x102_2 < (y195.length : Int)) = false := decide_eq_false c83
              clear c83
              replace H := Option.bind_eq_some_iff.mp H
              obtain ⟨t198, A1020, H⟩ := H
              replace H : ((columbaryref25_Cells.f k2 t166).bind fun t199 => (if t198 = t199 then ((columbarylaw25_wakes.f).bind fun t200 => (some t200)) else (some false))) = some r := H
              have A102 := Aside0.mk A1020
              clear A1020
              replace H := Option.bind_eq_some_iff.mp H
              obtain ⟨t199, A1030, H⟩ := H
              replace H : (if t198 = t199 then ((columbarylaw25_wakes.f).bind fun t200 => (some t200)) else (some false)) = some r := H
              have A103 := Aside0.mk A1030
              clear A1030
              by_cases c104 : t198 = t199
              · rw [if_pos c104] at H
                have c104b0 : (t198 == t199) = true := beq_iff_eq.mpr c104
                have c104b1 : (t198 != t199) = false := bne_eq_false_iff_eq.mpr c104
                clear c104
                replace H := Option.bind_eq_some_iff.mp H
                obtain ⟨t200, A1050, H⟩ := H
                replace H : (some t200) = some r := H
                have A105 := Aside0.mk A1050
                clear A1050
                obtain rfl := Option.some.inj H
                obtain ⟨Ao106, co106, eo106⟩ := Kd.N_slice HO_15.out
                subst eo106
                go_wp2_with (first | ((with_reducible refine gate_callee (f := 29) rfl ?_); refine goesL_ (some 127) rfl rfl Try.func29 (by kernel_rfl) rfl #[.slice Ao106 t166.length co106] rfl (by (try simp only [List.map_toArray, List.map_cons, List.map_nil]); first | done | rfl | (simp only [List.length_drop, List.length_take]; rfl)) ?_; (with_reducible refine (heap_Cells.calls k2 _ _ t166 t198 _ ?side1 ?side2 A102.out).mono ?_); (case side1 => repeat (first | exact (Kd.N_reads' HO_15.out).2.2 | (with_reducible refine Kd.C_alloc ?_ _) | (with_reducible refine Kd.C_drewN ?_ _) | (with_reducible refine Kd.C_drew ?_))); (case side2 => exact (Kd.N_reads' HO_15.out).2.1); rintro e w107 ⟨rfl, hb⟩; refine ⟨_, rfl, ?_⟩; have n0_ := Aside0.mk (Kd.N_below (by (with_reducible repeat (first | apply Kd.N_alloc | apply Kd.N_drewN | apply Kd.N_drew)); exact HO_15.out) hb); have n1_ := Aside0.mk (Kd.R_below (by (with_reducible repeat (first | apply Kd.R_alloc | apply Kd.R_drewN | apply Kd.R_drew)); exact HO_100.out) hb); have n2_ := Aside0.mk (blk_below (g := gb165) (o := .cells #[.int .i64 a6_0, .int .i64 a6_1] 25 (0, 0)) (by (with_reducible repeat (first | refine blk_drewN ?_ _ | refine blk_drew ?_ | refine blk_alloc ?_ _)); exact BK165.out) hb); have n3_ := Aside0.mk (below_step (by repeat (first | (with_reducible first | exact HB.out | apply below_alloc | apply pw_below_drewN | apply below_drew1 | refine below_set ?_ GE165.out) | exact HB.out)) hb); clear HO_15; clear HO_100; clear BK165; clear HB; have HO_15 := n0_; have HO_100 := n1_; have BK165 := n2_; have HB := n3_; clear n0_ n1_ n2_ n3_; (try clear hb); (try clear hb2); (try clear hk); (try clear hi)) | ((with_reducible refine gate_callee (f := 30) rfl ?_); refine goesL_ (some 129) rfl rfl Try.func30 (by kernel_rfl) rfl #[.slice Ao106 t166.length co106] rfl (by (try simp only [List.map_toArray, List.map_cons, List.map_nil]); first | done | rfl | (simp only [List.length_drop, List.length_take]; rfl)) ?_; (with_reducible refine (columbaryref25_Cells.calls k2 _ _ t166 t199 _ ?side1 ?side2 A103.out).mono ?_); (case side1 => repeat (first | exact (Kd.N_reads' HO_15.out).2.2 | (with_reducible refine Kd.C_alloc ?_ _) | (with_reducible refine Kd.C_drewN ?_ _) | (with_reducible refine Kd.C_drew ?_))); (case side2 => exact (Kd.N_reads' HO_15.out).2.1); rintro e w108 ⟨rfl, hb⟩; refine ⟨_, rfl, ?_⟩; have n0_ := Aside0.mk (Kd.N_below (by (with_reducible repeat (first | apply Kd.N_alloc | apply Kd.N_drewN | apply Kd.N_drew)); exact HO_15.out) hb); have n1_ := Aside0.mk (Kd.R_below (by (with_reducible repeat (first | apply Kd.R_alloc | apply Kd.R_drewN | apply Kd.R_drew)); exact HO_100.out) hb); have n2_ := Aside0.mk (blk_below (g := gb165) (o := .cells #[.int .i64 a6_0, .int .i64 a6_1] 25 (0, 0)) (by (with_reducible repeat (first | refine blk_drewN ?_ _ | refine blk_drew ?_ | refine blk_alloc ?_ _)); exact BK165.out) hb); have n3_ := Aside0.mk (below_step (by repeat (first | (with_reducible first | exact HB.out | apply below_alloc | apply pw_below_drewN | apply below_drew1 | refine below_set ?_ GE165.out) | exact HB.out)) hb); clear HO_15; clear HO_100; clear BK165; clear HB; have HO_15 := n0_; have HO_100 := n1_; have BK165 := n2_; have HB := n3_; clear n0_ n1_ n2_ n3_; (try clear hb); (try clear hb2); (try clear hk); (try clear hi)) | (go_at_call 22; (with_reducible refine (columbarylaw25_wakes.calls  t200 _ A105.out).mono ?_); rintro e w109 ⟨rfl, hb⟩; have n0_ := Aside0.mk (Kd.N_below (by (with_reducible repeat (first | apply Kd.N_alloc | apply Kd.N_drewN | apply Kd.N_drew)); exact HO_15.out) hb); have n1_ := Aside0.mk (Kd.R_below (by (with_reducible repeat (first | apply Kd.R_alloc | apply Kd.R_drewN | apply Kd.R_drew)); exact HO_100.out) hb); have n2_ := Aside0.mk (blk_below (g := gb165) (o := .cells #[.int .i64 a6_0, .int .i64 a6_1] 25 (0, 0)) (by (with_reducible repeat (first | refine blk_drewN ?_ _ | refine blk_drew ?_ | refine blk_alloc ?_ _)); exact BK165.out) hb); have n3_ := Aside0.mk (below_step (by repeat (first | (with_reducible first | exact HB.out | apply below_alloc | apply pw_below_drewN | apply below_drew1 | refine below_set ?_ GE165.out) | exact HB.out)) hb); clear HO_15; clear HO_100; clear BK165; clear HB; have HO_15 := n0_; have HO_100 := n1_; have BK165 := n2_; have HB := n3_; clear n0_ n1_ n2_ n3_; (try clear hb); (try clear hb2); (try clear hk); (try clear hi)))
                go_ret
                exact ⟨by first | rfl | (simp [errW_none, errW_some] <;> rfl) | (simp [*, errW_none, errW_some] <;> rfl), by repeat (first | (with_reducible first | exact HB.out | apply below_alloc | apply pw_below_drewN | apply below_drew1 | refine below_set ?_ GE165.out) | exact HB.out)⟩
              · rw [if_neg c104] at H
                have c104b0 : (t198 == t199) = false := beq_eq_false_iff_ne.mpr c104
                have c104b1 : (t198 != t199) = true := bne_iff_ne.mpr c104
                obtain rfl := Option.some.inj H
                obtain ⟨Ao110, co110, eo110⟩ := Kd.N_slice HO_15.out
                subst eo110
                go_wp2_with (first | ((with_reducible refine gate_callee (f := 29) rfl ?_); refine goesL_ (some 127) rfl rfl Try.func29 (by kernel_rfl) rfl #[.slice Ao110 t166.length co110] rfl (by (try simp only [List.map_toArray, List.map_cons, List.map_nil]); first | done | rfl | (simp only [List.length_drop, List.length_take]; rfl)) ?_; (with_reducible refine (heap_Cells.calls k2 _ _ t166 t198 _ ?side1 ?side2 A102.out).mono ?_); (case side1 => repeat (first | exact (Kd.N_reads' HO_15.out).2.2 | (with_reducible refine Kd.C_alloc ?_ _) | (with_reducible refine Kd.C_drewN ?_ _) | (with_reducible refine Kd.C_drew ?_))); (case side2 => exact (Kd.N_reads' HO_15.out).2.1); rintro e w111 ⟨rfl, hb⟩; refine ⟨_, rfl, ?_⟩; have n0_ := Aside0.mk (Kd.N_below (by (with_reducible repeat (first | apply Kd.N_alloc | apply Kd.N_drewN | apply Kd.N_drew)); exact HO_15.out) hb); have n1_ := Aside0.mk (Kd.R_below (by (with_reducible repeat (first | apply Kd.R_alloc | apply Kd.R_drewN | apply Kd.R_drew)); exact HO_100.out) hb); have n2_ := Aside0.mk (blk_below (g := gb165) (o := .cells #[.int .i64 a6_0, .int .i64 a6_1] 25 (0, 0)) (by (with_reducible repeat (first | refine blk_drewN ?_ _ | refine blk_drew ?_ | refine blk_alloc ?_ _)); exact BK165.out) hb); have n3_ := Aside0.mk (below_step (by repeat (first | (with_reducible first | exact HB.out | apply below_alloc | apply pw_below_drewN | apply below_drew1 | refine below_set ?_ GE165.out) | exact HB.out)) hb); clear HO_15; clear HO_100; clear BK165; clear HB; have HO_15 := n0_; have HO_100 := n1_; have BK165 := n2_; have HB := n3_; clear n0_ n1_ n2_ n3_; (try clear hb); (try clear hb2); (try clear hk); (try clear hi)) | ((with_reducible refine gate_callee (f := 30) rfl ?_); refine goesL_ (some 129) rfl rfl Try.func30 (by kernel_rfl) rfl #[.slice Ao110 t166.length co110] rfl (by (try simp only [List.map_toArray, List.map_cons, List.map_nil]); first | done | rfl | (simp only [List.length_drop, List.length_take]; rfl)) ?_; (with_reducible refine (columbaryref25_Cells.calls k2 _ _ t166 t199 _ ?side1 ?side2 A103.out).mono ?_); (case side1 => repeat (first | exact (Kd.N_reads' HO_15.out).2.2 | (with_reducible refine Kd.C_alloc ?_ _) | (with_reducible refine Kd.C_drewN ?_ _) | (with_reducible refine Kd.C_drew ?_))); (case side2 => exact (Kd.N_reads' HO_15.out).2.1); rintro e w112 ⟨rfl, hb⟩; refine ⟨_, rfl, ?_⟩; have n0_ := Aside0.mk (Kd.N_below (by (with_reducible repeat (first | apply Kd.N_alloc | apply Kd.N_drewN | apply Kd.N_drew)); exact HO_15.out) hb); have n1_ := Aside0.mk (Kd.R_below (by (with_reducible repeat (first | apply Kd.R_alloc | apply Kd.R_drewN | apply Kd.R_drew)); exact HO_100.out) hb); have n2_ := Aside0.mk (blk_below (g := gb165) (o := .cells #[.int .i64 a6_0, .int .i64 a6_1] 25 (0, 0)) (by (with_reducible repeat (first | refine blk_drewN ?_ _ | refine blk_drew ?_ | refine blk_alloc ?_ _)); exact BK165.out) hb); have n3_ := Aside0.mk (below_step (by repeat (first | (with_reducible first | exact HB.out | apply below_alloc | apply pw_below_drewN | apply below_drew1 | refine below_set ?_ GE165.out) | exact HB.out)) hb); clear HO_15; clear HO_100; clear BK165; clear HB; have HO_15 := n0_; have HO_100 := n1_; have BK165 := n2_; have HB := n3_; clear n0_ n1_ n2_ n3_; (try clear hb); (try clear hb2); (try clear hk); (try clear hi)))
                go_ret
                exact ⟨by first | rfl | (simp [errW_none, errW_some] <;> rfl) | (simp [*, errW_none, errW_some] <;> rfl), by repeat (first | (with_reducible first | exact HB.out | apply below_alloc | apply pw_below_drewN | apply below_drew1 | refine below_set ?_ GE165.out) | exact HB.out)⟩

end Go.Proofs.Ytgjpcliaggpcaaa.PHeapTells
