/- The operations of the evaluator that neither read nor turn memory come to what the model's come to. -/
import Derived.Test.YtgjpcliaggpcaaaAbE
import Derived.Laws.StructEq
import Derived.Laws.Entries
set_option linter.unusedVariables false
set_option linter.unusedSimpArgs false
namespace Go.Proofs.Ytgjpcliaggpcaaa.Ab
open Go Classical

section
variable {P : Program}

theorem isAggK_run {t : TypeId} {b : Bool} (h : isAggK P t = some b) (w : World) : (isAgg t).run P w = .ok b w := by
  unfold isAggK at h
  split at h
  · cases h; rename_i hu; simp [isAgg, run_underlying hu]
  · cases h; rename_i hu; simp [isAgg, run_underlying hu]
  · cases h
    rename_i d hn1 hn2 hu
    simp only [isAgg, Sem.run_bind, run_underlying hu, Result.andThen_ok]
    rfl
  · cases h

theorem sizeK_run {t : TypeId} {n : Nat} (h : sizeK P t = some n) (w : World) : (sizeOf t).run P w = .ok n w := by
  unfold sizeK at h
  split at h
  · rename_i i hi; cases h; simp [sizeOf, typeInfo, hi]
  · cases h

theorem partK_run {σ : Sig} {t : TypeId} {cs : List Value} {cs' : Array Value} {off : Nat} {v : Value} (h : partK P t cs off = some v) (hv : VL σ cs cs'.toList) :
    ∃ v', (∀ w, (part t cs' off).run P w = .ok v' w) ∧ VR σ v v' := by
  unfold partK at h
  split at h
  · rename_i ha
    split at h
    · rename_i n hn
      cases h
      rw [lTake_eq, lDrop_eq]
      refine ⟨.agg (cs'.extract off (off + n)), fun w => ?_, ?_⟩
      · simp [part, isAggK_run ha, sizeK_run hn]
      · have hx := ((hv.drop off).take n).toA
        have he : ((cs'.toList.drop off).take n).toArray = cs'.extract off (off + n) := by
          apply Array.ext'
          simp [List.drop_take]
        rw [he] at hx
        exact .agg hx.1 hx.2
    · cases h
  · rename_i ha
    rw [lGet_eq] at h
    obtain ⟨hlt, hx⟩ := List.getElem?_eq_some_iff.1 h
    have hlt' : off < cs'.size := by have := hv.1; simp at this; omega
    refine ⟨cs'[off], fun w => ?_, ?_⟩
    · simp [part, isAggK_run ha, Array.getElem?_eq_getElem hlt']
    · have := hv.at off
      simpa [List.getD_eq_getElem?_getD, h, Array.getElem?_eq_getElem hlt'] using this
  · cases h

theorem eqBool_run {σ : Sig} {t : TypeId} {x y x' y' : Value} {b : Bool} (hu : P.underlying t = some .bool) (h : eqBool x y = some b) (hx : VR σ x x') (hy : VR σ y y') (d : Nat) (w : World) :
    (Op.equalIn (d + 1) t x' y').run P w = .ok b w := by
  unfold eqBool at h; split at h
  · cases h; rw [hx.bool, hy.bool]; exact run_equalIn_bool w d t _ _ hu
  · cases h
theorem eqInt_run {σ : Sig} {t : TypeId} {k : IntKind} {x y x' y' : Value} {b : Bool} (hu : P.underlying t = some (.int k)) (h : eqInt x y = some b) (hx : VR σ x x') (hy : VR σ y y') (d : Nat) (w : World) :
    (Op.equalIn (d + 1) t x' y').run P w = .ok b w := by
  unfold eqInt at h; split at h
  · rename_i j a k' b'
    by_cases hk : j = k'
    · subst hk
      simp only [decide_true, cond_true, Option.some.injEq] at h
      subst h
      rw [hx.int, hy.int, run_equalIn_int w d t _ _ _ _ hu, iEq_eq]
      rfl
    · simp [hk] at h
  · cases h
theorem eqStr_run {σ : Sig} {t : TypeId} {x y x' y' : Value} {b : Bool} (hu : P.underlying t = some .string) (h : eqStr x y = some b) (hx : VR σ x x') (hy : VR σ y y') (d : Nat) (w : World) :
    (Op.equalIn (d + 1) t x' y').run P w = .ok b w := by
  unfold eqStr at h; split at h
  · cases h; rw [hx.string, hy.string, run_equalIn_string w d t _ _ hu, bytesEq_eq, ByteArray.toList_eq, ByteArray.toList_eq]
    congr 1
    exact Bool.eq_iff_iff.2 (by simp)
  · cases h
theorem VR.slice_any {σ : Sig} {a : Option Addr} {n c : Nat} {v : Value} (h : VR σ (.slice a n c) v) : ∃ a' c', v = .slice a' n c' ∧ a'.isNone = a.isNone := by
  cases h with
  | same h => exact ⟨_, _, rfl, rfl⟩
  | slice h => exact ⟨_, _, rfl, rfl⟩
  | opq => exact ⟨_, _, rfl, rfl⟩
theorem VR.ptr_any {σ : Sig} {a : Option Addr} {v : Value} (h : VR σ (.pointer a) v) : ∃ a', v = .pointer a' ∧ a'.isNone = a.isNone := by
  cases h with
  | same h => exact ⟨_, rfl, rfl⟩
  | ptr h => exact ⟨_, rfl, rfl⟩
theorem eqSlice_run {σ : Sig} {t e : TypeId} {x y x' y' : Value} {b : Bool} (hu : P.underlying t = some (.slice e)) (h : eqSlice x y = some b) (hx : VR σ x x') (hy : VR σ y y') (d : Nat) (w : World) :
    (Op.equalIn (d + 1) t x' y').run P w = .ok b w := by
  unfold eqSlice at h
  split at h
  · obtain ⟨a', c', rfl, ha⟩ := hx.slice_any
    obtain ⟨b', c2', rfl, hb⟩ := hy.slice_any
    rw [← ha, ← hb] at h
    cases a' <;> cases b' <;> simp at h <;> subst h <;> simp [Op.equalIn, run_underlying hu]
  · cases h
theorem eqPtr_run {σ : Sig} {t e : TypeId} {x y x' y' : Value} {b : Bool} (hu : P.underlying t = some (.pointer e)) (h : eqPtr x y = some b) (hx : VR σ x x') (hy : VR σ y y') (d : Nat) (w : World) :
    (Op.equalIn (d + 1) t x' y').run P w = .ok b w := by
  unfold eqPtr at h
  split at h
  · obtain ⟨a', rfl, ha⟩ := hx.ptr_any
    obtain ⟨b', rfl, hb⟩ := hy.ptr_any
    rw [← ha, ← hb] at h
    cases a' <;> cases b' <;> simp at h <;> subst h <;> simp [Op.equalIn, run_underlying hu]
  · cases h

theorem eqK_succ (d : Nat) (t : TypeId) (x y : Value) : eqK P (d + 1) t x y = (match P.underlying t with
      | some .bool => eqBool x y
      | some (.int _) => eqInt x y
      | some .string => eqStr x y
      | some (.slice _) => eqSlice x y
      | some (.pointer _) => eqPtr x y
      | some (.struct fs) => match x, y with
        | .agg xs, .agg ys => bif P.stoodInHeld t || P.eqGuardType P.depth t then none else eqFieldsK P (eqK P d) xs.toList ys.toList fs.toList
        | _, _ => none
      | _ => none) := rfl

theorem eqK_run {σ : Sig} : ∀ (d : Nat) {t : TypeId} {x y x' y' : Value} {b : Bool}, eqK P d t x y = some b → VR σ x x' → VR σ y y' → ∀ w, (Op.equalIn d t x' y').run P w = .ok b w := by
  intro d
  induction d with
  | zero => intro t x y x' y' b h; cases h
  | succ d ih =>
    intro t x y x' y' b h hx hy w
    have h' := h
    rw [eqK_succ] at h'
    clear h
    split at h'
    · rename_i hu; exact eqBool_run hu h' hx hy d w
    · rename_i hu; exact eqInt_run hu h' hx hy d w
    · rename_i hu; exact eqStr_run hu h' hx hy d w
    · rename_i hu; exact eqSlice_run hu h' hx hy d w
    · rename_i hu; exact eqPtr_run hu h' hx hy d w
    · rename_i fs hu
      split at h'
      · rename_i xs ys
        obtain ⟨xs', rfl, hxs⟩ := hx.agg_inv
        obtain ⟨ys', rfl, hys⟩ := hy.agg_inv
        cases hst : P.stoodInHeld t
        · cases hg : P.eqGuardType P.depth t
          · simp only [hst, hg, Bool.or_self, cond_false] at h'
            have hf : P.fieldsOf t = fs := by simp [Program.fieldsOf, hu]
            rw [run_equalIn_struct w d t xs' ys' (by rw [hf]; exact hu) hst, hf]
            clear hu hf
            have hxl := hxs.toL
            have hyl := hys.toL
            generalize fs.toList = l at h'
            induction l generalizing w with
            | nil => cases h'; rfl
            | cons f l ihl =>
              have h2 : (bif decide (f.name = "_") then none else match partK P f.type xs.toList f.offset, partK P f.type ys.toList f.offset with
                | some a, some b => match eqK P d f.type a b with
                  | some true => eqFieldsK P (eqK P d) xs.toList ys.toList l
                  | some false => some false
                  | none => none
                | _, _ => none) = some b := h'
              clear h'
              by_cases hn : f.name = "_"
              · simp [hn] at h2
              · simp only [hn, decide_false, cond_false] at h2
                split at h2
                · rename_i a a2 ha ha2
                  obtain ⟨v1, hr1, hv1⟩ := partK_run ha hxl
                  obtain ⟨v2, hr2, hv2⟩ := partK_run ha2 hyl
                  split at h2
                  · rename_i he
                    simp [Op.eqFields, hn, hr1, hr2, ih he hv1 hv2, ihl w h2]
                  · rename_i he
                    cases h2
                    simp [Op.eqFields, hn, hr1, hr2, ih he hv1 hv2]
                  · cases h2
                · cases h2
          · simp [hst, hg] at h'
        · simp [hst] at h'
      · cases h'
    · cases h'

end
end Go.Proofs.Ytgjpcliaggpcaaa.Ab
