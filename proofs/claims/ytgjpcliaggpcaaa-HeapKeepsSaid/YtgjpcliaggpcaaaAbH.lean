/- The operations of the evaluator that neither read nor turn memory: cuts, lengths, structs. -/
import Derived.Test.YtgjpcliaggpcaaaAbG
set_option linter.unusedVariables false
set_option linter.unusedSimpArgs false
namespace Go.Proofs.Ytgjpcliaggpcaaa.Ab
open Go Classical

section
variable {P : Program}

def OV (σ : Sig) (x x' : Option Value) : Prop := (x = none ∧ x' = none) ∨ ∃ v v', x = some v ∧ x' = some v' ∧ VR σ v v'

def Bnd (x : Option Value) (d n : Nat) : Prop := (x = none ∧ n = d) ∨ ∃ k, x = some (.int k (.ofNat n))

theorem bndK_spec {x : Option Value} {d : Nat} {k : Nat → KO} {v : Value} {h : KH} (hh : bndK x d k = .ok v h) : ∃ n, k n = .ok v h ∧ Bnd x d n := by
  unfold bndK at hh
  split at hh
  · exact ⟨_, hh, .inl ⟨rfl, rfl⟩⟩
  · exact ⟨_, hh, .inr ⟨_, rfl⟩⟩
  · cases hh

theorem OV.bnd {σ : Sig} {x x' : Option Value} {d n : Nat} (h : OV σ x x') (hb : Bnd x d n) : Bnd x' d n := by
  rcases h with ⟨rfl, rfl⟩ | ⟨v, v', rfl, rfl, hv⟩
  · exact hb
  · rcases hb with ⟨h, _⟩ | ⟨k, h⟩
    · cases h
    · cases h; exact .inr ⟨k, by rw [hv.int]⟩

theorem bounds_run {isS : Bool} {len cap l r : Nat} {lo hi : Option Value} (hlo : Bnd lo 0 l) (hhi : Bnd hi len r) (h1 : l ≤ r) (h2 : r ≤ cap) (w : World) :
    (Instr.sliceBounds isS len cap lo hi none).run P w = .ok (l, r, cap) w := by
  rcases hlo with ⟨rfl, rfl⟩ | ⟨k, rfl⟩ <;> rcases hhi with ⟨rfl, rfl⟩ | ⟨k', rfl⟩ <;>
    simp [Instr.sliceBounds, Instr.sliceBound, asIntOf, h1, h2]

theorem bounds3_run {isS : Bool} {len cap l r m : Nat} {lo : Option Value} {k k2 : IntKind} (hlo : Bnd lo 0 l) (h1 : l ≤ r) (h2 : r ≤ m) (h3 : m ≤ cap) (w : World) :
    (Instr.sliceBounds isS len cap lo (some (.int k (.ofNat r))) (some (.int k2 (.ofNat m)))).run P w = .ok (l, r, m) w := by
  rcases hlo with ⟨rfl, rfl⟩ | ⟨k', rfl⟩ <;>
    simp [Instr.sliceBounds, Instr.sliceBound, asIntOf, h1, h2, h3]

theorem extract_bytes (s : ByteArray) (l r : Nat) : (⟨((s.data.toList.drop l).take (r - l)).toArray⟩ : ByteArray) = s.extract l r := by
  apply ByteArray.ext
  apply Array.ext'
  simp [List.drop_take]

theorem bif_ok {c : Bool} {x : KO} {v : Value} {h : KH} (hh : (bif c then x else .no) = .ok v h) : c = true ∧ x = .ok v h := by
  cases c
  · cases hh
  · exact ⟨rfl, hh⟩

theorem sliceK_run {σ : Sig} {t : TypeId} {x x' : Value} {lo lo' hi hi' mx mx' : Option Value} {v : Value} {h h' : KH} (hh : sliceK P t x lo hi mx h = .ok v h') (hx : VR σ x x')
    (hlo : OV σ lo lo') (hhi : OV σ hi hi') (hmx : OV σ mx mx') : h' = h ∧ Yl P σ v (Instr.sliceAt t x' lo' hi' mx') := by
  have hm : ∀ {m m' : Option Value}, OV σ m m' → m = none → m' = none := fun h e => by
    rcases h with ⟨_, h⟩ | ⟨_, _, h, _⟩
    · exact h
    · rw [e] at h; cases h
  unfold sliceK at hh
  split at hh
  · rename_i s hu
    obtain ⟨l, hh, bl⟩ := bndK_spec hh
    obtain ⟨r, hh, br⟩ := bndK_spec hh
    obtain ⟨hc, hh⟩ := bif_ok hh
    cases hh
    rw [ble_eq, ble_eq, lLen_bytes, Bool.and_eq_true, decide_eq_true_eq, decide_eq_true_eq] at hc
    rw [lLen_bytes] at br
    rw [hx.string, hm hmx rfl]
    refine ⟨rfl, _, .same rfl, fun w => ?_⟩
    rw [lDrop_eq, lTake_eq, extract_bytes]
    simp [Instr.sliceAt, run_underlying hu, Instr.slice, bounds_run (hlo.bnd bl) (hhi.bnd br) hc.1 hc.2]
  · rename_i e n c hu
    split at hh
    · rename_i s hs
      obtain ⟨l, hh, bl⟩ := bndK_spec hh
      obtain ⟨r, hh, br⟩ := bndK_spec hh
      obtain ⟨hc, hh⟩ := bif_ok hh
      cases hh
      rw [ble_eq, ble_eq, beq_eq, Bool.and_eq_true, Bool.and_eq_true, decide_eq_true_eq, decide_eq_true_eq, decide_eq_true_eq] at hc
      obtain ⟨⟨h1, h2⟩, h3⟩ := hc
      rw [hx.slice_nil, hm hmx rfl]
      refine ⟨rfl, .slice none (r - l) (c - l), .same rfl, fun w => ?_⟩
      simp [Instr.sliceAt, run_underlying hu, Instr.slice, bounds_run (hlo.bnd bl) (hhi.bnd br) h1 h2, sizeK_run hs]
    · cases hh
  · rename_i e b o n c hu
    split at hh
    · rename_i s hs
      obtain ⟨l, hh, bl⟩ := bndK_spec hh
      obtain ⟨r, hh, br⟩ := bndK_spec hh
      obtain ⟨hc, hh⟩ := bif_ok hh
      rw [ble_eq, ble_eq, Bool.and_eq_true, decide_eq_true_eq, decide_eq_true_eq] at hc
      obtain ⟨h1, h2⟩ := hc
      obtain ⟨L, hL, rfl⟩ := hx.slice_inv
      rw [hm hmx rfl]
      cases h3 : (Nat.blt l c || Nat.beq l 0)
      · rw [h3, cond_false] at hh
        cases hh
        refine ⟨rfl, .slice (if c + L.room = l then some ⟨L.blk, L.base + o, none⟩ else some ⟨L.blk, L.base + (o + l * s), none⟩) (r - l) (c + L.room - l), by split <;> exact .opq, fun w => ?_⟩
        have hb := bounds_run (P := P) (isS := true) (hlo.bnd bl) (hhi.bnd br) h1 (Nat.le_trans h2 (Nat.le_add_right c L.room)) w
        by_cases h4 : c + L.room = l
        · rw [h4] at hb ⊢
          simp [Instr.sliceAt, run_underlying hu, Instr.slice, hb, sizeK_run hs]
        · simp [Instr.sliceAt, run_underlying hu, Instr.slice, hb, sizeK_run hs, h4, addr_add, Nat.add_assoc]
      rw [h3, cond_true] at hh
      cases hh
      rw [blt_eq, beq_eq, Bool.or_eq_true, decide_eq_true_eq, decide_eq_true_eq] at h3
      refine ⟨rfl, .slice (some ⟨L.blk, L.base + (o + l * s), none⟩) (r - l) (c - l + L.room), .slice hL, fun w => ?_⟩
      have hc : c + L.room - l = c - l + L.room := by omega
      by_cases h4 : c + L.room = l
      · have hl0 : l = 0 := by omega
        subst hl0
        have hb := bounds_run (P := P) (isS := true) (hlo.bnd bl) (hhi.bnd br) h1 (Nat.le_trans h2 (Nat.le_add_right c L.room)) w
        have e1 : c = 0 := by omega
        have e2 : L.room = 0 := by omega
        simp only [e1, e2, Nat.add_zero] at hb ⊢
        simp [Instr.sliceAt, run_underlying hu, Instr.slice, hb, sizeK_run hs]
      · simp [Instr.sliceAt, run_underlying hu, Instr.slice, bounds_run (hlo.bnd bl) (hhi.bnd br) h1 (Nat.le_trans h2 (Nat.le_add_right c L.room)), sizeK_run hs, h4, hc, addr_add, Nat.add_assoc]
    · cases hh
  · rename_i e b o sp n c hu
    split at hh
    · rename_i s hs
      obtain ⟨l, hh, bl⟩ := bndK_spec hh
      obtain ⟨r, hh, br⟩ := bndK_spec hh
      obtain ⟨hc, hh⟩ := bif_ok hh
      cases hh
      rw [beq_eq, beq_eq, Bool.and_eq_true, decide_eq_true_eq, decide_eq_true_eq] at hc
      obtain ⟨rfl, rfl⟩ := hc
      obtain ⟨a', c', rfl⟩ : ∃ a' c', x' = .slice (some a') n c' := by
        cases hx with
        | same h => cases h
        | opq => exact ⟨_, _, rfl⟩
      rw [hm hmx rfl]
      refine ⟨rfl, .slice (if c' = 0 then some a' else some (a'.add (0 * s))) 0 c', by split <;> exact .opq, fun w => ?_⟩
      have hb := bounds_run (P := P) (isS := true) (hlo.bnd bl) (hhi.bnd br) (Nat.le_refl 0) (Nat.zero_le c') w
      by_cases h4 : c' = 0
      · subst h4; simp [Instr.sliceAt, run_underlying hu, Instr.slice, hb, sizeK_run hs]
      · simp [Instr.sliceAt, run_underlying hu, Instr.slice, hb, sizeK_run hs, h4]
    · cases hh
  · rename_i e b o n c m hu
    split at hh
    · rename_i s hs
      obtain ⟨l, hh, bl⟩ := bndK_spec hh
      obtain ⟨r, hh, br⟩ := bndK_spec hh
      obtain ⟨m', hh, bm⟩ := bndK_spec hh
      obtain ⟨hc, hh⟩ := bif_ok hh
      cases hh
      rw [ble_eq, ble_eq, ble_eq, Bool.and_eq_true, Bool.and_eq_true, decide_eq_true_eq, decide_eq_true_eq, decide_eq_true_eq] at hc
      obtain ⟨⟨h1, h2⟩, h3⟩ := hc
      obtain ⟨L, hL, rfl⟩ := hx.slice_inv
      obtain ⟨k2, hm2⟩ : ∃ k2, m = .int k2 (.ofNat m') := by
        rcases bm with ⟨h, _⟩ | ⟨k, h⟩
        · cases h
        · cases h; exact ⟨k, rfl⟩
      obtain ⟨k3, hr2⟩ : ∃ k3, hi = some (.int k3 (.ofNat r)) := by
        rcases br with ⟨h, _⟩ | ⟨k, h⟩
        · cases h
        · cases hi with
          | none => cases h
          | some v => cases h; exact ⟨k, rfl⟩
      subst hm2 hr2
      have hmx' : mx' = some (.int k2 (.ofNat m')) := by
        rcases hmx with ⟨h, _⟩ | ⟨v, v', h, h', hv⟩
        · cases h
        · cases h; rw [h', hv.int]
      have hhi' : hi' = some (.int k3 (.ofNat r)) := by
        rcases hhi with ⟨h, _⟩ | ⟨v, v', h, h', hv⟩
        · cases h
        · cases h; rw [h', hv.int]
      subst hmx' hhi'
      refine ⟨rfl, .slice (if m' = l then some ⟨L.blk, L.base + o, none⟩ else some ⟨L.blk, L.base + (o + l * s), none⟩) (r - l) (m' - l), by split <;> exact .opq, fun w => ?_⟩
      have hb := bounds3_run (P := P) (isS := true) (len := n) (k := k3) (k2 := k2) (hlo.bnd bl) h1 h2 (Nat.le_trans h3 (Nat.le_add_right c L.room)) w
      simp only [Instr.sliceAt, run_underlying hu, Sem.run_bind, Result.andThen_ok, Instr.slice, hb, sizeK_run hs]
      by_cases h4 : m' = l
      · simp [h4]
      · simp [h4, addr_add, Nat.add_assoc]
    · cases hh
  · cases hh

theorem lenK_run {σ : Sig} {t ty : TypeId} {x x' : Value} {v : Value} {h h' : KH} (hh : lenK P t x h = .ok v h') (hx : VR σ x x') (ts : Array TypeId) (ht : ts[0]? = some t) :
    h' = h ∧ Yl P σ v (Builtin.len_ ts ty #[x']) := by
  unfold lenK at hh
  split at hh
  · rename_i s hu
    cases hh
    rw [hx.string, lLen_bytes]
    exact ⟨rfl, _, .same rfl, fun w => by simp [Builtin.len_, ht, run_underlying hu, goInt]⟩
  · rename_i e a n c hu
    cases hh
    obtain ⟨a', c', rfl, _⟩ := hx.slice_any
    exact ⟨rfl, _, .same rfl, fun w => by simp [Builtin.len_, ht, run_underlying hu, goInt]⟩
  · cases hh

theorem minK_run {σ : Sig} {mx : Bool} {x x' y y' : Value} {v : Value} {h h' : KH} (hh : minK mx x y h = .ok v h') (hx : VR σ x x') (hy : VR σ y y') (ts : Array TypeId) (ty : TypeId) :
    h' = h ∧ Yl P σ v (if mx then Builtin.max_ ts ty #[x', y'] else Builtin.min_ ts ty #[x', y']) := by
  unfold minK at hh
  split at hh
  · rw [hx.int, hy.int]
    cases mx
    · simp only [cond_false, KO.ok.injEq] at hh
      obtain ⟨rfl, rfl⟩ := hh
      refine ⟨rfl, _, .same rfl, fun w => ?_⟩
      simp [Builtin.min_, Builtin.min2, iLt_eq, cond_eq_ite]
    · simp only [cond_true, KO.ok.injEq] at hh
      obtain ⟨rfl, rfl⟩ := hh
      refine ⟨rfl, _, .same rfl, fun w => ?_⟩
      simp [Builtin.max_, Builtin.max2, iLt_eq, cond_eq_ite]
  · cases hh

theorem flats_VL {l : List Value} (h : flats l = true) (σ : Sig) : VL σ l l := by
  induction l with
  | nil => exact .nil σ
  | cons x l ih =>
    simp only [flats, List.all_cons, Bool.and_eq_true] at h
    exact .cons (.same h.1) (ih h.2)

theorem zeroK_spec {t : TypeId} {z : List Value} (h : zeroK P t = some z) : ∃ i zv, P.info? t = some i ∧ i.zero = some zv ∧ z = zv.cells.toList ∧ (∀ w, (zeroValue t).run P w = .ok zv w) ∧ ∀ σ, VL σ z z := by
  unfold zeroK at h
  split at h
  · rename_i i hi
    split at h
    · rename_i zv hz
      cases hf : flats zv.cells.toList
      · simp [hf] at h
      · simp only [hf, cond_true, Option.some.injEq] at h
        subst h
        exact ⟨i, zv, hi, hz, rfl, fun w => by simp [zeroValue, typeInfo, hi, hz], flats_VL hf⟩
    · cases h
  · cases h

theorem VL.splice {σ : Sig} {a a' b b' : List Value} (h : VL σ a a') (h' : VL σ b b') (o : Nat) : VL σ (a.take o ++ (b ++ a.drop (o + b.length))) (a'.take o ++ (b' ++ a'.drop (o + b'.length))) := by
  rw [← h'.1]
  exact (h.take o).append (h'.append (h.drop _))

theorem foldl_set (vs : List Value) (cs : Array Value) (off : Nat) (h : off + vs.length ≤ cs.size) :
    (vs.toArray.zipIdx.foldl (fun cs (p : Value × Nat) => cs.setIfInBounds (off + p.2) p.1) cs).toList = cs.toList.take off ++ (vs ++ cs.toList.drop (off + vs.length)) := by
  have key : ∀ (vs : List Value) (k : Nat) (cs : Array Value), off + k + vs.length ≤ cs.size →
      ((vs.zipIdx k).foldl (fun cs (p : Value × Nat) => cs.setIfInBounds (off + p.2) p.1) cs).toList = cs.toList.take (off + k) ++ (vs ++ cs.toList.drop (off + k + vs.length)) := by
    intro vs
    induction vs with
    | nil => intro k cs _; simp
    | cons v vs ih =>
      intro k cs hl
      simp only [List.length_cons] at hl
      simp only [List.zipIdx_cons, List.foldl_cons]
      rw [ih (k + 1) (cs.setIfInBounds (off + k) v) (by simp; omega)]
      simp only [Array.toList_setIfInBounds]
      apply List.ext_getElem?
      intro j
      simp only [List.getElem?_append, List.getElem?_take, List.getElem?_drop, List.getElem?_set, List.length_take, List.length_set, Array.length_toList, List.length_cons]
      have e1 : min (off + (k + 1)) cs.size = off + k + 1 := by omega
      have e2 : min (off + k) cs.size = off + k := by omega
      rw [e1, e2]
      by_cases h1 : j < off + k
      · have h1' : j < off + k + 1 := by omega
        have hne : ¬ (off + k = j) := by omega
        have h1'' : j < off + (k + 1) := by omega
        simp [h1, h1', hne, h1'']
      · by_cases h2 : j = off + k
        · subst h2
          have h3 : off + k < cs.size := by omega
          have h4 : off + k < off + (k + 1) := by omega
          simp [h3, h4]
        · have h3 : ¬ j < off + k + 1 := by omega
          simp only [h1, h3, if_false]
          obtain ⟨m, rfl⟩ : ∃ m, j = off + k + 1 + m := ⟨j - (off + k + 1), by omega⟩
          have e3 : off + k + 1 + m - (off + k) = m + 1 := by omega
          have e4 : off + k + 1 + m - (off + k + 1) = m := by omega
          rw [e3, e4, List.getElem?_cons_succ]
          by_cases hm : m < vs.length
          · have : m + 1 < vs.length + 1 := by omega
            simp [hm]
          · have e5 : off + (k + 1) + vs.length + (m - vs.length) = off + k + 1 + m := by omega
            have e6 : off + k + (vs.length + 1) + (m + 1 - (vs.length + 1)) = off + k + 1 + m := by omega
            have : ¬ (off + k = off + k + 1 + m) := by omega
            have e7 : off + k + (vs.length + 1) + (m - vs.length) = off + k + 1 + m := by omega
            simp [hm, e5, e6, this, e7]
  have := key vs 0 cs (by omega)
  simpa [Array.foldl_toList] using this

theorem VR.cells {σ : Sig} {v v' : Value} (h : VR σ v v') : VL σ v.cells.toList v'.cells.toList := by
  cases h with
  | agg h1 h2 => exact (VRs.toL ⟨h1, h2⟩)
  | same hf =>
    cases v <;> first | (cases hf; done) | exact .cons (.same hf) (.nil σ)
  | ptr h => exact .cons (.ptr h) (.nil σ)
  | slice h => exact .cons (.slice h) (.nil σ)
  | opq => exact .cons .opq (.nil σ)
  | func h1 h2 h3 h4 => exact .cons (.func h1 h2 h3 h4) (.nil σ)
  | tuple h1 h2 => exact .cons (.tuple h1 h2) (.nil σ)

/-- Parts of a struct. -/
inductive PL (σ : Sig) : List (Nat × Value) → List (Nat × Value) → Prop
  | nil : PL σ [] []
  | cons {i : Nat} {v v' : Value} {l l' : List (Nat × Value)} : VR σ v v' → PL σ l l' → PL σ ((i, v) :: l) ((i, v') :: l')

theorem spliceK_eq (cs : List Value) (o : Nat) (vs : List Value) : spliceK cs o vs = cs.take o ++ (vs ++ cs.drop (o + vs.length)) := by
  unfold spliceK
  rw [lTake_eq, lDrop_eq, lLen_eq]

theorem fillK_run {σ : Sig} {place : Nat → Option (Nat × Nat)} {ps ps' : List (Nat × Value)} (hp : PL σ ps ps') :
    ∀ {cs : List Value} {cs' : Array Value} {out : List Value}, fillK place ps cs = some out → VL σ cs cs'.toList → ∃ out', Instr.fill place cs' ps' = some out' ∧ VL σ out out'.toList := by
  induction hp with
  | nil => intro cs cs' out h hv; cases h; exact ⟨cs', rfl, hv⟩
  | @cons i v v' l l' hvv _ ih =>
    intro cs cs' out h hv
    have h2 : (match place i with
      | some (off, size) => bif Nat.beq (lLen v.cells.toList) size && Nat.ble (off + size) (lLen cs) then fillK place l (spliceK cs off v.cells.toList) else none
      | none => none) = some out := h
    clear h
    cases hpl : place i with
    | none => rw [hpl] at h2; cases h2
    | some os =>
      obtain ⟨off, size⟩ := os
      rw [hpl] at h2
      simp only [lLen_eq, beq_eq, ble_eq] at h2
      have hvc := hvv.cells
      by_cases h1 : v.cells.toList.length = size <;> by_cases h3 : off + size ≤ cs.length <;> simp only [h1, h3, decide_true, decide_false, Bool.and_self, Bool.and_false, Bool.false_and, cond_true, cond_false] at h2 <;> try cases h2
      rw [spliceK_eq] at h2
      have hs' : v'.cells.size = size := by have := hvc.1; simp at this h1; omega
      have hl' : off + v'.cells.toList.length ≤ cs'.size := by have := hv.1; simp at this; simp [hs']; omega
      have hf := foldl_set v'.cells.toList cs' off hl'
      have hvs := hv.splice hvc off
      rw [← hf] at hvs
      obtain ⟨out', ho, hvo⟩ := ih h2 hvs
      refine ⟨out', ?_, hvo⟩
      have hcs : ¬ (cs'.size < off + v'.cells.size) := by simp at hl'; omega
      simp only [Instr.fill, hpl]
      rw [if_neg (by simp [hs']; rw [hs'] at hcs; omega)]
      simpa using ho

theorem placesK_run {fs : List Field} {pl : List (Nat × Nat)} (h : placesK P fs = some pl) (w : World) :
    (fs.mapM fun f => Prod.mk f.offset <$> sizeOf f.type).run P w = .ok pl w := by
  induction fs generalizing pl with
  | nil => cases h; simp
  | cons f fs ih =>
    have h2 : (match sizeK P f.type, placesK P fs with
      | some n, some l => some ((f.offset, n) :: l)
      | _, _ => none) = some pl := h
    clear h
    split at h2
    · rename_i n l hn hl
      cases h2
      simp [List.mapM_cons, sizeK_run hn, ih hl]
    · cases h2

theorem buildK_run {σ : Sig} {t : TypeId} {ps : List (Nat × Value)} {ps' : Array (Nat × Value)} {v : Value} {h h' : KH} (hh : buildK P t ps h = .ok v h') (hp : PL σ ps ps'.toList) :
    h' = h ∧ Yl P σ v (Instr.build t ps') := by
  unfold buildK at hh
  split at hh
  · rename_i z fs hz hu
    obtain ⟨i, zv, h1, h2, rfl, h3, h4⟩ := zeroK_spec hz
    split at hh
    · rename_i pl hpl
      split at hh
      · rename_i cs hcs
        cases hh
        obtain ⟨out', ho, hv⟩ := fillK_run hp hcs (h4 σ)
        refine ⟨rfl, .agg out', ?_, fun w => ?_⟩
        · have := hv.toA
          simp only [Array.toArray_toList] at this
          exact .agg this.1 this.2
        · have hm : (fs.mapM fun f => Prod.mk f.offset <$> sizeOf f.type).run P w = .ok pl.toArray w := by
            rw [Array.mapM_eq_mapM_toList, Sem.run_map, placesK_run hpl]; rfl
          have hpe : (fun i => lGet pl i) = fun x => pl[x]? := by funext i; rw [lGet_eq]
          rw [hpe] at ho
          simp [Instr.build, h3, run_underlying hu, hm, ho]
      · cases hh
    · cases hh
  · rename_i z n e hz hu
    obtain ⟨i, zv, h1, h2, rfl, h3, h4⟩ := zeroK_spec hz
    split at hh
    · rename_i s hs
      split at hh
      · rename_i cs hcs
        cases hh
        obtain ⟨out', ho, hv⟩ := fillK_run hp hcs (h4 σ)
        refine ⟨rfl, .agg out', ?_, fun w => ?_⟩
        · have := hv.toA
          simp only [Array.toArray_toList] at this
          exact .agg this.1 this.2
        · simp [Instr.build, h3, run_underlying hu, sizeK_run hs, ho]
      · cases hh
    · cases hh
  · cases hh
end
end Go.Proofs.Ytgjpcliaggpcaaa.Ab
