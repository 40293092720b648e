/- The evaluator's stores and new blocks. -/
import Derived.Test.YtgjpcliaggpcaaaAbI
set_option linter.unusedVariables false
set_option linter.unusedSimpArgs false
namespace Go.Proofs.Ytgjpcliaggpcaaa.Ab
open Go Classical

section
variable {P : Program}

/-- What is turned is told. -/
structure WrOk (h h' : KH) : Prop where
  mono : ∀ b, h.wr.testBit b = true → h'.wr.testBit b = true
  told : ∀ b, b < h.nx → (absH h').get b ≠ (absH h).get b → h'.wr.testBit b = true

theorem WrOk.refl (h : KH) : WrOk h h := ⟨fun _ h => h, fun _ _ hn => absurd rfl hn⟩
theorem WrOk.trans {h h1 h2 : KH} (n : h.nx ≤ h1.nx) (p : WrOk h h1) (q : WrOk h1 h2) : WrOk h h2 := by
  refine ⟨fun b hb => q.mono b (p.mono b hb), fun b hb hn => ?_⟩
  by_cases h1 : (absH h1).get b = (absH h).get b
  · exact q.told b (by omega) (by rw [h1]; exact hn)
  · exact q.mono b (p.told b hb h1)

theorem putsK_get : ∀ (vs : List Value) (t : Tr Value) (o j : Nat), o + vs.length < 1073741825 →
    (putsK vs t o).get j = if o ≤ j ∧ j < o + vs.length then some (vs.getD (j - o) undef) else t.get j
  | [], t, o, j, _ => by
    have : ¬ (o ≤ j ∧ j < o + 0) := by omega
    simp only [List.length_nil, this, if_false]; rfl
  | v :: vs, t, o, j, h => by
    have e : putsK (v :: vs) t o = putsK vs (t.put 40 o (some v)) (o + 1) := by
      show frcV v (fun v => (t.put 40 o (some v)).now fun t => putsK vs t (o + 1)) = _
      rw [frcV_eq, Tr.now_eq]
    simp only [List.length_cons] at h
    have hp : o + 1 < 2 ^ 40 := Nat.lt_of_lt_of_le (m := 1073741826) (by omega) (by decide)
    rw [e, putsK_get vs _ (o + 1) j (by omega), Tr.get_put 40 t o j _ hp]
    simp only [List.length_cons]
    by_cases h1 : j = o
    · subst h1
      have : ¬ (j + 1 ≤ j ∧ j < j + 1 + vs.length) := by omega
      have h2 : j ≤ j ∧ j < j + (vs.length + 1) := by omega
      simp [this, h2]
    · by_cases h2 : o + 1 ≤ j ∧ j < o + 1 + vs.length
      · have h3 : o ≤ j ∧ j < o + (vs.length + 1) := by omega
        rw [if_pos h2, if_pos h3]
        obtain ⟨m, rfl⟩ : ∃ m, j = o + 1 + m := ⟨j - (o + 1), by omega⟩
        have e1 : o + 1 + m - (o + 1) = m := by omega
        have e2 : o + 1 + m - o = m + 1 := by omega
        rw [e1, e2]; simp
      · have h3 : ¬ (o ≤ j ∧ j < o + (vs.length + 1)) := by omega
        rw [if_neg h2, if_neg h3, if_neg h1]

theorem absH_put {h : KH} {b : Nat} (h1 : b < h.nx) (h2 : b < 1073741824) (B' : KB) (wr : Nat) (x : Nat) :
    (absH ⟨h.hp.put 40 b (some B'), h.nx, wr⟩).get x = if x = b then some (absB B') else (absH h).get x := by
  have hp : b + 1 < 2 ^ 40 := Nat.lt_of_lt_of_le (m := 1073741826) (by omega) (by decide)
  simp only [absH, Tr.get_put 40 _ b x _ hp]
  by_cases hx : x = b
  · subst hx; simp [h1]
  · simp [hx]

theorem absH_new {h : KH} (h2 : h.nx < 1073741824) (B' : KB) (wr : Nat) (x : Nat) :
    (absH ⟨h.hp.put 40 h.nx (some B'), h.nx + 1, wr⟩).get x = if x = h.nx then some (absB B') else (absH h).get x := by
  have hp : h.nx + 1 < 2 ^ 40 := Nat.lt_of_lt_of_le (m := 1073741826) (by omega) (by decide)
  simp only [absH, Tr.get_put 40 _ h.nx x _ hp]
  by_cases hx : x = h.nx
  · subst hx; simp
  · by_cases h3 : x < h.nx
    · have : x < h.nx + 1 := by omega
      simp [hx, h3, this]
    · have : ¬ x < h.nx + 1 := by omega
      simp [hx, h3, this]

theorem onesK_cons (v : Value) (l : List Value) : onesK (v :: l) = Bool.rec (motive := fun _ => Bool) false (onesK l) (oneK v) := rfl

theorem VR.one {σ : Sig} {v v' : Value} (h : VR σ v v') (ho : oneK v = true) : v'.oneCell' = true := by
  cases h with
  | same hf => cases v <;> first | rfl | cases hf
  | ptr => rfl
  | slice => rfl
  | opq => rfl
  | func => rfl
  | agg => cases ho
  | tuple => cases ho

theorem VL.ones {σ : Sig} : ∀ {l l' : List Value}, VL σ l l' → onesK l = true → ∀ v ∈ l', v.oneCell' = true
  | [], l', h, _ => by rw [h.of_nil]; simp
  | x :: l, l', h, ho => by
    obtain ⟨x', a', rfl, hx, ha⟩ := h.of_cons
    rw [onesK_cons] at ho
    cases h1 : oneK x
    · rw [h1] at ho; cases ho
    · rw [h1] at ho
      intro v hv
      rcases List.mem_cons.1 hv with rfl | hv
      · exact hx.one h1
      · exact VL.ones ha ho v hv

theorem splice_getD (cs vs : List Value) (p q : Nat) (h : p + vs.length ≤ cs.length) :
    (cs.take p ++ vs ++ cs.drop (p + vs.length)).getD q undef = if p ≤ q ∧ q < p + vs.length then vs.getD (q - p) undef else cs.getD q undef := by
  have e1 : min p cs.length = p := by omega
  simp only [List.getD_eq_getElem?_getD, List.getElem?_append, List.getElem?_take, List.getElem?_drop, List.length_append, List.length_take, e1]
  by_cases h1 : q < p
  · have h2 : q < p + vs.length := by omega
    simp [h1, h2]
    intro hx; omega
  · by_cases h2 : q < p + vs.length
    · have h3 : p ≤ q ∧ q < p + vs.length := by omega
      simp [h1, h2, h3]
    · have h3 : ¬ (p ≤ q ∧ q < p + vs.length) := by omega
      have e2 : p + vs.length + (q - (p + vs.length)) = q := by omega
      simp [h1, h2, h3, e2]

theorem write_run {b o : Nat} {vs : List Value} {v v' : Value} {h h' : KH} (hh : writeK b o vs v h = .ok v' h') :
    v' = v ∧ h'.nx = h.nx ∧ Stp (fun x => x = b) (absH h) (absH h') ∧ WrOk h h' ∧
    ∀ (σ : Sig) (w : World) (F : Nat → Prop), F b → Rel P σ F (absH h).get w → ∀ L, σ b = some L → ∀ vs', VL σ vs vs' →
      ∃ w', (storeCells ⟨L.blk, L.base + o, none⟩ vs').run P w = .ok () w' ∧ Post P F σ (absH h) w σ (absH h') w' := by
  unfold writeK at hh
  split at hh
  · rename_i B hB
    obtain ⟨hb1, hb2, hb3, hb4⟩ := getB_spec hB
    obtain ⟨hc, hh⟩ := bif_ok hh
    rw [Bool.and_eq_true, Bool.and_eq_true, ble_eq, blt_eq, decide_eq_true_eq, decide_eq_true_eq, lLen_eq] at hc
    obtain ⟨⟨hc1, hc2⟩, hc3⟩ := hc
    rw [Tr.now_eq, Tr.now_eq, frc_eq] at hh
    cases hh
    have hget := absH_put hb1 hb2 ⟨putsK vs B.cs o, B.len, B.elem, B.opn⟩ (Nat.lor h.wr (2 ^ b))
    refine ⟨rfl, rfl, ⟨Nat.le_refl _, absH_wf _, fun x hx hn => by rw [hget, if_neg hn]⟩, ⟨fun x hx => ?_, fun x hx hn => ?_⟩, ?_⟩
    · show (h.wr ||| 2 ^ b).testBit x = true
      rw [Nat.testBit_or, hx]; rfl
    · rw [hget] at hn
      show (h.wr ||| 2 ^ b).testBit x = true
      by_cases hxb : x = b
      · subst hxb; rw [Nat.testBit_or, Nat.testBit_two_pow_self, Bool.or_true]
      · rw [if_neg hxb] at hn; exact absurd rfl hn
    · intro σ w F hF hr L hL vs' hvs
      have hbr := hr.blk b L _ hF hL hb4
      obtain ⟨cs, hg, hsz, hv⟩ := hbr.rows
      have hlen := hvs.1
      have hrun := run_storeCells_at (P := P) L.blk (L.base + o) B.elem vs' 0 cs w hg (by omega) (hvs.ones hc3)
      refine ⟨_, hrun, ?_⟩
      simp only [Nat.add_zero]
      generalize hnew : (cs.toList.take (L.base + o) ++ vs' ++ cs.toList.drop (L.base + o + vs'.length)).toArray = new
      have hnsz : new.size = cs.size := by rw [← hnew]; simp; omega
      have hngd : ∀ q, new.getD q undef = if L.base + o ≤ q ∧ q < L.base + o + vs'.length then vs'.getD (q - (L.base + o)) undef else cs.getD q undef := by
        intro q
        have := splice_getD cs.toList vs' (L.base + o) q (by simp; omega)
        rw [← hnew]
        simpa [Array.getD_eq_getD_getElem?, List.getD_eq_getElem?_getD] using this
      have hw2 : (w.setRow L.blk new).heap[L.blk]? = some (.cells new B.elem (0, 0)) := setRow_heap w L.blk cs new B.elem (0, 0) hg
      have live : ∀ x, (if x = b then some (absB ⟨putsK vs B.cs o, B.len, B.elem, B.opn⟩) else (absH h).get x).isSome = ((absH h).get x).isSome := by
        intro x
        by_cases hxb : x = b
        · subst hxb; simp [hb4]
        · simp [hxb]
      have nof : ∀ x, ¬ fresh (absH h) (absH ⟨h.hp.put 40 b (some ⟨putsK vs B.cs o, B.len, B.elem, B.opn⟩), h.nx, Nat.lor h.wr (2 ^ b)⟩) x := fun x hx => by
        have h1 := hx.1; have h2 := hx.2
        simp only [absH] at h1 h2
        omega
      refine ⟨⟨fun x l B2 hx hs hg2 => ?_, fun x x' l l' hx hx' hs hs' hi hi' ho ho' he => ?_, fun x x' l l' hx hs hs' hi ho ho' => ?_, fun x l hs ho => by simpa using hr.old x l hs ho⟩, fun _ _ => rfl, by simp, fun k hk hn => ?_, fun k hk ⟨x, l, hx, hs, hi, he⟩ => ?_, fun x l hx => absurd hx (nof x), ⟨rfl, rfl, rfl⟩⟩
      · rw [hget] at hg2
        have hx' := hx.resolve_right (nof x)
        by_cases hxb : x = b
        · subst hxb
          rw [if_pos rfl] at hg2
          cases hg2
          obtain rfl : l = L := by rw [hL] at hs; exact (Option.some.inj hs).symm
          refine BR.mk' ⟨new, hw2, by rw [absB_len, hnsz]; exact hsz, fun i hi => ?_⟩ hbr.room (fun _ => hbr.own rfl)
          rw [absB_len] at hi
          rw [absB_get hi, putsK_get vs B.cs o i (by omega), hngd]
          by_cases h1 : o ≤ i ∧ i < o + vs.length
          · have h2 : l.base + o ≤ l.base + i ∧ l.base + i < l.base + o + vs'.length := by omega
            rw [if_pos h1, if_pos h2]
            have e : l.base + i - (l.base + o) = i - o := by omega
            rw [e]
            exact hvs.at (i - o)
          · have h2 : ¬ (l.base + o ≤ l.base + i ∧ l.base + i < l.base + o + vs'.length) := by omega
            rw [if_neg h1, if_neg h2]
            exact hv i hi
        · rw [if_neg hxb] at hg2
          refine (hr.blk x l B2 hx' hs hg2).move (fun _ _ h => h) (setRow_other w L.blk l.blk new fun e => ?_)
          cases hlr : l.ro
          · exact hxb (hr.inj x b l L hx' hF hs hL (by rw [hg2]; rfl) (by rw [hb4]; rfl) hlr (hbr.own rfl) e)
          · exact hr.sep b x L l hF hL hs (by rw [hb4]; rfl) (hbr.own rfl) hlr e.symm
      · rw [hget, live] at hi hi'
        exact hr.inj x x' l l' (hx.resolve_right (nof x)) (hx'.resolve_right (nof x')) hs hs' hi hi' ho ho' he
      · rw [hget, live] at hi
        exact hr.sep x x' l l' (hx.resolve_right (nof x)) hs hs' hi ho ho'
      · refine setRow_other w L.blk k new fun e => hn ⟨b, L, hF, hL, by rw [hb4]; rfl, hbr.own rfl, e.symm⟩
      · rw [hget, live] at hi
        exact ⟨x, l, hx.resolve_right (nof x), hs, hi, he⟩
  · cases hh

theorem new_post' {σ : Sig} {w w1 : World} {F : Nat → Prop} {H H' : AHeap} {B : ABlk} {cs : Array Value} {room : Nat} (hwf : H.wf) (hr : Rel P σ F H.get w) (hnx : H'.next = H.next + 1)
    (hget0 : H'.get H.next = some B) (hgetx : ∀ x B2, x ≠ H.next → H'.get x = some B2 → H.get x = some B2) (hfr : Fresh σ H H') (hsz : cs.size = B.cells.length + room * P.cellsOf B.elem)
    (hv : ∀ i, i < B.cells.length → VR σ (B.cells.getD i undef) (cs.getD i undef)) (hroom : B.opn = false → room = 0) (hw1 : w1.heap = w.heap.push (.cells cs B.elem (0, 0))) (hrest : w1.os = w.os ∧ w1.tape = w.tape ∧ w1.output = w.output := by exact ⟨rfl, rfl, rfl⟩) :
    Post P F σ H w (fun x => if x = H.next then some ⟨w.heap.size, 0, room, false⟩ else σ x) H' w1 := by
  have hup : ∀ b l, σ b = some l → (if b = H.next then some (⟨w.heap.size, 0, room, false⟩ : Loc) else σ b) = some l := fun b l hb => by
    by_cases hx : b = H.next
    · subst hx; rw [hfr H.next ⟨Nat.le_refl _, by omega⟩] at hb; cases hb
    · rw [if_neg hx]; exact hb
  have hold : ∀ k, k < w.heap.size → w1.heap[k]? = w.heap[k]? := fun k hk => by rw [hw1, Array.getElem?_push_lt hk, Array.getElem?_eq_getElem hk]
  have hnw : w1.heap[w.heap.size]? = some (.cells cs B.elem (0, 0)) := by rw [hw1]; simp
  have isfr : ∀ x, fresh H H' x ↔ x = H.next := fun x => ⟨fun h => by have := h.1; have := h.2; omega, fun h => ⟨by omega, by omega⟩⟩
  have some' : ∀ x, x ≠ H.next → (H'.get x).isSome = true → ∃ B2, H.get x = some B2 := fun x hx hi => by
    obtain ⟨B2, hB⟩ := Option.isSome_iff_exists.1 hi
    exact ⟨B2, hgetx x B2 hx hB⟩
  refine ⟨⟨fun b l B2 hb hs hg => ?_, fun b b' l l' hb hb' hs hs' hi hi' ho ho' he => ?_, fun b b' l l' hb hs hs' hi ho ho' => ?_, fun b l hs ho => ?_⟩, fun b hb => if_neg (fun h => hb ((isfr b).2 h)), by rw [hw1]; simp, fun k hk _ => hold k hk, fun k hk ⟨b, l, hb, hs, hi, ho, he⟩ => ?_, fun b l hb hs => ?_, hrest⟩
  · by_cases hx : b = H.next
    · subst hx
      rw [hget0] at hg
      simp only [if_true] at hs
      cases hg; cases hs
      exact BR.mk' ⟨cs, hnw, by simpa using hsz, fun i hi => by simpa using (hv i hi).mono hup⟩ hroom (fun _ => rfl)
    · simp only [if_neg hx] at hs
      have hF := hb.resolve_right (fun h => hx ((isfr b).1 h))
      have hbr := hr.blk b l B2 hF hs (hgetx b B2 hx hg)
      exact hbr.move hup (hold _ hbr.lt)
  · have lt : ∀ b l, F b → σ b = some l → (∃ B2, H.get b = some B2) → l.blk < w.heap.size := fun b l hF hs ⟨B2, hB⟩ => (hr.blk b l B2 hF hs hB).lt
    by_cases hx : b = H.next <;> by_cases hx' : b' = H.next
    · rw [hx, hx']
    · simp only [if_neg hx'] at hs'
      have hF' := hb'.resolve_right (fun h => hx' ((isfr b').1 h))
      have := lt b' l' hF' hs' (some' b' hx' hi')
      simp only [if_pos hx] at hs
      cases hs
      simp only at he
      omega
    · simp only [if_neg hx] at hs
      have hF := hb.resolve_right (fun h => hx ((isfr b).1 h))
      have := lt b l hF hs (some' b hx hi)
      simp only [if_pos hx'] at hs'
      cases hs'
      simp only at he
      omega
    · obtain ⟨B1, hB1⟩ := some' b hx hi
      obtain ⟨B2, hB2⟩ := some' b' hx' hi'
      simp only [if_neg hx] at hs
      simp only [if_neg hx'] at hs'
      exact hr.inj b b' l l' (hb.resolve_right (fun h => hx ((isfr b).1 h))) (hb'.resolve_right (fun h => hx' ((isfr b').1 h))) hs hs' (by rw [hB1]; rfl) (by rw [hB2]; rfl) ho ho' he
  · have hx' : b' ≠ H.next := fun hx' => by
      simp only [if_pos hx'] at hs'
      cases hs'; cases ho'
    simp only [if_neg hx'] at hs'
    by_cases hx : b = H.next
    · simp only [if_pos hx] at hs
      cases hs
      simp only
      exact fun e => Nat.lt_irrefl _ (e ▸ hr.old b' l' hs' ho')
    · obtain ⟨B1, hB1⟩ := some' b hx hi
      simp only [if_neg hx] at hs
      exact hr.sep b b' l l' (hb.resolve_right (fun h => hx ((isfr b).1 h))) hs hs' (by rw [hB1]; rfl) ho ho'
  · have hx : b ≠ H.next := fun hx => by
      simp only [if_pos hx] at hs
      cases hs; cases ho
    simp only [if_neg hx] at hs
    have := hr.old b l hs ho
    rw [hw1]; simp; omega
  · by_cases hx : b = H.next
    · simp only [if_pos hx] at hs
      cases hs
      simp only at he
      omega
    · obtain ⟨B1, hB1⟩ := some' b hx hi
      simp only [if_neg hx] at hs
      exact ⟨b, l, hb.resolve_right (fun h => hx ((isfr b).1 h)), hs, by rw [hB1]; rfl, ho, he⟩
  · have := (isfr b).1 hb
    simp only [if_pos this] at hs
    cases hs; rfl

theorem new_post {σ : Sig} {w w1 : World} {F : Nat → Prop} {H H' : AHeap} {B : ABlk} {cs : Array Value} {room : Nat} (hwf : H.wf) (hr : Rel P σ F H.get w) (hnx : H'.next = H.next + 1)
    (hget : ∀ x, H'.get x = if x = H.next then some B else H.get x) (hfr : Fresh σ H H') (hsz : cs.size = B.cells.length + room * P.cellsOf B.elem)
    (hv : ∀ i, i < B.cells.length → VR σ (B.cells.getD i undef) (cs.getD i undef)) (hroom : B.opn = false → room = 0) (hw1 : w1.heap = w.heap.push (.cells cs B.elem (0, 0))) (hrest : w1.os = w.os ∧ w1.tape = w.tape ∧ w1.output = w.output := by exact ⟨rfl, rfl, rfl⟩) :
    Post P F σ H w (fun x => if x = H.next then some ⟨w.heap.size, 0, room, false⟩ else σ x) H' w1 :=
  new_post' hwf hr hnx (by rw [hget, if_pos rfl]) (fun x B2 hx hg => by rw [hget, if_neg hx] at hg; exact hg) hfr hsz hv hroom hw1 hrest

/-- What the evaluator makes of new cells. -/
theorem newK_spec {cs : List Value} {elem : TypeId} {opn : Bool} {k : Nat → Value} {h : KH} {v : Value} {h' : KH} (hh : newK cs elem opn k h = .ok v h') :
    v = k h.nx ∧ h'.nx = h.nx + 1 ∧ WrOk h h' ∧ (∀ F, Stp F (absH h) (absH h')) ∧
    ∃ B : ABlk, B.cells = cs ∧ B.elem = elem ∧ B.opn = opn ∧ ∀ x, (absH h').get x = if x = h.nx then some B else (absH h).get x := by
  unfold newK at hh
  rw [frc_eq] at hh
  obtain ⟨hc, hh⟩ := bif_ok hh
  rw [Bool.and_eq_true, blt_eq, blt_eq, decide_eq_true_eq, decide_eq_true_eq, lLen_eq] at hc
  rw [Tr.now_eq, Tr.now_eq, frc_eq] at hh
  cases hh
  have hget := absH_new hc.2 ⟨putsK cs .lf 0, lLen cs, elem, opn⟩ h.wr
  refine ⟨rfl, rfl, ⟨fun _ h => h, fun b hb hn => ?_⟩, fun F => ⟨by simp [absH], absH_wf _, fun b hb _ => ?_⟩, absB ⟨putsK cs .lf 0, lLen cs, elem, opn⟩, ?_, rfl, rfl, hget⟩
  · have hne : b ≠ h.nx := by omega
    exact absurd (by rw [hget, if_neg hne]) hn
  · have hb' : b < h.nx := hb
    rw [hget, if_neg (by omega)]
  · simp only [absB, lLen_eq]
    apply List.ext_getElem?
    intro i
    by_cases hi : i < cs.length
    · rw [List.getElem?_map, List.getElem?_range hi]
      simp only [Option.map_some]
      rw [putsK_get cs .lf 0 i (by omega), if_pos (by omega)]
      simp [List.getD_eq_getElem?_getD, List.getElem?_eq_getElem hi]
    · rw [List.getElem?_eq_none (by simpa using hi), List.getElem?_eq_none (by omega)]
end
end Go.Proofs.Ytgjpcliaggpcaaa.Ab
