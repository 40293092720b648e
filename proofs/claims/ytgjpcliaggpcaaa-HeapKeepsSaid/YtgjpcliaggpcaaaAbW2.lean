/- Appends and copies over the abstract heap itself. -/
import Derived.Test.YtgjpcliaggpcaaaAbW
set_option linter.unusedVariables false
set_option linter.unusedSimpArgs false
namespace Go.Proofs.Ytgjpcliaggpcaaa.Ab
open Go Classical

section
variable {P : Program}

theorem grow_stp {H : AHeap} {b : Nat} {B : ABlk} (hw : H.wf) (hb : b < H.next) : Stp (fun x => x = b) H (H.grow b B) :=
  ⟨Nat.le_succ _, fun x hx => by
    have hx' : H.next + 1 ≤ x := hx
    show (if x = H.next then some B else if x = b then none else H.get x) = none
    rw [if_neg (by omega), if_neg (by omega)]; exact hw x (by omega), fun x hx hn => by
    show (if x = H.next then some B else if x = b then none else H.get x) = _
    rw [if_neg (by omega), if_neg hn]⟩

/-- An append: what is made of it here, the model makes of it. -/
theorem appendA_run {t t2 ty e2 : TypeId} {s x v : Value} {H H' : AHeap} (hw0 : H.wf) (hh : appendA P t s x H = .ok v H') (hu2 : P.underlying t2 = some (.slice e2)) :
    Stp All H H' ∧
    ∀ (σ : Sig) (w : World) (s' x' : Value), Rel P σ All H.get w → Fresh σ H H' → VR σ s s' → VR σ x x' →
      ∃ σ' v' w', Post P All σ H w σ' H' w' ∧ VR σ' v v' ∧ (Builtin.append_ #[t, t2] ty #[s', x']).run P w = .ok v' w' := by
  unfold appendA at hh
  split at hh
  · rename_i e hu
    split at hh
    · rename_i i z hi hz0
      obtain ⟨i', zv, hi', hz, rfl, _, _⟩ := zeroK_spec hz0
      obtain rfl : i' = i := by rw [hi] at hi'; exact (Option.some.inj hi').symm
      split at hh
      · rename_i n new hsrc
        obtain ⟨hnl, ⟨xa, xc, rfl⟩, hsrun⟩ := srcA_run (P := P) hsrc
        split at hh
        · rename_i hc0
          obtain ⟨hzl, hnb, hn63, hby⟩ := hc0
          have hzs : zv.cells.size = i'.size := by simpa using hzl
          have hcell : P.cellsOf e = i'.size := by simp [Program.cellsOf, hi]
          split at hh
          · -- nil
            rename_i sl sc
            split at hh
            · rename_i hc
              obtain ⟨rfl, rfl⟩ := hc
              split at hh
              · rename_i hn0
                subst hn0
                cases hh
                refine ⟨.refl hw0, fun σ w s' x' hr hf hs hx => ?_⟩
                obtain ⟨l', hl', hfc⟩ := hsrun σ w All (fun _ _ _ => trivial) hr x' hx
                obtain ⟨a', c', rfl, _⟩ := hx.slice_any
                have hs' := hs.slice_nil
                refine ⟨σ, .slice none 0 0, w, .refl hr rfl, .same rfl, ?_⟩
                rw [hs', app_room hu hu2 hi (hfc w rfl) (by omega)]
              · rename_i hn0
                cases hh
                refine ⟨push_stp hw0 All, fun σ w s' x' hr hf hs hx => ?_⟩
                obtain ⟨l', hl', hfc⟩ := hsrun σ w All (fun _ _ _ => trivial) hr x' hx
                obtain ⟨a', c', rfl, _⟩ := hx.slice_any
                rw [hs.slice_nil]
                have hrun := app_grow (P := P) (ty := ty) (base := none) (sl := 0) (sc := 0) (old := #[]) hu hu2 hi hz (by simp [Builtin.firstCells]) (hfc w.drew rfl) (by omega) (by omega) (by simpa using hnb)
                simp only [Nat.zero_add] at hrun
                have hg := grownCap_le w n 0 e
                refine ⟨_, _, _, new_post (room := grownCap w n 0 e - n) (B := ⟨new, e, true, false⟩) hw0 hr rfl (fun _ => rfl) hf (cs := #[] ++ l'.toArray ++ Builtin.zeroCells zv.cells (grownCap w n 0 e - n)) ?_ (fun j hj => ?_) (fun hb => by cases hb) rfl, ?_, hrun⟩
                · simp only [hcell]
                  have := hl'.1
                  simp [zeroCells_size, hzs]; omega
                · simp only at hj ⊢
                  have := hl'.at j
                  have hj' : j < l'.length := by rw [← hl'.1]; exact hj
                  simpa [Array.getD_eq_getD_getElem?, List.getD_eq_getElem?_getD, Array.getElem?_append, hj'] using this
                · have e1 : grownCap w n 0 e = n + (grownCap w n 0 e - n) := by omega
                  have hvr : VR (fun x => if x = H.next then some (⟨w.heap.size, 0, grownCap w n 0 e - n, false⟩ : Loc) else σ x) (.slice (some ⟨H.next, 0, none⟩) n n)
                      (.slice (some ⟨w.heap.size, 0 + 0, none⟩) n (n + (grownCap w n 0 e - n))) :=
                    .slice (l := ⟨w.heap.size, 0, grownCap w n 0 e - n, false⟩) (if_pos rfl)
                  rw [e1]
                  simpa using hvr
            · cases hh
          · rename_i b o sl sc
            split at hh
            · rename_i B hB
              have hb1 := AHeap.wf_lt hw0 hB
              split at hh
              · rename_i hroom
                split at hh
                · obtain ⟨rfl, _, hst, hrun⟩ := writeA_run (P := P) hw0 hh
                  refine ⟨hst.all, fun σ w s' x' hr hf hs hx => ?_⟩
                  obtain ⟨l', hl', hfc⟩ := hsrun σ w All (fun _ _ _ => trivial) hr x' hx
                  obtain ⟨a', c', rfl, _⟩ := hx.slice_any
                  obtain ⟨L, hL, rfl⟩ := hs.slice_inv
                  obtain ⟨w', hw', hp⟩ := hrun σ w All trivial hr L hL l' hl'
                  refine ⟨σ, _, w', hp, .slice hL, ?_⟩
                  rw [app_room hu hu2 hi (hfc w rfl) (by omega)]
                  simp only [addr_add]
                  rw [show L.base + o + sl * i'.size = L.base + (o + sl * i'.size) by omega, hw']
                  rfl
                · cases hh
              · rename_i hroom
                split at hh
                · rename_i hc
                  obtain ⟨hcb, hc63, hclen, hslc, hel, hbo⟩ := hc
                  have hslsz : sl * i'.size ≤ sc * i'.size := Nat.mul_le_mul_right _ hslc
                  split at hh
                  · rename_i hop
                    split at hh
                    · -- in its place, or not
                      rename_i hc2
                      obtain ⟨rfl, hone⟩ := hc2
                      cases hh
                      generalize hBn : (⟨B.cells.take (sl * i'.size) ++ new, e, true, false⟩ : ABlk) = Bn
                      have hBnc : Bn.cells = B.cells.take (sl * i'.size) ++ new := by rw [← hBn]
                      have hBne : Bn.elem = e := by rw [← hBn]
                      have hBno : Bn.opn = true := by rw [← hBn]
                      have hst := grow_stp (B := Bn) hw0 hb1
                      refine ⟨hst.all, fun σ w s' x' hr hf hs hx => ?_⟩
                      obtain ⟨l', hl', hfc⟩ := hsrun σ w All (fun _ _ _ => trivial) hr x' hx
                      obtain ⟨a', c', rfl, _⟩ := hx.slice_any
                      obtain ⟨L, hL, rfl⟩ := hs.slice_inv
                      have hbr := hr.blk b L _ trivial hL hB
                      obtain ⟨cs, hg, hsz, hv⟩ := hbr.cs hbo
                      rw [hel, hcell] at hsz
                      have hl'len : l'.length = n * i'.size := by rw [← hl'.1]; exact hnl
                      have esum : (sl + n) * i'.size = sl * i'.size + n * i'.size := Nat.add_mul _ _ _
                      simp only [Nat.zero_add] at hclen
                      have hBlen : Bn.cells.length = (sl + n) * i'.size := by rw [hBnc]; simp; omega
                      have hBcells : ∀ j, j < (sl + n) * i'.size → Bn.cells.getD j undef = if sl * i'.size ≤ j then new.getD (j - sl * i'.size) undef else B.cells.getD j undef := fun j hj => by
                        rw [hBnc]
                        by_cases h1 : sl * i'.size ≤ j
                        · rw [if_pos h1, List.getD_eq_getElem?_getD, List.getElem?_append_right (by simp; omega), List.getD_eq_getElem?_getD]
                          congr 2
                          simp; omega
                        · rw [if_neg h1, List.getD_eq_getElem?_getD, List.getElem?_append_left (by simp; omega), List.getElem?_take, if_pos (by omega), ← List.getD_eq_getElem?_getD]
                      have hget0 : (H.grow b Bn).get H.next = some Bn := if_pos rfl
                      have hgetb : ∀ x, x ≠ H.next → x ≠ b → (H.grow b Bn).get x = H.get x := fun x h1 h2 => by
                        show (if x = H.next then some Bn else if x = b then none else H.get x) = _
                        rw [if_neg h1, if_neg h2]
                      have hgetbb : (H.grow b Bn).get b = none := by
                        show (if b = H.next then some Bn else if b = b then none else H.get b) = _
                        rw [if_neg (by omega), if_pos rfl]
                      by_cases hin : sl + n ≤ sc + L.room
                      · -- in its place
                        have hmul : (sl + n) * i'.size ≤ (sc + L.room) * i'.size := Nat.mul_le_mul_right _ hin
                        have emul : (sc + L.room) * i'.size = sc * i'.size + L.room * i'.size := Nat.add_mul _ _ _
                        have hst2 := run_storeCells_at (P := P) L.blk (L.base + sl * i'.size) B.elem l' 0 cs w hg (by omega) (hl'.ones hone)
                        simp only [Nat.add_zero] at hst2
                        generalize hnew : (cs.toList.take (L.base + sl * i'.size) ++ l' ++ cs.toList.drop (L.base + sl * i'.size + l'.length)).toArray = nw at hst2
                        have hnsz : nw.size = cs.size := by rw [← hnew]; simp; omega
                        have hngd : ∀ q, nw.getD q undef = if L.base + sl * i'.size ≤ q ∧ q < L.base + sl * i'.size + l'.length then l'.getD (q - (L.base + sl * i'.size)) undef else cs.getD q undef := by
                          intro q
                          have := splice_getD cs.toList l' (L.base + sl * i'.size) q (by simp; omega)
                          rw [← hnew]
                          simpa [Array.getD_eq_getD_getElem?, List.getD_eq_getElem?_getD] using this
                        have hw2 : (w.setRow L.blk nw).heap[L.blk]? = some (.cells nw B.elem (0, 0)) := setRow_heap w L.blk cs nw B.elem (0, 0) hg
                        have hup : ∀ x l, σ x = some l → (if x = H.next then some (⟨L.blk, L.base, sc + L.room - (sl + n), false⟩ : Loc) else σ x) = some l := fun x l hx => by
                          by_cases h1 : x = H.next
                          · subst h1
                            rw [hf H.next ⟨Nat.le_refl _, Nat.lt_succ_self _⟩] at hx; cases hx
                          · rw [if_neg h1]; exact hx
                        have isfr : ∀ x, fresh H (H.grow b Bn) x ↔ x = H.next := fun x => ⟨fun h1 => by
                          have h2 := h1.1; have h3 : x < H.next + 1 := h1.2
                          omega, fun h1 => ⟨by omega, by show x < H.next + 1; omega⟩⟩
                        have emul2 : (sc + L.room - (sl + n)) * i'.size = (sc + L.room) * i'.size - (sl + n) * i'.size := Nat.sub_mul _ _ _
                        refine ⟨fun x => if x = H.next then some ⟨L.blk, L.base, sc + L.room - (sl + n), false⟩ else σ x, .slice (some ⟨L.blk, L.base + 0, none⟩) (sl + n) (sl + n + (sc + L.room - (sl + n))), w.setRow L.blk nw, ⟨⟨fun x l B2 _ hs1 hg2 => ?_, fun x x2 l l2 _ _ hs1 hs2 hi1 hi2 ho1 ho2 he => ?_, fun x x2 l l2 _ hs1 hs2 hi1 ho1 ho2 => ?_, fun x l hs1 ho1 => ?_⟩,
                          fun x hx => if_neg (fun h1 => hx ((isfr x).2 h1)), by simp, fun k hk hn => ?_, fun k hk ⟨x, l, _, hs1, hi1, ho1, he⟩ => ?_, fun x l hx hs1 => ?_, ⟨rfl, rfl, rfl⟩⟩, .slice (l := ⟨L.blk, L.base, sc + L.room - (sl + n), false⟩) (if_pos rfl), ?_⟩
                        · by_cases hx1 : x = H.next
                          · subst hx1
                            rw [hget0] at hg2
                            simp only [if_true] at hs1
                            cases hg2; cases hs1
                            refine BR.mk' ⟨nw, by rw [hw2, hel, hBne], ?_, fun j hj => ?_⟩ (fun h1 => by rw [hBno] at h1; cases h1) (fun _ => rfl)
                            · rw [hnsz, hBlen, hBne, hcell]
                              simp only
                              omega
                            · rw [hBlen] at hj
                              simp only
                              rw [hBcells j hj, hngd]
                              by_cases h1 : sl * i'.size ≤ j
                              · rw [if_pos h1, if_pos (by omega)]
                                have e1 : L.base + j - (L.base + sl * i'.size) = j - sl * i'.size := by omega
                                rw [e1]
                                exact (hl'.at _).mono hup
                              · rw [if_neg h1, if_neg (by omega)]
                                exact (hv j (by omega)).mono hup
                          · simp only [if_neg hx1] at hs1
                            by_cases hxb : x = b
                            · rw [hxb, hgetbb] at hg2; cases hg2
                            · rw [hgetb x hx1 hxb] at hg2
                              refine (hr.blk x l B2 trivial hs1 hg2).move hup (setRow_other w L.blk l.blk nw fun e1 => ?_)
                              cases hlr : l.ro
                              · exact hxb (hr.inj x b l L trivial trivial hs1 hL (by rw [hg2]; rfl) (by rw [hB]; rfl) hlr (hbr.own hbo) e1)
                              · exact hr.sep b x L l trivial hL hs1 (by rw [hB]; rfl) (hbr.own hbo) hlr e1.symm
                        · have nob : ∀ y, ((H.grow b Bn).get y).isSome = true → y ≠ b := fun y hy h1 => by rw [h1, hgetbb] at hy; cases hy
                          by_cases hx1 : x = H.next <;> by_cases hx2 : x2 = H.next
                          · rw [hx1, hx2]
                          · simp only [if_pos hx1] at hs1
                            simp only [if_neg hx2] at hs2
                            cases hs1
                            have h3 := nob x2 hi2
                            rw [hgetb x2 hx2 h3] at hi2
                            exact absurd (hr.inj x2 b l2 L trivial trivial hs2 hL hi2 (by rw [hB]; rfl) ho2 (hbr.own hbo) he.symm) h3
                          · simp only [if_neg hx1] at hs1
                            simp only [if_pos hx2] at hs2
                            cases hs2
                            have h3 := nob x hi1
                            rw [hgetb x hx1 h3] at hi1
                            exact absurd (hr.inj x b l L trivial trivial hs1 hL hi1 (by rw [hB]; rfl) ho1 (hbr.own hbo) he) h3
                          · simp only [if_neg hx1] at hs1
                            simp only [if_neg hx2] at hs2
                            rw [hgetb x hx1 (nob x hi1)] at hi1
                            rw [hgetb x2 hx2 (nob x2 hi2)] at hi2
                            exact hr.inj x x2 l l2 trivial trivial hs1 hs2 hi1 hi2 ho1 ho2 he
                        · have hx2 : x2 ≠ H.next := fun hx2 => by
                            simp only [if_pos hx2] at hs2
                            cases hs2; cases ho2
                          simp only [if_neg hx2] at hs2
                          by_cases hx1 : x = H.next
                          · simp only [if_pos hx1] at hs1
                            cases hs1
                            exact hr.sep b x2 L l2 trivial hL hs2 (by rw [hB]; rfl) (hbr.own hbo) ho2
                          · simp only [if_neg hx1] at hs1
                            by_cases hxb : x = b
                            · rw [hxb, hgetbb] at hi1; cases hi1
                            · rw [hgetb x hx1 hxb] at hi1
                              exact hr.sep x x2 l l2 trivial hs1 hs2 hi1 ho1 ho2
                        · have hx1 : x ≠ H.next := fun hx1 => by
                            simp only [if_pos hx1] at hs1
                            cases hs1; cases ho1
                          simp only [if_neg hx1] at hs1
                          simpa using hr.old x l hs1 ho1
                        · exact setRow_other w L.blk k nw fun e1 => hn ⟨b, L, trivial, hL, by rw [hB]; rfl, hbr.own hbo, e1.symm⟩
                        · by_cases hx1 : x = H.next
                          · simp only [if_pos hx1] at hs1
                            cases hs1
                            exact ⟨b, L, trivial, hL, by rw [hB]; rfl, hbr.own hbo, he⟩
                          · simp only [if_neg hx1] at hs1
                            by_cases hxb : x = b
                            · rw [hxb, hgetbb] at hi1; cases hi1
                            · rw [hgetb x hx1 hxb] at hi1
                              exact ⟨x, l, trivial, hs1, hi1, ho1, he⟩
                        · simp only [if_pos ((isfr x).1 hx)] at hs1
                          cases hs1; rfl
                        · rw [app_room hu hu2 hi (hfc w rfl) hin]
                          simp only [addr_add, Nat.add_zero]
                          rw [hst2]
                          have e1 : sl + n + (sc + L.room - (sl + n)) = sc + L.room := by omega
                          rw [e1]; rfl
                      · -- elsewhere
                        have hfo : (Builtin.firstCells i'.size sl (.slice (some ⟨L.blk, L.base + 0, none⟩) sl (sc + L.room))).run P w.drew = .ok ((List.range (sl * i'.size)).map fun j => cs.getD (L.base + (0 + j)) undef).toArray w.drew := by
                          simp only [Builtin.firstCells]
                          exact run_cells (P := P) (base := L.base) (o := 0) (n := sl * i'.size) hg (by omega)
                        have hrun := app_grow (P := P) (ty := ty) hu hu2 hi hz hfo (hfc w.drew rfl) (by omega) hc63 hcb
                        have hg2 := grownCap_le w (sl + n) (sc + L.room) e
                        generalize grownCap w (sl + n) (sc + L.room) e = gc at hrun hg2
                        refine ⟨_, _, _, new_post' (room := gc - (sl + n)) hw0 hr rfl hget0 (fun x B2 hx1 hg3 => ?_) hf (cs := ((List.range (sl * i'.size)).map fun j => cs.getD (L.base + (0 + j)) undef).toArray ++ l'.toArray ++ Builtin.zeroCells zv.cells (gc - (sl + n))) ?_ (fun j hj => ?_) (fun hb => by rw [hBno] at hb; cases hb) (by rw [hBne]; rfl), ?_, hrun⟩
                        · by_cases hxb : x = b
                          · rw [hxb, hgetbb] at hg3; cases hg3
                          · rw [hgetb x hx1 hxb] at hg3; exact hg3
                        · rw [hBlen, hBne, hcell]
                          simp [zeroCells_size, hzs, hl'len, esum]
                        · rw [hBlen] at hj
                          rw [hBcells j hj]
                          have e2 : ((List.range (sl * i'.size)).map fun j => cs.getD (L.base + (0 + j)) undef).toArray ++ l'.toArray = (((List.range (sl * i'.size)).map fun j => cs.getD (L.base + (0 + j)) undef) ++ l').toArray := by simp
                          rw [e2, getD_pre _ _ _ (by simp; omega)]
                          by_cases h1 : sl * i'.size ≤ j
                          · rw [if_pos h1]
                            have e3 : (((List.range (sl * i'.size)).map fun j => cs.getD (L.base + (0 + j)) undef) ++ l').getD j undef = l'.getD (j - sl * i'.size) undef := by
                              rw [List.getD_eq_getElem?_getD, List.getElem?_append_right (by simpa using h1), List.getD_eq_getElem?_getD]
                              simp
                            rw [e3]
                            exact hl'.at (j - sl * i'.size)
                          · rw [if_neg h1]
                            have h2 : j < sl * i'.size := by omega
                            have := hv j (by omega)
                            have e6 : (((List.range (sl * i'.size)).map fun j => cs.getD (L.base + (0 + j)) undef) ++ l').getD j undef = cs.getD (L.base + (0 + j)) undef := by
                              rw [List.getD_eq_getElem?_getD, List.getElem?_append_left (by simpa using h2)]; simp [h2]
                            rw [e6, Nat.zero_add]
                            exact this
                        · have e1 : gc = sl + n + (gc - (sl + n)) := by omega
                          have hvr : VR (fun x => if x = H.next then some (⟨w.heap.size, 0, gc - (sl + n), false⟩ : Loc) else σ x) (.slice (some ⟨H.next, 0, none⟩) (sl + n) (sl + n))
                              (.slice (some ⟨w.heap.size, 0 + 0, none⟩) (sl + n) (sl + n + (gc - (sl + n)))) :=
                            .slice (l := ⟨w.heap.size, 0, gc - (sl + n), false⟩) (if_pos rfl)
                          rw [e1]
                          simpa using hvr
                    · cases hh
                  · -- the block ends here
                    rename_i hop
                    have hopf : B.opn = false := by cases h : B.opn; rfl; exact absurd h hop
                    cases hh
                    refine ⟨push_stp hw0 All, fun σ w s' x' hr hf hs hx => ?_⟩
                    obtain ⟨l', hl', hfc⟩ := hsrun σ w All (fun _ _ _ => trivial) hr x' hx
                    obtain ⟨a', c', rfl, _⟩ := hx.slice_any
                    obtain ⟨L, hL, rfl⟩ := hs.slice_inv
                    have hbr := hr.blk b L _ trivial hL hB
                    have hr0 : L.room = 0 := hbr.room hopf
                    obtain ⟨cs, hg, hsz, hv⟩ := hbr.cs hbo
                    have hol := rows_VL (o := o) (n := sl * i'.size) (by omega) hv
                    rw [hr0, Nat.add_zero]
                    have hfo : (Builtin.firstCells i'.size sl (.slice (some ⟨L.blk, L.base + o, none⟩) sl sc)).run P w.drew = .ok ((List.range (sl * i'.size)).map fun j => cs.getD (L.base + (o + j)) undef).toArray w.drew := by
                      simp only [Builtin.firstCells]
                      exact run_cells (P := P) (base := L.base) (o := o) (n := sl * i'.size) hg (by omega)
                    have hrun := app_grow (P := P) (ty := ty) hu hu2 hi hz hfo (hfc w.drew rfl) (by omega) hc63 hcb
                    have hg2 := grownCap_le w (sl + n) sc e
                    generalize grownCap w (sl + n) sc e = gc at hrun hg2
                    generalize ((List.range (sl * i'.size)).map fun j => cs.getD (L.base + (o + j)) undef) = ol at hol hrun
                    have hall := hol.append hl'
                    refine ⟨_, _, _, new_post (room := gc - (sl + n)) (B := ⟨(B.cells.drop o).take (sl * i'.size) ++ new, e, true, false⟩) hw0 hr rfl (fun _ => rfl) hf (cs := ol.toArray ++ l'.toArray ++ Builtin.zeroCells zv.cells (gc - (sl + n))) ?_ (fun j hj => ?_) (fun hb => by cases hb) rfl, ?_, hrun⟩
                    · simp only [hcell]
                      rw [hall.1]
                      simp [zeroCells_size, hzs]
                    · simp only at hj ⊢
                      have := hall.at j
                      have hj' : j < (ol ++ l').length := by rw [← hall.1]; exact hj
                      have e1 : (ol.toArray ++ l'.toArray ++ Builtin.zeroCells zv.cells (gc - (sl + n))).getD j undef = (ol ++ l').getD j undef := by
                        have e2 : ol.toArray ++ l'.toArray = (ol ++ l').toArray := by simp
                        rw [e2]
                        exact getD_pre _ _ _ hj'
                      rw [e1]; exact this
                    · have e1 : gc = sl + n + (gc - (sl + n)) := by omega
                      have hvr : VR (fun x => if x = H.next then some (⟨w.heap.size, 0, gc - (sl + n), false⟩ : Loc) else σ x) (.slice (some ⟨H.next, 0, none⟩) (sl + n) (sl + n))
                          (.slice (some ⟨w.heap.size, 0 + 0, none⟩) (sl + n) (sl + n + (gc - (sl + n)))) :=
                        .slice (l := ⟨w.heap.size, 0, gc - (sl + n), false⟩) (if_pos rfl)
                      rw [e1]
                      simpa using hvr
                · cases hh
            · cases hh
          · cases hh
        · cases hh
      · cases hh
    · cases hh
  · cases hh

/-- A copy. -/
theorem clearA_run {t ty : TypeId} {ts : Array TypeId} {x v : Value} {H H' : AHeap} (hw0 : H.wf) (ht : ts[0]? = some t) (hh : clearA P t x H = .ok v H') :
    Stp All H H' ∧
    ∀ (σ : Sig) (w : World) (x' : Value), Rel P σ All H.get w → VR σ x x' →
      ∃ v' w', Post P All σ H w σ H' w' ∧ VR σ v v' ∧ (Builtin.clear_ ts ty #[x']).run P w = .ok v' w' := by
  unfold clearA at hh
  split at hh
  · rename_i e a n c hu
    split at hh
    · rename_i hn
      cases hh
      subst hn
      refine ⟨.refl hw0, fun σ w x' hr hx => ?_⟩
      obtain ⟨xa, xc', rfl, _⟩ := hx.slice_any
      refine ⟨_, w, .refl hr rfl, .tuple rfl (fun i h => absurd h (by simp)), ?_⟩
      cases xa <;> simp [Builtin.clear_, ht, run_underlying hu]
    · rename_i hn
      split at hh
      · rename_i b o
        split at hh
        · rename_i z hz
          split at hh
          · rename_i hz0
            obtain ⟨i', zv, h1, h2, rfl, h3, h4⟩ := zeroK_spec hz
            obtain ⟨rfl, _, hst, hrun⟩ := writeA_run (P := P) hw0 hh
            refine ⟨hst.all, fun σ w x' hr hx => ?_⟩
            obtain ⟨L, hL, rfl⟩ := hx.slice_inv
            have hvn : VL σ (nCells zv.cells.toList n) (Builtin.zeroCells zv.cells n).toList := by
              have e1 : (Builtin.zeroCells zv.cells n).toList = nCells zv.cells.toList n := by
                have := nCells_range zv.cells (by simpa using hz0) n
                simpa [Builtin.zeroCells] using this
              rw [e1]
              have key : ∀ k, VL σ (nCells zv.cells.toList k) (nCells zv.cells.toList k) := by
                intro k
                induction k with
                | zero => exact .nil σ
                | succ k ih => exact (h4 σ).append ih
              exact key n
            obtain ⟨w', hw', hp⟩ := hrun σ w All trivial hr L hL _ hvn
            refine ⟨_, w', hp, .tuple rfl (fun i h => absurd h (by simp)), ?_⟩
            obtain ⟨m, rfl⟩ : ∃ m, n = m + 1 := ⟨n - 1, by omega⟩
            simp only [Builtin.clear_, ht, List.getElem?_toArray, List.getElem?_cons_zero, Sem.run_bind, run_underlying hu, Result.andThen_ok, h3, hw', Sem.run_pure]
          · cases hh
        · cases hh
      · cases hh
  · cases hh

theorem copyA_run {t ty : TypeId} {ts : Array TypeId} {d x v : Value} {H H' : AHeap} (hw0 : H.wf) (ht : ts[0]? = some t) (hh : copyA P t d x H = .ok v H') :
    Stp All H H' ∧
    ∀ (σ : Sig) (w : World) (d' x' : Value), Rel P σ All H.get w → VR σ d d' → VR σ x x' →
      ∃ v' w', Post P All σ H w σ H' w' ∧ VR σ v v' ∧ (Builtin.copy_ ts ty #[d', x']).run P w = .ok v' w' := by
  unfold copyA at hh
  split at hh
  · rename_i e hu
    split at hh
    · rename_i size b o dn dc b2 o2 n nc hs
      split at hh
      · rename_i B hB
        split at hh
        · rename_i hc
          obtain ⟨rfl, _, hst, hrun⟩ := writeA_run (P := P) hw0 hh
          refine ⟨hst.all, fun σ w d' x' hr hd hx => ?_⟩
          obtain ⟨L, hL, rfl⟩ := hd.slice_inv
          obtain ⟨L2, hL2, rfl⟩ := hx.slice_inv
          obtain ⟨cs, e0, fr, hg, hsz, hv, _⟩ := (hr.blk b2 L2 _ trivial hL2 hB).see
          have hvl := rows_VL hc hv
          obtain ⟨w', hw', hp⟩ := hrun σ w All trivial hr L hL _ hvl
          refine ⟨_, w', hp, .same rfl, ?_⟩
          have hrc := run_cells (P := P) (base := L2.base) (o := o2) (n := min n dn * size) hg (by omega)
          simp only [Builtin.copy_, ht, List.getElem?_toArray, List.getElem?_cons_zero, List.getElem?_cons_succ, Sem.run_bind, run_underlying hu, Result.andThen_ok, Builtin.lenOf, Sem.run_pure, sizeK_run hs, Builtin.firstCells]
          rw [show Nat.min n dn = min n dn from rfl, hrc]
          simp only [Result.andThen_ok, Sem.run_bind, hw', Sem.run_pure, goInt]
          rfl
        · cases hh
      · cases hh
    · rename_i size a dn dc a2 n nc hno hs
      split at hh
      · rename_i hc
        cases hh
        refine ⟨.refl hw0, fun σ w d' x' hr hd hx => ?_⟩
        obtain ⟨da, dc', rfl, _⟩ := hd.slice_any
        obtain ⟨xa, xc', rfl, _⟩ := hx.slice_any
        refine ⟨_, w, .refl hr rfl, .same rfl, ?_⟩
        have hmin : Nat.min n dn = 0 := by
          show min n dn = 0
          omega
        have hfc : (Builtin.firstCells size 0 (.slice xa n xc')).run P w = .ok #[] w := by
          cases xa <;> simp [Builtin.firstCells, loadCells, loadCellsFrom]
        simp only [Builtin.copy_, ht, List.getElem?_toArray, List.getElem?_cons_zero, List.getElem?_cons_succ, Sem.run_bind, run_underlying hu, Result.andThen_ok, Builtin.lenOf, Sem.run_pure, sizeK_run hs, hmin, hfc]
        cases da <;> simp [storeCells, goInt]
      · cases hh
    · cases hh
  · cases hh

theorem toStringA_run {x v : Value} {H H' : AHeap} (hh : toStringA x H = .ok v H') : H' = H ∧ (∃ a n c, x = .slice a n c) ∧ ∀ (σ : Sig) (w : World) x', Rel P σ All H.get w → VR σ x x' → ∃ v', VR σ v v' ∧ (Conv.bytesToString x').run P w = .ok v' w := by
  unfold toStringA at hh
  split at hh
  · rename_i n l hsrc
    obtain ⟨hnl, ⟨xa, xc, rfl⟩, hsrun⟩ := srcA_run (P := P) hsrc
    split at hh
    · rename_i ns hns
      cases hh
      refine ⟨rfl, ⟨_, _, _, rfl⟩, fun σ w x' hr hx => ?_⟩
      obtain ⟨l', hl', hfc⟩ := hsrun σ w All (fun _ _ _ => trivial) hr x' hx
      have he := bytesK_spec hns hl'
      have hf := hfc w rfl
      refine ⟨_, .same rfl, ?_⟩
      obtain ⟨a', c', rfl, _⟩ := hx.slice_any
      cases a' with
      | none =>
        simp only [Builtin.firstCells, Sem.run_pure, Result.ok.injEq, and_true] at hf
        have : l' = [] := by simpa using hf.symm
        rw [this] at he
        have : ns = [] := by cases ns with
          | nil => rfl
          | cons a b => simp at he
        subst this
        simp only [Conv.bytesToString, Sem.run_pure]
        rfl
      | some a =>
        simp only [Builtin.firstCells, Nat.mul_one] at hf
        rw [he] at hf
        rw [run_bytesToString w a n c' ns hf, bytes_fold]
        congr 2
        apply ByteArray.ext
        simp [strA]
    · cases hh
  · cases hh
end
end Go.Proofs.Ytgjpcliaggpcaaa.Ab
