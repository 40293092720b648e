/- The evaluator's append, and what else makes slices. -/
import Derived.Test.YtgjpcliaggpcaaaAbJ
import Derived.Laws.BytesString
set_option linter.unusedVariables false
set_option linter.unusedSimpArgs false
namespace Go.Proofs.Ytgjpcliaggpcaaa.Ab
open Go Classical

section
variable {P : Program}

/-- The cells that a slice hands on, in whatever world with this heap. -/
theorem srcK_run {size : Nat} {x : Value} {h : KH} {n : Nat} {l : List Value} (hh : srcK size x h = some (n, l)) :
    l.length = n * size ∧ (∃ a c, x = .slice a n c) ∧ ∀ (σ : Sig) (w : World) (F : Nat → Prop), (∀ b o, (∃ c, x = .slice (some ⟨b, o, none⟩) n c) → F b) → Rel P σ F (absH h).get w → ∀ x', VR σ x x' →
      ∃ l', VL σ l l' ∧ ∀ w', w'.heap = w.heap → (Builtin.firstCells size n x').run P w' = .ok l'.toArray w' := by
  unfold srcK at hh
  split at hh
  · rename_i n0 c0
    rw [beq_eq] at hh
    by_cases h0 : n0 = 0
    · subst h0
      simp only [decide_true, cond_true, Option.some.injEq, Prod.mk.injEq] at hh
      obtain ⟨rfl, rfl⟩ := hh
      refine ⟨by simp, ⟨_, _, rfl⟩, fun σ w F _ hr x' hx => ⟨[], .nil σ, fun w' _ => ?_⟩⟩
      rw [hx.slice_nil]
      simp [Builtin.firstCells]
    · simp [h0] at hh
  · rename_i b o n0 c0
    split at hh
    · rename_i B hB
      obtain ⟨hb1, hb2, hb3, hb4⟩ := getB_spec hB
      rw [ble_eq] at hh
      by_cases hc : o + n0 * size ≤ B.len
      · simp only [hc, decide_true, cond_true] at hh
        split at hh
        · rename_i l0 hl
          cases hh
          refine ⟨(cellsK_spec _ _ hl).1, ⟨_, _, rfl⟩, fun σ w F hF hr x' hx => ?_⟩
          obtain ⟨L, hL, rfl⟩ := hx.slice_inv
          obtain ⟨cs, hg, hsz, hv⟩ := (hr.blk b L _ (hF b o ⟨_, rfl⟩) hL hb4).rows
          refine ⟨_, cells_VL hl hc hv (by omega), fun w' hw' => ?_⟩
          simp only [Builtin.firstCells]
          exact run_cells (P := P) (base := L.base) (o := o) (n := n * size) (by rw [hw']; exact hg) (by omega)
        · cases hh
      · simp [hc] at hh
    · cases hh
  · cases hh

theorem app_room {t t2 ty e e2 : TypeId} {i : TypeInfo} (hu : P.underlying t = some (.slice e)) (hu2 : P.underlying t2 = some (.slice e2)) (hi : P.info? e = some i) {base xb : Option Addr} {sl sc n xc : Nat}
    {new : Array Value} {w : World} (hnew : (Builtin.firstCells i.size n (.slice xb n xc)).run P w = .ok new w) (hle : sl + n ≤ sc) :
    (Builtin.append_ #[t, t2] ty #[.slice base sl sc, .slice xb n xc]).run P w = match base with
      | some a => ((storeCells (a.add (sl * i.size)) new.toList).run P w).andThen fun _ w => .ok (.slice base (sl + n) sc) w
      | none => .ok (.slice base (sl + n) sc) w := by
  cases base <;> simp [Builtin.append_, run_underlying hu, run_underlying hu2, sizeOf, typeInfo, hi, Builtin.lenOf, hle, hnew]

theorem app_grow {t t2 ty e e2 : TypeId} {i : TypeInfo} {z : Value} (hu : P.underlying t = some (.slice e)) (hu2 : P.underlying t2 = some (.slice e2)) (hi : P.info? e = some i) (hz : i.zero = some z) {base xb : Option Addr} {sl sc n xc : Nat}
    {old new : Array Value} {w : World} (hold : (Builtin.firstCells i.size sl (.slice base sl sc)).run P w.drew = .ok old w.drew)
    (hnew : (Builtin.firstCells i.size n (.slice xb n xc)).run P w.drew = .ok new w.drew) (hlt : sc < sl + n)
    (h63 : sl + n < 9223372036854775808) (hb : (sl + n) * i.bytes < 140737488355328) :
    (Builtin.append_ #[t, t2] ty #[.slice base sl sc, .slice xb n xc]).run P w =
      .ok (.slice (some ⟨w.heap.size, 0, none⟩) (sl + n) (grownCap w (sl + n) sc e)) (w.drew.alloc (.cells (old ++ new ++ Builtin.zeroCells z.cells (grownCap w (sl + n) sc e - (sl + n))) e)) := by
  have hn : ¬ (sl + n ≤ sc) := by omega
  have h63' : ¬ (9223372036854775807 < ((sl : Int) + (n : Int))) := by omega
  have hf := growslice_fits (bytes := i.bytes) hlt (by omega)
  have h48' : ¬ (281474976710656 < Builtin.nextslicecap (sl + n) sc * i.bytes) := by omega
  simp [Builtin.append_, run_underlying hu, run_underlying hu2, sizeOf, typeInfo, zeroValue, hi, hz, Builtin.lenOf, hn, h63', h48', Question.forced, hold, hnew, newRow, grownCap]

theorem grownCap_le (w : World) (need old : Nat) (e : TypeId) : need ≤ grownCap w need old e := by
  unfold grownCap Question.cut
  exact Nat.le_add_right _ _

theorem zeroCells_size (z : Array Value) (n : Nat) : (Builtin.zeroCells z n).size = n * z.size := by simp [Builtin.zeroCells]

theorem getD_pre (l : List Value) (z : Array Value) (j : Nat) (hj : j < l.length) : (l.toArray ++ z).getD j undef = l.getD j undef := by
  simp [Array.getD_eq_getD_getElem?, List.getD_eq_getElem?_getD, Array.getElem?_append, hj]

/-- Both slices' blocks. -/
def srcF (x : Value) : Nat → Prop := fun b => match x with
  | .slice (some a) _ _ => b = a.block
  | _ => False

theorem growK_spec {e : TypeId} {size sl n b : Nat} {B : KB} {new : List Value} {h h' : KH} {v : Value} (hh : growK e size sl n b B new h = .ok v h') (hb : b < h.nx) :
    v = .slice (some ⟨h.nx, 0, none⟩) (sl + n) (sl + n) ∧ h'.nx = h.nx + 1 ∧ WrOk h h' ∧ Stp (fun x => x = b) (absH h) (absH h') ∧ (sl + n) * size < 1073741824 ∧
    ∀ x, (absH h').get x = if x = h.nx then some (absB ⟨putsK new B.cs (sl * size), (sl + n) * size, e, true⟩) else if x = b then none else (absH h).get x := by
  unfold growK at hh
  obtain ⟨hc, hh⟩ := bif_ok hh
  rw [Bool.and_eq_true, blt_eq, blt_eq, decide_eq_true_eq, decide_eq_true_eq] at hc
  simp only [Tr.now_eq, frc_eq] at hh
  cases hh
  have hp : h.nx + 1 < 2 ^ 40 := Nat.lt_of_lt_of_le (m := 1073741826) (by omega) (by decide)
  have hp2 : b + 1 < 2 ^ 40 := Nat.lt_of_lt_of_le (m := 1073741826) (by omega) (by decide)
  have hget : ∀ x, (absH ⟨(h.hp.put 40 b none).put 40 h.nx (some ⟨putsK new B.cs (sl * size), (sl + n) * size, e, true⟩), h.nx + 1, Nat.lor h.wr (2 ^ b)⟩).get x =
      if x = h.nx then some (absB ⟨putsK new B.cs (sl * size), (sl + n) * size, e, true⟩) else if x = b then none else (absH h).get x := by
    intro x
    simp only [absH, Tr.get_put 40 _ h.nx x _ hp, Tr.get_put 40 _ b x _ hp2]
    by_cases hx : x = h.nx
    · subst hx; simp
    · by_cases hxb : x = b
      · subst hxb; simp [hx]
      · by_cases h3 : x < h.nx
        · have : x < h.nx + 1 := by omega
          simp [hx, hxb, h3, this]
        · have : ¬ x < h.nx + 1 := by omega
          simp [hx, hxb, h3, this]
  refine ⟨rfl, rfl, ⟨fun x hx => ?_, fun x hx hn => ?_⟩, ⟨by simp [absH], absH_wf _, fun x hx hn => ?_⟩, hc.1, hget⟩
  · show (h.wr ||| 2 ^ b).testBit x = true
    rw [Nat.testBit_or, hx]; rfl
  · show (h.wr ||| 2 ^ b).testBit x = true
    by_cases hxb : x = b
    · subst hxb; rw [Nat.testBit_or, Nat.testBit_two_pow_self, Bool.or_true]
    · rw [hget, if_neg (by omega), if_neg hxb] at hn; exact absurd rfl hn
  · have : x < h.nx := hx
    rw [hget, if_neg (by omega), if_neg hn]

/-- An append: what the evaluator makes of it, the model makes of it. -/
theorem appendK_run {t t2 ty e2 : TypeId} {s x v : Value} {h h' : KH} (hh : appendK P t s x h = .ok v h') (hu2 : P.underlying t2 = some (.slice e2)) :
    WrOk h h' ∧ Stp All (absH h) (absH h') ∧
    ∀ (σ : Sig) (w : World) (s' x' : Value), Rel P σ All (absH h).get w → Fresh σ (absH h) (absH h') → VR σ s s' → VR σ x x' →
      ∃ σ' v' w', Post P All σ (absH h) w σ' (absH h') w' ∧ VR σ' v v' ∧ (Builtin.append_ #[t, t2] ty #[s', x']).run P w = .ok v' w' := by
  unfold appendK at hh
  split at hh
  · rename_i e hu
    split at hh
    · rename_i i z hi hz0
      obtain ⟨i', zv, hi', hz, rfl, _, _⟩ := zeroK_spec hz0
      obtain rfl : i' = i := by rw [hi] at hi'; exact (Option.some.inj hi').symm
      split at hh
      · rename_i n new hsrc
        obtain ⟨hnl, ⟨xa, xc, rfl⟩, hsrun⟩ := srcK_run (P := P) hsrc
        obtain ⟨hc0, hh⟩ := bif_ok hh
        rw [Bool.and_eq_true, Bool.and_eq_true, Bool.and_eq_true, beq_eq, blt_eq, blt_eq, blt_eq, decide_eq_true_eq, decide_eq_true_eq, decide_eq_true_eq, decide_eq_true_eq, lLen_eq] at hc0
        obtain ⟨⟨⟨hzl, hnb⟩, hn63⟩, hby⟩ := hc0
        have hzs : zv.cells.size = i'.size := by simpa using hzl
        have hcell : P.cellsOf e = i'.size := by simp [Program.cellsOf, hi]
        split at hh
        · -- nil
          rename_i sl sc
          obtain ⟨hc, hh⟩ := bif_ok hh
          rw [Bool.and_eq_true, beq_eq, beq_eq, decide_eq_true_eq, decide_eq_true_eq] at hc
          obtain ⟨rfl, rfl⟩ := hc
          rw [beq_eq] at hh
          by_cases hn0 : n = 0
          · subst hn0
            simp only [decide_true, cond_true, KO.ok.injEq] at hh
            obtain ⟨rfl, rfl⟩ := hh
            refine ⟨.refl _, .refl (absH_wf _), fun σ w s' x' hr hf hs hx => ?_⟩
            obtain ⟨l', hl', hfc⟩ := hsrun σ w All (fun _ _ _ => trivial) hr x' hx
            obtain ⟨a', c', rfl, _⟩ := hx.slice_any
            have hs' := hs.slice_nil
            refine ⟨σ, .slice none 0 0, w, .refl hr rfl, .same rfl, ?_⟩
            rw [hs', app_room hu hu2 hi (hfc w rfl) (by omega)]
          · simp only [hn0, decide_false, cond_false] at hh
            obtain ⟨rfl, hnx, hwr, hst, B, hBc, hBe, hBo, hget⟩ := newK_spec hh
            refine ⟨hwr, hst All, fun σ w s' x' hr hf hs hx => ?_⟩
            obtain ⟨l', hl', hfc⟩ := hsrun σ w All (fun _ _ _ => trivial) hr x' hx
            obtain ⟨a', c', rfl, _⟩ := hx.slice_any
            rw [hs.slice_nil]
            have hrun := app_grow (P := P) (ty := ty) (base := none) (sl := 0) (sc := 0) (old := #[]) hu hu2 hi hz (by simp [Builtin.firstCells]) (hfc w.drew rfl) (by omega) (by omega) (by simpa using hnb)
            simp only [Nat.zero_add] at hrun
            have hg := grownCap_le w n 0 e
            refine ⟨_, _, _, new_post (room := grownCap w n 0 e - n) (B := B) (absH_wf h) hr hnx hget hf (cs := #[] ++ l'.toArray ++ Builtin.zeroCells zv.cells (grownCap w n 0 e - n)) ?_ (fun j hj => ?_) (fun hb => by rw [hBo] at hb; cases hb) (by rw [hBe]; rfl), ?_, hrun⟩
            · rw [hBc, hBe, hcell]
              have := hl'.1
              simp [zeroCells_size, hzs]; omega
            · rw [hBc] at hj ⊢
              have := hl'.at j
              have hj' : j < l'.length := by rw [← hl'.1]; exact hj
              simpa [Array.getD_eq_getD_getElem?, List.getD_eq_getElem?_getD, Array.getElem?_append, hj'] using this
            · have e1 : grownCap w n 0 e = n + (grownCap w n 0 e - n) := by omega
              have hvr : VR (fun x => if x = (absH h).next then some (⟨w.heap.size, 0, grownCap w n 0 e - n, false⟩ : Loc) else σ x) (.slice (some ⟨h.nx, 0, none⟩) n n)
                  (.slice (some ⟨w.heap.size, 0 + 0, none⟩) n (n + (grownCap w n 0 e - n))) :=
                .slice (l := ⟨w.heap.size, 0, grownCap w n 0 e - n, false⟩) (if_pos rfl)
              rw [e1]
              simpa using hvr
        · rename_i b o sl sc hh0
          clear hh0
          split at hh
          · rename_i B hB
            obtain ⟨hb1, hb2, hb3, hb4⟩ := getB_spec hB
            rw [ble_eq] at hh
            by_cases hroom : sl + n ≤ sc
            · simp only [hroom, decide_true, cond_true] at hh
              obtain ⟨hc, hh⟩ := bif_ok hh
              obtain ⟨rfl, hnx, hst, hwr, hrun⟩ := write_run (P := P) hh
              refine ⟨hwr, hst.all, fun σ w s' x' hr hf hs hx => ?_⟩
              obtain ⟨l', hl', hfc⟩ := hsrun σ w All (fun _ _ _ => trivial) hr x' hx
              obtain ⟨a', c', rfl, _⟩ := hx.slice_any
              obtain ⟨L, hL, rfl⟩ := hs.slice_inv
              obtain ⟨w', hw', hp⟩ := hrun σ w All trivial hr L hL l' hl'
              refine ⟨σ, _, w', hp, .slice hL, ?_⟩
              rw [app_room hu hu2 hi (hfc w rfl) (by omega)]
              simp only [addr_add]
              rw [show L.base + o + sl * i'.size = L.base + (o + sl * i'.size) by omega, hw']
              rfl
            · simp only [hroom, decide_false, cond_false] at hh
              obtain ⟨hc, hh⟩ := bif_ok hh
              rw [Bool.and_eq_true, Bool.and_eq_true, Bool.and_eq_true, Bool.and_eq_true, blt_eq, blt_eq, beq_eq, ble_eq, beq_eq, decide_eq_true_eq, decide_eq_true_eq, decide_eq_true_eq, decide_eq_true_eq, decide_eq_true_eq] at hc
              obtain ⟨⟨⟨⟨hcb, hc63⟩, hclen⟩, hslc⟩, hel⟩ := hc
              have hslsz : sl * i'.size ≤ sc * i'.size := Nat.mul_le_mul_right _ hslc
              cases hop : B.opn
              · -- the block ends here
                rw [hop, cond_false] at hh
                split at hh
                · rename_i old hold
                  obtain ⟨rfl, hnx, hwr, hst, B2, hBc, hBe, hBo, hget⟩ := newK_spec hh
                  refine ⟨hwr, hst All, fun σ w s' x' hr hf hs hx => ?_⟩
                  obtain ⟨l', hl', hfc⟩ := hsrun σ w All (fun _ _ _ => trivial) hr x' hx
                  obtain ⟨a', c', rfl, _⟩ := hx.slice_any
                  obtain ⟨L, hL, rfl⟩ := hs.slice_inv
                  have hbr := hr.blk b L _ trivial hL hb4
                  have hr0 : L.room = 0 := hbr.room hop
                  obtain ⟨cs, hg, hsz, hv⟩ := hbr.rows
                  have hol := cells_VL hold (by omega) hv (by omega)
                  rw [hr0, Nat.add_zero]
                  have hfo : (Builtin.firstCells i'.size sl (.slice (some ⟨L.blk, L.base + o, none⟩) sl sc)).run P w.drew = .ok ((List.range (sl * i'.size)).map fun j => cs.getD (L.base + (o + j)) undef).toArray w.drew := by
                    simp only [Builtin.firstCells]
                    exact run_cells (P := P) (base := L.base) (o := o) (n := sl * i'.size) hg (by omega)
                  have hrun := app_grow (P := P) (ty := ty) hu hu2 hi hz hfo (hfc w.drew rfl) (by omega) hc63 hcb
                  have hg2 := grownCap_le w (sl + n) sc e
                  generalize grownCap w (sl + n) sc e = gc at hrun hg2
                  generalize ((List.range (sl * i'.size)).map fun j => cs.getD (L.base + (o + j)) undef) = ol at hol hrun
                  have hall := hol.append hl'
                  refine ⟨_, _, _, new_post (room := gc - (sl + n)) (B := B2) (absH_wf h) hr hnx hget hf (cs := ol.toArray ++ l'.toArray ++ Builtin.zeroCells zv.cells (gc - (sl + n))) ?_ (fun j hj => ?_) (fun hb => by rw [hBo] at hb; cases hb) (by rw [hBe]; rfl), ?_, hrun⟩
                  · rw [hBc, hBe, hcell, hall.1]
                    simp [zeroCells_size, hzs]
                  · rw [hBc] at hj ⊢
                    have := hall.at j
                    have hj' : j < (ol ++ l').length := by rw [← hall.1]; exact hj
                    have e1 : (ol.toArray ++ l'.toArray ++ Builtin.zeroCells zv.cells (gc - (sl + n))).getD j undef = (ol ++ l').getD j undef := by
                      have e2 : ol.toArray ++ l'.toArray = (ol ++ l').toArray := by simp
                      rw [e2]
                      exact getD_pre _ _ _ hj'
                    rw [e1]; exact this
                  · have e1 : gc = sl + n + (gc - (sl + n)) := by omega
                    have hvr : VR (fun x => if x = (absH h).next then some (⟨w.heap.size, 0, gc - (sl + n), false⟩ : Loc) else σ x) (.slice (some ⟨h.nx, 0, none⟩) (sl + n) (sl + n))
                        (.slice (some ⟨w.heap.size, 0 + 0, none⟩) (sl + n) (sl + n + (gc - (sl + n)))) :=
                      .slice (l := ⟨w.heap.size, 0, gc - (sl + n), false⟩) (if_pos rfl)
                    rw [e1]
                    simpa using hvr
                · cases hh
              · -- in its place, or not
                rw [hop, cond_true] at hh
                obtain ⟨hc2, hh2⟩ := bif_ok hh
                clear hh
                rw [Bool.and_eq_true, beq_eq, decide_eq_true_eq] at hc2
                obtain ⟨rfl, hone⟩ := hc2
                obtain ⟨rfl, hnx, hwr, hst, hsm, hget⟩ := growK_spec hh2 hb1
                refine ⟨hwr, hst.all, fun σ w s' x' hr hf hs hx => ?_⟩
                obtain ⟨l', hl', hfc⟩ := hsrun σ w All (fun _ _ _ => trivial) hr x' hx
                obtain ⟨a', c', rfl, _⟩ := hx.slice_any
                obtain ⟨L, hL, rfl⟩ := hs.slice_inv
                have hbr := hr.blk b L _ trivial hL hb4
                obtain ⟨cs, hg, hsz, hv⟩ := hbr.rows
                rw [hel, hcell] at hsz
                have hl'len : l'.length = n * i'.size := by rw [← hl'.1]; exact hnl
                have esum : (sl + n) * i'.size = sl * i'.size + n * i'.size := Nat.add_mul _ _ _
                simp only [Nat.zero_add] at hclen
                have hBcells : ∀ j, j < (sl + n) * i'.size → ((putsK new B.cs (sl * i'.size)).get j).getD undef = if sl * i'.size ≤ j then new.getD (j - sl * i'.size) undef else (B.cs.get j).getD undef := fun j hj => by
                  rw [putsK_get new B.cs (sl * i'.size) j (by omega)]
                  by_cases h1 : sl * i'.size ≤ j
                  · rw [if_pos (by omega), if_pos h1]; rfl
                  · rw [if_neg (by omega), if_neg h1]
                have hget0 : (absH h').get (absH h).next = some (absB ⟨putsK new B.cs (sl * i'.size), (sl + n) * i'.size, e, true⟩) := by rw [hget]; exact if_pos rfl
                have hgetb : ∀ x, x ≠ h.nx → x ≠ b → (absH h').get x = (absH h).get x := fun x h1 h2 => by rw [hget, if_neg h1, if_neg h2]
                have hgetbb : (absH h').get b = none := by rw [hget, if_neg (by omega), if_pos rfl]
                by_cases hin : sl + n ≤ sc + L.room
                · -- in its place
                  have hmul : (sl + n) * i'.size ≤ (sc + L.room) * i'.size := Nat.mul_le_mul_right _ hin
                  have emul : (sc + L.room) * i'.size = sc * i'.size + L.room * i'.size := Nat.add_mul _ _ _
                  have hst2 := run_storeCells_at (P := P) L.blk (L.base + sl * i'.size) B.elem l' 0 cs w hg (by omega) (hl'.ones hone)
                  simp only [Nat.add_zero] at hst2
                  generalize hnew : (cs.toList.take (L.base + sl * i'.size) ++ l' ++ cs.toList.drop (L.base + sl * i'.size + l'.length)).toArray = nw at hst2
                  have hnsz : nw.size = cs.size := by rw [← hnew]; simp; omega
                  have hngd : ∀ q, nw.getD q undef = if L.base + sl * i'.size ≤ q ∧ q < L.base + sl * i'.size + l'.length then l'.getD (q - (L.base + sl * i'.size)) undef else cs.getD q undef := by
                    intro q
                    have := splice_getD cs.toList l' (L.base + sl * i'.size) q (by simp; omega)
                    rw [← hnew]
                    simpa [Array.getD_eq_getD_getElem?, List.getD_eq_getElem?_getD] using this
                  have hw2 : (w.setRow L.blk nw).heap[L.blk]? = some (.cells nw B.elem (0, 0)) := setRow_heap w L.blk cs nw B.elem (0, 0) hg
                  have hup : ∀ x l, σ x = some l → (if x = h.nx then some (⟨L.blk, L.base, sc + L.room - (sl + n), false⟩ : Loc) else σ x) = some l := fun x l hx => by
                    by_cases h1 : x = h.nx
                    · subst h1
                      rw [hf h.nx ⟨Nat.le_refl _, by simp [absH, hnx]⟩] at hx; cases hx
                    · rw [if_neg h1]; exact hx
                  have isfr : ∀ x, fresh (absH h) (absH h') x ↔ x = h.nx := fun x => ⟨fun h1 => by
                    have h2 := h1.1; have h3 := h1.2
                    simp only [absH, hnx] at h2 h3
                    omega, fun h1 => ⟨by simp [absH, h1], by simp [absH, hnx, h1]⟩⟩
                  have emul2 : (sc + L.room - (sl + n)) * i'.size = (sc + L.room) * i'.size - (sl + n) * i'.size := Nat.sub_mul _ _ _
                  refine ⟨fun x => if x = h.nx then some ⟨L.blk, L.base, sc + L.room - (sl + n), false⟩ else σ x, .slice (some ⟨L.blk, L.base + 0, none⟩) (sl + n) (sl + n + (sc + L.room - (sl + n))), w.setRow L.blk nw, ⟨⟨fun x l B2 _ hs1 hg2 => ?_, fun x x2 l l2 _ _ hs1 hs2 hi1 hi2 ho1 ho2 he => ?_, fun x x2 l l2 _ hs1 hs2 hi1 ho1 ho2 => ?_, fun x l hs1 ho1 => ?_⟩,
                    fun x hx => if_neg (fun h1 => hx ((isfr x).2 h1)), by simp, fun k hk hn => ?_, fun k hk ⟨x, l, _, hs1, hi1, ho1, he⟩ => ?_, fun x l hx hs1 => ?_, ⟨rfl, rfl, rfl⟩⟩, .slice (l := ⟨L.blk, L.base, sc + L.room - (sl + n), false⟩) (if_pos rfl), ?_⟩
                  · by_cases hx1 : x = h.nx
                    · subst hx1
                      rw [show (absH h').get h.nx = _ from hget0] at hg2
                      simp only [if_true] at hs1
                      cases hg2; cases hs1
                      refine BR.mk' ⟨nw, by rw [hw2, hel]; rfl, ?_, fun j hj => ?_⟩ (fun h1 => by cases h1) (fun _ => rfl)
                      · rw [absB_len, hnsz]
                        simp only [absB, hcell]
                        omega
                      · rw [absB_len] at hj
                        simp only at hj
                        rw [absB_get hj]
                        simp only
                        rw [hBcells j hj, hngd]
                        by_cases h1 : sl * i'.size ≤ j
                        · rw [if_pos h1, if_pos (by omega)]
                          have e1 : L.base + j - (L.base + sl * i'.size) = j - sl * i'.size := by omega
                          rw [e1]
                          exact (hl'.at _).mono hup
                        · rw [if_neg h1, if_neg (by omega)]
                          exact (hv j (by omega)).mono hup
                    · simp only [if_neg hx1] at hs1
                      by_cases hxb : x = b
                      · rw [hxb, hgetbb] at hg2; cases hg2
                      · rw [hgetb x hx1 hxb] at hg2
                        refine (hr.blk x l B2 trivial hs1 hg2).move hup (setRow_other w L.blk l.blk nw fun e1 => ?_)
                        cases hlr : l.ro
                        · exact hxb (hr.inj x b l L trivial trivial hs1 hL (by rw [hg2]; rfl) (by rw [hb4]; rfl) hlr (hbr.own rfl) e1)
                        · exact hr.sep b x L l trivial hL hs1 (by rw [hb4]; rfl) (hbr.own rfl) hlr e1.symm
                  · have nob : ∀ y, ((absH h').get y).isSome = true → y ≠ b := fun y hy h1 => by rw [h1, hgetbb] at hy; cases hy
                    by_cases hx1 : x = h.nx <;> by_cases hx2 : x2 = h.nx
                    · rw [hx1, hx2]
                    · simp only [if_pos hx1] at hs1
                      simp only [if_neg hx2] at hs2
                      cases hs1
                      have h3 := nob x2 hi2
                      rw [hgetb x2 hx2 h3] at hi2
                      exact absurd (hr.inj x2 b l2 L trivial trivial hs2 hL hi2 (by rw [hb4]; rfl) ho2 (hbr.own rfl) he.symm) h3
                    · simp only [if_neg hx1] at hs1
                      simp only [if_pos hx2] at hs2
                      cases hs2
                      have h3 := nob x hi1
                      rw [hgetb x hx1 h3] at hi1
                      exact absurd (hr.inj x b l L trivial trivial hs1 hL hi1 (by rw [hb4]; rfl) ho1 (hbr.own rfl) he) h3
                    · simp only [if_neg hx1] at hs1
                      simp only [if_neg hx2] at hs2
                      rw [hgetb x hx1 (nob x hi1)] at hi1
                      rw [hgetb x2 hx2 (nob x2 hi2)] at hi2
                      exact hr.inj x x2 l l2 trivial trivial hs1 hs2 hi1 hi2 ho1 ho2 he
                  · have hx2 : x2 ≠ h.nx := fun hx2 => by
                      simp only [if_pos hx2] at hs2
                      cases hs2; cases ho2
                    simp only [if_neg hx2] at hs2
                    by_cases hx1 : x = h.nx
                    · simp only [if_pos hx1] at hs1
                      cases hs1
                      exact hr.sep b x2 L l2 trivial hL hs2 (by rw [hb4]; rfl) (hbr.own rfl) ho2
                    · simp only [if_neg hx1] at hs1
                      by_cases hxb : x = b
                      · rw [hxb, hgetbb] at hi1; cases hi1
                      · rw [hgetb x hx1 hxb] at hi1
                        exact hr.sep x x2 l l2 trivial hs1 hs2 hi1 ho1 ho2
                  · have hx1 : x ≠ h.nx := fun hx1 => by
                      simp only [if_pos hx1] at hs1
                      cases hs1; cases ho1
                    simp only [if_neg hx1] at hs1
                    simpa using hr.old x l hs1 ho1
                  · exact setRow_other w L.blk k nw fun e1 => hn ⟨b, L, trivial, hL, by rw [hb4]; rfl, hbr.own rfl, e1.symm⟩
                  · by_cases hx1 : x = h.nx
                    · simp only [if_pos hx1] at hs1
                      cases hs1
                      exact ⟨b, L, trivial, hL, by rw [hb4]; rfl, hbr.own rfl, he⟩
                    · simp only [if_neg hx1] at hs1
                      by_cases hxb : x = b
                      · rw [hxb, hgetbb] at hi1; cases hi1
                      · rw [hgetb x hx1 hxb] at hi1
                        exact ⟨x, l, trivial, hs1, hi1, ho1, he⟩
                  · simp only [if_pos ((isfr x).1 hx)] at hs1
                    cases hs1; rfl
                  · rw [app_room hu hu2 hi (hfc w rfl) hin]
                    simp only [addr_add, Nat.add_zero]
                    rw [hst2]
                    have e1 : sl + n + (sc + L.room - (sl + n)) = sc + L.room := by omega
                    rw [e1]; rfl
                · -- elsewhere
                  have hfo : (Builtin.firstCells i'.size sl (.slice (some ⟨L.blk, L.base + 0, none⟩) sl (sc + L.room))).run P w.drew = .ok ((List.range (sl * i'.size)).map fun j => cs.getD (L.base + (0 + j)) undef).toArray w.drew := by
                    simp only [Builtin.firstCells]
                    exact run_cells (P := P) (base := L.base) (o := 0) (n := sl * i'.size) hg (by omega)
                  have hrun := app_grow (P := P) (ty := ty) hu hu2 hi hz hfo (hfc w.drew rfl) (by omega) hc63 hcb
                  have hg2 := grownCap_le w (sl + n) (sc + L.room) e
                  generalize grownCap w (sl + n) (sc + L.room) e = gc at hrun hg2
                  refine ⟨_, _, _, new_post' (room := gc - (sl + n)) (absH_wf h) hr (by simp [absH, hnx]) hget0 (fun x B2 hx1 hg3 => ?_) hf (cs := ((List.range (sl * i'.size)).map fun j => cs.getD (L.base + (0 + j)) undef).toArray ++ l'.toArray ++ Builtin.zeroCells zv.cells (gc - (sl + n))) ?_ (fun j hj => ?_) (fun hb => by cases hb) rfl, ?_, hrun⟩
                  · by_cases hxb : x = b
                    · rw [hxb, hgetbb] at hg3; cases hg3
                    · rw [hgetb x hx1 hxb] at hg3; exact hg3
                  · rw [absB_len]
                    simp [absB, hcell, zeroCells_size, hzs, hl'len, esum]
                  · rw [absB_len] at hj
                    simp only at hj
                    rw [absB_get hj]
                    simp only
                    rw [hBcells j hj]
                    have e2 : ((List.range (sl * i'.size)).map fun j => cs.getD (L.base + (0 + j)) undef).toArray ++ l'.toArray = (((List.range (sl * i'.size)).map fun j => cs.getD (L.base + (0 + j)) undef) ++ l').toArray := by simp
                    rw [e2, getD_pre _ _ _ (by simp; omega)]
                    by_cases h1 : sl * i'.size ≤ j
                    · rw [if_pos h1]
                      have e3 : (((List.range (sl * i'.size)).map fun j => cs.getD (L.base + (0 + j)) undef) ++ l').getD j undef = l'.getD (j - sl * i'.size) undef := by
                        rw [List.getD_eq_getElem?_getD, List.getElem?_append_right (by simpa using h1), List.getD_eq_getElem?_getD]
                        simp
                      rw [e3]
                      exact hl'.at (j - sl * i'.size)
                    · rw [if_neg h1]
                      have h2 : j < sl * i'.size := by omega
                      have := hv j (by omega)
                      rw [List.getD_eq_getElem?_getD, List.getElem?_append_left (by simpa using h2)]
                      simpa [Array.getD_eq_getD_getElem?, h2] using this
                  · have e1 : gc = sl + n + (gc - (sl + n)) := by omega
                    have hvr : VR (fun x => if x = (absH h).next then some (⟨w.heap.size, 0, gc - (sl + n), false⟩ : Loc) else σ x) (.slice (some ⟨h.nx, 0, none⟩) (sl + n) (sl + n))
                        (.slice (some ⟨w.heap.size, 0 + 0, none⟩) (sl + n) (sl + n + (gc - (sl + n)))) :=
                      .slice (l := ⟨w.heap.size, 0, gc - (sl + n), false⟩) (if_pos rfl)
                    rw [e1]
                    simpa using hvr
          · cases hh
        · cases hh
      · cases hh
    · cases hh
  · cases hh

/-- A copy. -/
theorem copyK_run {t ty : TypeId} {ts : Array TypeId} {d x v : Value} {h h' : KH} (ht : ts[0]? = some t) (hh : copyK P t d x h = .ok v h') :
    WrOk h h' ∧ Stp All (absH h) (absH h') ∧
    ∀ (σ : Sig) (w : World) (d' x' : Value), Rel P σ All (absH h).get w → VR σ d d' → VR σ x x' →
      ∃ v' w', Post P All σ (absH h) w σ (absH h') w' ∧ VR σ v v' ∧ (Builtin.copy_ ts ty #[d', x']).run P w = .ok v' w' := by
  unfold copyK at hh
  split at hh
  · rename_i e hu
    split at hh
    · rename_i size b o dn dc b2 o2 n nc hs
      rw [frc_eq, ble_eq] at hh
      have hmin : (bif decide (n ≤ dn) then n else dn) = min n dn := by
        by_cases hb : n ≤ dn
        · simp [hb, Nat.min_eq_left hb]
        · simp [hb, Nat.min_eq_right (Nat.le_of_not_le hb)]
      rw [hmin] at hh
      split at hh
      · rename_i B hB
        obtain ⟨hb1, hb2, hb3, hb4⟩ := getB_spec hB
        obtain ⟨hc, hh⟩ := bif_ok hh
        rw [ble_eq, decide_eq_true_eq] at hc
        split at hh
        · rename_i l hl
          obtain ⟨rfl, hnx, hst, hwr, hrun⟩ := write_run (P := P) hh
          refine ⟨hwr, hst.all, fun σ w d' x' hr hd hx => ?_⟩
          obtain ⟨L, hL, rfl⟩ := hd.slice_inv
          obtain ⟨L2, hL2, rfl⟩ := hx.slice_inv
          obtain ⟨cs, hg, hsz, hv⟩ := (hr.blk b2 L2 _ trivial hL2 hb4).rows
          have hvl := cells_VL hl hc hv (by omega)
          obtain ⟨w', hw', hp⟩ := hrun σ w All trivial hr L hL _ hvl
          refine ⟨_, w', hp, .same rfl, ?_⟩
          have hrc := run_cells (P := P) (base := L2.base) (o := o2) (n := min n dn * size) hg (by omega)
          simp only [Builtin.copy_, ht, List.getElem?_toArray, List.getElem?_cons_zero, List.getElem?_cons_succ, Sem.run_bind, run_underlying hu, Result.andThen_ok, Builtin.lenOf, Sem.run_pure, sizeK_run hs, Builtin.firstCells]
          rw [show Nat.min n dn = min n dn from rfl, hrc]
          simp only [Result.andThen_ok, Sem.run_bind, hw', Sem.run_pure, goInt]
          rfl
        · cases hh
      · cases hh
    · rename_i size a dn dc a2 n nc hno hs
      obtain ⟨hc, hh⟩ := bif_ok hh
      cases hh
      rw [Bool.or_eq_true, beq_eq, beq_eq, decide_eq_true_eq, decide_eq_true_eq] at hc
      refine ⟨.refl _, .refl (absH_wf _), fun σ w d' x' hr hd hx => ?_⟩
      obtain ⟨da, dc', rfl, _⟩ := hd.slice_any
      obtain ⟨xa, xc', rfl, _⟩ := hx.slice_any
      refine ⟨_, w, .refl hr rfl, .same rfl, ?_⟩
      have hmin : Nat.min n dn = 0 := by
        show min n dn = 0
        omega
      have hfc : (Builtin.firstCells size 0 (.slice xa n xc')).run P w = .ok #[] w := by
        cases xa <;> simp [Builtin.firstCells, loadCells, loadCellsFrom]
      simp only [Builtin.copy_, ht, List.getElem?_toArray, List.getElem?_cons_zero, List.getElem?_cons_succ, Sem.run_bind, run_underlying hu, Result.andThen_ok, Builtin.lenOf, Sem.run_pure, sizeK_run hs, hmin, hfc]
      cases da <;> simp [storeCells, goInt]
    · cases hh
  · cases hh
end
end Go.Proofs.Ytgjpcliaggpcaaa.Ab
