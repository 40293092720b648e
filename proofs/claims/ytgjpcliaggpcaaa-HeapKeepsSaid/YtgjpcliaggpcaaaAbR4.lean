/- Loops: what a loop's body does not turn keeps; rounds that are counted; numbers in slices. -/
import Derived.Test.YtgjpcliaggpcaaaAbR3
set_option linter.unusedVariables false
set_option linter.unusedSimpArgs false
namespace Go.Proofs.Ytgjpcliaggpcaaa.Ab
open Go Classical

/-- Is a temporary among those of a mask? -/
def inM (m t : Nat) : Bool := Nat.beq ((m >>> t) % 2) 1
def covD (m : Nat) (d : Option Nat) : Bool := match d with
  | none => true
  | some d => inM m d
/-- The temporaries that code turns are all of the mask. -/
def cov (m : Nat) : Code → Bool
  | .seq a b => cov m a && cov m b
  | .cond _ a b => cov m a && cov m b
  | .block _ a => cov m a
  | .loop a => cov m a
  | .region _ ops _ => ops.toList.all fun o => covD m o.dst
  | _ => true
def pickV (n : Nat) (x y : Value) : Value := if n = 1 then x else y
@[congr] theorem pickV_congr {n n' : Nat} {x y : Value} (h : n = n') : pickV n x y = pickV n' x y := by rw [h]
@[go_sem] theorem pickV_one {x y : Value} : pickV 1 x y = x := nr (if_pos rfl)
@[go_sem] theorem pickV_zero {x y : Value} : pickV 0 x y = y := nr (if_neg (by decide))
/-- An environment that is another one but at the mask. -/
def mix (m : Nat) (V E : Env) : Env := fun t => pickV ((m >>> t) % 2) (V t) (E t)
@[go_sem ↓] theorem mix_at {m t : Nat} {V E : Env} : mix m V E t = pickV ((m >>> t) % 2) (V t) (E t) := nr rfl
attribute [go_sem] Nat.reduceShiftRight Nat.reduceMod

section
variable {P : Program} {X : Nat → Bool} {T : Tbl} {E : Env} {H : AHeap} {Q : Exit → Env → AHeap → Prop}

def Off (m : Nat) (E E' : Env) : Prop := ∀ t, inM m t = false → E' t = E t
theorem Off.refl (m : Nat) (E : Env) : Off m E E := fun _ _ => rfl
theorem Off.trans {m : Nat} {E E1 E2 : Env} (h : Off m E E1) (h' : Off m E1 E2) : Off m E E2 := fun t ht => (h' t ht).trans (h t ht)
theorem Off.put {m : Nat} {E : Env} {d : Option Nat} {v : Value} (h : covD m d = true) : Off m E (putE E d v) := fun t ht => by
  cases d with
  | none => rfl
  | some d =>
    show (if t = d then v else E t) = E t
    rw [if_neg]
    rintro rfl
    rw [show covD m (some t) = inM m t from rfl, ht] at h
    cases h
theorem Off.mix {m : Nat} {E E' : Env} (h : Off m E E') : E' = mix m E' E := by
  funext t
  show E' t = pickV ((m >>> t) % 2) (E' t) (E t)
  unfold pickV
  split
  · rfl
  · rename_i hn
    refine h t ?_
    show Nat.beq ((m >>> t) % 2) 1 = false
    rw [beq_eq]; exact decide_eq_false hn
theorem wOps_off {m : Nat} {ds : List (Option Nat)} : ∀ {l : List Oper} {E : Env} {H : AHeap} {K K' : Env → AHeap → Prop}, (l.all fun o => covD m o.dst) = true → (∀ E' H', Off m E E' → K E' H' → K' E' H') → wOps P X ds l E H K → wOps P X ds l E H K'
  | [], E, H, K, K', hc, hk, h => hk E H (.refl m E) h
  | o :: l, E, H, K, K', hc, hk, h => by
    rw [List.all_cons, Bool.and_eq_true] at hc
    rw [wOps] at h ⊢
    split
    · rename_i hw; rw [if_pos hw] at h; exact wOp_mono (fun v H h => wOps_off hc.2 (fun E' H' ho => hk E' H' ((Off.put hc.1).trans ho)) h) h
    · rename_i hw; rw [if_neg hw] at h; exact wOps_off hc.2 (fun E' H' ho => hk E' H' ((Off.put hc.1).trans ho)) h
theorem wDraw_off {m : Nat} {tb : List (Nat × Nat)} {ds : List (Option Nat)} : ∀ {l : List Oper} {k : Nat} {acc : List (Nat × Rec)} {E : Env} {H : AHeap} {K K' : Env → AHeap → Prop}, (l.all fun o => covD m o.dst) = true → (∀ E' H', Off m E E' → K E' H' → K' E' H') → wDraw P X tb ds l k acc E H K → wDraw P X tb ds l k acc E H K'
  | [], k, acc, E, H, K, K', hc, hk, h => hk E H (.refl m E) h
  | o :: l, k, acc, E, H, K, K', hc, hk, h => by
    rw [List.all_cons, Bool.and_eq_true] at hc
    rw [wDraw] at h ⊢
    split
    · rename_i hw; rw [if_pos hw] at h; exact wOp_mono (fun v H h => ⟨h.1, wDraw_off hc.2 (fun E' H' ho => hk E' H' ((Off.put hc.1).trans ho)) h.2⟩) h
    · rename_i hw; rw [if_neg hw] at h; exact wDraw_off hc.2 (fun E' H' ho => hk E' H' ((Off.put hc.1).trans ho)) h
/-- What a walk leaves alone keeps. -/
theorem wC_off {m : Nat} : ∀ {c : Code} {E : Env} {H : AHeap} {Q Q' : Exit → Env → AHeap → Prop}, cov m c = true → (∀ e E' H', Off m E E' → Q e E' H' → Q' e E' H') → wC P X T c E H Q → wC P X T c E H Q' := by
  intro c
  induction c with
  | skip => intro E H Q Q' hc hq h; exact hq _ _ _ (.refl m E) h
  | label l => intro E H Q Q' hc hq h; exact hq _ _ _ (.refl m E) h
  | exit id => intro E H Q Q' hc hq h; exact hq _ _ _ (.refl m E) h
  | ret => intro E H Q Q' hc hq h; exact hq _ _ _ (.refl m E) h
  | region id ops draw =>
    intro E H Q Q' hc hq h
    cases draw
    · exact wOps_off hc (hq .normal) h
    · exact wDraw_off hc (hq .normal) h
  | seq a b iha ihb =>
    intro E H Q Q' hc hq h
    rw [cov, Bool.and_eq_true] at hc
    rw [wC] at h ⊢
    refine iha hc.1 (fun e E1 H1 ho h => ?_) h
    cases e with
    | normal => exact ihb hc.2 (fun e E2 H2 ho2 h => hq _ _ _ (ho.trans ho2) h) h
    | _ => exact hq _ _ _ ho h
  | cond x a b iha ihb =>
    intro E H Q Q' hc hq h
    rw [cov, Bool.and_eq_true] at hc
    rw [wC] at h ⊢
    unfold cndV at h ⊢
    split
    · rename_i v hv
      rw [hv] at h
      simp only at h
      split
      · rename_i hb; rw [if_pos hb] at h; exact iha hc.1 hq h
      · rename_i hb; rw [if_neg hb] at h; exact ihb hc.2 hq h
    · rename_i hv
      split at h
      · rename_i v hv2; exact (hv _ hv2).elim
      · exact h
  | block id a iha =>
    intro E H Q Q' hc hq h
    rw [wC] at h ⊢
    refine iha hc (fun e E1 H1 ho h => ?_) h
    cases e with
    | exit i =>
      simp only [blkQ] at h ⊢
      split
      · rename_i he; rw [if_pos he] at h; exact hq _ _ _ ho h
      · rename_i he; rw [if_neg he] at h; exact hq _ _ _ ho h
    | _ => exact hq _ _ _ ho h
  | loop a iha =>
    intro E H Q Q' hc hq h
    rw [wC] at h ⊢
    obtain ⟨n, h⟩ := h
    refine ⟨n, ?_⟩
    have key : ∀ n E1 H1, Off m E E1 → itW (wC P X T a) n E1 H1 Q → itW (wC P X T a) n E1 H1 Q' := by
      intro n
      induction n with
      | zero => intro E1 H1 ho h; exact h
      | succ n ih =>
        intro E1 H1 ho h
        rw [itW] at h ⊢
        refine iha hc (fun e E2 H2 ho2 h => ?_) h
        cases e with
        | normal => exact ih E2 H2 (ho.trans ho2) h
        | _ => exact hq _ _ _ (ho.trans ho2) h
    exact key n E H (.refl m E) h
  | rangeFunc f ps x y => intro E H Q Q' hc hq h; cases h
  | scope b => intro E H Q Q' hc hq h; cases h
  | goto l => intro E H Q Q' hc hq h; cases h
  | refuse w => intro E H Q Q' hc hq h; cases h

/-- A loop by a number that goes down; what it does not turn is as it was. -/
theorem w_while {a : Code} (m : Nat) (I : Nat → Env → AHeap → Prop) {n : Nat} (h0 : I n E H) (hr : ∀ n V H1, I n V H1 → wC P X T a (mix m V E) H1 (thenQ (fun E' H' => ∃ k, k < n ∧ I k E' H') Q)) (hc : cov m a = true) : wC P X T (.loop a) E H Q := by
  refine w_loop (fun n E' H' => I n E' H' ∧ Off m E E') ⟨h0, .refl m E⟩ fun n E1 H1 ⟨hI, ho⟩ => ?_
  have := hr n E1 H1 hI
  rw [← ho.mix] at this
  refine wC_off hc (fun e E2 H2 ho2 h => ?_) this
  cases e with
  | normal =>
    obtain ⟨k, hk, h⟩ := h
    exact ⟨k, hk, h, ho.trans ho2⟩
  | _ => exact h
/-- Rounds that are counted: n of them, and one that ends. -/
theorem w_for {a : Code} (m n : Nat) (I : Nat → Env → AHeap → Prop) (h0 : I 0 E H) (hr : ∀ i V H1, i < n → I i V H1 → wC P X T a (mix m V E) H1 (thenQ (fun E' H' => I (i + 1) E' H') Q))
    (he : ∀ V H1, I n V H1 → wC P X T a (mix m V E) H1 (thenQ (fun _ _ => False) Q)) (hc : cov m a = true) : wC P X T (.loop a) E H Q := by
  refine w_while m (fun k E' H' => ∃ i, i + k = n ∧ I i E' H') (n := n) ⟨0, by omega, h0⟩ (fun k V H1 ⟨i, hi, hI⟩ => ?_) hc
  cases k with
  | zero =>
    obtain rfl : i = n := by omega
    refine wC_mono (fun e E2 H2 h => ?_) (he V H1 hI)
    cases e with
    | normal => exact h.elim
    | _ => exact h
  | succ k =>
    refine wC_mono (fun e E2 H2 h => ?_) (hr i V H1 (by omega) hI)
    cases e with
    | normal => exact ⟨k, by omega, i + 1, by omega, h⟩
    | _ => exact h
end

/-- Own blocks turned in their places. -/
structure Upd (f : List Nat) (H H' : AHeap) : Prop where
  nx : H'.next = H.next
  get : ∀ c, c ∉ f → H'.get c = H.get c
  fz : ∀ c, H'.fz c = H.fz c
  ro : ∀ c ∈ f, ∀ B, H'.get c = some B → B.ro = false
theorem Upd.refl {f : List Nat} {H : AHeap} (hro : ∀ c ∈ f, ∀ B, H.get c = some B → B.ro = false) : Upd f H H := ⟨rfl, fun _ _ => rfl, fun _ => rfl, hro⟩
theorem Upd.trans {f : List Nat} {H H1 H2 : AHeap} (h : Upd f H H1) (h' : Upd f H1 H2) : Upd f H H2 := ⟨h'.nx.trans h.nx, fun c hc => (h'.get c hc).trans (h.get c hc), fun c => (h'.fz c).trans (h.fz c), h'.ro⟩
theorem Upd.upd {f : List Nat} {H H1 : AHeap} (h : Upd f H H1) {b : Nat} {B : ABlk} (hb : b ∈ f) (hB : B.ro = false) : Upd f H (H1.upd b B) := ⟨h.nx, fun c hc => by
  rw [get_upd, if_neg (fun e => hc (by rw [e]; exact hb))]; exact h.get c hc, h.fz, fun c hc C hC => by
  rw [get_upd] at hC
  split at hC
  · cases hC; exact hB
  · exact h.ro c hc C hC⟩
theorem Old.turn {f : List Nat} {H H1 H2 : AHeap} (h : Old H H1) (hu : Upd f H1 H2) (hf : ∀ y ∈ f, H.next ≤ y) : Old H H2 := ⟨by rw [hu.nx]; exact h.nx, fun b hb => by
  rw [hu.get b (fun hm => by have := hf b hm; omega)]; exact h.get b hb, fun b B hB hr => by
  by_cases hm : b ∈ f
  · rw [hu.ro b hm B hB] at hr; cases hr
  · rw [hu.get b hm] at hB; exact h.ro b B hB hr⟩

section
variable {H : AHeap}
theorem wrap_succ {i n : Nat} (hi : i < n) (hn : n < 4611686018427387904) : IntKind.wrap .i64 (((i : Nat) : Int) + 1) = ((i + 1 : Nat) : Int) := wrap_add (k := 1) (by omega)
/-- The elements behind a place, to be handed on. -/
theorem Sl.from {P : Program} {α : Type} {r : Rp α} {v : Value} {l : List α} {f : List Nat} {t e : TypeId} {k : Nat} (h : Sl r H v l f) (he : elK P t = some (e, r.sz)) (hk : k ≤ l.length) (hlc : ∀ a c, v = .slice a l.length c → True) :
    ∃ v', sliceK P t v (some (.int .i64 (k : Nat))) none none h0 = .ok v' h0 ∧ ∃ cs g, srcA r.sz v' H = some (l.length - k, cs) ∧ cs.length = (l.length - k) * r.sz ∧ Arr r H cs (l.drop k) g ∧ (∀ y ∈ g, y ∈ f) ∧ (∀ H', (∀ y ∈ f, H'.get y = H.get y) → srcA r.sz v' H' = some (l.length - k, cs)) ∧ (l.length ≤ k → cs = [] ∧ ∀ H', srcA r.sz v' H' = some (0, [])) := by
  have hu : P.underlying t = some (.slice e) ∧ sizeK P e = some r.sz := by
    unfold elK at he
    split at he
    · rename_i e1 hu
      split at he
      · rename_i s hs; cases he; exact ⟨hu, hs⟩
      · cases he
    · cases he
  rcases h with ⟨rfl, rfl, rfl⟩ | ⟨⟨b, o, sp⟩, c, rfl, rfl, rfl⟩ | ⟨b, o, c, B, g, rfl, h2, h3, rfl, h4, h5⟩
  · have : k = 0 := by simpa using hk
    subst this
    refine ⟨.slice none 0 0, ?_, [], [], rfl, by simp, rfl, by simp, fun _ _ => rfl, fun _ => ⟨rfl, fun _ => rfl⟩⟩
    simp only [sliceK, hu.1, hu.2, bndK]
    rfl
  · have : k = 0 := by simpa using hk
    subst this
    cases sp with
    | some sp =>
      refine ⟨.slice (some ⟨b, o, some sp⟩) 0 0, ?_, [], [], rfl, by simp, rfl, by simp, fun _ _ => rfl, fun _ => ⟨rfl, fun _ => rfl⟩⟩
      simp only [sliceK, hu.1, hu.2, bndK]
      rfl
    | none =>
    refine ⟨.slice (some ⟨b, o, none⟩) 0 c, ?_, [], [], rfl, by simp, rfl, by simp, fun _ _ => rfl, fun _ => ⟨rfl, fun _ => rfl⟩⟩
    simp only [sliceK, hu.1, hu.2, bndK]
    show (bif Nat.ble 0 0 && Nat.ble 0 c then (bif Nat.blt 0 c || Nat.beq 0 0 then KO.ok _ _ else _) else .no) = _
    have h1 : (Nat.ble 0 0 && Nat.ble 0 c) = true := by simp [ble_eq]
    have h2 : (Nat.blt 0 c || Nat.beq 0 0) = true := by simp [beq_eq]
    rw [h1, cond_true, h2, cond_true]; simp
  · have key : sliceK P t (.slice (some ⟨b, o, none⟩) l.length c) (some (.int .i64 (k : Nat))) none none h0 = (bif Nat.blt k c || Nat.beq k 0 then KO.ok (.slice (some ⟨b, o + k * r.sz, none⟩) (l.length - k) (c - k)) h0 else .ok (.slice (some ⟨b, o, some 0⟩) (l.length - k) 0) h0) := by
      simp only [sliceK, hu.1, hu.2, bndK]
      show (bif Nat.ble k l.length && Nat.ble l.length c then _ else KO.no) = _
      have h1 : (Nat.ble k l.length && Nat.ble l.length c) = true := by simp [ble_eq]; omega
      rw [h1, cond_true]
    by_cases hkl : l.length ≤ k
    · have hz : l.length - k = 0 := by omega
      have hd : l.drop k = [] := List.drop_eq_nil_of_le hkl
      cases hb : (Nat.blt k c || Nat.beq k 0)
      · rw [hb, cond_false] at key
        exact ⟨_, key, [], [], by rw [hz]; rfl, by simp [hz], by rw [hd]; rfl, by simp, fun H' _ => by rw [hz]; rfl, fun _ => ⟨rfl, fun _ => by rw [hz]; rfl⟩⟩
      · rw [hb, cond_true] at key
        exact ⟨_, key, [], [], by rw [hz]; rfl, by simp [hz], by rw [hd]; rfl, by simp, fun H' _ => by rw [hz]; rfl, fun _ => ⟨rfl, fun _ => by rw [hz]; rfl⟩⟩
    · have hb : (Nat.blt k c || Nat.beq k 0) = true := by simp [blt_eq, beq_eq]; omega
      rw [hb, cond_true] at key
      have hlen := h5.len
      rw [List.length_drop] at hlen
      have hA := h5
      rw [← List.take_append_drop k l] at hA
      obtain ⟨c1, c2, f1, f2, e1, rfl, e2, h6, h7⟩ := hA.split
      have e3 : (l.take k).length = k := by simp; omega
      rw [e3] at e2
      have hA2 := h7
      rw [← List.append_nil (l.drop k)] at hA2
      obtain ⟨d1, d2, g1, g2, e4, rfl, e5, h8, h9⟩ := hA2.split
      rw [List.length_drop] at e5
      have hpos : 0 < (l.length - k) * r.sz := Nat.mul_pos (by omega) r.pos
      have hks : k * r.sz ≤ l.length * r.sz := Nat.mul_le_mul_right _ (by omega)
      have hsub : (l.length - k) * r.sz = l.length * r.sz - k * r.sz := Nat.sub_mul _ _ _
      have hcs : (B.cells.drop (o + k * r.sz)).take ((l.length - k) * r.sz) = d1 := by
        rw [← List.drop_drop, e1, List.drop_append_of_le_length (by omega), ← e2, List.drop_length, List.nil_append, e4, List.take_append_of_le_length (by omega), List.take_of_length_le (by omega)]
      have src : ∀ H' : AHeap, H'.get b = some B → srcA r.sz (.slice (some ⟨b, o + k * r.sz, none⟩) (l.length - k) (c - k)) H' = some (l.length - k, d1) := fun H' hB' => by
        simp only [srcA]
        rw [if_neg (by omega), hB']
        simp only
        rw [if_pos (by omega), hcs]
      exact ⟨_, key, d1, g1, src H h4, e5, h8, fun y hy => by simp [hy], fun H' hk' => src H' (by rw [hk' b (by simp)]; exact h4), fun h => absurd h hkl⟩
/-- A number in a slice. -/
theorem Sl.int_at {v : Value} {xs : List Int} {f : List Nat} (h : Sl .int H v xs f) {i : Nat} (hi : i < xs.length) :
    ∃ b o c B, v = .slice (some ⟨b, o, none⟩) xs.length c ∧ H.get b = some B ∧ b ∈ f ∧ B.cells[o + i]? = some (.int .i64 (xs.getD i 0)) := by
  have hx0 : xs[i]? = some xs[i] := List.getElem?_eq_getElem hi
  obtain ⟨b, o, c, B, gx, hv, hB, hbf, hgf, hbl, hE⟩ := h.at hx0
  have hrow := (Rp.int_E.1 hE).1
  refine ⟨b, o, c, B, hv, hB, hbf, ?_⟩
  have : ((B.cells.drop (o + i * 1)).take 1)[0]? = some (.int .i64 xs[i]) := by
    rw [show (B.cells.drop (o + i * 1)).take 1 = _ from hrow]; rfl
  rw [List.getElem?_take, if_pos (by decide), List.getElem?_drop, Nat.mul_one, Nat.add_zero] at this
  rw [this, List.getD_eq_getElem?_getD, hx0]; rfl
theorem Sl.int_nf {v : Value} {xs : List Int} {f : List Nat} (h : Sl .int H v xs f) : f = [] ∨ ∃ b, f = [b] := by
  have key : ∀ {l : List Int} {cs : List Value} {f : List Nat}, Arr Rp.int H cs l f → f = [] := by
    intro l
    induction l with
    | nil => intro cs f h; exact h
    | cons x l ih =>
      intro cs f h
      obtain ⟨c, cs', f1, f2, rfl, rfl, ⟨rfl, rfl⟩, h2⟩ := h
      rw [ih h2]; rfl
  rcases h with ⟨_, _, rfl⟩ | ⟨a, c, _, _, rfl⟩ | ⟨b, o, c, B, g, rfl, h2, h3, rfl, h4, h5⟩
  · exact .inl rfl
  · exact .inl rfl
  · rw [key h5]; exact .inr ⟨b, rfl⟩
/-- A number in a slice, turned. -/
theorem Sl.int_put {v : Value} {xs : List Int} {f : List Nat} (h : Sl .int H v xs f) {i : Nat} (hi : i < xs.length) :
    ∃ b o c B, v = .slice (some ⟨b, o, none⟩) xs.length c ∧ H.get b = some B ∧ f = [b] ∧ o + i < B.cells.length ∧ B.cells[o + i]? = some (.int .i64 (xs.getD i 0)) ∧
      ∀ (H' : AHeap) x, H'.get b = some ⟨B.cells.set (o + i) (.int .i64 x), B.elem, B.opn, false⟩ → Sl .int H' v (xs.set i x) [b] := by
  obtain ⟨b', o', c', B', hv', hB', _, hcell⟩ := h.int_at hi
  obtain ⟨b, o, c, B, f1, f2, f3, hv, hlc, hB, hff, hbl, hE, hput⟩ := h.put hi
  have hfe : f1 ++ (f2 ++ f3) = [] := by
    rcases h.int_nf with e | ⟨b2, e⟩
    · rw [hff] at e; cases e
    · rw [hff] at e; exact (List.cons.inj e).2
  obtain ⟨rfl, h23⟩ := List.append_eq_nil_iff.1 hfe
  obtain ⟨rfl, rfl⟩ := List.append_eq_nil_iff.1 h23
  rw [hv] at hv'
  cases hv'
  rw [hB] at hB'
  cases hB'
  have hlt : o' + i < B'.cells.length := by have : o' + i * 1 + 1 ≤ B'.cells.length := hbl; omega
  refine ⟨b', o', c', B', hv, hB, hff, hlt, hcell, fun H' x hB2 => ?_⟩
  refine hput H' _ [.int .i64 x] x [] (by simp) hB2 ?_ (Rp.int_E.2 ⟨rfl, rfl⟩)
  show B'.cells.set (o' + i) (.int .i64 x) = spliceA B'.cells (o' + i * 1) [.int .i64 x]
  rw [Nat.mul_one, splice_one hlt]
end
/-- A field turned is the row turned. -/
theorem splice_sub {cs row vs : List Value} {o k sz : Nat} (hr : (cs.drop o).take sz = row) (hk : k + vs.length ≤ sz) (ho : o + sz ≤ cs.length) : spliceA cs (o + k) vs = spliceA cs o (spliceA row k vs) := by
  subst hr
  have h1 : cs.take (o + k) = cs.take o ++ (cs.drop o).take k := by rw [List.take_add]
  have h2 : ((cs.drop o).take sz).take k = (cs.drop o).take k := by rw [List.take_take, Nat.min_eq_left (by omega)]
  have h3 : ((cs.drop o).take sz).drop (k + vs.length) ++ cs.drop (o + sz) = cs.drop (o + k + vs.length) := by
    have e : cs.drop (o + sz) = (cs.drop o).drop sz := by rw [List.drop_drop]
    have e2 : cs.drop (o + k + vs.length) = (cs.drop o).drop (k + vs.length) := by rw [List.drop_drop, Nat.add_assoc]
    rw [e, e2]
    have e3 : (cs.drop o) = (cs.drop o).take sz ++ (cs.drop o).drop sz := (List.take_append_drop _ _).symm
    conv => rhs; rw [e3]
    rw [List.drop_append_of_le_length (by simp; omega)]
  have hl : (spliceA ((cs.drop o).take sz) k vs).length = sz := by
    unfold spliceA
    simp; omega
  unfold spliceA at hl ⊢
  rw [hl, h1, h2, List.append_assoc, List.append_assoc, List.append_assoc, h3]
/-- One more to a row of one's own, made since a heap. -/
theorem cps_snoc {P : Program} {X : Nat → Bool} {Hb H : AHeap} {α : Type} {r : Rp α} {t e : TypeId} {by_ b : Nat} {v : Value} {l : List α} {x : α} {f g : List Nat} {B : ABlk} {K : Value → AHeap → Prop} (ha : apK P t = some (e, r.sz, by_)) (how : Ow r e H v l f) (hold : Old Hb H)
    (hf : Own Hb.next H f) (hg : Own Hb.next H g) (hd : ∀ y ∈ f, y ∉ g) (hX : ∀ y ∈ f, X y = false) (hB : H.get b = some B) (hE : r.E H B.cells x g) (h1 : onesK B.cells = true) (hn : (l.length + 1) * by_ < 140737488355328) {tg : Tag K}
    (hk : ∀ v' H' f', Ow r e H' v' (l ++ [x]) f' → Own Hb.next H' f' → (∀ y ∈ f', y = H.next ∨ y ∈ f ∨ y ∈ g) → H'.next = H.next + 1 → (∀ c, c < H.next → c ∉ f → H'.get c = H.get c) → Old Hb H' → K v' H') : cpsA P X H (appendA P t v (.slice (some ⟨b, 0, none⟩) 1 1) H) K tg := by
  refine cps_app1 ha how hf.hi (by rw [List.nodup_append]; exact ⟨hf.nd, hg.nd, fun a ha b hb e => hd a ha (e ▸ hb)⟩) hg.hi hX hB hE h1 hn ?_
  intro v' H' f' h1 h2 h3 h4 h5 h6 h7 h8
  have hnx := hold.nx
  refine hk v' H' f' h1 ⟨h2, fun y hy => ?_, h4⟩ h3 h5 h6 ⟨by omega, fun y hy => ?_, fun y B hB hr => hold.ro y B (h8 y B hB hr) hr⟩
  · rcases h3 y hy with e | e | e
    · omega
    · exact hf.lo y e
    · exact hg.lo y e
  · rw [h6 y (by omega) (fun e => by have := hf.lo y e; omega)]; exact hold.get y hy
theorem Arr.map {α : Type} {r r' : Rp α} {H : AHeap} (hE : ∀ cs x f, r.E H cs x f → r'.E H cs x f) : ∀ {cs : List Value} {l : List α} {f : List Nat}, Arr r H cs l f → Arr r' H cs l f
  | cs, [], f, h => h
  | cs, x :: l, f, h => by
    obtain ⟨c, cs', f1, f2, rfl, rfl, h1, h2⟩ := h
    exact ⟨c, cs', f1, f2, rfl, rfl, hE _ _ _ h1, Arr.map hE h2⟩
theorem Sl.map {α : Type} {r r' : Rp α} {H : AHeap} (hE : ∀ cs x f, r.E H cs x f → r'.E H cs x f) {v : Value} {l : List α} {f : List Nat} (h : Sl r H v l f) : Sl r' H v l f := by
  rcases h with h | h | ⟨b, o, c, B, g, h1, h2, h3, h4, h5, h6⟩
  · exact .inl h
  · exact .inr (.inl h)
  · exact .inr (.inr ⟨b, o, c, B, g, h1, h2, h3, h4, h5, h6.map hE⟩)
/-- One turned, to what is of another kind as all the rest is. -/
theorem Arr.putS {α : Type} {r r' : Rp α} {H : AHeap} {cs : List Value} {l : List α} {f : List Nat} (hsz : r'.sz = r.sz) (hE : ∀ H cs x f, r.E H cs x f → r'.E H cs x f) (h : Arr r H cs l f) {i : Nat} (hi : i < l.length) :
    ∃ f1 f2 f3, f = f1 ++ (f2 ++ f3) ∧ i * r.sz + r.sz ≤ cs.length ∧ r.E H ((cs.drop (i * r.sz)).take r.sz) l[i] f2 ∧
      ∀ (H' : AHeap) c' y f', (∀ b, b ∈ f1 ∨ b ∈ f3 → H'.get b = H.get b) → r'.E H' c' y f' → Arr r' H' (spliceA cs (i * r.sz) c') (l.set i y) (f1 ++ (f' ++ f3)) := by
  have hl : l = l.take i ++ (l[i] :: l.drop (i + 1)) := by simp
  rw [hl] at h
  obtain ⟨c1, c2, f1, f2, rfl, rfl, e, h1, h2⟩ := h.split
  have e1 : (l.take i).length = i := by simp; omega
  rw [e1] at e
  obtain ⟨c, cs', g1, g2, rfl, rfl, h3, h4⟩ := h2
  have e2 := r.len h3
  refine ⟨f1, g1, g2, rfl, by simp; omega, ?_, fun H' c' y f' hk h' => ?_⟩
  · rw [List.drop_append_of_le_length (by omega), ← e, List.drop_length, List.nil_append, List.take_append_of_le_length (by omega), List.take_of_length_le (by omega)]
    exact h3
  · have e3 := r'.len h'
    have hs : spliceA (c1 ++ (c ++ cs')) (i * r.sz) c' = c1 ++ (c' ++ cs') := by
      unfold spliceA
      rw [List.take_append_of_le_length (by omega), List.take_of_length_le (by omega), List.drop_append, List.drop_eq_nil_of_le (by omega), List.nil_append, List.drop_append_of_le_length (by omega), List.drop_eq_nil_of_le (by omega)]
      rfl
    rw [hs, List.set_eq_take_append_cons_drop, if_pos hi]
    exact Arr.join (by rw [e1, hsz]; exact e) ((h1.keep fun b hb => hk b (.inl hb)).map (hE H')) ⟨c', cs', f', g2, rfl, rfl, h', (h4.keep fun b hb => hk b (.inr hb)).map (hE H')⟩
theorem Ow.putS {α : Type} {r r' : Rp α} {ty : TypeId} {H : AHeap} {v : Value} {l : List α} {f : List Nat} (hsz : r'.sz = r.sz) (hE : ∀ H cs x f, r.E H cs x f → r'.E H cs x f) (h : Ow r ty H v l f) {i : Nat} (hi : i < l.length) :
    ∃ b cs f1 f2 f3, v = .slice (some ⟨b, 0, none⟩) l.length l.length ∧ H.get b = some ⟨cs, ty, true, false⟩ ∧ f = b :: (f1 ++ (f2 ++ f3)) ∧ i * r.sz + r.sz ≤ cs.length ∧ r.E H ((cs.drop (i * r.sz)).take r.sz) l[i] f2 ∧
      ∀ (H' : AHeap) (B' : ABlk) c' y f', (∀ z, z ∈ f1 ∨ z ∈ f3 → H'.get z = H.get z) → H'.get b = some B' → B'.cells = spliceA cs (i * r.sz) c' → r'.E H' c' y f' → Sl r' H' v (l.set i y) (b :: (f1 ++ (f' ++ f3))) := by
  rcases h with ⟨_, rfl, _⟩ | ⟨b, cs, g, rfl, h2, rfl, h4, h5, h6⟩
  · simp at hi
  · obtain ⟨f1, f2, f3, rfl, h7, h8, h9⟩ := h6.putS hsz hE hi
    refine ⟨b, cs, f1, f2, f3, rfl, h4, rfl, h7, h8, fun H' B' c' y f' hk hB' hcs hE' => ?_⟩
    refine .inr (.inr ⟨b, 0, l.length, B', f1 ++ (f' ++ f3), by rw [List.length_set], by rw [Ne, ← List.length_eq_zero_iff, List.length_set]; omega, by rw [List.length_set]; exact Nat.le_refl _, rfl, hB', ?_⟩)
    rw [List.drop_zero, hcs]; exact h9 H' c' y f' hk hE'
/-- Some of one's own blocks for others. -/
theorem Own.swap {n : Nat} {H1 H3 : AHeap} {f1 f2 f3 g : List Nat} (h : Own n H1 (f1 ++ (f2 ++ f3))) (hg : Own n H3 g) (hm : ∀ y ∈ g, H1.next ≤ y ∨ y ∈ f2) (hn : H1.next ≤ H3.next) : Own n H3 (f1 ++ (g ++ f3)) := by
  have h2 := List.nodup_append.1 h.nd
  have h3 := List.nodup_append.1 h2.2.1
  have hdis : ∀ y, y ∈ g → y ∉ f1 ∧ y ∉ f3 := fun y hy => by
    rcases hm y hy with e | e
    · exact ⟨fun k => by have := h.hi y (by simp [k]); omega, fun k => by have := h.hi y (by simp [k]); omega⟩
    · exact ⟨fun k => h2.2.2 y k y (by simp [e]) rfl, fun k => h3.2.2 y e y k rfl⟩
  refine ⟨?_, fun y hy => ?_, fun y hy => ?_⟩
  · rw [List.nodup_append]
    refine ⟨h2.1, ?_, fun a ha c hc e => ?_⟩
    · rw [List.nodup_append]
      exact ⟨hg.nd, h3.2.1, fun a ha c hc e => (hdis a ha).2 (e ▸ hc)⟩
    · subst e
      rcases List.mem_append.1 hc with hc | hc
      · exact (hdis a hc).1 ha
      · exact h2.2.2 a ha a (by simp [hc]) rfl
  · rcases List.mem_append.1 hy with e | e
    · exact h.lo y (by simp [e])
    · rcases List.mem_append.1 e with e | e
      · exact hg.lo y e
      · exact h.lo y (by simp [e])
  · have hh : ∀ z, z < H1.next → z < H3.next := fun z hz => by omega
    rcases List.mem_append.1 hy with e | e
    · exact hh y (h.hi y (by simp [e]))
    · rcases List.mem_append.1 e with e | e
      · exact hg.hi y e
      · exact hh y (h.hi y (by simp [e]))
section cuts
variable {P : Program} {t e : TypeId} {s b o n c : Nat}
theorem elK_spec (he : elK P t = some (e, s)) : P.underlying t = some (.slice e) ∧ sizeK P e = some s := by
  unfold elK at he
  split at he
  · rename_i e1 hu
    split at he
    · rename_i s hs; cases he; exact ⟨hu, hs⟩
    · cases he
  · cases he
theorem slice_of {lo hi : Nat} (he : elK P t = some (e, s)) (h1 : lo ≤ hi) (h2 : hi ≤ c) (h3 : lo < c ∨ lo = 0) :
    sliceK P t (.slice (some ⟨b, o, none⟩) n c) (some (.int .i64 (lo : Nat))) (some (.int .i64 (hi : Nat))) none h0 = .ok (.slice (some ⟨b, o + lo * s, none⟩) (hi - lo) (c - lo)) h0 := by
  obtain ⟨hu, hs⟩ := elK_spec he
  simp only [sliceK, hu, hs, bndK]
  show (bif Nat.ble lo hi && Nat.ble hi c then (bif Nat.blt lo c || Nat.beq lo 0 then KO.ok _ _ else _) else .no) = _
  have e1 : (Nat.ble lo hi && Nat.ble hi c) = true := by simp [ble_eq]; omega
  have e2 : (Nat.blt lo c || Nat.beq lo 0) = true := by simp [blt_eq, beq_eq]; omega
  rw [e1, cond_true, e2, cond_true]
theorem slice_to {hi : Nat} (he : elK P t = some (e, s)) (h2 : hi ≤ c) :
    sliceK P t (.slice (some ⟨b, o, none⟩) n c) none (some (.int .i64 (hi : Nat))) none h0 = .ok (.slice (some ⟨b, o, none⟩) hi c) h0 := by
  obtain ⟨hu, hs⟩ := elK_spec he
  simp only [sliceK, hu, hs, bndK]
  show (bif Nat.ble 0 hi && Nat.ble hi c then (bif Nat.blt 0 c || Nat.beq 0 0 then KO.ok _ _ else _) else .no) = _
  have e1 : (Nat.ble 0 hi && Nat.ble hi c) = true := by simp [ble_eq]; omega
  have e2 : (Nat.blt 0 c || Nat.beq 0 0) = true := by simp [beq_eq]
  rw [e1, cond_true, e2, cond_true]; simp
theorem slice_from {lo : Nat} (he : elK P t = some (e, s)) (h1 : lo ≤ n) (h2 : n ≤ c) (h3 : lo < c ∨ lo = 0) :
    sliceK P t (.slice (some ⟨b, o, none⟩) n c) (some (.int .i64 (lo : Nat))) none none h0 = .ok (.slice (some ⟨b, o + lo * s, none⟩) (n - lo) (c - lo)) h0 := by
  obtain ⟨hu, hs⟩ := elK_spec he
  simp only [sliceK, hu, hs, bndK]
  show (bif Nat.ble lo n && Nat.ble n c then (bif Nat.blt lo c || Nat.beq lo 0 then KO.ok _ _ else _) else .no) = _
  have e1 : (Nat.ble lo n && Nat.ble n c) = true := by simp [ble_eq]; omega
  have e2 : (Nat.blt lo c || Nat.beq lo 0) = true := by simp [blt_eq, beq_eq]; omega
  rw [e1, cond_true, e2, cond_true]
theorem slice_end (he : elK P t = some (e, s)) (h3 : 0 < n) :
    sliceK P t (.slice (some ⟨b, o, none⟩) n n) (some (.int .i64 (n : Nat))) none none h0 = .ok (.slice (some ⟨b, o, some 0⟩) 0 0) h0 := by
  obtain ⟨hu, hs⟩ := elK_spec he
  simp only [sliceK, hu, hs, bndK]
  show (bif Nat.ble n n && Nat.ble n n then (bif Nat.blt n n || Nat.beq n 0 then KO.ok _ _ else _) else .no) = _
  have e1 : (Nat.ble n n && Nat.ble n n) = true := by simp [ble_eq]
  have e2 : (Nat.blt n n || Nat.beq n 0) = false := by simp [blt_eq, beq_eq]; omega
  rw [e1, cond_true, e2, cond_false, Nat.sub_self]
theorem slice_three {lo hi m : Nat} (he : elK P t = some (e, s)) (h1 : lo ≤ hi) (h2 : hi ≤ m) (h3 : m ≤ c) :
    sliceK P t (.slice (some ⟨b, o, none⟩) n c) (some (.int .i64 (lo : Nat))) (some (.int .i64 (hi : Nat))) (some (.int .i64 (m : Nat))) h0 = .ok (.slice (some ⟨b, o, some 0⟩) (hi - lo) 0) h0 := by
  obtain ⟨hu, hs⟩ := elK_spec he
  simp only [sliceK, hu, hs, bndK, Option.getD_some]
  show (bif Nat.ble lo hi && Nat.ble hi m && Nat.ble m c then KO.ok _ _ else .no) = _
  have e1 : (Nat.ble lo hi && Nat.ble hi m && Nat.ble m c) = true := by simp [ble_eq]; omega
  rw [e1, cond_true]
theorem clear_at {H : AHeap} {B : ABlk} {z : List Value} (he : elK P t = some (e, s)) (hz : zeroK P e = some z) (h0 : 0 < n) (hz0 : 0 < z.length) (hB : H.get b = some B) (hl : o + n * z.length ≤ B.cells.length) (h1 : onesK (nCells z n) = true) (hro : B.ro = false) :
    clearA P t (.slice (some ⟨b, o, none⟩) n c) H = .ok (.tuple #[]) (H.upd b ⟨spliceA B.cells o (nCells z n), B.elem, B.opn, false⟩) := by
  obtain ⟨hu, hs⟩ := elK_spec he
  simp only [clearA, hu, hz]
  rw [if_neg (by omega), if_pos hz0]
  simp only [writeA, hB]
  rw [if_pos ⟨by rw [nCells_len]; exact hl, h1, hro⟩]
end cuts
/-- Fewer of one's own blocks, or in another order. -/
theorem Own.few {n : Nat} {H : AHeap} {f f' : List Nat} (h : Own n H f) (hc : ∀ z, List.count z f' ≤ List.count z f) : Own n H f' := by
  have hm : ∀ z, z ∈ f' → z ∈ f := fun z hz => List.count_pos_iff.1 (Nat.lt_of_lt_of_le (List.count_pos_iff.2 hz) (hc z))
  exact ⟨List.nodup_iff_count.2 fun z => Nat.le_trans (hc z) (List.nodup_iff_count.1 h.nd z), fun z hz => h.lo z (hm z hz), fun z hz => h.hi z (hm z hz)⟩
/-- The same blocks in a heap that came of it. -/
theorem Own.on {n : Nat} {H H' : AHeap} {f : List Nat} (h : Own n H f) (hn : H.next ≤ H'.next) : Own n H' f := ⟨h.nd, h.lo, fun y hy => Nat.lt_of_lt_of_le (h.hi y hy) hn⟩
/-- All of them made since. -/
theorem Own.up {n m : Nat} {H : AHeap} {f : List Nat} (h : Own n H f) (hn : m ≤ n) : Own m H f := ⟨h.nd, fun y hy => Nat.le_trans hn (h.lo y hy), h.hi⟩
/-- Some more to a row of one's own, be it none. -/
theorem cps_more {P : Program} {X : Nat → Bool} {Hb H : AHeap} {α : Type} {r : Rp α} {t e : TypeId} {by_ : Nat} {v x : Value} {l m : List α} {f g : List Nat} {new : List Value} {K : Value → AHeap → Prop} (ha : apK P t = some (e, r.sz, by_)) (how : Ow r e H v l f) (hold : Old Hb H)
    (hf : Own Hb.next H f) (hg : Own Hb.next H g) (hd : ∀ y ∈ f, y ∉ g) (hX : ∀ y ∈ f, X y = false) (hs : srcA r.sz x H = some (m.length, new)) (hnl : new.length = m.length * r.sz) (h1 : onesK new = true) (hm : Arr r H new m g) (hn : (l.length + m.length) * by_ < 140737488355328) {tg : Tag K}
    (hk : ∀ v' H' f', Ow r e H' v' (l ++ m) f' → Own Hb.next H' f' → (∀ y ∈ f', y = H.next ∨ y ∈ f ∨ y ∈ g) → H.next ≤ H'.next → H'.next ≤ H.next + 1 → (∀ c, c < H.next → c ∉ f → H'.get c = H.get c) → Old Hb H' → K v' H') : cpsA P X H (appendA P t v x H) K tg := by
  by_cases hm0 : m = []
  · subst hm0
    have hg0 : g = [] := hm
    subst hg0
    have hn0 : new = [] := List.length_eq_zero_iff.1 (by simpa using hnl)
    subst hn0
    rcases how with ⟨rfl, rfl, rfl⟩ | ⟨b, cs, g0, rfl, h2, rfl, h3, h4, h5⟩
    · rw [app_none ha hs, cps_same]
      exact hk _ H [] (.inl ⟨rfl, by simp, rfl⟩) ⟨by simp, by simp, by simp⟩ (by simp) (Nat.le_refl _) (Nat.le_succ _) (fun _ _ _ => rfl) hold
    · rw [app_at (n := 0) (new := []) (o := 0) (sl := l.length) (sc := l.length) ha hs (by simp) h3 rfl (by show 0 + l.length * r.sz ≤ cs.length; omega) (by omega) (by omega) rfl, cps_upd (hX b (by simp))]
      have e1 : spliceA cs (0 + l.length * r.sz) [] = cs := by unfold spliceA; simp
      have e2 : (⟨spliceA cs (0 + l.length * r.sz) [], e, true, false⟩ : ABlk) = ⟨cs, e, true, false⟩ := by rw [e1]
      show K _ (H.upd b ⟨spliceA cs (0 + l.length * r.sz) [], e, true, false⟩)
      rw [e2]
      have hget : ∀ c, (H.upd b ⟨cs, e, true, false⟩).get c = H.get c := fun c => by
        rw [get_upd]
        split
        · rename_i hc; rw [hc, h3]
        · rfl
      refine hk _ _ (b :: g0) (.inr ⟨b, cs, g0, by simp, by simpa using h2, rfl, by rw [hget]; exact h3, by simpa using h4, ?_⟩) ⟨hf.nd, hf.lo, hf.hi⟩ (fun y hy => .inr (.inl hy)) (Nat.le_refl _) (Nat.le_succ _) (fun c _ _ => hget c) (hold.upd (hf.lo b (by simp)) _)
      rw [List.append_nil]
      exact h5.keep fun y _ => hget y
  · refine cps_app ha how hf.hi (by rw [List.nodup_append]; exact ⟨hf.nd, hg.nd, fun a ha b hb e => hd a ha (e ▸ hb)⟩) hg.hi hX hs hnl h1 hm hm0 hn ?_
    intro v' H' f' h1 h2 h3 h4 h5 h6 h7 h8
    have hnx := hold.nx
    refine hk v' H' f' h1 ⟨h2, fun y hy => ?_, h4⟩ h3 (by omega) (by omega) h6 ⟨by omega, fun y hy => ?_, fun y B hB hr => hold.ro y B (h8 y B hB hr) hr⟩
    · rcases h3 y hy with e | e | e
      · omega
      · exact hf.lo y e
      · exact hg.lo y e
    · rw [h6 y (by omega) (fun e => by have := hf.lo y e; omega)]; exact hold.get y hy
@[go_sem] theorem wantV_undef {w : Bool} : wantV undef w = false := nr rfl
attribute [go_sem] Int.ofNat_lt Int.ofNat_le Nat.lt_irrefl Int.natCast_inj Int.reduceToNat
end Go.Proofs.Ytgjpcliaggpcaaa.Ab
