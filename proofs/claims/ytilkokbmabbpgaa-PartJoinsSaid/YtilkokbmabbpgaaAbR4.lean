/- Loops: what a loop's body does not turn keeps; rounds that are counted; numbers in slices. -/
import Derived.Test.YtilkokbmabbpgaaAbR3
set_option linter.unusedVariables false
set_option linter.unusedSimpArgs false
namespace Go.Proofs.Ytilkokbmabbpgaa.Ab
open Go Classical

/-- Is a temporary among those of a mask? -/
def inM (m t : Nat) : Bool := Nat.beq ((m >>> t) % 2) 1
def covD (m : Nat) (d : Option Nat) : Bool := match d with
  | none => true
  | some d => inM m d
/-- The temporaries that code turns are all of the mask. -/
def cov (m : Nat) : Code → Bool
  | .seq a b => cov m a && cov m b
  | .cond _ a b => cov m a && cov m b
  | .block _ a => cov m a
  | .loop a => cov m a
  | .region _ ops _ => ops.toList.all fun o => covD m o.dst
  | _ => true
def pickV (n : Nat) (x y : Value) : Value := if n = 1 then x else y
@[congr] theorem pickV_congr {n n' : Nat} {x y : Value} (h : n = n') : pickV n x y = pickV n' x y := by rw [h]
@[go_sem] theorem pickV_one {x y : Value} : pickV 1 x y = x := nr (if_pos rfl)
@[go_sem] theorem pickV_zero {x y : Value} : pickV 0 x y = y := nr (if_neg (by decide))
/-- An environment that is another one but at the mask. -/
def mix (m : Nat) (V E : Env) : Env := fun t => pickV ((m >>> t) % 2) (V t) (E t)
@[go_sem ↓] theorem mix_at {m t : Nat} {V E : Env} : mix m V E t = pickV ((m >>> t) % 2) (V t) (E t) := nr rfl
attribute [go_sem] Nat.reduceShiftRight Nat.reduceMod

section
variable {P : Program} {X : Nat → Bool} {T : Tbl} {E : Env} {H : AHeap} {Q : Exit → Env → AHeap → Prop}

def Off (m : Nat) (E E' : Env) : Prop := ∀ t, inM m t = false → E' t = E t
theorem Off.refl (m : Nat) (E : Env) : Off m E E := fun _ _ => rfl
theorem Off.trans {m : Nat} {E E1 E2 : Env} (h : Off m E E1) (h' : Off m E1 E2) : Off m E E2 := fun t ht => (h' t ht).trans (h t ht)
theorem Off.put {m : Nat} {E : Env} {d : Option Nat} {v : Value} (h : covD m d = true) : Off m E (putE E d v) := fun t ht => by
  cases d with
  | none => rfl
  | some d =>
    show (if t = d then v else E t) = E t
    rw [if_neg]
    rintro rfl
    rw [show covD m (some t) = inM m t from rfl, ht] at h
    cases h
theorem Off.mix {m : Nat} {E E' : Env} (h : Off m E E') : E' = mix m E' E := by
  funext t
  show E' t = pickV ((m >>> t) % 2) (E' t) (E t)
  unfold pickV
  split
  · rfl
  · rename_i hn
    refine h t ?_
    show Nat.beq ((m >>> t) % 2) 1 = false
    rw [beq_eq]; exact decide_eq_false hn
theorem wOps_off {m : Nat} {ds : List (Option Nat)} : ∀ {l : List Oper} {E : Env} {H : AHeap} {K K' : Env → AHeap → Prop}, (l.all fun o => covD m o.dst) = true → (∀ E' H', Off m E E' → K E' H' → K' E' H') → wOps P X ds l E H K → wOps P X ds l E H K'
  | [], E, H, K, K', hc, hk, h => hk E H (.refl m E) h
  | o :: l, E, H, K, K', hc, hk, h => by
    rw [List.all_cons, Bool.and_eq_true] at hc
    rw [wOps] at h ⊢
    split
    · rename_i hw; rw [if_pos hw] at h; exact wOp_mono (fun v H h => wOps_off hc.2 (fun E' H' ho => hk E' H' ((Off.put hc.1).trans ho)) h) h
    · rename_i hw; rw [if_neg hw] at h; exact wOps_off hc.2 (fun E' H' ho => hk E' H' ((Off.put hc.1).trans ho)) h
theorem wDraw_off {m : Nat} {tb : List (Nat × Nat)} {ds : List (Option Nat)} : ∀ {l : List Oper} {k : Nat} {acc : List (Nat × Rec)} {E : Env} {H : AHeap} {K K' : Env → AHeap → Prop}, (l.all fun o => covD m o.dst) = true → (∀ E' H', Off m E E' → K E' H' → K' E' H') → wDraw P X tb ds l k acc E H K → wDraw P X tb ds l k acc E H K'
  | [], k, acc, E, H, K, K', hc, hk, h => hk E H (.refl m E) h
  | o :: l, k, acc, E, H, K, K', hc, hk, h => by
    rw [List.all_cons, Bool.and_eq_true] at hc
    rw [wDraw] at h ⊢
    split
    · rename_i hw; rw [if_pos hw] at h; exact wOp_mono (fun v H h => ⟨h.1, wDraw_off hc.2 (fun E' H' ho => hk E' H' ((Off.put hc.1).trans ho)) h.2⟩) h
    · rename_i hw; rw [if_neg hw] at h; exact wDraw_off hc.2 (fun E' H' ho => hk E' H' ((Off.put hc.1).trans ho)) h
/-- What a walk leaves alone keeps. -/
theorem wC_off {m : Nat} : ∀ {c : Code} {E : Env} {H : AHeap} {Q Q' : Exit → Env → AHeap → Prop}, cov m c = true → (∀ e E' H', Off m E E' → Q e E' H' → Q' e E' H') → wC P X T c E H Q → wC P X T c E H Q' := by
  intro c
  induction c with
  | skip => intro E H Q Q' hc hq h; exact hq _ _ _ (.refl m E) h
  | label l => intro E H Q Q' hc hq h; exact hq _ _ _ (.refl m E) h
  | exit id => intro E H Q Q' hc hq h; exact hq _ _ _ (.refl m E) h
  | ret => intro E H Q Q' hc hq h; exact hq _ _ _ (.refl m E) h
  | region id ops draw =>
    intro E H Q Q' hc hq h
    cases draw
    · exact wOps_off hc (hq .normal) h
    · exact wDraw_off hc (hq .normal) h
  | seq a b iha ihb =>
    intro E H Q Q' hc hq h
    rw [cov, Bool.and_eq_true] at hc
    rw [wC] at h ⊢
    refine iha hc.1 (fun e E1 H1 ho h => ?_) h
    cases e with
    | normal => exact ihb hc.2 (fun e E2 H2 ho2 h => hq _ _ _ (ho.trans ho2) h) h
    | _ => exact hq _ _ _ ho h
  | cond x a b iha ihb =>
    intro E H Q Q' hc hq h
    rw [cov, Bool.and_eq_true] at hc
    rw [wC] at h ⊢
    unfold cndV at h ⊢
    split
    · rename_i v hv
      rw [hv] at h
      simp only at h
      split
      · rename_i hb; rw [if_pos hb] at h; exact iha hc.1 hq h
      · rename_i hb; rw [if_neg hb] at h; exact ihb hc.2 hq h
    · rename_i hv
      split at h
      · rename_i v hv2; exact (hv _ hv2).elim
      · exact h
  | block id a iha =>
    intro E H Q Q' hc hq h
    rw [wC] at h ⊢
    refine iha hc (fun e E1 H1 ho h => ?_) h
    cases e with
    | exit i =>
      simp only [blkQ] at h ⊢
      split
      · rename_i he; rw [if_pos he] at h; exact hq _ _ _ ho h
      · rename_i he; rw [if_neg he] at h; exact hq _ _ _ ho h
    | _ => exact hq _ _ _ ho h
  | loop a iha =>
    intro E H Q Q' hc hq h
    rw [wC] at h ⊢
    obtain ⟨n, h⟩ := h
    refine ⟨n, ?_⟩
    have key : ∀ n E1 H1, Off m E E1 → itW (wC P X T a) n E1 H1 Q → itW (wC P X T a) n E1 H1 Q' := by
      intro n
      induction n with
      | zero => intro E1 H1 ho h; exact h
      | succ n ih =>
        intro E1 H1 ho h
        rw [itW] at h ⊢
        refine iha hc (fun e E2 H2 ho2 h => ?_) h
        cases e with
        | normal => exact ih E2 H2 (ho.trans ho2) h
        | _ => exact hq _ _ _ (ho.trans ho2) h
    exact key n E H (.refl m E) h
  | rangeFunc f ps x y => intro E H Q Q' hc hq h; cases h
  | scope b => intro E H Q Q' hc hq h; cases h
  | goto l => intro E H Q Q' hc hq h; cases h
  | refuse w => intro E H Q Q' hc hq h; cases h

/-- A loop by a number that goes down; what it does not turn is as it was. -/
theorem w_while {a : Code} (m : Nat) (I : Nat → Env → AHeap → Prop) {n : Nat} (h0 : I n E H) (hr : ∀ n V H1, I n V H1 → wC P X T a (mix m V E) H1 (thenQ (fun E' H' => ∃ k, k < n ∧ I k E' H') Q)) (hc : cov m a = true) : wC P X T (.loop a) E H Q := by
  refine w_loop (fun n E' H' => I n E' H' ∧ Off m E E') ⟨h0, .refl m E⟩ fun n E1 H1 ⟨hI, ho⟩ => ?_
  have := hr n E1 H1 hI
  rw [← ho.mix] at this
  refine wC_off hc (fun e E2 H2 ho2 h => ?_) this
  cases e with
  | normal =>
    obtain ⟨k, hk, h⟩ := h
    exact ⟨k, hk, h, ho.trans ho2⟩
  | _ => exact h
/-- Rounds that are counted: n of them, and one that ends. -/
theorem w_for {a : Code} (m n : Nat) (I : Nat → Env → AHeap → Prop) (h0 : I 0 E H) (hr : ∀ i V H1, i < n → I i V H1 → wC P X T a (mix m V E) H1 (thenQ (fun E' H' => I (i + 1) E' H') Q))
    (he : ∀ V H1, I n V H1 → wC P X T a (mix m V E) H1 (thenQ (fun _ _ => False) Q)) (hc : cov m a = true) : wC P X T (.loop a) E H Q := by
  refine w_while m (fun k E' H' => ∃ i, i + k = n ∧ I i E' H') (n := n) ⟨0, by omega, h0⟩ (fun k V H1 ⟨i, hi, hI⟩ => ?_) hc
  cases k with
  | zero =>
    obtain rfl : i = n := by omega
    refine wC_mono (fun e E2 H2 h => ?_) (he V H1 hI)
    cases e with
    | normal => exact h.elim
    | _ => exact h
  | succ k =>
    refine wC_mono (fun e E2 H2 h => ?_) (hr i V H1 (by omega) hI)
    cases e with
    | normal => exact ⟨k, by omega, i + 1, by omega, h⟩
    | _ => exact h
end

/-- Own blocks turned in their places. -/
structure Upd (f : List Nat) (H H' : AHeap) : Prop where
  nx : H'.next = H.next
  get : ∀ c, c ∉ f → H'.get c = H.get c
  fz : ∀ c, H'.fz c = H.fz c
  ro : ∀ c ∈ f, ∀ B, H'.get c = some B → B.ro = false
theorem Upd.refl {f : List Nat} {H : AHeap} (hro : ∀ c ∈ f, ∀ B, H.get c = some B → B.ro = false) : Upd f H H := ⟨rfl, fun _ _ => rfl, fun _ => rfl, hro⟩
theorem Upd.trans {f : List Nat} {H H1 H2 : AHeap} (h : Upd f H H1) (h' : Upd f H1 H2) : Upd f H H2 := ⟨h'.nx.trans h.nx, fun c hc => (h'.get c hc).trans (h.get c hc), fun c => (h'.fz c).trans (h.fz c), h'.ro⟩
theorem Upd.upd {f : List Nat} {H H1 : AHeap} (h : Upd f H H1) {b : Nat} {B : ABlk} (hb : b ∈ f) (hB : B.ro = false) : Upd f H (H1.upd b B) := ⟨h.nx, fun c hc => by
  rw [get_upd, if_neg (fun e => hc (by rw [e]; exact hb))]; exact h.get c hc, h.fz, fun c hc C hC => by
  rw [get_upd] at hC
  split at hC
  · cases hC; exact hB
  · exact h.ro c hc C hC⟩
theorem Old.turn {f : List Nat} {H H1 H2 : AHeap} (h : Old H H1) (hu : Upd f H1 H2) (hf : ∀ y ∈ f, H.next ≤ y) : Old H H2 := ⟨by rw [hu.nx]; exact h.nx, fun b hb => by
  rw [hu.get b (fun hm => by have := hf b hm; omega)]; exact h.get b hb, fun b B hB hr => by
  by_cases hm : b ∈ f
  · rw [hu.ro b hm B hB] at hr; cases hr
  · rw [hu.get b hm] at hB; exact h.ro b B hB hr⟩

section
variable {H : AHeap}
theorem wrap_succ {i n : Nat} (hi : i < n) (hn : n < 4611686018427387904) : IntKind.wrap .i64 (((i : Nat) : Int) + 1) = ((i + 1 : Nat) : Int) := wrap_add (k := 1) (by omega)
/-- A number in a slice. -/
theorem Sl.int_at {v : Value} {xs : List Int} {f : List Nat} (h : Sl .int H v xs f) {i : Nat} (hi : i < xs.length) :
    ∃ b o c B, v = .slice (some ⟨b, o, none⟩) xs.length c ∧ H.get b = some B ∧ b ∈ f ∧ B.cells[o + i]? = some (.int .i64 (xs.getD i 0)) := by
  have hx0 : xs[i]? = some xs[i] := List.getElem?_eq_getElem hi
  obtain ⟨b, o, c, B, gx, hv, hB, hbf, hgf, hbl, hE⟩ := h.at hx0
  have hrow := (Rp.int_E.1 hE).1
  refine ⟨b, o, c, B, hv, hB, hbf, ?_⟩
  have : ((B.cells.drop (o + i * 1)).take 1)[0]? = some (.int .i64 xs[i]) := by
    rw [show (B.cells.drop (o + i * 1)).take 1 = _ from hrow]; rfl
  rw [List.getElem?_take, if_pos (by decide), List.getElem?_drop, Nat.mul_one, Nat.add_zero] at this
  rw [this, List.getD_eq_getElem?_getD, hx0]; rfl
theorem Sl.int_nf {v : Value} {xs : List Int} {f : List Nat} (h : Sl .int H v xs f) : f = [] ∨ ∃ b, f = [b] := by
  have key : ∀ {l : List Int} {cs : List Value} {f : List Nat}, Arr Rp.int H cs l f → f = [] := by
    intro l
    induction l with
    | nil => intro cs f h; exact h
    | cons x l ih =>
      intro cs f h
      obtain ⟨c, cs', f1, f2, rfl, rfl, ⟨rfl, rfl⟩, h2⟩ := h
      rw [ih h2]; rfl
  rcases h with ⟨_, _, rfl⟩ | ⟨b, o, c, _, _, rfl⟩ | ⟨b, o, c, B, g, rfl, h2, h3, rfl, h4, h5⟩
  · exact .inl rfl
  · exact .inl rfl
  · rw [key h5]; exact .inr ⟨b, rfl⟩
/-- A number in a slice, turned. -/
theorem Sl.int_put {v : Value} {xs : List Int} {f : List Nat} (h : Sl .int H v xs f) {i : Nat} (hi : i < xs.length) :
    ∃ b o c B, v = .slice (some ⟨b, o, none⟩) xs.length c ∧ H.get b = some B ∧ f = [b] ∧ o + i < B.cells.length ∧ B.cells[o + i]? = some (.int .i64 (xs.getD i 0)) ∧
      ∀ (H' : AHeap) x, H'.get b = some ⟨B.cells.set (o + i) (.int .i64 x), B.elem, B.opn, false⟩ → Sl .int H' v (xs.set i x) [b] := by
  obtain ⟨b', o', c', B', hv', hB', _, hcell⟩ := h.int_at hi
  obtain ⟨b, o, c, B, f1, f2, f3, hv, hlc, hB, hff, hbl, hE, hput⟩ := h.put hi
  have hfe : f1 ++ (f2 ++ f3) = [] := by
    rcases h.int_nf with e | ⟨b2, e⟩
    · rw [hff] at e; cases e
    · rw [hff] at e; exact (List.cons.inj e).2
  obtain ⟨rfl, h23⟩ := List.append_eq_nil_iff.1 hfe
  obtain ⟨rfl, rfl⟩ := List.append_eq_nil_iff.1 h23
  rw [hv] at hv'
  cases hv'
  rw [hB] at hB'
  cases hB'
  have hlt : o' + i < B'.cells.length := by have : o' + i * 1 + 1 ≤ B'.cells.length := hbl; omega
  refine ⟨b', o', c', B', hv, hB, hff, hlt, hcell, fun H' x hB2 => ?_⟩
  refine hput H' _ [.int .i64 x] x [] (by simp) hB2 ?_ (Rp.int_E.2 ⟨rfl, rfl⟩)
  show B'.cells.set (o' + i) (.int .i64 x) = spliceA B'.cells (o' + i * 1) [.int .i64 x]
  rw [Nat.mul_one, splice_one hlt]
end
@[go_sem] theorem wantV_undef {w : Bool} : wantV undef w = false := nr rfl
attribute [go_sem] Int.ofNat_lt Int.ofNat_le Nat.lt_irrefl Int.natCast_inj Int.reduceToNat
end Go.Proofs.Ytilkokbmabbpgaa.Ab
