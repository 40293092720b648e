/- Drawn regions in which whatever writes or calls waits for, or is waited for by, all others: over open inputs. -/
import Derived.Test.YtgjpcliaggpcaaaAbY
set_option linter.unusedVariables false
set_option linter.unusedSimpArgs false
namespace Go.Proofs.Ytgjpcliaggpcaaa.Ab
open Go

section
variable {P : Program} {ov : Ov} {rec : Nat → Code → Tr Value → KH → Lg → CR} {n : Nat} {tm : Tr Value} {h : KH} {g : Lg}
def quietAt (ops : Array Oper) (i : Nat) : Bool := match ops[i]? with
  | some o => quietOp o.op
  | none => false
def loneOk (ops : Array Oper) : Bool :=
  (List.range ops.size).all fun k => (List.range k).all fun i => ((befM ops ops.size).getD k 0).testBit i || (quietAt ops i && quietAt ops k)

theorem indep_zero {x y : FW} (hx : x.w = 0) (hy : y.w = 0) : indep x y = true := by
  have hz : ∀ f, hits f 0 = false := fun f => by
    unfold hits; split
    · rfl
    · simp
    · rfl
  unfold indep; rw [hx, hy, hz, hz]; simp

theorem free_lone {ops : Array Oper} {r : List FW} (hl : loneOk ops = true) (hr : ∀ i, quietAt ops i = true → ∃ x, r[i]? = some x ∧ x.w = 0) : freeK ops r = true := by
  unfold freeK
  rw [List.all_eq_true]
  intro k hk
  rw [List.all_eq_true]
  intro i hi
  have h1 := List.all_eq_true.1 (List.all_eq_true.1 hl k hk) i hi
  rw [Bool.or_eq_true] at h1 ⊢
  rcases h1 with h1 | h1
  · exact .inl h1
  · rw [Bool.and_eq_true] at h1
    obtain ⟨x, e1, w1⟩ := hr i h1.1
    obtain ⟨y, e2, w2⟩ := hr k h1.2
    right; rw [e1, e2]; exact indep_zero w1 w2

noncomputable def clrK (h : KH) : KH := ⟨h.hp, h.nx, 0⟩
noncomputable def mrgK (h h' : KH) : KH := ⟨h'.hp, h'.nx, Nat.lor h.wr h'.wr⟩
noncomputable def mrgC (h h' : KH) : KH := ⟨h'.hp, h'.nx, Nat.lor h.wr (h'.wr % 2 ^ h.nx)⟩
noncomputable def koL (r : KO) (k : Value → KH → CR) (c : FuncId → Array Value → CR) : CR := match r with
  | .ok v h => k v h
  | .call f args => c f args
  | .no => .no 10
@[congr] theorem koL_congr {r r' : KO} {k : Value → KH → CR} {c : FuncId → Array Value → CR} (h : r = r') : koL r k c = koL r' k c := by rw [h]
theorem koL_ok {v : Value} {k : Value → KH → CR} {c : FuncId → Array Value → CR} : koL (.ok v h) k c = k v h := nr rfl
theorem koL_call {f : FuncId} {args : Array Value} {k : Value → KH → CR} {c : FuncId → Array Value → CR} : koL (.call f args) k c = c f args := nr rfl

noncomputable def drawL (P : Program) (ov : Ov) (rec : Nat → Code → Tr Value → KH → Lg → CR) (ds : List (Option Nat)) (l : List Oper) (tm : Tr Value) (h : KH) (g : Lg) : CR := match l with
  | [] => .nrm tm h g
  | o :: l => iteA (wantR ds tm o.guard) (koL (opK P (evK tm) o.op (clrK h)) (fun v h' => drawL P ov rec ds l (putK tm o.dst v) (mrgK h h') g)
      (fun f args => fnK P rec ov f args (clrK h) g fun v h' g => drawL P ov rec ds l (putK tm o.dst v) (mrgC h h') g)) (drawL P ov rec ds l (putK tm o.dst undef) h g)

theorem drawL_eq {ops : Array Oper} (hl : loneOk ops = true) : ∀ (l : List Oper) (i : Nat) (r : List FW) (clean : Bool) (tm : Tr Value) (h : KH) (g : Lg), ops.toList.drop i = l → r.length = i → i + l.length = ops.size →
    (∀ j, j < i → quietAt ops j = true → ∃ x, r[j]? = some x ∧ x.w = 0) → drawK P rec ov ops l r clean tm h g = drawL P ov rec (ops.toList.map (·.dst)) l tm h g
  | [], i, r, clean, tm, h, g, hd, hr, hi, hq => by
    have hf : freeK ops r = true := free_lone hl fun j hj => by
      have hji : j < i := by
        unfold quietAt at hj
        split at hj
        · next o ho => have := (Array.getElem?_eq_some_iff.1 ho).1; simp at hi; omega
        · cases hj
      exact hq j hji hj
    show (bif clean || freeK ops r then CR.nrm tm h g else .no 8) = _
    rw [hf, Bool.or_true]; rfl
  | o :: l, i, r, clean, tm, h, g, hd, hr, hi, hq => by
    have ho : ops[i]? = some o := by
      have : ops.toList[i]? = some o := by rw [← List.head?_drop, hd]; rfl
      simpa using this
    have hd' : ops.toList.drop (i + 1) = l := by rw [← List.drop_drop, hd]; rfl
    have hi' : i + 1 + l.length = ops.size := by simp at hi; omega
    have step : ∀ x : FW, (quietAt ops i = true → x.w = 0) → ∀ j, j < i + 1 → quietAt ops j = true → ∃ y, (r ++ [x])[j]? = some y ∧ y.w = 0 := fun x hx j hj hqj => by
      by_cases hji : j < i
      · obtain ⟨y, e1, e2⟩ := hq j hji hqj
        exact ⟨y, by rw [List.getElem?_append_left (by omega)]; exact e1, e2⟩
      · have : j = i := by omega
        subst this
        exact ⟨x, by rw [List.getElem?_append_right (by omega), hr]; simp, hx hqj⟩
    have len : ∀ x : FW, (r ++ [x]).length = i + 1 := fun x => by simp [hr]
    rw [drawK_cons, drawL, want_eq]
    cases hw : wantR (ops.toList.map (·.dst)) tm o.guard
    · rw [if_neg (by simp), iteA_false]; exact drawL_eq hl l (i + 1) _ _ _ _ _ hd' (len _) hi' (step _ fun _ => rfl)
    · rw [if_pos rfl, iteA_true]
      have hqo : quietAt ops i = true → quietOp o.op = true := fun e => by unfold quietAt at e; rw [ho] at e; exact e
      show _ = koL (opK P (evK tm) o.op ⟨h.hp, h.nx, 0⟩) _ _
      cases hop : opK P (evK tm) o.op ⟨h.hp, h.nx, 0⟩ with
      | no => rfl
      | ok v h1 =>
        refine drawL_eq hl l (i + 1) _ _ _ _ _ hd' (len _) hi' (step _ fun e => ?_)
        have e1 := quiet_op (P := P) (ev := evK tm) (hqo e) (hp := h.hp) (nx := h.nx) (w := 0) (w' := 0)
        rw [hop] at e1
        injection e1 with _ e2
        rw [e2]
      | call f args =>
        show fnK _ _ _ _ _ _ _ _ = fnK _ _ _ _ _ _ _ _
        congr 1
        funext v h1 g1
        refine drawL_eq hl l (i + 1) _ _ _ _ _ hd' (len _) hi' (step _ fun e => ?_)
        have e1 := quiet_op (P := P) (ev := evK tm) (hqo e) (hp := h.hp) (nx := h.nx) (w := 0) (w' := 0)
        rw [hop] at e1
        cases e1

theorem sy_lone {id : Nat} {l : List Oper} (hl : loneOk (List.toArray l) = true) : stepK P ov rec n (.region id (List.toArray l) true) tm h g = drawL P ov rec (l.map (·.dst)) l tm h g :=
  drawL_eq (ops := List.toArray l) hl l 0 [] true tm h g rfl rfl (by simp) (fun j hj => absurd hj (Nat.not_lt_zero j))
theorem dl_nil {ds : List (Option Nat)} : drawL P ov rec ds [] tm h g = .nrm tm h g := by rw [drawL]
theorem dl_op {ds : List (Option Nat)} {d : Option Nat} {op : Op} {ty : TypeId} {pos : String} {aft : Array Edge} {l : List Oper} :
    drawL P ov rec ds (⟨d, op, ty, pos, aft, none⟩ :: l) tm h g = koL (opK P (evK tm) op (clrK h)) (fun v h' => drawL P ov rec ds l (putK tm d v) (mrgK h h') g)
      (fun f args => fnK P rec ov f args (clrK h) g fun v h' g => drawL P ov rec ds l (putK tm d v) (mrgC h h') g) := by rw [drawL]; rfl
theorem dl_guard {ds : List (Option Nat)} {d : Option Nat} {op : Op} {ty : TypeId} {pos : String} {aft : Array Edge} {l : List Oper} {j : Nat} {want : Bool} :
    drawL P ov rec ds (⟨d, op, ty, pos, aft, some (j, want)⟩ :: l) tm h g = iteA (wantR ds tm (some (j, want))) (koL (opK P (evK tm) op (clrK h)) (fun v h' => drawL P ov rec ds l (putK tm d v) (mrgK h h') g)
      (fun f args => fnK P rec ov f args (clrK h) g fun v h' g => drawL P ov rec ds l (putK tm d v) (mrgC h h') g)) (drawL P ov rec ds l (putK tm d undef) h g) := by rw [drawL]
theorem getB_clr {b : Nat} : getB (clrK h) b = getB h b := nr rfl
/-- An operation that leaves the heap as it was. -/
theorem mrg_clr : mrgK h (clrK h) = h := by
  show KH.mk h.hp h.nx (Nat.lor h.wr 0) = h
  rw [show Nat.lor h.wr 0 = h.wr from Nat.or_zero h.wr]
theorem mrg_push {B : KB} : mrgK h (pushK (clrK h) B) = pushK h B := by
  show KH.mk _ _ (Nat.lor h.wr 0) = _
  rw [show Nat.lor h.wr 0 = h.wr from Nat.or_zero h.wr]; rfl
theorem mrg_set {b : Nat} {B : KB} : mrgK h (setK (clrK h) b B) = setK h b B := by
  show KH.mk _ _ (Nat.lor h.wr (Nat.lor 0 (2 ^ b))) = _
  rw [show Nat.lor 0 (2 ^ b) = 2 ^ b from Nat.zero_or _]; rfl
end
end Go.Proofs.Ytgjpcliaggpcaaa.Ab
