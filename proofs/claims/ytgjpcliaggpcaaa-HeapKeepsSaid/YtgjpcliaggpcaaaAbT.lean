/- What the evaluator comes to, the model comes to: code, and whole calls. -/
import Derived.Test.YtgjpcliaggpcaaaAbS
set_option linter.unusedVariables false
set_option linter.unusedSimpArgs false
namespace Go.Proofs.Ytgjpcliaggpcaaa.Ab
open Go Classical

section
variable {P : Program}

theorem region_sound {rec : Nat → Code → Tr Value → KH → Lg → CR} (hm : P.follows .mixedOrders = true) (hrec : RecS P rec) {ov : Ov} (hmay : MayOk P ov.may) (hnt : NtOk P ov.nt) (n id : Nat) (ops : Array Oper) (draw : Bool) (tm : Tr Value) (h : KH) (g : Lg) (hok : Ok (stepK P ov rec n (.region id ops draw) tm h g)) :
    (∀ x ∈ g, x ∈ lgOf (stepK P ov rec n (.region id ops draw) tm h g)) ∧ (Told P (lgOf (stepK P ov rec n (.region id ops draw) tm h g)) → ∀ t, codeOk n (.region id ops draw) = true → n < 1073741824 → TK n t tm →
      RC P (.region id ops draw) t (absH h) (Fin n h (stepK P ov rec n (.region id ops draw) tm h g))) := by
  cases draw with
  | false =>
    have e : stepK P ov rec n (.region id ops false) tm h g = opsK P rec ov ops ops.toList tm h g := rfl
    rw [e] at hok ⊢
    obtain ⟨h1, h2⟩ := opsK_sound hrec hmay hnt ops.toList 0 tm h g rfl hok
    refine ⟨h1, fun ht t hc hn htk => rc_region ?_⟩
    have hops : opersOk n ops = true := by
      simp only [codeOk, Bool.and_eq_true] at hc; exact hc.1
    have := h2 ht n t hops hn htk
    rw [List.range_eq_range']
    simpa using this
  | true =>
    have e : stepK P ov rec n (.region id ops true) tm h g = drawK P rec ov ops ops.toList [] true tm h g := rfl
    rw [e] at hok ⊢
    obtain ⟨h1, h2⟩ := drawK_sound hrec hmay hnt ops.toList 0 [] true tm h g rfl (by simp) hok
    refine ⟨h1, fun ht t hc hn htk => ?_⟩
    simp only [codeOk, Bool.and_eq_true, Bool.not_true, Bool.false_or] at hc
    obtain ⟨T, e1, e2, e3, tm', h', g', e4, e5, e6, e7, e8⟩ := h2 ht n t hc.1 hn htk (PT.start ops t (absH h) (absH_wf h)) ⟨rfl, rfl, rfl, fun j x hx => by simp at hx, fun _ x hx => by simp at hx⟩
    have hreg := region_drawn T.done hm (regionOk_spec hc.2) e3 id
    have hst : Stp All (absH h) (absH h') := by
      have h5 := T.done.next_le (Nat.zero_le ops.size) (Nat.le_refl _)
      have h6 : (T.H 0).next ≤ (T.H ops.size).next := h5
      rw [e2, e6] at h6
      exact ⟨h6, absH_wf _, fun b _ hn => absurd trivial hn⟩
    refine ⟨.normal, T.t ops.size, absH h', hst, ?_, tm', h', g', rfl, e5, e7, e8, e4⟩
    have h7 : T.done.t 0 = t := e1
    have h8 : T.done.H 0 = absH h := e2
    have h9 : T.done.H ops.size = absH h' := e6
    rw [h7, h8, h9] at hreg
    exact hreg

theorem stepK_sound {rec : Nat → Code → Tr Value → KH → Lg → CR} (hm : P.follows .mixedOrders = true) (hrec : RecS P rec) (ov : Ov) (hmay : MayOk P ov.may) (hnt : NtOk P ov.nt) : RecS P (stepK P ov rec) := by
  intro n c tm h g hok
  cases c with
  | skip => exact ⟨fun x hx => hx, fun _ t _ _ ht => ⟨rc_skip (absH_wf _) ⟨tm, h, g, rfl, ht, .refl _, Nat.le_refl _, rfl⟩, fun a ha => by cases ha⟩⟩
  | label l => exact ⟨fun x hx => hx, fun _ t _ _ ht => ⟨rc_label (absH_wf _) ⟨tm, h, g, rfl, ht, .refl _, Nat.le_refl _, rfl⟩, fun a ha => by cases ha⟩⟩
  | exit id => exact ⟨fun x hx => hx, fun _ t _ _ ht => ⟨rc_exit (absH_wf _) ⟨tm, h, g, rfl, ht, .refl _, Nat.le_refl _, rfl⟩, fun a ha => by cases ha⟩⟩
  | ret => exact ⟨fun x hx => hx, fun _ t _ _ ht => ⟨rc_ret (absH_wf _) ⟨tm, h, g, rfl, ht, .refl _, Nat.le_refl _, rfl⟩, fun a ha => by cases ha⟩⟩
  | region id ops draw =>
    obtain ⟨h1, h2⟩ := region_sound hm hrec hmay hnt n id ops draw tm h g hok
    exact ⟨h1, fun ht t hc hn htk => ⟨h2 ht t hc hn htk, fun a ha => by cases ha⟩⟩
  | seq a b =>
    have e : stepK P ov rec n (.seq a b) tm h g = match rec n a tm h g with
      | .nrm tm h g => rec n b tm h g
      | r => r := rfl
    rw [e] at hok ⊢
    have ha := hrec n a tm h g
    cases hr : rec n a tm h g with
    | no w => rw [hr] at hok; exact (ok_no hok).elim
    | nrm tm1 h1 g1 =>
      rw [hr] at ha
      simp only [hr] at hok ⊢
      obtain ⟨s1, c1⟩ := ha (by intro w h; cases h)
      obtain ⟨s2, c2⟩ := hrec n b tm1 h1 g1 hok
      refine ⟨fun x hx => s2 x (s1 x hx), fun ht t hc hn htk => ⟨rc_seq ?_, fun a ha => by cases ha⟩⟩
      simp only [codeOk, Bool.and_eq_true] at hc
      refine ((c1 (ht.sub s2) t hc.1 hn htk).1).mono fun e' t' H' _ hf => ?_
      obtain ⟨tm', h', g', rfl, htk', hwr, hnx, he⟩ := hf
      cases e' <;> simp only at he <;> first | (cases he; done) | skip
      cases he
      exact ((c2 ht t' hc.2 hn htk').1).mono fun e2 t2 H2 _ hf2 => hf2.after hwr hnx
    | ret tm1 h1 g1 =>
      rw [hr] at ha
      simp only [hr] at hok ⊢
      obtain ⟨s1, c1⟩ := ha (by intro w h; cases h)
      refine ⟨s1, fun ht t hc hn htk => ⟨rc_seq ?_, fun a ha => by cases ha⟩⟩
      simp only [codeOk, Bool.and_eq_true] at hc
      refine ((c1 ht t hc.1 hn htk).1).mono fun e' t' H' _ hf => ?_
      have hf0 := hf
      obtain ⟨tm', h', g', rfl, htk', hwr, hnx, he⟩ := hf
      cases e' <;> simp only at he <;> first | (cases he; done) | skip
      exact hf0
    | ext id tm1 h1 g1 =>
      rw [hr] at ha
      simp only [hr] at hok ⊢
      obtain ⟨s1, c1⟩ := ha (by intro w h; cases h)
      refine ⟨s1, fun ht t hc hn htk => ⟨rc_seq ?_, fun a ha => by cases ha⟩⟩
      simp only [codeOk, Bool.and_eq_true] at hc
      refine ((c1 ht t hc.1 hn htk).1).mono fun e' t' H' _ hf => ?_
      have hf0 := hf
      obtain ⟨tm', h', g', rfl, htk', hwr, hnx, he⟩ := hf
      cases e' <;> simp only at he <;> first | (cases he; done) | skip
      exact hf0
  | cond x a b =>
    have e : stepK P ov rec n (.cond x a b) tm h g = match evK tm x with
      | .bool v => Bool.rec (motive := fun _ => CR) (rec n b tm h g) (rec n a tm h g) v
      | _ => .no 11 := rfl
    rw [e] at hok ⊢
    cases hx : evK tm x with
    | bool v =>
      simp only [hx] at hok ⊢
      have e2 : (Bool.rec (motive := fun _ => CR) (rec n b tm h g) (rec n a tm h g) v) = rec n (if v then a else b) tm h g := by cases v <;> rfl
      rw [e2] at hok ⊢
      obtain ⟨s1, c1⟩ := hrec n (if v then a else b) tm h g hok
      refine ⟨s1, fun ht t hc hn htk => ⟨?_, fun a ha => by cases ha⟩⟩
      simp only [codeOk, Bool.and_eq_true] at hc
      rw [htk.ev] at hx
      exact rc_cond hx hc.1.1 (c1 ht t (by cases v; exact hc.2; exact hc.1.2) hn htk).1
    | _ => simp only [hx] at hok; exact (ok_no hok).elim
  | block id a =>
    have e : stepK P ov rec n (.block id a) tm h g = match rec n a tm h g with
      | .ext i tm h g => bif Nat.beq i id then .nrm tm h g else .ext i tm h g
      | r => r := rfl
    rw [e] at hok ⊢
    have ha := hrec n a tm h g
    cases hr : rec n a tm h g with
    | no w => rw [hr] at hok; exact (ok_no hok).elim
    | nrm tm1 h1 g1 =>
      rw [hr] at ha
      simp only [hr] at hok ⊢
      obtain ⟨s1, c1⟩ := ha (by intro w h; cases h)
      refine ⟨s1, fun ht t hc hn htk => ⟨rc_block (((c1 ht t hc hn htk).1).mono fun e' t' H' _ hf => ?_), fun a ha => by cases ha⟩⟩
      have hf0 := hf
      obtain ⟨tm', h', g', rfl, htk', hwr, hnx, he⟩ := hf
      cases e' <;> simp only at he <;> first | (cases he; done) | skip
      exact hf0
    | ret tm1 h1 g1 =>
      rw [hr] at ha
      simp only [hr] at hok ⊢
      obtain ⟨s1, c1⟩ := ha (by intro w h; cases h)
      refine ⟨s1, fun ht t hc hn htk => ⟨rc_block (((c1 ht t hc hn htk).1).mono fun e' t' H' _ hf => ?_), fun a ha => by cases ha⟩⟩
      have hf0 := hf
      obtain ⟨tm', h', g', rfl, htk', hwr, hnx, he⟩ := hf
      cases e' <;> simp only at he <;> first | (cases he; done) | skip
      exact hf0
    | ext i tm1 h1 g1 =>
      rw [hr] at ha
      simp only [hr] at hok ⊢
      obtain ⟨s1, c1⟩ := ha (by intro w h; cases h)
      by_cases hid : i = id
      · subst hid
        have e3 : Nat.beq i i = true := by rw [beq_eq]; simp
        simp only [e3, cond_true] at hok ⊢
        refine ⟨s1, fun ht t hc hn htk => ⟨rc_block (((c1 ht t hc hn htk).1).mono fun e' t' H' _ hf => ?_), fun a ha => by cases ha⟩⟩
        obtain ⟨tm', h', g', rfl, htk', hwr, hnx, he⟩ := hf
        cases e' <;> simp only at he <;> first | (cases he; done) | skip
        cases he
        simp only [if_true]
        exact ⟨_, _, _, rfl, htk', hwr, hnx, rfl⟩
      · have e3 : Nat.beq i id = false := by rw [beq_eq]; simp [hid]
        simp only [e3, cond_false] at hok ⊢
        refine ⟨s1, fun ht t hc hn htk => ⟨rc_block (((c1 ht t hc hn htk).1).mono fun e' t' H' _ hf => ?_), fun a ha => by cases ha⟩⟩
        have hf0 := hf
        obtain ⟨tm', h', g', rfl, htk', hwr, hnx, he⟩ := hf
        cases e' <;> simp only at he <;> first | (cases he; done) | skip
        cases he
        simp only [hid, if_false]
        exact hf0
  | loop a =>
    have e : stepK P ov rec n (.loop a) tm h g = match rec n a tm h g with
      | .nrm tm h g => rec n (.loop a) tm h g
      | r => r := rfl
    rw [e] at hok ⊢
    have ha := hrec n a tm h g
    have key : (∀ x ∈ g, x ∈ lgOf (match rec n a tm h g with
      | .nrm tm h g => rec n (.loop a) tm h g
      | r => r)) ∧ (Told P (lgOf (match rec n a tm h g with
      | .nrm tm h g => rec n (.loop a) tm h g
      | r => r)) → ∀ t, codeOk n a = true → n < 1073741824 → TK n t tm → RL P a t (absH h) (Fin n h (match rec n a tm h g with
      | .nrm tm h g => rec n (.loop a) tm h g
      | r => r))) := by
      cases hr : rec n a tm h g with
      | no w => rw [hr] at hok; exact (ok_no hok).elim
      | nrm tm1 h1 g1 =>
        rw [hr] at ha
        simp only [hr] at hok ⊢
        obtain ⟨s1, c1⟩ := ha (by intro w h; cases h)
        obtain ⟨s2, c2⟩ := hrec n (.loop a) tm1 h1 g1 hok
        refine ⟨fun x hx => s2 x (s1 x hx), fun ht t hc hn htk => rl_more ?_⟩
        refine ((c1 (ht.sub s2) t hc hn htk).1).mono fun e' t' H' _ hf => ?_
        obtain ⟨tm', h', g', rfl, htk', hwr, hnx, he⟩ := hf
        cases e' <;> simp only at he <;> first | (cases he; done) | skip
        cases he
        exact ((c2 ht t' hc hn htk').2 a rfl).mono fun e2 t2 H2 _ hf2 => hf2.after hwr hnx
      | ret tm1 h1 g1 =>
        rw [hr] at ha
        simp only [hr] at hok ⊢
        obtain ⟨s1, c1⟩ := ha (by intro w h; cases h)
        refine ⟨s1, fun ht t hc hn htk => rl_more ?_⟩
        refine ((c1 ht t hc hn htk).1).mono fun e' t' H' _ hf => ?_
        have hf0 := hf
        obtain ⟨tm', h', g', rfl, htk', hwr, hnx, he⟩ := hf
        cases e' <;> simp only at he <;> first | (cases he; done) | skip
        exact hf0
      | ext id tm1 h1 g1 =>
        rw [hr] at ha
        simp only [hr] at hok ⊢
        obtain ⟨s1, c1⟩ := ha (by intro w h; cases h)
        refine ⟨s1, fun ht t hc hn htk => rl_more ?_⟩
        refine ((c1 ht t hc hn htk).1).mono fun e' t' H' _ hf => ?_
        have hf0 := hf
        obtain ⟨tm', h', g', rfl, htk', hwr, hnx, he⟩ := hf
        cases e' <;> simp only at he <;> first | (cases he; done) | skip
        exact hf0
    refine ⟨key.1, fun ht t hc hn htk => ?_⟩
    have hl := key.2 ht t hc hn htk
    exact ⟨rc_loop hl, fun a' ha' => by cases ha'; exact hl⟩
  | rangeFunc f ps x y => exact (ok_no hok).elim
  | scope b => exact (ok_no hok).elim
  | goto l => exact (ok_no hok).elim
  | refuse w => exact (ok_no hok).elim

theorem runK_sound (hm : P.follows .mixedOrders = true) (ov : Ov) (hmay : MayOk P ov.may) (hnt : NtOk P ov.nt) : ∀ m, RecS P (runK P ov m)
  | 0 => fun n c tm h g hok => (ok_no hok).elim
  | m + 1 => stepK_sound hm (runK_sound hm ov hmay hnt m) ov hmay hnt

theorem absH_empty : (absH ⟨.lf, 0, 0⟩).get = fun _ => none := by funext b; simp [absH]

/-- A call that the evaluator brings to true: the model brings it to true, and what was there stays as it was. -/
theorem runs_sound (hm : P.follows .mixedOrders = true) {ov : Ov} {m : Nat} {f : FuncId} {args : Array Value} {g : Lg} (h : runs P ov m f args = some g) (ht : Told P g) (hmay : MayOk P ov.may) (hnt : NtOk P ov.nt) (w : World)
    (ha : args.toList.all flat = true) : Calls P f args w fun e w' => e = .returned (.bool true) ∧ w.heap.size ≤ w'.heap.size ∧ ∀ k, k < w.heap.size → w'.heap[k]? = w.heap[k]? := by
  unfold runs at h
  have hk : ∀ (v : Value) (h1 : KH) (g1 : Lg), Ok (bif isTrue v then .nrm .lf h1 g1 else .no 14) → ∀ x ∈ g1, x ∈ lgOf (bif isTrue v then .nrm .lf h1 g1 else .no 14) := fun v h1 g1 hok x hx => by
    cases hv : isTrue v
    · rw [hv] at hok; exact (ok_no hok).elim
    · exact hx
  have hfn := fnK_sound (f := f) (args := args) (h := ⟨.lf, 0, 0⟩) (g := []) (ov := ov) (runK_sound hm ov hmay hnt m) hmay hnt hk
  cases hr : fnK P (runK P ov m) ov f args ⟨.lf, 0, 0⟩ [] fun v h g => bif isTrue v then .nrm .lf h g else .no 14 with
  | no w => rw [hr] at h; cases h
  | ret tm h1 g1 => rw [hr] at h; cases h
  | ext i tm h1 g1 => rw [hr] at h; cases h
  | nrm tm h1 g1 =>
    rw [hr] at h hfn
    cases h
    obtain ⟨v, H', hst, hft, h2, g2, rfl, hwr, hnx, he⟩ := (hfn (by intro w h; cases h)).2 ht
    cases hv : isTrue v
    · rw [hv] at he; cases he
    · have hvt : v = .bool true := by
        unfold isTrue at hv
        split at hv
        · rw [hv]
        · cases hv
      subst hvt
      have hva : VRs (fun _ => none) args args := by
        refine ⟨rfl, fun i hi => ?_⟩
        rw [List.all_eq_true] at ha
        have := ha args[i] (Array.mem_toList_iff.2 (Array.getElem_mem hi))
        simpa [Array.getD, hi] using VR.same (σ := fun _ => none) this
      refine (hft (fun _ => none) w args ⟨fun b l B _ hs => (by cases hs), fun b b' l l' _ _ hs => (by cases hs), fun b b' l l' _ hs => (by cases hs), fun b l hs => (by cases hs)⟩ (fun b _ => rfl) hva).mono ?_
      rintro e w' ⟨σ', v', rfl, hp, hv'⟩
      refine ⟨by rw [hv'.bool], hp.size, fun k hk => hp.keep k hk ?_⟩
      rintro ⟨b, l, _, hs, _⟩
      cases hs
end
end Go.Proofs.Ytgjpcliaggpcaaa.Ab
