/- What the evaluator comes to, the model comes to: regions, code, functions. -/
import Derived.Test.YtgjpcliaggpcaaaAbN
set_option linter.unusedVariables false
set_option linter.unusedSimpArgs false
namespace Go.Proofs.Ytgjpcliaggpcaaa.Ab
open Go Classical

section
variable {P : Program}

/-- Temporaries, as the evaluator keeps them. -/
structure TK (n : Nat) (t : Act) (tm : Tr Value) : Prop where
  get : ∀ i, t.tmps.getD i undef = (tm.get i).getD undef
  size : t.tmps.size = n
  dfr : t.defers = []

theorem TK.ev {n : Nat} {t : Act} {tm : Tr Value} (h : TK n t tm) : evK tm = t.eval := by
  funext x
  cases x with
  | tmp i =>
    show (match tm.get i with | some v => v | none => undef) = t.tmps.getD i undef
    rw [h.get]
    cases tm.get i <;> rfl
  | const v => rfl
  | func f => rfl
  | global g => rfl

theorem TK.put {n : Nat} {t : Act} {tm : Tr Value} (h : TK n t tm) (hn : n < 1073741824) {d : Option Nat} (hd : ∀ x, d = some x → x < n) (v : Value) : TK n (t.put d v) (putK tm d v) := by
  refine ⟨fun i => ?_, by rw [put_size]; exact h.size, by rw [put_defers']; exact h.dfr⟩
  rw [put_getD]
  cases d with
  | none => simp only [putK]; rw [if_neg (fun hx => by cases hx.1)]; exact h.get i
  | some x =>
    have hx := hd x rfl
    have hp : x + 1 < 2 ^ 40 := Nat.lt_of_lt_of_le (m := 1073741826) (by omega) (by decide)
    simp only [putK, frcV_eq]
    rw [Tr.get_put 40 tm x i _ hp, h.size]
    by_cases hi : i = x
    · subst hi; simp [hx]
    · have : ¬ (some x = some i ∧ i < n) := fun hh => hi (Option.some.inj hh.1).symm
      rw [if_neg this, if_neg hi]; exact h.get i

theorem opersOk_spec {n : Nat} {ops : Array Oper} (h : opersOk n ops = true) {i : Nat} {o : Oper} (ho : ops[i]? = some o) :
    o.op.operands.all okOperand = true ∧ ∀ x, o.dst = some x → x < n := by
  unfold opersOk at h
  rw [List.all_eq_true] at h
  have := h o (by rw [Array.mem_toList_iff]; exact Array.mem_of_getElem? ho)
  rw [Bool.and_eq_true] at this
  refine ⟨this.1, fun x hx => ?_⟩
  have h2 := this.2
  rw [hx] at h2
  simpa [blt_eq] using h2

theorem wantK_eq {n : Nat} {t : Act} {tm : Tr Value} (h : TK n t tm) (ops : Array Oper) (o : Oper) : wantK ops tm o.guard = Region.wanted o (yielded ops t.tmps) := by
  unfold Region.wanted wantK
  cases hg : o.guard with
  | none => rfl
  | some jw =>
    obtain ⟨j, want⟩ := jw
    simp only [lGet_eq, Array.getElem?_toList, yielded]
    cases hj : ops[j]? with
    | none => rfl
    | some o2 =>
      simp only [Option.bind_some]
      cases hd : o2.dst with
      | none => rfl
      | some d =>
        simp only [Option.bind_some]
        have hget := h.get d
        by_cases hlt : d < t.tmps.size
        · rw [Array.getElem?_eq_getElem hlt]
          have e1 : t.tmps.getD d undef = t.tmps[d] := by simp [Array.getD, hlt]
          rw [e1] at hget
          rw [hget]
          cases htm : tm.get d with
          | none => rfl
          | some v => cases v <;> simp
        · rw [Array.getElem?_eq_none (Nat.le_of_not_lt hlt)]
          rw [getD_undef hlt] at hget
          cases htm : tm.get d with
          | none => rfl
          | some v =>
            rw [htm] at hget
            simp only [Option.getD_some] at hget
            rw [← hget]; rfl

/-- How a run of the evaluator ends. -/
def Fin (n : Nat) (h : KH) (r : CR) (e : Exit) (t' : Act) (H' : AHeap) : Prop := ∃ tm' h' g', H' = absH h' ∧ TK n t' tm' ∧ WrOk h h' ∧ h.nx ≤ h'.nx ∧ match e with
  | .normal => r = .nrm tm' h' g'
  | .ret => r = .ret tm' h' g'
  | .exit id => r = .ext id tm' h' g'
  | _ => False

def Ok (r : CR) : Prop := ∀ w, r ≠ .no w

theorem Fin.after {n : Nat} {h h1 : KH} {r : CR} {e : Exit} {t' : Act} {H' : AHeap} (h1w : WrOk h h1) (hn : h.nx ≤ h1.nx) (hf : Fin n h1 r e t' H') : Fin n h r e t' H' := by
  obtain ⟨tm', h', g', e1, e2, e3, e4, e5⟩ := hf
  exact ⟨tm', h', g', e1, e2, h1w.trans hn e3, Nat.le_trans hn e4, e5⟩

/-- What the calls that were taken as told must be. -/
def Told (P : Program) (g : Lg) : Prop := ∀ x ∈ g, ∀ H : AHeap, H.wf → FnT P x.1 x.2.1 H x.2.2 H

def lgOf : CR → Lg
  | .no _ => []
  | .nrm _ _ g => g
  | .ret _ _ g => g
  | .ext _ _ _ g => g

theorem Told.sub {g g' : Lg} (h : Told P g) (hs : ∀ x ∈ g', x ∈ g) : Told P g' := fun x hx => h x (hs x hx)

/-- The functions whose code may be run are in order. -/
def MayOk (P : Program) (may : Nat) : Prop := ∀ f fn c, bitB may f = true → P.funcs[f]? = some fn → fn.body = some c → codeOk fn.ntmps c = true ∧ fn.ntmps < 1073741824

/-- A run of code that is right, for what the logs tell. -/
def RecS (P : Program) (rec : Nat → Code → Tr Value → KH → Lg → CR) : Prop :=
  ∀ n c tm h g, Ok (rec n c tm h g) → (∀ x ∈ g, x ∈ lgOf (rec n c tm h g)) ∧
    (Told P (lgOf (rec n c tm h g)) → ∀ t, codeOk n c = true → n < 1073741824 → TK n t tm →
      RC P c t (absH h) (Fin n h (rec n c tm h g)) ∧ ∀ a, c = .loop a → RL P a t (absH h) (Fin n h (rec n c tm h g)))

theorem ok_no {w : Nat} (h : Ok (.no w)) : False := h w rfl

def rvS (a : Act) : ResultVar → Sem Value
  | .tmp t => pure (a.tmps.getD t undef)
  | .cell x ty => do loadVar ty (← asAddr (a.tmps.getD x undef))

theorem resK_cons (r : ResultVar) (rs : List ResultVar) (tm : Tr Value) (h : KH) : resK P (r :: rs) tm h = match resK P rs tm h with
    | some l => match r with
      | .tmp t => some (evK tm (.tmp t) :: l)
      | .cell a t => match loadK P t (evK tm (.tmp a)) h with
        | .ok v _ => some (v :: l)
        | _ => none
    | none => none := rfl

theorem resK_run {n : Nat} {t : Act} {tm : Tr Value} {h : KH} (ht : TK n t tm) {σ : Sig} {w : World} {a : Act} (hr : Rel P σ All (absH h).get w) (hta : TR σ t a) :
    ∀ {rs : List ResultVar} {l : List Value}, resK P rs tm h = some l → ∃ l', VL σ l l' ∧ (rs.mapM (rvS a)).run P w = .ok l' w
  | [], l, hh => by cases hh; exact ⟨[], .nil σ, by simp⟩
  | r :: rs, l, hh => by
    have h2 := hh
    rw [resK_cons] at h2
    clear hh
    split at h2
    · rename_i l0 hl0
      obtain ⟨l', hv, hrun⟩ := resK_run ht hr hta hl0
      split at h2
      · rename_i d
        cases h2
        refine ⟨a.tmps.getD d undef :: l', .cons ?_ hv, ?_⟩
        · rw [ht.ev]; exact hta.tm.at d
        · rw [List.mapM_cons]
          simp only [Sem.run_bind, rvS, Sem.run_pure, Result.andThen_ok, hrun]
      · rename_i d ty
        split at h2
        · rename_i v h3 hl
          cases h2
          have hvr : VR σ (evK tm (.tmp d)) (a.tmps.getD d undef) := by rw [ht.ev]; exact hta.tm.at d
          obtain ⟨rfl, hlr⟩ := loadK_run (P := P) hl
          obtain ⟨v', hv', hrun2⟩ := hlr σ w _ (hr.sub fun _ _ => trivial) hvr
          have hptr : ∃ ad, a.tmps.getD d undef = .pointer (some ad) := by
            unfold loadK at hl
            split at hl
            · rename_i b o he
              rw [he] at hvr
              obtain ⟨L, _, h5⟩ := hvr.ptr_inv
              exact ⟨_, h5⟩
            · cases hl
          obtain ⟨ad, had⟩ := hptr
          refine ⟨v' :: l', .cons hv' hv, ?_⟩
          rw [List.mapM_cons]
          simp only [Sem.run_bind, rvS, had, asAddr, Sem.run_pure, Result.andThen_ok, hrun2 ad had, hrun]
        · cases h2
    · cases h2

theorem resT_of {n : Nat} {t : Act} {tm : Tr Value} {h : KH} {fn : Func} {l : List Value} (ht : TK n t tm) (hl : resK P fn.results.toList tm h = some l) : ResT P fn t (absH h) (tupK l) := by
  intro σ w a hr hta
  obtain ⟨l', hv, hrun⟩ := resK_run ht hr hta hl
  have hm : (results fn a.tmps).run P w = .ok (if h : l'.toArray.size = 1 then l'.toArray[0] else .tuple l'.toArray) w := by
    have e : results fn a.tmps = (do let vs ← fn.results.mapM (rvS a); pure (if h : vs.size = 1 then vs[0] else .tuple vs)) := rfl
    rw [e, Sem.run_bind, Array.mapM_eq_mapM_toList, Sem.run_map, hrun]
    rfl
  refine ⟨_, hm, ?_⟩
  unfold tupK
  split
  · rename_i v
    obtain ⟨v', a', rfl, hv1, ha⟩ := hv.of_cons
    rw [ha.of_nil]
    exact hv1
  · rename_i hne
    have hlen := hv.1
    have : ¬ l'.toArray.size = 1 := by
      intro h1
      have h2 : l.length = 1 := by simpa [hlen] using h1
      obtain ⟨v, rfl⟩ := List.length_eq_one_iff.1 h2
      exact hne v rfl
    rw [dif_neg this]
    exact .tuple hv.toA.1 hv.toA.2

theorem start_TK {fn : Func} {args : Array Value} (hle : args.size ≤ fn.ntmps) (hlt : fn.ntmps < 1073741824) : TK fn.ntmps (start fn args) (argsT args.toList) := by
  refine ⟨fun i => ?_, by simp [start]; omega, rfl⟩
  unfold argsT
  rw [putsK_get args.toList .lf 0 i (by simp; omega)]
  simp only [start, Array.length_toList, Nat.zero_add, Nat.zero_le, true_and, Nat.sub_zero]
  by_cases hi : i < args.size
  · rw [if_pos hi]
    simp [Array.getD, hi, Array.getElem_append, List.getD_eq_getElem?_getD, Nat.lt_add_right _ hi]
  · rw [if_neg hi]
    by_cases hi2 : i < args.size + (fn.ntmps - args.size)
    · simp [Array.getD, hi, hi2, Array.getElem_append, Tr.get_lf]
    · simp [Array.getD, hi, hi2, Tr.get_lf]

/-- What is known of calls is so. -/
def NtOk (P : Program) (nt : FuncId → Array Value → KH → Option (Value × KH)) : Prop := ∀ f args h v h', nt f args h = some (v, h') →
  Stp All (absH h) (absH h') ∧ FnT P f args (absH h) v (absH h') ∧ WrOk h h' ∧ h.nx ≤ h'.nx

theorem fnK_sound {rec : Nat → Code → Tr Value → KH → Lg → CR} (hrec : RecS P rec) {ov : Ov} (hmay : MayOk P ov.may) (hnt : NtOk P ov.nt) {f : FuncId} {args : Array Value} {h : KH} {g : Lg} {k : Value → KH → Lg → CR}
    (hk : ∀ v h1 g1, Ok (k v h1 g1) → ∀ x ∈ g1, x ∈ lgOf (k v h1 g1)) (hok : Ok (fnK P rec ov f args h g k)) :
    (∀ x ∈ g, x ∈ lgOf (fnK P rec ov f args h g k)) ∧ (Told P (lgOf (fnK P rec ov f args h g k)) →
      FnR P f args (absH h) fun v H' => ∃ h1 g1, H' = absH h1 ∧ WrOk h h1 ∧ h.nx ≤ h1.nx ∧ fnK P rec ov f args h g k = k v h1 g1) := by
  cases hn : ov.nt f args h with
  | some vh =>
    obtain ⟨v, h1⟩ := vh
    simp only [fnK, hn] at hok ⊢
    obtain ⟨n1, n2, n3, n4⟩ := hnt f args h v h1 hn
    refine ⟨hk v h1 g hok, fun _ => ⟨v, absH h1, n1, n2, h1, g, rfl, n3, n4, rfl⟩⟩
  | none =>
    cases hv : ovK ov f args with
    | some v =>
      simp only [fnK, hn, hv] at hok ⊢
      have hsub := hk v h ((f, args, v) :: g) hok
      refine ⟨fun x hx => hsub x (List.mem_cons_of_mem _ hx), fun ht => ⟨v, absH h, .refl (absH_wf _), ?_, h, _, rfl, .refl h, Nat.le_refl _, rfl⟩⟩
      exact ht (f, args, v) (hsub _ (List.mem_cons_self ..)) _ (absH_wf _)
    | none =>
      cases hfn : P.funcs[f]? with
      | none => simp only [fnK, hn, hv, hfn] at hok; exact (ok_no hok).elim
      | some fn =>
        cases hb : fn.body with
        | none => simp only [fnK, hn, hv, hfn, hb] at hok; exact (ok_no hok).elim
        | some c =>
          simp only [fnK, hn, hv, hfn, hb] at hok ⊢
          cases hcond : (bitB ov.may f && Nat.ble (lLen args.toList) fn.ntmps)
          · rw [hcond, cond_false] at hok; exact (ok_no hok).elim
          · simp only [hcond, cond_true] at hok ⊢
            rw [Bool.and_eq_true, ble_eq, decide_eq_true_eq, lLen_eq] at hcond
            obtain ⟨hmf, hc2⟩ := hcond
            obtain ⟨hc1, hc3⟩ := hmay f fn c hmf hfn hb
            have htk := start_TK (fn := fn) (args := args) (by simpa using hc2) hc3
            rw [Tr.now_eq] at hok ⊢
            cases hr : rec fn.ntmps c (argsT args.toList) h g with
            | no w => rw [hr] at hok; exact (ok_no hok).elim
            | ext id tm1 h1 g1 => rw [hr] at hok; exact (ok_no hok).elim
            | nrm tm1 h1 g1 =>
              simp only [hr] at hok ⊢
              obtain ⟨hsub, hcode⟩ := hrec fn.ntmps c (argsT args.toList) h g (by rw [hr]; intro w h; cases h)
              rw [hr] at hsub hcode
              cases hl : resK P fn.results.toList tm1 h1 with
              | none => simp only [hl] at hok; exact (ok_no hok).elim
              | some l =>
                simp only [hl] at hok ⊢
                have hs2 := hk (tupK l) h1 g1 hok
                refine ⟨fun x hx => hs2 x (hsub x hx), fun ht => ?_⟩
                refine fn_of hfn hb ((hcode (ht.sub hs2) _ hc1 hc3 htk).1.mono fun e t' H' _ hfin => ?_)
                obtain ⟨tm', h', g', rfl, htk', hwr, hnx, he⟩ := hfin
                cases e <;> simp only at he <;> first | (cases he; done) | skip
                cases he
                exact ⟨.inl rfl, tupK l, resT_of htk' hl, h1, g1, rfl, hwr, hnx, rfl⟩
            | ret tm1 h1 g1 =>
              simp only [hr] at hok ⊢
              obtain ⟨hsub, hcode⟩ := hrec fn.ntmps c (argsT args.toList) h g (by rw [hr]; intro w h; cases h)
              rw [hr] at hsub hcode
              cases hl : resK P fn.results.toList tm1 h1 with
              | none => simp only [hl] at hok; exact (ok_no hok).elim
              | some l =>
                simp only [hl] at hok ⊢
                have hs2 := hk (tupK l) h1 g1 hok
                refine ⟨fun x hx => hs2 x (hsub x hx), fun ht => ?_⟩
                refine fn_of hfn hb ((hcode (ht.sub hs2) _ hc1 hc3 htk).1.mono fun e t' H' _ hfin => ?_)
                obtain ⟨tm', h', g', rfl, htk', hwr, hnx, he⟩ := hfin
                cases e <;> simp only at he <;> first | (cases he; done) | skip
                cases he
                exact ⟨.inr rfl, tupK l, resT_of htk' hl, h1, g1, rfl, hwr, hnx, rfl⟩
end
end Go.Proofs.Ytgjpcliaggpcaaa.Ab
