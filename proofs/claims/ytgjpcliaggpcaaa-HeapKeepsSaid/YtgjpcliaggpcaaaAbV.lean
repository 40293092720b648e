/- A call over open inputs: its code as steps, and what a run of it says of the program. -/
import Derived.Test.YtgjpcliaggpcaaaAbSy
set_option linter.unusedVariables false
set_option linter.unusedSimpArgs false
namespace Go.Proofs.Ytgjpcliaggpcaaa.Ab
open Go

section
variable {P : Program} {ov : Ov} {rec : Nat → Code → Tr Value → KH → Lg → CR} {n : Nat} {tm : Tr Value} {h : KH} {g : Lg} {k : Value → KH → Lg → CR}

/-- A call's answer, out of its code's last state. -/
noncomputable def retA (P : Program) (rs : List ResultVar) (r : CR) (k : Value → KH → Lg → CR) : CR := match r with
  | .nrm tm h g => (match resK P rs tm h with
    | some l => k (tupK l) h g
    | none => .no 1)
  | .ret tm h g => (match resK P rs tm h with
    | some l => k (tupK l) h g
    | none => .no 2)
  | .no w => .no w
  | .ext _ _ _ _ => .no 3
@[congr] theorem retA_congr {rs : List ResultVar} {r r' : CR} (h : r = r') : retA P rs r k = retA P rs r' k := by rw [h]
theorem ret_one {i : Nat} : retA P [.tmp i] (.ret tm h g) k = k (evK tm (.tmp i)) h g := nr rfl
theorem nrm_one {i : Nat} : retA P [.tmp i] (.nrm tm h g) k = k (evK tm (.tmp i)) h g := nr rfl
theorem ret_nil : retA P [] (.ret tm h g) k = k (.tuple #[]) h g := nr rfl
theorem nrm_nil : retA P [] (.nrm tm h g) k = k (.tuple #[]) h g := nr rfl
theorem ret_two {i j : Nat} : retA P [.tmp i, .tmp j] (.ret tm h g) k = k (.tuple #[evK tm (.tmp i), evK tm (.tmp j)]) h g := nr rfl
theorem nrm_two {i j : Nat} : retA P [.tmp i, .tmp j] (.nrm tm h g) k = k (.tuple #[evK tm (.tmp i), evK tm (.tmp j)]) h g := nr rfl

/-- A call whose code is run. -/
theorem fn_open {f : FuncId} {args : Array Value} {fn : Func} {c : Code} (hnt : ov.nt f args h = none) (hov : ovK ov f args = none) (hf : P.funcs[f]? = some fn) (hb : fn.body = some c)
    (hm : bitB ov.may f = true) (hl : args.size ≤ fn.ntmps) : fnK P rec ov f args h g k = retA P fn.results.toList (rec fn.ntmps c (argsT args.toList) h g) k := by
  have hle : Nat.ble args.size fn.ntmps = true := Nat.ble_eq ▸ hl
  simp only [fnK, hnt, hov, hf, hb, hm, Tr.now_eq, lLen_eq, Array.length_toList, hle, Bool.and_self, cond_true]
  rfl
/-- A call that is known. -/
theorem fn_known {f : FuncId} {args : Array Value} {v : Value} {h1 : KH} (hnt : ov.nt f args h = some (v, h1)) : fnK P rec ov f args h g k = k v h1 g := by simp only [fnK, hnt]

/-- The answer, kept. -/
noncomputable def ansK (v : Value) (h : KH) (g : Lg) : CR := .nrm (.nd (some v) .lf .lf) h g

/-- What a run of a call says: for open inputs, with nothing taken as told. -/
theorem call_sound {m : Nat} {f : FuncId} {args : Array Value} {v : Value} {h1 : KH} (hm : P.follows .mixedOrders = true) (hmay : MayOk P ov.may) (hnt : NtOk P ov.nt)
    (hr : fnK P (runK P ov m) ov f args h [] ansK = ansK v h1 []) :
    Stp All (absH h) (absH h1) ∧ FnT P f args (absH h) v (absH h1) ∧ WrOk h h1 ∧ h.nx ≤ h1.nx := by
  have hfn := fnK_sound (f := f) (args := args) (h := h) (g := []) (ov := ov) (k := ansK) (runK_sound hm ov hmay hnt m) hmay hnt (fun v h1 g1 _ x hx => hx)
  rw [hr] at hfn
  obtain ⟨v', H', hst, hft, h2, g2, rfl, hwr, hnx, he⟩ := (hfn (by intro w h; cases h)).2 (fun x hx => by cases hx)
  unfold ansK at he
  injection he with e1 e2 e3
  injection e1 with e4
  cases e4; cases e2
  exact ⟨hst, hft, hwr, hnx⟩

/-- A mask of functions. -/
def maskOf (l : List Nat) : Nat := l.foldr (fun f m => 2 ^ f ||| m) 0
theorem bit_test (m n : Nat) : bitB m n = m.testBit n := by
  show Nat.beq ((m >>> n) &&& 1) 1 = _
  rw [beq_eq, Nat.testBit_eq_decide_div_mod_eq, Nat.and_one_is_mod, Nat.shiftRight_eq_div_pow]
theorem mask_mem : ∀ (l : List Nat) (f : Nat), bitB (maskOf l) f = true → f ∈ l
  | [], f, h => by rw [bit_test] at h; simp [maskOf] at h
  | a :: l, f, h => by
    rw [bit_test] at h
    simp only [maskOf, List.foldr_cons, Nat.testBit_or, Nat.testBit_two_pow, Bool.or_eq_true, decide_eq_true_eq] at h
    rcases h with rfl | h
    · exact List.mem_cons_self
    · exact List.mem_cons_of_mem _ (mask_mem l f (by rw [bit_test]; exact h))

/-- A function whose code may be run. -/
noncomputable def okF (P : Program) (f : Nat) : Bool := match P.funcs[f]? with
  | some fn => (match fn.body with
    | some c => codeOk fn.ntmps c && Nat.blt fn.ntmps 1073741824
    | none => true)
  | none => true
theorem may_of {l : List Nat} (h : l.all (okF P) = true) : MayOk P (maskOf l) := fun f fn c hb hf hbd => by
  have := List.all_eq_true.1 h f (mask_mem l f hb)
  simp only [okF, hf, hbd, Bool.and_eq_true, blt_eq, decide_eq_true_eq] at this
  exact this
theorem nt_none : NtOk P (fun _ _ _ => none) := fun f args h v h1 e => by cases e
end
end Go.Proofs.Ytgjpcliaggpcaaa.Ab
