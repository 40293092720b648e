/- part.there, by hand: are all things there? A closure handed to slices.ContainsFunc; for every two slices of whole numbers that can be read. -/
import Derived.Test.YtilkokbmabbpgaaProg
import Derived.Test.YtilkokbmabbpgaaWWords
import Derived.Test.YtilkokbmabbpgaaWMore
import Derived.WalkKit
import Derived.RowKit3
import Derived.KernelRfl
import Derived.Deep.QuietTactic
import Derived.BigQuiet
import Derived.LoopTactic
import Derived.Lib.Hide
namespace Go.Proofs.Ytilkokbmabbpgaa.There
open Go.RowKit Go.Proofs.YtilkokbmabbpgaaW.PrintWords
set_option linter.unusedVariables false
set_option linter.unusedSimpArgs false

/-- Is a number no thing's? -/
def off (n : Nat) (x : Int) : Bool := decide (x < 0) || decide ((n : Int) ≤ x)

theorem closure_low (g : Nat) (A : Option Addr) (n c : Nat) (x : Int) (w : World) (hb : w.cell? ⟨g, 0, none⟩ = some (.slice A n c)) (h : decide (x < 0) = true) :
    Calls Try.prog 35 #[.int .i64 x, .pointer (some ⟨g, 0, none⟩)] w fun e w' => e = .returned (.bool true) ∧ w = w' := by
  go_enter Try.func35, Try.ntmps35
  go_wp2
  repeat (go_quiet (fail); try go_wp2)
  go_ret
  exact ⟨rfl, rfl⟩

theorem closure_high (g : Nat) (A : Option Addr) (n c : Nat) (x : Int) (w : World) (hb : w.cell? ⟨g, 0, none⟩ = some (.slice A n c)) (h : decide (x < 0) = false) (b : Bool) (h2 : decide ((n : Int) ≤ x) = b) :
    Calls Try.prog 35 #[.int .i64 x, .pointer (some ⟨g, 0, none⟩)] w fun e w' => e = .returned (.bool b) ∧ w = w' := by
  go_enter Try.func35, Try.ntmps35
  go_wp2
  repeat (go_quiet (fail); try go_wp2)
  go_ret
  exact ⟨by simp [h2], rfl⟩

theorem closure_calls (g : Nat) (A : Option Addr) (n c : Nat) (x : Int) (w : World) (hb : w.cell? ⟨g, 0, none⟩ = some (.slice A n c)) :
    Calls Try.prog 35 #[.int .i64 x, .pointer (some ⟨g, 0, none⟩)] w fun e w' => e = .returned (.bool (off n x)) ∧ w = w' := by
  unfold off
  by_cases h : x < 0
  · rw [decide_eq_true h, Bool.true_or]
    exact closure_low g A n c x w hb (decide_eq_true h)
  · rw [decide_eq_false h, Bool.false_or]
    exact closure_high g A n c x w hb (decide_eq_false h) _ rfl

def IdxPost (P : Int → Bool) (l : List Int) (w : World) (e : Ending) (w' : World) : Prop := ∃ r : Int, e = .returned (.int .i64 r) ∧ decide (r ≥ 0) = l.any P ∧ w = w'

theorem any_take_succ (P : Int → Bool) (l : List Int) (k : Nat) (hk : k < l.length) : (l.take (k + 1)).any P = ((l.take k).any P || P (l.getD k 0)) := by
  rw [List.take_succ_eq_append_getElem hk, List.any_append, List.getD_eq_getElem?_getD, List.getElem?_eq_getElem hk]
  simp

theorem index_calls (g : Nat) (Ap : Option Addr) (np cp : Nat) (A : Option Addr) (c : Nat) (l : List Int) (w : World) (hb : w.cell? ⟨g, 0, none⟩ = some (.slice Ap np cp)) (hr : Kd.C (Kd.int .i64) w A l.length l) :
    Calls Try.prog 37 #[.slice A l.length c, .func (.func 35) #[] #[.pointer (some ⟨g, 0, none⟩)]] w (IdxPost (off np) l w) := by
  have HB := Lib.hid hb
  clear hb
  have HR := Lib.hid hr
  have hmax := hr.2.1
  clear hr
  go_enter Try.func37, Try.ntmps37
  go_wp2
  go_loop [8] (fun i => ∃ k : Nat, k ≤ l.length ∧ i = .int .i64 k ∧ Hid ((l.take k).any (off np) = false)) (fun i => l.length - (intOf i).toNat)
  case atStart => exact ⟨0, Nat.zero_le _, rfl, Lib.hid (by simp)⟩
  case round =>
    obtain ⟨k, hk, rfl, HN⟩ := hrel
    by_cases hlt : k < l.length
    · obtain ⟨ad, e, hcell⟩ := Kd.at_int HR.out (k : Int) (by omega) (by omega)
      cases e
      rw [Int.toNat_natCast] at hcell
      have hrd : rd l (k : Int) = l.getD k 0 := by simp [rd]
      rw [hrd] at hcell
      clear hrd
      have hsucc := any_take_succ (off np) l k hlt
      rw [HN.out, Bool.false_or] at hsucc
      generalize l.getD k 0 = xv at hcell hsucc
      cases hc : off np xv with
      | true =>
        have HC := Lib.hid (hsucc.trans hc)
        have HCC := Lib.hid hc
        clear hsucc hc
        go_wp2_with (go_at_call 35; refine (closure_calls g Ap np cp _ _ HB.out).mono ?_; rintro e w' ⟨rfl, rfl⟩; rw [HCC.out])
        go_ret
        exact ⟨(k : Int), rfl, by
          have h1 : l.any (off np) = true := by
            rw [← List.take_append_drop (k + 1) l, List.any_append, HC.out, Bool.true_or]
          rw [h1]
          simp, rfl⟩
      | false =>
        have HC := Lib.hid (hsucc.trans hc)
        have HCC := Lib.hid hc
        clear hsucc hc
        go_wp2_with (go_at_call 35; refine (closure_calls g Ap np cp _ _ HB.out).mono ?_; rintro e w' ⟨rfl, rfl⟩; rw [HCC.out])
        go_round
        case rel => exact ⟨k + 1, by omega, by go_num, HC⟩
        case measure => simp [intOf]; omega
    · go_wp2
      go_ret
      exact ⟨-1, rfl, by
        rw [List.take_of_length_le (by omega)] at HN
        rw [HN.out]
        rfl, rfl⟩

theorem contains_calls (g : Nat) (Ap : Option Addr) (np cp : Nat) (A : Option Addr) (c : Nat) (l : List Int) (w : World) (hb : w.cell? ⟨g, 0, none⟩ = some (.slice Ap np cp)) (hr : Kd.C (Kd.int .i64) w A l.length l) (b : Bool) (hbb : l.any (off np) = b) :
    Calls Try.prog 34 #[.slice A l.length c, .func (.func 35) #[] #[.pointer (some ⟨g, 0, none⟩)]] w fun e w' => e = .returned (.bool b) ∧ w = w' := by
  have HB := Lib.hid hb
  have HR := Lib.hid hr
  have HBB := Lib.hid hbb
  clear hb hr hbb
  go_enter Try.func34, Try.ntmps34
  go_wp2_with (go_at_call 37; refine (index_calls g Ap np cp _ _ l _ HB.out HR.out).mono ?_; rintro e w' ⟨r, rfl, hr, rfl⟩; rw [HBB.out] at hr)
  go_ret
  exact ⟨by first | rfl | (simp [*]; done), rfl⟩

def part_there.f (l0 : List Int) (l1 : List Int) : Option Bool := some (!(l1.any (off l0.length)))

set_option maxHeartbeats 1000000 in
theorem part_there.calls (A0 : Option Addr) (c0 : Nat) (l0 : List Int) (A1 : Option Addr) (c1 : Nat) (l1 : List Int) (r : Bool) (w : World) (hr0 : Kd.C (Kd.int .i64) w A0 l0.length l0) (hc0 : l0.length ≤ c0) (hr1 : Kd.C (Kd.int .i64) w A1 l1.length l1) (hc1 : l1.length ≤ c1) (h : part_there.f l0 l1 = some r) :
    Calls Try.prog 28 #[.slice A0 l0.length c0, .slice A1 l1.length c1] w fun e w' => e = .returned (.bool r) ∧ Below w.heap.size w w' := by
  obtain rfl := Option.some.inj h
  have HR1 := Lib.hid hr1
  generalize hb : l1.any (off l0.length) = b at *
  have HBB := Lib.hid hb
  clear hr0 hc0 hc1 h hr1 hb
  go_enter Try.func28, Try.ntmps28
  go_wp2_with (go_at_call 34; refine (contains_calls w.heap.size A0 l0.length c0 _ _ l1 _ (by go_simp) (Kd.C_below HR1.out ((Below.refl _ _).alloc (Nat.le_refl _) _)) _ HBB.out).mono ?_; rintro e w' ⟨rfl, rfl⟩)
  go_ret
  exact ⟨rfl, (Below.refl _ _).alloc (Nat.le_refl _) _⟩

end Go.Proofs.Ytilkokbmabbpgaa.There
