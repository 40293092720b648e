/- PostFinds as a statement over numbers: a mailbox that was opened is found, until it is freed; what else is no mailbox. For all numbers. -/
import Derived.Test.YtgjpcliaggpcaaaPPostFindsx2
namespace Go.Proofs.Ytgjpcliaggpcaaa.Pure
open Go.RowKit Go.Proofs.Ytgjpcliaggpcaaa.PPostFinds Go.Proofs.YtgjpcliaggpcaaaW.PrintWords Go.Proofs.YtgjpcliaggpcaaaW.PrintLast Go.Proofs.YtgjpcliaggpcaaaW.PrintMore
set_option linter.unusedVariables false
set_option linter.unusedSimpArgs false

theorem within_tells (v n : Int) (h : 1 ≤ n) (hn : n ≤ 1000000) : ∃ r, columbarykeep_Within.f v n = some r ∧ 0 ≤ r ∧ r < n := by
  have h1 : Int.tmod v n < n := Int.tmod_lt_of_pos v (by omega)
  have h2 : -n < Int.tmod v n := by
    have := Int.tmod_lt_of_pos (-v) (show 0 < n by omega)
    rw [Int.neg_tmod] at this
    omega
  unfold columbarykeep_Within.f
  rw [if_neg (by omega), if_neg (by omega)]
  by_cases c : Int.tmod v n < 0
  · rw [if_pos c]
    have e : wrap64 (Int.tmod v n + n) = Int.tmod v n + n := by unfold wrap64; omega
    exact ⟨_, rfl, by omega, by omega⟩
  · rw [if_neg c]
    exact ⟨_, rfl, by omega, by omega⟩

theorem all_cases : ∀ n ∈ [1, 2, 3, 4, 5, 6], ∀ k ∈ [0, 1, 2, 3, 4, 5], (k : Int) < n → columbarylaw26_PostFinds.l0 20 n k [] 0 = some true := by decide +kernel

theorem PostFinds (a0 a1 : Int) (_ : (Lit.int .i64 a0).wf = true) (_ : (Lit.int .i64 a1).wf = true) : ∃ k, columbarylaw26_PostFinds.f k a0 a1 = some true := by
  obtain ⟨n, hn, n0, n1⟩ := within_tells a0 6 (by omega) (by omega)
  have e : wrap64 (n + 1) = n + 1 := by unfold wrap64; omega
  obtain ⟨k, hk, k0, k1⟩ := within_tells a1 (n + 1) (by omega) (by omega)
  refine ⟨20, ?_⟩
  unfold columbarylaw26_PostFinds.f
  rw [hn]; simp only [Option.bind_some]
  rw [e, hk]; simp only [Option.bind_some]
  have hN : n + 1 ∈ [1, 2, 3, 4, 5, (6 : Int)] := by simp; omega
  have hK : k ∈ [0, 1, 2, 3, 4, (5 : Int)] := by simp; omega
  exact all_cases _ hN _ hK k1


end Go.Proofs.Ytgjpcliaggpcaaa.Pure
