/-
  No cell of these rows narrows 'for every input' (looked for: loops, veiled, ifaces, maps, wideKeys, modest, calm, conditions, laid).
  DERIVED. THE GIVEN ROWS OF THIS SEAT. 8 by the template 'for every input the law returns true; each argument reads behind the call as it read before'; 0 by the template 'total and deterministic' (their statements: YtinjmfblebpnnaaGreatTotals.lean).
  GIVEN WITH THE SEED: the statements are not yours to turn. If you find one false, say at which input.
  Laid BY PROGRAM, IN A SANDBOX (cutbox-rows.mjs): the forced cells as the released guide's own fill.sh prints them over the translation e76e883d639af953… (all of the seat's roots in one cut). By AI agents, Wed Nov 11 2026. No macro, syntax, notation, axiom, sorry.
-/
import Derived.Test.YtinjmfblebpnnaaGreatChecked
import GoSem.Claim
import GoSem.ClaimJoined
import GoSem.ClaimMapViews
import Derived.JoinedTies
import Derived.KernelRfl
namespace Go.Proofs.YtinjmfblebpnnaaGreat
/- THE CELL 'sum', in the pinned program and in every row, IS THE sha256 OF THE DUMP (.gsa) THAT YtinjmfblebpnnaaGreatProg.lean LOADS. Nothing in Lean hashes anything: it is a label: what it is worth is what the hold of that sum in a sandbox is worth. -/
noncomputable def Tryz.pinned : Pinned := { name := "ytinjmfblebpnnaagreat", sum := "e76e883d639af953c19b0aba41bb003297c9ddafe9f1334c24ddea020380ce86", checked := Tryz.checked }
namespace Rows
def none {H : Type} : Left H := { results := [], args := [] }

/-- 'columbarylaw16.VarsBody': WHATEVER THE INPUT: true; the input reads as it did. -/
def varsBodySpec : ChangeSpec := { name := "varsBody", fn := fun _ => fun
  | [d] => { results := [.lit (.bool true)], args := [d] }
  | _ => none }
def varsBodyRow : OpenClaim := { program := "ytinjmfblebpnnaagreat", sum := "e76e883d639af953c19b0aba41bb003297c9ddafe9f1334c24ddea020380ce86", func := "columbary/columbarylaw16.VarsBody", spec := "varsBody", unfollowed := true, recurses := true, apart := false }
def VarsBodySaid : Prop := varsBodyRow.holds Tryz.pinned (OpenSpec.ofChange varsBodySpec)

/-- ITS FALSE NEIGHBOUR: 'it returns false'. Refute it at one input. -/
def varsBodyWrong : ChangeSpec := { name := "varsBody", fn := fun _ => fun
  | [d] => { results := [.lit (.bool false)], args := [d] }
  | _ => none }
def VarsBodyWrongFalsely : Prop := varsBodyRow.holds Tryz.pinned (OpenSpec.ofChange varsBodyWrong)

/-- 'columbarylaw16.VarsNext': WHATEVER THE INPUT: true; the input reads as it did. -/
def varsNextSpec : ChangeSpec := { name := "varsNext", fn := fun _ => fun
  | [d1, d2] => { results := [.lit (.bool true)], args := [d1, d2] }
  | _ => none }
def varsNextRow : OpenClaim := { program := "ytinjmfblebpnnaagreat", sum := "e76e883d639af953c19b0aba41bb003297c9ddafe9f1334c24ddea020380ce86", func := "columbary/columbarylaw16.VarsNext", spec := "varsNext", unfollowed := true, recurses := true, apart := false }
def VarsNextSaid : Prop := varsNextRow.holds Tryz.pinned (OpenSpec.ofChange varsNextSpec)

/-- ITS FALSE NEIGHBOUR: 'it returns false'. Refute it at one input. -/
def varsNextWrong : ChangeSpec := { name := "varsNext", fn := fun _ => fun
  | [d1, d2] => { results := [.lit (.bool false)], args := [d1, d2] }
  | _ => none }
def VarsNextWrongFalsely : Prop := varsNextRow.holds Tryz.pinned (OpenSpec.ofChange varsNextWrong)

/-- 'columbarylaw24.TermTells': WHATEVER THE INPUT: true; the input reads as it did. -/
def termTellsSpec : ChangeSpec := { name := "termTells", fn := fun _ => fun
  | [d1, d2] => { results := [.lit (.bool true)], args := [d1, d2] }
  | _ => none }
def termTellsRow : OpenClaim := { program := "ytinjmfblebpnnaagreat", sum := "e76e883d639af953c19b0aba41bb003297c9ddafe9f1334c24ddea020380ce86", func := "columbary/columbarylaw24.TermTells", spec := "termTells", unfollowed := true, recurses := true, apart := false }
def TermTellsSaid : Prop := termTellsRow.holds Tryz.pinned (OpenSpec.ofChange termTellsSpec)

/-- ITS FALSE NEIGHBOUR: 'it returns false'. Refute it at one input. -/
def termTellsWrong : ChangeSpec := { name := "termTells", fn := fun _ => fun
  | [d1, d2] => { results := [.lit (.bool false)], args := [d1, d2] }
  | _ => none }
def TermTellsWrongFalsely : Prop := termTellsRow.holds Tryz.pinned (OpenSpec.ofChange termTellsWrong)

/-- 'columbarylaw24.TermRound': WHATEVER THE INPUT: true; the input reads as it did. -/
def termRoundSpec : ChangeSpec := { name := "termRound", fn := fun _ => fun
  | [d1, d2] => { results := [.lit (.bool true)], args := [d1, d2] }
  | _ => none }
def termRoundRow : OpenClaim := { program := "ytinjmfblebpnnaagreat", sum := "e76e883d639af953c19b0aba41bb003297c9ddafe9f1334c24ddea020380ce86", func := "columbary/columbarylaw24.TermRound", spec := "termRound", unfollowed := true, recurses := true, apart := false }
def TermRoundSaid : Prop := termRoundRow.holds Tryz.pinned (OpenSpec.ofChange termRoundSpec)

/-- ITS FALSE NEIGHBOUR: 'it returns false'. Refute it at one input. -/
def termRoundWrong : ChangeSpec := { name := "termRound", fn := fun _ => fun
  | [d1, d2] => { results := [.lit (.bool false)], args := [d1, d2] }
  | _ => none }
def TermRoundWrongFalsely : Prop := termRoundRow.holds Tryz.pinned (OpenSpec.ofChange termRoundWrong)

/-- 'columbarylaw24.TermCounts': WHATEVER THE INPUT: true; the input reads as it did. -/
def termCountsSpec : ChangeSpec := { name := "termCounts", fn := fun _ => fun
  | [d1, d2, d3] => { results := [.lit (.bool true)], args := [d1, d2, d3] }
  | _ => none }
def termCountsRow : OpenClaim := { program := "ytinjmfblebpnnaagreat", sum := "e76e883d639af953c19b0aba41bb003297c9ddafe9f1334c24ddea020380ce86", func := "columbary/columbarylaw24.TermCounts", spec := "termCounts", unfollowed := true, recurses := true, apart := false }
def TermCountsSaid : Prop := termCountsRow.holds Tryz.pinned (OpenSpec.ofChange termCountsSpec)

/-- ITS FALSE NEIGHBOUR: 'it returns false'. Refute it at one input. -/
def termCountsWrong : ChangeSpec := { name := "termCounts", fn := fun _ => fun
  | [d1, d2, d3] => { results := [.lit (.bool false)], args := [d1, d2, d3] }
  | _ => none }
def TermCountsWrongFalsely : Prop := termCountsRow.holds Tryz.pinned (OpenSpec.ofChange termCountsWrong)

/-- 'columbarylaw24.TermFar': WHATEVER THE INPUT: true; the input reads as it did. -/
def termFarSpec : ChangeSpec := { name := "termFar", fn := fun _ => fun
  | [d] => { results := [.lit (.bool true)], args := [d] }
  | _ => none }
def termFarRow : OpenClaim := { program := "ytinjmfblebpnnaagreat", sum := "e76e883d639af953c19b0aba41bb003297c9ddafe9f1334c24ddea020380ce86", func := "columbary/columbarylaw24.TermFar", spec := "termFar", unfollowed := true, recurses := true, apart := false }
def TermFarSaid : Prop := termFarRow.holds Tryz.pinned (OpenSpec.ofChange termFarSpec)

/-- ITS FALSE NEIGHBOUR: 'it returns false'. Refute it at one input. -/
def termFarWrong : ChangeSpec := { name := "termFar", fn := fun _ => fun
  | [d] => { results := [.lit (.bool false)], args := [d] }
  | _ => none }
def TermFarWrongFalsely : Prop := termFarRow.holds Tryz.pinned (OpenSpec.ofChange termFarWrong)

/-- 'columbarylaw16.VarsTells': WHATEVER THE INPUT: true; the input reads as it did. -/
def varsTellsSpec : ChangeSpec := { name := "varsTells", fn := fun _ => fun
  | [d1, d2, d3, d4] => { results := [.lit (.bool true)], args := [d1, d2, d3, d4] }
  | _ => none }
def varsTellsRow : OpenClaim := { program := "ytinjmfblebpnnaagreat", sum := "e76e883d639af953c19b0aba41bb003297c9ddafe9f1334c24ddea020380ce86", func := "columbary/columbarylaw16.VarsTells", spec := "varsTells", unfollowed := true, recurses := true, apart := false }
def VarsTellsSaid : Prop := varsTellsRow.holds Tryz.pinned (OpenSpec.ofChange varsTellsSpec)

/-- ITS FALSE NEIGHBOUR: 'it returns false'. Refute it at one input. -/
def varsTellsWrong : ChangeSpec := { name := "varsTells", fn := fun _ => fun
  | [d1, d2, d3, d4] => { results := [.lit (.bool false)], args := [d1, d2, d3, d4] }
  | _ => none }
def VarsTellsWrongFalsely : Prop := varsTellsRow.holds Tryz.pinned (OpenSpec.ofChange varsTellsWrong)

/-- 'columbarylaw16.VarsCalls': WHATEVER THE INPUT: true; the input reads as it did. -/
def varsCallsSpec : ChangeSpec := { name := "varsCalls", fn := fun _ => fun
  | [d] => { results := [.lit (.bool true)], args := [d] }
  | _ => none }
def varsCallsRow : OpenClaim := { program := "ytinjmfblebpnnaagreat", sum := "e76e883d639af953c19b0aba41bb003297c9ddafe9f1334c24ddea020380ce86", func := "columbary/columbarylaw16.VarsCalls", spec := "varsCalls", unfollowed := true, recurses := true, apart := false }
def VarsCallsSaid : Prop := varsCallsRow.holds Tryz.pinned (OpenSpec.ofChange varsCallsSpec)

/-- ITS FALSE NEIGHBOUR: 'it returns false'. Refute it at one input. -/
def varsCallsWrong : ChangeSpec := { name := "varsCalls", fn := fun _ => fun
  | [d] => { results := [.lit (.bool false)], args := [d] }
  | _ => none }
def VarsCallsWrongFalsely : Prop := varsCallsRow.holds Tryz.pinned (OpenSpec.ofChange varsCallsWrong)

/- THE SECOND FORM. 'bulk': how many values and letters a reading holds, each counted each time it is reached (what is shared counts as often as it is met; a slice's spare places count too). A statement '..UptoSaid' is the law's where the arguments, and the package variables that the reading takes, are together of bulk at most 1048576: NARROWER than '..Said'. Prove '..Said' where nothing that the law and all that it calls make is longer than what came in: it says more and counts as full. Else prove '..UptoSaid'. A law counts once. -/
mutual
def uptoBulk {H : Type} : DataW H → Nat
  | .lit (.string bytes) => bytes.length + 1
  | .lit _ => 1
  | .nil => 1
  | .ptr d => uptoBulk d + 1
  | .slice elems spare => uptoBulkAll elems + uptoBulkAll spare + 1
  | .agg parts => uptoBulkAll parts + 1
  | .iface _ d => uptoBulk d + 1
  | .map entries => uptoBulkEntries entries + 1
  | .held _ => 1
def uptoBulkAll {H : Type} : List (DataW H) → Nat
  | [] => 0
  | d :: r => uptoBulk d + uptoBulkAll r
def uptoBulkEntries {H : Type} : List (Lit × DataW H) → Nat
  | [] => 0
  | x :: r => uptoBulkEntry x + uptoBulkEntries r
def uptoBulkEntry {H : Type} : Lit × DataW H → Nat
  | (.string bytes, d) => bytes.length + uptoBulk d + 1
  | (_, d) => uptoBulk d + 1
 end
def uptoSmall : (H : Type) → List (DataW H) → Bool := fun _ ds => decide (uptoBulkAll ds ≤ 1048576)
def OpenSpec.upto (s : _root_.Go.ChangeSpec) : _root_.Go.OpenSpec := { _root_.Go.OpenSpec.ofChange s with cond := some uptoSmall }

/-- 'columbarylaw16.VarsBody', WHERE WHAT IT READS IS OF BULK AT MOST 1048576: true; the input reads as it did. -/
def varsBodyUptoRow : OpenClaim := { program := "ytinjmfblebpnnaagreat", sum := "e76e883d639af953c19b0aba41bb003297c9ddafe9f1334c24ddea020380ce86", func := "columbary/columbarylaw16.VarsBody", spec := "varsBody", unfollowed := true, recurses := true, apart := false, narrowed := true }
def VarsBodyUptoSaid : Prop := varsBodyUptoRow.holds Tryz.pinned (OpenSpec.upto varsBodySpec)

/-- 'columbarylaw16.VarsNext', WHERE WHAT IT READS IS OF BULK AT MOST 1048576: true; the input reads as it did. -/
def varsNextUptoRow : OpenClaim := { program := "ytinjmfblebpnnaagreat", sum := "e76e883d639af953c19b0aba41bb003297c9ddafe9f1334c24ddea020380ce86", func := "columbary/columbarylaw16.VarsNext", spec := "varsNext", unfollowed := true, recurses := true, apart := false, narrowed := true }
def VarsNextUptoSaid : Prop := varsNextUptoRow.holds Tryz.pinned (OpenSpec.upto varsNextSpec)

/-- 'columbarylaw24.TermTells', WHERE WHAT IT READS IS OF BULK AT MOST 1048576: true; the input reads as it did. -/
def termTellsUptoRow : OpenClaim := { program := "ytinjmfblebpnnaagreat", sum := "e76e883d639af953c19b0aba41bb003297c9ddafe9f1334c24ddea020380ce86", func := "columbary/columbarylaw24.TermTells", spec := "termTells", unfollowed := true, recurses := true, apart := false, narrowed := true }
def TermTellsUptoSaid : Prop := termTellsUptoRow.holds Tryz.pinned (OpenSpec.upto termTellsSpec)

/-- 'columbarylaw24.TermRound', WHERE WHAT IT READS IS OF BULK AT MOST 1048576: true; the input reads as it did. -/
def termRoundUptoRow : OpenClaim := { program := "ytinjmfblebpnnaagreat", sum := "e76e883d639af953c19b0aba41bb003297c9ddafe9f1334c24ddea020380ce86", func := "columbary/columbarylaw24.TermRound", spec := "termRound", unfollowed := true, recurses := true, apart := false, narrowed := true }
def TermRoundUptoSaid : Prop := termRoundUptoRow.holds Tryz.pinned (OpenSpec.upto termRoundSpec)

/-- 'columbarylaw24.TermCounts', WHERE WHAT IT READS IS OF BULK AT MOST 1048576: true; the input reads as it did. -/
def termCountsUptoRow : OpenClaim := { program := "ytinjmfblebpnnaagreat", sum := "e76e883d639af953c19b0aba41bb003297c9ddafe9f1334c24ddea020380ce86", func := "columbary/columbarylaw24.TermCounts", spec := "termCounts", unfollowed := true, recurses := true, apart := false, narrowed := true }
def TermCountsUptoSaid : Prop := termCountsUptoRow.holds Tryz.pinned (OpenSpec.upto termCountsSpec)

/-- 'columbarylaw24.TermFar', WHERE WHAT IT READS IS OF BULK AT MOST 1048576: true; the input reads as it did. -/
def termFarUptoRow : OpenClaim := { program := "ytinjmfblebpnnaagreat", sum := "e76e883d639af953c19b0aba41bb003297c9ddafe9f1334c24ddea020380ce86", func := "columbary/columbarylaw24.TermFar", spec := "termFar", unfollowed := true, recurses := true, apart := false, narrowed := true }
def TermFarUptoSaid : Prop := termFarUptoRow.holds Tryz.pinned (OpenSpec.upto termFarSpec)

/-- 'columbarylaw16.VarsTells', WHERE WHAT IT READS IS OF BULK AT MOST 1048576: true; the input reads as it did. -/
def varsTellsUptoRow : OpenClaim := { program := "ytinjmfblebpnnaagreat", sum := "e76e883d639af953c19b0aba41bb003297c9ddafe9f1334c24ddea020380ce86", func := "columbary/columbarylaw16.VarsTells", spec := "varsTells", unfollowed := true, recurses := true, apart := false, narrowed := true }
def VarsTellsUptoSaid : Prop := varsTellsUptoRow.holds Tryz.pinned (OpenSpec.upto varsTellsSpec)

/-- 'columbarylaw16.VarsCalls', WHERE WHAT IT READS IS OF BULK AT MOST 1048576: true; the input reads as it did. -/
def varsCallsUptoRow : OpenClaim := { program := "ytinjmfblebpnnaagreat", sum := "e76e883d639af953c19b0aba41bb003297c9ddafe9f1334c24ddea020380ce86", func := "columbary/columbarylaw16.VarsCalls", spec := "varsCalls", unfollowed := true, recurses := true, apart := false, narrowed := true }
def VarsCallsUptoSaid : Prop := varsCallsUptoRow.holds Tryz.pinned (OpenSpec.upto varsCallsSpec)

end Rows
end Go.Proofs.YtinjmfblebpnnaaGreat
