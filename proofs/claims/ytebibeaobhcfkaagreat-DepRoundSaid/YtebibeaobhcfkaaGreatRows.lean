/-
  No cell of these rows narrows 'for every input' (looked for: loops, veiled, ifaces, maps, wideKeys, modest, calm, conditions, laid).
  DERIVED. THE GIVEN ROWS OF THIS SEAT. 5 by the template 'for every input the law returns true; each argument reads behind the call as it read before'; 0 by the template 'total and deterministic' (their statements: YtebibeaobhcfkaaGreatTotals.lean).
  GIVEN WITH THE SEED: the statements are not yours to turn. If you find one false, say at which input.
  Laid BY PROGRAM, IN A SANDBOX (cutbox-rows.mjs): the forced cells as the released guide's own fill.sh prints them over the translation e9343acb687c0999… (all of the seat's roots in one cut). By AI agents, Wed Nov 11 2026. No macro, syntax, notation, axiom, sorry.
-/
import Derived.Test.YtebibeaobhcfkaaGreatChecked
import GoSem.Claim
import GoSem.ClaimJoined
import GoSem.ClaimMapViews
import Derived.JoinedTies
import Derived.KernelRfl
namespace Go.Proofs.YtebibeaobhcfkaaGreat
/- THE CELL 'sum', in the pinned program and in every row, IS THE sha256 OF THE DUMP (.gsa) THAT YtebibeaobhcfkaaGreatProg.lean LOADS. Nothing in Lean hashes anything: it is a label: what it is worth is what the hold of that sum in a sandbox is worth. -/
noncomputable def Tryz.pinned : Pinned := { name := "ytebibeaobhcfkaagreat", sum := "e9343acb687c0999d2326676cca3ed40fa42eb143895b199109b59c1c2afe044", checked := Tryz.checked }
namespace Rows
def none {H : Type} : Left H := { results := [], args := [] }

/-- 'columbarylaw23.DepTells': WHATEVER THE INPUT: true; the input reads as it did. -/
def depTellsSpec : ChangeSpec := { name := "depTells", fn := fun _ => fun
  | [d1, d2] => { results := [.lit (.bool true)], args := [d1, d2] }
  | _ => none }
def depTellsRow : OpenClaim := { program := "ytebibeaobhcfkaagreat", sum := "e9343acb687c0999d2326676cca3ed40fa42eb143895b199109b59c1c2afe044", func := "columbary/columbarylaw23.DepTells", spec := "depTells", unfollowed := true, recurses := true, apart := false }
def DepTellsSaid : Prop := depTellsRow.holds Tryz.pinned (OpenSpec.ofChange depTellsSpec)

/-- ITS FALSE NEIGHBOUR: 'it returns false'. Refute it at one input. -/
def depTellsWrong : ChangeSpec := { name := "depTells", fn := fun _ => fun
  | [d1, d2] => { results := [.lit (.bool false)], args := [d1, d2] }
  | _ => none }
def DepTellsWrongFalsely : Prop := depTellsRow.holds Tryz.pinned (OpenSpec.ofChange depTellsWrong)

/-- 'columbarylaw23.DepWalks': WHATEVER THE INPUT: true; the input reads as it did. -/
def depWalksSpec : ChangeSpec := { name := "depWalks", fn := fun _ => fun
  | [d1, d2, d3, d4, d5, d6] => { results := [.lit (.bool true)], args := [d1, d2, d3, d4, d5, d6] }
  | _ => none }
def depWalksRow : OpenClaim := { program := "ytebibeaobhcfkaagreat", sum := "e9343acb687c0999d2326676cca3ed40fa42eb143895b199109b59c1c2afe044", func := "columbary/columbarylaw23.DepWalks", spec := "depWalks", unfollowed := true, recurses := true, apart := false }
def DepWalksSaid : Prop := depWalksRow.holds Tryz.pinned (OpenSpec.ofChange depWalksSpec)

/-- ITS FALSE NEIGHBOUR: 'it returns false'. Refute it at one input. -/
def depWalksWrong : ChangeSpec := { name := "depWalks", fn := fun _ => fun
  | [d1, d2, d3, d4, d5, d6] => { results := [.lit (.bool false)], args := [d1, d2, d3, d4, d5, d6] }
  | _ => none }
def DepWalksWrongFalsely : Prop := depWalksRow.holds Tryz.pinned (OpenSpec.ofChange depWalksWrong)

/-- 'columbarylaw23.DepRound': WHATEVER THE INPUT: true; the input reads as it did. -/
def depRoundSpec : ChangeSpec := { name := "depRound", fn := fun _ => fun
  | [d1, d2] => { results := [.lit (.bool true)], args := [d1, d2] }
  | _ => none }
def depRoundRow : OpenClaim := { program := "ytebibeaobhcfkaagreat", sum := "e9343acb687c0999d2326676cca3ed40fa42eb143895b199109b59c1c2afe044", func := "columbary/columbarylaw23.DepRound", spec := "depRound", unfollowed := true, recurses := true, apart := false }
def DepRoundSaid : Prop := depRoundRow.holds Tryz.pinned (OpenSpec.ofChange depRoundSpec)

/-- ITS FALSE NEIGHBOUR: 'it returns false'. Refute it at one input. -/
def depRoundWrong : ChangeSpec := { name := "depRound", fn := fun _ => fun
  | [d1, d2] => { results := [.lit (.bool false)], args := [d1, d2] }
  | _ => none }
def DepRoundWrongFalsely : Prop := depRoundRow.holds Tryz.pinned (OpenSpec.ofChange depRoundWrong)

/-- 'columbarylaw23.DepForms': WHATEVER THE INPUT: true; the input reads as it did. -/
def depFormsSpec : ChangeSpec := { name := "depForms", fn := fun _ => fun
  | [d] => { results := [.lit (.bool true)], args := [d] }
  | _ => none }
def depFormsRow : OpenClaim := { program := "ytebibeaobhcfkaagreat", sum := "e9343acb687c0999d2326676cca3ed40fa42eb143895b199109b59c1c2afe044", func := "columbary/columbarylaw23.DepForms", spec := "depForms", unfollowed := true, recurses := true, apart := false }
def DepFormsSaid : Prop := depFormsRow.holds Tryz.pinned (OpenSpec.ofChange depFormsSpec)

/-- ITS FALSE NEIGHBOUR: 'it returns false'. Refute it at one input. -/
def depFormsWrong : ChangeSpec := { name := "depForms", fn := fun _ => fun
  | [d] => { results := [.lit (.bool false)], args := [d] }
  | _ => none }
def DepFormsWrongFalsely : Prop := depFormsRow.holds Tryz.pinned (OpenSpec.ofChange depFormsWrong)

/-- 'columbarylaw23.DepGrows': WHATEVER THE INPUT: true; the input reads as it did. -/
def depGrowsSpec : ChangeSpec := { name := "depGrows", fn := fun _ => fun
  | [d1, d2] => { results := [.lit (.bool true)], args := [d1, d2] }
  | _ => none }
def depGrowsRow : OpenClaim := { program := "ytebibeaobhcfkaagreat", sum := "e9343acb687c0999d2326676cca3ed40fa42eb143895b199109b59c1c2afe044", func := "columbary/columbarylaw23.DepGrows", spec := "depGrows", unfollowed := true, recurses := true, apart := false }
def DepGrowsSaid : Prop := depGrowsRow.holds Tryz.pinned (OpenSpec.ofChange depGrowsSpec)

/-- ITS FALSE NEIGHBOUR: 'it returns false'. Refute it at one input. -/
def depGrowsWrong : ChangeSpec := { name := "depGrows", fn := fun _ => fun
  | [d1, d2] => { results := [.lit (.bool false)], args := [d1, d2] }
  | _ => none }
def DepGrowsWrongFalsely : Prop := depGrowsRow.holds Tryz.pinned (OpenSpec.ofChange depGrowsWrong)

/- THE SECOND FORM. 'bulk': how many values and letters a reading holds, each counted each time it is reached (what is shared counts as often as it is met; a slice's spare places count too). A statement '..UptoSaid' is the law's where the arguments, and the package variables that the reading takes, are together of bulk at most 1048576: NARROWER than '..Said'. Prove '..Said' where nothing that the law and all that it calls make is longer than what came in: it says more and counts as full. Else prove '..UptoSaid'. A law counts once. -/
mutual
def uptoBulk {H : Type} : DataW H → Nat
  | .lit (.string bytes) => bytes.length + 1
  | .lit _ => 1
  | .nil => 1
  | .ptr d => uptoBulk d + 1
  | .slice elems spare => uptoBulkAll elems + uptoBulkAll spare + 1
  | .agg parts => uptoBulkAll parts + 1
  | .iface _ d => uptoBulk d + 1
  | .map entries => uptoBulkEntries entries + 1
  | .held _ => 1
def uptoBulkAll {H : Type} : List (DataW H) → Nat
  | [] => 0
  | d :: r => uptoBulk d + uptoBulkAll r
def uptoBulkEntries {H : Type} : List (Lit × DataW H) → Nat
  | [] => 0
  | x :: r => uptoBulkEntry x + uptoBulkEntries r
def uptoBulkEntry {H : Type} : Lit × DataW H → Nat
  | (.string bytes, d) => bytes.length + uptoBulk d + 1
  | (_, d) => uptoBulk d + 1
 end
def uptoSmall : (H : Type) → List (DataW H) → Bool := fun _ ds => decide (uptoBulkAll ds ≤ 1048576)
def OpenSpec.upto (s : _root_.Go.ChangeSpec) : _root_.Go.OpenSpec := { _root_.Go.OpenSpec.ofChange s with cond := some uptoSmall }

/-- 'columbarylaw23.DepTells', WHERE WHAT IT READS IS OF BULK AT MOST 1048576: true; the input reads as it did. -/
def depTellsUptoRow : OpenClaim := { program := "ytebibeaobhcfkaagreat", sum := "e9343acb687c0999d2326676cca3ed40fa42eb143895b199109b59c1c2afe044", func := "columbary/columbarylaw23.DepTells", spec := "depTells", unfollowed := true, recurses := true, apart := false, narrowed := true }
def DepTellsUptoSaid : Prop := depTellsUptoRow.holds Tryz.pinned (OpenSpec.upto depTellsSpec)

/-- 'columbarylaw23.DepWalks', WHERE WHAT IT READS IS OF BULK AT MOST 1048576: true; the input reads as it did. -/
def depWalksUptoRow : OpenClaim := { program := "ytebibeaobhcfkaagreat", sum := "e9343acb687c0999d2326676cca3ed40fa42eb143895b199109b59c1c2afe044", func := "columbary/columbarylaw23.DepWalks", spec := "depWalks", unfollowed := true, recurses := true, apart := false, narrowed := true }
def DepWalksUptoSaid : Prop := depWalksUptoRow.holds Tryz.pinned (OpenSpec.upto depWalksSpec)

/-- 'columbarylaw23.DepRound', WHERE WHAT IT READS IS OF BULK AT MOST 1048576: true; the input reads as it did. -/
def depRoundUptoRow : OpenClaim := { program := "ytebibeaobhcfkaagreat", sum := "e9343acb687c0999d2326676cca3ed40fa42eb143895b199109b59c1c2afe044", func := "columbary/columbarylaw23.DepRound", spec := "depRound", unfollowed := true, recurses := true, apart := false, narrowed := true }
def DepRoundUptoSaid : Prop := depRoundUptoRow.holds Tryz.pinned (OpenSpec.upto depRoundSpec)

/-- 'columbarylaw23.DepForms', WHERE WHAT IT READS IS OF BULK AT MOST 1048576: true; the input reads as it did. -/
def depFormsUptoRow : OpenClaim := { program := "ytebibeaobhcfkaagreat", sum := "e9343acb687c0999d2326676cca3ed40fa42eb143895b199109b59c1c2afe044", func := "columbary/columbarylaw23.DepForms", spec := "depForms", unfollowed := true, recurses := true, apart := false, narrowed := true }
def DepFormsUptoSaid : Prop := depFormsUptoRow.holds Tryz.pinned (OpenSpec.upto depFormsSpec)

/-- 'columbarylaw23.DepGrows', WHERE WHAT IT READS IS OF BULK AT MOST 1048576: true; the input reads as it did. -/
def depGrowsUptoRow : OpenClaim := { program := "ytebibeaobhcfkaagreat", sum := "e9343acb687c0999d2326676cca3ed40fa42eb143895b199109b59c1c2afe044", func := "columbary/columbarylaw23.DepGrows", spec := "depGrows", unfollowed := true, recurses := true, apart := false, narrowed := true }
def DepGrowsUptoSaid : Prop := depGrowsUptoRow.holds Tryz.pinned (OpenSpec.upto depGrowsSpec)

end Rows
end Go.Proofs.YtebibeaobhcfkaaGreat
