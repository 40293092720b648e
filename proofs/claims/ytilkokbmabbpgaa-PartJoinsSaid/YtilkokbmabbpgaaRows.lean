/-
  No cell of these rows narrows 'for every input' (looked for: loops, veiled, ifaces, maps, wideKeys, modest, calm, conditions, laid).
  DERIVED. THE GIVEN ROWS OF THIS SEAT. 5 by the template 'for every input the law returns true; each argument reads behind the call as it read before'; 0 by the template 'total and deterministic' (their statements: YtilkokbmabbpgaaTotals.lean).
  GIVEN WITH THE SEED: the statements are not yours to turn. If you find one false, say at which input.
  Laid BY PROGRAM, IN A SANDBOX (cutbox-rows.mjs): the forced cells as the released guide's own fill.sh prints them over the translation 33f13556269f9fea… (all of the seat's roots in one cut). By AI agents, Wed Nov 11 2026. No macro, syntax, notation, axiom, sorry.
-/
import Derived.Test.YtilkokbmabbpgaaChecked
import GoSem.Claim
import GoSem.ClaimJoined
import GoSem.ClaimMapViews
import Derived.JoinedTies
import Derived.KernelRfl
namespace Go.Proofs.Ytilkokbmabbpgaa
/- THE CELL 'sum', in the pinned program and in every row, IS THE sha256 OF THE DUMP (.gsa) THAT YtilkokbmabbpgaaProg.lean LOADS. Nothing in Lean hashes anything: it is a label: what it is worth is what the hold of that sum in a sandbox is worth. -/
noncomputable def Try.pinned : Pinned := { name := "ytilkokbmabbpgaa", sum := "33f13556269f9fea7be10e458ca835d256db4abedbb4693c5ef0096f7fbec49e", checked := Try.checked }
namespace Rows
def none {H : Type} : Left H := { results := [], args := [] }

/-- 'columbarylaw22.PartJoins': WHATEVER THE INPUT: true; the input reads as it did. -/
def partJoinsSpec : ChangeSpec := { name := "partJoins", fn := fun _ => fun
  | [d1, d2, d3] => { results := [.lit (.bool true)], args := [d1, d2, d3] }
  | _ => none }
def partJoinsRow : OpenClaim := { program := "ytilkokbmabbpgaa", sum := "33f13556269f9fea7be10e458ca835d256db4abedbb4693c5ef0096f7fbec49e", func := "columbary/columbarylaw22.PartJoins", spec := "partJoins", unfollowed := true, recurses := true, apart := false }
def PartJoinsSaid : Prop := partJoinsRow.holds Try.pinned (OpenSpec.ofChange partJoinsSpec)

/-- ITS FALSE NEIGHBOUR: 'it returns false'. Refute it at one input. -/
def partJoinsWrong : ChangeSpec := { name := "partJoins", fn := fun _ => fun
  | [d1, d2, d3] => { results := [.lit (.bool false)], args := [d1, d2, d3] }
  | _ => none }
def PartJoinsWrongFalsely : Prop := partJoinsRow.holds Try.pinned (OpenSpec.ofChange partJoinsWrong)

/-- 'columbarylaw22.PartMerge': WHATEVER THE INPUT: true; the input reads as it did. -/
def partMergeSpec : ChangeSpec := { name := "partMerge", fn := fun _ => fun
  | [d1, d2, d3, d4] => { results := [.lit (.bool true)], args := [d1, d2, d3, d4] }
  | _ => none }
def partMergeRow : OpenClaim := { program := "ytilkokbmabbpgaa", sum := "33f13556269f9fea7be10e458ca835d256db4abedbb4693c5ef0096f7fbec49e", func := "columbary/columbarylaw22.PartMerge", spec := "partMerge", unfollowed := true, recurses := true, apart := false }
def PartMergeSaid : Prop := partMergeRow.holds Try.pinned (OpenSpec.ofChange partMergeSpec)

/-- ITS FALSE NEIGHBOUR: 'it returns false'. Refute it at one input. -/
def partMergeWrong : ChangeSpec := { name := "partMerge", fn := fun _ => fun
  | [d1, d2, d3, d4] => { results := [.lit (.bool false)], args := [d1, d2, d3, d4] }
  | _ => none }
def PartMergeWrongFalsely : Prop := partMergeRow.holds Try.pinned (OpenSpec.ofChange partMergeWrong)

/-- 'columbarylaw22.PartAlone': WHATEVER THE INPUT: true; the input reads as it did. -/
def partAloneSpec : ChangeSpec := { name := "partAlone", fn := fun _ => fun
  | [d1, d2, d3] => { results := [.lit (.bool true)], args := [d1, d2, d3] }
  | _ => none }
def partAloneRow : OpenClaim := { program := "ytilkokbmabbpgaa", sum := "33f13556269f9fea7be10e458ca835d256db4abedbb4693c5ef0096f7fbec49e", func := "columbary/columbarylaw22.PartAlone", spec := "partAlone", unfollowed := true, recurses := true, apart := false }
def PartAloneSaid : Prop := partAloneRow.holds Try.pinned (OpenSpec.ofChange partAloneSpec)

/-- ITS FALSE NEIGHBOUR: 'it returns false'. Refute it at one input. -/
def partAloneWrong : ChangeSpec := { name := "partAlone", fn := fun _ => fun
  | [d1, d2, d3] => { results := [.lit (.bool false)], args := [d1, d2, d3] }
  | _ => none }
def PartAloneWrongFalsely : Prop := partAloneRow.holds Try.pinned (OpenSpec.ofChange partAloneWrong)

/-- 'columbarylaw22.PartKeep': WHATEVER THE INPUT: true; the input reads as it did. -/
def partKeepSpec : ChangeSpec := { name := "partKeep", fn := fun _ => fun
  | [d1, d2, d3] => { results := [.lit (.bool true)], args := [d1, d2, d3] }
  | _ => none }
def partKeepRow : OpenClaim := { program := "ytilkokbmabbpgaa", sum := "33f13556269f9fea7be10e458ca835d256db4abedbb4693c5ef0096f7fbec49e", func := "columbary/columbarylaw22.PartKeep", spec := "partKeep", unfollowed := true, recurses := true, apart := false }
def PartKeepSaid : Prop := partKeepRow.holds Try.pinned (OpenSpec.ofChange partKeepSpec)

/-- ITS FALSE NEIGHBOUR: 'it returns false'. Refute it at one input. -/
def partKeepWrong : ChangeSpec := { name := "partKeep", fn := fun _ => fun
  | [d1, d2, d3] => { results := [.lit (.bool false)], args := [d1, d2, d3] }
  | _ => none }
def PartKeepWrongFalsely : Prop := partKeepRow.holds Try.pinned (OpenSpec.ofChange partKeepWrong)

/-- 'columbarylaw22.PartTells': WHATEVER THE INPUT: true; the input reads as it did. -/
def partTellsSpec : ChangeSpec := { name := "partTells", fn := fun _ => fun
  | [d1, d2, d3, d4, d5, d6] => { results := [.lit (.bool true)], args := [d1, d2, d3, d4, d5, d6] }
  | _ => none }
def partTellsRow : OpenClaim := { program := "ytilkokbmabbpgaa", sum := "33f13556269f9fea7be10e458ca835d256db4abedbb4693c5ef0096f7fbec49e", func := "columbary/columbarylaw22.PartTells", spec := "partTells", unfollowed := true, recurses := true, apart := false }
def PartTellsSaid : Prop := partTellsRow.holds Try.pinned (OpenSpec.ofChange partTellsSpec)

/-- ITS FALSE NEIGHBOUR: 'it returns false'. Refute it at one input. -/
def partTellsWrong : ChangeSpec := { name := "partTells", fn := fun _ => fun
  | [d1, d2, d3, d4, d5, d6] => { results := [.lit (.bool false)], args := [d1, d2, d3, d4, d5, d6] }
  | _ => none }
def PartTellsWrongFalsely : Prop := partTellsRow.holds Try.pinned (OpenSpec.ofChange partTellsWrong)

/- THE SECOND FORM. 'bulk': how many values and letters a reading holds, each counted each time it is reached (what is shared counts as often as it is met; a slice's spare places count too). A statement '..UptoSaid' is the law's where the arguments, and the package variables that the reading takes, are together of bulk at most 1048576: NARROWER than '..Said'. Prove '..Said' where nothing that the law and all that it calls make is longer than what came in: it says more and counts as full. Else prove '..UptoSaid'. A law counts once. -/
mutual
def uptoBulk {H : Type} : DataW H → Nat
  | .lit (.string bytes) => bytes.length + 1
  | .lit _ => 1
  | .nil => 1
  | .ptr d => uptoBulk d + 1
  | .slice elems spare => uptoBulkAll elems + uptoBulkAll spare + 1
  | .agg parts => uptoBulkAll parts + 1
  | .iface _ d => uptoBulk d + 1
  | .map entries => uptoBulkEntries entries + 1
  | .held _ => 1
def uptoBulkAll {H : Type} : List (DataW H) → Nat
  | [] => 0
  | d :: r => uptoBulk d + uptoBulkAll r
def uptoBulkEntries {H : Type} : List (Lit × DataW H) → Nat
  | [] => 0
  | x :: r => uptoBulkEntry x + uptoBulkEntries r
def uptoBulkEntry {H : Type} : Lit × DataW H → Nat
  | (.string bytes, d) => bytes.length + uptoBulk d + 1
  | (_, d) => uptoBulk d + 1
 end
def uptoSmall : (H : Type) → List (DataW H) → Bool := fun _ ds => decide (uptoBulkAll ds ≤ 1048576)
def OpenSpec.upto (s : _root_.Go.ChangeSpec) : _root_.Go.OpenSpec := { _root_.Go.OpenSpec.ofChange s with cond := some uptoSmall }

/-- 'columbarylaw22.PartJoins', WHERE WHAT IT READS IS OF BULK AT MOST 1048576: true; the input reads as it did. -/
def partJoinsUptoRow : OpenClaim := { program := "ytilkokbmabbpgaa", sum := "33f13556269f9fea7be10e458ca835d256db4abedbb4693c5ef0096f7fbec49e", func := "columbary/columbarylaw22.PartJoins", spec := "partJoins", unfollowed := true, recurses := true, apart := false, narrowed := true }
def PartJoinsUptoSaid : Prop := partJoinsUptoRow.holds Try.pinned (OpenSpec.upto partJoinsSpec)

/-- 'columbarylaw22.PartMerge', WHERE WHAT IT READS IS OF BULK AT MOST 1048576: true; the input reads as it did. -/
def partMergeUptoRow : OpenClaim := { program := "ytilkokbmabbpgaa", sum := "33f13556269f9fea7be10e458ca835d256db4abedbb4693c5ef0096f7fbec49e", func := "columbary/columbarylaw22.PartMerge", spec := "partMerge", unfollowed := true, recurses := true, apart := false, narrowed := true }
def PartMergeUptoSaid : Prop := partMergeUptoRow.holds Try.pinned (OpenSpec.upto partMergeSpec)

/-- 'columbarylaw22.PartAlone', WHERE WHAT IT READS IS OF BULK AT MOST 1048576: true; the input reads as it did. -/
def partAloneUptoRow : OpenClaim := { program := "ytilkokbmabbpgaa", sum := "33f13556269f9fea7be10e458ca835d256db4abedbb4693c5ef0096f7fbec49e", func := "columbary/columbarylaw22.PartAlone", spec := "partAlone", unfollowed := true, recurses := true, apart := false, narrowed := true }
def PartAloneUptoSaid : Prop := partAloneUptoRow.holds Try.pinned (OpenSpec.upto partAloneSpec)

/-- 'columbarylaw22.PartKeep', WHERE WHAT IT READS IS OF BULK AT MOST 1048576: true; the input reads as it did. -/
def partKeepUptoRow : OpenClaim := { program := "ytilkokbmabbpgaa", sum := "33f13556269f9fea7be10e458ca835d256db4abedbb4693c5ef0096f7fbec49e", func := "columbary/columbarylaw22.PartKeep", spec := "partKeep", unfollowed := true, recurses := true, apart := false, narrowed := true }
def PartKeepUptoSaid : Prop := partKeepUptoRow.holds Try.pinned (OpenSpec.upto partKeepSpec)

/-- 'columbarylaw22.PartTells', WHERE WHAT IT READS IS OF BULK AT MOST 1048576: true; the input reads as it did. -/
def partTellsUptoRow : OpenClaim := { program := "ytilkokbmabbpgaa", sum := "33f13556269f9fea7be10e458ca835d256db4abedbb4693c5ef0096f7fbec49e", func := "columbary/columbarylaw22.PartTells", spec := "partTells", unfollowed := true, recurses := true, apart := false, narrowed := true }
def PartTellsUptoSaid : Prop := partTellsUptoRow.holds Try.pinned (OpenSpec.upto partTellsSpec)

end Rows
end Go.Proofs.Ytilkokbmabbpgaa
