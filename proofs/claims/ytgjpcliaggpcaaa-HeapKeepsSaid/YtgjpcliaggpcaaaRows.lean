/-
  No cell of these rows narrows 'for every input' (looked for: loops, veiled, ifaces, maps, wideKeys, modest, calm, conditions, laid).
  DERIVED. THE GIVEN ROWS OF THIS SEAT. 10 by the template 'for every input the law returns true; each argument reads behind the call as it read before'; 0 by the template 'total and deterministic' (their statements: YtgjpcliaggpcaaaTotals.lean).
  GIVEN WITH THE SEED: the statements are not yours to turn. If you find one false, say at which input.
  Laid BY PROGRAM, IN A SANDBOX (cutbox-rows.mjs): the forced cells as the released guide's own fill.sh prints them over the translation af6ae5ceb14cd2eb… (all of the seat's roots in one cut). By AI agents, Wed Nov 11 2026. No macro, syntax, notation, axiom, sorry.
-/
import Derived.Test.YtgjpcliaggpcaaaChecked
import GoSem.Claim
import GoSem.ClaimJoined
import GoSem.ClaimMapViews
import Derived.JoinedTies
import Derived.KernelRfl
namespace Go.Proofs.Ytgjpcliaggpcaaa
/- THE CELL 'sum', in the pinned program and in every row, IS THE sha256 OF THE DUMP (.gsa) THAT YtgjpcliaggpcaaaProg.lean LOADS. Nothing in Lean hashes anything: it is a label: what it is worth is what the hold of that sum in a sandbox is worth. -/
noncomputable def Try.pinned : Pinned := { name := "ytgjpcliaggpcaaa", sum := "af6ae5ceb14cd2ebc3f7d9090505a1423901257e8e846e05594b2eda2d3bb977", checked := Try.checked }
namespace Rows
def none {H : Type} : Left H := { results := [], args := [] }

/-- 'columbarylaw25.HeapMakes': WHATEVER THE INPUT: true; the input reads as it did. -/
def heapMakesSpec : ChangeSpec := { name := "heapMakes", fn := fun _ => fun
  | [d1, d2, d3, d4, d5, d6] => { results := [.lit (.bool true)], args := [d1, d2, d3, d4, d5, d6] }
  | _ => none }
def heapMakesRow : OpenClaim := { program := "ytgjpcliaggpcaaa", sum := "af6ae5ceb14cd2ebc3f7d9090505a1423901257e8e846e05594b2eda2d3bb977", func := "columbary/columbarylaw25.HeapMakes", spec := "heapMakes", apart := false }
def HeapMakesSaid : Prop := heapMakesRow.holds Try.pinned (OpenSpec.ofChange heapMakesSpec)

/-- ITS FALSE NEIGHBOUR: 'it returns false'. Refute it at one input. -/
def heapMakesWrong : ChangeSpec := { name := "heapMakes", fn := fun _ => fun
  | [d1, d2, d3, d4, d5, d6] => { results := [.lit (.bool false)], args := [d1, d2, d3, d4, d5, d6] }
  | _ => none }
def HeapMakesWrongFalsely : Prop := heapMakesRow.holds Try.pinned (OpenSpec.ofChange heapMakesWrong)

/-- 'columbarylaw25.HeapKeeps': WHATEVER THE INPUT: true; the input reads as it did. -/
def heapKeepsSpec : ChangeSpec := { name := "heapKeeps", fn := fun _ => fun
  | [d1, d2, d3, d4] => { results := [.lit (.bool true)], args := [d1, d2, d3, d4] }
  | _ => none }
def heapKeepsRow : OpenClaim := { program := "ytgjpcliaggpcaaa", sum := "af6ae5ceb14cd2ebc3f7d9090505a1423901257e8e846e05594b2eda2d3bb977", func := "columbary/columbarylaw25.HeapKeeps", spec := "heapKeeps", apart := false }
def HeapKeepsSaid : Prop := heapKeepsRow.holds Try.pinned (OpenSpec.ofChange heapKeepsSpec)

/-- ITS FALSE NEIGHBOUR: 'it returns false'. Refute it at one input. -/
def heapKeepsWrong : ChangeSpec := { name := "heapKeeps", fn := fun _ => fun
  | [d1, d2, d3, d4] => { results := [.lit (.bool false)], args := [d1, d2, d3, d4] }
  | _ => none }
def HeapKeepsWrongFalsely : Prop := heapKeepsRow.holds Try.pinned (OpenSpec.ofChange heapKeepsWrong)

/-- 'columbarylaw25.HeapTells': WHATEVER THE INPUT: true; the input reads as it did. -/
def heapTellsSpec : ChangeSpec := { name := "heapTells", fn := fun _ => fun
  | [d1, d2, d3, d4, d5, d6, d7] => { results := [.lit (.bool true)], args := [d1, d2, d3, d4, d5, d6, d7] }
  | _ => none }
def heapTellsRow : OpenClaim := { program := "ytgjpcliaggpcaaa", sum := "af6ae5ceb14cd2ebc3f7d9090505a1423901257e8e846e05594b2eda2d3bb977", func := "columbary/columbarylaw25.HeapTells", spec := "heapTells", apart := false }
def HeapTellsSaid : Prop := heapTellsRow.holds Try.pinned (OpenSpec.ofChange heapTellsSpec)

/-- ITS FALSE NEIGHBOUR: 'it returns false'. Refute it at one input. -/
def heapTellsWrong : ChangeSpec := { name := "heapTells", fn := fun _ => fun
  | [d1, d2, d3, d4, d5, d6, d7] => { results := [.lit (.bool false)], args := [d1, d2, d3, d4, d5, d6, d7] }
  | _ => none }
def HeapTellsWrongFalsely : Prop := heapTellsRow.holds Try.pinned (OpenSpec.ofChange heapTellsWrong)

/-- 'columbarylaw26.PostFinds': WHATEVER THE INPUT: true; the input reads as it did. -/
def postFindsSpec : ChangeSpec := { name := "postFinds", fn := fun _ => fun
  | [d1, d2] => { results := [.lit (.bool true)], args := [d1, d2] }
  | _ => none }
def postFindsRow : OpenClaim := { program := "ytgjpcliaggpcaaa", sum := "af6ae5ceb14cd2ebc3f7d9090505a1423901257e8e846e05594b2eda2d3bb977", func := "columbary/columbarylaw26.PostFinds", spec := "postFinds", apart := false }
def PostFindsSaid : Prop := postFindsRow.holds Try.pinned (OpenSpec.ofChange postFindsSpec)

/-- ITS FALSE NEIGHBOUR: 'it returns false'. Refute it at one input. -/
def postFindsWrong : ChangeSpec := { name := "postFinds", fn := fun _ => fun
  | [d1, d2] => { results := [.lit (.bool false)], args := [d1, d2] }
  | _ => none }
def PostFindsWrongFalsely : Prop := postFindsRow.holds Try.pinned (OpenSpec.ofChange postFindsWrong)

/-- 'columbarylaw25.HeapArrays': WHATEVER THE INPUT: true; the input reads as it did. -/
def heapArraysSpec : ChangeSpec := { name := "heapArrays", fn := fun _ => fun
  | [d1, d2, d3] => { results := [.lit (.bool true)], args := [d1, d2, d3] }
  | _ => none }
def heapArraysRow : OpenClaim := { program := "ytgjpcliaggpcaaa", sum := "af6ae5ceb14cd2ebc3f7d9090505a1423901257e8e846e05594b2eda2d3bb977", func := "columbary/columbarylaw25.HeapArrays", spec := "heapArrays", apart := false }
def HeapArraysSaid : Prop := heapArraysRow.holds Try.pinned (OpenSpec.ofChange heapArraysSpec)

/-- ITS FALSE NEIGHBOUR: 'it returns false'. Refute it at one input. -/
def heapArraysWrong : ChangeSpec := { name := "heapArrays", fn := fun _ => fun
  | [d1, d2, d3] => { results := [.lit (.bool false)], args := [d1, d2, d3] }
  | _ => none }
def HeapArraysWrongFalsely : Prop := heapArraysRow.holds Try.pinned (OpenSpec.ofChange heapArraysWrong)

/-- 'columbarylaw26.PostRefs': WHATEVER THE INPUT: true; the input reads as it did. -/
def postRefsSpec : ChangeSpec := { name := "postRefs", fn := fun _ => fun
  | [d1, d2, d3] => { results := [.lit (.bool true)], args := [d1, d2, d3] }
  | _ => none }
def postRefsRow : OpenClaim := { program := "ytgjpcliaggpcaaa", sum := "af6ae5ceb14cd2ebc3f7d9090505a1423901257e8e846e05594b2eda2d3bb977", func := "columbary/columbarylaw26.PostRefs", spec := "postRefs", apart := false }
def PostRefsSaid : Prop := postRefsRow.holds Try.pinned (OpenSpec.ofChange postRefsSpec)

/-- ITS FALSE NEIGHBOUR: 'it returns false'. Refute it at one input. -/
def postRefsWrong : ChangeSpec := { name := "postRefs", fn := fun _ => fun
  | [d1, d2, d3] => { results := [.lit (.bool false)], args := [d1, d2, d3] }
  | _ => none }
def PostRefsWrongFalsely : Prop := postRefsRow.holds Try.pinned (OpenSpec.ofChange postRefsWrong)

/-- 'columbarylaw26.PostPlays': WHATEVER THE INPUT: true; the input reads as it did. -/
def postPlaysSpec : ChangeSpec := { name := "postPlays", fn := fun _ => fun
  | [d] => { results := [.lit (.bool true)], args := [d] }
  | _ => none }
def postPlaysRow : OpenClaim := { program := "ytgjpcliaggpcaaa", sum := "af6ae5ceb14cd2ebc3f7d9090505a1423901257e8e846e05594b2eda2d3bb977", func := "columbary/columbarylaw26.PostPlays", spec := "postPlays", apart := false }
def PostPlaysSaid : Prop := postPlaysRow.holds Try.pinned (OpenSpec.ofChange postPlaysSpec)

/-- ITS FALSE NEIGHBOUR: 'it returns false'. Refute it at one input. -/
def postPlaysWrong : ChangeSpec := { name := "postPlays", fn := fun _ => fun
  | [d] => { results := [.lit (.bool false)], args := [d] }
  | _ => none }
def PostPlaysWrongFalsely : Prop := postPlaysRow.holds Try.pinned (OpenSpec.ofChange postPlaysWrong)

/-- 'columbarylaw26.PostKeeps': WHATEVER THE INPUT: true; the input reads as it did. -/
def postKeepsSpec : ChangeSpec := { name := "postKeeps", fn := fun _ => fun
  | [d1, d2, d3, d4] => { results := [.lit (.bool true)], args := [d1, d2, d3, d4] }
  | _ => none }
def postKeepsRow : OpenClaim := { program := "ytgjpcliaggpcaaa", sum := "af6ae5ceb14cd2ebc3f7d9090505a1423901257e8e846e05594b2eda2d3bb977", func := "columbary/columbarylaw26.PostKeeps", spec := "postKeeps", apart := false }
def PostKeepsSaid : Prop := postKeepsRow.holds Try.pinned (OpenSpec.ofChange postKeepsSpec)

/-- ITS FALSE NEIGHBOUR: 'it returns false'. Refute it at one input. -/
def postKeepsWrong : ChangeSpec := { name := "postKeeps", fn := fun _ => fun
  | [d1, d2, d3, d4] => { results := [.lit (.bool false)], args := [d1, d2, d3, d4] }
  | _ => none }
def PostKeepsWrongFalsely : Prop := postKeepsRow.holds Try.pinned (OpenSpec.ofChange postKeepsWrong)

/-- 'columbarylaw25.HeapPlays': WHATEVER THE INPUT: true; the input reads as it did. -/
def heapPlaysSpec : ChangeSpec := { name := "heapPlays", fn := fun _ => fun
  | [d] => { results := [.lit (.bool true)], args := [d] }
  | _ => none }
def heapPlaysRow : OpenClaim := { program := "ytgjpcliaggpcaaa", sum := "af6ae5ceb14cd2ebc3f7d9090505a1423901257e8e846e05594b2eda2d3bb977", func := "columbary/columbarylaw25.HeapPlays", spec := "heapPlays", apart := false }
def HeapPlaysSaid : Prop := heapPlaysRow.holds Try.pinned (OpenSpec.ofChange heapPlaysSpec)

/-- ITS FALSE NEIGHBOUR: 'it returns false'. Refute it at one input. -/
def heapPlaysWrong : ChangeSpec := { name := "heapPlays", fn := fun _ => fun
  | [d] => { results := [.lit (.bool false)], args := [d] }
  | _ => none }
def HeapPlaysWrongFalsely : Prop := heapPlaysRow.holds Try.pinned (OpenSpec.ofChange heapPlaysWrong)

/-- 'columbarylaw26.PostTells': WHATEVER THE INPUT: true; the input reads as it did. -/
def postTellsSpec : ChangeSpec := { name := "postTells", fn := fun _ => fun
  | [d1, d2, d3, d4, d5] => { results := [.lit (.bool true)], args := [d1, d2, d3, d4, d5] }
  | _ => none }
def postTellsRow : OpenClaim := { program := "ytgjpcliaggpcaaa", sum := "af6ae5ceb14cd2ebc3f7d9090505a1423901257e8e846e05594b2eda2d3bb977", func := "columbary/columbarylaw26.PostTells", spec := "postTells", apart := false }
def PostTellsSaid : Prop := postTellsRow.holds Try.pinned (OpenSpec.ofChange postTellsSpec)

/-- ITS FALSE NEIGHBOUR: 'it returns false'. Refute it at one input. -/
def postTellsWrong : ChangeSpec := { name := "postTells", fn := fun _ => fun
  | [d1, d2, d3, d4, d5] => { results := [.lit (.bool false)], args := [d1, d2, d3, d4, d5] }
  | _ => none }
def PostTellsWrongFalsely : Prop := postTellsRow.holds Try.pinned (OpenSpec.ofChange postTellsWrong)

/- THE SECOND FORM. 'bulk': how many values and letters a reading holds, each counted each time it is reached (what is shared counts as often as it is met; a slice's spare places count too). A statement '..UptoSaid' is the law's where the arguments, and the package variables that the reading takes, are together of bulk at most 1048576: NARROWER than '..Said'. Prove '..Said' where nothing that the law and all that it calls make is longer than what came in: it says more and counts as full. Else prove '..UptoSaid'. A law counts once. -/
mutual
def uptoBulk {H : Type} : DataW H → Nat
  | .lit (.string bytes) => bytes.length + 1
  | .lit _ => 1
  | .nil => 1
  | .ptr d => uptoBulk d + 1
  | .slice elems spare => uptoBulkAll elems + uptoBulkAll spare + 1
  | .agg parts => uptoBulkAll parts + 1
  | .iface _ d => uptoBulk d + 1
  | .map entries => uptoBulkEntries entries + 1
  | .held _ => 1
def uptoBulkAll {H : Type} : List (DataW H) → Nat
  | [] => 0
  | d :: r => uptoBulk d + uptoBulkAll r
def uptoBulkEntries {H : Type} : List (Lit × DataW H) → Nat
  | [] => 0
  | x :: r => uptoBulkEntry x + uptoBulkEntries r
def uptoBulkEntry {H : Type} : Lit × DataW H → Nat
  | (.string bytes, d) => bytes.length + uptoBulk d + 1
  | (_, d) => uptoBulk d + 1
 end
def uptoSmall : (H : Type) → List (DataW H) → Bool := fun _ ds => decide (uptoBulkAll ds ≤ 1048576)
def OpenSpec.upto (s : _root_.Go.ChangeSpec) : _root_.Go.OpenSpec := { _root_.Go.OpenSpec.ofChange s with cond := some uptoSmall }

/-- 'columbarylaw25.HeapMakes', WHERE WHAT IT READS IS OF BULK AT MOST 1048576: true; the input reads as it did. -/
def heapMakesUptoRow : OpenClaim := { program := "ytgjpcliaggpcaaa", sum := "af6ae5ceb14cd2ebc3f7d9090505a1423901257e8e846e05594b2eda2d3bb977", func := "columbary/columbarylaw25.HeapMakes", spec := "heapMakes", apart := false, narrowed := true }
def HeapMakesUptoSaid : Prop := heapMakesUptoRow.holds Try.pinned (OpenSpec.upto heapMakesSpec)

/-- 'columbarylaw25.HeapKeeps', WHERE WHAT IT READS IS OF BULK AT MOST 1048576: true; the input reads as it did. -/
def heapKeepsUptoRow : OpenClaim := { program := "ytgjpcliaggpcaaa", sum := "af6ae5ceb14cd2ebc3f7d9090505a1423901257e8e846e05594b2eda2d3bb977", func := "columbary/columbarylaw25.HeapKeeps", spec := "heapKeeps", apart := false, narrowed := true }
def HeapKeepsUptoSaid : Prop := heapKeepsUptoRow.holds Try.pinned (OpenSpec.upto heapKeepsSpec)

/-- 'columbarylaw25.HeapTells', WHERE WHAT IT READS IS OF BULK AT MOST 1048576: true; the input reads as it did. -/
def heapTellsUptoRow : OpenClaim := { program := "ytgjpcliaggpcaaa", sum := "af6ae5ceb14cd2ebc3f7d9090505a1423901257e8e846e05594b2eda2d3bb977", func := "columbary/columbarylaw25.HeapTells", spec := "heapTells", apart := false, narrowed := true }
def HeapTellsUptoSaid : Prop := heapTellsUptoRow.holds Try.pinned (OpenSpec.upto heapTellsSpec)

/-- 'columbarylaw26.PostFinds', WHERE WHAT IT READS IS OF BULK AT MOST 1048576: true; the input reads as it did. -/
def postFindsUptoRow : OpenClaim := { program := "ytgjpcliaggpcaaa", sum := "af6ae5ceb14cd2ebc3f7d9090505a1423901257e8e846e05594b2eda2d3bb977", func := "columbary/columbarylaw26.PostFinds", spec := "postFinds", apart := false, narrowed := true }
def PostFindsUptoSaid : Prop := postFindsUptoRow.holds Try.pinned (OpenSpec.upto postFindsSpec)

/-- 'columbarylaw25.HeapArrays', WHERE WHAT IT READS IS OF BULK AT MOST 1048576: true; the input reads as it did. -/
def heapArraysUptoRow : OpenClaim := { program := "ytgjpcliaggpcaaa", sum := "af6ae5ceb14cd2ebc3f7d9090505a1423901257e8e846e05594b2eda2d3bb977", func := "columbary/columbarylaw25.HeapArrays", spec := "heapArrays", apart := false, narrowed := true }
def HeapArraysUptoSaid : Prop := heapArraysUptoRow.holds Try.pinned (OpenSpec.upto heapArraysSpec)

/-- 'columbarylaw26.PostRefs', WHERE WHAT IT READS IS OF BULK AT MOST 1048576: true; the input reads as it did. -/
def postRefsUptoRow : OpenClaim := { program := "ytgjpcliaggpcaaa", sum := "af6ae5ceb14cd2ebc3f7d9090505a1423901257e8e846e05594b2eda2d3bb977", func := "columbary/columbarylaw26.PostRefs", spec := "postRefs", apart := false, narrowed := true }
def PostRefsUptoSaid : Prop := postRefsUptoRow.holds Try.pinned (OpenSpec.upto postRefsSpec)

/-- 'columbarylaw26.PostPlays', WHERE WHAT IT READS IS OF BULK AT MOST 1048576: true; the input reads as it did. -/
def postPlaysUptoRow : OpenClaim := { program := "ytgjpcliaggpcaaa", sum := "af6ae5ceb14cd2ebc3f7d9090505a1423901257e8e846e05594b2eda2d3bb977", func := "columbary/columbarylaw26.PostPlays", spec := "postPlays", apart := false, narrowed := true }
def PostPlaysUptoSaid : Prop := postPlaysUptoRow.holds Try.pinned (OpenSpec.upto postPlaysSpec)

/-- 'columbarylaw26.PostKeeps', WHERE WHAT IT READS IS OF BULK AT MOST 1048576: true; the input reads as it did. -/
def postKeepsUptoRow : OpenClaim := { program := "ytgjpcliaggpcaaa", sum := "af6ae5ceb14cd2ebc3f7d9090505a1423901257e8e846e05594b2eda2d3bb977", func := "columbary/columbarylaw26.PostKeeps", spec := "postKeeps", apart := false, narrowed := true }
def PostKeepsUptoSaid : Prop := postKeepsUptoRow.holds Try.pinned (OpenSpec.upto postKeepsSpec)

/-- 'columbarylaw25.HeapPlays', WHERE WHAT IT READS IS OF BULK AT MOST 1048576: true; the input reads as it did. -/
def heapPlaysUptoRow : OpenClaim := { program := "ytgjpcliaggpcaaa", sum := "af6ae5ceb14cd2ebc3f7d9090505a1423901257e8e846e05594b2eda2d3bb977", func := "columbary/columbarylaw25.HeapPlays", spec := "heapPlays", apart := false, narrowed := true }
def HeapPlaysUptoSaid : Prop := heapPlaysUptoRow.holds Try.pinned (OpenSpec.upto heapPlaysSpec)

/-- 'columbarylaw26.PostTells', WHERE WHAT IT READS IS OF BULK AT MOST 1048576: true; the input reads as it did. -/
def postTellsUptoRow : OpenClaim := { program := "ytgjpcliaggpcaaa", sum := "af6ae5ceb14cd2ebc3f7d9090505a1423901257e8e846e05594b2eda2d3bb977", func := "columbary/columbarylaw26.PostTells", spec := "postTells", apart := false, narrowed := true }
def PostTellsUptoSaid : Prop := postTellsUptoRow.holds Try.pinned (OpenSpec.upto postTellsSpec)

end Rows
end Go.Proofs.Ytgjpcliaggpcaaa
