/- What the walks ask of types and functions: closed facts, printed by wip/tools/mkp.py. -/
import Derived.Test.YtgjpcliaggpcaaaAbR4
import Derived.Test.YtgjpcliaggpcaaaProg
import Derived.KernelRfl
set_option linter.unusedVariables false
set_option linter.unusedSimpArgs false
set_option maxRecDepth 100000
namespace Go.Proofs.Ytgjpcliaggpcaaa.Ab
open Go
theorem mixed : Try.prog.follows .mixedOrders = true := by kernel_rfl
@[go_sem] theorem ag_3 : isAggK Try.prog 3 = some false := by kernel_rfl
@[go_sem] theorem sz_3 : sizeK Try.prog 3 = some 1 := by kernel_rfl
@[go_sem] theorem ag_4 : isAggK Try.prog 4 = some false := by kernel_rfl
@[go_sem] theorem sz_4 : sizeK Try.prog 4 = some 1 := by kernel_rfl
@[go_sem] theorem ag_23 : isAggK Try.prog 23 = some false := by kernel_rfl
@[go_sem] theorem sz_23 : sizeK Try.prog 23 = some 1 := by kernel_rfl
@[go_sem] theorem ag_25 : isAggK Try.prog 25 = some true := by kernel_rfl
@[go_sem] theorem sz_25 : sizeK Try.prog 25 = some 2 := by kernel_rfl
@[go_sem] theorem ag_26 : isAggK Try.prog 26 = some false := by kernel_rfl
@[go_sem] theorem sz_26 : sizeK Try.prog 26 = some 1 := by kernel_rfl
@[go_sem] theorem ag_28 : isAggK Try.prog 28 = some false := by kernel_rfl
@[go_sem] theorem sz_28 : sizeK Try.prog 28 = some 1 := by kernel_rfl
@[go_sem] theorem ag_41 : isAggK Try.prog 41 = some true := by kernel_rfl
@[go_sem] theorem sz_41 : sizeK Try.prog 41 = some 2 := by kernel_rfl
@[go_sem] theorem ag_46 : isAggK Try.prog 46 = some true := by kernel_rfl
@[go_sem] theorem sz_46 : sizeK Try.prog 46 = some 5 := by kernel_rfl
@[go_sem] theorem ag_54 : isAggK Try.prog 54 = some false := by kernel_rfl
@[go_sem] theorem sz_54 : sizeK Try.prog 54 = some 1 := by kernel_rfl
@[go_sem] theorem ag_64 : isAggK Try.prog 64 = some false := by kernel_rfl
@[go_sem] theorem sz_64 : sizeK Try.prog 64 = some 1 := by kernel_rfl
@[go_sem] theorem ag_66 : isAggK Try.prog 66 = some true := by kernel_rfl
@[go_sem] theorem sz_66 : sizeK Try.prog 66 = some 4 := by kernel_rfl
@[go_sem] theorem ag_70 : isAggK Try.prog 70 = some true := by kernel_rfl
@[go_sem] theorem sz_70 : sizeK Try.prog 70 = some 3 := by kernel_rfl
@[go_sem] theorem ag_76 : isAggK Try.prog 76 = some true := by kernel_rfl
@[go_sem] theorem sz_76 : sizeK Try.prog 76 = some 3 := by kernel_rfl
@[go_sem] theorem ag_79 : isAggK Try.prog 79 = some false := by kernel_rfl
@[go_sem] theorem sz_79 : sizeK Try.prog 79 = some 1 := by kernel_rfl
@[go_sem] theorem ag_81 : isAggK Try.prog 81 = some true := by kernel_rfl
@[go_sem] theorem sz_81 : sizeK Try.prog 81 = some 2 := by kernel_rfl
@[go_sem] theorem ag_94 : isAggK Try.prog 94 = some true := by kernel_rfl
@[go_sem] theorem sz_94 : sizeK Try.prog 94 = some 2 := by kernel_rfl
@[go_sem] theorem ag_103 : isAggK Try.prog 103 = some true := by kernel_rfl
@[go_sem] theorem sz_103 : sizeK Try.prog 103 = some 2 := by kernel_rfl
@[go_sem] theorem of_25_0 : offK Try.prog 25 0 = some 0 := by kernel_rfl
@[go_sem] theorem of_25_1 : offK Try.prog 25 1 = some 1 := by kernel_rfl
@[go_sem] theorem of_41_0 : offK Try.prog 41 0 = some 0 := by kernel_rfl
@[go_sem] theorem of_41_1 : offK Try.prog 41 1 = some 1 := by kernel_rfl
@[go_sem] theorem of_46_0 : offK Try.prog 46 0 = some 0 := by kernel_rfl
@[go_sem] theorem of_46_1 : offK Try.prog 46 1 = some 1 := by kernel_rfl
@[go_sem] theorem of_66_0 : offK Try.prog 66 0 = some 0 := by kernel_rfl
@[go_sem] theorem of_66_2 : offK Try.prog 66 2 = some 2 := by kernel_rfl
@[go_sem] theorem of_70_1 : offK Try.prog 70 1 = some 1 := by kernel_rfl
@[go_sem] theorem of_76_0 : offK Try.prog 76 0 = some 0 := by kernel_rfl
@[go_sem] theorem of_76_1 : offK Try.prog 76 1 = some 1 := by kernel_rfl
@[go_sem] theorem of_76_2 : offK Try.prog 76 2 = some 2 := by kernel_rfl
@[go_sem] theorem of_81_0 : offK Try.prog 81 0 = some 0 := by kernel_rfl
@[go_sem] theorem of_81_1 : offK Try.prog 81 1 = some 1 := by kernel_rfl
@[go_sem] theorem of_94_0 : offK Try.prog 94 0 = some 0 := by kernel_rfl
@[go_sem] theorem of_94_1 : offK Try.prog 94 1 = some 1 := by kernel_rfl
@[go_sem] theorem of_103_0 : offK Try.prog 103 0 = some 0 := by kernel_rfl
@[go_sem] theorem of_103_1 : offK Try.prog 103 1 = some 1 := by kernel_rfl
@[go_sem] theorem el_22 : elK Try.prog 22 = some (94, 2) := by kernel_rfl
@[go_sem] theorem el_23 : elK Try.prog 23 = some (3, 1) := by kernel_rfl
@[go_sem] theorem el_26 : elK Try.prog 26 = some (41, 2) := by kernel_rfl
@[go_sem] theorem el_28 : elK Try.prog 28 = some (25, 2) := by kernel_rfl
@[go_sem] theorem el_39 : elK Try.prog 39 = some (26, 1) := by kernel_rfl
@[go_sem] theorem el_47 : elK Try.prog 47 = some (46, 5) := by kernel_rfl
@[go_sem] theorem el_54 : elK Try.prog 54 = some (81, 2) := by kernel_rfl
@[go_sem] theorem el_61 : elK Try.prog 61 = some (23, 1) := by kernel_rfl
@[go_sem] theorem el_62 : elK Try.prog 62 = some (103, 2) := by kernel_rfl
@[go_sem] theorem el_64 : elK Try.prog 64 = some (70, 3) := by kernel_rfl
@[go_sem] theorem el_73 : elK Try.prog 73 = some (4, 1) := by kernel_rfl
@[go_sem] theorem el_79 : elK Try.prog 79 = some (76, 3) := by kernel_rfl
@[go_sem] theorem el_85 : elK Try.prog 85 = some (54, 1) := by kernel_rfl
@[go_sem] theorem el_89 : elK Try.prog 89 = some (28, 1) := by kernel_rfl
theorem ap_22 : apK Try.prog 22 = some (94, 2, 32) := by kernel_rfl
theorem ap_23 : apK Try.prog 23 = some (3, 1, 8) := by kernel_rfl
theorem ap_26 : apK Try.prog 26 = some (41, 2, 32) := by kernel_rfl
theorem ap_28 : apK Try.prog 28 = some (25, 2, 16) := by kernel_rfl
theorem ap_39 : apK Try.prog 39 = some (26, 1, 24) := by kernel_rfl
theorem ap_47 : apK Try.prog 47 = some (46, 5, 64) := by kernel_rfl
theorem ap_54 : apK Try.prog 54 = some (81, 2, 32) := by kernel_rfl
theorem ap_61 : apK Try.prog 61 = some (23, 1, 24) := by kernel_rfl
theorem ap_62 : apK Try.prog 62 = some (103, 2, 32) := by kernel_rfl
theorem ap_64 : apK Try.prog 64 = some (70, 3, 56) := by kernel_rfl
theorem ap_73 : apK Try.prog 73 = some (4, 1, 1) := by kernel_rfl
theorem ap_79 : apK Try.prog 79 = some (76, 3, 40) := by kernel_rfl
theorem ap_85 : apK Try.prog 85 = some (54, 1, 24) := by kernel_rfl
theorem ap_89 : apK Try.prog 89 = some (28, 1, 24) := by kernel_rfl
@[go_sem] theorem pl_25 : plK Try.prog 25 = some [(0, 1), (1, 1)] := by kernel_rfl
@[go_sem] theorem pl_41 : plK Try.prog 41 = some [(0, 1), (1, 1)] := by kernel_rfl
@[go_sem] theorem pl_46 : plK Try.prog 46 = some [(0, 1), (1, 1), (2, 1), (3, 1), (4, 1)] := by kernel_rfl
@[go_sem] theorem pl_66 : plK Try.prog 66 = some [(0, 1), (1, 1), (2, 1), (3, 1)] := by kernel_rfl
@[go_sem] theorem pl_70 : plK Try.prog 70 = some [(0, 1), (1, 1), (2, 1)] := by kernel_rfl
@[go_sem] theorem pl_76 : plK Try.prog 76 = some [(0, 1), (1, 1), (2, 1)] := by kernel_rfl
@[go_sem] theorem pl_81 : plK Try.prog 81 = some [(0, 1), (1, 1)] := by kernel_rfl
@[go_sem] theorem pl_94 : plK Try.prog 94 = some [(0, 1), (1, 1)] := by kernel_rfl
@[go_sem] theorem pl_103 : plK Try.prog 103 = some [(0, 1), (1, 1)] := by kernel_rfl
@[go_sem] theorem zr_25 : zeroK Try.prog 25 = some [.int .i64 0, .int .i64 0] := by kernel_rfl
@[go_sem] theorem zr_41 : zeroK Try.prog 41 = some [.int .i64 0, .slice none 0 0] := by kernel_rfl
@[go_sem] theorem zr_46 : zeroK Try.prog 46 = some [.int .i64 0, .int .i64 0, .int .i64 0, .string ⟨#[]⟩, .slice none 0 0] := by kernel_rfl
@[go_sem] theorem zr_66 : zeroK Try.prog 66 = some [.slice none 0 0, .slice none 0 0, .slice none 0 0, .int .i64 0] := by kernel_rfl
@[go_sem] theorem zr_70 : zeroK Try.prog 70 = some [.int .i64 0, .slice none 0 0, .slice none 0 0] := by kernel_rfl
@[go_sem] theorem zr_76 : zeroK Try.prog 76 = some [.int .i64 0, .int .i64 0, .slice none 0 0] := by kernel_rfl
@[go_sem] theorem zr_81 : zeroK Try.prog 81 = some [.bool false, .slice none 0 0] := by kernel_rfl
@[go_sem] theorem zr_94 : zeroK Try.prog 94 = some [.int .i64 0, .slice none 0 0] := by kernel_rfl
@[go_sem] theorem zr_103 : zeroK Try.prog 103 = some [.bool false, .slice none 0 0] := by kernel_rfl
@[go_sem] theorem un_3 : Try.prog.underlying 3 = some (Go.TypeDesc.int Go.IntKind.i64) := by kernel_rfl
@[go_sem] theorem un_22 : Try.prog.underlying 22 = some (Go.TypeDesc.slice 94) := by kernel_rfl
@[go_sem] theorem un_23 : Try.prog.underlying 23 = some (Go.TypeDesc.slice 3) := by kernel_rfl
@[go_sem] theorem un_26 : Try.prog.underlying 26 = some (Go.TypeDesc.slice 41) := by kernel_rfl
@[go_sem] theorem un_28 : Try.prog.underlying 28 = some (Go.TypeDesc.slice 25) := by kernel_rfl
@[go_sem] theorem un_39 : Try.prog.underlying 39 = some (Go.TypeDesc.slice 26) := by kernel_rfl
@[go_sem] theorem un_47 : Try.prog.underlying 47 = some (Go.TypeDesc.slice 46) := by kernel_rfl
@[go_sem] theorem un_54 : Try.prog.underlying 54 = some (Go.TypeDesc.slice 81) := by kernel_rfl
@[go_sem] theorem un_61 : Try.prog.underlying 61 = some (Go.TypeDesc.slice 23) := by kernel_rfl
@[go_sem] theorem un_62 : Try.prog.underlying 62 = some (Go.TypeDesc.slice 103) := by kernel_rfl
@[go_sem] theorem un_64 : Try.prog.underlying 64 = some (Go.TypeDesc.slice 70) := by kernel_rfl
@[go_sem] theorem un_73 : Try.prog.underlying 73 = some (Go.TypeDesc.slice 4) := by kernel_rfl
@[go_sem] theorem un_79 : Try.prog.underlying 79 = some (Go.TypeDesc.slice 76) := by kernel_rfl
@[go_sem] theorem un_85 : Try.prog.underlying 85 = some (Go.TypeDesc.slice 54) := by kernel_rfl
@[go_sem] theorem un_89 : Try.prog.underlying 89 = some (Go.TypeDesc.slice 28) := by kernel_rfl
theorem ok_2 : okW Try.prog [] 2 = true := by kernel_rfl
@[go_sem] theorem cl_2 {cap args : List Value} : callK Try.prog (.func (.func 2) #[] (List.toArray cap)) (List.toArray args) = .call 2 (List.toArray (args ++ cap)) := call_cap Try.func2 (by kernel_rfl) (by kernel_rfl)
theorem fw_2 {l : List Value} {H : AHeap} {K : Value → AHeap → Prop} (hl : l.length ≤ 0) (h : Fine H → wC Try.prog H.fz [] (Try.f2.body.getD .skip) (argsE l) H (finQ Try.prog [] K)) : FnW Try.prog 2 l.toArray H K := fnW_ok [] mixed Try.func2 ok_2 hl (by decide) rfl h
theorem ok_3 : okW Try.prog [(18, [(4, 8)])] 3 = true := by kernel_rfl
@[go_sem] theorem cl_3 {cap args : List Value} : callK Try.prog (.func (.func 3) #[] (List.toArray cap)) (List.toArray args) = .call 3 (List.toArray (args ++ cap)) := call_cap Try.func3 (by kernel_rfl) (by kernel_rfl)
theorem fw_3 {l : List Value} {H : AHeap} {K : Value → AHeap → Prop} (hl : l.length ≤ 6) (h : Fine H → wC Try.prog H.fz [(18, [(4, 8)])] (Try.f3.body.getD .skip) (argsE l) H (finQ Try.prog [.tmp 12] K)) : FnW Try.prog 3 l.toArray H K := fnW_ok [(18, [(4, 8)])] mixed Try.func3 ok_3 hl (by decide) rfl h
theorem ok_4 : okW Try.prog [(3, [(2, 5), (4, 5)])] 4 = true := by kernel_rfl
@[go_sem] theorem cl_4 {cap args : List Value} : callK Try.prog (.func (.func 4) #[] (List.toArray cap)) (List.toArray args) = .call 4 (List.toArray (args ++ cap)) := call_cap Try.func4 (by kernel_rfl) (by kernel_rfl)
theorem fw_4 {l : List Value} {H : AHeap} {K : Value → AHeap → Prop} (hl : l.length ≤ 4) (h : Fine H → wC Try.prog H.fz [(3, [(2, 5), (4, 5)])] (Try.f4.body.getD .skip) (argsE l) H (finQ Try.prog [.tmp 8] K)) : FnW Try.prog 4 l.toArray H K := fnW_ok [(3, [(2, 5), (4, 5)])] mixed Try.func4 ok_4 hl (by decide) rfl h
theorem ok_5 : okW Try.prog [(2, [(0, 2)]), (8, [(2, 3), (2, 4)])] 5 = true := by kernel_rfl
@[go_sem] theorem cl_5 {cap args : List Value} : callK Try.prog (.func (.func 5) #[] (List.toArray cap)) (List.toArray args) = .call 5 (List.toArray (args ++ cap)) := call_cap Try.func5 (by kernel_rfl) (by kernel_rfl)
theorem fw_5 {l : List Value} {H : AHeap} {K : Value → AHeap → Prop} (hl : l.length ≤ 7) (h : Fine H → wC Try.prog H.fz [(2, [(0, 2)]), (8, [(2, 3), (2, 4)])] (Try.f5.body.getD .skip) (argsE l) H (finQ Try.prog [.tmp 14] K)) : FnW Try.prog 5 l.toArray H K := fnW_ok [(2, [(0, 2)]), (8, [(2, 3), (2, 4)])] mixed Try.func5 ok_5 hl (by decide) rfl h
theorem ok_6 : okW Try.prog [] 6 = true := by kernel_rfl
@[go_sem] theorem cl_6 {cap args : List Value} : callK Try.prog (.func (.func 6) #[] (List.toArray cap)) (List.toArray args) = .call 6 (List.toArray (args ++ cap)) := call_cap Try.func6 (by kernel_rfl) (by kernel_rfl)
theorem fw_6 {l : List Value} {H : AHeap} {K : Value → AHeap → Prop} (hl : l.length ≤ 2) (h : Fine H → wC Try.prog H.fz [] (Try.f6.body.getD .skip) (argsE l) H (finQ Try.prog [.tmp 4] K)) : FnW Try.prog 6 l.toArray H K := fnW_ok [] mixed Try.func6 ok_6 hl (by decide) rfl h
theorem ok_7 : okW Try.prog [] 7 = true := by kernel_rfl
@[go_sem] theorem cl_7 {cap args : List Value} : callK Try.prog (.func (.func 7) #[] (List.toArray cap)) (List.toArray args) = .call 7 (List.toArray (args ++ cap)) := call_cap Try.func7 (by kernel_rfl) (by kernel_rfl)
theorem fw_7 {l : List Value} {H : AHeap} {K : Value → AHeap → Prop} (hl : l.length ≤ 3) (h : Fine H → wC Try.prog H.fz [] (Try.f7.body.getD .skip) (argsE l) H (finQ Try.prog [.tmp 6] K)) : FnW Try.prog 7 l.toArray H K := fnW_ok [] mixed Try.func7 ok_7 hl (by decide) rfl h
theorem ok_8 : okW Try.prog [(9, [(1, 3)]), (16, [(2, 3)])] 8 = true := by kernel_rfl
@[go_sem] theorem cl_8 {cap args : List Value} : callK Try.prog (.func (.func 8) #[] (List.toArray cap)) (List.toArray args) = .call 8 (List.toArray (args ++ cap)) := call_cap Try.func8 (by kernel_rfl) (by kernel_rfl)
theorem fw_8 {l : List Value} {H : AHeap} {K : Value → AHeap → Prop} (hl : l.length ≤ 3) (h : Fine H → wC Try.prog H.fz [(9, [(1, 3)]), (16, [(2, 3)])] (Try.f8.body.getD .skip) (argsE l) H (finQ Try.prog [.tmp 6] K)) : FnW Try.prog 8 l.toArray H K := fnW_ok [(9, [(1, 3)]), (16, [(2, 3)])] mixed Try.func8 ok_8 hl (by decide) rfl h
theorem ok_9 : okW Try.prog [(28, [(8, 12)])] 9 = true := by kernel_rfl
@[go_sem] theorem cl_9 {cap args : List Value} : callK Try.prog (.func (.func 9) #[] (List.toArray cap)) (List.toArray args) = .call 9 (List.toArray (args ++ cap)) := call_cap Try.func9 (by kernel_rfl) (by kernel_rfl)
theorem fw_9 {l : List Value} {H : AHeap} {K : Value → AHeap → Prop} (hl : l.length ≤ 1) (h : Fine H → wC Try.prog H.fz [(28, [(8, 12)])] (Try.f9.body.getD .skip) (argsE l) H (finQ Try.prog [.tmp 2] K)) : FnW Try.prog 9 l.toArray H K := fnW_ok [(28, [(8, 12)])] mixed Try.func9 ok_9 hl (by decide) rfl h
theorem ok_10 : okW Try.prog [(31, [(4, 6)])] 10 = true := by kernel_rfl
@[go_sem] theorem cl_10 {cap args : List Value} : callK Try.prog (.func (.func 10) #[] (List.toArray cap)) (List.toArray args) = .call 10 (List.toArray (args ++ cap)) := call_cap Try.func10 (by kernel_rfl) (by kernel_rfl)
theorem fw_10 {l : List Value} {H : AHeap} {K : Value → AHeap → Prop} (hl : l.length ≤ 4) (h : Fine H → wC Try.prog H.fz [(31, [(4, 6)])] (Try.f10.body.getD .skip) (argsE l) H (finQ Try.prog [.tmp 8] K)) : FnW Try.prog 10 l.toArray H K := fnW_ok [(31, [(4, 6)])] mixed Try.func10 ok_10 hl (by decide) rfl h
theorem ok_11 : okW Try.prog [(22, [(3, 6)]), (38, [(3, 4)])] 11 = true := by kernel_rfl
@[go_sem] theorem cl_11 {cap args : List Value} : callK Try.prog (.func (.func 11) #[] (List.toArray cap)) (List.toArray args) = .call 11 (List.toArray (args ++ cap)) := call_cap Try.func11 (by kernel_rfl) (by kernel_rfl)
theorem fw_11 {l : List Value} {H : AHeap} {K : Value → AHeap → Prop} (hl : l.length ≤ 1) (h : Fine H → wC Try.prog H.fz [(22, [(3, 6)]), (38, [(3, 4)])] (Try.f11.body.getD .skip) (argsE l) H (finQ Try.prog [.tmp 2] K)) : FnW Try.prog 11 l.toArray H K := fnW_ok [(22, [(3, 6)]), (38, [(3, 4)])] mixed Try.func11 ok_11 hl (by decide) rfl h
theorem ok_12 : okW Try.prog [(2, [(0, 2)])] 12 = true := by kernel_rfl
@[go_sem] theorem cl_12 {cap args : List Value} : callK Try.prog (.func (.func 12) #[] (List.toArray cap)) (List.toArray args) = .call 12 (List.toArray (args ++ cap)) := call_cap Try.func12 (by kernel_rfl) (by kernel_rfl)
theorem fw_12 {l : List Value} {H : AHeap} {K : Value → AHeap → Prop} (hl : l.length ≤ 5) (h : Fine H → wC Try.prog H.fz [(2, [(0, 2)])] (Try.f12.body.getD .skip) (argsE l) H (finQ Try.prog [.tmp 10] K)) : FnW Try.prog 12 l.toArray H K := fnW_ok [(2, [(0, 2)])] mixed Try.func12 ok_12 hl (by decide) rfl h
theorem ok_13 : okW Try.prog [(9, [(1, 3)])] 13 = true := by kernel_rfl
@[go_sem] theorem cl_13 {cap args : List Value} : callK Try.prog (.func (.func 13) #[] (List.toArray cap)) (List.toArray args) = .call 13 (List.toArray (args ++ cap)) := call_cap Try.func13 (by kernel_rfl) (by kernel_rfl)
theorem fw_13 {l : List Value} {H : AHeap} {K : Value → AHeap → Prop} (hl : l.length ≤ 1) (h : Fine H → wC Try.prog H.fz [(9, [(1, 3)])] (Try.f13.body.getD .skip) (argsE l) H (finQ Try.prog [.tmp 2] K)) : FnW Try.prog 13 l.toArray H K := fnW_ok [(9, [(1, 3)])] mixed Try.func13 ok_13 hl (by decide) rfl h
theorem ok_14 : okW Try.prog [] 14 = true := by kernel_rfl
@[go_sem] theorem cl_14 {cap args : List Value} : callK Try.prog (.func (.func 14) #[] (List.toArray cap)) (List.toArray args) = .call 14 (List.toArray (args ++ cap)) := call_cap Try.func14 (by kernel_rfl) (by kernel_rfl)
theorem fw_14 {l : List Value} {H : AHeap} {K : Value → AHeap → Prop} (hl : l.length ≤ 2) (h : Fine H → wC Try.prog H.fz [] (Try.f14.body.getD .skip) (argsE l) H (finQ Try.prog [.tmp 4] K)) : FnW Try.prog 14 l.toArray H K := fnW_ok [] mixed Try.func14 ok_14 hl (by decide) rfl h
theorem ok_15 : okW Try.prog [] 15 = true := by kernel_rfl
@[go_sem] theorem cl_15 {cap args : List Value} : callK Try.prog (.func (.func 15) #[] (List.toArray cap)) (List.toArray args) = .call 15 (List.toArray (args ++ cap)) := call_cap Try.func15 (by kernel_rfl) (by kernel_rfl)
theorem fw_15 {l : List Value} {H : AHeap} {K : Value → AHeap → Prop} (hl : l.length ≤ 1) (h : Fine H → wC Try.prog H.fz [] (Try.f15.body.getD .skip) (argsE l) H (finQ Try.prog [.cell 2 25] K)) : FnW Try.prog 15 l.toArray H K := fnW_ok [] mixed Try.func15 ok_15 hl (by decide) rfl h
theorem ok_16 : okW Try.prog [] 16 = true := by kernel_rfl
@[go_sem] theorem cl_16 {cap args : List Value} : callK Try.prog (.func (.func 16) #[] (List.toArray cap)) (List.toArray args) = .call 16 (List.toArray (args ++ cap)) := call_cap Try.func16 (by kernel_rfl) (by kernel_rfl)
theorem fw_16 {l : List Value} {H : AHeap} {K : Value → AHeap → Prop} (hl : l.length ≤ 3) (h : Fine H → wC Try.prog H.fz [] (Try.f16.body.getD .skip) (argsE l) H (finQ Try.prog [.tmp 6, .tmp 7] K)) : FnW Try.prog 16 l.toArray H K := fnW_ok [] mixed Try.func16 ok_16 hl (by decide) rfl h
theorem ok_17 : okW Try.prog [] 17 = true := by kernel_rfl
@[go_sem] theorem cl_17 {cap args : List Value} : callK Try.prog (.func (.func 17) #[] (List.toArray cap)) (List.toArray args) = .call 17 (List.toArray (args ++ cap)) := call_cap Try.func17 (by kernel_rfl) (by kernel_rfl)
theorem fw_17 {l : List Value} {H : AHeap} {K : Value → AHeap → Prop} (hl : l.length ≤ 3) (h : Fine H → wC Try.prog H.fz [] (Try.f17.body.getD .skip) (argsE l) H (finQ Try.prog [.tmp 6, .tmp 7] K)) : FnW Try.prog 17 l.toArray H K := fnW_ok [] mixed Try.func17 ok_17 hl (by decide) rfl h
theorem ok_18 : okW Try.prog [] 18 = true := by kernel_rfl
@[go_sem] theorem cl_18 {cap args : List Value} : callK Try.prog (.func (.func 18) #[] (List.toArray cap)) (List.toArray args) = .call 18 (List.toArray (args ++ cap)) := call_cap Try.func18 (by kernel_rfl) (by kernel_rfl)
theorem fw_18 {l : List Value} {H : AHeap} {K : Value → AHeap → Prop} (hl : l.length ≤ 2) (h : Fine H → wC Try.prog H.fz [] (Try.f18.body.getD .skip) (argsE l) H (finQ Try.prog [.tmp 4] K)) : FnW Try.prog 18 l.toArray H K := fnW_ok [] mixed Try.func18 ok_18 hl (by decide) rfl h
theorem ok_19 : okW Try.prog [] 19 = true := by kernel_rfl
@[go_sem] theorem cl_19 {cap args : List Value} : callK Try.prog (.func (.func 19) #[] (List.toArray cap)) (List.toArray args) = .call 19 (List.toArray (args ++ cap)) := call_cap Try.func19 (by kernel_rfl) (by kernel_rfl)
theorem fw_19 {l : List Value} {H : AHeap} {K : Value → AHeap → Prop} (hl : l.length ≤ 2) (h : Fine H → wC Try.prog H.fz [] (Try.f19.body.getD .skip) (argsE l) H (finQ Try.prog [.tmp 4] K)) : FnW Try.prog 19 l.toArray H K := fnW_ok [] mixed Try.func19 ok_19 hl (by decide) rfl h
theorem ok_20 : okW Try.prog [] 20 = true := by kernel_rfl
@[go_sem] theorem cl_20 {cap args : List Value} : callK Try.prog (.func (.func 20) #[] (List.toArray cap)) (List.toArray args) = .call 20 (List.toArray (args ++ cap)) := call_cap Try.func20 (by kernel_rfl) (by kernel_rfl)
theorem fw_20 {l : List Value} {H : AHeap} {K : Value → AHeap → Prop} (hl : l.length ≤ 4) (h : Fine H → wC Try.prog H.fz [] (Try.f20.body.getD .skip) (argsE l) H (finQ Try.prog [.tmp 8] K)) : FnW Try.prog 20 l.toArray H K := fnW_ok [] mixed Try.func20 ok_20 hl (by decide) rfl h
theorem ok_21 : okW Try.prog [] 21 = true := by kernel_rfl
@[go_sem] theorem cl_21 {cap args : List Value} : callK Try.prog (.func (.func 21) #[] (List.toArray cap)) (List.toArray args) = .call 21 (List.toArray (args ++ cap)) := call_cap Try.func21 (by kernel_rfl) (by kernel_rfl)
theorem fw_21 {l : List Value} {H : AHeap} {K : Value → AHeap → Prop} (hl : l.length ≤ 4) (h : Fine H → wC Try.prog H.fz [] (Try.f21.body.getD .skip) (argsE l) H (finQ Try.prog [.tmp 8] K)) : FnW Try.prog 21 l.toArray H K := fnW_ok [] mixed Try.func21 ok_21 hl (by decide) rfl h
theorem ok_22 : okW Try.prog [] 22 = true := by kernel_rfl
@[go_sem] theorem cl_22 {cap args : List Value} : callK Try.prog (.func (.func 22) #[] (List.toArray cap)) (List.toArray args) = .call 22 (List.toArray (args ++ cap)) := call_cap Try.func22 (by kernel_rfl) (by kernel_rfl)
theorem fw_22 {l : List Value} {H : AHeap} {K : Value → AHeap → Prop} (hl : l.length ≤ 0) (h : Fine H → wC Try.prog H.fz [] (Try.f22.body.getD .skip) (argsE l) H (finQ Try.prog [.tmp 0] K)) : FnW Try.prog 22 l.toArray H K := fnW_ok [] mixed Try.func22 ok_22 hl (by decide) rfl h
theorem ok_23 : okW Try.prog [] 23 = true := by kernel_rfl
@[go_sem] theorem cl_23 {cap args : List Value} : callK Try.prog (.func (.func 23) #[] (List.toArray cap)) (List.toArray args) = .call 23 (List.toArray (args ++ cap)) := call_cap Try.func23 (by kernel_rfl) (by kernel_rfl)
theorem fw_23 {l : List Value} {H : AHeap} {K : Value → AHeap → Prop} (hl : l.length ≤ 2) (h : Fine H → wC Try.prog H.fz [] (Try.f23.body.getD .skip) (argsE l) H (finQ Try.prog [.tmp 4] K)) : FnW Try.prog 23 l.toArray H K := fnW_ok [] mixed Try.func23 ok_23 hl (by decide) rfl h
theorem ok_24 : okW Try.prog [] 24 = true := by kernel_rfl
@[go_sem] theorem cl_24 {cap args : List Value} : callK Try.prog (.func (.func 24) #[] (List.toArray cap)) (List.toArray args) = .call 24 (List.toArray (args ++ cap)) := call_cap Try.func24 (by kernel_rfl) (by kernel_rfl)
theorem fw_24 {l : List Value} {H : AHeap} {K : Value → AHeap → Prop} (hl : l.length ≤ 2) (h : Fine H → wC Try.prog H.fz [] (Try.f24.body.getD .skip) (argsE l) H (finQ Try.prog [.tmp 4] K)) : FnW Try.prog 24 l.toArray H K := fnW_ok [] mixed Try.func24 ok_24 hl (by decide) rfl h
theorem ok_25 : okW Try.prog [] 25 = true := by kernel_rfl
@[go_sem] theorem cl_25 {cap args : List Value} : callK Try.prog (.func (.func 25) #[] (List.toArray cap)) (List.toArray args) = .call 25 (List.toArray (args ++ cap)) := call_cap Try.func25 (by kernel_rfl) (by kernel_rfl)
theorem fw_25 {l : List Value} {H : AHeap} {K : Value → AHeap → Prop} (hl : l.length ≤ 3) (h : Fine H → wC Try.prog H.fz [] (Try.f25.body.getD .skip) (argsE l) H (finQ Try.prog [.tmp 6, .tmp 7] K)) : FnW Try.prog 25 l.toArray H K := fnW_ok [] mixed Try.func25 ok_25 hl (by decide) rfl h
theorem ok_26 : okW Try.prog [] 26 = true := by kernel_rfl
@[go_sem] theorem cl_26 {cap args : List Value} : callK Try.prog (.func (.func 26) #[] (List.toArray cap)) (List.toArray args) = .call 26 (List.toArray (args ++ cap)) := call_cap Try.func26 (by kernel_rfl) (by kernel_rfl)
theorem fw_26 {l : List Value} {H : AHeap} {K : Value → AHeap → Prop} (hl : l.length ≤ 3) (h : Fine H → wC Try.prog H.fz [] (Try.f26.body.getD .skip) (argsE l) H (finQ Try.prog [.tmp 6, .tmp 7] K)) : FnW Try.prog 26 l.toArray H K := fnW_ok [] mixed Try.func26 ok_26 hl (by decide) rfl h
theorem ok_27 : okW Try.prog [] 27 = true := by kernel_rfl
@[go_sem] theorem cl_27 {cap args : List Value} : callK Try.prog (.func (.func 27) #[] (List.toArray cap)) (List.toArray args) = .call 27 (List.toArray (args ++ cap)) := call_cap Try.func27 (by kernel_rfl) (by kernel_rfl)
theorem fw_27 {l : List Value} {H : AHeap} {K : Value → AHeap → Prop} (hl : l.length ≤ 3) (h : Fine H → wC Try.prog H.fz [] (Try.f27.body.getD .skip) (argsE l) H (finQ Try.prog [.cell 6 25] K)) : FnW Try.prog 27 l.toArray H K := fnW_ok [] mixed Try.func27 ok_27 hl (by decide) rfl h
theorem ok_28 : okW Try.prog [] 28 = true := by kernel_rfl
@[go_sem] theorem cl_28 {cap args : List Value} : callK Try.prog (.func (.func 28) #[] (List.toArray cap)) (List.toArray args) = .call 28 (List.toArray (args ++ cap)) := call_cap Try.func28 (by kernel_rfl) (by kernel_rfl)
theorem fw_28 {l : List Value} {H : AHeap} {K : Value → AHeap → Prop} (hl : l.length ≤ 3) (h : Fine H → wC Try.prog H.fz [] (Try.f28.body.getD .skip) (argsE l) H (finQ Try.prog [.cell 6 25] K)) : FnW Try.prog 28 l.toArray H K := fnW_ok [] mixed Try.func28 ok_28 hl (by decide) rfl h
theorem ok_29 : okW Try.prog [] 29 = true := by kernel_rfl
@[go_sem] theorem cl_29 {cap args : List Value} : callK Try.prog (.func (.func 29) #[] (List.toArray cap)) (List.toArray args) = .call 29 (List.toArray (args ++ cap)) := call_cap Try.func29 (by kernel_rfl) (by kernel_rfl)
theorem fw_29 {l : List Value} {H : AHeap} {K : Value → AHeap → Prop} (hl : l.length ≤ 1) (h : Fine H → wC Try.prog H.fz [] (Try.f29.body.getD .skip) (argsE l) H (finQ Try.prog [.tmp 2] K)) : FnW Try.prog 29 l.toArray H K := fnW_ok [] mixed Try.func29 ok_29 hl (by decide) rfl h
theorem ok_30 : okW Try.prog [] 30 = true := by kernel_rfl
@[go_sem] theorem cl_30 {cap args : List Value} : callK Try.prog (.func (.func 30) #[] (List.toArray cap)) (List.toArray args) = .call 30 (List.toArray (args ++ cap)) := call_cap Try.func30 (by kernel_rfl) (by kernel_rfl)
theorem fw_30 {l : List Value} {H : AHeap} {K : Value → AHeap → Prop} (hl : l.length ≤ 1) (h : Fine H → wC Try.prog H.fz [] (Try.f30.body.getD .skip) (argsE l) H (finQ Try.prog [.tmp 2] K)) : FnW Try.prog 30 l.toArray H K := fnW_ok [] mixed Try.func30 ok_30 hl (by decide) rfl h
theorem ok_31 : okW Try.prog [] 31 = true := by kernel_rfl
@[go_sem] theorem cl_31 {cap args : List Value} : callK Try.prog (.func (.func 31) #[] (List.toArray cap)) (List.toArray args) = .call 31 (List.toArray (args ++ cap)) := call_cap Try.func31 (by kernel_rfl) (by kernel_rfl)
theorem fw_31 {l : List Value} {H : AHeap} {K : Value → AHeap → Prop} (hl : l.length ≤ 1) (h : Fine H → wC Try.prog H.fz [] (Try.f31.body.getD .skip) (argsE l) H (finQ Try.prog [.tmp 2, .tmp 3] K)) : FnW Try.prog 31 l.toArray H K := fnW_ok [] mixed Try.func31 ok_31 hl (by decide) rfl h
theorem ok_32 : okW Try.prog [] 32 = true := by kernel_rfl
@[go_sem] theorem cl_32 {cap args : List Value} : callK Try.prog (.func (.func 32) #[] (List.toArray cap)) (List.toArray args) = .call 32 (List.toArray (args ++ cap)) := call_cap Try.func32 (by kernel_rfl) (by kernel_rfl)
theorem fw_32 {l : List Value} {H : AHeap} {K : Value → AHeap → Prop} (hl : l.length ≤ 2) (h : Fine H → wC Try.prog H.fz [] (Try.f32.body.getD .skip) (argsE l) H (finQ Try.prog [.tmp 4, .tmp 5] K)) : FnW Try.prog 32 l.toArray H K := fnW_ok [] mixed Try.func32 ok_32 hl (by decide) rfl h
theorem ok_33 : okW Try.prog [] 33 = true := by kernel_rfl
@[go_sem] theorem cl_33 {cap args : List Value} : callK Try.prog (.func (.func 33) #[] (List.toArray cap)) (List.toArray args) = .call 33 (List.toArray (args ++ cap)) := call_cap Try.func33 (by kernel_rfl) (by kernel_rfl)
theorem fw_33 {l : List Value} {H : AHeap} {K : Value → AHeap → Prop} (hl : l.length ≤ 2) (h : Fine H → wC Try.prog H.fz [] (Try.f33.body.getD .skip) (argsE l) H (finQ Try.prog [.tmp 4] K)) : FnW Try.prog 33 l.toArray H K := fnW_ok [] mixed Try.func33 ok_33 hl (by decide) rfl h
theorem ok_34 : okW Try.prog [] 34 = true := by kernel_rfl
@[go_sem] theorem cl_34 {cap args : List Value} : callK Try.prog (.func (.func 34) #[] (List.toArray cap)) (List.toArray args) = .call 34 (List.toArray (args ++ cap)) := call_cap Try.func34 (by kernel_rfl) (by kernel_rfl)
theorem fw_34 {l : List Value} {H : AHeap} {K : Value → AHeap → Prop} (hl : l.length ≤ 0) (h : Fine H → wC Try.prog H.fz [] (Try.f34.body.getD .skip) (argsE l) H (finQ Try.prog [.tmp 0] K)) : FnW Try.prog 34 l.toArray H K := fnW_ok [] mixed Try.func34 ok_34 hl (by decide) rfl h
theorem ok_35 : okW Try.prog [(9, [(1, 3)])] 35 = true := by kernel_rfl
@[go_sem] theorem cl_35 {cap args : List Value} : callK Try.prog (.func (.func 35) #[] (List.toArray cap)) (List.toArray args) = .call 35 (List.toArray (args ++ cap)) := call_cap Try.func35 (by kernel_rfl) (by kernel_rfl)
theorem fw_35 {l : List Value} {H : AHeap} {K : Value → AHeap → Prop} (hl : l.length ≤ 1) (h : Fine H → wC Try.prog H.fz [(9, [(1, 3)])] (Try.f35.body.getD .skip) (argsE l) H (finQ Try.prog [.tmp 2] K)) : FnW Try.prog 35 l.toArray H K := fnW_ok [(9, [(1, 3)])] mixed Try.func35 ok_35 hl (by decide) rfl h
theorem ok_36 : okW Try.prog [] 36 = true := by kernel_rfl
@[go_sem] theorem cl_36 {cap args : List Value} : callK Try.prog (.func (.func 36) #[] (List.toArray cap)) (List.toArray args) = .call 36 (List.toArray (args ++ cap)) := call_cap Try.func36 (by kernel_rfl) (by kernel_rfl)
theorem fw_36 {l : List Value} {H : AHeap} {K : Value → AHeap → Prop} (hl : l.length ≤ 2) (h : Fine H → wC Try.prog H.fz [] (Try.f36.body.getD .skip) (argsE l) H (finQ Try.prog [.tmp 4] K)) : FnW Try.prog 36 l.toArray H K := fnW_ok [] mixed Try.func36 ok_36 hl (by decide) rfl h
theorem ok_37 : okW Try.prog [] 37 = true := by kernel_rfl
@[go_sem] theorem cl_37 {cap args : List Value} : callK Try.prog (.func (.func 37) #[] (List.toArray cap)) (List.toArray args) = .call 37 (List.toArray (args ++ cap)) := call_cap Try.func37 (by kernel_rfl) (by kernel_rfl)
theorem fw_37 {l : List Value} {H : AHeap} {K : Value → AHeap → Prop} (hl : l.length ≤ 1) (h : Fine H → wC Try.prog H.fz [] (Try.f37.body.getD .skip) (argsE l) H (finQ Try.prog [.cell 2 25] K)) : FnW Try.prog 37 l.toArray H K := fnW_ok [] mixed Try.func37 ok_37 hl (by decide) rfl h
theorem ok_38 : okW Try.prog [] 38 = true := by kernel_rfl
@[go_sem] theorem cl_38 {cap args : List Value} : callK Try.prog (.func (.func 38) #[] (List.toArray cap)) (List.toArray args) = .call 38 (List.toArray (args ++ cap)) := call_cap Try.func38 (by kernel_rfl) (by kernel_rfl)
theorem fw_38 {l : List Value} {H : AHeap} {K : Value → AHeap → Prop} (hl : l.length ≤ 2) (h : Fine H → wC Try.prog H.fz [] (Try.f38.body.getD .skip) (argsE l) H (finQ Try.prog [.tmp 4] K)) : FnW Try.prog 38 l.toArray H K := fnW_ok [] mixed Try.func38 ok_38 hl (by decide) rfl h
theorem ok_39 : okW Try.prog [] 39 = true := by kernel_rfl
@[go_sem] theorem cl_39 {cap args : List Value} : callK Try.prog (.func (.func 39) #[] (List.toArray cap)) (List.toArray args) = .call 39 (List.toArray (args ++ cap)) := call_cap Try.func39 (by kernel_rfl) (by kernel_rfl)
theorem fw_39 {l : List Value} {H : AHeap} {K : Value → AHeap → Prop} (hl : l.length ≤ 2) (h : Fine H → wC Try.prog H.fz [] (Try.f39.body.getD .skip) (argsE l) H (finQ Try.prog [.tmp 4] K)) : FnW Try.prog 39 l.toArray H K := fnW_ok [] mixed Try.func39 ok_39 hl (by decide) rfl h
theorem ok_40 : okW Try.prog [(3, [(6, 8)])] 40 = true := by kernel_rfl
@[go_sem] theorem cl_40 {cap args : List Value} : callK Try.prog (.func (.func 40) #[] (List.toArray cap)) (List.toArray args) = .call 40 (List.toArray (args ++ cap)) := call_cap Try.func40 (by kernel_rfl) (by kernel_rfl)
theorem fw_40 {l : List Value} {H : AHeap} {K : Value → AHeap → Prop} (hl : l.length ≤ 3) (h : Fine H → wC Try.prog H.fz [(3, [(6, 8)])] (Try.f40.body.getD .skip) (argsE l) H (finQ Try.prog [.tmp 6] K)) : FnW Try.prog 40 l.toArray H K := fnW_ok [(3, [(6, 8)])] mixed Try.func40 ok_40 hl (by decide) rfl h
theorem ok_41 : okW Try.prog [] 41 = true := by kernel_rfl
@[go_sem] theorem cl_41 {cap args : List Value} : callK Try.prog (.func (.func 41) #[] (List.toArray cap)) (List.toArray args) = .call 41 (List.toArray (args ++ cap)) := call_cap Try.func41 (by kernel_rfl) (by kernel_rfl)
theorem fw_41 {l : List Value} {H : AHeap} {K : Value → AHeap → Prop} (hl : l.length ≤ 3) (h : Fine H → wC Try.prog H.fz [] (Try.f41.body.getD .skip) (argsE l) H (finQ Try.prog [.tmp 6, .cell 7 76, .tmp 8] K)) : FnW Try.prog 41 l.toArray H K := fnW_ok [] mixed Try.func41 ok_41 hl (by decide) rfl h
theorem ok_42 : okW Try.prog [] 42 = true := by kernel_rfl
@[go_sem] theorem cl_42 {cap args : List Value} : callK Try.prog (.func (.func 42) #[] (List.toArray cap)) (List.toArray args) = .call 42 (List.toArray (args ++ cap)) := call_cap Try.func42 (by kernel_rfl) (by kernel_rfl)
theorem fw_42 {l : List Value} {H : AHeap} {K : Value → AHeap → Prop} (hl : l.length ≤ 1) (h : Fine H → wC Try.prog H.fz [] (Try.f42.body.getD .skip) (argsE l) H (finQ Try.prog [.tmp 2] K)) : FnW Try.prog 42 l.toArray H K := fnW_ok [] mixed Try.func42 ok_42 hl (by decide) rfl h
theorem ok_43 : okW Try.prog [(5, [(1, 6)])] 43 = true := by kernel_rfl
@[go_sem] theorem cl_43 {cap args : List Value} : callK Try.prog (.func (.func 43) #[] (List.toArray cap)) (List.toArray args) = .call 43 (List.toArray (args ++ cap)) := call_cap Try.func43 (by kernel_rfl) (by kernel_rfl)
theorem fw_43 {l : List Value} {H : AHeap} {K : Value → AHeap → Prop} (hl : l.length ≤ 1) (h : Fine H → wC Try.prog H.fz [(5, [(1, 6)])] (Try.f43.body.getD .skip) (argsE l) H (finQ Try.prog [.cell 2 76] K)) : FnW Try.prog 43 l.toArray H K := fnW_ok [(5, [(1, 6)])] mixed Try.func43 ok_43 hl (by decide) rfl h
theorem ok_44 : okW Try.prog [] 44 = true := by kernel_rfl
@[go_sem] theorem cl_44 {cap args : List Value} : callK Try.prog (.func (.func 44) #[] (List.toArray cap)) (List.toArray args) = .call 44 (List.toArray (args ++ cap)) := call_cap Try.func44 (by kernel_rfl) (by kernel_rfl)
theorem fw_44 {l : List Value} {H : AHeap} {K : Value → AHeap → Prop} (hl : l.length ≤ 2) (h : Fine H → wC Try.prog H.fz [] (Try.f44.body.getD .skip) (argsE l) H (finQ Try.prog [.tmp 4] K)) : FnW Try.prog 44 l.toArray H K := fnW_ok [] mixed Try.func44 ok_44 hl (by decide) rfl h
theorem ok_45 : okW Try.prog [] 45 = true := by kernel_rfl
@[go_sem] theorem cl_45 {cap args : List Value} : callK Try.prog (.func (.func 45) #[] (List.toArray cap)) (List.toArray args) = .call 45 (List.toArray (args ++ cap)) := call_cap Try.func45 (by kernel_rfl) (by kernel_rfl)
theorem fw_45 {l : List Value} {H : AHeap} {K : Value → AHeap → Prop} (hl : l.length ≤ 2) (h : Fine H → wC Try.prog H.fz [] (Try.f45.body.getD .skip) (argsE l) H (finQ Try.prog [.tmp 4] K)) : FnW Try.prog 45 l.toArray H K := fnW_ok [] mixed Try.func45 ok_45 hl (by decide) rfl h
theorem ok_46 : okW Try.prog [] 46 = true := by kernel_rfl
@[go_sem] theorem cl_46 {cap args : List Value} : callK Try.prog (.func (.func 46) #[] (List.toArray cap)) (List.toArray args) = .call 46 (List.toArray (args ++ cap)) := call_cap Try.func46 (by kernel_rfl) (by kernel_rfl)
theorem fw_46 {l : List Value} {H : AHeap} {K : Value → AHeap → Prop} (hl : l.length ≤ 1) (h : Fine H → wC Try.prog H.fz [] (Try.f46.body.getD .skip) (argsE l) H (finQ Try.prog [.tmp 2] K)) : FnW Try.prog 46 l.toArray H K := fnW_ok [] mixed Try.func46 ok_46 hl (by decide) rfl h
theorem ok_47 : okW Try.prog [] 47 = true := by kernel_rfl
@[go_sem] theorem cl_47 {cap args : List Value} : callK Try.prog (.func (.func 47) #[] (List.toArray cap)) (List.toArray args) = .call 47 (List.toArray (args ++ cap)) := call_cap Try.func47 (by kernel_rfl) (by kernel_rfl)
theorem fw_47 {l : List Value} {H : AHeap} {K : Value → AHeap → Prop} (hl : l.length ≤ 2) (h : Fine H → wC Try.prog H.fz [] (Try.f47.body.getD .skip) (argsE l) H (finQ Try.prog [.tmp 4, .tmp 5] K)) : FnW Try.prog 47 l.toArray H K := fnW_ok [] mixed Try.func47 ok_47 hl (by decide) rfl h
theorem ok_48 : okW Try.prog [] 48 = true := by kernel_rfl
@[go_sem] theorem cl_48 {cap args : List Value} : callK Try.prog (.func (.func 48) #[] (List.toArray cap)) (List.toArray args) = .call 48 (List.toArray (args ++ cap)) := call_cap Try.func48 (by kernel_rfl) (by kernel_rfl)
theorem fw_48 {l : List Value} {H : AHeap} {K : Value → AHeap → Prop} (hl : l.length ≤ 1) (h : Fine H → wC Try.prog H.fz [] (Try.f48.body.getD .skip) (argsE l) H (finQ Try.prog [.tmp 2, .tmp 3] K)) : FnW Try.prog 48 l.toArray H K := fnW_ok [] mixed Try.func48 ok_48 hl (by decide) rfl h
theorem ok_49 : okW Try.prog [(3, [(6, 8)])] 49 = true := by kernel_rfl
@[go_sem] theorem cl_49 {cap args : List Value} : callK Try.prog (.func (.func 49) #[] (List.toArray cap)) (List.toArray args) = .call 49 (List.toArray (args ++ cap)) := call_cap Try.func49 (by kernel_rfl) (by kernel_rfl)
theorem fw_49 {l : List Value} {H : AHeap} {K : Value → AHeap → Prop} (hl : l.length ≤ 3) (h : Fine H → wC Try.prog H.fz [(3, [(6, 8)])] (Try.f49.body.getD .skip) (argsE l) H (finQ Try.prog [.tmp 6] K)) : FnW Try.prog 49 l.toArray H K := fnW_ok [(3, [(6, 8)])] mixed Try.func49 ok_49 hl (by decide) rfl h
theorem ok_50 : okW Try.prog [] 50 = true := by kernel_rfl
@[go_sem] theorem cl_50 {cap args : List Value} : callK Try.prog (.func (.func 50) #[] (List.toArray cap)) (List.toArray args) = .call 50 (List.toArray (args ++ cap)) := call_cap Try.func50 (by kernel_rfl) (by kernel_rfl)
theorem fw_50 {l : List Value} {H : AHeap} {K : Value → AHeap → Prop} (hl : l.length ≤ 2) (h : Fine H → wC Try.prog H.fz [] (Try.f50.body.getD .skip) (argsE l) H (finQ Try.prog [.tmp 4] K)) : FnW Try.prog 50 l.toArray H K := fnW_ok [] mixed Try.func50 ok_50 hl (by decide) rfl h
theorem ok_51 : okW Try.prog [(5, [(9, 14)])] 51 = true := by kernel_rfl
@[go_sem] theorem cl_51 {cap args : List Value} : callK Try.prog (.func (.func 51) #[] (List.toArray cap)) (List.toArray args) = .call 51 (List.toArray (args ++ cap)) := call_cap Try.func51 (by kernel_rfl) (by kernel_rfl)
theorem fw_51 {l : List Value} {H : AHeap} {K : Value → AHeap → Prop} (hl : l.length ≤ 3) (h : Fine H → wC Try.prog H.fz [(5, [(9, 14)])] (Try.f51.body.getD .skip) (argsE l) H (finQ Try.prog [.tmp 6, .cell 7 76, .tmp 8] K)) : FnW Try.prog 51 l.toArray H K := fnW_ok [(5, [(9, 14)])] mixed Try.func51 ok_51 hl (by decide) rfl h
theorem ok_52 : okW Try.prog [] 52 = true := by kernel_rfl
@[go_sem] theorem cl_52 {cap args : List Value} : callK Try.prog (.func (.func 52) #[] (List.toArray cap)) (List.toArray args) = .call 52 (List.toArray (args ++ cap)) := call_cap Try.func52 (by kernel_rfl) (by kernel_rfl)
theorem fw_52 {l : List Value} {H : AHeap} {K : Value → AHeap → Prop} (hl : l.length ≤ 1) (h : Fine H → wC Try.prog H.fz [] (Try.f52.body.getD .skip) (argsE l) H (finQ Try.prog [.tmp 2] K)) : FnW Try.prog 52 l.toArray H K := fnW_ok [] mixed Try.func52 ok_52 hl (by decide) rfl h
theorem ok_53 : okW Try.prog [] 53 = true := by kernel_rfl
@[go_sem] theorem cl_53 {cap args : List Value} : callK Try.prog (.func (.func 53) #[] (List.toArray cap)) (List.toArray args) = .call 53 (List.toArray (args ++ cap)) := call_cap Try.func53 (by kernel_rfl) (by kernel_rfl)
theorem fw_53 {l : List Value} {H : AHeap} {K : Value → AHeap → Prop} (hl : l.length ≤ 2) (h : Fine H → wC Try.prog H.fz [] (Try.f53.body.getD .skip) (argsE l) H (finQ Try.prog [.tmp 4] K)) : FnW Try.prog 53 l.toArray H K := fnW_ok [] mixed Try.func53 ok_53 hl (by decide) rfl h
theorem ok_54 : okW Try.prog [] 54 = true := by kernel_rfl
@[go_sem] theorem cl_54 {cap args : List Value} : callK Try.prog (.func (.func 54) #[] (List.toArray cap)) (List.toArray args) = .call 54 (List.toArray (args ++ cap)) := call_cap Try.func54 (by kernel_rfl) (by kernel_rfl)
theorem fw_54 {l : List Value} {H : AHeap} {K : Value → AHeap → Prop} (hl : l.length ≤ 1) (h : Fine H → wC Try.prog H.fz [] (Try.f54.body.getD .skip) (argsE l) H (finQ Try.prog [.tmp 2] K)) : FnW Try.prog 54 l.toArray H K := fnW_ok [] mixed Try.func54 ok_54 hl (by decide) rfl h
theorem ok_55 : okW Try.prog [(5, [(2, 5)])] 55 = true := by kernel_rfl
@[go_sem] theorem cl_55 {cap args : List Value} : callK Try.prog (.func (.func 55) #[] (List.toArray cap)) (List.toArray args) = .call 55 (List.toArray (args ++ cap)) := call_cap Try.func55 (by kernel_rfl) (by kernel_rfl)
theorem fw_55 {l : List Value} {H : AHeap} {K : Value → AHeap → Prop} (hl : l.length ≤ 1) (h : Fine H → wC Try.prog H.fz [(5, [(2, 5)])] (Try.f55.body.getD .skip) (argsE l) H (finQ Try.prog [.tmp 2] K)) : FnW Try.prog 55 l.toArray H K := fnW_ok [(5, [(2, 5)])] mixed Try.func55 ok_55 hl (by decide) rfl h
theorem ok_56 : okW Try.prog [] 56 = true := by kernel_rfl
@[go_sem] theorem cl_56 {cap args : List Value} : callK Try.prog (.func (.func 56) #[] (List.toArray cap)) (List.toArray args) = .call 56 (List.toArray (args ++ cap)) := call_cap Try.func56 (by kernel_rfl) (by kernel_rfl)
theorem fw_56 {l : List Value} {H : AHeap} {K : Value → AHeap → Prop} (hl : l.length ≤ 1) (h : Fine H → wC Try.prog H.fz [] (Try.f56.body.getD .skip) (argsE l) H (finQ Try.prog [.tmp 2] K)) : FnW Try.prog 56 l.toArray H K := fnW_ok [] mixed Try.func56 ok_56 hl (by decide) rfl h
theorem ok_57 : okW Try.prog [(5, [(2, 5)])] 57 = true := by kernel_rfl
@[go_sem] theorem cl_57 {cap args : List Value} : callK Try.prog (.func (.func 57) #[] (List.toArray cap)) (List.toArray args) = .call 57 (List.toArray (args ++ cap)) := call_cap Try.func57 (by kernel_rfl) (by kernel_rfl)
theorem fw_57 {l : List Value} {H : AHeap} {K : Value → AHeap → Prop} (hl : l.length ≤ 1) (h : Fine H → wC Try.prog H.fz [(5, [(2, 5)])] (Try.f57.body.getD .skip) (argsE l) H (finQ Try.prog [.tmp 2] K)) : FnW Try.prog 57 l.toArray H K := fnW_ok [(5, [(2, 5)])] mixed Try.func57 ok_57 hl (by decide) rfl h
theorem ok_58 : okW Try.prog [] 58 = true := by kernel_rfl
@[go_sem] theorem cl_58 {cap args : List Value} : callK Try.prog (.func (.func 58) #[] (List.toArray cap)) (List.toArray args) = .call 58 (List.toArray (args ++ cap)) := call_cap Try.func58 (by kernel_rfl) (by kernel_rfl)
theorem fw_58 {l : List Value} {H : AHeap} {K : Value → AHeap → Prop} (hl : l.length ≤ 2) (h : Fine H → wC Try.prog H.fz [] (Try.f58.body.getD .skip) (argsE l) H (finQ Try.prog [.tmp 4] K)) : FnW Try.prog 58 l.toArray H K := fnW_ok [] mixed Try.func58 ok_58 hl (by decide) rfl h
theorem ok_59 : okW Try.prog [] 59 = true := by kernel_rfl
@[go_sem] theorem cl_59 {cap args : List Value} : callK Try.prog (.func (.func 59) #[] (List.toArray cap)) (List.toArray args) = .call 59 (List.toArray (args ++ cap)) := call_cap Try.func59 (by kernel_rfl) (by kernel_rfl)
theorem fw_59 {l : List Value} {H : AHeap} {K : Value → AHeap → Prop} (hl : l.length ≤ 3) (h : Fine H → wC Try.prog H.fz [] (Try.f59.body.getD .skip) (argsE l) H (finQ Try.prog [.tmp 6] K)) : FnW Try.prog 59 l.toArray H K := fnW_ok [] mixed Try.func59 ok_59 hl (by decide) rfl h
theorem ok_60 : okW Try.prog [(9, [(1, 3)])] 60 = true := by kernel_rfl
@[go_sem] theorem cl_60 {cap args : List Value} : callK Try.prog (.func (.func 60) #[] (List.toArray cap)) (List.toArray args) = .call 60 (List.toArray (args ++ cap)) := call_cap Try.func60 (by kernel_rfl) (by kernel_rfl)
theorem fw_60 {l : List Value} {H : AHeap} {K : Value → AHeap → Prop} (hl : l.length ≤ 1) (h : Fine H → wC Try.prog H.fz [(9, [(1, 3)])] (Try.f60.body.getD .skip) (argsE l) H (finQ Try.prog [.tmp 2] K)) : FnW Try.prog 60 l.toArray H K := fnW_ok [(9, [(1, 3)])] mixed Try.func60 ok_60 hl (by decide) rfl h
theorem ok_61 : okW Try.prog [] 61 = true := by kernel_rfl
@[go_sem] theorem cl_61 {cap args : List Value} : callK Try.prog (.func (.func 61) #[] (List.toArray cap)) (List.toArray args) = .call 61 (List.toArray (args ++ cap)) := call_cap Try.func61 (by kernel_rfl) (by kernel_rfl)
theorem fw_61 {l : List Value} {H : AHeap} {K : Value → AHeap → Prop} (hl : l.length ≤ 2) (h : Fine H → wC Try.prog H.fz [] (Try.f61.body.getD .skip) (argsE l) H (finQ Try.prog [.tmp 4] K)) : FnW Try.prog 61 l.toArray H K := fnW_ok [] mixed Try.func61 ok_61 hl (by decide) rfl h
theorem ok_62 : okW Try.prog [] 62 = true := by kernel_rfl
@[go_sem] theorem cl_62 {cap args : List Value} : callK Try.prog (.func (.func 62) #[] (List.toArray cap)) (List.toArray args) = .call 62 (List.toArray (args ++ cap)) := call_cap Try.func62 (by kernel_rfl) (by kernel_rfl)
theorem fw_62 {l : List Value} {H : AHeap} {K : Value → AHeap → Prop} (hl : l.length ≤ 2) (h : Fine H → wC Try.prog H.fz [] (Try.f62.body.getD .skip) (argsE l) H (finQ Try.prog [.tmp 4] K)) : FnW Try.prog 62 l.toArray H K := fnW_ok [] mixed Try.func62 ok_62 hl (by decide) rfl h
theorem ok_63 : okW Try.prog [] 63 = true := by kernel_rfl
@[go_sem] theorem cl_63 {cap args : List Value} : callK Try.prog (.func (.func 63) #[] (List.toArray cap)) (List.toArray args) = .call 63 (List.toArray (args ++ cap)) := call_cap Try.func63 (by kernel_rfl) (by kernel_rfl)
theorem fw_63 {l : List Value} {H : AHeap} {K : Value → AHeap → Prop} (hl : l.length ≤ 1) (h : Fine H → wC Try.prog H.fz [] (Try.f63.body.getD .skip) (argsE l) H (finQ Try.prog [.tmp 2] K)) : FnW Try.prog 63 l.toArray H K := fnW_ok [] mixed Try.func63 ok_63 hl (by decide) rfl h
theorem ok_64 : okW Try.prog [] 64 = true := by kernel_rfl
@[go_sem] theorem cl_64 {cap args : List Value} : callK Try.prog (.func (.func 64) #[] (List.toArray cap)) (List.toArray args) = .call 64 (List.toArray (args ++ cap)) := call_cap Try.func64 (by kernel_rfl) (by kernel_rfl)
theorem fw_64 {l : List Value} {H : AHeap} {K : Value → AHeap → Prop} (hl : l.length ≤ 2) (h : Fine H → wC Try.prog H.fz [] (Try.f64.body.getD .skip) (argsE l) H (finQ Try.prog [.tmp 4] K)) : FnW Try.prog 64 l.toArray H K := fnW_ok [] mixed Try.func64 ok_64 hl (by decide) rfl h
theorem ok_65 : okW Try.prog [] 65 = true := by kernel_rfl
@[go_sem] theorem cl_65 {cap args : List Value} : callK Try.prog (.func (.func 65) #[] (List.toArray cap)) (List.toArray args) = .call 65 (List.toArray (args ++ cap)) := call_cap Try.func65 (by kernel_rfl) (by kernel_rfl)
theorem fw_65 {l : List Value} {H : AHeap} {K : Value → AHeap → Prop} (hl : l.length ≤ 2) (h : Fine H → wC Try.prog H.fz [] (Try.f65.body.getD .skip) (argsE l) H (finQ Try.prog [.tmp 4] K)) : FnW Try.prog 65 l.toArray H K := fnW_ok [] mixed Try.func65 ok_65 hl (by decide) rfl h
theorem ok_66 : okW Try.prog [] 66 = true := by kernel_rfl
@[go_sem] theorem cl_66 {cap args : List Value} : callK Try.prog (.func (.func 66) #[] (List.toArray cap)) (List.toArray args) = .call 66 (List.toArray (args ++ cap)) := call_cap Try.func66 (by kernel_rfl) (by kernel_rfl)
theorem fw_66 {l : List Value} {H : AHeap} {K : Value → AHeap → Prop} (hl : l.length ≤ 1) (h : Fine H → wC Try.prog H.fz [] (Try.f66.body.getD .skip) (argsE l) H (finQ Try.prog [.cell 2 76] K)) : FnW Try.prog 66 l.toArray H K := fnW_ok [] mixed Try.func66 ok_66 hl (by decide) rfl h
theorem ok_67 : okW Try.prog [] 67 = true := by kernel_rfl
@[go_sem] theorem cl_67 {cap args : List Value} : callK Try.prog (.func (.func 67) #[] (List.toArray cap)) (List.toArray args) = .call 67 (List.toArray (args ++ cap)) := call_cap Try.func67 (by kernel_rfl) (by kernel_rfl)
theorem fw_67 {l : List Value} {H : AHeap} {K : Value → AHeap → Prop} (hl : l.length ≤ 3) (h : Fine H → wC Try.prog H.fz [] (Try.f67.body.getD .skip) (argsE l) H (finQ Try.prog [.tmp 6] K)) : FnW Try.prog 67 l.toArray H K := fnW_ok [] mixed Try.func67 ok_67 hl (by decide) rfl h
theorem ok_68 : okW Try.prog [(9, [(1, 3)])] 68 = true := by kernel_rfl
@[go_sem] theorem cl_68 {cap args : List Value} : callK Try.prog (.func (.func 68) #[] (List.toArray cap)) (List.toArray args) = .call 68 (List.toArray (args ++ cap)) := call_cap Try.func68 (by kernel_rfl) (by kernel_rfl)
theorem fw_68 {l : List Value} {H : AHeap} {K : Value → AHeap → Prop} (hl : l.length ≤ 1) (h : Fine H → wC Try.prog H.fz [(9, [(1, 3)])] (Try.f68.body.getD .skip) (argsE l) H (finQ Try.prog [.tmp 2] K)) : FnW Try.prog 68 l.toArray H K := fnW_ok [(9, [(1, 3)])] mixed Try.func68 ok_68 hl (by decide) rfl h
theorem ok_69 : okW Try.prog [] 69 = true := by kernel_rfl
@[go_sem] theorem cl_69 {cap args : List Value} : callK Try.prog (.func (.func 69) #[] (List.toArray cap)) (List.toArray args) = .call 69 (List.toArray (args ++ cap)) := call_cap Try.func69 (by kernel_rfl) (by kernel_rfl)
theorem fw_69 {l : List Value} {H : AHeap} {K : Value → AHeap → Prop} (hl : l.length ≤ 1) (h : Fine H → wC Try.prog H.fz [] (Try.f69.body.getD .skip) (argsE l) H (finQ Try.prog [.cell 2 76] K)) : FnW Try.prog 69 l.toArray H K := fnW_ok [] mixed Try.func69 ok_69 hl (by decide) rfl h
theorem ok_70 : okW Try.prog [] 70 = true := by kernel_rfl
@[go_sem] theorem cl_70 {cap args : List Value} : callK Try.prog (.func (.func 70) #[] (List.toArray cap)) (List.toArray args) = .call 70 (List.toArray (args ++ cap)) := call_cap Try.func70 (by kernel_rfl) (by kernel_rfl)
theorem fw_70 {l : List Value} {H : AHeap} {K : Value → AHeap → Prop} (hl : l.length ≤ 1) (h : Fine H → wC Try.prog H.fz [] (Try.f70.body.getD .skip) (argsE l) H (finQ Try.prog [.tmp 2] K)) : FnW Try.prog 70 l.toArray H K := fnW_ok [] mixed Try.func70 ok_70 hl (by decide) rfl h
theorem ok_71 : okW Try.prog [] 71 = true := by kernel_rfl
@[go_sem] theorem cl_71 {cap args : List Value} : callK Try.prog (.func (.func 71) #[] (List.toArray cap)) (List.toArray args) = .call 71 (List.toArray (args ++ cap)) := call_cap Try.func71 (by kernel_rfl) (by kernel_rfl)
theorem fw_71 {l : List Value} {H : AHeap} {K : Value → AHeap → Prop} (hl : l.length ≤ 1) (h : Fine H → wC Try.prog H.fz [] (Try.f71.body.getD .skip) (argsE l) H (finQ Try.prog [.tmp 2] K)) : FnW Try.prog 71 l.toArray H K := fnW_ok [] mixed Try.func71 ok_71 hl (by decide) rfl h
end Go.Proofs.Ytgjpcliaggpcaaa.Ab
