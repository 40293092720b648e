/- What the walks ask of types and functions: closed facts, printed by wip/tools/mkp.py. -/
import Derived.Test.YtilkokbmabbpgaaAbR4
import Derived.Test.YtilkokbmabbpgaaProg
import Derived.KernelRfl
set_option linter.unusedVariables false
set_option linter.unusedSimpArgs false
set_option maxRecDepth 100000
namespace Go.Proofs.Ytilkokbmabbpgaa.Ab
open Go
theorem mixed : Try.prog.follows .mixedOrders = true := by kernel_rfl
@[go_sem] theorem ag_3 : isAggK Try.prog 3 = some false := by kernel_rfl
@[go_sem] theorem sz_3 : sizeK Try.prog 3 = some 1 := by kernel_rfl
@[go_sem] theorem ag_22 : isAggK Try.prog 22 = some false := by kernel_rfl
@[go_sem] theorem sz_22 : sizeK Try.prog 22 = some 1 := by kernel_rfl
@[go_sem] theorem el_22 : elK Try.prog 22 = some (3, 1) := by kernel_rfl
theorem ap_22 : apK Try.prog 22 = some (3, 1, 8) := by kernel_rfl
@[go_sem] theorem zr_22 : zeroK Try.prog 22 = some [.slice none 0 0] := by kernel_rfl
@[go_sem] theorem un_3 : Try.prog.underlying 3 = some (Go.TypeDesc.int Go.IntKind.i64) := by kernel_rfl
@[go_sem] theorem un_22 : Try.prog.underlying 22 = some (Go.TypeDesc.slice 3) := by kernel_rfl
@[go_sem] theorem un_39 : Try.prog.underlying 39 = some (Go.TypeDesc.int Go.IntKind.u64) := by kernel_rfl
theorem ok_2 : okW Try.prog [] 2 = true := by kernel_rfl
@[go_sem] theorem cl_2 {cap args : List Value} : callK Try.prog (.func (.func 2) #[] (List.toArray cap)) (List.toArray args) = .call 2 (List.toArray (args ++ cap)) := call_cap Try.func2 (by kernel_rfl) (by kernel_rfl)
theorem fw_2 {l : List Value} {H : AHeap} {K : Value → AHeap → Prop} (hl : l.length ≤ 0) (h : Fine H → wC Try.prog H.fz [] (Try.f2.body.getD .skip) (argsE l) H (finQ Try.prog [] K)) : FnW Try.prog 2 l.toArray H K := fnW_ok [] mixed Try.func2 ok_2 hl (by decide) rfl h
theorem ok_3 : okW Try.prog [(8, [(0, 4)])] 3 = true := by kernel_rfl
@[go_sem] theorem cl_3 {cap args : List Value} : callK Try.prog (.func (.func 3) #[] (List.toArray cap)) (List.toArray args) = .call 3 (List.toArray (args ++ cap)) := call_cap Try.func3 (by kernel_rfl) (by kernel_rfl)
theorem fw_3 {l : List Value} {H : AHeap} {K : Value → AHeap → Prop} (hl : l.length ≤ 3) (h : Fine H → wC Try.prog H.fz [(8, [(0, 4)])] (Try.f3.body.getD .skip) (argsE l) H (finQ Try.prog [.tmp 6] K)) : FnW Try.prog 3 l.toArray H K := fnW_ok [(8, [(0, 4)])] mixed Try.func3 ok_3 hl (by decide) rfl h
theorem ok_4 : okW Try.prog [] 4 = true := by kernel_rfl
@[go_sem] theorem cl_4 {cap args : List Value} : callK Try.prog (.func (.func 4) #[] (List.toArray cap)) (List.toArray args) = .call 4 (List.toArray (args ++ cap)) := call_cap Try.func4 (by kernel_rfl) (by kernel_rfl)
theorem fw_4 {l : List Value} {H : AHeap} {K : Value → AHeap → Prop} (hl : l.length ≤ 4) (h : Fine H → wC Try.prog H.fz [] (Try.f4.body.getD .skip) (argsE l) H (finQ Try.prog [.tmp 8] K)) : FnW Try.prog 4 l.toArray H K := fnW_ok [] mixed Try.func4 ok_4 hl (by decide) rfl h
theorem ok_5 : okW Try.prog [] 5 = true := by kernel_rfl
@[go_sem] theorem cl_5 {cap args : List Value} : callK Try.prog (.func (.func 5) #[] (List.toArray cap)) (List.toArray args) = .call 5 (List.toArray (args ++ cap)) := call_cap Try.func5 (by kernel_rfl) (by kernel_rfl)
theorem fw_5 {l : List Value} {H : AHeap} {K : Value → AHeap → Prop} (hl : l.length ≤ 3) (h : Fine H → wC Try.prog H.fz [] (Try.f5.body.getD .skip) (argsE l) H (finQ Try.prog [.tmp 6] K)) : FnW Try.prog 5 l.toArray H K := fnW_ok [] mixed Try.func5 ok_5 hl (by decide) rfl h
theorem ok_6 : okW Try.prog [] 6 = true := by kernel_rfl
@[go_sem] theorem cl_6 {cap args : List Value} : callK Try.prog (.func (.func 6) #[] (List.toArray cap)) (List.toArray args) = .call 6 (List.toArray (args ++ cap)) := call_cap Try.func6 (by kernel_rfl) (by kernel_rfl)
theorem fw_6 {l : List Value} {H : AHeap} {K : Value → AHeap → Prop} (hl : l.length ≤ 3) (h : Fine H → wC Try.prog H.fz [] (Try.f6.body.getD .skip) (argsE l) H (finQ Try.prog [.tmp 6] K)) : FnW Try.prog 6 l.toArray H K := fnW_ok [] mixed Try.func6 ok_6 hl (by decide) rfl h
theorem ok_7 : okW Try.prog [] 7 = true := by kernel_rfl
@[go_sem] theorem cl_7 {cap args : List Value} : callK Try.prog (.func (.func 7) #[] (List.toArray cap)) (List.toArray args) = .call 7 (List.toArray (args ++ cap)) := call_cap Try.func7 (by kernel_rfl) (by kernel_rfl)
theorem fw_7 {l : List Value} {H : AHeap} {K : Value → AHeap → Prop} (hl : l.length ≤ 6) (h : Fine H → wC Try.prog H.fz [] (Try.f7.body.getD .skip) (argsE l) H (finQ Try.prog [.tmp 12] K)) : FnW Try.prog 7 l.toArray H K := fnW_ok [] mixed Try.func7 ok_7 hl (by decide) rfl h
theorem ok_8 : okW Try.prog [(5, [(7, 12)])] 8 = true := by kernel_rfl
@[go_sem] theorem cl_8 {cap args : List Value} : callK Try.prog (.func (.func 8) #[] (List.toArray cap)) (List.toArray args) = .call 8 (List.toArray (args ++ cap)) := call_cap Try.func8 (by kernel_rfl) (by kernel_rfl)
theorem fw_8 {l : List Value} {H : AHeap} {K : Value → AHeap → Prop} (hl : l.length ≤ 2) (h : Fine H → wC Try.prog H.fz [(5, [(7, 12)])] (Try.f8.body.getD .skip) (argsE l) H (finQ Try.prog [.tmp 4] K)) : FnW Try.prog 8 l.toArray H K := fnW_ok [(5, [(7, 12)])] mixed Try.func8 ok_8 hl (by decide) rfl h
theorem ok_9 : okW Try.prog [] 9 = true := by kernel_rfl
@[go_sem] theorem cl_9 {cap args : List Value} : callK Try.prog (.func (.func 9) #[] (List.toArray cap)) (List.toArray args) = .call 9 (List.toArray (args ++ cap)) := call_cap Try.func9 (by kernel_rfl) (by kernel_rfl)
theorem fw_9 {l : List Value} {H : AHeap} {K : Value → AHeap → Prop} (hl : l.length ≤ 1) (h : Fine H → wC Try.prog H.fz [] (Try.f9.body.getD .skip) (argsE l) H (finQ Try.prog [.tmp 2] K)) : FnW Try.prog 9 l.toArray H K := fnW_ok [] mixed Try.func9 ok_9 hl (by decide) rfl h
theorem ok_10 : okW Try.prog [] 10 = true := by kernel_rfl
@[go_sem] theorem cl_10 {cap args : List Value} : callK Try.prog (.func (.func 10) #[] (List.toArray cap)) (List.toArray args) = .call 10 (List.toArray (args ++ cap)) := call_cap Try.func10 (by kernel_rfl) (by kernel_rfl)
theorem fw_10 {l : List Value} {H : AHeap} {K : Value → AHeap → Prop} (hl : l.length ≤ 0) (h : Fine H → wC Try.prog H.fz [] (Try.f10.body.getD .skip) (argsE l) H (finQ Try.prog [.tmp 0] K)) : FnW Try.prog 10 l.toArray H K := fnW_ok [] mixed Try.func10 ok_10 hl (by decide) rfl h
theorem ok_11 : okW Try.prog [] 11 = true := by kernel_rfl
@[go_sem] theorem cl_11 {cap args : List Value} : callK Try.prog (.func (.func 11) #[] (List.toArray cap)) (List.toArray args) = .call 11 (List.toArray (args ++ cap)) := call_cap Try.func11 (by kernel_rfl) (by kernel_rfl)
theorem fw_11 {l : List Value} {H : AHeap} {K : Value → AHeap → Prop} (hl : l.length ≤ 2) (h : Fine H → wC Try.prog H.fz [] (Try.f11.body.getD .skip) (argsE l) H (finQ Try.prog [.tmp 4] K)) : FnW Try.prog 11 l.toArray H K := fnW_ok [] mixed Try.func11 ok_11 hl (by decide) rfl h
theorem ok_12 : okW Try.prog [] 12 = true := by kernel_rfl
@[go_sem] theorem cl_12 {cap args : List Value} : callK Try.prog (.func (.func 12) #[] (List.toArray cap)) (List.toArray args) = .call 12 (List.toArray (args ++ cap)) := call_cap Try.func12 (by kernel_rfl) (by kernel_rfl)
theorem fw_12 {l : List Value} {H : AHeap} {K : Value → AHeap → Prop} (hl : l.length ≤ 2) (h : Fine H → wC Try.prog H.fz [] (Try.f12.body.getD .skip) (argsE l) H (finQ Try.prog [.tmp 4] K)) : FnW Try.prog 12 l.toArray H K := fnW_ok [] mixed Try.func12 ok_12 hl (by decide) rfl h
theorem ok_13 : okW Try.prog [] 13 = true := by kernel_rfl
@[go_sem] theorem cl_13 {cap args : List Value} : callK Try.prog (.func (.func 13) #[] (List.toArray cap)) (List.toArray args) = .call 13 (List.toArray (args ++ cap)) := call_cap Try.func13 (by kernel_rfl) (by kernel_rfl)
theorem fw_13 {l : List Value} {H : AHeap} {K : Value → AHeap → Prop} (hl : l.length ≤ 2) (h : Fine H → wC Try.prog H.fz [] (Try.f13.body.getD .skip) (argsE l) H (finQ Try.prog [.tmp 4, .tmp 5] K)) : FnW Try.prog 13 l.toArray H K := fnW_ok [] mixed Try.func13 ok_13 hl (by decide) rfl h
theorem ok_14 : okW Try.prog [] 14 = true := by kernel_rfl
@[go_sem] theorem cl_14 {cap args : List Value} : callK Try.prog (.func (.func 14) #[] (List.toArray cap)) (List.toArray args) = .call 14 (List.toArray (args ++ cap)) := call_cap Try.func14 (by kernel_rfl) (by kernel_rfl)
theorem fw_14 {l : List Value} {H : AHeap} {K : Value → AHeap → Prop} (hl : l.length ≤ 1) (h : Fine H → wC Try.prog H.fz [] (Try.f14.body.getD .skip) (argsE l) H (finQ Try.prog [.tmp 2] K)) : FnW Try.prog 14 l.toArray H K := fnW_ok [] mixed Try.func14 ok_14 hl (by decide) rfl h
theorem ok_15 : okW Try.prog [] 15 = true := by kernel_rfl
@[go_sem] theorem cl_15 {cap args : List Value} : callK Try.prog (.func (.func 15) #[] (List.toArray cap)) (List.toArray args) = .call 15 (List.toArray (args ++ cap)) := call_cap Try.func15 (by kernel_rfl) (by kernel_rfl)
theorem fw_15 {l : List Value} {H : AHeap} {K : Value → AHeap → Prop} (hl : l.length ≤ 3) (h : Fine H → wC Try.prog H.fz [] (Try.f15.body.getD .skip) (argsE l) H (finQ Try.prog [.tmp 4] K)) : FnW Try.prog 15 l.toArray H K := fnW_ok [] mixed Try.func15 ok_15 hl (by decide) rfl h
theorem ok_16 : okW Try.prog [] 16 = true := by kernel_rfl
@[go_sem] theorem cl_16 {cap args : List Value} : callK Try.prog (.func (.func 16) #[] (List.toArray cap)) (List.toArray args) = .call 16 (List.toArray (args ++ cap)) := call_cap Try.func16 (by kernel_rfl) (by kernel_rfl)
theorem fw_16 {l : List Value} {H : AHeap} {K : Value → AHeap → Prop} (hl : l.length ≤ 2) (h : Fine H → wC Try.prog H.fz [] (Try.f16.body.getD .skip) (argsE l) H (finQ Try.prog [.tmp 4] K)) : FnW Try.prog 16 l.toArray H K := fnW_ok [] mixed Try.func16 ok_16 hl (by decide) rfl h
theorem ok_17 : okW Try.prog [] 17 = true := by kernel_rfl
@[go_sem] theorem cl_17 {cap args : List Value} : callK Try.prog (.func (.func 17) #[] (List.toArray cap)) (List.toArray args) = .call 17 (List.toArray (args ++ cap)) := call_cap Try.func17 (by kernel_rfl) (by kernel_rfl)
theorem fw_17 {l : List Value} {H : AHeap} {K : Value → AHeap → Prop} (hl : l.length ≤ 2) (h : Fine H → wC Try.prog H.fz [] (Try.f17.body.getD .skip) (argsE l) H (finQ Try.prog [.tmp 4] K)) : FnW Try.prog 17 l.toArray H K := fnW_ok [] mixed Try.func17 ok_17 hl (by decide) rfl h
theorem ok_18 : okW Try.prog [] 18 = true := by kernel_rfl
@[go_sem] theorem cl_18 {cap args : List Value} : callK Try.prog (.func (.func 18) #[] (List.toArray cap)) (List.toArray args) = .call 18 (List.toArray (args ++ cap)) := call_cap Try.func18 (by kernel_rfl) (by kernel_rfl)
theorem fw_18 {l : List Value} {H : AHeap} {K : Value → AHeap → Prop} (hl : l.length ≤ 1) (h : Fine H → wC Try.prog H.fz [] (Try.f18.body.getD .skip) (argsE l) H (finQ Try.prog [.tmp 2] K)) : FnW Try.prog 18 l.toArray H K := fnW_ok [] mixed Try.func18 ok_18 hl (by decide) rfl h
theorem ok_19 : okW Try.prog [] 19 = true := by kernel_rfl
@[go_sem] theorem cl_19 {cap args : List Value} : callK Try.prog (.func (.func 19) #[] (List.toArray cap)) (List.toArray args) = .call 19 (List.toArray (args ++ cap)) := call_cap Try.func19 (by kernel_rfl) (by kernel_rfl)
theorem fw_19 {l : List Value} {H : AHeap} {K : Value → AHeap → Prop} (hl : l.length ≤ 2) (h : Fine H → wC Try.prog H.fz [] (Try.f19.body.getD .skip) (argsE l) H (finQ Try.prog [.tmp 4] K)) : FnW Try.prog 19 l.toArray H K := fnW_ok [] mixed Try.func19 ok_19 hl (by decide) rfl h
theorem ok_20 : okW Try.prog [] 20 = true := by kernel_rfl
@[go_sem] theorem cl_20 {cap args : List Value} : callK Try.prog (.func (.func 20) #[] (List.toArray cap)) (List.toArray args) = .call 20 (List.toArray (args ++ cap)) := call_cap Try.func20 (by kernel_rfl) (by kernel_rfl)
theorem fw_20 {l : List Value} {H : AHeap} {K : Value → AHeap → Prop} (hl : l.length ≤ 2) (h : Fine H → wC Try.prog H.fz [] (Try.f20.body.getD .skip) (argsE l) H (finQ Try.prog [.tmp 4] K)) : FnW Try.prog 20 l.toArray H K := fnW_ok [] mixed Try.func20 ok_20 hl (by decide) rfl h
theorem ok_21 : okW Try.prog [] 21 = true := by kernel_rfl
@[go_sem] theorem cl_21 {cap args : List Value} : callK Try.prog (.func (.func 21) #[] (List.toArray cap)) (List.toArray args) = .call 21 (List.toArray (args ++ cap)) := call_cap Try.func21 (by kernel_rfl) (by kernel_rfl)
theorem fw_21 {l : List Value} {H : AHeap} {K : Value → AHeap → Prop} (hl : l.length ≤ 2) (h : Fine H → wC Try.prog H.fz [] (Try.f21.body.getD .skip) (argsE l) H (finQ Try.prog [.tmp 4] K)) : FnW Try.prog 21 l.toArray H K := fnW_ok [] mixed Try.func21 ok_21 hl (by decide) rfl h
theorem ok_22 : okW Try.prog [] 22 = true := by kernel_rfl
@[go_sem] theorem cl_22 {cap args : List Value} : callK Try.prog (.func (.func 22) #[] (List.toArray cap)) (List.toArray args) = .call 22 (List.toArray (args ++ cap)) := call_cap Try.func22 (by kernel_rfl) (by kernel_rfl)
theorem fw_22 {l : List Value} {H : AHeap} {K : Value → AHeap → Prop} (hl : l.length ≤ 2) (h : Fine H → wC Try.prog H.fz [] (Try.f22.body.getD .skip) (argsE l) H (finQ Try.prog [.tmp 4, .tmp 5] K)) : FnW Try.prog 22 l.toArray H K := fnW_ok [] mixed Try.func22 ok_22 hl (by decide) rfl h
theorem ok_23 : okW Try.prog [] 23 = true := by kernel_rfl
@[go_sem] theorem cl_23 {cap args : List Value} : callK Try.prog (.func (.func 23) #[] (List.toArray cap)) (List.toArray args) = .call 23 (List.toArray (args ++ cap)) := call_cap Try.func23 (by kernel_rfl) (by kernel_rfl)
theorem fw_23 {l : List Value} {H : AHeap} {K : Value → AHeap → Prop} (hl : l.length ≤ 1) (h : Fine H → wC Try.prog H.fz [] (Try.f23.body.getD .skip) (argsE l) H (finQ Try.prog [.tmp 2] K)) : FnW Try.prog 23 l.toArray H K := fnW_ok [] mixed Try.func23 ok_23 hl (by decide) rfl h
theorem ok_24 : okW Try.prog [] 24 = true := by kernel_rfl
@[go_sem] theorem cl_24 {cap args : List Value} : callK Try.prog (.func (.func 24) #[] (List.toArray cap)) (List.toArray args) = .call 24 (List.toArray (args ++ cap)) := call_cap Try.func24 (by kernel_rfl) (by kernel_rfl)
theorem fw_24 {l : List Value} {H : AHeap} {K : Value → AHeap → Prop} (hl : l.length ≤ 1) (h : Fine H → wC Try.prog H.fz [] (Try.f24.body.getD .skip) (argsE l) H (finQ Try.prog [.tmp 2] K)) : FnW Try.prog 24 l.toArray H K := fnW_ok [] mixed Try.func24 ok_24 hl (by decide) rfl h
theorem ok_25 : okW Try.prog [] 25 = true := by kernel_rfl
@[go_sem] theorem cl_25 {cap args : List Value} : callK Try.prog (.func (.func 25) #[] (List.toArray cap)) (List.toArray args) = .call 25 (List.toArray (args ++ cap)) := call_cap Try.func25 (by kernel_rfl) (by kernel_rfl)
theorem fw_25 {l : List Value} {H : AHeap} {K : Value → AHeap → Prop} (hl : l.length ≤ 2) (h : Fine H → wC Try.prog H.fz [] (Try.f25.body.getD .skip) (argsE l) H (finQ Try.prog [.tmp 4] K)) : FnW Try.prog 25 l.toArray H K := fnW_ok [] mixed Try.func25 ok_25 hl (by decide) rfl h
theorem ok_26 : okW Try.prog [] 26 = true := by kernel_rfl
@[go_sem] theorem cl_26 {cap args : List Value} : callK Try.prog (.func (.func 26) #[] (List.toArray cap)) (List.toArray args) = .call 26 (List.toArray (args ++ cap)) := call_cap Try.func26 (by kernel_rfl) (by kernel_rfl)
theorem fw_26 {l : List Value} {H : AHeap} {K : Value → AHeap → Prop} (hl : l.length ≤ 2) (h : Fine H → wC Try.prog H.fz [] (Try.f26.body.getD .skip) (argsE l) H (finQ Try.prog [.tmp 4] K)) : FnW Try.prog 26 l.toArray H K := fnW_ok [] mixed Try.func26 ok_26 hl (by decide) rfl h
theorem ok_27 : okW Try.prog [] 27 = true := by kernel_rfl
@[go_sem] theorem cl_27 {cap args : List Value} : callK Try.prog (.func (.func 27) #[] (List.toArray cap)) (List.toArray args) = .call 27 (List.toArray (args ++ cap)) := call_cap Try.func27 (by kernel_rfl) (by kernel_rfl)
theorem fw_27 {l : List Value} {H : AHeap} {K : Value → AHeap → Prop} (hl : l.length ≤ 2) (h : Fine H → wC Try.prog H.fz [] (Try.f27.body.getD .skip) (argsE l) H (finQ Try.prog [.tmp 4] K)) : FnW Try.prog 27 l.toArray H K := fnW_ok [] mixed Try.func27 ok_27 hl (by decide) rfl h
theorem ok_28 : okW Try.prog [] 28 = true := by kernel_rfl
@[go_sem] theorem cl_28 {cap args : List Value} : callK Try.prog (.func (.func 28) #[] (List.toArray cap)) (List.toArray args) = .call 28 (List.toArray (args ++ cap)) := call_cap Try.func28 (by kernel_rfl) (by kernel_rfl)
theorem fw_28 {l : List Value} {H : AHeap} {K : Value → AHeap → Prop} (hl : l.length ≤ 2) (h : Fine H → wC Try.prog H.fz [] (Try.f28.body.getD .skip) (argsE l) H (finQ Try.prog [.tmp 4] K)) : FnW Try.prog 28 l.toArray H K := fnW_ok [] mixed Try.func28 ok_28 hl (by decide) rfl h
theorem ok_29 : okW Try.prog [] 29 = true := by kernel_rfl
@[go_sem] theorem cl_29 {cap args : List Value} : callK Try.prog (.func (.func 29) #[] (List.toArray cap)) (List.toArray args) = .call 29 (List.toArray (args ++ cap)) := call_cap Try.func29 (by kernel_rfl) (by kernel_rfl)
theorem fw_29 {l : List Value} {H : AHeap} {K : Value → AHeap → Prop} (hl : l.length ≤ 1) (h : Fine H → wC Try.prog H.fz [] (Try.f29.body.getD .skip) (argsE l) H (finQ Try.prog [.tmp 2] K)) : FnW Try.prog 29 l.toArray H K := fnW_ok [] mixed Try.func29 ok_29 hl (by decide) rfl h
theorem ok_30 : okW Try.prog [] 30 = true := by kernel_rfl
@[go_sem] theorem cl_30 {cap args : List Value} : callK Try.prog (.func (.func 30) #[] (List.toArray cap)) (List.toArray args) = .call 30 (List.toArray (args ++ cap)) := call_cap Try.func30 (by kernel_rfl) (by kernel_rfl)
theorem fw_30 {l : List Value} {H : AHeap} {K : Value → AHeap → Prop} (hl : l.length ≤ 3) (h : Fine H → wC Try.prog H.fz [] (Try.f30.body.getD .skip) (argsE l) H (finQ Try.prog [] K)) : FnW Try.prog 30 l.toArray H K := fnW_ok [] mixed Try.func30 ok_30 hl (by decide) rfl h
theorem ok_31 : okW Try.prog [] 31 = true := by kernel_rfl
@[go_sem] theorem cl_31 {cap args : List Value} : callK Try.prog (.func (.func 31) #[] (List.toArray cap)) (List.toArray args) = .call 31 (List.toArray (args ++ cap)) := call_cap Try.func31 (by kernel_rfl) (by kernel_rfl)
theorem fw_31 {l : List Value} {H : AHeap} {K : Value → AHeap → Prop} (hl : l.length ≤ 1) (h : Fine H → wC Try.prog H.fz [] (Try.f31.body.getD .skip) (argsE l) H (finQ Try.prog [.tmp 2] K)) : FnW Try.prog 31 l.toArray H K := fnW_ok [] mixed Try.func31 ok_31 hl (by decide) rfl h
theorem ok_32 : okW Try.prog [] 32 = true := by kernel_rfl
@[go_sem] theorem cl_32 {cap args : List Value} : callK Try.prog (.func (.func 32) #[] (List.toArray cap)) (List.toArray args) = .call 32 (List.toArray (args ++ cap)) := call_cap Try.func32 (by kernel_rfl) (by kernel_rfl)
theorem fw_32 {l : List Value} {H : AHeap} {K : Value → AHeap → Prop} (hl : l.length ≤ 2) (h : Fine H → wC Try.prog H.fz [] (Try.f32.body.getD .skip) (argsE l) H (finQ Try.prog [.tmp 4] K)) : FnW Try.prog 32 l.toArray H K := fnW_ok [] mixed Try.func32 ok_32 hl (by decide) rfl h
theorem ok_33 : okW Try.prog [] 33 = true := by kernel_rfl
@[go_sem] theorem cl_33 {cap args : List Value} : callK Try.prog (.func (.func 33) #[] (List.toArray cap)) (List.toArray args) = .call 33 (List.toArray (args ++ cap)) := call_cap Try.func33 (by kernel_rfl) (by kernel_rfl)
theorem fw_33 {l : List Value} {H : AHeap} {K : Value → AHeap → Prop} (hl : l.length ≤ 2) (h : Fine H → wC Try.prog H.fz [] (Try.f33.body.getD .skip) (argsE l) H (finQ Try.prog [.tmp 4] K)) : FnW Try.prog 33 l.toArray H K := fnW_ok [] mixed Try.func33 ok_33 hl (by decide) rfl h
theorem ok_34 : okW Try.prog [] 34 = true := by kernel_rfl
@[go_sem] theorem cl_34 {cap args : List Value} : callK Try.prog (.func (.func 34) #[] (List.toArray cap)) (List.toArray args) = .call 34 (List.toArray (args ++ cap)) := call_cap Try.func34 (by kernel_rfl) (by kernel_rfl)
theorem fw_34 {l : List Value} {H : AHeap} {K : Value → AHeap → Prop} (hl : l.length ≤ 2) (h : Fine H → wC Try.prog H.fz [] (Try.f34.body.getD .skip) (argsE l) H (finQ Try.prog [.tmp 4] K)) : FnW Try.prog 34 l.toArray H K := fnW_ok [] mixed Try.func34 ok_34 hl (by decide) rfl h
theorem ok_35 : okW Try.prog [] 35 = true := by kernel_rfl
@[go_sem] theorem cl_35 {cap args : List Value} : callK Try.prog (.func (.func 35) #[] (List.toArray cap)) (List.toArray args) = .call 35 (List.toArray (args ++ cap)) := call_cap Try.func35 (by kernel_rfl) (by kernel_rfl)
theorem fw_35 {l : List Value} {H : AHeap} {K : Value → AHeap → Prop} (hl : l.length ≤ 2) (h : Fine H → wC Try.prog H.fz [] (Try.f35.body.getD .skip) (argsE l) H (finQ Try.prog [.tmp 3] K)) : FnW Try.prog 35 l.toArray H K := fnW_ok [] mixed Try.func35 ok_35 hl (by decide) rfl h
theorem ok_36 : okW Try.prog [] 36 = true := by kernel_rfl
@[go_sem] theorem cl_36 {cap args : List Value} : callK Try.prog (.func (.func 36) #[] (List.toArray cap)) (List.toArray args) = .call 36 (List.toArray (args ++ cap)) := call_cap Try.func36 (by kernel_rfl) (by kernel_rfl)
theorem fw_36 {l : List Value} {H : AHeap} {K : Value → AHeap → Prop} (hl : l.length ≤ 2) (h : Fine H → wC Try.prog H.fz [] (Try.f36.body.getD .skip) (argsE l) H (finQ Try.prog [.tmp 4] K)) : FnW Try.prog 36 l.toArray H K := fnW_ok [] mixed Try.func36 ok_36 hl (by decide) rfl h
theorem ok_37 : okW Try.prog [] 37 = true := by kernel_rfl
@[go_sem] theorem cl_37 {cap args : List Value} : callK Try.prog (.func (.func 37) #[] (List.toArray cap)) (List.toArray args) = .call 37 (List.toArray (args ++ cap)) := call_cap Try.func37 (by kernel_rfl) (by kernel_rfl)
theorem fw_37 {l : List Value} {H : AHeap} {K : Value → AHeap → Prop} (hl : l.length ≤ 2) (h : Fine H → wC Try.prog H.fz [] (Try.f37.body.getD .skip) (argsE l) H (finQ Try.prog [.tmp 4] K)) : FnW Try.prog 37 l.toArray H K := fnW_ok [] mixed Try.func37 ok_37 hl (by decide) rfl h
end Go.Proofs.Ytilkokbmabbpgaa.Ab
