/- The tables of the functions of the program of this seat, as the evaluator looks at them, and that they are right. Made by program. -/
import Derived.Test.YtaebmdinecilbaaGreatDoorChecked
import Derived.KernelRfl
import Derived.Test.YtaebmdinecilbaaGreatDoorSxTb
namespace Go.Proofs.YtaebmdinecilbaaGreatDoor.T
open Go.Sx
set_option maxRecDepth 100000
noncomputable def F2 : FnI := ⟨bodyOf Tryz.f2, 1, [], .e⟩
theorem fn2 : FnOk Tryz.prog 2 F2 := FnOk.of Tryz.func2 rfl (by kernel_rfl) rfl rfl
theorem pl2 : codeOk planOk F2.plans F2.code = true := by kernel_rfl
noncomputable def F3 : FnI := ⟨bodyOf Tryz.f3, 220, [.tmp 8], (.n none (.n none (.n none (.n none (.n none .e .e) .e) (.n none .e .e)) (.n none (.n none .e .e) (.n none .e .e))) (.n none (.n none (.n none (.n (some [.n 0, .n 1, .n 2, .n 3, .n 4, .n 5, .n 6, .n 7, .n 8, .n 9, .n 10, .n 11, .n 12, .go 13, .x 13, .r 0, .r 1, .r 2, .r 3, .r 4, .r 5, .r 6, .r 7, .r 8, .r 9, .r 10, .r 11, .r 12, .go 14, .x 14, .fin]) .e .e) .e) (.n none .e .e)) (.n none (.n (some [.n 0, .n 2, .n 4, .g 5, .g 12, .go 1, .x 1, .r 0, .r 2, .r 4, .g 5, .g 12, .go 3, .x 3, .r 0, .r 4, .g 5, .g 12, .go 6, .b 5, .x 6, .r 0, .g 12, .go 7, .x 7, .n 8, .n 9, .n 10, .n 11, .g 12, .go 13, .b 12, .x 13, .r 10, .r 11, .go 14, .x 14, .r 11, .go 15, .x 15, .fin]) .e .e) (.n none .e .e))))⟩
theorem fn3 : FnOk Tryz.prog 3 F3 := FnOk.of Tryz.func3 rfl (by kernel_rfl) rfl rfl
theorem pl3 : codeOk planOk F3.plans F3.code = true := by kernel_rfl
noncomputable def F4 : FnI := ⟨bodyOf Tryz.f4, 66, [.tmp 6], (.n none (.n none (.n none (.n (some [.n 0, .n 1, .n 2, .n 3, .n 4, .n 5, .n 6, .n 7, .n 9, .go 8, .x 8, .r 9, .n 10, .n 11, .fin]) .e .e) .e) (.n none (.n none .e .e) .e)) (.n none (.n none (.n none .e .e) .e) (.n none (.n (some [.n 0, .n 1, .n 2, .n 3, .n 5, .go 4, .x 4, .r 5, .n 6, .n 7, .n 8, .go 9, .x 9, .n 10, .go 11, .x 11, .fin]) .e .e) .e)))⟩
theorem fn4 : FnOk Tryz.prog 4 F4 := FnOk.of Tryz.func4 rfl (by kernel_rfl) rfl rfl
theorem pl4 : codeOk planOk F4.plans F4.code = true := by kernel_rfl
noncomputable def F5 : FnI := ⟨bodyOf Tryz.f5, 112, [.tmp 14], .e⟩
theorem fn5 : FnOk Tryz.prog 5 F5 := FnOk.of Tryz.func5 rfl (by kernel_rfl) rfl rfl
theorem pl5 : codeOk planOk F5.plans F5.code = true := by kernel_rfl
noncomputable def F6 : FnI := ⟨bodyOf Tryz.f6, 164, [.tmp 0], .e⟩
theorem fn6 : FnOk Tryz.prog 6 F6 := FnOk.of Tryz.func6 rfl (by kernel_rfl) rfl rfl
theorem pl6 : codeOk planOk F6.plans F6.code = true := by kernel_rfl
noncomputable def F7 : FnI := ⟨bodyOf Tryz.f7, 115, [.cell 6 28, .tmp 7], (.n none (.n none (.n none (.n none (.n (some [.n 0, .n 1, .n 2, .n 3, .n 4, .n 5, .n 6, .n 7, .n 8, .n 9, .n 10, .n 11, .n 12, .n 13, .n 14, .n 15, .n 16, .n 17, .n 18, .n 19, .n 21, .go 20, .x 20, .r 2, .r 3, .r 11, .r 12, .r 13, .r 14, .r 15, .r 16, .r 17, .r 21, .n 22, .go 23, .x 23, .fin]) .e .e) .e) (.n none .e .e)) (.n none (.n none .e .e) (.n none .e .e))) (.n none (.n none (.n none .e .e) (.n none .e .e)) (.n none (.n none .e .e) (.n (some [.n 0, .n 1, .n 2, .n 3, .n 4, .n 5, .n 6, .n 7, .n 8, .n 10, .go 9, .x 9, .r 1, .r 2, .r 5, .r 6, .r 10, .n 11, .go 12, .x 12, .fin]) .e .e))))⟩
theorem fn7 : FnOk Tryz.prog 7 F7 := FnOk.of Tryz.func7 rfl (by kernel_rfl) rfl rfl
theorem pl7 : codeOk planOk F7.plans F7.code = true := by kernel_rfl
noncomputable def F8 : FnI := ⟨bodyOf Tryz.f8, 12, [.tmp 2], .e⟩
theorem fn8 : FnOk Tryz.prog 8 F8 := FnOk.of Tryz.func8 rfl (by kernel_rfl) rfl rfl
theorem pl8 : codeOk planOk F8.plans F8.code = true := by kernel_rfl
noncomputable def F9 : FnI := ⟨bodyOf Tryz.f9, 60, [.cell 4 41, .tmp 5, .tmp 6], (.n none (.n none (.n none .e .e) (.n (some [.n 0, .n 1, .n 2, .n 3, .n 4, .n 5, .n 6, .n 7, .n 8, .go 9, .x 9, .r 0, .r 1, .r 2, .r 3, .r 4, .r 5, .r 6, .r 7, .r 8, .go 10, .x 10, .fin]) .e .e)) (.n none (.n none .e .e) .e))⟩
theorem fn9 : FnOk Tryz.prog 9 F9 := FnOk.of Tryz.func9 rfl (by kernel_rfl) rfl rfl
theorem pl9 : codeOk planOk F9.plans F9.code = true := by kernel_rfl
noncomputable def F10 : FnI := ⟨bodyOf Tryz.f10, 43, [.cell 2 25, .tmp 3], (.n none (.n none (.n none (.n none .e .e) .e) (.n none .e .e)) (.n none (.n none (.n (some [.n 0, .n 1, .n 2, .n 3, .n 4, .n 5, .n 6, .n 7, .n 8, .n 9, .n 10, .n 11, .n 12, .n 13, .go 14, .x 14, .fin]) .e .e) .e) (.n none .e .e)))⟩
theorem fn10 : FnOk Tryz.prog 10 F10 := FnOk.of Tryz.func10 rfl (by kernel_rfl) rfl rfl
theorem pl10 : codeOk planOk F10.plans F10.code = true := by kernel_rfl
noncomputable def F11 : FnI := ⟨bodyOf Tryz.f11, 24, [.tmp 4, .tmp 5], .e⟩
theorem fn11 : FnOk Tryz.prog 11 F11 := FnOk.of Tryz.func11 rfl (by kernel_rfl) rfl rfl
theorem pl11 : codeOk planOk F11.plans F11.code = true := by kernel_rfl
noncomputable def F12 : FnI := ⟨bodyOf Tryz.f12, 23, [.tmp 0], .e⟩
theorem fn12 : FnOk Tryz.prog 12 F12 := FnOk.of Tryz.func12 rfl (by kernel_rfl) rfl rfl
theorem pl12 : codeOk planOk F12.plans F12.code = true := by kernel_rfl
noncomputable def F13 : FnI := ⟨bodyOf Tryz.f13, 26, [.cell 4 60], .e⟩
theorem fn13 : FnOk Tryz.prog 13 F13 := FnOk.of Tryz.func13 rfl (by kernel_rfl) rfl rfl
theorem pl13 : codeOk planOk F13.plans F13.code = true := by kernel_rfl
noncomputable def F14 : FnI := ⟨bodyOf Tryz.f14, 39, [.cell 6 28, .tmp 7], .e⟩
theorem fn14 : FnOk Tryz.prog 14 F14 := FnOk.of Tryz.func14 rfl (by kernel_rfl) rfl rfl
theorem pl14 : codeOk planOk F14.plans F14.code = true := by kernel_rfl
noncomputable def F15 : FnI := ⟨bodyOf Tryz.f15, 29, [.tmp 2, .tmp 3], (.n none (.n none (.n none (.n (some [.n 0, .n 3, .go 1, .x 1, .n 2, .r 3, .n 4, .go 5, .x 5, .go 6, .x 6, .go 7, .x 7, .fin]) .e .e) .e) (.n none .e .e)) (.n none (.n none .e .e) (.n none .e .e)))⟩
theorem fn15 : FnOk Tryz.prog 15 F15 := FnOk.of Tryz.func15 rfl (by kernel_rfl) rfl rfl
theorem pl15 : codeOk planOk F15.plans F15.code = true := by kernel_rfl
noncomputable def F16 : FnI := ⟨bodyOf Tryz.f16, 52, [.cell 4 85], (.n none (.n (some [.n 1, .n 3, .n 4, .g 7, .go 0, .x 0, .r 1, .n 2, .r 3, .r 4, .g 7, .go 5, .x 5, .r 1, .r 2, .r 3, .r 4, .n 6, .g 7, .go 8, .b 7, .x 8, .fin]) (.n none .e .e) (.n none .e .e)) (.n none (.n none .e .e) (.n (some [.n 0, .n 1, .n 2, .go 3, .x 3, .r 0, .r 1, .r 2, .go 4, .x 4, .r 0, .r 1, .r 2, .go 5, .x 5, .n 6, .n 7, .go 8, .x 8, .fin]) .e .e)))⟩
theorem fn16 : FnOk Tryz.prog 16 F16 := FnOk.of Tryz.func16 rfl (by kernel_rfl) rfl rfl
theorem pl16 : codeOk planOk F16.plans F16.code = true := by kernel_rfl
noncomputable def F17 : FnI := ⟨bodyOf Tryz.f17, 11, [.cell 2 28], .e⟩
theorem fn17 : FnOk Tryz.prog 17 F17 := FnOk.of Tryz.func17 rfl (by kernel_rfl) rfl rfl
theorem pl17 : codeOk planOk F17.plans F17.code = true := by kernel_rfl
noncomputable def F18 : FnI := ⟨bodyOf Tryz.f18, 59, [.cell 4 89, .tmp 5], .e⟩
theorem fn18 : FnOk Tryz.prog 18 F18 := FnOk.of Tryz.func18 rfl (by kernel_rfl) rfl rfl
theorem pl18 : codeOk planOk F18.plans F18.code = true := by kernel_rfl
noncomputable def F19 : FnI := ⟨bodyOf Tryz.f19, 33, [.tmp 0], .e⟩
theorem fn19 : FnOk Tryz.prog 19 F19 := FnOk.of Tryz.func19 rfl (by kernel_rfl) rfl rfl
theorem pl19 : codeOk planOk F19.plans F19.code = true := by kernel_rfl
noncomputable def F20 : FnI := ⟨bodyOf Tryz.f20, 52, [.tmp 0], .e⟩
theorem fn20 : FnOk Tryz.prog 20 F20 := FnOk.of Tryz.func20 rfl (by kernel_rfl) rfl rfl
theorem pl20 : codeOk planOk F20.plans F20.code = true := by kernel_rfl
noncomputable def F21 : FnI := ⟨bodyOf Tryz.f21, 75, [.tmp 6, .tmp 7], (.n none (.n none (.n none (.n (some [.n 0, .n 1, .n 2, .n 3, .n 4, .n 5, .n 6, .n 7, .n 8, .n 10, .n 11, .go 9, .x 9, .r 0, .r 1, .r 2, .r 3, .r 4, .r 5, .r 6, .r 10, .r 11, .go 12, .x 12, .r 0, .r 1, .r 2, .r 3, .r 4, .r 5, .r 6, .go 13, .x 13, .n 14, .n 15, .n 16, .n 17, .go 18, .x 18, .r 16, .r 17, .go 19, .x 19, .r 17, .go 20, .x 20, .fin]) .e .e) .e) (.n none .e .e)) (.n none (.n none .e .e) (.n none .e .e)))⟩
theorem fn21 : FnOk Tryz.prog 21 F21 := FnOk.of Tryz.func21 rfl (by kernel_rfl) rfl rfl
theorem pl21 : codeOk planOk F21.plans F21.code = true := by kernel_rfl
noncomputable def F22 : FnI := ⟨bodyOf Tryz.f22, 90, [.cell 10 106, .tmp 11], (.n none (.n none (.n none (.n none .e .e) (.n (some [.n 0, .n 1, .n 2, .n 3, .n 4, .n 5, .n 6, .n 7, .n 8, .n 9, .n 10, .n 11, .n 12, .n 13, .n 14, .n 15, .n 16, .n 17, .n 18, .n 19, .n 20, .n 21, .n 22, .n 23, .n 24, .n 25, .go 26, .x 26, .r 0, .r 1, .r 2, .r 3, .r 4, .r 5, .r 6, .r 7, .r 8, .r 9, .r 10, .r 11, .r 12, .r 13, .r 14, .r 15, .r 16, .r 17, .r 18, .r 19, .r 20, .r 21, .r 22, .r 23, .r 24, .r 25, .go 27, .x 27, .fin]) .e .e)) (.n none (.n none .e .e) .e)) (.n none (.n none (.n none .e .e) .e) (.n none (.n none .e .e) .e)))⟩
theorem fn22 : FnOk Tryz.prog 22 F22 := FnOk.of Tryz.func22 rfl (by kernel_rfl) rfl rfl
theorem pl22 : codeOk planOk F22.plans F22.code = true := by kernel_rfl
noncomputable def F23 : FnI := ⟨bodyOf Tryz.f23, 55, [.tmp 4], (.n none (.n none (.n none .e .e) (.n none .e .e)) (.n none (.n none .e .e) (.n (some [.n 0, .n 1, .n 2, .n 3, .n 4, .n 5, .n 6, .n 7, .n 8, .n 9, .n 10, .fin]) .e .e)))⟩
theorem fn23 : FnOk Tryz.prog 23 F23 := FnOk.of Tryz.func23 rfl (by kernel_rfl) rfl rfl
theorem pl23 : codeOk planOk F23.plans F23.code = true := by kernel_rfl
noncomputable def F24 : FnI := ⟨bodyOf Tryz.f24, 11, [.tmp 2], .e⟩
theorem fn24 : FnOk Tryz.prog 24 F24 := FnOk.of Tryz.func24 rfl (by kernel_rfl) rfl rfl
theorem pl24 : codeOk planOk F24.plans F24.code = true := by kernel_rfl
noncomputable def F25 : FnI := ⟨bodyOf Tryz.f25, 11, [.tmp 2], .e⟩
theorem fn25 : FnOk Tryz.prog 25 F25 := FnOk.of Tryz.func25 rfl (by kernel_rfl) rfl rfl
theorem pl25 : codeOk planOk F25.plans F25.code = true := by kernel_rfl
noncomputable def F26 : FnI := ⟨bodyOf Tryz.f26, 16, [.tmp 2], .e⟩
theorem fn26 : FnOk Tryz.prog 26 F26 := FnOk.of Tryz.func26 rfl (by kernel_rfl) rfl rfl
theorem pl26 : codeOk planOk F26.plans F26.code = true := by kernel_rfl
noncomputable def F27 : FnI := ⟨bodyOf Tryz.f27, 27, [.cell 0 85], (.n none (.n none (.n (some [.n 0, .g 3, .go 1, .x 1, .r 0, .n 2, .g 3, .go 4, .b 3, .x 4, .fin]) .e .e) .e) (.n none .e .e))⟩
theorem fn27 : FnOk Tryz.prog 27 F27 := FnOk.of Tryz.func27 rfl (by kernel_rfl) rfl rfl
theorem pl27 : codeOk planOk F27.plans F27.code = true := by kernel_rfl
noncomputable def F28 : FnI := ⟨bodyOf Tryz.f28, 8, [.tmp 0], .e⟩
theorem fn28 : FnOk Tryz.prog 28 F28 := FnOk.of Tryz.func28 rfl (by kernel_rfl) rfl rfl
theorem pl28 : codeOk planOk F28.plans F28.code = true := by kernel_rfl
noncomputable def F29 : FnI := ⟨bodyOf Tryz.f29, 142, [.tmp 2, .tmp 3], (.n none (.n none (.n none (.n (some [.n 0, .go 1, .x 1, .n 2, .n 3, .n 4, .n 5, .go 6, .x 6, .r 4, .go 7, .x 7, .n 8, .n 9, .n 10, .n 11, .n 12, .go 13, .x 13, .n 14, .n 15, .n 16, .n 17, .n 18, .n 19, .n 20, .n 21, .n 22, .n 23, .n 24, .n 25, .n 26, .n 27, .n 28, .n 29, .n 30, .n 31, .n 32, .n 33, .n 34, .n 35, .fin]) .e .e) .e) (.n none .e .e)) (.n none (.n none .e .e) (.n none .e .e)))⟩
theorem fn29 : FnOk Tryz.prog 29 F29 := FnOk.of Tryz.func29 rfl (by kernel_rfl) rfl rfl
theorem pl29 : codeOk planOk F29.plans F29.code = true := by kernel_rfl
noncomputable def F30 : FnI := ⟨bodyOf Tryz.f30, 14, [.cell 2 125, .tmp 3], .e⟩
theorem fn30 : FnOk Tryz.prog 30 F30 := FnOk.of Tryz.func30 rfl (by kernel_rfl) rfl rfl
theorem pl30 : codeOk planOk F30.plans F30.code = true := by kernel_rfl
noncomputable def F31 : FnI := ⟨bodyOf Tryz.f31, 25, [.cell 4 28, .tmp 5], .e⟩
theorem fn31 : FnOk Tryz.prog 31 F31 := FnOk.of Tryz.func31 rfl (by kernel_rfl) rfl rfl
theorem pl31 : codeOk planOk F31.plans F31.code = true := by kernel_rfl
noncomputable def F32 : FnI := ⟨bodyOf Tryz.f32, 29, [.cell 4 28, .tmp 5], .e⟩
theorem fn32 : FnOk Tryz.prog 32 F32 := FnOk.of Tryz.func32 rfl (by kernel_rfl) rfl rfl
theorem pl32 : codeOk planOk F32.plans F32.code = true := by kernel_rfl
noncomputable def F33 : FnI := ⟨bodyOf Tryz.f33, 14, [.tmp 4], .e⟩
theorem fn33 : FnOk Tryz.prog 33 F33 := FnOk.of Tryz.func33 rfl (by kernel_rfl) rfl rfl
theorem pl33 : codeOk planOk F33.plans F33.code = true := by kernel_rfl
noncomputable def F34 : FnI := ⟨bodyOf Tryz.f34, 53, [.tmp 4, .tmp 5, .tmp 6], .e⟩
theorem fn34 : FnOk Tryz.prog 34 F34 := FnOk.of Tryz.func34 rfl (by kernel_rfl) rfl rfl
theorem pl34 : codeOk planOk F34.plans F34.code = true := by kernel_rfl
noncomputable def F35 : FnI := ⟨bodyOf Tryz.f35, 30, [.tmp 2, .tmp 3], .e⟩
theorem fn35 : FnOk Tryz.prog 35 F35 := FnOk.of Tryz.func35 rfl (by kernel_rfl) rfl rfl
theorem pl35 : codeOk planOk F35.plans F35.code = true := by kernel_rfl
noncomputable def F36 : FnI := ⟨bodyOf Tryz.f36, 13, [.tmp 4], .e⟩
theorem fn36 : FnOk Tryz.prog 36 F36 := FnOk.of Tryz.func36 rfl (by kernel_rfl) rfl rfl
theorem pl36 : codeOk planOk F36.plans F36.code = true := by kernel_rfl
noncomputable def F37 : FnI := ⟨bodyOf Tryz.f37, 83, [.tmp 4, .tmp 5], (.n none (.n none (.n none (.n (some [.n 0, .n 1, .n 2, .n 3, .n 4, .n 5, .n 6, .n 7, .n 8, .go 9, .x 9, .r 4, .r 5, .r 6, .r 7, .r 8, .go 10, .x 10, .fin]) (.n none .e .e) .e) (.n none .e .e)) (.n none (.n none (.n none .e .e) .e) (.n none .e .e))) (.n none (.n none (.n none (.n none .e .e) .e) (.n none .e .e)) (.n none (.n none (.n (some [.n 0, .n 1, .n 2, .n 3, .n 4, .n 5, .n 6, .go 7, .x 7, .r 1, .r 2, .r 3, .r 4, .r 5, .r 6, .go 8, .x 8, .fin]) .e .e) .e) (.n none .e .e))))⟩
theorem fn37 : FnOk Tryz.prog 37 F37 := FnOk.of Tryz.func37 rfl (by kernel_rfl) rfl rfl
theorem pl37 : codeOk planOk F37.plans F37.code = true := by kernel_rfl
noncomputable def F38 : FnI := ⟨bodyOf Tryz.f38, 18, [.tmp 2, .tmp 3], .e⟩
theorem fn38 : FnOk Tryz.prog 38 F38 := FnOk.of Tryz.func38 rfl (by kernel_rfl) rfl rfl
theorem pl38 : codeOk planOk F38.plans F38.code = true := by kernel_rfl
noncomputable def F39 : FnI := ⟨bodyOf Tryz.f39, 17, [.tmp 0], .e⟩
theorem fn39 : FnOk Tryz.prog 39 F39 := FnOk.of Tryz.func39 rfl (by kernel_rfl) rfl rfl
theorem pl39 : codeOk planOk F39.plans F39.code = true := by kernel_rfl
noncomputable def F40 : FnI := ⟨bodyOf Tryz.f40, 28, [.cell 4 25, .tmp 5], .e⟩
theorem fn40 : FnOk Tryz.prog 40 F40 := FnOk.of Tryz.func40 rfl (by kernel_rfl) rfl rfl
theorem pl40 : codeOk planOk F40.plans F40.code = true := by kernel_rfl
noncomputable def F41 : FnI := ⟨bodyOf Tryz.f41, 105, [.tmp 2], .e⟩
theorem fn41 : FnOk Tryz.prog 41 F41 := FnOk.of Tryz.func41 rfl (by kernel_rfl) rfl rfl
theorem pl41 : codeOk planOk F41.plans F41.code = true := by kernel_rfl
noncomputable def F42 : FnI := ⟨bodyOf Tryz.f42, 70, [.cell 2 85], (.n none (.n none (.n (some [.n 0, .n 1, .n 2, .n 4, .n 5, .go 3, .x 3, .r 4, .r 5, .go 6, .x 6, .n 7, .n 8, .go 9, .x 9, .n 10, .go 11, .x 11, .fin]) (.n none .e .e) .e) (.n none (.n (some [.n 0, .n 1, .n 2, .n 3, .n 4, .n 5, .n 7, .n 8, .n 9, .n 10, .go 6, .x 6, .r 0, .r 1, .r 7, .r 8, .r 9, .r 10, .go 11, .x 11, .r 0, .r 1, .n 12, .n 13, .go 14, .x 14, .r 1, .n 15, .n 16, .go 17, .x 17, .fin]) .e .e) .e)) (.n (some [.n 0, .n 1, .n 2, .n 3, .n 4, .n 5, .n 7, .n 8, .n 9, .n 10, .go 6, .x 6, .r 0, .r 1, .r 7, .r 8, .r 9, .r 10, .go 11, .x 11, .r 0, .r 1, .n 12, .n 13, .go 14, .x 14, .r 1, .n 15, .n 16, .go 17, .x 17, .fin]) (.n none (.n none .e .e) .e) (.n none .e .e)))⟩
theorem fn42 : FnOk Tryz.prog 42 F42 := FnOk.of Tryz.func42 rfl (by kernel_rfl) rfl rfl
theorem pl42 : codeOk planOk F42.plans F42.code = true := by kernel_rfl
noncomputable def F43 : FnI := ⟨bodyOf Tryz.f43, 15, [.cell 4 74], .e⟩
theorem fn43 : FnOk Tryz.prog 43 F43 := FnOk.of Tryz.func43 rfl (by kernel_rfl) rfl rfl
theorem pl43 : codeOk planOk F43.plans F43.code = true := by kernel_rfl
noncomputable def F44 : FnI := ⟨bodyOf Tryz.f44, 16, [.cell 0 83], .e⟩
theorem fn44 : FnOk Tryz.prog 44 F44 := FnOk.of Tryz.func44 rfl (by kernel_rfl) rfl rfl
theorem pl44 : codeOk planOk F44.plans F44.code = true := by kernel_rfl
noncomputable def F45 : FnI := ⟨bodyOf Tryz.f45, 2, [.cell 0 158], .e⟩
theorem fn45 : FnOk Tryz.prog 45 F45 := FnOk.of Tryz.func45 rfl (by kernel_rfl) rfl rfl
theorem pl45 : codeOk planOk F45.plans F45.code = true := by kernel_rfl
noncomputable def F46 : FnI := ⟨bodyOf Tryz.f46, 15, [.tmp 2], .e⟩
theorem fn46 : FnOk Tryz.prog 46 F46 := FnOk.of Tryz.func46 rfl (by kernel_rfl) rfl rfl
theorem pl46 : codeOk planOk F46.plans F46.code = true := by kernel_rfl
noncomputable def F47 : FnI := ⟨bodyOf Tryz.f47, 55, [.tmp 2], .e⟩
theorem fn47 : FnOk Tryz.prog 47 F47 := FnOk.of Tryz.func47 rfl (by kernel_rfl) rfl rfl
theorem pl47 : codeOk planOk F47.plans F47.code = true := by kernel_rfl
noncomputable def F48 : FnI := ⟨bodyOf Tryz.f48, 106, [.tmp 4], (.n none (.n none (.n none (.n none .e .e) (.n none .e .e)) (.n (some [.n 0, .n 1, .n 2, .n 3, .n 4, .n 5, .go 6, .x 6, .fin]) (.n (some [.n 0, .n 1, .n 2, .n 3, .n 4, .n 5, .n 6, .n 7, .n 8, .n 9, .n 10, .n 11, .n 12, .n 13, .n 14, .n 15, .n 16, .fin]) .e .e) (.n (some [.n 0, .n 1, .n 2, .n 3, .n 4, .n 5, .n 6, .go 7, .x 7, .r 2, .n 8, .go 9, .x 9, .fin]) .e .e))) (.n none (.n none (.n none .e .e) (.n none .e .e)) (.n (some [.n 0, .n 1, .n 2, .n 3, .n 4, .n 5, .n 6, .n 7, .n 8, .n 9, .n 10, .n 11, .n 12, .g 18, .go 13, .x 13, .n 14, .n 15, .n 16, .n 17, .g 18, .go 19, .b 18, .x 19, .r 16, .r 17, .go 20, .x 20, .r 17, .go 21, .x 21, .fin]) (.n (some [.n 0, .n 1, .n 2, .n 3, .n 4, .n 5, .n 6, .n 7, .n 8, .n 9, .n 10, .n 11, .n 12, .n 13, .n 14, .n 15, .n 16, .n 17, .n 19, .n 20, .g 26, .go 18, .x 18, .r 0, .r 1, .r 2, .r 3, .r 4, .r 5, .r 6, .r 7, .r 8, .r 9, .r 10, .r 11, .r 12, .r 19, .r 20, .g 26, .go 21, .x 21, .r 0, .r 1, .r 2, .r 3, .r 4, .r 5, .r 6, .r 7, .r 8, .r 9, .r 10, .r 11, .r 12, .g 26, .go 22, .x 22, .n 23, .n 24, .n 25, .g 26, .go 27, .b 26, .x 27, .r 25, .go 28, .x 28, .fin]) .e .e) .e)))⟩
theorem fn48 : FnOk Tryz.prog 48 F48 := FnOk.of Tryz.func48 rfl (by kernel_rfl) rfl rfl
theorem pl48 : codeOk planOk F48.plans F48.code = true := by kernel_rfl
noncomputable def F49 : FnI := ⟨bodyOf Tryz.f49, 9, [.tmp 2], .e⟩
theorem fn49 : FnOk Tryz.prog 49 F49 := FnOk.of Tryz.func49 rfl (by kernel_rfl) rfl rfl
theorem pl49 : codeOk planOk F49.plans F49.code = true := by kernel_rfl
noncomputable def F50 : FnI := ⟨bodyOf Tryz.f50, 42, [.tmp 4, .tmp 5, .tmp 6], .e⟩
theorem fn50 : FnOk Tryz.prog 50 F50 := FnOk.of Tryz.func50 rfl (by kernel_rfl) rfl rfl
theorem pl50 : codeOk planOk F50.plans F50.code = true := by kernel_rfl
noncomputable def F51 : FnI := ⟨bodyOf Tryz.f51, 16, [.tmp 0], .e⟩
theorem fn51 : FnOk Tryz.prog 51 F51 := FnOk.of Tryz.func51 rfl (by kernel_rfl) rfl rfl
theorem pl51 : codeOk planOk F51.plans F51.code = true := by kernel_rfl
noncomputable def F52 : FnI := ⟨bodyOf Tryz.f52, 36, [.cell 6 3, .cell 7 3, .cell 8 42], (.n none (.n none (.n none (.n (some [.n 0, .n 1, .n 2, .n 3, .go 4, .x 4, .r 2, .r 3, .go 5, .x 5, .go 6, .x 6, .fin]) .e .e) .e) (.n none .e .e)) (.n none (.n none .e .e) (.n none .e .e)))⟩
theorem fn52 : FnOk Tryz.prog 52 F52 := FnOk.of Tryz.func52 rfl (by kernel_rfl) rfl rfl
theorem pl52 : codeOk planOk F52.plans F52.code = true := by kernel_rfl
noncomputable def F53 : FnI := ⟨bodyOf Tryz.f53, 18, [.cell 4 71], (.n none (.n (some [.n 0, .n 1, .n 2, .n 3, .n 4, .n 5, .n 6, .n 7, .n 8, .n 9, .n 10, .go 11, .x 11, .r 0, .r 1, .r 2, .r 3, .r 4, .r 5, .n 12, .go 13, .x 13, .fin]) .e .e) .e)⟩
theorem fn53 : FnOk Tryz.prog 53 F53 := FnOk.of Tryz.func53 rfl (by kernel_rfl) rfl rfl
theorem pl53 : codeOk planOk F53.plans F53.code = true := by kernel_rfl
noncomputable def F54 : FnI := ⟨bodyOf Tryz.f54, 62, [.tmp 2], .e⟩
theorem fn54 : FnOk Tryz.prog 54 F54 := FnOk.of Tryz.func54 rfl (by kernel_rfl) rfl rfl
theorem pl54 : codeOk planOk F54.plans F54.code = true := by kernel_rfl
noncomputable def F55 : FnI := ⟨bodyOf Tryz.f55, 97, [.tmp 4], (.n none (.n none (.n none (.n none .e .e) (.n (some [.n 0, .n 1, .n 2, .n 3, .n 4, .n 5, .n 6, .n 7, .n 8, .n 9, .n 10, .n 11, .n 12, .n 13, .n 14, .n 15, .n 16, .fin]) .e .e)) (.n none (.n none .e .e) .e)) (.n none (.n none (.n none .e .e) .e) (.n (some [.n 0, .n 1, .n 2, .n 3, .n 4, .n 5, .n 6, .n 7, .n 8, .n 9, .n 10, .n 11, .n 12, .n 13, .n 14, .n 15, .n 16, .n 17, .n 18, .n 19, .n 20, .n 21, .n 22, .n 23, .n 24, .n 25, .n 26, .n 27, .n 28, .n 29, .n 30, .n 31, .n 32, .n 33, .n 34, .n 35, .n 36, .n 37, .n 38, .n 39, .n 40, .n 41, .n 42, .n 43, .n 44, .n 45, .n 46, .n 47, .n 48, .n 49, .n 50, .n 51, .fin]) (.n none .e .e) .e)))⟩
theorem fn55 : FnOk Tryz.prog 55 F55 := FnOk.of Tryz.func55 rfl (by kernel_rfl) rfl rfl
theorem pl55 : codeOk planOk F55.plans F55.code = true := by kernel_rfl
noncomputable def F56 : FnI := ⟨bodyOf Tryz.f56, 8, [.tmp 2], .e⟩
theorem fn56 : FnOk Tryz.prog 56 F56 := FnOk.of Tryz.func56 rfl (by kernel_rfl) rfl rfl
theorem pl56 : codeOk planOk F56.plans F56.code = true := by kernel_rfl
noncomputable def F57 : FnI := ⟨bodyOf Tryz.f57, 23, [.tmp 2], .e⟩
theorem fn57 : FnOk Tryz.prog 57 F57 := FnOk.of Tryz.func57 rfl (by kernel_rfl) rfl rfl
theorem pl57 : codeOk planOk F57.plans F57.code = true := by kernel_rfl
noncomputable def F58 : FnI := ⟨bodyOf Tryz.f58, 15, [.cell 0 79], .e⟩
theorem fn58 : FnOk Tryz.prog 58 F58 := FnOk.of Tryz.func58 rfl (by kernel_rfl) rfl rfl
theorem pl58 : codeOk planOk F58.plans F58.code = true := by kernel_rfl
noncomputable def F59 : FnI := ⟨bodyOf Tryz.f59, 10, [.cell 0 83], .e⟩
theorem fn59 : FnOk Tryz.prog 59 F59 := FnOk.of Tryz.func59 rfl (by kernel_rfl) rfl rfl
theorem pl59 : codeOk planOk F59.plans F59.code = true := by kernel_rfl
noncomputable def F60 : FnI := ⟨bodyOf Tryz.f60, 66, [.tmp 4], .e⟩
theorem fn60 : FnOk Tryz.prog 60 F60 := FnOk.of Tryz.func60 rfl (by kernel_rfl) rfl rfl
theorem pl60 : codeOk planOk F60.plans F60.code = true := by kernel_rfl
noncomputable def F61 : FnI := ⟨bodyOf Tryz.f61, 43, [.cell 2 94], (.n none (.n none (.n none .e .e) (.n none .e .e)) (.n none (.n (some [.n 0, .n 1, .n 2, .n 3, .n 4, .n 5, .n 6, .go 7, .x 7, .r 2, .r 3, .r 4, .r 5, .n 8, .go 9, .x 9, .r 4, .r 5, .n 10, .go 11, .x 11, .fin]) .e .e) (.n (some [.n 0, .n 1, .n 2, .n 3, .n 4, .n 5, .n 6, .n 7, .n 8, .n 9, .n 10, .go 11, .x 11, .r 2, .r 3, .r 4, .r 5, .r 6, .r 7, .r 8, .r 9, .n 12, .go 13, .x 13, .r 4, .r 5, .r 6, .r 7, .r 8, .r 9, .n 14, .go 15, .x 15, .r 6, .r 7, .r 8, .r 9, .n 16, .go 17, .x 17, .r 8, .r 9, .n 18, .go 19, .x 19, .fin]) .e .e)))⟩
theorem fn61 : FnOk Tryz.prog 61 F61 := FnOk.of Tryz.func61 rfl (by kernel_rfl) rfl rfl
theorem pl61 : codeOk planOk F61.plans F61.code = true := by kernel_rfl
noncomputable def F62 : FnI := ⟨bodyOf Tryz.f62, 7, [.tmp 2], .e⟩
theorem fn62 : FnOk Tryz.prog 62 F62 := FnOk.of Tryz.func62 rfl (by kernel_rfl) rfl rfl
theorem pl62 : codeOk planOk F62.plans F62.code = true := by kernel_rfl
noncomputable def F63 : FnI := ⟨bodyOf Tryz.f63, 35, [], (.n none (.n none (.n none .e .e) .e) (.n none (.n (some [.n 0, .n 1, .n 2, .n 3, .go 4, .x 4, .r 0, .r 1, .r 2, .n 5, .go 6, .x 6, .fin]) .e .e) .e))⟩
theorem fn63 : FnOk Tryz.prog 63 F63 := FnOk.of Tryz.func63 rfl (by kernel_rfl) rfl rfl
theorem pl63 : codeOk planOk F63.plans F63.code = true := by kernel_rfl
noncomputable def F64 : FnI := ⟨bodyOf Tryz.f64, 8, [.tmp 2], .e⟩
theorem fn64 : FnOk Tryz.prog 64 F64 := FnOk.of Tryz.func64 rfl (by kernel_rfl) rfl rfl
theorem pl64 : codeOk planOk F64.plans F64.code = true := by kernel_rfl
noncomputable def F65 : FnI := ⟨bodyOf Tryz.f65, 14, [.tmp 2], (.n none (.n (some [.n 0, .n 1, .n 2, .n 3, .n 5, .n 6, .n 7, .n 8, .n 9, .go 4, .x 4, .r 5, .r 6, .r 7, .r 8, .r 9, .go 10, .x 10, .go 11, .x 11, .fin]) .e .e) .e)⟩
theorem fn65 : FnOk Tryz.prog 65 F65 := FnOk.of Tryz.func65 rfl (by kernel_rfl) rfl rfl
theorem pl65 : codeOk planOk F65.plans F65.code = true := by kernel_rfl
noncomputable def F66 : FnI := ⟨bodyOf Tryz.f66, 7, [.cell 0 195], .e⟩
theorem fn66 : FnOk Tryz.prog 66 F66 := FnOk.of Tryz.func66 rfl (by kernel_rfl) rfl rfl
theorem pl66 : codeOk planOk F66.plans F66.code = true := by kernel_rfl
noncomputable def F67 : FnI := ⟨bodyOf Tryz.f67, 23, [.tmp 4], .e⟩
theorem fn67 : FnOk Tryz.prog 67 F67 := FnOk.of Tryz.func67 rfl (by kernel_rfl) rfl rfl
theorem pl67 : codeOk planOk F67.plans F67.code = true := by kernel_rfl
noncomputable def F68 : FnI := ⟨bodyOf Tryz.f68, 117, [.tmp 4], (.n none (.n none (.n none (.n none (.n none .e .e) (.n (some [.n 0, .n 1, .n 2, .n 3, .n 4, .n 5, .n 6, .n 7, .n 8, .n 9, .n 10, .n 11, .n 12, .n 13, .n 14, .n 15, .go 16, .x 16, .fin]) .e .e)) (.n (some [.n 0, .n 1, .n 2, .n 3, .n 4, .n 5, .n 6, .n 7, .n 8, .n 9, .go 10, .x 10, .fin]) (.n none .e .e) .e)) (.n none (.n none (.n none .e .e) .e) (.n none (.n none .e .e) .e))) (.n none (.n none (.n none (.n none .e .e) .e) (.n none (.n (some [.n 0, .n 1, .n 2, .n 3, .n 4, .n 5, .n 6, .n 7, .n 8, .n 9, .n 10, .n 11, .n 12, .n 13, .n 14, .n 15, .go 16, .x 16, .fin]) .e .e) .e)) (.n none (.n none (.n none .e .e) .e) (.n none (.n none .e .e) .e))))⟩
theorem fn68 : FnOk Tryz.prog 68 F68 := FnOk.of Tryz.func68 rfl (by kernel_rfl) rfl rfl
theorem pl68 : codeOk planOk F68.plans F68.code = true := by kernel_rfl
noncomputable def F69 : FnI := ⟨bodyOf Tryz.f69, 11, [.tmp 2], .e⟩
theorem fn69 : FnOk Tryz.prog 69 F69 := FnOk.of Tryz.func69 rfl (by kernel_rfl) rfl rfl
theorem pl69 : codeOk planOk F69.plans F69.code = true := by kernel_rfl
noncomputable def F70 : FnI := ⟨bodyOf Tryz.f70, 36, [.tmp 2], .e⟩
theorem fn70 : FnOk Tryz.prog 70 F70 := FnOk.of Tryz.func70 rfl (by kernel_rfl) rfl rfl
theorem pl70 : codeOk planOk F70.plans F70.code = true := by kernel_rfl
noncomputable def F71 : FnI := ⟨bodyOf Tryz.f71, 8, [.tmp 2], .e⟩
theorem fn71 : FnOk Tryz.prog 71 F71 := FnOk.of Tryz.func71 rfl (by kernel_rfl) rfl rfl
theorem pl71 : codeOk planOk F71.plans F71.code = true := by kernel_rfl
noncomputable def F72 : FnI := ⟨bodyOf Tryz.f72, 136, [.tmp 2], (.n none (.n (some [.n 0, .n 1, .n 2, .n 3, .n 4, .n 5, .n 6, .n 7, .n 8, .n 9, .n 10, .n 11, .n 12, .n 13, .n 14, .n 15, .n 16, .n 17, .n 18, .n 19, .n 20, .n 21, .n 22, .n 23, .n 24, .n 25, .n 26, .n 27, .n 28, .n 29, .n 30, .n 31, .n 32, .n 33, .n 34, .n 35, .n 36, .n 37, .n 38, .n 39, .n 40, .n 41, .n 42, .n 43, .n 44, .n 45, .n 46, .n 47, .n 48, .go 49, .x 49, .n 50, .n 51, .fin]) .e .e) .e)⟩
theorem fn72 : FnOk Tryz.prog 72 F72 := FnOk.of Tryz.func72 rfl (by kernel_rfl) rfl rfl
theorem pl72 : codeOk planOk F72.plans F72.code = true := by kernel_rfl
noncomputable def F73 : FnI := ⟨bodyOf Tryz.f73, 256, [.tmp 2], (.n none (.n none (.n none (.n none (.n none .e .e) (.n none .e .e)) (.n none (.n none .e .e) (.n none .e .e))) (.n none (.n none (.n none .e .e) (.n (some [.n 0, .n 1, .n 2, .n 3, .n 4, .n 5, .go 6, .x 6, .n 7, .n 8, .n 9, .n 10, .n 11, .n 12, .n 13, .n 14, .n 15, .n 16, .n 17, .n 18, .n 19, .n 20, .n 21, .n 22, .n 23, .n 24, .n 25, .n 26, .n 27, .n 28, .n 29, .n 30, .n 31, .n 32, .n 33, .n 34, .n 35, .n 36, .n 37, .n 38, .n 39, .n 40, .n 41, .n 42, .n 43, .n 44, .n 45, .n 46, .n 47, .n 48, .n 49, .n 50, .n 51, .n 52, .n 53, .n 54, .n 55, .n 56, .n 57, .n 58, .n 59, .n 60, .n 61, .n 62, .n 63, .n 64, .n 65, .n 66, .n 67, .n 68, .n 69, .n 70, .n 71, .n 72, .n 73, .n 74, .n 75, .n 76, .n 77, .n 78, .n 79, .n 80, .n 81, .n 82, .n 83, .n 84, .fin]) .e .e)) (.n none (.n none .e .e) (.n (some [.n 0, .n 1, .n 2, .n 3, .n 4, .n 5, .go 6, .x 6, .n 7, .n 8, .n 9, .n 10, .n 11, .n 12, .n 13, .n 14, .n 15, .n 16, .n 17, .n 18, .n 19, .n 20, .n 21, .n 22, .n 23, .n 24, .n 25, .n 26, .n 27, .n 28, .n 29, .n 30, .n 31, .n 32, .n 33, .go 34, .x 34, .fin]) .e .e)))) (.n none (.n none (.n none (.n none .e .e) (.n none .e .e)) (.n none (.n none .e .e) (.n none .e .e))) (.n none (.n none (.n none .e .e) (.n none .e .e)) (.n none (.n none .e .e) .e))))⟩
theorem fn73 : FnOk Tryz.prog 73 F73 := FnOk.of Tryz.func73 rfl (by kernel_rfl) rfl rfl
theorem pl73 : codeOk planOk F73.plans F73.code = true := by kernel_rfl
noncomputable def F74 : FnI := ⟨bodyOf Tryz.f74, 56, [.tmp 2], .e⟩
theorem fn74 : FnOk Tryz.prog 74 F74 := FnOk.of Tryz.func74 rfl (by kernel_rfl) rfl rfl
theorem pl74 : codeOk planOk F74.plans F74.code = true := by kernel_rfl
noncomputable def F75 : FnI := ⟨bodyOf Tryz.f75, 8, [.tmp 2], .e⟩
theorem fn75 : FnOk Tryz.prog 75 F75 := FnOk.of Tryz.func75 rfl (by kernel_rfl) rfl rfl
theorem pl75 : codeOk planOk F75.plans F75.code = true := by kernel_rfl
noncomputable def F76 : FnI := ⟨bodyOf Tryz.f76, 41, [.tmp 2], .e⟩
theorem fn76 : FnOk Tryz.prog 76 F76 := FnOk.of Tryz.func76 rfl (by kernel_rfl) rfl rfl
theorem pl76 : codeOk planOk F76.plans F76.code = true := by kernel_rfl
noncomputable def F77 : FnI := ⟨bodyOf Tryz.f77, 8, [.tmp 2], .e⟩
theorem fn77 : FnOk Tryz.prog 77 F77 := FnOk.of Tryz.func77 rfl (by kernel_rfl) rfl rfl
theorem pl77 : codeOk planOk F77.plans F77.code = true := by kernel_rfl
noncomputable def F78 : FnI := ⟨bodyOf Tryz.f78, 8, [.tmp 2], .e⟩
theorem fn78 : FnOk Tryz.prog 78 F78 := FnOk.of Tryz.func78 rfl (by kernel_rfl) rfl rfl
theorem pl78 : codeOk planOk F78.plans F78.code = true := by kernel_rfl
noncomputable def F79 : FnI := ⟨bodyOf Tryz.f79, 8, [.tmp 2], .e⟩
theorem fn79 : FnOk Tryz.prog 79 F79 := FnOk.of Tryz.func79 rfl (by kernel_rfl) rfl rfl
theorem pl79 : codeOk planOk F79.plans F79.code = true := by kernel_rfl
noncomputable def F80 : FnI := ⟨bodyOf Tryz.f80, 48, [.cell 6 214, .tmp 7], (.n none (.n none (.n none .e .e) .e) (.n none (.n (some [.n 0, .n 1, .n 2, .n 3, .n 4, .n 5, .n 6, .n 7, .n 8, .n 9, .n 10, .n 11, .n 12, .n 13, .go 14, .x 14, .go 15, .x 15, .fin]) .e .e) .e))⟩
theorem fn80 : FnOk Tryz.prog 80 F80 := FnOk.of Tryz.func80 rfl (by kernel_rfl) rfl rfl
theorem pl80 : codeOk planOk F80.plans F80.code = true := by kernel_rfl
noncomputable def F81 : FnI := ⟨bodyOf Tryz.f81, 51, [.tmp 0], .e⟩
theorem fn81 : FnOk Tryz.prog 81 F81 := FnOk.of Tryz.func81 rfl (by kernel_rfl) rfl rfl
theorem pl81 : codeOk planOk F81.plans F81.code = true := by kernel_rfl
noncomputable def F82 : FnI := ⟨bodyOf Tryz.f82, 20, [.tmp 4], .e⟩
theorem fn82 : FnOk Tryz.prog 82 F82 := FnOk.of Tryz.func82 rfl (by kernel_rfl) rfl rfl
theorem pl82 : codeOk planOk F82.plans F82.code = true := by kernel_rfl
noncomputable def F83 : FnI := ⟨bodyOf Tryz.f83, 31, [.tmp 2], .e⟩
theorem fn83 : FnOk Tryz.prog 83 F83 := FnOk.of Tryz.func83 rfl (by kernel_rfl) rfl rfl
theorem pl83 : codeOk planOk F83.plans F83.code = true := by kernel_rfl
noncomputable def F84 : FnI := ⟨bodyOf Tryz.f84, 103, [.tmp 2], (.n none (.n none (.n none (.n none .e .e) .e) (.n none (.n none .e .e) .e)) (.n none (.n none (.n none .e .e) .e) (.n none (.n (some [.n 0, .n 1, .n 2, .n 3, .n 4, .n 5, .go 6, .x 6, .r 3, .r 4, .r 5, .go 7, .x 7, .fin]) .e .e) .e)))⟩
theorem fn84 : FnOk Tryz.prog 84 F84 := FnOk.of Tryz.func84 rfl (by kernel_rfl) rfl rfl
theorem pl84 : codeOk planOk F84.plans F84.code = true := by kernel_rfl
noncomputable def F85 : FnI := ⟨bodyOf Tryz.f85, 27, [.tmp 6, .tmp 7], .e⟩
theorem fn85 : FnOk Tryz.prog 85 F85 := FnOk.of Tryz.func85 rfl (by kernel_rfl) rfl rfl
theorem pl85 : codeOk planOk F85.plans F85.code = true := by kernel_rfl
noncomputable def F86 : FnI := ⟨bodyOf Tryz.f86, 8, [.tmp 2], .e⟩
theorem fn86 : FnOk Tryz.prog 86 F86 := FnOk.of Tryz.func86 rfl (by kernel_rfl) rfl rfl
theorem pl86 : codeOk planOk F86.plans F86.code = true := by kernel_rfl
noncomputable def F87 : FnI := ⟨bodyOf Tryz.f87, 8, [.tmp 2], .e⟩
theorem fn87 : FnOk Tryz.prog 87 F87 := FnOk.of Tryz.func87 rfl (by kernel_rfl) rfl rfl
theorem pl87 : codeOk planOk F87.plans F87.code = true := by kernel_rfl
noncomputable def F88 : FnI := ⟨bodyOf Tryz.f88, 8, [.tmp 2], .e⟩
theorem fn88 : FnOk Tryz.prog 88 F88 := FnOk.of Tryz.func88 rfl (by kernel_rfl) rfl rfl
theorem pl88 : codeOk planOk F88.plans F88.code = true := by kernel_rfl
noncomputable def F89 : FnI := ⟨bodyOf Tryz.f89, 8, [.tmp 2], .e⟩
theorem fn89 : FnOk Tryz.prog 89 F89 := FnOk.of Tryz.func89 rfl (by kernel_rfl) rfl rfl
theorem pl89 : codeOk planOk F89.plans F89.code = true := by kernel_rfl
noncomputable def F90 : FnI := ⟨bodyOf Tryz.f90, 8, [.tmp 2], .e⟩
theorem fn90 : FnOk Tryz.prog 90 F90 := FnOk.of Tryz.func90 rfl (by kernel_rfl) rfl rfl
theorem pl90 : codeOk planOk F90.plans F90.code = true := by kernel_rfl
noncomputable def F91 : FnI := ⟨bodyOf Tryz.f91, 8, [.tmp 2], .e⟩
theorem fn91 : FnOk Tryz.prog 91 F91 := FnOk.of Tryz.func91 rfl (by kernel_rfl) rfl rfl
theorem pl91 : codeOk planOk F91.plans F91.code = true := by kernel_rfl
noncomputable def F92 : FnI := ⟨bodyOf Tryz.f92, 77, [.tmp 6, .tmp 7], (.n none (.n none (.n none (.n none .e .e) (.n (some [.n 0, .n 1, .n 2, .n 3, .n 4, .n 5, .n 6, .n 7, .n 8, .n 9, .n 10, .n 13, .n 14, .go 11, .x 11, .r 0, .r 1, .r 2, .r 3, .r 4, .r 5, .r 6, .r 7, .r 8, .r 9, .r 13, .r 14, .go 12, .x 12, .r 0, .r 1, .r 2, .r 13, .r 14, .n 15, .go 16, .x 16, .fin]) .e .e)) (.n none (.n none .e .e) .e)) (.n none (.n none (.n none .e .e) .e) (.n none (.n none .e .e) .e)))⟩
theorem fn92 : FnOk Tryz.prog 92 F92 := FnOk.of Tryz.func92 rfl (by kernel_rfl) rfl rfl
theorem pl92 : codeOk planOk F92.plans F92.code = true := by kernel_rfl
noncomputable def F93 : FnI := ⟨bodyOf Tryz.f93, 24, [.cell 4 69, .tmp 5, .tmp 6], (.n none (.n none (.n none .e .e) (.n (some [.n 0, .n 1, .n 2, .n 3, .go 4, .x 4, .r 1, .r 2, .r 3, .go 5, .x 5, .go 6, .x 6, .fin]) .e .e)) (.n none (.n none .e .e) .e))⟩
theorem fn93 : FnOk Tryz.prog 93 F93 := FnOk.of Tryz.func93 rfl (by kernel_rfl) rfl rfl
theorem pl93 : codeOk planOk F93.plans F93.code = true := by kernel_rfl
noncomputable def F94 : FnI := ⟨bodyOf Tryz.f94, 8, [.tmp 2], .e⟩
theorem fn94 : FnOk Tryz.prog 94 F94 := FnOk.of Tryz.func94 rfl (by kernel_rfl) rfl rfl
theorem pl94 : codeOk planOk F94.plans F94.code = true := by kernel_rfl
noncomputable def F95 : FnI := ⟨bodyOf Tryz.f95, 61, [.cell 8 69, .cell 9 42], (.n none (.n none (.n none (.n (some [.n 0, .n 2, .n 3, .g 5, .g 6, .go 1, .x 1, .r 2, .r 3, .g 5, .g 6, .go 4, .x 4, .g 5, .g 6, .go 7, .b 5, .b 6, .x 7, .go 8, .x 8, .fin]) .e .e) .e) (.n none (.n none .e .e) .e)) (.n none (.n none (.n none .e .e) .e) (.n none (.n (some [.n 0, .n 1, .n 2, .go 3, .x 3, .r 0, .go 4, .x 4, .fin]) .e .e) .e)))⟩
theorem fn95 : FnOk Tryz.prog 95 F95 := FnOk.of Tryz.func95 rfl (by kernel_rfl) rfl rfl
theorem pl95 : codeOk planOk F95.plans F95.code = true := by kernel_rfl
noncomputable def F96 : FnI := ⟨bodyOf Tryz.f96, 13, [.tmp 4], .e⟩
theorem fn96 : FnOk Tryz.prog 96 F96 := FnOk.of Tryz.func96 rfl (by kernel_rfl) rfl rfl
theorem pl96 : codeOk planOk F96.plans F96.code = true := by kernel_rfl
noncomputable def F97 : FnI := ⟨bodyOf Tryz.f97, 30, [.tmp 4], .e⟩
theorem fn97 : FnOk Tryz.prog 97 F97 := FnOk.of Tryz.func97 rfl (by kernel_rfl) rfl rfl
theorem pl97 : codeOk planOk F97.plans F97.code = true := by kernel_rfl
noncomputable def F98 : FnI := ⟨bodyOf Tryz.f98, 14, [.tmp 4], .e⟩
theorem fn98 : FnOk Tryz.prog 98 F98 := FnOk.of Tryz.func98 rfl (by kernel_rfl) rfl rfl
theorem pl98 : codeOk planOk F98.plans F98.code = true := by kernel_rfl
noncomputable def F99 : FnI := ⟨bodyOf Tryz.f99, 42, [.tmp 4], .e⟩
theorem fn99 : FnOk Tryz.prog 99 F99 := FnOk.of Tryz.func99 rfl (by kernel_rfl) rfl rfl
theorem pl99 : codeOk planOk F99.plans F99.code = true := by kernel_rfl
noncomputable def F100 : FnI := ⟨bodyOf Tryz.f100, 20, [.tmp 6, .tmp 7], .e⟩
theorem fn100 : FnOk Tryz.prog 100 F100 := FnOk.of Tryz.func100 rfl (by kernel_rfl) rfl rfl
theorem pl100 : codeOk planOk F100.plans F100.code = true := by kernel_rfl
noncomputable def F101 : FnI := ⟨bodyOf Tryz.f101, 29, [.tmp 6, .tmp 7, .tmp 8], .e⟩
theorem fn101 : FnOk Tryz.prog 101 F101 := FnOk.of Tryz.func101 rfl (by kernel_rfl) rfl rfl
theorem pl101 : codeOk planOk F101.plans F101.code = true := by kernel_rfl
noncomputable def F102 : FnI := ⟨bodyOf Tryz.f102, 4, [.tmp 2], .e⟩
theorem fn102 : FnOk Tryz.prog 102 F102 := FnOk.of Tryz.func102 rfl (by kernel_rfl) rfl rfl
theorem pl102 : codeOk planOk F102.plans F102.code = true := by kernel_rfl
noncomputable def F103 : FnI := ⟨bodyOf Tryz.f103, 9, [.tmp 4], .e⟩
theorem fn103 : FnOk Tryz.prog 103 F103 := FnOk.of Tryz.func103 rfl (by kernel_rfl) rfl rfl
theorem pl103 : codeOk planOk F103.plans F103.code = true := by kernel_rfl
noncomputable def F104 : FnI := ⟨bodyOf Tryz.f104, 17, [.tmp 4], .e⟩
theorem fn104 : FnOk Tryz.prog 104 F104 := FnOk.of Tryz.func104 rfl (by kernel_rfl) rfl rfl
theorem pl104 : codeOk planOk F104.plans F104.code = true := by kernel_rfl
noncomputable def F105 : FnI := ⟨bodyOf Tryz.f105, 15, [.tmp 6], .e⟩
theorem fn105 : FnOk Tryz.prog 105 F105 := FnOk.of Tryz.func105 rfl (by kernel_rfl) rfl rfl
theorem pl105 : codeOk planOk F105.plans F105.code = true := by kernel_rfl
noncomputable def F106 : FnI := ⟨bodyOf Tryz.f106, 16, [.tmp 2], .e⟩
theorem fn106 : FnOk Tryz.prog 106 F106 := FnOk.of Tryz.func106 rfl (by kernel_rfl) rfl rfl
theorem pl106 : codeOk planOk F106.plans F106.code = true := by kernel_rfl
noncomputable def F107 : FnI := ⟨bodyOf Tryz.f107, 8, [.tmp 2], .e⟩
theorem fn107 : FnOk Tryz.prog 107 F107 := FnOk.of Tryz.func107 rfl (by kernel_rfl) rfl rfl
theorem pl107 : codeOk planOk F107.plans F107.code = true := by kernel_rfl
noncomputable def F108 : FnI := ⟨bodyOf Tryz.f108, 8, [.tmp 2], .e⟩
theorem fn108 : FnOk Tryz.prog 108 F108 := FnOk.of Tryz.func108 rfl (by kernel_rfl) rfl rfl
theorem pl108 : codeOk planOk F108.plans F108.code = true := by kernel_rfl
noncomputable def F109 : FnI := ⟨bodyOf Tryz.f109, 10, [.cell 0 74], .e⟩
theorem fn109 : FnOk Tryz.prog 109 F109 := FnOk.of Tryz.func109 rfl (by kernel_rfl) rfl rfl
theorem pl109 : codeOk planOk F109.plans F109.code = true := by kernel_rfl
noncomputable def F110 : FnI := ⟨bodyOf Tryz.f110, 26, [.tmp 4], (.n none (.n none (.n none .e .e) (.n none .e .e)) (.n none (.n none .e .e) (.n (some [.n 0, .n 1, .n 2, .n 3, .n 4, .n 5, .n 6, .n 7, .n 8, .fin]) .e .e)))⟩
theorem fn110 : FnOk Tryz.prog 110 F110 := FnOk.of Tryz.func110 rfl (by kernel_rfl) rfl rfl
theorem pl110 : codeOk planOk F110.plans F110.code = true := by kernel_rfl
noncomputable def F111 : FnI := ⟨bodyOf Tryz.f111, 32, [.tmp 2], .e⟩
theorem fn111 : FnOk Tryz.prog 111 F111 := FnOk.of Tryz.func111 rfl (by kernel_rfl) rfl rfl
theorem pl111 : codeOk planOk F111.plans F111.code = true := by kernel_rfl
noncomputable def F112 : FnI := ⟨bodyOf Tryz.f112, 19, [.tmp 4, .tmp 5], .e⟩
theorem fn112 : FnOk Tryz.prog 112 F112 := FnOk.of Tryz.func112 rfl (by kernel_rfl) rfl rfl
theorem pl112 : codeOk planOk F112.plans F112.code = true := by kernel_rfl
noncomputable def F113 : FnI := ⟨bodyOf Tryz.f113, 8, [.tmp 4], .e⟩
theorem fn113 : FnOk Tryz.prog 113 F113 := FnOk.of Tryz.func113 rfl (by kernel_rfl) rfl rfl
theorem pl113 : codeOk planOk F113.plans F113.code = true := by kernel_rfl
noncomputable def F114 : FnI := ⟨bodyOf Tryz.f114, 23, [.tmp 3], .e⟩
theorem fn114 : FnOk Tryz.prog 114 F114 := FnOk.of Tryz.func114 rfl (by kernel_rfl) rfl rfl
theorem pl114 : codeOk planOk F114.plans F114.code = true := by kernel_rfl
noncomputable def F115 : FnI := ⟨bodyOf Tryz.f115, 9, [.tmp 4], .e⟩
theorem fn115 : FnOk Tryz.prog 115 F115 := FnOk.of Tryz.func115 rfl (by kernel_rfl) rfl rfl
theorem pl115 : codeOk planOk F115.plans F115.code = true := by kernel_rfl
noncomputable def F116 : FnI := ⟨bodyOf Tryz.f116, 5, [.tmp 2], .e⟩
theorem fn116 : FnOk Tryz.prog 116 F116 := FnOk.of Tryz.func116 rfl (by kernel_rfl) rfl rfl
theorem pl116 : codeOk planOk F116.plans F116.code = true := by kernel_rfl
noncomputable def F117 : FnI := ⟨bodyOf Tryz.f117, 4, [.tmp 2], .e⟩
theorem fn117 : FnOk Tryz.prog 117 F117 := FnOk.of Tryz.func117 rfl (by kernel_rfl) rfl rfl
theorem pl117 : codeOk planOk F117.plans F117.code = true := by kernel_rfl
noncomputable def F118 : FnI := ⟨bodyOf Tryz.f118, 55, [.tmp 4], (.n none (.n none (.n none (.n (some [.n 0, .n 1, .n 2, .n 3, .n 4, .n 5, .n 6, .n 7, .n 8, .n 9, .n 10, .n 11, .go 12, .x 12, .n 13, .n 14, .n 15, .n 16, .n 17, .n 18, .n 19, .n 20, .n 21, .n 22, .n 23, .n 24, .n 25, .n 26, .n 27, .n 28, .n 29, .go 30, .x 30, .fin]) .e .e) .e) (.n none .e .e)) (.n none (.n none .e .e) (.n none .e .e)))⟩
theorem fn118 : FnOk Tryz.prog 118 F118 := FnOk.of Tryz.func118 rfl (by kernel_rfl) rfl rfl
theorem pl118 : codeOk planOk F118.plans F118.code = true := by kernel_rfl
noncomputable def F119 : FnI := ⟨bodyOf Tryz.f119, 50, [], .e⟩
theorem fn119 : FnOk Tryz.prog 119 F119 := FnOk.of Tryz.func119 rfl (by kernel_rfl) rfl rfl
theorem pl119 : codeOk planOk F119.plans F119.code = true := by kernel_rfl
noncomputable def F120 : FnI := ⟨bodyOf Tryz.f120, 174, [], (.n none (.n none (.n none (.n none (.n none .e .e) .e) (.n (some [.n 0, .n 1, .n 2, .n 3, .n 4, .n 5, .n 6, .n 7, .n 8, .n 9, .go 10, .x 10, .n 11, .n 12, .fin]) .e .e)) (.n none (.n none (.n none .e .e) .e) (.n none .e .e))) (.n none (.n none (.n none (.n none .e .e) .e) (.n (some [.n 0, .n 1, .n 2, .n 3, .n 4, .n 5, .go 6, .x 6, .fin]) .e .e)) (.n (some [.n 0, .n 1, .n 2, .n 3, .n 4, .n 5, .n 6, .n 7, .n 8, .n 9, .go 10, .x 10, .fin]) (.n none (.n (some [.n 0, .n 1, .n 2, .n 3, .n 4, .n 5, .n 6, .n 7, .n 8, .n 9, .n 10, .n 11, .n 12, .n 13, .n 14, .n 15, .n 16, .n 17, .go 18, .x 18, .fin]) .e .e) .e) (.n none .e .e))))⟩
theorem fn120 : FnOk Tryz.prog 120 F120 := FnOk.of Tryz.func120 rfl (by kernel_rfl) rfl rfl
theorem pl120 : codeOk planOk F120.plans F120.code = true := by kernel_rfl
noncomputable def F121 : FnI := ⟨bodyOf Tryz.f121, 26, [], .e⟩
theorem fn121 : FnOk Tryz.prog 121 F121 := FnOk.of Tryz.func121 rfl (by kernel_rfl) rfl rfl
theorem pl121 : codeOk planOk F121.plans F121.code = true := by kernel_rfl
noncomputable def F122 : FnI := ⟨bodyOf Tryz.f122, 103, [], (.n none (.n none (.n none (.n (some [.n 0, .n 1, .n 2, .n 3, .n 4, .n 5, .n 6, .n 7, .n 8, .n 9, .n 10, .go 11, .x 11, .fin]) .e .e) .e) (.n none .e .e)) (.n none (.n none .e .e) (.n none .e .e)))⟩
theorem fn122 : FnOk Tryz.prog 122 F122 := FnOk.of Tryz.func122 rfl (by kernel_rfl) rfl rfl
theorem pl122 : codeOk planOk F122.plans F122.code = true := by kernel_rfl
noncomputable def F123 : FnI := ⟨bodyOf Tryz.f123, 13, [.tmp 4], .e⟩
theorem fn123 : FnOk Tryz.prog 123 F123 := FnOk.of Tryz.func123 rfl (by kernel_rfl) rfl rfl
theorem pl123 : codeOk planOk F123.plans F123.code = true := by kernel_rfl
noncomputable def F124 : FnI := ⟨bodyOf Tryz.f124, 18, [.tmp 2], .e⟩
theorem fn124 : FnOk Tryz.prog 124 F124 := FnOk.of Tryz.func124 rfl (by kernel_rfl) rfl rfl
theorem pl124 : codeOk planOk F124.plans F124.code = true := by kernel_rfl
noncomputable def F125 : FnI := ⟨bodyOf Tryz.f125, 17, [.tmp 2], .e⟩
theorem fn125 : FnOk Tryz.prog 125 F125 := FnOk.of Tryz.func125 rfl (by kernel_rfl) rfl rfl
theorem pl125 : codeOk planOk F125.plans F125.code = true := by kernel_rfl
noncomputable def F126 : FnI := ⟨bodyOf Tryz.f126, 66, [.tmp 2], (.n none (.n none (.n none .e .e) (.n none .e .e)) (.n (some [.n 0, .n 1, .n 2, .n 3, .n 4, .n 5, .fin]) (.n none .e .e) (.n (some [.n 0, .n 1, .n 2, .n 3, .n 4, .n 5, .n 6, .n 7, .n 8, .n 9, .n 10, .n 11, .n 12, .n 13, .n 14, .n 15, .n 16, .n 17, .n 18, .n 19, .n 20, .n 21, .n 22, .n 23, .n 24, .n 25, .n 26, .n 27, .go 28, .x 28, .n 29, .n 30, .n 31, .n 32, .n 33, .n 34, .n 35, .n 36, .n 37, .n 38, .n 39, .n 40, .n 41, .n 42, .n 43, .n 44, .go 45, .x 45, .fin]) .e .e)))⟩
theorem fn126 : FnOk Tryz.prog 126 F126 := FnOk.of Tryz.func126 rfl (by kernel_rfl) rfl rfl
theorem pl126 : codeOk planOk F126.plans F126.code = true := by kernel_rfl
noncomputable def F127 : FnI := ⟨bodyOf Tryz.f127, 20, [.tmp 4], .e⟩
theorem fn127 : FnOk Tryz.prog 127 F127 := FnOk.of Tryz.func127 rfl (by kernel_rfl) rfl rfl
theorem pl127 : codeOk planOk F127.plans F127.code = true := by kernel_rfl
noncomputable def F128 : FnI := ⟨bodyOf Tryz.f128, 9, [.tmp 4], .e⟩
theorem fn128 : FnOk Tryz.prog 128 F128 := FnOk.of Tryz.func128 rfl (by kernel_rfl) rfl rfl
theorem pl128 : codeOk planOk F128.plans F128.code = true := by kernel_rfl
noncomputable def F129 : FnI := ⟨bodyOf Tryz.f129, 22, [.tmp 2], .e⟩
theorem fn129 : FnOk Tryz.prog 129 F129 := FnOk.of Tryz.func129 rfl (by kernel_rfl) rfl rfl
theorem pl129 : codeOk planOk F129.plans F129.code = true := by kernel_rfl
noncomputable def F130 : FnI := ⟨bodyOf Tryz.f130, 5, [.tmp 2], .e⟩
theorem fn130 : FnOk Tryz.prog 130 F130 := FnOk.of Tryz.func130 rfl (by kernel_rfl) rfl rfl
theorem pl130 : codeOk planOk F130.plans F130.code = true := by kernel_rfl
noncomputable def F131 : FnI := ⟨bodyOf Tryz.f131, 5, [.tmp 2], .e⟩
theorem fn131 : FnOk Tryz.prog 131 F131 := FnOk.of Tryz.func131 rfl (by kernel_rfl) rfl rfl
theorem pl131 : codeOk planOk F131.plans F131.code = true := by kernel_rfl
noncomputable def F132 : FnI := ⟨bodyOf Tryz.f132, 5, [.tmp 2], .e⟩
theorem fn132 : FnOk Tryz.prog 132 F132 := FnOk.of Tryz.func132 rfl (by kernel_rfl) rfl rfl
theorem pl132 : codeOk planOk F132.plans F132.code = true := by kernel_rfl
noncomputable def F133 : FnI := ⟨bodyOf Tryz.f133, 32, [.tmp 6], (.n none (.n none (.n none .e .e) .e) (.n none (.n (some [.n 0, .n 1, .n 2, .n 4, .n 5, .n 6, .go 3, .x 3, .r 4, .r 5, .r 6, .go 7, .x 7, .go 8, .x 8, .go 9, .x 9, .fin]) .e .e) .e))⟩
theorem fn133 : FnOk Tryz.prog 133 F133 := FnOk.of Tryz.func133 rfl (by kernel_rfl) rfl rfl
theorem pl133 : codeOk planOk F133.plans F133.code = true := by kernel_rfl
noncomputable def F134 : FnI := ⟨bodyOf Tryz.f134, 21, [.tmp 2], (.n none (.n (some [.n 0, .n 1, .n 2, .n 3, .n 4, .n 5, .n 6, .n 7, .n 8, .n 9, .n 10, .n 11, .n 12, .n 13, .n 14, .n 15, .n 16, .n 17, .go 18, .x 18, .fin]) .e .e) .e)⟩
theorem fn134 : FnOk Tryz.prog 134 F134 := FnOk.of Tryz.func134 rfl (by kernel_rfl) rfl rfl
theorem pl134 : codeOk planOk F134.plans F134.code = true := by kernel_rfl
noncomputable def F135 : FnI := ⟨bodyOf Tryz.f135, 35, [.tmp 2], .e⟩
theorem fn135 : FnOk Tryz.prog 135 F135 := FnOk.of Tryz.func135 rfl (by kernel_rfl) rfl rfl
theorem pl135 : codeOk planOk F135.plans F135.code = true := by kernel_rfl
noncomputable def F136 : FnI := ⟨bodyOf Tryz.f136, 31, [.tmp 3], .e⟩
theorem fn136 : FnOk Tryz.prog 136 F136 := FnOk.of Tryz.func136 rfl (by kernel_rfl) rfl rfl
theorem pl136 : codeOk planOk F136.plans F136.code = true := by kernel_rfl
noncomputable def F137 : FnI := ⟨bodyOf Tryz.f137, 47, [.tmp 10, .tmp 11, .tmp 12], .e⟩
theorem fn137 : FnOk Tryz.prog 137 F137 := FnOk.of Tryz.func137 rfl (by kernel_rfl) rfl rfl
theorem pl137 : codeOk planOk F137.plans F137.code = true := by kernel_rfl
noncomputable def F138 : FnI := ⟨bodyOf Tryz.f138, 31, [.tmp 4, .tmp 5], .e⟩
theorem fn138 : FnOk Tryz.prog 138 F138 := FnOk.of Tryz.func138 rfl (by kernel_rfl) rfl rfl
theorem pl138 : codeOk planOk F138.plans F138.code = true := by kernel_rfl
noncomputable def F139 : FnI := ⟨bodyOf Tryz.f139, 87, [.tmp 0], .e⟩
theorem fn139 : FnOk Tryz.prog 139 F139 := FnOk.of Tryz.func139 rfl (by kernel_rfl) rfl rfl
theorem pl139 : codeOk planOk F139.plans F139.code = true := by kernel_rfl
noncomputable def F140 : FnI := ⟨bodyOf Tryz.f140, 21, [.tmp 2], .e⟩
theorem fn140 : FnOk Tryz.prog 140 F140 := FnOk.of Tryz.func140 rfl (by kernel_rfl) rfl rfl
theorem pl140 : codeOk planOk F140.plans F140.code = true := by kernel_rfl
noncomputable def F141 : FnI := ⟨bodyOf Tryz.f141, 99, [.tmp 2], (.n none (.n none (.n none (.n none .e .e) (.n none .e .e)) (.n none (.n none .e .e) (.n (some [.n 0, .n 1, .go 2, .x 2, .r 0, .go 3, .x 3, .n 4, .go 5, .x 5, .fin]) .e .e))) (.n none (.n none (.n none .e .e) (.n none .e .e)) (.n none (.n none .e .e) .e)))⟩
theorem fn141 : FnOk Tryz.prog 141 F141 := FnOk.of Tryz.func141 rfl (by kernel_rfl) rfl rfl
theorem pl141 : codeOk planOk F141.plans F141.code = true := by kernel_rfl
noncomputable def F142 : FnI := ⟨bodyOf Tryz.f142, 9, [.tmp 4], .e⟩
theorem fn142 : FnOk Tryz.prog 142 F142 := FnOk.of Tryz.func142 rfl (by kernel_rfl) rfl rfl
theorem pl142 : codeOk planOk F142.plans F142.code = true := by kernel_rfl
noncomputable def F143 : FnI := ⟨bodyOf Tryz.f143, 6, [.tmp 2], .e⟩
theorem fn143 : FnOk Tryz.prog 143 F143 := FnOk.of Tryz.func143 rfl (by kernel_rfl) rfl rfl
theorem pl143 : codeOk planOk F143.plans F143.code = true := by kernel_rfl
noncomputable def F144 : FnI := ⟨bodyOf Tryz.f144, 11, [.tmp 2], .e⟩
theorem fn144 : FnOk Tryz.prog 144 F144 := FnOk.of Tryz.func144 rfl (by kernel_rfl) rfl rfl
theorem pl144 : codeOk planOk F144.plans F144.code = true := by kernel_rfl
noncomputable def F145 : FnI := ⟨bodyOf Tryz.f145, 11, [.tmp 2], .e⟩
theorem fn145 : FnOk Tryz.prog 145 F145 := FnOk.of Tryz.func145 rfl (by kernel_rfl) rfl rfl
theorem pl145 : codeOk planOk F145.plans F145.code = true := by kernel_rfl
noncomputable def F146 : FnI := ⟨bodyOf Tryz.f146, 17, [.tmp 2], .e⟩
theorem fn146 : FnOk Tryz.prog 146 F146 := FnOk.of Tryz.func146 rfl (by kernel_rfl) rfl rfl
theorem pl146 : codeOk planOk F146.plans F146.code = true := by kernel_rfl
noncomputable def F147 : FnI := ⟨bodyOf Tryz.f147, 6, [.tmp 2], .e⟩
theorem fn147 : FnOk Tryz.prog 147 F147 := FnOk.of Tryz.func147 rfl (by kernel_rfl) rfl rfl
theorem pl147 : codeOk planOk F147.plans F147.code = true := by kernel_rfl
noncomputable def F148 : FnI := ⟨bodyOf Tryz.f148, 36, [.tmp 2], .e⟩
theorem fn148 : FnOk Tryz.prog 148 F148 := FnOk.of Tryz.func148 rfl (by kernel_rfl) rfl rfl
theorem pl148 : codeOk planOk F148.plans F148.code = true := by kernel_rfl
noncomputable def F149 : FnI := ⟨bodyOf Tryz.f149, 28, [.cell 4 224, .tmp 5], .e⟩
theorem fn149 : FnOk Tryz.prog 149 F149 := FnOk.of Tryz.func149 rfl (by kernel_rfl) rfl rfl
theorem pl149 : codeOk planOk F149.plans F149.code = true := by kernel_rfl
noncomputable def F150 : FnI := ⟨bodyOf Tryz.f150, 5, [.tmp 2], .e⟩
theorem fn150 : FnOk Tryz.prog 150 F150 := FnOk.of Tryz.func150 rfl (by kernel_rfl) rfl rfl
theorem pl150 : codeOk planOk F150.plans F150.code = true := by kernel_rfl
noncomputable def F151 : FnI := ⟨bodyOf Tryz.f151, 9, [.tmp 4], .e⟩
theorem fn151 : FnOk Tryz.prog 151 F151 := FnOk.of Tryz.func151 rfl (by kernel_rfl) rfl rfl
theorem pl151 : codeOk planOk F151.plans F151.code = true := by kernel_rfl
noncomputable def F152 : FnI := ⟨bodyOf Tryz.f152, 6, [.tmp 2], .e⟩
theorem fn152 : FnOk Tryz.prog 152 F152 := FnOk.of Tryz.func152 rfl (by kernel_rfl) rfl rfl
theorem pl152 : codeOk planOk F152.plans F152.code = true := by kernel_rfl
noncomputable def F153 : FnI := ⟨bodyOf Tryz.f153, 38, [.tmp 2], .e⟩
theorem fn153 : FnOk Tryz.prog 153 F153 := FnOk.of Tryz.func153 rfl (by kernel_rfl) rfl rfl
theorem pl153 : codeOk planOk F153.plans F153.code = true := by kernel_rfl
noncomputable def F154 : FnI := ⟨bodyOf Tryz.f154, 15, [.tmp 6], .e⟩
theorem fn154 : FnOk Tryz.prog 154 F154 := FnOk.of Tryz.func154 rfl (by kernel_rfl) rfl rfl
theorem pl154 : codeOk planOk F154.plans F154.code = true := by kernel_rfl
noncomputable def F155 : FnI := ⟨bodyOf Tryz.f155, 17, [.tmp 0], .e⟩
theorem fn155 : FnOk Tryz.prog 155 F155 := FnOk.of Tryz.func155 rfl (by kernel_rfl) rfl rfl
theorem pl155 : codeOk planOk F155.plans F155.code = true := by kernel_rfl
noncomputable def F156 : FnI := ⟨bodyOf Tryz.f156, 23, [.tmp 4], .e⟩
theorem fn156 : FnOk Tryz.prog 156 F156 := FnOk.of Tryz.func156 rfl (by kernel_rfl) rfl rfl
theorem pl156 : codeOk planOk F156.plans F156.code = true := by kernel_rfl
noncomputable def F157 : FnI := ⟨bodyOf Tryz.f157, 28, [.cell 4 69], .e⟩
theorem fn157 : FnOk Tryz.prog 157 F157 := FnOk.of Tryz.func157 rfl (by kernel_rfl) rfl rfl
theorem pl157 : codeOk planOk F157.plans F157.code = true := by kernel_rfl
noncomputable def F158 : FnI := ⟨bodyOf Tryz.f158, 16, [.tmp 4], .e⟩
theorem fn158 : FnOk Tryz.prog 158 F158 := FnOk.of Tryz.func158 rfl (by kernel_rfl) rfl rfl
theorem pl158 : codeOk planOk F158.plans F158.code = true := by kernel_rfl
noncomputable def F159 : FnI := ⟨bodyOf Tryz.f159, 18, [.cell 2 340], .e⟩
theorem fn159 : FnOk Tryz.prog 159 F159 := FnOk.of Tryz.func159 rfl (by kernel_rfl) rfl rfl
theorem pl159 : codeOk planOk F159.plans F159.code = true := by kernel_rfl
noncomputable def F160 : FnI := ⟨bodyOf Tryz.f160, 72, [.tmp 4], (.n none (.n (some [.n 0, .n 1, .n 2, .n 3, .n 4, .n 5, .n 6, .n 7, .n 8, .n 9, .go 10, .x 10, .r 5, .r 6, .r 7, .r 8, .r 9, .go 11, .x 11, .fin]) .e .e) .e)⟩
theorem fn160 : FnOk Tryz.prog 160 F160 := FnOk.of Tryz.func160 rfl (by kernel_rfl) rfl rfl
theorem pl160 : codeOk planOk F160.plans F160.code = true := by kernel_rfl
noncomputable def F161 : FnI := ⟨bodyOf Tryz.f161, 6, [.tmp 4], .e⟩
theorem fn161 : FnOk Tryz.prog 161 F161 := FnOk.of Tryz.func161 rfl (by kernel_rfl) rfl rfl
theorem pl161 : codeOk planOk F161.plans F161.code = true := by kernel_rfl
noncomputable def F162 : FnI := ⟨bodyOf Tryz.f162, 35, [.tmp 4], (.n none (.n (some [.n 0, .n 1, .n 2, .n 3, .n 4, .n 5, .n 6, .n 7, .n 8, .n 9, .n 10, .n 11, .n 12, .n 13, .n 14, .n 15, .go 16, .x 16, .r 6, .r 7, .r 8, .r 9, .r 10, .r 11, .r 12, .r 13, .r 14, .r 15, .go 17, .x 17, .r 12, .r 13, .r 14, .r 15, .go 18, .x 18, .fin]) .e .e) .e)⟩
theorem fn162 : FnOk Tryz.prog 162 F162 := FnOk.of Tryz.func162 rfl (by kernel_rfl) rfl rfl
theorem pl162 : codeOk planOk F162.plans F162.code = true := by kernel_rfl
noncomputable def F166 : FnI := ⟨bodyOf Tryz.f166, 62, [.tmp 8], .e⟩
theorem fn166 : FnOk Tryz.prog 166 F166 := FnOk.of Tryz.func166 rfl (by kernel_rfl) rfl rfl
theorem pl166 : codeOk planOk F166.plans F166.code = true := by kernel_rfl
noncomputable def F167 : FnI := ⟨bodyOf Tryz.f167, 29, [.tmp 6], .e⟩
theorem fn167 : FnOk Tryz.prog 167 F167 := FnOk.of Tryz.func167 rfl (by kernel_rfl) rfl rfl
theorem pl167 : codeOk planOk F167.plans F167.code = true := by kernel_rfl
noncomputable def F168 : FnI := ⟨bodyOf Tryz.f168, 12, [.tmp 2, .tmp 3], .e⟩
theorem fn168 : FnOk Tryz.prog 168 F168 := FnOk.of Tryz.func168 rfl (by kernel_rfl) rfl rfl
theorem pl168 : codeOk planOk F168.plans F168.code = true := by kernel_rfl
noncomputable def F169 : FnI := ⟨bodyOf Tryz.f169, 52, [.tmp 4, .tmp 5], .e⟩
theorem fn169 : FnOk Tryz.prog 169 F169 := FnOk.of Tryz.func169 rfl (by kernel_rfl) rfl rfl
theorem pl169 : codeOk planOk F169.plans F169.code = true := by kernel_rfl
noncomputable def F170 : FnI := ⟨bodyOf Tryz.f170, 69, [], (.n none (.n none (.n none (.n (some [.n 0, .n 1, .n 2, .n 3, .n 4, .n 5, .go 6, .x 6, .n 7, .n 8, .n 9, .go 10, .x 10, .r 9, .go 11, .x 11, .fin]) .e .e) .e) (.n none .e .e)) (.n none (.n none .e .e) (.n (some [.n 0, .n 1, .n 2, .n 3, .n 4, .n 5, .go 6, .x 6, .n 7, .n 8, .n 9, .go 10, .x 10, .r 9, .go 11, .x 11, .fin]) .e .e)))⟩
theorem fn170 : FnOk Tryz.prog 170 F170 := FnOk.of Tryz.func170 rfl (by kernel_rfl) rfl rfl
theorem pl170 : codeOk planOk F170.plans F170.code = true := by kernel_rfl
noncomputable def F171 : FnI := ⟨bodyOf Tryz.f171, 27, [.tmp 6, .tmp 7], .e⟩
theorem fn171 : FnOk Tryz.prog 171 F171 := FnOk.of Tryz.func171 rfl (by kernel_rfl) rfl rfl
theorem pl171 : codeOk planOk F171.plans F171.code = true := by kernel_rfl
noncomputable def F172 : FnI := ⟨bodyOf Tryz.f172, 19, [.tmp 4], .e⟩
theorem fn172 : FnOk Tryz.prog 172 F172 := FnOk.of Tryz.func172 rfl (by kernel_rfl) rfl rfl
theorem pl172 : codeOk planOk F172.plans F172.code = true := by kernel_rfl
noncomputable def F173 : FnI := ⟨bodyOf Tryz.f173, 26, [.tmp 6, .tmp 7], .e⟩
theorem fn173 : FnOk Tryz.prog 173 F173 := FnOk.of Tryz.func173 rfl (by kernel_rfl) rfl rfl
theorem pl173 : codeOk planOk F173.plans F173.code = true := by kernel_rfl
noncomputable def F174 : FnI := ⟨bodyOf Tryz.f174, 9, [.tmp 4], .e⟩
theorem fn174 : FnOk Tryz.prog 174 F174 := FnOk.of Tryz.func174 rfl (by kernel_rfl) rfl rfl
theorem pl174 : codeOk planOk F174.plans F174.code = true := by kernel_rfl
noncomputable def F175 : FnI := ⟨bodyOf Tryz.f175, 17, [.tmp 2], .e⟩
theorem fn175 : FnOk Tryz.prog 175 F175 := FnOk.of Tryz.func175 rfl (by kernel_rfl) rfl rfl
theorem pl175 : codeOk planOk F175.plans F175.code = true := by kernel_rfl
noncomputable def F176 : FnI := ⟨bodyOf Tryz.f176, 20, [], .e⟩
theorem fn176 : FnOk Tryz.prog 176 F176 := FnOk.of Tryz.func176 rfl (by kernel_rfl) rfl rfl
theorem pl176 : codeOk planOk F176.plans F176.code = true := by kernel_rfl
noncomputable def F177 : FnI := ⟨bodyOf Tryz.f177, 54, [.tmp 4], .e⟩
theorem fn177 : FnOk Tryz.prog 177 F177 := FnOk.of Tryz.func177 rfl (by kernel_rfl) rfl rfl
theorem pl177 : codeOk planOk F177.plans F177.code = true := by kernel_rfl
noncomputable def F178 : FnI := ⟨bodyOf Tryz.f178, 19, [.tmp 4], .e⟩
theorem fn178 : FnOk Tryz.prog 178 F178 := FnOk.of Tryz.func178 rfl (by kernel_rfl) rfl rfl
theorem pl178 : codeOk planOk F178.plans F178.code = true := by kernel_rfl
noncomputable def F179 : FnI := ⟨bodyOf Tryz.f179, 13, [.tmp 4], .e⟩
theorem fn179 : FnOk Tryz.prog 179 F179 := FnOk.of Tryz.func179 rfl (by kernel_rfl) rfl rfl
theorem pl179 : codeOk planOk F179.plans F179.code = true := by kernel_rfl
noncomputable def F180 : FnI := ⟨bodyOf Tryz.f180, 136, [], (.n none (.n none (.n none (.n none .e .e) .e) (.n none (.n none .e .e) .e)) (.n none (.n none (.n (some [.n 0, .n 1, .n 2, .go 3, .x 3, .n 4, .n 5, .n 6, .n 7, .n 8, .n 9, .n 10, .n 11, .n 12, .n 13, .n 14, .n 15, .n 16, .n 17, .n 18, .n 19, .n 20, .n 21, .n 22, .n 23, .go 24, .x 24, .n 25, .n 26, .n 27, .fin]) .e .e) .e) (.n none (.n (some [.n 0, .n 1, .n 2, .n 3, .n 4, .n 5, .n 6, .n 7, .n 8, .n 9, .n 10, .n 11, .go 12, .x 12, .fin]) .e .e) .e)))⟩
theorem fn180 : FnOk Tryz.prog 180 F180 := FnOk.of Tryz.func180 rfl (by kernel_rfl) rfl rfl
theorem pl180 : codeOk planOk F180.plans F180.code = true := by kernel_rfl
noncomputable def F181 : FnI := ⟨bodyOf Tryz.f181, 10, [.cell 2 28], .e⟩
theorem fn181 : FnOk Tryz.prog 181 F181 := FnOk.of Tryz.func181 rfl (by kernel_rfl) rfl rfl
theorem pl181 : codeOk planOk F181.plans F181.code = true := by kernel_rfl
noncomputable def F182 : FnI := ⟨bodyOf Tryz.f182, 52, [], (.n (some [.n 0, .n 1, .n 2, .n 3, .n 4, .n 5, .n 6, .n 7, .n 8, .n 9, .n 10, .n 11, .n 12, .n 13, .n 14, .n 15, .n 16, .n 17, .n 18, .n 19, .n 20, .n 21, .n 22, .n 23, .n 24, .n 25, .n 26, .n 27, .n 28, .n 29, .n 30, .n 31, .n 32, .n 33, .n 34, .n 35, .n 36, .n 37, .n 38, .n 39, .n 40, .n 41, .n 42, .n 43, .fin]) .e .e)⟩
theorem fn182 : FnOk Tryz.prog 182 F182 := FnOk.of Tryz.func182 rfl (by kernel_rfl) rfl rfl
theorem pl182 : codeOk planOk F182.plans F182.code = true := by kernel_rfl
noncomputable def F183 : FnI := ⟨bodyOf Tryz.f183, 95, [], (.n (some [.n 0, .n 1, .n 2, .n 3, .n 4, .n 5, .n 6, .n 7, .n 8, .n 9, .n 10, .n 11, .n 12, .n 13, .n 14, .n 15, .n 16, .n 17, .n 18, .n 19, .n 20, .n 21, .go 22, .x 22, .n 23, .go 24, .x 24, .fin]) (.n none (.n (some [.n 0, .n 1, .n 2, .n 3, .n 4, .n 5, .n 6, .n 7, .n 8, .n 9, .n 10, .n 11, .n 12, .n 13, .n 14, .go 15, .x 15, .fin]) .e .e) (.n (some [.n 0, .n 1, .n 2, .n 3, .n 4, .n 5, .n 6, .n 7, .n 8, .n 9, .n 10, .n 11, .n 12, .n 13, .n 14, .go 15, .x 15, .fin]) .e .e)) (.n none (.n none .e .e) .e))⟩
theorem fn183 : FnOk Tryz.prog 183 F183 := FnOk.of Tryz.func183 rfl (by kernel_rfl) rfl rfl
theorem pl183 : codeOk planOk F183.plans F183.code = true := by kernel_rfl
noncomputable def F184 : FnI := ⟨bodyOf Tryz.f184, 126, [], (.n none (.n none (.n (some [.n 0, .n 1, .n 2, .n 3, .n 4, .n 5, .n 6, .n 7, .n 8, .n 9, .n 10, .n 11, .n 12, .n 13, .n 14, .n 15, .n 16, .n 17, .n 18, .n 20, .n 21, .n 22, .n 25, .n 26, .n 27, .go 19, .x 19, .r 9, .r 14, .r 20, .r 21, .r 22, .n 23, .r 25, .r 26, .r 27, .go 24, .x 24, .r 14, .r 25, .r 26, .r 27, .n 28, .go 29, .x 29, .fin]) .e .e) .e) (.n none .e .e))⟩
theorem fn184 : FnOk Tryz.prog 184 F184 := FnOk.of Tryz.func184 rfl (by kernel_rfl) rfl rfl
theorem pl184 : codeOk planOk F184.plans F184.code = true := by kernel_rfl
noncomputable def F185 : FnI := ⟨bodyOf Tryz.f185, 50, [], .e⟩
theorem fn185 : FnOk Tryz.prog 185 F185 := FnOk.of Tryz.func185 rfl (by kernel_rfl) rfl rfl
theorem pl185 : codeOk planOk F185.plans F185.code = true := by kernel_rfl
noncomputable def F186 : FnI := ⟨bodyOf Tryz.f186, 19, [.tmp 4], .e⟩
theorem fn186 : FnOk Tryz.prog 186 F186 := FnOk.of Tryz.func186 rfl (by kernel_rfl) rfl rfl
theorem pl186 : codeOk planOk F186.plans F186.code = true := by kernel_rfl
noncomputable def F187 : FnI := ⟨bodyOf Tryz.f187, 59, [.tmp 6, .tmp 7], .e⟩
theorem fn187 : FnOk Tryz.prog 187 F187 := FnOk.of Tryz.func187 rfl (by kernel_rfl) rfl rfl
theorem pl187 : codeOk planOk F187.plans F187.code = true := by kernel_rfl
noncomputable def F188 : FnI := ⟨bodyOf Tryz.f188, 22, [.cell 4 380, .tmp 5], .e⟩
theorem fn188 : FnOk Tryz.prog 188 F188 := FnOk.of Tryz.func188 rfl (by kernel_rfl) rfl rfl
theorem pl188 : codeOk planOk F188.plans F188.code = true := by kernel_rfl
noncomputable def F189 : FnI := ⟨bodyOf Tryz.f189, 17, [.tmp 4, .tmp 5], .e⟩
theorem fn189 : FnOk Tryz.prog 189 F189 := FnOk.of Tryz.func189 rfl (by kernel_rfl) rfl rfl
theorem pl189 : codeOk planOk F189.plans F189.code = true := by kernel_rfl
noncomputable def F190 : FnI := ⟨bodyOf Tryz.f190, 11, [.cell 4 385, .tmp 5], .e⟩
theorem fn190 : FnOk Tryz.prog 190 F190 := FnOk.of Tryz.func190 rfl (by kernel_rfl) rfl rfl
theorem pl190 : codeOk planOk F190.plans F190.code = true := by kernel_rfl
noncomputable def F191 : FnI := ⟨bodyOf Tryz.f191, 97, [.cell 8 79, .cell 9 391, .tmp 10], (.n none (.n (some [.n 0, .n 1, .n 3, .g 5, .go 2, .x 2, .r 3, .n 4, .g 5, .go 6, .b 5, .x 6, .fin]) (.n none (.n none (.n (some [.n 0, .n 1, .n 2, .n 3, .n 4, .n 5, .n 6, .n 7, .n 8, .n 9, .n 10, .n 11, .n 12, .n 13, .n 14, .n 15, .n 16, .n 17, .n 18, .n 19, .go 20, .x 20, .r 1, .r 13, .r 14, .r 15, .r 16, .r 17, .r 18, .r 19, .go 21, .x 21, .r 13, .r 14, .r 15, .r 16, .r 17, .r 18, .r 19, .go 22, .x 22, .fin]) .e .e) .e) (.n (some [.n 0, .n 1, .go 2, .x 2, .r 0, .r 1, .go 3, .x 3, .r 0, .r 1, .go 4, .x 4, .n 5, .go 6, .x 6, .fin]) .e .e)) (.n none (.n none .e .e) (.n (some [.n 0, .n 1, .go 2, .x 2, .r 0, .r 1, .n 3, .n 4, .go 5, .x 5, .r 0, .go 6, .x 6, .go 7, .x 7, .fin]) .e .e))) (.n none (.n none (.n (some [.n 0, .n 1, .n 2, .n 5, .go 3, .x 3, .r 0, .r 1, .r 2, .n 4, .r 5, .go 6, .x 6, .n 7, .n 8, .n 9, .go 10, .x 10, .r 9, .go 11, .x 11, .fin]) .e .e) (.n none .e .e)) (.n none (.n none .e .e) (.n none .e .e))))⟩
theorem fn191 : FnOk Tryz.prog 191 F191 := FnOk.of Tryz.func191 rfl (by kernel_rfl) rfl rfl
theorem pl191 : codeOk planOk F191.plans F191.code = true := by kernel_rfl
noncomputable def F192 : FnI := ⟨bodyOf Tryz.f192, 16, [.tmp 2], .e⟩
theorem fn192 : FnOk Tryz.prog 192 F192 := FnOk.of Tryz.func192 rfl (by kernel_rfl) rfl rfl
theorem pl192 : codeOk planOk F192.plans F192.code = true := by kernel_rfl
noncomputable def F193 : FnI := ⟨bodyOf Tryz.f193, 15, [.tmp 6], .e⟩
theorem fn193 : FnOk Tryz.prog 193 F193 := FnOk.of Tryz.func193 rfl (by kernel_rfl) rfl rfl
theorem pl193 : codeOk planOk F193.plans F193.code = true := by kernel_rfl
noncomputable def F194 : FnI := ⟨bodyOf Tryz.f194, 9, [.tmp 4], .e⟩
theorem fn194 : FnOk Tryz.prog 194 F194 := FnOk.of Tryz.func194 rfl (by kernel_rfl) rfl rfl
theorem pl194 : codeOk planOk F194.plans F194.code = true := by kernel_rfl
noncomputable def F195 : FnI := ⟨bodyOf Tryz.f195, 6, [.tmp 2], .e⟩
theorem fn195 : FnOk Tryz.prog 195 F195 := FnOk.of Tryz.func195 rfl (by kernel_rfl) rfl rfl
theorem pl195 : codeOk planOk F195.plans F195.code = true := by kernel_rfl
noncomputable def F196 : FnI := ⟨bodyOf Tryz.f196, 27, [.tmp 2], .e⟩
theorem fn196 : FnOk Tryz.prog 196 F196 := FnOk.of Tryz.func196 rfl (by kernel_rfl) rfl rfl
theorem pl196 : codeOk planOk F196.plans F196.code = true := by kernel_rfl
noncomputable def F197 : FnI := ⟨bodyOf Tryz.f197, 9, [.tmp 4], .e⟩
theorem fn197 : FnOk Tryz.prog 197 F197 := FnOk.of Tryz.func197 rfl (by kernel_rfl) rfl rfl
theorem pl197 : codeOk planOk F197.plans F197.code = true := by kernel_rfl
noncomputable def F198 : FnI := ⟨bodyOf Tryz.f198, 6, [.tmp 2], .e⟩
theorem fn198 : FnOk Tryz.prog 198 F198 := FnOk.of Tryz.func198 rfl (by kernel_rfl) rfl rfl
theorem pl198 : codeOk planOk F198.plans F198.code = true := by kernel_rfl
noncomputable def F199 : FnI := ⟨bodyOf Tryz.f199, 16, [.tmp 2], .e⟩
theorem fn199 : FnOk Tryz.prog 199 F199 := FnOk.of Tryz.func199 rfl (by kernel_rfl) rfl rfl
theorem pl199 : codeOk planOk F199.plans F199.code = true := by kernel_rfl
noncomputable def F200 : FnI := ⟨bodyOf Tryz.f200, 62, [.tmp 4], .e⟩
theorem fn200 : FnOk Tryz.prog 200 F200 := FnOk.of Tryz.func200 rfl (by kernel_rfl) rfl rfl
theorem pl200 : codeOk planOk F200.plans F200.code = true := by kernel_rfl
noncomputable def F201 : FnI := ⟨bodyOf Tryz.f201, 24, [.tmp 2], .e⟩
theorem fn201 : FnOk Tryz.prog 201 F201 := FnOk.of Tryz.func201 rfl (by kernel_rfl) rfl rfl
theorem pl201 : codeOk planOk F201.plans F201.code = true := by kernel_rfl
noncomputable def F202 : FnI := ⟨bodyOf Tryz.f202, 19, [.tmp 4], .e⟩
theorem fn202 : FnOk Tryz.prog 202 F202 := FnOk.of Tryz.func202 rfl (by kernel_rfl) rfl rfl
theorem pl202 : codeOk planOk F202.plans F202.code = true := by kernel_rfl
noncomputable def F203 : FnI := ⟨bodyOf Tryz.f203, 15, [.tmp 6], .e⟩
theorem fn203 : FnOk Tryz.prog 203 F203 := FnOk.of Tryz.func203 rfl (by kernel_rfl) rfl rfl
theorem pl203 : codeOk planOk F203.plans F203.code = true := by kernel_rfl
noncomputable def F204 : FnI := ⟨bodyOf Tryz.f204, 16, [.tmp 2], .e⟩
theorem fn204 : FnOk Tryz.prog 204 F204 := FnOk.of Tryz.func204 rfl (by kernel_rfl) rfl rfl
theorem pl204 : codeOk planOk F204.plans F204.code = true := by kernel_rfl
noncomputable def F205 : FnI := ⟨bodyOf Tryz.f205, 9, [.tmp 4], .e⟩
theorem fn205 : FnOk Tryz.prog 205 F205 := FnOk.of Tryz.func205 rfl (by kernel_rfl) rfl rfl
theorem pl205 : codeOk planOk F205.plans F205.code = true := by kernel_rfl
noncomputable def F206 : FnI := ⟨bodyOf Tryz.f206, 6, [.tmp 2], .e⟩
theorem fn206 : FnOk Tryz.prog 206 F206 := FnOk.of Tryz.func206 rfl (by kernel_rfl) rfl rfl
theorem pl206 : codeOk planOk F206.plans F206.code = true := by kernel_rfl
noncomputable def F207 : FnI := ⟨bodyOf Tryz.f207, 27, [.tmp 4], .e⟩
theorem fn207 : FnOk Tryz.prog 207 F207 := FnOk.of Tryz.func207 rfl (by kernel_rfl) rfl rfl
theorem pl207 : codeOk planOk F207.plans F207.code = true := by kernel_rfl
noncomputable def F208 : FnI := ⟨bodyOf Tryz.f208, 19, [.tmp 4], .e⟩
theorem fn208 : FnOk Tryz.prog 208 F208 := FnOk.of Tryz.func208 rfl (by kernel_rfl) rfl rfl
theorem pl208 : codeOk planOk F208.plans F208.code = true := by kernel_rfl
noncomputable def F209 : FnI := ⟨bodyOf Tryz.f209, 6, [.tmp 4], .e⟩
theorem fn209 : FnOk Tryz.prog 209 F209 := FnOk.of Tryz.func209 rfl (by kernel_rfl) rfl rfl
theorem pl209 : codeOk planOk F209.plans F209.code = true := by kernel_rfl
noncomputable def F210 : FnI := ⟨bodyOf Tryz.f210, 10, [.tmp 2], .e⟩
theorem fn210 : FnOk Tryz.prog 210 F210 := FnOk.of Tryz.func210 rfl (by kernel_rfl) rfl rfl
theorem pl210 : codeOk planOk F210.plans F210.code = true := by kernel_rfl
noncomputable def F211 : FnI := ⟨bodyOf Tryz.f211, 14, [.tmp 3], (.n none (.n (some [.n 0, .n 1, .n 2, .n 3, .n 4, .n 5, .n 6, .n 7, .n 8, .n 9, .go 10, .x 10, .fin]) .e .e) .e)⟩
theorem fn211 : FnOk Tryz.prog 211 F211 := FnOk.of Tryz.func211 rfl (by kernel_rfl) rfl rfl
theorem pl211 : codeOk planOk F211.plans F211.code = true := by kernel_rfl
noncomputable def F212 : FnI := ⟨bodyOf Tryz.f212, 10, [.tmp 2], .e⟩
theorem fn212 : FnOk Tryz.prog 212 F212 := FnOk.of Tryz.func212 rfl (by kernel_rfl) rfl rfl
theorem pl212 : codeOk planOk F212.plans F212.code = true := by kernel_rfl
noncomputable def F213 : FnI := ⟨bodyOf Tryz.f213, 10, [.tmp 2], .e⟩
theorem fn213 : FnOk Tryz.prog 213 F213 := FnOk.of Tryz.func213 rfl (by kernel_rfl) rfl rfl
theorem pl213 : codeOk planOk F213.plans F213.code = true := by kernel_rfl
noncomputable def F214 : FnI := ⟨bodyOf Tryz.f214, 8, [.tmp 3], .e⟩
theorem fn214 : FnOk Tryz.prog 214 F214 := FnOk.of Tryz.func214 rfl (by kernel_rfl) rfl rfl
theorem pl214 : codeOk planOk F214.plans F214.code = true := by kernel_rfl
noncomputable def F215 : FnI := ⟨bodyOf Tryz.f215, 12, [.tmp 4], (.n none (.n (some [.n 0, .n 1, .n 2, .n 3, .n 4, .n 5, .n 6, .go 7, .x 7, .fin]) .e .e) .e)⟩
theorem fn215 : FnOk Tryz.prog 215 F215 := FnOk.of Tryz.func215 rfl (by kernel_rfl) rfl rfl
theorem pl215 : codeOk planOk F215.plans F215.code = true := by kernel_rfl
noncomputable def F216 : FnI := ⟨bodyOf Tryz.f216, 11, [.tmp 2], .e⟩
theorem fn216 : FnOk Tryz.prog 216 F216 := FnOk.of Tryz.func216 rfl (by kernel_rfl) rfl rfl
theorem pl216 : codeOk planOk F216.plans F216.code = true := by kernel_rfl
noncomputable def F217 : FnI := ⟨bodyOf Tryz.f217, 12, [.tmp 2], .e⟩
theorem fn217 : FnOk Tryz.prog 217 F217 := FnOk.of Tryz.func217 rfl (by kernel_rfl) rfl rfl
theorem pl217 : codeOk planOk F217.plans F217.code = true := by kernel_rfl
noncomputable def F218 : FnI := ⟨bodyOf Tryz.f218, 13, [.tmp 2], .e⟩
theorem fn218 : FnOk Tryz.prog 218 F218 := FnOk.of Tryz.func218 rfl (by kernel_rfl) rfl rfl
theorem pl218 : codeOk planOk F218.plans F218.code = true := by kernel_rfl
noncomputable def F219 : FnI := ⟨bodyOf Tryz.f219, 40, [], (.n none (.n none (.n none .e .e) .e) (.n none (.n (some [.n 0, .n 1, .n 2, .n 3, .n 4, .n 5, .n 6, .n 7, .go 8, .x 8, .r 0, .r 1, .go 9, .x 9, .n 10, .n 11, .n 12, .n 13, .n 14, .n 15, .n 16, .n 17, .n 18, .n 19, .n 20, .n 21, .go 22, .x 22, .r 12, .r 13, .go 23, .x 23, .n 24, .n 25, .fin]) .e .e) .e))⟩
theorem fn219 : FnOk Tryz.prog 219 F219 := FnOk.of Tryz.func219 rfl (by kernel_rfl) rfl rfl
theorem pl219 : codeOk planOk F219.plans F219.code = true := by kernel_rfl
noncomputable def F220 : FnI := ⟨bodyOf Tryz.f220, 9, [.tmp 2], .e⟩
theorem fn220 : FnOk Tryz.prog 220 F220 := FnOk.of Tryz.func220 rfl (by kernel_rfl) rfl rfl
theorem pl220 : codeOk planOk F220.plans F220.code = true := by kernel_rfl
noncomputable def F221 : FnI := ⟨bodyOf Tryz.f221, 48, [.cell 4 69], (.n none (.n none (.n none (.n (some [.n 0, .n 1, .n 2, .n 3, .n 4, .n 5, .n 6, .n 7, .go 8, .x 8, .r 4, .r 5, .r 6, .r 7, .go 9, .x 9, .fin]) .e .e) .e) (.n (some [.n 0, .n 1, .n 2, .n 3, .n 4, .n 5, .n 6, .n 7, .n 8, .go 9, .x 9, .r 4, .r 5, .r 6, .r 7, .r 8, .go 10, .x 10, .fin]) .e .e)) (.n none (.n none .e .e) (.n none .e .e)))⟩
theorem fn221 : FnOk Tryz.prog 221 F221 := FnOk.of Tryz.func221 rfl (by kernel_rfl) rfl rfl
theorem pl221 : codeOk planOk F221.plans F221.code = true := by kernel_rfl
noncomputable def F225 : FnI := ⟨bodyOf Tryz.f225, 2, [.cell 0 427], .e⟩
theorem fn225 : FnOk Tryz.prog 225 F225 := FnOk.of Tryz.func225 rfl (by kernel_rfl) rfl rfl
theorem pl225 : codeOk planOk F225.plans F225.code = true := by kernel_rfl
noncomputable def F226 : FnI := ⟨bodyOf Tryz.f226, 14, [.tmp 2, .tmp 3], .e⟩
theorem fn226 : FnOk Tryz.prog 226 F226 := FnOk.of Tryz.func226 rfl (by kernel_rfl) rfl rfl
theorem pl226 : codeOk planOk F226.plans F226.code = true := by kernel_rfl
noncomputable def F227 : FnI := ⟨bodyOf Tryz.f227, 31, [.tmp 4, .tmp 5], (.n none (.n none (.n (some [.n 0, .n 1, .n 2, .n 3, .n 5, .n 6, .n 7, .n 8, .n 9, .n 10, .n 11, .n 12, .n 13, .n 14, .n 15, .go 4, .x 4, .r 5, .r 6, .r 7, .r 8, .r 9, .r 10, .r 11, .r 12, .r 13, .r 14, .r 15, .go 16, .x 16, .go 17, .x 17, .go 18, .x 18, .fin]) .e .e) .e) (.n none .e .e))⟩
theorem fn227 : FnOk Tryz.prog 227 F227 := FnOk.of Tryz.func227 rfl (by kernel_rfl) rfl rfl
theorem pl227 : codeOk planOk F227.plans F227.code = true := by kernel_rfl
noncomputable def F228 : FnI := ⟨bodyOf Tryz.f228, 92, [.cell 6 4], (.n none (.n none (.n none (.n (some [.n 0, .n 1, .n 2, .n 4, .n 5, .n 6, .go 3, .x 3, .r 4, .r 5, .r 6, .go 7, .x 7, .go 8, .x 8, .go 9, .x 9, .fin]) .e .e) .e) (.n none .e .e)) (.n none (.n none .e .e) (.n none .e .e)))⟩
theorem fn228 : FnOk Tryz.prog 228 F228 := FnOk.of Tryz.func228 rfl (by kernel_rfl) rfl rfl
theorem pl228 : codeOk planOk F228.plans F228.code = true := by kernel_rfl
noncomputable def F229 : FnI := ⟨bodyOf Tryz.f229, 18, [.tmp 2], .e⟩
theorem fn229 : FnOk Tryz.prog 229 F229 := FnOk.of Tryz.func229 rfl (by kernel_rfl) rfl rfl
theorem pl229 : codeOk planOk F229.plans F229.code = true := by kernel_rfl
noncomputable def F230 : FnI := ⟨bodyOf Tryz.f230, 73, [.tmp 8], (.n none (.n none (.n none .e .e) .e) (.n none (.n (some [.n 0, .n 1, .n 3, .n 4, .n 7, .n 8, .n 9, .go 2, .x 2, .r 3, .r 4, .r 7, .r 8, .r 9, .go 5, .x 5, .n 6, .r 7, .r 8, .r 9, .go 10, .x 10, .go 11, .x 11, .fin]) .e .e) .e))⟩
theorem fn230 : FnOk Tryz.prog 230 F230 := FnOk.of Tryz.func230 rfl (by kernel_rfl) rfl rfl
theorem pl230 : codeOk planOk F230.plans F230.code = true := by kernel_rfl
noncomputable def F231 : FnI := ⟨bodyOf Tryz.f231, 8, [.tmp 4], .e⟩
theorem fn231 : FnOk Tryz.prog 231 F231 := FnOk.of Tryz.func231 rfl (by kernel_rfl) rfl rfl
theorem pl231 : codeOk planOk F231.plans F231.code = true := by kernel_rfl
noncomputable def F233 : FnI := ⟨bodyOf Tryz.f233, 15, [.tmp 2], .e⟩
theorem fn233 : FnOk Tryz.prog 233 F233 := FnOk.of Tryz.func233 rfl (by kernel_rfl) rfl rfl
theorem pl233 : codeOk planOk F233.plans F233.code = true := by kernel_rfl
noncomputable def F234 : FnI := ⟨bodyOf Tryz.f234, 15, [.tmp 2], .e⟩
theorem fn234 : FnOk Tryz.prog 234 F234 := FnOk.of Tryz.func234 rfl (by kernel_rfl) rfl rfl
theorem pl234 : codeOk planOk F234.plans F234.code = true := by kernel_rfl
noncomputable def F235 : FnI := ⟨bodyOf Tryz.f235, 167, [], (.n none (.n none (.n none (.n (some [.n 0, .n 1, .n 2, .n 3, .n 4, .n 5, .n 6, .n 7, .n 8, .n 9, .n 10, .n 11, .go 12, .x 12, .r 3, .r 4, .r 5, .r 9, .r 10, .n 13, .go 14, .x 14, .fin]) (.n none .e .e) (.n (some [.n 0, .n 1, .n 2, .n 3, .n 4, .n 5, .n 6, .n 7, .n 8, .n 9, .n 10, .n 11, .go 12, .x 12, .r 3, .r 4, .r 5, .r 9, .r 10, .n 13, .go 14, .x 14, .fin]) .e .e)) (.n none (.n none .e .e) .e)) (.n none (.n (some [.n 0, .n 1, .n 2, .n 3, .n 4, .n 5, .n 6, .n 7, .n 8, .n 9, .n 10, .n 11, .go 12, .x 12, .r 3, .r 4, .r 5, .r 9, .r 10, .n 13, .go 14, .x 14, .fin]) (.n (some [.n 0, .n 1, .n 2, .n 3, .n 4, .n 5, .n 6, .n 7, .n 8, .n 9, .n 10, .n 11, .go 12, .x 12, .r 3, .r 4, .r 5, .r 9, .r 10, .n 13, .go 14, .x 14, .fin]) .e .e) .e) (.n none (.n none .e .e) .e))) (.n none (.n none (.n (some [.n 0, .n 1, .n 2, .n 3, .n 4, .n 5, .n 6, .n 7, .n 8, .n 9, .n 10, .n 11, .go 12, .x 12, .r 3, .r 4, .r 5, .r 9, .r 10, .n 13, .go 14, .x 14, .fin]) (.n none .e .e) .e) (.n none (.n none .e .e) .e)) (.n none (.n (some [.n 0, .n 1, .n 2, .n 3, .n 4, .n 5, .n 6, .n 7, .n 8, .n 9, .n 10, .n 11, .go 12, .x 12, .r 3, .r 4, .r 5, .r 9, .r 10, .n 13, .go 14, .x 14, .fin]) (.n (some [.n 0, .n 1, .n 2, .n 3, .n 4, .n 5, .n 6, .n 7, .n 8, .n 9, .n 10, .n 11, .go 12, .x 12, .r 3, .r 4, .r 5, .r 9, .r 10, .n 13, .go 14, .x 14, .fin]) .e .e) .e) (.n none (.n none .e .e) .e))))⟩
theorem fn235 : FnOk Tryz.prog 235 F235 := FnOk.of Tryz.func235 rfl (by kernel_rfl) rfl rfl
theorem pl235 : codeOk planOk F235.plans F235.code = true := by kernel_rfl
noncomputable def F236 : FnI := ⟨bodyOf Tryz.f236, 102, [.tmp 10, .tmp 11], .e⟩
theorem fn236 : FnOk Tryz.prog 236 F236 := FnOk.of Tryz.func236 rfl (by kernel_rfl) rfl rfl
theorem pl236 : codeOk planOk F236.plans F236.code = true := by kernel_rfl
noncomputable def F237 : FnI := ⟨bodyOf Tryz.f237, 26, [.tmp 4], .e⟩
theorem fn237 : FnOk Tryz.prog 237 F237 := FnOk.of Tryz.func237 rfl (by kernel_rfl) rfl rfl
theorem pl237 : codeOk planOk F237.plans F237.code = true := by kernel_rfl
noncomputable def F238 : FnI := ⟨bodyOf Tryz.f238, 24, [.tmp 4], (.n none (.n (some [.n 0, .n 1, .n 2, .n 3, .n 4, .n 5, .n 6, .n 7, .n 8, .n 9, .n 10, .n 11, .n 12, .n 13, .n 14, .n 15, .n 16, .n 17, .n 18, .go 19, .x 19, .fin]) .e .e) .e)⟩
theorem fn238 : FnOk Tryz.prog 238 F238 := FnOk.of Tryz.func238 rfl (by kernel_rfl) rfl rfl
theorem pl238 : codeOk planOk F238.plans F238.code = true := by kernel_rfl
noncomputable def F239 : FnI := ⟨bodyOf Tryz.f239, 16, [.tmp 4], .e⟩
theorem fn239 : FnOk Tryz.prog 239 F239 := FnOk.of Tryz.func239 rfl (by kernel_rfl) rfl rfl
theorem pl239 : codeOk planOk F239.plans F239.code = true := by kernel_rfl
noncomputable def F240 : FnI := ⟨bodyOf Tryz.f240, 14, [.tmp 4], .e⟩
theorem fn240 : FnOk Tryz.prog 240 F240 := FnOk.of Tryz.func240 rfl (by kernel_rfl) rfl rfl
theorem pl240 : codeOk planOk F240.plans F240.code = true := by kernel_rfl
noncomputable def F241 : FnI := ⟨bodyOf Tryz.f241, 62, [], .e⟩
theorem fn241 : FnOk Tryz.prog 241 F241 := FnOk.of Tryz.func241 rfl (by kernel_rfl) rfl rfl
theorem pl241 : codeOk planOk F241.plans F241.code = true := by kernel_rfl
noncomputable def F242 : FnI := ⟨bodyOf Tryz.f242, 15, [.tmp 6], .e⟩
theorem fn242 : FnOk Tryz.prog 242 F242 := FnOk.of Tryz.func242 rfl (by kernel_rfl) rfl rfl
theorem pl242 : codeOk planOk F242.plans F242.code = true := by kernel_rfl
noncomputable def F243 : FnI := ⟨bodyOf Tryz.f243, 43, [.cell 4 380], (.n none (.n (some [.n 0, .n 1, .n 2, .n 3, .n 4, .n 5, .n 6, .go 7, .x 7, .r 0, .r 1, .r 2, .r 3, .r 4, .r 5, .r 6, .go 8, .x 8, .fin]) .e .e) .e)⟩
theorem fn243 : FnOk Tryz.prog 243 F243 := FnOk.of Tryz.func243 rfl (by kernel_rfl) rfl rfl
theorem pl243 : codeOk planOk F243.plans F243.code = true := by kernel_rfl
noncomputable def F244 : FnI := ⟨bodyOf Tryz.f244, 17, [.tmp 4], .e⟩
theorem fn244 : FnOk Tryz.prog 244 F244 := FnOk.of Tryz.func244 rfl (by kernel_rfl) rfl rfl
theorem pl244 : codeOk planOk F244.plans F244.code = true := by kernel_rfl
noncomputable def F245 : FnI := ⟨bodyOf Tryz.f245, 28, [.cell 6 385, .tmp 7], .e⟩
theorem fn245 : FnOk Tryz.prog 245 F245 := FnOk.of Tryz.func245 rfl (by kernel_rfl) rfl rfl
theorem pl245 : codeOk planOk F245.plans F245.code = true := by kernel_rfl
noncomputable def F246 : FnI := ⟨bodyOf Tryz.f246, 13, [.cell 2 69], .e⟩
theorem fn246 : FnOk Tryz.prog 246 F246 := FnOk.of Tryz.func246 rfl (by kernel_rfl) rfl rfl
theorem pl246 : codeOk planOk F246.plans F246.code = true := by kernel_rfl
noncomputable def F247 : FnI := ⟨bodyOf Tryz.f247, 31, [.tmp 8, .tmp 9], .e⟩
theorem fn247 : FnOk Tryz.prog 247 F247 := FnOk.of Tryz.func247 rfl (by kernel_rfl) rfl rfl
theorem pl247 : codeOk planOk F247.plans F247.code = true := by kernel_rfl
noncomputable def F248 : FnI := ⟨bodyOf Tryz.f248, 48, [.cell 4 391, .tmp 5], .e⟩
theorem fn248 : FnOk Tryz.prog 248 F248 := FnOk.of Tryz.func248 rfl (by kernel_rfl) rfl rfl
theorem pl248 : codeOk planOk F248.plans F248.code = true := by kernel_rfl
noncomputable def F249 : FnI := ⟨bodyOf Tryz.f249, 17, [.tmp 2], .e⟩
theorem fn249 : FnOk Tryz.prog 249 F249 := FnOk.of Tryz.func249 rfl (by kernel_rfl) rfl rfl
theorem pl249 : codeOk planOk F249.plans F249.code = true := by kernel_rfl
noncomputable def F250 : FnI := ⟨bodyOf Tryz.f250, 19, [.tmp 4], .e⟩
theorem fn250 : FnOk Tryz.prog 250 F250 := FnOk.of Tryz.func250 rfl (by kernel_rfl) rfl rfl
theorem pl250 : codeOk planOk F250.plans F250.code = true := by kernel_rfl
noncomputable def F251 : FnI := ⟨bodyOf Tryz.f251, 19, [.tmp 4], .e⟩
theorem fn251 : FnOk Tryz.prog 251 F251 := FnOk.of Tryz.func251 rfl (by kernel_rfl) rfl rfl
theorem pl251 : codeOk planOk F251.plans F251.code = true := by kernel_rfl
noncomputable def F252 : FnI := ⟨bodyOf Tryz.f252, 43, [.cell 2 458], .e⟩
theorem fn252 : FnOk Tryz.prog 252 F252 := FnOk.of Tryz.func252 rfl (by kernel_rfl) rfl rfl
theorem pl252 : codeOk planOk F252.plans F252.code = true := by kernel_rfl
noncomputable def F253 : FnI := ⟨bodyOf Tryz.f253, 17, [.tmp 2], .e⟩
theorem fn253 : FnOk Tryz.prog 253 F253 := FnOk.of Tryz.func253 rfl (by kernel_rfl) rfl rfl
theorem pl253 : codeOk planOk F253.plans F253.code = true := by kernel_rfl
noncomputable def F254 : FnI := ⟨bodyOf Tryz.f254, 19, [.tmp 4], .e⟩
theorem fn254 : FnOk Tryz.prog 254 F254 := FnOk.of Tryz.func254 rfl (by kernel_rfl) rfl rfl
theorem pl254 : codeOk planOk F254.plans F254.code = true := by kernel_rfl
noncomputable def F255 : FnI := ⟨bodyOf Tryz.f255, 14, [.tmp 4], (.n none (.n (some [.n 0, .n 1, .n 2, .n 3, .n 4, .n 5, .n 6, .n 7, .n 8, .go 9, .x 9, .fin]) .e .e) .e)⟩
theorem fn255 : FnOk Tryz.prog 255 F255 := FnOk.of Tryz.func255 rfl (by kernel_rfl) rfl rfl
theorem pl255 : codeOk planOk F255.plans F255.code = true := by kernel_rfl
noncomputable def F256 : FnI := ⟨bodyOf Tryz.f256, 11, [.tmp 3], .e⟩
theorem fn256 : FnOk Tryz.prog 256 F256 := FnOk.of Tryz.func256 rfl (by kernel_rfl) rfl rfl
theorem pl256 : codeOk planOk F256.plans F256.code = true := by kernel_rfl
noncomputable def F257 : FnI := ⟨bodyOf Tryz.f257, 16, [.tmp 3], .e⟩
theorem fn257 : FnOk Tryz.prog 257 F257 := FnOk.of Tryz.func257 rfl (by kernel_rfl) rfl rfl
theorem pl257 : codeOk planOk F257.plans F257.code = true := by kernel_rfl
noncomputable def F258 : FnI := ⟨bodyOf Tryz.f258, 21, [.tmp 4], (.n none (.n (some [.n 0, .n 1, .n 2, .n 3, .n 4, .n 5, .n 6, .n 7, .n 8, .n 9, .n 10, .n 11, .n 12, .n 13, .go 14, .x 14, .n 15, .go 16, .x 16, .fin]) .e .e) .e)⟩
theorem fn258 : FnOk Tryz.prog 258 F258 := FnOk.of Tryz.func258 rfl (by kernel_rfl) rfl rfl
theorem pl258 : codeOk planOk F258.plans F258.code = true := by kernel_rfl
noncomputable def F259 : FnI := ⟨bodyOf Tryz.f259, 15, [.tmp 4], .e⟩
theorem fn259 : FnOk Tryz.prog 259 F259 := FnOk.of Tryz.func259 rfl (by kernel_rfl) rfl rfl
theorem pl259 : codeOk planOk F259.plans F259.code = true := by kernel_rfl
noncomputable def F260 : FnI := ⟨bodyOf Tryz.f260, 74, [.tmp 2], (.n none (.n none (.n none (.n none .e .e) .e) (.n none .e .e)) (.n none (.n none (.n (some [.n 0, .n 1, .n 2, .n 3, .n 4, .n 5, .n 6, .n 7, .n 8, .n 9, .n 10, .n 11, .n 12, .n 13, .n 14, .n 15, .n 16, .n 17, .n 18, .n 19, .n 20, .n 21, .go 22, .x 22, .r 11, .r 12, .r 13, .r 14, .r 15, .r 16, .r 17, .r 18, .r 19, .r 20, .r 21, .go 23, .x 23, .fin]) .e .e) .e) (.n none .e .e)))⟩
theorem fn260 : FnOk Tryz.prog 260 F260 := FnOk.of Tryz.func260 rfl (by kernel_rfl) rfl rfl
theorem pl260 : codeOk planOk F260.plans F260.code = true := by kernel_rfl
noncomputable def F261 : FnI := ⟨bodyOf Tryz.f261, 20, [.tmp 4], .e⟩
theorem fn261 : FnOk Tryz.prog 261 F261 := FnOk.of Tryz.func261 rfl (by kernel_rfl) rfl rfl
theorem pl261 : codeOk planOk F261.plans F261.code = true := by kernel_rfl
noncomputable def F262 : FnI := ⟨bodyOf Tryz.f262, 24, [.tmp 4], (.n none (.n (some [.n 0, .n 1, .n 2, .n 3, .n 4, .n 5, .n 6, .n 7, .n 8, .n 9, .go 10, .x 10, .r 5, .r 6, .r 7, .r 8, .r 9, .go 11, .x 11, .fin]) .e .e) .e)⟩
theorem fn262 : FnOk Tryz.prog 262 F262 := FnOk.of Tryz.func262 rfl (by kernel_rfl) rfl rfl
theorem pl262 : codeOk planOk F262.plans F262.code = true := by kernel_rfl
noncomputable def F263 : FnI := ⟨bodyOf Tryz.f263, 4, [.tmp 2], .e⟩
theorem fn263 : FnOk Tryz.prog 263 F263 := FnOk.of Tryz.func263 rfl (by kernel_rfl) rfl rfl
theorem pl263 : codeOk planOk F263.plans F263.code = true := by kernel_rfl
noncomputable def F264 : FnI := ⟨bodyOf Tryz.f264, 30, [.tmp 6], .e⟩
theorem fn264 : FnOk Tryz.prog 264 F264 := FnOk.of Tryz.func264 rfl (by kernel_rfl) rfl rfl
theorem pl264 : codeOk planOk F264.plans F264.code = true := by kernel_rfl
noncomputable def F265 : FnI := ⟨bodyOf Tryz.f265, 17, [.tmp 4], (.n none (.n (some [.n 0, .n 1, .n 2, .n 3, .n 5, .n 6, .n 7, .n 8, .go 4, .x 4, .r 5, .r 6, .r 7, .r 8, .go 9, .x 9, .go 10, .x 10, .n 11, .go 12, .x 12, .fin]) .e .e) .e)⟩
theorem fn265 : FnOk Tryz.prog 265 F265 := FnOk.of Tryz.func265 rfl (by kernel_rfl) rfl rfl
theorem pl265 : codeOk planOk F265.plans F265.code = true := by kernel_rfl
noncomputable def F266 : FnI := ⟨bodyOf Tryz.f266, 18, [.cell 4 472], .e⟩
theorem fn266 : FnOk Tryz.prog 266 F266 := FnOk.of Tryz.func266 rfl (by kernel_rfl) rfl rfl
theorem pl266 : codeOk planOk F266.plans F266.code = true := by kernel_rfl
noncomputable def F267 : FnI := ⟨bodyOf Tryz.f267, 20, [.tmp 4], (.n none (.n none (.n (some [.n 0, .n 1, .n 2, .n 3, .n 5, .n 6, .n 7, .n 8, .go 4, .x 4, .r 5, .r 6, .r 7, .r 8, .go 9, .x 9, .go 10, .x 10, .go 11, .x 11, .go 12, .x 12, .fin]) .e .e) .e) (.n none .e .e))⟩
theorem fn267 : FnOk Tryz.prog 267 F267 := FnOk.of Tryz.func267 rfl (by kernel_rfl) rfl rfl
theorem pl267 : codeOk planOk F267.plans F267.code = true := by kernel_rfl
noncomputable def F268 : FnI := ⟨bodyOf Tryz.f268, 21, [.tmp 6], .e⟩
theorem fn268 : FnOk Tryz.prog 268 F268 := FnOk.of Tryz.func268 rfl (by kernel_rfl) rfl rfl
theorem pl268 : codeOk planOk F268.plans F268.code = true := by kernel_rfl
noncomputable def F269 : FnI := ⟨bodyOf Tryz.f269, 6, [.tmp 2], .e⟩
theorem fn269 : FnOk Tryz.prog 269 F269 := FnOk.of Tryz.func269 rfl (by kernel_rfl) rfl rfl
theorem pl269 : codeOk planOk F269.plans F269.code = true := by kernel_rfl
noncomputable def F270 : FnI := ⟨bodyOf Tryz.f270, 25, [.tmp 2], .e⟩
theorem fn270 : FnOk Tryz.prog 270 F270 := FnOk.of Tryz.func270 rfl (by kernel_rfl) rfl rfl
theorem pl270 : codeOk planOk F270.plans F270.code = true := by kernel_rfl
noncomputable def F271 : FnI := ⟨bodyOf Tryz.f271, 4, [.tmp 2], .e⟩
theorem fn271 : FnOk Tryz.prog 271 F271 := FnOk.of Tryz.func271 rfl (by kernel_rfl) rfl rfl
theorem pl271 : codeOk planOk F271.plans F271.code = true := by kernel_rfl
noncomputable def F272 : FnI := ⟨bodyOf Tryz.f272, 8, [.tmp 2], .e⟩
theorem fn272 : FnOk Tryz.prog 272 F272 := FnOk.of Tryz.func272 rfl (by kernel_rfl) rfl rfl
theorem pl272 : codeOk planOk F272.plans F272.code = true := by kernel_rfl
noncomputable def F273 : FnI := ⟨bodyOf Tryz.f273, 8, [.tmp 2], .e⟩
theorem fn273 : FnOk Tryz.prog 273 F273 := FnOk.of Tryz.func273 rfl (by kernel_rfl) rfl rfl
theorem pl273 : codeOk planOk F273.plans F273.code = true := by kernel_rfl
noncomputable def F274 : FnI := ⟨bodyOf Tryz.f274, 6, [.tmp 2], .e⟩
theorem fn274 : FnOk Tryz.prog 274 F274 := FnOk.of Tryz.func274 rfl (by kernel_rfl) rfl rfl
theorem pl274 : codeOk planOk F274.plans F274.code = true := by kernel_rfl
noncomputable def F275 : FnI := ⟨bodyOf Tryz.f275, 90, [], (.n none (.n none (.n none (.n none (.n (some [.n 0, .n 1, .n 2, .n 3, .n 4, .n 5, .n 6, .n 7, .fin]) .e .e) .e) (.n none .e .e)) (.n none (.n none (.n (some [.n 0, .n 1, .n 2, .n 3, .n 4, .n 5, .n 6, .go 7, .x 7, .r 0, .r 1, .r 2, .r 3, .r 4, .go 8, .x 8, .r 0, .n 9, .n 10, .go 11, .x 11, .fin]) .e .e) .e) (.n none .e .e))) (.n (some [.n 0, .n 1, .n 2, .n 3, .go 4, .x 4, .r 1, .n 5, .n 6, .go 7, .x 7, .fin]) (.n none (.n none (.n (some [.n 0, .n 1, .n 2, .n 3, .n 4, .n 5, .go 6, .x 6, .fin]) .e .e) .e) (.n none .e .e)) (.n none (.n none .e .e) (.n (some [.n 0, .n 1, .n 2, .n 3, .n 4, .n 5, .go 6, .x 6, .r 0, .r 1, .r 2, .r 3, .r 4, .go 7, .x 7, .r 0, .n 8, .n 9, .go 10, .x 10, .fin]) .e .e))))⟩
theorem fn275 : FnOk Tryz.prog 275 F275 := FnOk.of Tryz.func275 rfl (by kernel_rfl) rfl rfl
theorem pl275 : codeOk planOk F275.plans F275.code = true := by kernel_rfl
noncomputable def F276 : FnI := ⟨bodyOf Tryz.f276, 9, [.tmp 4], .e⟩
theorem fn276 : FnOk Tryz.prog 276 F276 := FnOk.of Tryz.func276 rfl (by kernel_rfl) rfl rfl
theorem pl276 : codeOk planOk F276.plans F276.code = true := by kernel_rfl
noncomputable def F277 : FnI := ⟨bodyOf Tryz.f277, 19, [.tmp 4], .e⟩
theorem fn277 : FnOk Tryz.prog 277 F277 := FnOk.of Tryz.func277 rfl (by kernel_rfl) rfl rfl
theorem pl277 : codeOk planOk F277.plans F277.code = true := by kernel_rfl
noncomputable def F278 : FnI := ⟨bodyOf Tryz.f278, 8, [.tmp 3], .e⟩
theorem fn278 : FnOk Tryz.prog 278 F278 := FnOk.of Tryz.func278 rfl (by kernel_rfl) rfl rfl
theorem pl278 : codeOk planOk F278.plans F278.code = true := by kernel_rfl
noncomputable def F279 : FnI := ⟨bodyOf Tryz.f279, 48, [.tmp 2], .e⟩
theorem fn279 : FnOk Tryz.prog 279 F279 := FnOk.of Tryz.func279 rfl (by kernel_rfl) rfl rfl
theorem pl279 : codeOk planOk F279.plans F279.code = true := by kernel_rfl
noncomputable def F280 : FnI := ⟨bodyOf Tryz.f280, 12, [.tmp 2], .e⟩
theorem fn280 : FnOk Tryz.prog 280 F280 := FnOk.of Tryz.func280 rfl (by kernel_rfl) rfl rfl
theorem pl280 : codeOk planOk F280.plans F280.code = true := by kernel_rfl
noncomputable def F281 : FnI := ⟨bodyOf Tryz.f281, 18, [.tmp 8, .tmp 9], .e⟩
theorem fn281 : FnOk Tryz.prog 281 F281 := FnOk.of Tryz.func281 rfl (by kernel_rfl) rfl rfl
theorem pl281 : codeOk planOk F281.plans F281.code = true := by kernel_rfl
noncomputable def F282 : FnI := ⟨bodyOf Tryz.f282, 27, [.tmp 4], .e⟩
theorem fn282 : FnOk Tryz.prog 282 F282 := FnOk.of Tryz.func282 rfl (by kernel_rfl) rfl rfl
theorem pl282 : codeOk planOk F282.plans F282.code = true := by kernel_rfl
noncomputable def F283 : FnI := ⟨bodyOf Tryz.f283, 13, [.cell 4 489], .e⟩
theorem fn283 : FnOk Tryz.prog 283 F283 := FnOk.of Tryz.func283 rfl (by kernel_rfl) rfl rfl
theorem pl283 : codeOk planOk F283.plans F283.code = true := by kernel_rfl
noncomputable def F284 : FnI := ⟨bodyOf Tryz.f284, 6, [.tmp 2], .e⟩
theorem fn284 : FnOk Tryz.prog 284 F284 := FnOk.of Tryz.func284 rfl (by kernel_rfl) rfl rfl
theorem pl284 : codeOk planOk F284.plans F284.code = true := by kernel_rfl
noncomputable def F285 : FnI := ⟨bodyOf Tryz.f285, 32, [], (.n none (.n none (.n (some [.n 0, .n 1, .n 2, .n 3, .n 4, .n 5, .n 6, .n 7, .go 8, .x 8, .r 0, .r 1, .r 2, .r 3, .r 4, .r 5, .r 6, .r 7, .go 9, .x 9, .fin]) .e .e) .e) (.n none .e .e))⟩
theorem fn285 : FnOk Tryz.prog 285 F285 := FnOk.of Tryz.func285 rfl (by kernel_rfl) rfl rfl
theorem pl285 : codeOk planOk F285.plans F285.code = true := by kernel_rfl
noncomputable def F286 : FnI := ⟨bodyOf Tryz.f286, 51, [.tmp 4, .tmp 5], .e⟩
theorem fn286 : FnOk Tryz.prog 286 F286 := FnOk.of Tryz.func286 rfl (by kernel_rfl) rfl rfl
theorem pl286 : codeOk planOk F286.plans F286.code = true := by kernel_rfl
noncomputable def F287 : FnI := ⟨bodyOf Tryz.f287, 18, [.tmp 2], .e⟩
theorem fn287 : FnOk Tryz.prog 287 F287 := FnOk.of Tryz.func287 rfl (by kernel_rfl) rfl rfl
theorem pl287 : codeOk planOk F287.plans F287.code = true := by kernel_rfl
noncomputable def F288 : FnI := ⟨bodyOf Tryz.f288, 20, [.tmp 4], .e⟩
theorem fn288 : FnOk Tryz.prog 288 F288 := FnOk.of Tryz.func288 rfl (by kernel_rfl) rfl rfl
theorem pl288 : codeOk planOk F288.plans F288.code = true := by kernel_rfl
noncomputable def F289 : FnI := ⟨bodyOf Tryz.f289, 14, [.tmp 2], .e⟩
theorem fn289 : FnOk Tryz.prog 289 F289 := FnOk.of Tryz.func289 rfl (by kernel_rfl) rfl rfl
theorem pl289 : codeOk planOk F289.plans F289.code = true := by kernel_rfl
noncomputable def F290 : FnI := ⟨bodyOf Tryz.f290, 14, [.tmp 2], .e⟩
theorem fn290 : FnOk Tryz.prog 290 F290 := FnOk.of Tryz.func290 rfl (by kernel_rfl) rfl rfl
theorem pl290 : codeOk planOk F290.plans F290.code = true := by kernel_rfl
noncomputable def F291 : FnI := ⟨bodyOf Tryz.f291, 11, [.tmp 3], .e⟩
theorem fn291 : FnOk Tryz.prog 291 F291 := FnOk.of Tryz.func291 rfl (by kernel_rfl) rfl rfl
theorem pl291 : codeOk planOk F291.plans F291.code = true := by kernel_rfl
noncomputable def F292 : FnI := ⟨bodyOf Tryz.f292, 10, [.tmp 3], .e⟩
theorem fn292 : FnOk Tryz.prog 292 F292 := FnOk.of Tryz.func292 rfl (by kernel_rfl) rfl rfl
theorem pl292 : codeOk planOk F292.plans F292.code = true := by kernel_rfl
noncomputable def F293 : FnI := ⟨bodyOf Tryz.f293, 19, [.tmp 4], .e⟩
theorem fn293 : FnOk Tryz.prog 293 F293 := FnOk.of Tryz.func293 rfl (by kernel_rfl) rfl rfl
theorem pl293 : codeOk planOk F293.plans F293.code = true := by kernel_rfl
noncomputable def F294 : FnI := ⟨bodyOf Tryz.f294, 13, [.tmp 2], .e⟩
theorem fn294 : FnOk Tryz.prog 294 F294 := FnOk.of Tryz.func294 rfl (by kernel_rfl) rfl rfl
theorem pl294 : codeOk planOk F294.plans F294.code = true := by kernel_rfl
noncomputable def F295 : FnI := ⟨bodyOf Tryz.f295, 6, [], .e⟩
theorem fn295 : FnOk Tryz.prog 295 F295 := FnOk.of Tryz.func295 rfl (by kernel_rfl) rfl rfl
theorem pl295 : codeOk planOk F295.plans F295.code = true := by kernel_rfl
noncomputable def F296 : FnI := ⟨bodyOf Tryz.f296, 53, [], (.n (some [.n 0, .n 1, .n 2, .n 3, .n 4, .n 8, .n 9, .n 10, .n 11, .n 12, .n 17, .n 18, .n 19, .n 20, .n 21, .n 22, .g 27, .go 5, .x 5, .n 6, .n 7, .r 8, .r 9, .r 10, .r 11, .r 12, .r 17, .r 18, .r 19, .r 20, .r 21, .r 22, .g 27, .go 13, .x 13, .r 6, .r 7, .n 14, .n 15, .n 16, .r 17, .r 18, .r 19, .r 20, .r 21, .r 22, .g 27, .go 23, .x 23, .n 24, .n 25, .n 26, .g 27, .go 28, .b 27, .x 28, .r 26, .go 29, .x 29, .fin]) (.n (some [.n 0, .n 1, .n 2, .n 3, .n 4, .n 8, .n 9, .go 5, .x 5, .n 6, .n 7, .r 8, .r 9, .n 10, .n 11, .go 12, .x 12, .fin]) .e .e) (.n (some [.n 0, .n 1, .n 2, .n 3, .n 4, .n 6, .n 7, .go 5, .x 5, .r 6, .r 7, .n 8, .go 9, .x 9, .fin]) .e .e))⟩
theorem fn296 : FnOk Tryz.prog 296 F296 := FnOk.of Tryz.func296 rfl (by kernel_rfl) rfl rfl
theorem pl296 : codeOk planOk F296.plans F296.code = true := by kernel_rfl
noncomputable def F297 : FnI := ⟨bodyOf Tryz.f297, 53, [.tmp 10, .tmp 11], .e⟩
theorem fn297 : FnOk Tryz.prog 297 F297 := FnOk.of Tryz.func297 rfl (by kernel_rfl) rfl rfl
theorem pl297 : codeOk planOk F297.plans F297.code = true := by kernel_rfl
noncomputable def F298 : FnI := ⟨bodyOf Tryz.f298, 6, [.tmp 2], .e⟩
theorem fn298 : FnOk Tryz.prog 298 F298 := FnOk.of Tryz.func298 rfl (by kernel_rfl) rfl rfl
theorem pl298 : codeOk planOk F298.plans F298.code = true := by kernel_rfl
noncomputable def F299 : FnI := ⟨bodyOf Tryz.f299, 6, [.tmp 2], .e⟩
theorem fn299 : FnOk Tryz.prog 299 F299 := FnOk.of Tryz.func299 rfl (by kernel_rfl) rfl rfl
theorem pl299 : codeOk planOk F299.plans F299.code = true := by kernel_rfl
noncomputable def F300 : FnI := ⟨bodyOf Tryz.f300, 6, [.tmp 2], .e⟩
theorem fn300 : FnOk Tryz.prog 300 F300 := FnOk.of Tryz.func300 rfl (by kernel_rfl) rfl rfl
theorem pl300 : codeOk planOk F300.plans F300.code = true := by kernel_rfl
noncomputable def F301 : FnI := ⟨bodyOf Tryz.f301, 22, [.tmp 5], .e⟩
theorem fn301 : FnOk Tryz.prog 301 F301 := FnOk.of Tryz.func301 rfl (by kernel_rfl) rfl rfl
theorem pl301 : codeOk planOk F301.plans F301.code = true := by kernel_rfl
noncomputable def F302 : FnI := ⟨bodyOf Tryz.f302, 23, [.tmp 8, .tmp 9], .e⟩
theorem fn302 : FnOk Tryz.prog 302 F302 := FnOk.of Tryz.func302 rfl (by kernel_rfl) rfl rfl
theorem pl302 : codeOk planOk F302.plans F302.code = true := by kernel_rfl
noncomputable def F303 : FnI := ⟨bodyOf Tryz.f303, 36, [.tmp 2], .e⟩
theorem fn303 : FnOk Tryz.prog 303 F303 := FnOk.of Tryz.func303 rfl (by kernel_rfl) rfl rfl
theorem pl303 : codeOk planOk F303.plans F303.code = true := by kernel_rfl
noncomputable def F304 : FnI := ⟨bodyOf Tryz.f304, 27, [.tmp 4], .e⟩
theorem fn304 : FnOk Tryz.prog 304 F304 := FnOk.of Tryz.func304 rfl (by kernel_rfl) rfl rfl
theorem pl304 : codeOk planOk F304.plans F304.code = true := by kernel_rfl
noncomputable def F322 : FnI := ⟨bodyOf Tryz.f322, 10, [.tmp 2], .e⟩
theorem fn322 : FnOk Tryz.prog 322 F322 := FnOk.of Tryz.func322 rfl (by kernel_rfl) rfl rfl
theorem pl322 : codeOk planOk F322.plans F322.code = true := by kernel_rfl
noncomputable def F323 : FnI := ⟨bodyOf Tryz.f323, 56, [], (.n none (.n (some [.n 0, .n 1, .n 2, .n 3, .n 4, .n 5, .n 6, .n 7, .n 8, .n 9, .n 10, .n 11, .n 12, .go 13, .x 13, .r 1, .r 8, .r 9, .r 10, .n 14, .n 15, .go 16, .x 16, .fin]) (.n (some [.n 0, .n 1, .n 2, .n 3, .n 4, .n 5, .n 6, .n 7, .n 8, .n 9, .go 10, .x 10, .r 0, .r 1, .r 2, .r 3, .r 4, .go 11, .x 11, .r 0, .n 12, .n 13, .go 14, .x 14, .fin]) .e .e) .e) (.n none .e .e))⟩
theorem fn323 : FnOk Tryz.prog 323 F323 := FnOk.of Tryz.func323 rfl (by kernel_rfl) rfl rfl
theorem pl323 : codeOk planOk F323.plans F323.code = true := by kernel_rfl
noncomputable def F325 : FnI := ⟨bodyOf Tryz.f325, 88, [.cell 6 89, .tmp 7], (.n none (.n none (.n none (.n (some [.n 0, .n 1, .n 2, .n 3, .n 4, .n 5, .n 6, .n 7, .n 8, .n 9, .go 10, .x 10, .n 11, .n 12, .n 13, .go 14, .x 14, .r 13, .go 15, .x 15, .fin]) .e .e) .e) (.n none (.n none .e .e) .e)) (.n (some [.n 0, .n 1, .n 2, .n 3, .n 4, .n 5, .n 6, .n 7, .n 8, .n 9, .go 10, .x 10, .fin]) (.n none (.n none .e .e) .e) (.n none (.n (some [.n 0, .n 1, .n 2, .n 3, .n 4, .n 5, .n 6, .n 7, .n 8, .n 9, .go 10, .x 10, .fin]) .e .e) .e)))⟩
theorem fn325 : FnOk Tryz.prog 325 F325 := FnOk.of Tryz.func325 rfl (by kernel_rfl) rfl rfl
theorem pl325 : codeOk planOk F325.plans F325.code = true := by kernel_rfl
noncomputable def F326 : FnI := ⟨bodyOf Tryz.f326, 34, [.tmp 4], (.n none (.n (some [.n 0, .n 1, .n 2, .n 3, .n 4, .g 9, .go 5, .x 5, .n 6, .n 7, .n 8, .g 9, .go 10, .b 9, .x 10, .r 8, .go 11, .x 11, .fin]) (.n none .e .e) (.n (some [.n 0, .n 1, .n 2, .n 3, .n 4, .n 5, .go 6, .x 6, .r 0, .r 1, .r 2, .r 3, .r 4, .go 7, .x 7, .r 0, .n 8, .n 9, .go 10, .x 10, .fin]) .e .e)) (.n none (.n none .e .e) .e))⟩
theorem fn326 : FnOk Tryz.prog 326 F326 := FnOk.of Tryz.func326 rfl (by kernel_rfl) rfl rfl
theorem pl326 : codeOk planOk F326.plans F326.code = true := by kernel_rfl
noncomputable def F327 : FnI := ⟨bodyOf Tryz.f327, 55, [.tmp 4, .tmp 5], .e⟩
theorem fn327 : FnOk Tryz.prog 327 F327 := FnOk.of Tryz.func327 rfl (by kernel_rfl) rfl rfl
theorem pl327 : codeOk planOk F327.plans F327.code = true := by kernel_rfl
noncomputable def F328 : FnI := ⟨bodyOf Tryz.f328, 39, [.tmp 8], (.n none (.n none .e .e) (.n (some [.n 0, .n 1, .n 2, .n 3, .n 4, .n 5, .n 6, .n 7, .n 8, .n 9, .n 10, .n 11, .n 12, .n 14, .go 13, .x 13, .r 0, .r 1, .r 2, .r 3, .r 4, .r 5, .r 6, .r 7, .r 14, .go 15, .x 15, .n 16, .n 17, .n 18, .go 19, .x 19, .r 18, .go 20, .x 20, .fin]) .e .e))⟩
theorem fn328 : FnOk Tryz.prog 328 F328 := FnOk.of Tryz.func328 rfl (by kernel_rfl) rfl rfl
theorem pl328 : codeOk planOk F328.plans F328.code = true := by kernel_rfl
noncomputable def F329 : FnI := ⟨bodyOf Tryz.f329, 13, [.tmp 4], .e⟩
theorem fn329 : FnOk Tryz.prog 329 F329 := FnOk.of Tryz.func329 rfl (by kernel_rfl) rfl rfl
theorem pl329 : codeOk planOk F329.plans F329.code = true := by kernel_rfl
noncomputable def F330 : FnI := ⟨bodyOf Tryz.f330, 202, [.cell 6 89, .tmp 7], (.n none (.n none (.n none (.n none (.n (some [.n 0, .n 1, .n 2, .n 3, .n 4, .n 5, .n 6, .n 7, .n 8, .n 9, .n 10, .n 11, .n 12, .n 13, .n 14, .n 15, .go 16, .x 16, .n 17, .n 18, .n 19, .n 20, .go 21, .x 21, .r 19, .r 20, .go 22, .x 22, .r 20, .go 23, .x 23, .fin]) (.n none .e .e) .e) (.n none .e .e)) (.n none (.n none .e .e) (.n none .e .e))) (.n none (.n (some [.n 0, .n 1, .n 2, .n 3, .n 4, .n 5, .go 6, .x 6, .fin]) (.n none .e .e) (.n none .e .e)) (.n none (.n none .e .e) (.n none .e .e)))) (.n (some [.n 0, .n 1, .n 2, .n 3, .n 4, .n 5, .go 6, .x 6, .r 0, .r 1, .r 2, .r 3, .r 4, .r 5, .go 7, .x 7, .r 4, .r 5, .go 8, .x 8, .fin]) (.n none (.n none (.n none (.n (some [.n 0, .n 1, .n 2, .n 3, .n 4, .n 5, .n 6, .n 7, .n 8, .n 9, .n 10, .n 11, .n 12, .n 13, .n 14, .n 15, .n 16, .n 17, .n 19, .go 18, .x 18, .r 2, .r 3, .r 19, .n 20, .go 21, .x 21, .fin]) .e .e) .e) (.n none .e .e)) (.n none (.n none .e .e) (.n none .e .e))) (.n (some [.n 0, .n 1, .n 2, .n 3, .n 4, .n 5, .n 6, .n 7, .n 8, .n 9, .n 10, .n 11, .n 12, .n 13, .n 14, .n 16, .n 17, .n 18, .n 19, .n 20, .n 21, .g 28, .go 15, .x 15, .r 0, .r 1, .r 2, .r 3, .r 4, .r 5, .r 6, .r 7, .r 8, .r 9, .r 16, .r 17, .r 18, .r 19, .r 20, .r 21, .g 28, .go 22, .x 22, .r 0, .r 1, .r 2, .r 3, .r 4, .r 5, .r 6, .r 7, .r 8, .r 9, .n 23, .g 28, .go 24, .x 24, .n 25, .n 26, .n 27, .g 28, .go 29, .b 28, .x 29, .r 27, .go 30, .x 30, .fin]) (.n none (.n none .e .e) (.n none .e .e)) (.n none (.n none .e .e) (.n none .e .e)))))⟩
theorem fn330 : FnOk Tryz.prog 330 F330 := FnOk.of Tryz.func330 rfl (by kernel_rfl) rfl rfl
theorem pl330 : codeOk planOk F330.plans F330.code = true := by kernel_rfl
noncomputable def F331 : FnI := ⟨bodyOf Tryz.f331, 63, [.cell 6 69, .tmp 7], (.n none (.n none (.n none (.n none .e .e) .e) (.n none .e .e)) (.n none (.n none (.n (some [.n 0, .n 1, .n 2, .n 3, .n 4, .n 5, .n 6, .n 7, .n 8, .n 9, .n 10, .n 14, .n 15, .n 16, .n 17, .n 18, .n 19, .n 20, .n 21, .n 22, .n 23, .n 24, .g 29, .go 11, .x 11, .r 0, .r 1, .n 12, .n 13, .r 14, .r 15, .r 16, .r 17, .r 18, .r 19, .r 20, .r 21, .r 22, .r 23, .r 24, .g 29, .go 25, .x 25, .r 0, .r 1, .r 12, .r 13, .r 14, .r 15, .n 26, .n 27, .n 28, .g 29, .go 30, .b 29, .x 30, .fin]) .e .e) .e) (.n none .e .e)))⟩
theorem fn331 : FnOk Tryz.prog 331 F331 := FnOk.of Tryz.func331 rfl (by kernel_rfl) rfl rfl
theorem pl331 : codeOk planOk F331.plans F331.code = true := by kernel_rfl
noncomputable def F332 : FnI := ⟨bodyOf Tryz.f332, 148, [.cell 4 391, .tmp 5, .tmp 6, .tmp 7], (.n none (.n none (.n none (.n (some [.n 0, .n 1, .go 2, .x 2, .r 0, .go 3, .x 3, .go 4, .x 4, .go 5, .x 5, .go 6, .x 6, .fin]) (.n none .e .e) (.n (some [.n 0, .n 1, .n 2, .n 3, .n 4, .n 5, .n 6, .n 7, .n 8, .n 9, .go 10, .x 10, .n 11, .n 12, .n 13, .go 14, .x 14, .r 13, .go 15, .x 15, .fin]) .e .e)) (.n none (.n none .e .e) (.n none .e .e))) (.n (some [.n 0, .n 1, .n 2, .n 3, .n 4, .n 5, .n 6, .g 12, .go 7, .x 7, .n 8, .n 9, .n 10, .n 11, .g 12, .go 13, .b 12, .x 13, .r 10, .r 11, .go 14, .x 14, .r 11, .go 15, .x 15, .fin]) (.n none (.n none .e .e) (.n (some [.n 0, .n 1, .go 2, .x 2, .r 0, .go 3, .x 3, .go 4, .x 4, .go 5, .x 5, .go 6, .x 6, .fin]) .e .e)) (.n none (.n none .e .e) (.n none .e .e)))) (.n (some [.n 0, .n 1, .n 2, .n 3, .n 4, .n 5, .n 6, .n 8, .g 14, .go 7, .x 7, .r 0, .r 1, .r 2, .r 3, .r 4, .r 5, .r 8, .g 14, .go 9, .x 9, .n 10, .n 11, .n 12, .n 13, .g 14, .go 15, .b 14, .x 15, .r 12, .r 13, .go 16, .x 16, .r 13, .go 17, .x 17, .fin]) (.n (some [.n 0, .n 1, .go 2, .x 2, .r 0, .go 3, .x 3, .go 4, .x 4, .go 5, .x 5, .go 6, .x 6, .fin]) (.n (some [.n 0, .n 1, .n 2, .n 3, .n 4, .n 5, .n 6, .go 7, .x 7, .n 8, .n 9, .n 10, .go 11, .x 11, .r 10, .go 12, .x 12, .fin]) (.n none .e .e) (.n none .e .e)) (.n none (.n none .e .e) (.n none .e .e))) (.n none (.n (some [.n 0, .go 1, .x 1, .r 0, .go 2, .x 2, .go 3, .x 3, .go 4, .x 4, .go 5, .x 5, .fin]) (.n none .e .e) (.n none .e .e)) (.n none (.n none .e .e) (.n (some [.n 0, .n 1, .n 2, .n 3, .go 4, .x 4, .r 0, .r 1, .r 2, .go 5, .x 5, .r 1, .r 2, .go 6, .x 6, .go 7, .x 7, .go 8, .x 8, .fin]) .e .e)))))⟩
theorem fn332 : FnOk Tryz.prog 332 F332 := FnOk.of Tryz.func332 rfl (by kernel_rfl) rfl rfl
theorem pl332 : codeOk planOk F332.plans F332.code = true := by kernel_rfl
noncomputable def F333 : FnI := ⟨bodyOf Tryz.f333, 25, [.tmp 2], .e⟩
theorem fn333 : FnOk Tryz.prog 333 F333 := FnOk.of Tryz.func333 rfl (by kernel_rfl) rfl rfl
theorem pl333 : codeOk planOk F333.plans F333.code = true := by kernel_rfl
noncomputable def F334 : FnI := ⟨bodyOf Tryz.f334, 91, [.cell 6 391, .tmp 7, .tmp 8], (.n none (.n none (.n none (.n none .e .e) (.n none .e .e)) (.n none (.n none .e .e) (.n (some [.n 0, .n 1, .n 2, .n 3, .n 4, .go 5, .x 5, .r 4, .go 6, .x 6, .go 7, .x 7, .fin]) .e .e))) (.n none (.n none (.n none .e .e) (.n none .e .e)) (.n none (.n none .e .e) .e)))⟩
theorem fn334 : FnOk Tryz.prog 334 F334 := FnOk.of Tryz.func334 rfl (by kernel_rfl) rfl rfl
theorem pl334 : codeOk planOk F334.plans F334.code = true := by kernel_rfl
noncomputable def F335 : FnI := ⟨bodyOf Tryz.f335, 38, [.cell 2 391], (.n none (.n (some [.g 1, .g 3, .go 0, .x 0, .g 1, .g 3, .go 2, .b 1, .x 2, .g 3, .go 4, .b 3, .x 4, .fin]) (.n none (.n (some [.n 0, .n 1, .n 2, .n 3, .n 4, .n 5, .n 6, .n 7, .n 8, .n 9, .n 10, .go 11, .x 11, .fin]) .e .e) .e) (.n none .e .e)) (.n none (.n none .e .e) (.n none .e .e)))⟩
theorem fn335 : FnOk Tryz.prog 335 F335 := FnOk.of Tryz.func335 rfl (by kernel_rfl) rfl rfl
theorem pl335 : codeOk planOk F335.plans F335.code = true := by kernel_rfl
noncomputable def F336 : FnI := ⟨bodyOf Tryz.f336, 24, [.cell 6 391, .tmp 7, .tmp 8], .e⟩
theorem fn336 : FnOk Tryz.prog 336 F336 := FnOk.of Tryz.func336 rfl (by kernel_rfl) rfl rfl
theorem pl336 : codeOk planOk F336.plans F336.code = true := by kernel_rfl
noncomputable def F337 : FnI := ⟨bodyOf Tryz.f337, 15, [.tmp 4, .tmp 5], .e⟩
theorem fn337 : FnOk Tryz.prog 337 F337 := FnOk.of Tryz.func337 rfl (by kernel_rfl) rfl rfl
theorem pl337 : codeOk planOk F337.plans F337.code = true := by kernel_rfl
noncomputable def F338 : FnI := ⟨bodyOf Tryz.f338, 72, [.cell 4 121, .tmp 5], (.n none (.n none (.n none (.n (some [.n 0, .n 1, .n 2, .n 3, .n 4, .n 5, .n 6, .n 7, .n 8, .n 9, .go 10, .x 10, .r 4, .r 5, .n 11, .n 12, .go 13, .x 13, .fin]) .e .e) (.n (some [.n 0, .n 1, .n 2, .n 3, .n 4, .n 5, .n 6, .n 7, .n 8, .go 9, .x 9, .r 1, .r 4, .r 5, .r 6, .r 7, .r 8, .go 10, .x 10, .fin]) .e .e)) (.n none (.n none .e .e) .e)) (.n none (.n none (.n none .e .e) .e) (.n none (.n none .e .e) .e)))⟩
theorem fn338 : FnOk Tryz.prog 338 F338 := FnOk.of Tryz.func338 rfl (by kernel_rfl) rfl rfl
theorem pl338 : codeOk planOk F338.plans F338.code = true := by kernel_rfl
noncomputable def F339 : FnI := ⟨bodyOf Tryz.f339, 43, [.tmp 8, .tmp 9], .e⟩
theorem fn339 : FnOk Tryz.prog 339 F339 := FnOk.of Tryz.func339 rfl (by kernel_rfl) rfl rfl
theorem pl339 : codeOk planOk F339.plans F339.code = true := by kernel_rfl
noncomputable def F340 : FnI := ⟨bodyOf Tryz.f340, 122, [.tmp 6], (.n none (.n none (.n none (.n none .e .e) (.n none .e .e)) (.n (some [.n 0, .n 1, .n 2, .n 3, .n 4, .n 5, .n 6, .n 7, .n 8, .n 9, .n 11, .go 10, .x 10, .r 0, .r 1, .r 2, .r 3, .r 4, .r 11, .go 12, .x 12, .n 13, .n 14, .n 15, .go 16, .x 16, .r 15, .go 17, .x 17, .fin]) (.n none .e .e) .e)) (.n none (.n (some [.n 0, .n 1, .n 2, .n 3, .n 4, .n 5, .n 6, .n 7, .n 8, .n 9, .n 10, .n 11, .n 12, .n 13, .n 14, .n 15, .g 17, .go 16, .x 16, .r 0, .r 1, .r 2, .r 3, .r 4, .r 5, .r 6, .r 7, .r 8, .r 9, .r 10, .r 11, .r 12, .r 13, .r 14, .r 15, .g 17, .go 18, .b 17, .x 18, .r 9, .r 10, .r 11, .r 12, .r 13, .r 14, .r 15, .go 19, .x 19, .fin]) (.n none .e .e) (.n (some [.n 0, .n 1, .n 2, .n 3, .n 4, .n 5, .n 6, .n 7, .n 8, .n 9, .n 10, .go 11, .x 11, .r 0, .r 1, .r 2, .r 3, .r 4, .r 5, .go 12, .x 12, .n 13, .n 14, .n 15, .go 16, .x 16, .r 15, .go 17, .x 17, .fin]) .e .e)) (.n none (.n none .e .e) .e)))⟩
theorem fn340 : FnOk Tryz.prog 340 F340 := FnOk.of Tryz.func340 rfl (by kernel_rfl) rfl rfl
theorem pl340 : codeOk planOk F340.plans F340.code = true := by kernel_rfl
noncomputable def F341 : FnI := ⟨bodyOf Tryz.f341, 20, [.tmp 2], .e⟩
theorem fn341 : FnOk Tryz.prog 341 F341 := FnOk.of Tryz.func341 rfl (by kernel_rfl) rfl rfl
theorem pl341 : codeOk planOk F341.plans F341.code = true := by kernel_rfl
noncomputable def F342 : FnI := ⟨bodyOf Tryz.f342, 106, [.tmp 4], (.n none (.n none (.n none (.n none .e .e) .e) (.n none (.n (some [.n 0, .n 1, .n 2, .n 3, .n 4, .n 5, .go 6, .x 6, .n 7, .n 8, .n 9, .n 10, .n 11, .n 12, .n 13, .n 14, .n 15, .n 16, .n 17, .n 18, .n 19, .go 20, .x 20, .n 21, .n 22, .n 23, .n 24, .n 25, .n 26, .n 27, .n 28, .n 29, .n 30, .n 31, .n 32, .n 33, .n 34, .n 35, .n 36, .fin]) .e .e) .e)) (.n none (.n none (.n none .e .e) .e) (.n none .e .e)))⟩
theorem fn342 : FnOk Tryz.prog 342 F342 := FnOk.of Tryz.func342 rfl (by kernel_rfl) rfl rfl
theorem pl342 : codeOk planOk F342.plans F342.code = true := by kernel_rfl
noncomputable def F343 : FnI := ⟨bodyOf Tryz.f343, 7, [.tmp 2], .e⟩
theorem fn343 : FnOk Tryz.prog 343 F343 := FnOk.of Tryz.func343 rfl (by kernel_rfl) rfl rfl
theorem pl343 : codeOk planOk F343.plans F343.code = true := by kernel_rfl
noncomputable def F344 : FnI := ⟨bodyOf Tryz.f344, 30, [.tmp 6], (.n none (.n none .e .e) (.n (some [.n 0, .n 1, .n 3, .n 4, .go 2, .x 2, .r 3, .r 4, .n 6, .go 5, .x 5, .r 6, .go 7, .x 7, .n 8, .go 9, .x 9, .fin]) .e .e))⟩
theorem fn344 : FnOk Tryz.prog 344 F344 := FnOk.of Tryz.func344 rfl (by kernel_rfl) rfl rfl
theorem pl344 : codeOk planOk F344.plans F344.code = true := by kernel_rfl
noncomputable def F345 : FnI := ⟨bodyOf Tryz.f345, 7, [], .e⟩
theorem fn345 : FnOk Tryz.prog 345 F345 := FnOk.of Tryz.func345 rfl (by kernel_rfl) rfl rfl
theorem pl345 : codeOk planOk F345.plans F345.code = true := by kernel_rfl
noncomputable def F346 : FnI := ⟨bodyOf Tryz.f346, 6, [.cell 2 42], .e⟩
theorem fn346 : FnOk Tryz.prog 346 F346 := FnOk.of Tryz.func346 rfl (by kernel_rfl) rfl rfl
theorem pl346 : codeOk planOk F346.plans F346.code = true := by kernel_rfl
noncomputable def F347 : FnI := ⟨bodyOf Tryz.f347, 102, [], (.n none (.n none (.n none (.n none .e .e) (.n (some [.n 0, .n 1, .n 2, .n 3, .n 4, .n 5, .n 6, .n 7, .go 8, .x 8, .r 0, .r 1, .r 2, .r 3, .r 4, .r 5, .n 9, .n 10, .n 11, .n 12, .n 13, .go 14, .x 14, .fin]) .e .e)) (.n (some [.n 0, .n 1, .n 2, .n 3, .n 4, .n 5, .n 6, .n 7, .n 8, .go 9, .x 9, .fin]) (.n none .e .e) .e)) (.n none (.n none (.n none .e .e) .e) (.n none (.n (some [.n 0, .n 1, .n 2, .n 3, .n 4, .n 5, .n 6, .n 7, .go 8, .x 8, .r 0, .r 1, .r 2, .r 3, .r 4, .r 5, .n 9, .n 10, .n 11, .n 12, .n 13, .go 14, .x 14, .fin]) .e .e) .e)))⟩
theorem fn347 : FnOk Tryz.prog 347 F347 := FnOk.of Tryz.func347 rfl (by kernel_rfl) rfl rfl
theorem pl347 : codeOk planOk F347.plans F347.code = true := by kernel_rfl
noncomputable def F348 : FnI := ⟨bodyOf Tryz.f348, 6, [], .e⟩
theorem fn348 : FnOk Tryz.prog 348 F348 := FnOk.of Tryz.func348 rfl (by kernel_rfl) rfl rfl
theorem pl348 : codeOk planOk F348.plans F348.code = true := by kernel_rfl
noncomputable def F349 : FnI := ⟨bodyOf Tryz.f349, 113, [], (.n none (.n none (.n none (.n (some [.n 0, .n 1, .n 4, .n 5, .n 8, .n 9, .n 10, .n 11, .n 12, .n 13, .n 14, .n 15, .n 16, .g 6, .g 17, .go 2, .x 2, .r 0, .r 4, .r 5, .r 8, .r 9, .r 10, .r 11, .r 12, .r 13, .r 14, .r 15, .r 16, .g 6, .g 17, .go 3, .x 3, .r 4, .r 5, .r 8, .r 9, .r 10, .r 11, .r 12, .r 13, .r 14, .r 15, .r 16, .g 6, .g 17, .go 7, .b 6, .x 7, .r 8, .r 9, .r 10, .r 11, .r 12, .r 13, .r 14, .r 15, .r 16, .g 17, .go 18, .b 17, .x 18, .go 19, .x 19, .go 20, .x 20, .go 21, .x 21, .fin]) (.n none .e .e) .e) (.n none (.n (some [.n 0, .n 1, .n 2, .n 3, .n 4, .n 5, .n 6, .n 7, .n 8, .n 9, .n 10, .go 11, .x 11, .fin]) .e .e) .e)) (.n none (.n none (.n none .e .e) .e) (.n none .e .e))) (.n none (.n none (.n none (.n none .e .e) .e) (.n none .e .e)) (.n none (.n none (.n none .e .e) .e) (.n (some [.n 0, .n 1, .n 2, .n 3, .n 4, .n 5, .n 6, .n 7, .n 8, .n 9, .n 10, .go 11, .x 11, .fin]) .e .e))))⟩
theorem fn349 : FnOk Tryz.prog 349 F349 := FnOk.of Tryz.func349 rfl (by kernel_rfl) rfl rfl
theorem pl349 : codeOk planOk F349.plans F349.code = true := by kernel_rfl
noncomputable def F350 : FnI := ⟨bodyOf Tryz.f350, 19, [.tmp 2], .e⟩
theorem fn350 : FnOk Tryz.prog 350 F350 := FnOk.of Tryz.func350 rfl (by kernel_rfl) rfl rfl
theorem pl350 : codeOk planOk F350.plans F350.code = true := by kernel_rfl
noncomputable def F351 : FnI := ⟨bodyOf Tryz.f351, 8, [.tmp 2], .e⟩
theorem fn351 : FnOk Tryz.prog 351 F351 := FnOk.of Tryz.func351 rfl (by kernel_rfl) rfl rfl
theorem pl351 : codeOk planOk F351.plans F351.code = true := by kernel_rfl
noncomputable def F352 : FnI := ⟨bodyOf Tryz.f352, 36, [.cell 8 391, .tmp 9, .tmp 10], (.n none (.n none (.n none (.n none .e .e) .e) (.n none .e .e)) (.n none (.n none (.n (some [.n 0, .n 1, .n 2, .n 3, .n 4, .go 5, .x 5, .r 4, .go 6, .x 6, .go 7, .x 7, .fin]) .e .e) .e) (.n none .e .e)))⟩
theorem fn352 : FnOk Tryz.prog 352 F352 := FnOk.of Tryz.func352 rfl (by kernel_rfl) rfl rfl
theorem pl352 : codeOk planOk F352.plans F352.code = true := by kernel_rfl
noncomputable def F353 : FnI := ⟨bodyOf Tryz.f353, 2, [], .e⟩
theorem fn353 : FnOk Tryz.prog 353 F353 := FnOk.of Tryz.func353 rfl (by kernel_rfl) rfl rfl
theorem pl353 : codeOk planOk F353.plans F353.code = true := by kernel_rfl
noncomputable def F354 : FnI := ⟨bodyOf Tryz.f354, 15, [], (.n (some [.n 0, .n 1, .n 2, .n 3, .n 4, .n 5, .n 6, .n 7, .n 8, .go 9, .x 9, .r 0, .go 10, .x 10, .go 11, .x 11, .fin]) .e .e)⟩
theorem fn354 : FnOk Tryz.prog 354 F354 := FnOk.of Tryz.func354 rfl (by kernel_rfl) rfl rfl
theorem pl354 : codeOk planOk F354.plans F354.code = true := by kernel_rfl
noncomputable def F355 : FnI := ⟨bodyOf Tryz.f355, 117, [.tmp 10, .tmp 11], (.n none (.n none (.n none (.n none .e .e) .e) (.n none (.n none .e .e) .e)) (.n none (.n none (.n none .e .e) .e) (.n none (.n (some [.n 0, .n 1, .n 2, .n 3, .n 4, .n 5, .n 6, .n 7, .n 8, .n 9, .n 10, .g 12, .go 11, .x 11, .r 0, .r 1, .r 2, .r 3, .r 4, .r 5, .r 6, .r 7, .r 8, .r 9, .r 10, .g 12, .go 13, .b 12, .x 13, .r 5, .r 6, .r 7, .r 8, .r 9, .r 10, .go 14, .x 14, .fin]) .e .e) .e)))⟩
theorem fn355 : FnOk Tryz.prog 355 F355 := FnOk.of Tryz.func355 rfl (by kernel_rfl) rfl rfl
theorem pl355 : codeOk planOk F355.plans F355.code = true := by kernel_rfl
noncomputable def F356 : FnI := ⟨bodyOf Tryz.f356, 90, [.tmp 10, .tmp 11], .e⟩
theorem fn356 : FnOk Tryz.prog 356 F356 := FnOk.of Tryz.func356 rfl (by kernel_rfl) rfl rfl
theorem pl356 : codeOk planOk F356.plans F356.code = true := by kernel_rfl
noncomputable def F357 : FnI := ⟨bodyOf Tryz.f357, 9, [], .e⟩
theorem fn357 : FnOk Tryz.prog 357 F357 := FnOk.of Tryz.func357 rfl (by kernel_rfl) rfl rfl
theorem pl357 : codeOk planOk F357.plans F357.code = true := by kernel_rfl
noncomputable def F358 : FnI := ⟨bodyOf Tryz.f358, 17, [.tmp 4], (.n none (.n (some [.n 0, .n 1, .n 2, .n 3, .n 5, .n 6, .n 7, .n 8, .go 4, .x 4, .r 5, .r 6, .r 7, .r 8, .go 9, .x 9, .go 10, .x 10, .go 11, .x 11, .go 12, .x 12, .fin]) .e .e) .e)⟩
theorem fn358 : FnOk Tryz.prog 358 F358 := FnOk.of Tryz.func358 rfl (by kernel_rfl) rfl rfl
theorem pl358 : codeOk planOk F358.plans F358.code = true := by kernel_rfl
noncomputable def F359 : FnI := ⟨bodyOf Tryz.f359, 20, [.tmp 4], .e⟩
theorem fn359 : FnOk Tryz.prog 359 F359 := FnOk.of Tryz.func359 rfl (by kernel_rfl) rfl rfl
theorem pl359 : codeOk planOk F359.plans F359.code = true := by kernel_rfl
noncomputable def F360 : FnI := ⟨bodyOf Tryz.f360, 9, [.tmp 4], .e⟩
theorem fn360 : FnOk Tryz.prog 360 F360 := FnOk.of Tryz.func360 rfl (by kernel_rfl) rfl rfl
theorem pl360 : codeOk planOk F360.plans F360.code = true := by kernel_rfl
noncomputable def F361 : FnI := ⟨bodyOf Tryz.f361, 9, [.tmp 4], .e⟩
theorem fn361 : FnOk Tryz.prog 361 F361 := FnOk.of Tryz.func361 rfl (by kernel_rfl) rfl rfl
theorem pl361 : codeOk planOk F361.plans F361.code = true := by kernel_rfl
noncomputable def F362 : FnI := ⟨bodyOf Tryz.f362, 7, [.tmp 2], .e⟩
theorem fn362 : FnOk Tryz.prog 362 F362 := FnOk.of Tryz.func362 rfl (by kernel_rfl) rfl rfl
theorem pl362 : codeOk planOk F362.plans F362.code = true := by kernel_rfl
noncomputable def F363 : FnI := ⟨bodyOf Tryz.f363, 8, [.tmp 2], .e⟩
theorem fn363 : FnOk Tryz.prog 363 F363 := FnOk.of Tryz.func363 rfl (by kernel_rfl) rfl rfl
theorem pl363 : codeOk planOk F363.plans F363.code = true := by kernel_rfl
noncomputable def F364 : FnI := ⟨bodyOf Tryz.f364, 8, [.tmp 2], .e⟩
theorem fn364 : FnOk Tryz.prog 364 F364 := FnOk.of Tryz.func364 rfl (by kernel_rfl) rfl rfl
theorem pl364 : codeOk planOk F364.plans F364.code = true := by kernel_rfl
noncomputable def F365 : FnI := ⟨bodyOf Tryz.f365, 11, [], .e⟩
theorem fn365 : FnOk Tryz.prog 365 F365 := FnOk.of Tryz.func365 rfl (by kernel_rfl) rfl rfl
theorem pl365 : codeOk planOk F365.plans F365.code = true := by kernel_rfl
noncomputable def F366 : FnI := ⟨bodyOf Tryz.f366, 20, [.tmp 4], .e⟩
theorem fn366 : FnOk Tryz.prog 366 F366 := FnOk.of Tryz.func366 rfl (by kernel_rfl) rfl rfl
theorem pl366 : codeOk planOk F366.plans F366.code = true := by kernel_rfl
noncomputable def F367 : FnI := ⟨bodyOf Tryz.f367, 80, [.cell 6 388, .cell 7 147, .cell 8 42], (.n none (.n none (.n none (.n none (.n (some [.n 0, .n 1, .n 2, .n 3, .n 4, .n 5, .n 6, .go 7, .x 7, .r 2, .r 3, .r 5, .n 8, .go 9, .x 9, .fin]) .e .e) .e) (.n none (.n (some [.n 0, .n 1, .go 2, .x 2, .r 1, .go 3, .x 3, .go 4, .x 4, .fin]) .e .e) .e)) (.n none (.n none (.n none .e .e) .e) (.n none .e .e))) (.n none (.n none (.n none (.n none .e .e) .e) (.n (some [.n 0, .n 1, .n 2, .n 3, .n 4, .n 5, .n 6, .n 7, .n 8, .n 9, .n 10, .n 11, .n 12, .n 13, .n 14, .n 15, .n 16, .g 22, .g 23, .go 17, .x 17, .n 18, .n 19, .n 20, .n 21, .g 22, .g 23, .go 24, .b 22, .b 23, .x 24, .r 20, .r 21, .go 25, .x 25, .r 21, .go 26, .x 26, .fin]) .e .e)) (.n none (.n none (.n none .e .e) .e) (.n none .e .e))))⟩
theorem fn367 : FnOk Tryz.prog 367 F367 := FnOk.of Tryz.func367 rfl (by kernel_rfl) rfl rfl
theorem pl367 : codeOk planOk F367.plans F367.code = true := by kernel_rfl
noncomputable def F368 : FnI := ⟨bodyOf Tryz.f368, 26, [], (.n (some [.n 0, .n 1, .n 2, .n 3, .n 4, .n 5, .n 6, .n 7, .n 8, .n 9, .n 10, .n 11, .n 12, .n 13, .n 14, .n 15, .n 16, .go 17, .x 17, .fin]) .e .e)⟩
theorem fn368 : FnOk Tryz.prog 368 F368 := FnOk.of Tryz.func368 rfl (by kernel_rfl) rfl rfl
theorem pl368 : codeOk planOk F368.plans F368.code = true := by kernel_rfl
noncomputable def F369 : FnI := ⟨bodyOf Tryz.f369, 7, [], .e⟩
theorem fn369 : FnOk Tryz.prog 369 F369 := FnOk.of Tryz.func369 rfl (by kernel_rfl) rfl rfl
theorem pl369 : codeOk planOk F369.plans F369.code = true := by kernel_rfl
noncomputable def F370 : FnI := ⟨bodyOf Tryz.f370, 16, [], .e⟩
theorem fn370 : FnOk Tryz.prog 370 F370 := FnOk.of Tryz.func370 rfl (by kernel_rfl) rfl rfl
theorem pl370 : codeOk planOk F370.plans F370.code = true := by kernel_rfl
noncomputable def F371 : FnI := ⟨bodyOf Tryz.f371, 6, [.tmp 4], .e⟩
theorem fn371 : FnOk Tryz.prog 371 F371 := FnOk.of Tryz.func371 rfl (by kernel_rfl) rfl rfl
theorem pl371 : codeOk planOk F371.plans F371.code = true := by kernel_rfl
noncomputable def F372 : FnI := ⟨bodyOf Tryz.f372, 9, [.tmp 4], .e⟩
theorem fn372 : FnOk Tryz.prog 372 F372 := FnOk.of Tryz.func372 rfl (by kernel_rfl) rfl rfl
theorem pl372 : codeOk planOk F372.plans F372.code = true := by kernel_rfl
noncomputable def F373 : FnI := ⟨bodyOf Tryz.f373, 6, [.tmp 2], .e⟩
theorem fn373 : FnOk Tryz.prog 373 F373 := FnOk.of Tryz.func373 rfl (by kernel_rfl) rfl rfl
theorem pl373 : codeOk planOk F373.plans F373.code = true := by kernel_rfl
noncomputable def F374 : FnI := ⟨bodyOf Tryz.f374, 61, [.tmp 8], (.n none (.n (some [.n 0, .n 1, .n 2, .n 3, .n 4, .n 5, .n 6, .n 7, .n 8, .n 9, .go 10, .x 10, .r 5, .r 6, .r 7, .r 8, .r 9, .go 11, .x 11, .fin]) .e .e) .e)⟩
theorem fn374 : FnOk Tryz.prog 374 F374 := FnOk.of Tryz.func374 rfl (by kernel_rfl) rfl rfl
theorem pl374 : codeOk planOk F374.plans F374.code = true := by kernel_rfl
noncomputable def F375 : FnI := ⟨bodyOf Tryz.f375, 63, [], .e⟩
theorem fn375 : FnOk Tryz.prog 375 F375 := FnOk.of Tryz.func375 rfl (by kernel_rfl) rfl rfl
theorem pl375 : codeOk planOk F375.plans F375.code = true := by kernel_rfl
noncomputable def F376 : FnI := ⟨bodyOf Tryz.f376, 6, [.tmp 2], .e⟩
theorem fn376 : FnOk Tryz.prog 376 F376 := FnOk.of Tryz.func376 rfl (by kernel_rfl) rfl rfl
theorem pl376 : codeOk planOk F376.plans F376.code = true := by kernel_rfl
noncomputable def F377 : FnI := ⟨bodyOf Tryz.f377, 19, [.tmp 4], .e⟩
theorem fn377 : FnOk Tryz.prog 377 F377 := FnOk.of Tryz.func377 rfl (by kernel_rfl) rfl rfl
theorem pl377 : codeOk planOk F377.plans F377.code = true := by kernel_rfl
noncomputable def F378 : FnI := ⟨bodyOf Tryz.f378, 35, [.tmp 4], (.n none (.n none (.n none (.n none .e .e) .e) (.n none .e .e)) (.n none (.n none (.n (some [.n 0, .n 1, .n 2, .n 3, .n 4, .go 5, .x 5, .go 6, .x 6, .fin]) .e .e) .e) (.n none .e .e)))⟩
theorem fn378 : FnOk Tryz.prog 378 F378 := FnOk.of Tryz.func378 rfl (by kernel_rfl) rfl rfl
theorem pl378 : codeOk planOk F378.plans F378.code = true := by kernel_rfl
noncomputable def F379 : FnI := ⟨bodyOf Tryz.f379, 4, [.tmp 2], .e⟩
theorem fn379 : FnOk Tryz.prog 379 F379 := FnOk.of Tryz.func379 rfl (by kernel_rfl) rfl rfl
theorem pl379 : codeOk planOk F379.plans F379.code = true := by kernel_rfl
noncomputable def F380 : FnI := ⟨bodyOf Tryz.f380, 45, [.cell 10 385, .cell 11 385, .tmp 12], (.n none (.n none (.n none (.n (some [.n 0, .n 1, .go 2, .x 2, .r 1, .go 3, .x 3, .go 4, .x 4, .fin]) .e .e) .e) (.n none .e .e)) (.n none (.n none .e .e) (.n none .e .e)))⟩
theorem fn380 : FnOk Tryz.prog 380 F380 := FnOk.of Tryz.func380 rfl (by kernel_rfl) rfl rfl
theorem pl380 : codeOk planOk F380.plans F380.code = true := by kernel_rfl
noncomputable def F381 : FnI := ⟨bodyOf Tryz.f381, 25, [], .e⟩
theorem fn381 : FnOk Tryz.prog 381 F381 := FnOk.of Tryz.func381 rfl (by kernel_rfl) rfl rfl
theorem pl381 : codeOk planOk F381.plans F381.code = true := by kernel_rfl
noncomputable def F382 : FnI := ⟨bodyOf Tryz.f382, 52, [], .e⟩
theorem fn382 : FnOk Tryz.prog 382 F382 := FnOk.of Tryz.func382 rfl (by kernel_rfl) rfl rfl
theorem pl382 : codeOk planOk F382.plans F382.code = true := by kernel_rfl
noncomputable def F383 : FnI := ⟨bodyOf Tryz.f383, 19, [.tmp 4], .e⟩
theorem fn383 : FnOk Tryz.prog 383 F383 := FnOk.of Tryz.func383 rfl (by kernel_rfl) rfl rfl
theorem pl383 : codeOk planOk F383.plans F383.code = true := by kernel_rfl
noncomputable def F384 : FnI := ⟨bodyOf Tryz.f384, 53, [], (.n none (.n none (.n none .e .e) (.n none .e .e)) (.n none (.n (some [.n 0, .n 1, .n 2, .n 3, .n 4, .n 5, .n 6, .n 7, .n 8, .n 9, .n 10, .n 11, .n 12, .n 13, .go 14, .x 14, .n 15, .n 16, .fin]) .e .e) (.n (some [.n 0, .n 1, .n 2, .n 3, .n 4, .n 5, .n 6, .n 7, .n 8, .n 9, .n 10, .n 11, .n 12, .n 13, .n 14, .go 15, .x 15, .r 2, .r 3, .r 4, .n 16, .go 17, .x 17, .fin]) .e .e)))⟩
theorem fn384 : FnOk Tryz.prog 384 F384 := FnOk.of Tryz.func384 rfl (by kernel_rfl) rfl rfl
theorem pl384 : codeOk planOk F384.plans F384.code = true := by kernel_rfl
noncomputable def F385 : FnI := ⟨bodyOf Tryz.f385, 220, [], (.n none (.n none (.n none (.n none (.n none (.n none .e .e) .e) (.n (some [.n 0, .n 1, .n 2, .n 3, .n 4, .n 5, .n 6, .n 7, .n 8, .n 9, .n 10, .n 11, .n 12, .n 13, .n 14, .go 15, .x 15, .r 2, .r 3, .r 4, .n 16, .go 17, .x 17, .fin]) .e .e)) (.n (some [.n 0, .n 1, .n 2, .n 3, .n 4, .n 5, .n 6, .n 7, .n 8, .n 9, .n 10, .n 11, .n 12, .n 13, .n 14, .go 15, .x 15, .r 2, .r 3, .r 4, .n 16, .go 17, .x 17, .fin]) (.n none (.n (some [.n 0, .n 1, .n 2, .n 3, .n 4, .n 5, .n 6, .n 7, .n 8, .n 9, .n 10, .go 11, .x 11, .n 12, .n 13, .fin]) .e .e) .e) (.n none .e .e))) (.n (some [.n 0, .n 1, .n 2, .n 3, .n 4, .n 5, .n 6, .n 7, .n 8, .go 9, .x 9, .n 10, .fin]) (.n none (.n (some [.n 0, .n 1, .n 2, .n 3, .n 4, .n 5, .n 6, .n 7, .n 8, .go 9, .x 9, .n 10, .n 11, .fin]) (.n none .e .e) .e) (.n none .e .e)) (.n none (.n none .e .e) (.n none .e .e)))) (.n none (.n none (.n none (.n none (.n none .e .e) .e) (.n none .e .e)) (.n none (.n none .e .e) (.n none .e .e))) (.n none (.n none (.n none (.n none .e .e) .e) (.n none .e .e)) (.n none (.n none .e .e) (.n none .e .e)))))⟩
theorem fn385 : FnOk Tryz.prog 385 F385 := FnOk.of Tryz.func385 rfl (by kernel_rfl) rfl rfl
theorem pl385 : codeOk planOk F385.plans F385.code = true := by kernel_rfl
noncomputable def F386 : FnI := ⟨bodyOf Tryz.f386, 22, [], .e⟩
theorem fn386 : FnOk Tryz.prog 386 F386 := FnOk.of Tryz.func386 rfl (by kernel_rfl) rfl rfl
theorem pl386 : codeOk planOk F386.plans F386.code = true := by kernel_rfl
noncomputable def F387 : FnI := ⟨bodyOf Tryz.f387, 40, [.cell 10 69, .tmp 11], (.n none (.n (some [.n 0, .n 1, .n 2, .n 3, .n 4, .n 5, .g 7, .go 6, .x 6, .r 0, .r 1, .r 2, .r 3, .r 4, .r 5, .g 7, .go 8, .b 7, .x 8, .r 3, .r 4, .r 5, .go 9, .x 9, .fin]) .e .e) .e)⟩
theorem fn387 : FnOk Tryz.prog 387 F387 := FnOk.of Tryz.func387 rfl (by kernel_rfl) rfl rfl
theorem pl387 : codeOk planOk F387.plans F387.code = true := by kernel_rfl
noncomputable def F388 : FnI := ⟨bodyOf Tryz.f388, 27, [], (.n (some [.n 0, .n 1, .n 5, .go 2, .x 2, .n 3, .n 4, .r 5, .go 6, .x 6, .r 3, .r 4, .n 7, .n 8, .n 9, .n 10, .go 11, .x 11, .fin]) (.n (some [.n 0, .n 1, .n 5, .go 2, .x 2, .n 3, .n 4, .r 5, .go 6, .x 6, .r 3, .r 4, .n 7, .n 8, .n 9, .n 10, .go 11, .x 11, .fin]) .e .e) .e)⟩
theorem fn388 : FnOk Tryz.prog 388 F388 := FnOk.of Tryz.func388 rfl (by kernel_rfl) rfl rfl
theorem pl388 : codeOk planOk F388.plans F388.code = true := by kernel_rfl
noncomputable def F389 : FnI := ⟨bodyOf Tryz.f389, 80, [], (.n none (.n none (.n none (.n (some [.n 0, .n 1, .n 2, .n 3, .n 4, .n 5, .n 6, .n 7, .n 8, .n 9, .n 10, .n 11, .n 12, .n 13, .n 14, .n 15, .n 16, .n 17, .n 18, .g 23, .go 19, .x 19, .n 20, .n 21, .n 22, .g 23, .go 24, .b 23, .x 24, .r 22, .go 25, .x 25, .fin]) .e .e) .e) (.n (some [.n 0, .n 1, .n 2, .n 3, .n 4, .n 5, .n 6, .n 7, .n 8, .n 9, .g 14, .go 10, .x 10, .n 11, .n 12, .n 13, .g 14, .go 15, .b 14, .x 15, .r 13, .go 16, .x 16, .fin]) .e .e)) (.n none (.n none .e .e) (.n none .e .e)))⟩
theorem fn389 : FnOk Tryz.prog 389 F389 := FnOk.of Tryz.func389 rfl (by kernel_rfl) rfl rfl
theorem pl389 : codeOk planOk F389.plans F389.code = true := by kernel_rfl
noncomputable def F390 : FnI := ⟨bodyOf Tryz.f390, 104, [], (.n none (.n none (.n none (.n none .e .e) (.n (some [.n 0, .n 1, .n 2, .n 3, .n 4, .n 5, .n 6, .n 7, .n 8, .n 9, .n 10, .n 11, .n 12, .n 13, .n 14, .n 15, .n 16, .n 17, .n 18, .n 19, .n 20, .n 21, .n 22, .n 23, .n 24, .go 25, .x 25, .n 26, .n 27, .fin]) .e .e)) (.n none (.n none .e .e) .e)) (.n none (.n (some [.n 0, .n 1, .n 2, .n 3, .n 4, .n 5, .n 6, .n 7, .n 8, .g 13, .go 9, .x 9, .n 10, .n 11, .n 12, .g 13, .go 14, .b 13, .x 14, .r 12, .go 15, .x 15, .fin]) (.n none .e .e) (.n (some [.n 0, .n 1, .n 2, .n 3, .n 4, .n 5, .n 6, .n 7, .n 8, .n 9, .n 10, .n 11, .n 12, .n 13, .go 14, .x 14, .r 11, .r 12, .n 15, .n 16, .go 17, .x 17, .fin]) .e .e)) (.n (some [.n 0, .n 1, .n 2, .n 3, .n 4, .n 5, .n 6, .n 7, .go 8, .x 8, .fin]) (.n none .e .e) .e)))⟩
theorem fn390 : FnOk Tryz.prog 390 F390 := FnOk.of Tryz.func390 rfl (by kernel_rfl) rfl rfl
theorem pl390 : codeOk planOk F390.plans F390.code = true := by kernel_rfl
noncomputable def F391 : FnI := ⟨bodyOf Tryz.f391, 81, [], (.n none (.n none (.n none (.n (some [.n 0, .n 1, .n 2, .n 3, .n 4, .n 5, .n 6, .n 7, .n 8, .n 9, .n 10, .n 11, .n 12, .n 13, .n 14, .n 15, .g 20, .go 16, .x 16, .n 17, .n 18, .n 19, .g 20, .go 21, .b 20, .x 21, .r 19, .go 22, .x 22, .fin]) .e .e) .e) (.n none (.n none .e .e) .e)) (.n none (.n none (.n none .e .e) .e) (.n none (.n (some [.n 0, .n 1, .n 2, .n 3, .n 4, .n 5, .n 6, .n 7, .go 8, .x 8, .fin]) .e .e) .e)))⟩
theorem fn391 : FnOk Tryz.prog 391 F391 := FnOk.of Tryz.func391 rfl (by kernel_rfl) rfl rfl
theorem pl391 : codeOk planOk F391.plans F391.code = true := by kernel_rfl
noncomputable def F392 : FnI := ⟨bodyOf Tryz.f392, 58, [], .e⟩
theorem fn392 : FnOk Tryz.prog 392 F392 := FnOk.of Tryz.func392 rfl (by kernel_rfl) rfl rfl
theorem pl392 : codeOk planOk F392.plans F392.code = true := by kernel_rfl
noncomputable def F393 : FnI := ⟨bodyOf Tryz.f393, 84, [.cell 6 69, .tmp 7], .e⟩
theorem fn393 : FnOk Tryz.prog 393 F393 := FnOk.of Tryz.func393 rfl (by kernel_rfl) rfl rfl
theorem pl393 : codeOk planOk F393.plans F393.code = true := by kernel_rfl
noncomputable def F394 : FnI := ⟨bodyOf Tryz.f394, 27, [.tmp 4], .e⟩
theorem fn394 : FnOk Tryz.prog 394 F394 := FnOk.of Tryz.func394 rfl (by kernel_rfl) rfl rfl
theorem pl394 : codeOk planOk F394.plans F394.code = true := by kernel_rfl
noncomputable def F395 : FnI := ⟨bodyOf Tryz.f395, 56, [.cell 4 227, .tmp 5], (.n none (.n none (.n none (.n (some [.n 0, .n 1, .n 2, .n 3, .n 4, .n 5, .n 6, .n 7, .n 8, .n 9, .n 10, .n 11, .go 12, .x 12, .fin]) .e .e) .e) (.n none .e .e)) (.n none (.n none .e .e) (.n (some [.n 0, .n 1, .n 2, .n 3, .n 4, .n 5, .n 6, .n 7, .n 8, .n 9, .n 10, .n 11, .go 12, .x 12, .fin]) .e .e)))⟩
theorem fn395 : FnOk Tryz.prog 395 F395 := FnOk.of Tryz.func395 rfl (by kernel_rfl) rfl rfl
theorem pl395 : codeOk planOk F395.plans F395.code = true := by kernel_rfl
noncomputable def F396 : FnI := ⟨bodyOf Tryz.f396, 44, [.cell 4 69, .tmp 5], (.n none (.n none (.n none (.n none .e .e) .e) (.n none (.n (some [.n 0, .n 1, .n 2, .n 3, .n 4, .n 5, .n 6, .n 7, .n 8, .n 9, .n 10, .n 11, .n 12, .go 13, .x 13, .go 14, .x 14, .fin]) .e .e) .e)) (.n none (.n none (.n none .e .e) .e) (.n none .e .e)))⟩
theorem fn396 : FnOk Tryz.prog 396 F396 := FnOk.of Tryz.func396 rfl (by kernel_rfl) rfl rfl
theorem pl396 : codeOk planOk F396.plans F396.code = true := by kernel_rfl
noncomputable def F397 : FnI := ⟨bodyOf Tryz.f397, 64, [.cell 8 385, .tmp 9], (.n none (.n none (.n none (.n none .e .e) .e) (.n none .e .e)) (.n none (.n none (.n (some [.n 0, .n 1, .n 2, .n 3, .n 5, .n 6, .go 4, .x 4, .r 5, .r 6, .go 7, .x 7, .n 8, .go 9, .x 9, .fin]) .e .e) .e) (.n none .e .e)))⟩
theorem fn397 : FnOk Tryz.prog 397 F397 := FnOk.of Tryz.func397 rfl (by kernel_rfl) rfl rfl
theorem pl397 : codeOk planOk F397.plans F397.code = true := by kernel_rfl
noncomputable def F398 : FnI := ⟨bodyOf Tryz.f398, 38, [], (.n none (.n none (.n (some [.n 0, .n 1, .n 2, .n 3, .n 4, .n 5, .n 6, .n 7, .n 8, .n 9, .n 10, .n 11, .n 12, .n 13, .n 14, .n 15, .n 16, .n 17, .n 18, .n 19, .n 20, .go 21, .x 21, .r 4, .r 5, .r 6, .r 7, .n 22, .go 23, .x 23, .fin]) .e .e) .e) (.n none .e .e))⟩
theorem fn398 : FnOk Tryz.prog 398 F398 := FnOk.of Tryz.func398 rfl (by kernel_rfl) rfl rfl
theorem pl398 : codeOk planOk F398.plans F398.code = true := by kernel_rfl
noncomputable def F399 : FnI := ⟨bodyOf Tryz.f399, 27, [.tmp 6], .e⟩
theorem fn399 : FnOk Tryz.prog 399 F399 := FnOk.of Tryz.func399 rfl (by kernel_rfl) rfl rfl
theorem pl399 : codeOk planOk F399.plans F399.code = true := by kernel_rfl
noncomputable def F400 : FnI := ⟨bodyOf Tryz.f400, 16, [.cell 4 69], .e⟩
theorem fn400 : FnOk Tryz.prog 400 F400 := FnOk.of Tryz.func400 rfl (by kernel_rfl) rfl rfl
theorem pl400 : codeOk planOk F400.plans F400.code = true := by kernel_rfl
noncomputable def F401 : FnI := ⟨bodyOf Tryz.f401, 16, [.tmp 4], .e⟩
theorem fn401 : FnOk Tryz.prog 401 F401 := FnOk.of Tryz.func401 rfl (by kernel_rfl) rfl rfl
theorem pl401 : codeOk planOk F401.plans F401.code = true := by kernel_rfl
noncomputable def F402 : FnI := ⟨bodyOf Tryz.f402, 113, [.cell 8 69], (.n none (.n none (.n none (.n none .e .e) .e) (.n none (.n none .e .e) .e)) (.n none (.n none (.n none .e .e) .e) (.n none (.n (some [.n 0, .n 1, .n 2, .n 3, .n 4, .n 5, .n 6, .n 7, .n 8, .n 9, .n 10, .n 11, .n 12, .n 13, .n 14, .n 15, .n 16, .go 17, .x 17, .r 1, .r 13, .n 18, .n 19, .n 20, .go 21, .x 21, .fin]) .e .e) .e)))⟩
theorem fn402 : FnOk Tryz.prog 402 F402 := FnOk.of Tryz.func402 rfl (by kernel_rfl) rfl rfl
theorem pl402 : codeOk planOk F402.plans F402.code = true := by kernel_rfl
noncomputable def F403 : FnI := ⟨bodyOf Tryz.f403, 8, [.tmp 2, .tmp 3], .e⟩
theorem fn403 : FnOk Tryz.prog 403 F403 := FnOk.of Tryz.func403 rfl (by kernel_rfl) rfl rfl
theorem pl403 : codeOk planOk F403.plans F403.code = true := by kernel_rfl
noncomputable def F404 : FnI := ⟨bodyOf Tryz.f404, 14, [.tmp 4, .tmp 5], .e⟩
theorem fn404 : FnOk Tryz.prog 404 F404 := FnOk.of Tryz.func404 rfl (by kernel_rfl) rfl rfl
theorem pl404 : codeOk planOk F404.plans F404.code = true := by kernel_rfl
noncomputable def F405 : FnI := ⟨bodyOf Tryz.f405, 28, [.tmp 2], (.n none (.n (some [.n 0, .n 1, .n 2, .n 3, .n 4, .n 5, .n 6, .n 7, .n 8, .n 9, .n 10, .n 11, .n 14, .n 15, .n 16, .n 17, .n 18, .n 19, .n 20, .n 21, .go 12, .x 12, .r 0, .r 1, .r 2, .r 3, .n 13, .r 14, .r 15, .r 16, .r 17, .r 18, .r 19, .r 20, .r 21, .go 22, .x 22, .r 0, .r 1, .r 2, .r 3, .r 13, .n 23, .n 24, .go 25, .x 25, .fin]) .e .e) .e)⟩
theorem fn405 : FnOk Tryz.prog 405 F405 := FnOk.of Tryz.func405 rfl (by kernel_rfl) rfl rfl
theorem pl405 : codeOk planOk F405.plans F405.code = true := by kernel_rfl
noncomputable def F406 : FnI := ⟨bodyOf Tryz.f406, 15, [.cell 6 89, .tmp 7], (.n none (.n none .e .e) (.n (some [.n 0, .n 1, .n 2, .n 3, .go 4, .x 4, .r 0, .r 1, .go 5, .x 5, .go 6, .x 6, .fin]) .e .e))⟩
theorem fn406 : FnOk Tryz.prog 406 F406 := FnOk.of Tryz.func406 rfl (by kernel_rfl) rfl rfl
theorem pl406 : codeOk planOk F406.plans F406.code = true := by kernel_rfl
noncomputable def F407 : FnI := ⟨bodyOf Tryz.f407, 23, [.cell 6 89, .tmp 7], (.n none (.n none (.n none .e .e) .e) (.n none (.n (some [.n 0, .n 1, .n 2, .n 3, .go 4, .x 4, .r 0, .r 1, .go 5, .x 5, .go 6, .x 6, .fin]) .e .e) .e))⟩
theorem fn407 : FnOk Tryz.prog 407 F407 := FnOk.of Tryz.func407 rfl (by kernel_rfl) rfl rfl
theorem pl407 : codeOk planOk F407.plans F407.code = true := by kernel_rfl
noncomputable def F409 : FnI := ⟨bodyOf Tryz.f409, 16, [.tmp 6], (.n none (.n (some [.n 0, .n 1, .n 2, .n 3, .n 4, .n 5, .n 6, .n 7, .go 8, .x 8, .go 9, .x 9, .fin]) .e .e) .e)⟩
theorem fn409 : FnOk Tryz.prog 409 F409 := FnOk.of Tryz.func409 rfl (by kernel_rfl) rfl rfl
theorem pl409 : codeOk planOk F409.plans F409.code = true := by kernel_rfl
noncomputable def F410 : FnI := ⟨bodyOf Tryz.f410, 40, [.tmp 8], (.n none (.n none (.n none .e .e) .e) (.n none (.n (some [.n 0, .n 1, .n 2, .n 3, .n 4, .n 5, .n 6, .n 7, .n 8, .n 9, .n 10, .go 11, .x 11, .r 0, .r 1, .r 2, .r 3, .r 4, .go 12, .x 12, .r 0, .n 13, .n 14, .go 15, .x 15, .fin]) .e .e) .e))⟩
theorem fn410 : FnOk Tryz.prog 410 F410 := FnOk.of Tryz.func410 rfl (by kernel_rfl) rfl rfl
theorem pl410 : codeOk planOk F410.plans F410.code = true := by kernel_rfl
noncomputable def F411 : FnI := ⟨bodyOf Tryz.f411, 7, [.tmp 2], .e⟩
theorem fn411 : FnOk Tryz.prog 411 F411 := FnOk.of Tryz.func411 rfl (by kernel_rfl) rfl rfl
theorem pl411 : codeOk planOk F411.plans F411.code = true := by kernel_rfl
noncomputable def F412 : FnI := ⟨bodyOf Tryz.f412, 131, [.tmp 6], (.n none (.n none (.n (some [.n 0, .n 1, .n 2, .n 3, .n 4, .n 5, .n 6, .n 7, .n 8, .n 9, .n 10, .n 11, .go 12, .x 12, .r 0, .r 1, .r 2, .r 3, .r 4, .r 5, .r 6, .r 7, .r 8, .r 9, .r 10, .r 11, .go 13, .x 13, .r 11, .go 14, .x 14, .fin]) (.n none (.n (some [.n 0, .n 1, .n 2, .n 3, .n 4, .n 5, .n 6, .n 7, .go 8, .x 8, .fin]) .e .e) .e) (.n none (.n (some [.n 0, .n 1, .n 2, .n 3, .n 4, .n 5, .go 6, .x 6, .r 0, .r 1, .r 2, .r 3, .r 4, .go 7, .x 7, .r 0, .n 8, .n 9, .go 10, .x 10, .fin]) .e .e) .e)) (.n none (.n none (.n (some [.n 0, .n 1, .n 2, .n 3, .n 4, .n 5, .n 6, .n 7, .n 8, .n 10, .g 12, .go 9, .x 9, .r 0, .r 1, .r 2, .r 3, .r 4, .r 5, .r 10, .n 11, .g 12, .go 13, .b 12, .x 13, .fin]) .e .e) .e) (.n (some [.n 0, .n 1, .n 2, .n 3, .n 4, .n 5, .n 6, .n 7, .n 8, .n 9, .n 10, .n 11, .fin]) .e .e))) (.n none (.n none (.n none (.n (some [.n 0, .n 1, .n 2, .n 3, .n 4, .n 5, .n 6, .n 7, .go 8, .x 8, .n 9, .n 10, .n 11, .go 12, .x 12, .r 11, .go 13, .x 13, .fin]) .e .e) .e) (.n none .e .e)) (.n none (.n none (.n none .e .e) .e) (.n none .e .e))))⟩
theorem fn412 : FnOk Tryz.prog 412 F412 := FnOk.of Tryz.func412 rfl (by kernel_rfl) rfl rfl
theorem pl412 : codeOk planOk F412.plans F412.code = true := by kernel_rfl
noncomputable def F413 : FnI := ⟨bodyOf Tryz.f413, 47, [.tmp 4], (.n none (.n none (.n none .e .e) (.n none .e .e)) (.n none (.n none .e .e) (.n (some [.n 0, .n 1, .n 2, .n 3, .n 4, .n 5, .n 6, .n 7, .fin]) .e .e)))⟩
theorem fn413 : FnOk Tryz.prog 413 F413 := FnOk.of Tryz.func413 rfl (by kernel_rfl) rfl rfl
theorem pl413 : codeOk planOk F413.plans F413.code = true := by kernel_rfl
noncomputable def F414 : FnI := ⟨bodyOf Tryz.f414, 30, [.tmp 6], (.n none (.n (some [.n 0, .n 1, .n 2, .n 3, .n 4, .g 9, .go 5, .x 5, .n 6, .n 7, .n 8, .g 9, .go 10, .b 9, .x 10, .r 8, .go 11, .x 11, .fin]) .e .e) .e)⟩
theorem fn414 : FnOk Tryz.prog 414 F414 := FnOk.of Tryz.func414 rfl (by kernel_rfl) rfl rfl
theorem pl414 : codeOk planOk F414.plans F414.code = true := by kernel_rfl
noncomputable def F415 : FnI := ⟨bodyOf Tryz.f415, 111, [.cell 4 28, .tmp 5], .e⟩
theorem fn415 : FnOk Tryz.prog 415 F415 := FnOk.of Tryz.func415 rfl (by kernel_rfl) rfl rfl
theorem pl415 : codeOk planOk F415.plans F415.code = true := by kernel_rfl
noncomputable def F438 : FnI := ⟨bodyOf Tryz.f438, 6, [], .e⟩
theorem fn438 : FnOk Tryz.prog 438 F438 := FnOk.of Tryz.func438 rfl (by kernel_rfl) rfl rfl
theorem pl438 : codeOk planOk F438.plans F438.code = true := by kernel_rfl
noncomputable def CF : Tr FnI := (.n none (.n none (.n (some F3) (.n (some F7) (.n (some F15) (.n (some F31) (.n (some F63) (.n (some F127) (.n (some F255) .e .e) (.n (some F383) .e .e)) (.n (some F191) (.n none .e .e) .e)) (.n (some F95) (.n (some F159) (.n (some F287) .e .e) (.n (some F415) .e .e)) (.n none (.n (some F351) .e .e) .e))) (.n (some F47) (.n (some F79) (.n (some F143) (.n (some F271) .e .e) (.n (some F399) .e .e)) (.n (some F207) (.n (some F335) .e .e) .e)) (.n (some F111) (.n (some F175) (.n (some F303) .e .e) (.n none .e .e)) (.n (some F239) (.n (some F367) .e .e) .e)))) (.n (some F23) (.n (some F39) (.n (some F71) (.n (some F135) (.n (some F263) .e .e) (.n (some F391) .e .e)) (.n (some F199) (.n (some F327) .e .e) .e)) (.n (some F103) (.n (some F167) (.n (some F295) .e .e) (.n none .e .e)) (.n (some F231) (.n (some F359) .e .e) .e))) (.n (some F55) (.n (some F87) (.n (some F151) (.n (some F279) .e .e) (.n (some F407) .e .e)) (.n (some F215) (.n (some F343) .e .e) .e)) (.n (some F119) (.n (some F183) (.n none .e .e) .e) (.n (some F247) (.n (some F375) .e .e) .e))))) (.n (some F11) (.n (some F19) (.n (some F35) (.n (some F67) (.n (some F131) (.n (some F259) .e .e) (.n (some F387) .e .e)) (.n (some F195) (.n (some F323) .e .e) .e)) (.n (some F99) (.n none (.n (some F291) .e .e) (.n none .e .e)) (.n (some F227) (.n (some F355) .e .e) .e))) (.n (some F51) (.n (some F83) (.n (some F147) (.n (some F275) .e .e) (.n (some F403) .e .e)) (.n (some F211) (.n (some F339) .e .e) .e)) (.n (some F115) (.n (some F179) (.n none .e .e) (.n none .e .e)) (.n (some F243) (.n (some F371) .e .e) .e)))) (.n (some F27) (.n (some F43) (.n (some F75) (.n (some F139) (.n (some F267) .e .e) (.n (some F395) .e .e)) (.n (some F203) (.n (some F331) .e .e) .e)) (.n (some F107) (.n (some F171) (.n (some F299) .e .e) (.n none .e .e)) (.n (some F235) (.n (some F363) .e .e) .e))) (.n (some F59) (.n (some F91) (.n (some F155) (.n (some F283) .e .e) (.n (some F411) .e .e)) (.n (some F219) (.n (some F347) .e .e) .e)) (.n (some F123) (.n (some F187) (.n none .e .e) .e) (.n (some F251) (.n (some F379) .e .e) .e)))))) (.n (some F5) (.n (some F9) (.n (some F17) (.n (some F33) (.n (some F65) (.n (some F129) (.n (some F257) .e .e) (.n (some F385) .e .e)) (.n (some F193) (.n none .e .e) .e)) (.n (some F97) (.n (some F161) (.n (some F289) .e .e) (.n none .e .e)) (.n (some F225) (.n (some F353) .e .e) .e))) (.n (some F49) (.n (some F81) (.n (some F145) (.n (some F273) .e .e) (.n (some F401) .e .e)) (.n (some F209) (.n (some F337) .e .e) .e)) (.n (some F113) (.n (some F177) (.n none .e .e) (.n none .e .e)) (.n (some F241) (.n (some F369) .e .e) .e)))) (.n (some F25) (.n (some F41) (.n (some F73) (.n (some F137) (.n (some F265) .e .e) (.n (some F393) .e .e)) (.n (some F201) (.n (some F329) .e .e) .e)) (.n (some F105) (.n (some F169) (.n (some F297) .e .e) (.n none .e .e)) (.n (some F233) (.n (some F361) .e .e) .e))) (.n (some F57) (.n (some F89) (.n (some F153) (.n (some F281) .e .e) (.n (some F409) .e .e)) (.n (some F217) (.n (some F345) .e .e) .e)) (.n (some F121) (.n (some F185) (.n none .e .e) .e) (.n (some F249) (.n (some F377) .e .e) .e))))) (.n (some F13) (.n (some F21) (.n (some F37) (.n (some F69) (.n (some F133) (.n (some F261) .e .e) (.n (some F389) .e .e)) (.n (some F197) (.n (some F325) .e .e) .e)) (.n (some F101) (.n none (.n (some F293) .e .e) (.n none .e .e)) (.n (some F229) (.n (some F357) .e .e) .e))) (.n (some F53) (.n (some F85) (.n (some F149) (.n (some F277) .e .e) (.n (some F405) .e .e)) (.n (some F213) (.n (some F341) .e .e) .e)) (.n (some F117) (.n (some F181) (.n none .e .e) (.n none .e .e)) (.n (some F245) (.n (some F373) .e .e) .e)))) (.n (some F29) (.n (some F45) (.n (some F77) (.n (some F141) (.n (some F269) .e .e) (.n (some F397) .e .e)) (.n (some F205) (.n (some F333) .e .e) .e)) (.n (some F109) (.n (some F173) (.n (some F301) .e .e) (.n none .e .e)) (.n (some F237) (.n (some F365) .e .e) .e))) (.n (some F61) (.n (some F93) (.n (some F157) (.n (some F285) .e .e) (.n (some F413) .e .e)) (.n (some F221) (.n (some F349) .e .e) .e)) (.n (some F125) (.n (some F189) (.n none .e .e) .e) (.n (some F253) (.n (some F381) .e .e) .e))))))) (.n (some F2) (.n (some F4) (.n (some F8) (.n (some F16) (.n (some F32) (.n (some F64) (.n (some F128) (.n (some F256) .e .e) (.n (some F384) .e .e)) (.n (some F192) (.n none .e .e) .e)) (.n (some F96) (.n (some F160) (.n (some F288) .e .e) (.n none .e .e)) (.n none (.n (some F352) .e .e) .e))) (.n (some F48) (.n (some F80) (.n (some F144) (.n (some F272) .e .e) (.n (some F400) .e .e)) (.n (some F208) (.n (some F336) .e .e) .e)) (.n (some F112) (.n (some F176) (.n (some F304) .e .e) (.n none .e .e)) (.n (some F240) (.n (some F368) .e .e) .e)))) (.n (some F24) (.n (some F40) (.n (some F72) (.n (some F136) (.n (some F264) .e .e) (.n (some F392) .e .e)) (.n (some F200) (.n (some F328) .e .e) .e)) (.n (some F104) (.n (some F168) (.n (some F296) .e .e) (.n none .e .e)) (.n none (.n (some F360) .e .e) .e))) (.n (some F56) (.n (some F88) (.n (some F152) (.n (some F280) .e .e) (.n none .e .e)) (.n (some F216) (.n (some F344) .e .e) .e)) (.n (some F120) (.n (some F184) (.n none .e .e) .e) (.n (some F248) (.n (some F376) .e .e) .e))))) (.n (some F12) (.n (some F20) (.n (some F36) (.n (some F68) (.n (some F132) (.n (some F260) .e .e) (.n (some F388) .e .e)) (.n (some F196) (.n none .e .e) .e)) (.n (some F100) (.n none (.n (some F292) .e .e) (.n none .e .e)) (.n (some F228) (.n (some F356) .e .e) .e))) (.n (some F52) (.n (some F84) (.n (some F148) (.n (some F276) .e .e) (.n (some F404) .e .e)) (.n (some F212) (.n (some F340) .e .e) .e)) (.n (some F116) (.n (some F180) (.n none .e .e) (.n none .e .e)) (.n (some F244) (.n (some F372) .e .e) .e)))) (.n (some F28) (.n (some F44) (.n (some F76) (.n (some F140) (.n (some F268) .e .e) (.n (some F396) .e .e)) (.n (some F204) (.n (some F332) .e .e) .e)) (.n (some F108) (.n (some F172) (.n (some F300) .e .e) (.n none .e .e)) (.n (some F236) (.n (some F364) .e .e) .e))) (.n (some F60) (.n (some F92) (.n (some F156) (.n (some F284) .e .e) (.n (some F412) .e .e)) (.n (some F220) (.n (some F348) .e .e) .e)) (.n (some F124) (.n (some F188) (.n none .e .e) .e) (.n (some F252) (.n (some F380) .e .e) .e)))))) (.n (some F6) (.n (some F10) (.n (some F18) (.n (some F34) (.n (some F66) (.n (some F130) (.n (some F258) .e .e) (.n (some F386) .e .e)) (.n (some F194) (.n (some F322) .e .e) .e)) (.n (some F98) (.n (some F162) (.n (some F290) .e .e) (.n none .e .e)) (.n (some F226) (.n (some F354) .e .e) .e))) (.n (some F50) (.n (some F82) (.n (some F146) (.n (some F274) .e .e) (.n (some F402) .e .e)) (.n (some F210) (.n (some F338) .e .e) .e)) (.n (some F114) (.n (some F178) (.n none .e .e) (.n none .e .e)) (.n (some F242) (.n (some F370) .e .e) .e)))) (.n (some F26) (.n (some F42) (.n (some F74) (.n (some F138) (.n (some F266) .e .e) (.n (some F394) .e .e)) (.n (some F202) (.n (some F330) .e .e) .e)) (.n (some F106) (.n (some F170) (.n (some F298) .e .e) (.n none .e .e)) (.n (some F234) (.n (some F362) .e .e) .e))) (.n (some F58) (.n (some F90) (.n (some F154) (.n (some F282) .e .e) (.n (some F410) .e .e)) (.n (some F218) (.n (some F346) .e .e) .e)) (.n (some F122) (.n (some F186) (.n none .e .e) .e) (.n (some F250) (.n (some F378) .e .e) .e))))) (.n (some F14) (.n (some F22) (.n (some F38) (.n (some F70) (.n (some F134) (.n (some F262) .e .e) (.n (some F390) .e .e)) (.n (some F198) (.n (some F326) .e .e) .e)) (.n (some F102) (.n (some F166) (.n (some F294) .e .e) (.n none .e .e)) (.n (some F230) (.n (some F358) .e .e) .e))) (.n (some F54) (.n (some F86) (.n (some F150) (.n (some F278) .e .e) (.n (some F406) .e .e)) (.n (some F214) (.n (some F342) .e .e) .e)) (.n (some F118) (.n (some F182) (.n none .e .e) (.n (some F438) .e .e)) (.n (some F246) (.n (some F374) .e .e) .e)))) (.n (some F30) (.n (some F46) (.n (some F78) (.n (some F142) (.n (some F270) .e .e) (.n (some F398) .e .e)) (.n (some F206) (.n (some F334) .e .e) .e)) (.n (some F110) (.n (some F174) (.n (some F302) .e .e) (.n none .e .e)) (.n (some F238) (.n (some F366) .e .e) .e))) (.n (some F62) (.n (some F94) (.n (some F158) (.n (some F286) .e .e) (.n (some F414) .e .e)) (.n none (.n (some F350) .e .e) .e)) (.n (some F126) (.n (some F190) (.n none .e .e) .e) (.n (some F254) (.n (some F382) .e .e) .e))))))))
theorem okF : CF.All (FnOk Tryz.prog) := (.intro trivial (.intro (.intro trivial (.intro (.intro fn3 (.intro (.intro fn7 (.intro (.intro fn15 (.intro (.intro fn31 (.intro (.intro fn63 (.intro (.intro fn127 (.intro (.intro fn255 (.intro trivial trivial)) (.intro fn383 (.intro trivial trivial)))) (.intro fn191 (.intro (.intro trivial (.intro trivial trivial)) trivial)))) (.intro fn95 (.intro (.intro fn159 (.intro (.intro fn287 (.intro trivial trivial)) (.intro fn415 (.intro trivial trivial)))) (.intro trivial (.intro (.intro fn351 (.intro trivial trivial)) trivial)))))) (.intro fn47 (.intro (.intro fn79 (.intro (.intro fn143 (.intro (.intro fn271 (.intro trivial trivial)) (.intro fn399 (.intro trivial trivial)))) (.intro fn207 (.intro (.intro fn335 (.intro trivial trivial)) trivial)))) (.intro fn111 (.intro (.intro fn175 (.intro (.intro fn303 (.intro trivial trivial)) (.intro trivial (.intro trivial trivial)))) (.intro fn239 (.intro (.intro fn367 (.intro trivial trivial)) trivial)))))))) (.intro fn23 (.intro (.intro fn39 (.intro (.intro fn71 (.intro (.intro fn135 (.intro (.intro fn263 (.intro trivial trivial)) (.intro fn391 (.intro trivial trivial)))) (.intro fn199 (.intro (.intro fn327 (.intro trivial trivial)) trivial)))) (.intro fn103 (.intro (.intro fn167 (.intro (.intro fn295 (.intro trivial trivial)) (.intro trivial (.intro trivial trivial)))) (.intro fn231 (.intro (.intro fn359 (.intro trivial trivial)) trivial)))))) (.intro fn55 (.intro (.intro fn87 (.intro (.intro fn151 (.intro (.intro fn279 (.intro trivial trivial)) (.intro fn407 (.intro trivial trivial)))) (.intro fn215 (.intro (.intro fn343 (.intro trivial trivial)) trivial)))) (.intro fn119 (.intro (.intro fn183 (.intro (.intro trivial (.intro trivial trivial)) trivial)) (.intro fn247 (.intro (.intro fn375 (.intro trivial trivial)) trivial)))))))))) (.intro fn11 (.intro (.intro fn19 (.intro (.intro fn35 (.intro (.intro fn67 (.intro (.intro fn131 (.intro (.intro fn259 (.intro trivial trivial)) (.intro fn387 (.intro trivial trivial)))) (.intro fn195 (.intro (.intro fn323 (.intro trivial trivial)) trivial)))) (.intro fn99 (.intro (.intro trivial (.intro (.intro fn291 (.intro trivial trivial)) (.intro trivial (.intro trivial trivial)))) (.intro fn227 (.intro (.intro fn355 (.intro trivial trivial)) trivial)))))) (.intro fn51 (.intro (.intro fn83 (.intro (.intro fn147 (.intro (.intro fn275 (.intro trivial trivial)) (.intro fn403 (.intro trivial trivial)))) (.intro fn211 (.intro (.intro fn339 (.intro trivial trivial)) trivial)))) (.intro fn115 (.intro (.intro fn179 (.intro (.intro trivial (.intro trivial trivial)) (.intro trivial (.intro trivial trivial)))) (.intro fn243 (.intro (.intro fn371 (.intro trivial trivial)) trivial)))))))) (.intro fn27 (.intro (.intro fn43 (.intro (.intro fn75 (.intro (.intro fn139 (.intro (.intro fn267 (.intro trivial trivial)) (.intro fn395 (.intro trivial trivial)))) (.intro fn203 (.intro (.intro fn331 (.intro trivial trivial)) trivial)))) (.intro fn107 (.intro (.intro fn171 (.intro (.intro fn299 (.intro trivial trivial)) (.intro trivial (.intro trivial trivial)))) (.intro fn235 (.intro (.intro fn363 (.intro trivial trivial)) trivial)))))) (.intro fn59 (.intro (.intro fn91 (.intro (.intro fn155 (.intro (.intro fn283 (.intro trivial trivial)) (.intro fn411 (.intro trivial trivial)))) (.intro fn219 (.intro (.intro fn347 (.intro trivial trivial)) trivial)))) (.intro fn123 (.intro (.intro fn187 (.intro (.intro trivial (.intro trivial trivial)) trivial)) (.intro fn251 (.intro (.intro fn379 (.intro trivial trivial)) trivial)))))))))))) (.intro fn5 (.intro (.intro fn9 (.intro (.intro fn17 (.intro (.intro fn33 (.intro (.intro fn65 (.intro (.intro fn129 (.intro (.intro fn257 (.intro trivial trivial)) (.intro fn385 (.intro trivial trivial)))) (.intro fn193 (.intro (.intro trivial (.intro trivial trivial)) trivial)))) (.intro fn97 (.intro (.intro fn161 (.intro (.intro fn289 (.intro trivial trivial)) (.intro trivial (.intro trivial trivial)))) (.intro fn225 (.intro (.intro fn353 (.intro trivial trivial)) trivial)))))) (.intro fn49 (.intro (.intro fn81 (.intro (.intro fn145 (.intro (.intro fn273 (.intro trivial trivial)) (.intro fn401 (.intro trivial trivial)))) (.intro fn209 (.intro (.intro fn337 (.intro trivial trivial)) trivial)))) (.intro fn113 (.intro (.intro fn177 (.intro (.intro trivial (.intro trivial trivial)) (.intro trivial (.intro trivial trivial)))) (.intro fn241 (.intro (.intro fn369 (.intro trivial trivial)) trivial)))))))) (.intro fn25 (.intro (.intro fn41 (.intro (.intro fn73 (.intro (.intro fn137 (.intro (.intro fn265 (.intro trivial trivial)) (.intro fn393 (.intro trivial trivial)))) (.intro fn201 (.intro (.intro fn329 (.intro trivial trivial)) trivial)))) (.intro fn105 (.intro (.intro fn169 (.intro (.intro fn297 (.intro trivial trivial)) (.intro trivial (.intro trivial trivial)))) (.intro fn233 (.intro (.intro fn361 (.intro trivial trivial)) trivial)))))) (.intro fn57 (.intro (.intro fn89 (.intro (.intro fn153 (.intro (.intro fn281 (.intro trivial trivial)) (.intro fn409 (.intro trivial trivial)))) (.intro fn217 (.intro (.intro fn345 (.intro trivial trivial)) trivial)))) (.intro fn121 (.intro (.intro fn185 (.intro (.intro trivial (.intro trivial trivial)) trivial)) (.intro fn249 (.intro (.intro fn377 (.intro trivial trivial)) trivial)))))))))) (.intro fn13 (.intro (.intro fn21 (.intro (.intro fn37 (.intro (.intro fn69 (.intro (.intro fn133 (.intro (.intro fn261 (.intro trivial trivial)) (.intro fn389 (.intro trivial trivial)))) (.intro fn197 (.intro (.intro fn325 (.intro trivial trivial)) trivial)))) (.intro fn101 (.intro (.intro trivial (.intro (.intro fn293 (.intro trivial trivial)) (.intro trivial (.intro trivial trivial)))) (.intro fn229 (.intro (.intro fn357 (.intro trivial trivial)) trivial)))))) (.intro fn53 (.intro (.intro fn85 (.intro (.intro fn149 (.intro (.intro fn277 (.intro trivial trivial)) (.intro fn405 (.intro trivial trivial)))) (.intro fn213 (.intro (.intro fn341 (.intro trivial trivial)) trivial)))) (.intro fn117 (.intro (.intro fn181 (.intro (.intro trivial (.intro trivial trivial)) (.intro trivial (.intro trivial trivial)))) (.intro fn245 (.intro (.intro fn373 (.intro trivial trivial)) trivial)))))))) (.intro fn29 (.intro (.intro fn45 (.intro (.intro fn77 (.intro (.intro fn141 (.intro (.intro fn269 (.intro trivial trivial)) (.intro fn397 (.intro trivial trivial)))) (.intro fn205 (.intro (.intro fn333 (.intro trivial trivial)) trivial)))) (.intro fn109 (.intro (.intro fn173 (.intro (.intro fn301 (.intro trivial trivial)) (.intro trivial (.intro trivial trivial)))) (.intro fn237 (.intro (.intro fn365 (.intro trivial trivial)) trivial)))))) (.intro fn61 (.intro (.intro fn93 (.intro (.intro fn157 (.intro (.intro fn285 (.intro trivial trivial)) (.intro fn413 (.intro trivial trivial)))) (.intro fn221 (.intro (.intro fn349 (.intro trivial trivial)) trivial)))) (.intro fn125 (.intro (.intro fn189 (.intro (.intro trivial (.intro trivial trivial)) trivial)) (.intro fn253 (.intro (.intro fn381 (.intro trivial trivial)) trivial)))))))))))))) (.intro fn2 (.intro (.intro fn4 (.intro (.intro fn8 (.intro (.intro fn16 (.intro (.intro fn32 (.intro (.intro fn64 (.intro (.intro fn128 (.intro (.intro fn256 (.intro trivial trivial)) (.intro fn384 (.intro trivial trivial)))) (.intro fn192 (.intro (.intro trivial (.intro trivial trivial)) trivial)))) (.intro fn96 (.intro (.intro fn160 (.intro (.intro fn288 (.intro trivial trivial)) (.intro trivial (.intro trivial trivial)))) (.intro trivial (.intro (.intro fn352 (.intro trivial trivial)) trivial)))))) (.intro fn48 (.intro (.intro fn80 (.intro (.intro fn144 (.intro (.intro fn272 (.intro trivial trivial)) (.intro fn400 (.intro trivial trivial)))) (.intro fn208 (.intro (.intro fn336 (.intro trivial trivial)) trivial)))) (.intro fn112 (.intro (.intro fn176 (.intro (.intro fn304 (.intro trivial trivial)) (.intro trivial (.intro trivial trivial)))) (.intro fn240 (.intro (.intro fn368 (.intro trivial trivial)) trivial)))))))) (.intro fn24 (.intro (.intro fn40 (.intro (.intro fn72 (.intro (.intro fn136 (.intro (.intro fn264 (.intro trivial trivial)) (.intro fn392 (.intro trivial trivial)))) (.intro fn200 (.intro (.intro fn328 (.intro trivial trivial)) trivial)))) (.intro fn104 (.intro (.intro fn168 (.intro (.intro fn296 (.intro trivial trivial)) (.intro trivial (.intro trivial trivial)))) (.intro trivial (.intro (.intro fn360 (.intro trivial trivial)) trivial)))))) (.intro fn56 (.intro (.intro fn88 (.intro (.intro fn152 (.intro (.intro fn280 (.intro trivial trivial)) (.intro trivial (.intro trivial trivial)))) (.intro fn216 (.intro (.intro fn344 (.intro trivial trivial)) trivial)))) (.intro fn120 (.intro (.intro fn184 (.intro (.intro trivial (.intro trivial trivial)) trivial)) (.intro fn248 (.intro (.intro fn376 (.intro trivial trivial)) trivial)))))))))) (.intro fn12 (.intro (.intro fn20 (.intro (.intro fn36 (.intro (.intro fn68 (.intro (.intro fn132 (.intro (.intro fn260 (.intro trivial trivial)) (.intro fn388 (.intro trivial trivial)))) (.intro fn196 (.intro (.intro trivial (.intro trivial trivial)) trivial)))) (.intro fn100 (.intro (.intro trivial (.intro (.intro fn292 (.intro trivial trivial)) (.intro trivial (.intro trivial trivial)))) (.intro fn228 (.intro (.intro fn356 (.intro trivial trivial)) trivial)))))) (.intro fn52 (.intro (.intro fn84 (.intro (.intro fn148 (.intro (.intro fn276 (.intro trivial trivial)) (.intro fn404 (.intro trivial trivial)))) (.intro fn212 (.intro (.intro fn340 (.intro trivial trivial)) trivial)))) (.intro fn116 (.intro (.intro fn180 (.intro (.intro trivial (.intro trivial trivial)) (.intro trivial (.intro trivial trivial)))) (.intro fn244 (.intro (.intro fn372 (.intro trivial trivial)) trivial)))))))) (.intro fn28 (.intro (.intro fn44 (.intro (.intro fn76 (.intro (.intro fn140 (.intro (.intro fn268 (.intro trivial trivial)) (.intro fn396 (.intro trivial trivial)))) (.intro fn204 (.intro (.intro fn332 (.intro trivial trivial)) trivial)))) (.intro fn108 (.intro (.intro fn172 (.intro (.intro fn300 (.intro trivial trivial)) (.intro trivial (.intro trivial trivial)))) (.intro fn236 (.intro (.intro fn364 (.intro trivial trivial)) trivial)))))) (.intro fn60 (.intro (.intro fn92 (.intro (.intro fn156 (.intro (.intro fn284 (.intro trivial trivial)) (.intro fn412 (.intro trivial trivial)))) (.intro fn220 (.intro (.intro fn348 (.intro trivial trivial)) trivial)))) (.intro fn124 (.intro (.intro fn188 (.intro (.intro trivial (.intro trivial trivial)) trivial)) (.intro fn252 (.intro (.intro fn380 (.intro trivial trivial)) trivial)))))))))))) (.intro fn6 (.intro (.intro fn10 (.intro (.intro fn18 (.intro (.intro fn34 (.intro (.intro fn66 (.intro (.intro fn130 (.intro (.intro fn258 (.intro trivial trivial)) (.intro fn386 (.intro trivial trivial)))) (.intro fn194 (.intro (.intro fn322 (.intro trivial trivial)) trivial)))) (.intro fn98 (.intro (.intro fn162 (.intro (.intro fn290 (.intro trivial trivial)) (.intro trivial (.intro trivial trivial)))) (.intro fn226 (.intro (.intro fn354 (.intro trivial trivial)) trivial)))))) (.intro fn50 (.intro (.intro fn82 (.intro (.intro fn146 (.intro (.intro fn274 (.intro trivial trivial)) (.intro fn402 (.intro trivial trivial)))) (.intro fn210 (.intro (.intro fn338 (.intro trivial trivial)) trivial)))) (.intro fn114 (.intro (.intro fn178 (.intro (.intro trivial (.intro trivial trivial)) (.intro trivial (.intro trivial trivial)))) (.intro fn242 (.intro (.intro fn370 (.intro trivial trivial)) trivial)))))))) (.intro fn26 (.intro (.intro fn42 (.intro (.intro fn74 (.intro (.intro fn138 (.intro (.intro fn266 (.intro trivial trivial)) (.intro fn394 (.intro trivial trivial)))) (.intro fn202 (.intro (.intro fn330 (.intro trivial trivial)) trivial)))) (.intro fn106 (.intro (.intro fn170 (.intro (.intro fn298 (.intro trivial trivial)) (.intro trivial (.intro trivial trivial)))) (.intro fn234 (.intro (.intro fn362 (.intro trivial trivial)) trivial)))))) (.intro fn58 (.intro (.intro fn90 (.intro (.intro fn154 (.intro (.intro fn282 (.intro trivial trivial)) (.intro fn410 (.intro trivial trivial)))) (.intro fn218 (.intro (.intro fn346 (.intro trivial trivial)) trivial)))) (.intro fn122 (.intro (.intro fn186 (.intro (.intro trivial (.intro trivial trivial)) trivial)) (.intro fn250 (.intro (.intro fn378 (.intro trivial trivial)) trivial)))))))))) (.intro fn14 (.intro (.intro fn22 (.intro (.intro fn38 (.intro (.intro fn70 (.intro (.intro fn134 (.intro (.intro fn262 (.intro trivial trivial)) (.intro fn390 (.intro trivial trivial)))) (.intro fn198 (.intro (.intro fn326 (.intro trivial trivial)) trivial)))) (.intro fn102 (.intro (.intro fn166 (.intro (.intro fn294 (.intro trivial trivial)) (.intro trivial (.intro trivial trivial)))) (.intro fn230 (.intro (.intro fn358 (.intro trivial trivial)) trivial)))))) (.intro fn54 (.intro (.intro fn86 (.intro (.intro fn150 (.intro (.intro fn278 (.intro trivial trivial)) (.intro fn406 (.intro trivial trivial)))) (.intro fn214 (.intro (.intro fn342 (.intro trivial trivial)) trivial)))) (.intro fn118 (.intro (.intro fn182 (.intro (.intro trivial (.intro trivial trivial)) (.intro fn438 (.intro trivial trivial)))) (.intro fn246 (.intro (.intro fn374 (.intro trivial trivial)) trivial)))))))) (.intro fn30 (.intro (.intro fn46 (.intro (.intro fn78 (.intro (.intro fn142 (.intro (.intro fn270 (.intro trivial trivial)) (.intro fn398 (.intro trivial trivial)))) (.intro fn206 (.intro (.intro fn334 (.intro trivial trivial)) trivial)))) (.intro fn110 (.intro (.intro fn174 (.intro (.intro fn302 (.intro trivial trivial)) (.intro trivial (.intro trivial trivial)))) (.intro fn238 (.intro (.intro fn366 (.intro trivial trivial)) trivial)))))) (.intro fn62 (.intro (.intro fn94 (.intro (.intro fn158 (.intro (.intro fn286 (.intro trivial trivial)) (.intro fn414 (.intro trivial trivial)))) (.intro trivial (.intro (.intro fn350 (.intro trivial trivial)) trivial)))) (.intro fn126 (.intro (.intro fn190 (.intro (.intro trivial (.intro trivial trivial)) trivial)) (.intro fn254 (.intro (.intro fn382 (.intro trivial trivial)) trivial))))))))))))))))
theorem okP : CF.All (fun _ x => codeOk planOk x.plans x.code = true) := (.intro trivial (.intro (.intro trivial (.intro (.intro pl3 (.intro (.intro pl7 (.intro (.intro pl15 (.intro (.intro pl31 (.intro (.intro pl63 (.intro (.intro pl127 (.intro (.intro pl255 (.intro trivial trivial)) (.intro pl383 (.intro trivial trivial)))) (.intro pl191 (.intro (.intro trivial (.intro trivial trivial)) trivial)))) (.intro pl95 (.intro (.intro pl159 (.intro (.intro pl287 (.intro trivial trivial)) (.intro pl415 (.intro trivial trivial)))) (.intro trivial (.intro (.intro pl351 (.intro trivial trivial)) trivial)))))) (.intro pl47 (.intro (.intro pl79 (.intro (.intro pl143 (.intro (.intro pl271 (.intro trivial trivial)) (.intro pl399 (.intro trivial trivial)))) (.intro pl207 (.intro (.intro pl335 (.intro trivial trivial)) trivial)))) (.intro pl111 (.intro (.intro pl175 (.intro (.intro pl303 (.intro trivial trivial)) (.intro trivial (.intro trivial trivial)))) (.intro pl239 (.intro (.intro pl367 (.intro trivial trivial)) trivial)))))))) (.intro pl23 (.intro (.intro pl39 (.intro (.intro pl71 (.intro (.intro pl135 (.intro (.intro pl263 (.intro trivial trivial)) (.intro pl391 (.intro trivial trivial)))) (.intro pl199 (.intro (.intro pl327 (.intro trivial trivial)) trivial)))) (.intro pl103 (.intro (.intro pl167 (.intro (.intro pl295 (.intro trivial trivial)) (.intro trivial (.intro trivial trivial)))) (.intro pl231 (.intro (.intro pl359 (.intro trivial trivial)) trivial)))))) (.intro pl55 (.intro (.intro pl87 (.intro (.intro pl151 (.intro (.intro pl279 (.intro trivial trivial)) (.intro pl407 (.intro trivial trivial)))) (.intro pl215 (.intro (.intro pl343 (.intro trivial trivial)) trivial)))) (.intro pl119 (.intro (.intro pl183 (.intro (.intro trivial (.intro trivial trivial)) trivial)) (.intro pl247 (.intro (.intro pl375 (.intro trivial trivial)) trivial)))))))))) (.intro pl11 (.intro (.intro pl19 (.intro (.intro pl35 (.intro (.intro pl67 (.intro (.intro pl131 (.intro (.intro pl259 (.intro trivial trivial)) (.intro pl387 (.intro trivial trivial)))) (.intro pl195 (.intro (.intro pl323 (.intro trivial trivial)) trivial)))) (.intro pl99 (.intro (.intro trivial (.intro (.intro pl291 (.intro trivial trivial)) (.intro trivial (.intro trivial trivial)))) (.intro pl227 (.intro (.intro pl355 (.intro trivial trivial)) trivial)))))) (.intro pl51 (.intro (.intro pl83 (.intro (.intro pl147 (.intro (.intro pl275 (.intro trivial trivial)) (.intro pl403 (.intro trivial trivial)))) (.intro pl211 (.intro (.intro pl339 (.intro trivial trivial)) trivial)))) (.intro pl115 (.intro (.intro pl179 (.intro (.intro trivial (.intro trivial trivial)) (.intro trivial (.intro trivial trivial)))) (.intro pl243 (.intro (.intro pl371 (.intro trivial trivial)) trivial)))))))) (.intro pl27 (.intro (.intro pl43 (.intro (.intro pl75 (.intro (.intro pl139 (.intro (.intro pl267 (.intro trivial trivial)) (.intro pl395 (.intro trivial trivial)))) (.intro pl203 (.intro (.intro pl331 (.intro trivial trivial)) trivial)))) (.intro pl107 (.intro (.intro pl171 (.intro (.intro pl299 (.intro trivial trivial)) (.intro trivial (.intro trivial trivial)))) (.intro pl235 (.intro (.intro pl363 (.intro trivial trivial)) trivial)))))) (.intro pl59 (.intro (.intro pl91 (.intro (.intro pl155 (.intro (.intro pl283 (.intro trivial trivial)) (.intro pl411 (.intro trivial trivial)))) (.intro pl219 (.intro (.intro pl347 (.intro trivial trivial)) trivial)))) (.intro pl123 (.intro (.intro pl187 (.intro (.intro trivial (.intro trivial trivial)) trivial)) (.intro pl251 (.intro (.intro pl379 (.intro trivial trivial)) trivial)))))))))))) (.intro pl5 (.intro (.intro pl9 (.intro (.intro pl17 (.intro (.intro pl33 (.intro (.intro pl65 (.intro (.intro pl129 (.intro (.intro pl257 (.intro trivial trivial)) (.intro pl385 (.intro trivial trivial)))) (.intro pl193 (.intro (.intro trivial (.intro trivial trivial)) trivial)))) (.intro pl97 (.intro (.intro pl161 (.intro (.intro pl289 (.intro trivial trivial)) (.intro trivial (.intro trivial trivial)))) (.intro pl225 (.intro (.intro pl353 (.intro trivial trivial)) trivial)))))) (.intro pl49 (.intro (.intro pl81 (.intro (.intro pl145 (.intro (.intro pl273 (.intro trivial trivial)) (.intro pl401 (.intro trivial trivial)))) (.intro pl209 (.intro (.intro pl337 (.intro trivial trivial)) trivial)))) (.intro pl113 (.intro (.intro pl177 (.intro (.intro trivial (.intro trivial trivial)) (.intro trivial (.intro trivial trivial)))) (.intro pl241 (.intro (.intro pl369 (.intro trivial trivial)) trivial)))))))) (.intro pl25 (.intro (.intro pl41 (.intro (.intro pl73 (.intro (.intro pl137 (.intro (.intro pl265 (.intro trivial trivial)) (.intro pl393 (.intro trivial trivial)))) (.intro pl201 (.intro (.intro pl329 (.intro trivial trivial)) trivial)))) (.intro pl105 (.intro (.intro pl169 (.intro (.intro pl297 (.intro trivial trivial)) (.intro trivial (.intro trivial trivial)))) (.intro pl233 (.intro (.intro pl361 (.intro trivial trivial)) trivial)))))) (.intro pl57 (.intro (.intro pl89 (.intro (.intro pl153 (.intro (.intro pl281 (.intro trivial trivial)) (.intro pl409 (.intro trivial trivial)))) (.intro pl217 (.intro (.intro pl345 (.intro trivial trivial)) trivial)))) (.intro pl121 (.intro (.intro pl185 (.intro (.intro trivial (.intro trivial trivial)) trivial)) (.intro pl249 (.intro (.intro pl377 (.intro trivial trivial)) trivial)))))))))) (.intro pl13 (.intro (.intro pl21 (.intro (.intro pl37 (.intro (.intro pl69 (.intro (.intro pl133 (.intro (.intro pl261 (.intro trivial trivial)) (.intro pl389 (.intro trivial trivial)))) (.intro pl197 (.intro (.intro pl325 (.intro trivial trivial)) trivial)))) (.intro pl101 (.intro (.intro trivial (.intro (.intro pl293 (.intro trivial trivial)) (.intro trivial (.intro trivial trivial)))) (.intro pl229 (.intro (.intro pl357 (.intro trivial trivial)) trivial)))))) (.intro pl53 (.intro (.intro pl85 (.intro (.intro pl149 (.intro (.intro pl277 (.intro trivial trivial)) (.intro pl405 (.intro trivial trivial)))) (.intro pl213 (.intro (.intro pl341 (.intro trivial trivial)) trivial)))) (.intro pl117 (.intro (.intro pl181 (.intro (.intro trivial (.intro trivial trivial)) (.intro trivial (.intro trivial trivial)))) (.intro pl245 (.intro (.intro pl373 (.intro trivial trivial)) trivial)))))))) (.intro pl29 (.intro (.intro pl45 (.intro (.intro pl77 (.intro (.intro pl141 (.intro (.intro pl269 (.intro trivial trivial)) (.intro pl397 (.intro trivial trivial)))) (.intro pl205 (.intro (.intro pl333 (.intro trivial trivial)) trivial)))) (.intro pl109 (.intro (.intro pl173 (.intro (.intro pl301 (.intro trivial trivial)) (.intro trivial (.intro trivial trivial)))) (.intro pl237 (.intro (.intro pl365 (.intro trivial trivial)) trivial)))))) (.intro pl61 (.intro (.intro pl93 (.intro (.intro pl157 (.intro (.intro pl285 (.intro trivial trivial)) (.intro pl413 (.intro trivial trivial)))) (.intro pl221 (.intro (.intro pl349 (.intro trivial trivial)) trivial)))) (.intro pl125 (.intro (.intro pl189 (.intro (.intro trivial (.intro trivial trivial)) trivial)) (.intro pl253 (.intro (.intro pl381 (.intro trivial trivial)) trivial)))))))))))))) (.intro pl2 (.intro (.intro pl4 (.intro (.intro pl8 (.intro (.intro pl16 (.intro (.intro pl32 (.intro (.intro pl64 (.intro (.intro pl128 (.intro (.intro pl256 (.intro trivial trivial)) (.intro pl384 (.intro trivial trivial)))) (.intro pl192 (.intro (.intro trivial (.intro trivial trivial)) trivial)))) (.intro pl96 (.intro (.intro pl160 (.intro (.intro pl288 (.intro trivial trivial)) (.intro trivial (.intro trivial trivial)))) (.intro trivial (.intro (.intro pl352 (.intro trivial trivial)) trivial)))))) (.intro pl48 (.intro (.intro pl80 (.intro (.intro pl144 (.intro (.intro pl272 (.intro trivial trivial)) (.intro pl400 (.intro trivial trivial)))) (.intro pl208 (.intro (.intro pl336 (.intro trivial trivial)) trivial)))) (.intro pl112 (.intro (.intro pl176 (.intro (.intro pl304 (.intro trivial trivial)) (.intro trivial (.intro trivial trivial)))) (.intro pl240 (.intro (.intro pl368 (.intro trivial trivial)) trivial)))))))) (.intro pl24 (.intro (.intro pl40 (.intro (.intro pl72 (.intro (.intro pl136 (.intro (.intro pl264 (.intro trivial trivial)) (.intro pl392 (.intro trivial trivial)))) (.intro pl200 (.intro (.intro pl328 (.intro trivial trivial)) trivial)))) (.intro pl104 (.intro (.intro pl168 (.intro (.intro pl296 (.intro trivial trivial)) (.intro trivial (.intro trivial trivial)))) (.intro trivial (.intro (.intro pl360 (.intro trivial trivial)) trivial)))))) (.intro pl56 (.intro (.intro pl88 (.intro (.intro pl152 (.intro (.intro pl280 (.intro trivial trivial)) (.intro trivial (.intro trivial trivial)))) (.intro pl216 (.intro (.intro pl344 (.intro trivial trivial)) trivial)))) (.intro pl120 (.intro (.intro pl184 (.intro (.intro trivial (.intro trivial trivial)) trivial)) (.intro pl248 (.intro (.intro pl376 (.intro trivial trivial)) trivial)))))))))) (.intro pl12 (.intro (.intro pl20 (.intro (.intro pl36 (.intro (.intro pl68 (.intro (.intro pl132 (.intro (.intro pl260 (.intro trivial trivial)) (.intro pl388 (.intro trivial trivial)))) (.intro pl196 (.intro (.intro trivial (.intro trivial trivial)) trivial)))) (.intro pl100 (.intro (.intro trivial (.intro (.intro pl292 (.intro trivial trivial)) (.intro trivial (.intro trivial trivial)))) (.intro pl228 (.intro (.intro pl356 (.intro trivial trivial)) trivial)))))) (.intro pl52 (.intro (.intro pl84 (.intro (.intro pl148 (.intro (.intro pl276 (.intro trivial trivial)) (.intro pl404 (.intro trivial trivial)))) (.intro pl212 (.intro (.intro pl340 (.intro trivial trivial)) trivial)))) (.intro pl116 (.intro (.intro pl180 (.intro (.intro trivial (.intro trivial trivial)) (.intro trivial (.intro trivial trivial)))) (.intro pl244 (.intro (.intro pl372 (.intro trivial trivial)) trivial)))))))) (.intro pl28 (.intro (.intro pl44 (.intro (.intro pl76 (.intro (.intro pl140 (.intro (.intro pl268 (.intro trivial trivial)) (.intro pl396 (.intro trivial trivial)))) (.intro pl204 (.intro (.intro pl332 (.intro trivial trivial)) trivial)))) (.intro pl108 (.intro (.intro pl172 (.intro (.intro pl300 (.intro trivial trivial)) (.intro trivial (.intro trivial trivial)))) (.intro pl236 (.intro (.intro pl364 (.intro trivial trivial)) trivial)))))) (.intro pl60 (.intro (.intro pl92 (.intro (.intro pl156 (.intro (.intro pl284 (.intro trivial trivial)) (.intro pl412 (.intro trivial trivial)))) (.intro pl220 (.intro (.intro pl348 (.intro trivial trivial)) trivial)))) (.intro pl124 (.intro (.intro pl188 (.intro (.intro trivial (.intro trivial trivial)) trivial)) (.intro pl252 (.intro (.intro pl380 (.intro trivial trivial)) trivial)))))))))))) (.intro pl6 (.intro (.intro pl10 (.intro (.intro pl18 (.intro (.intro pl34 (.intro (.intro pl66 (.intro (.intro pl130 (.intro (.intro pl258 (.intro trivial trivial)) (.intro pl386 (.intro trivial trivial)))) (.intro pl194 (.intro (.intro pl322 (.intro trivial trivial)) trivial)))) (.intro pl98 (.intro (.intro pl162 (.intro (.intro pl290 (.intro trivial trivial)) (.intro trivial (.intro trivial trivial)))) (.intro pl226 (.intro (.intro pl354 (.intro trivial trivial)) trivial)))))) (.intro pl50 (.intro (.intro pl82 (.intro (.intro pl146 (.intro (.intro pl274 (.intro trivial trivial)) (.intro pl402 (.intro trivial trivial)))) (.intro pl210 (.intro (.intro pl338 (.intro trivial trivial)) trivial)))) (.intro pl114 (.intro (.intro pl178 (.intro (.intro trivial (.intro trivial trivial)) (.intro trivial (.intro trivial trivial)))) (.intro pl242 (.intro (.intro pl370 (.intro trivial trivial)) trivial)))))))) (.intro pl26 (.intro (.intro pl42 (.intro (.intro pl74 (.intro (.intro pl138 (.intro (.intro pl266 (.intro trivial trivial)) (.intro pl394 (.intro trivial trivial)))) (.intro pl202 (.intro (.intro pl330 (.intro trivial trivial)) trivial)))) (.intro pl106 (.intro (.intro pl170 (.intro (.intro pl298 (.intro trivial trivial)) (.intro trivial (.intro trivial trivial)))) (.intro pl234 (.intro (.intro pl362 (.intro trivial trivial)) trivial)))))) (.intro pl58 (.intro (.intro pl90 (.intro (.intro pl154 (.intro (.intro pl282 (.intro trivial trivial)) (.intro pl410 (.intro trivial trivial)))) (.intro pl218 (.intro (.intro pl346 (.intro trivial trivial)) trivial)))) (.intro pl122 (.intro (.intro pl186 (.intro (.intro trivial (.intro trivial trivial)) trivial)) (.intro pl250 (.intro (.intro pl378 (.intro trivial trivial)) trivial)))))))))) (.intro pl14 (.intro (.intro pl22 (.intro (.intro pl38 (.intro (.intro pl70 (.intro (.intro pl134 (.intro (.intro pl262 (.intro trivial trivial)) (.intro pl390 (.intro trivial trivial)))) (.intro pl198 (.intro (.intro pl326 (.intro trivial trivial)) trivial)))) (.intro pl102 (.intro (.intro pl166 (.intro (.intro pl294 (.intro trivial trivial)) (.intro trivial (.intro trivial trivial)))) (.intro pl230 (.intro (.intro pl358 (.intro trivial trivial)) trivial)))))) (.intro pl54 (.intro (.intro pl86 (.intro (.intro pl150 (.intro (.intro pl278 (.intro trivial trivial)) (.intro pl406 (.intro trivial trivial)))) (.intro pl214 (.intro (.intro pl342 (.intro trivial trivial)) trivial)))) (.intro pl118 (.intro (.intro pl182 (.intro (.intro trivial (.intro trivial trivial)) (.intro pl438 (.intro trivial trivial)))) (.intro pl246 (.intro (.intro pl374 (.intro trivial trivial)) trivial)))))))) (.intro pl30 (.intro (.intro pl46 (.intro (.intro pl78 (.intro (.intro pl142 (.intro (.intro pl270 (.intro trivial trivial)) (.intro pl398 (.intro trivial trivial)))) (.intro pl206 (.intro (.intro pl334 (.intro trivial trivial)) trivial)))) (.intro pl110 (.intro (.intro pl174 (.intro (.intro pl302 (.intro trivial trivial)) (.intro trivial (.intro trivial trivial)))) (.intro pl238 (.intro (.intro pl366 (.intro trivial trivial)) trivial)))))) (.intro pl62 (.intro (.intro pl94 (.intro (.intro pl158 (.intro (.intro pl286 (.intro trivial trivial)) (.intro pl414 (.intro trivial trivial)))) (.intro trivial (.intro (.intro pl350 (.intro trivial trivial)) trivial)))) (.intro pl126 (.intro (.intro pl190 (.intro (.intro trivial (.intro trivial trivial)) trivial)) (.intro pl254 (.intro (.intro pl382 (.intro trivial trivial)) trivial))))))))))))))))
end Go.Proofs.YtaebmdinecilbaaGreatDoor.T
