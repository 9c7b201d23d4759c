import Derived.Test.YtbaoljbcdjdnlaaDoorProg
import Derived.Test.YtbaoljbcdjdnlaaDoorVmFn
import Derived.Test.YtbaoljbcdjdnlaaDoorTrdCode
import Derived.KernelRfl
set_option maxRecDepth 100000
namespace Go.Vm.Trd
open Go Go.Vm Go.Proofs
theorem tr3 : trFn Tryd.prog A3 F3.keep Tryd.f3 = some F3 := by kernel_rfl
theorem ok3 : F3.ok = true := by kernel_rfl
theorem tr4 : trFn Tryd.prog A4 F4.keep Tryd.f4 = some F4 := by kernel_rfl
theorem ok4 : F4.ok = true := by kernel_rfl
theorem tr5 : trFn Tryd.prog A5 F5.keep Tryd.f5 = some F5 := by kernel_rfl
theorem ok5 : F5.ok = true := by kernel_rfl
theorem tr6 : trFn Tryd.prog A6 F6.keep Tryd.f6 = some F6 := by kernel_rfl
theorem ok6 : F6.ok = true := by kernel_rfl
theorem tr7 : trFn Tryd.prog A7 F7.keep Tryd.f7 = some F7 := by kernel_rfl
theorem ok7 : F7.ok = true := by kernel_rfl
theorem tr8 : trFn Tryd.prog A8 F8.keep Tryd.f8 = some F8 := by kernel_rfl
theorem ok8 : F8.ok = true := by kernel_rfl
theorem tr9 : trFn Tryd.prog A9 F9.keep Tryd.f9 = some F9 := by kernel_rfl
theorem ok9 : F9.ok = true := by kernel_rfl
theorem tr10 : trFn Tryd.prog A10 F10.keep Tryd.f10 = some F10 := by kernel_rfl
theorem ok10 : F10.ok = true := by kernel_rfl
theorem tr11 : trFn Tryd.prog A11 F11.keep Tryd.f11 = some F11 := by kernel_rfl
theorem ok11 : F11.ok = true := by kernel_rfl
theorem tr12 : trFn Tryd.prog A12 F12.keep Tryd.f12 = some F12 := by kernel_rfl
theorem ok12 : F12.ok = true := by kernel_rfl
theorem tr13 : trFn Tryd.prog A13 F13.keep Tryd.f13 = some F13 := by kernel_rfl
theorem ok13 : F13.ok = true := by kernel_rfl
theorem tr14 : trFn Tryd.prog A14 F14.keep Tryd.f14 = some F14 := by kernel_rfl
theorem ok14 : F14.ok = true := by kernel_rfl
theorem tr15 : trFn Tryd.prog A15 F15.keep Tryd.f15 = some F15 := by kernel_rfl
theorem ok15 : F15.ok = true := by kernel_rfl
theorem tr16 : trFn Tryd.prog A16 F16.keep Tryd.f16 = some F16 := by kernel_rfl
theorem ok16 : F16.ok = true := by kernel_rfl
theorem tr17 : trFn Tryd.prog A17 F17.keep Tryd.f17 = some F17 := by kernel_rfl
theorem ok17 : F17.ok = true := by kernel_rfl
theorem tr18 : trFn Tryd.prog A18 F18.keep Tryd.f18 = some F18 := by kernel_rfl
theorem ok18 : F18.ok = true := by kernel_rfl
theorem tr20 : trFn Tryd.prog A20 F20.keep Tryd.f20 = some F20 := by kernel_rfl
theorem ok20 : F20.ok = true := by kernel_rfl
theorem tr21 : trFn Tryd.prog A21 F21.keep Tryd.f21 = some F21 := by kernel_rfl
theorem ok21 : F21.ok = true := by kernel_rfl
theorem tr22 : trFn Tryd.prog A22 F22.keep Tryd.f22 = some F22 := by kernel_rfl
theorem ok22 : F22.ok = true := by kernel_rfl
theorem tr23 : trFn Tryd.prog A23 F23.keep Tryd.f23 = some F23 := by kernel_rfl
theorem ok23 : F23.ok = true := by kernel_rfl
theorem tr24 : trFn Tryd.prog A24 F24.keep Tryd.f24 = some F24 := by kernel_rfl
theorem ok24 : F24.ok = true := by kernel_rfl
theorem tr25 : trFn Tryd.prog A25 F25.keep Tryd.f25 = some F25 := by kernel_rfl
theorem ok25 : F25.ok = true := by kernel_rfl
theorem tr26 : trFn Tryd.prog A26 F26.keep Tryd.f26 = some F26 := by kernel_rfl
theorem ok26 : F26.ok = true := by kernel_rfl
theorem tr27 : trFn Tryd.prog A27 F27.keep Tryd.f27 = some F27 := by kernel_rfl
theorem ok27 : F27.ok = true := by kernel_rfl
theorem tr28 : trFn Tryd.prog A28 F28.keep Tryd.f28 = some F28 := by kernel_rfl
theorem ok28 : F28.ok = true := by kernel_rfl
theorem tr29 : trFn Tryd.prog A29 F29.keep Tryd.f29 = some F29 := by kernel_rfl
theorem ok29 : F29.ok = true := by kernel_rfl
theorem tr30 : trFn Tryd.prog A30 F30.keep Tryd.f30 = some F30 := by kernel_rfl
theorem ok30 : F30.ok = true := by kernel_rfl
theorem tr31 : trFn Tryd.prog A31 F31.keep Tryd.f31 = some F31 := by kernel_rfl
theorem ok31 : F31.ok = true := by kernel_rfl
theorem tr32 : trFn Tryd.prog A32 F32.keep Tryd.f32 = some F32 := by kernel_rfl
theorem ok32 : F32.ok = true := by kernel_rfl
theorem tr36 : trFn Tryd.prog A36 F36.keep Tryd.f36 = some F36 := by kernel_rfl
theorem ok36 : F36.ok = true := by kernel_rfl
theorem tr37 : trFn Tryd.prog A37 F37.keep Tryd.f37 = some F37 := by kernel_rfl
theorem ok37 : F37.ok = true := by kernel_rfl
theorem tr38 : trFn Tryd.prog A38 F38.keep Tryd.f38 = some F38 := by kernel_rfl
theorem ok38 : F38.ok = true := by kernel_rfl
theorem tr39 : trFn Tryd.prog A39 F39.keep Tryd.f39 = some F39 := by kernel_rfl
theorem ok39 : F39.ok = true := by kernel_rfl
theorem tr40 : trFn Tryd.prog A40 F40.keep Tryd.f40 = some F40 := by kernel_rfl
theorem ok40 : F40.ok = true := by kernel_rfl
theorem tr41 : trFn Tryd.prog A41 F41.keep Tryd.f41 = some F41 := by kernel_rfl
theorem ok41 : F41.ok = true := by kernel_rfl
theorem tr42 : trFn Tryd.prog A42 F42.keep Tryd.f42 = some F42 := by kernel_rfl
theorem ok42 : F42.ok = true := by kernel_rfl
theorem tr43 : trFn Tryd.prog A43 F43.keep Tryd.f43 = some F43 := by kernel_rfl
theorem ok43 : F43.ok = true := by kernel_rfl
theorem tr44 : trFn Tryd.prog A44 F44.keep Tryd.f44 = some F44 := by kernel_rfl
theorem ok44 : F44.ok = true := by kernel_rfl
theorem tr45 : trFn Tryd.prog A45 F45.keep Tryd.f45 = some F45 := by kernel_rfl
theorem ok45 : F45.ok = true := by kernel_rfl
theorem tr46 : trFn Tryd.prog A46 F46.keep Tryd.f46 = some F46 := by kernel_rfl
theorem ok46 : F46.ok = true := by kernel_rfl
theorem tr47 : trFn Tryd.prog A47 F47.keep Tryd.f47 = some F47 := by kernel_rfl
theorem ok47 : F47.ok = true := by kernel_rfl
theorem tr49 : trFn Tryd.prog A49 F49.keep Tryd.f49 = some F49 := by kernel_rfl
theorem ok49 : F49.ok = true := by kernel_rfl
theorem tr50 : trFn Tryd.prog A50 F50.keep Tryd.f50 = some F50 := by kernel_rfl
theorem ok50 : F50.ok = true := by kernel_rfl
theorem tr53 : trFn Tryd.prog A53 F53.keep Tryd.f53 = some F53 := by kernel_rfl
theorem ok53 : F53.ok = true := by kernel_rfl
theorem tr54 : trFn Tryd.prog A54 F54.keep Tryd.f54 = some F54 := by kernel_rfl
theorem ok54 : F54.ok = true := by kernel_rfl
theorem tr55 : trFn Tryd.prog A55 F55.keep Tryd.f55 = some F55 := by kernel_rfl
theorem ok55 : F55.ok = true := by kernel_rfl
theorem tr56 : trFn Tryd.prog A56 F56.keep Tryd.f56 = some F56 := by kernel_rfl
theorem ok56 : F56.ok = true := by kernel_rfl
theorem tr58 : trFn Tryd.prog A58 F58.keep Tryd.f58 = some F58 := by kernel_rfl
theorem ok58 : F58.ok = true := by kernel_rfl
theorem tr59 : trFn Tryd.prog A59 F59.keep Tryd.f59 = some F59 := by kernel_rfl
theorem ok59 : F59.ok = true := by kernel_rfl
theorem tr61 : trFn Tryd.prog A61 F61.keep Tryd.f61 = some F61 := by kernel_rfl
theorem ok61 : F61.ok = true := by kernel_rfl
theorem tr62 : trFn Tryd.prog A62 F62.keep Tryd.f62 = some F62 := by kernel_rfl
theorem ok62 : F62.ok = true := by kernel_rfl
theorem tr64 : trFn Tryd.prog A64 F64.keep Tryd.f64 = some F64 := by kernel_rfl
theorem ok64 : F64.ok = true := by kernel_rfl
theorem tr67 : trFn Tryd.prog A67 F67.keep Tryd.f67 = some F67 := by kernel_rfl
theorem ok67 : F67.ok = true := by kernel_rfl
theorem tr68 : trFn Tryd.prog A68 F68.keep Tryd.f68 = some F68 := by kernel_rfl
theorem ok68 : F68.ok = true := by kernel_rfl
theorem tr71 : trFn Tryd.prog A71 F71.keep Tryd.f71 = some F71 := by kernel_rfl
theorem ok71 : F71.ok = true := by kernel_rfl
theorem tr72 : trFn Tryd.prog A72 F72.keep Tryd.f72 = some F72 := by kernel_rfl
theorem ok72 : F72.ok = true := by kernel_rfl
theorem tr73 : trFn Tryd.prog A73 F73.keep Tryd.f73 = some F73 := by kernel_rfl
theorem ok73 : F73.ok = true := by kernel_rfl
theorem tr78 : trFn Tryd.prog A78 F78.keep Tryd.f78 = some F78 := by kernel_rfl
theorem ok78 : F78.ok = true := by kernel_rfl
theorem tr79 : trFn Tryd.prog A79 F79.keep Tryd.f79 = some F79 := by kernel_rfl
theorem ok79 : F79.ok = true := by kernel_rfl
theorem tr82 : trFn Tryd.prog A82 F82.keep Tryd.f82 = some F82 := by kernel_rfl
theorem ok82 : F82.ok = true := by kernel_rfl
theorem tblOk (cx : Cx) (h19 : ∀ args H r H', primJoin args H = some (r, H') → FnSpec Tryd.prog cx 19 args H r H') (h48 : ∀ args H r H', primFmt args H = some (r, H') → FnSpec Tryd.prog cx 48 args H r H') (h57 : ∀ args H r H', primCut args H = some (r, H') → FnSpec Tryd.prog cx 57 args H r H') (h60 : ∀ args H r H', primIndexByte args H = some (r, H') → FnSpec Tryd.prog cx 60 args H r H') : TblOk Tryd.prog ⟨cx, tbl⟩ := by
  intro f e h
  simp only at h
  unfold tbl at h
  split at h
  · cases h; exact ⟨_, A3, Tryd.func3, by kernel_rfl, tr3, ok3⟩
  · cases h; exact ⟨_, A4, Tryd.func4, by kernel_rfl, tr4, ok4⟩
  · cases h; exact ⟨_, A5, Tryd.func5, by kernel_rfl, tr5, ok5⟩
  · cases h; exact ⟨_, A6, Tryd.func6, by kernel_rfl, tr6, ok6⟩
  · cases h; exact ⟨_, A7, Tryd.func7, by kernel_rfl, tr7, ok7⟩
  · cases h; exact ⟨_, A8, Tryd.func8, by kernel_rfl, tr8, ok8⟩
  · cases h; exact ⟨_, A9, Tryd.func9, by kernel_rfl, tr9, ok9⟩
  · cases h; exact ⟨_, A10, Tryd.func10, by kernel_rfl, tr10, ok10⟩
  · cases h; exact ⟨_, A11, Tryd.func11, by kernel_rfl, tr11, ok11⟩
  · cases h; exact ⟨_, A12, Tryd.func12, by kernel_rfl, tr12, ok12⟩
  · cases h; exact ⟨_, A13, Tryd.func13, by kernel_rfl, tr13, ok13⟩
  · cases h; exact ⟨_, A14, Tryd.func14, by kernel_rfl, tr14, ok14⟩
  · cases h; exact ⟨_, A15, Tryd.func15, by kernel_rfl, tr15, ok15⟩
  · cases h; exact ⟨_, A16, Tryd.func16, by kernel_rfl, tr16, ok16⟩
  · cases h; exact ⟨_, A17, Tryd.func17, by kernel_rfl, tr17, ok17⟩
  · cases h; exact ⟨_, A18, Tryd.func18, by kernel_rfl, tr18, ok18⟩
  · cases h; exact ⟨_, A20, Tryd.func20, by kernel_rfl, tr20, ok20⟩
  · cases h; exact ⟨_, A21, Tryd.func21, by kernel_rfl, tr21, ok21⟩
  · cases h; exact ⟨_, A22, Tryd.func22, by kernel_rfl, tr22, ok22⟩
  · cases h; exact ⟨_, A23, Tryd.func23, by kernel_rfl, tr23, ok23⟩
  · cases h; exact ⟨_, A24, Tryd.func24, by kernel_rfl, tr24, ok24⟩
  · cases h; exact ⟨_, A25, Tryd.func25, by kernel_rfl, tr25, ok25⟩
  · cases h; exact ⟨_, A26, Tryd.func26, by kernel_rfl, tr26, ok26⟩
  · cases h; exact ⟨_, A27, Tryd.func27, by kernel_rfl, tr27, ok27⟩
  · cases h; exact ⟨_, A28, Tryd.func28, by kernel_rfl, tr28, ok28⟩
  · cases h; exact ⟨_, A29, Tryd.func29, by kernel_rfl, tr29, ok29⟩
  · cases h; exact ⟨_, A30, Tryd.func30, by kernel_rfl, tr30, ok30⟩
  · cases h; exact ⟨_, A31, Tryd.func31, by kernel_rfl, tr31, ok31⟩
  · cases h; exact ⟨_, A32, Tryd.func32, by kernel_rfl, tr32, ok32⟩
  · cases h; exact ⟨_, A36, Tryd.func36, by kernel_rfl, tr36, ok36⟩
  · cases h; exact ⟨_, A37, Tryd.func37, by kernel_rfl, tr37, ok37⟩
  · cases h; exact ⟨_, A38, Tryd.func38, by kernel_rfl, tr38, ok38⟩
  · cases h; exact ⟨_, A39, Tryd.func39, by kernel_rfl, tr39, ok39⟩
  · cases h; exact ⟨_, A40, Tryd.func40, by kernel_rfl, tr40, ok40⟩
  · cases h; exact ⟨_, A41, Tryd.func41, by kernel_rfl, tr41, ok41⟩
  · cases h; exact ⟨_, A42, Tryd.func42, by kernel_rfl, tr42, ok42⟩
  · cases h; exact ⟨_, A43, Tryd.func43, by kernel_rfl, tr43, ok43⟩
  · cases h; exact ⟨_, A44, Tryd.func44, by kernel_rfl, tr44, ok44⟩
  · cases h; exact ⟨_, A45, Tryd.func45, by kernel_rfl, tr45, ok45⟩
  · cases h; exact ⟨_, A46, Tryd.func46, by kernel_rfl, tr46, ok46⟩
  · cases h; exact ⟨_, A47, Tryd.func47, by kernel_rfl, tr47, ok47⟩
  · cases h; exact ⟨_, A49, Tryd.func49, by kernel_rfl, tr49, ok49⟩
  · cases h; exact ⟨_, A50, Tryd.func50, by kernel_rfl, tr50, ok50⟩
  · cases h; exact ⟨_, A53, Tryd.func53, by kernel_rfl, tr53, ok53⟩
  · cases h; exact ⟨_, A54, Tryd.func54, by kernel_rfl, tr54, ok54⟩
  · cases h; exact ⟨_, A55, Tryd.func55, by kernel_rfl, tr55, ok55⟩
  · cases h; exact ⟨_, A56, Tryd.func56, by kernel_rfl, tr56, ok56⟩
  · cases h; exact ⟨_, A58, Tryd.func58, by kernel_rfl, tr58, ok58⟩
  · cases h; exact ⟨_, A59, Tryd.func59, by kernel_rfl, tr59, ok59⟩
  · cases h; exact ⟨_, A61, Tryd.func61, by kernel_rfl, tr61, ok61⟩
  · cases h; exact ⟨_, A62, Tryd.func62, by kernel_rfl, tr62, ok62⟩
  · cases h; exact ⟨_, A64, Tryd.func64, by kernel_rfl, tr64, ok64⟩
  · cases h; exact ⟨_, A67, Tryd.func67, by kernel_rfl, tr67, ok67⟩
  · cases h; exact ⟨_, A68, Tryd.func68, by kernel_rfl, tr68, ok68⟩
  · cases h; exact ⟨_, A71, Tryd.func71, by kernel_rfl, tr71, ok71⟩
  · cases h; exact ⟨_, A72, Tryd.func72, by kernel_rfl, tr72, ok72⟩
  · cases h; exact ⟨_, A73, Tryd.func73, by kernel_rfl, tr73, ok73⟩
  · cases h; exact ⟨_, A78, Tryd.func78, by kernel_rfl, tr78, ok78⟩
  · cases h; exact ⟨_, A79, Tryd.func79, by kernel_rfl, tr79, ok79⟩
  · cases h; exact ⟨_, A82, Tryd.func82, by kernel_rfl, tr82, ok82⟩
  · cases h; exact h19
  · cases h; exact h48
  · cases h; exact h57
  · cases h; exact h60
  · cases h
end Go.Vm.Trd
