import Derived.Test.YtbaoljbcdjdnlaaGreatDoorProg
import Derived.Test.YtbaoljbcdjdnlaaGreatDoorVmFn
import Derived.Test.YtbaoljbcdjdnlaaGreatDoorTreCode
import Derived.KernelRfl
set_option linter.unusedSimpArgs false
set_option linter.unusedVariables false
set_option maxRecDepth 100000
namespace Go.Vm.Tre
open Go Go.Vm Go.Proofs
theorem tr5 : trFn Tryz.prog A5 F5.keep Tryz.f5 = some F5 := by kernel_rfl
theorem ok5 : F5.ok = true := by kernel_rfl
theorem tr6 : trFn Tryz.prog A6 F6.keep Tryz.f6 = some F6 := by kernel_rfl
theorem ok6 : F6.ok = true := by kernel_rfl
theorem tr8 : trFn Tryz.prog A8 F8.keep Tryz.f8 = some F8 := by kernel_rfl
theorem ok8 : F8.ok = true := by kernel_rfl
theorem tr10 : trFn Tryz.prog A10 F10.keep Tryz.f10 = some F10 := by kernel_rfl
theorem ok10 : F10.ok = true := by kernel_rfl
theorem tr13 : trFn Tryz.prog A13 F13.keep Tryz.f13 = some F13 := by kernel_rfl
theorem ok13 : F13.ok = true := by kernel_rfl
theorem tr15 : trFn Tryz.prog A15 F15.keep Tryz.f15 = some F15 := by kernel_rfl
theorem ok15 : F15.ok = true := by kernel_rfl
theorem tr16 : trFn Tryz.prog A16 F16.keep Tryz.f16 = some F16 := by kernel_rfl
theorem ok16 : F16.ok = true := by kernel_rfl
theorem tr17 : trFn Tryz.prog A17 F17.keep Tryz.f17 = some F17 := by kernel_rfl
theorem ok17 : F17.ok = true := by kernel_rfl
theorem tr18 : trFn Tryz.prog A18 F18.keep Tryz.f18 = some F18 := by kernel_rfl
theorem ok18 : F18.ok = true := by kernel_rfl
theorem tr19 : trFn Tryz.prog A19 F19.keep Tryz.f19 = some F19 := by kernel_rfl
theorem ok19 : F19.ok = true := by kernel_rfl
theorem tr20 : trFn Tryz.prog A20 F20.keep Tryz.f20 = some F20 := by kernel_rfl
theorem ok20 : F20.ok = true := by kernel_rfl
theorem tr21 : trFn Tryz.prog A21 F21.keep Tryz.f21 = some F21 := by kernel_rfl
theorem ok21 : F21.ok = true := by kernel_rfl
theorem tr23 : trFn Tryz.prog A23 F23.keep Tryz.f23 = some F23 := by kernel_rfl
theorem ok23 : F23.ok = true := by kernel_rfl
theorem tr25 : trFn Tryz.prog A25 F25.keep Tryz.f25 = some F25 := by kernel_rfl
theorem ok25 : F25.ok = true := by kernel_rfl
theorem tr26 : trFn Tryz.prog A26 F26.keep Tryz.f26 = some F26 := by kernel_rfl
theorem ok26 : F26.ok = true := by kernel_rfl
theorem tr27 : trFn Tryz.prog A27 F27.keep Tryz.f27 = some F27 := by kernel_rfl
theorem ok27 : F27.ok = true := by kernel_rfl
theorem tr28 : trFn Tryz.prog A28 F28.keep Tryz.f28 = some F28 := by kernel_rfl
theorem ok28 : F28.ok = true := by kernel_rfl
theorem tr29 : trFn Tryz.prog A29 F29.keep Tryz.f29 = some F29 := by kernel_rfl
theorem ok29 : F29.ok = true := by kernel_rfl
theorem tr30 : trFn Tryz.prog A30 F30.keep Tryz.f30 = some F30 := by kernel_rfl
theorem ok30 : F30.ok = true := by kernel_rfl
theorem tr31 : trFn Tryz.prog A31 F31.keep Tryz.f31 = some F31 := by kernel_rfl
theorem ok31 : F31.ok = true := by kernel_rfl
theorem tr32 : trFn Tryz.prog A32 F32.keep Tryz.f32 = some F32 := by kernel_rfl
theorem ok32 : F32.ok = true := by kernel_rfl
theorem tr33 : trFn Tryz.prog A33 F33.keep Tryz.f33 = some F33 := by kernel_rfl
theorem ok33 : F33.ok = true := by kernel_rfl
theorem tr34 : trFn Tryz.prog A34 F34.keep Tryz.f34 = some F34 := by kernel_rfl
theorem ok34 : F34.ok = true := by kernel_rfl
theorem tr35 : trFn Tryz.prog A35 F35.keep Tryz.f35 = some F35 := by kernel_rfl
theorem ok35 : F35.ok = true := by kernel_rfl
theorem tr36 : trFn Tryz.prog A36 F36.keep Tryz.f36 = some F36 := by kernel_rfl
theorem ok36 : F36.ok = true := by kernel_rfl
theorem tr37 : trFn Tryz.prog A37 F37.keep Tryz.f37 = some F37 := by kernel_rfl
theorem ok37 : F37.ok = true := by kernel_rfl
theorem tr38 : trFn Tryz.prog A38 F38.keep Tryz.f38 = some F38 := by kernel_rfl
theorem ok38 : F38.ok = true := by kernel_rfl
theorem tr39 : trFn Tryz.prog A39 F39.keep Tryz.f39 = some F39 := by kernel_rfl
theorem ok39 : F39.ok = true := by kernel_rfl
theorem tr40 : trFn Tryz.prog A40 F40.keep Tryz.f40 = some F40 := by kernel_rfl
theorem ok40 : F40.ok = true := by kernel_rfl
theorem tr41 : trFn Tryz.prog A41 F41.keep Tryz.f41 = some F41 := by kernel_rfl
theorem ok41 : F41.ok = true := by kernel_rfl
theorem tr45 : trFn Tryz.prog A45 F45.keep Tryz.f45 = some F45 := by kernel_rfl
theorem ok45 : F45.ok = true := by kernel_rfl
theorem tr48 : trFn Tryz.prog A48 F48.keep Tryz.f48 = some F48 := by kernel_rfl
theorem ok48 : F48.ok = true := by kernel_rfl
theorem tr57 : trFn Tryz.prog A57 F57.keep Tryz.f57 = some F57 := by kernel_rfl
theorem ok57 : F57.ok = true := by kernel_rfl
theorem tr58 : trFn Tryz.prog A58 F58.keep Tryz.f58 = some F58 := by kernel_rfl
theorem ok58 : F58.ok = true := by kernel_rfl
theorem tr59 : trFn Tryz.prog A59 F59.keep Tryz.f59 = some F59 := by kernel_rfl
theorem ok59 : F59.ok = true := by kernel_rfl
theorem tr60 : trFn Tryz.prog A60 F60.keep Tryz.f60 = some F60 := by kernel_rfl
theorem ok60 : F60.ok = true := by kernel_rfl
theorem tr61 : trFn Tryz.prog A61 F61.keep Tryz.f61 = some F61 := by kernel_rfl
theorem ok61 : F61.ok = true := by kernel_rfl
theorem tr62 : trFn Tryz.prog A62 F62.keep Tryz.f62 = some F62 := by kernel_rfl
theorem ok62 : F62.ok = true := by kernel_rfl
theorem tr63 : trFn Tryz.prog A63 F63.keep Tryz.f63 = some F63 := by kernel_rfl
theorem ok63 : F63.ok = true := by kernel_rfl
theorem tr64 : trFn Tryz.prog A64 F64.keep Tryz.f64 = some F64 := by kernel_rfl
theorem ok64 : F64.ok = true := by kernel_rfl
theorem tr65 : trFn Tryz.prog A65 F65.keep Tryz.f65 = some F65 := by kernel_rfl
theorem ok65 : F65.ok = true := by kernel_rfl
theorem tr66 : trFn Tryz.prog A66 F66.keep Tryz.f66 = some F66 := by kernel_rfl
theorem ok66 : F66.ok = true := by kernel_rfl
theorem tr67 : trFn Tryz.prog A67 F67.keep Tryz.f67 = some F67 := by kernel_rfl
theorem ok67 : F67.ok = true := by kernel_rfl
theorem tr68 : trFn Tryz.prog A68 F68.keep Tryz.f68 = some F68 := by kernel_rfl
theorem ok68 : F68.ok = true := by kernel_rfl
theorem tr70 : trFn Tryz.prog A70 F70.keep Tryz.f70 = some F70 := by kernel_rfl
theorem ok70 : F70.ok = true := by kernel_rfl
theorem tr71 : trFn Tryz.prog A71 F71.keep Tryz.f71 = some F71 := by kernel_rfl
theorem ok71 : F71.ok = true := by kernel_rfl
theorem tr74 : trFn Tryz.prog A74 F74.keep Tryz.f74 = some F74 := by kernel_rfl
theorem ok74 : F74.ok = true := by kernel_rfl
theorem tr75 : trFn Tryz.prog A75 F75.keep Tryz.f75 = some F75 := by kernel_rfl
theorem ok75 : F75.ok = true := by kernel_rfl
theorem tr76 : trFn Tryz.prog A76 F76.keep Tryz.f76 = some F76 := by kernel_rfl
theorem ok76 : F76.ok = true := by kernel_rfl
theorem tr77 : trFn Tryz.prog A77 F77.keep Tryz.f77 = some F77 := by kernel_rfl
theorem ok77 : F77.ok = true := by kernel_rfl
theorem tr78 : trFn Tryz.prog A78 F78.keep Tryz.f78 = some F78 := by kernel_rfl
theorem ok78 : F78.ok = true := by kernel_rfl
theorem tr81 : trFn Tryz.prog A81 F81.keep Tryz.f81 = some F81 := by kernel_rfl
theorem ok81 : F81.ok = true := by kernel_rfl
theorem tr82 : trFn Tryz.prog A82 F82.keep Tryz.f82 = some F82 := by kernel_rfl
theorem ok82 : F82.ok = true := by kernel_rfl
theorem tr83 : trFn Tryz.prog A83 F83.keep Tryz.f83 = some F83 := by kernel_rfl
theorem ok83 : F83.ok = true := by kernel_rfl
theorem tr85 : trFn Tryz.prog A85 F85.keep Tryz.f85 = some F85 := by kernel_rfl
theorem ok85 : F85.ok = true := by kernel_rfl
theorem tr86 : trFn Tryz.prog A86 F86.keep Tryz.f86 = some F86 := by kernel_rfl
theorem ok86 : F86.ok = true := by kernel_rfl
theorem tr88 : trFn Tryz.prog A88 F88.keep Tryz.f88 = some F88 := by kernel_rfl
theorem ok88 : F88.ok = true := by kernel_rfl
theorem tr89 : trFn Tryz.prog A89 F89.keep Tryz.f89 = some F89 := by kernel_rfl
theorem ok89 : F89.ok = true := by kernel_rfl
theorem tr90 : trFn Tryz.prog A90 F90.keep Tryz.f90 = some F90 := by kernel_rfl
theorem ok90 : F90.ok = true := by kernel_rfl
theorem tr92 : trFn Tryz.prog A92 F92.keep Tryz.f92 = some F92 := by kernel_rfl
theorem ok92 : F92.ok = true := by kernel_rfl
theorem tr95 : trFn Tryz.prog A95 F95.keep Tryz.f95 = some F95 := by kernel_rfl
theorem ok95 : F95.ok = true := by kernel_rfl
theorem tr96 : trFn Tryz.prog A96 F96.keep Tryz.f96 = some F96 := by kernel_rfl
theorem ok96 : F96.ok = true := by kernel_rfl
theorem tr97 : trFn Tryz.prog A97 F97.keep Tryz.f97 = some F97 := by kernel_rfl
theorem ok97 : F97.ok = true := by kernel_rfl
theorem tr98 : trFn Tryz.prog A98 F98.keep Tryz.f98 = some F98 := by kernel_rfl
theorem ok98 : F98.ok = true := by kernel_rfl
theorem tr99 : trFn Tryz.prog A99 F99.keep Tryz.f99 = some F99 := by kernel_rfl
theorem ok99 : F99.ok = true := by kernel_rfl
theorem tr100 : trFn Tryz.prog A100 F100.keep Tryz.f100 = some F100 := by kernel_rfl
theorem ok100 : F100.ok = true := by kernel_rfl
theorem tr101 : trFn Tryz.prog A101 F101.keep Tryz.f101 = some F101 := by kernel_rfl
theorem ok101 : F101.ok = true := by kernel_rfl
theorem tr102 : trFn Tryz.prog A102 F102.keep Tryz.f102 = some F102 := by kernel_rfl
theorem ok102 : F102.ok = true := by kernel_rfl
theorem tr105 : trFn Tryz.prog A105 F105.keep Tryz.f105 = some F105 := by kernel_rfl
theorem ok105 : F105.ok = true := by kernel_rfl
theorem tr106 : trFn Tryz.prog A106 F106.keep Tryz.f106 = some F106 := by kernel_rfl
theorem ok106 : F106.ok = true := by kernel_rfl
theorem tr107 : trFn Tryz.prog A107 F107.keep Tryz.f107 = some F107 := by kernel_rfl
theorem ok107 : F107.ok = true := by kernel_rfl
theorem tr112 : trFn Tryz.prog A112 F112.keep Tryz.f112 = some F112 := by kernel_rfl
theorem ok112 : F112.ok = true := by kernel_rfl
theorem tr113 : trFn Tryz.prog A113 F113.keep Tryz.f113 = some F113 := by kernel_rfl
theorem ok113 : F113.ok = true := by kernel_rfl
theorem tr114 : trFn Tryz.prog A114 F114.keep Tryz.f114 = some F114 := by kernel_rfl
theorem ok114 : F114.ok = true := by kernel_rfl
theorem tr115 : trFn Tryz.prog A115 F115.keep Tryz.f115 = some F115 := by kernel_rfl
theorem ok115 : F115.ok = true := by kernel_rfl
theorem tr116 : trFn Tryz.prog A116 F116.keep Tryz.f116 = some F116 := by kernel_rfl
theorem ok116 : F116.ok = true := by kernel_rfl
theorem tr119 : trFn Tryz.prog A119 F119.keep Tryz.f119 = some F119 := by kernel_rfl
theorem ok119 : F119.ok = true := by kernel_rfl
theorem tr125 : trFn Tryz.prog A125 F125.keep Tryz.f125 = some F125 := by kernel_rfl
theorem ok125 : F125.ok = true := by kernel_rfl
theorem tr126 : trFn Tryz.prog A126 F126.keep Tryz.f126 = some F126 := by kernel_rfl
theorem ok126 : F126.ok = true := by kernel_rfl
theorem tblOk (cx : Cx) (h22 : ∀ args H r H', primJoin args H = some (r, H') → FnSpec Tryz.prog cx 22 args H r H') (h69 : ∀ args H r H', primFmt args H = some (r, H') → FnSpec Tryz.prog cx 69 args H r H') (h84 : ∀ args H r H', primCut args H = some (r, H') → FnSpec Tryz.prog cx 84 args H r H') (h87 : ∀ args H r H', primIndexByte args H = some (r, H') → FnSpec Tryz.prog cx 87 args H r H') : TblOk Tryz.prog ⟨cx, tbl⟩ := by
  intro f e h
  simp only at h
  unfold tbl at h
  split at h
  · cases h; exact ⟨_, A5, Tryz.func5, by kernel_rfl, tr5, ok5⟩
  · cases h; exact ⟨_, A6, Tryz.func6, by kernel_rfl, tr6, ok6⟩
  · cases h; exact ⟨_, A8, Tryz.func8, by kernel_rfl, tr8, ok8⟩
  · cases h; exact ⟨_, A10, Tryz.func10, by kernel_rfl, tr10, ok10⟩
  · cases h; exact ⟨_, A13, Tryz.func13, by kernel_rfl, tr13, ok13⟩
  · cases h; exact ⟨_, A15, Tryz.func15, by kernel_rfl, tr15, ok15⟩
  · cases h; exact ⟨_, A16, Tryz.func16, by kernel_rfl, tr16, ok16⟩
  · cases h; exact ⟨_, A17, Tryz.func17, by kernel_rfl, tr17, ok17⟩
  · cases h; exact ⟨_, A18, Tryz.func18, by kernel_rfl, tr18, ok18⟩
  · cases h; exact ⟨_, A19, Tryz.func19, by kernel_rfl, tr19, ok19⟩
  · cases h; exact ⟨_, A20, Tryz.func20, by kernel_rfl, tr20, ok20⟩
  · cases h; exact ⟨_, A21, Tryz.func21, by kernel_rfl, tr21, ok21⟩
  · cases h; exact ⟨_, A23, Tryz.func23, by kernel_rfl, tr23, ok23⟩
  · cases h; exact ⟨_, A25, Tryz.func25, by kernel_rfl, tr25, ok25⟩
  · cases h; exact ⟨_, A26, Tryz.func26, by kernel_rfl, tr26, ok26⟩
  · cases h; exact ⟨_, A27, Tryz.func27, by kernel_rfl, tr27, ok27⟩
  · cases h; exact ⟨_, A28, Tryz.func28, by kernel_rfl, tr28, ok28⟩
  · cases h; exact ⟨_, A29, Tryz.func29, by kernel_rfl, tr29, ok29⟩
  · cases h; exact ⟨_, A30, Tryz.func30, by kernel_rfl, tr30, ok30⟩
  · cases h; exact ⟨_, A31, Tryz.func31, by kernel_rfl, tr31, ok31⟩
  · cases h; exact ⟨_, A32, Tryz.func32, by kernel_rfl, tr32, ok32⟩
  · cases h; exact ⟨_, A33, Tryz.func33, by kernel_rfl, tr33, ok33⟩
  · cases h; exact ⟨_, A34, Tryz.func34, by kernel_rfl, tr34, ok34⟩
  · cases h; exact ⟨_, A35, Tryz.func35, by kernel_rfl, tr35, ok35⟩
  · cases h; exact ⟨_, A36, Tryz.func36, by kernel_rfl, tr36, ok36⟩
  · cases h; exact ⟨_, A37, Tryz.func37, by kernel_rfl, tr37, ok37⟩
  · cases h; exact ⟨_, A38, Tryz.func38, by kernel_rfl, tr38, ok38⟩
  · cases h; exact ⟨_, A39, Tryz.func39, by kernel_rfl, tr39, ok39⟩
  · cases h; exact ⟨_, A40, Tryz.func40, by kernel_rfl, tr40, ok40⟩
  · cases h; exact ⟨_, A41, Tryz.func41, by kernel_rfl, tr41, ok41⟩
  · cases h; exact ⟨_, A45, Tryz.func45, by kernel_rfl, tr45, ok45⟩
  · cases h; exact ⟨_, A48, Tryz.func48, by kernel_rfl, tr48, ok48⟩
  · cases h; exact ⟨_, A57, Tryz.func57, by kernel_rfl, tr57, ok57⟩
  · cases h; exact ⟨_, A58, Tryz.func58, by kernel_rfl, tr58, ok58⟩
  · cases h; exact ⟨_, A59, Tryz.func59, by kernel_rfl, tr59, ok59⟩
  · cases h; exact ⟨_, A60, Tryz.func60, by kernel_rfl, tr60, ok60⟩
  · cases h; exact ⟨_, A61, Tryz.func61, by kernel_rfl, tr61, ok61⟩
  · cases h; exact ⟨_, A62, Tryz.func62, by kernel_rfl, tr62, ok62⟩
  · cases h; exact ⟨_, A63, Tryz.func63, by kernel_rfl, tr63, ok63⟩
  · cases h; exact ⟨_, A64, Tryz.func64, by kernel_rfl, tr64, ok64⟩
  · cases h; exact ⟨_, A65, Tryz.func65, by kernel_rfl, tr65, ok65⟩
  · cases h; exact ⟨_, A66, Tryz.func66, by kernel_rfl, tr66, ok66⟩
  · cases h; exact ⟨_, A67, Tryz.func67, by kernel_rfl, tr67, ok67⟩
  · cases h; exact ⟨_, A68, Tryz.func68, by kernel_rfl, tr68, ok68⟩
  · cases h; exact ⟨_, A70, Tryz.func70, by kernel_rfl, tr70, ok70⟩
  · cases h; exact ⟨_, A71, Tryz.func71, by kernel_rfl, tr71, ok71⟩
  · cases h; exact ⟨_, A74, Tryz.func74, by kernel_rfl, tr74, ok74⟩
  · cases h; exact ⟨_, A75, Tryz.func75, by kernel_rfl, tr75, ok75⟩
  · cases h; exact ⟨_, A76, Tryz.func76, by kernel_rfl, tr76, ok76⟩
  · cases h; exact ⟨_, A77, Tryz.func77, by kernel_rfl, tr77, ok77⟩
  · cases h; exact ⟨_, A78, Tryz.func78, by kernel_rfl, tr78, ok78⟩
  · cases h; exact ⟨_, A81, Tryz.func81, by kernel_rfl, tr81, ok81⟩
  · cases h; exact ⟨_, A82, Tryz.func82, by kernel_rfl, tr82, ok82⟩
  · cases h; exact ⟨_, A83, Tryz.func83, by kernel_rfl, tr83, ok83⟩
  · cases h; exact ⟨_, A85, Tryz.func85, by kernel_rfl, tr85, ok85⟩
  · cases h; exact ⟨_, A86, Tryz.func86, by kernel_rfl, tr86, ok86⟩
  · cases h; exact ⟨_, A88, Tryz.func88, by kernel_rfl, tr88, ok88⟩
  · cases h; exact ⟨_, A89, Tryz.func89, by kernel_rfl, tr89, ok89⟩
  · cases h; exact ⟨_, A90, Tryz.func90, by kernel_rfl, tr90, ok90⟩
  · cases h; exact ⟨_, A92, Tryz.func92, by kernel_rfl, tr92, ok92⟩
  · cases h; exact ⟨_, A95, Tryz.func95, by kernel_rfl, tr95, ok95⟩
  · cases h; exact ⟨_, A96, Tryz.func96, by kernel_rfl, tr96, ok96⟩
  · cases h; exact ⟨_, A97, Tryz.func97, by kernel_rfl, tr97, ok97⟩
  · cases h; exact ⟨_, A98, Tryz.func98, by kernel_rfl, tr98, ok98⟩
  · cases h; exact ⟨_, A99, Tryz.func99, by kernel_rfl, tr99, ok99⟩
  · cases h; exact ⟨_, A100, Tryz.func100, by kernel_rfl, tr100, ok100⟩
  · cases h; exact ⟨_, A101, Tryz.func101, by kernel_rfl, tr101, ok101⟩
  · cases h; exact ⟨_, A102, Tryz.func102, by kernel_rfl, tr102, ok102⟩
  · cases h; exact ⟨_, A105, Tryz.func105, by kernel_rfl, tr105, ok105⟩
  · cases h; exact ⟨_, A106, Tryz.func106, by kernel_rfl, tr106, ok106⟩
  · cases h; exact ⟨_, A107, Tryz.func107, by kernel_rfl, tr107, ok107⟩
  · cases h; exact ⟨_, A112, Tryz.func112, by kernel_rfl, tr112, ok112⟩
  · cases h; exact ⟨_, A113, Tryz.func113, by kernel_rfl, tr113, ok113⟩
  · cases h; exact ⟨_, A114, Tryz.func114, by kernel_rfl, tr114, ok114⟩
  · cases h; exact ⟨_, A115, Tryz.func115, by kernel_rfl, tr115, ok115⟩
  · cases h; exact ⟨_, A116, Tryz.func116, by kernel_rfl, tr116, ok116⟩
  · cases h; exact ⟨_, A119, Tryz.func119, by kernel_rfl, tr119, ok119⟩
  · cases h; exact ⟨_, A125, Tryz.func125, by kernel_rfl, tr125, ok125⟩
  · cases h; exact ⟨_, A126, Tryz.func126, by kernel_rfl, tr126, ok126⟩
  · cases h; exact h22
  · cases h; exact h69
  · cases h; exact h84
  · cases h; exact h87
  · cases h
end Go.Vm.Tre
