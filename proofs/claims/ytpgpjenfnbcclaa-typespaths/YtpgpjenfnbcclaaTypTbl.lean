import Derived.Test.YtpgpjenfnbcclaaProg
import Derived.Test.YtpgpjenfnbcclaaVmFn
import Derived.Test.YtpgpjenfnbcclaaTypCode
import Derived.KernelRfl
set_option linter.unusedSimpArgs false
set_option linter.unusedVariables false
set_option maxRecDepth 100000
namespace Go.Vm.Typ
open Go Go.Vm Go.Proofs
theorem tr3 : trFn Try.prog A3 F3.keep Try.f3 = some F3 := by kernel_rfl
theorem ok3 : F3.ok = true := by kernel_rfl
theorem tr4 : trFn Try.prog A4 F4.keep Try.f4 = some F4 := by kernel_rfl
theorem ok4 : F4.ok = true := by kernel_rfl
theorem tr5 : trFn Try.prog A5 F5.keep Try.f5 = some F5 := by kernel_rfl
theorem ok5 : F5.ok = true := by kernel_rfl
theorem tr6 : trFn Try.prog A6 F6.keep Try.f6 = some F6 := by kernel_rfl
theorem ok6 : F6.ok = true := by kernel_rfl
theorem tr7 : trFn Try.prog A7 F7.keep Try.f7 = some F7 := by kernel_rfl
theorem ok7 : F7.ok = true := by kernel_rfl
theorem tr8 : trFn Try.prog A8 F8.keep Try.f8 = some F8 := by kernel_rfl
theorem ok8 : F8.ok = true := by kernel_rfl
theorem tr9 : trFn Try.prog A9 F9.keep Try.f9 = some F9 := by kernel_rfl
theorem ok9 : F9.ok = true := by kernel_rfl
theorem tr10 : trFn Try.prog A10 F10.keep Try.f10 = some F10 := by kernel_rfl
theorem ok10 : F10.ok = true := by kernel_rfl
theorem tr11 : trFn Try.prog A11 F11.keep Try.f11 = some F11 := by kernel_rfl
theorem ok11 : F11.ok = true := by kernel_rfl
theorem tr12 : trFn Try.prog A12 F12.keep Try.f12 = some F12 := by kernel_rfl
theorem ok12 : F12.ok = true := by kernel_rfl
theorem tr13 : trFn Try.prog A13 F13.keep Try.f13 = some F13 := by kernel_rfl
theorem ok13 : F13.ok = true := by kernel_rfl
theorem tr14 : trFn Try.prog A14 F14.keep Try.f14 = some F14 := by kernel_rfl
theorem ok14 : F14.ok = true := by kernel_rfl
theorem tr15 : trFn Try.prog A15 F15.keep Try.f15 = some F15 := by kernel_rfl
theorem ok15 : F15.ok = true := by kernel_rfl
theorem tr16 : trFn Try.prog A16 F16.keep Try.f16 = some F16 := by kernel_rfl
theorem ok16 : F16.ok = true := by kernel_rfl
theorem tr17 : trFn Try.prog A17 F17.keep Try.f17 = some F17 := by kernel_rfl
theorem ok17 : F17.ok = true := by kernel_rfl
theorem tr18 : trFn Try.prog A18 F18.keep Try.f18 = some F18 := by kernel_rfl
theorem ok18 : F18.ok = true := by kernel_rfl
theorem tr19 : trFn Try.prog A19 F19.keep Try.f19 = some F19 := by kernel_rfl
theorem ok19 : F19.ok = true := by kernel_rfl
theorem tr20 : trFn Try.prog A20 F20.keep Try.f20 = some F20 := by kernel_rfl
theorem ok20 : F20.ok = true := by kernel_rfl
theorem tr21 : trFn Try.prog A21 F21.keep Try.f21 = some F21 := by kernel_rfl
theorem ok21 : F21.ok = true := by kernel_rfl
theorem tr22 : trFn Try.prog A22 F22.keep Try.f22 = some F22 := by kernel_rfl
theorem ok22 : F22.ok = true := by kernel_rfl
theorem tr23 : trFn Try.prog A23 F23.keep Try.f23 = some F23 := by kernel_rfl
theorem ok23 : F23.ok = true := by kernel_rfl
theorem tr24 : trFn Try.prog A24 F24.keep Try.f24 = some F24 := by kernel_rfl
theorem ok24 : F24.ok = true := by kernel_rfl
theorem tr25 : trFn Try.prog A25 F25.keep Try.f25 = some F25 := by kernel_rfl
theorem ok25 : F25.ok = true := by kernel_rfl
theorem tr26 : trFn Try.prog A26 F26.keep Try.f26 = some F26 := by kernel_rfl
theorem ok26 : F26.ok = true := by kernel_rfl
theorem tr27 : trFn Try.prog A27 F27.keep Try.f27 = some F27 := by kernel_rfl
theorem ok27 : F27.ok = true := by kernel_rfl
theorem tr28 : trFn Try.prog A28 F28.keep Try.f28 = some F28 := by kernel_rfl
theorem ok28 : F28.ok = true := by kernel_rfl
theorem tr29 : trFn Try.prog A29 F29.keep Try.f29 = some F29 := by kernel_rfl
theorem ok29 : F29.ok = true := by kernel_rfl
theorem tr30 : trFn Try.prog A30 F30.keep Try.f30 = some F30 := by kernel_rfl
theorem ok30 : F30.ok = true := by kernel_rfl
theorem tr31 : trFn Try.prog A31 F31.keep Try.f31 = some F31 := by kernel_rfl
theorem ok31 : F31.ok = true := by kernel_rfl
theorem tr32 : trFn Try.prog A32 F32.keep Try.f32 = some F32 := by kernel_rfl
theorem ok32 : F32.ok = true := by kernel_rfl
theorem tr33 : trFn Try.prog A33 F33.keep Try.f33 = some F33 := by kernel_rfl
theorem ok33 : F33.ok = true := by kernel_rfl
theorem tr34 : trFn Try.prog A34 F34.keep Try.f34 = some F34 := by kernel_rfl
theorem ok34 : F34.ok = true := by kernel_rfl
theorem tr35 : trFn Try.prog A35 F35.keep Try.f35 = some F35 := by kernel_rfl
theorem ok35 : F35.ok = true := by kernel_rfl
theorem tr36 : trFn Try.prog A36 F36.keep Try.f36 = some F36 := by kernel_rfl
theorem ok36 : F36.ok = true := by kernel_rfl
theorem tr37 : trFn Try.prog A37 F37.keep Try.f37 = some F37 := by kernel_rfl
theorem ok37 : F37.ok = true := by kernel_rfl
theorem tr38 : trFn Try.prog A38 F38.keep Try.f38 = some F38 := by kernel_rfl
theorem ok38 : F38.ok = true := by kernel_rfl
theorem tr39 : trFn Try.prog A39 F39.keep Try.f39 = some F39 := by kernel_rfl
theorem ok39 : F39.ok = true := by kernel_rfl
theorem tr40 : trFn Try.prog A40 F40.keep Try.f40 = some F40 := by kernel_rfl
theorem ok40 : F40.ok = true := by kernel_rfl
theorem tr41 : trFn Try.prog A41 F41.keep Try.f41 = some F41 := by kernel_rfl
theorem ok41 : F41.ok = true := by kernel_rfl
theorem tr42 : trFn Try.prog A42 F42.keep Try.f42 = some F42 := by kernel_rfl
theorem ok42 : F42.ok = true := by kernel_rfl
theorem tr43 : trFn Try.prog A43 F43.keep Try.f43 = some F43 := by kernel_rfl
theorem ok43 : F43.ok = true := by kernel_rfl
theorem tr44 : trFn Try.prog A44 F44.keep Try.f44 = some F44 := by kernel_rfl
theorem ok44 : F44.ok = true := by kernel_rfl
theorem tr45 : trFn Try.prog A45 F45.keep Try.f45 = some F45 := by kernel_rfl
theorem ok45 : F45.ok = true := by kernel_rfl
theorem tr47 : trFn Try.prog A47 F47.keep Try.f47 = some F47 := by kernel_rfl
theorem ok47 : F47.ok = true := by kernel_rfl
theorem tr48 : trFn Try.prog A48 F48.keep Try.f48 = some F48 := by kernel_rfl
theorem ok48 : F48.ok = true := by kernel_rfl
theorem tr49 : trFn Try.prog A49 F49.keep Try.f49 = some F49 := by kernel_rfl
theorem ok49 : F49.ok = true := by kernel_rfl
theorem tr51 : trFn Try.prog A51 F51.keep Try.f51 = some F51 := by kernel_rfl
theorem ok51 : F51.ok = true := by kernel_rfl
theorem tr52 : trFn Try.prog A52 F52.keep Try.f52 = some F52 := by kernel_rfl
theorem ok52 : F52.ok = true := by kernel_rfl
theorem tr53 : trFn Try.prog A53 F53.keep Try.f53 = some F53 := by kernel_rfl
theorem ok53 : F53.ok = true := by kernel_rfl
theorem tr54 : trFn Try.prog A54 F54.keep Try.f54 = some F54 := by kernel_rfl
theorem ok54 : F54.ok = true := by kernel_rfl
theorem tr55 : trFn Try.prog A55 F55.keep Try.f55 = some F55 := by kernel_rfl
theorem ok55 : F55.ok = true := by kernel_rfl
theorem tr56 : trFn Try.prog A56 F56.keep Try.f56 = some F56 := by kernel_rfl
theorem ok56 : F56.ok = true := by kernel_rfl
theorem tr57 : trFn Try.prog A57 F57.keep Try.f57 = some F57 := by kernel_rfl
theorem ok57 : F57.ok = true := by kernel_rfl
theorem tr58 : trFn Try.prog A58 F58.keep Try.f58 = some F58 := by kernel_rfl
theorem ok58 : F58.ok = true := by kernel_rfl
theorem tr59 : trFn Try.prog A59 F59.keep Try.f59 = some F59 := by kernel_rfl
theorem ok59 : F59.ok = true := by kernel_rfl
theorem tr60 : trFn Try.prog A60 F60.keep Try.f60 = some F60 := by kernel_rfl
theorem ok60 : F60.ok = true := by kernel_rfl
theorem tr61 : trFn Try.prog A61 F61.keep Try.f61 = some F61 := by kernel_rfl
theorem ok61 : F61.ok = true := by kernel_rfl
theorem tr62 : trFn Try.prog A62 F62.keep Try.f62 = some F62 := by kernel_rfl
theorem ok62 : F62.ok = true := by kernel_rfl
theorem tr63 : trFn Try.prog A63 F63.keep Try.f63 = some F63 := by kernel_rfl
theorem ok63 : F63.ok = true := by kernel_rfl
theorem tr64 : trFn Try.prog A64 F64.keep Try.f64 = some F64 := by kernel_rfl
theorem ok64 : F64.ok = true := by kernel_rfl
theorem tr65 : trFn Try.prog A65 F65.keep Try.f65 = some F65 := by kernel_rfl
theorem ok65 : F65.ok = true := by kernel_rfl
theorem tr66 : trFn Try.prog A66 F66.keep Try.f66 = some F66 := by kernel_rfl
theorem ok66 : F66.ok = true := by kernel_rfl
theorem tr67 : trFn Try.prog A67 F67.keep Try.f67 = some F67 := by kernel_rfl
theorem ok67 : F67.ok = true := by kernel_rfl
theorem tr68 : trFn Try.prog A68 F68.keep Try.f68 = some F68 := by kernel_rfl
theorem ok68 : F68.ok = true := by kernel_rfl
theorem tr69 : trFn Try.prog A69 F69.keep Try.f69 = some F69 := by kernel_rfl
theorem ok69 : F69.ok = true := by kernel_rfl
theorem tr70 : trFn Try.prog A70 F70.keep Try.f70 = some F70 := by kernel_rfl
theorem ok70 : F70.ok = true := by kernel_rfl
theorem tr71 : trFn Try.prog A71 F71.keep Try.f71 = some F71 := by kernel_rfl
theorem ok71 : F71.ok = true := by kernel_rfl
theorem tr73 : trFn Try.prog A73 F73.keep Try.f73 = some F73 := by kernel_rfl
theorem ok73 : F73.ok = true := by kernel_rfl
theorem tr74 : trFn Try.prog A74 F74.keep Try.f74 = some F74 := by kernel_rfl
theorem ok74 : F74.ok = true := by kernel_rfl
theorem tr75 : trFn Try.prog A75 F75.keep Try.f75 = some F75 := by kernel_rfl
theorem ok75 : F75.ok = true := by kernel_rfl
theorem tr76 : trFn Try.prog A76 F76.keep Try.f76 = some F76 := by kernel_rfl
theorem ok76 : F76.ok = true := by kernel_rfl
theorem tr77 : trFn Try.prog A77 F77.keep Try.f77 = some F77 := by kernel_rfl
theorem ok77 : F77.ok = true := by kernel_rfl
theorem tr78 : trFn Try.prog A78 F78.keep Try.f78 = some F78 := by kernel_rfl
theorem ok78 : F78.ok = true := by kernel_rfl
theorem tr79 : trFn Try.prog A79 F79.keep Try.f79 = some F79 := by kernel_rfl
theorem ok79 : F79.ok = true := by kernel_rfl
theorem tr80 : trFn Try.prog A80 F80.keep Try.f80 = some F80 := by kernel_rfl
theorem ok80 : F80.ok = true := by kernel_rfl
theorem tr81 : trFn Try.prog A81 F81.keep Try.f81 = some F81 := by kernel_rfl
theorem ok81 : F81.ok = true := by kernel_rfl
theorem tr82 : trFn Try.prog A82 F82.keep Try.f82 = some F82 := by kernel_rfl
theorem ok82 : F82.ok = true := by kernel_rfl
theorem tr83 : trFn Try.prog A83 F83.keep Try.f83 = some F83 := by kernel_rfl
theorem ok83 : F83.ok = true := by kernel_rfl
theorem tr84 : trFn Try.prog A84 F84.keep Try.f84 = some F84 := by kernel_rfl
theorem ok84 : F84.ok = true := by kernel_rfl
theorem tr85 : trFn Try.prog A85 F85.keep Try.f85 = some F85 := by kernel_rfl
theorem ok85 : F85.ok = true := by kernel_rfl
theorem tr86 : trFn Try.prog A86 F86.keep Try.f86 = some F86 := by kernel_rfl
theorem ok86 : F86.ok = true := by kernel_rfl
theorem tr87 : trFn Try.prog A87 F87.keep Try.f87 = some F87 := by kernel_rfl
theorem ok87 : F87.ok = true := by kernel_rfl
theorem tr88 : trFn Try.prog A88 F88.keep Try.f88 = some F88 := by kernel_rfl
theorem ok88 : F88.ok = true := by kernel_rfl
theorem tr89 : trFn Try.prog A89 F89.keep Try.f89 = some F89 := by kernel_rfl
theorem ok89 : F89.ok = true := by kernel_rfl
theorem tr90 : trFn Try.prog A90 F90.keep Try.f90 = some F90 := by kernel_rfl
theorem ok90 : F90.ok = true := by kernel_rfl
theorem tr91 : trFn Try.prog A91 F91.keep Try.f91 = some F91 := by kernel_rfl
theorem ok91 : F91.ok = true := by kernel_rfl
theorem tr92 : trFn Try.prog A92 F92.keep Try.f92 = some F92 := by kernel_rfl
theorem ok92 : F92.ok = true := by kernel_rfl
theorem tr93 : trFn Try.prog A93 F93.keep Try.f93 = some F93 := by kernel_rfl
theorem ok93 : F93.ok = true := by kernel_rfl
theorem tr94 : trFn Try.prog A94 F94.keep Try.f94 = some F94 := by kernel_rfl
theorem ok94 : F94.ok = true := by kernel_rfl
theorem tblOk (cx : Cx) (F : Nat → Option VFun) (hF : ∀ f e, F f = some e → match e with | .prim p => ∀ args H r H', p args H = some (r, H') → FnSpec Try.prog cx f args H r H' | .code _ => False) : TblOk Try.prog ⟨cx, (tbl F)⟩ := by
  intro f e h
  simp only at h
  unfold tbl at h
  split at h
  · cases h; exact ⟨_, A3, Try.func3, by kernel_rfl, tr3, ok3⟩
  · cases h; exact ⟨_, A4, Try.func4, by kernel_rfl, tr4, ok4⟩
  · cases h; exact ⟨_, A5, Try.func5, by kernel_rfl, tr5, ok5⟩
  · cases h; exact ⟨_, A6, Try.func6, by kernel_rfl, tr6, ok6⟩
  · cases h; exact ⟨_, A7, Try.func7, by kernel_rfl, tr7, ok7⟩
  · cases h; exact ⟨_, A8, Try.func8, by kernel_rfl, tr8, ok8⟩
  · cases h; exact ⟨_, A9, Try.func9, by kernel_rfl, tr9, ok9⟩
  · cases h; exact ⟨_, A10, Try.func10, by kernel_rfl, tr10, ok10⟩
  · cases h; exact ⟨_, A11, Try.func11, by kernel_rfl, tr11, ok11⟩
  · cases h; exact ⟨_, A12, Try.func12, by kernel_rfl, tr12, ok12⟩
  · cases h; exact ⟨_, A13, Try.func13, by kernel_rfl, tr13, ok13⟩
  · cases h; exact ⟨_, A14, Try.func14, by kernel_rfl, tr14, ok14⟩
  · cases h; exact ⟨_, A15, Try.func15, by kernel_rfl, tr15, ok15⟩
  · cases h; exact ⟨_, A16, Try.func16, by kernel_rfl, tr16, ok16⟩
  · cases h; exact ⟨_, A17, Try.func17, by kernel_rfl, tr17, ok17⟩
  · cases h; exact ⟨_, A18, Try.func18, by kernel_rfl, tr18, ok18⟩
  · cases h; exact ⟨_, A19, Try.func19, by kernel_rfl, tr19, ok19⟩
  · cases h; exact ⟨_, A20, Try.func20, by kernel_rfl, tr20, ok20⟩
  · cases h; exact ⟨_, A21, Try.func21, by kernel_rfl, tr21, ok21⟩
  · cases h; exact ⟨_, A22, Try.func22, by kernel_rfl, tr22, ok22⟩
  · cases h; exact ⟨_, A23, Try.func23, by kernel_rfl, tr23, ok23⟩
  · cases h; exact ⟨_, A24, Try.func24, by kernel_rfl, tr24, ok24⟩
  · cases h; exact ⟨_, A25, Try.func25, by kernel_rfl, tr25, ok25⟩
  · cases h; exact ⟨_, A26, Try.func26, by kernel_rfl, tr26, ok26⟩
  · cases h; exact ⟨_, A27, Try.func27, by kernel_rfl, tr27, ok27⟩
  · cases h; exact ⟨_, A28, Try.func28, by kernel_rfl, tr28, ok28⟩
  · cases h; exact ⟨_, A29, Try.func29, by kernel_rfl, tr29, ok29⟩
  · cases h; exact ⟨_, A30, Try.func30, by kernel_rfl, tr30, ok30⟩
  · cases h; exact ⟨_, A31, Try.func31, by kernel_rfl, tr31, ok31⟩
  · cases h; exact ⟨_, A32, Try.func32, by kernel_rfl, tr32, ok32⟩
  · cases h; exact ⟨_, A33, Try.func33, by kernel_rfl, tr33, ok33⟩
  · cases h; exact ⟨_, A34, Try.func34, by kernel_rfl, tr34, ok34⟩
  · cases h; exact ⟨_, A35, Try.func35, by kernel_rfl, tr35, ok35⟩
  · cases h; exact ⟨_, A36, Try.func36, by kernel_rfl, tr36, ok36⟩
  · cases h; exact ⟨_, A37, Try.func37, by kernel_rfl, tr37, ok37⟩
  · cases h; exact ⟨_, A38, Try.func38, by kernel_rfl, tr38, ok38⟩
  · cases h; exact ⟨_, A39, Try.func39, by kernel_rfl, tr39, ok39⟩
  · cases h; exact ⟨_, A40, Try.func40, by kernel_rfl, tr40, ok40⟩
  · cases h; exact ⟨_, A41, Try.func41, by kernel_rfl, tr41, ok41⟩
  · cases h; exact ⟨_, A42, Try.func42, by kernel_rfl, tr42, ok42⟩
  · cases h; exact ⟨_, A43, Try.func43, by kernel_rfl, tr43, ok43⟩
  · cases h; exact ⟨_, A44, Try.func44, by kernel_rfl, tr44, ok44⟩
  · cases h; exact ⟨_, A45, Try.func45, by kernel_rfl, tr45, ok45⟩
  · cases h; exact ⟨_, A47, Try.func47, by kernel_rfl, tr47, ok47⟩
  · cases h; exact ⟨_, A48, Try.func48, by kernel_rfl, tr48, ok48⟩
  · cases h; exact ⟨_, A49, Try.func49, by kernel_rfl, tr49, ok49⟩
  · cases h; exact ⟨_, A51, Try.func51, by kernel_rfl, tr51, ok51⟩
  · cases h; exact ⟨_, A52, Try.func52, by kernel_rfl, tr52, ok52⟩
  · cases h; exact ⟨_, A53, Try.func53, by kernel_rfl, tr53, ok53⟩
  · cases h; exact ⟨_, A54, Try.func54, by kernel_rfl, tr54, ok54⟩
  · cases h; exact ⟨_, A55, Try.func55, by kernel_rfl, tr55, ok55⟩
  · cases h; exact ⟨_, A56, Try.func56, by kernel_rfl, tr56, ok56⟩
  · cases h; exact ⟨_, A57, Try.func57, by kernel_rfl, tr57, ok57⟩
  · cases h; exact ⟨_, A58, Try.func58, by kernel_rfl, tr58, ok58⟩
  · cases h; exact ⟨_, A59, Try.func59, by kernel_rfl, tr59, ok59⟩
  · cases h; exact ⟨_, A60, Try.func60, by kernel_rfl, tr60, ok60⟩
  · cases h; exact ⟨_, A61, Try.func61, by kernel_rfl, tr61, ok61⟩
  · cases h; exact ⟨_, A62, Try.func62, by kernel_rfl, tr62, ok62⟩
  · cases h; exact ⟨_, A63, Try.func63, by kernel_rfl, tr63, ok63⟩
  · cases h; exact ⟨_, A64, Try.func64, by kernel_rfl, tr64, ok64⟩
  · cases h; exact ⟨_, A65, Try.func65, by kernel_rfl, tr65, ok65⟩
  · cases h; exact ⟨_, A66, Try.func66, by kernel_rfl, tr66, ok66⟩
  · cases h; exact ⟨_, A67, Try.func67, by kernel_rfl, tr67, ok67⟩
  · cases h; exact ⟨_, A68, Try.func68, by kernel_rfl, tr68, ok68⟩
  · cases h; exact ⟨_, A69, Try.func69, by kernel_rfl, tr69, ok69⟩
  · cases h; exact ⟨_, A70, Try.func70, by kernel_rfl, tr70, ok70⟩
  · cases h; exact ⟨_, A71, Try.func71, by kernel_rfl, tr71, ok71⟩
  · cases h; exact ⟨_, A73, Try.func73, by kernel_rfl, tr73, ok73⟩
  · cases h; exact ⟨_, A74, Try.func74, by kernel_rfl, tr74, ok74⟩
  · cases h; exact ⟨_, A75, Try.func75, by kernel_rfl, tr75, ok75⟩
  · cases h; exact ⟨_, A76, Try.func76, by kernel_rfl, tr76, ok76⟩
  · cases h; exact ⟨_, A77, Try.func77, by kernel_rfl, tr77, ok77⟩
  · cases h; exact ⟨_, A78, Try.func78, by kernel_rfl, tr78, ok78⟩
  · cases h; exact ⟨_, A79, Try.func79, by kernel_rfl, tr79, ok79⟩
  · cases h; exact ⟨_, A80, Try.func80, by kernel_rfl, tr80, ok80⟩
  · cases h; exact ⟨_, A81, Try.func81, by kernel_rfl, tr81, ok81⟩
  · cases h; exact ⟨_, A82, Try.func82, by kernel_rfl, tr82, ok82⟩
  · cases h; exact ⟨_, A83, Try.func83, by kernel_rfl, tr83, ok83⟩
  · cases h; exact ⟨_, A84, Try.func84, by kernel_rfl, tr84, ok84⟩
  · cases h; exact ⟨_, A85, Try.func85, by kernel_rfl, tr85, ok85⟩
  · cases h; exact ⟨_, A86, Try.func86, by kernel_rfl, tr86, ok86⟩
  · cases h; exact ⟨_, A87, Try.func87, by kernel_rfl, tr87, ok87⟩
  · cases h; exact ⟨_, A88, Try.func88, by kernel_rfl, tr88, ok88⟩
  · cases h; exact ⟨_, A89, Try.func89, by kernel_rfl, tr89, ok89⟩
  · cases h; exact ⟨_, A90, Try.func90, by kernel_rfl, tr90, ok90⟩
  · cases h; exact ⟨_, A91, Try.func91, by kernel_rfl, tr91, ok91⟩
  · cases h; exact ⟨_, A92, Try.func92, by kernel_rfl, tr92, ok92⟩
  · cases h; exact ⟨_, A93, Try.func93, by kernel_rfl, tr93, ok93⟩
  · cases h; exact ⟨_, A94, Try.func94, by kernel_rfl, tr94, ok94⟩
  · have := hF f e h; split
    · exact this
    · exact absurd this id
end Go.Vm.Typ
