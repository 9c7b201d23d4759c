import Derived.Test.YtnhoonglfejdeaaDoorProg
import Derived.Test.YtnhoonglfejdeaaDoorVmFn
import Derived.Test.YtnhoonglfejdeaaDoorLexCode
import Derived.KernelRfl
set_option maxRecDepth 100000
namespace Go.Vm.Lex
open Go Go.Vm Go.Proofs
theorem tr3 : trFn Tryd.prog A3 F3.keep Tryd.f3 = some F3 := by kernel_rfl
theorem ok3 : F3.ok = true := by kernel_rfl
theorem tr4 : trFn Tryd.prog A4 F4.keep Tryd.f4 = some F4 := by kernel_rfl
theorem ok4 : F4.ok = true := by kernel_rfl
theorem tr5 : trFn Tryd.prog A5 F5.keep Tryd.f5 = some F5 := by kernel_rfl
theorem ok5 : F5.ok = true := by kernel_rfl
theorem tr6 : trFn Tryd.prog A6 F6.keep Tryd.f6 = some F6 := by kernel_rfl
theorem ok6 : F6.ok = true := by kernel_rfl
theorem tr7 : trFn Tryd.prog A7 F7.keep Tryd.f7 = some F7 := by kernel_rfl
theorem ok7 : F7.ok = true := by kernel_rfl
theorem tr8 : trFn Tryd.prog A8 F8.keep Tryd.f8 = some F8 := by kernel_rfl
theorem ok8 : F8.ok = true := by kernel_rfl
theorem tr9 : trFn Tryd.prog A9 F9.keep Tryd.f9 = some F9 := by kernel_rfl
theorem ok9 : F9.ok = true := by kernel_rfl
theorem tr10 : trFn Tryd.prog A10 F10.keep Tryd.f10 = some F10 := by kernel_rfl
theorem ok10 : F10.ok = true := by kernel_rfl
theorem tr11 : trFn Tryd.prog A11 F11.keep Tryd.f11 = some F11 := by kernel_rfl
theorem ok11 : F11.ok = true := by kernel_rfl
theorem tr12 : trFn Tryd.prog A12 F12.keep Tryd.f12 = some F12 := by kernel_rfl
theorem ok12 : F12.ok = true := by kernel_rfl
theorem tr13 : trFn Tryd.prog A13 F13.keep Tryd.f13 = some F13 := by kernel_rfl
theorem ok13 : F13.ok = true := by kernel_rfl
theorem tr14 : trFn Tryd.prog A14 F14.keep Tryd.f14 = some F14 := by kernel_rfl
theorem ok14 : F14.ok = true := by kernel_rfl
theorem tr15 : trFn Tryd.prog A15 F15.keep Tryd.f15 = some F15 := by kernel_rfl
theorem ok15 : F15.ok = true := by kernel_rfl
theorem tr16 : trFn Tryd.prog A16 F16.keep Tryd.f16 = some F16 := by kernel_rfl
theorem ok16 : F16.ok = true := by kernel_rfl
theorem tr17 : trFn Tryd.prog A17 F17.keep Tryd.f17 = some F17 := by kernel_rfl
theorem ok17 : F17.ok = true := by kernel_rfl
theorem tr18 : trFn Tryd.prog A18 F18.keep Tryd.f18 = some F18 := by kernel_rfl
theorem ok18 : F18.ok = true := by kernel_rfl
theorem tr19 : trFn Tryd.prog A19 F19.keep Tryd.f19 = some F19 := by kernel_rfl
theorem ok19 : F19.ok = true := by kernel_rfl
theorem tr20 : trFn Tryd.prog A20 F20.keep Tryd.f20 = some F20 := by kernel_rfl
theorem ok20 : F20.ok = true := by kernel_rfl
theorem tr21 : trFn Tryd.prog A21 F21.keep Tryd.f21 = some F21 := by kernel_rfl
theorem ok21 : F21.ok = true := by kernel_rfl
theorem tr22 : trFn Tryd.prog A22 F22.keep Tryd.f22 = some F22 := by kernel_rfl
theorem ok22 : F22.ok = true := by kernel_rfl
theorem tr24 : trFn Tryd.prog A24 F24.keep Tryd.f24 = some F24 := by kernel_rfl
theorem ok24 : F24.ok = true := by kernel_rfl
theorem tr25 : trFn Tryd.prog A25 F25.keep Tryd.f25 = some F25 := by kernel_rfl
theorem ok25 : F25.ok = true := by kernel_rfl
theorem tr26 : trFn Tryd.prog A26 F26.keep Tryd.f26 = some F26 := by kernel_rfl
theorem ok26 : F26.ok = true := by kernel_rfl
theorem tr27 : trFn Tryd.prog A27 F27.keep Tryd.f27 = some F27 := by kernel_rfl
theorem ok27 : F27.ok = true := by kernel_rfl
theorem tr28 : trFn Tryd.prog A28 F28.keep Tryd.f28 = some F28 := by kernel_rfl
theorem ok28 : F28.ok = true := by kernel_rfl
theorem tr29 : trFn Tryd.prog A29 F29.keep Tryd.f29 = some F29 := by kernel_rfl
theorem ok29 : F29.ok = true := by kernel_rfl
theorem tr30 : trFn Tryd.prog A30 F30.keep Tryd.f30 = some F30 := by kernel_rfl
theorem ok30 : F30.ok = true := by kernel_rfl
theorem tr31 : trFn Tryd.prog A31 F31.keep Tryd.f31 = some F31 := by kernel_rfl
theorem ok31 : F31.ok = true := by kernel_rfl
theorem tr32 : trFn Tryd.prog A32 F32.keep Tryd.f32 = some F32 := by kernel_rfl
theorem ok32 : F32.ok = true := by kernel_rfl
theorem tr33 : trFn Tryd.prog A33 F33.keep Tryd.f33 = some F33 := by kernel_rfl
theorem ok33 : F33.ok = true := by kernel_rfl
theorem tr34 : trFn Tryd.prog A34 F34.keep Tryd.f34 = some F34 := by kernel_rfl
theorem ok34 : F34.ok = true := by kernel_rfl
theorem tr35 : trFn Tryd.prog A35 F35.keep Tryd.f35 = some F35 := by kernel_rfl
theorem ok35 : F35.ok = true := by kernel_rfl
theorem tr36 : trFn Tryd.prog A36 F36.keep Tryd.f36 = some F36 := by kernel_rfl
theorem ok36 : F36.ok = true := by kernel_rfl
theorem tr37 : trFn Tryd.prog A37 F37.keep Tryd.f37 = some F37 := by kernel_rfl
theorem ok37 : F37.ok = true := by kernel_rfl
theorem tr38 : trFn Tryd.prog A38 F38.keep Tryd.f38 = some F38 := by kernel_rfl
theorem ok38 : F38.ok = true := by kernel_rfl
theorem tr40 : trFn Tryd.prog A40 F40.keep Tryd.f40 = some F40 := by kernel_rfl
theorem ok40 : F40.ok = true := by kernel_rfl
theorem tr46 : trFn Tryd.prog A46 F46.keep Tryd.f46 = some F46 := by kernel_rfl
theorem ok46 : F46.ok = true := by kernel_rfl
theorem tr47 : trFn Tryd.prog A47 F47.keep Tryd.f47 = some F47 := by kernel_rfl
theorem ok47 : F47.ok = true := by kernel_rfl
theorem tr48 : trFn Tryd.prog A48 F48.keep Tryd.f48 = some F48 := by kernel_rfl
theorem ok48 : F48.ok = true := by kernel_rfl
theorem tr49 : trFn Tryd.prog A49 F49.keep Tryd.f49 = some F49 := by kernel_rfl
theorem ok49 : F49.ok = true := by kernel_rfl
theorem tr50 : trFn Tryd.prog A50 F50.keep Tryd.f50 = some F50 := by kernel_rfl
theorem ok50 : F50.ok = true := by kernel_rfl
theorem tr51 : trFn Tryd.prog A51 F51.keep Tryd.f51 = some F51 := by kernel_rfl
theorem ok51 : F51.ok = true := by kernel_rfl
theorem tr64 : trFn Tryd.prog A64 F64.keep Tryd.f64 = some F64 := by kernel_rfl
theorem ok64 : F64.ok = true := by kernel_rfl
theorem tblOk (cx : Cx) (h23 : ∀ args H r H', primUtf args H = some (r, H') → FnSpec Tryd.prog cx 23 args H r H') (h39 : ∀ args H r H', primJoin args H = some (r, H') → FnSpec Tryd.prog cx 39 args H r H') (h41 : ∀ args H r H', primCount1 args H = some (r, H') → FnSpec Tryd.prog cx 41 args H r H') (h42 : ∀ args H r H', primLastIndexByte args H = some (r, H') → FnSpec Tryd.prog cx 42 args H r H') (h43 : ∀ args H r H', primDecode args H = some (r, H') → FnSpec Tryd.prog cx 43 args H r H') (h44 : ∀ args H r H', primIndexByte args H = some (r, H') → FnSpec Tryd.prog cx 44 args H r H') (h45 : ∀ args H r H', primHasPrefix args H = some (r, H') → FnSpec Tryd.prog cx 45 args H r H') (h52 : ∀ args H r H', primFmt args H = some (r, H') → FnSpec Tryd.prog cx 52 args H r H') (h63 : ∀ args H r H', primParse args H = some (r, H') → FnSpec Tryd.prog cx 63 args H r H') : TblOk Tryd.prog ⟨cx, tbl⟩ := by
  intro f e h
  simp only at h
  unfold tbl at h
  split at h
  · cases h; exact ⟨_, A3, Tryd.func3, by kernel_rfl, tr3, ok3⟩
  · cases h; exact ⟨_, A4, Tryd.func4, by kernel_rfl, tr4, ok4⟩
  · cases h; exact ⟨_, A5, Tryd.func5, by kernel_rfl, tr5, ok5⟩
  · cases h; exact ⟨_, A6, Tryd.func6, by kernel_rfl, tr6, ok6⟩
  · cases h; exact ⟨_, A7, Tryd.func7, by kernel_rfl, tr7, ok7⟩
  · cases h; exact ⟨_, A8, Tryd.func8, by kernel_rfl, tr8, ok8⟩
  · cases h; exact ⟨_, A9, Tryd.func9, by kernel_rfl, tr9, ok9⟩
  · cases h; exact ⟨_, A10, Tryd.func10, by kernel_rfl, tr10, ok10⟩
  · cases h; exact ⟨_, A11, Tryd.func11, by kernel_rfl, tr11, ok11⟩
  · cases h; exact ⟨_, A12, Tryd.func12, by kernel_rfl, tr12, ok12⟩
  · cases h; exact ⟨_, A13, Tryd.func13, by kernel_rfl, tr13, ok13⟩
  · cases h; exact ⟨_, A14, Tryd.func14, by kernel_rfl, tr14, ok14⟩
  · cases h; exact ⟨_, A15, Tryd.func15, by kernel_rfl, tr15, ok15⟩
  · cases h; exact ⟨_, A16, Tryd.func16, by kernel_rfl, tr16, ok16⟩
  · cases h; exact ⟨_, A17, Tryd.func17, by kernel_rfl, tr17, ok17⟩
  · cases h; exact ⟨_, A18, Tryd.func18, by kernel_rfl, tr18, ok18⟩
  · cases h; exact ⟨_, A19, Tryd.func19, by kernel_rfl, tr19, ok19⟩
  · cases h; exact ⟨_, A20, Tryd.func20, by kernel_rfl, tr20, ok20⟩
  · cases h; exact ⟨_, A21, Tryd.func21, by kernel_rfl, tr21, ok21⟩
  · cases h; exact ⟨_, A22, Tryd.func22, by kernel_rfl, tr22, ok22⟩
  · cases h; exact ⟨_, A24, Tryd.func24, by kernel_rfl, tr24, ok24⟩
  · cases h; exact ⟨_, A25, Tryd.func25, by kernel_rfl, tr25, ok25⟩
  · cases h; exact ⟨_, A26, Tryd.func26, by kernel_rfl, tr26, ok26⟩
  · cases h; exact ⟨_, A27, Tryd.func27, by kernel_rfl, tr27, ok27⟩
  · cases h; exact ⟨_, A28, Tryd.func28, by kernel_rfl, tr28, ok28⟩
  · cases h; exact ⟨_, A29, Tryd.func29, by kernel_rfl, tr29, ok29⟩
  · cases h; exact ⟨_, A30, Tryd.func30, by kernel_rfl, tr30, ok30⟩
  · cases h; exact ⟨_, A31, Tryd.func31, by kernel_rfl, tr31, ok31⟩
  · cases h; exact ⟨_, A32, Tryd.func32, by kernel_rfl, tr32, ok32⟩
  · cases h; exact ⟨_, A33, Tryd.func33, by kernel_rfl, tr33, ok33⟩
  · cases h; exact ⟨_, A34, Tryd.func34, by kernel_rfl, tr34, ok34⟩
  · cases h; exact ⟨_, A35, Tryd.func35, by kernel_rfl, tr35, ok35⟩
  · cases h; exact ⟨_, A36, Tryd.func36, by kernel_rfl, tr36, ok36⟩
  · cases h; exact ⟨_, A37, Tryd.func37, by kernel_rfl, tr37, ok37⟩
  · cases h; exact ⟨_, A38, Tryd.func38, by kernel_rfl, tr38, ok38⟩
  · cases h; exact ⟨_, A40, Tryd.func40, by kernel_rfl, tr40, ok40⟩
  · cases h; exact ⟨_, A46, Tryd.func46, by kernel_rfl, tr46, ok46⟩
  · cases h; exact ⟨_, A47, Tryd.func47, by kernel_rfl, tr47, ok47⟩
  · cases h; exact ⟨_, A48, Tryd.func48, by kernel_rfl, tr48, ok48⟩
  · cases h; exact ⟨_, A49, Tryd.func49, by kernel_rfl, tr49, ok49⟩
  · cases h; exact ⟨_, A50, Tryd.func50, by kernel_rfl, tr50, ok50⟩
  · cases h; exact ⟨_, A51, Tryd.func51, by kernel_rfl, tr51, ok51⟩
  · cases h; exact ⟨_, A64, Tryd.func64, by kernel_rfl, tr64, ok64⟩
  · cases h; exact h23
  · cases h; exact h39
  · cases h; exact h41
  · cases h; exact h42
  · cases h; exact h43
  · cases h; exact h44
  · cases h; exact h45
  · cases h; exact h52
  · cases h; exact h63
  · cases h
end Go.Vm.Lex
