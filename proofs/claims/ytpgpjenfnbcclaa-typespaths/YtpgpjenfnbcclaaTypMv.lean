import Derived.Test.YtpgpjenfnbcclaaTypCode
import Derived.Test.YtpgpjenfnbcclaaVmClone
import Derived.KernelRfl
set_option linter.unusedSimpArgs false
set_option linter.unusedVariables false
set_option maxRecDepth 100000
namespace Go.Vm.Typ
open Go Go.Vm
theorem cst3 : F3.body.cst = true := by kernel_rfl
theorem cst4 : F4.body.cst = true := by kernel_rfl
theorem cst5 : F5.body.cst = true := by kernel_rfl
theorem cst6 : F6.body.cst = true := by kernel_rfl
theorem cst7 : F7.body.cst = true := by kernel_rfl
theorem cst8 : F8.body.cst = true := by kernel_rfl
theorem cst9 : F9.body.cst = true := by kernel_rfl
theorem cst10 : F10.body.cst = true := by kernel_rfl
theorem cst11 : F11.body.cst = true := by kernel_rfl
theorem cst12 : F12.body.cst = true := by kernel_rfl
theorem cst13 : F13.body.cst = true := by kernel_rfl
theorem cst14 : F14.body.cst = true := by kernel_rfl
theorem cst15 : F15.body.cst = true := by kernel_rfl
theorem cst16 : F16.body.cst = true := by kernel_rfl
theorem cst17 : F17.body.cst = true := by kernel_rfl
theorem cst18 : F18.body.cst = true := by kernel_rfl
theorem cst19 : F19.body.cst = true := by kernel_rfl
theorem cst20 : F20.body.cst = true := by kernel_rfl
theorem cst21 : F21.body.cst = true := by kernel_rfl
theorem cst22 : F22.body.cst = true := by kernel_rfl
theorem cst23 : F23.body.cst = true := by kernel_rfl
theorem cst24 : F24.body.cst = true := by kernel_rfl
theorem cst25 : F25.body.cst = true := by kernel_rfl
theorem cst26 : F26.body.cst = true := by kernel_rfl
theorem cst27 : F27.body.cst = true := by kernel_rfl
theorem cst28 : F28.body.cst = true := by kernel_rfl
theorem cst29 : F29.body.cst = true := by kernel_rfl
theorem cst30 : F30.body.cst = true := by kernel_rfl
theorem cst31 : F31.body.cst = true := by kernel_rfl
theorem cst32 : F32.body.cst = true := by kernel_rfl
theorem cst33 : F33.body.cst = true := by kernel_rfl
theorem cst34 : F34.body.cst = true := by kernel_rfl
theorem cst35 : F35.body.cst = true := by kernel_rfl
theorem cst36 : F36.body.cst = true := by kernel_rfl
theorem cst37 : F37.body.cst = true := by kernel_rfl
theorem cst38 : F38.body.cst = true := by kernel_rfl
theorem cst39 : F39.body.cst = true := by kernel_rfl
theorem cst40 : F40.body.cst = true := by kernel_rfl
theorem cst41 : F41.body.cst = true := by kernel_rfl
theorem cst42 : F42.body.cst = true := by kernel_rfl
theorem cst43 : F43.body.cst = true := by kernel_rfl
theorem cst44 : F44.body.cst = true := by kernel_rfl
theorem cst45 : F45.body.cst = true := by kernel_rfl
theorem cst47 : F47.body.cst = true := by kernel_rfl
theorem cst48 : F48.body.cst = true := by kernel_rfl
theorem cst49 : F49.body.cst = true := by kernel_rfl
theorem cst51 : F51.body.cst = true := by kernel_rfl
theorem cst52 : F52.body.cst = true := by kernel_rfl
theorem cst53 : F53.body.cst = true := by kernel_rfl
theorem cst54 : F54.body.cst = true := by kernel_rfl
theorem cst55 : F55.body.cst = true := by kernel_rfl
theorem cst56 : F56.body.cst = true := by kernel_rfl
theorem cst57 : F57.body.cst = true := by kernel_rfl
theorem cst58 : F58.body.cst = true := by kernel_rfl
theorem cst59 : F59.body.cst = true := by kernel_rfl
theorem cst60 : F60.body.cst = true := by kernel_rfl
theorem cst61 : F61.body.cst = true := by kernel_rfl
theorem cst62 : F62.body.cst = true := by kernel_rfl
theorem cst63 : F63.body.cst = true := by kernel_rfl
theorem cst64 : F64.body.cst = true := by kernel_rfl
theorem cst65 : F65.body.cst = true := by kernel_rfl
theorem cst66 : F66.body.cst = true := by kernel_rfl
theorem cst67 : F67.body.cst = true := by kernel_rfl
theorem cst68 : F68.body.cst = true := by kernel_rfl
theorem cst69 : F69.body.cst = true := by kernel_rfl
theorem cst70 : F70.body.cst = true := by kernel_rfl
theorem cst71 : F71.body.cst = true := by kernel_rfl
theorem cst73 : F73.body.cst = true := by kernel_rfl
theorem cst74 : F74.body.cst = true := by kernel_rfl
theorem cst75 : F75.body.cst = true := by kernel_rfl
theorem cst76 : F76.body.cst = true := by kernel_rfl
theorem cst77 : F77.body.cst = true := by kernel_rfl
theorem cst78 : F78.body.cst = true := by kernel_rfl
theorem cst79 : F79.body.cst = true := by kernel_rfl
theorem cst80 : F80.body.cst = true := by kernel_rfl
theorem cst81 : F81.body.cst = true := by kernel_rfl
theorem cst82 : F82.body.cst = true := by kernel_rfl
theorem cst83 : F83.body.cst = true := by kernel_rfl
theorem cst84 : F84.body.cst = true := by kernel_rfl
theorem cst85 : F85.body.cst = true := by kernel_rfl
theorem cst86 : F86.body.cst = true := by kernel_rfl
theorem cst87 : F87.body.cst = true := by kernel_rfl
theorem cst88 : F88.body.cst = true := by kernel_rfl
theorem cst89 : F89.body.cst = true := by kernel_rfl
theorem cst90 : F90.body.cst = true := by kernel_rfl
theorem cst91 : F91.body.cst = true := by kernel_rfl
theorem cst92 : F92.body.cst = true := by kernel_rfl
theorem cst93 : F93.body.cst = true := by kernel_rfl
theorem cst94 : F94.body.cst = true := by kernel_rfl
theorem moveOk (cx : Cx) (F : Nat → Option VFun) (hF : ∀ f e, F f = some e → match e with | .prim p => PrimOk p | .code _ => False) : MoveOk ⟨cx, (tbl F)⟩ := by
  constructor
  · intro f F h
    simp only at h
    unfold tbl at h
    split at h
    · cases h
    · cases h
    · cases h
    · cases h
    · cases h
    · cases h
    · cases h
    · cases h
    · cases h
    · cases h
    · cases h
    · cases h
    · cases h
    · cases h
    · cases h
    · cases h
    · cases h
    · cases h
    · cases h
    · cases h
    · cases h
    · cases h
    · cases h
    · cases h
    · cases h
    · cases h
    · cases h
    · cases h
    · cases h
    · cases h
    · cases h
    · cases h
    · cases h
    · cases h
    · cases h
    · cases h
    · cases h
    · cases h
    · cases h
    · cases h
    · cases h
    · cases h
    · cases h
    · cases h
    · cases h
    · cases h
    · cases h
    · cases h
    · cases h
    · cases h
    · cases h
    · cases h
    · cases h
    · cases h
    · cases h
    · cases h
    · cases h
    · cases h
    · cases h
    · cases h
    · cases h
    · cases h
    · cases h
    · cases h
    · cases h
    · cases h
    · cases h
    · cases h
    · cases h
    · cases h
    · cases h
    · cases h
    · cases h
    · cases h
    · cases h
    · cases h
    · cases h
    · cases h
    · cases h
    · cases h
    · cases h
    · cases h
    · cases h
    · cases h
    · cases h
    · cases h
    · cases h
    · cases h
    · cases h
    · exact hF _ _ h
  · intro f vf h
    simp only at h
    unfold tbl at h
    split at h
    · cases h; exact cst3
    · cases h; exact cst4
    · cases h; exact cst5
    · cases h; exact cst6
    · cases h; exact cst7
    · cases h; exact cst8
    · cases h; exact cst9
    · cases h; exact cst10
    · cases h; exact cst11
    · cases h; exact cst12
    · cases h; exact cst13
    · cases h; exact cst14
    · cases h; exact cst15
    · cases h; exact cst16
    · cases h; exact cst17
    · cases h; exact cst18
    · cases h; exact cst19
    · cases h; exact cst20
    · cases h; exact cst21
    · cases h; exact cst22
    · cases h; exact cst23
    · cases h; exact cst24
    · cases h; exact cst25
    · cases h; exact cst26
    · cases h; exact cst27
    · cases h; exact cst28
    · cases h; exact cst29
    · cases h; exact cst30
    · cases h; exact cst31
    · cases h; exact cst32
    · cases h; exact cst33
    · cases h; exact cst34
    · cases h; exact cst35
    · cases h; exact cst36
    · cases h; exact cst37
    · cases h; exact cst38
    · cases h; exact cst39
    · cases h; exact cst40
    · cases h; exact cst41
    · cases h; exact cst42
    · cases h; exact cst43
    · cases h; exact cst44
    · cases h; exact cst45
    · cases h; exact cst47
    · cases h; exact cst48
    · cases h; exact cst49
    · cases h; exact cst51
    · cases h; exact cst52
    · cases h; exact cst53
    · cases h; exact cst54
    · cases h; exact cst55
    · cases h; exact cst56
    · cases h; exact cst57
    · cases h; exact cst58
    · cases h; exact cst59
    · cases h; exact cst60
    · cases h; exact cst61
    · cases h; exact cst62
    · cases h; exact cst63
    · cases h; exact cst64
    · cases h; exact cst65
    · cases h; exact cst66
    · cases h; exact cst67
    · cases h; exact cst68
    · cases h; exact cst69
    · cases h; exact cst70
    · cases h; exact cst71
    · cases h; exact cst73
    · cases h; exact cst74
    · cases h; exact cst75
    · cases h; exact cst76
    · cases h; exact cst77
    · cases h; exact cst78
    · cases h; exact cst79
    · cases h; exact cst80
    · cases h; exact cst81
    · cases h; exact cst82
    · cases h; exact cst83
    · cases h; exact cst84
    · cases h; exact cst85
    · cases h; exact cst86
    · cases h; exact cst87
    · cases h; exact cst88
    · cases h; exact cst89
    · cases h; exact cst90
    · cases h; exact cst91
    · cases h; exact cst92
    · cases h; exact cst93
    · cases h; exact cst94
    · exact absurd (hF _ _ h) id
end Go.Vm.Typ
