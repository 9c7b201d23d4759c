import Derived.Test.YtbaoljbcdjdnlaaGreatDoorTreCode
import Derived.Test.YtbaoljbcdjdnlaaGreatDoorVmPrimMv
import Derived.KernelRfl
set_option linter.unusedSimpArgs false
set_option linter.unusedVariables false
set_option maxRecDepth 100000
namespace Go.Vm.Tre
open Go Go.Vm
theorem cst5 : F5.body.cst = true := by kernel_rfl
theorem cst6 : F6.body.cst = true := by kernel_rfl
theorem cst8 : F8.body.cst = true := by kernel_rfl
theorem cst10 : F10.body.cst = true := by kernel_rfl
theorem cst13 : F13.body.cst = true := by kernel_rfl
theorem cst15 : F15.body.cst = true := by kernel_rfl
theorem cst16 : F16.body.cst = true := by kernel_rfl
theorem cst17 : F17.body.cst = true := by kernel_rfl
theorem cst18 : F18.body.cst = true := by kernel_rfl
theorem cst19 : F19.body.cst = true := by kernel_rfl
theorem cst20 : F20.body.cst = true := by kernel_rfl
theorem cst21 : F21.body.cst = true := by kernel_rfl
theorem cst23 : F23.body.cst = true := by kernel_rfl
theorem cst25 : F25.body.cst = true := by kernel_rfl
theorem cst26 : F26.body.cst = true := by kernel_rfl
theorem cst27 : F27.body.cst = true := by kernel_rfl
theorem cst28 : F28.body.cst = true := by kernel_rfl
theorem cst29 : F29.body.cst = true := by kernel_rfl
theorem cst30 : F30.body.cst = true := by kernel_rfl
theorem cst31 : F31.body.cst = true := by kernel_rfl
theorem cst32 : F32.body.cst = true := by kernel_rfl
theorem cst33 : F33.body.cst = true := by kernel_rfl
theorem cst34 : F34.body.cst = true := by kernel_rfl
theorem cst35 : F35.body.cst = true := by kernel_rfl
theorem cst36 : F36.body.cst = true := by kernel_rfl
theorem cst37 : F37.body.cst = true := by kernel_rfl
theorem cst38 : F38.body.cst = true := by kernel_rfl
theorem cst39 : F39.body.cst = true := by kernel_rfl
theorem cst40 : F40.body.cst = true := by kernel_rfl
theorem cst41 : F41.body.cst = true := by kernel_rfl
theorem cst45 : F45.body.cst = true := by kernel_rfl
theorem cst48 : F48.body.cst = true := by kernel_rfl
theorem cst57 : F57.body.cst = true := by kernel_rfl
theorem cst58 : F58.body.cst = true := by kernel_rfl
theorem cst59 : F59.body.cst = true := by kernel_rfl
theorem cst60 : F60.body.cst = true := by kernel_rfl
theorem cst61 : F61.body.cst = true := by kernel_rfl
theorem cst62 : F62.body.cst = true := by kernel_rfl
theorem cst63 : F63.body.cst = true := by kernel_rfl
theorem cst64 : F64.body.cst = true := by kernel_rfl
theorem cst65 : F65.body.cst = true := by kernel_rfl
theorem cst66 : F66.body.cst = true := by kernel_rfl
theorem cst67 : F67.body.cst = true := by kernel_rfl
theorem cst68 : F68.body.cst = true := by kernel_rfl
theorem cst70 : F70.body.cst = true := by kernel_rfl
theorem cst71 : F71.body.cst = true := by kernel_rfl
theorem cst74 : F74.body.cst = true := by kernel_rfl
theorem cst75 : F75.body.cst = true := by kernel_rfl
theorem cst76 : F76.body.cst = true := by kernel_rfl
theorem cst77 : F77.body.cst = true := by kernel_rfl
theorem cst78 : F78.body.cst = true := by kernel_rfl
theorem cst81 : F81.body.cst = true := by kernel_rfl
theorem cst82 : F82.body.cst = true := by kernel_rfl
theorem cst83 : F83.body.cst = true := by kernel_rfl
theorem cst85 : F85.body.cst = true := by kernel_rfl
theorem cst86 : F86.body.cst = true := by kernel_rfl
theorem cst88 : F88.body.cst = true := by kernel_rfl
theorem cst89 : F89.body.cst = true := by kernel_rfl
theorem cst90 : F90.body.cst = true := by kernel_rfl
theorem cst92 : F92.body.cst = true := by kernel_rfl
theorem cst95 : F95.body.cst = true := by kernel_rfl
theorem cst96 : F96.body.cst = true := by kernel_rfl
theorem cst97 : F97.body.cst = true := by kernel_rfl
theorem cst98 : F98.body.cst = true := by kernel_rfl
theorem cst99 : F99.body.cst = true := by kernel_rfl
theorem cst100 : F100.body.cst = true := by kernel_rfl
theorem cst101 : F101.body.cst = true := by kernel_rfl
theorem cst102 : F102.body.cst = true := by kernel_rfl
theorem cst105 : F105.body.cst = true := by kernel_rfl
theorem cst106 : F106.body.cst = true := by kernel_rfl
theorem cst107 : F107.body.cst = true := by kernel_rfl
theorem cst112 : F112.body.cst = true := by kernel_rfl
theorem cst113 : F113.body.cst = true := by kernel_rfl
theorem cst114 : F114.body.cst = true := by kernel_rfl
theorem cst115 : F115.body.cst = true := by kernel_rfl
theorem cst116 : F116.body.cst = true := by kernel_rfl
theorem cst119 : F119.body.cst = true := by kernel_rfl
theorem cst125 : F125.body.cst = true := by kernel_rfl
theorem cst126 : F126.body.cst = true := by kernel_rfl
theorem moveOk (cx : Cx) : MoveOk ⟨cx, tbl⟩ := by
  constructor
  · intro f F h
    simp only at h
    unfold tbl at h
    split at h
    · cases h
    · cases h
    · cases h
    · cases h
    · cases h
    · cases h
    · cases h
    · cases h
    · cases h
    · cases h
    · cases h
    · cases h
    · cases h
    · cases h
    · cases h
    · cases h
    · cases h
    · cases h
    · cases h
    · cases h
    · cases h
    · cases h
    · cases h
    · cases h
    · cases h
    · cases h
    · cases h
    · cases h
    · cases h
    · cases h
    · cases h
    · cases h
    · cases h
    · cases h
    · cases h
    · cases h
    · cases h
    · cases h
    · cases h
    · cases h
    · cases h
    · cases h
    · cases h
    · cases h
    · cases h
    · cases h
    · cases h
    · cases h
    · cases h
    · cases h
    · cases h
    · cases h
    · cases h
    · cases h
    · cases h
    · cases h
    · cases h
    · cases h
    · cases h
    · cases h
    · cases h
    · cases h
    · cases h
    · cases h
    · cases h
    · cases h
    · cases h
    · cases h
    · cases h
    · cases h
    · cases h
    · cases h
    · cases h
    · cases h
    · cases h
    · cases h
    · cases h
    · cases h
    · cases h
    · cases h; exact primJoin_mv
    · cases h; exact primFmt_mv
    · cases h; exact primCut_mv
    · cases h; exact primIndexByte_mv
    · cases h
  · intro f vf h
    simp only at h
    unfold tbl at h
    split at h
    · cases h; exact cst5
    · cases h; exact cst6
    · cases h; exact cst8
    · cases h; exact cst10
    · cases h; exact cst13
    · cases h; exact cst15
    · cases h; exact cst16
    · cases h; exact cst17
    · cases h; exact cst18
    · cases h; exact cst19
    · cases h; exact cst20
    · cases h; exact cst21
    · cases h; exact cst23
    · cases h; exact cst25
    · cases h; exact cst26
    · cases h; exact cst27
    · cases h; exact cst28
    · cases h; exact cst29
    · cases h; exact cst30
    · cases h; exact cst31
    · cases h; exact cst32
    · cases h; exact cst33
    · cases h; exact cst34
    · cases h; exact cst35
    · cases h; exact cst36
    · cases h; exact cst37
    · cases h; exact cst38
    · cases h; exact cst39
    · cases h; exact cst40
    · cases h; exact cst41
    · cases h; exact cst45
    · cases h; exact cst48
    · cases h; exact cst57
    · cases h; exact cst58
    · cases h; exact cst59
    · cases h; exact cst60
    · cases h; exact cst61
    · cases h; exact cst62
    · cases h; exact cst63
    · cases h; exact cst64
    · cases h; exact cst65
    · cases h; exact cst66
    · cases h; exact cst67
    · cases h; exact cst68
    · cases h; exact cst70
    · cases h; exact cst71
    · cases h; exact cst74
    · cases h; exact cst75
    · cases h; exact cst76
    · cases h; exact cst77
    · cases h; exact cst78
    · cases h; exact cst81
    · cases h; exact cst82
    · cases h; exact cst83
    · cases h; exact cst85
    · cases h; exact cst86
    · cases h; exact cst88
    · cases h; exact cst89
    · cases h; exact cst90
    · cases h; exact cst92
    · cases h; exact cst95
    · cases h; exact cst96
    · cases h; exact cst97
    · cases h; exact cst98
    · cases h; exact cst99
    · cases h; exact cst100
    · cases h; exact cst101
    · cases h; exact cst102
    · cases h; exact cst105
    · cases h; exact cst106
    · cases h; exact cst107
    · cases h; exact cst112
    · cases h; exact cst113
    · cases h; exact cst114
    · cases h; exact cst115
    · cases h; exact cst116
    · cases h; exact cst119
    · cases h; exact cst125
    · cases h; exact cst126
    · cases h
    · cases h
    · cases h
    · cases h
    · cases h
end Go.Vm.Tre
