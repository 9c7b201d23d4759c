import Derived.Tactics
import Derived.Tactics2
import Derived.StillTactics
import Derived.Laws.AppendOwn
import Derived.Laws.Runes
import Derived.Laws.CopyRow
import Derived.Laws.Shifts
import Derived.Laws.Rows
import Derived.Laws.BitsLemmas
import Derived.Laws.Tables
import Derived.Laws.NewBlocks
import Derived.Laws.Unary
import Derived.Laws.Strings
import Derived.Laws.NewFold
import Derived.Laws.ShiftsVarLaws
import Derived.Laws.Bits
import Derived.Laws.Alloc2
import Derived.Laws.Bits128
import Derived.Laws.Strings2
import Derived.Laws.Wrap64
import Derived.Laws.ShiftsVar
import Derived.Laws.Closers25
import Derived.Laws.RangeString
import Derived.Laws.Concat
import Derived.Laws.Cells
import Derived.Laws.NewDeep
import Derived.Laws.Pointers
import Derived.Laws.StructEq
import Derived.Laws.Closers25b
import Derived.Laws.StandIn
import Derived.Laws.Bits64b
import Derived.Laws.LoneSync
import Derived.Laws.ByValue
import Derived.Laws.MathBits
import Derived.Laws.Externs
import Derived.Laws.BitsAll
import Derived.Laws.BitsAllLaws
import Derived.Laws.Bits64
import Derived.Laws.OwnMore
import Derived.Laws.Build
import Derived.Laws.ResultCell
import Derived.Laws.Entries
import Derived.Laws.Append
import Derived.Laws.RangeAny
import Derived.Laws.World
import Derived.Laws.Strings3
import Derived.Laws.Sem
import Derived.Laws.Slices
import Derived.Laws.MakeOwn
import Derived.Laws.Small
import Derived.Laws.BytesString
import Derived.Scope
import Derived.FnLit
import Derived.LoopTactic
import Derived.Test.YtnhoonglfejdeaaDoorLexShelf
import Derived.Test.YtnhoonglfejdeaaDoorVmPrimLex
import Derived.Lib.OthersKept
import Derived.Lib.TrimU
import Derived.Below
set_option linter.unusedSimpArgs false
namespace Go.Proofs.LexUtf
open Go.Vm (utfAt) 
open Go.RowKit
theorem utf_end (s : ByteArray) (f pos : Nat) (h : ¬ pos < s.size) : utfAt s f pos = -1 := by
  cases f with
  | zero => rfl
  | succ f => simp [utfAt, h]
theorem dec_tail (s : ByteArray) (pos : Nat) (h : pos < s.size) : Lib.decodeGo (s.extract pos s.size) = Utf8.decode s pos := by
  have hg : ∀ k, (s.extract pos s.size).get! (0 + k) = s.get! (pos + k) := by
    intro k
    show (s.extract pos s.size).data[0 + k]! = s.data[pos + k]!
    rw [getElem!_def, getElem!_def]
    have : (s.extract pos s.size).data[0 + k]? = s.data[pos + k]? := by
      rw [ByteArray.data_extract, Array.getElem?_extract]
      rw [Nat.zero_add]
      by_cases hk : k < s.data.size - pos
      · rw [if_pos (by show k < min s.size s.data.size - pos; have : s.size = s.data.size := rfl; omega)]
      · rw [if_neg (by show ¬ k < min s.size s.data.size - pos; have : s.size = s.data.size := rfl; omega), Array.getElem?_eq_none (by omega)]
    rw [this]
  have hsz : (s.extract pos s.size).size = s.size - pos := by simp
  have hne : ¬ (s.extract pos s.size).size = 0 := by omega
  unfold Lib.decodeGo
  rw [if_neg hne, Lib.decode_at, Lib.decode_at, hsz]
  have h0 := hg 0
  simp only [Nat.add_zero, Nat.sub_zero] at h0 ⊢
  rw [h0, hg 1, hg 2, hg 3]
set_option maxHeartbeats 2000000 in
set_option maxRecDepth 1000000 in
theorem walk (s : ByteArray) (w : World) (hT : Lib.Utf8Tabs 1 2 w) :
    Calls Tryd.prog 23 #[.string s] w fun e w' => e = .returned (.int .i64 (utfAt s s.size 0)) ∧ Below w.heap.size w w' := by
  go_enter Tryd.func23, Tryd.ntmps23
  go_wp2
  go_loopg [] s.size (fun gf wx => ∃ pos : Nat, wx.heap[w.heap.size]? = some (.stringIter s pos) ∧ Below w.heap.size w wx ∧ utfAt s gf pos = utfAt s s.size 0 ∧ s.size ≤ pos + gf)
  case atStart => exact ⟨0, World.iter_heap w s 0, (Below.refl _ w).alloc (Nat.le_refl _) _, rfl, by omega⟩
  case round =>
    obtain ⟨pos, hit, hbw, hleft, hfu⟩ := hrel
    by_cases hps : pos < s.size
    · obtain ⟨g', rfl⟩ : ∃ g', gk = g' + 1 := ⟨gk - 1, by omega⟩
      have hnx : ∀ ty, (Instr.next (.pointer (some ⟨w.heap.size, 0, none⟩)) true ty).run Tryd.prog wr = _ := fun ty => Lib.run_next_any_at wr w.heap.size s pos ty hit hps
      have hwd := Lib.width_pos s pos
      have hdt := dec_tail s pos hps
      have hun : utfAt s (g' + 1) pos = if Utf8.decode s pos = (65533, 1) then (pos : Int) else utfAt s g' (pos + (Utf8.decode s pos).2) := by
        show (if pos < s.size then _ else _) = _
        rw [if_pos hps]
      rw [hun] at hleft
      clear hun
      obtain ⟨R, hR⟩ : ∃ R, (Utf8.decode s pos).1 = R := ⟨_, rfl⟩
      obtain ⟨K, hK⟩ : ∃ K, (Utf8.decode s pos).2 = K := ⟨_, rfl⟩
      have hRK : Utf8.decode s pos = (R, K) := by rw [← hR, ← hK]
      rw [hRK] at hnx hwd hdt hleft
      clear hR hK hRK
      simp only at hwd hleft
      have hit2 := Lib.iterAt_heap wr w.heap.size s pos (pos + K) hit
      have hbw2 := Lib.below_iterAt hbw (k := w.heap.size) (Nat.le_refl _) s (pos + K)
      obtain ⟨W, hWd⟩ : ∃ W, wr.iterAt w.heap.size s (pos + K) = W := ⟨_, rfl⟩
      simp only at hnx
      rw [hWd] at hnx hit2 hbw2
      have hltW : w.heap.size < W.heap.size := (Array.getElem?_eq_some_iff.1 hit2).1
      have hTW : Lib.Utf8Tabs 1 2 W := by
        exact Utf8Tabs_below hT hbw2
      have cS := Tryd.utf8_DecodeRuneInString (s.extract pos s.size) W hTW
      rw [hdt] at cS
      clear hdt hTW hT hWd
      go_wp2_with (go_at_call 43; refine cS.mono ?_; rintro e W' ⟨rfl, hbc⟩)
      · have e : (R, K) = (65533, 1) := by
          have h1 : (R : Int) = 65533 := by simpa using (show ((R : Int) == 65533) = true by assumption)
          have h2 : (K : Int) = 1 := by simpa using (show ((K : Int) == 1) = true by assumption)
          rw [Prod.mk.injEq]; omega
        rw [if_pos e] at hleft
        go_ret
        exact ⟨by rw [← hleft] <;> rfl, hbw2.trans (hbc.mono hbw2.size)⟩
      · have e : ¬ (R, K) = (65533, 1) := by
          have h2 : ¬ (K : Int) = 1 := by simpa using (show ((K : Int) == 1) = false by assumption)
          rw [Prod.mk.injEq]; omega
        rw [if_neg e] at hleft
        go_roundg g'
        case measure => omega
        case rel => exact ⟨pos + K, (hbc.block _ hltW).trans hit2, hbw2.trans (hbc.mono hbw2.size), hleft, by omega⟩
      · have e : ¬ (R, K) = (65533, 1) := by
          have h1 : ¬ (R : Int) = 65533 := by simpa using (show ((R : Int) == 65533) = false by assumption)
          rw [Prod.mk.injEq]; omega
        rw [if_neg e] at hleft
        go_roundg g'
        case measure => omega
        case rel => exact ⟨pos + K, hit2, hbw2, hleft, by omega⟩
    · have hnx : ∀ ty, (Instr.next (.pointer (some ⟨w.heap.size, 0, none⟩)) true ty).run Tryd.prog wr = _ := fun ty => Lib.run_next_end_at wr w.heap.size s pos ty hit hps
      rw [utf_end s gk pos hps] at hleft
      go_wp2
      go_ret
      exact ⟨by rw [← hleft] <;> rfl, hbw⟩
end Go.Proofs.LexUtf
