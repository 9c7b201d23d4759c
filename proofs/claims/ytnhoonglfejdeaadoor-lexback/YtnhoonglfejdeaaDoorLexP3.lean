import Derived.Test.YtnhoonglfejdeaaDoorLexP5
import Derived.Test.YtnhoonglfejdeaaDoorVmPrimLex
import Derived.Lib.DecodeN
/- Letters: the model's decoder and the document's sizes. -/
namespace Go.Vm.Lex
theorem get_drop (s : List UInt8) (i k : Nat) : ((⟨s.toArray⟩ : ByteArray).get! (i + k)) = (s.drop i).getD k 0 := by
  show (s.toArray)[i + k]! = _
  simp only [List.getElem!_toArray, List.getD_eq_getElem?_getD, List.getElem?_drop]
  rw [getElem!_def]
  cases h : s[i + k]? <;> simp <;> rfl
set_option maxHeartbeats 2000000 in
theorem dec_sz (s : List UInt8) (i : Nat) (hi : i < s.length) : (Utf8.decode ⟨s.toArray⟩ i = (65533, 1) ↔ szL (s.drop i) = 0) ∧ (szL (s.drop i) ≠ 0 → (Utf8.decode ⟨s.toArray⟩ i).2 = szL (s.drop i)) := by
  rw [Lib.decode_at]
  have e0 := get_drop s i 0
  rw [get_drop, get_drop, get_drop]
  rw [Nat.add_zero] at e0
  rw [e0]
  have hsz : (⟨s.toArray⟩ : ByteArray).size - i = (s.drop i).length := by simp [ByteArray.size]
  rw [hsz]
  have hne : s.drop i ≠ [] := by intro h; have := congrArg List.length h; simp at this; omega
  generalize s.drop i = l at hne
  cases l with
  | nil => exact absurd rfl hne
  | cons c r =>
    have b0 := c.toNat_lt
    have hl : (c :: r).length = r.length + 1 := rfl
    rw [hl]
    simp only [List.getD_cons_zero, List.getD_cons_succ]
    have hb : ∀ k, (r.getD k 0).toNat < 256 := fun k => UInt8.toNat_lt _
    have b1 := hb 0; have b2 := hb 1; have b3 := hb 2
    -- what stands behind the lead byte
    have h1 : (hd1 (c :: r)) = r.getD 0 0 := by cases r <;> rfl
    have a2 : ((c :: r).take 2).drop 2 = [] := by simp
    have a3 : (((c :: r).take 3).drop 2).all contB = (decide (r.length < 2) || contB (r.getD 1 0)) := by
      match r with
      | [] => rfl
      | [_] => rfl
      | _ :: x :: t => simp [show ¬ (t.length + 1 + 1 < 2) by omega]
    have a4 : (((c :: r).take 4).drop 2).all contB = ((decide (r.length < 2) || contB (r.getD 1 0)) && (decide (r.length < 3) || contB (r.getD 2 0))) := by
      match r with
      | [] => rfl
      | [_] => rfl
      | [_, x] => simp
      | _ :: x :: y :: t => simp [show ¬ (t.length + 1 + 1 + 1 < 2) by omega, show ¬ (t.length + 1 + 1 + 1 < 3) by omega]
    unfold szL
    rw [if_neg (List.cons_ne_nil _ _), h1]
    simp only [hd0, hl]
    generalize r.getD 0 0 = x1 at *
    generalize r.getD 1 0 = x2 at *
    generalize r.getD 2 0 = x3 at *
    generalize r.length = n at *
    by_cases c1 : c.toNat < 128
    · simp [Lib.decodeN, c1]
      omega
    rw [if_neg c1]
    have hN : szN c = 0 ∧ (c.toNat < 194 ∨ 244 < c.toNat) ∨ szN c = 2 ∧ 194 ≤ c.toNat ∧ c.toNat ≤ 223 ∨ szN c = 3 ∧ 224 ≤ c.toNat ∧ c.toNat ≤ 239 ∨ szN c = 4 ∧ 240 ≤ c.toNat ∧ c.toNat ≤ 244 := by
      unfold szN
      repeat' split
      all_goals omega
    rcases hN with ⟨hN, hc⟩ | ⟨hN, hc⟩ | ⟨hN, hc⟩ | ⟨hN, hc⟩
    · simp only [hN, if_true]
      refine ⟨⟨fun _ => trivial, fun _ => ?_⟩, fun h => absurd rfl h⟩
      unfold Lib.decodeN
      repeat' split
      all_goals first | rfl | (exfalso; omega)
    · simp only [hN, a2, szLo, szHi, List.all_nil, if_true]
      unfold Lib.decodeN
      repeat' split
      all_goals first | (exfalso; omega) | (simp; done) | (simp; omega)
    · simp only [hN, a3, szLo, szHi, contB, Bool.or_eq_true, decide_eq_true_eq]
      unfold Lib.decodeN
      repeat' split
      all_goals first | (exfalso; omega) | (simp; done) | (simp; omega)
    · simp only [hN, a4, szLo, szHi, contB, Bool.or_eq_true, Bool.and_eq_true, decide_eq_true_eq]
      unfold Lib.decodeN
      repeat' split
      all_goals first | (exfalso; omega) | (simp; done) | (simp; omega)
end Go.Vm.Lex
