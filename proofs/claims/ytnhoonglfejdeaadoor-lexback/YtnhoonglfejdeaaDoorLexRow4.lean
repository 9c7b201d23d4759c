import Derived.Test.YtnhoonglfejdeaaDoorLexRow
import Derived.Test.YtnhoonglfejdeaaDoorLexW13
import Derived.SizedLaws
import Derived.Test.YtnhoonglfejdeaaDoorLexW16
namespace Go.Proofs.YtnhoonglfejdeaaDoor
open Go Go.Vm Go.ChangeShapes Go.WideShapes Go.ChangeAt Go.RowKit
set_option maxRecDepth 100000
theorem under3 : Tryd.prog.underlying 3 = some (.int .i64) := by kernel_rfl
theorem fields32 : (fieldsOf Tryd.prog 32).map (·.map Tryd.prog.underlying) = some [some (.int .i64), some .string, some (.int .i64), some (.int .i64), some (.int .i64)] := by kernel_rfl
theorem i64_of {n : Int} (h : (Lit.int .i64 n).wf = true) : -9223372036854775808 ≤ n ∧ n ≤ 9223372036854775807 := by
  have e1 : IntKind.i64.min = -9223372036854775808 := rfl
  have e2 : IntKind.i64.max = 9223372036854775807 := rfl
  simp only [Lit.wf, e1, e2] at h
  simp at h
  omega
theorem hasT_tok {x : D} (h : HasT Tryd.prog 7 32 x) : ∃ t : Go.Vm.Lex.TkA, x = t.D ∧ t.Fine := by
  have hf := fields32
  cases hfo : fieldsOf Tryd.prog 32 with
  | none => rw [hfo] at hf; cases hf
  | some ts =>
    rw [hfo] at hf
    simp only [Option.map_some, Option.some.injEq] at hf
    obtain ⟨xs, hx, ha⟩ := hasT_struct hfo h
    match ts, hf with
    | [a, b, c, d, e], hf =>
      simp only [List.map_cons, List.map_nil, List.cons.injEq, and_true] at hf
      match xs, ha with
      | [x1, x2, x3, x4, x5], ha =>
        obtain ⟨h1, h2, h3, h4, h5, _⟩ := ha
        obtain ⟨n1, rfl, w1⟩ := hasT_int hf.1 h1
        obtain ⟨t, rfl, w2⟩ := hasT_str hf.2.1 h2
        obtain ⟨n3, rfl, w3⟩ := hasT_int hf.2.2.1 h3
        obtain ⟨n4, rfl, w4⟩ := hasT_int hf.2.2.2.1 h4
        obtain ⟨n5, rfl, w5⟩ := hasT_int hf.2.2.2.2 h5
        exact ⟨⟨n1, t, n3, n4, n5⟩, hx, w2, (i64_of w3).1, (i64_of w3).2⟩
theorem toks_of : ∀ l : List D, (∀ y ∈ l, HasT Tryd.prog 7 32 y) → ∃ ts : List Go.Vm.Lex.TkA, l = ts.map Go.Vm.Lex.TkA.D ∧ ∀ t ∈ ts, t.Fine
  | [], _ => ⟨[], rfl, by simp⟩
  | x :: r, h => by
    obtain ⟨t, e1, f1⟩ := hasT_tok (h x (by simp))
    obtain ⟨ts, e2, f2⟩ := toks_of r fun y hy => h y (by simp [hy])
    exact ⟨t :: ts, by rw [e1, e2]; rfl, by
      intro q hq
      rcases List.mem_cons.1 hq with rfl | hq
      · exact f1
      · exact f2 q hq⟩
theorem dw_str {H : Type} {d : DataW H} {s : List UInt8} (h : dwD d = .str s) : d = .lit (.string s) := by
  unfold dwD at h
  split at h <;> cases h
  rfl
theorem under22 : Tryd.prog.underlying 22 = some (.slice 32) := by kernel_rfl
end Go.Proofs.YtnhoonglfejdeaaDoor
