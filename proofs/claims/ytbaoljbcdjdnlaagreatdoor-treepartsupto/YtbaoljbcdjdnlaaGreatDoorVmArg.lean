import Derived.Test.YtbaoljbcdjdnlaaGreatDoorVmRow
set_option linter.unusedSimpArgs false
set_option linter.unusedVariables false
namespace Go.Vm
variable {P : Program}
theorem hasT_int {m t : Nat} {k : IntKind} {x : D} (h : P.underlying t = some (.int k)) (hx : HasT P (m + 1) t x) : ∃ n, x = .int k n ∧ (Lit.int k n).wf = true := by
  unfold HasT at hx; rw [h] at hx; exact hx
theorem hasT_str {m t : Nat} {x : D} (h : P.underlying t = some .string) (hx : HasT P (m + 1) t x) : ∃ s, x = .str s ∧ s.length ≤ maxLen := by
  unfold HasT at hx; rw [h] at hx; exact hx
theorem hasT_slice {m t e : Nat} {x : D} (h : P.underlying t = some (.slice e)) (hx : HasT P (m + 1) t x) : ∃ l, x = .sl l ∧ l.length ≤ maxLen ∧ ∀ y ∈ l, HasT P m e y := by
  unfold HasT at hx; rw [h] at hx; exact hx
def fieldsOf (P : Program) (t : Nat) : Option (List Nat) := match P.underlying t with | some (.struct fs) => some (fs.toList.map (·.type)) | _ => none
def AllT (P : Program) (m : Nat) : List Nat → List D → Prop
  | [], [] => True
  | t :: ts, x :: xs => HasT P m t x ∧ AllT P m ts xs
  | _, _ => False
theorem allT_of {m : Nat} : ∀ (ts : List Field) (xs : List D), xs.length = ts.length → (∀ (i : Nat) (f : Field) (y : D), ts[i]? = some f → xs[i]? = some y → HasT P m f.type y) → AllT P m (ts.map (·.type)) xs
  | [], [], _, _ => trivial
  | [], _ :: _, h, _ => by simp at h
  | _ :: _, [], h, _ => by simp at h
  | t :: ts, x :: xs, h, hx => ⟨hx 0 t x rfl rfl, allT_of ts xs (by simpa using h) fun i f y h1 h2 => hx (i + 1) f y (by simpa using h1) (by simpa using h2)⟩
theorem hasT_struct {m t : Nat} {ts : List Nat} {x : D} (h : fieldsOf P t = some ts) (hx : HasT P (m + 1) t x) : ∃ xs : List D, x = .agg (xs.flatMap D.cells) ∧ AllT P m ts xs := by
  unfold fieldsOf at h
  unfold HasT at hx
  split at h
  · rename_i fs hf
    rw [hf] at hx
    cases h
    obtain ⟨xs, h1, h2, h3⟩ := hx
    exact ⟨xs, h1, allT_of _ _ h2 h3⟩
  · cases h
end Go.Vm
