import Derived.Test.YtbaoljbcdjdnlaaGreatDoorTreP
import Derived.Test.YtbaoljbcdjdnlaaGreatDoorVmArg
set_option linter.unusedSimpArgs false
set_option linter.unusedVariables false
namespace Go.Vm.Tp
open Go
structure WN (x : Nd) : Prop where
  txt : x.t.length ≤ 9223372036854775807
  kid : x.kids.length ≤ 9223372036854775807
  ik : ∀ k ∈ x.kids, I64 k
  iv : I64 x.v
  ie : I64 x.f ∧ I64 x.e
theorem i64_of {n : Int} (h : (Lit.int .i64 n).wf = true) : I64 n := by
  have e1 : IntKind.i64.min = -9223372036854775808 := rfl
  have e2 : IntKind.i64.max = 9223372036854775807 := rfl
  simp only [Lit.wf, e1, e2] at h
  simp at h
  unfold I64
  omega
section
variable {P : Program}
theorem ints_of {m ti : Nat} (hi : P.underlying ti = some (.int .i64)) : ∀ l : List D, (∀ y ∈ l, HasT P (m + 1) ti y) → ∃ ks : List Int, l = ks.map (D.int .i64) ∧ ∀ k ∈ ks, I64 k
  | [], _ => ⟨[], rfl, by simp⟩
  | x :: r, h => by
    obtain ⟨n, rfl, w⟩ := hasT_int hi (h x (by simp))
    obtain ⟨ks, e, hk⟩ := ints_of hi r fun y hy => h y (by simp [hy])
    refine ⟨n :: ks, by rw [e]; rfl, fun k hm => ?_⟩
    rcases List.mem_cons.1 hm with rfl | hm
    · exact i64_of w
    · exact hk k hm
theorem node_of {m tN ti : Nat} (hf : (fieldsOf P tN).map (·.map P.underlying) = some [some (.int .i64), some .string, some (.int .i64), some (.slice ti), some (.int .i64), some (.int .i64)]) (hi : P.underlying ti = some (.int .i64)) {x : D} (h : HasT P (m + 3) tN x) : ∃ n : Nd, x = n.D ∧ WN n := by
  cases hfo : fieldsOf P tN with
  | none => rw [hfo] at hf; cases hf
  | some ts =>
    rw [hfo] at hf
    simp only [Option.map_some, Option.some.injEq] at hf
    obtain ⟨xs, hx, ha⟩ := hasT_struct hfo h
    have hl := congrArg List.length hf
    rw [List.length_map] at hl
    match ts, hl, hf with
    | [a, b, c, d, e, f], _, hf =>
      simp only [List.map_cons, List.map_nil, List.cons.injEq, and_true] at hf
      match xs, ha with
      | [x1, x2, x3, x4, x5, x6], ha =>
        obtain ⟨h1, h2, h3, h4, h5, h6, _⟩ := ha
        obtain ⟨n1, rfl, w1⟩ := hasT_int hf.1 h1
        obtain ⟨t, rfl, w2⟩ := hasT_str hf.2.1 h2
        obtain ⟨n3, rfl, w3⟩ := hasT_int hf.2.2.1 h3
        obtain ⟨l, rfl, w4, hl⟩ := hasT_slice hf.2.2.2.1 h4
        obtain ⟨n5, rfl, w5⟩ := hasT_int hf.2.2.2.2.1 h5
        obtain ⟨n6, rfl, w6⟩ := hasT_int hf.2.2.2.2.2 h6
        obtain ⟨ks, rfl, hk⟩ := ints_of hi l hl
        refine ⟨⟨n1, t, n3, ks, n5, n6⟩, hx, ⟨w2, by rw [List.length_map] at w4; exact w4, hk, i64_of w3, i64_of w5, i64_of w6⟩⟩
theorem nodes_of {m tN ti : Nat} (hf : (fieldsOf P tN).map (·.map P.underlying) = some [some (.int .i64), some .string, some (.int .i64), some (.slice ti), some (.int .i64), some (.int .i64)]) (hi : P.underlying ti = some (.int .i64)) : ∀ l : List D, (∀ y ∈ l, HasT P (m + 3) tN y) → ∃ t : List Nd, l = t.map Nd.D ∧ ∀ x ∈ t, WN x
  | [], _ => ⟨[], rfl, by simp⟩
  | x :: r, h => by
    obtain ⟨n, rfl, w⟩ := node_of hf hi (h x (by simp))
    obtain ⟨t, e, hk⟩ := nodes_of hf hi r fun y hy => h y (by simp [hy])
    refine ⟨n :: t, by rw [e]; rfl, fun k hm => ?_⟩
    rcases List.mem_cons.1 hm with rfl | hm
    · exact w
    · exact hk k hm
theorem tree_of {m tT tS tN ti : Nat} (ht : fieldsOf P tT = some [tS]) (hs : P.underlying tS = some (.slice tN)) (hf : (fieldsOf P tN).map (·.map P.underlying) = some [some (.int .i64), some .string, some (.int .i64), some (.slice ti), some (.int .i64), some (.int .i64)]) (hi : P.underlying ti = some (.int .i64)) {d : D} (h : HasT P (m + 5) tT d) : ∃ t : List Nd, d = treeD t ∧ t.length ≤ 9223372036854775807 ∧ ∀ x ∈ t, WN x := by
  obtain ⟨xs, hx, ha⟩ := hasT_struct ht h
  match xs, ha with
  | [x1], ha =>
    obtain ⟨h1, _⟩ := ha
    obtain ⟨l, rfl, w, hl⟩ := hasT_slice hs h1
    obtain ⟨t, rfl, hw⟩ := nodes_of hf hi l hl
    exact ⟨t, hx, by rw [List.length_map] at w; exact w, hw⟩
end
mutual
/-- How many values and letters a datum holds, at the least. -/
def bulkD : D → Nat
  | .str s => s.length + 1
  | .sl l => bulkDs l + 1
  | .agg l => bulkDs l + 1
  | _ => 1
def bulkDs : List D → Nat
  | [] => 0
  | x :: r => bulkD x + bulkDs r
end
theorem bulkDs_append : ∀ a b : List D, bulkDs (a ++ b) = bulkDs a + bulkDs b
  | [], b => by simp [bulkDs]
  | x :: a, b => by simp only [List.cons_append, bulkDs, bulkDs_append a b]; omega
theorem bulkD_pos (d : D) : 1 ≤ bulkD d := by cases d <;> simp [bulkD]
theorem bulkDs_cells (d : D) : bulkDs d.cells ≤ bulkD d := by
  cases d <;> simp [D.cells, bulkDs, bulkD]
theorem bulkDs_len : ∀ l : List D, l.length ≤ bulkDs l
  | [] => by simp
  | x :: r => by have := bulkD_pos x; have := bulkDs_len r; simp only [bulkDs, List.length_cons]; omega
theorem bulkDs_mem : ∀ {l : List D} {x : D}, x ∈ l → bulkD x ≤ bulkDs l
  | y :: r, x, h => by
    simp only [bulkDs]
    rcases List.mem_cons.1 h with rfl | h
    · omega
    · have := bulkDs_mem h; omega
theorem bulk_nd (x : Nd) : x.t.length ≤ bulkD x.D ∧ x.kids.length ≤ bulkD x.D := by
  have h := bulkDs_len (x.kids.map (D.int .i64))
  rw [List.length_map] at h
  simp only [Nd.D, bulkD, bulkDs]
  omega
theorem fine_of {t : List Nd} (hb : bulkD (treeD t) ≤ 1048576) (hw : ∀ x ∈ t, WN x) : Fine t := by
  have e : bulkD (treeD t) = bulkDs (t.map Nd.D) + 2 := by simp only [treeD, bulkD, bulkDs]
  rw [e] at hb
  have hl := bulkDs_len (t.map Nd.D)
  rw [List.length_map] at hl
  have key : ∀ x ∈ t, bulkD x.D ≤ 1048576 := fun x hx => by
    have := bulkDs_mem (List.mem_map_of_mem (f := Nd.D) hx); omega
  exact ⟨by omega, fun x hx => by have := (bulk_nd x).1; have := key x hx; omega, fun x hx => by have := (bulk_nd x).2; have := key x hx; omega, fun x hx => (hw x hx).ik, fun x hx => (hw x hx).iv, fun x hx => (hw x hx).ie⟩
end Go.Vm.Tp
