import Derived.Test.YtbaoljbcdjdnlaaGreatDoorVmFront
set_option linter.unusedSimpArgs false
set_option linter.unusedVariables false
namespace Go.Vm
open Go.ChangeShapes Go.WideShapes Go.ChangeAt Go.RowKit
section
variable {H : Type} {enc : TypeId × Value → H} {P : Program}

def gvOf (l : List (Nat × List D)) (i : Nat) : List D := ((l.find? (·.1 == i)).map (·.2)).getD []

def fixOf (w : World) (l : List Nat) (i : Nat) : Option Obj := if i ∈ l then w.heap[i]? else none
theorem fixOf_ok (w : World) (l : List Nat) (i : Nat) (o : Obj) (h : fixOf w l i = some o) : w.heap[i]? = some o := by
  unfold fixOf at h; split at h
  · exact h
  · cases h
theorem globOk_of {w : World} (l : List (Nat × List D)) {fx : Nat → Option Obj} (hfx : ∀ i o, fx i = some o → w.heap[i]? = some o) (h : ∀ p ∈ l, ∃ vs, vs <+: contents w p.1 ∧ RepDs (contents w) p.2 vs) : GlobOk ⟨gvOf l, fx⟩ w := by
  refine ⟨fun i => ?_, hfx⟩
  show ∃ vs, vs <+: contents w i ∧ RepDs (contents w) (gvOf l i) vs
  unfold gvOf
  cases hf : l.find? (·.1 == i) with
  | none => exact ⟨[], List.nil_prefix, by simp [RepDs]⟩
  | some p =>
    have hm := List.mem_of_find?_eq_some hf
    have he := List.find?_some hf
    simp only [beq_iff_eq] at he
    subst he
    exact h p hm

theorem laidVars_mem {w : World} {n : String} {d : DataW Unit} : ∀ {l : List (String × DataW Unit)} {ps : List MemPlace}, DataW.LaidVars P w l ps → (n, d) ∈ l → ∃ g t cs fuel p, P.globalNamed n = some g ∧ (P.globals[g]?).map (·.type) = some t ∧ w.var? P n = some cs ∧ DataW.trod (fun _ => ()) P w 0 (fun _ => true) false fuel t cs.toList = some (d, p)
  | [], ps, _, hm => by cases hm
  | (n', d') :: l, ps, h, hm => by
    obtain ⟨g, t, cs, fuel, p, q, h1, h2, h3, h4, h5, _⟩ := h
    cases hm with
    | head => exact ⟨g, t, cs, fuel, p, h1, h2, h3, h4⟩
    | tail _ hm => exact laidVars_mem h5 hm

theorem laidMetH_flat {laid : List (String × DataW Unit)} {w : World} (h : (laid.filter fun x => x.2.handleName?.isSome) = []) (hm : laidMetH P laid w) : laidMet P laid w := by
  unfold laidMetH at hm
  rw [h] at hm
  exact hm

theorem row_contract {pg : Pg} (hT : TblOk P pg) (hmx : P.follows .mixedOrders = true) {f : Nat} {fn : Func} {s : ChangeSpec} {apart : Bool} {W : World} {base m : Nat} {args : Array Value} {ds gs : List (DataW H)} {before : List MemPlace} {tb : TypeId} (hl : laidOutB P = true)
    (hs : s.vars = []) (hfn : ∀ ds : List (DataW H), ds.length = fn.params.size → s.fn H ds = { results := [.lit (.bool true)], args := ds })
    (hr : ∀ t ∈ fn.params.toList, (P.readableRec t = true ∧ t < P.types.size) ∧ plainT P m t = true) (hres : fn.resultTypes = #[tb]) (htb : P.underlying tb = some .bool)
    (hval : ∀ (j : Nat) t v, fn.params[j]? = some t → args[j]? = some v → Value.okWide P W .any base t v)
    (hW : DataW.Whole enc P fn.params.toList s.vars apart W args.toList ds gs before) (hg : GlobOk pg.toCx W)
    (hkey : ds.length = fn.params.size → (∀ (i : Nat) t x, fn.params[i]? = some t → ds[i]? = some x → HasT P m t (dwD x)) → ∃ H', evF pg f ((ds.map dwD).map V.d) [] = some (.d (.bool true), H')) :
    Calls P f args W fun e W' => ∃ v, e = .returned v ∧ s.post enc P fn apart true false false W args v W' := by
  have hW' := hW
  obtain ⟨p, q, hA, _⟩ := hW
  obtain ⟨h1, h2, h3⟩ := args_D (m := m) hA (fun t ht => (hr t ht).2) (fun j t v ht hv => hval j t v (by simpa using ht) (by simpa using hv))
  obtain ⟨H', hev⟩ := hkey (by simpa using h2) fun i t x ht hx => h3 i t x (by simpa using ht) hx
  refine (front hT hmx hg h1 hev).mono fun e W' he => ?_
  exact ⟨_, he.1, post_true hl he.2 hs hfn (fun t ht => (hr t ht).1) hres htb hW'⟩
end
end Go.Vm
