import Derived.Test.YtpgpjenfnbcclaaTypV3
import Derived.Test.YtpgpjenfnbcclaaTypArg
set_option linter.unusedSimpArgs false
set_option linter.unusedVariables false
namespace Go.Vm.Typ
open Go Go.Vm Go.Proofs Go.Vm.Ip
open Go.Vm.Lex (nameB)
set_option maxRecDepth 10000
section
variable {fx : Nat → Option Obj} {F : Nat → Option VFun}
theorem rStruct_ev (x : Its) (hx : Fine x) (s : S) (H : Hp) : evF (pgL fx F) n_ref15_Struct [.d x.D, str s] H = some (i64 (locR (nS x) s), H) := by
  have hl : x.ss.length ≤ mx := hx.ss
  have hl' : x.ss.length ≤ 140737488355328 := hl
  have hn : nS x = x.ss.map Nam.n := rfl
  refine evF_wq (t_ref15_Struct (F := F)) rfl rfl ?_ H
  rw [hn]
  have hib : IB x = .box [.d (.sl (x.ss.map Nam.D)), .d (.sl (x.es.map Nam.D)), .d (.sl (x.fs.map Fnc.D))] := rfl
  refine run ⟨?_⟩
  refine wq_loop (α := Nat) (fun a => x.ss.length - a) (fun a => [(1, str s), (8, .d (.sl (x.ss.map Nam.D))), (9, i64 x.ss.length), (10, i64 a)]) (fun _ => [IB x]) (fun a => a ≤ x.ss.length ∧ ∀ j, j < a → (x.ss.map Nam.n)[j]? ≠ some s) ?_ 0 ⟨Nat.zero_le _, fun j h => absurd h (Nat.not_lt_zero j)⟩ (by show [_, _, _, _] = _; rw [List.length_map] <;> rfl) rfl
  rintro j ⟨hj, hs⟩
  by_cases h : j < x.ss.length
  · have h' : (j : Int) < (x.ss.length : Int) := by omega
    have pj := gN h
    have hg : (x.ss.map Nam.n)[j]? = some (x.ss.getD j default).n := by
      rw [List.getElem?_map, List.getElem?_eq_getElem h, List.getD_eq_getElem?_getD, List.getElem?_eq_getElem h]; rfl
    revert pj hg
    generalize x.ss.getD j default = y
    obtain ⟨n, fs⟩ := y
    intro pj hg
    dsimp only at hg
    by_cases c : n = s
    · have hv : locR (x.ss.map Nam.n) s = j := by unfold locR; rw [pos_of (c ▸ hg) hs]
      rw [hv]
      repeat' (first | refine run ⟨?_⟩ | refine pickD pj ?_ | fail)
      exact rfl
    · have hs2 : ∀ i, i < j + 1 → (x.ss.map Nam.n)[i]? ≠ some s := fun i hi => by
        rcases Nat.lt_succ_iff_lt_or_eq.1 hi with q | q
        · exact hs i q
        · rw [q, hg]; exact fun e => c (Option.some.inj e)
      repeat' (first | refine run ⟨?_⟩ | refine pickD pj ?_ | fail)
      exact ⟨j + 1, ⟨by omega, hs2⟩, by omega, by rw [i64w (by omega)] <;> rfl, rfl⟩
  · have h' : ¬ (j : Int) < (x.ss.length : Int) := by omega
    obtain rfl : j = x.ss.length := by omega
    have hv : locR (x.ss.map Nam.n) s = -1 := by
      unfold locR
      cases hp : pos (x.ss.map Nam.n) s with
      | none => rfl
      | some i =>
        have := pos_lt hp
        rw [List.length_map] at this
        exact absurd (pos_some hp).1 (hs i this)
    rw [hv]
    refine run ⟨?_⟩
    exact rfl
end
end Go.Vm.Typ
namespace Go.Vm.Typ
open Go Go.Vm Go.Proofs Go.Vm.Ip
open Go.Vm.Lex (nameB)
set_option maxRecDepth 10000
section
variable {fx : Nat → Option Obj} {F : Nat → Option VFun}
end
end Go.Vm.Typ
