import Derived.Test.YtbaoljbcdjdnlaaGreatDoorTreW6
import Derived.Test.YtbaoljbcdjdnlaaGreatDoorTreR
import Derived.Test.YtbaoljbcdjdnlaaGreatDoorTreP13
import Derived.Test.YtbaoljbcdjdnlaaGreatDoorVmSt2
import Derived.Test.YtbaoljbcdjdnlaaGreatDoorTreW9
set_option linter.unusedSimpArgs false
set_option linter.unusedVariables false
namespace Go.Vm.Tre
open Go.Vm.Tp
open Go.Vm.Lex (nameB)
set_option maxRecDepth 10000
section
variable {fx : Nat → Option Obj} (H : Hp)
theorem risType_ev (k : Int) : evF (pgL fx) n_ref13_IsType [i64 k] H = some (boo (isTy k), H) := by
  refine evF_wq t_ref13_IsType rfl rfl ?_ H
  unfold isTy
  by_cases h1 : 10 ≤ k
  · refine run ⟨?_⟩
    rw [decide_eq_true h1]; exact rfl
  · refine run ⟨?_⟩
    rw [decide_eq_false h1]; exact rfl
theorem risStmt_ev (k : Int) : evF (pgL fx) n_ref13_IsStmt [i64 k] H = some (boo (isSt k), H) := by
  refine evF_wq t_ref13_IsStmt rfl rfl ?_ H
  unfold isSt
  by_cases h1 : 21 ≤ k
  · refine run ⟨?_⟩
    rw [decide_eq_true h1]; exact rfl
  · refine run ⟨?_⟩
    rw [decide_eq_false h1]; exact rfl
theorem risPattern_ev (k : Int) : evF (pgL fx) n_ref13_IsPattern [i64 k] H = some (boo (isPa k), H) := by
  refine evF_wq t_ref13_IsPattern rfl rfl ?_ H
  unfold isPa
  by_cases h1 : 50 ≤ k
  · refine run ⟨?_⟩
    rw [decide_eq_true h1]; exact rfl
  · refine run ⟨?_⟩
    rw [decide_eq_false h1]; exact rfl
theorem risExpr_ev (k : Int) : evF (pgL fx) n_ref13_IsExpr [i64 k] H = some (boo (isEx k), H) := by
  refine evF_wq t_ref13_IsExpr rfl rfl ?_ H
  unfold isEx
  by_cases h0 : k = 20
  · refine run ⟨?_⟩
    rw [decide_eq_true h0]; exact rfl
  by_cases h1 : 30 ≤ k
  · by_cases h2 : k ≤ 46
    · refine run ⟨?_⟩
      rw [decide_eq_false h0, decide_eq_true h1, decide_eq_true h2]; exact rfl
    · refine run ⟨?_⟩
      rw [decide_eq_false h0, decide_eq_true h1, decide_eq_false h2]; exact rfl
  · refine run ⟨?_⟩
    rw [decide_eq_false h0, decide_eq_false h1]; exact rfl
theorem ris_ev (k : Int) (c : UInt8) : evF (pgL fx) n_ref13_is [i64 k, u8 c] H = some (boo (lettR c k), H) := by
  refine evF_wq t_ref13_is rfl rfl ?_ H
  by_cases c84 : c = 84
  · subst c84
    repeat' (first | refine run ⟨?_⟩ | refine ca (risType_ev _ _) ?_ | fail)
    exact rfl
  by_cases c83 : c = 83
  · subst c83
    repeat' (first | refine run ⟨?_⟩ | refine ca (risStmt_ev _ _) ?_ | fail)
    exact rfl
  by_cases c69 : c = 69
  · subst c69
    repeat' (first | refine run ⟨?_⟩ | refine ca (risExpr_ev _ _) ?_ | fail)
    exact rfl
  by_cases c80 : c = 80
  · subst c80
    repeat' (first | refine run ⟨?_⟩ | refine ca (risPattern_ev _ _) ?_ | fail)
    exact rfl
  by_cases c66 : c = 66
  · subst c66
    refine run ⟨?_⟩
    exact rfl
  by_cases c73 : c = 73
  · subst c73
    by_cases k2 : k = 2
    · subst k2
      refine run ⟨?_⟩
      exact rfl
    by_cases k3 : k = 3
    · subst k3
      refine run ⟨?_⟩
      exact rfl
    rw [show lettR 73 k = decide (k = 4) by simp [lettR, k2, k3]]
    refine run ⟨?_⟩
    exact rfl
  by_cases c70 : c = 70
  · subst c70
    refine run ⟨?_⟩
    exact rfl
  by_cases c86 : c = 86
  · subst c86
    refine run ⟨?_⟩
    exact rfl
  by_cases c77 : c = 77
  · subst c77
    refine run ⟨?_⟩
    exact rfl
  by_cases c65 : c = 65
  · subst c65
    refine run ⟨?_⟩
    exact rfl
  by_cases c74 : c = 74
  · subst c74
    refine run ⟨?_⟩
    exact rfl
  have e : lettR c k = decide (k = 20 ∨ k = 45) := by unfold lettR; simp [c84, c83, c69, c80, c66, c73, c70, c86, c77, c65, c74]
  rw [e]
  have n84 : decide ((c.toNat : Int) = 84) = false := u8ne c84 rfl
  have n83 : decide ((c.toNat : Int) = 83) = false := u8ne c83 rfl
  have n69 : decide ((c.toNat : Int) = 69) = false := u8ne c69 rfl
  have n80 : decide ((c.toNat : Int) = 80) = false := u8ne c80 rfl
  have n66 : decide ((c.toNat : Int) = 66) = false := u8ne c66 rfl
  have n73 : decide ((c.toNat : Int) = 73) = false := u8ne c73 rfl
  have n70 : decide ((c.toNat : Int) = 70) = false := u8ne c70 rfl
  have n86 : decide ((c.toNat : Int) = 86) = false := u8ne c86 rfl
  have n77 : decide ((c.toNat : Int) = 77) = false := u8ne c77 rfl
  have n65 : decide ((c.toNat : Int) = 65) = false := u8ne c65 rfl
  have n74 : decide ((c.toNat : Int) = 74) = false := u8ne c74 rfl
  by_cases k20 : k = 20
  · subst k20
    refine run ⟨?_⟩
    exact rfl
  rw [show decide (k = 20 ∨ k = 45) = decide (k = 45) by simp [k20]]
  refine run ⟨?_⟩
  exact rfl
set_option maxHeartbeats 2000000 in
theorem rforms_ev (x : Nd) : evF (pgL fx) n_ref13_forms [ndV x] H = some (.d (.sl ((formsR x.k).map .str)), H) := by
  obtain ⟨k, t, v, kids, f, e⟩ := x
  refine evF_wq t_ref13_forms rfl rfl ?_ H
  by_cases c1 : k = 1
  · subst c1
    refine run ⟨?_⟩
    exact rfl
  by_cases c2 : k = 2
  · subst c2
    refine run ⟨?_⟩
    exact rfl
  by_cases c3 : k = 3
  · subst c3
    refine run ⟨?_⟩
    exact rfl
  by_cases c4 : k = 4
  · subst c4
    refine run ⟨?_⟩
    exact rfl
  by_cases c5 : k = 5
  · subst c5
    refine run ⟨?_⟩
    exact rfl
  by_cases c7 : k = 7
  · subst c7
    refine run ⟨?_⟩
    exact rfl
  by_cases c14 : k = 14
  · subst c14
    refine run ⟨?_⟩
    exact rfl
  by_cases c15 : k = 15
  · subst c15
    refine run ⟨?_⟩
    exact rfl
  by_cases c16 : k = 16
  · subst c16
    refine run ⟨?_⟩
    exact rfl
  by_cases c6 : k = 6
  · subst c6
    refine run ⟨?_⟩
    exact rfl
  by_cases c20 : k = 20
  · subst c20
    refine run ⟨?_⟩
    exact rfl
  by_cases c21 : k = 21
  · subst c21
    refine run ⟨?_⟩
    exact rfl
  by_cases c22 : k = 22
  · subst c22
    refine run ⟨?_⟩
    exact rfl
  by_cases c36 : k = 36
  · subst c36
    refine run ⟨?_⟩
    exact rfl
  by_cases c41 : k = 41
  · subst c41
    refine run ⟨?_⟩
    exact rfl
  by_cases c39 : k = 39
  · subst c39
    refine run ⟨?_⟩
    exact rfl
  by_cases c40 : k = 40
  · subst c40
    refine run ⟨?_⟩
    exact rfl
  by_cases c42 : k = 42
  · subst c42
    refine run ⟨?_⟩
    exact rfl
  by_cases c44 : k = 44
  · subst c44
    refine run ⟨?_⟩
    exact rfl
  by_cases c43 : k = 43
  · subst c43
    refine run ⟨?_⟩
    exact rfl
  by_cases c23 : k = 23
  · subst c23
    refine run ⟨?_⟩
    exact rfl
  by_cases c38 : k = 38
  · subst c38
    refine run ⟨?_⟩
    exact rfl
  by_cases c24 : k = 24
  · subst c24
    refine run ⟨?_⟩
    exact rfl
  by_cases c25 : k = 25
  · subst c25
    refine run ⟨?_⟩
    exact rfl
  by_cases c37 : k = 37
  · subst c37
    refine run ⟨?_⟩
    exact rfl
  by_cases c34 : k = 34
  · subst c34
    refine run ⟨?_⟩
    exact rfl
  by_cases c35 : k = 35
  · subst c35
    refine run ⟨?_⟩
    exact rfl
  by_cases c45 : k = 45
  · subst c45
    refine run ⟨?_⟩
    exact rfl
  by_cases c46 : k = 46
  · subst c46
    refine run ⟨?_⟩
    exact rfl
  by_cases c47 : k = 47
  · subst c47
    refine run ⟨?_⟩
    exact rfl
  by_cases c54 : k = 54
  · subst c54
    refine run ⟨?_⟩
    exact rfl
  have e0 : formsR k = [[]] := by
    unfold formsR
    simp only [c1, c2, c3, c4, c5, c7, c14, c15, c16, c6, c20, c21, c22, c36, c41, c39, c40, c42, c44, c43, c23, c38, c24, c25, c37, c34, c35, c45, c46, c47, c54, if_false, or_self]
  rw [e0]
  refine run ⟨?_⟩
  exact rfl
theorem rcounted_ev (x : Nd) : evF (pgL fx) n_ref13_counted [ndV x] H = some (boo (countR x.k x.v), H) := by
  obtain ⟨k, t, v, kids, f, e⟩ := x
  simp only
  refine evF_wq t_ref13_counted rfl rfl ?_ H
  by_cases h2 : k = 2
  · subst h2
    refine run ⟨?_⟩
    exact rfl
  by_cases hA : k = 7 ∨ k = 20 ∨ k = 21 ∨ k = 31 ∨ k = 53 ∨ k = 43
  · have e0 : countR k v = (decide (v = 0) || decide (v = 1)) := by unfold countR; rw [if_neg h2, if_pos hA]
    rw [e0]
    rcases hA with rfl | rfl | rfl | rfl | rfl | rfl
    all_goals
      by_cases h0 : v = 0
      · subst h0
        refine run ⟨?_⟩
        exact rfl
      · refine run ⟨?_⟩
        rw [decide_eq_false h0]; exact rfl
  have e1 : countR k v = (if k = 30 then decide (0 ≤ v) else if k = 52 then !decide (v = -9223372036854775808) else decide (v = 0)) := by unfold countR; rw [if_neg h2, if_neg hA]
  rw [e1]
  simp only [not_or] at hA
  obtain ⟨a1, a2, a3, a4, a5, a6⟩ := hA
  by_cases h30 : k = 30
  · subst h30
    refine run ⟨?_⟩
    exact rfl
  rw [if_neg h30]
  by_cases h52 : k = 52
  · subst h52
    refine run ⟨?_⟩
    exact rfl
  rw [if_neg h52]
  refine run ⟨?_⟩
  exact rfl
theorem rknown_ev (k : Int) : evF (pgL fx) n_ref13_known [i64 k] H = some (boo (knownB k), H) := by
  refine evF_wq t_ref13_known rfl rfl ?_ H
  repeat' (first | refine run ⟨?_⟩ | refine ca (risType_ev _ _) ?_ | refine ca (risStmt_ev _ _) ?_ | refine ca (risPattern_ev _ _) ?_ | refine And.intro (fun h => ?_) (fun h => ?_) | fail)
  all_goals
    show V.d (D.bool _) = V.d (D.bool _)
    refine congrArg (fun b => V.d (D.bool b)) ?_
    rw [Bool.eq_iff_iff]
    simp only [knownB, isTy, isSt, isPa, isEx, Bool.or_eq_true, Bool.and_eq_true, Bool.and_eq_false_iff, Bool.not_eq_true', Bool.not_false, Bool.not_true, decide_eq_true_eq, decide_eq_false_iff_not] at *
    constructor <;> intro hh <;> first | trivial | omega | exact absurd hh Bool.false_ne_true
def signN (s : List UInt8) : Int := if s = [124, 124] then 1 else if s = [38, 38] then 2 else if s = [61, 61] ∨ s = [33, 61] ∨ s = [60] ∨ s = [62] ∨ s = [60, 61] ∨ s = [62, 61] then 3 else if s = [43] ∨ s = [45] then 4 else if s = [42] ∨ s = [47] ∨ s = [37] then 5 else 0
theorem rsign_ev (s : List UInt8) : evF (pgL fx) n_ref13_Sign [str s] H = some (i64 (signN s), H) := by
  refine evF_wq t_ref13_Sign rfl rfl ?_ H
  by_cases c0 : s = [124, 124]
  · subst c0
    refine run ⟨?_⟩
    exact rfl
  by_cases c1 : s = [38, 38]
  · subst c1
    refine run ⟨?_⟩
    exact rfl
  by_cases c2 : s = [61, 61]
  · subst c2
    refine run ⟨?_⟩
    exact rfl
  by_cases c3 : s = [33, 61]
  · subst c3
    refine run ⟨?_⟩
    exact rfl
  by_cases c4 : s = [60]
  · subst c4
    refine run ⟨?_⟩
    exact rfl
  by_cases c5 : s = [62]
  · subst c5
    refine run ⟨?_⟩
    exact rfl
  by_cases c6 : s = [60, 61]
  · subst c6
    refine run ⟨?_⟩
    exact rfl
  by_cases c7 : s = [62, 61]
  · subst c7
    refine run ⟨?_⟩
    exact rfl
  by_cases c8 : s = [43]
  · subst c8
    refine run ⟨?_⟩
    exact rfl
  by_cases c9 : s = [45]
  · subst c9
    refine run ⟨?_⟩
    exact rfl
  by_cases c10 : s = [42]
  · subst c10
    refine run ⟨?_⟩
    exact rfl
  by_cases c11 : s = [47]
  · subst c11
    refine run ⟨?_⟩
    exact rfl
  by_cases c12 : s = [37]
  · subst c12
    refine run ⟨?_⟩
    exact rfl
  have e0 : signN s = 0 := by
    unfold signN
    simp only [c0, c1, c2, c3, c4, c5, c6, c7, c8, c9, c10, c11, c12, if_false, or_self]
  rw [e0]
  refine run ⟨?_⟩
  exact rfl
end
end Go.Vm.Tre
namespace Go.Vm.Tre
open Go.Vm.Tp
open Go.Vm.Lex (nameB)
set_option maxRecDepth 10000
theorem gK {l : List Int} {j : Nat} (h : j < l.length) : (l.map (D.int .i64))[j]? = some (.int .i64 (l.getD j 0)) := by rw [List.getElem?_map, get_getD h 0]; rfl
abbrev TB (t : List Nd) : Ob := .box [.d (.sl (t.map Nd.D))]
abbrev XB (x : Nd) : Ob := .box [i64 x.k, str x.t, i64 x.v, ints x.kids, i64 x.f, i64 x.e]
section
variable {fx : Nat → Option Obj} (H : Hp)
theorem rkid_ev (t : List Nd) (x : Nd) (i : Nat) (hi : i < x.kids.length) (hk : ∀ k ∈ x.kids, 0 ≤ k ∧ k < t.length) : evF (pgL fx) n_ref13_kid [.d (treeD t), ndV x, i64 i] H = some (i64 (kindAt t (x.kids.getD i 0)), H) := by
  refine evF_wq t_ref13_kid rfl rfl ?_ H
  obtain ⟨q, tx, v, kids, f, e⟩ := x
  simp only at hi hk ⊢
  have h1 := hk _ (List.getElem_mem hi)
  have e1 : kids.getD i 0 = kids[i] := by simp [hi]
  rw [← e1] at h1
  repeat' (first | refine run ⟨?_⟩ | refine pickD (d := .int .i64 (kids.getD i 0)) ⟨by omega, gK hi⟩ ?_ | refine pickD (d := (nd t (kids.getD i 0).toNat).D) (ndD_at h1.1 h1.2) ?_ | fail)
  exact rfl
set_option maxHeartbeats 1000000 in
theorem rfits_fn (t : List Nd) (x : Nd) (hkl : x.kids.length ≤ 1048576) (hk : ∀ k ∈ x.kids, 0 ≤ k ∧ k < t.length) : evF (pgL fx) n_ref13_fits [.d (treeD t), ndV x, str [102, 110]] H = some (boo (fnR x.v (kinds t x.kids)), H) := by
  refine evF_wq t_ref13_fits rfl rfl ?_ H
  have hkid := fun (i : Nat) (hi : i < x.kids.length) (H : Hp) => rkid_ev (fx := fx) H t x i hi hk
  have hg := fun (i : Nat) (hi : i < x.kids.length) => kinds_get (t := t) hi
  have hl := kinds_len (t := t) (l := x.kids)
  have hml : (x.kids.map (D.int .i64)).length = x.kids.length := List.length_map ..
  unfold fnR
  rw [hl]
  obtain ⟨ks, hks⟩ : ∃ ks, ks = kinds t x.kids := ⟨_, rfl⟩
  rw [← hks] at hl hg ⊢
  by_cases c1 : x.kids.length < 2
  · have d1 : ((x.kids.map (D.int .i64)).length : Int) < 2 := by omega
    refine run ⟨?_⟩
    rw [decide_eq_false (by omega : ¬ 2 ≤ x.kids.length)]; exact rfl
  have d1 : ¬ ((x.kids.map (D.int .i64)).length : Int) < 2 := by omega
  have w1 : IntKind.i64.wrap (((x.kids.map (D.int .i64)).length : Int) - 2) = ((x.kids.length - 2 : Nat) : Int) := by rw [hml, i64w (by omega)]; omega
  have w2 : IntKind.i64.wrap (((x.kids.map (D.int .i64)).length : Int) - 1) = ((x.kids.length - 1 : Nat) : Int) := by rw [hml, i64w (by omega)]; omega
  rw [decide_eq_true (by omega : 2 ≤ x.kids.length)]
  by_cases c2 : x.v = (x.kids.length : Int) - 2
  rotate_left
  · have d2 : (!decide (x.v = IntKind.i64.wrap (((x.kids.map (D.int .i64)).length : Int) - 2))) = true := by rw [w1, decide_eq_false (by omega)]; rfl
    refine run ⟨?_⟩
    rw [decide_eq_false c2]; exact rfl
  have d2 : (!decide (x.v = IntKind.i64.wrap (((x.kids.map (D.int .i64)).length : Int) - 2))) = false := by rw [w1, decide_eq_true (by omega)]; rfl
  rw [decide_eq_true c2]
  have hk2 := fun H => hkid (x.kids.length - 2) (by omega) H
  rw [← w1] at hk2
  rw [← hg _ (by omega)] at hk2
  cases c3 : isTy (ks.getD (x.kids.length - 2) 0) with
  | false =>
    have hr := fun H => ris_ev (fx := fx) H (ks.getD (x.kids.length - 2) 0) 84
    rw [show lettR 84 (ks.getD (x.kids.length - 2) 0) = false from c3] at hr
    repeat' (first | refine run ⟨?_⟩ | refine ca (hk2 _) ?_ | refine ca (hr _) ?_ | fail)
    exact rfl
  | true =>
    have hr := fun H => ris_ev (fx := fx) H (ks.getD (x.kids.length - 2) 0) 84
    rw [show lettR 84 (ks.getD (x.kids.length - 2) 0) = true from c3] at hr
    have hk1 := fun H => hkid (x.kids.length - 1) (by omega) H
    rw [← w2] at hk1
    rw [← hg _ (by omega)] at hk1
    have hr2 := fun H => ris_ev (fx := fx) H (ks.getD (x.kids.length - 1) 0) 66
    have e66 : lettR 66 (ks.getD (x.kids.length - 1) 0) = decide (ks.getD (x.kids.length - 1) 0 = 20) := rfl
    by_cases c4 : ks.getD (x.kids.length - 1) 0 = 20
    rotate_left
    · rw [e66, decide_eq_false c4] at hr2
      repeat' (first | refine run ⟨?_⟩ | refine ca (hk2 _) ?_ | refine ca (hr _) ?_ | refine ca (hk1 _) ?_ | refine ca (hr2 _) ?_ | fail)
      rw [decide_eq_false c4]; exact rfl
    rw [e66, decide_eq_true c4] at hr2
    rw [decide_eq_true c4]
    repeat' (first | refine run ⟨?_⟩ | refine ca (hk2 _) ?_ | refine ca (hr _) ?_ | refine ca (hk1 _) ?_ | refine ca (hr2 _) ?_ | fail)
    refine wq_loop (α := Nat) (fun i => x.kids.length - i) (fun i => [(3, .ptr 0 0), (4, .ptr 1 0), (7, i64 x.kids.length), (8, i64 i)]) (fun _ => [TB t, XB x]) (fun i => i ≤ x.kids.length - 2 ∧ ∀ j, j < i → lettR 77 (ks.getD j 0) = true) ?_ 0 ⟨by omega, by omega⟩ ?_ rfl
    · rintro i ⟨hi, hall⟩
      have w3 : IntKind.i64.wrap ((x.kids.length : Int) - 2) = ((x.kids.length - 2 : Nat) : Int) := by rw [i64w (by omega)]; omega
      by_cases h : i < x.kids.length - 2
      · have h' : (i : Int) < IntKind.i64.wrap ((x.kids.length : Int) - 2) := by omega
        have hki := fun H => hkid i (by omega) H
        rw [← hg _ (by omega)] at hki
        have hri := fun H => ris_ev (fx := fx) H (ks.getD i 0) 77
        cases hc : lettR 77 (ks.getD i 0) with
        | false =>
          rw [hc] at hri
          repeat' (first | refine run ⟨?_⟩ | refine ca (hki _) ?_ | refine ca (hri _) ?_ | fail)
          rw [not_all (p := lettR 77) (l := ks.take (x.kids.length - 2)) (fun e => by rw [take_all (by omega)] at e; have := e i h; rw [hc] at this; cases this)]; exact rfl
        | true =>
          rw [hc] at hri
          repeat' (first | refine run ⟨?_⟩ | refine ca (hki _) ?_ | refine ca (hri _) ?_ | fail)
          refine ⟨i + 1, ⟨by omega, fun j hj => ?_⟩, by omega, by rw [i64w (by omega)]; rfl, rfl⟩
          by_cases e : j = i
          · rw [e]; exact hc
          · exact hall j (by omega)
      · have h' : ¬ (i : Int) < IntKind.i64.wrap ((x.kids.length : Int) - 2) := by omega
        refine run ⟨?_⟩
        rw [(take_all (p := lettR 77) (by omega)).2 (fun j hj => hall j (by omega))]; exact rfl
    · show [_, _, (7, i64 ((x.kids.map (D.int .i64)).length : Int)), _] = _
      rw [hml]; rfl
set_option maxHeartbeats 1000000 in
theorem rfits_block (t : List Nd) (x : Nd) (hkl : x.kids.length ≤ 1048576) (hk : ∀ k ∈ x.kids, 0 ≤ k ∧ k < t.length) (hv : x.v = 0 ∨ x.v = 1) : evF (pgL fx) n_ref13_fits [.d (treeD t), ndV x, str [98, 108, 111, 99, 107]] H = some (boo (blockR x.v (kinds t x.kids)), H) := by
  refine evF_wq t_ref13_fits rfl rfl ?_ H
  have hkid := fun (i : Nat) (hi : i < x.kids.length) (H : Hp) => rkid_ev (fx := fx) H t x i hi hk
  have hg := fun (i : Nat) (hi : i < x.kids.length) => kinds_get (t := t) hi
  have hl := kinds_len (t := t) (l := x.kids)
  have hml : (x.kids.map (D.int .i64)).length = x.kids.length := List.length_map ..
  unfold blockR
  rw [hl]
  obtain ⟨ks, hks⟩ : ∃ ks, ks = kinds t x.kids := ⟨_, rfl⟩
  rw [← hks] at hl hg ⊢
  have loop : ∀ Q : Prop, True := fun _ => trivial
  by_cases c1 : x.v = 1
  · by_cases c2 : x.kids.length = 0
    · have d2 : ((x.kids.map (D.int .i64)).length : Int) = 0 := by omega
      refine run ⟨?_⟩
      rw [decide_eq_true c1, decide_eq_true c2]; exact rfl
    have d2 : ¬ ((x.kids.map (D.int .i64)).length : Int) = 0 := by omega
    have w2 : IntKind.i64.wrap (((x.kids.map (D.int .i64)).length : Int) - 1) = ((x.kids.length - 1 : Nat) : Int) := by rw [hml, i64w (by omega)]; omega
    have hk1 := fun H => hkid (x.kids.length - 1) (by omega) H
    rw [← w2] at hk1
    rw [← hg _ (by omega)] at hk1
    have hr2 := fun H => ris_ev (fx := fx) H (ks.getD (x.kids.length - 1) 0) 69
    rw [show lettR 69 (ks.getD (x.kids.length - 1) 0) = isEx (ks.getD (x.kids.length - 1) 0) from rfl] at hr2
    cases c3 : isEx (ks.getD (x.kids.length - 1) 0) with
    | false =>
      rw [c3] at hr2
      repeat' (first | refine run ⟨?_⟩ | refine ca (hk1 _) ?_ | refine ca (hr2 _) ?_ | fail)
      rw [decide_eq_true c1, decide_eq_false c2]; exact rfl
    | true =>
      rw [c3] at hr2
      repeat' (first | refine run ⟨?_⟩ | refine ca (hk1 _) ?_ | refine ca (hr2 _) ?_ | fail)
      have hn : x.v.toNat ≤ x.kids.length := by omega
      have w3 : IntKind.i64.wrap ((x.kids.length : Int) - x.v) = ((x.kids.length - x.v.toNat : Nat) : Int) := by rw [i64w (by omega)]; omega
      refine wq_loop (α := Nat) (fun i => x.kids.length - i) (fun i => [(3, .ptr 0 0), (4, .ptr 1 0), (7, i64 x.kids.length), (9, i64 i)]) (fun _ => [TB t, XB x]) (fun i => i ≤ x.kids.length - x.v.toNat ∧ ∀ j, j < i → lettR 83 (ks.getD j 0) = true) ?_ 0 ⟨by omega, by omega⟩ ?_ rfl
      · rintro i ⟨hi, hall⟩
        by_cases h : i < x.kids.length - x.v.toNat
        · have h' : (i : Int) < IntKind.i64.wrap ((x.kids.length : Int) - x.v) := by omega
          have hki := fun H => hkid i (by omega) H
          rw [← hg _ (by omega)] at hki
          have hri := fun H => ris_ev (fx := fx) H (ks.getD i 0) 83
          cases hc : lettR 83 (ks.getD i 0) with
          | false =>
            rw [hc] at hri
            repeat' (first | refine run ⟨?_⟩ | refine ca (hki _) ?_ | refine ca (hri _) ?_ | fail)
            rw [not_all (p := lettR 83) (l := ks.take (x.kids.length - x.v.toNat)) (fun e => by rw [take_all (by omega)] at e; have := e i h; rw [hc] at this; cases this), Bool.and_false]; exact rfl
          | true =>
            rw [hc] at hri
            repeat' (first | refine run ⟨?_⟩ | refine ca (hki _) ?_ | refine ca (hri _) ?_ | fail)
            refine ⟨i + 1, ⟨by omega, fun j hj => ?_⟩, by omega, by rw [i64w (by omega)]; rfl, rfl⟩
            by_cases e : j = i
            · rw [e]; exact hc
            · exact hall j (by omega)
        · have h' : ¬ (i : Int) < IntKind.i64.wrap ((x.kids.length : Int) - x.v) := by omega
          refine run ⟨?_⟩
          rw [(take_all (p := lettR 83) (by omega)).2 (fun j hj => hall j (by omega)), decide_eq_true c1, decide_eq_false c2]; exact rfl
      · show [_, _, (7, i64 ((x.kids.map (D.int .i64)).length : Int)), _] = _
        rw [hml]; rfl
  · refine run ⟨?_⟩
    have hn : x.v.toNat ≤ x.kids.length := by omega
    have w3 : IntKind.i64.wrap ((x.kids.length : Int) - x.v) = ((x.kids.length - x.v.toNat : Nat) : Int) := by rw [i64w (by omega)]; omega
    refine wq_loop (α := Nat) (fun i => x.kids.length - i) (fun i => [(3, .ptr 0 0), (4, .ptr 1 0), (7, i64 x.kids.length), (9, i64 i)]) (fun _ => [TB t, XB x]) (fun i => i ≤ x.kids.length - x.v.toNat ∧ ∀ j, j < i → lettR 83 (ks.getD j 0) = true) ?_ 0 ⟨by omega, by omega⟩ ?_ rfl
    · rintro i ⟨hi, hall⟩
      by_cases h : i < x.kids.length - x.v.toNat
      · have h' : (i : Int) < IntKind.i64.wrap ((x.kids.length : Int) - x.v) := by omega
        have hki := fun H => hkid i (by omega) H
        rw [← hg _ (by omega)] at hki
        have hri := fun H => ris_ev (fx := fx) H (ks.getD i 0) 83
        cases hc : lettR 83 (ks.getD i 0) with
        | false =>
          rw [hc] at hri
          repeat' (first | refine run ⟨?_⟩ | refine ca (hki _) ?_ | refine ca (hri _) ?_ | fail)
          rw [not_all (p := lettR 83) (l := ks.take (x.kids.length - x.v.toNat)) (fun e => by rw [take_all (by omega)] at e; have := e i h; rw [hc] at this; cases this), Bool.and_false]; exact rfl
        | true =>
          rw [hc] at hri
          repeat' (first | refine run ⟨?_⟩ | refine ca (hki _) ?_ | refine ca (hri _) ?_ | fail)
          refine ⟨i + 1, ⟨by omega, fun j hj => ?_⟩, by omega, by rw [i64w (by omega)]; rfl, rfl⟩
          by_cases e : j = i
          · rw [e]; exact hc
          · exact hall j (by omega)
      · have h' : ¬ (i : Int) < IntKind.i64.wrap ((x.kids.length : Int) - x.v) := by omega
        refine run ⟨?_⟩
        rw [(take_all (p := lettR 83) (by omega)).2 (fun j hj => hall j (by omega)), decide_eq_false c1]; exact rfl
    · show [_, _, (7, i64 ((x.kids.map (D.int .i64)).length : Int)), _] = _
      rw [hml]; rfl
set_option maxHeartbeats 1000000 in
theorem rfits_go (t : List Nd) (x : Nd) (hkl : x.kids.length ≤ 1048576) (hk : ∀ k ∈ x.kids, 0 ≤ k ∧ k < t.length) (s : List UInt8) (hs1 : s ≠ [102, 110]) (hs2 : s ≠ [98, 108, 111, 99, 107]) (hst : ∀ a, s ≠ a ++ [42]) (hsl : s.length ≤ 1048576) : evF (pgL fx) n_ref13_fits [.d (treeD t), ndV x, str s] H = some (boo (goR s (kinds t x.kids)), H) := by
  refine evF_wq t_ref13_fits rfl rfl ?_ H
  have hkid := fun (i : Nat) (hi : i < x.kids.length) (H : Hp) => rkid_ev (fx := fx) H t x i hi hk
  have hg := fun (i : Nat) (hi : i < x.kids.length) => kinds_get (t := t) hi
  have hl := kinds_len (t := t) (l := x.kids)
  have hml : (x.kids.map (D.int .i64)).length = x.kids.length := List.length_map ..
  obtain ⟨ks, hks⟩ : ∃ ks, ks = kinds t x.kids := ⟨_, rfl⟩
  rw [← hks] at hl hg ⊢
  refine run ⟨?_⟩
  refine wq_loop (α := Nat × Nat) (fun a => s.length - a.2) (fun a => [(2, str s), (3, .ptr 0 0), (4, .ptr 1 0), (7, i64 x.kids.length), (10, i64 a.1), (11, i64 a.2)]) (fun _ => [TB t, XB x]) (fun a => a.1 ≤ x.kids.length ∧ a.2 ≤ s.length ∧ goR s ks = goR (s.drop a.2) (ks.drop a.1)) ?_ (0, 0) ⟨Nat.zero_le _, Nat.zero_le _, rfl⟩ ?_ rfl
  · rintro ⟨i, k⟩ ⟨hi, hkk, hgo⟩
    simp only at hi hkk hgo ⊢
    by_cases h : k < s.length
    · have h' : (k : Int) < (s.length : Int) := by omega
      have hdk := List.drop_eq_getElem_cons h
      obtain ⟨c, hc⟩ : ∃ c, c = s[k] := ⟨_, rfl⟩
      rw [← hc] at hdk
      have hsk : s[k]? = some c := by rw [List.getElem?_eq_getElem h, hc]
      rw [hdk] at hgo
      by_cases c42 : c = 42
      · subst c42
        have hk1 : k + 1 < s.length := by
          refine Nat.lt_of_not_le fun hge => hst (s.take k) ?_
          have := List.take_append_drop k s
          rw [hdk, List.drop_of_length_le hge] at this
          exact this.symm
        obtain ⟨d, hd⟩ : ∃ d, d = s[k + 1] := ⟨_, rfl⟩
        have hsd : s[k + 1]? = some d := by rw [List.getElem?_eq_getElem hk1, hd]
        rw [List.drop_eq_getElem_cons hk1, ← hd] at hgo
        have hgo : goR s ks = (ks.drop i).all (lettR d) := by rw [hgo]; simp only [goR]
        repeat' (first | refine run ⟨?_⟩ | refine pickD (d := 42) ⟨by omega, hsk⟩ ?_ | fail)
        refine wq_loop (α := Nat) (fun j => x.kids.length - j) (fun j => [(2, str s), (3, .ptr 0 0), (4, .ptr 1 0), (7, i64 x.kids.length), (10, i64 j), (11, i64 k)]) (fun _ => [TB t, XB x]) (fun j => i ≤ j ∧ j ≤ x.kids.length ∧ ∀ m, i ≤ m → m < j → lettR d (ks.getD m 0) = true) ?_ i ⟨Nat.le_refl _, hi, fun m h1 h2 => by omega⟩ rfl rfl
        rintro j ⟨ij, hj, hall⟩
        by_cases hjl : j < x.kids.length
        · have hjl' : (j : Int) < (x.kids.length : Int) := by omega
          have hki := fun H => hkid j (by omega) H
          rw [← hg _ (by omega)] at hki
          have hri := fun H => ris_ev (fx := fx) H (ks.getD j 0) d
          have w : IntKind.i64.wrap ((k : Int) + 1) = ((k + 1 : Nat) : Int) := by rw [i64w (by omega)]; rfl
          have pd : 0 ≤ IntKind.i64.wrap ((k : Int) + 1) ∧ s[(IntKind.i64.wrap ((k : Int) + 1)).toNat]? = some d := by rw [w]; exact ⟨by omega, hsd⟩
          cases hc : lettR d (ks.getD j 0) with
          | false =>
            rw [hc] at hri
            repeat' (first | refine run ⟨?_⟩ | refine ca (hki _) ?_ | refine ca (hri _) ?_ | refine pickD pd ?_ | fail)
            rw [hgo, not_all (p := lettR d) (l := ks.drop i) (fun e => by have := drop_all.1 e j ij (by omega); rw [hc] at this; cases this)]; exact rfl
          | true =>
            rw [hc] at hri
            repeat' (first | refine run ⟨?_⟩ | refine ca (hki _) ?_ | refine ca (hri _) ?_ | refine pickD pd ?_ | fail)
            refine ⟨j + 1, ⟨by omega, by omega, fun m h1 h2 => ?_⟩, by omega, by rw [i64w (by omega)]; rfl, rfl⟩
            by_cases e : m = j
            · rw [e]; exact hc
            · exact hall m h1 (by omega)
        · have hjl' : ¬ (j : Int) < (x.kids.length : Int) := by omega
          refine run ⟨?_⟩
          rw [hgo, drop_all.2 (fun m h1 h2 => hall m h1 (by omega))]; exact rfl
      · have n42 : ¬ (c.toNat : Int) = 42 := fun e => c42 (UInt8.toNat_inj.1 (by have e2 : (42 : UInt8).toNat = 42 := rfl; omega))
        rw [go_one c c42] at hgo
        by_cases hil : i < x.kids.length
        · have hil' : ¬ (i : Int) = (x.kids.length : Int) := by omega
          have hki := fun H => hkid i (by omega) H
          rw [← hg _ (by omega)] at hki
          have hri := fun H => ris_ev (fx := fx) H (ks.getD i 0) c
          have hdi : ks.drop i = ks.getD i 0 :: ks.drop (i + 1) := by
            rw [List.drop_eq_getElem_cons (by omega)]
            simp [show i < ks.length by omega]
          rw [hdi] at hgo
          simp only at hgo
          cases hc : lettR c (ks.getD i 0) with
          | false =>
            rw [hc] at hri hgo
            repeat' (first | refine run ⟨?_⟩ | refine ca (hki _) ?_ | refine ca (hri _) ?_ | refine pickD (d := c) ⟨by omega, hsk⟩ ?_ | fail)
            rw [hgo]; exact rfl
          | true =>
            rw [hc, Bool.true_and] at hgo
            rw [hc] at hri
            repeat' (first | refine run ⟨?_⟩ | refine ca (hki _) ?_ | refine ca (hri _) ?_ | refine pickD (d := c) ⟨by omega, hsk⟩ ?_ | fail)
            exact ⟨(i + 1, k + 1), ⟨by show i + 1 ≤ _; omega, by show k + 1 ≤ _; omega, hgo⟩, by show s.length - (k + 1) < s.length - k; omega, by rw [i64w (by omega), i64w (by omega)]; rfl, rfl⟩
        · have hil' : (i : Int) = (x.kids.length : Int) := by omega
          rw [List.drop_of_length_le (by omega : ks.length ≤ i)] at hgo
          repeat' (first | refine run ⟨?_⟩ | refine pickD (d := c) ⟨by omega, hsk⟩ ?_ | fail)
          rw [hgo]; exact rfl
    · have h' : ¬ (k : Int) < (s.length : Int) := by omega
      refine run ⟨?_⟩
      rw [hgo, List.drop_of_length_le (by omega : s.length ≤ k)]
      by_cases e : i = x.kids.length
      · rw [List.drop_of_length_le (by omega : ks.length ≤ i)]
        show V.d (.bool (decide ((i : Int) = (x.kids.length : Int)))) = _
        rw [decide_eq_true (by omega)]; rfl
      · show V.d (.bool (decide ((i : Int) = (x.kids.length : Int)))) = V.d (.bool (decide (ks.drop i = [])))
        rw [decide_eq_false (by omega), decide_eq_false]
        intro e2
        have := List.drop_eq_nil_iff.1 e2
        omega
  · show [_, _, _, (7, i64 ((x.kids.map (D.int .i64)).length : Int)), _, _] = _
    rw [hml]; rfl
end
end Go.Vm.Tre
namespace Go.Vm.Tre
open Go.Vm.Tp
open Go.Vm.Lex (nameB)
set_option maxRecDepth 10000
theorem sign_in (s : List UInt8) : decide (0 < signN s) = decide (s ∈ signsL) := by
  unfold signN signsL
  by_cases c0 : s = [124, 124]
  · subst c0; decide
  by_cases c1 : s = [38, 38]
  · subst c1; decide
  by_cases c2 : s = [61, 61]
  · subst c2; decide
  by_cases c3 : s = [33, 61]
  · subst c3; decide
  by_cases c4 : s = [60]
  · subst c4; decide
  by_cases c5 : s = [62]
  · subst c5; decide
  by_cases c6 : s = [60, 61]
  · subst c6; decide
  by_cases c7 : s = [62, 61]
  · subst c7; decide
  by_cases c8 : s = [43]
  · subst c8; decide
  by_cases c9 : s = [45]
  · subst c9; decide
  by_cases c10 : s = [42]
  · subst c10; decide
  by_cases c11 : s = [47]
  · subst c11; decide
  by_cases c12 : s = [37]
  · subst c12; decide
  simp only [c0, c1, c2, c3, c4, c5, c6, c7, c8, c9, c10, c11, c12, if_false, or_self, List.mem_cons, List.not_mem_nil]
  decide
section
variable {fx : Nat → Option Obj} (H : Hp)
theorem rpicked_ev (s : List UInt8) (hs : s.length ≤ 1048576) : evF (pgL fx) n_ref13_picked [str s] H = some (boo ((cutT s).2.2 && nameB (cutT s).1 && nameB (cutT s).2.1), H) := by
  refine evF_wq t_ref13_picked rfl rfl ?_ H
  refine run ⟨?_⟩
  refine wq_loop (α := Nat) (fun i => s.length - i) (fun i => [(0, str s), (3, i64 i)]) (fun _ => []) (fun i => i ≤ s.length ∧ Lib.NoOcc s [58, 58] i) ?_ 0 ⟨Nat.zero_le _, fun j h => absurd h (Nat.not_lt_zero _)⟩ rfl rfl
  rintro i ⟨hi, hno⟩
  have w1 : IntKind.i64.wrap ((i : Int) + 1) = ((i + 1 : Nat) : Int) := by rw [i64w (by omega)]; rfl
  have w2 : IntKind.i64.wrap ((i : Int) + 2) = ((i + 2 : Nat) : Int) := by rw [i64w (by omega)]; rfl
  by_cases h : i + 1 < s.length
  · have h' : IntKind.i64.wrap ((i : Int) + 1) < (s.length : Int) := by omega
    have p0 : (0 : Int) ≤ IntKind.i64.wrap ((i : Int) + 2) := by omega
    have p1 : (i : Int).toNat ≤ (IntKind.i64.wrap ((i : Int) + 2)).toNat ∧ (IntKind.i64.wrap ((i : Int) + 2)).toNat ≤ s.length := by omega
    have ho := occ2 s i
    have ho' : decide (List.drop (i : Int).toNat (List.take (IntKind.i64.wrap ((i : Int) + 2)).toNat s) = [58, 58]) = Lib.occAt s [58, 58] i := by rw [w2]; exact ho
    have i0 : (0 : Int) ≤ (i : Int) := by omega
    cases hc : Lib.occAt s [58, 58] i with
    | true =>
      rw [hc] at ho'
      have hcut := cut_hit hno (by omega) hc
      have e1 : List.drop 0 (List.take (i : Int).toNat s) = s.take i := by rw [List.drop_zero]; rfl
      have e2 : List.drop (IntKind.i64.wrap ((i : Int) + 2)).toNat (List.take s.length s) = s.drop (i + 2) := by rw [List.take_length, w2]; rfl
      have q1 : 0 ≤ (i : Int).toNat ∧ (i : Int).toNat ≤ s.length := by omega
      have q2 : (IntKind.i64.wrap ((i : Int) + 2)).toNat ≤ s.length ∧ s.length ≤ s.length := by omega
      have n1 := fun H => rname_ev (fx := fx) H (s.take i) (by have := List.length_take_le i s; unfold maxLen; omega)
      have n2 := fun H => rname_ev (fx := fx) H (s.drop (i + 2)) (by have : (s.drop (i + 2)).length ≤ s.length := by simp
                                                                     unfold maxLen; omega)
      rw [hcut]
      simp only [Bool.true_and]
      cases hn : nameB (s.take i) with
      | false =>
        rw [hn, ← e1] at n1
        repeat' (first | refine run ⟨?_⟩ | refine And.intro i0 ?_ | refine And.intro p0 ?_ | refine And.intro p1 ?_ | refine and_t ho' ?_ | refine And.intro q1 ?_ | refine ca (n1 _) ?_ | fail)
        exact rfl
      | true =>
        rw [hn, ← e1] at n1
        cases hm : nameB (s.drop (i + 2)) with
        | false =>
          rw [hm, ← e2] at n2
          repeat' (first | refine run ⟨?_⟩ | refine And.intro i0 ?_ | refine And.intro p0 ?_ | refine And.intro p1 ?_ | refine and_t ho' ?_ | refine And.intro q1 ?_ | refine ca (n1 _) ?_ | refine And.intro q2 ?_ | refine ca (n2 _) ?_ | fail)
          exact rfl
        | true =>
          rw [hm, ← e2] at n2
          repeat' (first | refine run ⟨?_⟩ | refine And.intro i0 ?_ | refine And.intro p0 ?_ | refine And.intro p1 ?_ | refine and_t ho' ?_ | refine And.intro q1 ?_ | refine ca (n1 _) ?_ | refine And.intro q2 ?_ | refine ca (n2 _) ?_ | fail)
          exact rfl
    | false =>
      rw [hc] at ho'
      repeat' (first | refine run ⟨?_⟩ | refine And.intro i0 ?_ | refine And.intro p0 ?_ | refine And.intro p1 ?_ | refine and_f ho' ?_ | fail)
      refine ⟨i + 1, ⟨by omega, fun j hj => ?_⟩, by omega, by rw [w1], rfl⟩
      by_cases e : j = i
      · rw [e]; exact hc
      · exact hno j (by omega)
  · have h' : ¬ IntKind.i64.wrap ((i : Int) + 1) < (s.length : Int) := by omega
    refine run ⟨?_⟩
    rw [cut_miss hno (by omega)]; exact rfl
theorem rnamed_ev (x : Nd) (hx : x.t.length ≤ 1048576) : evF (pgL fx) n_ref13_named [ndV x] H = some (boo (nmB x.k x.t), H) := by
  obtain ⟨k, t, v, kids, f, e⟩ := x
  simp only at hx ⊢
  refine evF_wq t_ref13_named rfl rfl ?_ H
  have hn := fun H => rname_ev (fx := fx) H t (by unfold maxLen; omega)
  by_cases hA : k = 2 ∨ k = 3 ∨ k = 4 ∨ k = 5 ∨ k = 6 ∨ k = 7 ∨ k = 13 ∨ k = 21 ∨ k = 33 ∨ k = 34 ∨ k = 35 ∨ k = 36 ∨ k = 41 ∨ k = 51
  · have e0 : nmB k t = nameB t := by unfold nmB; rw [if_pos hA]
    rw [e0]
    rcases hA with rfl | rfl | rfl | rfl | rfl | rfl | rfl | rfl | rfl | rfl | rfl | rfl | rfl | rfl
    all_goals
      repeat' (first | refine run ⟨?_⟩ | refine ca (hn _) ?_ | fail)
      exact rfl
  have e1 : nmB k t = if k = 37 ∨ k = 54 then (cutT t).2.2 && nameB (cutT t).1 && nameB (cutT t).2.1 else if k = 38 then decide (t ∈ signsL) else decide (t = []) := by unfold nmB; exact if_neg hA
  rw [e1]
  clear e1
  simp only [not_or] at hA
  obtain ⟨a2, a3, a4, a5, a6, a7, a13, a21, a33, a34, a35, a36, a41, a51⟩ := hA
  by_cases hB : k = 37 ∨ k = 54
  · rw [if_pos hB]
    have hp := fun H => rpicked_ev (fx := fx) H t hx
    rcases hB with rfl | rfl
    all_goals
      repeat' (first | refine run ⟨?_⟩ | refine ca (hp _) ?_ | fail)
      exact rfl
  rw [if_neg hB]
  simp only [not_or] at hB
  obtain ⟨b1, b2⟩ := hB
  by_cases hC : k = 38
  · subst hC
    repeat' (first | refine run ⟨?_⟩ | refine ca (rsign_ev _ _) ?_ | fail)
    rw [if_pos rfl, ← sign_in]
    exact rfl
  rw [if_neg hC]
  refine run ⟨?_⟩
  exact rfl
end
end Go.Vm.Tre
namespace Go.Vm.Tre
open Go.Vm.Tp
set_option maxRecDepth 10000
theorem forms_ok {k : Int} {s : List UInt8} (h : s ∈ formsR k) : (∀ a, s ≠ a ++ [42]) ∧ s.length ≤ 1048576 := by
  have key : ∀ l : List (List UInt8), (l.all fun s => decide (s.getLast? ≠ some 42) && decide (s.length ≤ 1048576)) = true → s ∈ l → (∀ a, s ≠ a ++ [42]) ∧ s.length ≤ 1048576 := by
    intro l hl hm
    have := List.all_eq_true.1 hl s hm
    simp only [Bool.and_eq_true, decide_eq_true_eq] at this
    refine ⟨fun a e => this.1 ?_, this.2⟩
    rw [e]; simp
  refine key _ ?_ h
  clear h key
  unfold formsR
  repeat' refine ite_ind (P := fun l : List (List UInt8) => (l.all fun s => decide (s.getLast? ≠ some 42) && decide (s.length ≤ 1048576)) = true) ?_ ?_
  all_goals decide
theorem forms_20 {k : Int} (h : [98, 108, 111, 99, 107] ∈ formsR k) : k = 20 := by
  refine Decidable.byContradiction fun hk => ?_
  revert h
  have key : ∀ l : List (List UInt8), (l.all fun s => decide (s ≠ [98, 108, 111, 99, 107])) = true → ¬ [98, 108, 111, 99, 107] ∈ l := by
    intro l hl hm
    have := List.all_eq_true.1 hl _ hm
    simp at this
  refine key _ ?_
  clear key
  unfold formsR
  simp only [hk, if_false]
  repeat' refine ite_ind (P := fun l : List (List UInt8) => (l.all fun s => decide (s ≠ [98, 108, 111, 99, 107])) = true) ?_ ?_
  all_goals decide
theorem forms_len (k : Int) : (formsR k).length ≤ 2 := by
  unfold formsR
  repeat' refine ite_ind (P := fun l : List (List UInt8) => l.length ≤ 2) ?_ ?_
  all_goals decide
section
variable {fx : Nat → Option Obj} (H : Hp)
theorem rfits_ev (t : List Nd) (x : Nd) (hkl : x.kids.length ≤ 1048576) (hk : ∀ k ∈ x.kids, 0 ≤ k ∧ k < t.length) (hc : countR x.k x.v = true) (s : List UInt8) (hs : s ∈ formsR x.k) : evF (pgL fx) n_ref13_fits [.d (treeD t), ndV x, str s] H = some (boo (fitsR x.v (kinds t x.kids) s), H) := by
  unfold fitsR
  by_cases c1 : s = [102, 110]
  · subst c1; rw [if_pos rfl]; exact rfits_fn H t x hkl hk
  rw [if_neg c1]
  by_cases c2 : s = [98, 108, 111, 99, 107]
  · subst c2; rw [if_pos rfl]
    have h20 := forms_20 hs
    rw [h20] at hc
    have : (decide (x.v = 0) || decide (x.v = 1)) = true := hc
    exact rfits_block H t x hkl hk (by simpa using this)
  rw [if_neg c2]
  obtain ⟨h1, h2⟩ := forms_ok hs
  exact rfits_go H t x hkl hk s c1 c2 h1 h2
set_option maxHeartbeats 2000000 in
theorem rnode_ev (t : List Nd) (hf : Fine t) (i : Nat) (hi : i < t.length) : evF (pgL fx) n_ref13_node [.d (treeD t), i64 i] H = some (boo (nodeR t i), H) := by
  refine evF_wq t_ref13_node rfl rfl ?_ H
  have htl := hf.len
  have hg := ndD_at (t := t) (k := (i : Int)) (by omega) (by omega)
  have hmem := nd_mem hi
  have hkl := hf.kid _ hmem
  have htx := hf.txt _ hmem
  show enterK 0 _ fun e => WQ _ _ _ _ _ _ (retK _ _ fun v _ => v = boo (knownB (nd t i).k && (nmB (nd t i).k (nd t i).t && (countR (nd t i).k (nd t i).v && (decide (0 ≤ (nd t i).f) && (decide ((nd t i).f ≤ (nd t i).e) && ((nd t i).kids.all (kidOk i) && (formsR (nd t i).k).any (fitsR (nd t i).v (kinds t (nd t i).kids)))))))))
  change 0 ≤ (i : Int) ∧ (t.map Nd.D)[(i : Int).toNat]? = some (nd t i).D at hg
  obtain ⟨x, hx⟩ : ∃ x, x = nd t i := ⟨_, rfl⟩
  rw [← hx] at hg hkl htx ⊢
  clear hx hmem
  have e1 := fun H => rknown_ev (fx := fx) H x.k
  have e2 := fun H => rnamed_ev (fx := fx) H x htx
  have e3 := fun H => rcounted_ev (fx := fx) H x
  cases c1 : knownB x.k with
  | false =>
    rw [c1] at e1
    repeat' (first | refine run ⟨?_⟩ | refine pickD hg ?_ | refine ca (e1 _) ?_ | fail)
    exact rfl
  | true =>
  rw [c1] at e1
  cases c2 : nmB x.k x.t with
  | false =>
    rw [c2] at e2
    repeat' (first | refine run ⟨?_⟩ | refine pickD hg ?_ | refine ca (e1 _) ?_ | refine ca (e2 _) ?_ | fail)
    exact rfl
  | true =>
  rw [c2] at e2
  cases c3 : countR x.k x.v with
  | false =>
    rw [c3] at e3
    repeat' (first | refine run ⟨?_⟩ | refine pickD hg ?_ | refine ca (e1 _) ?_ | refine ca (e2 _) ?_ | refine ca (e3 _) ?_ | fail)
    exact rfl
  | true =>
  rw [c3] at e3
  by_cases c4 : x.f < 0
  · repeat' (first | refine run ⟨?_⟩ | refine pickD hg ?_ | refine ca (e1 _) ?_ | refine ca (e2 _) ?_ | refine ca (e3 _) ?_ | fail)
    rw [decide_eq_false (by omega : ¬ 0 ≤ x.f)]; exact rfl
  by_cases c5 : x.e < x.f
  · repeat' (first | refine run ⟨?_⟩ | refine pickD hg ?_ | refine ca (e1 _) ?_ | refine ca (e2 _) ?_ | refine ca (e3 _) ?_ | fail)
    rw [decide_eq_true (by omega : 0 ≤ x.f), decide_eq_false (by omega : ¬ x.f ≤ x.e)]; exact rfl
  repeat' (first | refine run ⟨?_⟩ | refine pickD hg ?_ | refine ca (e1 _) ?_ | refine ca (e2 _) ?_ | refine ca (e3 _) ?_ | fail)
  rw [decide_eq_true (by omega : 0 ≤ x.f), decide_eq_true (by omega : x.f ≤ x.e)]
  simp only [Bool.true_and]
  refine wq_loop (α := Nat) (fun j => x.kids.length - j) (fun j => [(1, i64 i), (2, .ptr 0 0), (5, .ptr 1 0), (42, ints x.kids), (43, i64 x.kids.length), (44, i64 j)]) (fun _ => [TB t, XB x]) (fun j => j ≤ x.kids.length ∧ ∀ k ∈ x.kids.take j, kidOk i k = true) ?_ 0 ⟨Nat.zero_le _, by simp⟩ ?_ rfl
  · rintro j ⟨hj, hall⟩
    by_cases h : j < x.kids.length
    · have h' : (j : Int) < (x.kids.length : Int) := by omega
      have pj : 0 ≤ (j : Int) ∧ (x.kids.map (D.int .i64))[(j : Int).toNat]? = some (.int .i64 (x.kids.getD j 0)) := ⟨by omega, gK h⟩
      have ej : x.kids.getD j 0 = x.kids[j] := by simp [h]
      have bad : kidOk i (x.kids.getD j 0) = false → x.kids.all (kidOk i) = false := fun hb => not_all fun hc => by
        have := List.all_eq_true.1 hc _ (List.getElem_mem h); rw [← ej, hb] at this; cases this
      by_cases k0 : x.kids.getD j 0 < 0
      · repeat' (first | refine run ⟨?_⟩ | refine pickD pj ?_ | fail)
        rw [bad (by unfold kidOk; rw [decide_eq_false (by omega)]; rfl)]; exact rfl
      by_cases k1 : (i : Int) ≤ x.kids.getD j 0
      · repeat' (first | refine run ⟨?_⟩ | refine pickD pj ?_ | fail)
        rw [bad (by unfold kidOk; rw [decide_eq_false (by omega : ¬ x.kids.getD j 0 < (i : Int)), Bool.and_false])]; exact rfl
      repeat' (first | refine run ⟨?_⟩ | refine pickD pj ?_ | fail)
      refine ⟨j + 1, ⟨by omega, fun k hk => ?_⟩, by omega, by rw [i64w (by omega)]; rfl, rfl⟩
      rw [List.take_add_one, List.getElem?_eq_getElem h, List.mem_append] at hk
      rcases hk with hk | hk
      · exact hall k hk
      · have : k = x.kids.getD j 0 := by rw [ej]; simpa using hk
        rw [this]; unfold kidOk; rw [decide_eq_true (by omega), decide_eq_true (by omega)]; rfl
    · have h' : ¬ (j : Int) < (x.kids.length : Int) := by omega
      rw [List.take_of_length_le (by omega)] at hall
      rw [List.all_eq_true.2 hall, Bool.true_and]
      have hk : ∀ k ∈ x.kids, 0 ≤ k ∧ k < t.length := fun k hk => by
        have := hall k hk
        simp only [kidOk, Bool.and_eq_true, decide_eq_true_eq] at this
        omega
      have ef := fun s hs H => rfits_ev (fx := fx) H t x hkl hk c3 s hs
      have ei := fun H => rforms_ev (fx := fx) H x
      have hfl := forms_len x.k
      have hml : ((formsR x.k).map D.str).length = (formsR x.k).length := List.length_map ..
      obtain ⟨l, hle⟩ : ∃ l, l = formsR x.k := ⟨_, rfl⟩
      rw [← hle] at ef ei hfl hml ⊢
      clear hle e1 e2 e3
      repeat' (first | refine run ⟨?_⟩ | refine ca (ei _) ?_ | fail)
      refine wq_loop (α := Nat) (fun a => l.length - a) (fun a => [(2, .ptr 0 0), (5, .ptr 1 0), (57, .d (.sl (l.map .str))), (58, i64 l.length), (59, i64 a)]) (fun _ => [TB t, XB x]) (fun a => a ≤ l.length ∧ ∀ s ∈ l.take a, fitsR x.v (kinds t x.kids) s = false) ?_ 0 ⟨Nat.zero_le _, by simp⟩ ?_ rfl
      · rintro a ⟨ha, hno⟩
        by_cases h2 : a < l.length
        · have h2' : (a : Int) < (l.length : Int) := by omega
          have pa : 0 ≤ (a : Int) ∧ (l.map D.str)[(a : Int).toNat]? = some (.str (l.getD a [])) := ⟨by omega, by rw [List.getElem?_map, Int.toNat_natCast, get_getD h2 []]; rfl⟩
          have ea : l.getD a [] = l[a] := by simp [h2]
          have hfa := ef (l.getD a []) (by rw [ea]; exact List.getElem_mem _)
          cases hc : fitsR x.v (kinds t x.kids) (l.getD a []) with
          | true =>
            rw [hc] at hfa
            repeat' (first | refine run ⟨?_⟩ | refine pickD pa ?_ | refine ca (hfa _) ?_ | fail)
            rw [List.any_eq_true.2 ⟨l[a], List.getElem_mem _, by rw [← ea]; exact hc⟩]; exact rfl
          | false =>
            rw [hc] at hfa
            repeat' (first | refine run ⟨?_⟩ | refine pickD pa ?_ | refine ca (hfa _) ?_ | fail)
            refine ⟨a + 1, ⟨by omega, fun s hs => ?_⟩, by omega, by rw [i64w (by omega)]; rfl, rfl⟩
            rw [List.take_add_one, List.getElem?_eq_getElem h2, List.mem_append] at hs
            rcases hs with hs | hs
            · exact hno s hs
            · have : s = l.getD a [] := by rw [ea]; simpa using hs
              rw [this]; exact hc
        · have h2' : ¬ (a : Int) < (l.length : Int) := by omega
          rw [List.take_of_length_le (by omega)] at hno
          refine run ⟨?_⟩
          have : l.any (fitsR x.v (kinds t x.kids)) = false := List.any_eq_false.2 fun s hs => by rw [hno s hs]; simp
          rw [this]; exact rfl
      · show [_, _, _, (58, i64 ((l.map D.str).length : Int)), _] = _
        rw [hml]; rfl
  · show [_, _, _, _, (43, i64 ((x.kids.map (D.int .i64)).length : Int)), _] = _
    rw [List.length_map]; rfl
end
end Go.Vm.Tre
namespace Go.Vm.Tre
open Go.Vm.Tp
set_option maxRecDepth 10000
def mx : List Int → Int
  | [] => 0
  | a :: r => if mx r < a then a else mx r
theorem mx_eq : ∀ (r : List Int) (a : Int), 0 ≤ a → maxL (a :: r) = max a (mx r)
  | [], a, h => by simp only [maxL, List.foldl_nil, mx]; omega
  | b :: r, a, h => by
    have e : maxL (a :: b :: r) = maxL (max a b :: r) := rfl
    rw [e, mx_eq r (max a b) (by omega)]
    simp only [mx]
    split <;> omega
theorem maxL_mx {l : List Int} (h : ∀ (j : Nat) (v : Int), l[j]? = some v → 0 ≤ v) (hl : 1 ≤ l.length) : maxL l = mx l := by
  cases l with
  | nil => simp at hl
  | cons a r =>
    rw [mx_eq r a (h 0 a rfl)]
    simp only [mx]; split <;> omega
theorem ups_last {t : List Nd} {up : List Int} (h : ups t = some up) (hk : KidsOk t) (h1 : 1 ≤ t.length) : up.getD (t.length - 1) (-1) = -1 := by
  have hl := ups_facts h
  have hkp : ∀ x ∈ t, ∀ k ∈ x.kids, 0 ≤ k := by
    intro x hx k hm
    obtain ⟨i, hi, rfl⟩ := List.getElem_of_mem hx
    have := List.all_eq_true.1 (hk i hi) k (by simpa [nd, hi] using hm)
    simp only [kidOk, Bool.and_eq_true, decide_eq_true_eq] at this
    exact this.1
  have hr := hl.2 (t.length - 1) (up.getD (t.length - 1) (-1)) (get_getD (by omega) _)
  by_cases hj : 0 ≤ up.getD (t.length - 1) (-1)
  · obtain ⟨a, b⟩ := ups_mem h hkp _ hj
    have := List.all_eq_true.1 (hk (up.getD (t.length - 1) (-1)).toNat (by omega)) _ b
    simp only [kidOk, Bool.and_eq_true, decide_eq_true_eq] at this
    omega
  · omega
theorem no_neg {t : List Nd} {up : List Int} (h : ups t = some up) : up.dropLast.contains (-1) = false ↔ ∀ j, j + 1 < up.length → 0 ≤ up.getD j 0 := by
  have hl := ups_facts h
  constructor
  · intro hc j hj
    have hr := hl.2 j (up.getD j 0) (get_getD (by omega) 0)
    refine Decidable.byContradiction fun hn => ?_
    have e : up.getD j 0 = -1 := by omega
    have hm : (-1 : Int) ∈ up.dropLast := by
      rw [← e, List.getD_eq_getElem?_getD, List.getElem?_eq_getElem (by omega : j < up.length), Option.getD_some]
      rw [List.dropLast_eq_take]
      exact List.mem_take_iff_getElem.2 ⟨j, by omega, rfl⟩
    rw [← List.contains_iff_mem, hc] at hm; cases hm
  · intro ha
    cases hb : up.dropLast.contains (-1) with
    | false => rfl
    | true =>
      rw [List.contains_iff_mem, List.dropLast_eq_take] at hb
      obtain ⟨j, hj, e⟩ := List.mem_take_iff_getElem.1 hb
      have := ha j (by omega)
      rw [List.getD_eq_getElem?_getD, List.getElem?_eq_getElem (by omega : j < up.length), Option.getD_some, e] at this
      omega
section
variable {fx : Nat → Option Obj} (H : Hp)
set_option maxHeartbeats 4000000 in
theorem rparents_ev (t : List Nd) (hf : Fine t) (hk : KidsOk t) : evF (pgL fx) n_ref13_parents [.d (treeD t)] H = some (match ups t with | none => .tup [.d (.sl []), boo false] | some up => if up.dropLast.contains (-1) = true then .tup [.d (.sl []), boo false] else .tup [ints up, boo true], H) := by
  refine evF_wq t_ref13_parents rfl rfl ?_ H
  have htl := hf.len
  have hnl : (t.map Nd.D).length = t.length := List.length_map ..
  have hmsl : 0 ≤ ((t.map Nd.D).length : Int) ∧ roomy ((t.map Nd.D).length : Int).toNat 8 := ⟨by omega, by unfold roomy; omega⟩
  repeat' (first | refine run ⟨?_⟩ | refine And.intro hmsl ?_ | fail)
  refine wq_loop (α := Nat) (fun i => t.length - i) (fun i => [(1, .ptr 0 0), (4, .arr 1 0 t.length), (16, i64 t.length), (17, i64 i)])
    (fun i => [TB t, .box (arrI (List.replicate i (-1) ++ List.replicate (t.length - i) 0))]) (fun i => i ≤ t.length) ?_ 0 (by omega) ?_ ?_
  · intro i hi
    by_cases h : i < t.length
    · have h' : (i : Int) < (t.length : Int) := by omega
      refine run ⟨?_⟩
      refine And.intro ⟨by omega, by omega⟩ ?_
      refine st_of (by simp; omega) ?_
      refine run ⟨?_⟩
      refine ⟨i + 1, by omega, by omega, ?_, ?_⟩
      · rw [i64w (by omega)]; rfl
      · have e : (List.replicate i (-1 : Int) ++ List.replicate (t.length - i) 0).set i (-1) = List.replicate (i + 1) (-1) ++ List.replicate (t.length - (i + 1)) 0 := by
          rw [List.set_append_right _ _ (by simp), List.length_replicate, Nat.sub_self, show t.length - i = (t.length - (i + 1)) + 1 by omega, List.replicate_succ, List.set_cons_zero, List.replicate_succ', List.append_assoc]; rfl
        have e2 := arrI_put (l := List.replicate i (-1 : Int) ++ List.replicate (t.length - i) 0) (i := i) (by simp; omega) (-1)
        rw [e] at e2
        show [_, Ob.box (putAt _ (0 + i * 1) _)] = _
        rw [Nat.zero_add, Nat.mul_one, e2]
    · have h' : ¬ (i : Int) < (t.length : Int) := by omega
      obtain rfl : i = t.length := by omega
      rw [Nat.sub_self, List.replicate_zero, List.append_nil]
      refine run ⟨?_⟩
      refine wq_loop (α := Nat × List Int) (fun a => t.length - a.1) (fun a => [(4, .arr 1 0 t.length), (25, .d (.sl (t.map Nd.D))), (26, i64 t.length), (27, i64 a.1)])
        (fun a => [TB t, .box (arrI a.2)]) (fun a => a.1 ≤ t.length ∧ a.2.length = t.length ∧ upAll a.1 (t.drop a.1) a.2 = ups t) ?_ (0, List.replicate t.length (-1)) ⟨by omega, by simp, rfl⟩ ?_ ?_
      · rintro ⟨i, out⟩ ⟨hi, hol, hup⟩
        simp only at hi hol hup ⊢
        by_cases h : i < t.length
        · have h' : (i : Int) < (t.length : Int) := by omega
          obtain ⟨x, hxe⟩ : ∃ x, x = nd t i := ⟨_, rfl⟩
          have hx : x ∈ t := by rw [hxe]; exact nd_mem h
          have hkl := hf.kid x hx
          have hko : x.kids.all (kidOk i) = true := by rw [hxe]; exact hk i h
          have hdr : t.drop i = x :: t.drop (i + 1) := by rw [hxe, List.drop_eq_getElem_cons h]; congr 1; simp [nd, h]
          rw [hdr] at hup
          simp only [upAll] at hup
          have pi : 0 ≤ (i : Int) ∧ (t.map Nd.D)[(i : Int).toNat]? = some x.D := by rw [hxe]; exact ndD_at (k := (i : Int)) (by omega) (by omega)
          repeat' (first | refine run ⟨?_⟩ | refine pickD pi ?_ | fail)
          refine wq_loop (α := Nat × List Int) (fun a => x.kids.length - a.1) (fun a => [(4, .arr 1 0 t.length), (6, i64 i), (25, .d (.sl (t.map Nd.D))), (26, i64 t.length), (27, i64 i), (33, ints x.kids), (34, i64 x.kids.length), (35, i64 a.1)])
            (fun a => [TB t, .box (arrI a.2), XB x]) (fun a => a.1 ≤ x.kids.length ∧ a.2.length = t.length ∧ upKids i (x.kids.drop a.1) a.2 = upKids i x.kids out) ?_ (0, out) ⟨by omega, hol, rfl⟩ ?_ rfl
          · rintro ⟨j, o⟩ ⟨hj, hoj, hupj⟩
            simp only at hj hoj hupj ⊢
            by_cases h2 : j < x.kids.length
            · have h2' : (j : Int) < (x.kids.length : Int) := by omega
              have hkj := List.all_eq_true.1 hko _ (List.getElem_mem h2)
              simp only [kidOk, Bool.and_eq_true, decide_eq_true_eq] at hkj
              rw [List.drop_eq_getElem_cons h2] at hupj
              simp only [upKids] at hupj
              have hkn : x.kids[j].toNat < o.length := by omega
              have pj : 0 ≤ (j : Int) ∧ (x.kids.map (D.int .i64))[(j : Int).toNat]? = some (.int .i64 x.kids[j]) := ⟨by omega, by rw [List.getElem?_map, Int.toNat_natCast, List.getElem?_eq_getElem h2]; rfl⟩
              have pb : 0 ≤ x.kids[j] ∧ x.kids[j].toNat < t.length := by omega
              by_cases hc : 0 ≤ o.getD x.kids[j].toNat 0
              · rw [if_pos hc] at hupj
                rw [← hupj] at hup
                rw [← hup]
                repeat' (first | refine run ⟨?_⟩ | refine pickD pj ?_ | refine And.intro pb ?_ | refine nthK_of (arrI_at hkn) ?_ | fail)
                exact rfl
              · rw [if_neg hc] at hupj
                repeat' (first | refine run ⟨?_⟩ | refine pickD pj ?_ | refine And.intro pb ?_ | refine nthK_of (arrI_at hkn) ?_ | fail)
                refine st_of (by simp; omega) ?_
                refine run ⟨?_⟩
                refine ⟨(j + 1, o.set x.kids[j].toNat i), ⟨by show j + 1 ≤ _; omega, by simp [hoj], hupj⟩, by show _ - (j + 1) < _ - j; omega, ?_, ?_⟩
                · rw [i64w (by omega)]; rfl
                · show [_, Ob.box (putAt _ (0 + _ * 1) _), _] = _
                  rw [Nat.zero_add, Nat.mul_one, arrI_put hkn]
            · have h2' : ¬ (j : Int) < (x.kids.length : Int) := by omega
              rw [List.drop_of_length_le (by omega)] at hupj
              simp only [upKids] at hupj
              rw [← hupj] at hup
              refine run ⟨?_⟩
              refine ⟨(i + 1, o), ⟨by show i + 1 ≤ _; omega, hoj, hup⟩, by show _ - (i + 1) < _ - i; omega, ?_, rfl⟩
              rw [i64w (by omega)]; rfl
          · show [_, _, _, _, _, _, (34, i64 ((x.kids.map (D.int .i64)).length : Int)), _] = _
            rw [List.length_map]; rfl
        · have h' : ¬ (i : Int) < (t.length : Int) := by omega
          rw [List.drop_of_length_le (by omega)] at hup
          simp only [upAll] at hup
          have hup := hup.symm
          rw [hup]
          simp only
          refine run ⟨?_⟩
          refine wq_loop (α := Nat) (fun a => t.length - a) (fun a => [(4, .arr 1 0 t.length), (10, i64 a)]) (fun _ => [TB t, .box (arrI out)]) (fun a => a ≤ t.length ∧ ∀ j, j < a → 0 ≤ out.getD j 0) ?_ 0 ⟨by omega, by omega⟩ rfl rfl
          rintro a ⟨ha, hall⟩
          have w1 : IntKind.i64.wrap ((a : Int) + 1) = ((a + 1 : Nat) : Int) := by rw [i64w (by omega)]; rfl
          by_cases h3 : a + 1 < t.length
          · have h3' : IntKind.i64.wrap ((a : Int) + 1) < (t.length : Int) := by omega
            have pb : 0 ≤ (a : Int) ∧ (a : Int).toNat < t.length := by omega
            have hao : a < out.length := by omega
            by_cases hc : out.getD a 0 < 0
            · have : out.dropLast.contains (-1) = true := by
                cases hb : out.dropLast.contains (-1) with
                | true => rfl
                | false => have := (no_neg hup).1 hb a (by omega); omega
              rw [if_pos this]
              repeat' (first | refine run ⟨?_⟩ | refine And.intro pb ?_ | refine nthK_of (arrI_at hao) ?_ | fail)
              exact rfl
            · repeat' (first | refine run ⟨?_⟩ | refine And.intro pb ?_ | refine nthK_of (arrI_at hao) ?_ | fail)
              refine ⟨a + 1, ⟨by omega, fun j hj => ?_⟩, by omega, by rw [w1], rfl⟩
              by_cases e : j = a
              · rw [e]; omega
              · exact hall j (by omega)
          · have h3' : ¬ IntKind.i64.wrap ((a : Int) + 1) < (t.length : Int) := by omega
            have hdl : (out.map (D.int .i64)).length = t.length := by rw [List.length_map, hol]
            have hds : List.take t.length (List.drop 0 (out.map (D.int .i64))) = out.map (D.int .i64) := by rw [List.drop_zero, ← hdl, List.take_length]
            have hno : out.dropLast.contains (-1) = false := (no_neg hup).2 fun j hj => hall j (by omega)
            rw [if_neg (by rw [hno]; simp)]
            repeat' (first | refine run ⟨?_⟩ | refine fz (arrI_allD out) ?_ | fail)
            refine And.intro (by omega) ?_
            show _ = _
            rw [hds]; rfl
      · show [_, _, (26, i64 ((t.map Nd.D).length : Int)), _] = _
        rw [hnl]; rfl
      · rfl
  · show [_, (4, .arr 1 0 ((t.map Nd.D).length : Int).toNat), (16, i64 (((t.map Nd.D).length : Int).toNat : Int)), _] = _
    rw [hnl]; rfl
  · show [_, Ob.box (List.replicate ((t.map Nd.D).length : Int).toNat _)] = _
    simp [hnl]
end
end Go.Vm.Tre
namespace Go.Vm.Tre
open Go.Vm.Tp
set_option maxRecDepth 10000
theorem depGo_pos (up : List Int) : ∀ (n : Nat) (out : List Int), (∀ (j : Nat) (v : Int), out[j]? = some v → 0 ≤ v) → ∀ (j : Nat) (v : Int), (depGo up n out)[j]? = some v → 0 ≤ v
  | 0, out, h => h
  | n + 1, out, h => by
    simp only [depGo]
    refine depGo_pos up n _ fun j v hv => ?_
    split at hv
    · rw [List.getElem?_set] at hv
      split at hv
      · split at hv
        · cases hv
          have : 0 ≤ out.getD (up.getD n 0).toNat 0 := by
            rw [List.getD_eq_getElem?_getD]
            cases hg : out[(up.getD n 0).toNat]? with
            | none => exact Int.le_refl _
            | some w => exact h _ _ hg
          omega
        · cases hv
      · exact h j v hv
    · exact h j v hv
theorem deps_pos (up : List Int) : ∀ (j : Nat) (v : Int), (deps up)[j]? = some v → 0 ≤ v :=
  depGo_pos up _ _ fun j v hv => by
    rw [List.getElem?_replicate] at hv
    split at hv
    · cases hv; exact Int.le_refl _
    · cases hv
section
variable {fx : Nat → Option Obj} (H : Hp)
set_option maxHeartbeats 4000000 in
theorem rdeep_ev (t : List Nd) (up : List Int) (h1 : 1 ≤ up.length) (hl : up.length ≤ 1048576) (hlast : up.getD (up.length - 1) (-1) = -1) (hin : ∀ j, j + 1 < up.length → 0 ≤ up.getD j 0 ∧ up.getD j 0 < up.length) : evF (pgL fx) n_ref13_deep [.d (treeD t), ints up] H = some (i64 (maxL (deps up)), H) := by
  refine evF_wq t_ref13_deep rfl rfl ?_ H
  have hnl : (up.map (D.int .i64)).length = up.length := List.length_map ..
  have hmsl : 0 ≤ ((up.map (D.int .i64)).length : Int) ∧ roomy ((up.map (D.int .i64)).length : Int).toNat 8 := ⟨by omega, by unfold roomy; omega⟩
  repeat' (first | refine run ⟨?_⟩ | refine And.intro hmsl ?_ | fail)
  refine wq_loop (α := Nat × List Int × Int) (fun a => a.1) (fun a => [(1, ints up), (5, i64 a.2.2), (6, .arr 1 0 up.length), (7, i64 ((a.1 : Int) - 1))]) (fun a => [TB t, .box (arrI a.2.1)])
    (fun a => a.1 + 1 ≤ up.length ∧ a.2.1.length = up.length ∧ depGo up a.1 a.2.1 = deps up ∧ a.2.2 = mx (a.2.1.drop a.1) ∧ ∀ (j : Nat) (v : Int), a.2.1[j]? = some v → 0 ≤ v ∧ v ≤ 1048576 - a.1) ?_ (up.length - 1, List.replicate up.length 0, 0) ⟨by show up.length - 1 + 1 ≤ _; omega, by simp, ?_, ?_, fun j v hv => ?_⟩ ?_ ?_
  · rintro ⟨n, out, most⟩ ⟨hn, hol, hdp, hm, hbd⟩
    simp only at hn hol hdp hm hbd ⊢
    cases n with
    | zero =>
      have h' : ¬ (0 : Int) ≤ ((0 : Nat) : Int) - 1 := by omega
      simp only [depGo] at hdp
      rw [List.drop_zero, hdp] at hm
      have e : maxL (deps up) = most := by rw [hm]; exact maxL_mx (deps_pos up) (by rw [← hdp, hol]; exact h1)
      rw [e]
      refine run ⟨?_⟩
      exact rfl
    | succ i =>
      have e0 : ((((i + 1 : Nat) : Int)) - 1) = (i : Int) := by omega
      rw [e0]
      have h' : (0 : Int) ≤ (i : Int) := by omega
      simp only [depGo] at hdp
      obtain ⟨u0, u1⟩ := hin i (by omega)
      rw [getD_of (show i < up.length by omega) (-1) 0, if_pos u0] at hdp
      have hk : (up.getD i 0).toNat < out.length := by omega
      have hbv := hbd _ _ (get_getD hk 0)
      have pu : 0 ≤ (i : Int) ∧ (up.map (D.int .i64))[(i : Int).toNat]? = some (.int .i64 (up.getD i 0)) := ⟨h', gK (by omega)⟩
      have pk1 : 0 ≤ up.getD i 0 ∧ (up.getD i 0).toNat < up.length := by omega
      have pi : 0 ≤ (i : Int) ∧ (i : Int).toNat < up.length := by omega
      obtain ⟨d, hd⟩ : ∃ d, d = out.getD (up.getD i 0).toNat 0 + 1 := ⟨_, rfl⟩
      rw [← hd] at hdp
      have hio : i < out.length := by omega
      have wd : IntKind.i64.wrap (out.getD (up.getD i 0).toNat 0 + 1) = d := by rw [i64w (by omega), hd]
      have hput : putAt (arrI out) (0 + i * 1) [i64 (IntKind.i64.wrap (out.getD (up.getD i 0).toNat 0 + 1))] = arrI (out.set i d) := by rw [wd, Nat.zero_add, Nat.mul_one, arrI_put hio]
      have hst : ∀ {k : List V → Prop}, k (arrI (out.set i d)) → forceL (putAt (arrI out) (0 + i * 1) [i64 (IntKind.i64.wrap (out.getD (up.getD i 0).toNat 0 + 1))]) k := fun hk => by rw [forceL_eq, hput]; exact hk
      have hgd : (arrI (out.set i d))[0 + i * 1]? = some (i64 d) := by rw [arrI_at (by simpa using hio)]; simp [hio]
      have hdr : (out.set i d).drop i = d :: out.drop (i + 1) := by
        rw [List.drop_eq_getElem_cons (by simpa using hio)]
        simp [List.drop_set_of_lt]
      have hnx : ∀ (j : Nat) (v : Int), (out.set i d)[j]? = some v → 0 ≤ v ∧ v ≤ 1048576 - (i : Int) := fun j v hv => by
        rw [List.getElem?_set] at hv
        split at hv
        · cases hv; omega
        · have := hbd _ _ hv; omega
      repeat' (first | refine run ⟨?_⟩ | refine pickD pu ?_ | refine And.intro pk1 ?_ | refine nthK_of (arrI_at hk) ?_ | refine And.intro pi ?_ | fail)
      refine chk_of (by simp; omega) (hst ?_)
      by_cases hc : most < d
      · repeat' (first | refine run ⟨?_⟩ | refine And.intro pi ?_ | refine nthK_of hgd ?_ | fail)
        exact ⟨(i, out.set i d, d), ⟨by show i + 1 ≤ _; omega, by simp [hol], hdp, by show d = mx _; rw [hdr]; simp only [mx]; rw [if_pos (by omega)], hnx⟩, by show i < i + 1; omega, by rw [i64w (n := (i : Int) - 1) (by omega)], rfl⟩
      · repeat' (first | refine run ⟨?_⟩ | refine And.intro pi ?_ | refine nthK_of hgd ?_ | fail)
        exact ⟨(i, out.set i d, most), ⟨by show i + 1 ≤ _; omega, by simp [hol], hdp, by show most = mx _; rw [hdr]; simp only [mx]; rw [if_neg (by omega)]; exact hm, hnx⟩, by show i < i + 1; omega, by rw [i64w (n := (i : Int) - 1) (by omega)], rfl⟩
  · show depGo up (up.length - 1) _ = deps up
    unfold deps
    conv => rhs; rw [show depGo up up.length = depGo up (up.length - 1 + 1) from by rw [show up.length - 1 + 1 = up.length by omega]]
    simp only [depGo]
    rw [hlast, if_neg (by omega)]
  · show (0 : Int) = mx _
    rw [List.drop_replicate, show up.length - (up.length - 1) = 1 by omega]; rfl
  · rw [List.getElem?_replicate] at hv
    split at hv
    · cases hv; show (0 : Int) ≤ 0 ∧ (0 : Int) ≤ 1048576 - ((up.length - 1 : Nat) : Int); omega
    · cases hv
  · have e : IntKind.i64.wrap (((up.map (D.int .i64)).length : Int) - 2) = ((up.length - 1 : Nat) : Int) - 1 := by rw [hnl, i64w (by omega)]; omega
    show [_, _, (6, .arr 1 0 ((up.map (D.int .i64)).length : Int).toNat), (7, i64 (IntKind.i64.wrap (((up.map (D.int .i64)).length : Int) - 2)))] = _
    rw [e, hnl]; rfl
  · show [_, Ob.box (List.replicate ((up.map (D.int .i64)).length : Int).toNat _)] = _
    simp [hnl]
set_option maxHeartbeats 2000000 in
theorem rright_ev (t : List Nd) (hf : Fine t) : evF (pgL fx) n_ref13_Right [.d (treeD t)] H = some (boo (checkB t), H) := by
  refine evF_wq t_ref13_Right rfl rfl ?_ H
  have htl := hf.len
  have hnl : (t.map Nd.D).length = t.length := List.length_map ..
  by_cases c1 : t.length < 1
  · have d1 : ((t.map Nd.D).length : Int) < 1 := by omega
    refine run ⟨?_⟩
    rw [show checkB t = false from by unfold checkB; rw [decide_eq_false (by omega : ¬ 1 ≤ t.length)]; rfl]; exact rfl
  have d1 : ¬ ((t.map Nd.D).length : Int) < 1 := by omega
  by_cases c2 : 20000 < t.length
  · have d2 : 20000 < ((t.map Nd.D).length : Int) := by omega
    refine run ⟨?_⟩
    rw [show checkB t = false from by unfold checkB; rw [decide_eq_false (by omega : ¬ t.length ≤ 20000), Bool.and_false]; rfl]; exact rfl
  have d2 : ¬ 20000 < ((t.map Nd.D).length : Int) := by omega
  have hw : IntKind.i64.wrap (((t.map Nd.D).length : Int) - 1) = ((t.length - 1 : Nat) : Int) := by rw [hnl, i64w (by omega)]; omega
  have pl : 0 ≤ IntKind.i64.wrap (((t.map Nd.D).length : Int) - 1) ∧ (t.map Nd.D)[(IntKind.i64.wrap (((t.map Nd.D).length : Int) - 1)).toNat]? = some (nd t (t.length - 1)).D := by rw [hw]; exact ndD_at (k := ((t.length - 1 : Nat) : Int)) (by omega) (by omega)
  have hcb : checkB t = (decide ((nd t (t.length - 1)).k = 1) && (List.range t.length).all (nodeB t) && upOk t) := by
    unfold checkB
    rw [decide_eq_true (by omega : 1 ≤ t.length), decide_eq_true (by omega : t.length ≤ 20000)]; rfl
  rw [hcb]
  by_cases c3 : (nd t (t.length - 1)).k = 1
  rotate_left
  · have d3 : (!decide ((nd t (t.length - 1)).k = 1)) = true := by rw [decide_eq_false c3]; rfl
    repeat' (first | refine run ⟨?_⟩ | refine pickD pl ?_ | fail)
    rw [decide_eq_false c3]; exact rfl
  have d3 : (!decide ((nd t (t.length - 1)).k = 1)) = false := by rw [decide_eq_true c3]; rfl
  rw [decide_eq_true c3, Bool.true_and]
  repeat' (first | refine run ⟨?_⟩ | refine pickD pl ?_ | fail)
  refine wq_loop (α := Nat) (fun i => t.length - i) (fun i => [(1, .ptr 0 0), (28, i64 t.length), (29, i64 i)]) (fun _ => [TB t]) (fun i => i ≤ t.length ∧ ∀ j, j < i → nodeB t j = true) ?_ 0 ⟨by omega, by omega⟩ ?_ rfl
  · rintro i ⟨hi, hall⟩
    by_cases h : i < t.length
    · have h' : (i : Int) < (t.length : Int) := by omega
      have hn := fun H => rnode_ev (fx := fx) H t hf i h
      rw [node_eq t i (hf.iv _ (nd_mem h))] at hn
      cases hb : nodeB t i with
      | false =>
        rw [hb] at hn
        repeat' (first | refine run ⟨?_⟩ | refine ca (hn _) ?_ | fail)
        rw [not_all (p := nodeB t) (l := List.range t.length) (fun e => by have := List.all_eq_true.1 e i (List.mem_range.2 h); rw [hb] at this; cases this)]; exact rfl
      | true =>
        rw [hb] at hn
        repeat' (first | refine run ⟨?_⟩ | refine ca (hn _) ?_ | fail)
        refine ⟨i + 1, ⟨by omega, fun j hj => ?_⟩, by omega, by rw [i64w (by omega)]; rfl, rfl⟩
        by_cases hji : j = i
        · rw [hji]; exact hb
        · exact hall j (by omega)
    · have h' : ¬ (i : Int) < (t.length : Int) := by omega
      have hnodes : (List.range t.length).all (nodeB t) = true := List.all_eq_true.2 fun j hj => hall j (by have := List.mem_range.1 hj; omega)
      rw [hnodes, Bool.true_and]
      have hko := kidsOk_of hnodes
      have hp := fun H => rparents_ev (fx := fx) H t hf hko
      cases hu : ups t with
      | none =>
        rw [hu] at hp
        repeat' (first | refine run ⟨?_⟩ | refine ca (hp _) ?_ | fail)
        rw [show upOk t = false from by unfold upOk; rw [hu]]; exact rfl
      | some up =>
        rw [hu] at hp
        simp only at hp
        have hupo : upOk t = ((decide (up = []) || !up.dropLast.contains (-1)) && decide (maxL (deps up) ≤ 400)) := by unfold upOk; rw [hu]
        obtain ⟨u1, u2⟩ := ups_facts hu
        have hne : decide (up = []) = false := decide_eq_false fun e => by rw [e] at u1; simp at u1; omega
        rw [hupo, hne, Bool.false_or]
        cases hc : up.dropLast.contains (-1) with
        | true =>
          rw [hc, if_pos rfl] at hp
          repeat' (first | refine run ⟨?_⟩ | refine ca (hp _) ?_ | fail)
          exact rfl
        | false =>
          rw [hc, if_neg Bool.false_ne_true] at hp
          have hno := (no_neg hu).1 hc
          have hd := fun H => rdeep_ev (fx := fx) H t up (by omega) (by omega) (by rw [u1]; exact ups_last hu hko (by omega)) (fun j hj => ⟨hno j hj, by have := u2 j (up.getD j 0) (get_getD (by omega) 0); omega⟩)
          repeat' (first | refine run ⟨?_⟩ | refine ca (hp _) ?_ | refine ca (hd _) ?_ | fail)
          exact rfl
  · show [_, (28, i64 ((t.map Nd.D).length : Int)), _] = _
    rw [hnl]; rfl
end
end Go.Vm.Tre
