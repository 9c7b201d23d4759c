import Derived.Test.YtbaoljbcdjdnlaaGreatDoorTreW21
import Derived.Test.YtbaoljbcdjdnlaaGreatDoorTreW9
/- The document's nodes: kids and forms, names, whether a node is right. -/
namespace Go.Vm.Tre
open Go.Vm.Tp
open Go.Vm.Lex (nameB)
set_option maxRecDepth 10000
theorem gK {l : List Int} {j : Nat} (h : j < l.length) : (l.map (D.int .i64))[j]? = some (.int .i64 (l.getD j 0)) := by rw [List.getElem?_map, get_getD h 0]; rfl
abbrev TB (t : List Nd) : Ob := .box [.d (.sl (t.map Nd.D))]
abbrev XB (x : Nd) : Ob := .box [i64 x.k, str x.t, i64 x.v, ints x.kids, i64 x.f, i64 x.e]
section
variable {fx : Nat → Option Obj} (H : Hp)
theorem rkid_ev (t : List Nd) (x : Nd) (i : Nat) (hi : i < x.kids.length) (hk : ∀ k ∈ x.kids, 0 ≤ k ∧ k < t.length) : evF (pgL fx) n_ref13_kid [.d (treeD t), ndV x, i64 i] H = some (i64 (kindAt t (x.kids.getD i 0)), H) := by
  refine evF_wq t_ref13_kid rfl rfl ?_ H
  obtain ⟨q, tx, v, kids, f, e⟩ := x
  simp only at hi hk ⊢
  have h1 := hk _ (List.getElem_mem hi)
  have e1 : kids.getD i 0 = kids[i] := by simp [hi]
  rw [← e1] at h1
  repeat' (first | refine run ⟨?_⟩ | refine pickD (d := .int .i64 (kids.getD i 0)) ⟨by omega, gK hi⟩ ?_ | refine pickD (d := (nd t (kids.getD i 0).toNat).D) (ndD_at h1.1 h1.2) ?_ | fail)
  exact rfl
set_option maxHeartbeats 1000000 in
theorem rfits_fn (t : List Nd) (x : Nd) (hkl : x.kids.length ≤ 1048576) (hk : ∀ k ∈ x.kids, 0 ≤ k ∧ k < t.length) : evF (pgL fx) n_ref13_fits [.d (treeD t), ndV x, str [102, 110]] H = some (boo (fnR x.v (kinds t x.kids)), H) := by
  refine evF_wq t_ref13_fits rfl rfl ?_ H
  have hkid := fun (i : Nat) (hi : i < x.kids.length) (H : Hp) => rkid_ev (fx := fx) H t x i hi hk
  have hg := fun (i : Nat) (hi : i < x.kids.length) => kinds_get (t := t) hi
  have hl := kinds_len (t := t) (l := x.kids)
  have hml : (x.kids.map (D.int .i64)).length = x.kids.length := List.length_map ..
  unfold fnR
  rw [hl]
  obtain ⟨ks, hks⟩ : ∃ ks, ks = kinds t x.kids := ⟨_, rfl⟩
  rw [← hks] at hl hg ⊢
  by_cases c1 : x.kids.length < 2
  · have d1 : ((x.kids.map (D.int .i64)).length : Int) < 2 := by omega
    refine run ⟨?_⟩
    rw [decide_eq_false (by omega : ¬ 2 ≤ x.kids.length)]; exact rfl
  have d1 : ¬ ((x.kids.map (D.int .i64)).length : Int) < 2 := by omega
  have w1 : IntKind.i64.wrap (((x.kids.map (D.int .i64)).length : Int) - 2) = ((x.kids.length - 2 : Nat) : Int) := by rw [hml, i64w (by omega)]; omega
  have w2 : IntKind.i64.wrap (((x.kids.map (D.int .i64)).length : Int) - 1) = ((x.kids.length - 1 : Nat) : Int) := by rw [hml, i64w (by omega)]; omega
  rw [decide_eq_true (by omega : 2 ≤ x.kids.length)]
  by_cases c2 : x.v = (x.kids.length : Int) - 2
  rotate_left
  · have d2 : (!decide (x.v = IntKind.i64.wrap (((x.kids.map (D.int .i64)).length : Int) - 2))) = true := by rw [w1, decide_eq_false (by omega)]; rfl
    refine run ⟨?_⟩
    rw [decide_eq_false c2]; exact rfl
  have d2 : (!decide (x.v = IntKind.i64.wrap (((x.kids.map (D.int .i64)).length : Int) - 2))) = false := by rw [w1, decide_eq_true (by omega)]; rfl
  rw [decide_eq_true c2]
  have hk2 := fun H => hkid (x.kids.length - 2) (by omega) H
  rw [← w1] at hk2
  rw [← hg _ (by omega)] at hk2
  cases c3 : isTy (ks.getD (x.kids.length - 2) 0) with
  | false =>
    have hr := fun H => ris_ev (fx := fx) H (ks.getD (x.kids.length - 2) 0) 84
    rw [show lettR 84 (ks.getD (x.kids.length - 2) 0) = false from c3] at hr
    repeat' (first | refine run ⟨?_⟩ | refine ca (hk2 _) ?_ | refine ca (hr _) ?_ | fail)
    exact rfl
  | true =>
    have hr := fun H => ris_ev (fx := fx) H (ks.getD (x.kids.length - 2) 0) 84
    rw [show lettR 84 (ks.getD (x.kids.length - 2) 0) = true from c3] at hr
    have hk1 := fun H => hkid (x.kids.length - 1) (by omega) H
    rw [← w2] at hk1
    rw [← hg _ (by omega)] at hk1
    have hr2 := fun H => ris_ev (fx := fx) H (ks.getD (x.kids.length - 1) 0) 66
    have e66 : lettR 66 (ks.getD (x.kids.length - 1) 0) = decide (ks.getD (x.kids.length - 1) 0 = 20) := rfl
    by_cases c4 : ks.getD (x.kids.length - 1) 0 = 20
    rotate_left
    · rw [e66, decide_eq_false c4] at hr2
      repeat' (first | refine run ⟨?_⟩ | refine ca (hk2 _) ?_ | refine ca (hr _) ?_ | refine ca (hk1 _) ?_ | refine ca (hr2 _) ?_ | fail)
      rw [decide_eq_false c4]; exact rfl
    rw [e66, decide_eq_true c4] at hr2
    rw [decide_eq_true c4]
    repeat' (first | refine run ⟨?_⟩ | refine ca (hk2 _) ?_ | refine ca (hr _) ?_ | refine ca (hk1 _) ?_ | refine ca (hr2 _) ?_ | fail)
    refine wq_loop (α := Nat) (fun i => x.kids.length - i) (fun i => [(3, .ptr 0 0), (4, .ptr 1 0), (7, i64 x.kids.length), (8, i64 i)]) (fun _ => [TB t, XB x]) (fun i => i ≤ x.kids.length - 2 ∧ ∀ j, j < i → lettR 77 (ks.getD j 0) = true) ?_ 0 ⟨by omega, by omega⟩ ?_ rfl
    · rintro i ⟨hi, hall⟩
      have w3 : IntKind.i64.wrap ((x.kids.length : Int) - 2) = ((x.kids.length - 2 : Nat) : Int) := by rw [i64w (by omega)]; omega
      by_cases h : i < x.kids.length - 2
      · have h' : (i : Int) < IntKind.i64.wrap ((x.kids.length : Int) - 2) := by omega
        have hki := fun H => hkid i (by omega) H
        rw [← hg _ (by omega)] at hki
        have hri := fun H => ris_ev (fx := fx) H (ks.getD i 0) 77
        cases hc : lettR 77 (ks.getD i 0) with
        | false =>
          rw [hc] at hri
          repeat' (first | refine run ⟨?_⟩ | refine ca (hki _) ?_ | refine ca (hri _) ?_ | fail)
          rw [not_all (p := lettR 77) (l := ks.take (x.kids.length - 2)) (fun e => by rw [take_all (by omega)] at e; have := e i h; rw [hc] at this; cases this)]; exact rfl
        | true =>
          rw [hc] at hri
          repeat' (first | refine run ⟨?_⟩ | refine ca (hki _) ?_ | refine ca (hri _) ?_ | fail)
          refine ⟨i + 1, ⟨by omega, fun j hj => ?_⟩, by omega, by rw [i64w (by omega)]; rfl, rfl⟩
          by_cases e : j = i
          · rw [e]; exact hc
          · exact hall j (by omega)
      · have h' : ¬ (i : Int) < IntKind.i64.wrap ((x.kids.length : Int) - 2) := by omega
        refine run ⟨?_⟩
        rw [(take_all (p := lettR 77) (by omega)).2 (fun j hj => hall j (by omega))]; exact rfl
    · show [_, _, (7, i64 ((x.kids.map (D.int .i64)).length : Int)), _] = _
      rw [hml]; rfl
set_option maxHeartbeats 1000000 in
theorem rfits_block (t : List Nd) (x : Nd) (hkl : x.kids.length ≤ 1048576) (hk : ∀ k ∈ x.kids, 0 ≤ k ∧ k < t.length) (hv : x.v = 0 ∨ x.v = 1) : evF (pgL fx) n_ref13_fits [.d (treeD t), ndV x, str [98, 108, 111, 99, 107]] H = some (boo (blockR x.v (kinds t x.kids)), H) := by
  refine evF_wq t_ref13_fits rfl rfl ?_ H
  have hkid := fun (i : Nat) (hi : i < x.kids.length) (H : Hp) => rkid_ev (fx := fx) H t x i hi hk
  have hg := fun (i : Nat) (hi : i < x.kids.length) => kinds_get (t := t) hi
  have hl := kinds_len (t := t) (l := x.kids)
  have hml : (x.kids.map (D.int .i64)).length = x.kids.length := List.length_map ..
  unfold blockR
  rw [hl]
  obtain ⟨ks, hks⟩ : ∃ ks, ks = kinds t x.kids := ⟨_, rfl⟩
  rw [← hks] at hl hg ⊢
  have loop : ∀ Q : Prop, True := fun _ => trivial
  by_cases c1 : x.v = 1
  · by_cases c2 : x.kids.length = 0
    · have d2 : ((x.kids.map (D.int .i64)).length : Int) = 0 := by omega
      refine run ⟨?_⟩
      rw [decide_eq_true c1, decide_eq_true c2]; exact rfl
    have d2 : ¬ ((x.kids.map (D.int .i64)).length : Int) = 0 := by omega
    have w2 : IntKind.i64.wrap (((x.kids.map (D.int .i64)).length : Int) - 1) = ((x.kids.length - 1 : Nat) : Int) := by rw [hml, i64w (by omega)]; omega
    have hk1 := fun H => hkid (x.kids.length - 1) (by omega) H
    rw [← w2] at hk1
    rw [← hg _ (by omega)] at hk1
    have hr2 := fun H => ris_ev (fx := fx) H (ks.getD (x.kids.length - 1) 0) 69
    rw [show lettR 69 (ks.getD (x.kids.length - 1) 0) = isEx (ks.getD (x.kids.length - 1) 0) from rfl] at hr2
    cases c3 : isEx (ks.getD (x.kids.length - 1) 0) with
    | false =>
      rw [c3] at hr2
      repeat' (first | refine run ⟨?_⟩ | refine ca (hk1 _) ?_ | refine ca (hr2 _) ?_ | fail)
      rw [decide_eq_true c1, decide_eq_false c2]; exact rfl
    | true =>
      rw [c3] at hr2
      repeat' (first | refine run ⟨?_⟩ | refine ca (hk1 _) ?_ | refine ca (hr2 _) ?_ | fail)
      have hn : x.v.toNat ≤ x.kids.length := by omega
      have w3 : IntKind.i64.wrap ((x.kids.length : Int) - x.v) = ((x.kids.length - x.v.toNat : Nat) : Int) := by rw [i64w (by omega)]; omega
      refine wq_loop (α := Nat) (fun i => x.kids.length - i) (fun i => [(3, .ptr 0 0), (4, .ptr 1 0), (7, i64 x.kids.length), (9, i64 i)]) (fun _ => [TB t, XB x]) (fun i => i ≤ x.kids.length - x.v.toNat ∧ ∀ j, j < i → lettR 83 (ks.getD j 0) = true) ?_ 0 ⟨by omega, by omega⟩ ?_ rfl
      · rintro i ⟨hi, hall⟩
        by_cases h : i < x.kids.length - x.v.toNat
        · have h' : (i : Int) < IntKind.i64.wrap ((x.kids.length : Int) - x.v) := by omega
          have hki := fun H => hkid i (by omega) H
          rw [← hg _ (by omega)] at hki
          have hri := fun H => ris_ev (fx := fx) H (ks.getD i 0) 83
          cases hc : lettR 83 (ks.getD i 0) with
          | false =>
            rw [hc] at hri
            repeat' (first | refine run ⟨?_⟩ | refine ca (hki _) ?_ | refine ca (hri _) ?_ | fail)
            rw [not_all (p := lettR 83) (l := ks.take (x.kids.length - x.v.toNat)) (fun e => by rw [take_all (by omega)] at e; have := e i h; rw [hc] at this; cases this), Bool.and_false]; exact rfl
          | true =>
            rw [hc] at hri
            repeat' (first | refine run ⟨?_⟩ | refine ca (hki _) ?_ | refine ca (hri _) ?_ | fail)
            refine ⟨i + 1, ⟨by omega, fun j hj => ?_⟩, by omega, by rw [i64w (by omega)]; rfl, rfl⟩
            by_cases e : j = i
            · rw [e]; exact hc
            · exact hall j (by omega)
        · have h' : ¬ (i : Int) < IntKind.i64.wrap ((x.kids.length : Int) - x.v) := by omega
          refine run ⟨?_⟩
          rw [(take_all (p := lettR 83) (by omega)).2 (fun j hj => hall j (by omega)), decide_eq_true c1, decide_eq_false c2]; exact rfl
      · show [_, _, (7, i64 ((x.kids.map (D.int .i64)).length : Int)), _] = _
        rw [hml]; rfl
  · refine run ⟨?_⟩
    have hn : x.v.toNat ≤ x.kids.length := by omega
    have w3 : IntKind.i64.wrap ((x.kids.length : Int) - x.v) = ((x.kids.length - x.v.toNat : Nat) : Int) := by rw [i64w (by omega)]; omega
    refine wq_loop (α := Nat) (fun i => x.kids.length - i) (fun i => [(3, .ptr 0 0), (4, .ptr 1 0), (7, i64 x.kids.length), (9, i64 i)]) (fun _ => [TB t, XB x]) (fun i => i ≤ x.kids.length - x.v.toNat ∧ ∀ j, j < i → lettR 83 (ks.getD j 0) = true) ?_ 0 ⟨by omega, by omega⟩ ?_ rfl
    · rintro i ⟨hi, hall⟩
      by_cases h : i < x.kids.length - x.v.toNat
      · have h' : (i : Int) < IntKind.i64.wrap ((x.kids.length : Int) - x.v) := by omega
        have hki := fun H => hkid i (by omega) H
        rw [← hg _ (by omega)] at hki
        have hri := fun H => ris_ev (fx := fx) H (ks.getD i 0) 83
        cases hc : lettR 83 (ks.getD i 0) with
        | false =>
          rw [hc] at hri
          repeat' (first | refine run ⟨?_⟩ | refine ca (hki _) ?_ | refine ca (hri _) ?_ | fail)
          rw [not_all (p := lettR 83) (l := ks.take (x.kids.length - x.v.toNat)) (fun e => by rw [take_all (by omega)] at e; have := e i h; rw [hc] at this; cases this), Bool.and_false]; exact rfl
        | true =>
          rw [hc] at hri
          repeat' (first | refine run ⟨?_⟩ | refine ca (hki _) ?_ | refine ca (hri _) ?_ | fail)
          refine ⟨i + 1, ⟨by omega, fun j hj => ?_⟩, by omega, by rw [i64w (by omega)]; rfl, rfl⟩
          by_cases e : j = i
          · rw [e]; exact hc
          · exact hall j (by omega)
      · have h' : ¬ (i : Int) < IntKind.i64.wrap ((x.kids.length : Int) - x.v) := by omega
        refine run ⟨?_⟩
        rw [(take_all (p := lettR 83) (by omega)).2 (fun j hj => hall j (by omega)), decide_eq_false c1]; exact rfl
    · show [_, _, (7, i64 ((x.kids.map (D.int .i64)).length : Int)), _] = _
      rw [hml]; rfl
set_option maxHeartbeats 1000000 in
theorem rfits_go (t : List Nd) (x : Nd) (hkl : x.kids.length ≤ 1048576) (hk : ∀ k ∈ x.kids, 0 ≤ k ∧ k < t.length) (s : List UInt8) (hs1 : s ≠ [102, 110]) (hs2 : s ≠ [98, 108, 111, 99, 107]) (hst : ∀ a, s ≠ a ++ [42]) (hsl : s.length ≤ 1048576) : evF (pgL fx) n_ref13_fits [.d (treeD t), ndV x, str s] H = some (boo (goR s (kinds t x.kids)), H) := by
  refine evF_wq t_ref13_fits rfl rfl ?_ H
  have hkid := fun (i : Nat) (hi : i < x.kids.length) (H : Hp) => rkid_ev (fx := fx) H t x i hi hk
  have hg := fun (i : Nat) (hi : i < x.kids.length) => kinds_get (t := t) hi
  have hl := kinds_len (t := t) (l := x.kids)
  have hml : (x.kids.map (D.int .i64)).length = x.kids.length := List.length_map ..
  obtain ⟨ks, hks⟩ : ∃ ks, ks = kinds t x.kids := ⟨_, rfl⟩
  rw [← hks] at hl hg ⊢
  refine run ⟨?_⟩
  refine wq_loop (α := Nat × Nat) (fun a => s.length - a.2) (fun a => [(2, str s), (3, .ptr 0 0), (4, .ptr 1 0), (7, i64 x.kids.length), (10, i64 a.1), (11, i64 a.2)]) (fun _ => [TB t, XB x]) (fun a => a.1 ≤ x.kids.length ∧ a.2 ≤ s.length ∧ goR s ks = goR (s.drop a.2) (ks.drop a.1)) ?_ (0, 0) ⟨Nat.zero_le _, Nat.zero_le _, rfl⟩ ?_ rfl
  · rintro ⟨i, k⟩ ⟨hi, hkk, hgo⟩
    simp only at hi hkk hgo ⊢
    by_cases h : k < s.length
    · have h' : (k : Int) < (s.length : Int) := by omega
      have hdk := List.drop_eq_getElem_cons h
      obtain ⟨c, hc⟩ : ∃ c, c = s[k] := ⟨_, rfl⟩
      rw [← hc] at hdk
      have hsk : s[k]? = some c := by rw [List.getElem?_eq_getElem h, hc]
      rw [hdk] at hgo
      by_cases c42 : c = 42
      · subst c42
        have hk1 : k + 1 < s.length := by
          refine Nat.lt_of_not_le fun hge => hst (s.take k) ?_
          have := List.take_append_drop k s
          rw [hdk, List.drop_of_length_le hge] at this
          exact this.symm
        obtain ⟨d, hd⟩ : ∃ d, d = s[k + 1] := ⟨_, rfl⟩
        have hsd : s[k + 1]? = some d := by rw [List.getElem?_eq_getElem hk1, hd]
        rw [List.drop_eq_getElem_cons hk1, ← hd] at hgo
        have hgo : goR s ks = (ks.drop i).all (lettR d) := by rw [hgo]; simp only [goR]
        repeat' (first | refine run ⟨?_⟩ | refine pickD (d := 42) ⟨by omega, hsk⟩ ?_ | fail)
        refine wq_loop (α := Nat) (fun j => x.kids.length - j) (fun j => [(2, str s), (3, .ptr 0 0), (4, .ptr 1 0), (7, i64 x.kids.length), (10, i64 j), (11, i64 k)]) (fun _ => [TB t, XB x]) (fun j => i ≤ j ∧ j ≤ x.kids.length ∧ ∀ m, i ≤ m → m < j → lettR d (ks.getD m 0) = true) ?_ i ⟨Nat.le_refl _, hi, fun m h1 h2 => by omega⟩ rfl rfl
        rintro j ⟨ij, hj, hall⟩
        by_cases hjl : j < x.kids.length
        · have hjl' : (j : Int) < (x.kids.length : Int) := by omega
          have hki := fun H => hkid j (by omega) H
          rw [← hg _ (by omega)] at hki
          have hri := fun H => ris_ev (fx := fx) H (ks.getD j 0) d
          have w : IntKind.i64.wrap ((k : Int) + 1) = ((k + 1 : Nat) : Int) := by rw [i64w (by omega)]; rfl
          have pd : 0 ≤ IntKind.i64.wrap ((k : Int) + 1) ∧ s[(IntKind.i64.wrap ((k : Int) + 1)).toNat]? = some d := by rw [w]; exact ⟨by omega, hsd⟩
          cases hc : lettR d (ks.getD j 0) with
          | false =>
            rw [hc] at hri
            repeat' (first | refine run ⟨?_⟩ | refine ca (hki _) ?_ | refine ca (hri _) ?_ | refine pickD pd ?_ | fail)
            rw [hgo, not_all (p := lettR d) (l := ks.drop i) (fun e => by have := drop_all.1 e j ij (by omega); rw [hc] at this; cases this)]; exact rfl
          | true =>
            rw [hc] at hri
            repeat' (first | refine run ⟨?_⟩ | refine ca (hki _) ?_ | refine ca (hri _) ?_ | refine pickD pd ?_ | fail)
            refine ⟨j + 1, ⟨by omega, by omega, fun m h1 h2 => ?_⟩, by omega, by rw [i64w (by omega)]; rfl, rfl⟩
            by_cases e : m = j
            · rw [e]; exact hc
            · exact hall m h1 (by omega)
        · have hjl' : ¬ (j : Int) < (x.kids.length : Int) := by omega
          refine run ⟨?_⟩
          rw [hgo, drop_all.2 (fun m h1 h2 => hall m h1 (by omega))]; exact rfl
      · have n42 : ¬ (c.toNat : Int) = 42 := fun e => c42 (UInt8.toNat_inj.1 (by have e2 : (42 : UInt8).toNat = 42 := rfl; omega))
        rw [go_one c c42] at hgo
        by_cases hil : i < x.kids.length
        · have hil' : ¬ (i : Int) = (x.kids.length : Int) := by omega
          have hki := fun H => hkid i (by omega) H
          rw [← hg _ (by omega)] at hki
          have hri := fun H => ris_ev (fx := fx) H (ks.getD i 0) c
          have hdi : ks.drop i = ks.getD i 0 :: ks.drop (i + 1) := by
            rw [List.drop_eq_getElem_cons (by omega)]
            simp [show i < ks.length by omega]
          rw [hdi] at hgo
          simp only at hgo
          cases hc : lettR c (ks.getD i 0) with
          | false =>
            rw [hc] at hri hgo
            repeat' (first | refine run ⟨?_⟩ | refine ca (hki _) ?_ | refine ca (hri _) ?_ | refine pickD (d := c) ⟨by omega, hsk⟩ ?_ | fail)
            rw [hgo]; exact rfl
          | true =>
            rw [hc, Bool.true_and] at hgo
            rw [hc] at hri
            repeat' (first | refine run ⟨?_⟩ | refine ca (hki _) ?_ | refine ca (hri _) ?_ | refine pickD (d := c) ⟨by omega, hsk⟩ ?_ | fail)
            exact ⟨(i + 1, k + 1), ⟨by show i + 1 ≤ _; omega, by show k + 1 ≤ _; omega, hgo⟩, by show s.length - (k + 1) < s.length - k; omega, by rw [i64w (by omega), i64w (by omega)]; rfl, rfl⟩
        · have hil' : (i : Int) = (x.kids.length : Int) := by omega
          rw [List.drop_of_length_le (by omega : ks.length ≤ i)] at hgo
          repeat' (first | refine run ⟨?_⟩ | refine pickD (d := c) ⟨by omega, hsk⟩ ?_ | fail)
          rw [hgo]; exact rfl
    · have h' : ¬ (k : Int) < (s.length : Int) := by omega
      refine run ⟨?_⟩
      rw [hgo, List.drop_of_length_le (by omega : s.length ≤ k)]
      by_cases e : i = x.kids.length
      · rw [List.drop_of_length_le (by omega : ks.length ≤ i)]
        show V.d (.bool (decide ((i : Int) = (x.kids.length : Int)))) = _
        rw [decide_eq_true (by omega)]; rfl
      · show V.d (.bool (decide ((i : Int) = (x.kids.length : Int)))) = V.d (.bool (decide (ks.drop i = [])))
        rw [decide_eq_false (by omega), decide_eq_false]
        intro e2
        have := List.drop_eq_nil_iff.1 e2
        omega
  · show [_, _, _, (7, i64 ((x.kids.map (D.int .i64)).length : Int)), _, _] = _
    rw [hml]; rfl
end
end Go.Vm.Tre
