import Derived.Test.YtpgpjenfnbcclaaTypV3
import Derived.Test.YtpgpjenfnbcclaaTypArg
set_option linter.unusedSimpArgs false
set_option linter.unusedVariables false
namespace Go.Vm.Typ
open Go Go.Vm Go.Proofs Go.Vm.Ip
open Go.Vm.Lex (nameB)
set_option maxRecDepth 10000
section
variable {fx : Nat → Option Obj} {F : Nat → Option VFun}
theorem rStruct_ev (x : Its) (hx : Fine x) (s : S) (H : Hp) : evF (pgL fx F) n_ref15_Struct [.d x.D, str s] H = some (i64 (locR (nS x) s), H) := by
  have hl : x.ss.length ≤ mx := hx.ss
  have hl' : x.ss.length ≤ 140737488355328 := hl
  have hn : nS x = x.ss.map Nam.n := rfl
  refine evF_wq (t_ref15_Struct (F := F)) rfl rfl ?_ H
  rw [hn]
  have hib : IB x = .box [.d (.sl (x.ss.map Nam.D)), .d (.sl (x.es.map Nam.D)), .d (.sl (x.fs.map Fnc.D))] := rfl
  refine run ⟨?_⟩
  refine wq_loop (α := Nat) (fun a => x.ss.length - a) (fun a => [(1, str s), (8, .d (.sl (x.ss.map Nam.D))), (9, i64 x.ss.length), (10, i64 a)]) (fun _ => [IB x]) (fun a => a ≤ x.ss.length ∧ ∀ j, j < a → (x.ss.map Nam.n)[j]? ≠ some s) ?_ 0 ⟨Nat.zero_le _, fun j h => absurd h (Nat.not_lt_zero j)⟩ (by show [_, _, _, _] = _; rw [List.length_map] <;> rfl) rfl
  rintro j ⟨hj, hs⟩
  by_cases h : j < x.ss.length
  · have h' : (j : Int) < (x.ss.length : Int) := by omega
    have pj := gN h
    have hg : (x.ss.map Nam.n)[j]? = some (x.ss.getD j default).n := by
      rw [List.getElem?_map, List.getElem?_eq_getElem h, List.getD_eq_getElem?_getD, List.getElem?_eq_getElem h]; rfl
    revert pj hg
    generalize x.ss.getD j default = y
    obtain ⟨n, fs⟩ := y
    intro pj hg
    dsimp only at hg
    by_cases c : n = s
    · have hv : locR (x.ss.map Nam.n) s = j := by unfold locR; rw [pos_of (c ▸ hg) hs]
      rw [hv]
      repeat' (first | refine run ⟨?_⟩ | refine pickD pj ?_ | fail)
      exact rfl
    · have hs2 : ∀ i, i < j + 1 → (x.ss.map Nam.n)[i]? ≠ some s := fun i hi => by
        rcases Nat.lt_succ_iff_lt_or_eq.1 hi with q | q
        · exact hs i q
        · rw [q, hg]; exact fun e => c (Option.some.inj e)
      repeat' (first | refine run ⟨?_⟩ | refine pickD pj ?_ | fail)
      exact ⟨j + 1, ⟨by omega, hs2⟩, by omega, by rw [i64w (by omega)] <;> rfl, rfl⟩
  · have h' : ¬ (j : Int) < (x.ss.length : Int) := by omega
    obtain rfl : j = x.ss.length := by omega
    have hv : locR (x.ss.map Nam.n) s = -1 := by
      unfold locR
      cases hp : pos (x.ss.map Nam.n) s with
      | none => rfl
      | some i =>
        have := pos_lt hp
        rw [List.length_map] at this
        exact absurd (pos_some hp).1 (hs i this)
    rw [hv]
    refine run ⟨?_⟩
    exact rfl
theorem rEnum_ev (x : Its) (hx : Fine x) (s : S) (H : Hp) : evF (pgL fx F) n_ref15_Enum [.d x.D, str s] H = some (i64 (locR (nE x) s), H) := by
  have hl : x.es.length ≤ mx := hx.es
  have hl' : x.es.length ≤ 140737488355328 := hl
  have hn : nE x = x.es.map Nam.n := rfl
  refine evF_wq (t_ref15_Enum (F := F)) rfl rfl ?_ H
  rw [hn]
  have hib : IB x = .box [.d (.sl (x.ss.map Nam.D)), .d (.sl (x.es.map Nam.D)), .d (.sl (x.fs.map Fnc.D))] := rfl
  refine run ⟨?_⟩
  refine wq_loop (α := Nat) (fun a => x.es.length - a) (fun a => [(1, str s), (8, .d (.sl (x.es.map Nam.D))), (9, i64 x.es.length), (10, i64 a)]) (fun _ => [IB x]) (fun a => a ≤ x.es.length ∧ ∀ j, j < a → (x.es.map Nam.n)[j]? ≠ some s) ?_ 0 ⟨Nat.zero_le _, fun j h => absurd h (Nat.not_lt_zero j)⟩ (by show [_, _, _, _] = _; rw [List.length_map] <;> rfl) rfl
  rintro j ⟨hj, hs⟩
  by_cases h : j < x.es.length
  · have h' : (j : Int) < (x.es.length : Int) := by omega
    have pj := gN h
    have hg : (x.es.map Nam.n)[j]? = some (x.es.getD j default).n := by
      rw [List.getElem?_map, List.getElem?_eq_getElem h, List.getD_eq_getElem?_getD, List.getElem?_eq_getElem h]; rfl
    revert pj hg
    generalize x.es.getD j default = y
    obtain ⟨n, fs⟩ := y
    intro pj hg
    dsimp only at hg
    by_cases c : n = s
    · have hv : locR (x.es.map Nam.n) s = j := by unfold locR; rw [pos_of (c ▸ hg) hs]
      rw [hv]
      repeat' (first | refine run ⟨?_⟩ | refine pickD pj ?_ | fail)
      exact rfl
    · have hs2 : ∀ i, i < j + 1 → (x.es.map Nam.n)[i]? ≠ some s := fun i hi => by
        rcases Nat.lt_succ_iff_lt_or_eq.1 hi with q | q
        · exact hs i q
        · rw [q, hg]; exact fun e => c (Option.some.inj e)
      repeat' (first | refine run ⟨?_⟩ | refine pickD pj ?_ | fail)
      exact ⟨j + 1, ⟨by omega, hs2⟩, by omega, by rw [i64w (by omega)] <;> rfl, rfl⟩
  · have h' : ¬ (j : Int) < (x.es.length : Int) := by omega
    obtain rfl : j = x.es.length := by omega
    have hv : locR (x.es.map Nam.n) s = -1 := by
      unfold locR
      cases hp : pos (x.es.map Nam.n) s with
      | none => rfl
      | some i =>
        have := pos_lt hp
        rw [List.length_map] at this
        exact absurd (pos_some hp).1 (hs i this)
    rw [hv]
    refine run ⟨?_⟩
    exact rfl
theorem rBox_ev (s : S) (hs : s.length ≤ mx) (H : Hp) : evF (pgL fx F) n_ref15_Box [str s] H = some (boo (boxB s), H) := by
  have hs' : s.length ≤ 140737488355328 := hs
  have e3 := starts_ev (fx := fx) (F := F) s boxT
  unfold boxB
  cases c3 : preB s boxT with
  | false =>
    rw [c3] at e3
    refine evF_wq (t_ref15_Box (F := F)) rfl rfl ?_ H
    repeat' (first | refine run ⟨?_⟩ | refine ca (e3 _) ?_ | fail)
    exact rfl
  | true =>
  rw [c3] at e3
  have h4 : 4 ≤ s.length := preB_len c3
  rw [box_last s c3]
  have hw : IntKind.i64.wrap (((s.length : Nat) : Int) - 1) = ((s.length - 1 : Nat) : Int) := by rw [i64w (by omega)]; omega
  have pj : 0 ≤ IntKind.i64.wrap (((s.length : Nat) : Int) - 1) ∧ s[(IntKind.i64.wrap (((s.length : Nat) : Int) - 1)).toNat]? = some (s.getD (s.length - 1) 0) := by
    rw [hw]
    refine ⟨by omega, ?_⟩
    rw [Int.toNat_natCast, List.getD_eq_getElem?_getD, List.getElem?_eq_getElem (by omega)]; rfl
  revert pj
  generalize s.getD (s.length - 1) 0 = c
  intro pj
  have hd : decide ((c.toNat : Int) = 62) = decide (c = 62) := by
    by_cases q : c = 62
    · subst q; rfl
    · rw [decide_eq_false q]; exact decide_eq_false fun h => q (UInt8.toNat_inj.1 (by show c.toNat = 62; omega))
  rw [← hd]
  refine evF_wq (t_ref15_Box (F := F)) rfl rfl ?_ H
  repeat' (first | refine run ⟨?_⟩ | refine ca (e3 _) ?_ | refine pickD pj ?_ | fail)
  exact rfl
end
end Go.Vm.Typ
namespace Go.Vm.Typ
open Go Go.Vm Go.Proofs Go.Vm.Ip
open Go.Vm.Lex (nameB)
set_option maxRecDepth 10000
theorem box_inM {s : S} (h : boxB s = true) : inM s = ((s.drop 4).take ((s.drop 4).length - 1), true) := by
  have hp : preB s boxT = true := by unfold boxB at h; rw [Bool.and_eq_true] at h; exact h.1
  unfold inM
  have h1 : preB s [38] = false := by
    cases c : preB s [38] with
    | false => rfl
    | true => rw [ref_not_box c] at hp; cases hp
  have h2 : preB s mutT = false := by
    cases c : preB s mutT with
    | false => rfl
    | true => rw [mut_ref c] at h1; cases h1
  rw [h1, h2, h]; rfl
section
variable {fx : Nat → Option Obj} {F : Nat → Option VFun}
set_option maxHeartbeats 1000000 in
theorem rBare_s (x : Its) (hx : Fine x) (hnm : ∀ s, kn x s = true → nameB s = true) : ∀ (n : Nat) (s : S), s.length ≤ n → s.length ≤ mx → ∀ H, evF (pgL fx F) n_ref15_Bare [.d x.D, str s] H = some (boo (bareB (kn x) s), H)
  | n, s, hn, hs, H => by
    have e1 := rStruct_ev (fx := fx) (F := F) x hx s
    have e2 := rEnum_ev (fx := fx) (F := F) x hx s
    have e3 := rBox_ev (fx := fx) (F := F) s hs
    have e4 := rInner_ev (fx := fx) (F := F) s hs
    have g1 := locR_ge (nS x) s
    have g2 := locR_ge (nE x) s
    by_cases hc : coreB s || kn x s
    · have hb : boxB s = false := by
        cases hb : boxB s with
        | false => rfl
        | true =>
          unfold boxB at hb
          rw [Bool.and_eq_true] at hb
          rcases Bool.or_eq_true_iff.1 hc with q | q
          · rw [core_not_box q] at hb; cases hb.1
          · rw [name_not_box (hnm _ q)] at hb; cases hb.1
      rw [bareB_eq, if_neg (by rw [hb]; decide), hc]
      unfold coreB kn at hc
      refine evF_wq (t_ref15_Bare (F := F)) rfl rfl ?_ H
      by_cases c5 : s = i64T
      · have c5' : s = [105, 54, 52] := c5
        refine run ⟨?_⟩
        exact rfl
      have c5' : ¬ s = [105, 54, 52] := c5
      by_cases c6 : s = boolT
      · have c6' : s = [98, 111, 111, 108] := c6
        refine run ⟨?_⟩
        exact rfl
      have c6' : ¬ s = [98, 111, 111, 108] := c6
      by_cases c7 : s = unitT
      · have c7' : s = [40, 41] := c7
        refine run ⟨?_⟩
        exact rfl
      have c7' : ¬ s = [40, 41] := c7
      rw [decide_eq_false c5, decide_eq_false c6, decide_eq_false c7, ← g1, ← g2] at hc
      simp only [Bool.false_or, Bool.or_eq_true, decide_eq_true_eq] at hc
      revert e1 e2 hc
      generalize locR (nS x) s = a
      generalize locR (nE x) s = b
      intro e1 e2 hc
      by_cases c8 : 0 ≤ a
      · repeat' (first | refine run ⟨?_⟩ | refine ca (e1 _) ?_ | fail)
        exact rfl
      have c9 : 0 ≤ b := hc.resolve_left c8
      repeat' (first | refine run ⟨?_⟩ | refine ca (e1 _) ?_ | refine ca (e2 _) ?_ | fail)
      exact rfl
    · rw [Bool.not_eq_true] at hc
      rw [bareB_eq, hc]
      unfold coreB kn at hc
      simp only [Bool.or_eq_false_iff, decide_eq_false_iff_not] at hc
      obtain ⟨⟨⟨c5, c6⟩, c7⟩, c8, c9⟩ := hc
      rw [← g1] at c8
      rw [← g2] at c9
      replace c8 := of_decide_eq_false c8
      replace c9 := of_decide_eq_false c9
      have c5' : ¬ s = [105, 54, 52] := c5
      have c6' : ¬ s = [98, 111, 111, 108] := c6
      have c7' : ¬ s = [40, 41] := c7
      revert e1 e2 c8 c9
      generalize locR (nS x) s = a
      generalize locR (nE x) s = b
      intro e1 e2 c8 c9
      cases hb : boxB s with
      | false =>
        rw [hb] at e3
        refine evF_wq (t_ref15_Bare (F := F)) rfl rfl ?_ H
        repeat' (first | refine run ⟨?_⟩ | refine ca (e1 _) ?_ | refine ca (e2 _) ?_ | refine ca (e3 _) ?_ | fail)
        exact rfl
      | true =>
        rw [hb] at e3
        have hl := box_len hb
        rw [if_pos rfl]
        rw [box_inM hb] at e4
        dsimp only at e4
        cases n with
        | zero => omega
        | succ n =>
          have ih := rBare_s x hx hnm n ((s.drop 4).take ((s.drop 4).length - 1)) (by omega) (by omega)
          revert ih e4
          generalize (s.drop 4).take ((s.drop 4).length - 1) = t
          intro e4 ih
          refine evF_wq (t_ref15_Bare (F := F)) rfl rfl ?_ H
          repeat' (first | refine run ⟨?_⟩ | refine ca (e1 _) ?_ | refine ca (e2 _) ?_ | refine ca (e3 _) ?_ | refine ca (e4 _) ?_ | refine ca (ih _) ?_ | fail)
          exact rfl
theorem rBare_ev (x : Its) (hx : Fine x) (hnm : ∀ s, kn x s = true → nameB s = true) (s : S) (hs : s.length ≤ mx) (H : Hp) : evF (pgL fx F) n_ref15_Bare [.d x.D, str s] H = some (boo (bareB (kn x) s), H) := rBare_s x hx hnm _ s (Nat.le_refl _) hs H
theorem rIs_ev (x : Its) (hx : Fine x) (hnm : ∀ s, kn x s = true → nameB s = true) (s : S) (hs : s.length ≤ mx) (H : Hp) : evF (pgL fx F) n_ref15_Is [.d x.D, str s] H = some (boo (isB (kn x) s), H) := by
  refine evF_wq (t_ref15_Is (F := F)) rfl rfl ?_ H
  have e1 := rRef_ev (fx := fx) (F := F) s
  have e2 := rInner_ev (fx := fx) (F := F) s hs
  have e3 := rBare_ev (fx := fx) (F := F) x hx hnm (offR s) (Nat.le_trans (offR_len s) hs)
  unfold isB
  rw [offR_eq] at e3 ⊢
  cases c1 : preB s [38] with
  | true =>
    rw [c1] at e1
    rw [c1, if_pos rfl] at e3
    repeat' (first | refine run ⟨?_⟩ | refine ca (e1 _) ?_ | refine ca (e2 _) ?_ | refine ca (e3 _) ?_ | fail)
    exact rfl
  | false =>
    rw [c1] at e1
    rw [c1, if_neg (by decide)] at e3
    repeat' (first | refine run ⟨?_⟩ | refine ca (e1 _) ?_ | refine ca (e2 _) ?_ | refine ca (e3 _) ?_ | fail)
    exact rfl
end
end Go.Vm.Typ
