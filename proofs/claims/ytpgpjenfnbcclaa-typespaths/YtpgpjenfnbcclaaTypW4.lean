import Derived.Test.YtpgpjenfnbcclaaTypMv
import Derived.Test.YtpgpjenfnbcclaaTypP9
import Derived.Test.YtpgpjenfnbcclaaVmKeep
import Derived.Test.YtpgpjenfnbcclaaVmTabMono
import Derived.Test.YtpgpjenfnbcclaaVmClone
set_option linter.unusedSimpArgs false
set_option linter.unusedVariables false
namespace Go.Vm.Typ
open Go.Vm.Lex (isL isD isLD wordB wordsL hd0 speltB nameB)
set_option maxRecDepth 10000
def pgL (fx : Nat → Option Obj) (F : Nat → Option VFun) : Pg := ⟨⟨fun _ => [], fx⟩, tbl F⟩
abbrev F0 : Nat → Option VFun := fun _ => none
theorem mv (fx : Nat → Option Obj) : MoveOk (pgL fx F0) := moveOk _ _ (fun _ _ h => nomatch h)
theorem idx0_of {s : List UInt8} (h : s ≠ []) {k : UInt8 → Prop} (hk : k (hd0 s)) : ∃ c, ((0 : Int) ≤ 0 ∧ s[(0 : Int).toNat]? = some c) ∧ k c := by
  cases s with
  | nil => exact absurd rfl h
  | cons c r => exact ⟨c, ⟨Int.le_refl _, rfl⟩, hk⟩
section
variable {fx : Nat → Option Obj} {F : Nat → Option VFun} (H : Hp)
theorem letter_ev (c : UInt8) : evF (pgL fx F) n_lex_letter [u8 c] H = some (boo (isL c), H) := by
  refine evF_wp (t_lex_letter (F := F)) rfl rfl ?_ H
  repeat' refine And.intro (fun h => ?_) (fun h => ?_)
  all_goals show _ = _
  all_goals simp [oneOf, isL] at *
  all_goals grind
theorem digit_ev (c : UInt8) : evF (pgL fx F) n_lex_digit [u8 c] H = some (boo (isD c), H) := by
  refine evF_wp (t_lex_digit (F := F)) rfl rfl ?_ H
  repeat' refine And.intro (fun h => ?_) (fun h => ?_)
  all_goals show _ = _
  all_goals simp [oneOf, isD] at *
  all_goals omega
theorem word_ev (s : List UInt8) : evF (pgL fx F) n_lex_Word [str s] H = some (boo (wordB s), H) := by
  refine evF_wp (t_lex_Word (F := F)) rfl rfl ?_ H
  repeat' refine And.intro (fun h => ?_) (fun h => ?_)
  all_goals show _ = _
  all_goals simp only [decide_eq_true_eq, decide_eq_false_iff_not] at *
  all_goals simp [oneOf, wordB, wordsL, *]
set_option maxHeartbeats 1000000 in
theorem spelt_ev (s : List UInt8) (hs : s.length ≤ maxLen) : evF (pgL fx F) n_lex_spelt [str s] H = some (boo (speltB s), H) := by
  have hm : s.length ≤ 9223372036854775807 := hs
  refine evF_wp (t_lex_spelt (F := F)) rfl rfl ?_ H
  by_cases h0 : s = []
  · subst h0
    repeat' (refine And.intro (fun h => ?_) (fun h => ?_) <;> try (exfalso; simp at h; done))
    all_goals rfl
  by_cases h1 : s = [95]
  · subst h1
    repeat' (refine And.intro (fun h => ?_) (fun h => ?_) <;> try (exfalso; simp at h; done))
    all_goals rfl
  repeat' (first
      | (refine And.intro (fun h => ?_) (fun h => ?_) <;> try (exfalso; simp_all; done))
      | refine idx0_of (by assumption) ?_
      | refine Exists.intro _ (Exists.intro _ (And.intro (letter_ev _ _) ?_))
      | refine Exists.intro _ (Exists.intro _ (And.intro (digit_ev _ _) ?_)))
  all_goals first
    | (show _ = _; simp_all [oneOf, speltB]; done)
    | (show _ = _; obtain ⟨c, r, rfl⟩ := List.exists_cons_of_ne_nil h0; simp_all [oneOf, speltB, isLD, hd0]; done)
    | skip
  refine wp_loop (α := Nat) (fun i => s.length - i) (fun i => [(0, str s), (16, i64 s.length), (17, i64 i)]) (fun _ => []) (fun i => i ≤ s.length ∧ (s.take i).all isLD = true) ?_ 0 ⟨by omega, by simp⟩
  rintro i ⟨hi, hall⟩
  refine And.intro (fun hl => ?_) (fun hl => ?_)
  · replace hl := of_decide_eq_true hl
    have hlt : i < s.length := by omega
    repeat' (first
        | (refine And.intro (fun h => ?_) (fun h => ?_) <;> try (exfalso; simp_all; done))
        | refine idx_of hlt ?_
        | refine Exists.intro _ (Exists.intro _ (And.intro (letter_ev _ _) ?_))
        | refine Exists.intro _ (Exists.intro _ (And.intro (digit_ev _ _) ?_)))
    all_goals first
      | (show _ = _
         have : s.all isLD = false := by
           cases hb : s.all isLD with
           | false => rfl
           | true =>
             have := List.all_eq_true.1 hb s[i] (List.getElem_mem _)
             simp_all [isLD]
         simp [oneOf, speltB, this]; done)
      | (refine ⟨i + 1, ⟨by omega, all_upto hlt hall (by simp_all [isLD])⟩, by omega, ?_, rfl⟩
         rw [i64w (by omega)]; rfl)
  · replace hl := of_decide_eq_false hl
    have hi : i = s.length := by omega
    rw [hi, List.take_length] at hall
    show _ = _
    have hd : isD (hd0 s) = false := by
      first | assumption | (have hl : isL (hd0 s) = true := by simp_all
                            simp [isL, isD] at hl ⊢; omega)
    simp [oneOf, speltB, h0, h1, hall, hd]
theorem name_ev (s : List UInt8) (hs : s.length ≤ maxLen) : evF (pgL fx F) n_lex_Name [str s] H = some (boo (nameB s), H) := by
  refine evF_wp (t_lex_Name (F := F)) rfl rfl ?_ H
  repeat' (first
      | (refine And.intro (fun h => ?_) (fun h => ?_))
      | refine Exists.intro _ (Exists.intro _ (And.intro (spelt_ev _ _ hs) ?_))
      | refine Exists.intro _ (Exists.intro _ (And.intro (word_ev _ _) ?_)))
  all_goals show _ = _
  all_goals clear hs
  all_goals have e : ((s.length : Int) ≤ 64) = (s.length ≤ 64) := by simp only [eq_iff_iff]; omega
  all_goals simp only [e] at *
  all_goals clear e
  all_goals simp only [Bool.not_true, Bool.false_eq_true, decide_eq_true_eq, decide_eq_false_iff_not] at *
  all_goals simp [oneOf, nameB, *]
end
end Go.Vm.Typ
namespace Go.Vm.Typ
open Go.Vm.Ip
set_option maxRecDepth 10000
theorem mg {kk : Nat} {l : List (D × D)} {kd : D} {r : Option D} {k : Option D → Prop} (h1 : keysOk kk l = true) (h2 : mfind kd l = r) (hk : k r) : keysOk kk l = true ∧ ∃ r, mfind kd l = r ∧ k r := ⟨h1, r, h2, hk⟩
def FH (x : Its) : Hp := [.map (finM (nS x)), .map (finM (nE x)), .map (finM (nF x)), .box [.mp 0, .mp 1, .mp 2]]
theorem tbl_le (F : Nat → Option VFun) : ∀ f e, tbl F0 f = some e → tbl F f = some e := by
  intro f e h
  unfold tbl at *
  split at h <;> first | exact h | cases h
theorem up {fx : Nat → Option Obj} {F : Nat → Option VFun} {f : Nat} {a : List V} {H : Hp} {r : V × Hp} (h : evF (pgL fx F0) f a H = some r) : evF (pgL fx F) f a H = some r := evF_tbl (tbl_le F) h
section
variable {fx : Nat → Option Obj} {F : Nat → Option VFun}
theorem find0_s (x : Its) (s : S) : evF (pgL fx F) n_items_table_find [.ptr 3 0, str s] (FH x) = some (.tup [i64 (loc (nS x) s), boo (known (nS x) s)], FH x) := by
  refine evF_wqOn (t_items_table_find (F := F)) rfl rfl rfl ?_
  have h1 := fmap_keys (nS x) (nS x).length
  change keysOk 2 (finM (nS x)) = true at h1
  have h2 := finM_find (nS x) s
  unfold loc known
  revert h2
  cases pos (nS x) s with
  | none =>
    intro h2
    repeat' (first | refine run ⟨?_⟩ | refine mg h1 h2 ?_ | fail)
    exact rfl
  | some i =>
    intro h2
    repeat' (first | refine run ⟨?_⟩ | refine mg h1 h2 ?_ | fail)
    exact rfl
theorem find1_s (x : Its) (s : S) : evF (pgL fx F) n_items_table_find [.ptr 3 1, str s] (FH x) = some (.tup [i64 (loc (nE x) s), boo (known (nE x) s)], FH x) := by
  refine evF_wqOn (t_items_table_find (F := F)) rfl rfl rfl ?_
  have h1 := fmap_keys (nE x) (nE x).length
  change keysOk 2 (finM (nE x)) = true at h1
  have h2 := finM_find (nE x) s
  unfold loc known
  revert h2
  cases pos (nE x) s with
  | none =>
    intro h2
    repeat' (first | refine run ⟨?_⟩ | refine mg h1 h2 ?_ | fail)
    exact rfl
  | some i =>
    intro h2
    repeat' (first | refine run ⟨?_⟩ | refine mg h1 h2 ?_ | fail)
    exact rfl
theorem find2_s (x : Its) (s : S) : evF (pgL fx F) n_items_table_find [.ptr 3 2, str s] (FH x) = some (.tup [i64 (loc (nF x) s), boo (known (nF x) s)], FH x) := by
  refine evF_wqOn (t_items_table_find (F := F)) rfl rfl rfl ?_
  have h1 := fmap_keys (nF x) (nF x).length
  change keysOk 2 (finM (nF x)) = true at h1
  have h2 := finM_find (nF x) s
  unfold loc known
  revert h2
  cases pos (nF x) s with
  | none =>
    intro h2
    repeat' (first | refine run ⟨?_⟩ | refine mg h1 h2 ?_ | fail)
    exact rfl
  | some i =>
    intro h2
    repeat' (first | refine run ⟨?_⟩ | refine mg h1 h2 ?_ | fail)
    exact rfl
end
end Go.Vm.Typ
namespace Go.Vm.Typ
open Go.Vm.Ip
set_option maxRecDepth 10000
def putM (a : List (D × D)) (s : S) (i : Int) : List (D × D) := match mfind (.str s) a with
  | some _ => a
  | none => mset (.str s) (.int .i64 i) a
theorem fmap_put (l : List S) (k : Nat) : fmap l (k + 1) = putM (fmap l k) (l.getD k []) k := rfl
def IB (x : Its) : Ob := .box [.d (.sl (x.ss.map Nam.D)), .d (.sl (x.es.map Nam.D)), .d (.sl (x.fs.map Fnc.D))]
theorem gN {l : List Nam} {i : Nat} (h : i < l.length) : 0 ≤ (i : Int) ∧ (l.map Nam.D)[(i : Int).toNat]? = some (l.getD i default).D := by
  refine ⟨by omega, ?_⟩
  rw [Int.toNat_natCast, List.getElem?_map, List.getElem?_eq_getElem h]
  simp [List.getD_eq_getElem?_getD, List.getElem?_eq_getElem h]
theorem gF {l : List Fnc} {i : Nat} (h : i < l.length) : 0 ≤ (i : Int) ∧ (l.map Fnc.D)[(i : Int).toNat]? = some (l.getD i default).D := by
  refine ⟨by omega, ?_⟩
  rw [Int.toNat_natCast, List.getElem?_map, List.getElem?_eq_getElem h]
  simp [List.getD_eq_getElem?_getD, List.getElem?_eq_getElem h]
theorem nS_getD {x : Its} {i : Nat} (h : i < x.ss.length) : (nS x).getD i [] = (x.ss.getD i default).n := by
  simp [nS, List.getD_eq_getElem?_getD, List.getElem?_eq_getElem h]
theorem nE_getD {x : Its} {i : Nat} (h : i < x.es.length) : (nE x).getD i [] = (x.es.getD i default).n := by
  simp [nE, List.getD_eq_getElem?_getD, List.getElem?_eq_getElem h]
theorem nF_getD {x : Its} {i : Nat} (h : i < x.fs.length) : (nF x).getD i [] = (x.fs.getD i default).n := by
  simp [nF, List.getD_eq_getElem?_getD, List.getElem?_eq_getElem h]
section
variable {fx : Nat → Option Obj} {F : Nat → Option VFun}
theorem put0_s (a b c : List (D × D)) (s : S) (i : Int) (hk : keysOk 2 a = true) (hq : ∀ v, mfind (.str s) a = some v → ∃ n : Int, v = .int .i64 n) : evF (pgL fx F) n_items_table_put [.ptr 3 0, str s, i64 i] [.map a, .map b, .map c, .box [.mp 0, .mp 1, .mp 2]] = some (.tup [], [.map (putM a s i), .map b, .map c, .box [.mp 0, .mp 1, .mp 2]]) := by
  refine evF_wqOn (t_items_table_put (F := F)) rfl rfl rfl ?_
  obtain ⟨r, hr⟩ : ∃ r, mfind (.str s) a = r := ⟨_, rfl⟩
  unfold putM
  rw [hr]
  cases r with
  | none =>
    repeat' (first | refine run ⟨?_⟩ | refine mg hk hr ?_ | refine And.intro hk ?_ | fail)
    exact rfl
  | some v =>
    obtain ⟨n, rfl⟩ := hq v hr
    repeat' (first | refine run ⟨?_⟩ | refine mg hk hr ?_ | fail)
    exact rfl
theorem put1_s (a b c : List (D × D)) (s : S) (i : Int) (hk : keysOk 2 b = true) (hq : ∀ v, mfind (.str s) b = some v → ∃ n : Int, v = .int .i64 n) : evF (pgL fx F) n_items_table_put [.ptr 3 1, str s, i64 i] [.map a, .map b, .map c, .box [.mp 0, .mp 1, .mp 2]] = some (.tup [], [.map a, .map (putM b s i), .map c, .box [.mp 0, .mp 1, .mp 2]]) := by
  refine evF_wqOn (t_items_table_put (F := F)) rfl rfl rfl ?_
  obtain ⟨r, hr⟩ : ∃ r, mfind (.str s) b = r := ⟨_, rfl⟩
  unfold putM
  rw [hr]
  cases r with
  | none =>
    repeat' (first | refine run ⟨?_⟩ | refine mg hk hr ?_ | refine And.intro hk ?_ | fail)
    exact rfl
  | some v =>
    obtain ⟨n, rfl⟩ := hq v hr
    repeat' (first | refine run ⟨?_⟩ | refine mg hk hr ?_ | fail)
    exact rfl
theorem put2_s (a b c : List (D × D)) (s : S) (i : Int) (hk : keysOk 2 c = true) (hq : ∀ v, mfind (.str s) c = some v → ∃ n : Int, v = .int .i64 n) : evF (pgL fx F) n_items_table_put [.ptr 3 2, str s, i64 i] [.map a, .map b, .map c, .box [.mp 0, .mp 1, .mp 2]] = some (.tup [], [.map a, .map b, .map (putM c s i), .box [.mp 0, .mp 1, .mp 2]]) := by
  refine evF_wqOn (t_items_table_put (F := F)) rfl rfl rfl ?_
  obtain ⟨r, hr⟩ : ∃ r, mfind (.str s) c = r := ⟨_, rfl⟩
  unfold putM
  rw [hr]
  cases r with
  | none =>
    repeat' (first | refine run ⟨?_⟩ | refine mg hk hr ?_ | refine And.intro hk ?_ | fail)
    exact rfl
  | some v =>
    obtain ⟨n, rfl⟩ := hq v hr
    repeat' (first | refine run ⟨?_⟩ | refine mg hk hr ?_ | fail)
    exact rfl
theorem fmap_int (l : List S) (s : S) (k : Nat) (hk : k ≤ l.length) (v : D) (h : mfind (.str s) (fmap l k) = some v) : ∃ n : Int, v = .int .i64 n := by
  rw [fmap_find l s k hk] at h
  obtain ⟨j, _, e⟩ := Option.map_eq_some_iff.1 h
  exact ⟨_, e.symm⟩
set_option maxHeartbeats 1000000 in
theorem index1_ev (x : Its) (hx : Fine x) (o0 : Ob) : evF (pgL fx F) n_items_index [.d x.D] [o0] = some (.ptr 5 0, [o0, IB x, .map (finM (nS x)), .map (finM (nE x)), .map (finM (nF x)), .box [.mp 2, .mp 3, .mp 4]]) := by
  apply up
  have es : (nS x).length = x.ss.length := by simp [nS]
  have ee : (nE x).length = x.es.length := by simp [nE]
  have ef : (nF x).length = x.fs.length := by simp [nF]
  have l0 : x.ss.length ≤ 140737488355328 := hx.ss
  have l1 : x.es.length ≤ 140737488355328 := hx.es
  have l2 : x.fs.length ≤ 140737488355328 := hx.fs
  refine evF_wqK (t_items_index (F := F)) rfl rfl ?_
  refine run ⟨?_⟩
  refine wq_loop (α := Nat) (fun i => x.ss.length - i) (fun i => [(1, .ptr 1 0), (3, .ptr 5 0), (19, .d (.sl (x.ss.map Nam.D))), (20, i64 x.ss.length), (21, i64 i)]) (fun i => [o0, IB x, .map (fmap (nS x) i), .map [], .map [], .box [.mp 2, .mp 3, .mp 4]]) (fun i => i ≤ x.ss.length) ?_ 0 (Nat.zero_le _) (by rw [List.length_map]; rfl) rfl
  · intro i hi
    by_cases h : i < x.ss.length
    · have h' : (i : Int) < (x.ss.length : Int) := by omega
      have pi := gN h
      have hp : ∀ y, x.ss.getD i default = y → evF (pgL fx F0) n_items_table_put [.ptr 5 0, str y.n, i64 i] ([o0, IB x, .map (fmap (nS x) i), .map [], .map [], .box [.mp 2, .mp 3, .mp 4]] ++ [.box [str y.n, .d (fldsD y.fs)]]) = some (.tup [], [o0, IB x, .map (fmap (nS x) (i + 1)), .map [], .map [], .box [.mp 2, .mp 3, .mp 4]] ++ [.box [str y.n, .d (fldsD y.fs)]]) := fun y hy => by
        have hn := put0_s (fx := fx) (F := F0) (fmap (nS x) i) [] [] y.n i (fmap_keys _ _) (fmap_int _ _ _ (by omega))
        rw [← hy, ← nS_getD h, ← fmap_put] at hn
        rw [← hy, ← nS_getD h]
        exact evF_at (mv fx) [2, 3, 4, 5] hn rfl rfl rfl rfl rfl
      revert pi hp
      generalize x.ss.getD i default = y
      intro pi hp
      have hp := hp y rfl
      repeat' (first | refine run ⟨?_⟩ | refine pickD pi ?_ | refine ca (hp) ?_ | fail)
      exact ⟨i + 1, by omega, by omega, by rw [i64w (by omega)]; rfl, rfl⟩
    · have h' : ¬ (i : Int) < (x.ss.length : Int) := by omega
      obtain rfl : i = x.ss.length := by omega
      refine run ⟨?_⟩
      refine wq_loop (α := Nat) (fun i => x.es.length - i) (fun i => [(1, .ptr 1 0), (3, .ptr 5 0), (35, .d (.sl (x.es.map Nam.D))), (36, i64 x.es.length), (37, i64 i)]) (fun i => [o0, IB x, .map (fmap (nS x) x.ss.length), .map (fmap (nE x) i), .map [], .box [.mp 2, .mp 3, .mp 4]]) (fun i => i ≤ x.es.length) ?_ 0 (Nat.zero_le _) (by rw [List.length_map]; rfl) rfl
      · intro i hi
        by_cases h : i < x.es.length
        · have h' : (i : Int) < (x.es.length : Int) := by omega
          have pi := gN h
          have hp : ∀ y, x.es.getD i default = y → evF (pgL fx F0) n_items_table_put [.ptr 5 1, str y.n, i64 i] ([o0, IB x, .map (fmap (nS x) x.ss.length), .map (fmap (nE x) i), .map [], .box [.mp 2, .mp 3, .mp 4]] ++ [.box [str y.n, .d (fldsD y.fs)]]) = some (.tup [], [o0, IB x, .map (fmap (nS x) x.ss.length), .map (fmap (nE x) (i + 1)), .map [], .box [.mp 2, .mp 3, .mp 4]] ++ [.box [str y.n, .d (fldsD y.fs)]]) := fun y hy => by
            have hn := put1_s (fx := fx) (F := F0) (fmap (nS x) x.ss.length) (fmap (nE x) i) [] y.n i (fmap_keys _ _) (fmap_int _ _ _ (by omega))
            rw [← hy, ← nE_getD h, ← fmap_put] at hn
            rw [← hy, ← nE_getD h]
            exact evF_at (mv fx) [2, 3, 4, 5] hn rfl rfl rfl rfl rfl
          revert pi hp
          generalize x.es.getD i default = y
          intro pi hp
          have hp := hp y rfl
          repeat' (first | refine run ⟨?_⟩ | refine pickD pi ?_ | refine ca (hp) ?_ | fail)
          exact ⟨i + 1, by omega, by omega, by rw [i64w (by omega)]; rfl, rfl⟩
        · have h' : ¬ (i : Int) < (x.es.length : Int) := by omega
          obtain rfl : i = x.es.length := by omega
          refine run ⟨?_⟩
          refine wq_loop (α := Nat) (fun i => x.fs.length - i) (fun i => [(3, .ptr 5 0), (51, .d (.sl (x.fs.map Fnc.D))), (52, i64 x.fs.length), (53, i64 i)]) (fun i => [o0, IB x, .map (fmap (nS x) x.ss.length), .map (fmap (nE x) x.es.length), .map (fmap (nF x) i), .box [.mp 2, .mp 3, .mp 4]]) (fun i => i ≤ x.fs.length) ?_ 0 (Nat.zero_le _) (by rw [List.length_map]; rfl) rfl
          · intro i hi
            by_cases h : i < x.fs.length
            · have h' : (i : Int) < (x.fs.length : Int) := by omega
              have pi := gF h
              have hp : ∀ y, x.fs.getD i default = y → evF (pgL fx F0) n_items_table_put [.ptr 5 2, str y.n, i64 i] ([o0, IB x, .map (fmap (nS x) x.ss.length), .map (fmap (nE x) x.es.length), .map (fmap (nF x) i), .box [.mp 2, .mp 3, .mp 4]] ++ [.box [str y.n, .d (fldsD y.ps), .d (.sl (y.ms.map .bool)), str y.r, i64 y.d]]) = some (.tup [], [o0, IB x, .map (fmap (nS x) x.ss.length), .map (fmap (nE x) x.es.length), .map (fmap (nF x) (i + 1)), .box [.mp 2, .mp 3, .mp 4]] ++ [.box [str y.n, .d (fldsD y.ps), .d (.sl (y.ms.map .bool)), str y.r, i64 y.d]]) := fun y hy => by
                have hn := put2_s (fx := fx) (F := F0) (fmap (nS x) x.ss.length) (fmap (nE x) x.es.length) (fmap (nF x) i) y.n i (fmap_keys _ _) (fmap_int _ _ _ (by omega))
                rw [← hy, ← nF_getD h, ← fmap_put] at hn
                rw [← hy, ← nF_getD h]
                exact evF_at (mv fx) [2, 3, 4, 5] hn rfl rfl rfl rfl rfl
              revert pi hp
              generalize x.fs.getD i default = y
              intro pi hp
              have hp := hp y rfl
              repeat' (first | refine run ⟨?_⟩ | refine pickD pi ?_ | refine ca (hp) ?_ | fail)
              exact ⟨i + 1, by omega, by omega, by rw [i64w (by omega)]; rfl, rfl⟩
            · have h' : ¬ (i : Int) < (x.fs.length : Int) := by omega
              obtain rfl : i = x.fs.length := by omega
              refine run ⟨?_⟩
              exact ⟨_, rfl, rfl, by unfold finM; rw [es, ee, ef]⟩
set_option maxHeartbeats 1000000 in
theorem index2_ev (x : Its) (hx : Fine x) (o0 o1 : Ob) : evF (pgL fx F) n_items_index [.d x.D] [o0, o1] = some (.ptr 6 0, [o0, o1, IB x, .map (finM (nS x)), .map (finM (nE x)), .map (finM (nF x)), .box [.mp 3, .mp 4, .mp 5]]) := by
  apply up
  have es : (nS x).length = x.ss.length := by simp [nS]
  have ee : (nE x).length = x.es.length := by simp [nE]
  have ef : (nF x).length = x.fs.length := by simp [nF]
  have l0 : x.ss.length ≤ 140737488355328 := hx.ss
  have l1 : x.es.length ≤ 140737488355328 := hx.es
  have l2 : x.fs.length ≤ 140737488355328 := hx.fs
  refine evF_wqK (t_items_index (F := F)) rfl rfl ?_
  refine run ⟨?_⟩
  refine wq_loop (α := Nat) (fun i => x.ss.length - i) (fun i => [(1, .ptr 2 0), (3, .ptr 6 0), (19, .d (.sl (x.ss.map Nam.D))), (20, i64 x.ss.length), (21, i64 i)]) (fun i => [o0, o1, IB x, .map (fmap (nS x) i), .map [], .map [], .box [.mp 3, .mp 4, .mp 5]]) (fun i => i ≤ x.ss.length) ?_ 0 (Nat.zero_le _) (by rw [List.length_map]; rfl) rfl
  · intro i hi
    by_cases h : i < x.ss.length
    · have h' : (i : Int) < (x.ss.length : Int) := by omega
      have pi := gN h
      have hp : ∀ y, x.ss.getD i default = y → evF (pgL fx F0) n_items_table_put [.ptr 6 0, str y.n, i64 i] ([o0, o1, IB x, .map (fmap (nS x) i), .map [], .map [], .box [.mp 3, .mp 4, .mp 5]] ++ [.box [str y.n, .d (fldsD y.fs)]]) = some (.tup [], [o0, o1, IB x, .map (fmap (nS x) (i + 1)), .map [], .map [], .box [.mp 3, .mp 4, .mp 5]] ++ [.box [str y.n, .d (fldsD y.fs)]]) := fun y hy => by
        have hn := put0_s (fx := fx) (F := F0) (fmap (nS x) i) [] [] y.n i (fmap_keys _ _) (fmap_int _ _ _ (by omega))
        rw [← hy, ← nS_getD h, ← fmap_put] at hn
        rw [← hy, ← nS_getD h]
        exact evF_at (mv fx) [3, 4, 5, 6] hn rfl rfl rfl rfl rfl
      revert pi hp
      generalize x.ss.getD i default = y
      intro pi hp
      have hp := hp y rfl
      repeat' (first | refine run ⟨?_⟩ | refine pickD pi ?_ | refine ca (hp) ?_ | fail)
      exact ⟨i + 1, by omega, by omega, by rw [i64w (by omega)]; rfl, rfl⟩
    · have h' : ¬ (i : Int) < (x.ss.length : Int) := by omega
      obtain rfl : i = x.ss.length := by omega
      refine run ⟨?_⟩
      refine wq_loop (α := Nat) (fun i => x.es.length - i) (fun i => [(1, .ptr 2 0), (3, .ptr 6 0), (35, .d (.sl (x.es.map Nam.D))), (36, i64 x.es.length), (37, i64 i)]) (fun i => [o0, o1, IB x, .map (fmap (nS x) x.ss.length), .map (fmap (nE x) i), .map [], .box [.mp 3, .mp 4, .mp 5]]) (fun i => i ≤ x.es.length) ?_ 0 (Nat.zero_le _) (by rw [List.length_map]; rfl) rfl
      · intro i hi
        by_cases h : i < x.es.length
        · have h' : (i : Int) < (x.es.length : Int) := by omega
          have pi := gN h
          have hp : ∀ y, x.es.getD i default = y → evF (pgL fx F0) n_items_table_put [.ptr 6 1, str y.n, i64 i] ([o0, o1, IB x, .map (fmap (nS x) x.ss.length), .map (fmap (nE x) i), .map [], .box [.mp 3, .mp 4, .mp 5]] ++ [.box [str y.n, .d (fldsD y.fs)]]) = some (.tup [], [o0, o1, IB x, .map (fmap (nS x) x.ss.length), .map (fmap (nE x) (i + 1)), .map [], .box [.mp 3, .mp 4, .mp 5]] ++ [.box [str y.n, .d (fldsD y.fs)]]) := fun y hy => by
            have hn := put1_s (fx := fx) (F := F0) (fmap (nS x) x.ss.length) (fmap (nE x) i) [] y.n i (fmap_keys _ _) (fmap_int _ _ _ (by omega))
            rw [← hy, ← nE_getD h, ← fmap_put] at hn
            rw [← hy, ← nE_getD h]
            exact evF_at (mv fx) [3, 4, 5, 6] hn rfl rfl rfl rfl rfl
          revert pi hp
          generalize x.es.getD i default = y
          intro pi hp
          have hp := hp y rfl
          repeat' (first | refine run ⟨?_⟩ | refine pickD pi ?_ | refine ca (hp) ?_ | fail)
          exact ⟨i + 1, by omega, by omega, by rw [i64w (by omega)]; rfl, rfl⟩
        · have h' : ¬ (i : Int) < (x.es.length : Int) := by omega
          obtain rfl : i = x.es.length := by omega
          refine run ⟨?_⟩
          refine wq_loop (α := Nat) (fun i => x.fs.length - i) (fun i => [(3, .ptr 6 0), (51, .d (.sl (x.fs.map Fnc.D))), (52, i64 x.fs.length), (53, i64 i)]) (fun i => [o0, o1, IB x, .map (fmap (nS x) x.ss.length), .map (fmap (nE x) x.es.length), .map (fmap (nF x) i), .box [.mp 3, .mp 4, .mp 5]]) (fun i => i ≤ x.fs.length) ?_ 0 (Nat.zero_le _) (by rw [List.length_map]; rfl) rfl
          · intro i hi
            by_cases h : i < x.fs.length
            · have h' : (i : Int) < (x.fs.length : Int) := by omega
              have pi := gF h
              have hp : ∀ y, x.fs.getD i default = y → evF (pgL fx F0) n_items_table_put [.ptr 6 2, str y.n, i64 i] ([o0, o1, IB x, .map (fmap (nS x) x.ss.length), .map (fmap (nE x) x.es.length), .map (fmap (nF x) i), .box [.mp 3, .mp 4, .mp 5]] ++ [.box [str y.n, .d (fldsD y.ps), .d (.sl (y.ms.map .bool)), str y.r, i64 y.d]]) = some (.tup [], [o0, o1, IB x, .map (fmap (nS x) x.ss.length), .map (fmap (nE x) x.es.length), .map (fmap (nF x) (i + 1)), .box [.mp 3, .mp 4, .mp 5]] ++ [.box [str y.n, .d (fldsD y.ps), .d (.sl (y.ms.map .bool)), str y.r, i64 y.d]]) := fun y hy => by
                have hn := put2_s (fx := fx) (F := F0) (fmap (nS x) x.ss.length) (fmap (nE x) x.es.length) (fmap (nF x) i) y.n i (fmap_keys _ _) (fmap_int _ _ _ (by omega))
                rw [← hy, ← nF_getD h, ← fmap_put] at hn
                rw [← hy, ← nF_getD h]
                exact evF_at (mv fx) [3, 4, 5, 6] hn rfl rfl rfl rfl rfl
              revert pi hp
              generalize x.fs.getD i default = y
              intro pi hp
              have hp := hp y rfl
              repeat' (first | refine run ⟨?_⟩ | refine pickD pi ?_ | refine ca (hp) ?_ | fail)
              exact ⟨i + 1, by omega, by omega, by rw [i64w (by omega)]; rfl, rfl⟩
            · have h' : ¬ (i : Int) < (x.fs.length : Int) := by omega
              obtain rfl : i = x.fs.length := by omega
              refine run ⟨?_⟩
              exact ⟨_, rfl, rfl, by unfold finM; rw [es, ee, ef]⟩
end
end Go.Vm.Typ
namespace Go.Vm.Typ
open Go.Vm.Ip
set_option maxRecDepth 10000
theorem clone_ev {fx : Nat → Option Obj} {F : Nat → Option VFun} (hF : F 50 = some (.prim primClone)) (l : List Fld) (hl : l.length ≤ 4398046511104) (H : Hp) : evF (pgL fx F) 50 [.d (fldsD l)] H = some (.d (fldsD l), H) := by
  have ht : (pgL fx F).tbl 50 = some (.prim primClone) := hF
  rw [evF_prim ht]
  simp only [primClone, fldsD]
  rw [if_pos]
  refine ⟨⟨by rw [List.length_map]; omega, by rw [List.length_map]; omega⟩, ?_⟩
  rw [List.all_eq_true]
  intro d hd
  obtain ⟨f, _, rfl⟩ := List.mem_map.1 hd
  rfl
section
variable {fx : Nat → Option Obj} {F : Nat → Option VFun}
set_option maxHeartbeats 1000000 in
theorem struct_ev (hF : F 50 = some (.prim primClone)) (x : Its) (hx : Fine x) (s : S) (H : Hp) : evF (pgL fx F) n_items_Struct [.d x.D, str s] H = some (.tup [.d (nam x.ss s).D, boo (known (nS x) s)], H) := by
  have e1 := index2_ev (fx := fx) (F := F) x hx (IB x) (.box [.d (.str []), .nils])
  have e2 : evF (pgL fx F) n_items_table_find [.ptr 6 0, str s] [IB x, .box [.d (.str []), .nils], IB x, .map (finM (nS x)), .map (finM (nE x)), .map (finM (nF x)), .box [.mp 3, .mp 4, .mp 5]] = some (.tup [i64 (loc (nS x) s), boo (known (nS x) s)], [IB x, .box [.d (.str []), .nils], IB x, .map (finM (nS x)), .map (finM (nE x)), .map (finM (nF x)), .box [.mp 3, .mp 4, .mp 5]]) := up (evF_at (mv fx) [3, 4, 5, 6] (find0_s x s) rfl rfl rfl rfl rfl)
  have ec := clone_ev (fx := fx) hF
  have hlen : (nS x).length = x.ss.length := by simp [nS]
  have hg : ∀ i, pos (nS x) s = some i → i < x.ss.length := fun i h => by have := pos_lt h; omega
  unfold nam loc known at *
  rw [show x.ss.map Nam.n = nS x from rfl]
  revert e2 hg
  cases pos (nS x) s with
  | none =>
    intro e2 _
    refine evF_wq (t_items_Struct (F := F)) rfl rfl ?_ H
    repeat' (first | refine run ⟨?_⟩ | refine ca (e1) ?_ | refine ca (e2) ?_ | fail)
    exact rfl
  | some i =>
    intro e2 hg
    dsimp only at e2 ⊢
    have hi := hg i rfl
    have hm : (x.ss.getD i default).fs.length ≤ mf := by
      have : x.ss.getD i default ∈ x.ss := by simp [List.getD_eq_getElem?_getD, List.getElem?_eq_getElem hi]
      exact (hx.sf _ this).2.1
    have pi := gN hi
    have ec := ec _ hm
    revert pi ec
    generalize x.ss.getD i default = y
    intro pi ec
    refine evF_wq (t_items_Struct (F := F)) rfl rfl ?_ H
    repeat' (first | refine run ⟨?_⟩ | refine ca (e1) ?_ | refine ca (e2) ?_ | refine pickD pi ?_ | refine ca (ec _) ?_ | fail)
    exact rfl
set_option maxHeartbeats 1000000 in
theorem enum_ev (hF : F 50 = some (.prim primClone)) (x : Its) (hx : Fine x) (s : S) (H : Hp) : evF (pgL fx F) n_items_Enum [.d x.D, str s] H = some (.tup [.d (nam x.es s).D, boo (known (nE x) s)], H) := by
  have e1 := index2_ev (fx := fx) (F := F) x hx (IB x) (.box [.d (.str []), .nils])
  have e2 : evF (pgL fx F) n_items_table_find [.ptr 6 1, str s] [IB x, .box [.d (.str []), .nils], IB x, .map (finM (nS x)), .map (finM (nE x)), .map (finM (nF x)), .box [.mp 3, .mp 4, .mp 5]] = some (.tup [i64 (loc (nE x) s), boo (known (nE x) s)], [IB x, .box [.d (.str []), .nils], IB x, .map (finM (nS x)), .map (finM (nE x)), .map (finM (nF x)), .box [.mp 3, .mp 4, .mp 5]]) := up (evF_at (mv fx) [3, 4, 5, 6] (find1_s x s) rfl rfl rfl rfl rfl)
  have ec := clone_ev (fx := fx) hF
  have hlen : (nE x).length = x.es.length := by simp [nE]
  have hg : ∀ i, pos (nE x) s = some i → i < x.es.length := fun i h => by have := pos_lt h; omega
  unfold nam loc known at *
  rw [show x.es.map Nam.n = nE x from rfl]
  revert e2 hg
  cases pos (nE x) s with
  | none =>
    intro e2 _
    refine evF_wq (t_items_Enum (F := F)) rfl rfl ?_ H
    repeat' (first | refine run ⟨?_⟩ | refine ca (e1) ?_ | refine ca (e2) ?_ | fail)
    exact rfl
  | some i =>
    intro e2 hg
    dsimp only at e2 ⊢
    have hi := hg i rfl
    have hm : (x.es.getD i default).fs.length ≤ mf := by
      have : x.es.getD i default ∈ x.es := by simp [List.getD_eq_getElem?_getD, List.getElem?_eq_getElem hi]
      exact (hx.ef _ this).2.1
    have pi := gN hi
    have ec := ec _ hm
    revert pi ec
    generalize x.es.getD i default = y
    intro pi ec
    refine evF_wq (t_items_Enum (F := F)) rfl rfl ?_ H
    repeat' (first | refine run ⟨?_⟩ | refine ca (e1) ?_ | refine ca (e2) ?_ | refine pickD pi ?_ | refine ca (ec _) ?_ | fail)
    exact rfl
end
end Go.Vm.Typ
