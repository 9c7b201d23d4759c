import Derived.Test.YtnhoonglfejdeaaDoorLexW11
/- Lines and columns. -/
namespace Go.Vm.Lex
set_option maxRecDepth 10000
def lst (s : List UInt8) : Nat → Int
  | 0 => -1
  | k + 1 => if s[k]? = some 10 then (k : Int) else lst s k
theorem lastIdx_lst (s : List UInt8) (a : Nat) (ha : a ≤ s.length) : ∀ k, k ≤ a → Lib.lastIdx ⟨(s.take a).toArray⟩ 10 k = lst s k := by
  intro k
  induction k with
  | zero => intro _; rfl
  | succ k ih =>
    intro hk
    unfold Lib.lastIdx lst
    have hk2 : k < s.length := by omega
    have e : ((⟨(s.take a).toArray⟩ : ByteArray).data[k]!) = s[k] := by
      show (s.take a).toArray[k]! = _
      rw [List.getElem!_toArray, List.getElem!_eq_getElem?_getD, List.getElem?_take, if_pos (by omega), List.getElem?_eq_getElem hk2]; rfl
    rw [e, ih (by omega), List.getElem?_eq_getElem hk2]
    have : (((s[k].toNat : Nat) : Int) = 10) = (some s[k] = some (10 : UInt8)) := by
      simp only [Option.some.injEq, eq_iff_iff, u8eq]
      show _ ↔ s[k].toNat = 10
      omega
    simp only [this]
theorem lst_le (s : List UInt8) : ∀ k, -1 ≤ lst s k ∧ lst s k ≤ k := by
  intro k
  induction k with
  | zero => unfold lst; omega
  | succ k ih => unfold lst; split <;> omega
def plR (s : List UInt8) (a : Int) : V :=
  if 65536 < s.length then .tup [i64 0, i64 0, i64 2]
  else if a < 0 ∨ (s.length : Int) < a then .tup [i64 0, i64 0, i64 1]
  else .tup [i64 (1 + ((s.take a.toNat).count 10 : Nat)), i64 (a - lst s a.toNat), i64 0]
section
variable {fx : Nat → Option Obj} (H : Hp)
theorem count_ev (s : List UInt8) : evF (pgL fx) n_primCount1 [str s, str [10]] H = some (i64 (s.count 10 : Nat), H) := by
  rw [evF_prim t_primCount1]; rfl
theorem last_ev (s : List UInt8) (a : Nat) (ha : a ≤ s.length) (hs : s.length ≤ 65536) : evF (pgL fx) n_primLastIndexByte [str (s.take a), .d (.int .u8 10)] H = some (i64 (lst s a), H) := by
  rw [evF_prim t_primLastIndexByte]
  have hl : (s.take a).length = a := by rw [List.length_take]; omega
  show (if (s.take a).length < 4611686018427387904 then some (V.d (D.int .i64 (Lib.lastIndexByte ⟨(s.take a).toArray⟩ 10)), H) else none) = _
  rw [if_pos (by omega)]
  unfold Lib.lastIndexByte
  have hsz : (⟨(s.take a).toArray⟩ : ByteArray).size = a := by show (s.take a).toArray.size = a; rw [List.size_toArray, hl]
  rw [hsz, lastIdx_lst s a ha a (Nat.le_refl _)]
theorem place_ev (s : List UInt8) (hs : s.length ≤ maxLen) (a : Int) : evF (pgL fx) n_lex_Place [str s, i64 a] H = some (plR s a, H) := by
  refine evF_wp t_lex_Place rfl rfl ?_ H
  unfold plR
  by_cases h1 : 65536 < s.length
  · rw [if_pos h1]
    refine and_t (decide_eq_true (by omega)) ?_
    rfl
  rw [if_neg h1]
  refine and_f (decide_eq_false (by omega)) ?_
  by_cases h2 : a < 0
  · rw [if_pos (.inl h2)]
    refine gd_t (decide_eq_true h2) ?_
    refine and_t rfl ?_
    rfl
  refine gd_f (decide_eq_false h2) ?_
  by_cases h3 : (s.length : Int) < a
  · rw [if_pos (.inr h3)]
    refine and_t (decide_eq_true h3) ?_
    rfl
  rw [if_neg (by omega)]
  refine and_f (decide_eq_false h3) ?_
  obtain ⟨n, rfl⟩ : ∃ n : Nat, a = n := ⟨a.toNat, by omega⟩
  have e1 : List.drop 0 (List.take (Int.toNat (n : Int)) s) = s.take n := by simp
  refine And.intro (by omega) ?_
  refine And.intro ⟨by omega, by omega⟩ ?_
  rw [e1]
  refine Exists.intro _ (Exists.intro _ (And.intro (count_ev _ _) ?_))
  refine Exists.intro _ (Exists.intro _ (And.intro (last_ev _ s n (by omega) (by omega)) ?_))
  have hc : (s.take n).count 10 ≤ n := by have := List.count_le_length (a := (10 : UInt8)) (l := s.take n); rw [List.length_take] at this; omega
  have hll := lst_le s n
  show _ = _
  rw [i64w (by omega), i64w (by omega)]
  rfl
theorem rplace_ev (s : List UInt8) (hs : s.length ≤ maxLen) (a : Int) : evF (pgL fx) n_ref11_Place [str s, i64 a] H = some (plR s a, H) := by
  refine evF_wp t_ref11_Place rfl rfl ?_ H
  unfold plR
  by_cases h1 : 65536 < s.length
  · rw [if_pos h1]
    refine and_t (decide_eq_true (by omega)) ?_
    rfl
  rw [if_neg h1]
  refine and_f (decide_eq_false (by omega)) ?_
  by_cases h2 : a < 0
  · rw [if_pos (.inl h2)]
    refine gd_t (decide_eq_true h2) ?_
    refine and_t rfl ?_
    rfl
  refine gd_f (decide_eq_false h2) ?_
  by_cases h3 : (s.length : Int) < a
  · rw [if_pos (.inr h3)]
    refine and_t (decide_eq_true h3) ?_
    rfl
  rw [if_neg (by omega)]
  refine and_f (decide_eq_false h3) ?_
  obtain ⟨n, rfl⟩ : ∃ n : Nat, a = n := ⟨a.toNat, by omega⟩
  rw [Int.toNat_natCast]
  refine wp_loop (α := Nat) (fun i => n - i) (fun i => [(0, str s), (1, i64 n), (7, i64 (1 + ((s.take i).count 10 : Nat))), (8, i64 ((i : Int) - lst s i)), (9, i64 i)]) (fun _ => []) (fun i => i ≤ n) ?_ 0 (by omega)
  intro i hi
  have hll := lst_le s i
  have hc : (s.take i).count 10 ≤ i := by have := List.count_le_length (a := (10 : UInt8)) (l := s.take i); rw [List.length_take] at this; omega
  refine And.intro (fun h => ?_) (fun h => ?_)
  · replace h := of_decide_eq_true h
    have hlt : i < s.length := by omega
    have hl : lst s (i + 1) = if s[i] = 10 then (i : Int) else lst s i := by
      show (if s[i]? = some 10 then (i : Int) else lst s i) = _
      rw [List.getElem?_eq_getElem hlt]
      simp only [Option.some.injEq]
    have hcn : (s.take (i + 1)).count 10 = (s.take i).count 10 + (if s[i] = 10 then 1 else 0) := by
      rw [List.take_add_one, List.getElem?_eq_getElem hlt, List.count_append]
      simp [List.count_cons]
    have q : s[i] = 10 ↔ s[i].toNat = 10 := u8eq _ 10
    refine idx_of hlt ?_
    by_cases h10 : s[i] = 10
    · rw [if_pos h10] at hl hcn
      refine and_t (decide_eq_true (by rw [q.1 h10]; rfl)) ?_
      refine ⟨i + 1, by omega, by omega, ?_, rfl⟩
      rw [i64w (n := 1 + (((s.take i).count 10 : Nat) : Int) + 1) (by omega), i64w (n := (i : Int) + 1) (by omega), hl, hcn]
      have e1 : (((i + 1 : Nat) : Int) - (i : Int)) = 1 := by omega
      have e2 : (1 + (((s.take i).count 10 : Nat) : Int) + 1) = 1 + (((s.take i).count 10 + 1 : Nat) : Int) := by omega
      rw [e1, e2]; rfl
    · rw [if_neg h10] at hl hcn
      refine and_f (decide_eq_false (fun e => h10 (q.2 (by omega)))) ?_
      refine ⟨i + 1, by omega, by omega, ?_, rfl⟩
      rw [i64w (n := (i : Int) - lst s i + 1) (by omega), i64w (n := (i : Int) + 1) (by omega), hl, hcn]
      have e1 : ((i : Int) - lst s i + 1) = (((i + 1 : Nat) : Int) - lst s i) := by omega
      rw [e1]; rfl
  · replace h := of_decide_eq_false h
    have : i = n := by omega
    subst this
    rfl
end
end Go.Vm.Lex
namespace Go.Vm.Lex
set_option maxRecDepth 10000
section
variable {fx : Nat → Option Obj} (H : Hp)
theorem plR_tup (s : List UInt8) (a : Int) : ∃ x y z : Int, plR s a = .tup [i64 x, i64 y, i64 z] := by
  unfold plR; repeat' split
  all_goals exact ⟨_, _, _, rfl⟩
theorem lexPlaces_ev (s : List UInt8) (hs : s.length ≤ maxLen) (a : Int) : evF (pgL fx) n_law11_LexPlaces [str s, i64 a] H = some (boo true, H) := by
  have e1 := fun H : Hp => place_ev (fx := fx) H s hs a
  have e2 := fun H : Hp => rplace_ev (fx := fx) H s hs a
  obtain ⟨x, y, z, e⟩ := plR_tup s a
  rw [e] at e1 e2
  refine evF_wp t_law11_LexPlaces rfl rfl ?_ H
  refine Exists.intro _ (Exists.intro _ (And.intro (e1 _) ?_))
  refine Exists.intro _ (Exists.intro _ (And.intro (e2 _) ?_))
  refine and_t (by simp) ?_
  refine and_t (by simp) ?_
  refine and_t (by simp) ?_
  refine Exists.intro _ (Exists.intro _ (And.intro (small_ev _) ?_))
  rfl
end
end Go.Vm.Lex
