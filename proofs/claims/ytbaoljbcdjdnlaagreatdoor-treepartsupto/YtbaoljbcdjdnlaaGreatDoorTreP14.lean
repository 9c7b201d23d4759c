import Derived.Test.YtbaoljbcdjdnlaaGreatDoorTreP13
set_option linter.unusedSimpArgs false
set_option linter.unusedVariables false
namespace Go.Vm.Tp
def markK : List Int → List Bool → List Bool
  | [], l => l
  | k :: r, l => markK r (l.set k.toNat true)
def insRGo (t : List Nd) : Nat → List Bool → List Bool
  | 0, l => l
  | i + 1, l => insRGo t i (if l.getD i false = true then markK (t.getD i default).kids l else l)
def insR (t : List Nd) (n : Nat) : List Bool := insRGo t (n + 1) ((List.replicate t.length false).set n true)
theorem markK_len : ∀ (ks : List Int) (l : List Bool), (markK ks l).length = l.length
  | [], l => rfl
  | k :: r, l => by simp only [markK]; rw [markK_len r, List.length_set]
theorem markK_get : ∀ (ks : List Int) (l : List Bool) (j : Nat), (∀ k ∈ ks, 0 ≤ k ∧ k < l.length) → (markK ks l).getD j false = (l.getD j false || decide ((j : Int) ∈ ks))
  | [], l, j, _ => by simp [markK]
  | k :: r, l, j, h => by
    have hk := h k (by simp)
    simp only [markK]
    rw [markK_get r _ j (fun k' h' => by rw [List.length_set]; exact h k' (by simp [h']))]
    by_cases e : k.toNat = j
    · subst e
      have e1 : (l.set k.toNat true).getD k.toNat false = true := by
        rw [List.getD_eq_getElem?_getD, List.getElem?_set_self (by omega)]; rfl
      rw [e1]
      have : ((k.toNat : Nat) : Int) ∈ k :: r := by rw [Int.toNat_of_nonneg hk.1]; simp
      rw [decide_eq_true this]; simp
    · have e1 : (l.set k.toNat true).getD j false = l.getD j false := by
        rw [List.getD_eq_getElem?_getD, List.getElem?_set_ne e, ← List.getD_eq_getElem?_getD]
      rw [e1]
      have : ((j : Int) ∈ k :: r) ↔ (j : Int) ∈ r := by
        rw [List.mem_cons]
        constructor
        · rintro (h1 | h1)
          · omega
          · exact h1
        · exact Or.inr
      simp only [this]
theorem insRGo_len (t : List Nd) : ∀ (i : Nat) (l : List Bool), (insRGo t i l).length = l.length
  | 0, l => rfl
  | i + 1, l => by
    simp only [insRGo]
    rw [insRGo_len t i]
    split
    · rw [markK_len]
    · rfl
theorem inGo_keep (up : List Int) (n : Nat) : ∀ (i : Nat) (l : List Bool) (j : Nat), i ≤ j → (inGo up n i l).getD j false = l.getD j false
  | 0, l, j, _ => rfl
  | i + 1, l, j, h => by
    simp only [inGo]
    rw [inGo_keep up n i _ j (by omega), List.getD_eq_getElem?_getD, List.getElem?_set_ne (by omega), ← List.getD_eq_getElem?_getD]
theorem inGo_rec (up : List Int) (n : Nat) (hu : ∀ j : Nat, 0 ≤ up.getD j (-1) → (j : Int) < up.getD j (-1)) : ∀ (i : Nat) (l : List Bool), i ≤ l.length → ∀ j, j < i → (inGo up n i l).getD j false = inB up n j (inGo up n i l)
  | 0, l, _, j, h => by omega
  | i + 1, l, hl, j, h => by
    have hr := inGo_rec up n hu i (l.set i (inB up n i l)) (by rw [List.length_set]; omega)
    simp only [inGo]
    by_cases e : j = i
    · subst e
      rw [inGo_keep up n j _ j (Nat.le_refl _), List.getD_eq_getElem?_getD, List.getElem?_set_self (by omega), Option.getD_some]
      unfold inB
      by_cases h0 : 0 ≤ up.getD j (-1)
      · have := hu j h0
        rw [inGo_keep up n j _ (up.getD j (-1)).toNat (by omega), List.getD_eq_getElem?_getD (l := l.set _ _), List.getElem?_set_ne (by omega), ← List.getD_eq_getElem?_getD]
      · rw [decide_eq_false h0]; simp
    · exact hr j (by omega)
section
variable {t : List Nd} {up : List Int} (hT : TreeOk t up)
include hT
theorem insT_rec (n j : Nat) (hj : j ≤ n) : (insT up n).getD j false = inB up n j (insT up n) := by
  unfold insT
  exact inGo_rec up n (fun j h => (hT.above j h).1) (n + 1) _ (by simp) j (by omega)
theorem insR_go (n : Nat) (hn : n < t.length) : ∀ (i : Nat) (l : List Bool), i ≤ n + 1 → l.length = t.length → (∀ j, j < t.length → l.getD j false = (decide (j = n) || (decide (0 ≤ up.getD j (-1)) && decide ((i : Int) ≤ up.getD j (-1)) && decide (up.getD j (-1) ≤ n) && (insT up n).getD (up.getD j (-1)).toNat false))) → ∀ j, j < t.length → (insRGo t i l).getD j false = (decide (j = n) || (decide (0 ≤ up.getD j (-1)) && decide (up.getD j (-1) ≤ n) && (insT up n).getD (up.getD j (-1)).toNat false))
  | 0, l, _, hl, h, j, hj => by
    simp only [insRGo]
    rw [h j hj]
    by_cases h0 : 0 ≤ up.getD j (-1)
    · rw [decide_eq_true h0, decide_eq_true (by omega : ((0 : Nat) : Int) ≤ up.getD j (-1))]; simp
    · rw [decide_eq_false h0]; simp
  | i + 1, l, hi, hl, h, j, hj => by
    simp only [insRGo]
    have hS : l.getD i false = (insT up n).getD i false := by
      rw [h i (by omega), insT_rec hT n i (by omega)]
      unfold inB
      by_cases h0 : 0 ≤ up.getD i (-1)
      · have := (hT.above i h0).1
        rw [decide_eq_true h0, decide_eq_true (by omega : ((i + 1 : Nat) : Int) ≤ up.getD i (-1))]; simp
      · rw [decide_eq_false h0]; simp
    refine insR_go n hn i _ (by omega) (by split <;> simp [markK_len, hl]) (fun j hj => ?_) j hj
    have key : (if l.getD i false = true then markK (t.getD i default).kids l else l).getD j false = (l.getD j false || (decide (up.getD j (-1) = i) && (insT up n).getD i false)) := by
      rw [← hS]
      have hmem : ((j : Int) ∈ (t.getD i default).kids) ↔ up.getD j (-1) = i := by
        constructor
        · intro hm
          have := (hT.up.kid i (by omega) _ hm).2.2
          simpa using this
        · intro e
          have := (hT.above j (by omega)).2.2
          rw [e] at this; simpa using this
      cases hb : l.getD i false with
      | true =>
        rw [if_pos rfl, markK_get _ _ _ (fun k hk => by have := hT.up.kid i (by omega) k hk; omega)]
        simp only [hmem, Bool.and_true]
      | false => rw [if_neg Bool.false_ne_true]; simp
    rw [key, h j hj]
    by_cases e : up.getD j (-1) = i
    · rw [e]
      simp only [decide_true, Bool.true_and, decide_eq_true (by omega : (0 : Int) ≤ (i : Int)), decide_eq_true (by omega : (i : Int) ≤ (i : Int)), decide_eq_true (by omega : (i : Int) ≤ (n : Int)), decide_eq_false (by omega : ¬ ((i + 1 : Nat) : Int) ≤ (i : Int)), Bool.false_and, Bool.or_false, Int.toNat_natCast]
    · rw [decide_eq_false e, Bool.false_and, Bool.or_false]
      have : decide (((i + 1 : Nat) : Int) ≤ up.getD j (-1)) = decide ((i : Int) ≤ up.getD j (-1)) := by
        congr 1
        simp only [eq_iff_iff]; omega
      rw [this]
theorem insR_eq (n : Nat) (hn : n < t.length) (j : Nat) (hj : j < t.length) : (insR t n).getD j false = (decide (j ≤ n) && (insT up n).getD j false) := by
  unfold insR
  rw [insR_go hT n hn (n + 1) _ (Nat.le_refl _) (by simp) (fun j hj => ?_) j hj]
  · by_cases hjn : j ≤ n
    · rw [insT_rec hT n j hjn, decide_eq_true hjn, Bool.true_and]
      unfold inB
      cases decide (j = n) <;> cases decide (0 ≤ up.getD j (-1)) <;> cases decide (up.getD j (-1) ≤ (n : Int)) <;> simp
    · rw [decide_eq_false hjn, decide_eq_false (by omega : ¬ j = n)]
      by_cases h0 : 0 ≤ up.getD j (-1)
      · have := (hT.above j h0).1
        rw [decide_eq_false (by omega : ¬ up.getD j (-1) ≤ (n : Int))]; simp
      · rw [decide_eq_false h0]; simp
  · by_cases e : j = n
    · subst e
      rw [List.getD_eq_getElem?_getD, List.getElem?_set_self (by simpa using hj)]; simp
    · rw [List.getD_eq_getElem?_getD, List.getElem?_set_ne (by omega), List.getElem?_replicate, if_pos hj, decide_eq_false e]
      have : (decide (((n + 1 : Nat) : Int) ≤ up.getD j (-1)) && decide (up.getD j (-1) ≤ (n : Int))) = false := by
        by_cases c : up.getD j (-1) ≤ (n : Int)
        · rw [decide_eq_false (by omega : ¬ ((n + 1 : Nat) : Int) ≤ up.getD j (-1))]; simp
        · rw [decide_eq_false c]; simp
      rw [Bool.and_assoc (decide (0 ≤ up.getD j (-1))), this]; simp
end
theorem subGo_skip (t : List Nd) (ins : List Bool) : ∀ (m i : Nat) (pl : List Int) (out : List Nd), (∀ j, i ≤ j → ins.getD j false = false) → subGo t ins m i pl out = out
  | 0, i, pl, out, _ => rfl
  | m + 1, i, pl, out, h => by
    simp only [subGo]
    rw [h i (Nat.le_refl _), if_neg Bool.false_ne_true]
    exact subGo_skip t ins m (i + 1) pl out fun j hj => h j (by omega)
theorem subGo_ext (t : List Nd) (a b : List Bool) (r : Nat) : ∀ (m i : Nat) (pl pl' : List Int) (out : List Nd), i + m ≤ pl.length → i + m ≤ pl'.length → (∀ j, pl.getD j 0 = pl'.getD j 0) → (∀ j, i ≤ j → j < i + m → a.getD j false = b.getD j false) → (∀ j, i + m ≤ j → b.getD j false = false) → subGo t a m i pl out = subGo t b (m + r) i pl' out
  | 0, i, pl, pl', out, _, _, _, _, h5 => by
    rw [Nat.zero_add, subGo_skip t b r i pl' out fun j hj => h5 j (by omega)]; rfl
  | m + 1, i, pl, pl', out, h1, h2, h3, h4, h5 => by
    rw [show m + 1 + r = (m + r) + 1 by omega]
    simp only [subGo]
    rw [← h4 i (Nat.le_refl _) (by omega)]
    split
    · have hs : ∀ j, (pl.set i (out.length : Int)).getD j 0 = (pl'.set i (out.length : Int)).getD j 0 := by
        intro j
        by_cases e : i = j
        · subst e
          rw [List.getD_eq_getElem?_getD, List.getElem?_set_self (by omega), List.getD_eq_getElem?_getD, List.getElem?_set_self (by omega)]
        · rw [List.getD_eq_getElem?_getD, List.getElem?_set_ne e, List.getD_eq_getElem?_getD, List.getElem?_set_ne e, ← List.getD_eq_getElem?_getD, ← List.getD_eq_getElem?_getD, h3]
      have hk : subK (pl.set i (out.length : Int)) (t.getD i default) = subK (pl'.set i (out.length : Int)) (t.getD i default) := by
        unfold subK
        simp only [hs]
      rw [hk]
      exact subGo_ext t a b r m (i + 1) _ _ _ (by rw [List.length_set]; omega) (by rw [List.length_set]; omega) hs (fun j hj hj2 => h4 j (by omega) (by omega)) (fun j hj => h5 j (by omega))
    · exact subGo_ext t a b r m (i + 1) _ _ _ (by omega) (by omega) h3 (fun j hj hj2 => h4 j (by omega) (by omega)) (fun j hj => h5 j (by omega))
theorem subR_eq {t : List Nd} {up : List Int} (hT : TreeOk t up) (n : Nat) (hn : n < t.length) : subGo t (insR t n) t.length 0 (List.replicate t.length 0) [] = subT t up n := by
  unfold subT
  have hl : (insR t n).length = t.length := by unfold insR; rw [insRGo_len]; simp
  have := subGo_ext t (insT up n) (insR t n) (t.length - (n + 1)) (n + 1) 0 (List.replicate (n + 1) 0) (List.replicate t.length 0) [] (by simp) (by simp; omega) (fun j => ?_) (fun j _ hj => ?_) (fun j hj => ?_)
  · rw [this, show n + 1 + (t.length - (n + 1)) = t.length by omega]
  · simp only [List.getD_eq_getElem?_getD, List.getElem?_replicate]
    split <;> split <;> rfl
  · rw [insR_eq hT n hn j (by omega), decide_eq_true (by omega : j ≤ n), Bool.true_and]
  · by_cases hjt : j < t.length
    · rw [insR_eq hT n hn j hjt, decide_eq_false (by omega : ¬ j ≤ n), Bool.false_and]
    · rw [List.getD_eq_getElem?_getD, List.getElem?_eq_none (by omega)]; rfl
theorem subGo_fine (t : List Nd) (hf : Fine t) (ins : List Bool) : ∀ (m i : Nat) (pl : List Int) (out : List Nd), i + m ≤ t.length → out.length ≤ i → (∀ (j : Nat) (v : Int), pl[j]? = some v → 0 ≤ v ∧ v ≤ 1048576) → Fine out → Fine (subGo t ins m i pl out)
  | 0, i, pl, out, _, _, _, h => h
  | m + 1, i, pl, out, h1, h2, h3, h4 => by
    have hl := hf.len
    have hmem : t.getD i default ∈ t := by
      rw [List.getD_eq_getElem?_getD, List.getElem?_eq_getElem (by omega : i < t.length)]; exact List.getElem_mem _
    have hset : ∀ (j : Nat) (v : Int), (pl.set i (out.length : Int))[j]? = some v → 0 ≤ v ∧ v ≤ 1048576 := fun j v hv => by
      rw [List.getElem?_set] at hv
      split at hv
      · split at hv
        · cases hv; omega
        · cases hv
      · exact h3 j v hv
    simp only [subGo]
    split
    · refine subGo_fine t hf ins m (i + 1) _ _ (by omega) (by simp; omega) hset ⟨by simp; omega, fun x hx => ?_, fun x hx => ?_, fun x hx => ?_, fun x hx => ?_, fun x hx => ?_⟩
      all_goals
        rcases List.mem_append.1 hx with hx | hx
        · first | exact h4.txt x hx | exact h4.kid x hx | exact h4.ik x hx | exact h4.iv x hx | exact h4.ie x hx
        · rw [List.mem_singleton.1 hx]
          first
            | (have a := hf.txt _ hmem; exact a)
            | (show (List.map _ _).length ≤ _; rw [List.length_map]; exact hf.kid _ hmem)
            | (have a := hf.iv _ hmem; exact a)
            | (have a := hf.ie _ hmem; exact a)
            | (intro k hk
               obtain ⟨a, _, rfl⟩ := List.mem_map.1 hk
               show I64 _
               unfold I64
               rw [List.getD_eq_getElem?_getD]
               cases hg : (pl.set i (out.length : Int))[a.toNat]? with
               | none => simp
               | some v => have := hset _ _ hg; simp; omega)
    · exact subGo_fine t hf ins m (i + 1) _ _ (by omega) (by omega) h3 h4
theorem nilFine : Fine [] := by constructor <;> simp
theorem subA_fine {t : List Nd} (hf : Fine t) (n : Int) : Fine (subA t n).1 := by
  unfold subA
  cases hc : checkB t with
  | false => rw [if_neg Bool.false_ne_true]; exact nilFine
  | true =>
    rw [if_pos rfl]
    split
    · exact nilFine
    · rename_i h
      refine subGo_fine t hf _ (n.toNat + 1) 0 _ [] (by omega) (Nat.le_refl _) (fun j v hv => ?_) nilFine
      rw [List.getElem?_replicate] at hv
      split at hv
      · cases hv; omega
      · cases hv
end Go.Vm.Tp
