import Derived.Test.YtbaoljbcdjdnlaaGreatDoorTreW25
/- The document's right trees: depth, whether a tree is right; what it says of parents and depth. -/
namespace Go.Vm.Tre
open Go.Vm.Tp
set_option maxRecDepth 10000
theorem depGo_pos (up : List Int) : ∀ (n : Nat) (out : List Int), (∀ (j : Nat) (v : Int), out[j]? = some v → 0 ≤ v) → ∀ (j : Nat) (v : Int), (depGo up n out)[j]? = some v → 0 ≤ v
  | 0, out, h => h
  | n + 1, out, h => by
    simp only [depGo]
    refine depGo_pos up n _ fun j v hv => ?_
    split at hv
    · rw [List.getElem?_set] at hv
      split at hv
      · split at hv
        · cases hv
          have : 0 ≤ out.getD (up.getD n 0).toNat 0 := by
            rw [List.getD_eq_getElem?_getD]
            cases hg : out[(up.getD n 0).toNat]? with
            | none => exact Int.le_refl _
            | some w => exact h _ _ hg
          omega
        · cases hv
      · exact h j v hv
    · exact h j v hv
theorem deps_pos (up : List Int) : ∀ (j : Nat) (v : Int), (deps up)[j]? = some v → 0 ≤ v :=
  depGo_pos up _ _ fun j v hv => by
    rw [List.getElem?_replicate] at hv
    split at hv
    · cases hv; exact Int.le_refl _
    · cases hv
section
variable {fx : Nat → Option Obj} (H : Hp)
set_option maxHeartbeats 4000000 in
theorem rdeep_ev (t : List Nd) (up : List Int) (h1 : 1 ≤ up.length) (hl : up.length ≤ 1048576) (hlast : up.getD (up.length - 1) (-1) = -1) (hin : ∀ j, j + 1 < up.length → 0 ≤ up.getD j 0 ∧ up.getD j 0 < up.length) : evF (pgL fx) n_ref13_deep [.d (treeD t), ints up] H = some (i64 (maxL (deps up)), H) := by
  refine evF_wq t_ref13_deep rfl rfl ?_ H
  have hnl : (up.map (D.int .i64)).length = up.length := List.length_map ..
  have hmsl : 0 ≤ ((up.map (D.int .i64)).length : Int) ∧ roomy ((up.map (D.int .i64)).length : Int).toNat 8 := ⟨by omega, by unfold roomy; omega⟩
  repeat' (first | refine run ⟨?_⟩ | refine And.intro hmsl ?_ | fail)
  refine wq_loop (α := Nat × List Int × Int) (fun a => a.1) (fun a => [(1, ints up), (5, i64 a.2.2), (6, .arr 1 0 up.length), (7, i64 ((a.1 : Int) - 1))]) (fun a => [TB t, .box (arrI a.2.1)])
    (fun a => a.1 + 1 ≤ up.length ∧ a.2.1.length = up.length ∧ depGo up a.1 a.2.1 = deps up ∧ a.2.2 = mx (a.2.1.drop a.1) ∧ ∀ (j : Nat) (v : Int), a.2.1[j]? = some v → 0 ≤ v ∧ v ≤ 1048576 - a.1) ?_ (up.length - 1, List.replicate up.length 0, 0) ⟨by show up.length - 1 + 1 ≤ _; omega, by simp, ?_, ?_, fun j v hv => ?_⟩ ?_ ?_
  · rintro ⟨n, out, most⟩ ⟨hn, hol, hdp, hm, hbd⟩
    simp only at hn hol hdp hm hbd ⊢
    cases n with
    | zero =>
      have h' : ¬ (0 : Int) ≤ ((0 : Nat) : Int) - 1 := by omega
      simp only [depGo] at hdp
      rw [List.drop_zero, hdp] at hm
      have e : maxL (deps up) = most := by rw [hm]; exact maxL_mx (deps_pos up) (by rw [← hdp, hol]; exact h1)
      rw [e]
      refine run ⟨?_⟩
      exact rfl
    | succ i =>
      have e0 : ((((i + 1 : Nat) : Int)) - 1) = (i : Int) := by omega
      rw [e0]
      have h' : (0 : Int) ≤ (i : Int) := by omega
      simp only [depGo] at hdp
      obtain ⟨u0, u1⟩ := hin i (by omega)
      rw [getD_of (show i < up.length by omega) (-1) 0, if_pos u0] at hdp
      have hk : (up.getD i 0).toNat < out.length := by omega
      have hbv := hbd _ _ (get_getD hk 0)
      have pu : 0 ≤ (i : Int) ∧ (up.map (D.int .i64))[(i : Int).toNat]? = some (.int .i64 (up.getD i 0)) := ⟨h', gK (by omega)⟩
      have pk1 : 0 ≤ up.getD i 0 ∧ (up.getD i 0).toNat < up.length := by omega
      have pi : 0 ≤ (i : Int) ∧ (i : Int).toNat < up.length := by omega
      obtain ⟨d, hd⟩ : ∃ d, d = out.getD (up.getD i 0).toNat 0 + 1 := ⟨_, rfl⟩
      rw [← hd] at hdp
      have hio : i < out.length := by omega
      have wd : IntKind.i64.wrap (out.getD (up.getD i 0).toNat 0 + 1) = d := by rw [i64w (by omega), hd]
      have hput : putAt (arrI out) (0 + i * 1) [i64 (IntKind.i64.wrap (out.getD (up.getD i 0).toNat 0 + 1))] = arrI (out.set i d) := by rw [wd, Nat.zero_add, Nat.mul_one, arrI_put hio]
      have hst : ∀ {k : List V → Prop}, k (arrI (out.set i d)) → forceL (putAt (arrI out) (0 + i * 1) [i64 (IntKind.i64.wrap (out.getD (up.getD i 0).toNat 0 + 1))]) k := fun hk => by rw [forceL_eq, hput]; exact hk
      have hgd : (arrI (out.set i d))[0 + i * 1]? = some (i64 d) := by rw [arrI_at (by simpa using hio)]; simp [hio]
      have hdr : (out.set i d).drop i = d :: out.drop (i + 1) := by
        rw [List.drop_eq_getElem_cons (by simpa using hio)]
        simp [List.drop_set_of_lt]
      have hnx : ∀ (j : Nat) (v : Int), (out.set i d)[j]? = some v → 0 ≤ v ∧ v ≤ 1048576 - (i : Int) := fun j v hv => by
        rw [List.getElem?_set] at hv
        split at hv
        · cases hv; omega
        · have := hbd _ _ hv; omega
      repeat' (first | refine run ⟨?_⟩ | refine pickD pu ?_ | refine And.intro pk1 ?_ | refine nthK_of (arrI_at hk) ?_ | refine And.intro pi ?_ | fail)
      refine chk_of (by simp; omega) (hst ?_)
      by_cases hc : most < d
      · repeat' (first | refine run ⟨?_⟩ | refine And.intro pi ?_ | refine nthK_of hgd ?_ | fail)
        exact ⟨(i, out.set i d, d), ⟨by show i + 1 ≤ _; omega, by simp [hol], hdp, by show d = mx _; rw [hdr]; simp only [mx]; rw [if_pos (by omega)], hnx⟩, by show i < i + 1; omega, by rw [i64w (n := (i : Int) - 1) (by omega)], rfl⟩
      · repeat' (first | refine run ⟨?_⟩ | refine And.intro pi ?_ | refine nthK_of hgd ?_ | fail)
        exact ⟨(i, out.set i d, most), ⟨by show i + 1 ≤ _; omega, by simp [hol], hdp, by show most = mx _; rw [hdr]; simp only [mx]; rw [if_neg (by omega)]; exact hm, hnx⟩, by show i < i + 1; omega, by rw [i64w (n := (i : Int) - 1) (by omega)], rfl⟩
  · show depGo up (up.length - 1) _ = deps up
    unfold deps
    conv => rhs; rw [show depGo up up.length = depGo up (up.length - 1 + 1) from by rw [show up.length - 1 + 1 = up.length by omega]]
    simp only [depGo]
    rw [hlast, if_neg (by omega)]
  · show (0 : Int) = mx _
    rw [List.drop_replicate, show up.length - (up.length - 1) = 1 by omega]; rfl
  · rw [List.getElem?_replicate] at hv
    split at hv
    · cases hv; show (0 : Int) ≤ 0 ∧ (0 : Int) ≤ 1048576 - ((up.length - 1 : Nat) : Int); omega
    · cases hv
  · have e : IntKind.i64.wrap (((up.map (D.int .i64)).length : Int) - 2) = ((up.length - 1 : Nat) : Int) - 1 := by rw [hnl, i64w (by omega)]; omega
    show [_, _, (6, .arr 1 0 ((up.map (D.int .i64)).length : Int).toNat), (7, i64 (IntKind.i64.wrap (((up.map (D.int .i64)).length : Int) - 2)))] = _
    rw [e, hnl]; rfl
  · show [_, Ob.box (List.replicate ((up.map (D.int .i64)).length : Int).toNat _)] = _
    simp [hnl]
set_option maxHeartbeats 2000000 in
theorem rright_ev (t : List Nd) (hf : Fine t) : evF (pgL fx) n_ref13_Right [.d (treeD t)] H = some (boo (checkB t), H) := by
  refine evF_wq t_ref13_Right rfl rfl ?_ H
  have htl := hf.len
  have hnl : (t.map Nd.D).length = t.length := List.length_map ..
  by_cases c1 : t.length < 1
  · have d1 : ((t.map Nd.D).length : Int) < 1 := by omega
    refine run ⟨?_⟩
    rw [show checkB t = false from by unfold checkB; rw [decide_eq_false (by omega : ¬ 1 ≤ t.length)]; rfl]; exact rfl
  have d1 : ¬ ((t.map Nd.D).length : Int) < 1 := by omega
  by_cases c2 : 20000 < t.length
  · have d2 : 20000 < ((t.map Nd.D).length : Int) := by omega
    refine run ⟨?_⟩
    rw [show checkB t = false from by unfold checkB; rw [decide_eq_false (by omega : ¬ t.length ≤ 20000), Bool.and_false]; rfl]; exact rfl
  have d2 : ¬ 20000 < ((t.map Nd.D).length : Int) := by omega
  have hw : IntKind.i64.wrap (((t.map Nd.D).length : Int) - 1) = ((t.length - 1 : Nat) : Int) := by rw [hnl, i64w (by omega)]; omega
  have pl : 0 ≤ IntKind.i64.wrap (((t.map Nd.D).length : Int) - 1) ∧ (t.map Nd.D)[(IntKind.i64.wrap (((t.map Nd.D).length : Int) - 1)).toNat]? = some (nd t (t.length - 1)).D := by rw [hw]; exact ndD_at (k := ((t.length - 1 : Nat) : Int)) (by omega) (by omega)
  have hcb : checkB t = (decide ((nd t (t.length - 1)).k = 1) && (List.range t.length).all (nodeB t) && upOk t) := by
    unfold checkB
    rw [decide_eq_true (by omega : 1 ≤ t.length), decide_eq_true (by omega : t.length ≤ 20000)]; rfl
  rw [hcb]
  by_cases c3 : (nd t (t.length - 1)).k = 1
  rotate_left
  · have d3 : (!decide ((nd t (t.length - 1)).k = 1)) = true := by rw [decide_eq_false c3]; rfl
    repeat' (first | refine run ⟨?_⟩ | refine pickD pl ?_ | fail)
    rw [decide_eq_false c3]; exact rfl
  have d3 : (!decide ((nd t (t.length - 1)).k = 1)) = false := by rw [decide_eq_true c3]; rfl
  rw [decide_eq_true c3, Bool.true_and]
  repeat' (first | refine run ⟨?_⟩ | refine pickD pl ?_ | fail)
  refine wq_loop (α := Nat) (fun i => t.length - i) (fun i => [(1, .ptr 0 0), (28, i64 t.length), (29, i64 i)]) (fun _ => [TB t]) (fun i => i ≤ t.length ∧ ∀ j, j < i → nodeB t j = true) ?_ 0 ⟨by omega, by omega⟩ ?_ rfl
  · rintro i ⟨hi, hall⟩
    by_cases h : i < t.length
    · have h' : (i : Int) < (t.length : Int) := by omega
      have hn := fun H => rnode_ev (fx := fx) H t hf i h
      rw [node_eq t i (hf.iv _ (nd_mem h))] at hn
      cases hb : nodeB t i with
      | false =>
        rw [hb] at hn
        repeat' (first | refine run ⟨?_⟩ | refine ca (hn _) ?_ | fail)
        rw [not_all (p := nodeB t) (l := List.range t.length) (fun e => by have := List.all_eq_true.1 e i (List.mem_range.2 h); rw [hb] at this; cases this)]; exact rfl
      | true =>
        rw [hb] at hn
        repeat' (first | refine run ⟨?_⟩ | refine ca (hn _) ?_ | fail)
        refine ⟨i + 1, ⟨by omega, fun j hj => ?_⟩, by omega, by rw [i64w (by omega)]; rfl, rfl⟩
        by_cases hji : j = i
        · rw [hji]; exact hb
        · exact hall j (by omega)
    · have h' : ¬ (i : Int) < (t.length : Int) := by omega
      have hnodes : (List.range t.length).all (nodeB t) = true := List.all_eq_true.2 fun j hj => hall j (by have := List.mem_range.1 hj; omega)
      rw [hnodes, Bool.true_and]
      have hko := kidsOk_of hnodes
      have hp := fun H => rparents_ev (fx := fx) H t hf hko
      cases hu : ups t with
      | none =>
        rw [hu] at hp
        repeat' (first | refine run ⟨?_⟩ | refine ca (hp _) ?_ | fail)
        rw [show upOk t = false from by unfold upOk; rw [hu]]; exact rfl
      | some up =>
        rw [hu] at hp
        simp only at hp
        have hupo : upOk t = ((decide (up = []) || !up.dropLast.contains (-1)) && decide (maxL (deps up) ≤ 400)) := by unfold upOk; rw [hu]
        obtain ⟨u1, u2⟩ := ups_facts hu
        have hne : decide (up = []) = false := decide_eq_false fun e => by rw [e] at u1; simp at u1; omega
        rw [hupo, hne, Bool.false_or]
        cases hc : up.dropLast.contains (-1) with
        | true =>
          rw [hc, if_pos rfl] at hp
          repeat' (first | refine run ⟨?_⟩ | refine ca (hp _) ?_ | fail)
          exact rfl
        | false =>
          rw [hc, if_neg Bool.false_ne_true] at hp
          have hno := (no_neg hu).1 hc
          have hd := fun H => rdeep_ev (fx := fx) H t up (by omega) (by omega) (by rw [u1]; exact ups_last hu hko (by omega)) (fun j hj => ⟨hno j hj, by have := u2 j (up.getD j 0) (get_getD (by omega) 0); omega⟩)
          repeat' (first | refine run ⟨?_⟩ | refine ca (hp _) ?_ | refine ca (hd _) ?_ | fail)
          exact rfl
  · show [_, (28, i64 ((t.map Nd.D).length : Int)), _] = _
    rw [hnl]; rfl
theorem rpar_ev (t : List Nd) (hf : Fine t) : evF (pgL fx) n_ref13_Parents [.d (treeD t)] H = some (.tup [ints (parA t).1, i64 (parA t).2], H) := by
  refine evF_wq t_ref13_Parents rfl rfl ?_ H
  have hr := fun H => rright_ev (fx := fx) H t hf
  unfold parA
  cases hc : checkB t with
  | false =>
    rw [hc] at hr
    repeat' (first | refine run ⟨?_⟩ | refine ca (hr _) ?_ | fail)
    exact rfl
  | true =>
    rw [hc] at hr
    obtain ⟨up, hT⟩ := treeOk hc
    have hp := fun H => rparents_ev (fx := fx) H t hf (fun i hi => List.all_eq_true.2 fun k hk => by have := (hT.nod i hi).kid k hk; simp only [kidOk, Bool.and_eq_true, decide_eq_true_eq]; omega)
    rw [hT.ups] at hp
    simp only at hp
    rw [hT.one, if_neg Bool.false_ne_true] at hp
    rw [if_pos rfl, hT.upT]
    repeat' (first | refine run ⟨?_⟩ | refine ca (hr _) ?_ | refine ca (hp _) ?_ | fail)
    exact rfl
theorem rdep_ev (t : List Nd) (hf : Fine t) : evF (pgL fx) n_ref13_Depth [.d (treeD t)] H = some (.tup [i64 (depA t).1, i64 (depA t).2], H) := by
  refine evF_wq t_ref13_Depth rfl rfl ?_ H
  have hr := fun H => rright_ev (fx := fx) H t hf
  have htl := hf.len
  unfold depA
  cases hc : checkB t with
  | false =>
    rw [hc] at hr
    repeat' (first | refine run ⟨?_⟩ | refine ca (hr _) ?_ | fail)
    exact rfl
  | true =>
    rw [hc] at hr
    obtain ⟨up, hT⟩ := treeOk hc
    have hko : KidsOk t := fun i hi => List.all_eq_true.2 fun k hk => by have := (hT.nod i hi).kid k hk; simp only [kidOk, Bool.and_eq_true, decide_eq_true_eq]; omega
    have hp := fun H => rparents_ev (fx := fx) H t hf hko
    rw [hT.ups] at hp
    simp only at hp
    rw [hT.one, if_neg Bool.false_ne_true] at hp
    obtain ⟨u1, u2⟩ := ups_facts hT.ups
    have h1 := hT.lo
    have hno := (no_neg hT.ups).1 hT.one
    have hd := fun H => rdeep_ev (fx := fx) H t up (by omega) (by omega) (by rw [u1]; exact ups_last hT.ups hko h1) (fun j hj => ⟨hno j hj, by have := u2 j (up.getD j 0) (get_getD (by omega) 0); omega⟩)
    rw [if_pos rfl, hT.upT]
    repeat' (first | refine run ⟨?_⟩ | refine ca (hr _) ?_ | refine ca (hp _) ?_ | refine ca (hd _) ?_ | fail)
    exact rfl
end
end Go.Vm.Tre
