import Derived.Test.YtbaoljbcdjdnlaaGreatDoorTreW6
import Derived.Test.YtbaoljbcdjdnlaaGreatDoorTreP13
set_option linter.unusedSimpArgs false
set_option linter.unusedVariables false
namespace Go.Vm.Tre
open Go.Vm.Tp
set_option maxRecDepth 10000
def KidsOk (t : List Nd) : Prop := ∀ i, i < t.length → (nd t i).kids.all (kidOk i) = true
abbrev arrI (l : List Int) : List V := l.map fun n => i64 n
theorem arrI_get {l : List Int} {i : Nat} (h : i < l.length) : (arrI l)[i]? = some (i64 (l.getD i 0)) := by
  rw [List.getElem?_map, List.getElem?_eq_getElem h]; simp [h]
theorem arrI_at {l : List Int} {i : Nat} (h : i < l.length) : (arrI l)[0 + i * 1]? = some (i64 (l.getD i 0)) := by rw [Nat.zero_add, Nat.mul_one]; exact arrI_get h
theorem arrI_allD (l : List Int) : allD (arrI l) = some (l.map (D.int .i64)) := by
  induction l with
  | nil => rfl
  | cons a l ih => rw [show arrI (a :: l) = i64 a :: arrI l from rfl, allD, ih]; rfl
theorem arrI_put {l : List Int} {i : Nat} (h : i < l.length) (n : Int) : putAt (arrI l) i [i64 n] = arrI (l.set i n) := putAt_map (fun n => i64 n) h
theorem get_getD {α : Type} {l : List α} {i : Nat} (h : i < l.length) (d : α) : l[i]? = some (l.getD i d) := by rw [List.getD_eq_getElem?_getD, List.getElem?_eq_getElem h]; rfl
theorem getD_of {l : List Int} {i : Nat} (h : i < l.length) (a b : Int) : l.getD i a = l.getD i b := by simp [h]
section
variable {fx : Nat → Option Obj} (H : Hp)
theorem index_ev (l : List Int) (v : Int) (hl : l.length ≤ 1048576) : evF (pgL fx) n_slices_Index_int_int [ints l, i64 v] H = some (i64 (if l.contains v then ((l.idxOf v : Nat) : Int) else -1), H) := by
  refine evF_wp t_slices_Index_int_int rfl rfl ?_ H
  refine wp_loop (α := Nat) (fun i => l.length - i) (fun i => [(0, ints l), (1, i64 v), (7, i64 (l.map (D.int .i64)).length), (8, i64 i)]) (fun _ => []) (fun i => i ≤ l.length ∧ ∀ k ∈ l.take i, k ≠ v) ?_ 0 ⟨by omega, by simp⟩
  rintro i ⟨hi, hall⟩
  refine And.intro (fun h => ?_) (fun h => ?_)
  · replace h := of_decide_eq_true h
    rw [List.length_map] at h
    have hlt : i < l.length := by omega
    refine idx_of (s := l.map (D.int .i64)) (by rw [List.length_map]; exact hlt) ?_
    rw [List.getElem_map]
    refine And.intro rfl ?_
    by_cases hk : v = l[i]
    · refine and_t (decide_eq_true hk) ?_
      show _ = _
      have hc : l.contains v = true := by rw [List.contains_iff_mem, hk]; exact List.getElem_mem _
      have hx : l.idxOf v = i := by
        unfold List.idxOf
        rw [List.findIdx_eq hlt]
        refine ⟨by simp [hk], fun j hj => ?_⟩
        have : l[j] ∈ l.take i := by rw [List.mem_take_iff_getElem]; exact ⟨j, by omega, rfl⟩
        simpa using hall _ this
      rw [hc, hx]; rfl
    · refine and_f (decide_eq_false hk) ?_
      refine ⟨i + 1, ⟨by omega, ?_⟩, by omega, ?_, rfl⟩
      · intro k hkm
        rw [List.take_add_one, List.getElem?_eq_getElem hlt, List.mem_append] at hkm
        rcases hkm with hkm | hkm
        · exact hall k hkm
        · simp at hkm; rw [hkm]; exact fun e => hk e.symm
      · rw [i64w (by omega)]; rfl
  · replace h := of_decide_eq_false h
    rw [List.length_map] at h
    have hi' : i = l.length := by omega
    subst hi'
    rw [List.take_length] at hall
    show _ = _
    have hc : l.contains v = false := by
      cases hb : l.contains v with
      | false => rfl
      | true => rw [List.contains_iff_mem] at hb; exact absurd rfl (hall v hb)
    rw [hc]; rfl
theorem contains_ev (l : List Int) (v : Int) (hl : l.length ≤ 1048576) : evF (pgL fx) n_slices_Contains_int_int [ints l, i64 v] H = some (boo (l.contains v), H) := by
  refine evF_wp t_slices_Contains_int_int rfl rfl ?_ H
  refine ca (index_ev _ l v hl) ?_
  show V.d (.bool (decide ((0 : Int) ≤ if l.contains v then ((l.idxOf v : Nat) : Int) else -1))) = _
  cases l.contains v with
  | true => rw [if_pos rfl, decide_eq_true (by omega)]
  | false => rfl
set_option maxHeartbeats 4000000 in
theorem parents_ev (t : List Nd) (hf : Fine t) (hk : KidsOk t) : evF (pgL fx) n_tree_parents [.d (treeD t)] H = some (match ups t with | none => .tup [.d (.sl []), boo false] | some up => .tup [ints up, boo (decide (up = []) || !up.dropLast.contains (-1))], H) := by
  refine evF_wp t_tree_parents rfl rfl ?_ H
  have htl := hf.len
  have hnl : (t.map Nd.D).length = t.length := List.length_map ..
  refine And.intro ⟨by omega, by unfold roomy; omega⟩ ?_
  refine chk_of rfl ?_
  refine wp_loopE (α := Nat) (fun i => t.length - i) (fun i => [(1, .ptr 0 0), (4, .arr 1 0 t.length), (15, i64 t.length), (16, i64 i)])
    (fun i => [.box [.d (.sl (t.map Nd.D))], .box (arrI (List.replicate i (-1) ++ List.replicate (t.length - i) 0))]) (fun i => i ≤ t.length) ?_ 0 (by omega) ?_ ?_
  · intro i hi
    refine And.intro (fun h => ?_) (fun h => ?_)
    · replace h := of_decide_eq_true h
      have hlt : i < t.length := by omega
      refine And.intro ⟨by omega, by omega⟩ ?_
      refine st_of (by simp; omega) ?_
      refine ⟨i + 1, by omega, by omega, ?_, ?_⟩
      · rw [i64w (by omega)]; rfl
      · have e : (List.replicate i (-1 : Int) ++ List.replicate (t.length - i) 0).set i (-1) = List.replicate (i + 1) (-1) ++ List.replicate (t.length - (i + 1)) 0 := by
          rw [List.set_append_right _ _ (by simp), List.length_replicate, Nat.sub_self, show t.length - i = (t.length - (i + 1)) + 1 by omega, List.replicate_succ, List.set_cons_zero, List.replicate_succ', List.append_assoc]; rfl
        have e2 := arrI_put (l := List.replicate i (-1 : Int) ++ List.replicate (t.length - i) 0) (i := i) (by simp; omega) (-1)
        rw [e] at e2
        show [_, Ob.box (putAt _ (0 + i * 1) _)] = _
        rw [Nat.zero_add, Nat.mul_one, e2]
    · replace h := of_decide_eq_false h
      have hi' : i = t.length := by omega
      subst hi'
      rw [Nat.sub_self, List.replicate_zero, List.append_nil]
      refine wp_loopE (α := Nat × List Int) (fun a => t.length - a.1) (fun a => [(4, .arr 1 0 t.length), (24, .d (.sl (t.map Nd.D))), (25, i64 t.length), (26, i64 a.1)])
        (fun a => [.box [.d (.sl (t.map Nd.D))], .box (arrI a.2)]) (fun a => a.1 ≤ t.length ∧ a.2.length = t.length ∧ upAll a.1 (t.drop a.1) a.2 = ups t) ?_ (0, List.replicate t.length (-1)) ⟨by omega, by simp, rfl⟩ ?_ ?_
      · rintro ⟨i, out⟩ ⟨hi, hol, hup⟩
        simp only at hi hol hup ⊢
        refine And.intro (fun h => ?_) (fun h => ?_)
        · replace h := of_decide_eq_true h
          have hlt : i < t.length := by omega
          obtain ⟨x, hxe⟩ : ∃ x, x = nd t i := ⟨_, rfl⟩
          have hx : x ∈ t := by rw [hxe]; exact nd_mem hlt
          have hkl := hf.kid x hx
          have hko : x.kids.all (kidOk i) = true := by rw [hxe]; exact hk i hlt
          have hdr : t.drop i = x :: t.drop (i + 1) := by rw [hxe, List.drop_eq_getElem_cons hlt]; congr 1; simp [nd, hlt]
          rw [hdr] at hup
          simp only [upAll] at hup
          refine pickD (d := x.D) (by rw [hxe]; exact ndD_at (k := (i : Int)) (by omega) (by omega)) ?_
          refine And.intro rfl ?_
          refine wp_loopE (α := Nat × List Int) (fun a => x.kids.length - a.1) (fun a => [(4, .arr 1 0 t.length), (6, i64 i), (24, .d (.sl (t.map Nd.D))), (25, i64 t.length), (26, i64 i), (32, ints x.kids), (33, i64 x.kids.length), (34, i64 a.1)])
            (fun a => [.box [.d (.sl (t.map Nd.D))], .box (arrI a.2), .box [i64 x.k, str x.t, i64 x.v, ints x.kids, i64 x.f, i64 x.e]]) (fun a => a.1 ≤ x.kids.length ∧ a.2.length = t.length ∧ upKids i (x.kids.drop a.1) a.2 = upKids i x.kids out) ?_ (0, out) ⟨by omega, hol, rfl⟩ ?_ ?_
          · rintro ⟨j, o⟩ ⟨hj, hoj, hupj⟩
            simp only at hj hoj hupj ⊢
            refine And.intro (fun h => ?_) (fun h => ?_)
            · replace h := of_decide_eq_true h
              have hjl : j < x.kids.length := by omega
              have hkj := List.all_eq_true.1 hko _ (List.getElem_mem hjl)
              simp only [kidOk, Bool.and_eq_true, decide_eq_true_eq] at hkj
              rw [List.drop_eq_getElem_cons hjl] at hupj
              simp only [upKids] at hupj
              refine idx_of (s := x.kids.map (D.int .i64)) (by rw [List.length_map]; exact hjl) ?_
              rw [List.getElem_map]
              refine And.intro rfl ?_
              have hkn : x.kids[j].toNat < o.length := by omega
              refine And.intro ⟨by omega, by omega⟩ ?_
              refine nthK_of (arrI_at hkn) ?_
              by_cases hc : 0 ≤ o.getD x.kids[j].toNat 0
              · refine and_t (decide_eq_true hc) ?_
                rw [if_pos hc] at hupj
                rw [← hupj] at hup
                show _ = _
                rw [← hup]; rfl
              · refine and_f (decide_eq_false hc) ?_
                rw [if_neg hc] at hupj
                refine And.intro ⟨by omega, by omega⟩ ?_
                refine st_of (by simp; omega) ?_
                refine ⟨(j + 1, o.set x.kids[j].toNat i), ⟨by show j + 1 ≤ _; omega, by simp [hoj], hupj⟩, by show _ - (j + 1) < _ - j; omega, ?_, ?_⟩
                · rw [i64w (by omega)]; rfl
                · show [_, Ob.box (putAt _ (0 + _ * 1) _), _] = _
                  rw [Nat.zero_add, Nat.mul_one, arrI_put hkn]
            · replace h := of_decide_eq_false h
              have hj' : j = x.kids.length := by omega
              subst hj'
              rw [List.drop_length] at hupj
              simp only [upKids] at hupj
              rw [← hupj] at hup
              refine ⟨(i + 1, o), ⟨by show i + 1 ≤ _; omega, hoj, hup⟩, by show _ - (i + 1) < _ - i; omega, ?_, rfl⟩
              rw [i64w (by omega)]; rfl
          · rw [List.length_map]; rfl
          · rfl
        · replace h := of_decide_eq_false h
          have hi' : i = t.length := by omega
          subst hi'
          rw [List.drop_length] at hup
          simp only [upAll] at hup
          rw [← hup]
          refine fz (arrI_allD out) ?_
          have hdl : (out.map (D.int .i64)).length = t.length := by rw [List.length_map, hol]
          have hds : List.take t.length (List.drop 0 (out.map (D.int .i64))) = out.map (D.int .i64) := by rw [List.drop_zero, ← hdl, List.take_length]
          by_cases h0 : (t.length : Int) = 0
          · refine gd_t (decide_eq_true h0) ?_
            repeat' (first | refine run ⟨?_⟩ | fail)
            refine And.intro (by omega) ?_
            show _ = _
            have ho : out = [] := List.eq_nil_of_length_eq_zero (by omega)
            subst ho
            rw [hds]; rfl
          · refine gd_f (decide_eq_false h0) ?_
            refine And.intro (by omega) ?_
            refine And.intro (by rw [i64w (by omega)]; omega) ?_
            refine And.intro ⟨by omega, by rw [i64w (by omega), hds, hdl]; omega, rfl⟩ ?_
            rw [show List.drop 0 (List.take (Int.toNat (IntKind.i64.wrap ((t.length : Int) - 1))) (List.take t.length (List.drop 0 (out.map (D.int .i64))))) = out.dropLast.map (D.int .i64) from by rw [hds, List.drop_zero, i64w (by omega), List.dropLast_eq_take, List.map_take, hol]; congr 1; omega]
            refine ca (contains_ev _ out.dropLast (-1) (by rw [List.length_dropLast]; omega)) ?_
            repeat' (first | refine run ⟨?_⟩ | fail)
            refine And.intro (by omega) ?_
            show _ = _
            rw [hds]
            have ho : out ≠ [] := fun e => by rw [e] at hol; simp at hol; omega
            show V.tup [V.d (D.sl (List.map (D.int IntKind.i64) out)), V.d (D.bool !out.dropLast.contains (-1))] = V.tup [ints out, boo (decide (out = []) || !out.dropLast.contains (-1))]
            rw [decide_eq_false ho]; rfl
      · rw [hnl]; rfl
      · rfl
  · rw [hnl]; rfl
  · simp [hnl]
set_option maxHeartbeats 4000000 in
theorem depths_ev (up : List Int) (hl : up.length ≤ 1048576) (hu : ∀ (j : Nat) (v : Int), up[j]? = some v → -1 ≤ v ∧ v < up.length) : evF (pgL fx) n_tree_depths [ints up] H = some (ints (deps up), H) := by
  refine evF_wp t_tree_depths rfl rfl ?_ H
  have hnl : (up.map (D.int .i64)).length = up.length := List.length_map ..
  refine And.intro ⟨by omega, by unfold roomy; omega⟩ ?_
  refine chk_of rfl ?_
  refine wp_loopE (α := Nat × List Int) (fun a => a.1) (fun a => [(0, ints up), (3, .arr 0 0 up.length), (4, i64 ((a.1 : Int) - 1))]) (fun a => [.box (arrI a.2)])
    (fun a => a.1 ≤ up.length ∧ a.2.length = up.length ∧ depGo up a.1 a.2 = deps up ∧ ∀ (j : Nat) (v : Int), a.2[j]? = some v → 0 ≤ v ∧ v ≤ 1048576 - a.1) ?_ (up.length, List.replicate up.length 0) ⟨by omega, by simp, rfl, fun j v hv => by
      rw [List.getElem?_replicate] at hv
      split at hv
      · cases hv; omega
      · cases hv⟩ ?_ ?_
  · rintro ⟨n, out⟩ ⟨hn, hol, hdp, hbd⟩
    simp only at hn hol hdp hbd ⊢
    cases n with
    | zero =>
      refine and_f (decide_eq_false (by omega)) ?_
      simp only [depGo] at hdp
      refine fz (arrI_allD out) ?_
      refine And.intro (by rw [List.length_map]; omega) ?_
      show _ = _
      rw [← hdp, List.drop_zero, ← hol, ← List.length_map (D.int .i64), List.take_length]; rfl
    | succ i =>
      refine and_t (decide_eq_true (by omega)) ?_
      simp only [depGo] at hdp
      have hi : i < up.length := by omega
      have e0 : ((((i + 1 : Nat) : Int)) - 1) = (i : Int) := by omega
      rw [e0]
      have hg : (up.map (D.int .i64))[i]? = some (.int .i64 (up.getD i 0)) := by rw [List.getElem?_map, List.getElem?_eq_getElem hi]; simp [hi]
      have hui := hu i (up.getD i 0) (get_getD hi 0)
      rw [getD_of hi (-1) 0] at hdp
      refine pickD (d := .int .i64 (up.getD i 0)) ⟨by omega, hg⟩ ?_
      refine And.intro rfl ?_
      by_cases hc : 0 ≤ up.getD i 0
      · refine and_t (decide_eq_true hc) ?_
        rw [if_pos hc] at hdp
        refine pickD (d := .int .i64 (up.getD i 0)) ⟨by omega, hg⟩ ?_
        refine And.intro rfl ?_
        have hk : (up.getD i 0).toNat < out.length := by omega
        have hbv := hbd _ _ (get_getD hk 0)
        refine And.intro ⟨by omega, by omega⟩ ?_
        refine nthK_of (arrI_at hk) ?_
        refine And.intro ⟨by omega, by omega⟩ ?_
        refine st_of (by simp; omega) ?_
        refine ⟨(i, out.set i (out.getD (up.getD i 0).toNat 0 + 1)), ⟨by show i ≤ _; omega, by simp [hol], hdp, fun j v hv => ?_⟩, by show i < i + 1; omega, ?_, ?_⟩
        · simp only at hv
          rw [List.getElem?_set] at hv
          split at hv
          · split at hv
            · cases hv; omega
            · cases hv
          · have := hbd _ _ hv; omega
        · rw [i64w (n := (i : Int) - 1) (by omega)]
        · show [Ob.box (putAt _ (0 + i * 1) _)] = _
          rw [Nat.zero_add, Nat.mul_one, i64w (by omega), arrI_put (by omega)]
      · refine and_f (decide_eq_false hc) ?_
        rw [if_neg hc] at hdp
        refine ⟨(i, out), ⟨by show i ≤ _; omega, hol, hdp, fun j v hv => by have := hbd _ _ hv; omega⟩, by show i < i + 1; omega, ?_, rfl⟩
        rw [i64w (n := (i : Int) - 1) (by omega)]
  · rw [hnl, i64w (by omega)]; rfl
  · simp [hnl]
theorem maxL_cons (a : Int) : ∀ (r : List Int) (i : Nat), i < r.length → maxL (a :: r.take (i + 1)) = max (maxL (a :: r.take i)) (r.getD i 0) := by
  intro r i h
  unfold maxL
  simp only
  rw [List.take_add_one, List.getElem?_eq_getElem h, List.foldl_append]
  simp [h]
theorem max_ev (a : Int) (r : List Int) (hl : r.length < 1048576) : evF (pgL fx) n_slices_Max_int_int [ints (a :: r)] H = some (i64 (maxL (a :: r)), H) := by
  refine evF_wp t_slices_Max_int_int rfl rfl ?_ H
  refine and_f (decide_eq_false (by simp only [List.length_map, List.length_cons]; omega)) ?_
  refine pickD (d := .int .i64 a) ⟨Int.le_refl _, rfl⟩ ?_
  refine And.intro rfl ?_
  refine wp_loopE (α := Nat) (fun i => r.length - i) (fun i => [(0, ints (a :: r)), (3, i64 (maxL (a :: r.take i))), (4, i64 ((i : Int) + 1))]) (fun _ => []) (fun i => i ≤ r.length) ?_ 0 (by omega) ?_ rfl
  · intro i hi
    refine And.intro (fun h => ?_) (fun h => ?_)
    · replace h := of_decide_eq_true h
      rw [List.length_map, List.length_cons] at h
      have hlt : i < r.length := by omega
      refine pickD (d := .int .i64 (r.getD i 0)) ⟨by omega, by rw [show Int.toNat ((i : Int) + 1) = i + 1 by omega, List.map_cons, List.getElem?_cons_succ, List.getElem?_map, List.getElem?_eq_getElem hlt]; simp [hlt]⟩ ?_
      refine And.intro rfl ?_
      refine ⟨i + 1, by omega, by omega, ?_, rfl⟩
      rw [maxL_cons a r i hlt, i64w (by omega)]; rfl
    · replace h := of_decide_eq_false h
      rw [List.length_map, List.length_cons] at h
      have hi' : i = r.length := by omega
      subst hi'
      rw [List.take_length]
      exact rfl
  · simp [maxL]
end
end Go.Vm.Tre
namespace Go.Vm.Tre
open Go.Vm.Tp
set_option maxRecDepth 10000
theorem kidsOk_of {t : List Nd} (h : (List.range t.length).all (nodeB t) = true) : KidsOk t := by
  intro i hi
  have := List.all_eq_true.1 h i (List.mem_range.2 hi)
  cases hb : (nd t i).kids.all (kidOk i) with
  | true => rfl
  | false => rw [nodeB_kids hb] at this; cases this
theorem cons_of_len {up : List Int} (h : 1 ≤ up.length) : ∃ a r, up = a :: r := by
  cases up with
  | nil => simp at h
  | cons a r => exact ⟨a, r, rfl⟩
section
variable {fx : Nat → Option Obj} (H : Hp)
set_option maxHeartbeats 4000000 in
theorem check_ev (t : List Nd) (hf : Fine t) : evF (pgL fx) n_tree_Check [.d (treeD t)] H = some (i64 (errT (checkB t)), H) := by
  refine evF_wp t_tree_Check rfl rfl ?_ H
  have htl := hf.len
  have hnl : (t.map Nd.D).length = t.length := List.length_map ..
  have bad : checkB t = false → (i64 3 : V) = i64 (errT (checkB t)) := fun h => by rw [h]; rfl
  by_cases c1 : (t.length : Int) < 1
  · refine gd_t (decide_eq_true (by rw [hnl]; exact c1)) ?_
    repeat' (first | refine run ⟨?_⟩ | fail)
    exact bad (by unfold checkB; rw [decide_eq_false (by omega : ¬ 1 ≤ t.length)]; rfl)
  refine gd_f (decide_eq_false (by rw [hnl]; exact c1)) ?_
  by_cases c2 : 20000 < (t.length : Int)
  · refine gd_t (decide_eq_true (by rw [hnl]; exact c2)) ?_
    repeat' (first | refine run ⟨?_⟩ | fail)
    exact bad (by unfold checkB; rw [decide_eq_false (by omega : ¬ t.length ≤ 20000), Bool.and_false]; rfl)
  refine gd_f (decide_eq_false (by rw [hnl]; exact c2)) ?_
  have hw : IntKind.i64.wrap (((t.map Nd.D).length : Int) - 1) = ((t.length - 1 : Nat) : Int) := by rw [hnl, i64w (by omega)]; omega
  refine pickD (d := (nd t (t.length - 1)).D) (by rw [hw]; exact ndD_at (k := ((t.length - 1 : Nat) : Int)) (by omega) (by omega)) ?_
  refine And.intro rfl ?_
  have hcb : checkB t = (decide ((nd t (t.length - 1)).k = 1) && (List.range t.length).all (nodeB t) && upOk t) := by
    unfold checkB
    rw [decide_eq_true (by omega : 1 ≤ t.length), decide_eq_true (by omega : t.length ≤ 20000)]; rfl
  rw [hcb] at bad ⊢
  by_cases c3 : (nd t (t.length - 1)).k = 1
  · refine and_f (by rw [c3]; rfl) ?_
    rw [decide_eq_true c3, Bool.true_and] at bad ⊢
    refine wp_loopE (α := Nat) (fun i => t.length - i) (fun i => [(1, .ptr 0 0), (28, i64 t.length), (29, i64 i)]) (fun _ => [.box [.d (.sl (t.map Nd.D))]]) (fun i => i ≤ t.length ∧ ∀ j, j < i → nodeB t j = true) ?_ 0 ⟨by omega, by omega⟩ ?_ rfl
    · rintro i ⟨hi, hall⟩
      refine And.intro (fun h => ?_) (fun h => ?_)
      · replace h := of_decide_eq_true h
        have hlt : i < t.length := by omega
        refine ca (tnode_ev _ t hf i hlt) ?_
        cases hb : nodeB t i with
        | false =>
          refine and_t rfl ?_
          refine bad ?_
          cases hc : (List.range t.length).all (nodeB t) with
          | false => rfl
          | true => have := List.all_eq_true.1 hc i (List.mem_range.2 hlt); rw [hb] at this; cases this
        | true =>
          refine and_f rfl ?_
          refine ⟨i + 1, ⟨by omega, fun j hj => ?_⟩, by omega, ?_, rfl⟩
          · by_cases hji : j = i
            · rw [hji]; exact hb
            · exact hall j (by omega)
          · rw [i64w (by omega)]; rfl
      · replace h := of_decide_eq_false h
        have hi' : i = t.length := by omega
        subst hi'
        have hnodes : (List.range t.length).all (nodeB t) = true := List.all_eq_true.2 fun j hj => hall j (List.mem_range.1 hj)
        rw [hnodes, Bool.true_and] at bad ⊢
        refine ca (parents_ev _ t hf (kidsOk_of hnodes)) ?_
        cases hu : ups t with
        | none =>
          repeat' (first | refine run ⟨?_⟩ | fail)
          exact bad (by unfold upOk; rw [hu])
        | some up =>
          have hupo : upOk t = ((decide (up = []) || !up.dropLast.contains (-1)) && decide (maxL (deps up) ≤ 400)) := by unfold upOk; rw [hu]
          rw [hupo] at bad ⊢
          obtain ⟨u1, u2⟩ := ups_facts hu
          rcases Bool.eq_false_or_eq_true (decide (up = []) || !up.dropLast.contains (-1)) with hc | hc
          rotate_left
          · rw [hc] at bad ⊢
            refine gd_t (by rw [hc]; rfl) ?_
            refine and_t rfl ?_
            exact bad rfl
          · rw [hc] at bad ⊢
            refine gd_f (by rw [hc]; rfl) ?_
            refine ca (depths_ev _ up (by omega) (by rw [u1]; exact u2)) ?_
            have hdl : (deps up).length = up.length := by unfold deps; rw [depGo_len, List.length_replicate]
            obtain ⟨a, r, hd⟩ := cons_of_len (up := deps up) (by omega)
            rw [hd]
            have hrl : r.length < 1048576 := by have := congrArg List.length hd; simp at this; omega
            refine ca (max_ev _ a r hrl) ?_
            rw [← hd]
            by_cases hm : maxL (deps up) ≤ 400
            · refine and_f (decide_eq_false (by omega)) ?_
              show _ = _
              rw [decide_eq_true hm]; rfl
            · refine and_t (decide_eq_true (by omega)) ?_
              exact bad (by rw [decide_eq_false hm]; rfl)
    · rw [hnl]; rfl
  · refine and_t (by simpa using c3) ?_
    exact bad (by rw [decide_eq_false c3]; rfl)
end
end Go.Vm.Tre
namespace Go.Vm.Tre
open Go.Vm.Tp
set_option maxRecDepth 10000
def LIM : Nat := 1099511627776
abbrev PH (t : List Nd) (l : Toks) : Hp := [.row 1 (l.map D.str), .box [.d (.sl (t.map Nd.D)), .row 0 l.length]]
theorem flat_mono (N : Int → Toks) (l : List Int) (j : Nat) : ((l.take j).flatMap N).length ≤ (l.flatMap N).length := by
  conv => rhs; rw [← List.take_append_drop j l]
  rw [List.flatMap_append, List.length_append]; omega
section
variable {fx : Nat → Option Obj} {t : List Nd}
theorem put_ev (l ts : Toks) (hl : l.length + ts.length ≤ LIM) (X : Hp) : evF (pgL fx) n_tree_printer_put [.ptr 1 0, .d (.sl (ts.map D.str))] (PH t l ++ X) = some (.tup [], PH t (l ++ ts) ++ X) := by
  refine evF_ext (mv fx) (h := PH t l) (h' := PH t (l ++ ts)) ?_ rfl rfl rfl rfl rfl
  refine evF_wpOn t_tree_printer_put rfl rfl rfl ?_
  unfold LIM at hl
  refine And.intro ⟨by rw [List.all_map, List.all_eq_true]; intro x _; rfl, by decide⟩ ?_
  refine And.intro ⟨rfl, by rw [List.length_map], by unfold roomy; rw [List.length_map]; omega⟩ ?_
  refine ⟨rfl, ?_⟩
  show [Ob.row 1 (l.map D.str ++ ts.map D.str), Ob.box [.d (.sl (t.map Nd.D)), .row 0 (l.length + (ts.map D.str).length)]] = _
  rw [← List.map_append, List.length_map, ← List.length_append]
theorem put1 (l : Toks) (a : List UInt8) (X : Hp) (hl : l.length + 1 ≤ LIM) : evF (pgL fx) n_tree_printer_put [.ptr 1 0, .d (.sl [.str a])] (PH t l ++ X) = some (.tup [], PH t (l ++ [a]) ++ X) := put_ev l [a] hl X
theorem put2 (l : Toks) (a b : List UInt8) (X : Hp) (hl : l.length + 2 ≤ LIM) : evF (pgL fx) n_tree_printer_put [.ptr 1 0, .d (.sl [.str a, .str b])] (PH t l ++ X) = some (.tup [], PH t (l ++ [a, b]) ++ X) := put_ev l [a, b] hl X
theorem put3 (l : Toks) (a b c : List UInt8) (X : Hp) (hl : l.length + 3 ≤ LIM) : evF (pgL fx) n_tree_printer_put [.ptr 1 0, .d (.sl [.str a, .str b, .str c])] (PH t l ++ X) = some (.tup [], PH t (l ++ [a, b, c]) ++ X) := put_ev l [a, b, c] hl X
def NodOk (fx : Nat → Option Obj) (t : List Nd) (m : Int) (N : Int → Toks) : Prop := ∀ k : Int, 0 ≤ k → k < m → ∀ (l : Toks) (X : Hp), l.length + (N k).length ≤ LIM → evF (pgL fx) n_tree_printer_node [.ptr 1 0, i64 k] (PH t l ++ X) = some (.tup [], PH t (l ++ N k) ++ X)
theorem getK {l : List Int} {j : Nat} (h : j < l.length) : (l.map (D.int .i64))[j]? = some (.int .i64 (l.getD j 0)) := by rw [List.getElem?_map, get_getD h 0]; rfl
variable {m : Int} {N : Int → Toks} (hN : NodOk fx t m N)
include hN
theorem list_ev (ks : List Int) (hk : ∀ k ∈ ks, 0 ≤ k ∧ k < m) (hkl : ks.length ≤ 1048576) (l : Toks) (X : Hp) (hl : l.length + (lstT N ks).length ≤ LIM) : evF (pgL fx) n_tree_printer_list [.ptr 1 0, ints ks] (PH t l ++ X) = some (.tup [], PH t (l ++ lstT N ks) ++ X) := by
  refine evF_ext (mv fx) (h := PH t l) (h' := PH t (l ++ lstT N ks)) ?_ rfl rfl rfl rfl rfl
  refine evF_wpOn t_tree_printer_list rfl rfl rfl ?_
  have mono : ∀ j, j ≤ ks.length → (lstT N (ks.take j)).length ≤ (lstT N ks).length := by
    intro j
    induction j using Nat.strongRecOn with
    | _ j ih => 
      intro hj
      have : ∀ d, j + d = ks.length → (lstT N (ks.take j)).length ≤ (lstT N ks).length := by
        intro d
        clear ih
        induction d generalizing j with
        | zero => intro e; rw [show j = ks.length by omega, List.take_length]; exact Nat.le_refl _
        | succ d ih =>
          intro e
          have h1 := ih (j + 1) (by omega) (by omega)
          rw [lstT_take N ks j (by omega)] at h1
          simp only [List.length_append] at h1; omega
      exact this (ks.length - j) (by omega)
  refine wp_loopE (α := Nat) (fun j => ks.length - j) (fun j => [(0, .ptr 1 0), (6, ints ks), (7, i64 ks.length), (8, i64 j)]) (fun j => PH t (l ++ lstT N (ks.take j))) (fun j => j ≤ ks.length) ?_ 0 (by omega) ?_ ?_
  · intro j hj
    refine And.intro (fun h => ?_) (fun h => ?_)
    · replace h := of_decide_eq_true h
      have hlt : j < ks.length := by omega
      have hkj := hk _ (List.getElem_mem hlt)
      have e : ks.getD j 0 = ks[j] := by simp [hlt]
      have hm := mono (j + 1) (by omega)
      have ht := lstT_take N ks j hlt
      rw [ht] at hm
      simp only [List.length_append] at hm
      refine pickD (d := .int .i64 (ks.getD j 0)) ⟨by omega, getK hlt⟩ ?_
      refine And.intro rfl ?_
      by_cases h0 : (j : Int) > 0
      · refine and_t (decide_eq_true h0) ?_
        rw [if_neg (by omega : ¬ j = 0)] at hm ht
        simp only [List.length_cons, List.length_nil] at hm
        refine ca (put1 (l ++ lstT N (ks.take j)) _ [] (by rw [List.length_append]; omega)) ?_
        refine ca (hN (ks.getD j 0) (by rw [e]; exact hkj.1) (by rw [e]; exact hkj.2) (l ++ lstT N (ks.take j) ++ [[44]]) [] (by simp only [List.length_append, List.length_cons, List.length_nil]; omega)) ?_
        refine ⟨j + 1, by omega, by omega, ?_, ?_⟩
        · rw [i64w (by omega)]; rfl
        · show PH t _ = PH t _
          rw [ht]; simp only [List.append_assoc]
      · refine and_f (decide_eq_false h0) ?_
        rw [if_pos (by omega : j = 0)] at hm ht
        simp only [List.length_nil] at hm
        refine ca (hN (ks.getD j 0) (by rw [e]; exact hkj.1) (by rw [e]; exact hkj.2) (l ++ lstT N (ks.take j)) [] (by simp only [List.length_append]; omega)) ?_
        refine ⟨j + 1, by omega, by omega, ?_, ?_⟩
        · rw [i64w (by omega)]; rfl
        · show PH t _ = PH t _
          rw [ht]; simp only [List.append_assoc, List.append_nil]
    · replace h := of_decide_eq_false h
      have hj' : j = ks.length := by omega
      subst hj'
      rw [List.take_length]
      exact ⟨rfl, rfl⟩
  · rw [List.length_map]; rfl
  · show PH t _ = PH t _
    simp [lstT]
theorem perhaps_ev (ks : List Int) (hk : ∀ k ∈ ks, 0 ≤ k ∧ k < m) (l : Toks) (X : Hp) (hl : l.length + (perT N ks).length ≤ LIM) : evF (pgL fx) n_tree_printer_perhaps [.ptr 1 0, ints ks] (PH t l ++ X) = some (.tup [], PH t (l ++ perT N ks) ++ X) := by
  refine evF_ext (mv fx) (h := PH t l) (h' := PH t (l ++ perT N ks)) ?_ rfl rfl rfl rfl rfl
  refine evF_wpOn t_tree_printer_perhaps rfl rfl rfl ?_
  cases ks with
  | nil =>
    refine and_f rfl ?_
    refine ⟨rfl, ?_⟩
    show PH t _ = PH t _
    simp [perT]
  | cons k r =>
    have hk0 := hk k (by simp)
    simp only [perT, List.length_append, List.length_cons, List.length_nil] at hl
    refine and_t (decide_eq_true (by simp only [List.length_map, List.length_cons]; omega)) ?_
    refine ca (put1 l _ [] (by omega)) ?_
    refine pickD (d := .int .i64 k) ⟨Int.le_refl _, rfl⟩ ?_
    refine And.intro rfl ?_
    refine ca (hN k hk0.1 hk0.2 (l ++ [[40]]) [] (by simp only [List.length_append, List.length_cons, List.length_nil]; omega)) ?_
    refine ca (put1 (l ++ [[40]] ++ N k) _ [] (by simp only [List.length_append, List.length_cons, List.length_nil]; omega)) ?_
    refine ⟨rfl, ?_⟩
    show PH t _ = PH t _
    simp only [perT, List.append_assoc]
theorem operand_ev (k : Int) (get : Bool) (hk : 0 ≤ k ∧ k < m) (hkt : k < t.length) (l : Toks) (X : Hp) (hl : l.length + (opdT t N k get).length ≤ LIM) : evF (pgL fx) n_tree_printer_operand [.ptr 1 0, i64 k, boo get] (PH t l ++ X) = some (.tup [], PH t (l ++ opdT t N k get) ++ X) := by
  refine evF_ext (mv fx) (h := PH t l) (h' := PH t (l ++ opdT t N k get)) ?_ rfl rfl rfl rfl rfl
  refine evF_wpOn t_tree_printer_operand rfl rfl rfl ?_
  obtain ⟨⟨q, xt, xv, xk, xf, xe⟩, hx⟩ : ∃ x, x = nd t k.toNat := ⟨_, rfl⟩
  refine pickD (d := Nd.D ⟨q, xt, xv, xk, xf, xe⟩) (by rw [hx]; exact ndD_at hk.1 hkt) ?_
  refine And.intro rfl ?_
  have hq : kindAt t k = q := by show (nd t k.toNat).k = q; rw [← hx]
  have ey : ∀ g, simK q g = true → opdT t N k g = N k := fun g h => by unfold opdT; rw [hq, if_pos h]
  have en : ∀ g, simK q g = false → opdT t N k g = [[40]] ++ N k ++ [[41]] := fun g h => by unfold opdT; rw [hq, if_neg (by rw [h]; simp)]
  have ys : simK q get = true → l.length + (N k).length ≤ LIM := fun h => by rw [ey get h] at hl; exact hl
  have no : simK q get = false → l.length + (N k).length + 2 ≤ LIM := fun h => by
    rw [en get h] at hl
    simp only [List.length_append, List.length_cons, List.length_nil] at hl; omega
  clear hl hq hx
  by_cases h1 : 30 ≤ q
  · skip
    by_cases h2 : q ≤ 34
    · skip
      repeat' (first | refine run ⟨?_⟩ | fail)
      try first | refine and_t (decide_eq_true h1) ?_ | refine gt_t (decide_eq_true h1) ?_ | refine gd_t (decide_eq_true h1) ?_
      repeat' (first | refine run ⟨?_⟩ | fail)
      try first | refine and_t (decide_eq_true h2) ?_ | refine gt_t (decide_eq_true h2) ?_ | refine gd_t (decide_eq_true h2) ?_
      repeat' (first | refine run ⟨?_⟩ | fail)
      have hs : simK q get = true := by simp [simK, *]
      refine ca (hN k hk.1 hk.2 l _ (ys hs)) ?_
      exact ⟨rfl, by rw [ey _ (by simp [simK, *])]; rfl⟩
    · skip
      by_cases h3 : q = 37
      · skip
        repeat' (first | refine run ⟨?_⟩ | fail)
        try first | refine and_t (decide_eq_true h1) ?_ | refine gt_t (decide_eq_true h1) ?_ | refine gd_t (decide_eq_true h1) ?_
        repeat' (first | refine run ⟨?_⟩ | fail)
        try first | refine and_f (decide_eq_false h2) ?_ | refine gt_f (decide_eq_false h2) ?_ | refine gd_f (decide_eq_false h2) ?_
        repeat' (first | refine run ⟨?_⟩ | fail)
        try first | refine and_t (decide_eq_true h3) ?_ | refine gt_t (decide_eq_true h3) ?_ | refine gd_t (decide_eq_true h3) ?_
        repeat' (first | refine run ⟨?_⟩ | fail)
        have hs : simK q get = true := by simp [simK, *]
        refine ca (hN k hk.1 hk.2 l _ (ys hs)) ?_
        exact ⟨rfl, by rw [ey _ (by simp [simK, *])]; rfl⟩
      · skip
        by_cases h4 : q = 44
        · skip
          repeat' (first | refine run ⟨?_⟩ | fail)
          try first | refine and_t (decide_eq_true h1) ?_ | refine gt_t (decide_eq_true h1) ?_ | refine gd_t (decide_eq_true h1) ?_
          repeat' (first | refine run ⟨?_⟩ | fail)
          try first | refine and_f (decide_eq_false h2) ?_ | refine gt_f (decide_eq_false h2) ?_ | refine gd_f (decide_eq_false h2) ?_
          repeat' (first | refine run ⟨?_⟩ | fail)
          try first | refine and_f (decide_eq_false h3) ?_ | refine gt_f (decide_eq_false h3) ?_ | refine gd_f (decide_eq_false h3) ?_
          repeat' (first | refine run ⟨?_⟩ | fail)
          try first | refine and_t (decide_eq_true h4) ?_ | refine gt_t (decide_eq_true h4) ?_ | refine gd_t (decide_eq_true h4) ?_
          repeat' (first | refine run ⟨?_⟩ | fail)
          have hs : simK q get = true := by simp [simK, *]
          refine ca (hN k hk.1 hk.2 l _ (ys hs)) ?_
          exact ⟨rfl, by rw [ey _ (by simp [simK, *])]; rfl⟩
        · skip
          cases h5 : get with
          | true =>
            by_cases h6 : q = 41
            · skip
              repeat' (first | refine run ⟨?_⟩ | fail)
              try first | refine and_t (decide_eq_true h1) ?_ | refine gt_t (decide_eq_true h1) ?_ | refine gd_t (decide_eq_true h1) ?_
              repeat' (first | refine run ⟨?_⟩ | fail)
              try first | refine and_f (decide_eq_false h2) ?_ | refine gt_f (decide_eq_false h2) ?_ | refine gd_f (decide_eq_false h2) ?_
              repeat' (first | refine run ⟨?_⟩ | fail)
              try first | refine and_f (decide_eq_false h3) ?_ | refine gt_f (decide_eq_false h3) ?_ | refine gd_f (decide_eq_false h3) ?_
              repeat' (first | refine run ⟨?_⟩ | fail)
              try first | refine and_f (decide_eq_false h4) ?_ | refine gt_f (decide_eq_false h4) ?_ | refine gd_f (decide_eq_false h4) ?_
              repeat' (first | refine run ⟨?_⟩ | fail)
              repeat' (first | refine run ⟨?_⟩ | fail)
              try first | refine and_t (decide_eq_true h6) ?_ | refine gt_t (decide_eq_true h6) ?_ | refine gd_t (decide_eq_true h6) ?_
              repeat' (first | refine run ⟨?_⟩ | fail)
              have hs : simK q get = true := by simp [simK, *]
              refine ca (hN k hk.1 hk.2 l _ (ys hs)) ?_
              exact ⟨rfl, by rw [ey _ (by simp [simK, *])]; rfl⟩
            · skip
              repeat' (first | refine run ⟨?_⟩ | fail)
              try first | refine and_t (decide_eq_true h1) ?_ | refine gt_t (decide_eq_true h1) ?_ | refine gd_t (decide_eq_true h1) ?_
              repeat' (first | refine run ⟨?_⟩ | fail)
              try first | refine and_f (decide_eq_false h2) ?_ | refine gt_f (decide_eq_false h2) ?_ | refine gd_f (decide_eq_false h2) ?_
              repeat' (first | refine run ⟨?_⟩ | fail)
              try first | refine and_f (decide_eq_false h3) ?_ | refine gt_f (decide_eq_false h3) ?_ | refine gd_f (decide_eq_false h3) ?_
              repeat' (first | refine run ⟨?_⟩ | fail)
              try first | refine and_f (decide_eq_false h4) ?_ | refine gt_f (decide_eq_false h4) ?_ | refine gd_f (decide_eq_false h4) ?_
              repeat' (first | refine run ⟨?_⟩ | fail)
              repeat' (first | refine run ⟨?_⟩ | fail)
              try first | refine and_f (decide_eq_false h6) ?_ | refine gt_f (decide_eq_false h6) ?_ | refine gd_f (decide_eq_false h6) ?_
              repeat' (first | refine run ⟨?_⟩ | fail)
              have hs : simK q get = false := by simp [simK, *]
              have hl := no hs
              refine ca (put1 l _ _ (by omega)) ?_
              refine ca (hN k hk.1 hk.2 (l ++ [[40]]) _ (by simp only [List.length_append, List.length_cons, List.length_nil]; omega)) ?_
              refine ca (put1 (l ++ [[40]] ++ N k) _ [] (by simp only [List.length_append, List.length_cons, List.length_nil]; omega)) ?_
              refine ⟨rfl, ?_⟩
              show PH t _ = PH t _
              rw [en _ (by simp [simK, *])]; simp only [List.append_assoc]
          | false =>
            repeat' (first | refine run ⟨?_⟩ | fail)
            try first | refine and_t (decide_eq_true h1) ?_ | refine gt_t (decide_eq_true h1) ?_ | refine gd_t (decide_eq_true h1) ?_
            repeat' (first | refine run ⟨?_⟩ | fail)
            try first | refine and_f (decide_eq_false h2) ?_ | refine gt_f (decide_eq_false h2) ?_ | refine gd_f (decide_eq_false h2) ?_
            repeat' (first | refine run ⟨?_⟩ | fail)
            try first | refine and_f (decide_eq_false h3) ?_ | refine gt_f (decide_eq_false h3) ?_ | refine gd_f (decide_eq_false h3) ?_
            repeat' (first | refine run ⟨?_⟩ | fail)
            try first | refine and_f (decide_eq_false h4) ?_ | refine gt_f (decide_eq_false h4) ?_ | refine gd_f (decide_eq_false h4) ?_
            repeat' (first | refine run ⟨?_⟩ | fail)
            repeat' (first | refine run ⟨?_⟩ | fail)
            have hs : simK q get = false := by simp [simK, *]
            have hl := no hs
            refine ca (put1 l _ _ (by omega)) ?_
            refine ca (hN k hk.1 hk.2 (l ++ [[40]]) _ (by simp only [List.length_append, List.length_cons, List.length_nil]; omega)) ?_
            refine ca (put1 (l ++ [[40]] ++ N k) _ [] (by simp only [List.length_append, List.length_cons, List.length_nil]; omega)) ?_
            refine ⟨rfl, ?_⟩
            show PH t _ = PH t _
            rw [en _ (by simp [simK, *])]; simp only [List.append_assoc]
  · skip
    by_cases h7 : q = 37
    · skip
      repeat' (first | refine run ⟨?_⟩ | fail)
      try first | refine and_f (decide_eq_false h1) ?_ | refine gt_f (decide_eq_false h1) ?_ | refine gd_f (decide_eq_false h1) ?_
      repeat' (first | refine run ⟨?_⟩ | fail)
      try first | refine and_t (decide_eq_true h7) ?_ | refine gt_t (decide_eq_true h7) ?_ | refine gd_t (decide_eq_true h7) ?_
      repeat' (first | refine run ⟨?_⟩ | fail)
      have hs : simK q get = true := by simp [simK, *]
      refine ca (hN k hk.1 hk.2 l _ (ys hs)) ?_
      exact ⟨rfl, by rw [ey _ (by simp [simK, *])]; rfl⟩
    · skip
      by_cases h8 : q = 44
      · skip
        repeat' (first | refine run ⟨?_⟩ | fail)
        try first | refine and_f (decide_eq_false h1) ?_ | refine gt_f (decide_eq_false h1) ?_ | refine gd_f (decide_eq_false h1) ?_
        repeat' (first | refine run ⟨?_⟩ | fail)
        try first | refine and_f (decide_eq_false h7) ?_ | refine gt_f (decide_eq_false h7) ?_ | refine gd_f (decide_eq_false h7) ?_
        repeat' (first | refine run ⟨?_⟩ | fail)
        try first | refine and_t (decide_eq_true h8) ?_ | refine gt_t (decide_eq_true h8) ?_ | refine gd_t (decide_eq_true h8) ?_
        repeat' (first | refine run ⟨?_⟩ | fail)
        have hs : simK q get = true := by simp [simK, *]
        refine ca (hN k hk.1 hk.2 l _ (ys hs)) ?_
        exact ⟨rfl, by rw [ey _ (by simp [simK, *])]; rfl⟩
      · skip
        cases h9 : get with
        | true =>
          by_cases h10 : q = 41
          · skip
            repeat' (first | refine run ⟨?_⟩ | fail)
            try first | refine and_f (decide_eq_false h1) ?_ | refine gt_f (decide_eq_false h1) ?_ | refine gd_f (decide_eq_false h1) ?_
            repeat' (first | refine run ⟨?_⟩ | fail)
            try first | refine and_f (decide_eq_false h7) ?_ | refine gt_f (decide_eq_false h7) ?_ | refine gd_f (decide_eq_false h7) ?_
            repeat' (first | refine run ⟨?_⟩ | fail)
            try first | refine and_f (decide_eq_false h8) ?_ | refine gt_f (decide_eq_false h8) ?_ | refine gd_f (decide_eq_false h8) ?_
            repeat' (first | refine run ⟨?_⟩ | fail)
            repeat' (first | refine run ⟨?_⟩ | fail)
            try first | refine and_t (decide_eq_true h10) ?_ | refine gt_t (decide_eq_true h10) ?_ | refine gd_t (decide_eq_true h10) ?_
            repeat' (first | refine run ⟨?_⟩ | fail)
            have hs : simK q get = true := by simp [simK, *]
            refine ca (hN k hk.1 hk.2 l _ (ys hs)) ?_
            exact ⟨rfl, by rw [ey _ (by simp [simK, *])]; rfl⟩
          · skip
            repeat' (first | refine run ⟨?_⟩ | fail)
            try first | refine and_f (decide_eq_false h1) ?_ | refine gt_f (decide_eq_false h1) ?_ | refine gd_f (decide_eq_false h1) ?_
            repeat' (first | refine run ⟨?_⟩ | fail)
            try first | refine and_f (decide_eq_false h7) ?_ | refine gt_f (decide_eq_false h7) ?_ | refine gd_f (decide_eq_false h7) ?_
            repeat' (first | refine run ⟨?_⟩ | fail)
            try first | refine and_f (decide_eq_false h8) ?_ | refine gt_f (decide_eq_false h8) ?_ | refine gd_f (decide_eq_false h8) ?_
            repeat' (first | refine run ⟨?_⟩ | fail)
            repeat' (first | refine run ⟨?_⟩ | fail)
            try first | refine and_f (decide_eq_false h10) ?_ | refine gt_f (decide_eq_false h10) ?_ | refine gd_f (decide_eq_false h10) ?_
            repeat' (first | refine run ⟨?_⟩ | fail)
            have hs : simK q get = false := by simp [simK, *]
            have hl := no hs
            refine ca (put1 l _ _ (by omega)) ?_
            refine ca (hN k hk.1 hk.2 (l ++ [[40]]) _ (by simp only [List.length_append, List.length_cons, List.length_nil]; omega)) ?_
            refine ca (put1 (l ++ [[40]] ++ N k) _ [] (by simp only [List.length_append, List.length_cons, List.length_nil]; omega)) ?_
            refine ⟨rfl, ?_⟩
            show PH t _ = PH t _
            rw [en _ (by simp [simK, *])]; simp only [List.append_assoc]
        | false =>
          repeat' (first | refine run ⟨?_⟩ | fail)
          try first | refine and_f (decide_eq_false h1) ?_ | refine gt_f (decide_eq_false h1) ?_ | refine gd_f (decide_eq_false h1) ?_
          repeat' (first | refine run ⟨?_⟩ | fail)
          try first | refine and_f (decide_eq_false h7) ?_ | refine gt_f (decide_eq_false h7) ?_ | refine gd_f (decide_eq_false h7) ?_
          repeat' (first | refine run ⟨?_⟩ | fail)
          try first | refine and_f (decide_eq_false h8) ?_ | refine gt_f (decide_eq_false h8) ?_ | refine gd_f (decide_eq_false h8) ?_
          repeat' (first | refine run ⟨?_⟩ | fail)
          repeat' (first | refine run ⟨?_⟩ | fail)
          have hs : simK q get = false := by simp [simK, *]
          have hl := no hs
          refine ca (put1 l _ _ (by omega)) ?_
          refine ca (hN k hk.1 hk.2 (l ++ [[40]]) _ (by simp only [List.length_append, List.length_cons, List.length_nil]; omega)) ?_
          refine ca (put1 (l ++ [[40]] ++ N k) _ [] (by simp only [List.length_append, List.length_cons, List.length_nil]; omega)) ?_
          refine ⟨rfl, ?_⟩
          show PH t _ = PH t _
          rw [en _ (by simp [simK, *])]; simp only [List.append_assoc]
theorem block_ev (x : Nd) (hk : ∀ k ∈ x.kids, 0 ≤ k ∧ k < m) (hkl : x.kids.length ≤ 1048576) (l : Toks) (X : Hp) (hl : l.length + (x.kids.flatMap N).length + 2 ≤ LIM) : evF (pgL fx) n_tree_printer_block [.ptr 1 0, ndV x] (PH t l ++ X) = some (.tup [], PH t (l ++ ([[123]] ++ x.kids.flatMap N ++ [[125]])) ++ X) := by
  refine evF_ext (mv fx) (h := PH t l) (h' := PH t (l ++ ([[123]] ++ x.kids.flatMap N ++ [[125]]))) ?_ rfl rfl rfl rfl rfl
  refine evF_wpOn t_tree_printer_block rfl rfl rfl ?_
  refine ca (put1 l _ _ (by omega)) ?_
  refine wp_loopE (α := Nat) (fun j => x.kids.length - j) (fun j => [(0, .ptr 1 0), (10, ints x.kids), (11, i64 x.kids.length), (12, i64 j)]) (fun j => PH t (l ++ [[123]] ++ (x.kids.take j).flatMap N) ++ [.box [i64 x.k, str x.t, i64 x.v, ints x.kids, i64 x.f, i64 x.e]]) (fun j => j ≤ x.kids.length) ?_ 0 (by omega) ?_ ?_
  · intro j hj
    refine And.intro (fun h => ?_) (fun h => ?_)
    · replace h := of_decide_eq_true h
      have hlt : j < x.kids.length := by omega
      have hkj := hk _ (List.getElem_mem hlt)
      have e : x.kids.getD j 0 = x.kids[j] := by simp [hlt]
      have hm := flat_mono N x.kids (j + 1)
      have ht := flat_take N x.kids j hlt
      rw [ht] at hm
      simp only [List.length_append] at hm
      refine pickD (d := .int .i64 (x.kids.getD j 0)) ⟨by omega, getK hlt⟩ ?_
      refine And.intro rfl ?_
      refine ca (hN (x.kids.getD j 0) (by rw [e]; exact hkj.1) (by rw [e]; exact hkj.2) (l ++ [[123]] ++ (x.kids.take j).flatMap N) _ (by simp only [List.length_append, List.length_cons, List.length_nil]; omega)) ?_
      refine ⟨j + 1, by omega, by omega, ?_, ?_⟩
      · rw [i64w (by omega)]; rfl
      · show PH t _ ++ _ = PH t _ ++ _
        rw [ht]; simp only [List.append_assoc]
    · replace h := of_decide_eq_false h
      have hj' : j = x.kids.length := by omega
      subst hj'
      rw [List.take_length]
      refine ca (put1 (l ++ [[123]] ++ x.kids.flatMap N) _ _ (by simp only [List.length_append, List.length_cons, List.length_nil]; omega)) ?_
      refine ⟨rfl, ?_⟩
      show PH t _ = PH t _
      simp only [List.append_assoc]
  · rw [List.length_map]; rfl
  · show PH t _ ++ _ = PH t _ ++ _
    simp
end
end Go.Vm.Tre
