import Derived.Test.YtbaoljbcdjdnlaaGreatDoorTreW24
import Derived.Test.YtbaoljbcdjdnlaaGreatDoorTreW9
import Derived.Test.YtbaoljbcdjdnlaaGreatDoorTreP10
/- The document's right trees: parents, depth. -/
namespace Go.Vm.Tre
open Go.Vm.Tp
set_option maxRecDepth 10000
/-- The greatest of some, and of 0. -/
def mx : List Int → Int
  | [] => 0
  | a :: r => if mx r < a then a else mx r
theorem mx_eq : ∀ (r : List Int) (a : Int), 0 ≤ a → maxL (a :: r) = max a (mx r)
  | [], a, h => by simp only [maxL, List.foldl_nil, mx]; omega
  | b :: r, a, h => by
    have e : maxL (a :: b :: r) = maxL (max a b :: r) := rfl
    rw [e, mx_eq r (max a b) (by omega)]
    simp only [mx]
    split <;> omega
theorem maxL_mx {l : List Int} (h : ∀ (j : Nat) (v : Int), l[j]? = some v → 0 ≤ v) (hl : 1 ≤ l.length) : maxL l = mx l := by
  cases l with
  | nil => simp at hl
  | cons a r =>
    rw [mx_eq r a (h 0 a rfl)]
    simp only [mx]; split <;> omega
theorem ups_last {t : List Nd} {up : List Int} (h : ups t = some up) (hk : KidsOk t) (h1 : 1 ≤ t.length) : up.getD (t.length - 1) (-1) = -1 := by
  have hl := ups_facts h
  have hkp : ∀ x ∈ t, ∀ k ∈ x.kids, 0 ≤ k := by
    intro x hx k hm
    obtain ⟨i, hi, rfl⟩ := List.getElem_of_mem hx
    have := List.all_eq_true.1 (hk i hi) k (by simpa [nd, hi] using hm)
    simp only [kidOk, Bool.and_eq_true, decide_eq_true_eq] at this
    exact this.1
  have hr := hl.2 (t.length - 1) (up.getD (t.length - 1) (-1)) (get_getD (by omega) _)
  by_cases hj : 0 ≤ up.getD (t.length - 1) (-1)
  · obtain ⟨a, b⟩ := ups_mem h hkp _ hj
    have := List.all_eq_true.1 (hk (up.getD (t.length - 1) (-1)).toNat (by omega)) _ b
    simp only [kidOk, Bool.and_eq_true, decide_eq_true_eq] at this
    omega
  · omega
/-- All but the last are above something. -/
theorem no_neg {t : List Nd} {up : List Int} (h : ups t = some up) : up.dropLast.contains (-1) = false ↔ ∀ j, j + 1 < up.length → 0 ≤ up.getD j 0 := by
  have hl := ups_facts h
  constructor
  · intro hc j hj
    have hr := hl.2 j (up.getD j 0) (get_getD (by omega) 0)
    refine Decidable.byContradiction fun hn => ?_
    have e : up.getD j 0 = -1 := by omega
    have hm : (-1 : Int) ∈ up.dropLast := by
      rw [← e, List.getD_eq_getElem?_getD, List.getElem?_eq_getElem (by omega : j < up.length), Option.getD_some]
      rw [List.dropLast_eq_take]
      exact List.mem_take_iff_getElem.2 ⟨j, by omega, rfl⟩
    rw [← List.contains_iff_mem, hc] at hm; cases hm
  · intro ha
    cases hb : up.dropLast.contains (-1) with
    | false => rfl
    | true =>
      rw [List.contains_iff_mem, List.dropLast_eq_take] at hb
      obtain ⟨j, hj, e⟩ := List.mem_take_iff_getElem.1 hb
      have := ha j (by omega)
      rw [List.getD_eq_getElem?_getD, List.getElem?_eq_getElem (by omega : j < up.length), Option.getD_some, e] at this
      omega
section
variable {fx : Nat → Option Obj} (H : Hp)
set_option maxHeartbeats 4000000 in
theorem rparents_ev (t : List Nd) (hf : Fine t) (hk : KidsOk t) : evF (pgL fx) n_ref13_parents [.d (treeD t)] H = some (match ups t with | none => .tup [.d (.sl []), boo false] | some up => if up.dropLast.contains (-1) = true then .tup [.d (.sl []), boo false] else .tup [ints up, boo true], H) := by
  refine evF_wq t_ref13_parents rfl rfl ?_ H
  have htl := hf.len
  have hnl : (t.map Nd.D).length = t.length := List.length_map ..
  have hmsl : 0 ≤ ((t.map Nd.D).length : Int) ∧ roomy ((t.map Nd.D).length : Int).toNat 8 := ⟨by omega, by unfold roomy; omega⟩
  repeat' (first | refine run ⟨?_⟩ | refine And.intro hmsl ?_ | fail)
  refine wq_loop (α := Nat) (fun i => t.length - i) (fun i => [(1, .ptr 0 0), (4, .arr 1 0 t.length), (16, i64 t.length), (17, i64 i)])
    (fun i => [TB t, .box (arrI (List.replicate i (-1) ++ List.replicate (t.length - i) 0))]) (fun i => i ≤ t.length) ?_ 0 (by omega) ?_ ?_
  · intro i hi
    by_cases h : i < t.length
    · have h' : (i : Int) < (t.length : Int) := by omega
      refine run ⟨?_⟩
      refine And.intro ⟨by omega, by omega⟩ ?_
      refine st_of (by simp; omega) ?_
      refine run ⟨?_⟩
      refine ⟨i + 1, by omega, by omega, ?_, ?_⟩
      · rw [i64w (by omega)]; rfl
      · have e : (List.replicate i (-1 : Int) ++ List.replicate (t.length - i) 0).set i (-1) = List.replicate (i + 1) (-1) ++ List.replicate (t.length - (i + 1)) 0 := by
          rw [List.set_append_right _ _ (by simp), List.length_replicate, Nat.sub_self, show t.length - i = (t.length - (i + 1)) + 1 by omega, List.replicate_succ, List.set_cons_zero, List.replicate_succ', List.append_assoc]; rfl
        have e2 := arrI_put (l := List.replicate i (-1 : Int) ++ List.replicate (t.length - i) 0) (i := i) (by simp; omega) (-1)
        rw [e] at e2
        show [_, Ob.box (putAt _ (0 + i * 1) _)] = _
        rw [Nat.zero_add, Nat.mul_one, e2]
    · have h' : ¬ (i : Int) < (t.length : Int) := by omega
      obtain rfl : i = t.length := by omega
      rw [Nat.sub_self, List.replicate_zero, List.append_nil]
      refine run ⟨?_⟩
      refine wq_loop (α := Nat × List Int) (fun a => t.length - a.1) (fun a => [(4, .arr 1 0 t.length), (25, .d (.sl (t.map Nd.D))), (26, i64 t.length), (27, i64 a.1)])
        (fun a => [TB t, .box (arrI a.2)]) (fun a => a.1 ≤ t.length ∧ a.2.length = t.length ∧ upAll a.1 (t.drop a.1) a.2 = ups t) ?_ (0, List.replicate t.length (-1)) ⟨by omega, by simp, rfl⟩ ?_ ?_
      · rintro ⟨i, out⟩ ⟨hi, hol, hup⟩
        simp only at hi hol hup ⊢
        by_cases h : i < t.length
        · have h' : (i : Int) < (t.length : Int) := by omega
          obtain ⟨x, hxe⟩ : ∃ x, x = nd t i := ⟨_, rfl⟩
          have hx : x ∈ t := by rw [hxe]; exact nd_mem h
          have hkl := hf.kid x hx
          have hko : x.kids.all (kidOk i) = true := by rw [hxe]; exact hk i h
          have hdr : t.drop i = x :: t.drop (i + 1) := by rw [hxe, List.drop_eq_getElem_cons h]; congr 1; simp [nd, h]
          rw [hdr] at hup
          simp only [upAll] at hup
          have pi : 0 ≤ (i : Int) ∧ (t.map Nd.D)[(i : Int).toNat]? = some x.D := by rw [hxe]; exact ndD_at (k := (i : Int)) (by omega) (by omega)
          repeat' (first | refine run ⟨?_⟩ | refine pickD pi ?_ | fail)
          refine wq_loop (α := Nat × List Int) (fun a => x.kids.length - a.1) (fun a => [(4, .arr 1 0 t.length), (6, i64 i), (25, .d (.sl (t.map Nd.D))), (26, i64 t.length), (27, i64 i), (33, ints x.kids), (34, i64 x.kids.length), (35, i64 a.1)])
            (fun a => [TB t, .box (arrI a.2), XB x]) (fun a => a.1 ≤ x.kids.length ∧ a.2.length = t.length ∧ upKids i (x.kids.drop a.1) a.2 = upKids i x.kids out) ?_ (0, out) ⟨by omega, hol, rfl⟩ ?_ rfl
          · rintro ⟨j, o⟩ ⟨hj, hoj, hupj⟩
            simp only at hj hoj hupj ⊢
            by_cases h2 : j < x.kids.length
            · have h2' : (j : Int) < (x.kids.length : Int) := by omega
              have hkj := List.all_eq_true.1 hko _ (List.getElem_mem h2)
              simp only [kidOk, Bool.and_eq_true, decide_eq_true_eq] at hkj
              rw [List.drop_eq_getElem_cons h2] at hupj
              simp only [upKids] at hupj
              have hkn : x.kids[j].toNat < o.length := by omega
              have pj : 0 ≤ (j : Int) ∧ (x.kids.map (D.int .i64))[(j : Int).toNat]? = some (.int .i64 x.kids[j]) := ⟨by omega, by rw [List.getElem?_map, Int.toNat_natCast, List.getElem?_eq_getElem h2]; rfl⟩
              have pb : 0 ≤ x.kids[j] ∧ x.kids[j].toNat < t.length := by omega
              by_cases hc : 0 ≤ o.getD x.kids[j].toNat 0
              · rw [if_pos hc] at hupj
                rw [← hupj] at hup
                rw [← hup]
                repeat' (first | refine run ⟨?_⟩ | refine pickD pj ?_ | refine And.intro pb ?_ | refine nthK_of (arrI_at hkn) ?_ | fail)
                exact rfl
              · rw [if_neg hc] at hupj
                repeat' (first | refine run ⟨?_⟩ | refine pickD pj ?_ | refine And.intro pb ?_ | refine nthK_of (arrI_at hkn) ?_ | fail)
                refine st_of (by simp; omega) ?_
                refine run ⟨?_⟩
                refine ⟨(j + 1, o.set x.kids[j].toNat i), ⟨by show j + 1 ≤ _; omega, by simp [hoj], hupj⟩, by show _ - (j + 1) < _ - j; omega, ?_, ?_⟩
                · rw [i64w (by omega)]; rfl
                · show [_, Ob.box (putAt _ (0 + _ * 1) _), _] = _
                  rw [Nat.zero_add, Nat.mul_one, arrI_put hkn]
            · have h2' : ¬ (j : Int) < (x.kids.length : Int) := by omega
              rw [List.drop_of_length_le (by omega)] at hupj
              simp only [upKids] at hupj
              rw [← hupj] at hup
              refine run ⟨?_⟩
              refine ⟨(i + 1, o), ⟨by show i + 1 ≤ _; omega, hoj, hup⟩, by show _ - (i + 1) < _ - i; omega, ?_, rfl⟩
              rw [i64w (by omega)]; rfl
          · show [_, _, _, _, _, _, (34, i64 ((x.kids.map (D.int .i64)).length : Int)), _] = _
            rw [List.length_map]; rfl
        · have h' : ¬ (i : Int) < (t.length : Int) := by omega
          rw [List.drop_of_length_le (by omega)] at hup
          simp only [upAll] at hup
          have hup := hup.symm
          rw [hup]
          simp only
          refine run ⟨?_⟩
          refine wq_loop (α := Nat) (fun a => t.length - a) (fun a => [(4, .arr 1 0 t.length), (10, i64 a)]) (fun _ => [TB t, .box (arrI out)]) (fun a => a ≤ t.length ∧ ∀ j, j < a → 0 ≤ out.getD j 0) ?_ 0 ⟨by omega, by omega⟩ rfl rfl
          rintro a ⟨ha, hall⟩
          have w1 : IntKind.i64.wrap ((a : Int) + 1) = ((a + 1 : Nat) : Int) := by rw [i64w (by omega)]; rfl
          by_cases h3 : a + 1 < t.length
          · have h3' : IntKind.i64.wrap ((a : Int) + 1) < (t.length : Int) := by omega
            have pb : 0 ≤ (a : Int) ∧ (a : Int).toNat < t.length := by omega
            have hao : a < out.length := by omega
            by_cases hc : out.getD a 0 < 0
            · have : out.dropLast.contains (-1) = true := by
                cases hb : out.dropLast.contains (-1) with
                | true => rfl
                | false => have := (no_neg hup).1 hb a (by omega); omega
              rw [if_pos this]
              repeat' (first | refine run ⟨?_⟩ | refine And.intro pb ?_ | refine nthK_of (arrI_at hao) ?_ | fail)
              exact rfl
            · repeat' (first | refine run ⟨?_⟩ | refine And.intro pb ?_ | refine nthK_of (arrI_at hao) ?_ | fail)
              refine ⟨a + 1, ⟨by omega, fun j hj => ?_⟩, by omega, by rw [w1], rfl⟩
              by_cases e : j = a
              · rw [e]; omega
              · exact hall j (by omega)
          · have h3' : ¬ IntKind.i64.wrap ((a : Int) + 1) < (t.length : Int) := by omega
            have hdl : (out.map (D.int .i64)).length = t.length := by rw [List.length_map, hol]
            have hds : List.take t.length (List.drop 0 (out.map (D.int .i64))) = out.map (D.int .i64) := by rw [List.drop_zero, ← hdl, List.take_length]
            have hno : out.dropLast.contains (-1) = false := (no_neg hup).2 fun j hj => hall j (by omega)
            rw [if_neg (by rw [hno]; simp)]
            repeat' (first | refine run ⟨?_⟩ | refine fz (arrI_allD out) ?_ | fail)
            refine And.intro (by omega) ?_
            show _ = _
            rw [hds]; rfl
      · show [_, _, (26, i64 ((t.map Nd.D).length : Int)), _] = _
        rw [hnl]; rfl
      · rfl
  · show [_, (4, .arr 1 0 ((t.map Nd.D).length : Int).toNat), (16, i64 (((t.map Nd.D).length : Int).toNat : Int)), _] = _
    rw [hnl]; rfl
  · show [_, Ob.box (List.replicate ((t.map Nd.D).length : Int).toNat _)] = _
    simp [hnl]
end
end Go.Vm.Tre
