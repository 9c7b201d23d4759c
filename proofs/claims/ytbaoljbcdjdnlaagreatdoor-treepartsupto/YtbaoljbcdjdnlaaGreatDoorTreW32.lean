import Derived.Test.YtbaoljbcdjdnlaaGreatDoorTreW31
import Derived.Test.YtbaoljbcdjdnlaaGreatDoorTreW19
set_option linter.unusedSimpArgs false
set_option linter.unusedVariables false
namespace Go.Vm.Tre
open Go.Vm.Tp
set_option maxRecDepth 10000
theorem markK_app : ∀ (a b : List Int) (l : List Bool), markK (a ++ b) l = markK b (markK a l)
  | [], b, l => rfl
  | k :: a, b, l => by simp only [List.cons_append, markK]; exact markK_app a b _
theorem markK_take {ks : List Int} {j : Nat} (h : j < ks.length) (l : List Bool) : markK (ks.take (j + 1)) l = (markK (ks.take j) l).set (ks.getD j 0).toNat true := by
  rw [List.take_add_one, List.getElem?_eq_getElem h, markK_app]
  simp [markK, h]
section
variable {fx : Nat → Option Obj} (H : Hp)
set_option maxHeartbeats 8000000 in
theorem rsub_ev (t : List Nd) (hf : Fine t) (n : Int) : evF (pgL fx) n_ref13_Sub [.d (treeD t), i64 n] H = some (.tup [.d (treeD (subA t n).1), i64 (subA t n).2], H) := by
  refine evF_wq t_ref13_Sub rfl rfl ?_ H
  have htl := hf.len
  have hnl : (t.map Nd.D).length = t.length := List.length_map ..
  have hr := fun H => rright_ev (fx := fx) H t hf
  unfold subA
  cases hc : checkB t with
  | false =>
    rw [hc] at hr
    repeat' (first | refine run ⟨?_⟩ | refine ca (hr _) ?_ | fail)
    exact rfl
  | true =>
  rw [hc] at hr
  rw [if_pos rfl]
  obtain ⟨up, hT⟩ := treeOk hc
  by_cases c1 : n < 0
  · rw [if_pos (.inl c1)]
    repeat' (first | refine run ⟨?_⟩ | refine ca (hr _) ?_ | fail)
    exact rfl
  by_cases c2 : (t.length : Int) ≤ n
  · have d2 : ((t.map Nd.D).length : Int) ≤ n := by omega
    rw [if_pos (.inr c2)]
    repeat' (first | refine run ⟨?_⟩ | refine ca (hr _) ?_ | fail)
    exact rfl
  have d2 : ¬ ((t.map Nd.D).length : Int) ≤ n := by omega
  rw [if_neg (by omega), hT.upT]
  obtain ⟨m, rfl⟩ : ∃ m : Nat, n = m := ⟨n.toNat, by omega⟩
  have hm : m < t.length := by omega
  rw [Int.toNat_natCast, ← subR_eq hT m hm]
  have hms1 : 0 ≤ ((t.map Nd.D).length : Int) ∧ roomy ((t.map Nd.D).length : Int).toNat 1 := ⟨by omega, by unfold roomy; omega⟩
  have hms8 : 0 ≤ ((t.map Nd.D).length : Int) ∧ roomy ((t.map Nd.D).length : Int).toNat 8 := ⟨by omega, by unfold roomy; omega⟩
  have hin : 0 ≤ (m : Int) ∧ (m : Int).toNat < ((t.map Nd.D).length : Int).toNat := by omega
  repeat' (first | refine run ⟨?_⟩ | refine ca (hr _) ?_ | refine And.intro hms1 ?_ | refine And.intro hin ?_ | fail)
  refine st_of (by simp; omega) ?_
  refine run ⟨?_⟩
  have eR : List.replicate ((t.map Nd.D).length : Int).toNat (boo false) = arrB (List.replicate t.length false) := by rw [hnl]; simp [arrB]
  refine wq_loop (α := Nat × List Bool) (fun a => a.1) (fun a => [(2, .ptr 0 0), (4, .ptr 1 0), (6, .arr 2 0 t.length), (7, i64 ((a.1 : Int) - 1))]) (fun a => [TB t, .box [.nils], .box (arrB a.2)])
    (fun a => a.1 ≤ m + 1 ∧ a.2.length = t.length ∧ insRGo t a.1 a.2 = insR t m) ?_ (m + 1, (List.replicate t.length false).set m true) ⟨Nat.le_refl _, by simp, rfl⟩ ?_ ?_
  · rintro ⟨cnt, l⟩ ⟨hcn, hl, hgo⟩
    simp only at hcn hl hgo ⊢
    cases cnt with
    | succ i =>
      have e0 : ((((i + 1 : Nat) : Int)) - 1) = (i : Int) := by omega
      rw [e0]
      have h' : (0 : Int) ≤ (i : Int) := by omega
      have hil : i < l.length := by omega
      have hit : i < t.length := by omega
      have pi : 0 ≤ (i : Int) ∧ (i : Int).toNat < t.length := by omega
      simp only [insRGo] at hgo
      cases hb : l.getD i false with
      | false =>
        rw [hb, if_neg Bool.false_ne_true] at hgo
        have hat : (arrB l)[0 + i * 1]? = some (boo false) := by rw [← hb]; exact arrB_at hil
        repeat' (first | refine run ⟨?_⟩ | refine And.intro pi ?_ | refine nthK_of hat ?_ | fail)
        exact ⟨(i, l), ⟨by show i ≤ _; omega, hl, hgo⟩, by show i < i + 1; omega, by rw [i64w (n := (i : Int) - 1) (by omega)], rfl⟩
      | true =>
        rw [hb, if_pos rfl] at hgo
        have hat : (arrB l)[0 + i * 1]? = some (boo true) := by rw [← hb]; exact arrB_at hil
        have hg := ndD_at (t := t) (k := (i : Int)) (by omega) (by omega)
        change 0 ≤ (i : Int) ∧ (t.map Nd.D)[(i : Int).toNat]? = some (nd t i).D at hg
        have hkid := (hT.nod i hit).kid
        have hkl := hf.kid _ (nd_mem hit)
        change insRGo t i (markK (nd t i).kids l) = _ at hgo
        change ∀ k ∈ (nd t i).kids, _ at hkid
        generalize nd t i = x at hg hkid hkl hgo
        have hml : (x.kids.map (D.int .i64)).length = x.kids.length := List.length_map ..
        repeat' (first | refine run ⟨?_⟩ | refine And.intro pi ?_ | refine nthK_of hat ?_ | refine pickD hg ?_ | fail)
        refine wq_loop (α := Nat) (fun j => x.kids.length - j) (fun j => [(2, .ptr 0 0), (4, .ptr 1 0), (6, .arr 2 0 t.length), (7, i64 i), (52, ints x.kids), (53, i64 x.kids.length), (54, i64 j)]) (fun j => [TB t, .box [.nils], .box (arrB (markK (x.kids.take j) l))]) (fun j => j ≤ x.kids.length) ?_ 0 (Nat.zero_le _) ?_ rfl
        · intro j hj
          by_cases h : j < x.kids.length
          · have hj' : (j : Int) < (x.kids.length : Int) := by omega
            have pj : 0 ≤ (j : Int) ∧ (x.kids.map (D.int .i64))[(j : Int).toNat]? = some (.int .i64 (x.kids.getD j 0)) := ⟨by omega, gK h⟩
            have hkj := hkid _ (List.getElem_mem h)
            have ej : x.kids.getD j 0 = x.kids[j] := by simp [h]
            rw [← ej] at hkj
            have pk1 : 0 ≤ x.kids.getD j 0 ∧ (x.kids.getD j 0).toNat < t.length := by omega
            have hlm : (markK (x.kids.take j) l).length = t.length := by rw [markK_len, hl]
            have hmt := markK_take h l
            generalize x.kids.getD j 0 = kk at pj pk1 hmt
            repeat' (first | refine run ⟨?_⟩ | refine pickD pj ?_ | refine And.intro pk1 ?_ | fail)
            refine st_of (by simp [hlm]; omega) ?_
            refine run ⟨?_⟩
            refine ⟨j + 1, by omega, by omega, by rw [i64w (by omega)]; rfl, ?_⟩
            show [_, _, Ob.box (putAt (arrB (markK (x.kids.take j) l)) (0 + kk.toNat * 1) [boo true])] = _
            rw [Nat.zero_add, Nat.mul_one, arrB_put (by omega), hmt]
          · have hj' : ¬ (j : Int) < (x.kids.length : Int) := by omega
            obtain rfl : j = x.kids.length := by omega
            rw [List.take_length]
            refine run ⟨?_⟩
            exact ⟨(i, markK x.kids l), ⟨by show i ≤ _; omega, by rw [markK_len, hl], hgo⟩, by show i < i + 1; omega, by rw [i64w (n := (i : Int) - 1) (by omega)], rfl⟩
        · show [_, _, _, _, _, (53, i64 ((x.kids.map (D.int .i64)).length : Int)), _] = _
          rw [hml]; rfl
    | zero =>
      have h' : ¬ (0 : Int) ≤ ((0 : Nat) : Int) - 1 := by omega
      have hins : l = insR t m := hgo
      clear hgo
      repeat' (first | refine run ⟨?_⟩ | refine And.intro hms8 ?_ | fail)
      refine wq_loop (α := Nat × List Int × List Nd) (fun a => t.length - a.1) (fun a => [(4, .ptr 1 0), (6, .arr 2 0 t.length), (10, .arr 3 0 t.length), (11, .ptr 5 0), (67, .d (.sl (t.map Nd.D))), (68, i64 t.length), (69, i64 a.1)]) (fun a => [TB t, .box [.nils], .box (arrB l), .box (arrI a.2.1), .row 6 (a.2.2.map Nd.D), .box [.row 4 a.2.2.length]])
        (fun a => a.1 ≤ t.length ∧ a.2.1.length = t.length ∧ a.2.2.length ≤ a.1 ∧ subGo t l (t.length - a.1) a.1 a.2.1 a.2.2 = subGo t (insR t m) t.length 0 (List.replicate t.length 0) []) ?_ (0, List.replicate t.length 0, []) ⟨by omega, by simp, by simp, by rw [hins]; rfl⟩ ?_ ?_
      · rintro ⟨i, pl, out⟩ ⟨hi, hpl, hout, hsg⟩
        simp only at hi hpl hout hsg ⊢
        by_cases h : i < t.length
        · have hh : (i : Int) < (t.length : Int) := by omega
          have pi : 0 ≤ (i : Int) ∧ (i : Int).toNat < t.length := by omega
          rw [show t.length - i = (t.length - (i + 1)) + 1 by omega] at hsg
          simp only [subGo] at hsg
          have hg := ndD_at (t := t) (k := (i : Int)) (by omega) (by omega)
          change 0 ≤ (i : Int) ∧ (t.map Nd.D)[(i : Int).toNat]? = some (nd t i).D at hg
          have hkid := (hT.nod i h).kid
          have hkl := hf.kid _ (nd_mem h)
          change ∀ k ∈ (nd t i).kids, _ at hkid
          change (if l.getD i false = true then subGo t l (t.length - (i + 1)) (i + 1) (pl.set i (out.length : Int)) (out ++ [subK (pl.set i (out.length : Int)) (nd t i)]) else _) = _ at hsg
          generalize nd t i = x at hg hkid hkl hsg
          obtain ⟨xk, xt, xv, xks, xf, xe⟩ := x
          simp only at hkid hkl
          cases hb : l.getD i false with
          | false =>
            rw [hb, if_neg Bool.false_ne_true] at hsg
            have hat : (arrB l)[0 + i * 1]? = some (boo false) := by rw [← hb]; exact arrB_at (by omega)
            repeat' (first | refine run ⟨?_⟩ | refine pickD hg ?_ | refine And.intro pi ?_ | refine nthK_of hat ?_ | fail)
            exact ⟨(i + 1, pl, out), ⟨by show i + 1 ≤ _; omega, hpl, by show out.length ≤ i + 1; omega, hsg⟩, by show t.length - (i + 1) < t.length - i; omega, by rw [i64w (by omega)]; rfl, rfl⟩
          | true =>
            rw [hb, if_pos rfl] at hsg
            have hat : (arrB l)[0 + i * 1]? = some (boo true) := by rw [← hb]; exact arrB_at (by omega)
            have hio : i < pl.length := by omega
            obtain ⟨pl', hpl'⟩ : ∃ p, p = pl.set i (out.length : Int) := ⟨_, rfl⟩
            have hput : putAt (arrI pl) (0 + i * 1) [i64 (out.length : Int)] = arrI pl' := by rw [Nat.zero_add, Nat.mul_one, arrI_put hio, hpl']
            rw [← hpl'] at hsg
            have hplen : pl'.length = t.length := by rw [hpl', List.length_set, hpl]
            have hst : ∀ {k : List V → Prop}, k (arrI pl') → forceL (putAt (arrI pl) (0 + i * 1) [i64 (out.length : Int)]) k := fun hk => by rw [forceL_eq, hput]; exact hk
            have hml : (xks.map (D.int .i64)).length = xks.length := List.length_map ..
            repeat' (first | refine run ⟨?_⟩ | refine pickD hg ?_ | refine And.intro pi ?_ | refine nthK_of hat ?_ | fail)
            refine chk_of (by simp; omega) (hst ?_)
            refine run ⟨?_⟩
            refine wq_loop (α := Nat) (fun j => xks.length - j) (fun j => [(4, .ptr 1 0), (6, .arr 2 0 t.length), (10, .arr 3 0 t.length), (11, .ptr 5 0), (13, .ptr 6 0), (14, .row 7 j), (67, .d (.sl (t.map Nd.D))), (68, i64 t.length), (69, i64 i), (86, ints xks), (87, i64 xks.length), (88, i64 j)]) (fun j => [TB t, .box [.nils], .box (arrB l), .box (arrI pl'), .row 6 (out.map Nd.D), .box [.row 4 out.length], .box [i64 xk, str xt, i64 xv, ints xks, i64 xf, i64 xe], .row 1 ((xks.take j).map fun k => D.int .i64 (pl'.getD k.toNat 0))])
              (fun j => j ≤ xks.length) ?_ 0 (by omega) ?_ rfl
            · intro j hj
              by_cases hjl : j < xks.length
              · have hj' : (j : Int) < (xks.length : Int) := by omega
                have pj : 0 ≤ (j : Int) ∧ (xks.map (D.int .i64))[(j : Int).toNat]? = some (.int .i64 (xks.getD j 0)) := ⟨by omega, gK hjl⟩
                have hkj := hkid _ (List.getElem_mem hjl)
                have ej : xks.getD j 0 = xks[j] := by simp [hjl]
                rw [← ej] at hkj
                have pk1 : 0 ≤ xks.getD j 0 ∧ (xks.getD j 0).toNat < t.length := by omega
                have hkl2 : (xks.getD j 0).toNat < pl'.length := by omega
                repeat' (first | refine run ⟨?_⟩ | refine pickD pj ?_ | refine And.intro pk1 ?_ | refine nthK_of (arrI_at hkl2) ?_ | fail)
                refine And.intro ⟨rfl, by decide⟩ ?_
                refine And.intro ⟨rfl, by rw [List.length_map, List.length_take]; omega, by show roomy (j + 1) 8; unfold roomy; omega⟩ ?_
                refine run ⟨?_⟩
                refine ⟨j + 1, by omega, by omega, by rw [i64w (by omega)]; rfl, ?_⟩
                have et : (xks.take (j + 1)).map (fun k => D.int .i64 (pl'.getD k.toNat 0)) = (xks.take j).map (fun k => D.int .i64 (pl'.getD k.toNat 0)) ++ [D.int .i64 (pl'.getD (xks.getD j 0).toNat 0)] := by rw [List.take_add_one, List.getElem?_eq_getElem hjl, List.map_append, ej]; rfl
                rw [et]
              · have hj' : ¬ (j : Int) < (xks.length : Int) := by omega
                obtain rfl : j = xks.length := by omega
                rw [List.take_length]
                refine run ⟨?_⟩
                refine ⟨(subK pl' ⟨xk, xt, xv, xks, xf, xe⟩).D, ?_, ?_⟩
                · have e := toD_nd (H := [TB t, .box [.nils], .box (arrB l), .box (arrI pl'), .row 6 (out.map Nd.D), .box [.row 4 out.length], .box [i64 xk, str xt, i64 xv, .row 7 xks.length, i64 xf, i64 xe], .row 1 (xks.map fun k => D.int .i64 (pl'.getD k.toNat 0))]) (id := 7) (n := xks.length) (k := xk) (t := xt) (v := xv) (f := xf) (e := xe) rfl (by rw [List.length_map])
                  refine Eq.trans e ?_
                  simp [subK, Nd.D, Function.comp_def]
                refine And.intro ⟨rfl, by decide⟩ ?_
                refine And.intro ⟨rfl, List.length_map .., by show roomy (out.length + 1) 72; unfold roomy; omega⟩ ?_
                refine run ⟨?_⟩
                refine ⟨(i + 1, pl', out ++ [subK pl' ⟨xk, xt, xv, xks, xf, xe⟩]), ⟨by show i + 1 ≤ _; omega, hplen, by show (out ++ [_]).length ≤ i + 1; rw [List.length_append, List.length_singleton]; omega, hsg⟩, by show t.length - (i + 1) < t.length - i; omega, by rw [i64w (by omega)]; rfl, ?_⟩
                show [_, _, _, _, Ob.row 6 (out.map Nd.D ++ [_]), Ob.box [V.row 4 (out.length + 1)]] = [_, _, _, _, Ob.row 6 ((out ++ [_]).map Nd.D), Ob.box [V.row 4 (out ++ [_]).length]]
                rw [List.length_append, List.map_append]; rfl
            · show [_, _, _, _, _, _, _, _, _, _, (87, i64 ((xks.map (D.int .i64)).length : Int)), _] = _
              rw [hml]; rfl
        · have hh : ¬ (i : Int) < (t.length : Int) := by omega
          obtain rfl : i = t.length := by omega
          rw [Nat.sub_self] at hsg
          simp only [subGo] at hsg
          rw [← hsg]
          refine run ⟨?_⟩
          have ea : toArg [TB t, .box [.row 4 out.length], .box (arrB l), .box (arrI pl), .row 6 (out.map Nd.D), .box [.row 4 out.length]] (.agg [.row 4 out.length]) = .d (treeD out) := toArg_row rfl (List.length_map ..)
          refine chk_of (b := undL 0 [toArg [TB t, .box [.row 4 out.length], .box (arrB l), .box (arrI pl), .row 6 (out.map Nd.D), .box [.row 4 out.length]] (.agg [.row 4 out.length]), i64 0]) (by rw [ea]; rfl) ?_
          show V.tup [toArg [TB t, .box [.row 4 out.length], .box (arrB l), .box (arrI pl), .row 6 (out.map Nd.D), .box [.row 4 out.length]] (.agg [.row 4 out.length]), i64 0] = _
          rw [ea]
      · show [_, _, (10, V.arr 3 0 ((t.map Nd.D).length : Int).toNat), _, _, (68, i64 ((t.map Nd.D).length : Int)), _] = _
        rw [hnl]; rfl
      · show [_, _, _, Ob.box (List.replicate ((t.map Nd.D).length : Int).toNat _), _, _] = _
        rw [hnl]; simp [arrI]
  · have e : (((m + 1 : Nat) : Int)) - 1 = (m : Int) := by omega
    show [(2, V.ptr 0 0), (4, V.ptr 1 0), (6, V.arr 2 0 ((t.map Nd.D).length : Int).toNat), (7, i64 (m : Int))] = [_, _, (6, V.arr 2 0 t.length), (7, i64 ((((m + 1 : Nat) : Int)) - 1))]
    rw [e, hnl]; rfl
  · show [_, _, Ob.box (putAt (List.replicate ((t.map Nd.D).length : Int).toNat (boo false)) (0 + m * 1) [boo true])] = _
    rw [eR, Nat.zero_add, Nat.mul_one, arrB_put (by simp; omega)]
end
end Go.Vm.Tre
