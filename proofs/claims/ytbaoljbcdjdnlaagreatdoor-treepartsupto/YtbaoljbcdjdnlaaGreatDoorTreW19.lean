import Derived.Test.YtbaoljbcdjdnlaaGreatDoorTreW18
import Derived.Test.YtbaoljbcdjdnlaaGreatDoorTreP13
set_option linter.unusedSimpArgs false
set_option linter.unusedVariables false
namespace Go.Vm.Tre
open Go.Vm.Tp
set_option maxRecDepth 10000
set_option linter.unusedSimpArgs false
abbrev arrB (l : List Bool) : List V := l.map fun b => boo b
theorem arrB_at {l : List Bool} {i : Nat} (h : i < l.length) : (arrB l)[0 + i * 1]? = some (boo (l.getD i false)) := by
  rw [Nat.zero_add, Nat.mul_one, List.getElem?_map, List.getElem?_eq_getElem h]; simp [h]
theorem arrB_put {l : List Bool} {i : Nat} (h : i < l.length) (b : Bool) : putAt (arrB l) i [boo b] = arrB (l.set i b) := putAt_map (fun b => boo b) h
theorem toD_nd {H : Hp} {id sz : Nat} {l : List D} {n : Nat} {k : Int} {t : List UInt8} {v f e : Int} (h : H[id]? = some (.row sz l)) (hl : l.length = n) : toD H (.agg [i64 k, str t, i64 v, .row id n, i64 f, i64 e]) = some (.agg [.int .i64 k, .str t, .int .i64 v, .sl l, .int .i64 f, .int .i64 e]) := by
  simp [toD, toDs, toD1, h, hl]
theorem toArg_row {H : Hp} {id sz : Nat} {l : List D} {n : Nat} (h : H[id]? = some (.row sz l)) (hl : l.length = n) : toArg H (.agg [.row id n]) = .d (.agg [.sl l]) := by
  simp [toArg, toD, toDs, toD1, h, hl]
section
variable {fx : Nat → Option Obj} (H : Hp)
set_option maxHeartbeats 4000000 in
theorem sub_ev (t : List Nd) (hf : Fine t) (n : Int) (hn : I64 n) : evF (pgL fx) n_tree_Sub [.d (treeD t), i64 n] H = some (.tup [.d (treeD (subA t n).1), i64 (subA t n).2], H) := by
  refine evF_wq t_tree_Sub rfl rfl ?_ H
  have htl := hf.len
  have hnl : (t.map Nd.D).length = t.length := List.length_map ..
  repeat' (first | refine run ⟨?_⟩ | refine ca (check_ev _ t hf) ?_ | fail)
  cases hc : checkB t with
  | false =>
    have e : subA t n = ([], 3) := by unfold subA; rw [hc]; rfl
    rw [e]
    repeat' (first | refine run ⟨?_⟩ | fail)
    exact rfl
  | true =>
    have e : subA t n = (if n < 0 ∨ (t.length : Int) ≤ n then ([], 9) else (subT t (upT t) n.toNat, 0)) := by unfold subA; rw [hc]; rfl
    rw [e]
    clear e
    obtain ⟨up, hT⟩ := treeOk_of hc
    have h1 := hT.lo
    have h2 := hT.hi
    have hu := hT.ups
    have hlen := hT.up.len
    have hpe := parents_ev (fx := fx) (H := [.box [.d (.sl (t.map Nd.D))], .box [.nils]]) t hf (fun i hi => List.all_eq_true.2 fun k hk => by have := (hT.nod i hi).kid k hk; unfold kidOk; simp; omega)
    rw [hu] at hpe
    rw [hT.upT]
    repeat' (first | refine run ⟨?_⟩ | fail)
    by_cases c1 : n < 0
    · rw [if_pos (.inl c1)]
      repeat' (first | refine run ⟨?_⟩ | fail)
      exact rfl
    by_cases c2 : (t.length : Int) ≤ n
    · rw [if_pos (.inr c2)]
      have c2' : (((t.map Nd.D).length : Nat) : Int) ≤ n := by rw [hnl]; exact c2
      repeat' (first | refine run ⟨?_⟩ | fail)
      exact rfl
    rw [if_neg (by omega)]
    have c2' : ¬ (((t.map Nd.D).length : Nat) : Int) ≤ n := by rw [hnl]; exact c2
    obtain ⟨m, rfl⟩ : ∃ m : Nat, n = m := ⟨n.toNat, by omega⟩
    rw [Int.toNat_natCast]
    repeat' (first | refine run ⟨?_⟩ | refine ca hpe ?_ | fail)
    have hw1 : IntKind.i64.wrap ((m : Int) + 1) = ((m + 1 : Nat) : Int) := by rw [i64w (by omega)]; rfl
    refine And.intro ⟨by rw [hw1]; omega, by rw [hw1]; unfold roomy; omega⟩ ?_
    repeat' (first | refine run ⟨?_⟩ | fail)
    refine And.intro ⟨by rw [hw1]; omega, by rw [hw1]; unfold roomy; omega⟩ ?_
    repeat' (first | refine run ⟨?_⟩ | fail)
    rw [hw1]
    show LoopK _ _ _ _ _ _ _
    refine wq_loop (α := Nat × List Bool) (fun a => a.1) (fun a => [(1, i64 m), (2, .ptr 0 0), (4, .ptr 1 0), (6, ints up), (8, .arr 2 0 (m + 1)), (9, .arr 3 0 (m + 1)), (10, i64 ((a.1 : Int) - 1))]) (fun a => [.box [.d (.sl (t.map Nd.D))], .box [.nils], .box (arrB a.2), .box (arrI (List.replicate (m + 1) 0))])
      (fun a => a.1 ≤ m + 1 ∧ a.2.length = m + 1 ∧ inGo up m a.1 a.2 = insT up m) ?_ (m + 1, List.replicate (m + 1) false) ⟨Nat.le_refl _, by simp, rfl⟩ ?_ ?_
    · rintro ⟨cnt, l⟩ ⟨hi, hol, hgo⟩
      simp only at hi hol hgo ⊢
      cases cnt with
      | zero =>
        have z : ¬ (0 : Int) ≤ ((0 : Nat) : Int) - 1 := by omega
        repeat' (first | refine run ⟨?_⟩ | fail)
        have hins : l = insT up m := hgo
        refine wq_loop (α := Nat × List Int × List Nd) (fun a => m + 1 - a.1) (fun a => [(2, .ptr 0 0), (4, .ptr 1 0), (8, .arr 2 0 (m + 1)), (9, .arr 3 0 (m + 1)), (11, .ptr 5 0), (77, i64 ((m + 1 : Nat) : Int)), (78, i64 a.1)]) (fun a => [.box [.d (.sl (t.map Nd.D))], .box [.nils], .box (arrB l), .box (arrI a.2.1), .row 6 (a.2.2.map Nd.D), .box [.row 4 a.2.2.length]])
          (fun a => a.1 ≤ m + 1 ∧ a.2.1.length = m + 1 ∧ a.2.2.length ≤ a.1 ∧ subGo t l (m + 1 - a.1) a.1 a.2.1 a.2.2 = subT t up m) ?_ (0, List.replicate (m + 1) 0, []) ⟨by omega, by simp, by simp, by rw [hins]; rfl⟩ ?_ ?_
        · rintro ⟨i, pl, out⟩ ⟨hi2, hpl, hout, hsg⟩
          simp only at hi2 hpl hout hsg ⊢
          repeat' (first | refine run ⟨?_⟩ | fail)
          refine And.intro (fun h => ?_) (fun h => ?_)
          · replace h := of_decide_eq_true h
            have hlt : i < m + 1 := by omega
            have hit : i < t.length := by omega
            repeat' (first | refine run ⟨?_⟩ | fail)
            refine And.intro ⟨by omega, by omega⟩ ?_
            refine nthK_of (arrB_at (l := l) (i := i) (by omega)) ?_
            have hm1 : m + 1 - i = (m + 1 - (i + 1)) + 1 := by omega
            rw [hm1] at hsg
            simp only [subGo] at hsg
            cases hb : l.getD i false with
            | false =>
              rw [hb, if_neg (by simp)] at hsg
              repeat' (first | refine run ⟨?_⟩ | fail)
              exact ⟨(i + 1, pl, out), ⟨by show i + 1 ≤ _; omega, hpl, by show out.length ≤ i + 1; omega, hsg⟩, by show m + 1 - (i + 1) < m + 1 - i; omega, by rw [i64w (by omega)]; rfl, rfl⟩
            | true =>
              rw [hb, if_pos rfl] at hsg
              repeat' (first | refine run ⟨?_⟩ | fail)
              refine And.intro ⟨by omega, by omega⟩ ?_
              refine st_of (by simp; omega) ?_
              repeat' (first | refine run ⟨?_⟩ | fail)
              obtain ⟨⟨xk, xt, xv, xks, xf, xe⟩, hx⟩ : ∃ x, x = nd t i := ⟨_, rfl⟩
              have hxm : (⟨xk, xt, xv, xks, xf, xe⟩ : Nd) ∈ t := by rw [hx]; exact nd_mem hit
              have hxk := hf.kid _ hxm
              have hxo := (hT.nod i hit).kid
              have hgd : t.getD i default = ⟨xk, xt, xv, xks, xf, xe⟩ := hx.symm
              rw [hgd] at hxo hsg
              simp only at hxk hxo
              obtain ⟨pl', hpl'⟩ : ∃ p, p = pl.set i (out.length : Int) := ⟨_, rfl⟩
              rw [← hpl'] at hsg
              have hplen : pl'.length = m + 1 := by rw [hpl', List.length_set, hpl]
              have hND : (t.map Nd.D)[i]? = some (Nd.D ⟨xk, xt, xv, xks, xf, xe⟩) := by rw [hx]; exact (ndD_at (k := (i : Int)) (by omega) (by omega)).2
              repeat' (first | refine run ⟨?_⟩ | refine pickD (d := Nd.D ⟨xk, xt, xv, xks, xf, xe⟩) (And.intro (Int.natCast_nonneg i) hND) ?_ | fail)
              have ep : putAt (arrI pl) (0 + i * 1) [i64 (out.length : Int)] = arrI pl' := by rw [Nat.zero_add, Nat.mul_one, arrI_put (by omega), hpl']
              refine wq_loop (α := Nat) (fun j => xks.length - j) (fun j => [(2, .ptr 0 0), (4, .ptr 1 0), (8, .arr 2 0 (m + 1)), (9, .arr 3 0 (m + 1)), (11, .ptr 5 0), (13, .ptr 7 0), (77, i64 ((m + 1 : Nat) : Int)), (78, i64 i), (103, ints xks), (104, i64 xks.length), (105, i64 j)]) (fun j => [.box [.d (.sl (t.map Nd.D))], .box [.nils], .box (arrB l), .box (arrI pl'), .row 6 (out.map Nd.D), .box [.row 4 out.length], .row 1 ((xks.take j).map fun k => D.int .i64 (pl'.getD k.toNat 0)), .box [i64 xk, str xt, i64 xv, .row 6 j, i64 xf, i64 xe]])
                (fun j => j ≤ xks.length) ?_ 0 (by omega) ?_ ?_
              · intro j hj
                repeat' (first | refine run ⟨?_⟩ | fail)
                refine And.intro (fun h => ?_) (fun h => ?_)
                · replace h := of_decide_eq_true h
                  have hjl : j < xks.length := by omega
                  have hkj := hxo _ (List.getElem_mem hjl)
                  have hkl : xks[j].toNat < pl'.length := by omega
                  repeat' (first | refine run ⟨?_⟩ | refine pickD (d := D.int .i64 xks[j]) (And.intro (Int.natCast_nonneg j) (by show (xks.map _)[j]? = _; rw [List.getElem?_map, List.getElem?_eq_getElem hjl]; rfl)) ?_ | fail)
                  refine And.intro ⟨by omega, by omega⟩ ?_
                  refine nthK_of (arrI_at hkl) ?_
                  repeat' (first | refine run ⟨?_⟩ | fail)
                  refine And.intro ⟨rfl, by decide⟩ ?_
                  refine And.intro ⟨rfl, by rw [List.length_map, List.length_take]; omega, by show roomy (j + 1) 8; unfold roomy; omega⟩ ?_
                  repeat' (first | refine run ⟨?_⟩ | fail)
                  refine ⟨j + 1, by omega, by omega, by rw [i64w (by omega)]; rfl, ?_⟩
                  have et : (xks.take (j + 1)).map (fun k => D.int .i64 (pl'.getD k.toNat 0)) = (xks.take j).map (fun k => D.int .i64 (pl'.getD k.toNat 0)) ++ [D.int .i64 (pl'.getD xks[j].toNat 0)] := by rw [List.take_add_one, List.getElem?_eq_getElem hjl, List.map_append]; rfl
                  rw [et]; rfl
                · replace h := of_decide_eq_false h
                  have hj' : j = xks.length := by omega
                  subst hj'
                  repeat' (first | refine run ⟨?_⟩ | fail)
                  refine ⟨(subK pl' ⟨xk, xt, xv, xks, xf, xe⟩).D, ?_, ?_⟩
                  · have e := toD_nd (H := [.box [.d (.sl (t.map Nd.D))], .box [.nils], .box (arrB l), .box (arrI pl'), .row 6 (out.map Nd.D), .box [.row 4 out.length], .row 1 ((xks.take xks.length).map fun k => D.int .i64 (pl'.getD k.toNat 0)), .box [i64 xk, str xt, i64 xv, .row 6 xks.length, i64 xf, i64 xe]]) (id := 6) (n := xks.length) (k := xk) (t := xt) (v := xv) (f := xf) (e := xe) rfl (by rw [List.length_map, List.take_length])
                    refine Eq.trans e ?_
                    rw [List.take_length]
                    simp [subK, Nd.D, Function.comp_def]
                  repeat' (first | refine run ⟨?_⟩ | fail)
                  refine And.intro ⟨rfl, by decide⟩ ?_
                  refine And.intro ⟨rfl, List.length_map .., by show roomy (out.length + 1) 72; unfold roomy; omega⟩ ?_
                  repeat' (first | refine run ⟨?_⟩ | fail)
                  refine ⟨(i + 1, pl', out ++ [subK pl' ⟨xk, xt, xv, xks, xf, xe⟩]), ⟨by show i + 1 ≤ _; omega, hplen, by show (out ++ [_]).length ≤ i + 1; rw [List.length_append, List.length_singleton]; omega, hsg⟩, by show m + 1 - (i + 1) < m + 1 - i; omega, by rw [i64w (by omega)]; rfl, ?_⟩
                  show [_, _, _, _, Ob.row 6 (out.map Nd.D ++ [_]), Ob.box [V.row 4 (out.length + 1)]] = [_, _, _, _, Ob.row 6 ((out ++ [_]).map Nd.D), Ob.box [V.row 4 (out ++ [_]).length]]
                  rw [List.length_append, List.map_append]; rfl
              · show [_, _, _, _, _, _, _, _, (103, ints xks), (104, i64 ((xks.map (D.int .i64)).length : Int)), (105, i64 ((0 : Nat) : Int))] = _
                rw [List.length_map]
              · show [_, _, _, Ob.box (putAt (arrI pl) (0 + i * 1) [i64 (out.length : Int)]), _, _, _, _] = _
                rw [ep]; rfl
          · replace h := of_decide_eq_false h
            have hi' : i = m + 1 := by omega
            subst hi'
            rw [Nat.sub_self] at hsg
            simp only [subGo] at hsg
            repeat' (first | refine run ⟨?_⟩ | fail)
            have ea : toArg [.box [.d (.sl (t.map Nd.D))], .box [.row 4 out.length], .box (arrB l), .box (arrI pl), .row 6 (out.map Nd.D), .box [.row 4 out.length]] (.agg [.row 4 out.length]) = .d (treeD out) := toArg_row rfl (List.length_map ..)
            refine chk_of (b := undL 0 [toArg [.box [.d (.sl (t.map Nd.D))], .box [.row 4 out.length], .box (arrB l), .box (arrI pl), .row 6 (out.map Nd.D), .box [.row 4 out.length]] (.agg [.row 4 out.length]), i64 0]) (by rw [ea]; rfl) ?_
            show V.tup [toArg [.box [.d (.sl (t.map Nd.D))], .box [.row 4 out.length], .box (arrB l), .box (arrI pl), .row 6 (out.map Nd.D), .box [.row 4 out.length]] (.agg [.row 4 out.length]), i64 0] = _
            rw [ea, hsg]
        · rfl
        · rfl
      | succ i =>
        have e0 : (((i + 1 : Nat) : Int)) - 1 = (i : Int) := by omega
        rw [e0]
        have z : (0 : Int) ≤ (i : Int) := by omega
        simp only [inGo] at hgo
        have hiu : i < up.length := by omega
        have hg : (up.map (D.int .i64))[i]? = some (.int .i64 (up.getD i (-1))) := by rw [List.getElem?_map, get_getD hiu (-1)]; rfl
        have hil : i < l.length := by omega
        have wrapi : IntKind.i64.wrap ((i : Int) - 1) = (i : Int) - 1 := by rw [i64w (by omega)]
        by_cases c : (i : Int) = m
        · have hb : inB up m i l = true := by unfold inB; rw [decide_eq_true (by omega : i = m)]; rfl
          rw [hb] at hgo
          repeat' (first | refine run ⟨?_⟩ | fail)
          refine And.intro ⟨by omega, by omega⟩ ?_
          refine st_of (by simp; omega) ?_
          repeat' (first | refine run ⟨?_⟩ | fail)
          refine ⟨(i, l.set i true), ⟨by show i ≤ _; omega, by simp [hol], hgo⟩, by show i < i + 1; omega, by rw [wrapi], ?_⟩
          show [_, _, Ob.box (putAt _ (0 + i * 1) _), _] = _
          rw [Nat.zero_add, Nat.mul_one, arrB_put hil]
        have hc0 : ¬ i = m := by omega
        by_cases d : up.getD i (-1) ≤ m
        rotate_left
        · have hb : inB up m i l = false := by unfold inB; rw [decide_eq_false hc0, decide_eq_false d]; rfl
          rw [hb] at hgo
          repeat' (first | refine run ⟨?_⟩ | refine pickD (d := D.int .i64 (up.getD i (-1))) (And.intro z hg) ?_ | fail)
          refine And.intro ⟨by omega, by omega⟩ ?_
          refine st_of (by simp; omega) ?_
          repeat' (first | refine run ⟨?_⟩ | fail)
          refine ⟨(i, l.set i false), ⟨by show i ≤ _; omega, by simp [hol], hgo⟩, by show i < i + 1; omega, by rw [wrapi], ?_⟩
          show [_, _, Ob.box (putAt _ (0 + i * 1) _), _] = _
          rw [Nat.zero_add, Nat.mul_one, arrB_put hil]
        by_cases g : 0 ≤ up.getD i (-1)
        rotate_left
        · have hb : inB up m i l = false := by unfold inB; rw [decide_eq_false hc0, decide_eq_true d, decide_eq_false g]; rfl
          rw [hb] at hgo
          repeat' (first | refine run ⟨?_⟩ | refine pickD (d := D.int .i64 (up.getD i (-1))) (And.intro z hg) ?_ | fail)
          refine And.intro ⟨by omega, by omega⟩ ?_
          refine st_of (by simp; omega) ?_
          repeat' (first | refine run ⟨?_⟩ | fail)
          refine ⟨(i, l.set i false), ⟨by show i ≤ _; omega, by simp [hol], hgo⟩, by show i < i + 1; omega, by rw [wrapi], ?_⟩
          show [_, _, Ob.box (putAt _ (0 + i * 1) _), _] = _
          rw [Nat.zero_add, Nat.mul_one, arrB_put hil]
        · have hk : (up.getD i (-1)).toNat < l.length := by omega
          have hb : inB up m i l = l.getD (up.getD i (-1)).toNat false := by unfold inB; rw [decide_eq_false hc0, decide_eq_true d, decide_eq_true g]; rfl
          rw [hb] at hgo
          repeat' (first | refine run ⟨?_⟩ | refine pickD (d := D.int .i64 (up.getD i (-1))) (And.intro z hg) ?_ | fail)
          refine And.intro ⟨by omega, by omega⟩ ?_
          refine nthK_of (arrB_at hk) ?_
          repeat' (first | refine run ⟨?_⟩ | fail)
          refine And.intro ⟨by omega, by omega⟩ ?_
          refine st_of (by simp; omega) ?_
          repeat' (first | refine run ⟨?_⟩ | fail)
          refine ⟨(i, l.set i (l.getD (up.getD i (-1)).toNat false)), ⟨by show i ≤ _; omega, by simp [hol], hgo⟩, by show i < i + 1; omega, by rw [wrapi], ?_⟩
          show [_, _, Ob.box (putAt _ (0 + i * 1) _), _] = _
          rw [Nat.zero_add, Nat.mul_one, arrB_put hil]
    · have em : (((m + 1 : Nat)) : Int) - 1 = m := by omega
      show _ = [(1, i64 m), (2, .ptr 0 0), (4, .ptr 1 0), (6, ints up), (8, .arr 2 0 (m + 1)), (9, .arr 3 0 (m + 1)), (10, i64 (((m + 1 : Nat) : Int) - 1))]
      rw [em]; rfl
    · show _ = [_, _, Ob.box ((List.replicate (m + 1) false).map fun b => boo b), Ob.box ((List.replicate (m + 1) (0 : Int)).map fun n => i64 n)]
      rw [List.map_replicate, List.map_replicate]; rfl
end
end Go.Vm.Tre
