import Derived.Test.YtpgpjenfnbcclaaTypE
import Derived.Test.YtpgpjenfnbcclaaTypP9
set_option linter.unusedSimpArgs false
set_option linter.unusedVariables false
namespace Go.Vm.Typ
open Go Go.Vm Go.Proofs Go.Vm.Ip
set_option maxRecDepth 100000
noncomputable def c46 : Code := (Try.f46.body).getD .skip
theorem b46 : Try.f46.body = some c46 := by kernel_rfl
noncomputable def c46a : Code := cR (cR (cR (cR c46)))
noncomputable def c46b : Code := cR (cR (cR c46a))
noncomputable def c46c : Code := cR c46b
noncomputable def c46d : Code := cR c46c
noncomputable def m1 : Code := cL c46b
noncomputable def m2 : Code := cL c46c
noncomputable def l1 : Code := cK (cK (cR m1))
noncomputable def l2 : Code := cK (cK (cR m2))
theorem q46 : c46 = .seq (cL c46) (.seq (cL (cR c46)) (.seq (cL (cR (cR c46))) (.seq (cL (cR (cR (cR c46)))) (.seq (cL c46a) (.seq (cL (cR c46a)) (.seq (cL (cR (cR c46a))) (.seq m1 (.seq m2 c46d)))))))) := by kernel_rfl
theorem qm1 : m1 = .seq (.region (cId (cL m1)) (cOps (cL m1)) false) (.block 4 (.loop (rangeLoop 104 4 (cId (cL l1)) (cId (cR (cR l1))) (cId (cL (cK (cR (cR l1))))) (cOps (cL l1)) (cOps (cL (cK (cR (cR l1))))) (cR (cK (cR (cR l1))))))) := by kernel_rfl
theorem qm2 : m2 = .seq (.region (cId (cL m2)) (cOps (cL m2)) false) (.block 6 (.loop (rangeLoop 114 6 (cId (cL l2)) (cId (cR (cR l2))) (cId (cL (cK (cR (cR l2))))) (cOps (cL l2)) (cOps (cL (cK (cR (cR l2))))) (cR (cK (cR (cR l2))))))) := by kernel_rfl
theorem sh1 : RangeShape 134 (cOps (cL m1)) (cOps (cL l1)) (cOps (cL (cK (cR (cR l1))))) 4 101 102 103 104 105 106 10 75 :=
  ⟨by kernel_rfl, by kernel_rfl, by kernel_rfl, by kernel_rfl, by kernel_rfl, by kernel_rfl, by kernel_rfl, by kernel_rfl, by kernel_rfl, by kernel_rfl, by decide, by decide⟩
theorem sh2 : RangeShape 134 (cOps (cL m2)) (cOps (cL l2)) (cOps (cL (cK (cR (cR l2))))) 4 111 112 113 114 115 116 11 75 :=
  ⟨by kernel_rfl, by kernel_rfl, by kernel_rfl, by kernel_rfl, by kernel_rfl, by kernel_rfl, by kernel_rfl, by kernel_rfl, by kernel_rfl, by kernel_rfl, by decide, by decide⟩
theorem u75 : Try.prog.underlying 75 = some (.map 9 3) := by kernel_rfl
theorem tK0 : tr Try.prog n50 (cL c46) = some (vL B46) := by kernel_rfl
theorem tK1 : tr Try.prog n50 (cL (cR c46)) = some (vL (vR B46)) := by kernel_rfl
theorem tK2 : tr Try.prog n50 (cL (cR (cR c46))) = some (vL (vR (vR B46))) := by kernel_rfl
theorem tK3 : tr Try.prog n50 (cL (cR (cR (cR c46)))) = some (vL (vR (vR (vR B46)))) := by kernel_rfl
noncomputable def d46 : VCode := vR (vR (vR (vR B46)))
theorem tK4 : tr Try.prog A46 (cL c46a) = some (vL d46) := by kernel_rfl
theorem tK5 : tr Try.prog A46 (cL (cR c46a)) = some (vL (vR d46)) := by kernel_rfl
theorem tK6 : tr Try.prog n50 (cL (cR (cR c46a))) = some (vL (vR (vR d46))) := by kernel_rfl
noncomputable def vb1 : VCode := vR (vK (vR (vR L46_2)))
noncomputable def vb2 : VCode := vR (vK (vR (vR L46_3)))
theorem tb1 : tr Try.prog n50 (cR (cK (cR (cR l1)))) = some vb1 := by kernel_rfl
theorem tb2 : tr Try.prog n50 (cR (cK (cR (cR l2)))) = some vb2 := by kernel_rfl
open Classical in
noncomputable def primEnd (x : Its) (a : List V) (h : Hp) : Option (V × Hp) := match a with
  | [d, p, .d (.str s)] => if d = .d x.D ∧ p = .ptr 5 0 ∧ ∃ o6 o7, h = H8 x o6 o7 then some (boo (endB x s), h) else none
  | _ => none
noncomputable def F1 (x : Its) : Nat → Option VFun := fun i => if i = 72 then some (.prim (primEnd x)) else none
theorem tOk1 (fx : Nat → Option Obj) (x : Its) (hx : Fine x) (hsm : Small x) : TblOk Try.prog (pgL fx (F1 x)) := by
  refine tblOk _ _ fun f e h => ?_
  unfold F1 at h
  split at h
  · rename_i hf
    subst hf
    cases h
    intro args H r H' hh
    unfold primEnd at hh
    split at hh
    · rename_i d p s
      split at hh
      · rename_i hc
        obtain ⟨rfl, rfl, o6, o7, rfl⟩ := hc
        cases hh
        exact end_spec x hx hsm s o6 o7
      · cases hh
    · cases hh
  · cases h
theorem end_ev {fx : Nat → Option Obj} (x : Its) (s : S) (o6 o7 : Ob) : evF (pgL fx (F1 x)) 72 [.d x.D, .ptr 5 0, str s] (H8 x o6 o7) = some (boo (endB x s), H8 x o6 o7) := by
  have ht : (pgL fx (F1 x)).tbl 72 = some (.prim (primEnd x)) := rfl
  rw [evF_prim ht]
  unfold primEnd
  exact if_pos ⟨rfl, rfl, o6, o7, rfl⟩
theorem seenM_at {ns : List S} {i : Nat} {p : D × D} (h : (seenM ns)[i]? = some p) : ∃ n, ns[i]? = some n ∧ p = (.str n, .int .i64 1) := by
  unfold seenM at h
  rw [List.getElem?_map] at h
  obtain ⟨n, h1, h2⟩ := Option.map_eq_some_iff.1 h
  exact ⟨n, h1, h2.symm⟩
set_option maxHeartbeats 2000000 in
theorem range1 {fx : Nat → Option Obj} (x : Its) (hx : Fine x) (hsm : Small x) (ns : List S) (o7 : Ob) (g : Gh) (a : Act) (w : World) (b : Nat) (ok : StOk (cxL fx) 134 g ⟨[(1, .ptr 0 0), (3, .ptr 5 0), (4, .mp 6), (9, .mp 7)], H8 x (.map (seenM ns)) o7, b⟩ a w) {Q : Exit → Act → World → Prop}
    (hn : ∀ g' a' w', (∀ s ∈ ns, endB x s = false) → StOk (cxL fx) 134 g' ⟨[(1, .ptr 0 0), (3, .ptr 5 0), (4, .mp 6), (9, .mp 7)], H8 x (.map (seenM ns)) o7, b⟩ a' w' → Ext b g (H8 x (.map (seenM ns)) o7) w g' (H8 x (.map (seenM ns)) o7) w' → Q .normal a' w')
    (hr : ∀ g' a' w' e H', (∃ s ∈ ns, endB x s = true) → getE e 2 = .d (.int .i64 7) → StOk (cxL fx) 134 g' ⟨e, H', b⟩ a' w' → Ext b g (H8 x (.map (seenM ns)) o7) w g' H' w' → Q .ret a' w') : m1.wp Try.prog Q a w := by
  have hT := tOk1 fx x hx hsm
  rw [qm1]
  refine mrange_sound hT mixed tb1 (by kernel_rfl) sh1 u75 ok (mid := 6) (l := seenM ns) (ks := [1, 3, 4, 9, 102]) rfl rfl (by decide) (I := fun seen Hc => Hc = H8 x (.map (seenM ns)) o7 ∧ ∀ i ∈ seen, ∀ s, ns[i]? = some s → endB x s = false) ⟨rfl, by simp⟩ (fun seen Hc h => by rw [h.1]; exact ⟨rfl, rfl⟩) (R := fun s1 => (∃ s ∈ ns, endB x s = true) ∧ getE s1.e 2 = .d (.int .i64 7)) ?_ ?_ ?_
  · intro r seen Hc i p hI hp hi
    obtain ⟨rfl, hall⟩ := hI
    obtain ⟨s, hs, rfl⟩ := seenM_at hp
    have ee := end_ev (fx := fx) x s (.map (seenM ns)) o7
    cases hb : endB x s with
    | false =>
      rw [hb] at ee
      have hq : WQ (pgL fx (F1 x)) 8 vb1 [] ((10, .d (.str s)) :: (106, .d (.str s)) :: (105, .tup [.d (.str s), .d (.int .i64 1)]) :: (104, .d (.bool true)) :: (103, .tup [.d (.bool true), .d (.str s), .d (.int .i64 1)]) :: keepE [1, 3, 4, 9, 102] ((102, .raw (.pointer (some ⟨r, 0, none⟩))) :: (101, .mp 6) :: [(1, .ptr 0 0), (3, .ptr 5 0), (4, .mp 6), (9, .mp 7)])) (H8 x (.map (seenM ns)) o7) fun x1 _ e' H' => x1 = .nrm ∧ cut 8 (keepE [1, 3, 4, 9, 102] e') = [(1, .ptr 0 0), (3, .ptr 5 0), (4, .mp 6), (9, .mp 7), (102, .raw (.pointer (some ⟨r, 0, none⟩)))] ∧ H' = H8 x (.map (seenM ns)) o7 := by
        repeat' (first | refine run ⟨?_⟩ | refine ca (ee) ?_ | fail)
        exact rfl
      obtain ⟨x1, kn, e', H', h1, _, rfl, h2, rfl⟩ := hq.imp (KnOk.nil _)
      refine ⟨_, _, h1, .inl ⟨rfl, h2, rfl, fun i' hi' s' hs' => ?_⟩⟩
      rcases List.mem_cons.1 hi' with q | q
      · subst q
        rw [hs] at hs'
        cases hs'
        exact hb
      · exact hall i' q s' hs'
    | true =>
      rw [hb] at ee
      have hq : WQ (pgL fx (F1 x)) 8 vb1 [] ((10, .d (.str s)) :: (106, .d (.str s)) :: (105, .tup [.d (.str s), .d (.int .i64 1)]) :: (104, .d (.bool true)) :: (103, .tup [.d (.bool true), .d (.str s), .d (.int .i64 1)]) :: keepE [1, 3, 4, 9, 102] ((102, .raw (.pointer (some ⟨r, 0, none⟩))) :: (101, .mp 6) :: [(1, .ptr 0 0), (3, .ptr 5 0), (4, .mp 6), (9, .mp 7)])) (H8 x (.map (seenM ns)) o7) fun x1 _ e' H' => x1 = .ret ∧ getE e' 2 = .d (.int .i64 7) := by
        repeat' (first | refine run ⟨?_⟩ | refine ca (ee) ?_ | fail)
        exact rfl
      obtain ⟨x1, kn, e', H', h1, _, rfl, h2⟩ := hq.imp (KnOk.nil _)
      exact ⟨_, _, h1, .inr ⟨rfl, ⟨s, List.mem_of_getElem? hs, hb⟩, h2⟩⟩
  · intro g' a' w' r Hc seen hI hall ok' ext'
    obtain ⟨rfl, h2⟩ := hI
    refine hn g' a' w' (fun s hs => ?_) (ok'.forget [1, 3, 4, 9]) ext'
    obtain ⟨i, hi, he⟩ := List.getElem_of_mem hs
    have hi' : i < (seenM ns).length := by unfold seenM; rw [List.length_map]; exact hi
    exact h2 i (hall i hi') s (by rw [List.getElem?_eq_getElem hi, he])
  · intro g' a' w' s1 hR ok' ext'
    exact hr g' a' w' s1.e s1.h hR.1 hR.2 ok' ext'
set_option maxHeartbeats 2000000 in
theorem range2 {fx : Nat → Option Obj} (x : Its) (hx : Fine x) (N : Nat) (hN : N ≤ 1000000) (ns : List S) (hd : ∀ s ∈ ns, deepOk x N s) (g : Gh) (a : Act) (w : World) (b : Nat) (ok : StOk (cxL fx) 134 g ⟨[(1, .ptr 0 0), (3, .ptr 5 0), (4, .mp 6), (9, .mp 7)], H8 x (.map (seenM ns)) (.map []), b⟩ a w) {Q : Exit → Act → World → Prop}
    (hn : ∀ g' a' w' o7, (∀ s ∈ ns, bigB (szF x N s) = false) → StOk (cxL fx) 134 g' ⟨[(1, .ptr 0 0), (3, .ptr 5 0)], H8 x (.map (seenM ns)) o7, b⟩ a' w' → Ext b g (H8 x (.map (seenM ns)) (.map [])) w g' (H8 x (.map (seenM ns)) o7) w' → Q .normal a' w')
    (hr : ∀ g' a' w' e H', (∃ s ∈ ns, bigB (szF x N s) = true) → getE e 2 = .d (.int .i64 7) → StOk (cxL fx) 134 g' ⟨e, H', b⟩ a' w' → Ext b g (H8 x (.map (seenM ns)) (.map [])) w g' H' w' → Q .ret a' w') : m2.wp Try.prog Q a w := by
  have hT := tOk fx
  rw [qm2]
  refine mrange_sound hT mixed tb2 (by kernel_rfl) sh2 u75 ok (mid := 6) (l := seenM ns) (ks := [1, 3, 9, 112]) rfl rfl (by decide) (I := fun seen Hc => ∃ d, SzOk x N d ∧ Hc = H8 x (.map (seenM ns)) (.map (szM d)) ∧ ∀ i ∈ seen, ∀ s, ns[i]? = some s → bigB (szF x N s) = false) ⟨[], (fun q hq => by cases hq), rfl, by simp⟩ (fun seen Hc h => by obtain ⟨d, _, rfl, _⟩ := h; exact ⟨rfl, rfl⟩) (R := fun s1 => (∃ s ∈ ns, bigB (szF x N s) = true) ∧ getE s1.e 2 = .d (.int .i64 7)) ?_ ?_ ?_
  · intro r seen Hc i p hI hp hi
    obtain ⟨d, hd1, rfl, hall⟩ := hI
    obtain ⟨s, hs, rfl⟩ := seenM_at hp
    have hmem := List.mem_of_getElem? hs
    obtain ⟨rr, H2, hev, rfl, d', hd2, rfl⟩ := sized_s (fx := fx) x hx N hN N s (hd s hmem) (Nat.le_refl _) d hd1
    have ee : evF (pgL fx F0) n_items_sized [.d x.D, .ptr 5 0, str s, .mp 7] (H8 x (.map (seenM ns)) (.map (szM d))) = some (SzD (szF x N s), H8 x (.map (seenM ns)) (.map (szM d'))) :=
      evF_at (mv fx) [2, 3, 4, 5, 7] hev rfl rfl rfl rfl rfl
    have hbound := szF_bound x N s
    obtain ⟨v, hv⟩ : ∃ v, v = szF x N s := ⟨_, rfl⟩
    have hv' : bigB v = bigB (szF x N s) := by rw [hv]
    rw [← hv] at ee
    have good : bigB v = false → ∃ x1 s1, ev (pgL fx F0) vb2 ⟨(11, .d (.str s)) :: (116, .d (.str s)) :: (115, .tup [.d (.str s), .d (.int .i64 1)]) :: (114, .d (.bool true)) :: (113, .tup [.d (.bool true), .d (.str s), .d (.int .i64 1)]) :: keepE [1, 3, 9, 112] ((112, .raw (.pointer (some ⟨r, 0, none⟩))) :: (111, .mp 6) :: [(1, .ptr 0 0), (3, .ptr 5 0), (4, .mp 6), (9, .mp 7)]), H8 x (.map (seenM ns)) (.map (szM d)), 8⟩ = some (x1, s1) ∧ x1 = .nrm ∧ cut 8 (keepE [1, 3, 9, 112] s1.e) = [(1, .ptr 0 0), (3, .ptr 5 0), (9, .mp 7), (112, .raw (.pointer (some ⟨r, 0, none⟩)))] ∧ s1.h.take 8 = H8 x (.map (seenM ns)) (.map (szM d')) := fun hb => by
      have hb1 : ¬ v.1 > 64 := by simp only [bigB, Bool.or_eq_false_iff, decide_eq_false_iff_not] at hb; exact hb.1
      have hb2 : ¬ v.2 > 1024 := by simp only [bigB, Bool.or_eq_false_iff, decide_eq_false_iff_not] at hb; exact hb.2
      have hq : WQ (pgL fx F0) 8 vb2 [] ((11, .d (.str s)) :: (116, .d (.str s)) :: (115, .tup [.d (.str s), .d (.int .i64 1)]) :: (114, .d (.bool true)) :: (113, .tup [.d (.bool true), .d (.str s), .d (.int .i64 1)]) :: keepE [1, 3, 9, 112] ((112, .raw (.pointer (some ⟨r, 0, none⟩))) :: (111, .mp 6) :: [(1, .ptr 0 0), (3, .ptr 5 0), (4, .mp 6), (9, .mp 7)])) (H8 x (.map (seenM ns)) (.map (szM d))) fun x1 _ e' H' => x1 = .nrm ∧ cut 8 (keepE [1, 3, 9, 112] e') = [(1, .ptr 0 0), (3, .ptr 5 0), (9, .mp 7), (112, .raw (.pointer (some ⟨r, 0, none⟩)))] ∧ H'.take 8 = H8 x (.map (seenM ns)) (.map (szM d')) := by
        repeat' (first | refine run ⟨?_⟩ | refine ca (ee) ?_ | fail)
        exact rfl
      obtain ⟨x1, kn, e', H', h1, _, h2, h3, h4⟩ := hq.imp (KnOk.nil _)
      exact ⟨_, _, h1, h2, h3, h4⟩
    cases hb : bigB v with
    | false =>
      obtain ⟨x1, s1, h1, h2, h3, h4⟩ := good hb
      refine ⟨x1, s1, h1, .inl ⟨h2, h3, d', hd2, h4, fun i' hi' s' hs' => ?_⟩⟩
      rcases List.mem_cons.1 hi' with q | q
      · subst q
        rw [hs] at hs'
        cases hs'
        rw [← hv']; exact hb
      · exact hall i' q s' hs'
    | true =>
      have hq : WQ (pgL fx F0) 8 vb2 [] ((11, .d (.str s)) :: (116, .d (.str s)) :: (115, .tup [.d (.str s), .d (.int .i64 1)]) :: (114, .d (.bool true)) :: (113, .tup [.d (.bool true), .d (.str s), .d (.int .i64 1)]) :: keepE [1, 3, 9, 112] ((112, .raw (.pointer (some ⟨r, 0, none⟩))) :: (111, .mp 6) :: [(1, .ptr 0 0), (3, .ptr 5 0), (4, .mp 6), (9, .mp 7)])) (H8 x (.map (seenM ns)) (.map (szM d))) fun x1 _ e' H' => x1 = .ret ∧ getE e' 2 = .d (.int .i64 7) := by
        by_cases hb1 : v.1 > 64
        · repeat' (first | refine run ⟨?_⟩ | refine ca (ee) ?_ | fail)
          exact rfl
        · have hb2 : v.2 > 1024 := by
            simp only [bigB, Bool.or_eq_true, decide_eq_true_eq] at hb
            exact hb.resolve_left hb1
          repeat' (first | refine run ⟨?_⟩ | refine ca (ee) ?_ | fail)
          exact rfl
      obtain ⟨x1, kn, e', H', h1, _, rfl, h2⟩ := hq.imp (KnOk.nil _)
      exact ⟨_, _, h1, .inr ⟨rfl, ⟨s, hmem, by rw [← hv']; exact hb⟩, h2⟩⟩
  · intro g' a' w' r Hc seen hI hall ok' ext'
    obtain ⟨d, _, rfl, h2⟩ := hI
    refine hn g' a' w' _ (fun s hs => ?_) (ok'.forget [1, 3]) ext'
    obtain ⟨i, hi, he⟩ := List.getElem_of_mem hs
    have hi' : i < (seenM ns).length := by unfold seenM; rw [List.length_map]; exact hi
    exact h2 i (hall i hi') s (by rw [List.getElem?_eq_getElem hi, he])
  · intro g' a' w' s1 hR ok' ext'
    exact hr g' a' w' s1.e s1.h hR.1 hR.2 ok' ext'
end Go.Vm.Typ
namespace Go.Vm.Typ
open Go Go.Vm Go.Proofs Go.Vm.Ip
open Go.Vm.Lex (nameB)
set_option maxRecDepth 100000
theorem takeNN {l : List Nam} {i : Nat} (h : i < l.length) : (l.take (i + 1)).map Nam.n = (l.take i).map Nam.n ++ [(l.getD i default).n] := by
  rw [take_succ_getD h, List.map_append]; rfl
theorem seenM_twice (s : S) : ∀ ns : List S, s ∈ ns → mfind (.str s) (mset (.str s) (.int .i64 2) (seenM ns)) = some (.int .i64 2) := fun ns _ => by
  rw [mfind_mset _ _ _ _ (seenM_keys ns), if_pos rfl]
abbrev CH (x : Its) (m : List (D × D)) : Hp := [IB x, IB x, .map (finM (nS x)), .map (finM (nE x)), .map (finM (nF x)), .box [.mp 2, .mp 3, .mp 4], .map m]
set_option maxHeartbeats 4000000 in
theorem structs_wq {fx : Nat → Option Obj} (x : Its) (hx : Fine x) : WQ (pgL fx F0) 0 (vL d46) [] [(1, .ptr 0 0), (3, .ptr 5 0), (4, .mp 6)] (CH x []) fun x1 _ e' H' => (namB (kn x) false [] x.ss = true ∧ x1 = .nrm ∧ keepE [1, 3, 4] e' = [(1, .ptr 0 0), (3, .ptr 5 0), (4, .mp 6)] ∧ H' = CH x (seenM (nS x))) ∨ (namB (kn x) false [] x.ss = false ∧ x1 = .ret ∧ getE e' 2 = .d (.int .i64 7)) := by
  have hl' : x.ss.length ≤ 140737488355328 := hx.ss
  refine run ⟨?_⟩
  refine wq_loop (α := Nat) (fun j => x.ss.length - j) (fun j => [(1, .ptr 0 0), (3, .ptr 5 0), (4, .mp 6), (33, .d (.sl (x.ss.map Nam.D))), (34, i64 x.ss.length), (35, i64 j)]) (fun j => CH x (seenM ((x.ss.take j).map Nam.n))) (fun j => j ≤ x.ss.length ∧ namB (kn x) false [] x.ss = namB (kn x) false ((x.ss.take j).map Nam.n) (x.ss.drop j)) ?_ 0 ⟨Nat.zero_le _, rfl⟩ (by show [_, _, _, _, _, _] = _; rw [List.length_map] <;> rfl) rfl
  rintro j ⟨hj, hinv⟩
  rw [hinv]
  by_cases h : j < x.ss.length
  · have h' : (j : Int) < (x.ss.length : Int) := by omega
    have pj := gN h
    have hn := takeNN h
    have hd := drop_getD (d := default) h
    have hfm := hx.sf (x.ss.getD j default) (by simp [List.getD_eq_getElem?_getD, List.getElem?_eq_getElem h])
    obtain ⟨A, hA⟩ : ∃ A, A = (x.ss.take j).map Nam.n := ⟨_, rfl⟩
    rw [← hA] at hn hinv ⊢
    have h1 := seenM_keys A
    have h2 := seenM_find (x.ss.getD j default).n A
    have h3 := seenM_set (x.ss.getD j default).n A
    revert pj hn hd hfm h2 h3
    generalize x.ss.getD j default = y
    obtain ⟨n, fs⟩ := y
    intro pj hd hfm hn h2 h3
    dsimp only at hn hfm h2 h3
    have en := name_ev (fx := fx) (F := F0) (s := n) (hs := Nat.le_trans hfm.1 (by decide))
    rw [hd]
    simp only [namB]
    by_cases hm : n ∈ A
    · rw [if_pos hm] at h2
      rw [decide_eq_true hm]
      have hf : (nameB n && !true && (!false || decide (fs ≠ [])) && (lstB (rt (kn x) false) false [] fs && decide ((fs.length : Int) ≤ 16)) && namB (kn x) false (A ++ [n]) (List.drop (j + 1) x.ss)) = false := by simp
      rw [hf]
      have k1 := mset_keys n (.int .i64 2) (seenM A) h1
      have k2 := seenM_twice n A hm
      cases c1 : nameB n <;> rw [c1] at en
      · repeat' (first | refine run ⟨?_⟩ | refine pickD pj ?_ | refine mg h1 h2 ?_ | refine And.intro h1 ?_ | refine ca (en _) ?_ | fail)
        exact .inr ⟨rfl, rfl, rfl⟩
      · repeat' (first | refine run ⟨?_⟩ | refine pickD pj ?_ | refine mg h1 h2 ?_ | refine And.intro h1 ?_ | refine ca (en _) ?_ | refine mg k1 k2 ?_ | fail)
        exact .inr ⟨rfl, rfl, rfl⟩
    rw [if_neg hm] at h2
    rw [decide_eq_false hm]
    have h3 := h3 hm
    have k1 := seenM_keys (A ++ [n])
    have k2 := seenM_find n (A ++ [n])
    rw [if_pos (by simp)] at k2
    rw [← h3] at k1 k2
    have el : evF (pgL fx F0) n_items_finder_listed [.ptr 5 0, .d (fldsD fs), i64 16, boo false, boo false] (CH x (mset (.str n) (.int .i64 1) (seenM A)) ++ [.box [str n, .d (fldsD fs)]]) = some (boo (lstB (rt (kn x) false) false [] fs && decide ((fs.length : Int) ≤ 16)), CH x (mset (.str n) (.int .i64 1) (seenM A)) ++ [.box [str n, .d (fldsD fs)]]) :=
      evF_at (mv fx) [2, 3, 4, 5] (listed_s x fs hfm.2.1 hfm.2.2 16 false false) rfl rfl rfl rfl rfl
    cases c1 : nameB n with
    | false =>
      rw [c1] at en
      repeat' (first | refine run ⟨?_⟩ | refine pickD pj ?_ | refine mg h1 h2 ?_ | refine And.intro h1 ?_ | refine ca (en _) ?_ | fail)
      exact .inr ⟨rfl, rfl, rfl⟩
    | true =>
    rw [c1] at en
    cases c2 : lstB (rt (kn x) false) false [] fs && decide ((fs.length : Int) ≤ 16) with
    | false =>
      rw [c2] at el
      repeat' (first | refine run ⟨?_⟩ | refine pickD pj ?_ | refine mg h1 h2 ?_ | refine And.intro h1 ?_ | refine ca (en _) ?_ | refine mg k1 k2 ?_ | refine ca (el) ?_ | fail)
      exact .inr ⟨rfl, rfl, rfl⟩
    | true =>
      rw [c2] at el
      repeat' (first | refine run ⟨?_⟩ | refine pickD pj ?_ | refine mg h1 h2 ?_ | refine And.intro h1 ?_ | refine ca (en _) ?_ | refine mg k1 k2 ?_ | refine ca (el) ?_ | fail)
      exact ⟨j + 1, ⟨by omega, by rw [hn]; rfl⟩, by omega, by rw [i64w (by omega)] <;> rfl, by rw [hn, ← h3] <;> rfl⟩
  · have h' : ¬ (j : Int) < (x.ss.length : Int) := by omega
    obtain rfl : j = x.ss.length := by omega
    rw [List.drop_length, List.take_length]
    refine run ⟨?_⟩
    exact .inl ⟨rfl, rfl, rfl, rfl⟩
end Go.Vm.Typ
namespace Go.Vm.Typ
open Go Go.Vm Go.Proofs Go.Vm.Ip
open Go.Vm.Lex (nameB)
set_option maxRecDepth 100000
set_option maxHeartbeats 4000000 in
theorem enums_wq {fx : Nat → Option Obj} (x : Its) (hx : Fine x) : WQ (pgL fx F0) 0 (vL (vR d46)) [] [(1, .ptr 0 0), (3, .ptr 5 0), (4, .mp 6)] (CH x (seenM (nS x))) fun x1 _ e' H' => (namB (kn x) true (nS x) x.es = true ∧ x1 = .nrm ∧ keepE [1, 3, 4] e' = [(1, .ptr 0 0), (3, .ptr 5 0), (4, .mp 6)] ∧ H' = CH x (seenM (nS x ++ nE x))) ∨ (namB (kn x) true (nS x) x.es = false ∧ x1 = .ret ∧ getE e' 2 = .d (.int .i64 7)) := by
  have hl' : x.es.length ≤ 140737488355328 := hx.es
  refine run ⟨?_⟩
  refine wq_loop (α := Nat) (fun j => x.es.length - j) (fun j => [(1, .ptr 0 0), (3, .ptr 5 0), (4, .mp 6), (64, .d (.sl (x.es.map Nam.D))), (65, i64 x.es.length), (66, i64 j)]) (fun j => CH x (seenM (nS x ++ (x.es.take j).map Nam.n))) (fun j => j ≤ x.es.length ∧ namB (kn x) true (nS x) x.es = namB (kn x) true (nS x ++ (x.es.take j).map Nam.n) (x.es.drop j)) ?_ 0 ⟨Nat.zero_le _, by rw [List.take_zero, List.map_nil, List.append_nil, List.drop_zero]⟩ (by show [_, _, _, _, _, _] = _; rw [List.length_map] <;> rfl) (by rw [List.take_zero, List.map_nil, List.append_nil])
  rintro j ⟨hj, hinv⟩
  rw [hinv]
  by_cases h : j < x.es.length
  · have h' : (j : Int) < (x.es.length : Int) := by omega
    have pj := gN h
    have hn := takeNN h
    have hd := drop_getD (d := default) h
    have hfm := hx.ef (x.es.getD j default) (by simp [List.getD_eq_getElem?_getD, List.getElem?_eq_getElem h])
    obtain ⟨A, hA⟩ : ∃ A, A = nS x ++ (x.es.take j).map Nam.n := ⟨_, rfl⟩
    rw [← hA] at hinv ⊢
    have hn : nS x ++ (x.es.take (j + 1)).map Nam.n = A ++ [(x.es.getD j default).n] := by rw [hn, hA, List.append_assoc]
    have h1 := seenM_keys A
    have h2 := seenM_find (x.es.getD j default).n A
    have h3 := seenM_set (x.es.getD j default).n A
    revert pj hn hd hfm h2 h3
    generalize x.es.getD j default = y
    obtain ⟨n, fs⟩ := y
    intro pj hd hfm hn h2 h3
    dsimp only at hn hfm h2 h3
    have en := name_ev (fx := fx) (F := F0) (s := n) (hs := Nat.le_trans hfm.1 (by decide))
    rw [hd]
    simp only [namB]
    by_cases hm : n ∈ A
    · rw [if_pos hm] at h2
      rw [decide_eq_true hm]
      have hf : (nameB n && !true && (!true || decide (fs ≠ [])) && (lstB (rt (kn x) false) true [] fs && decide ((fs.length : Int) ≤ 16)) && namB (kn x) true (A ++ [n]) (List.drop (j + 1) x.es)) = false := by simp
      rw [hf]
      have k1 := mset_keys n (.int .i64 2) (seenM A) h1
      have k2 := seenM_twice n A hm
      cases c1 : nameB n <;> rw [c1] at en
      · repeat' (first | refine run ⟨?_⟩ | refine pickD pj ?_ | refine mg h1 h2 ?_ | refine And.intro h1 ?_ | refine ca (en _) ?_ | fail)
        exact .inr ⟨rfl, rfl, rfl⟩
      · repeat' (first | refine run ⟨?_⟩ | refine pickD pj ?_ | refine mg h1 h2 ?_ | refine And.intro h1 ?_ | refine ca (en _) ?_ | refine mg k1 k2 ?_ | fail)
        exact .inr ⟨rfl, rfl, rfl⟩
    rw [if_neg hm] at h2
    rw [decide_eq_false hm]
    have h3 := h3 hm
    have k1 := seenM_keys (A ++ [n])
    have k2 := seenM_find n (A ++ [n])
    rw [if_pos (by simp)] at k2
    rw [← h3] at k1 k2
    have el : evF (pgL fx F0) n_items_finder_listed [.ptr 5 0, .d (fldsD fs), i64 16, boo false, boo true] (CH x (mset (.str n) (.int .i64 1) (seenM A)) ++ [.box [str n, .d (fldsD fs)]]) = some (boo (lstB (rt (kn x) false) true [] fs && decide ((fs.length : Int) ≤ 16)), CH x (mset (.str n) (.int .i64 1) (seenM A)) ++ [.box [str n, .d (fldsD fs)]]) :=
      evF_at (mv fx) [2, 3, 4, 5] (listed_s x fs hfm.2.1 hfm.2.2 16 false true) rfl rfl rfl rfl rfl
    cases c1 : nameB n with
    | false =>
      rw [c1] at en
      repeat' (first | refine run ⟨?_⟩ | refine pickD pj ?_ | refine mg h1 h2 ?_ | refine And.intro h1 ?_ | refine ca (en _) ?_ | fail)
      exact .inr ⟨rfl, rfl, rfl⟩
    | true =>
    rw [c1] at en
    by_cases ce : fs = []
    · have ce' : (((fs.map Fld.D).length : Nat) : Int) = 0 := by rw [ce]; rfl
      rw [show decide (fs ≠ []) = false by rw [ce]; rfl]
      repeat' (first | refine run ⟨?_⟩ | refine pickD pj ?_ | refine mg h1 h2 ?_ | refine And.intro h1 ?_ | refine ca (en _) ?_ | refine mg k1 k2 ?_ | fail)
      exact .inr ⟨rfl, rfl, rfl⟩
    have ce' : ¬ (((fs.map Fld.D).length : Nat) : Int) = 0 := by
      rw [List.length_map]; intro h0; exact ce (List.eq_nil_of_length_eq_zero (by omega))
    rw [show decide (fs ≠ []) = true from decide_eq_true ce]
    cases c2 : lstB (rt (kn x) false) true [] fs && decide ((fs.length : Int) ≤ 16) with
    | false =>
      rw [c2] at el
      repeat' (first | refine run ⟨?_⟩ | refine pickD pj ?_ | refine mg h1 h2 ?_ | refine And.intro h1 ?_ | refine ca (en _) ?_ | refine mg k1 k2 ?_ | refine ca (el) ?_ | fail)
      exact .inr ⟨rfl, rfl, rfl⟩
    | true =>
      rw [c2] at el
      repeat' (first | refine run ⟨?_⟩ | refine pickD pj ?_ | refine mg h1 h2 ?_ | refine And.intro h1 ?_ | refine ca (en _) ?_ | refine mg k1 k2 ?_ | refine ca (el) ?_ | fail)
      exact ⟨j + 1, ⟨by omega, by rw [hn]; rfl⟩, by omega, by rw [i64w (by omega)] <;> rfl, by rw [hn, ← h3] <;> rfl⟩
  · have h' : ¬ (j : Int) < (x.es.length : Int) := by omega
    obtain rfl : j = x.es.length := by omega
    rw [List.drop_length, List.take_length]
    refine run ⟨?_⟩
    exact .inl ⟨rfl, rfl, rfl, rfl⟩
end Go.Vm.Typ
namespace Go.Vm.Typ
open Go Go.Vm Go.Proofs Go.Vm.Ip
set_option maxRecDepth 100000
theorem tK7 : tr Try.prog n50 c46d = some (vR (vR (vR (vR (vR d46))))) := by kernel_rfl
theorem r46 : trRes Try.prog Try.f46.results.toList = some [.tmp 2] := by kernel_rfl
theorem f46f : Try.prog.funcs[46]? = some Try.f46 := by kernel_rfl
section
variable {fx : Nat → Option Obj}
def CQ (fx : Nat → Option Obj) (r : Int) (g : Gh) (w : World) : Exit → Act → World → Prop := fun e a' w' => e = .ret ∧ ∃ g' s', s'.b = 0 ∧ StOk (cxL fx) 134 g' s' a' w' ∧ Ext 0 g [] w g' s'.h w' ∧ getE s'.e 2 = i64 r
theorem many_wq (x : Its) : WQ (pgL fx F0) 0 (vL (vR B46)) [] [(1, .ptr 0 0)] [IB x] fun x1 _ e' H' => ((x.ss.length ≤ 64 ∧ x.es.length ≤ 64 ∧ x.fs.length ≤ 64) ∧ x1 = .nrm ∧ keepE [1] e' = [(1, .ptr 0 0)] ∧ H' = [IB x]) ∨ (¬ (x.ss.length ≤ 64 ∧ x.es.length ≤ 64 ∧ x.fs.length ≤ 64) ∧ x1 = .ret ∧ getE e' 2 = i64 7) := by
  have e1 : ((x.ss.map Nam.D).length : Int) = (x.ss.length : Int) := by rw [List.length_map]
  have e2 : ((x.es.map Nam.D).length : Int) = (x.es.length : Int) := by rw [List.length_map]
  have e3 : ((x.fs.map Fnc.D).length : Int) = (x.fs.length : Int) := by rw [List.length_map]
  by_cases h1 : (((x.ss.map Nam.D).length : Nat) : Int) > 64
  · refine run ⟨?_⟩
    exact .inr ⟨by omega, rfl, rfl⟩
  by_cases h2 : (((x.es.map Nam.D).length : Nat) : Int) > 64
  · refine run ⟨?_⟩
    exact .inr ⟨by omega, rfl, rfl⟩
  by_cases h3 : (((x.fs.map Fnc.D).length : Nat) : Int) > 64
  · refine run ⟨?_⟩
    exact .inr ⟨by omega, rfl, rfl⟩
  refine run ⟨?_⟩
  exact .inl ⟨by omega, rfl, rfl, rfl⟩
theorem fns_wq (x : Its) (hx : Fine x) (o6 o7 : Ob) : WQ (pgL fx F0) 0 (vR (vR (vR (vR (vR d46))))) [] [(1, .ptr 0 0), (3, .ptr 5 0)] (H8 x o6 o7) fun x1 _ e' _ => x1 = .ret ∧ getE e' 2 = i64 (if fnsB (kn x) x then 0 else 7) := by
  have ee : evF (pgL fx F0) n_items_fns [.d x.D, .ptr 5 0] (H8 x o6 o7) = some (boo (fnsB (kn x) x), H8 x o6 o7) :=
    evF_at (mv fx) [2, 3, 4, 5] (fns_s x hx) rfl rfl rfl rfl rfl
  cases hb : fnsB (kn x) x <;> rw [hb] at ee
  all_goals
    repeat' (first | refine run ⟨?_⟩ | refine ca (ee) ?_ | fail)
    exact rfl
set_option maxHeartbeats 4000000 in
theorem chk_body (x : Its) (hx : Fine x) (g : Gh) (w : World) (a : Act) (ok : StOk (cxL fx) 134 g ⟨[(0, .d x.D)], [], 0⟩ a w) : c46.wp Try.prog (CQ fx (if chkB x then 0 else 7) g w) a w := by
  have hT := tOk fx
  rw [q46]
  apply wp_seq
  refine chunk hT mixed tK0 (by kernel_rfl) ok (R := fun x1 e' H' => x1 = .nrm ∧ keepE [1] e' = [(1, .ptr 0 0)] ∧ H' = [IB x]) ?_ ?_
  · refine run ⟨?_⟩
    exact rfl
  rintro x1 e' H' g1 a1 w1 ⟨rfl, he, rfl⟩ ok1 E1
  have ok1 := ok1.forget [1]
  rw [he] at ok1
  clear he ok
  show (Code.seq _ _).wp _ _ _ _
  apply wp_seq
  refine chunk hT mixed tK1 (by kernel_rfl) ok1 (many_wq x) ?_
  rintro x1 e' H' g2 a2 w2 hR ok2 ext2
  have E2 := E1.trans ext2 (Nat.le_refl _)
  rcases hR with ⟨hm, rfl, he, rfl⟩ | ⟨hm, rfl, he⟩
  rotate_left
  · have hc : chkB x = false := by
      cases hcb : chkB x with
      | false => rfl
      | true =>
        simp only [chkB, Bool.and_eq_true, decide_eq_true_eq] at hcb
        exact absurd ⟨hcb.1.1.1.1.1.1.1, hcb.1.1.1.1.1.1.2, hcb.1.1.1.1.1.2⟩ hm
    exact ⟨rfl, g2, _, rfl, ok2, E2, by rw [hc]; exact he⟩
  have ok2 := ok2.forget [1]
  rw [he] at ok2
  clear he ok1
  show (Code.seq _ _).wp _ _ _ _
  apply wp_seq
  refine chunk hT mixed tK2 (by kernel_rfl) ok2 (R := fun x1 e' H' => x1 = .nrm ∧ keepE [1, 3] e' = [(1, .ptr 0 0), (3, .ptr 5 0)] ∧ H' = [IB x, IB x, .map (finM (nS x)), .map (finM (nE x)), .map (finM (nF x)), .box [.mp 2, .mp 3, .mp 4]]) ?_ ?_
  · have ei := index1_ev (fx := fx) (F := F0) x hx (IB x)
    repeat' (first | refine run ⟨?_⟩ | refine ca (ei) ?_ | fail)
    exact rfl
  rintro x1 e' H' g3 a3 w3 ⟨rfl, he, rfl⟩ ok3 ext3
  have ok3 := ok3.forget [1, 3]
  rw [he] at ok3
  have E3 := E2.trans ext3 (Nat.le_refl _)
  clear he ok2
  show (Code.seq _ _).wp _ _ _ _
  apply wp_seq
  refine chunk hT mixed tK3 (by kernel_rfl) ok3 (R := fun x1 e' H' => x1 = .nrm ∧ keepE [1, 3, 4] e' = [(1, .ptr 0 0), (3, .ptr 5 0), (4, .mp 6)] ∧ H' = CH x []) ?_ ?_
  · refine run ⟨?_⟩
    exact rfl
  rintro x1 e' H' g4 a4 w4 ⟨rfl, he, rfl⟩ ok4 ext4
  have ok4 := ok4.forget [1, 3, 4]
  rw [he] at ok4
  have E4 := E3.trans ext4 (Nat.le_refl _)
  clear he ok3
  show (Code.seq _ _).wp _ _ _ _
  apply wp_seq
  refine chunk hT mixed tK4 (by kernel_rfl) ok4 (structs_wq x hx) ?_
  rintro x1 e' H' g5 a5 w5 hR ok5 ext5
  have E5 := E4.trans ext5 (Nat.le_refl _)
  rcases hR with ⟨hns, rfl, he, rfl⟩ | ⟨hns, rfl, he⟩
  rotate_left
  · have hc : chkB x = false := by simp only [chkB, hns, Bool.and_false, Bool.false_and]
    exact ⟨rfl, g5, _, rfl, ok5, E5, by rw [hc]; exact he⟩
  have ok5 := ok5.forget [1, 3, 4]
  rw [he] at ok5
  clear he ok4
  show (Code.seq _ _).wp _ _ _ _
  apply wp_seq
  refine chunk hT mixed tK5 (by kernel_rfl) ok5 (enums_wq x hx) ?_
  rintro x1 e' H' g6 a6 w6 hR ok6 ext6
  have E6 := E5.trans ext6 (Nat.le_refl _)
  rcases hR with ⟨hne, rfl, he, rfl⟩ | ⟨hne, rfl, he⟩
  rotate_left
  · have hc : chkB x = false := by simp only [chkB, hne, Bool.and_false, Bool.false_and]
    exact ⟨rfl, g6, _, rfl, ok6, E6, by rw [hc]; exact he⟩
  have ok6 := ok6.forget [1, 3, 4]
  rw [he] at ok6
  clear he ok5
  show (Code.seq _ _).wp _ _ _ _
  apply wp_seq
  refine chunk hT mixed tK6 (by kernel_rfl) ok6 (R := fun x1 e' H' => x1 = .nrm ∧ keepE [1, 3, 4, 9] e' = [(1, .ptr 0 0), (3, .ptr 5 0), (4, .mp 6), (9, .mp 7)] ∧ H' = H8 x (.map (seenM (nS x ++ nE x))) (.map [])) ?_ ?_
  · refine run ⟨?_⟩
    exact rfl
  rintro x1 e' H' g7 a7 w7 ⟨rfl, he, rfl⟩ ok7 ext7
  have ok7 := ok7.forget [1, 3, 4, 9]
  rw [he] at ok7
  have E7 := E6.trans ext7 (Nat.le_refl _)
  clear he ok6
  have hsm : Small x := ⟨hm.1, hm.2.1, namB_len hns, namB_len hne⟩
  show (Code.seq _ _).wp _ _ _ _
  apply wp_seq
  refine range1 x hx hsm (nS x ++ nE x) (.map []) g7 a7 w7 0 ok7 (fun g8 a8 w8 hne2 ok8 ext8 => ?_) (fun g8 a8 w8 e8 H8' hbad he8 ok8 ext8 => ?_)
  rotate_left
  · have hc : chkB x = false := by
      obtain ⟨s, hs, hb⟩ := hbad
      have : (nS x ++ nE x).all (fun s => !endB x s) = false := by
        rw [List.all_eq_false]; exact ⟨s, hs, by simp [hb]⟩
      simp only [chkB, this, Bool.and_false, Bool.false_and]
    exact ⟨rfl, g8, _, rfl, ok8, E7.trans ext8 (Nat.le_refl _), by rw [hc]; exact he8⟩
  have E8 := E7.trans ext8 (Nat.le_refl _)
  have hng : ∀ s ∈ nS x ++ nE x, ¬ Gets x s s := fun s hs hg => by have := hne2 s hs; rw [endB_t hg] at this; cases this
  have hend : (nS x ++ nE x).all (fun s => !endB x s) = true := by
    rw [List.all_eq_true]; intro s hs; rw [hne2 s hs]; rfl
  have hN : deepN x ≤ 1000000 := by
    unfold deepN
    simp only [List.length_append, nS, nE, List.length_map]
    have := hm.1; have := hm.2.1; omega
  show (Code.seq _ _).wp _ _ _ _
  apply wp_seq
  refine range2 x hx (deepN x) hN (nS x ++ nE x) (fun s _ => deep_of hng s) g8 a8 w8 0 ok8 (fun g9 a9 w9 o7 hnb ok9 ext9 => ?_) (fun g9 a9 w9 e9 H9' hbad he9 ok9 ext9 => ?_)
  rotate_left
  · have hc : chkB x = false := by
      obtain ⟨s, hs, hb⟩ := hbad
      have : (nS x ++ nE x).all (fun s => !bigB (szF x (deepN x) s)) = false := by
        rw [List.all_eq_false]; exact ⟨s, hs, by simp [hb]⟩
      simp only [chkB, this, Bool.and_false, Bool.false_and]
    exact ⟨rfl, g9, _, rfl, ok9, E8.trans ext9 (Nat.le_refl _), by rw [hc]; exact he9⟩
  have hbig : (nS x ++ nE x).all (fun s => !bigB (szF x (deepN x) s)) = true := by
    rw [List.all_eq_true]; intro s hs; rw [hnb s hs]; rfl
  have E9 := E8.trans ext9 (Nat.le_refl _)
  show Code.wp _ c46d _ _ _
  refine chunk hT mixed tK7 (by kernel_rfl) ok9 (R := fun x1 e' _ => x1 = .ret ∧ getE e' 2 = i64 (if fnsB (kn x) x then 0 else 7)) (fns_wq x hx _ o7) ?_
  rintro x1 e' H' g10 a10 w10 ⟨rfl, he⟩ ok10 ext10
  have hc : chkB x = fnsB (kn x) x := by
    simp only [chkB, hns, hne, hend, hbig, decide_eq_true hm.1, decide_eq_true hm.2.1, decide_eq_true hm.2.2, Bool.true_and]
  exact ⟨rfl, g10, _, rfl, ok10, E9.trans ext10 (Nat.le_refl _), by rw [hc]; exact he⟩
theorem chk_spec : ∀ args H r H', primChk args H = some (r, H') → FnSpec Try.prog (cxL fx) 46 args H r H' := by
  intro args H r H' h
  obtain ⟨x, hx, rfl, rfl, rfl⟩ := primChk_some h
  refine fnspec_bare (N := 134) (rs := [.tmp 2]) f46f b46 (by kernel_rfl) r46 rfl (by kernel_rfl) (Nat.le_of_ble_eq_true rfl) rfl rfl ?_ _
  intro g w a ok
  have ok := ok.forget [0]
  rw [show keepE [0] (enterE [.d x.D]) = [(0, .d x.D)] from rfl] at ok
  refine wp_mono (chk_body x hx g w a ok) fun e a1 w1 he => ?_
  obtain ⟨rfl, g1, s1, hb, ok1, E1, hv⟩ := he
  refine ⟨.inr rfl, g1, s1, [i64 (if chkB x then 0 else 7)], ok1, E1, ?_, rfl, rfl⟩
  simp only [resVs, resV, hv]
end
end Go.Vm.Typ
