import Derived.Test.YtpgpjenfnbcclaaTypV18
import Derived.Test.YtpgpjenfnbcclaaTypArg
set_option linter.unusedSimpArgs false
set_option linter.unusedVariables false
namespace Go.Vm.Typ
open Go Go.Vm Go.Proofs Go.Vm.Ip
open Go.Vm.Lex (nameB)
set_option maxRecDepth 10000
section
variable {fx : Nat → Option Obj} {F : Nat → Option VFun}
theorem name_len {x : Its} (hx : Fine x) {s : S} (h : s ∈ nS x ++ nE x) : s.length ≤ mx := by
  rcases List.mem_append.1 h with h | h
  · obtain ⟨y, hy, rfl⟩ := List.mem_map.1 h; exact (hx.sf y hy).1
  · obtain ⟨y, hy, rfl⟩ := List.mem_map.1 h; exact (hx.ef y hy).1
set_option maxHeartbeats 4000000 in
theorem right14_ev (x : Its) (hx : Fine x) (H : Hp) : evF (pgL fx F) n_ref14_Right [.d x.D] H = some (boo (r14B x), H) := by
  have m1 : (x.ss.map Nam.D).length = x.ss.length := List.length_map ..
  have m2 : (x.es.map Nam.D).length = x.es.length := List.length_map ..
  have ef := fun14_ev (fx := fx) (F := F) x hx
  unfold r14B
  by_cases c1 : x.ss.length ≤ 64
  rotate_left
  · have c1' : (64 : Int) < ((x.ss.map Nam.D).length : Int) := by rw [m1]; omega
    rw [decide_eq_false c1]
    refine evF_wq (t_ref14_Right (F := F)) rfl rfl ?_ H
    refine run ⟨?_⟩
    exact rfl
  have c1' : ¬ (64 : Int) < ((x.ss.map Nam.D).length : Int) := by rw [m1]; omega
  rw [decide_eq_true c1]
  by_cases c2 : x.es.length ≤ 64
  rotate_left
  · have c2' : (64 : Int) < ((x.es.map Nam.D).length : Int) := by rw [m2]; omega
    rw [decide_eq_false c2]
    refine evF_wq (t_ref14_Right (F := F)) rfl rfl ?_ H
    refine run ⟨?_⟩
    exact rfl
  have c2' : ¬ (64 : Int) < ((x.es.map Nam.D).length : Int) := by rw [m2]; omega
  rw [decide_eq_true c2]
  cases c3 : fun14 x with
  | false =>
    rw [c3] at ef
    refine evF_wq (t_ref14_Right (F := F)) rfl rfl ?_ H
    repeat' (first | refine run ⟨?_⟩ | refine ca (ef _) ?_ | fail)
    exact rfl
  | true =>
  rw [c3] at ef
  have ea := all14_ev (fx := fx) (F := F) x c1 c2
  have hl : (nS x ++ nE x).length ≤ 128 := by unfold nS nE; rw [List.length_append, List.length_map, List.length_map]; omega
  have ep := parts_ev (fx := fx) (F := F) x hx
  have het := fun (s : S) (hs : s.length ≤ mx) => typed_ev (fx := fx) (F := F) x hx s hs
  have hnl := fun s (hs : s ∈ nS x ++ nE x) => name_len hx hs
  have hff := fl_fine hx
  have hNM : nms14 x [] (nS x ++ nE x) = true → Nmd x ∧ ∀ n, (flM x n).length ≤ 16 := nmd_of
  have hE14 := fun (hnm : Nmd x ∧ ∀ n, (flM x n).length ≤ 16) (s : S) (hk : s ∈ nS x ++ nE x) => endless14_ev (fx := fx) (F := F) x hx hnm.1.nm hnm.2 hl s (kn_mem.2 hk)
  have hS14 := fun (hnm : Nmd x ∧ ∀ n, (flM x n).length ≤ 16) (hd : (nS x ++ nE x).all (fun s => !end14 x s) = true) (s : S) (hk : s ∈ nS x ++ nE x) => size14_s (fx := fx) (F := F) x hx hnm.1 hnm.2 (deepN x) s (deep14 hd s) (hnm.1.nu (kn_mem.2 hk)).2
  refine evF_wq (t_ref14_Right (F := F)) rfl rfl ?_ H
  rw [Bool.true_and, Bool.true_and, Bool.true_and]
  revert ea hl hnl hNM hE14 hS14
  generalize nS x ++ nE x = L
  intro ea hl hnl hNM hE14 hS14
  have hLm : (L.map D.str).length = L.length := List.length_map ..
  repeat' (first | refine run ⟨?_⟩ | refine ca (ef _) ?_ | refine ca (ea _) ?_ | fail)
  refine wq_loop (α := Nat) (fun a => L.length - a) (fun a => [(1, .ptr 0 0), (3, .d (.sl (L.map D.str))), (4, i64 a)]) (fun _ => [IB x]) (fun a => a ≤ L.length ∧ nms14 x [] L = nms14 x (L.take a) (L.drop a)) ?_ 0 ⟨Nat.zero_le _, rfl⟩ rfl rfl
  rintro i ⟨hi, hinv⟩
  by_cases h : i < L.length
  · have h' : (i : Int) < ((L.map D.str).length : Int) := by rw [hLm]; omega
    have pi := gS2 h
    have ht := take_succ_getD (d := []) h
    have hd := drop_getD (d := []) h
    have hm : L.getD i [] ∈ L := by simp [List.getD_eq_getElem?_getD, List.getElem?_eq_getElem h]
    have hs1 := hnl _ hm
    have eh := has_ev (fx := fx) (F := F) (L.take i) (Nat.le_trans (List.length_take_le _ _) (Nat.le_trans (Nat.le_trans (Nat.le_of_lt h) (Nat.le_refl _)) (Nat.le_trans hl (by decide)))) (L.getD i [])
    rw [List.map_take] at eh
    have eh : ∀ H, evF (pgL fx F) n_ref14_has [.d (.sl (List.drop 0 (List.take ((i : Int).toNat) (L.map D.str)))), str (L.getD i [])] H = some (boo (decide (L.getD i [] ∈ L.take i)), H) := eh
    have hn : (0 : Int) ≤ (i : Int) := by omega
    have hb : (i : Int).toNat ≤ (L.map D.str).length := by rw [hLm]; omega
    rw [hd] at hinv
    simp only [nms14] at hinv
    revert pi ht hm hs1 eh hinv
    generalize L.getD i [] = s
    intro hinv pi ht hm hs1 eh
    have en := rname_ev (fx := fx) (F := F) (s := s) (hs := Nat.le_trans hs1 (by decide))
    have eps := ep s
    have e65 := fields14_ev (fx := fx) (F := F) (flM x s) (hff s).1 (fun f hf => ((hff s).2 f hf).1) 16
    have hft := (hff s).2
    have hlm : ((flM x s).map Fld.D).length = (flM x s).length := List.length_map ..
    have hl2 := (hff s).1
    have hl2' : (flM x s).length ≤ 4398046511104 := hl2
    revert eps e65 hft hlm hl2 hl2' hinv
    generalize flM x s = l
    generalize enB x s = enu
    generalize kn x s = ok
    intro hinv eps e65 hft hlm hl2 hl2'
    cases k1 : nameB s with
    | false =>
      rw [k1] at en hinv
      rw [hinv]
      repeat' (first | refine run ⟨?_⟩ | refine pickD pi ?_ | refine ca (en _) ?_ | fail)
      exact rfl
    | true =>
    rw [k1] at en hinv
    by_cases k2 : s ∈ L.take i
    · rw [decide_eq_true k2] at eh hinv
      rw [hinv]
      repeat' (first | refine run ⟨?_⟩ | refine pickD pi ?_ | refine ca (en _) ?_ | refine And.intro hn ?_ | refine And.intro ⟨Nat.zero_le _, hb, rfl⟩ ?_ | refine ca (eh _) ?_ | fail)
      exact rfl
    rw [decide_eq_false k2] at eh hinv
    cases k3 : fld14 l 16 with
    | false =>
      rw [k3] at e65 hinv
      rw [hinv]
      repeat' (first | refine run ⟨?_⟩ | refine pickD pi ?_ | refine ca (en _) ?_ | refine And.intro hn ?_ | refine And.intro ⟨Nat.zero_le _, hb, rfl⟩ ?_ | refine ca (eh _) ?_ | refine ca (eps _) ?_ | refine ca (e65 _) ?_ | fail)
      exact rfl
    | true =>
    rw [k3] at e65 hinv
    repeat' (first | refine run ⟨?_⟩ | refine pickD pi ?_ | refine ca (en _) ?_ | refine And.intro hn ?_ | refine And.intro ⟨Nat.zero_le _, hb, rfl⟩ ?_ | refine ca (eh _) ?_ | refine ca (eps _) ?_ | refine ca (e65 _) ?_ | fail)
    refine wq_loop (α := Nat) (fun a => l.length - a) (fun a => [(1, .ptr 0 0), (3, .d (.sl (L.map D.str))), (4, i64 i), (5, .d (fldsD l)), (6, boo enu), (8, i64 a)]) (fun _ => [IB x]) (fun a => a ≤ l.length ∧ ∀ f ∈ l.take a, fty14 x enu f = true) ?_ 0 ⟨Nat.zero_le _, by simp⟩ rfl rfl
    rintro j ⟨hj, hq⟩
    by_cases u : j < l.length
    · have u' : (j : Int) < ((l.map Fld.D).length : Int) := by rw [hlm]; omega
      have pj := gFl u
      have e1 := het _ (hft _ (getD_mem u)).2
      have ht3 := take_succ_getD (d := default) u
      have hmem := getD_mem u
      have hno : fty14 x enu (l.getD j default) = false → nms14 x [] L = false := fun c => by
        rw [hinv, show l.all (fty14 x enu) = false by rw [List.all_eq_false]; exact ⟨_, hmem, by rw [c]; decide⟩]; rfl
      have hys : fty14 x enu (l.getD j default) = true → ∀ f ∈ l.take (j + 1), fty14 x enu f = true := fun c p hp => by
        rw [ht3, List.mem_append, List.mem_singleton] at hp
        rcases hp with a | a
        · exact hq p a
        · rw [a]; exact c
      revert pj e1 hno hys
      clear ht3 hmem
      generalize l.getD j default = p
      obtain ⟨pn, pt⟩ := p
      unfold fty14
      dsimp only
      intro pj e1 hno hys
      cases k4 : bareB (kn x) pt with
      | true =>
        rw [k4] at e1 hys
        have hq2 := hys rfl
        repeat' (first | refine run ⟨?_⟩ | refine pickD pj ?_ | refine ca (e1 _) ?_ | fail)
        exact ⟨j + 1, ⟨by omega, hq2⟩, by omega, by rw [i64w (by omega)] <;> rfl, rfl⟩
      | false =>
        rw [k4] at e1 hno hys
        cases enu with
        | false =>
          rw [hno rfl]
          repeat' (first | refine run ⟨?_⟩ | refine pickD pj ?_ | refine ca (e1 _) ?_ | fail)
          exact rfl
        | true =>
          by_cases k5 : pt = []
          · have hq2 := hys (by rw [decide_eq_true k5]; rfl)
            have k5' : (!decide (pt = [])) = false := by rw [k5]; rfl
            repeat' (first | refine run ⟨?_⟩ | refine pickD pj ?_ | refine ca (e1 _) ?_ | fail)
            exact ⟨j + 1, ⟨by omega, hq2⟩, by omega, by rw [i64w (by omega)] <;> rfl, rfl⟩
          · rw [hno (by rw [decide_eq_false k5]; rfl)]
            have k5' : (!decide (pt = [])) = true := by rw [decide_eq_false k5]; rfl
            repeat' (first | refine run ⟨?_⟩ | refine pickD pj ?_ | refine ca (e1 _) ?_ | fail)
            exact rfl
    · have u' : ¬ (j : Int) < ((l.map Fld.D).length : Int) := by rw [hlm]; omega
      obtain rfl : j = l.length := by omega
      rw [List.take_length] at hq
      rw [show l.all (fty14 x enu) = true from List.all_eq_true.2 hq] at hinv
      refine run ⟨?_⟩
      exact ⟨i + 1, ⟨by omega, by rw [hinv, ht]; rfl⟩, by omega, by rw [i64w (by omega)] <;> rfl, rfl⟩
  · have h' : ¬ (i : Int) < ((L.map D.str).length : Int) := by rw [hLm]; omega
    obtain rfl : i = L.length := by omega
    rw [List.drop_length, show nms14 x (L.take L.length) [] = true from rfl] at hinv
    rw [hinv, Bool.true_and]
    have hnm := hNM hinv
    have hE14 := hE14 hnm
    have hS14 := hS14 hnm
    refine run ⟨?_⟩
    refine wq_loop (α := Nat) (fun a => L.length - a) (fun a => [(1, .ptr 0 0), (3, .d (.sl (L.map D.str))), (9, i64 a)]) (fun _ => [IB x]) (fun a => a ≤ L.length ∧ ∀ s ∈ L.take a, end14 x s = false) ?_ 0 ⟨Nat.zero_le _, by simp⟩ rfl rfl
    rintro i ⟨hi, hends⟩
    by_cases h : i < L.length
    · have h' : (i : Int) < ((L.map D.str).length : Int) := by rw [hLm]; omega
      have pi := gS2 h
      have ht := take_succ_getD (d := []) h
      have hm : L.getD i [] ∈ L := by simp [List.getD_eq_getElem?_getD, List.getElem?_eq_getElem h]
      have ee := hE14 _ hm
      revert pi ht hm ee
      generalize L.getD i [] = s
      intro pi ht hm ee
      cases c : end14 x s with
      | true =>
        rw [c] at ee
        have hv : (L.all fun s => !end14 x s) = false := by rw [List.all_eq_false]; exact ⟨s, hm, by rw [c]; decide⟩
        rw [hv]
        repeat' (first | refine run ⟨?_⟩ | refine pickD pi ?_ | refine ca (ee _) ?_ | fail)
        exact rfl
      | false =>
        rw [c] at ee
        have hs2 : ∀ s ∈ L.take (i + 1), end14 x s = false := fun t ht2 => by
          rw [ht, List.mem_append, List.mem_singleton] at ht2
          rcases ht2 with a | a
          · exact hends t a
          · rw [a]; exact c
        repeat' (first | refine run ⟨?_⟩ | refine pickD pi ?_ | refine ca (ee _) ?_ | fail)
        exact ⟨i + 1, ⟨by omega, hs2⟩, by omega, by rw [i64w (by omega)] <;> rfl, rfl⟩
    · have h' : ¬ (i : Int) < ((L.map D.str).length : Int) := by rw [hLm]; omega
      obtain rfl : i = L.length := by omega
      rw [List.take_length] at hends
      have hv : (L.all fun s => !end14 x s) = true := List.all_eq_true.2 fun s hs => by rw [hends s hs]; rfl
      rw [hv, Bool.true_and]
      have hS14 := hS14 hv
      refine run ⟨?_⟩
      refine wq_loop (α := Nat) (fun a => L.length - a) (fun a => [(1, .ptr 0 0), (3, .d (.sl (L.map D.str))), (10, i64 a)]) (fun _ => [IB x]) (fun a => a ≤ L.length ∧ ∀ s ∈ L.take a, big14 (tgt (szF x (deepN x) s)) = false) ?_ 0 ⟨Nat.zero_le _, by simp⟩ rfl rfl
      rintro i ⟨hi, hbs⟩
      by_cases h : i < L.length
      · have h' : (i : Int) < ((L.map D.str).length : Int) := by rw [hLm]; omega
        have pi := gS2 h
        have ht := take_succ_getD (d := []) h
        have hm : L.getD i [] ∈ L := by simp [List.getD_eq_getElem?_getD, List.getElem?_eq_getElem h]
        have ee := hS14 _ hm
        revert pi ht hm ee
        generalize L.getD i [] = s
        intro pi ht hm ee
        have hbig : big14 (tgt (szF x (deepN x) s)) = true → (L.all fun s => !big14 (tgt (szF x (deepN x) s))) = false := fun c => by rw [List.all_eq_false]; exact ⟨s, hm, by rw [c]; decide⟩
        have hsml : big14 (tgt (szF x (deepN x) s)) = false → ∀ s ∈ L.take (i + 1), big14 (tgt (szF x (deepN x) s)) = false := fun c t ht2 => by
          rw [ht, List.mem_append, List.mem_singleton] at ht2
          rcases ht2 with a | a
          · exact hbs t a
          · rw [a]; exact c
        revert ee hbig hsml
        generalize tgt (szF x (deepN x) s) = v
        intro ee hbig hsml
        by_cases c4 : 1024 < v.1
        · rw [hbig (by unfold big14; rw [decide_eq_true c4]; rfl)]
          repeat' (first | refine run ⟨?_⟩ | refine pickD pi ?_ | refine ca (ee _) ?_ | fail)
          exact rfl
        by_cases c5 : 64 < v.2
        · rw [hbig (by unfold big14; rw [decide_eq_true c5, Bool.or_true])]
          repeat' (first | refine run ⟨?_⟩ | refine pickD pi ?_ | refine ca (ee _) ?_ | fail)
          exact rfl
        have hs2 := hsml (by unfold big14; rw [decide_eq_false c4, decide_eq_false c5]; rfl)
        repeat' (first | refine run ⟨?_⟩ | refine pickD pi ?_ | refine ca (ee _) ?_ | fail)
        exact ⟨i + 1, ⟨by omega, hs2⟩, by omega, by rw [i64w (by omega)] <;> rfl, rfl⟩
      · have h' : ¬ (i : Int) < ((L.map D.str).length : Int) := by rw [hLm]; omega
        obtain rfl : i = L.length := by omega
        rw [List.take_length] at hbs
        have hv : (L.all fun s => !big14 (tgt (szF x (deepN x) s))) = true := List.all_eq_true.2 fun s hs => by rw [hbs s hs]; rfl
        rw [hv]
        refine run ⟨?_⟩
        exact rfl
end
end Go.Vm.Typ
namespace Go.Vm.Typ
open Go Go.Vm Go.Proofs Go.Vm.Ip
open Go.Vm.Lex (nameB)
set_option maxRecDepth 10000
theorem rightOk (fx : Nat → Option Obj) : RightOk fx := fun x hx H => by rw [right14_ev x hx H, r14_eq]
theorem lit_ask {s : S} (h : isB (kn lit) s = true) : askI lit s = 0 := by unfold askI; rw [lit_chk, h]; rfl
section
variable {fx : Nat → Option Obj}
theorem items_ev (H : Hp) : evF (pgL fx F2) n_law15_items [] H = some (.d lit.D, H) := by
  refine evF_wq (t_law15_items (F := F2)) rfl rfl ?_ H
  have h1 : toD [Ob.box [V.nils, V.nils, V.nils]] (.agg [V.d (.str mainT), V.nils, V.nils, V.d (.str unitT), i64 0]) = some (.agg [.str mainT, .sl [], .sl [], .str unitT, .int .i64 0]) := by simp [toD, toDs, toD1]
  have h2 : ∀ a b : D, toArg [Ob.box [V.d a, V.nils, V.d b]] (.agg [V.d a, V.nils, V.d b]) = .d (.agg [a, .sl [], b]) := fun a b => by simp [toArg, toD, toDs, toD1]
  repeat' (first | refine run ⟨?_⟩ | refine Exists.intro _ (And.intro h1 ?_) | fail)
  have h3 : ∀ a b c : D, c = .agg [a, .sl [], b] → chk (undL 0 [toArg [Ob.box [V.d a, V.nils, V.d b]] (.agg [V.d a, V.nils, V.d b])]) (toArg [Ob.box [V.d a, V.nils, V.d b]] (.agg [V.d a, V.nils, V.d b]) = .d c) := fun a b c e => chk_of (by rw [h2]; rfl) (by rw [h2, e])
  exact h3 _ _ _ rfl
theorem small_ev (H : Hp) : evF (pgL fx F2) n_law15_small [] H = some (boo true, H) := by
  have e0 := items_ev (fx := fx)
  have e1 := tWords_ev (fx := fx) lit lit_fine sT (by decide)
  have e2 := tAt_ev (fx := fx) lit lit_fine sT (by decide) [1, -1, 0] (by decide)
  have e3 := tOwns_ev (fx := fx) lit lit_fine sT (by decide)
  have e4 := tOffset_ev (fx := fx) lit lit_fine sT (by decide) 1
  have e5 := tInner_ev (fx := fx) (F := F2) [38, 109, 117, 116, 32, 83] (by decide)
  have e6 := tFits_ev (fx := fx) (F := F2) [33] sT
  have e7 := tRight_ev (fx := fx) lit lit_fine [38, 83] (by decide)
  have e8 := tRight_ev (fx := fx) lit lit_fine [84] (by decide)
  have a1 : askI lit sT = 0 := lit_ask (by decide)
  have a7 : askI lit [38, 83] = 0 := lit_ask (by decide)
  have a8 : askI lit [84] = 1 := by unfold askI; rw [lit_chk, show isB (kn lit) [84] = false by decide]; rfl
  rw [a1, if_pos rfl, show wsI lit sT = 2 by decide] at e1
  rw [show atS lit sT [1, -1, 0] = i64T by unfold atS; rw [a1]; decide, show atI lit sT [1, -1, 0] = 0 by unfold atI; rw [a1]; decide] at e2
  rw [a1, if_pos rfl, show ownB lit sT = true by decide] at e3
  rw [a1, show (if (0 : Int) = 0 ∧ offB lit sT 1 = true then offI lit sT (1 : Int).toNat else 0) = 1 by decide, show (if (0 : Int) = 0 then (if offB lit sT 1 = true then (0 : Int) else 9) else 0) = 0 by decide] at e4
  rw [show inM [38, 109, 117, 116, 32, 83] = (sT, true) by decide] at e5
  rw [show fitB [33] sT = true by decide] at e6
  rw [a7] at e7
  rw [a8] at e8
  refine evF_wq (t_law15_small (F := F2)) rfl rfl ?_ H
  repeat' (first | refine run ⟨?_⟩ | refine ca (e0 _) ?_ | refine ca (e1 _) ?_ | refine ca (e2 _) ?_ | refine ca (e3 _) ?_ | refine ca (e4 _) ?_ | refine ca (e5 _) ?_ | refine ca (e6 _) ?_ | refine ca (e7 _) ?_ | refine ca (e8 _) ?_ | fail)
  exact rfl
end
end Go.Vm.Typ
namespace Go.Vm.Typ
open Go Go.Vm Go.Proofs Go.Vm.Ip
open Go.Vm.Lex (nameB)
set_option maxRecDepth 10000
def caseD (x : Its) (s : S) (k : Int) (p : List Int) : D := .agg [.sl (x.ss.map Nam.D), .sl (x.es.map Nam.D), .sl (x.fs.map Fnc.D), .str s, .int .i64 k, .sl (p.map (D.int .i64))]
section
variable {fx : Nat → Option Obj}
theorem parts_law (x : Its) (hx : Fine x) (s : S) (hs : s.length ≤ mx) (k : Int) (p : List Int) (hp : p.length ≤ mx) (hk : ∀ k ∈ p, -9223372036854775808 ≤ k ∧ k ≤ 9223372036854775807) (H : Hp) : evF (pgL fx F2) n_law15_TypesParts [.d (caseD x s k p)] H = some (boo true, H) := by
  have hR := rightOk fx
  have e1 := tOffset_ev (fx := fx) x hx s hs k
  have e2 := rOffset_ev hR x hx s hs k
  have e3 := tAt_ev (fx := fx) x hx s hs p hk
  have e4 := rAt_ev hR x hx s hs p hp hk
  have e9 := small_ev (fx := fx)
  revert e1 e2 e3 e4
  generalize (if askI x s = 0 ∧ offB x s k = true then offI x s k.toNat else 0) = a
  generalize (if askI x s = 0 then (if offB x s k then 0 else 9) else askI x s : Int) = b
  generalize atS x s p = t
  generalize atI x s p = c
  intro e1 e2 e3 e4
  have q1 : decide (a = a) = true := decide_eq_true rfl
  have q2 : decide (b = b) = true := decide_eq_true rfl
  have q3 : decide (t = t) = true := decide_eq_true rfl
  have q4 : decide (c = c) = true := decide_eq_true rfl
  refine evF_wq (t_law15_TypesParts (F := F2)) rfl rfl ?_ H
  repeat' (first | refine run ⟨?_⟩ | refine ca (e1 _) ?_ | refine ca (e2 _) ?_ | refine ca (e3 _) ?_ | refine ca (e4 _) ?_ | refine ca (e9 _) ?_ | fail)
  exact rfl
end
end Go.Vm.Typ
namespace Go.Vm.Typ
open Go Go.Vm Go.Proofs Go.Vm.Ip
open Go.Vm.Lex (nameB)
set_option maxRecDepth 10000
section
variable {fx : Nat → Option Obj}
end
end Go.Vm.Typ
namespace Go.Vm.Typ
open Go Go.Vm Go.Proofs Go.Vm.Ip
open Go.Vm.Lex (nameB)
set_option maxRecDepth 10000
section
variable {fx : Nat → Option Obj}
end
end Go.Vm.Typ
