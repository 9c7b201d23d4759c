import Derived.Test.YtbaoljbcdjdnlaaGreatDoorTreW26
import Derived.Test.YtbaoljbcdjdnlaaGreatDoorTreP13
import Derived.Test.YtbaoljbcdjdnlaaGreatDoorTreW14
import Derived.Test.YtbaoljbcdjdnlaaGreatDoorTreW18
namespace Go.Vm.Tre
open Go.Vm.Tp
set_option maxRecDepth 10000
abbrev PR (t : List Nd) (s : List UInt8) : Hp := [.box [.d (.sl (t.map Nd.D)), str s]]
section
variable {fx : Nat → Option Obj} {t : List Nd}
theorem rput_ev (s a : List UInt8) (h : s.length + (a.length + 1) ≤ BIG) (X : Hp) : evF (pgL fx) n_ref13_printer_put [.ptr 0 0, str a] (PR t s ++ X) = some (.tup [], PR t (sj s a) ++ X) := by
  refine evF_ext (mv fx) (h := PR t s) (h' := PR t (sj s a)) ?_ rfl rfl rfl rfl rfl
  refine evF_wqOn t_ref13_printer_put rfl rfl rfl ?_
  unfold BIG at h
  unfold sj
  by_cases c : s = []
  · have d : (!decide (s = [])) = false := by rw [decide_eq_true c]; rfl
    have l1 : s.length + a.length ≤ 9223372036854775807 := by omega
    rw [if_pos c]
    repeat' (first | refine run ⟨?_⟩ | refine And.intro l1 ?_ | fail)
    exact rfl
  · have d : (!decide (s = [])) = true := by rw [decide_eq_false c]; rfl
    have l1 : s.length + [(32 : UInt8)].length ≤ 9223372036854775807 := by simp; omega
    have l2 : (s ++ [(32 : UInt8)]).length + a.length ≤ 9223372036854775807 := by simp; omega
    rw [if_neg c]
    repeat' (first | refine run ⟨?_⟩ | refine And.intro l1 ?_ | refine And.intro l2 ?_ | fail)
    exact rfl
theorem sput {tot s a : List UInt8} {r : Toks} {X : Hp} {P : V → Hp → Prop} (h : Fit tot s (a :: r)) (k : Fit tot (sj s a) r → P (.tup []) (PR t (sj s a) ++ X)) : ∃ r H, evF (pgL fx) n_ref13_printer_put [.ptr 0 0, str a] (PR t s ++ X) = some (r, H) ∧ P r H := ⟨_, _, rput_ev s a h.room1 X, k h.cons⟩
def NodR (fx : Nat → Option Obj) (t : List Nd) (m : Int) (N : Int → Toks) : Prop := ∀ k : Int, 0 ≤ k → k < m → ∀ (s : List UInt8) (X : Hp), s.length + wl (N k) ≤ BIG → evF (pgL fx) n_ref13_printer_node [.ptr 0 0, i64 k] (PR t s ++ X) = some (.tup [], PR t (J s (N k)) ++ X)
variable {m : Int} {N : Int → Toks} (hN : NodR fx t m N)
include hN
theorem snod {k : Int} (h0 : 0 ≤ k) (h1 : k < m) {tot s : List UInt8} {r : Toks} {X : Hp} {P : V → Hp → Prop} (h : Fit tot s (N k ++ r)) (q : Fit tot (J s (N k)) r → P (.tup []) (PR t (J s (N k)) ++ X)) : ∃ r H, evF (pgL fx) n_ref13_printer_node [.ptr 0 0, i64 k] (PR t s ++ X) = some (r, H) ∧ P r H := ⟨_, _, hN k h0 h1 s X h.room, q h.app⟩
theorem rrow_ev (ks : List Int) (hk : ∀ k ∈ ks, 0 ≤ k ∧ k < m) (hkl : ks.length ≤ 1048576) (s : List UInt8) (X : Hp) (hs : s.length + wl (lstT N ks) ≤ BIG) : evF (pgL fx) n_ref13_printer_row [.ptr 0 0, ints ks] (PR t s ++ X) = some (.tup [], PR t (J s (lstT N ks)) ++ X) := by
  refine evF_ext (mv fx) (h := PR t s) (h' := PR t (J s (lstT N ks))) ?_ rfl rfl rfl rfl rfl
  refine evF_wqOn t_ref13_printer_row rfl rfl rfl ?_
  have hml : (ks.map (D.int .i64)).length = ks.length := List.length_map ..
  refine run ⟨?_⟩
  refine wq_loop (α := Nat × List UInt8) (fun a => ks.length - a.1) (fun a => [(0, .ptr 0 0), (6, ints ks), (7, i64 ks.length), (8, i64 a.1)]) (fun a => PR t a.2) (fun a => a.1 ≤ ks.length ∧ Fit (J s (lstT N ks)) a.2 (restT N ks a.1)) ?_ (0, s) ⟨Nat.zero_le _, ⟨hs, rfl⟩⟩ ?_ rfl
  · rintro ⟨j, u⟩ ⟨hj, hF⟩
    simp only at hj hF ⊢
    by_cases h : j < ks.length
    · have h' : (j : Int) < (ks.length : Int) := by omega
      have hkj := hk _ (List.getElem_mem h)
      have e : ks.getD j 0 = ks[j] := by simp [h]
      rw [← e] at hkj
      obtain ⟨k0, k1⟩ := hkj
      have pj : 0 ≤ (j : Int) ∧ (ks.map (D.int .i64))[(j : Int).toNat]? = some (.int .i64 (ks.getD j 0)) := ⟨by omega, gK h⟩
      rw [rest_step N ks j h] at hF
      by_cases h0 : j = 0
      · have h0' : ¬ (0 : Int) < (j : Int) := by omega
        rw [if_pos h0, List.nil_append] at hF
        repeat' (first | refine run ⟨?_⟩ | refine pickD pj ?_ | refine snod hN k0 k1 hF fun _ => ?_ | fail)
        exact ⟨(j + 1, _), ⟨by show j + 1 ≤ _; omega, hF.app⟩, by show ks.length - (j + 1) < ks.length - j; omega, by rw [i64w (by omega)]; rfl, rfl⟩
      · have h0' : (0 : Int) < (j : Int) := by omega
        rw [if_neg h0, List.singleton_append] at hF
        have hF1 := hF.cons
        repeat' (first | refine run ⟨?_⟩ | refine pickD pj ?_ | refine sput hF fun _ => ?_ | refine snod hN k0 k1 hF1 fun _ => ?_ | fail)
        exact ⟨(j + 1, _), ⟨by show j + 1 ≤ _; omega, hF1.app⟩, by show ks.length - (j + 1) < ks.length - j; omega, by rw [i64w (by omega)]; rfl, rfl⟩
    · have h' : ¬ (j : Int) < (ks.length : Int) := by omega
      obtain rfl : j = ks.length := by omega
      rw [rest_end] at hF
      refine run ⟨?_⟩
      exact congrArg (PR t) hF.fin
  · show [_, _, (7, i64 ((ks.map (D.int .i64)).length : Int)), _] = _
    rw [hml]; rfl
theorem srow {ks : List Int} (hk : ∀ k ∈ ks, 0 ≤ k ∧ k < m) (hkl : ks.length ≤ 1048576) {tot s : List UInt8} {r : Toks} {X : Hp} {P : V → Hp → Prop} (h : Fit tot s (lstT N ks ++ r)) (q : Fit tot (J s (lstT N ks)) r → P (.tup []) (PR t (J s (lstT N ks)) ++ X)) : ∃ r H, evF (pgL fx) n_ref13_printer_row [.ptr 0 0, ints ks] (PR t s ++ X) = some (r, H) ∧ P r H := ⟨_, _, rrow_ev hN ks hk hkl s X h.room, q h.app⟩
theorem rbraces_ev (ks : List Int) (hk : ∀ k ∈ ks, 0 ≤ k ∧ k < m) (hkl : ks.length ≤ 1048576) (s : List UInt8) (X : Hp) (hs : s.length + wl ([[123]] ++ lstT N ks ++ [[125]]) ≤ BIG) : evF (pgL fx) n_ref13_printer_braces [.ptr 0 0, ints ks] (PR t s ++ X) = some (.tup [], PR t (J s ([[123]] ++ lstT N ks ++ [[125]])) ++ X) := by
  refine evF_ext (mv fx) (h := PR t s) (h' := PR t (J s ([[123]] ++ lstT N ks ++ [[125]]))) ?_ rfl rfl rfl rfl rfl
  refine evF_wqOn t_ref13_printer_braces rfl rfl rfl ?_
  have hF := fit_of hs
  generalize J s ([[123]] ++ lstT N ks ++ [[125]]) = tot at hF ⊢
  simp only [List.append_assoc, List.cons_append, List.nil_append] at hF
  repeat' (first | refine run ⟨?_⟩ | refine sput (by assumption) fun _ => ?_ | refine srow hN hk hkl (by assumption) fun _ => ?_ | fail)
  exact congrArg (PR t) (Fit.fin (by assumption))
theorem roperand_ev (k : Int) (get : Bool) (h0 : 0 ≤ k) (h1 : k < m) (hkt : k < t.length) (s : List UInt8) (X : Hp) (hs : s.length + wl (opdT t N k get) ≤ BIG) : evF (pgL fx) n_ref13_printer_operand [.ptr 0 0, i64 k, boo get] (PR t s ++ X) = some (.tup [], PR t (J s (opdT t N k get)) ++ X) := by
  refine evF_ext (mv fx) (h := PR t s) (h' := PR t (J s (opdT t N k get))) ?_ rfl rfl rfl rfl rfl
  refine evF_wqOn t_ref13_printer_operand rfl rfl rfl ?_
  have hF := fit_of hs
  generalize J s (opdT t N k get) = tot at hF ⊢
  have hg := ndD_at h0 hkt
  have hq : (nd t k.toNat).k = kindAt t k := rfl
  unfold opdT at hF
  obtain ⟨q, hqe⟩ : ∃ q, q = kindAt t k := ⟨_, rfl⟩
  rw [← hqe] at hF hq
  obtain ⟨⟨xk, xt, xv, xks, xf, xe⟩, hx⟩ : ∃ x, x = nd t k.toNat := ⟨_, rfl⟩
  rw [← hx] at hg hq
  simp only at hq
  subst hq
  clear hqe hx
  by_cases c30 : xk = 30
  · subst c30
    rw [if_pos (by rfl)] at hF
    repeat' (first | refine run ⟨?_⟩ | refine pickD hg ?_ | refine sput (by assumption) fun _ => ?_ | refine snod hN h0 h1 (by assumption) fun _ => ?_ | fail)
    exact congrArg (PR t) (Fit.fin (by assumption))
  by_cases c31 : xk = 31
  · subst c31
    rw [if_pos (by rfl)] at hF
    repeat' (first | refine run ⟨?_⟩ | refine pickD hg ?_ | refine sput (by assumption) fun _ => ?_ | refine snod hN h0 h1 (by assumption) fun _ => ?_ | fail)
    exact congrArg (PR t) (Fit.fin (by assumption))
  by_cases c32 : xk = 32
  · subst c32
    rw [if_pos (by rfl)] at hF
    repeat' (first | refine run ⟨?_⟩ | refine pickD hg ?_ | refine sput (by assumption) fun _ => ?_ | refine snod hN h0 h1 (by assumption) fun _ => ?_ | fail)
    exact congrArg (PR t) (Fit.fin (by assumption))
  by_cases c33 : xk = 33
  · subst c33
    rw [if_pos (by rfl)] at hF
    repeat' (first | refine run ⟨?_⟩ | refine pickD hg ?_ | refine sput (by assumption) fun _ => ?_ | refine snod hN h0 h1 (by assumption) fun _ => ?_ | fail)
    exact congrArg (PR t) (Fit.fin (by assumption))
  by_cases c34 : xk = 34
  · subst c34
    rw [if_pos (by rfl)] at hF
    repeat' (first | refine run ⟨?_⟩ | refine pickD hg ?_ | refine sput (by assumption) fun _ => ?_ | refine snod hN h0 h1 (by assumption) fun _ => ?_ | fail)
    exact congrArg (PR t) (Fit.fin (by assumption))
  by_cases c37 : xk = 37
  · subst c37
    rw [if_pos (by rfl)] at hF
    repeat' (first | refine run ⟨?_⟩ | refine pickD hg ?_ | refine sput (by assumption) fun _ => ?_ | refine snod hN h0 h1 (by assumption) fun _ => ?_ | fail)
    exact congrArg (PR t) (Fit.fin (by assumption))
  by_cases c44 : xk = 44
  · subst c44
    rw [if_pos (by rfl)] at hF
    repeat' (first | refine run ⟨?_⟩ | refine pickD hg ?_ | refine sput (by assumption) fun _ => ?_ | refine snod hN h0 h1 (by assumption) fun _ => ?_ | fail)
    exact congrArg (PR t) (Fit.fin (by assumption))
  have hsim : ∀ g, simK xk g = (g && decide (xk = 41)) := by
    intro g
    unfold simK
    rw [decide_eq_false c37, decide_eq_false c44]
    have : (decide (30 ≤ xk) && decide (xk ≤ 34)) = false := by
      cases hb : (decide (30 ≤ xk) && decide (xk ≤ 34)) with
      | false => rfl
      | true => simp only [Bool.and_eq_true, decide_eq_true_eq] at hb; omega
    rw [this]; rfl
  rw [hsim] at hF
  have no : ∀ {s tot}, Fit tot s ((if (get && decide (xk = 41)) = true then N k else [[40]] ++ N k ++ [[41]]) ++ []) → (get && decide (xk = 41)) = false → Fit tot s ([40] :: (N k ++ [[41]])) := by
    intro s tot h e
    rw [e, if_neg Bool.false_ne_true] at h
    simpa using h
  cases get with
  | false =>
    have hF := no hF rfl
    repeat' (first | refine run ⟨?_⟩ | refine pickD hg ?_ | refine sput (by assumption) fun _ => ?_ | refine snod hN h0 h1 (by assumption) fun _ => ?_ | fail)
    exact congrArg (PR t) (Fit.fin (by assumption))
  | true =>
    by_cases c41 : xk = 41
    · subst c41
      rw [if_pos (by rfl)] at hF
      repeat' (first | refine run ⟨?_⟩ | refine pickD hg ?_ | refine sput (by assumption) fun _ => ?_ | refine snod hN h0 h1 (by assumption) fun _ => ?_ | fail)
      exact congrArg (PR t) (Fit.fin (by assumption))
    · have hF := no hF (by rw [decide_eq_false c41]; rfl)
      repeat' (first | refine run ⟨?_⟩ | refine pickD hg ?_ | refine sput (by assumption) fun _ => ?_ | refine snod hN h0 h1 (by assumption) fun _ => ?_ | fail)
      exact congrArg (PR t) (Fit.fin (by assumption))
theorem sopd {k : Int} {get : Bool} (h0 : 0 ≤ k) (h1 : k < m) (hm : m ≤ t.length) {tot s : List UInt8} {r : Toks} {X : Hp} {P : V → Hp → Prop} (h : Fit tot s (opdT t N k get ++ r)) (q : Fit tot (J s (opdT t N k get)) r → P (.tup []) (PR t (J s (opdT t N k get)) ++ X)) : ∃ r H, evF (pgL fx) n_ref13_printer_operand [.ptr 0 0, i64 k, boo get] (PR t s ++ X) = some (r, H) ∧ P r H := ⟨_, _, roperand_ev hN k get h0 h1 (by omega) s X h.room, q h.app⟩
theorem sbra {ks : List Int} (hk : ∀ k ∈ ks, 0 ≤ k ∧ k < m) (hkl : ks.length ≤ 1048576) {tot s : List UInt8} {r : Toks} {X : Hp} {P : V → Hp → Prop} (h : Fit tot s ([123] :: (lstT N ks ++ ([125] :: r)))) (q : Fit tot (J s ([[123]] ++ lstT N ks ++ [[125]])) r → P (.tup []) (PR t (J s ([[123]] ++ lstT N ks ++ [[125]])) ++ X)) : ∃ r H, evF (pgL fx) n_ref13_printer_braces [.ptr 0 0, ints ks] (PR t s ++ X) = some (r, H) ∧ P r H := by
  have h' : Fit tot s (([[123]] ++ lstT N ks ++ [[125]]) ++ r) := by simpa using h
  exact ⟨_, _, rbraces_ev hN ks hk hkl s X h'.room, q h'.app⟩
end
end Go.Vm.Tre
namespace Go.Vm.Tre
open Go.Vm.Tp
open Go.Vm.Lex (nameB)
set_option maxRecDepth 10000
set_option linter.unusedSimpArgs false
structure Px (t : List Nd) (m : Int) (x : Nd) : Prop where
  hk : ∀ k ∈ x.kids, 0 ≤ k ∧ k < m
  hm : m ≤ t.length
  len : lenOk x.k x.kids.length
  kl : x.kids.length ≤ 1048576
  fn : x.k = 2 → x.v = ((x.kids.length - 2 : Nat) : Int) ∧ 2 ≤ x.kids.length
  iv : I64 x.v
  n52 : x.k = 52 → -9223372036854775808 < x.v
  n30 : x.k = 30 → 0 ≤ x.v
  nm : x.k = 37 ∨ x.k = 54 → ∃ i, i + 2 ≤ x.t.length ∧ cutT x.t = (x.t.take i, x.t.drop (i + 2), true) ∧ (∀ j, j < i → x.t[j]? ≠ some 58) ∧ x.t[i]? = some 58
  tl : x.t.length ≤ 1048576
section
variable {fx : Nat → Option Obj} {t : List Nd} {m : Int} {N : Int → Toks} (hN : NodR fx t m N)
include hN
theorem srow' {ks : List Int} {v : V} (hv : v = ints ks) (hk : ∀ k ∈ ks, 0 ≤ k ∧ k < m) (hkl : ks.length ≤ 1048576) {tot s : List UInt8} {r : Toks} {X : Hp} {P : V → Hp → Prop} (h : Fit tot s (lstT N ks ++ r)) (q : Fit tot (J s (lstT N ks)) r → P (.tup []) (PR t (J s (lstT N ks)) ++ X)) : ∃ r H, evF (pgL fx) n_ref13_printer_row [.ptr 0 0, v] (PR t s ++ X) = some (r, H) ∧ P r H := by
  subst hv; exact srow hN hk hkl h q
theorem sbra' {ks : List Int} {v : V} (hv : v = ints ks) (hk : ∀ k ∈ ks, 0 ≤ k ∧ k < m) (hkl : ks.length ≤ 1048576) {tot s : List UInt8} {r : Toks} {X : Hp} {P : V → Hp → Prop} (h : Fit tot s ([123] :: (lstT N ks ++ ([125] :: r)))) (q : Fit tot (J s ([[123]] ++ lstT N ks ++ [[125]])) r → P (.tup []) (PR t (J s ([[123]] ++ lstT N ks ++ [[125]])) ++ X)) : ∃ r H, evF (pgL fx) n_ref13_printer_braces [.ptr 0 0, v] (PR t s ++ X) = some (r, H) ∧ P r H := by
  subst hv; exact sbra hN hk hkl h q
set_option maxHeartbeats 1000000 in
theorem rtyped_ev (x : Nd) (hp : Px t m x) (hkn : isTy x.k = true) (s : List UInt8) (X : Hp) (hs : s.length + wl (bodyT t N x) ≤ BIG) : evF (pgL fx) n_ref13_printer_typed [.ptr 0 0, ndV x] (PR t s ++ X) = some (.tup [], PR t (J s (bodyT t N x)) ++ X) := by
  refine evF_ext (mv fx) (h := PR t s) (h' := PR t (J s (bodyT t N x))) ?_ rfl rfl rfl rfl rfl
  obtain ⟨q, tx, v, kids, f, e⟩ := x
  obtain ⟨hk, hm, hlen, hkl, hfn, ⟨hv1, hv2⟩, h52, h30, hnm, htl⟩ := hp
  simp only at hk hlen hkl hfn hv1 hv2 h52 h30 hnm htl hkn
  refine evF_wqOn t_ref13_printer_typed rfl rfl rfl ?_
  have hF := fit_of hs
  generalize J s (bodyT t N ⟨q, tx, v, kids, f, e⟩) = tot at hF ⊢
  clear hs
  simp only [isTy, Bool.and_eq_true, decide_eq_true_eq] at hkn
  by_cases c10 : q = 10
  · subst c10
    have e0 : bodyT t N ⟨10, tx, v, kids, f, e⟩ = [[105, 54, 52]] := by first | rfl | simp [bodyT, itemT, stmtT, letT, exprT, isTy, isSt, *]
    rw [e0] at hF
    simp only [List.append_assoc, List.cons_append, List.nil_append] at hF
    repeat' (first | refine run ⟨?_⟩ | refine sput (by assumption) fun _ => ?_ | refine snod hN (by assumption) (by assumption) (by assumption) fun _ => ?_ | refine sopd hN (by assumption) (by assumption) hm (by assumption) fun _ => ?_ | refine srow hN hk hkl (by assumption) fun _ => ?_ | refine sbra hN hk hkl (by assumption) fun _ => ?_ | fail)
    exact congrArg (PR t) (Fit.fin (by assumption))
  by_cases c11 : q = 11
  · subst c11
    have e0 : bodyT t N ⟨11, tx, v, kids, f, e⟩ = [[98, 111, 111, 108]] := by first | rfl | simp [bodyT, itemT, stmtT, letT, exprT, isTy, isSt, *]
    rw [e0] at hF
    simp only [List.append_assoc, List.cons_append, List.nil_append] at hF
    repeat' (first | refine run ⟨?_⟩ | refine sput (by assumption) fun _ => ?_ | refine snod hN (by assumption) (by assumption) (by assumption) fun _ => ?_ | refine sopd hN (by assumption) (by assumption) hm (by assumption) fun _ => ?_ | refine srow hN hk hkl (by assumption) fun _ => ?_ | refine sbra hN hk hkl (by assumption) fun _ => ?_ | fail)
    exact congrArg (PR t) (Fit.fin (by assumption))
  by_cases c12 : q = 12
  · subst c12
    have e0 : bodyT t N ⟨12, tx, v, kids, f, e⟩ = [[40], [41]] := by first | rfl | simp [bodyT, itemT, stmtT, letT, exprT, isTy, isSt, *]
    rw [e0] at hF
    simp only [List.append_assoc, List.cons_append, List.nil_append] at hF
    repeat' (first | refine run ⟨?_⟩ | refine sput (by assumption) fun _ => ?_ | refine snod hN (by assumption) (by assumption) (by assumption) fun _ => ?_ | refine sopd hN (by assumption) (by assumption) hm (by assumption) fun _ => ?_ | refine srow hN hk hkl (by assumption) fun _ => ?_ | refine sbra hN hk hkl (by assumption) fun _ => ?_ | fail)
    exact congrArg (PR t) (Fit.fin (by assumption))
  by_cases c13 : q = 13
  · subst c13
    have e0 : bodyT t N ⟨13, tx, v, kids, f, e⟩ = [tx] := by first | rfl | simp [bodyT, itemT, stmtT, letT, exprT, isTy, isSt, *]
    rw [e0] at hF
    simp only [List.append_assoc, List.cons_append, List.nil_append] at hF
    repeat' (first | refine run ⟨?_⟩ | refine sput (by assumption) fun _ => ?_ | refine snod hN (by assumption) (by assumption) (by assumption) fun _ => ?_ | refine sopd hN (by assumption) (by assumption) hm (by assumption) fun _ => ?_ | refine srow hN hk hkl (by assumption) fun _ => ?_ | refine sbra hN hk hkl (by assumption) fun _ => ?_ | fail)
    exact congrArg (PR t) (Fit.fin (by assumption))
  by_cases c14 : q = 14
  · subst c14
    obtain ⟨a, rfl⟩ := one_of (hlen.2.1 (by omega))
    obtain ⟨ha, ha'⟩ := hk a (by simp)
    have e0 : bodyT t N ⟨14, tx, v, [a], f, e⟩ = [[38]] ++ N a := by first | rfl | simp [bodyT, itemT, stmtT, letT, exprT, isTy, isSt, *]
    rw [e0] at hF
    simp only [List.append_assoc, List.cons_append, List.nil_append] at hF
    repeat' (first | refine run ⟨?_⟩ | refine sput (by assumption) fun _ => ?_ | refine snod hN (by assumption) (by assumption) (by assumption) fun _ => ?_ | refine sopd hN (by assumption) (by assumption) hm (by assumption) fun _ => ?_ | refine srow hN hk hkl (by assumption) fun _ => ?_ | refine sbra hN hk hkl (by assumption) fun _ => ?_ | fail)
    exact congrArg (PR t) (Fit.fin (by assumption))
  by_cases c15 : q = 15
  · subst c15
    obtain ⟨a, rfl⟩ := one_of (hlen.2.1 (by omega))
    obtain ⟨ha, ha'⟩ := hk a (by simp)
    have e0 : bodyT t N ⟨15, tx, v, [a], f, e⟩ = [[38], [109, 117, 116]] ++ N a := by first | rfl | simp [bodyT, itemT, stmtT, letT, exprT, isTy, isSt, *]
    rw [e0] at hF
    simp only [List.append_assoc, List.cons_append, List.nil_append] at hF
    repeat' (first | refine run ⟨?_⟩ | refine sput (by assumption) fun _ => ?_ | refine snod hN (by assumption) (by assumption) (by assumption) fun _ => ?_ | refine sopd hN (by assumption) (by assumption) hm (by assumption) fun _ => ?_ | refine srow hN hk hkl (by assumption) fun _ => ?_ | refine sbra hN hk hkl (by assumption) fun _ => ?_ | fail)
    exact congrArg (PR t) (Fit.fin (by assumption))
  by_cases c16 : q = 16
  · subst c16
    obtain ⟨a, rfl⟩ := one_of (hlen.2.1 (by omega))
    obtain ⟨ha, ha'⟩ := hk a (by simp)
    have e0 : bodyT t N ⟨16, tx, v, [a], f, e⟩ = [[66, 111, 120], [60]] ++ N a ++ [[62]] := by first | rfl | simp [bodyT, itemT, stmtT, letT, exprT, isTy, isSt, *]
    rw [e0] at hF
    simp only [List.append_assoc, List.cons_append, List.nil_append] at hF
    repeat' (first | refine run ⟨?_⟩ | refine sput (by assumption) fun _ => ?_ | refine snod hN (by assumption) (by assumption) (by assumption) fun _ => ?_ | refine sopd hN (by assumption) (by assumption) hm (by assumption) fun _ => ?_ | refine srow hN hk hkl (by assumption) fun _ => ?_ | refine sbra hN hk hkl (by assumption) fun _ => ?_ | fail)
    exact congrArg (PR t) (Fit.fin (by assumption))
  clear hnm
  omega
set_option maxHeartbeats 1000000 in
theorem rprefix_ev (x : Nd) (hp : Px t m x) (hkn : x.k = 39 ∨ x.k = 40 ∨ x.k = 42 ∨ x.k = 43) (s : List UInt8) (X : Hp) (hs : s.length + wl (bodyT t N x) ≤ BIG) : evF (pgL fx) n_ref13_printer_prefix [.ptr 0 0, ndV x] (PR t s ++ X) = some (.tup [], PR t (J s (bodyT t N x)) ++ X) := by
  refine evF_ext (mv fx) (h := PR t s) (h' := PR t (J s (bodyT t N x))) ?_ rfl rfl rfl rfl rfl
  obtain ⟨q, tx, v, kids, f, e⟩ := x
  obtain ⟨hk, hm, hlen, hkl, hfn, ⟨hv1, hv2⟩, h52, h30, hnm, htl⟩ := hp
  simp only at hk hlen hkl hfn hv1 hv2 h52 h30 hnm htl hkn
  refine evF_wqOn t_ref13_printer_prefix rfl rfl rfl ?_
  have hF := fit_of hs
  generalize J s (bodyT t N ⟨q, tx, v, kids, f, e⟩) = tot at hF ⊢
  clear hs
  by_cases c39 : q = 39
  · subst c39
    obtain ⟨a, rfl⟩ := one_of (hlen.2.1 (by omega))
    obtain ⟨ha, ha'⟩ := hk a (by simp)
    have e0 : bodyT t N ⟨39, tx, v, [a], f, e⟩ = [[45]] ++ opdT t N a false := by first | rfl | simp [bodyT, itemT, stmtT, letT, exprT, isTy, isSt, *]
    rw [e0] at hF
    simp only [List.append_assoc, List.cons_append, List.nil_append] at hF
    repeat' (first | refine run ⟨?_⟩ | refine sput (by assumption) fun _ => ?_ | refine snod hN (by assumption) (by assumption) (by assumption) fun _ => ?_ | refine sopd hN (by assumption) (by assumption) hm (by assumption) fun _ => ?_ | refine srow hN hk hkl (by assumption) fun _ => ?_ | refine sbra hN hk hkl (by assumption) fun _ => ?_ | fail)
    exact congrArg (PR t) (Fit.fin (by assumption))
  by_cases c40 : q = 40
  · subst c40
    obtain ⟨a, rfl⟩ := one_of (hlen.2.1 (by omega))
    obtain ⟨ha, ha'⟩ := hk a (by simp)
    have e0 : bodyT t N ⟨40, tx, v, [a], f, e⟩ = [[33]] ++ opdT t N a false := by first | rfl | simp [bodyT, itemT, stmtT, letT, exprT, isTy, isSt, *]
    rw [e0] at hF
    simp only [List.append_assoc, List.cons_append, List.nil_append] at hF
    repeat' (first | refine run ⟨?_⟩ | refine sput (by assumption) fun _ => ?_ | refine snod hN (by assumption) (by assumption) (by assumption) fun _ => ?_ | refine sopd hN (by assumption) (by assumption) hm (by assumption) fun _ => ?_ | refine srow hN hk hkl (by assumption) fun _ => ?_ | refine sbra hN hk hkl (by assumption) fun _ => ?_ | fail)
    exact congrArg (PR t) (Fit.fin (by assumption))
  by_cases c42 : q = 42
  · subst c42
    obtain ⟨a, rfl⟩ := one_of (hlen.2.1 (by omega))
    obtain ⟨ha, ha'⟩ := hk a (by simp)
    have e0 : bodyT t N ⟨42, tx, v, [a], f, e⟩ = [[42]] ++ opdT t N a false := by first | rfl | simp [bodyT, itemT, stmtT, letT, exprT, isTy, isSt, *]
    rw [e0] at hF
    simp only [List.append_assoc, List.cons_append, List.nil_append] at hF
    repeat' (first | refine run ⟨?_⟩ | refine sput (by assumption) fun _ => ?_ | refine snod hN (by assumption) (by assumption) (by assumption) fun _ => ?_ | refine sopd hN (by assumption) (by assumption) hm (by assumption) fun _ => ?_ | refine srow hN hk hkl (by assumption) fun _ => ?_ | refine sbra hN hk hkl (by assumption) fun _ => ?_ | fail)
    exact congrArg (PR t) (Fit.fin (by assumption))
  by_cases c43 : q = 43
  · subst c43
    by_cases hv : v = 1
    · subst hv
      obtain ⟨a, rfl⟩ := one_of (hlen.2.1 (by omega))
      obtain ⟨ha, ha'⟩ := hk a (by simp)
      have e0 : bodyT t N ⟨43, tx, 1, [a], f, e⟩ = [[38], [109, 117, 116]] ++ opdT t N a false := by first | rfl | simp [bodyT, itemT, stmtT, letT, exprT, isTy, isSt, *]
      rw [e0] at hF
      simp only [List.append_assoc, List.cons_append, List.nil_append] at hF
      repeat' (first | refine run ⟨?_⟩ | refine sput (by assumption) fun _ => ?_ | refine snod hN (by assumption) (by assumption) (by assumption) fun _ => ?_ | refine sopd hN (by assumption) (by assumption) hm (by assumption) fun _ => ?_ | refine srow hN hk hkl (by assumption) fun _ => ?_ | refine sbra hN hk hkl (by assumption) fun _ => ?_ | fail)
      exact congrArg (PR t) (Fit.fin (by assumption))
    · skip
      obtain ⟨a, rfl⟩ := one_of (hlen.2.1 (by omega))
      obtain ⟨ha, ha'⟩ := hk a (by simp)
      have e0 : bodyT t N ⟨43, tx, v, [a], f, e⟩ = [[38]] ++ opdT t N a false := by first | rfl | simp [bodyT, itemT, stmtT, letT, exprT, isTy, isSt, *]
      rw [e0] at hF
      simp only [List.append_assoc, List.cons_append, List.nil_append] at hF
      repeat' (first | refine run ⟨?_⟩ | refine sput (by assumption) fun _ => ?_ | refine snod hN (by assumption) (by assumption) (by assumption) fun _ => ?_ | refine sopd hN (by assumption) (by assumption) hm (by assumption) fun _ => ?_ | refine srow hN hk hkl (by assumption) fun _ => ?_ | refine sbra hN hk hkl (by assumption) fun _ => ?_ | fail)
      exact congrArg (PR t) (Fit.fin (by assumption))
  clear hnm
  omega
set_option maxHeartbeats 1000000 in
theorem rcall_ev (x : Nd) (hp : Px t m x) (hkn : x.k = 34 ∨ x.k = 35 ∨ x.k = 36 ∨ x.k = 44) (s : List UInt8) (X : Hp) (hs : s.length + wl (bodyT t N x) ≤ BIG) : evF (pgL fx) n_ref13_printer_call [.ptr 0 0, ndV x] (PR t s ++ X) = some (.tup [], PR t (J s (bodyT t N x)) ++ X) := by
  refine evF_ext (mv fx) (h := PR t s) (h' := PR t (J s (bodyT t N x))) ?_ rfl rfl rfl rfl rfl
  obtain ⟨q, tx, v, kids, f, e⟩ := x
  obtain ⟨hk, hm, hlen, hkl, hfn, ⟨hv1, hv2⟩, h52, h30, hnm, htl⟩ := hp
  simp only at hk hlen hkl hfn hv1 hv2 h52 h30 hnm htl hkn
  refine evF_wqOn t_ref13_printer_call rfl rfl rfl ?_
  have hF := fit_of hs
  generalize J s (bodyT t N ⟨q, tx, v, kids, f, e⟩) = tot at hF ⊢
  clear hs
  by_cases c34 : q = 34
  · subst c34
    have e0 : bodyT t N ⟨34, tx, v, kids, f, e⟩ = [tx, [40]] ++ lstT N kids ++ [[41]] := by first | rfl | simp [bodyT, itemT, stmtT, letT, exprT, isTy, isSt, *]
    rw [e0] at hF
    simp only [List.append_assoc, List.cons_append, List.nil_append] at hF
    repeat' (first | refine run ⟨?_⟩ | refine sput (by assumption) fun _ => ?_ | refine snod hN (by assumption) (by assumption) (by assumption) fun _ => ?_ | refine sopd hN (by assumption) (by assumption) hm (by assumption) fun _ => ?_ | refine srow hN hk hkl (by assumption) fun _ => ?_ | refine sbra hN hk hkl (by assumption) fun _ => ?_ | fail)
    exact congrArg (PR t) (Fit.fin (by assumption))
  by_cases c35 : q = 35
  · subst c35
    have e0 : bodyT t N ⟨35, tx, v, kids, f, e⟩ = [tx, [123]] ++ lstT N kids ++ [[125]] := by first | rfl | simp [bodyT, itemT, stmtT, letT, exprT, isTy, isSt, *]
    rw [e0] at hF
    simp only [List.append_assoc, List.cons_append, List.nil_append] at hF
    repeat' (first | refine run ⟨?_⟩ | refine sput (by assumption) fun _ => ?_ | refine snod hN (by assumption) (by assumption) (by assumption) fun _ => ?_ | refine sopd hN (by assumption) (by assumption) hm (by assumption) fun _ => ?_ | refine srow hN hk hkl (by assumption) fun _ => ?_ | refine sbra hN hk hkl (by assumption) fun _ => ?_ | fail)
    exact congrArg (PR t) (Fit.fin (by assumption))
  by_cases c36 : q = 36
  · subst c36
    obtain ⟨a, rfl⟩ := one_of (hlen.2.1 (by omega))
    obtain ⟨ha, ha'⟩ := hk a (by simp)
    have e0 : bodyT t N ⟨36, tx, v, [a], f, e⟩ = [tx, [58]] ++ N a := by first | rfl | simp [bodyT, itemT, stmtT, letT, exprT, isTy, isSt, *]
    rw [e0] at hF
    simp only [List.append_assoc, List.cons_append, List.nil_append] at hF
    repeat' (first | refine run ⟨?_⟩ | refine sput (by assumption) fun _ => ?_ | refine snod hN (by assumption) (by assumption) (by assumption) fun _ => ?_ | refine sopd hN (by assumption) (by assumption) hm (by assumption) fun _ => ?_ | refine srow hN hk hkl (by assumption) fun _ => ?_ | refine sbra hN hk hkl (by assumption) fun _ => ?_ | fail)
    exact congrArg (PR t) (Fit.fin (by assumption))
  by_cases c44 : q = 44
  · subst c44
    obtain ⟨a, rfl⟩ := one_of (hlen.2.1 (by omega))
    obtain ⟨ha, ha'⟩ := hk a (by simp)
    have e0 : bodyT t N ⟨44, tx, v, [a], f, e⟩ = [[66, 111, 120], [58, 58], [110, 101, 119]] ++ ([[40]] ++ N a ++ [[41]]) := by first | rfl | simp [bodyT, itemT, stmtT, letT, exprT, isTy, isSt, *]
    rw [e0] at hF
    simp only [List.append_assoc, List.cons_append, List.nil_append] at hF
    repeat' (first | refine run ⟨?_⟩ | refine sput (by assumption) fun _ => ?_ | refine snod hN (by assumption) (by assumption) (by assumption) fun _ => ?_ | refine sopd hN (by assumption) (by assumption) hm (by assumption) fun _ => ?_ | refine srow hN hk hkl (by assumption) fun _ => ?_ | refine sbra hN hk hkl (by assumption) fun _ => ?_ | fail)
    exact congrArg (PR t) (Fit.fin (by assumption))
  clear hnm
  omega
set_option maxHeartbeats 1000000 in
theorem rstmt_ev (x : Nd) (hp : Px t m x) (hkn : isSt x.k = true) (s : List UInt8) (X : Hp) (hs : s.length + wl (bodyT t N x) ≤ BIG) : evF (pgL fx) n_ref13_printer_stmt [.ptr 0 0, ndV x] (PR t s ++ X) = some (.tup [], PR t (J s (bodyT t N x)) ++ X) := by
  refine evF_ext (mv fx) (h := PR t s) (h' := PR t (J s (bodyT t N x))) ?_ rfl rfl rfl rfl rfl
  obtain ⟨q, tx, v, kids, f, e⟩ := x
  obtain ⟨hk, hm, hlen, hkl, hfn, ⟨hv1, hv2⟩, h52, h30, hnm, htl⟩ := hp
  simp only at hk hlen hkl hfn hv1 hv2 h52 h30 hnm htl hkn
  refine evF_wqOn t_ref13_printer_stmt rfl rfl rfl ?_
  have hF := fit_of hs
  generalize J s (bodyT t N ⟨q, tx, v, kids, f, e⟩) = tot at hF ⊢
  clear hs
  simp only [isSt, Bool.and_eq_true, decide_eq_true_eq] at hkn
  by_cases c21 : q = 21
  · subst c21
    rcases hlen.2.2.2.1 rfl with hl2 | hl2
    · skip
      by_cases hv : v = 1
      · subst hv
        obtain ⟨a, rfl⟩ := one_of (hl2)
        obtain ⟨ha, ha'⟩ := hk a (by simp)
        have e0 : bodyT t N ⟨21, tx, 1, [a], f, e⟩ = [[108, 101, 116]] ++ [[109, 117, 116]] ++ [tx] ++ [] ++ [[61]] ++ N a ++ [[59]] := by first | rfl | simp [bodyT, itemT, stmtT, letT, exprT, isTy, isSt, *]
        rw [e0] at hF
        simp only [List.append_assoc, List.cons_append, List.nil_append] at hF
        repeat' (first | refine run ⟨?_⟩ | refine sput (by assumption) fun _ => ?_ | refine snod hN (by assumption) (by assumption) (by assumption) fun _ => ?_ | refine sopd hN (by assumption) (by assumption) hm (by assumption) fun _ => ?_ | refine srow hN hk hkl (by assumption) fun _ => ?_ | refine sbra hN hk hkl (by assumption) fun _ => ?_ | fail)
        exact congrArg (PR t) (Fit.fin (by assumption))
      · skip
        obtain ⟨a, rfl⟩ := one_of (hl2)
        obtain ⟨ha, ha'⟩ := hk a (by simp)
        have e0 : bodyT t N ⟨21, tx, v, [a], f, e⟩ = [[108, 101, 116]] ++ [] ++ [tx] ++ [] ++ [[61]] ++ N a ++ [[59]] := by show letT N _ = _; unfold letT; simp only [if_neg hv]; rfl
        rw [e0] at hF
        simp only [List.append_assoc, List.cons_append, List.nil_append] at hF
        repeat' (first | refine run ⟨?_⟩ | refine sput (by assumption) fun _ => ?_ | refine snod hN (by assumption) (by assumption) (by assumption) fun _ => ?_ | refine sopd hN (by assumption) (by assumption) hm (by assumption) fun _ => ?_ | refine srow hN hk hkl (by assumption) fun _ => ?_ | refine sbra hN hk hkl (by assumption) fun _ => ?_ | fail)
        exact congrArg (PR t) (Fit.fin (by assumption))
    · skip
      by_cases hv : v = 1
      · subst hv
        obtain ⟨a, b, rfl⟩ := two_of (hl2)
        obtain ⟨ha, ha'⟩ := hk a (by simp)
        obtain ⟨hb, hb'⟩ := hk b (by simp)
        have e0 : bodyT t N ⟨21, tx, 1, [a, b], f, e⟩ = [[108, 101, 116]] ++ [[109, 117, 116]] ++ [tx] ++ ([[58]] ++ N a) ++ [[61]] ++ N b ++ [[59]] := by first | rfl | simp [bodyT, itemT, stmtT, letT, exprT, isTy, isSt, *]
        rw [e0] at hF
        simp only [List.append_assoc, List.cons_append, List.nil_append] at hF
        repeat' (first | refine run ⟨?_⟩ | refine sput (by assumption) fun _ => ?_ | refine snod hN (by assumption) (by assumption) (by assumption) fun _ => ?_ | refine sopd hN (by assumption) (by assumption) hm (by assumption) fun _ => ?_ | refine srow hN hk hkl (by assumption) fun _ => ?_ | refine sbra hN hk hkl (by assumption) fun _ => ?_ | fail)
        exact congrArg (PR t) (Fit.fin (by assumption))
      · skip
        obtain ⟨a, b, rfl⟩ := two_of (hl2)
        obtain ⟨ha, ha'⟩ := hk a (by simp)
        obtain ⟨hb, hb'⟩ := hk b (by simp)
        have e0 : bodyT t N ⟨21, tx, v, [a, b], f, e⟩ = [[108, 101, 116]] ++ [] ++ [tx] ++ ([[58]] ++ N a) ++ [[61]] ++ N b ++ [[59]] := by show letT N _ = _; unfold letT; simp only [if_neg hv]; rfl
        rw [e0] at hF
        simp only [List.append_assoc, List.cons_append, List.nil_append] at hF
        repeat' (first | refine run ⟨?_⟩ | refine sput (by assumption) fun _ => ?_ | refine snod hN (by assumption) (by assumption) (by assumption) fun _ => ?_ | refine sopd hN (by assumption) (by assumption) hm (by assumption) fun _ => ?_ | refine srow hN hk hkl (by assumption) fun _ => ?_ | refine sbra hN hk hkl (by assumption) fun _ => ?_ | fail)
        exact congrArg (PR t) (Fit.fin (by assumption))
  by_cases c22 : q = 22
  · subst c22
    obtain ⟨a, rfl⟩ := one_of (hlen.2.1 (by omega))
    obtain ⟨ha, ha'⟩ := hk a (by simp)
    have e0 : bodyT t N ⟨22, tx, v, [a], f, e⟩ = N a ++ [[59]] := by first | rfl | simp [bodyT, itemT, stmtT, letT, exprT, isTy, isSt, *]
    rw [e0] at hF
    simp only [List.append_assoc, List.cons_append, List.nil_append] at hF
    repeat' (first | refine run ⟨?_⟩ | refine sput (by assumption) fun _ => ?_ | refine snod hN (by assumption) (by assumption) (by assumption) fun _ => ?_ | refine sopd hN (by assumption) (by assumption) hm (by assumption) fun _ => ?_ | refine srow hN hk hkl (by assumption) fun _ => ?_ | refine sbra hN hk hkl (by assumption) fun _ => ?_ | fail)
    exact congrArg (PR t) (Fit.fin (by assumption))
  by_cases c23 : q = 23
  · subst c23
    obtain ⟨a, b, rfl⟩ := two_of (hlen.2.2.2.2.1 (by omega))
    obtain ⟨ha, ha'⟩ := hk a (by simp)
    obtain ⟨hb, hb'⟩ := hk b (by simp)
    have e0 : bodyT t N ⟨23, tx, v, [a, b], f, e⟩ = opdT t N a false ++ [[61]] ++ opdT t N b false ++ [[59]] := by first | rfl | simp [bodyT, itemT, stmtT, letT, exprT, isTy, isSt, *]
    rw [e0] at hF
    simp only [List.append_assoc, List.cons_append, List.nil_append] at hF
    repeat' (first | refine run ⟨?_⟩ | refine sput (by assumption) fun _ => ?_ | refine snod hN (by assumption) (by assumption) (by assumption) fun _ => ?_ | refine sopd hN (by assumption) (by assumption) hm (by assumption) fun _ => ?_ | refine srow hN hk hkl (by assumption) fun _ => ?_ | refine sbra hN hk hkl (by assumption) fun _ => ?_ | fail)
    exact congrArg (PR t) (Fit.fin (by assumption))
  by_cases c24 : q = 24
  · subst c24
    obtain ⟨a, b, rfl⟩ := two_of (hlen.2.2.2.2.1 (by omega))
    obtain ⟨ha, ha'⟩ := hk a (by simp)
    obtain ⟨hb, hb'⟩ := hk b (by simp)
    have e0 : bodyT t N ⟨24, tx, v, [a, b], f, e⟩ = [[119, 104, 105, 108, 101]] ++ opdT t N a false ++ N b := by first | rfl | simp [bodyT, itemT, stmtT, letT, exprT, isTy, isSt, *]
    rw [e0] at hF
    simp only [List.append_assoc, List.cons_append, List.nil_append] at hF
    repeat' (first | refine run ⟨?_⟩ | refine sput (by assumption) fun _ => ?_ | refine snod hN (by assumption) (by assumption) (by assumption) fun _ => ?_ | refine sopd hN (by assumption) (by assumption) hm (by assumption) fun _ => ?_ | refine srow hN hk hkl (by assumption) fun _ => ?_ | refine sbra hN hk hkl (by assumption) fun _ => ?_ | fail)
    exact congrArg (PR t) (Fit.fin (by assumption))
  by_cases c25 : q = 25
  · subst c25
    rcases none_or_one (hlen.2.2.1 (by omega)) with rfl | ⟨a, rfl⟩
    · skip
      have e0 : bodyT t N ⟨25, tx, v, [], f, e⟩ = [[114, 101, 116, 117, 114, 110]] ++ [] ++ [[59]] := by first | rfl | simp [bodyT, itemT, stmtT, letT, exprT, isTy, isSt, *]
      rw [e0] at hF
      simp only [List.append_assoc, List.cons_append, List.nil_append] at hF
      repeat' (first | refine run ⟨?_⟩ | refine sput (by assumption) fun _ => ?_ | refine snod hN (by assumption) (by assumption) (by assumption) fun _ => ?_ | refine sopd hN (by assumption) (by assumption) hm (by assumption) fun _ => ?_ | refine srow hN hk hkl (by assumption) fun _ => ?_ | refine sbra hN hk hkl (by assumption) fun _ => ?_ | fail)
      exact congrArg (PR t) (Fit.fin (by assumption))
    · obtain ⟨ha, ha'⟩ := hk a (by simp)
      have e0 : bodyT t N ⟨25, tx, v, [a], f, e⟩ = [[114, 101, 116, 117, 114, 110]] ++ N a ++ [[59]] := by first | (show [[114, 101, 116, 117, 114, 110]] ++ List.flatMap N [a] ++ [[59]] = _; simp) | rfl | simp [bodyT, itemT, stmtT, letT, exprT, isTy, isSt, *]
      rw [e0] at hF
      simp only [List.append_assoc, List.cons_append, List.nil_append] at hF
      repeat' (first | refine run ⟨?_⟩ | refine sput (by assumption) fun _ => ?_ | refine snod hN (by assumption) (by assumption) (by assumption) fun _ => ?_ | refine sopd hN (by assumption) (by assumption) hm (by assumption) fun _ => ?_ | refine srow hN hk hkl (by assumption) fun _ => ?_ | refine sbra hN hk hkl (by assumption) fun _ => ?_ | fail)
      exact congrArg (PR t) (Fit.fin (by assumption))
  by_cases c26 : q = 26
  · subst c26
    have e0 : bodyT t N ⟨26, tx, v, kids, f, e⟩ = [[98, 114, 101, 97, 107], [59]] := by first | rfl | simp [bodyT, itemT, stmtT, letT, exprT, isTy, isSt, *]
    rw [e0] at hF
    simp only [List.append_assoc, List.cons_append, List.nil_append] at hF
    repeat' (first | refine run ⟨?_⟩ | refine sput (by assumption) fun _ => ?_ | refine snod hN (by assumption) (by assumption) (by assumption) fun _ => ?_ | refine sopd hN (by assumption) (by assumption) hm (by assumption) fun _ => ?_ | refine srow hN hk hkl (by assumption) fun _ => ?_ | refine sbra hN hk hkl (by assumption) fun _ => ?_ | fail)
    exact congrArg (PR t) (Fit.fin (by assumption))
  by_cases c27 : q = 27
  · subst c27
    have e0 : bodyT t N ⟨27, tx, v, kids, f, e⟩ = [[99, 111, 110, 116, 105, 110, 117, 101], [59]] := by first | rfl | simp [bodyT, itemT, stmtT, letT, exprT, isTy, isSt, *]
    rw [e0] at hF
    simp only [List.append_assoc, List.cons_append, List.nil_append] at hF
    repeat' (first | refine run ⟨?_⟩ | refine sput (by assumption) fun _ => ?_ | refine snod hN (by assumption) (by assumption) (by assumption) fun _ => ?_ | refine sopd hN (by assumption) (by assumption) hm (by assumption) fun _ => ?_ | refine srow hN hk hkl (by assumption) fun _ => ?_ | refine sbra hN hk hkl (by assumption) fun _ => ?_ | fail)
    exact congrArg (PR t) (Fit.fin (by assumption))
  clear hnm
  omega
set_option maxHeartbeats 1000000 in
theorem rchoice_ev (x : Nd) (hp : Px t m x) (hkn : x.k = 45 ∨ x.k = 46 ∨ x.k = 47) (s : List UInt8) (X : Hp) (hs : s.length + wl (bodyT t N x) ≤ BIG) : evF (pgL fx) n_ref13_printer_choice [.ptr 0 0, ndV x] (PR t s ++ X) = some (.tup [], PR t (J s (bodyT t N x)) ++ X) := by
  refine evF_ext (mv fx) (h := PR t s) (h' := PR t (J s (bodyT t N x))) ?_ rfl rfl rfl rfl rfl
  obtain ⟨q, tx, v, kids, f, e⟩ := x
  obtain ⟨hk, hm, hlen, hkl, hfn, ⟨hv1, hv2⟩, h52, h30, hnm, htl⟩ := hp
  simp only at hk hlen hkl hfn hv1 hv2 h52 h30 hnm htl hkn
  refine evF_wqOn t_ref13_printer_choice rfl rfl rfl ?_
  have hF := fit_of hs
  generalize J s (bodyT t N ⟨q, tx, v, kids, f, e⟩) = tot at hF ⊢
  clear hs
  by_cases c45 : q = 45
  · subst c45
    rcases hlen.2.2.2.2.2.1 rfl with hl2 | hl2
    · skip
      obtain ⟨a, b, rfl⟩ := two_of (hl2)
      obtain ⟨ha, ha'⟩ := hk a (by simp)
      obtain ⟨hb, hb'⟩ := hk b (by simp)
      have e0 : bodyT t N ⟨45, tx, v, [a, b], f, e⟩ = [[105, 102]] ++ opdT t N a false ++ N b ++ [] := by first | rfl | simp [bodyT, itemT, stmtT, letT, exprT, isTy, isSt, *]
      rw [e0] at hF
      simp only [List.append_assoc, List.cons_append, List.nil_append] at hF
      repeat' (first | refine run ⟨?_⟩ | refine sput (by assumption) fun _ => ?_ | refine snod hN (by assumption) (by assumption) (by assumption) fun _ => ?_ | refine sopd hN (by assumption) (by assumption) hm (by assumption) fun _ => ?_ | refine srow hN hk hkl (by assumption) fun _ => ?_ | refine sbra hN hk hkl (by assumption) fun _ => ?_ | fail)
      exact congrArg (PR t) (Fit.fin (by assumption))
    · skip
      obtain ⟨a, b, c, rfl⟩ := three_of (hl2)
      obtain ⟨ha, ha'⟩ := hk a (by simp)
      obtain ⟨hb, hb'⟩ := hk b (by simp)
      obtain ⟨hc, hc'⟩ := hk c (by simp)
      have e0 : bodyT t N ⟨45, tx, v, [a, b, c], f, e⟩ = [[105, 102]] ++ opdT t N a false ++ N b ++ ([[101, 108, 115, 101]] ++ N c) := by first | rfl | simp [bodyT, itemT, stmtT, letT, exprT, isTy, isSt, *]
      rw [e0] at hF
      simp only [List.append_assoc, List.cons_append, List.nil_append] at hF
      repeat' (first | refine run ⟨?_⟩ | refine sput (by assumption) fun _ => ?_ | refine snod hN (by assumption) (by assumption) (by assumption) fun _ => ?_ | refine sopd hN (by assumption) (by assumption) hm (by assumption) fun _ => ?_ | refine srow hN hk hkl (by assumption) fun _ => ?_ | refine sbra hN hk hkl (by assumption) fun _ => ?_ | fail)
      exact congrArg (PR t) (Fit.fin (by assumption))
  by_cases c46 : q = 46
  · subst c46
    have h1 := hlen.2.2.2.2.2.2 rfl
    obtain ⟨a, r, rfl⟩ : ∃ a r, kids = a :: r := by
      cases kids with
      | nil => simp at h1
      | cons a r => exact ⟨a, r, rfl⟩
    obtain ⟨ha, ha'⟩ := hk a (by simp)
    have hr : ∀ k ∈ r, 0 ≤ k ∧ k < m := fun k h => hk k (by simp [h])
    have hrl : r.length ≤ 1048576 := by simp only [List.length_cons] at hkl; omega
    have q1 : (1 : Int).toNat ≤ (List.map (D.int .i64) (a :: r)).length ∧ (List.map (D.int .i64) (a :: r)).length ≤ (List.map (D.int .i64) (a :: r)).length ∧ ((some (Opd.c (i64 1))).isNone || (List.map (D.int .i64) (a :: r)).all fun y => y.cells.length == 1) = true := ⟨by simp, Nat.le_refl _, by rw [ints_one]; rfl⟩
    have hv1' : V.d (.sl (List.drop (1 : Int).toNat (List.take (List.map (D.int .i64) (a :: r)).length (List.map (D.int .i64) (a :: r))))) = ints r := by rw [List.take_length]; rfl
    have e0 : bodyT t N ⟨46, tx, v, a :: r, f, e⟩ = [[109, 97, 116, 99, 104]] ++ opdT t N a false ++ [[123]] ++ lstT N r ++ [[125]] := by first | rfl | simp [bodyT, itemT, stmtT, letT, exprT, isTy, isSt, *]
    rw [e0] at hF
    simp only [List.append_assoc, List.cons_append, List.nil_append] at hF
    repeat' (first | refine run ⟨?_⟩ | refine sput (by assumption) fun _ => ?_ | refine snod hN (by assumption) (by assumption) (by assumption) fun _ => ?_ | refine sopd hN (by assumption) (by assumption) hm (by assumption) fun _ => ?_ | refine srow hN hk hkl (by assumption) fun _ => ?_ | refine sbra hN hk hkl (by assumption) fun _ => ?_ | refine And.intro q1 ?_ | refine sbra' hN hv1' hr hrl (by assumption) fun _ => ?_ | fail)
    exact congrArg (PR t) (Fit.fin (by assumption))
  by_cases c47 : q = 47
  · subst c47
    obtain ⟨a, b, rfl⟩ := two_of (hlen.2.2.2.2.1 (by omega))
    obtain ⟨ha, ha'⟩ := hk a (by simp)
    obtain ⟨hb, hb'⟩ := hk b (by simp)
    have e0 : bodyT t N ⟨47, tx, v, [a, b], f, e⟩ = N a ++ [[61, 62]] ++ N b := by first | rfl | simp [bodyT, itemT, stmtT, letT, exprT, isTy, isSt, *]
    rw [e0] at hF
    simp only [List.append_assoc, List.cons_append, List.nil_append] at hF
    repeat' (first | refine run ⟨?_⟩ | refine sput (by assumption) fun _ => ?_ | refine snod hN (by assumption) (by assumption) (by assumption) fun _ => ?_ | refine sopd hN (by assumption) (by assumption) hm (by assumption) fun _ => ?_ | refine srow hN hk hkl (by assumption) fun _ => ?_ | refine sbra hN hk hkl (by assumption) fun _ => ?_ | fail)
    exact congrArg (PR t) (Fit.fin (by assumption))
  clear hnm
  omega
end
end Go.Vm.Tre
namespace Go.Vm.Tre
open Go.Vm.Tp
set_option maxRecDepth 10000
set_option linter.unusedSimpArgs false
section
variable {fx : Nat → Option Obj} {t : List Nd}
theorem rnumber_ev (n : Int) (hn : I64 n) (h1 : -9223372036854775808 < n) (s : List UInt8) (X : Hp) (hs : s.length + wl (numT n) ≤ BIG) : evF (pgL fx) n_ref13_printer_number [.ptr 0 0, i64 n] (PR t s ++ X) = some (.tup [], PR t (J s (numT n)) ++ X) := by
  refine evF_ext (mv fx) (h := PR t s) (h' := PR t (J s (numT n))) ?_ rfl rfl rfl rfl rfl
  refine evF_wqOn t_ref13_printer_number rfl rfl rfl ?_
  have hF := fit_of hs
  generalize J s (numT n) = tot at hF ⊢
  unfold numT at hF
  unfold I64 at hn
  by_cases c : n < 0
  · rw [if_pos c, if_pos c] at hF
    simp only [List.append_assoc, List.cons_append, List.nil_append] at hF
    have w : IntKind.i64.wrap (0 - n) = -n := by rw [i64w (by omega)]; omega
    have hf := fun H => fmt_ev (fx := fx) H (IntKind.i64.wrap (0 - n)) (by rw [w]; unfold I64; omega)
    rw [← w] at hF
    repeat' (first | refine run ⟨?_⟩ | refine sput (by assumption) fun _ => ?_ | refine ca (hf _) ?_ | fail)
    exact congrArg (PR t) (Fit.fin (by assumption))
  · rw [if_neg c, if_neg c] at hF
    simp only [List.append_assoc, List.cons_append, List.nil_append] at hF
    have hf := fun H => fmt_ev (fx := fx) H n hn
    repeat' (first | refine run ⟨?_⟩ | refine sput (by assumption) fun _ => ?_ | refine ca (hf _) ?_ | fail)
    exact congrArg (PR t) (Fit.fin (by assumption))
variable {m : Int} {N : Int → Toks} (hN : NodR fx t m N)
include hN
set_option maxHeartbeats 1000000 in
theorem rpick_ev (x : Nd) (hp : Px t m x) (hq : x.k = 37 ∨ x.k = 54) (s : List UInt8) (X : Hp) (hs : s.length + wl (bodyT t N x) ≤ BIG) : evF (pgL fx) n_ref13_printer_pick [.ptr 0 0, ndV x] (PR t s ++ X) = some (.tup [], PR t (J s (bodyT t N x)) ++ X) := by
  refine evF_ext (mv fx) (h := PR t s) (h' := PR t (J s (bodyT t N x))) ?_ rfl rfl rfl rfl rfl
  obtain ⟨q, tx, v, kids, f, e⟩ := x
  obtain ⟨hk, hm, hlen, hkl, hfn, ⟨hv1, hv2⟩, h52, h30, hnm, htl⟩ := hp
  simp only at hk hlen hkl hnm htl hq
  obtain ⟨i, hi, hcut, hno, hat⟩ := hnm hq
  refine evF_wqOn t_ref13_printer_pick rfl rfl rfl ?_
  have hF := fit_of hs
  have e0 : bodyT t N ⟨q, tx, v, kids, f, e⟩ = namT tx ++ perT N kids := by rcases hq with rfl | rfl <;> rfl
  generalize J s (bodyT t N ⟨q, tx, v, kids, f, e⟩) = tot at hF ⊢
  rw [e0] at hF
  unfold namT at hF
  rw [hcut] at hF
  simp only [List.append_assoc, List.cons_append, List.nil_append] at hF
  clear hs e0 hcut hfn h52 h30 hnm
  refine run ⟨?_⟩
  refine wq_loop (α := Nat) (fun a => i - a) (fun a => [(0, .ptr 0 0), (3, .ptr 1 0), (4, i64 a)]) (fun _ => PR t s ++ [XB ⟨q, tx, v, kids, f, e⟩]) (fun a => a ≤ i) ?_ 0 (Nat.zero_le _) rfl rfl
  intro a ha
  by_cases h : a < i
  · obtain ⟨c, hc⟩ : ∃ c, tx[a]? = some c := ⟨tx[a], List.getElem?_eq_getElem (by omega)⟩
    have pc : 0 ≤ (a : Int) ∧ tx[(a : Int).toNat]? = some c := ⟨by omega, hc⟩
    have n58 : ¬ (c.toNat : Int) = 58 := fun e => hno a h (by rw [hc, show c = 58 from UInt8.toNat_inj.1 (by have e2 : (58 : UInt8).toNat = 58 := rfl; omega)])
    have d : (!decide ((c.toNat : Int) = 58)) = true := by rw [decide_eq_false n58]; rfl
    repeat' (first | refine run ⟨?_⟩ | refine pickD pc ?_ | fail)
    exact ⟨a + 1, by omega, by omega, by rw [i64w (by omega)]; rfl, rfl⟩
  · obtain rfl : a = i := by omega
    have pc : 0 ≤ (a : Int) ∧ tx[(a : Int).toNat]? = some 58 := ⟨by omega, hat⟩
    have i0 : (0 : Int) ≤ (a : Int) := by omega
    have q1 : 0 ≤ (a : Int).toNat ∧ (a : Int).toNat ≤ tx.length := by omega
    have w2 : IntKind.i64.wrap ((a : Int) + 2) = ((a + 2 : Nat) : Int) := by rw [i64w (by omega)]; rfl
    have j0 : (0 : Int) ≤ IntKind.i64.wrap ((a : Int) + 2) := by omega
    have q2 : (IntKind.i64.wrap ((a : Int) + 2)).toNat ≤ tx.length ∧ tx.length ≤ tx.length := by omega
    have e1 : List.drop 0 (List.take (a : Int).toNat tx) = tx.take a := by rw [List.drop_zero]; rfl
    have e2 : List.drop (IntKind.i64.wrap ((a : Int) + 2)).toNat (List.take tx.length tx) = tx.drop (a + 2) := by rw [List.take_length, w2]; rfl
    rw [← e1, ← e2] at hF
    rcases none_or_one (hlen.2.2.1 (by omega)) with rfl | ⟨k, rfl⟩
    · simp only [perT] at hF
      repeat' (first | refine run ⟨?_⟩ | refine pickD pc ?_ | refine And.intro i0 ?_ | refine And.intro q1 ?_ | refine And.intro j0 ?_ | refine And.intro q2 ?_ | refine sput (by assumption) fun _ => ?_ | fail)
      exact congrArg (PR t) (Fit.fin (by assumption))
    · simp only [perT, List.append_assoc, List.cons_append, List.nil_append] at hF
      obtain ⟨ha, ha'⟩ := hk k (by simp)
      repeat' (first | refine run ⟨?_⟩ | refine pickD pc ?_ | refine And.intro i0 ?_ | refine And.intro q1 ?_ | refine And.intro j0 ?_ | refine And.intro q2 ?_ | refine sput (by assumption) fun _ => ?_ | refine snod hN (by assumption) (by assumption) (by assumption) fun _ => ?_ | fail)
      exact congrArg (PR t) (Fit.fin (by assumption))
set_option maxHeartbeats 2000000 in
theorem ritem_ev (x : Nd) (hp : Px t m x) (hkn : 1 ≤ x.k ∧ x.k ≤ 7) (s : List UInt8) (X : Hp) (hs : s.length + wl (bodyT t N x) ≤ BIG) : evF (pgL fx) n_ref13_printer_item [.ptr 0 0, ndV x] (PR t s ++ X) = some (.tup [], PR t (J s (bodyT t N x)) ++ X) := by
  refine evF_ext (mv fx) (h := PR t s) (h' := PR t (J s (bodyT t N x))) ?_ rfl rfl rfl rfl rfl
  obtain ⟨q, tx, v, kids, f, e⟩ := x
  obtain ⟨hk, hm, hlen, hkl, hfn, ⟨hv1, hv2⟩, h52, h30, hnm, htl⟩ := hp
  simp only at hk hlen hkl hfn hv1 hv2 htl hkn
  refine evF_wqOn t_ref13_printer_item rfl rfl rfl ?_
  have hF := fit_of hs
  generalize J s (bodyT t N ⟨q, tx, v, kids, f, e⟩) = tot at hF ⊢
  clear hs hnm h52 h30
  have hml : (kids.map (D.int .i64)).length = kids.length := List.length_map ..
  by_cases c1 : q = 1
  · subst c1
    have e0 : bodyT t N ⟨1, tx, v, kids, f, e⟩ = flT N kids 0 := rfl
    rw [e0, List.append_nil] at hF
    refine run ⟨?_⟩
    refine wq_loop (α := Nat × List UInt8) (fun a => kids.length - a.1) (fun a => [(0, .ptr 0 0), (34, ints kids), (35, i64 kids.length), (36, i64 a.1)]) (fun a => PR t a.2 ++ [XB ⟨1, tx, v, kids, f, e⟩]) (fun a => a.1 ≤ kids.length ∧ Fit tot a.2 (flT N kids a.1)) ?_ (0, s) ⟨Nat.zero_le _, hF⟩ ?_ rfl
    · rintro ⟨j, u⟩ ⟨hj, hF⟩
      simp only at hj hF ⊢
      by_cases h : j < kids.length
      · have h' : (j : Int) < (kids.length : Int) := by omega
        have hkj := hk _ (List.getElem_mem h)
        have e : kids.getD j 0 = kids[j] := by simp [h]
        rw [← e] at hkj
        obtain ⟨k0, k1⟩ := hkj
        have pj : 0 ≤ (j : Int) ∧ (kids.map (D.int .i64))[(j : Int).toNat]? = some (.int .i64 (kids.getD j 0)) := ⟨by omega, gK h⟩
        rw [fl_step N kids j h] at hF
        repeat' (first | refine run ⟨?_⟩ | refine pickD pj ?_ | refine snod hN k0 k1 hF fun _ => ?_ | fail)
        exact ⟨(j + 1, _), ⟨by show j + 1 ≤ _; omega, hF.app⟩, by show kids.length - (j + 1) < kids.length - j; omega, by rw [i64w (by omega)]; rfl, rfl⟩
      · have h' : ¬ (j : Int) < (kids.length : Int) := by omega
        obtain rfl : j = kids.length := by omega
        rw [fl_end] at hF
        refine run ⟨?_⟩
        exact congrArg (PR t) hF.fin
    · show [_, _, (35, i64 ((kids.map (D.int .i64)).length : Int)), _] = _
      rw [hml]; rfl
  by_cases c2 : q = 2
  · subst c2
    obtain ⟨hv, hn⟩ := hfn rfl
    obtain ⟨n, hn'⟩ : ∃ n, kids.length = n + 2 := ⟨kids.length - 2, by omega⟩
    rw [hn', Nat.add_sub_cancel] at hv
    subst hv
    have w2 : IntKind.i64.wrap (((kids.map (D.int .i64)).length : Int) - 2) = (n : Int) := by rw [hml, hn', i64w (by omega)]; omega
    have w1 : IntKind.i64.wrap (((kids.map (D.int .i64)).length : Int) - 1) = ((n + 1 : Nat) : Int) := by rw [hml, hn', i64w (by omega)]; omega
    have e0 : bodyT t N ⟨2, tx, (n : Int), kids, f, e⟩ = [[102, 110], tx, [40]] ++ lstT N (kids.take n) ++ [[41]] ++ (if kindAt t (kids.getD n 0) = 12 then [] else [[45, 62]] ++ N (kids.getD n 0)) ++ N (kids.getD (n + 1) 0) := rfl
    rw [e0] at hF
    clear e0
    have k0 := hk _ (List.getElem_mem (show n < kids.length by omega))
    have k1 := hk _ (List.getElem_mem (show n + 1 < kids.length by omega))
    have g0 : kids.getD n 0 = kids[n] := by simp [show n < kids.length by omega]
    have g1 : kids.getD (n + 1) 0 = kids[n + 1] := by simp [show n + 1 < kids.length by omega]
    rw [← g0] at k0
    rw [← g1] at k1
    have p2 : 0 ≤ IntKind.i64.wrap (((kids.map (D.int .i64)).length : Int) - 2) ∧ (kids.map (D.int .i64))[(IntKind.i64.wrap (((kids.map (D.int .i64)).length : Int) - 2)).toNat]? = some (.int .i64 (kids.getD n 0)) := by rw [w2]; exact ⟨by omega, gK (by omega)⟩
    have p1 : 0 ≤ IntKind.i64.wrap (((kids.map (D.int .i64)).length : Int) - 1) ∧ (kids.map (D.int .i64))[(IntKind.i64.wrap (((kids.map (D.int .i64)).length : Int) - 1)).toNat]? = some (.int .i64 (kids.getD (n + 1) 0)) := by rw [w1]; exact ⟨by omega, gK (by omega)⟩
    have i2 : 0 ≤ IntKind.i64.wrap (((kids.map (D.int .i64)).length : Int) - 2) := p2.1
    have q2 : 0 ≤ (IntKind.i64.wrap (((kids.map (D.int .i64)).length : Int) - 2)).toNat ∧ (IntKind.i64.wrap (((kids.map (D.int .i64)).length : Int) - 2)).toNat ≤ (kids.map (D.int .i64)).length ∧ ((none : Option Opd).isNone || (kids.map (D.int .i64)).all fun y => y.cells.length == 1) = true := ⟨Nat.zero_le _, by rw [w2]; omega, rfl⟩
    have hrv : V.d (.sl (List.drop 0 (List.take (IntKind.i64.wrap (((kids.map (D.int .i64)).length : Int) - 2)).toNat (kids.map (D.int .i64))))) = ints (kids.take n) := by rw [w2, List.drop_zero, ← List.map_take]; rfl
    have hrk : ∀ k ∈ kids.take n, 0 ≤ k ∧ k < m := fun k h => hk k (List.mem_of_mem_take h)
    have hrl : (kids.take n).length ≤ 1048576 := by rw [List.length_take]; omega
    have hg := ndD_at (t := t) k0.1 (by omega)
    have hq : (nd t (kids.getD n 0).toNat).k = kindAt t (kids.getD n 0) := rfl
    obtain ⟨k0, k0'⟩ := k0
    obtain ⟨k1, k1'⟩ := k1
    by_cases c : kindAt t (kids.getD n 0) = 12
    · have d : (!decide ((nd t (kids.getD n 0).toNat).k = 12)) = false := by rw [hq, decide_eq_true c]; rfl
      rw [if_pos c] at hF
      simp only [List.append_assoc, List.cons_append, List.nil_append] at hF
      repeat' (first | refine run ⟨?_⟩ | refine sput (by assumption) fun _ => ?_ | refine And.intro i2 ?_ | refine And.intro q2 ?_ | refine srow' hN hrv hrk hrl (by assumption) fun _ => ?_ | refine pickD p2 ?_ | refine pickD p1 ?_ | refine pickD hg ?_ | refine snod hN (by assumption) (by assumption) (by assumption) fun _ => ?_ | fail)
      exact congrArg (PR t) (Fit.fin (by assumption))
    · have d : (!decide ((nd t (kids.getD n 0).toNat).k = 12)) = true := by rw [hq, decide_eq_false c]; rfl
      rw [if_neg c] at hF
      simp only [List.append_assoc, List.cons_append, List.nil_append] at hF
      repeat' (first | refine run ⟨?_⟩ | refine sput (by assumption) fun _ => ?_ | refine And.intro i2 ?_ | refine And.intro q2 ?_ | refine srow' hN hrv hrk hrl (by assumption) fun _ => ?_ | refine pickD p2 ?_ | refine pickD p1 ?_ | refine pickD hg ?_ | refine snod hN (by assumption) (by assumption) (by assumption) fun _ => ?_ | fail)
      exact congrArg (PR t) (Fit.fin (by assumption))
  by_cases c3 : q = 3
  · subst c3
    have e0 : bodyT t N ⟨3, tx, v, kids, f, e⟩ = [[115, 116, 114, 117, 99, 116], tx, [123]] ++ lstT N kids ++ [[125]] := by first | rfl | simp [bodyT, itemT, isTy, isSt, *]
    rw [e0] at hF
    simp only [List.append_assoc, List.cons_append, List.nil_append] at hF
    repeat' (first | refine run ⟨?_⟩ | refine sput (by assumption) fun _ => ?_ | refine snod hN (by assumption) (by assumption) (by assumption) fun _ => ?_ | refine sbra hN hk hkl (by assumption) fun _ => ?_ | fail)
    exact congrArg (PR t) (Fit.fin (by assumption))
  by_cases c4 : q = 4
  · subst c4
    have e0 : bodyT t N ⟨4, tx, v, kids, f, e⟩ = [[101, 110, 117, 109], tx, [123]] ++ lstT N kids ++ [[125]] := by first | rfl | simp [bodyT, itemT, isTy, isSt, *]
    rw [e0] at hF
    simp only [List.append_assoc, List.cons_append, List.nil_append] at hF
    repeat' (first | refine run ⟨?_⟩ | refine sput (by assumption) fun _ => ?_ | refine snod hN (by assumption) (by assumption) (by assumption) fun _ => ?_ | refine sbra hN hk hkl (by assumption) fun _ => ?_ | fail)
    exact congrArg (PR t) (Fit.fin (by assumption))
  by_cases c6 : q = 6
  · subst c6
    rcases none_or_one (hlen.2.2.1 (by omega)) with rfl | ⟨a, rfl⟩
    · skip
      have e0 : bodyT t N ⟨6, tx, v, [], f, e⟩ = [tx] ++ [] := by first | rfl | simp [bodyT, itemT, isTy, isSt, *]
      rw [e0] at hF
      simp only [List.append_assoc, List.cons_append, List.nil_append] at hF
      repeat' (first | refine run ⟨?_⟩ | refine sput (by assumption) fun _ => ?_ | refine snod hN (by assumption) (by assumption) (by assumption) fun _ => ?_ | refine sbra hN hk hkl (by assumption) fun _ => ?_ | fail)
      exact congrArg (PR t) (Fit.fin (by assumption))
    · obtain ⟨ha, ha'⟩ := hk a (by simp)
      have e0 : bodyT t N ⟨6, tx, v, [a], f, e⟩ = [tx] ++ ([[40]] ++ N a ++ [[41]]) := by first | rfl | simp [bodyT, itemT, isTy, isSt, *]
      rw [e0] at hF
      simp only [List.append_assoc, List.cons_append, List.nil_append] at hF
      repeat' (first | refine run ⟨?_⟩ | refine sput (by assumption) fun _ => ?_ | refine snod hN (by assumption) (by assumption) (by assumption) fun _ => ?_ | refine sbra hN hk hkl (by assumption) fun _ => ?_ | fail)
      exact congrArg (PR t) (Fit.fin (by assumption))
  by_cases c7 : q = 7
  · subst c7
    obtain ⟨a, rfl⟩ := one_of (hlen.2.1 (by omega))
    obtain ⟨ha, ha'⟩ := hk a (by simp)
    by_cases hv : v = 1
    · subst hv
      have e0 : bodyT t N ⟨7, tx, 1, [a], f, e⟩ = [[109, 117, 116]] ++ [tx, [58]] ++ N a := by first | rfl | simp [bodyT, itemT, isTy, isSt, *]
      rw [e0] at hF
      simp only [List.append_assoc, List.cons_append, List.nil_append] at hF
      repeat' (first | refine run ⟨?_⟩ | refine sput (by assumption) fun _ => ?_ | refine snod hN (by assumption) (by assumption) (by assumption) fun _ => ?_ | refine sbra hN hk hkl (by assumption) fun _ => ?_ | fail)
      exact congrArg (PR t) (Fit.fin (by assumption))
    · skip
      have e0 : bodyT t N ⟨7, tx, v, [a], f, e⟩ = [tx, [58]] ++ N a := by first | rfl | simp [bodyT, itemT, isTy, isSt, *]
      rw [e0] at hF
      simp only [List.append_assoc, List.cons_append, List.nil_append] at hF
      repeat' (first | refine run ⟨?_⟩ | refine sput (by assumption) fun _ => ?_ | refine snod hN (by assumption) (by assumption) (by assumption) fun _ => ?_ | refine sbra hN hk hkl (by assumption) fun _ => ?_ | fail)
      exact congrArg (PR t) (Fit.fin (by assumption))
  by_cases c5 : q = 5
  · subst c5
    obtain ⟨a, rfl⟩ := one_of (hlen.2.1 (by omega))
    obtain ⟨ha, ha'⟩ := hk a (by simp)
    have e0 : bodyT t N ⟨5, tx, v, [a], f, e⟩ = [tx, [58]] ++ N a := by first | rfl | simp [bodyT, itemT, isTy, isSt, *]
    rw [e0] at hF
    simp only [List.append_assoc, List.cons_append, List.nil_append] at hF
    repeat' (first | refine run ⟨?_⟩ | refine sput (by assumption) fun _ => ?_ | refine snod hN (by assumption) (by assumption) (by assumption) fun _ => ?_ | refine sbra hN hk hkl (by assumption) fun _ => ?_ | fail)
    exact congrArg (PR t) (Fit.fin (by assumption))
  omega
end
end Go.Vm.Tre
namespace Go.Vm.Tre
open Go.Vm.Tp
open Go.Vm.Lex (nameB isLD)
set_option maxRecDepth 10000
set_option linter.unusedSimpArgs false
theorem name_no58 {s : List UInt8} (h : nameB s = true) (j : Nat) : s[j]? ≠ some 58 := by
  intro e
  have hm := List.mem_of_getElem? e
  unfold nameB at h
  simp only [Bool.and_eq_true] at h
  have hs : Go.Vm.Lex.speltB s = true := by simp_all
  unfold Go.Vm.Lex.speltB at hs
  simp only [Bool.and_eq_true] at hs
  have ha : s.all isLD = true := by simp_all
  have := List.all_eq_true.1 ha 58 hm
  revert this; decide
theorem pick_place {k : Int} {s : List UInt8} (h : nmB k s = true) (hk : k = 37 ∨ k = 54) : ∃ i, i + 2 ≤ s.length ∧ cutT s = (s.take i, s.drop (i + 2), true) ∧ (∀ j, j < i → s[j]? ≠ some 58) ∧ s[i]? = some 58 := by
  have e : nmB k s = ((cutT s).2.2 && nameB (cutT s).1 && nameB (cutT s).2.1) := by rcases hk with rfl | rfl <;> rfl
  rw [e] at h
  simp only [Bool.and_eq_true] at h
  obtain ⟨⟨h1, h2⟩, _⟩ := h
  rcases Lib.index_spec s [58, 58] with ⟨hi, _⟩ | ⟨i, hi, hil, ho, hno⟩
  · exfalso
    unfold cutT Lib.cut at h1
    rw [hi] at h1
    cases h1
  · have hr := Lib.index_room s [58, 58] (by rw [hi]; omega)
    rw [hi] at hr
    have hr2 : i + 2 ≤ s.length := by simp at hr; omega
    have hc := cut_hit hno hr2 ho
    refine ⟨i, hr2, hc, fun j hj => ?_, ?_⟩
    · rw [hc] at h2
      have := name_no58 h2 j
      rwa [List.getElem?_take_of_lt hj] at this
    · have o2 := occ2 s i
      rw [ho, decide_eq_true_eq] at o2
      have : ((s.take (i + 2)).drop i)[0]? = some 58 := by rw [o2]; rfl
      rw [List.getElem?_drop, Nat.add_zero, List.getElem?_take_of_lt (by omega)] at this
      exact this
section
variable {fx : Nat → Option Obj} {t : List Nd}
theorem px_of {i : Nat} {m : Int} (hno : NodOf t i (nd t i)) (hi : i < t.length) (him : (i : Int) ≤ m) (hm : m ≤ t.length) (hf : Fine t) : Px t m (nd t i) := by
  have hmem := nd_mem hi
  refine ⟨fun k hk => by have := hno.kid k hk; omega, hm, hno.len, hf.kid _ hmem, hno.fn, hf.iv _ hmem, fun e => ?_, fun e => ?_, fun e => pick_place hno.nm e, hf.txt _ hmem⟩
  · have := hno.num
    rw [e] at this
    have e2 : numB 52 (nd t i).v (params (kinds t (nd t i).kids)) = decide (-9223372036854775808 < (nd t i).v) := rfl
    rw [e2, decide_eq_true_eq] at this; exact this
  · have := hno.num
    rw [e] at this
    have e2 : numB 30 (nd t i).v (params (kinds t (nd t i).kids)) = decide (0 ≤ (nd t i).v) := rfl
    rw [e2, decide_eq_true_eq] at this; exact this
set_option maxHeartbeats 4000000 in
theorem rnode_step (f : Nat) (hN : NodR fx t f (fun k => prN t f k.toNat)) (hft : f < t.length) (k : Int) (h0 : 0 ≤ k) (hkf : k < (f + 1 : Nat)) (hno : NodOf t k.toNat (nd t k.toNat)) (hf : Fine t) (s : List UInt8) (X : Hp) (hs : s.length + wl (prN t (f + 1) k.toNat) ≤ BIG) : evF (pgL fx) n_ref13_printer_node [.ptr 0 0, i64 k] (PR t s ++ X) = some (.tup [], PR t (J s (prN t (f + 1) k.toNat)) ++ X) := by
  refine evF_ext (mv fx) (h := PR t s) (h' := PR t (J s (prN t (f + 1) k.toNat))) ?_ rfl rfl rfl rfl rfl
  obtain ⟨N, hNe⟩ : ∃ N : Int → Toks, N = fun k => prN t f k.toNat := ⟨_, rfl⟩
  rw [← hNe] at hN
  have eb : prN t (f + 1) k.toNat = bodyT t N (nd t k.toNat) := by rw [hNe]; rfl
  rw [eb] at hs ⊢
  clear eb hNe
  have hp : Px t f (nd t k.toNat) := px_of hno (by omega) (by omega) (by omega) hf
  have hkn := hno.kn
  have hg := ndD_at h0 (by omega : k < t.length)
  clear hno
  revert hs hp hkn hg
  generalize nd t k.toNat = x
  obtain ⟨q, tx, v, kids, fr, e⟩ := x
  intro hs hp hkn hg
  simp only at hkn
  refine evF_wqOn t_ref13_printer_node rfl rfl rfl ?_
  have hF := fit_of hs
  have hsF := hs
  have hk := hp.hk
  have hlen := hp.len
  have hkl := hp.kl
  have hm := hp.hm
  have iv := hp.iv
  simp only at hk hlen hkl iv
  have tT := fun H => risType_ev (fx := fx) H q
  have tS := fun H => risStmt_ev (fx := fx) H q
  by_cases c7 : q ≤ 7
  · have h1 : 1 ≤ q ∧ q ≤ 7 := by
      simp only [knownB, isTy, isSt, isPa, isEx, Bool.or_eq_true, Bool.and_eq_true, decide_eq_true_eq, Bool.not_eq_true', decide_eq_false_iff_not] at hkn; omega
    have hr := fun X => ritem_ev hN ⟨q, tx, v, kids, fr, e⟩ hp h1 s X hsF
    repeat' (first | refine run ⟨?_⟩ | refine pickD hg ?_ | refine ca (tT _) ?_ | refine ca (tS _) ?_ | refine ca (hr _) ?_ | fail)
    exact rfl
  cases cT : isTy q with
  | true =>
    rw [cT] at tT
    have hr := fun X => rtyped_ev hN ⟨q, tx, v, kids, fr, e⟩ hp cT s X hsF
    repeat' (first | refine run ⟨?_⟩ | refine pickD hg ?_ | refine ca (tT _) ?_ | refine ca (tS _) ?_ | refine ca (hr _) ?_ | fail)
    exact rfl
  | false =>
  rw [cT] at tT
  cases cS : isSt q with
  | true =>
    rw [cS] at tS
    have hr := fun X => rstmt_ev hN ⟨q, tx, v, kids, fr, e⟩ hp cS s X hsF
    repeat' (first | refine run ⟨?_⟩ | refine pickD hg ?_ | refine ca (tT _) ?_ | refine ca (tS _) ?_ | refine ca (hr _) ?_ | fail)
    exact rfl
  | false =>
  rw [cS] at tS
  by_cases c20 : q = 20
  · subst c20
    have hml : (kids.map (D.int .i64)).length = kids.length := List.length_map ..
    have e0 : bodyT t N ⟨20, tx, v, kids, fr, e⟩ = [[123]] ++ flT N kids 0 ++ [[125]] := rfl
    generalize J s (bodyT t N _) = tot at hF ⊢
    rw [e0] at hF
    simp only [List.append_assoc, List.cons_append, List.nil_append] at hF
    repeat' (first | refine run ⟨?_⟩ | refine pickD hg ?_ | refine ca (tT _) ?_ | refine ca (tS _) ?_ | refine sput hF fun _ => ?_ | fail)
    refine wq_loop (α := Nat × List UInt8) (fun a => kids.length - a.1) (fun a => [(0, .ptr 0 0), (46, ints kids), (47, i64 kids.length), (48, i64 a.1)]) (fun a => PR t a.2 ++ [XB ⟨20, tx, v, kids, fr, e⟩]) (fun a => a.1 ≤ kids.length ∧ Fit tot a.2 (flT N kids a.1 ++ [[125]])) ?_ (0, _) ⟨Nat.zero_le _, hF.cons⟩ ?_ rfl
    · rintro ⟨j, u⟩ ⟨hj, hF⟩
      simp only at hj hF ⊢
      by_cases h : j < kids.length
      · have h' : (j : Int) < (kids.length : Int) := by omega
        have hkj := hk _ (List.getElem_mem h)
        have e : kids.getD j 0 = kids[j] := by simp [h]
        rw [← e] at hkj
        obtain ⟨k0, k1⟩ := hkj
        have pj : 0 ≤ (j : Int) ∧ (kids.map (D.int .i64))[(j : Int).toNat]? = some (.int .i64 (kids.getD j 0)) := ⟨by omega, gK h⟩
        rw [fl_step N kids j h, List.append_assoc] at hF
        repeat' (first | refine run ⟨?_⟩ | refine pickD pj ?_ | refine snod hN k0 k1 hF fun _ => ?_ | fail)
        exact ⟨(j + 1, _), ⟨by show j + 1 ≤ _; omega, hF.app⟩, by show kids.length - (j + 1) < kids.length - j; omega, by rw [i64w (by omega)]; rfl, rfl⟩
      · have h' : ¬ (j : Int) < (kids.length : Int) := by omega
        obtain rfl : j = kids.length := by omega
        rw [fl_end, List.nil_append] at hF
        repeat' (first | refine run ⟨?_⟩ | refine sput hF fun _ => ?_ | fail)
        exact congrArg (PR t) hF.cons.fin
    · show [_, _, (47, i64 ((kids.map (D.int .i64)).length : Int)), _] = _
      rw [hml]; rfl
  by_cases c30 : q = 30
  · subst c30
    have hr := fun X => rnumber_ev (fx := fx) (t := t) v iv (by have := hp.n30 rfl; simp only at this; omega) s X hsF
    repeat' (first | refine run ⟨?_⟩ | refine pickD hg ?_ | refine ca (tT _) ?_ | refine ca (tS _) ?_ | refine ca (hr _) ?_ | fail)
    exact rfl
  by_cases c52 : q = 52
  · subst c52
    have hr := fun X => rnumber_ev (fx := fx) (t := t) v iv (hp.n52 rfl) s X hsF
    repeat' (first | refine run ⟨?_⟩ | refine pickD hg ?_ | refine ca (tT _) ?_ | refine ca (tS _) ?_ | refine ca (hr _) ?_ | fail)
    exact rfl
  by_cases c31 : q = 31
  · subst c31
    by_cases hv : v = 1
    · subst hv
      have e0 : bodyT t N ⟨31, tx, 1, kids, fr, e⟩ = [[116, 114, 117, 101]] := by first | rfl | simp [bodyT, primT, truT, isTy, isSt, *]
      generalize J s (bodyT t N _) = tot at hF ⊢
      rw [e0] at hF
      simp only [List.append_assoc, List.cons_append, List.nil_append] at hF
      repeat' (first | refine run ⟨?_⟩ | refine pickD hg ?_ | refine ca (tT _) ?_ | refine ca (tS _) ?_ | refine sput (by assumption) fun _ => ?_ | refine snod hN (by assumption) (by assumption) (by assumption) fun _ => ?_ | refine sopd hN (by assumption) (by assumption) hm (by assumption) fun _ => ?_ | fail)
      exact congrArg (PR t) (Fit.fin (by assumption))
    · skip
      have e0 : bodyT t N ⟨31, tx, v, kids, fr, e⟩ = [[102, 97, 108, 115, 101]] := by first | rfl | simp [bodyT, primT, truT, isTy, isSt, *]
      generalize J s (bodyT t N _) = tot at hF ⊢
      rw [e0] at hF
      simp only [List.append_assoc, List.cons_append, List.nil_append] at hF
      repeat' (first | refine run ⟨?_⟩ | refine pickD hg ?_ | refine ca (tT _) ?_ | refine ca (tS _) ?_ | refine sput (by assumption) fun _ => ?_ | refine snod hN (by assumption) (by assumption) (by assumption) fun _ => ?_ | refine sopd hN (by assumption) (by assumption) hm (by assumption) fun _ => ?_ | fail)
      exact congrArg (PR t) (Fit.fin (by assumption))
  by_cases c53 : q = 53
  · subst c53
    by_cases hv : v = 1
    · subst hv
      have e0 : bodyT t N ⟨53, tx, 1, kids, fr, e⟩ = [[116, 114, 117, 101]] := by first | rfl | simp [bodyT, primT, truT, isTy, isSt, *]
      generalize J s (bodyT t N _) = tot at hF ⊢
      rw [e0] at hF
      simp only [List.append_assoc, List.cons_append, List.nil_append] at hF
      repeat' (first | refine run ⟨?_⟩ | refine pickD hg ?_ | refine ca (tT _) ?_ | refine ca (tS _) ?_ | refine sput (by assumption) fun _ => ?_ | refine snod hN (by assumption) (by assumption) (by assumption) fun _ => ?_ | refine sopd hN (by assumption) (by assumption) hm (by assumption) fun _ => ?_ | fail)
      exact congrArg (PR t) (Fit.fin (by assumption))
    · skip
      have e0 : bodyT t N ⟨53, tx, v, kids, fr, e⟩ = [[102, 97, 108, 115, 101]] := by first | rfl | simp [bodyT, primT, truT, isTy, isSt, *]
      generalize J s (bodyT t N _) = tot at hF ⊢
      rw [e0] at hF
      simp only [List.append_assoc, List.cons_append, List.nil_append] at hF
      repeat' (first | refine run ⟨?_⟩ | refine pickD hg ?_ | refine ca (tT _) ?_ | refine ca (tS _) ?_ | refine sput (by assumption) fun _ => ?_ | refine snod hN (by assumption) (by assumption) (by assumption) fun _ => ?_ | refine sopd hN (by assumption) (by assumption) hm (by assumption) fun _ => ?_ | fail)
      exact congrArg (PR t) (Fit.fin (by assumption))
  by_cases c32 : q = 32
  · subst c32
    have e0 : bodyT t N ⟨32, tx, v, kids, fr, e⟩ = [[40], [41]] := by first | rfl | simp [bodyT, primT, truT, isTy, isSt, *]
    generalize J s (bodyT t N _) = tot at hF ⊢
    rw [e0] at hF
    simp only [List.append_assoc, List.cons_append, List.nil_append] at hF
    repeat' (first | refine run ⟨?_⟩ | refine pickD hg ?_ | refine ca (tT _) ?_ | refine ca (tS _) ?_ | refine sput (by assumption) fun _ => ?_ | refine snod hN (by assumption) (by assumption) (by assumption) fun _ => ?_ | refine sopd hN (by assumption) (by assumption) hm (by assumption) fun _ => ?_ | fail)
    exact congrArg (PR t) (Fit.fin (by assumption))
  by_cases c33 : q = 33
  · subst c33
    have e0 : bodyT t N ⟨33, tx, v, kids, fr, e⟩ = [tx] := by first | rfl | simp [bodyT, primT, truT, isTy, isSt, *]
    generalize J s (bodyT t N _) = tot at hF ⊢
    rw [e0] at hF
    simp only [List.append_assoc, List.cons_append, List.nil_append] at hF
    repeat' (first | refine run ⟨?_⟩ | refine pickD hg ?_ | refine ca (tT _) ?_ | refine ca (tS _) ?_ | refine sput (by assumption) fun _ => ?_ | refine snod hN (by assumption) (by assumption) (by assumption) fun _ => ?_ | refine sopd hN (by assumption) (by assumption) hm (by assumption) fun _ => ?_ | fail)
    exact congrArg (PR t) (Fit.fin (by assumption))
  by_cases c51 : q = 51
  · subst c51
    have e0 : bodyT t N ⟨51, tx, v, kids, fr, e⟩ = [tx] := by first | rfl | simp [bodyT, primT, truT, isTy, isSt, *]
    generalize J s (bodyT t N _) = tot at hF ⊢
    rw [e0] at hF
    simp only [List.append_assoc, List.cons_append, List.nil_append] at hF
    repeat' (first | refine run ⟨?_⟩ | refine pickD hg ?_ | refine ca (tT _) ?_ | refine ca (tS _) ?_ | refine sput (by assumption) fun _ => ?_ | refine snod hN (by assumption) (by assumption) (by assumption) fun _ => ?_ | refine sopd hN (by assumption) (by assumption) hm (by assumption) fun _ => ?_ | fail)
    exact congrArg (PR t) (Fit.fin (by assumption))
  by_cases c50 : q = 50
  · subst c50
    have e0 : bodyT t N ⟨50, tx, v, kids, fr, e⟩ = [[95]] := by first | rfl | simp [bodyT, primT, truT, isTy, isSt, *]
    generalize J s (bodyT t N _) = tot at hF ⊢
    rw [e0] at hF
    simp only [List.append_assoc, List.cons_append, List.nil_append] at hF
    repeat' (first | refine run ⟨?_⟩ | refine pickD hg ?_ | refine ca (tT _) ?_ | refine ca (tS _) ?_ | refine sput (by assumption) fun _ => ?_ | refine snod hN (by assumption) (by assumption) (by assumption) fun _ => ?_ | refine sopd hN (by assumption) (by assumption) hm (by assumption) fun _ => ?_ | fail)
    exact congrArg (PR t) (Fit.fin (by assumption))
  by_cases c37 : q = 37
  · subst c37
    have hr := fun X => rpick_ev hN ⟨37, tx, v, kids, fr, e⟩ hp (by simp) s X hsF
    repeat' (first | refine run ⟨?_⟩ | refine pickD hg ?_ | refine ca (tT _) ?_ | refine ca (tS _) ?_ | refine ca (hr _) ?_ | fail)
    exact rfl
  by_cases c54 : q = 54
  · subst c54
    have hr := fun X => rpick_ev hN ⟨54, tx, v, kids, fr, e⟩ hp (by simp) s X hsF
    repeat' (first | refine run ⟨?_⟩ | refine pickD hg ?_ | refine ca (tT _) ?_ | refine ca (tS _) ?_ | refine ca (hr _) ?_ | fail)
    exact rfl
  by_cases c38 : q = 38
  · subst c38
    obtain ⟨a, b, rfl⟩ := two_of (hlen.2.2.2.2.1 (by omega))
    obtain ⟨ha, ha'⟩ := hk a (by simp)
    obtain ⟨hb, hb'⟩ := hk b (by simp)
    have e0 : bodyT t N ⟨38, tx, v, [a, b], fr, e⟩ = opdT t N a false ++ [tx] ++ opdT t N b false := by first | rfl | simp [bodyT, primT, truT, isTy, isSt, *]
    generalize J s (bodyT t N _) = tot at hF ⊢
    rw [e0] at hF
    simp only [List.append_assoc, List.cons_append, List.nil_append] at hF
    repeat' (first | refine run ⟨?_⟩ | refine pickD hg ?_ | refine ca (tT _) ?_ | refine ca (tS _) ?_ | refine sput (by assumption) fun _ => ?_ | refine snod hN (by assumption) (by assumption) (by assumption) fun _ => ?_ | refine sopd hN (by assumption) (by assumption) hm (by assumption) fun _ => ?_ | fail)
    exact congrArg (PR t) (Fit.fin (by assumption))
  by_cases c41 : q = 41
  · subst c41
    obtain ⟨a, rfl⟩ := one_of (hlen.2.1 (by omega))
    obtain ⟨ha, ha'⟩ := hk a (by simp)
    have e0 : bodyT t N ⟨41, tx, v, [a], fr, e⟩ = opdT t N a true ++ [[46], tx] := by first | rfl | simp [bodyT, primT, truT, isTy, isSt, *]
    generalize J s (bodyT t N _) = tot at hF ⊢
    rw [e0] at hF
    simp only [List.append_assoc, List.cons_append, List.nil_append] at hF
    repeat' (first | refine run ⟨?_⟩ | refine pickD hg ?_ | refine ca (tT _) ?_ | refine ca (tS _) ?_ | refine sput (by assumption) fun _ => ?_ | refine snod hN (by assumption) (by assumption) (by assumption) fun _ => ?_ | refine sopd hN (by assumption) (by assumption) hm (by assumption) fun _ => ?_ | fail)
    exact congrArg (PR t) (Fit.fin (by assumption))
  by_cases c34 : q = 34
  · subst c34
    have hr := fun X => rcall_ev hN ⟨34, tx, v, kids, fr, e⟩ hp (by simp) s X hsF
    repeat' (first | refine run ⟨?_⟩ | refine pickD hg ?_ | refine ca (tT _) ?_ | refine ca (tS _) ?_ | refine ca (hr _) ?_ | fail)
    exact rfl
  by_cases c35 : q = 35
  · subst c35
    have hr := fun X => rcall_ev hN ⟨35, tx, v, kids, fr, e⟩ hp (by simp) s X hsF
    repeat' (first | refine run ⟨?_⟩ | refine pickD hg ?_ | refine ca (tT _) ?_ | refine ca (tS _) ?_ | refine ca (hr _) ?_ | fail)
    exact rfl
  by_cases c36 : q = 36
  · subst c36
    have hr := fun X => rcall_ev hN ⟨36, tx, v, kids, fr, e⟩ hp (by simp) s X hsF
    repeat' (first | refine run ⟨?_⟩ | refine pickD hg ?_ | refine ca (tT _) ?_ | refine ca (tS _) ?_ | refine ca (hr _) ?_ | fail)
    exact rfl
  by_cases c44 : q = 44
  · subst c44
    have hr := fun X => rcall_ev hN ⟨44, tx, v, kids, fr, e⟩ hp (by simp) s X hsF
    repeat' (first | refine run ⟨?_⟩ | refine pickD hg ?_ | refine ca (tT _) ?_ | refine ca (tS _) ?_ | refine ca (hr _) ?_ | fail)
    exact rfl
  by_cases c45 : q = 45
  · subst c45
    have hr := fun X => rchoice_ev hN ⟨45, tx, v, kids, fr, e⟩ hp (by simp) s X hsF
    repeat' (first | refine run ⟨?_⟩ | refine pickD hg ?_ | refine ca (tT _) ?_ | refine ca (tS _) ?_ | refine ca (hr _) ?_ | fail)
    exact rfl
  by_cases c46 : q = 46
  · subst c46
    have hr := fun X => rchoice_ev hN ⟨46, tx, v, kids, fr, e⟩ hp (by simp) s X hsF
    repeat' (first | refine run ⟨?_⟩ | refine pickD hg ?_ | refine ca (tT _) ?_ | refine ca (tS _) ?_ | refine ca (hr _) ?_ | fail)
    exact rfl
  by_cases c47 : q = 47
  · subst c47
    have hr := fun X => rchoice_ev hN ⟨47, tx, v, kids, fr, e⟩ hp (by simp) s X hsF
    repeat' (first | refine run ⟨?_⟩ | refine pickD hg ?_ | refine ca (tT _) ?_ | refine ca (tS _) ?_ | refine ca (hr _) ?_ | fail)
    exact rfl
  have h4 : q = 39 ∨ q = 40 ∨ q = 42 ∨ q = 43 := by
    simp only [knownB, isTy, isSt, isPa, isEx, Bool.or_eq_true, Bool.and_eq_true, Bool.and_eq_false_iff, decide_eq_true_eq, decide_eq_false_iff_not, Bool.not_eq_true'] at hkn cT cS; omega
  have hr := fun X => rprefix_ev hN ⟨q, tx, v, kids, fr, e⟩ hp h4 s X hsF
  repeat' (first | refine run ⟨?_⟩ | refine pickD hg ?_ | refine ca (tT _) ?_ | refine ca (tS _) ?_ | refine ca (hr _) ?_ | fail)
  exact rfl
theorem rnode_ok (hnod : ∀ i, i < t.length → NodOf t i (nd t i)) (hf : Fine t) : ∀ f, f ≤ t.length → NodR fx t f (fun k => prN t f k.toNat)
  | 0, _ => fun k h0 h1 => by omega
  | f + 1, h => fun k h0 h1 s X hs => rnode_step f (rnode_ok hnod hf f (by omega)) (by omega) k h0 h1 (hnod _ (by omega)) hf s X hs
end
end Go.Vm.Tre
