import Derived.Test.YtocpgkeiakjicaaGreatIteO2
import Derived.Test.YtocpgkeiakjicaaGreatVmClone
import Derived.Test.YtocpgkeiakjicaaGreatTreP4
import Derived.Lib.Join
set_option linter.unusedSimpArgs false
set_option linter.unusedVariables false
namespace Go.Vm.Ite
open Go.Vm.Tp (Nd treeD checkB isTy)
open Go.Vm.Ip
open Go.Vm.Io (In Rt nd txt tx fldOf mem ret namOf fncOf roots col1 col)
open Go.Vm.Itr (ndD_at)
set_option maxRecDepth 10000
set_option linter.unusedVariables false
set_option linter.unusedSimpArgs false
theorem take_map_succ {α β : Type} (f : α → β) {l : List α} {i : Nat} (h : i < l.length) : (l.take i).map f ++ [f l[i]] = (l.take (i + 1)).map f := by
 rw [List.take_add_one, List.getElem?_eq_getElem h, List.map_append]; rfl
theorem kidP {l : List Int} {i : Nat} (h : i < l.length) : 0 ≤ (i : Int) ∧ (l.map (D.int .i64))[(i : Int).toNat]? = some (.int .i64 l[i]) := ⟨by omega, by rw [Int.toNat_natCast, List.getElem?_map, List.getElem?_eq_getElem h]; rfl⟩
abbrev NBx (t : List Nd) (i : Int) : Ob := .box [.d (.int .i64 (nd t i).k), str (nd t i).t, .d (.int .i64 (nd t i).v), .d (.sl ((nd t i).kids.map (D.int .i64))), .d (.int .i64 (nd t i).f), .d (.int .i64 (nd t i).e)]
section
variable {fx : Nat → Option Obj} {t : List Nd}
set_option maxHeartbeats 8000000 in
theorem collect_s (h : Rf t) (l : List Int) (hll : l.length ≤ 1048576) (hl : ∀ n ∈ l, In t n ∧ ((nd t n).k = 2 ∨ (nd t n).k = 3 ∨ (nd t n).k = 4)) : evF (pgL fx F0) n_items_reader_collect [.ptr 0 0, .d (kidD l)] (H4x t ⟨[], [], []⟩ []) = some (.tup [i64 (col t l).2, boo (decide ((col t l).2 < 0))], H4x t (col t l).1 []) := by
 refine evF_wqOn (t_items_reader_collect (F := F0)) rfl rfl rfl ?_
 have hlen : (l.map (D.int .i64)).length = l.length := List.length_map ..
 refine run ⟨?_⟩
 refine wq_loop (α := Nat × Its × Int) (fun a => l.length - a.1) (fun a => [(0, .ptr 0 0), (6, i64 a.2.2), (21, .d (kidD l)), (22, i64 l.length), (23, i64 a.1)]) (fun a => H4x t a.2.1 []) (fun a => a.1 ≤ l.length ∧ (l.drop a.1).foldl (col1 t) a.2 = col t l ∧ a.2.1.ss.length ≤ a.1 ∧ a.2.1.es.length ≤ a.1 ∧ a.2.1.fs.length ≤ a.1) ?_ (0, ⟨[], [], []⟩, -1) ⟨Nat.zero_le _, by rw [List.drop_zero]; rfl, Nat.le_refl _, Nat.le_refl _, Nat.le_refl _⟩ (by show [_, _, _, (22, i64 ((l.map (D.int .i64)).length : Int)), _] = _; rw [hlen]; rfl) rfl
 rintro ⟨j, it, bad⟩ ⟨hj, hco, hs, he, hf⟩
 simp only at hj hco hs he hf ⊢
 by_cases hlt : j < l.length
 ·have c1 : (j : Int) < (l.length : Int) := by omega
  have pj := kidP hlt
  rw [List.drop_eq_getElem_cons hlt, List.foldl_cons] at hco
  obtain ⟨hin, hkk⟩ := hl _ (List.getElem_mem hlt)
  generalize l[j] = n at pj hco hin hkk
  have pn := nodeP hin
  have hkl := h.kl n
  have hkn : ((nd t n).kids.map (D.int .i64)).length = (nd t n).kids.length := List.length_map ..
  have wj : IntKind.i64.wrap ((j : Int) + 1) = ((j + 1 : Nat) : Int) := by rw [i64w (by omega)]; omega
  have wi : ∀ i : Nat, i < (nd t n).kids.length → IntKind.i64.wrap ((i : Int) + 1) = ((i + 1 : Nat) : Int) := fun i hi => by rw [i64w (by omega)]; omega
  rcases hkk with k2 | k3 | k4
  ·have y3 : ¬ (nd t n).k = 3 := by omega
   have y4 : ¬ (nd t n).k = 4 := by omega
   obtain ⟨ps, ra, rb, ek, hps, hra, hv⟩ := h.rt.fn n hin k2
   have hk : ∀ a ∈ ps, In t a ∧ ((nd t a).kids = [] ∨ ∃ b, (nd t a).kids = [b] ∧ isTy (nd t b).k = true) := fun a ha => by
     have hia := h.rt.inK hin (k := a) (by rw [ek]; exact List.mem_append_left _ ha)
     exact ⟨hia, .inr (h.rt.fd a hia (.inr (hps a ha)))⟩
   have hir : In t ra := h.rt.inK hin (k := ra) (by rw [ek]; simp)
   have hk2 : (nd t n).kids.length = ps.length + 2 := by rw [ek]; simp
   have ew : IntKind.i64.wrap ((((nd t n).kids.map (D.int .i64)).length : Int) - 2) = ((ps.length : Nat) : Int) := by rw [hkn, hk2, i64w (by omega)]; omega
   have pr : 0 ≤ IntKind.i64.wrap ((((nd t n).kids.map (D.int .i64)).length : Int) - 2) ∧ ((nd t n).kids.map (D.int .i64))[(IntKind.i64.wrap ((((nd t n).kids.map (D.int .i64)).length : Int) - 2)).toNat]? = some (.int .i64 ra) := by
    rw [ew, ek, Int.toNat_natCast]; exact ⟨by omega, by simp⟩
   have hte := fun H => text_ev (fx := fx) (F := F0) h hir hra H
   have s1 : 0 ≤ IntKind.i64.wrap ((((nd t n).kids.map (D.int .i64)).length : Int) - 2) := by rw [ew]; omega
   have s2 : 0 ≤ (IntKind.i64.wrap ((((nd t n).kids.map (D.int .i64)).length : Int) - 2)).toNat ∧ (IntKind.i64.wrap ((((nd t n).kids.map (D.int .i64)).length : Int) - 2)).toNat ≤ ((nd t n).kids.map (D.int .i64)).length ∧ true = true := ⟨Nat.zero_le _, by rw [ew, hkn, hk2]; omega, rfl⟩
   have hmem : mem t n = ps := by unfold mem; rw [if_pos k2, hk2, ek, Nat.add_sub_cancel]; simp
   have hret : ret t n = ra := by unfold ret; rw [hk2, ek, Nat.add_sub_cancel]; simp
   have hg : grew (H4x t it [NBx t n]) (H4x t it [NBx t n] ++ [.box [str [], .nils, .nils, str [], i64 0]]) = true := (grew_snoc _ _).trans rfl
   repeat' (first | refine run ⟨?_⟩ | refine pickD pj ?_ | refine pickD pn ?_ | refine pickD pr ?_ | refine ca (hte _) ?_ | refine And.intro hg ?_ | refine And.intro s1 ?_ | refine And.intro s2 ?_ | fail)
   rw [show List.drop 0 (List.take (IntKind.i64.wrap ((((nd t n).kids.map (D.int .i64)).length : Int) - 2)).toNat ((nd t n).kids.map (D.int .i64))) = ps.map (D.int .i64) from by rw [ew, Int.toNat_natCast, ek, List.map_append, List.drop_zero]; simp]
   have hpl : (ps.map (D.int .i64)).length = ps.length := List.length_map ..
   refine wq_loop (α := Nat × List Fld × List Bool) (fun a => ps.length - a.1) (fun a => [(0, .ptr 0 0), (6, i64 bad), (8, i64 n), (18, .ptr 5 0), (21, .d (kidD l)), (22, i64 l.length), (23, i64 j), (59, .d (kidD ps)), (60, i64 ps.length), (61, i64 a.1)]) (fun a => H4x t it [NBx t n, .box [str (nd t n).t, .row 6 a.2.1.length, .row 7 a.2.2.length, str (tx t ra), i64 n], .row 2 (a.2.1.map Fld.D), .row 1 (a.2.2.map .bool)]) (fun a => a.1 ≤ ps.length ∧ a.2.1 = (ps.take a.1).map (fldOf t) ∧ a.2.2 = (ps.take a.1).map (fun k => decide ((nd t k).v = 1))) ?_ (0, [], []) ⟨Nat.zero_le _, rfl, rfl⟩ (by show [_, _, _, _, _, _, _, _, (60, i64 ((ps.map (D.int .i64)).length : Int)), _] = _; rw [hpl]; rfl) rfl
   rintro ⟨i, fs, ms⟩ ⟨hi, hfs, hms⟩
   simp only at hi hfs hms ⊢
   have hfl : fs.length = i := by rw [hfs, List.length_map, List.length_take]; omega
   have hml : ms.length = i := by rw [hms, List.length_map, List.length_take]; omega
   by_cases hil : i < ps.length
   ·have c2 : (i : Int) < (ps.length : Int) := by omega
    have pi := kidP hil
    obtain ⟨hia, hka⟩ := hk _ (List.getElem_mem hil)
    have pa := nodeP hia
    have hfe := fun X => field_e (fx := fx) (F := F0) (x := it) (X := X) h hia hka
    have hroom : (fs.map Fld.D).length = fs.length ∧ roomy (fs.length + 1) 32 := ⟨List.length_map .., by unfold roomy; omega⟩
    have hroom2 : (ms.map D.bool).length = ms.length ∧ roomy (ms.length + 1) 1 := ⟨List.length_map .., by unfold roomy; omega⟩
    repeat' (first | refine run ⟨?_⟩ | refine pickD pi ?_ | refine pickD pa ?_ | refine ca (hfe _) ?_ | refine And.intro ⟨rfl, hroom⟩ ?_ | refine And.intro ⟨rfl, hroom2⟩ ?_ | refine And.intro ⟨rfl, by decide⟩ ?_ | fail)
    refine ⟨(i + 1, fs ++ [fldOf t ps[i]], ms ++ [decide ((nd t ps[i]).v = 1)]), ⟨by show i + 1 ≤ _; omega, by show _ ++ _ = _; rw [hfs]; exact take_map_succ _ hil, by show _ ++ _ = _; rw [hms]; exact take_map_succ (fun k => decide ((nd t k).v = 1)) hil⟩, by show _ - (i + 1) < _ - i; omega, by rw [wi i (by omega)]; rfl, ?_⟩
    show H4x t it [NBx t n, .box [str (nd t n).t, .row 6 (fs.length + 1), .row 7 (ms.length + 1), str (tx t ra), i64 n], .row 2 (fs.map Fld.D ++ [(fldOf t ps[i]).D]), .row 1 (ms.map .bool ++ [.bool (decide ((nd t ps[i]).v = 1))])] = _
    simp
   ·have c2 : ¬ (i : Int) < (ps.length : Int) := by omega
    have hie : i = ps.length := by omega
    have hfs2 : fs = ps.map (fldOf t) := by rw [hfs, hie, List.take_length]
    have hms2 : ms = ps.map (fun k => decide ((nd t k).v = 1)) := by rw [hms, hie, List.take_length]
    have ht : toD (H4x t it [NBx t n, .box [str (nd t n).t, .row 6 fs.length, .row 7 ms.length, str (tx t ra), i64 n], .row 2 (fs.map Fld.D), .row 1 (ms.map .bool)]) (.agg [str (nd t n).t, .row 6 fs.length, .row 7 ms.length, str (tx t ra), i64 n]) = some (fncOf t n).D := by
     simp [toD, toD1, toDs, fncOf, Fnc.D, fldsD, hmem, hret, hfs2, hms2]
    have hroom : (it.fs.map Fnc.D).length = it.fs.length ∧ roomy (it.fs.length + 1) 88 := ⟨List.length_map .., by unfold roomy; omega⟩
    have hcol : col1 t (it, bad) n = (⟨it.ss, it.es, it.fs ++ [fncOf t n]⟩, if 64 < it.fs.length + 1 ∧ bad < 0 then n else bad) := by
     unfold col1; simp [y3, y4]
    rw [hcol] at hco
    have fin : ∀ b : Int, (.box [.d (.sl (t.map Nd.D)), .row 1 it.ss.length, .row 2 it.es.length, .row 3 (it.fs.length + 1), .nul] :: .row 2 (it.ss.map Nam.D) :: .row 2 (it.es.map Nam.D) :: .row 5 (it.fs.map Fnc.D ++ [(fncOf t n).D]) :: [] : Hp) = H4x t ⟨it.ss, it.es, it.fs ++ [fncOf t n]⟩ [] := fun b => by simp
    by_cases f64 : 64 < it.fs.length + 1
    ·have d64 : (64 : Int) < ((it.fs.length + 1 : Nat) : Int) := by omega
     by_cases hb : bad < 0
     ·rw [if_pos ⟨f64, hb⟩] at hco
      repeat' (first | refine rund ⟨?_⟩ | refine q_dirty 8 (by decide) (by decide) ?_ | refine Exists.intro _ (And.intro ht ?_) | refine And.intro ⟨rfl, hroom⟩ ?_ | refine And.intro ⟨rfl, by decide⟩ ?_ | fail)
      exact ⟨(j + 1, ⟨it.ss, it.es, it.fs ++ [fncOf t n]⟩, n), ⟨by show j + 1 ≤ _; omega, hco, by show it.ss.length ≤ j + 1; omega, by show it.es.length ≤ j + 1; omega, by show (_ ++ [_]).length ≤ j + 1; rw [List.length_append, List.length_singleton]; omega⟩, by show _ - (j + 1) < _ - j; omega, by rw [wj]; rfl, fin 0⟩
     ·rw [if_neg (fun e => hb e.2)] at hco
      repeat' (first | refine rund ⟨?_⟩ | refine q_dirty 8 (by decide) (by decide) ?_ | refine Exists.intro _ (And.intro ht ?_) | refine And.intro ⟨rfl, hroom⟩ ?_ | refine And.intro ⟨rfl, by decide⟩ ?_ | fail)
      exact ⟨(j + 1, ⟨it.ss, it.es, it.fs ++ [fncOf t n]⟩, bad), ⟨by show j + 1 ≤ _; omega, hco, by show it.ss.length ≤ j + 1; omega, by show it.es.length ≤ j + 1; omega, by show (_ ++ [_]).length ≤ j + 1; rw [List.length_append, List.length_singleton]; omega⟩, by show _ - (j + 1) < _ - j; omega, by rw [wj]; rfl, fin 0⟩
    ·have d64 : ¬ (64 : Int) < ((it.fs.length + 1 : Nat) : Int) := by omega
     rw [if_neg (fun e => f64 e.1)] at hco
     repeat' (first | refine rund ⟨?_⟩ | refine q_dirty 8 (by decide) (by decide) ?_ | refine Exists.intro _ (And.intro ht ?_) | refine And.intro ⟨rfl, hroom⟩ ?_ | refine And.intro ⟨rfl, by decide⟩ ?_ | fail)
     exact ⟨(j + 1, ⟨it.ss, it.es, it.fs ++ [fncOf t n]⟩, bad), ⟨by show j + 1 ≤ _; omega, hco, by show it.ss.length ≤ j + 1; omega, by show it.es.length ≤ j + 1; omega, by show (_ ++ [_]).length ≤ j + 1; rw [List.length_append, List.length_singleton]; omega⟩, by show _ - (j + 1) < _ - j; omega, by rw [wj]; rfl, fin 0⟩
  ·have y3 := k3
   have hk : ∀ a ∈ (nd t n).kids, (nd t a).kids = [] ∨ ∃ b, (nd t a).kids = [b] ∧ isTy (nd t b).k = true := fun a ha => .inr (h.rt.fd a (h.rt.inK hin ha) (.inl (h.rt.st n hin k3 a ha)))
   repeat' (first | refine run ⟨?_⟩ | refine pickD pj ?_ | refine pickD pn ?_ | fail)
   refine wq_loop (α := Nat × List Fld) (fun a => (nd t n).kids.length - a.1) (fun a => [(0, .ptr 0 0), (6, i64 bad), (8, i64 n), (11, .ptr 5 0), (21, .d (kidD l)), (22, i64 l.length), (23, i64 j), (114, .d (kidD (nd t n).kids)), (115, i64 (nd t n).kids.length), (116, i64 a.1)]) (fun a => H4x t it [NBx t n, .box [str (nd t n).t, .row 6 a.2.length], .row 2 (a.2.map Fld.D)]) (fun a => a.1 ≤ (nd t n).kids.length ∧ a.2 = ((nd t n).kids.take a.1).map (fldOf t)) ?_ (0, []) ⟨Nat.zero_le _, rfl⟩ (by show [_, _, _, _, _, _, _, _, (115, i64 (((nd t n).kids.map (D.int .i64)).length : Int)), _] = _; rw [hkn]; rfl) rfl
   rintro ⟨i, fs⟩ ⟨hi, hfs⟩
   simp only at hi hfs ⊢
   have hfl : fs.length = i := by rw [hfs, List.length_map, List.length_take]; omega
   by_cases hil : i < (nd t n).kids.length
   ·have c2 : (i : Int) < ((nd t n).kids.length : Int) := by omega
    have pi := kidP hil
    have hm := List.getElem_mem hil
    have hfe := fun X => field_e (fx := fx) (F := F0) (x := it) (X := X) h (h.rt.inK hin hm) (hk _ hm)
    have hroom : (fs.map Fld.D).length = fs.length ∧ roomy (fs.length + 1) 32 := ⟨List.length_map .., by unfold roomy; omega⟩
    repeat' (first | refine run ⟨?_⟩ | refine pickD pi ?_ | refine ca (hfe _) ?_ | refine And.intro ⟨rfl, hroom⟩ ?_ | refine And.intro ⟨rfl, by decide⟩ ?_ | fail)
    refine ⟨(i + 1, fs ++ [fldOf t (nd t n).kids[i]]), ⟨by show i + 1 ≤ _; omega, by show _ ++ _ = _; rw [hfs]; exact take_map_succ _ hil⟩, by show _ - (i + 1) < _ - i; omega, by rw [wi i hil]; rfl, ?_⟩
    show H4x t it [NBx t n, .box [str (nd t n).t, .row 6 (fs.length + 1)], .row 2 (fs.map Fld.D ++ [(fldOf t (nd t n).kids[i]).D])] = _
    simp
   ·have c2 : ¬ (i : Int) < ((nd t n).kids.length : Int) := by omega
    have hie : i = (nd t n).kids.length := by omega
    have hfs2 : fs = (nd t n).kids.map (fldOf t) := by rw [hfs, hie, List.take_length]
    have ht : toD (H4x t it [NBx t n, .box [str (nd t n).t, .row 6 fs.length], .row 2 (fs.map Fld.D)]) (.agg [str (nd t n).t, .row 6 fs.length]) = some (namOf t n).D := by
     simp [toD, toD1, toDs, namOf, Nam.D, fldsD, hfs2]
    have hroom : (it.ss.map Nam.D).length = it.ss.length ∧ roomy (it.ss.length + 1) 40 := ⟨List.length_map .., by unfold roomy; omega⟩
    have hcol : col1 t (it, bad) n = (⟨it.ss ++ [namOf t n], it.es, it.fs⟩, if 64 < it.ss.length + 1 ∧ bad < 0 then n else bad) := by
     unfold col1; simp [k3]
    rw [hcol] at hco
    by_cases f64 : 64 < it.ss.length + 1
    ·have d64 : (64 : Int) < ((it.ss.length + 1 : Nat) : Int) := by omega
     by_cases hb : bad < 0
     ·rw [if_pos ⟨f64, hb⟩] at hco
      repeat' (first | refine rund ⟨?_⟩ | refine q_dirty 8 (by decide) (by decide) ?_ | refine Exists.intro _ (And.intro ht ?_) | refine And.intro ⟨rfl, hroom⟩ ?_ | refine And.intro ⟨rfl, by decide⟩ ?_ | fail)
      refine ⟨(j + 1, ⟨it.ss ++ [namOf t n], it.es, it.fs⟩, n), ⟨by show j + 1 ≤ _; omega, hco, by show (_ ++ [_]).length ≤ j + 1; rw [List.length_append, List.length_singleton]; omega, by show it.es.length ≤ j + 1; omega, by show it.fs.length ≤ j + 1; omega⟩, by show _ - (j + 1) < _ - j; omega, by rw [wj]; rfl, ?_⟩
      show (.box [.d (.sl (t.map Nd.D)), .row 1 (it.ss.length + 1), .row 2 (it.es.length), .row 3 (it.fs.length), .nul] :: .row 2 (it.ss.map Nam.D ++ [(namOf t n).D]) :: .row 2 (it.es.map Nam.D) :: .row 5 (it.fs.map Fnc.D) :: [] : Hp) = _
      simp
     ·rw [if_neg (fun e => hb e.2)] at hco
      repeat' (first | refine rund ⟨?_⟩ | refine q_dirty 8 (by decide) (by decide) ?_ | refine Exists.intro _ (And.intro ht ?_) | refine And.intro ⟨rfl, hroom⟩ ?_ | refine And.intro ⟨rfl, by decide⟩ ?_ | fail)
      refine ⟨(j + 1, ⟨it.ss ++ [namOf t n], it.es, it.fs⟩, bad), ⟨by show j + 1 ≤ _; omega, hco, by show (_ ++ [_]).length ≤ j + 1; rw [List.length_append, List.length_singleton]; omega, by show it.es.length ≤ j + 1; omega, by show it.fs.length ≤ j + 1; omega⟩, by show _ - (j + 1) < _ - j; omega, by rw [wj]; rfl, ?_⟩
      show (.box [.d (.sl (t.map Nd.D)), .row 1 (it.ss.length + 1), .row 2 (it.es.length), .row 3 (it.fs.length), .nul] :: .row 2 (it.ss.map Nam.D ++ [(namOf t n).D]) :: .row 2 (it.es.map Nam.D) :: .row 5 (it.fs.map Fnc.D) :: [] : Hp) = _
      simp
    ·have d64 : ¬ (64 : Int) < ((it.ss.length + 1 : Nat) : Int) := by omega
     rw [if_neg (fun e => f64 e.1)] at hco
     repeat' (first | refine rund ⟨?_⟩ | refine q_dirty 8 (by decide) (by decide) ?_ | refine Exists.intro _ (And.intro ht ?_) | refine And.intro ⟨rfl, hroom⟩ ?_ | refine And.intro ⟨rfl, by decide⟩ ?_ | fail)
     refine ⟨(j + 1, ⟨it.ss ++ [namOf t n], it.es, it.fs⟩, bad), ⟨by show j + 1 ≤ _; omega, hco, by show (_ ++ [_]).length ≤ j + 1; rw [List.length_append, List.length_singleton]; omega, by show it.es.length ≤ j + 1; omega, by show it.fs.length ≤ j + 1; omega⟩, by show _ - (j + 1) < _ - j; omega, by rw [wj]; rfl, ?_⟩
     show (.box [.d (.sl (t.map Nd.D)), .row 1 (it.ss.length + 1), .row 2 (it.es.length), .row 3 (it.fs.length), .nul] :: .row 2 (it.ss.map Nam.D ++ [(namOf t n).D]) :: .row 2 (it.es.map Nam.D) :: .row 5 (it.fs.map Fnc.D) :: [] : Hp) = _
     simp
  ·have y3 : ¬ (nd t n).k = 3 := by omega
   have y4 := k4
   have hk : ∀ a ∈ (nd t n).kids, (nd t a).kids = [] ∨ ∃ b, (nd t a).kids = [b] ∧ isTy (nd t b).k = true := fun a ha => h.rt.va a (h.rt.inK hin ha) (h.rt.en n hin k4 a ha)
   repeat' (first | refine run ⟨?_⟩ | refine pickD pj ?_ | refine pickD pn ?_ | fail)
   refine wq_loop (α := Nat × List Fld) (fun a => (nd t n).kids.length - a.1) (fun a => [(0, .ptr 0 0), (6, i64 bad), (8, i64 n), (14, .ptr 5 0), (21, .d (kidD l)), (22, i64 l.length), (23, i64 j), (154, .d (kidD (nd t n).kids)), (155, i64 (nd t n).kids.length), (156, i64 a.1)]) (fun a => H4x t it [NBx t n, .box [str (nd t n).t, .row 6 a.2.length], .row 2 (a.2.map Fld.D)]) (fun a => a.1 ≤ (nd t n).kids.length ∧ a.2 = ((nd t n).kids.take a.1).map (fldOf t)) ?_ (0, []) ⟨Nat.zero_le _, rfl⟩ (by show [_, _, _, _, _, _, _, _, (155, i64 (((nd t n).kids.map (D.int .i64)).length : Int)), _] = _; rw [hkn]; rfl) rfl
   rintro ⟨i, fs⟩ ⟨hi, hfs⟩
   simp only at hi hfs ⊢
   have hfl : fs.length = i := by rw [hfs, List.length_map, List.length_take]; omega
   by_cases hil : i < (nd t n).kids.length
   ·have c2 : (i : Int) < ((nd t n).kids.length : Int) := by omega
    have pi := kidP hil
    have hm := List.getElem_mem hil
    have hfe := fun X => field_e (fx := fx) (F := F0) (x := it) (X := X) h (h.rt.inK hin hm) (hk _ hm)
    have hroom : (fs.map Fld.D).length = fs.length ∧ roomy (fs.length + 1) 32 := ⟨List.length_map .., by unfold roomy; omega⟩
    repeat' (first | refine run ⟨?_⟩ | refine pickD pi ?_ | refine ca (hfe _) ?_ | refine And.intro ⟨rfl, hroom⟩ ?_ | refine And.intro ⟨rfl, by decide⟩ ?_ | fail)
    refine ⟨(i + 1, fs ++ [fldOf t (nd t n).kids[i]]), ⟨by show i + 1 ≤ _; omega, by show _ ++ _ = _; rw [hfs]; exact take_map_succ _ hil⟩, by show _ - (i + 1) < _ - i; omega, by rw [wi i hil]; rfl, ?_⟩
    show H4x t it [NBx t n, .box [str (nd t n).t, .row 6 (fs.length + 1)], .row 2 (fs.map Fld.D ++ [(fldOf t (nd t n).kids[i]).D])] = _
    simp
   ·have c2 : ¬ (i : Int) < ((nd t n).kids.length : Int) := by omega
    have hie : i = (nd t n).kids.length := by omega
    have hfs2 : fs = (nd t n).kids.map (fldOf t) := by rw [hfs, hie, List.take_length]
    have ht : toD (H4x t it [NBx t n, .box [str (nd t n).t, .row 6 fs.length], .row 2 (fs.map Fld.D)]) (.agg [str (nd t n).t, .row 6 fs.length]) = some (namOf t n).D := by
     simp [toD, toD1, toDs, namOf, Nam.D, fldsD, hfs2]
    have hroom : (it.es.map Nam.D).length = it.es.length ∧ roomy (it.es.length + 1) 40 := ⟨List.length_map .., by unfold roomy; omega⟩
    have hcol : col1 t (it, bad) n = (⟨it.ss, it.es ++ [namOf t n], it.fs⟩, if 64 < it.es.length + 1 ∧ bad < 0 then n else bad) := by
     unfold col1; simp [k4, y3]
    rw [hcol] at hco
    by_cases f64 : 64 < it.es.length + 1
    ·have d64 : (64 : Int) < ((it.es.length + 1 : Nat) : Int) := by omega
     by_cases hb : bad < 0
     ·rw [if_pos ⟨f64, hb⟩] at hco
      repeat' (first | refine rund ⟨?_⟩ | refine q_dirty 8 (by decide) (by decide) ?_ | refine Exists.intro _ (And.intro ht ?_) | refine And.intro ⟨rfl, hroom⟩ ?_ | refine And.intro ⟨rfl, by decide⟩ ?_ | fail)
      refine ⟨(j + 1, ⟨it.ss, it.es ++ [namOf t n], it.fs⟩, n), ⟨by show j + 1 ≤ _; omega, hco, by show it.ss.length ≤ j + 1; omega, by show (_ ++ [_]).length ≤ j + 1; rw [List.length_append, List.length_singleton]; omega, by show it.fs.length ≤ j + 1; omega⟩, by show _ - (j + 1) < _ - j; omega, by rw [wj]; rfl, ?_⟩
      show (.box [.d (.sl (t.map Nd.D)), .row 1 (it.ss.length), .row 2 (it.es.length + 1), .row 3 (it.fs.length), .nul] :: .row 2 (it.ss.map Nam.D) :: .row 2 (it.es.map Nam.D ++ [(namOf t n).D]) :: .row 5 (it.fs.map Fnc.D) :: [] : Hp) = _
      simp
     ·rw [if_neg (fun e => hb e.2)] at hco
      repeat' (first | refine rund ⟨?_⟩ | refine q_dirty 8 (by decide) (by decide) ?_ | refine Exists.intro _ (And.intro ht ?_) | refine And.intro ⟨rfl, hroom⟩ ?_ | refine And.intro ⟨rfl, by decide⟩ ?_ | fail)
      refine ⟨(j + 1, ⟨it.ss, it.es ++ [namOf t n], it.fs⟩, bad), ⟨by show j + 1 ≤ _; omega, hco, by show it.ss.length ≤ j + 1; omega, by show (_ ++ [_]).length ≤ j + 1; rw [List.length_append, List.length_singleton]; omega, by show it.fs.length ≤ j + 1; omega⟩, by show _ - (j + 1) < _ - j; omega, by rw [wj]; rfl, ?_⟩
      show (.box [.d (.sl (t.map Nd.D)), .row 1 (it.ss.length), .row 2 (it.es.length + 1), .row 3 (it.fs.length), .nul] :: .row 2 (it.ss.map Nam.D) :: .row 2 (it.es.map Nam.D ++ [(namOf t n).D]) :: .row 5 (it.fs.map Fnc.D) :: [] : Hp) = _
      simp
    ·have d64 : ¬ (64 : Int) < ((it.es.length + 1 : Nat) : Int) := by omega
     rw [if_neg (fun e => f64 e.1)] at hco
     repeat' (first | refine rund ⟨?_⟩ | refine q_dirty 8 (by decide) (by decide) ?_ | refine Exists.intro _ (And.intro ht ?_) | refine And.intro ⟨rfl, hroom⟩ ?_ | refine And.intro ⟨rfl, by decide⟩ ?_ | fail)
     refine ⟨(j + 1, ⟨it.ss, it.es ++ [namOf t n], it.fs⟩, bad), ⟨by show j + 1 ≤ _; omega, hco, by show it.ss.length ≤ j + 1; omega, by show (_ ++ [_]).length ≤ j + 1; rw [List.length_append, List.length_singleton]; omega, by show it.fs.length ≤ j + 1; omega⟩, by show _ - (j + 1) < _ - j; omega, by rw [wj]; rfl, ?_⟩
     show (.box [.d (.sl (t.map Nd.D)), .row 1 (it.ss.length), .row 2 (it.es.length + 1), .row 3 (it.fs.length), .nul] :: .row 2 (it.ss.map Nam.D) :: .row 2 (it.es.map Nam.D ++ [(namOf t n).D]) :: .row 5 (it.fs.map Fnc.D) :: [] : Hp) = _
     simp
 ·have c1 : ¬ (j : Int) < (l.length : Int) := by omega
  have hje : j = l.length := by omega
  rw [hje, List.drop_length, List.foldl_nil] at hco
  rw [← hco]
  refine run ⟨?_⟩
  exact rfl
end
end Go.Vm.Ite
namespace Go.Vm.Ite
open Go.Vm.Tp (Nd treeD checkB isTy)
open Go.Vm.Ip
open Go.Vm.Io (In Rt nd txt tx fldOf mem ret namOf fncOf roots dupG nmsG mem_sub mem_len)
set_option maxRecDepth 10000
set_option linter.unusedVariables false
set_option linter.unusedSimpArgs false
def dgO (t : List Nd) : Option (Int × Int) → D
 | none => Lex.dgD 0 0 0
 | some (c, n) => Lex.dgD c (nd t n).f (nd t n).e
abbrev ZBo : Ob := .box [i64 0, i64 0, i64 0]
section
variable {fx : Nat → Option Obj} {t : List Nd} {x : Its}
set_option maxHeartbeats 8000000 in
theorem names_s (h : Rf t) (l : List Int) (hll : l.length ≤ 1048576) (hl : ∀ n ∈ l, In t n) : evF (pgL fx F0) n_items_reader_names [.ptr 0 0, .d (kidD l)] (H9x t x []) = some (.d (dgO t (nmsG t [] [printT, readT, panicT] l)), H9x t x []) := by
 refine evF_wqOn (t_items_reader_names (F := F0)) rfl rfl rfl ?_
 have hlen : (l.map (D.int .i64)).length = l.length := List.length_map ..
 refine run ⟨?_⟩
 refine wq_loop (α := Nat × List S × List S) (fun a => l.length - a.1) (fun a => [(0, .ptr 0 0), (4, .ptr 9 0), (5, .mp 10), (6, .mp 11), (19, .d (kidD l)), (20, i64 l.length), (21, i64 a.1)]) (fun a => H9x t x [ZBo, .map (seenM a.2.1), .map (seenM a.2.2)]) (fun a => a.1 ≤ l.length ∧ nmsG t a.2.1 a.2.2 (l.drop a.1) = nmsG t [] [printT, readT, panicT] l) ?_ (0, [], [printT, readT, panicT]) ⟨Nat.zero_le _, by rw [List.drop_zero]⟩ (by show [_, _, _, _, _, (20, i64 ((l.map (D.int .i64)).length : Int)), _] = _; rw [hlen]; rfl) rfl
 rintro ⟨j, ts, fs⟩ ⟨hj, hco⟩
 simp only at hj hco ⊢
 by_cases hlt : j < l.length
 ·have c1 : (j : Int) < (l.length : Int) := by omega
  have pj := kidP hlt
  rw [List.drop_eq_getElem_cons hlt] at hco
  have hin := hl _ (List.getElem_mem hlt)
  generalize l[j] = n at pj hco hin
  have pn := nodeP hin
  have wj : IntKind.i64.wrap ((j : Int) + 1) = ((j + 1 : Nat) : Int) := by rw [i64w (by omega)]; omega
  obtain ⟨ms, hms⟩ : ∃ ms, ms = mem t n := ⟨_, rfl⟩
  have hml : ms.length ≤ 1048576 := by rw [hms]; exact Nat.le_trans (mem_len t n) (h.kl n)
  have hmi : ∀ k ∈ ms, In t k := fun k hk => h.rt.inK hin (mem_sub (by rw [hms] at hk; exact hk))
  have hmm : (ms.map (D.int .i64)).length = ms.length := List.length_map ..
  have hki := fun X => kids_e (fx := fx) (F := F0) (x := x) (X := X) h hin
  have hdg := fun e X => diag9_e (fx := fx) (F := F0) (x := x) (X := X) (e := e) hin
  have hdk := fun k (hk : k ∈ ms) e X => diag9_e (fx := fx) (F := F0) (x := x) (X := X) (e := e) (hmi k hk)
  rw [← hms] at hki
  rw [← hco, nmsG]
  rw [← hms]
  have t1 := seenM_keys ts
  have t2 := seenM_find (nd t n).t ts
  have t3 := seenM_set (nd t n).t ts
  have f1 := seenM_keys fs
  have f2 := seenM_find (nd t n).t fs
  have f3 := seenM_set (nd t n).t fs
  by_cases k2 : (nd t n).k = 2
  ·rw [if_pos k2]
   by_cases hm : (nd t n).t ∈ fs
   ·rw [if_pos hm] at f2 ⊢
    repeat' (first | refine run ⟨?_⟩ | refine pickD pj ?_ | refine pickD pn ?_ | refine mg f1 f2 ?_ | refine ca (hdg _ _) ?_ | fail)
    exact rfl
   rw [if_neg hm] at f2 ⊢
   have f3 := f3 hm
   by_cases hmost : 6 < ms.length
   ·have d : (6 : Int) < ((ms.map (D.int .i64)).length : Int) := by omega
    rw [if_pos hmost]
    repeat' (first | refine run ⟨?_⟩ | refine pickD pj ?_ | refine pickD pn ?_ | refine mg f1 f2 ?_ | refine And.intro f1 ?_ | refine ca (hki _) ?_ | refine ca (hdg _ _) ?_ | fail)
    exact rfl
   have d : ¬ (6 : Int) < ((ms.map (D.int .i64)).length : Int) := by omega
   rw [if_neg hmost]
   repeat' (first | refine run ⟨?_⟩ | refine pickD pj ?_ | refine pickD pn ?_ | refine mg f1 f2 ?_ | refine And.intro f1 ?_ | refine ca (hki _) ?_ | fail)
   refine wq_loop (α := Nat × List S) (fun a => ms.length - a.1) (fun a => [(0, .ptr 0 0), (4, .ptr 9 0), (5, .mp 10), (6, .mp 11), (13, .mp 13), (19, .d (kidD l)), (20, i64 l.length), (21, i64 j), (62, .d (kidD ms)), (63, i64 ms.length), (64, i64 a.1)]) (fun a => H9x t x [ZBo, .map (seenM ts), .map (seenM (fs ++ [(nd t n).t])), NBx t n, .map (seenM a.2)]) (fun a => a.1 ≤ ms.length ∧ dupG t a.2 (ms.drop a.1) = dupG t [] ms) ?_ (0, []) ⟨Nat.zero_le _, by rw [List.drop_zero]⟩ (by show [_, _, _, _, _, _, _, _, _, (63, i64 ((ms.map (D.int .i64)).length : Int)), _] = _; rw [hmm]; rfl) (by show H9x t x [ZBo, .map (seenM ts), .map (mset (.str (nd t n).t) (.int .i64 1) (seenM fs)), NBx t n, .map []] = _; rw [f3]; rfl)
   rintro ⟨i, own⟩ ⟨hi, hd⟩
   simp only at hi hd ⊢
   by_cases hil : i < ms.length
   ·have c2 : (i : Int) < (ms.length : Int) := by omega
    have pi := kidP hil
    rw [List.drop_eq_getElem_cons hil, dupG] at hd
    have hk := List.getElem_mem hil
    generalize ms[i] = k at pi hd hk
    have pk := nodeP (hmi k hk)
    have o1 := seenM_keys own
    have o2 := seenM_find (nd t k).t own
    have o3 := seenM_set (nd t k).t own
    by_cases ho : (nd t k).t ∈ own
    ·rw [if_pos ho] at o2 hd
     rw [← hd]
     repeat' (first | refine run ⟨?_⟩ | refine pickD pi ?_ | refine pickD pk ?_ | refine mg o1 o2 ?_ | refine ca (hdk k hk _ _) ?_ | fail)
     exact rfl
    ·rw [if_neg ho] at o2 hd
     have o3 := o3 ho
     repeat' (first | refine run ⟨?_⟩ | refine pickD pi ?_ | refine pickD pk ?_ | refine mg o1 o2 ?_ | refine And.intro o1 ?_ | fail)
     exact ⟨(i + 1, own ++ [(nd t k).t]), ⟨by show i + 1 ≤ _; omega, hd⟩, by show _ - (i + 1) < _ - i; omega, by rw [i64w (n := (i : Int) + 1) (by omega)]; rfl, by show H9x t x [ZBo, _, _, NBx t n, .map (mset (.str (nd t k).t) (.int .i64 1) (seenM own))] = _; rw [o3]⟩
   ·have c2 : ¬ (i : Int) < (ms.length : Int) := by omega
    have hie : i = ms.length := by omega
    rw [hie, List.drop_length, dupG] at hd
    rw [← hd]
    refine run ⟨?_⟩
    exact ⟨(j + 1, ts, (fs ++ [(nd t n).t])), ⟨by show j + 1 ≤ _; omega, rfl⟩, by show _ - (j + 1) < _ - j; omega, by rw [wj]; rfl, rfl⟩
  ·rw [if_neg k2]
   by_cases hm : (nd t n).t ∈ ts
   ·rw [if_pos hm] at t2 ⊢
    repeat' (first | refine run ⟨?_⟩ | refine pickD pj ?_ | refine pickD pn ?_ | refine mg t1 t2 ?_ | refine ca (hdg _ _) ?_ | fail)
    exact rfl
   rw [if_neg hm] at t2 ⊢
   have t3 := t3 hm
   by_cases hmost : 16 < ms.length
   ·have d : (16 : Int) < ((ms.map (D.int .i64)).length : Int) := by omega
    rw [if_pos hmost]
    repeat' (first | refine run ⟨?_⟩ | refine pickD pj ?_ | refine pickD pn ?_ | refine mg t1 t2 ?_ | refine And.intro t1 ?_ | refine ca (hki _) ?_ | refine ca (hdg _ _) ?_ | fail)
    exact rfl
   have d : ¬ (16 : Int) < ((ms.map (D.int .i64)).length : Int) := by omega
   rw [if_neg hmost]
   repeat' (first | refine run ⟨?_⟩ | refine pickD pj ?_ | refine pickD pn ?_ | refine mg t1 t2 ?_ | refine And.intro t1 ?_ | refine ca (hki _) ?_ | fail)
   refine wq_loop (α := Nat × List S) (fun a => ms.length - a.1) (fun a => [(0, .ptr 0 0), (4, .ptr 9 0), (5, .mp 10), (6, .mp 11), (13, .mp 13), (19, .d (kidD l)), (20, i64 l.length), (21, i64 j), (62, .d (kidD ms)), (63, i64 ms.length), (64, i64 a.1)]) (fun a => H9x t x [ZBo, .map (seenM (ts ++ [(nd t n).t])), .map (seenM fs), NBx t n, .map (seenM a.2)]) (fun a => a.1 ≤ ms.length ∧ dupG t a.2 (ms.drop a.1) = dupG t [] ms) ?_ (0, []) ⟨Nat.zero_le _, by rw [List.drop_zero]⟩ (by show [_, _, _, _, _, _, _, _, _, (63, i64 ((ms.map (D.int .i64)).length : Int)), _] = _; rw [hmm]; rfl) (by show H9x t x [ZBo, .map (mset (.str (nd t n).t) (.int .i64 1) (seenM ts)), .map (seenM fs), NBx t n, .map []] = _; rw [t3]; rfl)
   rintro ⟨i, own⟩ ⟨hi, hd⟩
   simp only at hi hd ⊢
   by_cases hil : i < ms.length
   ·have c2 : (i : Int) < (ms.length : Int) := by omega
    have pi := kidP hil
    rw [List.drop_eq_getElem_cons hil, dupG] at hd
    have hk := List.getElem_mem hil
    generalize ms[i] = k at pi hd hk
    have pk := nodeP (hmi k hk)
    have o1 := seenM_keys own
    have o2 := seenM_find (nd t k).t own
    have o3 := seenM_set (nd t k).t own
    by_cases ho : (nd t k).t ∈ own
    ·rw [if_pos ho] at o2 hd
     rw [← hd]
     repeat' (first | refine run ⟨?_⟩ | refine pickD pi ?_ | refine pickD pk ?_ | refine mg o1 o2 ?_ | refine ca (hdk k hk _ _) ?_ | fail)
     exact rfl
    ·rw [if_neg ho] at o2 hd
     have o3 := o3 ho
     repeat' (first | refine run ⟨?_⟩ | refine pickD pi ?_ | refine pickD pk ?_ | refine mg o1 o2 ?_ | refine And.intro o1 ?_ | fail)
     exact ⟨(i + 1, own ++ [(nd t k).t]), ⟨by show i + 1 ≤ _; omega, hd⟩, by show _ - (i + 1) < _ - i; omega, by rw [i64w (n := (i : Int) + 1) (by omega)]; rfl, by show H9x t x [ZBo, _, _, NBx t n, .map (mset (.str (nd t k).t) (.int .i64 1) (seenM own))] = _; rw [o3]⟩
   ·have c2 : ¬ (i : Int) < (ms.length : Int) := by omega
    have hie : i = ms.length := by omega
    rw [hie, List.drop_length, dupG] at hd
    rw [← hd]
    refine run ⟨?_⟩
    exact ⟨(j + 1, (ts ++ [(nd t n).t]), fs), ⟨by show j + 1 ≤ _; omega, rfl⟩, by show _ - (j + 1) < _ - j; omega, by rw [wj]; rfl, rfl⟩
 ·have c1 : ¬ (j : Int) < (l.length : Int) := by omega
  have hje : j = l.length := by omega
  rw [hje, List.drop_length, nmsG] at hco
  rw [← hco]
  refine run ⟨?_⟩
  exact rfl
end
end Go.Vm.Ite
namespace Go.Vm.Ite
open Go.Vm.Tp (Nd treeD checkB isTy)
open Go.Vm.Ip
open Go.Vm.Io (In Rt nd txt tx fldOf mem ret namOf fncOf roots mem_sub mem_len inn unk tyl tyG unk_in inn_in)
set_option maxRecDepth 10000
set_option linter.unusedVariables false
set_option linter.unusedSimpArgs false
section
variable {fx : Nat → Option Obj} {t : List Nd} {x : Its}
theorem all_ints (l : List Int) : ((l.map (D.int .i64)).all (fun y => y.cells.length == 1)) = true := by simp [D.cells]
set_option maxHeartbeats 8000000 in
theorem types_s (h : Rf t) {n : Int} (hin : In t n) (hk : (nd t n).k = 2 ∨ (nd t n).k = 3 ∨ (nd t n).k = 4) : evF (pgL fx F0) n_items_reader_types [.ptr 0 0, .d (.int .i64 n)] (H9x t x []) = some (.d (dgO t (tyG t (kn x) (decide ((nd t n).k = 2)) (tyl t n))), H9x t x []) := by
 refine evF_wqOn (t_items_reader_types (F := F0)) rfl rfl rfl ?_
 have pn := nodeP hin
 have hkl := h.kl n
 have hkn : ((nd t n).kids.map (D.int .i64)).length = (nd t n).kids.length := List.length_map ..
 obtain ⟨ms, hms⟩ : ∃ ms, ms = mem t n := ⟨_, rfl⟩
 have hml : ms.length ≤ 1048576 := by rw [hms]; exact Nat.le_trans (mem_len t n) (h.kl n)
 have hmi : ∀ k ∈ ms, In t k ∧ ((nd t k).kids = [] ∨ ∃ a, (nd t k).kids = [a] ∧ isTy (nd t a).k = true) := fun k q => h.rt.memk hin hk (by rw [← hms]; exact q)
 have hmm : (ms.map (D.int .i64)).length = ms.length := List.length_map ..
 have hki := fun X => kids_e (fx := fx) (F := F0) (x := x) (X := X) h hin
 rw [← hms] at hki
 obtain ⟨L, hL⟩ : ∃ L, L = tyl t n := ⟨_, rfl⟩
 have hLi : ∀ a ∈ L, In t a ∧ isTy (nd t a).k = true := fun a ha => h.rt.tylk hin hk (by rw [← hL]; exact ha)
 rw [← hL]
 repeat' (first | refine run ⟨?_⟩ | refine pickD pn ?_ | refine ca (hki _) ?_ | fail)
 refine wq_loop (α := Nat × List Int) (fun a => ms.length - a.1) (fun a => [(0, .ptr 0 0), (4, .ptr 9 0), (5, .ptr 10 0), (6, .row 11 a.2.length), (23, .d (kidD ms)), (24, i64 ms.length), (25, i64 a.1)]) (fun a => H9x t x [ZBo, NBx t n, .row 1 (a.2.map (D.int .i64))]) (fun a => a.1 ≤ ms.length ∧ a.2 = ((ms.take a.1).map fun k => (nd t k).kids).flatten ∧ a.2.length ≤ a.1) ?_ (0, []) ⟨Nat.zero_le _, rfl, Nat.le_refl _⟩ (by show [_, _, _, _, _, (24, i64 ((ms.map (D.int .i64)).length : Int)), _] = _; rw [hmm]; rfl) rfl
 rintro ⟨i, acc⟩ ⟨hi, ha, hal⟩
 simp only at hi ha hal ⊢
 have hacc : (acc.map (D.int .i64)).length = acc.length := List.length_map ..
 by_cases hil : i < ms.length
 ·have c2 : (i : Int) < (ms.length : Int) := by omega
  have pi := kidP hil
  obtain ⟨g1, g2⟩ := hmi _ (List.getElem_mem hil)
  have ha2 : ((ms.take (i + 1)).map fun k => (nd t k).kids).flatten = acc ++ (nd t ms[i]).kids := by
    rw [← take_map_succ (fun k => (nd t k).kids) hil, List.flatten_append, ← ha]; simp
  generalize ms[i] = k at pi g1 g2 ha2
  have pk := nodeP g1
  have hk1 : (nd t k).kids.length ≤ 1 := by rcases g2 with e | ⟨a, e, _⟩ <;> rw [e] <;> simp
  have hall := all_ints (nd t k).kids
  have hroom : (acc.map (D.int .i64)).length = acc.length ∧ roomy (acc.length + ((nd t k).kids.map (D.int .i64)).length) 8 := ⟨hacc, by rw [List.length_map]; unfold roomy; omega⟩
  repeat' (first | refine run ⟨?_⟩ | refine pickD pi ?_ | refine pickD pk ?_ | refine And.intro ⟨hall, by decide⟩ ?_ | refine And.intro ⟨rfl, hroom⟩ ?_ | fail)
  refine ⟨(i + 1, acc ++ (nd t k).kids), ⟨by show i + 1 ≤ _; omega, ha2.symm, by show (acc ++ _).length ≤ i + 1; rw [List.length_append]; omega⟩, by show _ - (i + 1) < _ - i; omega, ?_, ?_⟩
  ·rw [i64w (n := (i : Int) + 1) (by omega)]
   show [_, _, _, (6, V.row 11 (acc.length + ((nd t k).kids.map (D.int .i64)).length)), _, _, _] = _
   rw [List.length_map, ← List.length_append]; rfl
  ·show H9x t x [ZBo, NBx t n, .row 1 (acc.map (D.int .i64) ++ (nd t k).kids.map (D.int .i64))] = _
   rw [← List.map_append]
 ·have c2 : ¬ (i : Int) < (ms.length : Int) := by omega
  have hie : i = ms.length := by omega
  rw [hie, List.take_length, hms] at ha
  by_cases k2 : (nd t n).k = 2
  ·obtain ⟨ps, b, ek, em, hir, hit⟩ := h.rt.retk hin k2
   have hL2 : L = acc ++ [ret t n] := by rw [hL, ha]; unfold tyl; rw [if_pos k2]
   have hk2 : (nd t n).kids.length = ps.length + 2 := by rw [ek]; simp
   have ew : IntKind.i64.wrap ((((nd t n).kids.map (D.int .i64)).length : Int) - 2) = ((ps.length : Nat) : Int) := by rw [hkn, hk2, i64w (by omega)]; omega
   have pr : 0 ≤ IntKind.i64.wrap ((((nd t n).kids.map (D.int .i64)).length : Int) - 2) ∧ ((nd t n).kids.map (D.int .i64))[(IntKind.i64.wrap ((((nd t n).kids.map (D.int .i64)).length : Int) - 2)).toNat]? = some (.int .i64 (ret t n)) := by
    rw [ew, ek, Int.toNat_natCast]; exact ⟨by omega, by simp⟩
   have hroom : (acc.map (D.int .i64)).length = acc.length ∧ roomy (acc.length + 1) 8 := ⟨hacc, by unfold roomy; omega⟩
   have hLl : L.length = acc.length + 1 := by rw [hL2]; simp
   repeat' (first | refine run ⟨?_⟩ | refine pickD pr ?_ | refine And.intro ⟨rfl, by decide⟩ ?_ | refine And.intro ⟨rfl, hroom⟩ ?_ | fail)
   refine wq_loop (α := Nat) (fun j => L.length - j) (fun j => [(0, .ptr 0 0), (4, .ptr 9 0), (5, .ptr 10 0), (55, .row 11 L.length), (56, i64 L.length), (57, i64 j)]) (fun _ => H9x t x [ZBo, NBx t n, .row 1 (L.map (D.int .i64))]) (fun j => j ≤ L.length ∧ tyG t (kn x) (decide ((nd t n).k = 2)) (L.drop j) = tyG t (kn x) (decide ((nd t n).k = 2)) L) ?_ 0 ⟨Nat.zero_le _, by rw [List.drop_zero]⟩ (by rw [hLl]; rfl) (by rw [hL2, List.map_append]; rfl)
   rintro j ⟨hj, hd⟩
   rw [← hd]
   have hLm : (L.map (D.int .i64)).length = L.length := List.length_map ..
   by_cases hjl : j < L.length
   ·have c3 : (j : Int) < (L.length : Int) := by omega
    have pj := kidP hjl
    rw [List.drop_eq_getElem_cons hjl, tyG] at hd ⊢
    obtain ⟨q1, q2⟩ := hLi _ (List.getElem_mem hjl)
    generalize L[j] = a at pj hd q1 q2
    have eu := fun X => lift9 (fx := fx) (F := F0) (X := X) (unknown_go (fx := fx) (x := x) h t.length a h.rt.hi q1 q2 q1.2) rfl rfl
    have ei := fun X => lift9 (fx := fx) (F := F0) (X := X) (inner_go (fx := fx) (x := x) h t.length (decide ((nd t n).k = 2)) a h.rt.hi q1 q2 q1.2) rfl rfl
    have iu := unk_in h.rt (kn x) t.length a q1
    have ii := inn_in h.rt t.length (decide ((nd t n).k = 2)) a q1
    generalize unk t (kn x) t.length a = u at eu iu hd
    generalize inn t t.length (decide ((nd t n).k = 2)) a = v at ei ii hd
    by_cases cu : 0 ≤ u
    ·have dg := fun e X => diag9_e (fx := fx) (F := F0) (x := x) (X := X) (e := e) (iu cu)
     rw [if_pos cu]
     repeat' (first | refine run ⟨?_⟩ | refine And.intro hLm ?_ | refine pickD pj ?_ | refine ca (eu _) ?_ | refine ca (dg _ _) ?_ | fail)
     exact rfl
    ·rw [if_neg cu] at hd ⊢
     by_cases cv : 0 ≤ v
     ·have dg := fun e X => diag9_e (fx := fx) (F := F0) (x := x) (X := X) (e := e) (ii cv)
      rw [if_pos cv]
      repeat' (first | refine run ⟨?_⟩ | refine And.intro hLm ?_ | refine pickD pj ?_ | refine ca (eu _) ?_ | refine ca (ei _) ?_ | refine ca (dg _ _) ?_ | fail)
      exact rfl
     ·rw [if_neg cv] at hd ⊢
      repeat' (first | refine run ⟨?_⟩ | refine And.intro hLm ?_ | refine pickD pj ?_ | refine ca (eu _) ?_ | refine ca (ei _) ?_ | fail)
      exact ⟨j + 1, ⟨by omega, rfl⟩, by omega, by rw [i64w (by omega)]; rfl, rfl⟩
   ·have c3 : ¬ (j : Int) < (L.length : Int) := by omega
    obtain rfl : j = L.length := by omega
    rw [List.drop_length, tyG]
    refine run ⟨?_⟩
    exact rfl
  ·have hL2 : L = acc := by rw [hL, ha]; unfold tyl; rw [if_neg k2, List.append_nil]
   have hLl : L.length = acc.length := by rw [hL2]
   refine run ⟨?_⟩
   refine wq_loop (α := Nat) (fun j => L.length - j) (fun j => [(0, .ptr 0 0), (4, .ptr 9 0), (5, .ptr 10 0), (55, .row 11 L.length), (56, i64 L.length), (57, i64 j)]) (fun _ => H9x t x [ZBo, NBx t n, .row 1 (L.map (D.int .i64))]) (fun j => j ≤ L.length ∧ tyG t (kn x) (decide ((nd t n).k = 2)) (L.drop j) = tyG t (kn x) (decide ((nd t n).k = 2)) L) ?_ 0 ⟨Nat.zero_le _, by rw [List.drop_zero]⟩ (by rw [hLl]; rfl) (by rw [hL2])
   rintro j ⟨hj, hd⟩
   rw [← hd]
   have hLm : (L.map (D.int .i64)).length = L.length := List.length_map ..
   by_cases hjl : j < L.length
   ·have c3 : (j : Int) < (L.length : Int) := by omega
    have pj := kidP hjl
    rw [List.drop_eq_getElem_cons hjl, tyG] at hd ⊢
    obtain ⟨q1, q2⟩ := hLi _ (List.getElem_mem hjl)
    generalize L[j] = a at pj hd q1 q2
    have eu := fun X => lift9 (fx := fx) (F := F0) (X := X) (unknown_go (fx := fx) (x := x) h t.length a h.rt.hi q1 q2 q1.2) rfl rfl
    have ei := fun X => lift9 (fx := fx) (F := F0) (X := X) (inner_go (fx := fx) (x := x) h t.length (decide ((nd t n).k = 2)) a h.rt.hi q1 q2 q1.2) rfl rfl
    have iu := unk_in h.rt (kn x) t.length a q1
    have ii := inn_in h.rt t.length (decide ((nd t n).k = 2)) a q1
    generalize unk t (kn x) t.length a = u at eu iu hd
    generalize inn t t.length (decide ((nd t n).k = 2)) a = v at ei ii hd
    by_cases cu : 0 ≤ u
    ·have dg := fun e X => diag9_e (fx := fx) (F := F0) (x := x) (X := X) (e := e) (iu cu)
     rw [if_pos cu]
     repeat' (first | refine run ⟨?_⟩ | refine And.intro hLm ?_ | refine pickD pj ?_ | refine ca (eu _) ?_ | refine ca (dg _ _) ?_ | fail)
     exact rfl
    ·rw [if_neg cu] at hd ⊢
     by_cases cv : 0 ≤ v
     ·have dg := fun e X => diag9_e (fx := fx) (F := F0) (x := x) (X := X) (e := e) (ii cv)
      rw [if_pos cv]
      repeat' (first | refine run ⟨?_⟩ | refine And.intro hLm ?_ | refine pickD pj ?_ | refine ca (eu _) ?_ | refine ca (ei _) ?_ | refine ca (dg _ _) ?_ | fail)
      exact rfl
     ·rw [if_neg cv] at hd ⊢
      repeat' (first | refine run ⟨?_⟩ | refine And.intro hLm ?_ | refine pickD pj ?_ | refine ca (eu _) ?_ | refine ca (ei _) ?_ | fail)
      exact ⟨j + 1, ⟨by omega, rfl⟩, by omega, by rw [i64w (by omega)]; rfl, rfl⟩
   ·have c3 : ¬ (j : Int) < (L.length : Int) := by omega
    obtain rfl : j = L.length := by omega
    rw [List.drop_length, tyG]
    refine run ⟨?_⟩
    exact rfl
end
end Go.Vm.Ite
namespace Go.Vm.Ite
open Go.Vm.Tp (Nd treeD checkB isTy)
open Go.Vm.Ip
open Go.Vm.Io (In Rt nd txt tx fldOf mem ret namOf fncOf roots szG1 szG2 szG1_none)
set_option maxRecDepth 10000
set_option linter.unusedVariables false
set_option linter.unusedSimpArgs false
abbrev H12x (t : List Nd) (x : Its) (o0 o1 o2 o3 : Ob) (X : Hp) : Hp := o0 :: o1 :: o2 :: .box [.d (.sl (t.map Nd.D)), .row 4 x.ss.length, .row 5 x.es.length, .row 6 x.fs.length, .ptr 11 0] :: .row 2 (x.ss.map Nam.D) :: .row 2 (x.es.map Nam.D) :: .row 5 (x.fs.map Fnc.D) :: IB x :: .map (finM (nS x)) :: .map (finM (nE x)) :: .map (finM (nF x)) :: .box [.mp 8, .mp 9, .mp 10] :: o3 :: X
section
variable {fx : Nat → Option Obj} {t : List Nd} {x : Its}
theorem dg12a {e i : Int} (hi : In t i) (o0 o1 o2 o3 y0 y1 : Ob) : evF (pgL fx FT) n_items_reader_diag [.ptr 3 0, .d (.int .i64 e), .d (.int .i64 i)] (H12x t x o0 o1 o2 o3 [y0, y1]) = some (.d (Lex.dgD e (nd t i).f (nd t i).e), H12x t x o0 o1 o2 o3 [y0, y1]) :=
 up (evF_at (mv fx) [3, 4, 5, 6, 7, 8, 9, 10, 11] (X := H12x t x o0 o1 o2 o3 [y0, y1]) (A := [.ptr 3 0, .d (.int .i64 e), .d (.int .i64 i)]) (diag9_e (fx := fx) (F := F0) (x := x) (X := []) (e := e) hi) rfl rfl rfl rfl rfl)
theorem dg12b {e i : Int} (hi : In t i) (o0 o1 o2 o3 y0 y1 y2 y3 : Ob) : evF (pgL fx FT) n_items_reader_diag [.ptr 3 0, .d (.int .i64 e), .d (.int .i64 i)] (H12x t x o0 o1 o2 o3 [y0, y1, y2, y3]) = some (.d (Lex.dgD e (nd t i).f (nd t i).e), H12x t x o0 o1 o2 o3 [y0, y1, y2, y3]) :=
 up (evF_at (mv fx) [3, 4, 5, 6, 7, 8, 9, 10, 11] (X := H12x t x o0 o1 o2 o3 [y0, y1, y2, y3]) (A := [.ptr 3 0, .d (.int .i64 e), .d (.int .i64 i)]) (diag9_e (fx := fx) (F := F0) (x := x) (X := []) (e := e) hi) rfl rfl rfl rfl rfl)
theorem sz12a (hx : Fine x) {N : Nat} (hN : N ≤ 1000000) {s : S} (hd : deepOk x N s) {d : List (S × Int × Int)} (hz : SzOk x N d) (o0 o1 o2 o3 y0 y2 : Ob) : ∃ d', SzOk x N d' ∧ (∀ Y : Hp, Y = [] ∨ (∃ y3, Y = [y3]) → evF (pgL fx FT) n_items_sized [.d x.D, .ptr 11 0, str s, .mp 14] (H12x t x o0 o1 o2 o3 (y0 :: .map (szM d) :: y2 :: Y)) = some (SzD (szF x N s), H12x t x o0 o1 o2 o3 (y0 :: .map (szM d') :: y2 :: Y))) := by
 obtain ⟨r, H2, h1, rfl, d', h2, rfl⟩ := sized_s (fx := fx) x hx N hN N s hd (Nat.le_refl _) d hz
 refine ⟨d', h2, fun Y hY => ?_⟩
 rcases hY with rfl | ⟨y3, rfl⟩
 ·exact up (evF_at (mv fx) [8, 9, 10, 11, 14] (X := H12x t x o0 o1 o2 o3 [y0, .map (szM d), y2]) (A := [.d x.D, .ptr 11 0, str s, .mp 14]) h1 rfl rfl rfl rfl rfl)
 ·exact up (evF_at (mv fx) [8, 9, 10, 11, 14] (X := H12x t x o0 o1 o2 o3 [y0, .map (szM d), y2, y3]) (A := [.d x.D, .ptr 11 0, str s, .mp 14]) h1 rfl rfl rfl rfl rfl)
noncomputable def szA (t : List Nd) (x : Its) (l : List Int) : Option (Int × Int) := match szG1 t (endB x) l with
 | some e => some e
 | none => szG2 t (fun s => bigB (szF x (deepN x) s)) l
set_option maxHeartbeats 8000000 in
theorem sizes_s (h : Rf t) (hx : Fine x) (hsm : Small x) (l : List Int) (hll : l.length ≤ 1048576) (hl : ∀ n ∈ l, In t n) (hcov : ∀ s ∈ nS x ++ nE x, ∃ n ∈ l, (nd t n).k ≠ 2 ∧ (nd t n).t = s) (o0 o1 o2 o3 : Ob) :
 evF (pgL fx FT) n_items_reader_sizes [.ptr 3 0, .d (kidD l)] (H12x t x o0 o1 o2 o3 []) = some (.d (dgO t (szA t x l)), H12x t x o0 o1 o2 o3 []) := by
 refine evF_wqOn (t_items_reader_sizes (F := FT)) rfl rfl rfl ?_
 unfold szA
 have hlen : (l.map (D.int .i64)).length = l.length := List.length_map ..
 have h1 : (x.ss.map Nam.D).length = x.ss.length := List.length_map ..
 have h2 : (x.es.map Nam.D).length = x.es.length := List.length_map ..
 have h3 : (x.fs.map Fnc.D).length = x.fs.length := List.length_map ..
 refine run ⟨?_⟩
 refine wq_loop (α := Nat) (fun j => l.length - j) (fun j => [(0, .ptr 3 0), (1, .d (kidD l)), (4, .ptr 13 0), (13, .d (kidD l)), (14, i64 l.length), (15, i64 j)]) (fun _ => H12x t x o0 o1 o2 o3 [ZBo]) (fun j => j ≤ l.length ∧ szG1 t (endB x) (l.drop j) = szG1 t (endB x) l) ?_ 0 ⟨Nat.zero_le _, by rw [List.drop_zero]⟩ (by show [_, _, _, _, (14, i64 ((l.map (D.int .i64)).length : Int)), _] = _; rw [hlen]; rfl) rfl
 rintro j ⟨hj, hco⟩
 by_cases hlt : j < l.length
 ·have c1 : (j : Int) < (l.length : Int) := by omega
  have pj := kidP hlt
  rw [List.drop_eq_getElem_cons hlt] at hco
  have hin := hl _ (List.getElem_mem hlt)
  generalize l[j] = n at pj hco hin
  have pn := nodeP hin
  have wj : IntKind.i64.wrap ((j : Int) + 1) = ((j + 1 : Nat) : Int) := by rw [i64w (by omega)]; omega
  have hkn : ((nd t n).kids.map (D.int .i64)).length = (nd t n).kids.length := List.length_map ..
  have he := fun b => end3_ev (fx := fx) (p := 11) (h := H12x t x o0 o1 o2 o3 [ZBo, b]) hx hsm ⟨8, 9, 10, rfl, rfl, rfl, rfl, by decide, by decide, by decide⟩ (nd t n).t
  have hdg := fun e y0 y1 => dg12a (fx := fx) (x := x) (e := e) hin o0 o1 o2 o3 y0 y1
  rw [szG1] at hco
  by_cases k2 : (nd t n).k = 2
  ·have d2 : (!decide ((nd t n).k = 2)) = false := by rw [decide_eq_true k2]; rfl
   have d4 : ¬ (nd t n).k = 4 := by omega
   rw [if_neg (by rintro (q | q); exact q.1 k2; exact d4 q.1)] at hco
   repeat' (first | refine run ⟨?_⟩ | refine pickD pj ?_ | refine pickD pn ?_ | refine And.intro h1 ?_ | refine And.intro h2 ?_ | refine And.intro h3 ?_ | refine ca (he _) ?_ | fail)
   exact ⟨j + 1, ⟨by omega, hco⟩, by omega, by rw [wj]; rfl, rfl⟩
  ·have d2 : (!decide ((nd t n).k = 2)) = true := by rw [decide_eq_false k2]; rfl
   cases ce : endB x (nd t n).t with
   | true =>
    rw [ce] at he
    rw [if_pos (.inl ⟨k2, ce⟩)] at hco
    rw [← hco]
    repeat' (first | refine run ⟨?_⟩ | refine pickD pj ?_ | refine pickD pn ?_ | refine And.intro h1 ?_ | refine And.intro h2 ?_ | refine And.intro h3 ?_ | refine ca (he _) ?_ | refine ca (hdg _ _ _) ?_ | fail)
    first | exact rfl | exact ⟨rfl, rfl⟩ | (conv => whnf)
   | false =>
    rw [ce] at he
    by_cases k4 : (nd t n).k = 4
    ·by_cases kk : (nd t n).kids = []
     ·have d0 : (((nd t n).kids.map (D.int .i64)).length : Int) = 0 := by rw [kk]; rfl
      rw [if_pos (.inr ⟨k4, kk⟩)] at hco
      rw [← hco]
      repeat' (first | refine run ⟨?_⟩ | refine pickD pj ?_ | refine pickD pn ?_ | refine And.intro h1 ?_ | refine And.intro h2 ?_ | refine And.intro h3 ?_ | refine ca (he _) ?_ | refine ca (hdg _ _ _) ?_ | fail)
      exact rfl
     ·have d0 : ¬ (((nd t n).kids.map (D.int .i64)).length : Int) = 0 := by
       intro q
       rw [hkn] at q
       exact kk (List.eq_nil_of_length_eq_zero (by omega))
      rw [if_neg (by rintro (q | q); rw [ce] at q; cases q.2; exact kk q.2)] at hco
      repeat' (first | refine run ⟨?_⟩ | refine pickD pj ?_ | refine pickD pn ?_ | refine And.intro h1 ?_ | refine And.intro h2 ?_ | refine And.intro h3 ?_ | refine ca (he _) ?_ | fail)
      exact ⟨j + 1, ⟨by omega, hco⟩, by omega, by rw [wj]; rfl, rfl⟩
    ·rw [if_neg (by rintro (q | q); rw [ce] at q; cases q.2; exact k4 q.1)] at hco
     repeat' (first | refine run ⟨?_⟩ | refine pickD pj ?_ | refine pickD pn ?_ | refine And.intro h1 ?_ | refine And.intro h2 ?_ | refine And.intro h3 ?_ | refine ca (he _) ?_ | fail)
     exact ⟨j + 1, ⟨by omega, hco⟩, by omega, by rw [wj]; rfl, rfl⟩
 ·have c1 : ¬ (j : Int) < (l.length : Int) := by omega
  have hje : j = l.length := by omega
  rw [hje, List.drop_length, szG1] at hco
  have hdeep : ∀ s, deepOk x (deepN x) s := deep_of fun s hs hg => by
    obtain ⟨n, hn, hk, e⟩ := hcov s hs
    have := szG1_none hco.symm n hn hk
    rw [e, endB_t hg] at this
    cases this
  have hN : deepN x ≤ 1000000 := by
   unfold deepN
   have e1 := hsm.ss
   have e2 := hsm.es
   have e3 : (nS x).length = x.ss.length := by simp [nS]
   have e4 : (nE x).length = x.es.length := by simp [nE]
   rw [List.length_append]; omega
  rw [← hco]
  generalize deepN x = N at hdeep hN
  refine run ⟨?_⟩
  refine wq_loop (α := Nat × List (S × Int × Int)) (fun a => l.length - a.1) (fun a => [(0, .ptr 3 0), (4, .ptr 13 0), (8, .mp 14), (59, .d (kidD l)), (60, i64 l.length), (61, i64 a.1)]) (fun a => H12x t x o0 o1 o2 o3 [ZBo, .map (szM a.2)]) (fun a => a.1 ≤ l.length ∧ SzOk x N a.2 ∧ szG2 t (fun s => bigB (szF x N s)) (l.drop a.1) = szG2 t (fun s => bigB (szF x N s)) l) ?_ (0, []) ⟨Nat.zero_le _, fun q hq => (by cases hq), by rw [List.drop_zero]⟩ (by show [_, _, _, _, (60, i64 ((l.map (D.int .i64)).length : Int)), _] = _; rw [hlen]; rfl) rfl
  rintro ⟨i, d⟩ ⟨hi, hz, hd⟩
  simp only at hi hz hd ⊢
  by_cases hil : i < l.length
  ·have c2 : (i : Int) < (l.length : Int) := by omega
   have pj := kidP hil
   rw [List.drop_eq_getElem_cons hil] at hd
   have hin := hl _ (List.getElem_mem hil)
   generalize l[i] = n at pj hd hin
   have pn := nodeP hin
   have wi : IntKind.i64.wrap ((i : Int) + 1) = ((i + 1 : Nat) : Int) := by rw [i64w (by omega)]; omega
   have hdg := fun e y0 y1 y2 y3 => dg12b (fx := fx) (x := x) (e := e) hin o0 o1 o2 o3 y0 y1 y2 y3
   rw [szG2] at hd
   by_cases k2 : (nd t n).k = 2
   ·rw [if_pos k2] at hd
    repeat' (first | refine run ⟨?_⟩ | refine pickD pj ?_ | refine pickD pn ?_ | fail)
    exact ⟨(i + 1, d), ⟨by show i + 1 ≤ _; omega, hz, hd⟩, by show _ - (i + 1) < _ - i; omega, by rw [wi]; rfl, rfl⟩
   ·rw [if_neg k2] at hd
    obtain ⟨d', hz', hs⟩ := sz12a (fx := fx) (t := t) hx hN (hdeep (nd t n).t) hz o0 o1 o2 o3 ZBo (NBx t n)
    have s0 := hs [] (.inl rfl)
    have s1 := fun y3 => hs [y3] (.inr ⟨y3, rfl⟩)
    replace hd : (if bigB (szF x N (nd t n).t) = true then some (2, n) else szG2 t (fun s => bigB (szF x N s)) (l.drop (i + 1))) = szG2 t (fun s => bigB (szF x N s)) l := hd
    generalize szF x N (nd t n).t = v at s0 s1 hd
    by_cases w1 : v.1 > 64
    ·rw [if_pos (show bigB v = true by unfold bigB; rw [decide_eq_true w1]; rfl)] at hd
     rw [← hd]
     repeat' (first | refine rund ⟨?_⟩ | refine q_dirtyZ 11 rfl ?_ | refine pickD pj ?_ | refine pickD pn ?_ | refine And.intro h1 ?_ | refine And.intro h2 ?_ | refine And.intro h3 ?_ | refine ca (s0) ?_ | refine ca (s1 _) ?_ | refine ca (hdg _ _ _ _ _) ?_ | fail)
     exact rfl
    ·by_cases w2 : v.2 > 1024
     ·rw [if_pos (show bigB v = true by unfold bigB; rw [decide_eq_true w2, Bool.or_true])] at hd
      rw [← hd]
      repeat' (first | refine rund ⟨?_⟩ | refine q_dirtyZ 11 rfl ?_ | refine pickD pj ?_ | refine pickD pn ?_ | refine And.intro h1 ?_ | refine And.intro h2 ?_ | refine And.intro h3 ?_ | refine ca (s0) ?_ | refine ca (s1 _) ?_ | refine ca (hdg _ _ _ _ _) ?_ | fail)
      exact rfl
     ·rw [if_neg (show ¬ bigB v = true by unfold bigB; rw [decide_eq_false w1, decide_eq_false w2]; decide)] at hd
      repeat' (first | refine rund ⟨?_⟩ | refine q_dirtyZ 11 rfl ?_ | refine pickD pj ?_ | refine pickD pn ?_ | refine And.intro h1 ?_ | refine And.intro h2 ?_ | refine And.intro h3 ?_ | refine ca (s0) ?_ | refine ca (s1 _) ?_ | fail)
      exact ⟨(i + 1, d'), ⟨by show i + 1 ≤ _; omega, hz', hd⟩, by show _ - (i + 1) < _ - i; omega, by rw [wi]; rfl, rfl⟩
  ·have c2 : ¬ (i : Int) < (l.length : Int) := by omega
   have hie : i = l.length := by omega
   rw [hie, List.drop_length, szG2] at hd
   rw [← hd]
   refine run ⟨?_⟩
   exact rfl
end
end Go.Vm.Ite
namespace Go.Vm.Io
open Go.Vm.Tp (Nd kindAt kinds checkB nodeB NodOf isTy)
open Go.Vm.Ip (Fld Nam Fnc Its nS nE nF)
def is3 (t : List Nd) (n : Int) : Bool := decide ((nd t n).k = 3)
def is4 (t : List Nd) (n : Int) : Bool := decide ((nd t n).k = 4)
def is2 (t : List Nd) (n : Int) : Bool := !is3 t n && !is4 t n
def itsOf (t : List Nd) (l : List Int) : Its := ⟨(l.filter (is3 t)).map (namOf t), (l.filter (is4 t)).map (namOf t), (l.filter (is2 t)).map (fncOf t)⟩
theorem col_go (t : List Nd) : ∀ (l : List Int) (a : Its × Int), (l.foldl (col1 t) a).1 = ⟨a.1.ss ++ (itsOf t l).ss, a.1.es ++ (itsOf t l).es, a.1.fs ++ (itsOf t l).fs⟩
 | [], a => by simp [itsOf]
 | n :: r, a => by
   rw [List.foldl_cons, col_go t r]
   unfold col1 itsOf
   by_cases k3 : (nd t n).k = 3
   ·have e3 : is3 t n = true := decide_eq_true k3
    have e4 : is4 t n = false := decide_eq_false (by omega)
    have e2 : is2 t n = false := by unfold is2; rw [e3]; rfl
    rw [if_pos k3]; simp [e3, e4, e2]
   ·by_cases k4 : (nd t n).k = 4
    ·have e3 : is3 t n = false := decide_eq_false k3
     have e4 : is4 t n = true := decide_eq_true k4
     have e2 : is2 t n = false := by unfold is2; rw [e3, e4]; rfl
     rw [if_neg k3, if_pos k4]; simp [e3, e4, e2]
    ·have e3 : is3 t n = false := decide_eq_false k3
     have e4 : is4 t n = false := decide_eq_false k4
     have e2 : is2 t n = true := by unfold is2; rw [e3, e4]; rfl
     rw [if_neg k3, if_neg k4]; simp [e3, e4, e2]
theorem col_eq (t : List Nd) (l : List Int) : (col t l).1 = itsOf t l := by
 unfold col
 rw [col_go]
 rfl
theorem col_bad (t : List Nd) : ∀ (l : List Int) (a : Its × Int), (∀ n ∈ l, 0 ≤ n) → (l.foldl (col1 t) a).2 < 0 → a.2 < 0 ∧ (a.1.ss.length ≤ 64 → (l.foldl (col1 t) a).1.ss.length ≤ 64) ∧ (a.1.es.length ≤ 64 → (l.foldl (col1 t) a).1.es.length ≤ 64) ∧ (a.1.fs.length ≤ 64 → (l.foldl (col1 t) a).1.fs.length ≤ 64)
 | [], a, _, h => ⟨h, id, id, id⟩
 | n :: r, a, hp, h => by
   rw [List.foldl_cons] at h ⊢
   obtain ⟨g1, g2, g3, g4⟩ := col_bad t r (col1 t a n) (fun m hm => hp m (List.mem_cons_of_mem _ hm)) h
   have hn := hp n (List.mem_cons_self)
   unfold col1 at g1 g2 g3 g4 ⊢
   by_cases k3 : (nd t n).k = 3
   ·rw [if_pos k3] at g1 g2 g3 g4 ⊢
    simp only at g1 g2 g3 g4 ⊢
    by_cases c : 64 < a.1.ss.length + 1 ∧ a.2 < 0
    ·rw [if_pos c] at g1; omega
    ·rw [if_neg c] at g1
     exact ⟨g1, fun q => g2 (by rw [List.length_append, List.length_singleton]; omega), g3, g4⟩
   ·rw [if_neg k3] at g1 g2 g3 g4 ⊢
    by_cases k4 : (nd t n).k = 4
    ·rw [if_pos k4] at g1 g2 g3 g4 ⊢
     simp only at g1 g2 g3 g4 ⊢
     by_cases c : 64 < a.1.es.length + 1 ∧ a.2 < 0
     ·rw [if_pos c] at g1; omega
     ·rw [if_neg c] at g1
      exact ⟨g1, g2, fun q => g3 (by rw [List.length_append, List.length_singleton]; omega), g4⟩
    ·rw [if_neg k4] at g1 g2 g3 g4 ⊢
     simp only at g1 g2 g3 g4 ⊢
     by_cases c : 64 < a.1.fs.length + 1 ∧ a.2 < 0
     ·rw [if_pos c] at g1; omega
     ·rw [if_neg c] at g1
      exact ⟨g1, g2, g3, fun q => g4 (by rw [List.length_append, List.length_singleton]; omega)⟩
theorem col_few {t : List Nd} {l : List Int} (hp : ∀ n ∈ l, 0 ≤ n) (h : (col t l).2 < 0) : (itsOf t l).ss.length ≤ 64 ∧ (itsOf t l).es.length ≤ 64 ∧ (itsOf t l).fs.length ≤ 64 := by
 have := col_bad t l (⟨[], [], []⟩, -1) hp h
 rw [← col_eq]
 exact ⟨this.2.1 (Nat.zero_le _), this.2.2.1 (Nat.zero_le _), this.2.2.2 (Nat.zero_le _)⟩
theorem col_in {t : List Nd} : ∀ (l : List Int) (a : Its × Int), 0 ≤ (l.foldl (col1 t) a).2 → a.2 = (l.foldl (col1 t) a).2 ∨ (l.foldl (col1 t) a).2 ∈ l
 | [], a, _ => .inl rfl
 | n :: r, a, h => by
   rw [List.foldl_cons] at h ⊢
   rcases col_in r _ h with e | e
   ·rw [← e]
    unfold col1
    repeat' split
    all_goals first | exact .inr List.mem_cons_self | exact .inl rfl
   ·exact .inr (List.mem_cons_of_mem _ e)
theorem nms_few {t : List Nd} : ∀ {ts fs : List S} {l : List Int}, nmsG t ts fs l = none → ∀ n ∈ l, ((nd t n).k = 2 → (mem t n).length ≤ 6) ∧ ((nd t n).k ≠ 2 → (mem t n).length ≤ 16)
 | _, _, [], _, n, hn => by cases hn
 | ts, fs, m :: r, h, n, hn => by
   rw [nmsG] at h
   by_cases k2 : (nd t m).k = 2
   ·rw [if_pos k2] at h
    split at h
    ·cases h
    ·split at h
     ·cases h
     ·rename_i c1 c2
      split at h
      ·cases h
      ·rcases List.mem_cons.1 hn with q | q
       ·subst q; exact ⟨fun _ => by omega, fun e => absurd k2 e⟩
       ·exact nms_few h n q
   ·rw [if_neg k2] at h
    split at h
    ·cases h
    ·split at h
     ·cases h
     ·rename_i c1 c2
      split at h
      ·cases h
      ·rcases List.mem_cons.1 hn with q | q
       ·subst q; exact ⟨fun e => absurd e k2, fun _ => by omega⟩
       ·exact nms_few h n q
theorem nms_c {t : List Nd} : ∀ {ts fs : List S} {l : List Int} {c n : Int}, nmsG t ts fs l = some (c, n) → c ≠ 0
 | _, _, [], _, _, h => by cases h
 | ts, fs, m :: r, c, n, h => by
   rw [nmsG] at h
   repeat' split at h
   all_goals first | (cases h; decide) | exact nms_c h
theorem ty_c {t : List Nd} {kn : S → Bool} {b : Bool} : ∀ {l : List Int} {c n : Int}, tyG t kn b l = some (c, n) → c ≠ 0
 | [], _, _, h => by cases h
 | m :: r, c, n, h => by
   rw [tyG] at h
   repeat' split at h
   all_goals first | (cases h; decide) | exact ty_c h
theorem sz1_c {t : List Nd} {e : S → Bool} : ∀ {l : List Int} {c n : Int}, szG1 t e l = some (c, n) → c ≠ 0
 | [], _, _, h => by cases h
 | m :: r, c, n, h => by
   rw [szG1] at h
   repeat' split at h
   all_goals first | (cases h; decide) | exact sz1_c h
theorem sz2_c {t : List Nd} {e : S → Bool} : ∀ {l : List Int} {c n : Int}, szG2 t e l = some (c, n) → c ≠ 0
 | [], _, _, h => by cases h
 | m :: r, c, n, h => by
   rw [szG2] at h
   repeat' split at h
   all_goals first | (cases h; decide) | exact sz2_c h
def tyA (t : List Nd) (kn : S → Bool) : List Int → Option (Int × Int)
 | [] => none
 | n :: r => match tyG t kn (decide ((nd t n).k = 2)) (tyl t n) with
   | some e => some e
   | none => tyA t kn r
end Go.Vm.Io
namespace Go.Vm.Ite
open Go.Vm.Tp (Nd treeD checkB isTy)
open Go.Vm.Ip
open Go.Vm.Io (In Rt nd txt tx fldOf mem ret namOf fncOf roots itsOf is2 is3 is4 col col_few nmsG nms_few rt_of mem_len mem_sub)
set_option maxRecDepth 10000
set_option linter.unusedVariables false
set_option linter.unusedSimpArgs false
section
variable {fx : Nat → Option Obj} {F : Nat → Option VFun}
set_option maxHeartbeats 1000000 in
theorem index7_ev (x : Its) (hx : Fine x) (o0 o1 o2 o3 o4 o5 o6 : Ob) : evF (pgL fx F) n_items_index [.d x.D] [o0, o1, o2, o3, o4, o5, o6] = some (.ptr 11 0, [o0, o1, o2, o3, o4, o5, o6, IB x, .map (finM (nS x)), .map (finM (nE x)), .map (finM (nF x)), .box [.mp 8, .mp 9, .mp 10]]) := by
 apply up
 have es : (nS x).length = x.ss.length := by simp [nS]
 have ee : (nE x).length = x.es.length := by simp [nE]
 have ef : (nF x).length = x.fs.length := by simp [nF]
 have l0 : x.ss.length ≤ 140737488355328 := hx.ss
 have l1 : x.es.length ≤ 140737488355328 := hx.es
 have l2 : x.fs.length ≤ 140737488355328 := hx.fs
 refine evF_wqK (t_items_index (F := F)) rfl rfl ?_
 refine run ⟨?_⟩
 refine wq_loop (α := Nat) (fun i => x.ss.length - i) (fun i => [(1, .ptr 7 0), (3, .ptr 11 0), (19, .d (.sl (x.ss.map Nam.D))), (20, i64 x.ss.length), (21, i64 i)]) (fun i => [o0, o1, o2, o3, o4, o5, o6, IB x, .map (fmap (nS x) i), .map [], .map [], .box [.mp 8, .mp 9, .mp 10]]) (fun i => i ≤ x.ss.length) ?_ 0 (Nat.zero_le _) (by rw [List.length_map]; rfl) rfl
 ·intro i hi
  by_cases h : i < x.ss.length
  ·have h' : (i : Int) < (x.ss.length : Int) := by omega
   have pi := gN h
   have hp : ∀ y, x.ss.getD i default = y → evF (pgL fx F0) n_items_table_put [.ptr 11 0, str y.n, i64 i] ([o0, o1, o2, o3, o4, o5, o6, IB x, .map (fmap (nS x) i), .map [], .map [], .box [.mp 8, .mp 9, .mp 10]] ++ [.box [str y.n, .d (fldsD y.fs)]]) = some (.tup [], [o0, o1, o2, o3, o4, o5, o6, IB x, .map (fmap (nS x) (i + 1)), .map [], .map [], .box [.mp 8, .mp 9, .mp 10]] ++ [.box [str y.n, .d (fldsD y.fs)]]) := fun y hy => by
     have hn := put0_s (fx := fx) (F := F0) (fmap (nS x) i) [] [] y.n i (fmap_keys _ _) (fmap_int _ _ _ (by omega))
     rw [← hy, ← nS_getD h, ← fmap_put] at hn
     rw [← hy, ← nS_getD h]
     exact evF_at (mv fx) [8, 9, 10, 11] hn rfl rfl rfl rfl rfl
   revert pi hp
   generalize x.ss.getD i default = y
   intro pi hp
   have hp := hp y rfl
   repeat' (first | refine run ⟨?_⟩ | refine pickD pi ?_ | refine ca (hp) ?_ | fail)
   exact ⟨i + 1, by omega, by omega, by rw [i64w (by omega)]; rfl, rfl⟩
  ·have h' : ¬ (i : Int) < (x.ss.length : Int) := by omega
   obtain rfl : i = x.ss.length := by omega
   refine run ⟨?_⟩
   refine wq_loop (α := Nat) (fun i => x.es.length - i) (fun i => [(1, .ptr 7 0), (3, .ptr 11 0), (35, .d (.sl (x.es.map Nam.D))), (36, i64 x.es.length), (37, i64 i)]) (fun i => [o0, o1, o2, o3, o4, o5, o6, IB x, .map (fmap (nS x) x.ss.length), .map (fmap (nE x) i), .map [], .box [.mp 8, .mp 9, .mp 10]]) (fun i => i ≤ x.es.length) ?_ 0 (Nat.zero_le _) (by rw [List.length_map]; rfl) rfl
   ·intro i hi
    by_cases h : i < x.es.length
    ·have h' : (i : Int) < (x.es.length : Int) := by omega
     have pi := gN h
     have hp : ∀ y, x.es.getD i default = y → evF (pgL fx F0) n_items_table_put [.ptr 11 1, str y.n, i64 i] ([o0, o1, o2, o3, o4, o5, o6, IB x, .map (fmap (nS x) x.ss.length), .map (fmap (nE x) i), .map [], .box [.mp 8, .mp 9, .mp 10]] ++ [.box [str y.n, .d (fldsD y.fs)]]) = some (.tup [], [o0, o1, o2, o3, o4, o5, o6, IB x, .map (fmap (nS x) x.ss.length), .map (fmap (nE x) (i + 1)), .map [], .box [.mp 8, .mp 9, .mp 10]] ++ [.box [str y.n, .d (fldsD y.fs)]]) := fun y hy => by
       have hn := put1_s (fx := fx) (F := F0) (fmap (nS x) x.ss.length) (fmap (nE x) i) [] y.n i (fmap_keys _ _) (fmap_int _ _ _ (by omega))
       rw [← hy, ← nE_getD h, ← fmap_put] at hn
       rw [← hy, ← nE_getD h]
       exact evF_at (mv fx) [8, 9, 10, 11] hn rfl rfl rfl rfl rfl
     revert pi hp
     generalize x.es.getD i default = y
     intro pi hp
     have hp := hp y rfl
     repeat' (first | refine run ⟨?_⟩ | refine pickD pi ?_ | refine ca (hp) ?_ | fail)
     exact ⟨i + 1, by omega, by omega, by rw [i64w (by omega)]; rfl, rfl⟩
    ·have h' : ¬ (i : Int) < (x.es.length : Int) := by omega
     obtain rfl : i = x.es.length := by omega
     refine run ⟨?_⟩
     refine wq_loop (α := Nat) (fun i => x.fs.length - i) (fun i => [(3, .ptr 11 0), (51, .d (.sl (x.fs.map Fnc.D))), (52, i64 x.fs.length), (53, i64 i)]) (fun i => [o0, o1, o2, o3, o4, o5, o6, IB x, .map (fmap (nS x) x.ss.length), .map (fmap (nE x) x.es.length), .map (fmap (nF x) i), .box [.mp 8, .mp 9, .mp 10]]) (fun i => i ≤ x.fs.length) ?_ 0 (Nat.zero_le _) (by rw [List.length_map]; rfl) rfl
     ·intro i hi
      by_cases h : i < x.fs.length
      ·have h' : (i : Int) < (x.fs.length : Int) := by omega
       have pi := gF h
       have hp : ∀ y, x.fs.getD i default = y → evF (pgL fx F0) n_items_table_put [.ptr 11 2, str y.n, i64 i] ([o0, o1, o2, o3, o4, o5, o6, IB x, .map (fmap (nS x) x.ss.length), .map (fmap (nE x) x.es.length), .map (fmap (nF x) i), .box [.mp 8, .mp 9, .mp 10]] ++ [.box [str y.n, .d (fldsD y.ps), .d (.sl (y.ms.map .bool)), str y.r, i64 y.d]]) = some (.tup [], [o0, o1, o2, o3, o4, o5, o6, IB x, .map (fmap (nS x) x.ss.length), .map (fmap (nE x) x.es.length), .map (fmap (nF x) (i + 1)), .box [.mp 8, .mp 9, .mp 10]] ++ [.box [str y.n, .d (fldsD y.ps), .d (.sl (y.ms.map .bool)), str y.r, i64 y.d]]) := fun y hy => by
         have hn := put2_s (fx := fx) (F := F0) (fmap (nS x) x.ss.length) (fmap (nE x) x.es.length) (fmap (nF x) i) y.n i (fmap_keys _ _) (fmap_int _ _ _ (by omega))
         rw [← hy, ← nF_getD h, ← fmap_put] at hn
         rw [← hy, ← nF_getD h]
         exact evF_at (mv fx) [8, 9, 10, 11] hn rfl rfl rfl rfl rfl
       revert pi hp
       generalize x.fs.getD i default = y
       intro pi hp
       have hp := hp y rfl
       repeat' (first | refine run ⟨?_⟩ | refine pickD pi ?_ | refine ca (hp) ?_ | fail)
       exact ⟨i + 1, by omega, by omega, by rw [i64w (by omega)]; rfl, rfl⟩
      ·have h' : ¬ (i : Int) < (x.fs.length : Int) := by omega
       obtain rfl : i = x.fs.length := by omega
       refine run ⟨?_⟩
       exact ⟨_, rfl, rfl, by unfold finM; rw [es, ee, ef]⟩
end
theorem rf_of {t : List Nd} (hf : Tp.Fine t) (h : checkB t = true) : Rf t where
 rt := rt_of h
 txt := fun i => by
   unfold nd
   rw [List.getD_eq_getElem?_getD]
   by_cases c : i.toNat < t.length
   ·rw [List.getElem?_eq_getElem c]; exact hf.txt _ (List.getElem_mem c)
   ·rw [List.getElem?_eq_none (by omega)]; exact Nat.zero_le _
 kl := fun i => by
   unfold nd
   rw [List.getD_eq_getElem?_getD]
   by_cases c : i.toNat < t.length
   ·rw [List.getElem?_eq_getElem c]; exact hf.kid _ (List.getElem_mem c)
   ·rw [List.getElem?_eq_none (by omega)]; exact Nat.zero_le _
section
variable {t : List Nd} (h : Rf t)
include h
theorem root_in : In t ((t.length : Int) - 1) := by
 have := h.rt.lo
 exact ⟨by omega, by omega⟩
theorem roots_in : ∀ n ∈ roots t, In t n ∧ ((nd t n).k = 2 ∨ (nd t n).k = 3 ∨ (nd t n).k = 4) := fun n hn => ⟨h.rt.inK (root_in h) hn, h.rt.root n hn⟩
theorem roots_len : (roots t).length ≤ 1048576 := h.kl _
theorem fld_fine (k : Int) : (fldOf t k).n.length ≤ mx ∧ (fldOf t k).t.length ≤ mx := by
 have := h.txt k
 refine ⟨by show (nd t k).t.length ≤ 140737488355328; omega, ?_⟩
 unfold fldOf
 simp only
 split
 ·exact Nat.zero_le _
 ·rename_i a _ _
  have := tx_len h a
  show (tx t a).length ≤ 140737488355328
  omega
theorem fine_its {l : List Int} (hll : l.length ≤ 1048576) (hl : ∀ n ∈ l, In t n) : Fine (itsOf t l) := by
 have fl : ∀ p : Int → Bool, (l.filter p).length ≤ 140737488355328 := fun p => by have := List.length_filter_le p l; omega
 have nam : ∀ p : Int → Bool, ∀ y ∈ (l.filter p).map (namOf t), y.n.length ≤ mx ∧ y.fs.length ≤ mf ∧ ∀ f ∈ y.fs, f.n.length ≤ mx ∧ f.t.length ≤ mx := fun p y hy => by
   obtain ⟨n, _, rfl⟩ := List.mem_map.1 hy
   have e1 := h.txt n
   have e2 := h.kl n
   refine ⟨by show (nd t n).t.length ≤ 140737488355328; omega, by show ((nd t n).kids.map (fldOf t)).length ≤ 4398046511104; rw [List.length_map]; omega, fun f hf => ?_⟩
   obtain ⟨k, _, rfl⟩ := List.mem_map.1 hf
   exact fld_fine h k
 refine ⟨by show ((l.filter _).map _).length ≤ mx; rw [List.length_map]; exact fl _, by show ((l.filter _).map _).length ≤ mx; rw [List.length_map]; exact fl _, by show ((l.filter _).map _).length ≤ mx; rw [List.length_map]; exact fl _, nam _, nam _, fun y hy => ?_⟩
 obtain ⟨n, hn, rfl⟩ := List.mem_map.1 hy
 have hin := hl n (List.mem_filter.1 hn).1
 have e1 := h.txt n
 have e2 := h.kl n
 have e3 := mem_len t n
 have e4 := tx_len h (ret t n)
 have e5 := h.rt.hi
 have e6 := hin.lt
 have e7 := hin.1
 refine ⟨by show (nd t n).t.length ≤ 140737488355328; omega, by show (tx t (ret t n)).length ≤ 140737488355328; omega, by show ((mem t n).map _).length ≤ 140737488355328; rw [List.length_map]; omega, by show ((mem t n).map _).length ≤ 4398046511104; rw [List.length_map]; omega, fun f hf => ?_, by show -9223372036854775808 ≤ n; omega, by show n ≤ 9223372036854775807; omega⟩
 obtain ⟨k, _, rfl⟩ := List.mem_map.1 hf
 exact fld_fine h k
theorem small_its {l : List Int} (hl : ∀ n ∈ l, In t n) (hb : (col t l).2 < 0) {ts fs : List S} (hn : nmsG t ts fs l = none) : Small (itsOf t l) := by
 have _u := h
 obtain ⟨c1, c2, c3⟩ := col_few (t := t) (fun n q => (hl n q).1) hb
 have nam : ∀ p : Int → Bool, (∀ n, p n = true → (nd t n).k ≠ 2) → ∀ y ∈ (l.filter p).map (namOf t), y.fs.length ≤ 16 := fun p hp y hy => by
   obtain ⟨n, hq, rfl⟩ := List.mem_map.1 hy
   obtain ⟨q1, q2⟩ := List.mem_filter.1 hq
   have := (nms_few hn n q1).2 (hp n q2)
   unfold mem at this
   rw [if_neg (hp n q2)] at this
   show ((nd t n).kids.map (fldOf t)).length ≤ 16
   rw [List.length_map]; exact this
 exact ⟨c1, c2, nam _ fun n q => by unfold is3 at q; have := of_decide_eq_true q; omega, nam _ fun n q => by unfold is4 at q; have := of_decide_eq_true q; omega⟩
end
theorem cov_its (t : List Nd) (l : List Int) : ∀ s ∈ nS (itsOf t l) ++ nE (itsOf t l), ∃ n ∈ l, (nd t n).k ≠ 2 ∧ (nd t n).t = s := fun s hs => by
  rcases List.mem_append.1 hs with q | q
  ·unfold nS itsOf at q
   simp only [List.map_map] at q
   obtain ⟨n, hn, rfl⟩ := List.mem_map.1 q
   obtain ⟨q1, q2⟩ := List.mem_filter.1 hn
   unfold is3 at q2
   have := of_decide_eq_true q2
   exact ⟨n, q1, by omega, rfl⟩
  ·unfold nE itsOf at q
   simp only [List.map_map] at q
   obtain ⟨n, hn, rfl⟩ := List.mem_map.1 q
   obtain ⟨q1, q2⟩ := List.mem_filter.1 hn
   unfold is4 at q2
   have := of_decide_eq_true q2
   exact ⟨n, q1, by omega, rfl⟩
end Go.Vm.Ite
namespace Go.Vm.Ite
open Go.Vm.Tp (Nd treeD checkB isTy)
open Go.Vm.Ip
open Go.Vm.Io (In Rt nd txt tx fldOf mem ret namOf fncOf roots itsOf is2 is3 is4 col col_few nmsG nms_few rt_of mem_len mem_sub col_eq col_in tyG tyl tyA szG1 szG2 nms_c ty_c sz1_c sz2_c)
set_option maxRecDepth 10000
set_option linter.unusedVariables false
set_option linter.unusedSimpArgs false
abbrev eI : Its := ⟨[], [], []⟩
theorem szA_c {t : List Nd} {x : Its} {l : List Int} {c n : Int} (h : szA t x l = some (c, n)) : c ≠ 0 := by
 unfold szA at h
 split at h
 ·rename_i e he
  cases h
  exact sz1_c he
 ·exact sz2_c h
noncomputable def wrong (t : List Nd) (l : List Int) : Option (Int × Int) :=
 if (col t l).2 < 0 then match nmsG t [] [printT, readT, panicT] l with
  | some e => some e
  | none => match tyA t (kn (itsOf t l)) l with
  | some e => some e
  | none => szA t (itsOf t l) l
 else some (2, (col t l).2)
noncomputable def ofP (t : List Nd) : Its × D :=
 if checkB t = true then match wrong t (roots t) with
  | some e => (eI, dgO t (some e))
  | none => match pos (nF (itsOf t (roots t))) mainT with
  | none => (eI, Lex.dgD 144 0 0)
  | some i => if 0 < ((itsOf t (roots t)).fs.getD i default).ps.length ∨ ((itsOf t (roots t)).fs.getD i default).r ≠ unitT then (eI, dgO t (some (144, ((itsOf t (roots t)).fs.getD i default).d))) else (itsOf t (roots t), Lex.dgD 0 0 0)
 else (eI, Lex.dgD 3 0 0)
abbrev BTx (t : List Nd) : Ob := .box [.d (.sl (t.map Nd.D))]
abbrev BRx : Ob := .box [.nils, .nils, .nils]
abbrev H7x (t : List Nd) (x : Its) (o0 o1 o2 : Ob) (X : Hp) : Hp := o0 :: o1 :: o2 :: .box [.d (.sl (t.map Nd.D)), .row 4 x.ss.length, .row 5 x.es.length, .row 6 x.fs.length, .nul] :: .row 2 (x.ss.map Nam.D) :: .row 2 (x.es.map Nam.D) :: .row 5 (x.fs.map Fnc.D) :: X
abbrev H11x (t : List Nd) (x : Its) (o0 o1 o2 : Ob) (X : Hp) : Hp := o0 :: o1 :: o2 :: .box [.d (.sl (t.map Nd.D)), .row 4 x.ss.length, .row 5 x.es.length, .row 6 x.fs.length, .ptr 11 0] :: .row 2 (x.ss.map Nam.D) :: .row 2 (x.es.map Nam.D) :: .row 5 (x.fs.map Fnc.D) :: IB x :: .map (finM (nS x)) :: .map (finM (nE x)) :: .map (finM (nF x)) :: .box [.mp 8, .mp 9, .mp 10] :: X
section
variable {fx : Nat → Option Obj} {t : List Nd}
set_option maxHeartbeats 8000000 in
theorem of_ev (hf : Tp.Fine t) (H : Hp) : evF (pgL fx FT) n_items_Of [.d (treeD t)] H = some (.tup [.d (ofP t).1.D, .d (ofP t).2], H) := by
 refine evF_wq (t_items_Of (F := FT)) rfl rfl ?_ H
 have hck := fun H => Itr.check_ev (fx := fx) (F := FT) H t hf
 unfold ofP
 cases hc : checkB t with
 | false =>
  rw [hc] at hck
  repeat' (first | refine run ⟨?_⟩ | refine ca (hck _) ?_ | fail)
  exact rfl
 | true =>
  rw [hc] at hck
  rw [if_pos rfl]
  have h := rf_of hf hc
  have hro := roots_in h
  have hrl := roots_len h
  have hlo := h.rt.lo
  have hhi := h.rt.hi
  have hnl : (t.map Nd.D).length = t.length := List.length_map ..
  have hw : IntKind.i64.wrap (((t.map Nd.D).length : Int) - 1) = (t.length : Int) - 1 := by rw [hnl, i64w (by omega)]
  have pl : 0 ≤ IntKind.i64.wrap (((t.map Nd.D).length : Int) - 1) ∧ (t.map Nd.D)[(IntKind.i64.wrap (((t.map Nd.D).length : Int) - 1)).toNat]? = some (nd t ((t.length : Int) - 1)).D := by rw [hw]; exact nodeP (root_in h)
  have hkr : kidD (roots t) = .sl ((nd t ((t.length : Int) - 1)).kids.map (D.int .i64)) := rfl
  have hcol : evF (pgL fx FT) n_items_reader_collect [.ptr 3 0, .d (.sl ((nd t ((t.length : Int) - 1)).kids.map (D.int .i64)))] (H7x t eI (BTx t) BRx ZBo []) = some (.tup [i64 (col t (roots t)).2, boo (decide ((col t (roots t)).2 < 0))], H7x t (itsOf t (roots t)) (BTx t) BRx ZBo []) := by
   have e := collect_s (fx := fx) h (roots t) hrl hro
   rw [col_eq] at e
   exact up (evF_at (mv fx) [3, 4, 5, 6] (X := H7x t eI (BTx t) BRx ZBo []) (A := [.ptr 3 0, .d (kidD (roots t))]) e rfl rfl rfl rfl rfl)
  have hfi := fine_its h hrl (fun n hn => (hro n hn).1)
  have hsi := fun (hb : (col t (roots t)).2 < 0) (hn : nmsG t [] [printT, readT, panicT] (roots t) = none) => small_its h (fun n hn => (hro n hn).1) hb hn
  have hcov := cov_its t (roots t)
  have hci := col_in (t := t) (roots t) (eI, -1)
  unfold wrong
  rw [show (nd t ((t.length : Int) - 1)).kids = roots t from rfl] at hcol
  have hfs : ∀ y ∈ (itsOf t (roots t)).fs, In t y.d := fun y hy => by
    obtain ⟨n, hn, rfl⟩ := List.mem_map.1 hy
    exact (hro n (List.mem_filter.1 hn).1).1
  have prn : (nd t ((t.length : Int) - 1)).D = .agg [.int .i64 (nd t ((t.length : Int) - 1)).k, .str (nd t ((t.length : Int) - 1)).t, .int .i64 (nd t ((t.length : Int) - 1)).v, .sl ((roots t).map (D.int .i64)), .int .i64 (nd t ((t.length : Int) - 1)).f, .int .i64 (nd t ((t.length : Int) - 1)).e] := rfl
  rw [prn] at pl
  generalize (nd t ((t.length : Int) - 1)).k = q1 at pl
  generalize (nd t ((t.length : Int) - 1)).t = q2 at pl
  generalize (nd t ((t.length : Int) - 1)).v = q3 at pl
  generalize (nd t ((t.length : Int) - 1)).f = q4 at pl
  generalize (nd t ((t.length : Int) - 1)).e = q5 at pl
  clear prn hkr
  generalize roots t = l at *
  have e1 : ((itsOf t l).ss.map Nam.D).length = (itsOf t l).ss.length := List.length_map ..
  have e2 : ((itsOf t l).es.map Nam.D).length = (itsOf t l).es.length := List.length_map ..
  have e3 : ((itsOf t l).fs.map Fnc.D).length = (itsOf t l).fs.length := List.length_map ..
  by_cases hb : (col t l).2 < 0
  rotate_left
  ·have hin : In t (col t l).2 := by
    rcases hci (by show 0 ≤ (col t l).2; omega) with e | e
    ·exact absurd (show (-1 : Int) = (col t l).2 from e) (by omega)
    ·exact (hro _ e).1
   have hdg : evF (pgL fx FT) n_items_reader_diag [.ptr 3 0, .d (.int .i64 2), .d (.int .i64 (col t l).2)] (H7x t (itsOf t l) (BTx t) BRx ZBo []) = some (.d (Lex.dgD 2 (nd t (col t l).2).f (nd t (col t l).2).e), H7x t (itsOf t l) (BTx t) BRx ZBo []) :=
    up (evF_at (mv fx) [3, 4, 5, 6] (X := H7x t (itsOf t l) (BTx t) BRx ZBo []) (A := [.ptr 3 0, .d (.int .i64 2), .d (.int .i64 (col t l).2)]) (diag4_e (fx := fx) (F := F0) (x := itsOf t l) (X := []) (e := 2) hin) rfl rfl rfl rfl rfl)
   rw [if_neg hb]
   have nb : (!decide ((col t l).2 < 0)) = true := by rw [decide_eq_false hb]; rfl
   repeat' (first | refine run ⟨?_⟩ | refine ca (hck _) ?_ | refine pickD pl ?_ | refine ca (hcol) ?_ | refine ca (hdg) ?_ | fail)
   exact rfl
  ·rw [if_pos hb]
   have nb : (!decide ((col t l).2 < 0)) = false := by rw [decide_eq_true hb]; rfl
   have hix := index7_ev (fx := fx) (F := FT) (itsOf t l) hfi
   have hnm : evF (pgL fx FT) n_items_reader_names [.ptr 3 0, .d (kidD l)] (H11x t (itsOf t l) (BTx t) BRx ZBo []) = some (.d (dgO t (nmsG t [] [printT, readT, panicT] l)), H11x t (itsOf t l) (BTx t) BRx ZBo []) :=
    up (evF_at (mv fx) [3, 4, 5, 6, 7, 8, 9, 10, 11] (X := H11x t (itsOf t l) (BTx t) BRx ZBo []) (A := [.ptr 3 0, .d (kidD l)]) (names_s (fx := fx) (x := itsOf t l) h l hrl (fun n hn => (hro n hn).1)) rfl rfl rfl rfl rfl)
   cases hnn : nmsG t [] [printT, readT, panicT] l with
   | some e =>
    obtain ⟨c, n⟩ := e
    have hc0 := nms_c hnn
    rw [hnn] at hnm
    have nc : (!decide (c = 0)) = true := by rw [decide_eq_false hc0]; rfl
    simp only [dgO] at hnm ⊢
    repeat' (first | refine run ⟨?_⟩ | refine ca (hck _) ?_ | refine pickD pl ?_ | refine ca (hcol) ?_ | refine And.intro e1 ?_ | refine And.intro e2 ?_ | refine And.intro e3 ?_ | refine ca (hix _ _ _ _ _ _ _) ?_ | refine ca (hnm) ?_ | fail)
    exact rfl
   | none =>
    rw [hnn] at hnm
    have hsm := hsi hb hnn
    generalize hx : itsOf t l = x at *
    have hsz := fun o0 o1 o2 o3 => sizes_s (fx := fx) h hfi hsm l hrl (fun n hn => (hro n hn).1) hcov o0 o1 o2 o3
    simp only [dgO] at hnm ⊢
    repeat' (first | refine run ⟨?_⟩ | refine ca (hck _) ?_ | refine pickD pl ?_ | refine ca (hcol) ?_ | refine And.intro e1 ?_ | refine And.intro e2 ?_ | refine And.intro e3 ?_ | refine ca (hix _ _ _ _ _ _ _) ?_ | refine ca (hnm) ?_ | fail)
    refine wq_loop (α := Nat) (fun j => l.length - j) (fun j => [(2, .ptr 1 0), (3, .ptr 2 0), (5, .ptr 3 0), (6, .d (kidD l)), (10, .fm 29 [.ptr 3 0]), (67, .d (kidD l)), (68, i64 l.length), (69, i64 j)]) (fun _ => H12x t x (BTx t) BRx ZBo ZBo []) (fun j => j ≤ l.length ∧ tyA t (kn x) (l.drop j) = tyA t (kn x) l) ?_ 0 ⟨Nat.zero_le _, by rw [List.drop_zero]⟩ (by show [_, _, _, _, _, _, (68, i64 ((l.map (D.int .i64)).length : Int)), _] = _; rw [show (l.map (D.int .i64)).length = l.length from List.length_map ..]; rfl) rfl
    rintro j ⟨hj, hco⟩
    by_cases hlt : j < l.length
    ·have c1 : (j : Int) < (l.length : Int) := by omega
     have pj := kidP hlt
     rw [List.drop_eq_getElem_cons hlt, tyA] at hco
     obtain ⟨hin, hkk⟩ := hro _ (List.getElem_mem hlt)
     generalize l[j] = n at pj hco hin hkk
     have wj : IntKind.i64.wrap ((j : Int) + 1) = ((j + 1 : Nat) : Int) := by rw [i64w (by omega)]; omega
     have hty : evF (pgL fx FT) n_items_reader_types [.ptr 3 0, .d (.int .i64 n)] (H12x t x (BTx t) BRx ZBo ZBo []) = some (.d (dgO t (tyG t (kn x) (decide ((nd t n).k = 2)) (tyl t n))), H12x t x (BTx t) BRx ZBo ZBo []) :=
      up (evF_at (mv fx) [3, 4, 5, 6, 7, 8, 9, 10, 11] (X := H12x t x (BTx t) BRx ZBo ZBo []) (A := [.ptr 3 0, .d (.int .i64 n)]) (types_s (fx := fx) (x := x) h hin hkk) rfl rfl rfl rfl rfl)
     cases htt : tyG t (kn x) (decide ((nd t n).k = 2)) (tyl t n) with
     | some e =>
      obtain ⟨c, m⟩ := e
      have hc0 := ty_c htt
      rw [htt] at hty hco
      simp only [dgO] at hty
      simp only at hco
      rw [← hco]
      have nc : (!decide (c = 0)) = true := by rw [decide_eq_false hc0]; rfl
      simp only [dgO]
      repeat' (first | refine run ⟨?_⟩ | refine pickD pj ?_ | refine ca (hty) ?_ | fail)
      exact rfl
     | none =>
      rw [htt] at hty hco
      simp only [dgO] at hty
      simp only at hco
      repeat' (first | refine run ⟨?_⟩ | refine pickD pj ?_ | refine ca (hty) ?_ | fail)
      exact ⟨j + 1, ⟨by omega, hco⟩, by omega, by rw [wj]; rfl, rfl⟩
    ·have c1 : ¬ (j : Int) < (l.length : Int) := by omega
     have hje : j = l.length := by omega
     rw [hje, List.drop_length, tyA] at hco
     rw [← hco]
     simp only
     have hsz := hsz (BTx t) BRx ZBo ZBo
     cases hw2 : szA t x l with
     | some e =>
      obtain ⟨c, m⟩ := e
      rw [hw2] at hsz
      have hc0 := szA_c hw2
      have nc : (!decide (c = 0)) = true := by rw [decide_eq_false hc0]; rfl
      simp only [dgO] at hsz ⊢
      repeat' (first | refine run ⟨?_⟩ | refine ca (hsz) ?_ | fail)
      exact rfl
     | none =>
      rw [hw2] at hsz
      simp only [dgO] at hsz
      have hfind : ∀ y, evF (pgL fx FT) n_items_table_find [.ptr 11 2, str mainT] (H12x t x (BTx t) BRx ZBo ZBo [y]) = some (.tup [i64 (loc (nF x) mainT), boo (known (nF x) mainT)], H12x t x (BTx t) BRx ZBo ZBo [y]) := fun y =>
       up (evF_at (mv fx) [8, 9, 10, 11] (X := H12x t x (BTx t) BRx ZBo ZBo [y]) (A := [.ptr 11 2, str mainT]) (find2_s (fx := fx) (F := F0) x mainT) rfl rfl rfl rfl rfl)
      cases hp : pos (nF x) mainT with
      | none =>
       have hk : known (nF x) mainT = false := by unfold known; rw [hp]; rfl
       rw [hk] at hfind
       repeat' (first | refine run ⟨?_⟩ | refine ca (hsz) ?_ | refine ca (hfind _) ?_ | fail)
       exact rfl
      | some i =>
       have hk : known (nF x) mainT = true := by unfold known; rw [hp]; rfl
       have hlo2 : loc (nF x) mainT = (i : Int) := by unfold loc; rw [hp]
       rw [hk, hlo2] at hfind
       have hil : i < x.fs.length := by
        have := (pos_some hp).1
        have h5 := (List.getElem?_eq_some_iff.1 this).1
        unfold nF at h5
        rwa [List.length_map] at h5
       have pf := gF hil
       have hfm : x.fs.getD i default ∈ x.fs := by rw [List.getD_eq_getElem?_getD, List.getElem?_eq_getElem hil]; exact List.getElem_mem _
       have hfd := hfs _ hfm
       simp only
       generalize x.fs.getD i default = f at pf hfd ⊢
       have hdg := fun y0 y1 => dg12a (fx := fx) (x := x) (e := 144) hfd (BTx t) BRx ZBo ZBo y0 y1
       have hpl : (f.ps.map Fld.D).length = f.ps.length := List.length_map ..
       by_cases cp : 0 < f.ps.length
       ·have dp : ((f.ps.map Fld.D).length : Int) > 0 := by omega
        rw [if_pos (.inl cp)]
        repeat' (first | refine run ⟨?_⟩ | refine ca (hsz) ?_ | refine ca (hfind _) ?_ | refine And.intro e3 ?_ | refine pickD pf ?_ | refine ca (hdg _ _) ?_ | fail)
        exact rfl
       ·have dp : ¬ ((f.ps.map Fld.D).length : Int) > 0 := by omega
        by_cases cr : f.r = unitT
        ·have dr : (!decide (f.r = [40, 41])) = false := by rw [decide_eq_true (show f.r = [40, 41] from cr)]; rfl
         rw [if_neg (by rintro (q | q); exact cp q; exact q cr)]
         repeat' (first | refine run ⟨?_⟩ | refine ca (hsz) ?_ | refine ca (hfind _) ?_ | refine And.intro e3 ?_ | refine pickD pf ?_ | refine And.intro e1 ?_ | refine And.intro e2 ?_ | fail)
         first | exact rfl | exact ⟨rfl, rfl⟩
        ·have dr : (!decide (f.r = [40, 41])) = true := by rw [decide_eq_false (show ¬ f.r = [40, 41] from cr)]; rfl
         rw [if_pos (.inr cr)]
         repeat' (first | refine run ⟨?_⟩ | refine ca (hsz) ?_ | refine ca (hfind _) ?_ | refine And.intro e3 ?_ | refine pickD pf ?_ | refine ca (hdg _ _) ?_ | fail)
         exact rfl
end
end Go.Vm.Ite
namespace Go.Vm.Ite
open Go.Vm.Tp (Nd treeD checkB isTy kindAt kinds nodeB)
open Go.Vm.Ip
open Go.Vm.Io hiding S
set_option maxRecDepth 10000
set_option linter.unusedVariables false
set_option linter.unusedSimpArgs false
def bod (x : Nd) : Nd := if x.k = 30 then ⟨x.k, x.t, IntKind.i64.wrap (x.v.tdiv 2), x.kids, x.f, x.e⟩ else if x.k = 33 then ⟨x.k, [113], x.v, x.kids, x.f, x.e⟩ else x
theorem bod_k (x : Nd) : (bod x).k = x.k := by unfold bod; (repeat' split) <;> rfl
theorem bod_kids (x : Nd) : (bod x).kids = x.kids := by unfold bod; (repeat' split) <;> rfl
theorem bod_f (x : Nd) : (bod x).f = x.f := by unfold bod; (repeat' split) <;> rfl
theorem bod_e (x : Nd) : (bod x).e = x.e := by unfold bod; (repeat' split) <;> rfl
theorem bod_t {x : Nd} (h : x.k ≠ 33) : (bod x).t = x.t := by unfold bod; (repeat' split) <;> first | rfl | omega
theorem bod_v {x : Nd} (h : x.k ≠ 30) : (bod x).v = x.v := by unfold bod; (repeat' split) <;> first | rfl | omega
theorem nd_bod (t : List Nd) (i : Int) : nd (t.map bod) i = bod (nd t i) := by
 unfold nd
 rw [List.getD_eq_getElem?_getD, List.getD_eq_getElem?_getD, List.getElem?_map]
 cases t[i.toNat]? <;> rfl
theorem kinds_bod (t : List Nd) (l : List Int) : kinds (t.map bod) l = kinds t l := by
 unfold kinds
 refine List.map_congr_left fun i _ => ?_
 show (nd (t.map bod) i).k = (nd t i).k
 rw [nd_bod, bod_k]
theorem node_bod {t : List Nd} (hv : ∀ x ∈ t, Tp.I64 x.v) (i : Nat) (h : nodeB t i = true) : nodeB (t.map bod) i = true := by
 have e : (t.map bod).getD i default = bod (t.getD i default) := nd_bod t i
 have hx : Tp.I64 (t.getD i default).v := by
  rw [List.getD_eq_getElem?_getD]
  cases c : t[i]? with
  | none => unfold Tp.I64; decide
  | some x => exact hv x (List.mem_of_getElem? c)
 unfold nodeB at h ⊢
 rw [e]
 generalize t.getD i default = x at h hx ⊢
 simp only [bod_k, bod_kids, bod_f, bod_e, kinds_bod, Bool.and_eq_true] at h ⊢
 obtain ⟨h1, ⟨⟨⟨⟨h2, h3⟩, h4⟩, h5⟩, h6⟩, h7⟩ := h
 refine ⟨h1, ⟨⟨⟨⟨h2, ?_⟩, ?_⟩, h5⟩, h6⟩, ?_⟩
 ·by_cases c : x.k = 33
  ·have : (bod x).t = [113] := by unfold bod; rw [if_neg (by omega), if_pos c]
   rw [this, c]; decide
  ·rw [bod_t c]; exact h3
 ·by_cases c : x.k = 30
  ·have : (bod x).v = IntKind.i64.wrap (x.v.tdiv 2) := by unfold bod; rw [if_pos c]
   rw [this]
   rw [c] at h4 ⊢
   have h0 : 0 ≤ x.v := by simpa [Tp.numB] using h4
   have hm := hx.2
   have ew : IntKind.i64.wrap (x.v.tdiv 2) = x.v / 2 := by rw [Int.tdiv_eq_ediv_of_nonneg h0, i64w (by omega)]
   rw [ew]
   have : 0 ≤ x.v / 2 := by omega
   simp [Tp.numB, this]
  ·rw [bod_v c]; exact h4
 ·by_cases c : x.k = 30
  ·rw [c] at h7 ⊢; exact h7
  ·rw [bod_v c]; exact h7
theorem upAll_bod : ∀ (t : List Nd) (i : Nat) (out : List Int), Tp.upAll i (t.map bod) out = Tp.upAll i t out
 | [], _, _ => rfl
 | x :: r, i, out => by
   simp only [List.map_cons, Tp.upAll, bod_kids]
   congr 1
   funext o
   exact upAll_bod r (i + 1) o
theorem check_bod {t : List Nd} (hv : ∀ x ∈ t, Tp.I64 x.v) (h : checkB t = true) : checkB (t.map bod) = true := by
 have hup : Tp.upOk (t.map bod) = Tp.upOk t := by unfold Tp.upOk Tp.ups; rw [upAll_bod, List.length_map]
 unfold checkB at h ⊢
 simp only [Bool.and_eq_true, List.all_eq_true, List.length_map, hup] at h ⊢
 obtain ⟨⟨⟨⟨h1, h2⟩, h3⟩, h4⟩, h5⟩ := h
 refine ⟨⟨⟨⟨h1, h2⟩, ?_⟩, fun i hi => node_bod hv i (h4 i hi)⟩, h5⟩
 have e := nd_bod t ((t.length - 1 : Nat) : Int)
 unfold nd at e
 rw [Int.toNat_natCast] at e
 rw [e, bod_k]; exact h3
section
variable {t : List Nd} (h : Rt t)
include h
theorem txt_bod : ∀ (n : Nat) (i : Int), In t i → isTy (nd t i).k = true → txt (t.map bod) n i = txt t n i
 | 0, _, _, _ => rfl
 | n + 1, i, hi, hk => by
   rw [txt, txt, nd_bod, bod_k, bod_kids]
   have h33 : (nd t i).k ≠ 33 := by intro e; rw [e] at hk; exact absurd hk (by decide)
   rw [bod_t h33]
   by_cases c : (nd t i).k = 14 ∨ (nd t i).k = 15 ∨ (nd t i).k = 16
   ·obtain ⟨a, e, ha⟩ := h.ref i hi c
    have hin := h.inK hi (k := a) (by rw [e]; exact List.mem_singleton.2 rfl)
    rw [e, show [a].getD 0 0 = a from rfl, txt_bod n a hin ha]
   ·rw [if_neg (show ¬ (nd t i).k = 14 by omega), if_neg (show ¬ (nd t i).k = 15 by omega), if_neg (show ¬ (nd t i).k = 16 by omega), if_neg (show ¬ (nd t i).k = 14 by omega), if_neg (show ¬ (nd t i).k = 15 by omega), if_neg (show ¬ (nd t i).k = 16 by omega)]
theorem tx_bod {i : Int} (hi : In t i) (hk : isTy (nd t i).k = true) : tx (t.map bod) i = tx t i := by
 unfold tx; rw [List.length_map]; exact txt_bod h _ i hi hk
theorem fld_bod {i : Int} (hi : In t i) (h33 : (nd t i).k ≠ 33) (hk : (nd t i).kids = [] ∨ ∃ a, (nd t i).kids = [a] ∧ isTy (nd t a).k = true) : fldOf (t.map bod) i = fldOf t i := by
 unfold fldOf
 rw [nd_bod, bod_kids, bod_t h33]
 rcases hk with e | ⟨a, e, ha⟩
 ·rw [e]
 ·rw [e]
  simp only
  rw [tx_bod h (h.inK hi (k := a) (by rw [e]; exact List.mem_singleton.2 rfl)) ha]
omit h in
theorem mem_bod (t : List Nd) (n : Int) : mem (t.map bod) n = mem t n := by unfold mem; rw [nd_bod, bod_k, bod_kids]
omit h in
theorem ret_bod (t : List Nd) (n : Int) : ret (t.map bod) n = ret t n := by unfold ret; rw [nd_bod, bod_kids]
theorem mem33 {n : Int} (hi : In t n) (hk : (nd t n).k = 2 ∨ (nd t n).k = 3 ∨ (nd t n).k = 4) {k : Int} (hm : k ∈ mem t n) : (nd t k).k = 5 ∨ (nd t k).k = 6 ∨ (nd t k).k = 7 := by
 rcases hk with e | e | e
 ·obtain ⟨ps, a, b, e1, e2, _⟩ := h.fn n hi e
  have : mem t n = ps := by unfold mem; rw [if_pos e, e1]; simp
  rw [this] at hm
  exact .inr (.inr (e2 k hm))
 ·exact .inl (h.st n hi e k (mem_sub hm))
 ·exact .inr (.inl (h.en n hi e k (mem_sub hm)))
theorem flds_bod {n : Int} (hi : In t n) (hk : (nd t n).k = 2 ∨ (nd t n).k = 3 ∨ (nd t n).k = 4) : (mem t n).map (fldOf (t.map bod)) = (mem t n).map (fldOf t) :=
 List.map_congr_left fun k hm => fld_bod h (h.memk hi hk hm).1 (by have := mem33 h hi hk hm; omega) (h.memk hi hk hm).2
theorem nam_bod {n : Int} (hi : In t n) (hk : (nd t n).k = 3 ∨ (nd t n).k = 4) : namOf (t.map bod) n = namOf t n := by
 have e := flds_bod h hi (.inr hk)
 have em : mem t n = (nd t n).kids := by unfold mem; rw [if_neg (by omega)]
 rw [em] at e
 unfold namOf
 rw [nd_bod, bod_kids, bod_t (by omega), e]
theorem fnc_bod {n : Int} (hi : In t n) (hk : (nd t n).k = 2) : fncOf (t.map bod) n = fncOf t n := by
 have e := flds_bod h hi (.inl hk)
 obtain ⟨ps, b, _, _, g1, g2⟩ := h.retk hi hk
 unfold fncOf
 rw [mem_bod, ret_bod, nd_bod, bod_t (by omega), e, tx_bod h g1 g2]
 congr 1
 refine List.map_congr_left fun k hm => ?_
 rw [nd_bod, bod_v (by have := mem33 h hi (.inl hk) hm; omega)]
variable {l : List Int} (hl : ∀ n ∈ l, In t n ∧ ((nd t n).k = 2 ∨ (nd t n).k = 3 ∨ (nd t n).k = 4))
theorem col1_bod {n : Int} (hi : In t n) (hk : (nd t n).k = 2 ∨ (nd t n).k = 3 ∨ (nd t n).k = 4) (a : Its × Int) : col1 (t.map bod) a n = col1 t a n := by
 unfold col1
 rw [nd_bod, bod_k]
 rcases hk with e | e | e
 ·have h3 : ¬ (nd t n).k = 3 := by omega
  have h4 : ¬ (nd t n).k = 4 := by omega
  simp only [if_neg h3, if_neg h4, fnc_bod h hi e]
 ·simp only [if_pos e, nam_bod h hi (.inl e)]
 ·have h3 : ¬ (nd t n).k = 3 := by omega
  simp only [if_neg h3, if_pos e, nam_bod h hi (.inr e)]
include hl
theorem col_bod : col (t.map bod) l = col t l := by
 unfold col
 generalize ((⟨[], [], []⟩, -1) : Its × Int) = a
 induction l generalizing a with
 | nil => rfl
 | cons n r ih =>
  obtain ⟨h1, h2⟩ := hl n (List.mem_cons_self ..)
  rw [List.foldl_cons, List.foldl_cons, col1_bod h h1 h2]
  exact ih (fun m hm => hl m (List.mem_cons_of_mem _ hm)) _
theorem its_bod : itsOf (t.map bod) l = itsOf t l := by
 have a := col_bod h hl
 rw [← col_eq, ← col_eq, a]
omit h hl in
theorem dup_bod (t : List Nd) : ∀ (l : List Int) (seen : List S), (∀ k ∈ l, (nd t k).k ≠ 33) → dupG (t.map bod) seen l = dupG t seen l
 | [], _, _ => rfl
 | k :: r, seen, hk => by
   rw [dupG, dupG, nd_bod, bod_t (hk k (List.mem_cons_self ..)), dup_bod t r _ fun m hm => hk m (List.mem_cons_of_mem _ hm)]
theorem nms_bod : ∀ (ts fs : List S), nmsG (t.map bod) ts fs l = nmsG t ts fs l := by
 induction l with
 | nil => intro ts fs; rfl
 | cons n r ih =>
  intro ts fs
  obtain ⟨h1, h2⟩ := hl n (List.mem_cons_self ..)
  have ih := ih fun m hm => hl m (List.mem_cons_of_mem _ hm)
  rw [nmsG, nmsG, nd_bod, bod_k, bod_t (by omega), mem_bod, dup_bod t _ _ fun k hm => by have := mem33 h h1 h2 hm; omega]
  simp only [ih]
omit h hl in
theorem unk_bod (t : List Nd) (kn : S → Bool) : ∀ (n : Nat) (i : Int), unk (t.map bod) kn n i = unk t kn n i
 | 0, _ => rfl
 | n + 1, i => by
   rw [unk, unk, nd_bod, bod_k, bod_kids]
   have : (decide ((nd t i).k = 13) && !kn (bod (nd t i)).t) = (decide ((nd t i).k = 13) && !kn (nd t i).t) := by
    by_cases c : (nd t i).k = 13
    ·rw [bod_t (by omega)]
    ·rw [decide_eq_false c]; rfl
   rw [this]
   simp only [unk_bod t kn n]
omit h hl in
theorem inn_bod (t : List Nd) : ∀ (n : Nat) (b : Bool) (i : Int), inn (t.map bod) n b i = inn t n b i
 | 0, _, _ => rfl
 | n + 1, b, i => by
   rw [inn, inn, nd_bod, bod_k, bod_kids]
   simp only [inn_bod t n]
omit h hl in
theorem tyG_bod (t : List Nd) (kn : S → Bool) (fn : Bool) : ∀ l, tyG (t.map bod) kn fn l = tyG t kn fn l
 | [] => rfl
 | a :: r => by rw [tyG, tyG, List.length_map, unk_bod, inn_bod, tyG_bod t kn fn r]
omit h hl in
theorem tyl_bod (t : List Nd) (n : Int) : tyl (t.map bod) n = tyl t n := by
 unfold tyl
 rw [mem_bod, ret_bod, nd_bod, bod_k]
 congr 2
 exact List.map_congr_left fun k _ => by rw [nd_bod, bod_kids]
omit h hl in
theorem tyA_bod (t : List Nd) (kn : S → Bool) : ∀ l, tyA (t.map bod) kn l = tyA t kn l
 | [] => rfl
 | n :: r => by rw [tyA, tyA, tyG_bod, tyl_bod, nd_bod, bod_k, tyA_bod t kn r]
omit h in
theorem sz1_bod (e : S → Bool) : szG1 (t.map bod) e l = szG1 t e l := by
 induction l with
 | nil => rfl
 | cons n r ih =>
  obtain ⟨h1, h2⟩ := hl n (List.mem_cons_self ..)
  rw [szG1, szG1, nd_bod, bod_k, bod_kids, bod_t (by omega), ih fun m hm => hl m (List.mem_cons_of_mem _ hm)]
omit h in
theorem sz2_bod (b : S → Bool) : szG2 (t.map bod) b l = szG2 t b l := by
 induction l with
 | nil => rfl
 | cons n r ih =>
  obtain ⟨h1, h2⟩ := hl n (List.mem_cons_self ..)
  rw [szG2, szG2, nd_bod, bod_k, bod_t (by omega), ih fun m hm => hl m (List.mem_cons_of_mem _ hm)]
theorem wrong_bod : wrong (t.map bod) l = wrong t l := by
 unfold wrong szA
 rw [col_bod h hl, nms_bod h hl, its_bod h hl, tyA_bod, sz1_bod hl, sz2_bod hl]
end
theorem roots_bod (t : List Nd) : roots (t.map bod) = roots t := by unfold roots; rw [List.length_map, nd_bod, bod_kids]
theorem dgO_bod (t : List Nd) (e : Option (Int × Int)) : dgO (t.map bod) e = dgO t e := by
 unfold dgO
 split
 ·rfl
 ·rw [nd_bod, bod_f, bod_e]
theorem of_bod {t : List Nd} (hf : Tp.Fine t) (h : checkB t = true) : ofP (t.map bod) = ofP t := by
 have hr := rf_of hf h
 have hl := roots_in hr
 unfold ofP
 rw [check_bod hf.iv h, h, roots_bod, wrong_bod hr.rt hl, its_bod hr.rt hl]
 simp only [dgO_bod]
theorem tyA_c {t : List Nd} {kn : S → Bool} : ∀ {l : List Int} {c n : Int}, tyA t kn l = some (c, n) → c ≠ 0
 | [], _, _, h => by cases h
 | m :: r, c, n, h => by
   rw [tyA] at h
   split at h
   ·rename_i e he; cases h; exact ty_c he
   ·exact tyA_c h
theorem ofP_dg (t : List Nd) : ((ofP t).2 = Lex.dgD 0 0 0 ∧ checkB t = true) ∨ ∃ c x y, c ≠ 0 ∧ (ofP t).2 = Lex.dgD c x y := by
 unfold ofP
 split
 ·rename_i hc
  split
  ·rename_i e he
   obtain ⟨c, n⟩ := e
   refine .inr ⟨c, _, _, ?_, rfl⟩
   unfold wrong at he
   split at he
   ·split at he
    ·rename_i e1 h1; cases he; exact nms_c h1
    ·split at he
     ·rename_i e1 h1; cases he; exact tyA_c h1
     ·exact szA_c he
   ·cases he; decide
  ·split
   ·exact .inr ⟨144, 0, 0, by decide, rfl⟩
   ·split
    ·exact .inr ⟨144, _, _, by decide, rfl⟩
    ·exact .inl ⟨rfl, hc⟩
 ·exact .inr ⟨3, 0, 0, by decide, rfl⟩
end Go.Vm.Ite

namespace Go.Vm.Tp
open Go.Vm.Lex
set_option linter.unusedSimpArgs false
theorem upKids_mem (i : Nat) : ∀ (ks out r : List Int), upKids i ks out = some r → (∀ k ∈ ks, 0 ≤ k) → ∀ (j : Nat), 0 ≤ r.getD j (-1) → 0 ≤ out.getD j (-1) ∧ r.getD j (-1) = out.getD j (-1) ∨ r.getD j (-1) = i ∧ (j : Int) ∈ ks
 | [], out, r, h, _, j, hj => by cases h; exact .inl ⟨hj, rfl⟩
 | k :: ks, out, r, h, hk, j, hj => by
   simp only [upKids] at h
   split at h
   ·cases h
   have hk0 := hk k (by simp)
   rcases upKids_mem i ks _ r h (fun k' h' => hk k' (by simp [h'])) j hj with ⟨h1, h2⟩ | ⟨h1, h2⟩
   ·by_cases hjk : k.toNat = j
    ·subst hjk
     right
     by_cases hlt : k.toNat < out.length
     ·refine ⟨by rw [h2]; simp [hlt], ?_⟩
      rw [show ((k.toNat : Nat) : Int) = k by omega]; simp
     ·rw [h2] at hj; simp [hlt] at hj
    ·left
     have : (out.set k.toNat (i : Int)).getD j (-1) = out.getD j (-1) := by simp [List.getD_eq_getElem?_getD, hjk]
     rw [this] at h1 h2
     exact ⟨h1, h2⟩
   ·exact .inr ⟨h1, by simp [h2]⟩
theorem upAll_mem : ∀ (i : Nat) (t : List Nd) (out r : List Int), upAll i t out = some r → (∀ x ∈ t, ∀ k ∈ x.kids, 0 ≤ k) → ∀ (j : Nat), 0 ≤ r.getD j (-1) → 0 ≤ out.getD j (-1) ∨ ∃ a, a < t.length ∧ r.getD j (-1) = (i + a : Nat) ∧ (j : Int) ∈ (t.getD a default).kids
 | i, [], out, r, h, _, j, hj => by cases h; exact .inl hj
 | i, x :: t, out, r, h, hk, j, hj => by
   simp only [upAll] at h
   obtain ⟨o, h1, h2⟩ := Option.bind_eq_some_iff.1 h
   rcases upAll_mem (i + 1) t o r h2 (fun y hy => hk y (by simp [hy])) j hj with h3 | ⟨a, h3, h4, h5⟩
   ·rcases upKids_mem i x.kids out o h1 (hk x (by simp)) j h3 with ⟨h4, _⟩ | ⟨h4, h5⟩
    ·exact .inl h4
    ·refine .inr ⟨0, by simp, ?_, by simpa using h5⟩
     by_cases hr : r.getD j (-1) = (i : Int)
     ·rw [hr]; simp
     ·exfalso
      exact hr (by
        have := upAll_keep (i + 1) t o r h2 j h3
        rw [this, h4])
   ·exact .inr ⟨a + 1, by simp; omega, by rw [h4]; congr 1; omega, by simpa using h5⟩
where
 upKids_keep (i : Nat) : ∀ (ks out r : List Int), upKids i ks out = some r → ∀ j : Nat, 0 ≤ out.getD j (-1) → r.getD j (-1) = out.getD j (-1)
  | [], out, r, h, j, hj => by cases h; rfl
  | k :: ks, out, r, h, j, hj => by
    simp only [upKids] at h
    split at h
    ·cases h
    rename_i hc
    have : (out.set k.toNat (i : Int)).getD j (-1) = out.getD j (-1) := by
     by_cases hjk : k.toNat = j
     ·subst hjk
      by_cases hlt : k.toNat < out.length
      ·have e : out.getD k.toNat 0 = out.getD k.toNat (-1) := by simp [hlt]
       rw [e] at hc; exact absurd hj hc
      ·simp [hlt]
     ·simp [List.getD_eq_getElem?_getD, hjk]
    rw [upKids_keep i ks _ r h j (by rw [this]; exact hj), this]
 upAll_keep : ∀ (i : Nat) (t : List Nd) (out r : List Int), upAll i t out = some r → ∀ j : Nat, 0 ≤ out.getD j (-1) → r.getD j (-1) = out.getD j (-1)
  | i, [], out, r, h, j, hj => by cases h; rfl
  | i, x :: t, out, r, h, j, hj => by
    simp only [upAll] at h
    obtain ⟨o, h1, h2⟩ := Option.bind_eq_some_iff.1 h
    have e1 := upKids_keep i x.kids out o h1 j hj
    rw [upAll_keep (i + 1) t o r h2 j (by rw [e1]; exact hj), e1]
theorem ups_mem {t : List Nd} {up : List Int} (h : ups t = some up) (hk : ∀ x ∈ t, ∀ k ∈ x.kids, 0 ≤ k) (j : Nat) (hj : 0 ≤ up.getD j (-1)) : up.getD j (-1) < t.length ∧ (j : Int) ∈ (t.getD (up.getD j (-1)).toNat default).kids := by
 rcases upAll_mem 0 t _ up h hk j hj with h1 | ⟨a, h1, h2, h3⟩
 ·exfalso
  rw [List.getD_eq_getElem?_getD, List.getElem?_replicate] at h1
  split at h1 <;> simp at h1
 ·rw [h2]
  exact ⟨by omega, by simpa using h3⟩
end Go.Vm.Tp

