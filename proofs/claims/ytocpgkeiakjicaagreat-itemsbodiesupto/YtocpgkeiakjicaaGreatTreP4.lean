import Derived.Test.YtocpgkeiakjicaaGreatIteK
import Derived.Test.YtocpgkeiakjicaaGreatVmClone
import Derived.Test.YtocpgkeiakjicaaGreatIteW4
import Derived.Test.YtocpgkeiakjicaaGreatVmFn
import Derived.Shelf.Small.Strs
import Derived.Shelf.Small.Wraps
import Derived.Shelf.Strings.Search1
import Derived.Shelf.Strings.Search2
import Derived.Shelf.Strings.Cut
import Derived.Shelf.LaysM
import Derived.Shelf.Strings.Shaped
import Derived.Shelf.Strings.Prefix
import Derived.Shelf.Slices.Turned
import Derived.Test.YtocpgkeiakjicaaGreatProg
import Derived.LaidLaws
import Derived.Test.YtocpgkeiakjicaaGreatRows
import Derived.WalkKit
import Derived.ProofKit
import Derived.OpenShut
import Derived.Deep.DeepHandedRow
import Derived.SevenTiedAt
import Derived.Lay
import Derived.Test.YtocpgkeiakjicaaGreatVmOps2
import Derived.Lib.IndexMore
import Derived.Lib.ItoaLen
set_option linter.unusedSimpArgs false
set_option linter.unusedVariables false
namespace Go.Vm.Ite
open Go Go.Vm Go.Proofs Go.Vm.Ip
open Go.Vm.Lex (nameB)
set_option maxRecDepth 100000
theorem takeNN {l : List Nam} {i : Nat} (h : i < l.length) : (l.take (i + 1)).map Nam.n = (l.take i).map Nam.n ++ [(l.getD i default).n] := by
 rw [take_succ_getD h, List.map_append]; rfl
theorem seenM_twice (s : S) : ∀ ns : List S, s ∈ ns → mfind (.str s) (mset (.str s) (.int .i64 2) (seenM ns)) = some (.int .i64 2) := fun ns _ => by
  rw [mfind_mset _ _ _ _ (seenM_keys ns), if_pos rfl]
abbrev CH (x : Its) (m : List (D × D)) : Hp := [IB x, IB x, .map (finM (nS x)), .map (finM (nE x)), .map (finM (nF x)), .box [.mp 2, .mp 3, .mp 4], .map m]
set_option maxHeartbeats 4000000 in
theorem structs_wq {fx : Nat → Option Obj} (x : Its) (hx : Fine x) : WQ (pgL fx F0) 0 (vL d46) [] [(1, .ptr 0 0), (3, .ptr 5 0), (4, .mp 6)] (CH x []) fun x1 _ e' H' => (namB (kn x) false [] x.ss = true ∧ x1 = .nrm ∧ keepE [1, 3, 4] e' = [(1, .ptr 0 0), (3, .ptr 5 0), (4, .mp 6)] ∧ H' = CH x (seenM (nS x))) ∨ (namB (kn x) false [] x.ss = false ∧ x1 = .ret ∧ getE e' 2 = .d (.int .i64 7)) := by
  have hl' : x.ss.length ≤ 140737488355328 := hx.ss
  refine run ⟨?_⟩
  refine wq_loop (α := Nat) (fun j => x.ss.length - j) (fun j => [(1, .ptr 0 0), (3, .ptr 5 0), (4, .mp 6), (33, .d (.sl (x.ss.map Nam.D))), (34, i64 x.ss.length), (35, i64 j)]) (fun j => CH x (seenM ((x.ss.take j).map Nam.n))) (fun j => j ≤ x.ss.length ∧ namB (kn x) false [] x.ss = namB (kn x) false ((x.ss.take j).map Nam.n) (x.ss.drop j)) ?_ 0 ⟨Nat.zero_le _, rfl⟩ (by show [_, _, _, _, _, _] = _; rw [List.length_map] <;> rfl) rfl
  rintro j ⟨hj, hinv⟩
  rw [hinv]
  by_cases h : j < x.ss.length
  ·have h' : (j : Int) < (x.ss.length : Int) := by omega
   have pj := gN h
   have hn := takeNN h
   have hd := drop_getD (d := default) h
   have hfm := hx.sf (x.ss.getD j default) (by simp [List.getD_eq_getElem?_getD, List.getElem?_eq_getElem h])
   obtain ⟨A, hA⟩ : ∃ A, A = (x.ss.take j).map Nam.n := ⟨_, rfl⟩
   rw [← hA] at hn hinv ⊢
   have h1 := seenM_keys A
   have h2 := seenM_find (x.ss.getD j default).n A
   have h3 := seenM_set (x.ss.getD j default).n A
   revert pj hn hd hfm h2 h3
   generalize x.ss.getD j default = y
   obtain ⟨n, fs⟩ := y
   intro pj hd hfm hn h2 h3
   dsimp only at hn hfm h2 h3
   have en := name_ev (fx := fx) (F := F0) (s := n) (hs := Nat.le_trans hfm.1 (by decide))
   rw [hd]
   simp only [namB]
   by_cases hm : n ∈ A
   ·rw [if_pos hm] at h2
    rw [decide_eq_true hm]
    have hf : (nameB n && !true && (!false || decide (fs ≠ [])) && (lstB (rt (kn x) false) false [] fs && decide ((fs.length : Int) ≤ 16)) && namB (kn x) false (A ++ [n]) (List.drop (j + 1) x.ss)) = false := by simp
    rw [hf]
    have k1 := mset_keys n (.int .i64 2) (seenM A) h1
    have k2 := seenM_twice n A hm
    cases c1 : nameB n <;> rw [c1] at en
    ·repeat' (first | refine run ⟨?_⟩ | refine pickD pj ?_ | refine mg h1 h2 ?_ | refine And.intro h1 ?_ | refine ca (en _) ?_ | fail)
     exact .inr ⟨rfl, rfl, rfl⟩
    ·repeat' (first | refine run ⟨?_⟩ | refine pickD pj ?_ | refine mg h1 h2 ?_ | refine And.intro h1 ?_ | refine ca (en _) ?_ | refine mg k1 k2 ?_ | fail)
     exact .inr ⟨rfl, rfl, rfl⟩
   rw [if_neg hm] at h2
   rw [decide_eq_false hm]
   have h3 := h3 hm
   have k1 := seenM_keys (A ++ [n])
   have k2 := seenM_find n (A ++ [n])
   rw [if_pos (by simp)] at k2
   rw [← h3] at k1 k2
   have el : evF (pgL fx F0) n_items_finder_listed [.ptr 5 0, .d (fldsD fs), i64 16, boo false, boo false] (CH x (mset (.str n) (.int .i64 1) (seenM A)) ++ [.box [str n, .d (fldsD fs)]]) = some (boo (lstB (rt (kn x) false) false [] fs && decide ((fs.length : Int) ≤ 16)), CH x (mset (.str n) (.int .i64 1) (seenM A)) ++ [.box [str n, .d (fldsD fs)]]) :=
    evF_at (mv fx) [2, 3, 4, 5] (listed_s x fs hfm.2.1 hfm.2.2 16 false false) rfl rfl rfl rfl rfl
   cases c1 : nameB n with
   | false =>
    rw [c1] at en
    repeat' (first | refine run ⟨?_⟩ | refine pickD pj ?_ | refine mg h1 h2 ?_ | refine And.intro h1 ?_ | refine ca (en _) ?_ | fail)
    exact .inr ⟨rfl, rfl, rfl⟩
   | true =>
   rw [c1] at en
   cases c2 : lstB (rt (kn x) false) false [] fs && decide ((fs.length : Int) ≤ 16) with
   | false =>
    rw [c2] at el
    repeat' (first | refine run ⟨?_⟩ | refine pickD pj ?_ | refine mg h1 h2 ?_ | refine And.intro h1 ?_ | refine ca (en _) ?_ | refine mg k1 k2 ?_ | refine ca (el) ?_ | fail)
    exact .inr ⟨rfl, rfl, rfl⟩
   | true =>
    rw [c2] at el
    repeat' (first | refine run ⟨?_⟩ | refine pickD pj ?_ | refine mg h1 h2 ?_ | refine And.intro h1 ?_ | refine ca (en _) ?_ | refine mg k1 k2 ?_ | refine ca (el) ?_ | fail)
    exact ⟨j + 1, ⟨by omega, by rw [hn]; rfl⟩, by omega, by rw [i64w (by omega)] <;> rfl, by rw [hn, ← h3] <;> rfl⟩
  ·have h' : ¬ (j : Int) < (x.ss.length : Int) := by omega
   obtain rfl : j = x.ss.length := by omega
   rw [List.drop_length, List.take_length]
   refine run ⟨?_⟩
   exact .inl ⟨rfl, rfl, rfl, rfl⟩
end Go.Vm.Ite
namespace Go.Vm.Ite
open Go Go.Vm Go.Proofs Go.Vm.Ip
open Go.Vm.Lex (nameB)
set_option maxRecDepth 100000
set_option maxHeartbeats 4000000 in
theorem enums_wq {fx : Nat → Option Obj} (x : Its) (hx : Fine x) : WQ (pgL fx F0) 0 (vL (vR d46)) [] [(1, .ptr 0 0), (3, .ptr 5 0), (4, .mp 6)] (CH x (seenM (nS x))) fun x1 _ e' H' => (namB (kn x) true (nS x) x.es = true ∧ x1 = .nrm ∧ keepE [1, 3, 4] e' = [(1, .ptr 0 0), (3, .ptr 5 0), (4, .mp 6)] ∧ H' = CH x (seenM (nS x ++ nE x))) ∨ (namB (kn x) true (nS x) x.es = false ∧ x1 = .ret ∧ getE e' 2 = .d (.int .i64 7)) := by
  have hl' : x.es.length ≤ 140737488355328 := hx.es
  refine run ⟨?_⟩
  refine wq_loop (α := Nat) (fun j => x.es.length - j) (fun j => [(1, .ptr 0 0), (3, .ptr 5 0), (4, .mp 6), (64, .d (.sl (x.es.map Nam.D))), (65, i64 x.es.length), (66, i64 j)]) (fun j => CH x (seenM (nS x ++ (x.es.take j).map Nam.n))) (fun j => j ≤ x.es.length ∧ namB (kn x) true (nS x) x.es = namB (kn x) true (nS x ++ (x.es.take j).map Nam.n) (x.es.drop j)) ?_ 0 ⟨Nat.zero_le _, by rw [List.take_zero, List.map_nil, List.append_nil, List.drop_zero]⟩ (by show [_, _, _, _, _, _] = _; rw [List.length_map] <;> rfl) (by rw [List.take_zero, List.map_nil, List.append_nil])
  rintro j ⟨hj, hinv⟩
  rw [hinv]
  by_cases h : j < x.es.length
  ·have h' : (j : Int) < (x.es.length : Int) := by omega
   have pj := gN h
   have hn := takeNN h
   have hd := drop_getD (d := default) h
   have hfm := hx.ef (x.es.getD j default) (by simp [List.getD_eq_getElem?_getD, List.getElem?_eq_getElem h])
   obtain ⟨A, hA⟩ : ∃ A, A = nS x ++ (x.es.take j).map Nam.n := ⟨_, rfl⟩
   rw [← hA] at hinv ⊢
   have hn : nS x ++ (x.es.take (j + 1)).map Nam.n = A ++ [(x.es.getD j default).n] := by rw [hn, hA, List.append_assoc]
   have h1 := seenM_keys A
   have h2 := seenM_find (x.es.getD j default).n A
   have h3 := seenM_set (x.es.getD j default).n A
   revert pj hn hd hfm h2 h3
   generalize x.es.getD j default = y
   obtain ⟨n, fs⟩ := y
   intro pj hd hfm hn h2 h3
   dsimp only at hn hfm h2 h3
   have en := name_ev (fx := fx) (F := F0) (s := n) (hs := Nat.le_trans hfm.1 (by decide))
   rw [hd]
   simp only [namB]
   by_cases hm : n ∈ A
   ·rw [if_pos hm] at h2
    rw [decide_eq_true hm]
    have hf : (nameB n && !true && (!true || decide (fs ≠ [])) && (lstB (rt (kn x) false) true [] fs && decide ((fs.length : Int) ≤ 16)) && namB (kn x) true (A ++ [n]) (List.drop (j + 1) x.es)) = false := by simp
    rw [hf]
    have k1 := mset_keys n (.int .i64 2) (seenM A) h1
    have k2 := seenM_twice n A hm
    cases c1 : nameB n <;> rw [c1] at en
    ·repeat' (first | refine run ⟨?_⟩ | refine pickD pj ?_ | refine mg h1 h2 ?_ | refine And.intro h1 ?_ | refine ca (en _) ?_ | fail)
     exact .inr ⟨rfl, rfl, rfl⟩
    ·repeat' (first | refine run ⟨?_⟩ | refine pickD pj ?_ | refine mg h1 h2 ?_ | refine And.intro h1 ?_ | refine ca (en _) ?_ | refine mg k1 k2 ?_ | fail)
     exact .inr ⟨rfl, rfl, rfl⟩
   rw [if_neg hm] at h2
   rw [decide_eq_false hm]
   have h3 := h3 hm
   have k1 := seenM_keys (A ++ [n])
   have k2 := seenM_find n (A ++ [n])
   rw [if_pos (by simp)] at k2
   rw [← h3] at k1 k2
   have el : evF (pgL fx F0) n_items_finder_listed [.ptr 5 0, .d (fldsD fs), i64 16, boo false, boo true] (CH x (mset (.str n) (.int .i64 1) (seenM A)) ++ [.box [str n, .d (fldsD fs)]]) = some (boo (lstB (rt (kn x) false) true [] fs && decide ((fs.length : Int) ≤ 16)), CH x (mset (.str n) (.int .i64 1) (seenM A)) ++ [.box [str n, .d (fldsD fs)]]) :=
    evF_at (mv fx) [2, 3, 4, 5] (listed_s x fs hfm.2.1 hfm.2.2 16 false true) rfl rfl rfl rfl rfl
   cases c1 : nameB n with
   | false =>
    rw [c1] at en
    repeat' (first | refine run ⟨?_⟩ | refine pickD pj ?_ | refine mg h1 h2 ?_ | refine And.intro h1 ?_ | refine ca (en _) ?_ | fail)
    exact .inr ⟨rfl, rfl, rfl⟩
   | true =>
   rw [c1] at en
   by_cases ce : fs = []
   ·have ce' : (((fs.map Fld.D).length : Nat) : Int) = 0 := by rw [ce]; rfl
    rw [show decide (fs ≠ []) = false by rw [ce]; rfl]
    repeat' (first | refine run ⟨?_⟩ | refine pickD pj ?_ | refine mg h1 h2 ?_ | refine And.intro h1 ?_ | refine ca (en _) ?_ | refine mg k1 k2 ?_ | fail)
    exact .inr ⟨rfl, rfl, rfl⟩
   have ce' : ¬ (((fs.map Fld.D).length : Nat) : Int) = 0 := by
    rw [List.length_map]; intro h0; exact ce (List.eq_nil_of_length_eq_zero (by omega))
   rw [show decide (fs ≠ []) = true from decide_eq_true ce]
   cases c2 : lstB (rt (kn x) false) true [] fs && decide ((fs.length : Int) ≤ 16) with
   | false =>
    rw [c2] at el
    repeat' (first | refine run ⟨?_⟩ | refine pickD pj ?_ | refine mg h1 h2 ?_ | refine And.intro h1 ?_ | refine ca (en _) ?_ | refine mg k1 k2 ?_ | refine ca (el) ?_ | fail)
    exact .inr ⟨rfl, rfl, rfl⟩
   | true =>
    rw [c2] at el
    repeat' (first | refine run ⟨?_⟩ | refine pickD pj ?_ | refine mg h1 h2 ?_ | refine And.intro h1 ?_ | refine ca (en _) ?_ | refine mg k1 k2 ?_ | refine ca (el) ?_ | fail)
    exact ⟨j + 1, ⟨by omega, by rw [hn]; rfl⟩, by omega, by rw [i64w (by omega)] <;> rfl, by rw [hn, ← h3] <;> rfl⟩
  ·have h' : ¬ (j : Int) < (x.es.length : Int) := by omega
   obtain rfl : j = x.es.length := by omega
   rw [List.drop_length, List.take_length]
   refine run ⟨?_⟩
   exact .inl ⟨rfl, rfl, rfl, rfl⟩
end Go.Vm.Ite
namespace Go.Vm.Ite
open Go Go.Vm Go.Proofs Go.Vm.Ip
set_option maxRecDepth 100000
theorem tK7 : tr Tryz.prog n50 c46d = some (vR (vR (vR (vR (vR d46))))) := by kernel_rfl
theorem r46 : trRes Tryz.prog Tryz.f16.results.toList = some [.tmp 2] := by kernel_rfl
theorem f46f : Tryz.prog.funcs[16]? = some Tryz.f16 := by kernel_rfl
section
variable {fx : Nat → Option Obj}
def CQ (fx : Nat → Option Obj) (r : Int) (g : Gh) (w : World) : Exit → Act → World → Prop := fun e a' w' => e = .ret ∧ ∃ g' s', s'.b = 0 ∧ StOk (cxL fx) 134 g' s' a' w' ∧ Ext 0 g [] w g' s'.h w' ∧ getE s'.e 2 = i64 r
theorem many_wq (x : Its) : WQ (pgL fx F0) 0 (vL (vR B16)) [] [(1, .ptr 0 0)] [IB x] fun x1 _ e' H' => ((x.ss.length ≤ 64 ∧ x.es.length ≤ 64 ∧ x.fs.length ≤ 64) ∧ x1 = .nrm ∧ keepE [1] e' = [(1, .ptr 0 0)] ∧ H' = [IB x]) ∨ (¬ (x.ss.length ≤ 64 ∧ x.es.length ≤ 64 ∧ x.fs.length ≤ 64) ∧ x1 = .ret ∧ getE e' 2 = i64 7) := by
  have e1 : ((x.ss.map Nam.D).length : Int) = (x.ss.length : Int) := by rw [List.length_map]
  have e2 : ((x.es.map Nam.D).length : Int) = (x.es.length : Int) := by rw [List.length_map]
  have e3 : ((x.fs.map Fnc.D).length : Int) = (x.fs.length : Int) := by rw [List.length_map]
  by_cases h1 : (((x.ss.map Nam.D).length : Nat) : Int) > 64
  ·refine run ⟨?_⟩
   exact .inr ⟨by omega, rfl, rfl⟩
  by_cases h2 : (((x.es.map Nam.D).length : Nat) : Int) > 64
  ·refine run ⟨?_⟩
   exact .inr ⟨by omega, rfl, rfl⟩
  by_cases h3 : (((x.fs.map Fnc.D).length : Nat) : Int) > 64
  ·refine run ⟨?_⟩
   exact .inr ⟨by omega, rfl, rfl⟩
  refine run ⟨?_⟩
  exact .inl ⟨by omega, rfl, rfl, rfl⟩
theorem fns_wq (x : Its) (hx : Fine x) (o6 o7 : Ob) : WQ (pgL fx F0) 0 (vR (vR (vR (vR (vR d46))))) [] [(1, .ptr 0 0), (3, .ptr 5 0)] (H8 x o6 o7) fun x1 _ e' _ => x1 = .ret ∧ getE e' 2 = i64 (if fnsB (kn x) x then 0 else 7) := by
  have ee : evF (pgL fx F0) n_items_fns [.d x.D, .ptr 5 0] (H8 x o6 o7) = some (boo (fnsB (kn x) x), H8 x o6 o7) :=
   evF_at (mv fx) [2, 3, 4, 5] (fns_s x hx) rfl rfl rfl rfl rfl
  cases hb : fnsB (kn x) x <;> rw [hb] at ee
  all_goals
   repeat' (first | refine run ⟨?_⟩ | refine ca (ee) ?_ | fail)
   exact rfl
set_option maxHeartbeats 4000000 in
theorem chk_body (x : Its) (hx : Fine x) (g : Gh) (w : World) (a : Act) (ok : StOk (cxL fx) 134 g ⟨[(0, .d x.D)], [], 0⟩ a w) : c46.wp Tryz.prog (CQ fx (if chkB x then 0 else 7) g w) a w := by
 have hT := tOk fx
 rw [q46]
 apply wp_seq
 refine chunk hT mixed tK0 (by kernel_rfl) ok (R := fun x1 e' H' => x1 = .nrm ∧ keepE [1] e' = [(1, .ptr 0 0)] ∧ H' = [IB x]) ?_ ?_
 ·refine run ⟨?_⟩
  exact rfl
 rintro x1 e' H' g1 a1 w1 ⟨rfl, he, rfl⟩ ok1 E1
 have ok1 := ok1.forget [1]
 rw [he] at ok1
 clear he ok
 show (Code.seq _ _).wp _ _ _ _
 apply wp_seq
 refine chunk hT mixed tK1 (by kernel_rfl) ok1 (many_wq x) ?_
 rintro x1 e' H' g2 a2 w2 hR ok2 ext2
 have E2 := E1.trans ext2 (Nat.le_refl _)
 rcases hR with ⟨hm, rfl, he, rfl⟩ | ⟨hm, rfl, he⟩
 rotate_left
 ·have hc : chkB x = false := by
   cases hcb : chkB x with
   | false => rfl
   | true =>
    simp only [chkB, Bool.and_eq_true, decide_eq_true_eq] at hcb
    exact absurd ⟨hcb.1.1.1.1.1.1.1, hcb.1.1.1.1.1.1.2, hcb.1.1.1.1.1.2⟩ hm
  exact ⟨rfl, g2, _, rfl, ok2, E2, by rw [hc]; exact he⟩
 have ok2 := ok2.forget [1]
 rw [he] at ok2
 clear he ok1
 show (Code.seq _ _).wp _ _ _ _
 apply wp_seq
 refine chunk hT mixed tK2 (by kernel_rfl) ok2 (R := fun x1 e' H' => x1 = .nrm ∧ keepE [1, 3] e' = [(1, .ptr 0 0), (3, .ptr 5 0)] ∧ H' = [IB x, IB x, .map (finM (nS x)), .map (finM (nE x)), .map (finM (nF x)), .box [.mp 2, .mp 3, .mp 4]]) ?_ ?_
 ·have ei := index1_ev (fx := fx) (F := F0) x hx (IB x)
  repeat' (first | refine run ⟨?_⟩ | refine ca (ei) ?_ | fail)
  exact rfl
 rintro x1 e' H' g3 a3 w3 ⟨rfl, he, rfl⟩ ok3 ext3
 have ok3 := ok3.forget [1, 3]
 rw [he] at ok3
 have E3 := E2.trans ext3 (Nat.le_refl _)
 clear he ok2
 show (Code.seq _ _).wp _ _ _ _
 apply wp_seq
 refine chunk hT mixed tK3 (by kernel_rfl) ok3 (R := fun x1 e' H' => x1 = .nrm ∧ keepE [1, 3, 4] e' = [(1, .ptr 0 0), (3, .ptr 5 0), (4, .mp 6)] ∧ H' = CH x []) ?_ ?_
 ·refine run ⟨?_⟩
  exact rfl
 rintro x1 e' H' g4 a4 w4 ⟨rfl, he, rfl⟩ ok4 ext4
 have ok4 := ok4.forget [1, 3, 4]
 rw [he] at ok4
 have E4 := E3.trans ext4 (Nat.le_refl _)
 clear he ok3
 show (Code.seq _ _).wp _ _ _ _
 apply wp_seq
 refine chunk hT mixed tK4 (by kernel_rfl) ok4 (structs_wq x hx) ?_
 rintro x1 e' H' g5 a5 w5 hR ok5 ext5
 have E5 := E4.trans ext5 (Nat.le_refl _)
 rcases hR with ⟨hns, rfl, he, rfl⟩ | ⟨hns, rfl, he⟩
 rotate_left
 ·have hc : chkB x = false := by simp only [chkB, hns, Bool.and_false, Bool.false_and]
  exact ⟨rfl, g5, _, rfl, ok5, E5, by rw [hc]; exact he⟩
 have ok5 := ok5.forget [1, 3, 4]
 rw [he] at ok5
 clear he ok4
 show (Code.seq _ _).wp _ _ _ _
 apply wp_seq
 refine chunk hT mixed tK5 (by kernel_rfl) ok5 (enums_wq x hx) ?_
 rintro x1 e' H' g6 a6 w6 hR ok6 ext6
 have E6 := E5.trans ext6 (Nat.le_refl _)
 rcases hR with ⟨hne, rfl, he, rfl⟩ | ⟨hne, rfl, he⟩
 rotate_left
 ·have hc : chkB x = false := by simp only [chkB, hne, Bool.and_false, Bool.false_and]
  exact ⟨rfl, g6, _, rfl, ok6, E6, by rw [hc]; exact he⟩
 have ok6 := ok6.forget [1, 3, 4]
 rw [he] at ok6
 clear he ok5
 show (Code.seq _ _).wp _ _ _ _
 apply wp_seq
 refine chunk hT mixed tK6 (by kernel_rfl) ok6 (R := fun x1 e' H' => x1 = .nrm ∧ keepE [1, 3, 4, 9] e' = [(1, .ptr 0 0), (3, .ptr 5 0), (4, .mp 6), (9, .mp 7)] ∧ H' = H8 x (.map (seenM (nS x ++ nE x))) (.map [])) ?_ ?_
 ·refine run ⟨?_⟩
  exact rfl
 rintro x1 e' H' g7 a7 w7 ⟨rfl, he, rfl⟩ ok7 ext7
 have ok7 := ok7.forget [1, 3, 4, 9]
 rw [he] at ok7
 have E7 := E6.trans ext7 (Nat.le_refl _)
 clear he ok6
 have hsm : Small x := ⟨hm.1, hm.2.1, namB_len hns, namB_len hne⟩
 show (Code.seq _ _).wp _ _ _ _
 apply wp_seq
 refine range1 x hx hsm (nS x ++ nE x) (.map []) g7 a7 w7 0 ok7 (fun g8 a8 w8 hne2 ok8 ext8 => ?_) (fun g8 a8 w8 e8 H8' hbad he8 ok8 ext8 => ?_)
 rotate_left
 ·have hc : chkB x = false := by
   obtain ⟨s, hs, hb⟩ := hbad
   have : (nS x ++ nE x).all (fun s => !endB x s) = false := by
     rw [List.all_eq_false]; exact ⟨s, hs, by simp [hb]⟩
   simp only [chkB, this, Bool.and_false, Bool.false_and]
  exact ⟨rfl, g8, _, rfl, ok8, E7.trans ext8 (Nat.le_refl _), by rw [hc]; exact he8⟩
 have E8 := E7.trans ext8 (Nat.le_refl _)
 have hng : ∀ s ∈ nS x ++ nE x, ¬ Gets x s s := fun s hs hg => by have := hne2 s hs; rw [endB_t hg] at this; cases this
 have hend : (nS x ++ nE x).all (fun s => !endB x s) = true := by
   rw [List.all_eq_true]; intro s hs; rw [hne2 s hs]; rfl
 have hN : deepN x ≤ 1000000 := by
  unfold deepN
  simp only [List.length_append, nS, nE, List.length_map]
  have := hm.1; have := hm.2.1; omega
 show (Code.seq _ _).wp _ _ _ _
 apply wp_seq
 refine range2 x hx (deepN x) hN (nS x ++ nE x) (fun s _ => deep_of hng s) g8 a8 w8 0 ok8 (fun g9 a9 w9 o7 hnb ok9 ext9 => ?_) (fun g9 a9 w9 e9 H9' hbad he9 ok9 ext9 => ?_)
 rotate_left
 ·have hc : chkB x = false := by
   obtain ⟨s, hs, hb⟩ := hbad
   have : (nS x ++ nE x).all (fun s => !bigB (szF x (deepN x) s)) = false := by
     rw [List.all_eq_false]; exact ⟨s, hs, by simp [hb]⟩
   simp only [chkB, this, Bool.and_false, Bool.false_and]
  exact ⟨rfl, g9, _, rfl, ok9, E8.trans ext9 (Nat.le_refl _), by rw [hc]; exact he9⟩
 have hbig : (nS x ++ nE x).all (fun s => !bigB (szF x (deepN x) s)) = true := by
   rw [List.all_eq_true]; intro s hs; rw [hnb s hs]; rfl
 have E9 := E8.trans ext9 (Nat.le_refl _)
 show Code.wp _ c46d _ _ _
 refine chunk hT mixed tK7 (by kernel_rfl) ok9 (R := fun x1 e' _ => x1 = .ret ∧ getE e' 2 = i64 (if fnsB (kn x) x then 0 else 7)) (fns_wq x hx _ o7) ?_
 rintro x1 e' H' g10 a10 w10 ⟨rfl, he⟩ ok10 ext10
 have hc : chkB x = fnsB (kn x) x := by
  simp only [chkB, hns, hne, hend, hbig, decide_eq_true hm.1, decide_eq_true hm.2.1, decide_eq_true hm.2.2, Bool.true_and]
 exact ⟨rfl, g10, _, rfl, ok10, E9.trans ext10 (Nat.le_refl _), by rw [hc]; exact he⟩
theorem chk_spec : ∀ args H r H', primChk args H = some (r, H') → FnSpec Tryz.prog (cxL fx) 16 args H r H' := by
 intro args H r H' h
 obtain ⟨x, hx, rfl, rfl, rfl⟩ := primChk_some h
 refine fnspec_bare (N := 134) (rs := [.tmp 2]) f46f b46 (by kernel_rfl) r46 rfl (by kernel_rfl) (Nat.le_of_ble_eq_true rfl) rfl rfl ?_ _
 intro g w a ok
 have ok := ok.forget [0]
 rw [show keepE [0] (enterE [.d x.D]) = [(0, .d x.D)] from rfl] at ok
 refine wp_mono (chk_body x hx g w a ok) fun e a1 w1 he => ?_
 obtain ⟨rfl, g1, s1, hb, ok1, E1, hv⟩ := he
 refine ⟨.inr rfl, g1, s1, [i64 (if chkB x then 0 else 7)], ok1, E1, ?_, rfl, rfl⟩
 simp only [resVs, resV, hv]
end
end Go.Vm.Ite

namespace Go.Vm.Ite
abbrev n_primCut : Nat := 148
abbrev n_primIndexByte : Nat := 151
class HC (F : Nat → Option VFun) : Prop where
 cut : F 148 = some (.prim primCut)
 ib : F 151 = some (.prim primIndexByte)
section
variable {fx : Nat → Option Obj} {F : Nat → Option VFun} [HC F]
theorem t_primCut : (pgL fx F).tbl n_primCut = some (.prim primCut) := (HC.cut : F 148 = _)
theorem t_primIndexByte : (pgL fx F).tbl n_primIndexByte = some (.prim primIndexByte) := (HC.ib : F 151 = _)
end
end Go.Vm.Ite
namespace Go.Vm
def VFit (σ : Nat → Option Nat) : V → V → Prop
 | .d x, v => v = .d x
 | .mp k, v => ∃ j, σ k = some j ∧ v = .mp j
 | .ptr k o, v => ∃ j, σ k = some j ∧ v = .ptr j o
 | _, _ => False
def VFits (σ : Nat → Option Nat) : List V → List V → Prop
 | [], l => l = []
 | v :: r, l => ∃ v' r', l = v' :: r' ∧ VFit σ v v' ∧ VFits σ r r'
def OFit (σ : Nat → Option Nat) : Ob → Ob → Prop
 | .map l, o => o = .map l
 | .box c, o => ∃ c', o = .box c' ∧ VFits σ c c'
 | _, _ => False
theorem OFit.nrow {σ : Nat → Option Nat} {o o' : Ob} (h : OFit σ o o') : (∀ sz l, o ≠ .row sz l) ∧ ∀ sz l, o' ≠ .row sz l := by
 cases o with
 | map l => simp only [OFit] at h; subst h; exact ⟨nofun, nofun⟩
 | box c => simp only [OFit] at h; obtain ⟨c', rfl, _⟩ := h; exact ⟨nofun, nofun⟩
 | frz c => exact h.elim
 | row sz l => exact h.elim
section
variable {σ : Nat → Option Nat} {g g2 : Gh} {h H : Hp}
theorem VFit.one {v v' : V} (hv : VFit σ v v') : v.one = v'.one := by
 cases v with
 | d x => simp only [VFit] at hv; rw [hv]
 | mp k => simp only [VFit] at hv; obtain ⟨j, _, rfl⟩ := hv; rfl
 | ptr k o => simp only [VFit] at hv; obtain ⟨j, _, rfl⟩ := hv; rfl
 | _ => exact hv.elim
theorem rep_down (hC : g2.C = g.C) (hJ : ∀ i j, σ i = some j → g2.J i = g.J j) (hh : ∀ i j, σ i = some j → ∃ o, h[i]? = some o ∧ ∀ sz l, o ≠ .row sz l) {v v' : V} {x : Value} (hv : VFit σ v v') (r : Rep g H v' x) : Rep g2 h v x := by
 cases v with
 | d d => simp only [VFit] at hv; subst hv; simp only [Rep] at r ⊢; rw [hC]; exact r
 | mp k =>
  simp only [VFit] at hv
  obtain ⟨j, h1, rfl⟩ := hv
  simp only [Rep] at r ⊢
  obtain ⟨_, b, c, h2, rfl⟩ := r
  exact ⟨hh k j h1, b, c, (hJ k j h1).trans h2, rfl⟩
 | ptr k o =>
  simp only [VFit] at hv
  obtain ⟨j, h1, rfl⟩ := hv
  simp only [Rep] at r ⊢
  obtain ⟨_, b, c, h2, rfl⟩ := r
  exact ⟨hh k j h1, b, c, (hJ k j h1).trans h2, rfl⟩
 | _ => exact hv.elim
theorem rep_up (hC : g2.C = g.C) (hJ : ∀ i j, σ i = some j → g2.J i = g.J j) (hh : ∀ i j, σ i = some j → ∃ o, H[j]? = some o ∧ ∀ sz l, o ≠ .row sz l) {v v' : V} {x : Value} (hv : VFit σ v v') (r : Rep g2 h v x) : Rep g H v' x := by
 cases v with
 | d d => simp only [VFit] at hv; subst hv; simp only [Rep] at r ⊢; rw [← hC]; exact r
 | mp k =>
  simp only [VFit] at hv
  obtain ⟨j, h1, rfl⟩ := hv
  simp only [Rep] at r ⊢
  obtain ⟨_, b, c, h2, rfl⟩ := r
  exact ⟨hh k j h1, b, c, (hJ k j h1).symm.trans h2, rfl⟩
 | ptr k o =>
  simp only [VFit] at hv
  obtain ⟨j, h1, rfl⟩ := hv
  simp only [Rep] at r ⊢
  obtain ⟨_, b, c, h2, rfl⟩ := r
  exact ⟨hh k j h1, b, c, (hJ k j h1).symm.trans h2, rfl⟩
 | _ => exact hv.elim
theorem repVs_down (hC : g2.C = g.C) (hJ : ∀ i j, σ i = some j → g2.J i = g.J j) (hh : ∀ i j, σ i = some j → ∃ o, h[i]? = some o ∧ ∀ sz l, o ≠ .row sz l) : ∀ {l l' : List V} {xs : List Value}, VFits σ l l' → RepVs g H l' xs → RepVs g2 h l xs
 | [], l', xs, hv, r => by simp only [VFits] at hv; subst hv; exact r
 | v :: l, l', xs, hv, r => by
   simp only [VFits] at hv
   obtain ⟨v', r', rfl, h1, h2⟩ := hv
   simp only [RepVs] at r ⊢
   obtain ⟨y, ys, rfl, a1, a2, a3⟩ := r
   exact ⟨y, ys, rfl, h1.one.trans a1, rep_down hC hJ hh h1 a2, repVs_down hC hJ hh h2 a3⟩
theorem repVs_up (hC : g2.C = g.C) (hJ : ∀ i j, σ i = some j → g2.J i = g.J j) (hh : ∀ i j, σ i = some j → ∃ o, H[j]? = some o ∧ ∀ sz l, o ≠ .row sz l) : ∀ {l l' : List V} {xs : List Value}, VFits σ l l' → RepVs g2 h l xs → RepVs g H l' xs
 | [], l', xs, hv, r => by simp only [VFits] at hv; subst hv; exact r
 | v :: l, l', xs, hv, r => by
   simp only [VFits] at hv
   obtain ⟨v', r', rfl, h1, h2⟩ := hv
   simp only [RepVs] at r ⊢
   obtain ⟨y, ys, rfl, a1, a2, a3⟩ := r
   exact ⟨y, ys, rfl, h1.one.symm.trans a1, rep_up hC hJ hh h1 a2, repVs_up hC hJ hh h2 a3⟩
theorem repTs_down (hC : g2.C = g.C) (hJ : ∀ i j, σ i = some j → g2.J i = g.J j) (hh : ∀ i j, σ i = some j → ∃ o, h[i]? = some o ∧ ∀ sz l, o ≠ .row sz l) : ∀ {l l' : List V} {xs : List Value}, VFits σ l l' → RepTs g H l' xs → RepTs g2 h l xs
 | [], l', xs, hv, r => by simp only [VFits] at hv; subst hv; exact r
 | v :: l, l', xs, hv, r => by
   simp only [VFits] at hv
   obtain ⟨v', r', rfl, h1, h2⟩ := hv
   simp only [RepTs] at r ⊢
   obtain ⟨y, ys, rfl, a2, a3⟩ := r
   exact ⟨y, ys, rfl, rep_down hC hJ hh h1 a2, repTs_down hC hJ hh h2 a3⟩
theorem fits_und {n : Nat} (hlt : ∀ i j, σ i = some j → i < n) : ∀ {l l' : List V}, VFits σ l l' → undL n l = true
 | [], _, _ => rfl
 | v :: l, l', hv => by
   simp only [VFits] at hv
   obtain ⟨v', r', rfl, h1, h2⟩ := hv
   simp only [undL, Bool.and_eq_true]
   refine ⟨?_, fits_und hlt h2⟩
   cases v with
   | d x => rfl
   | mp k => simp only [VFit] at h1; obtain ⟨j, h3, rfl⟩ := h1; simp only [V.und, decide_eq_true_eq]; exact hlt k j h3
   | ptr k o => simp only [VFit] at h1; obtain ⟨j, h3, rfl⟩ := h1; simp only [V.und, decide_eq_true_eq]; exact hlt k j h3
   | _ => exact h1.elim
end
section
variable {P : Program} {cx : Cx}
theorem fnspec_embed {f : Nat} {a A : List V} {h H : Hp} {r : D} (σ : Nat → Option Nat) (hs : FnSpec P cx f a h (.d r) h) (hinj : ∀ i k j, σ i = some j → σ k = some j → i = k) (hc : Clean h.length h)
 (hob : ∀ i j, σ i = some j → ∃ o o', h[i]? = some o ∧ H[j]? = some o' ∧ OFit σ o o') (ha : VFits σ a A) : FnSpec P cx f A H (.d r) H := by
 obtain ⟨hf, hs⟩ := hs
 refine ⟨hf, fun g w cargs hI ra _ => ?_⟩
 have hh : ∀ i j, σ i = some j → ∃ o, h[i]? = some o ∧ ∀ sz l, o ≠ .row sz l := fun i j e => by
   obtain ⟨o, o', h1, _, h3⟩ := hob i j e; exact ⟨o, h1, h3.nrow.1⟩
 have hH : ∀ i j, σ i = some j → ∃ o, H[j]? = some o ∧ ∀ sz l, o ≠ .row sz l := fun i j e => by
   obtain ⟨o, o', _, h2, h3⟩ := hob i j e; exact ⟨o', h2, h3.nrow.2⟩
 have hlt : ∀ i j, σ i = some j → i < h.length := fun i j e => by
   obtain ⟨o, h1, _⟩ := hh i j e; exact (List.getElem?_eq_some_iff.1 h1).1
 obtain ⟨gs, hgs⟩ : ∃ gs : Gh, gs = ⟨fun i => (σ i).bind g.J, g.C⟩ := ⟨_, rfl⟩
 have gC : gs.C = g.C := by rw [hgs]
 have gJ : ∀ i j, σ i = some j → gs.J i = g.J j := fun i j e => by rw [hgs]; show (σ i).bind g.J = _; rw [e]; rfl
 have gJ' : ∀ i p, gs.J i = some p → ∃ j, σ i = some j ∧ g.J j = some p := fun i p e => by
   rw [hgs] at e
   exact Option.bind_eq_some_iff.1 e
 have hIs : Inv cx gs h w := {
   inj := fun i k b c c' e1 e2 => by
     obtain ⟨j1, s1, t1⟩ := gJ' i _ e1
     obtain ⟨j2, s2, t2⟩ := gJ' k _ e2
     have := hI.inj _ _ _ _ _ t1 t2
     subst this
     exact hinj _ _ _ s1 s2
   dom := fun i b c e => by
     obtain ⟨j, s1, t1⟩ := gJ' i _ e
     exact ⟨hlt i j s1, (hI.dom _ _ _ t1).2⟩
   ob := fun i b c o e ho => by
     obtain ⟨j, s1, t1⟩ := gJ' i _ e
     obtain ⟨o1, o2, h1, h2, h3⟩ := hob i j s1
     rw [h1] at ho; simp only [Option.some.injEq] at ho; subst ho
     have := hI.ob j b c o2 t1 h2
     cases o1 with
     | map l => simp only [OFit] at h3; subst h3; simp only [ObOk, gC] at this ⊢; exact this
     | box cs =>
      simp only [OFit] at h3
      obtain ⟨c', rfl, hf⟩ := h3
      simp only [ObOk, gC] at this ⊢
      obtain ⟨cur, e, a1, a2, a3⟩ := this
      exact ⟨cur, e, a1, repVs_down gC gJ hh hf a2, a3⟩
     | frz cs => exact h3.elim
     | row sz l => exact h3.elim
   imm := fun b hb => by rw [gC] at hb ⊢; exact hI.imm b hb
   und := hc
   glob := fun i => by rw [gC]; exact hI.glob i
   fix := fun i o hi => ⟨(hI.fix i o hi).1, fun k c e => by
     obtain ⟨j, _, t1⟩ := gJ' k _ e
     exact (hI.fix i o hi).2 j c t1⟩ }
 refine Calls.mono (hs gs w cargs hIs (repTs_down gC gJ hh ha ra) (fits_und hlt ha)) fun e w' hR => ?_
 obtain ⟨g', x, he, hI', hr, _, hE⟩ := hR
 have kC : ∀ b, g.C b <+: g'.C b := fun b => by have := hE.keep.C b; rw [gC] at this; exact this
 have kJ : ∀ i j, σ i = some j → g'.J i = g.J j := fun i j e => by
   obtain ⟨o, h1, h2⟩ := hh i j e
   exact (hE.keep.obj i o (hlt i j e) h1 h2).1.trans (gJ i j e)
 obtain ⟨g2, hg2⟩ : ∃ g2 : Gh, g2 = ⟨g.J, g'.C⟩ := ⟨_, rfl⟩
 have C2 : g2.C = g'.C := by rw [hg2]
 have J2 : g2.J = g.J := by rw [hg2]
 have kw : KeepW H.length g H g2 H := ⟨fun b => by rw [C2]; exact kC b, fun i o _ ho hr => ⟨fun p hp => by rw [J2]; exact hp, o, ho, hr⟩, fun i sz l _ ho => ⟨l, ho, List.prefix_refl _, fun _ p hp => by rw [J2]; exact hp⟩⟩
 refine ⟨g2, x, he, ?_, by simp only [Rep] at hr ⊢; rw [C2]; exact hr, rfl, ?_⟩
 ·exact {
    inj := by rw [J2]; exact hI.inj
    dom := fun i b c e => by
      rw [J2] at e
      exact ⟨(hI.dom i b c e).1, Nat.lt_of_lt_of_le (hI.dom i b c e).2 hE.size⟩
    ob := fun i b c o e ho => by
      rw [J2] at e
      by_cases hm : ∃ k, σ k = some i
      ·obtain ⟨k, hk⟩ := hm
       obtain ⟨o1, o2, h1, h2, h3⟩ := hob k i hk
       rw [h2] at ho; simp only [Option.some.injEq] at ho; subst ho
       have := hI'.ob k b c o1 ((kJ k i hk).trans e) h1
       cases o1 with
       | map l => simp only [OFit] at h3; subst h3; simp only [ObOk, C2] at this ⊢; exact this
       | box cs =>
        simp only [OFit] at h3
        obtain ⟨c', rfl, hf⟩ := h3
        simp only [ObOk, C2] at this ⊢
        obtain ⟨cur, e, a1, a2, a3⟩ := this
        exact ⟨cur, e, a1, repVs_up C2.symm (fun i j e => (kJ i j e).trans (by rw [J2])) hH hf a2, a3⟩
       | frz cs => exact h3.elim
       | row sz l => exact h3.elim
      ·have hn : ∀ k c', gs.J k ≠ some (b, c') := fun k c' ek => by
         obtain ⟨j, s1, t1⟩ := gJ' k _ ek
         have := hI.inj _ _ _ _ _ t1 e
         subst this
         exact hm ⟨k, s1⟩
       obtain ⟨f1, f2⟩ := hE.frame b (hI.dom i b c e).2 hn
       exact ObOk.ext (hI.ob i b c o e ho) kw f1 (by rw [C2, f2, gC]) (fun cs hcs => by
         subst hcs
         exact hI.und i cs (hI.dom i b c e).1 ho)
    imm := fun b hb => by rw [C2] at hb ⊢; exact hI'.imm b hb
    und := hI.und
    glob := fun i => by rw [C2]; exact hI'.glob i
    fix := fun i o hi => ⟨(hI'.fix i o hi).1, fun k c e => by rw [J2] at e; exact (hI.fix i o hi).2 k c e⟩ }
 ·exact {
    os := hE.os
    tape := hE.tape
    output := hE.output
    size := hE.size
    frame := fun b hb hj => by
      have hn : ∀ k c', gs.J k ≠ some (b, c') := fun k c' ek => by
        obtain ⟨j, _, t1⟩ := gJ' k _ ek
        exact hj j c' t1
      obtain ⟨f1, f2⟩ := hE.frame b hb hn
      exact ⟨f1, by rw [C2, f2, gC]⟩
    keep := ⟨fun b => by rw [C2]; exact kC b, fun i o _ ho hr => ⟨by rw [J2], o, ho, hr⟩, fun i sz l _ ho => ⟨l, ho, List.prefix_refl _, fun _ => by rw [J2]⟩⟩
    jnew := fun i b c e _ => ⟨i, c, by rw [J2] at e; exact e⟩
    clean := fun _ _ h => h
    len := Nat.le_refl _ }
end
end Go.Vm
namespace Go.Vm.Ite
open Go Go.Vm Go.Proofs Go.Vm.Ip
set_option maxRecDepth 100000
def FinAt (x : Its) (p : Nat) (h : Hp) : Prop := ∃ a b c, h[p]? = some (.box [.mp a, .mp b, .mp c]) ∧ h[a]? = some (.map (finM (nS x))) ∧ h[b]? = some (.map (finM (nE x))) ∧ h[c]? = some (.map (finM (nF x))) ∧ a ≠ b ∧ a ≠ c ∧ b ≠ c
open Classical in
noncomputable def primEnd2 (a : List V) (h : Hp) : Option (V × Hp) := match a with
 | [.d d, .ptr p 0, .d (.str s)] => if c : ∃ x : Its, Fine x ∧ Small x ∧ d = x.D ∧ FinAt x p h then some (boo (endB c.choose s), h) else none
 | _ => none
theorem primEnd2_of {x : Its} (hx : Fine x) (hs : Small x) {p : Nat} {h : Hp} (hf : FinAt x p h) (s : S) : primEnd2 [.d x.D, .ptr p 0, str s] h = some (boo (endB x s), h) := by
 have e : ∃ y : Its, Fine y ∧ Small y ∧ x.D = y.D ∧ FinAt y p h := ⟨x, hx, hs, rfl, hf⟩
 refine (dif_pos e).trans ?_
 have : e.choose = x := (Its.D_inj _ _ e.choose_spec.2.2.1).symm
 rw [this]
section
variable {fx : Nat → Option Obj}
theorem end_any {x : Its} (hx : Fine x) (hs : Small x) {p : Nat} {h : Hp} (hf : FinAt x p h) (s : S) : FnSpec Tryz.prog (cxL fx) 55 [.d x.D, .ptr p 0, str s] h (boo (endB x s)) h := by
 obtain ⟨a, b, c, h1, h2, h3, h4, n1, n2, n3⟩ := hf
 have np : p ≠ a ∧ p ≠ b ∧ p ≠ c := ⟨fun e => (by rw [e, h2] at h1; cases h1), fun e => (by rw [e, h3] at h1; cases h1), fun e => (by rw [e, h4] at h1; cases h1)⟩
 refine fnspec_embed (fun i => if i = 2 then some a else if i = 3 then some b else if i = 4 then some c else if i = 5 then some p else none) (end_spec x hx hs s (.map []) (.map [])) ?_ ?_ ?_ ?_
 ·intro i k j e1 e2
  try simp only at e1 e2
  split at e1
  ·cases e1
   split at e2
   ·omega
   ·split at e2
    ·cases e2; exact absurd rfl n1
    ·split at e2
     ·cases e2; exact absurd rfl n2
     ·split at e2
      ·cases e2; exact absurd rfl np.1
      ·cases e2
  ·split at e1
   ·cases e1
    split at e2
    ·cases e2; exact absurd rfl n1
    ·split at e2
     ·omega
     ·split at e2
      ·cases e2; exact absurd rfl n3
      ·split at e2
       ·cases e2; exact absurd rfl np.2.1
       ·cases e2
   ·split at e1
    ·cases e1
     split at e2
     ·cases e2; exact absurd rfl n2
     ·split at e2
      ·cases e2; exact absurd rfl n3
      ·split at e2
       ·omega
       ·split at e2
        ·cases e2; exact absurd rfl np.2.2
        ·cases e2
    ·split at e1
     ·cases e1
      split at e2
      ·cases e2; exact absurd rfl np.1
      ·split at e2
       ·cases e2; exact absurd rfl np.2.1
       ·split at e2
        ·cases e2; exact absurd rfl np.2.2
        ·split at e2
         ·omega
         ·cases e2
     ·cases e1
 ·intro i c2 hi hc
  match i, hi, hc with
  | 0, _, hc => cases hc; rfl
  | 1, _, hc => cases hc; rfl
  | 2, _, hc => cases hc
  | 3, _, hc => cases hc
  | 4, _, hc => cases hc
  | 5, _, hc => cases hc; rfl
  | 6, _, hc => cases hc
  | 7, _, hc => cases hc
  | n + 8, hi, _ => exact absurd hi (by show ¬ n + 8 < 8; omega)
 ·intro i j e
  try simp only at e
  split at e
  ·rename_i q; cases e; exact ⟨.map (finM (nS x)), _, by rw [q]; rfl, h2, rfl⟩
  ·split at e
   ·rename_i q; cases e; exact ⟨.map (finM (nE x)), _, by rw [q]; rfl, h3, rfl⟩
   ·split at e
    ·rename_i q; cases e; exact ⟨.map (finM (nF x)), _, by rw [q]; rfl, h4, rfl⟩
    ·split at e
     ·rename_i q; cases e
      exact ⟨.box [.mp 2, .mp 3, .mp 4], _, by rw [q]; rfl, h1, ⟨_, rfl, _, _, rfl, ⟨a, rfl, rfl⟩, _, _, rfl, ⟨b, rfl, rfl⟩, _, _, rfl, ⟨c, rfl, rfl⟩, rfl⟩⟩
     ·cases e
 ·exact ⟨_, _, rfl, rfl, _, _, rfl, ⟨p, rfl, rfl⟩, _, _, rfl, rfl, rfl⟩
theorem primEnd2_spec : ∀ args H r H', primEnd2 args H = some (r, H') → FnSpec Tryz.prog (cxL fx) 55 args H r H' := by
 intro args H r H' h
 unfold primEnd2 at h
 split at h
 ·split at h
  ·rename_i d p s c
   cases h
   obtain ⟨h1, h2, h3, h4⟩ := c.choose_spec
   have := end_any (fx := fx) h1 h2 h4 s
   rw [← h3] at this
   exact this
  ·cases h
 ·cases h
end
noncomputable def FT : Nat → Option VFun := fun i => if i = 16 then some (.prim primChk) else if i = 43 then some (.prim primClone) else if i = 55 then some (.prim primEnd2) else if i = 148 then some (.prim primCut) else if i = 151 then some (.prim primIndexByte) else none
instance : HC FT := ⟨rfl, rfl⟩
theorem tOk3 (fx : Nat → Option Obj) (h1 : ∀ args H r H', primCut args H = some (r, H') → FnSpec Tryz.prog (cxL fx) 148 args H r H') (h2 : ∀ args H r H', primIndexByte args H = some (r, H') → FnSpec Tryz.prog (cxL fx) 151 args H r H') : TblOk Tryz.prog (pgL fx FT) := tblOk _ _ fun f e h => by
  unfold FT at h
  split at h
  ·rename_i hf; cases h; subst hf; exact chk_spec
  split at h
  ·rename_i hf; cases h; subst hf; exact clone_spec _
  split at h
  ·rename_i hf; cases h; subst hf; exact primEnd2_spec
  split at h
  ·rename_i hf; cases h; subst hf; exact h1
  split at h
  ·rename_i hf; cases h; subst hf; exact h2
  ·cases h
section
variable {fx : Nat → Option Obj}
theorem end3_ev {x : Its} (hx : Fine x) (hs : Small x) {p : Nat} {h : Hp} (hf : FinAt x p h) (s : S) : evF (pgL fx FT) 55 [.d x.D, .ptr p 0, str s] h = some (boo (endB x s), h) := by
 have ht : (pgL fx FT).tbl 55 = some (.prim primEnd2) := rfl
 rw [evF_prim ht]
 exact primEnd2_of hx hs hf s
end
end Go.Vm.Ite


















namespace Go.Vm.Ip
def zipB {α : Type} (e : α → α → Bool) : List α → List α → Bool
 | [], [] => true
 | a :: l, b :: m => e a b && zipB e l m
 | _, _ => false
theorem zipB_refl {α : Type} {e : α → α → Bool} (h : ∀ a, e a a = true) : ∀ l, zipB e l l = true
 | [] => rfl
 | a :: l => by rw [zipB, h, zipB_refl h l]; rfl
theorem zipB_len {α : Type} {e : α → α → Bool} : ∀ {l m : List α}, l.length ≠ m.length → zipB e l m = false
 | [], [], h => absurd rfl h
 | [], _ :: _, _ => rfl
 | _ :: _, [], _ => rfl
 | a :: l, b :: m, h => by
   rw [zipB, zipB_len (l := l) (m := m) (fun q => h (by simp [q])), Bool.and_false]
theorem zipB_step {α : Type} [Inhabited α] {e : α → α → Bool} {l m : List α} {i : Nat} (hl : i < l.length) (hm : i < m.length) : zipB e (l.drop i) (m.drop i) = (e (l.getD i default) (m.getD i default) && zipB e (l.drop (i + 1)) (m.drop (i + 1))) := by
 rw [drop_getD (d := default) hl, drop_getD (d := default) hm, zipB]
theorem zipB_end {α : Type} {e : α → α → Bool} {l m : List α} (h : l.length = m.length) : zipB e (l.drop l.length) (m.drop l.length) = true := by
 rw [List.drop_length, h, List.drop_length]; rfl
def eF (a b : Fld) : Bool := decide (a.n = b.n) && decide (a.t = b.t)
def eN (a b : Nam) : Bool := decide (a.n = b.n) && zipB eF a.fs b.fs
def eB (a b : Bool) : Bool := a == b
def eC (a b : Fnc) : Bool := decide (a.n = b.n) && (decide (a.r = b.r) && (decide (a.d = b.d) && (zipB eF a.ps b.ps && zipB eB a.ms b.ms)))
def sameB (a b : Its) : Bool := zipB eN a.ss b.ss && (zipB eN a.es b.es && zipB eC a.fs b.fs)
theorem eF_refl (a : Fld) : eF a a = true := by simp [eF]
theorem eN_refl (a : Nam) : eN a a = true := by simp [eN, zipB_refl eF_refl]
theorem eC_refl (a : Fnc) : eC a a = true := by simp [eC, zipB_refl eF_refl, zipB_refl (e := eB) (by simp [eB])]
theorem sameB_refl (a : Its) : sameB a a = true := by simp [sameB, zipB_refl eN_refl, zipB_refl eC_refl]
theorem eqL_fld (a b : Fld) : eqL [.str a.n, .str a.t] [.str b.n, .str b.t] = eF a b := by
 rw [Bool.eq_iff_iff]; simp [eqL, eF, eq1]
end Go.Vm.Ip
namespace Go.Vm.Ite
open Go.Vm.Ip
set_option maxRecDepth 10000
set_option linter.unusedVariables false
set_option linter.unusedSimpArgs false
abbrev namsD (l : List Nam) : D := .sl (l.map Nam.D)
abbrev fncsD (l : List Fnc) : D := .sl (l.map Fnc.D)
abbrev boosD (l : List Bool) : D := .sl (l.map D.bool)
theorem pF {l : List Fld} {i : Nat} (h : i < l.length) : 0 ≤ (i : Int) ∧ (l.map Fld.D)[(i : Int).toNat]? = some (l.getD i default).D := by
 refine ⟨by omega, ?_⟩
 rw [Int.toNat_natCast, List.getElem?_map, List.getElem?_eq_getElem h]
 simp [List.getD_eq_getElem?_getD, List.getElem?_eq_getElem h]
theorem pB {l : List Bool} {i : Nat} (h : i < l.length) : 0 ≤ (i : Int) ∧ (l.map D.bool)[(i : Int).toNat]? = some (.bool (l.getD i default)) := by
 refine ⟨by omega, ?_⟩
 rw [Int.toNat_natCast, List.getElem?_map, List.getElem?_eq_getElem h]
 simp [List.getD_eq_getElem?_getD, List.getElem?_eq_getElem h]
section
variable {fx : Nat → Option Obj} {F : Nat → Option VFun} (H : Hp)
set_option maxHeartbeats 4000000 in
theorem eqFld_ev (a b : List Fld) (ha : a.length ≤ 9223372036854775807) : evF (pgL fx F) n_slices_Equal_api_Field_api_Field [.d (fldsD a), .d (fldsD b)] H = some (boo (zipB eF a b), H) := by
 refine evF_wq (t_slices_Equal_api_Field_api_Field (F := F)) rfl rfl ?_ H
 have hna : (a.map Fld.D).length = a.length := List.length_map ..
 have hnb : (b.map Fld.D).length = b.length := List.length_map ..
 by_cases hl : a.length = b.length
 rotate_left
 ·have c0 : (!decide (((a.map Fld.D).length : Int) = ((b.map Fld.D).length : Int))) = true := by simp; omega
  rw [zipB_len hl]
  refine run ⟨?_⟩
  exact rfl
 ·have c0 : (!decide (((a.map Fld.D).length : Int) = ((b.map Fld.D).length : Int))) = false := by simp; omega
  refine run ⟨?_⟩
  refine wq_loop (α := Nat) (fun i => a.length - i) (fun i => [(0, .d (fldsD a)), (1, .d (fldsD b)), (12, i64 a.length), (13, i64 i)]) (fun _ => []) (fun i => i ≤ a.length ∧ zipB eF (a.drop i) (b.drop i) = zipB eF a b) ?_ 0 ⟨Nat.zero_le _, rfl⟩ (by show [_, _, (12, i64 ((a.map Fld.D).length : Int)), _] = _; rw [hna]; rfl) rfl
  rintro i ⟨hi, ht⟩
  by_cases hlt : i < a.length
  ·have hlb : i < b.length := by omega
   have c1 : (i : Int) < (a.length : Int) := by omega
   have wi : IntKind.i64.wrap ((i : Int) + 1) = ((i + 1 : Nat) : Int) := by rw [i64w (by omega)]; omega
   rw [zipB_step hlt hlb] at ht
   have ga := pF hlt
   have gb := pF hlb
   revert ga gb ht
   generalize a.getD i default = x
   generalize b.getD i default = y
   intro ht ga gb
   cases hs : eF x y with
   | true =>
    rw [hs, Bool.true_and] at ht
    have c2 : (!eqL (D.cells x.D) (D.cells y.D)) = false := by rw [show eqL (D.cells x.D) (D.cells y.D) = eF x y from eqL_fld x y, hs]; rfl
    repeat' (first | refine run ⟨?_⟩ | refine pickD ga ?_ | refine pickD gb ?_ | fail)
    exact ⟨i + 1, ⟨by omega, ht⟩, by omega, by rw [wi] <;> rfl, rfl⟩
   | false =>
    rw [hs, Bool.false_and] at ht
    rw [← ht]
    have c2 : (!eqL (D.cells x.D) (D.cells y.D)) = true := by rw [show eqL (D.cells x.D) (D.cells y.D) = eF x y from eqL_fld x y, hs]; rfl
    repeat' (first | refine run ⟨?_⟩ | refine pickD ga ?_ | refine pickD gb ?_ | fail)
    exact rfl
  ·obtain rfl : i = a.length := by omega
   have c1 : ¬ (a.length : Int) < (a.length : Int) := by omega
   rw [zipB_end hl] at ht
   rw [← ht]
   refine run ⟨?_⟩
   exact rfl
set_option maxHeartbeats 4000000 in
theorem eqBoo_ev (a b : List Bool) (ha : a.length ≤ 9223372036854775807) : evF (pgL fx F) n_slices_Equal_bool_bool [.d (boosD a), .d (boosD b)] H = some (boo (zipB eB a b), H) := by
 refine evF_wq (t_slices_Equal_bool_bool (F := F)) rfl rfl ?_ H
 have hna : (a.map D.bool).length = a.length := List.length_map ..
 have hnb : (b.map D.bool).length = b.length := List.length_map ..
 by_cases hl : a.length = b.length
 rotate_left
 ·have c0 : (!decide (((a.map D.bool).length : Int) = ((b.map D.bool).length : Int))) = true := by simp; omega
  rw [zipB_len hl]
  refine run ⟨?_⟩
  exact rfl
 ·have c0 : (!decide (((a.map D.bool).length : Int) = ((b.map D.bool).length : Int))) = false := by simp; omega
  refine run ⟨?_⟩
  refine wq_loop (α := Nat) (fun i => a.length - i) (fun i => [(0, .d (boosD a)), (1, .d (boosD b)), (12, i64 a.length), (13, i64 i)]) (fun _ => []) (fun i => i ≤ a.length ∧ zipB eB (a.drop i) (b.drop i) = zipB eB a b) ?_ 0 ⟨Nat.zero_le _, rfl⟩ (by show [_, _, (12, i64 ((a.map D.bool).length : Int)), _] = _; rw [hna] <;> rfl) rfl
  rintro i ⟨hi, ht⟩
  by_cases hlt : i < a.length
  ·have hlb : i < b.length := by omega
   have c1 : (i : Int) < (a.length : Int) := by omega
   have wi : IntKind.i64.wrap ((i : Int) + 1) = ((i + 1 : Nat) : Int) := by rw [i64w (by omega)]; omega
   rw [zipB_step hlt hlb] at ht
   have ga := pB hlt
   have gb := pB hlb
   revert ga gb ht
   generalize a.getD i default = x
   generalize b.getD i default = y
   intro ht ga gb
   cases hs : eB x y with
   | true =>
    rw [hs, Bool.true_and] at ht
    have c2 : (if true then !(x == y) else x == y) = false := by rw [show (x == y) = eB x y from rfl, hs]; rfl
    repeat' (first | refine run ⟨?_⟩ | refine pickD ga ?_ | refine pickD gb ?_ | fail)
    exact ⟨i + 1, ⟨by omega, ht⟩, by omega, by rw [wi] <;> rfl, rfl⟩
   | false =>
    rw [hs, Bool.false_and] at ht
    rw [← ht]
    have c2 : (if true then !(x == y) else x == y) = true := by rw [show (x == y) = eB x y from rfl, hs]; rfl
    repeat' (first | refine run ⟨?_⟩ | refine pickD ga ?_ | refine pickD gb ?_ | fail)
    exact rfl
  ·obtain rfl : i = a.length := by omega
   have c1 : ¬ (a.length : Int) < (a.length : Int) := by omega
   rw [zipB_end hl] at ht
   rw [← ht]
   refine run ⟨?_⟩
   exact rfl
theorem same1_ev (x y : Nam) (hx : x.fs.length ≤ 9223372036854775807) : evF (pgL fx F) n_items_Same_1 [.d x.D, .d y.D] H = some (boo (eN x y), H) := by
 refine evF_wq (t_items_Same_1 (F := F)) rfl rfl ?_ H
 have he := fun H => eqFld_ev (fx := fx) (F := F) H x.fs y.fs hx
 unfold eN
 by_cases c : x.n = y.n
 ·rw [decide_eq_true c, Bool.true_and]
  repeat' (first | refine run ⟨?_⟩ | refine ca (he _) ?_ | fail)
  exact rfl
 ·rw [decide_eq_false c, Bool.false_and]
  refine run ⟨?_⟩
  exact rfl
theorem same2_ev (x y : Nam) (hx : x.fs.length ≤ 9223372036854775807) : evF (pgL fx F) n_items_Same_2 [.d x.D, .d y.D] H = some (boo (eN x y), H) := by
 refine evF_wq (t_items_Same_2 (F := F)) rfl rfl ?_ H
 have he := fun H => eqFld_ev (fx := fx) (F := F) H x.fs y.fs hx
 unfold eN
 by_cases c : x.n = y.n
 ·rw [decide_eq_true c, Bool.true_and]
  repeat' (first | refine run ⟨?_⟩ | refine ca (he _) ?_ | fail)
  exact rfl
 ·rw [decide_eq_false c, Bool.false_and]
  refine run ⟨?_⟩
  exact rfl
theorem same3_ev (x y : Fnc) (hx : x.ps.length ≤ 9223372036854775807) (hm : x.ms.length ≤ 9223372036854775807) : evF (pgL fx F) n_items_Same_3 [.d x.D, .d y.D] H = some (boo (eC x y), H) := by
 refine evF_wq (t_items_Same_3 (F := F)) rfl rfl ?_ H
 have he := fun H => eqFld_ev (fx := fx) (F := F) H x.ps y.ps hx
 have hb := fun H => eqBoo_ev (fx := fx) (F := F) H x.ms y.ms hm
 unfold eC
 by_cases c1 : x.n = y.n
 rotate_left
 ·rw [decide_eq_false c1, Bool.false_and]
  refine run ⟨?_⟩
  exact rfl
 rw [decide_eq_true c1, Bool.true_and]
 by_cases c2 : x.r = y.r
 rotate_left
 ·rw [decide_eq_false c2, Bool.false_and]
  refine run ⟨?_⟩
  exact rfl
 rw [decide_eq_true c2, Bool.true_and]
 by_cases c3 : x.d = y.d
 rotate_left
 ·rw [decide_eq_false c3, Bool.false_and]
  refine run ⟨?_⟩
  exact rfl
 rw [decide_eq_true c3, Bool.true_and]
 cases c4 : zipB eF x.ps y.ps with
 | false =>
  rw [c4] at he
  repeat' (first | refine run ⟨?_⟩ | refine ca (he _) ?_ | fail)
  exact rfl
 | true =>
  rw [c4] at he
  repeat' (first | refine run ⟨?_⟩ | refine ca (he _) ?_ | refine ca (hb _) ?_ | fail)
  exact rfl
set_option maxHeartbeats 4000000 in
theorem eqfS_ev (a b : List Nam) (ha : a.length ≤ 9223372036854775807) (hk : ∀ x ∈ a, x.fs.length ≤ 9223372036854775807) : evF (pgL fx F) n_slices_EqualFunc_api_Struct_api_Struct_api_Struct_api_Struct [.d (namsD a), .d (namsD b), .fn 33 []] H = some (boo (zipB eN a b), H) := by
 refine evF_wq (t_slices_EqualFunc_api_Struct_api_Struct_api_Struct_api_Struct (F := F)) rfl rfl ?_ H
 have hna : (a.map Nam.D).length = a.length := List.length_map ..
 have hnb : (b.map Nam.D).length = b.length := List.length_map ..
 by_cases hl : a.length = b.length
 rotate_left
 ·have c0 : (!decide (((a.map Nam.D).length : Int) = ((b.map Nam.D).length : Int))) = true := by simp; omega
  rw [zipB_len hl]
  refine run ⟨?_⟩
  exact rfl
 ·have c0 : (!decide (((a.map Nam.D).length : Int) = ((b.map Nam.D).length : Int))) = false := by simp; omega
  refine run ⟨?_⟩
  refine wq_loop (α := Nat) (fun i => a.length - i) (fun i => [(1, .d (namsD b)), (2, .fn 33 []), (15, .d (namsD a)), (16, i64 a.length), (17, i64 i)]) (fun _ => []) (fun i => i ≤ a.length ∧ zipB eN (a.drop i) (b.drop i) = zipB eN a b) ?_ 0 ⟨Nat.zero_le _, rfl⟩ (by show [_, _, _, (16, i64 ((a.map Nam.D).length : Int)), _] = _; rw [hna]; rfl) rfl
  rintro i ⟨hi, ht⟩
  by_cases hlt : i < a.length
  ·have hlb : i < b.length := by omega
   have c1 : (i : Int) < (a.length : Int) := by omega
   have wi : IntKind.i64.wrap ((i : Int) + 1) = ((i + 1 : Nat) : Int) := by rw [i64w (by omega)]; omega
   rw [zipB_step hlt hlb] at ht
   have ga := gN hlt
   have gb := gN hlb
   have hm := hk (a.getD i default) (by rw [List.getD_eq_getElem?_getD, List.getElem?_eq_getElem hlt]; exact List.getElem_mem _)
   revert ga gb ht hm
   generalize a.getD i default = x
   generalize b.getD i default = y
   intro ht ga gb hm
   have hev := fun H => same1_ev (fx := fx) (F := F) H x y hm
   cases hs : eN x y with
   | true =>
    rw [hs, Bool.true_and] at ht
    rw [hs] at hev
    repeat' (first | refine run ⟨?_⟩ | refine pickD ga ?_ | refine pickD gb ?_ | refine ca (hev _) ?_ | fail)
    exact ⟨i + 1, ⟨by omega, ht⟩, by omega, by rw [wi] <;> rfl, rfl⟩
   | false =>
    rw [hs, Bool.false_and] at ht
    rw [← ht]
    rw [hs] at hev
    repeat' (first | refine run ⟨?_⟩ | refine pickD ga ?_ | refine pickD gb ?_ | refine ca (hev _) ?_ | fail)
    exact rfl
  ·obtain rfl : i = a.length := by omega
   have c1 : ¬ (a.length : Int) < (a.length : Int) := by omega
   rw [zipB_end hl] at ht
   rw [← ht]
   refine run ⟨?_⟩
   exact rfl
set_option maxHeartbeats 4000000 in
theorem eqfE_ev (a b : List Nam) (ha : a.length ≤ 9223372036854775807) (hk : ∀ x ∈ a, x.fs.length ≤ 9223372036854775807) : evF (pgL fx F) n_slices_EqualFunc_api_Enum_api_Enum_api_Enum_api_Enum [.d (namsD a), .d (namsD b), .fn 36 []] H = some (boo (zipB eN a b), H) := by
 refine evF_wq (t_slices_EqualFunc_api_Enum_api_Enum_api_Enum_api_Enum (F := F)) rfl rfl ?_ H
 have hna : (a.map Nam.D).length = a.length := List.length_map ..
 have hnb : (b.map Nam.D).length = b.length := List.length_map ..
 by_cases hl : a.length = b.length
 rotate_left
 ·have c0 : (!decide (((a.map Nam.D).length : Int) = ((b.map Nam.D).length : Int))) = true := by simp; omega
  rw [zipB_len hl]
  refine run ⟨?_⟩
  exact rfl
 ·have c0 : (!decide (((a.map Nam.D).length : Int) = ((b.map Nam.D).length : Int))) = false := by simp; omega
  refine run ⟨?_⟩
  refine wq_loop (α := Nat) (fun i => a.length - i) (fun i => [(1, .d (namsD b)), (2, .fn 36 []), (15, .d (namsD a)), (16, i64 a.length), (17, i64 i)]) (fun _ => []) (fun i => i ≤ a.length ∧ zipB eN (a.drop i) (b.drop i) = zipB eN a b) ?_ 0 ⟨Nat.zero_le _, rfl⟩ (by show [_, _, _, (16, i64 ((a.map Nam.D).length : Int)), _] = _; rw [hna]; rfl) rfl
  rintro i ⟨hi, ht⟩
  by_cases hlt : i < a.length
  ·have hlb : i < b.length := by omega
   have c1 : (i : Int) < (a.length : Int) := by omega
   have wi : IntKind.i64.wrap ((i : Int) + 1) = ((i + 1 : Nat) : Int) := by rw [i64w (by omega)]; omega
   rw [zipB_step hlt hlb] at ht
   have ga := gN hlt
   have gb := gN hlb
   have hm := hk (a.getD i default) (by rw [List.getD_eq_getElem?_getD, List.getElem?_eq_getElem hlt]; exact List.getElem_mem _)
   revert ga gb ht hm
   generalize a.getD i default = x
   generalize b.getD i default = y
   intro ht ga gb hm
   have hev := fun H => same2_ev (fx := fx) (F := F) H x y hm
   cases hs : eN x y with
   | true =>
    rw [hs, Bool.true_and] at ht
    rw [hs] at hev
    repeat' (first | refine run ⟨?_⟩ | refine pickD ga ?_ | refine pickD gb ?_ | refine ca (hev _) ?_ | fail)
    exact ⟨i + 1, ⟨by omega, ht⟩, by omega, by rw [wi] <;> rfl, rfl⟩
   | false =>
    rw [hs, Bool.false_and] at ht
    rw [← ht]
    rw [hs] at hev
    repeat' (first | refine run ⟨?_⟩ | refine pickD ga ?_ | refine pickD gb ?_ | refine ca (hev _) ?_ | fail)
    exact rfl
  ·obtain rfl : i = a.length := by omega
   have c1 : ¬ (a.length : Int) < (a.length : Int) := by omega
   rw [zipB_end hl] at ht
   rw [← ht]
   refine run ⟨?_⟩
   exact rfl
set_option maxHeartbeats 4000000 in
theorem eqfC_ev (a b : List Fnc) (ha : a.length ≤ 9223372036854775807) (hk : ∀ x ∈ a, x.ps.length ≤ 9223372036854775807 ∧ x.ms.length ≤ 9223372036854775807) : evF (pgL fx F) n_slices_EqualFunc_api_Fn_api_Fn_api_Fn_api_Fn [.d (fncsD a), .d (fncsD b), .fn 38 []] H = some (boo (zipB eC a b), H) := by
 refine evF_wq (t_slices_EqualFunc_api_Fn_api_Fn_api_Fn_api_Fn (F := F)) rfl rfl ?_ H
 have hna : (a.map Fnc.D).length = a.length := List.length_map ..
 have hnb : (b.map Fnc.D).length = b.length := List.length_map ..
 by_cases hl : a.length = b.length
 rotate_left
 ·have c0 : (!decide (((a.map Fnc.D).length : Int) = ((b.map Fnc.D).length : Int))) = true := by simp; omega
  rw [zipB_len hl]
  refine run ⟨?_⟩
  exact rfl
 ·have c0 : (!decide (((a.map Fnc.D).length : Int) = ((b.map Fnc.D).length : Int))) = false := by simp; omega
  refine run ⟨?_⟩
  refine wq_loop (α := Nat) (fun i => a.length - i) (fun i => [(1, .d (fncsD b)), (2, .fn 38 []), (15, .d (fncsD a)), (16, i64 a.length), (17, i64 i)]) (fun _ => []) (fun i => i ≤ a.length ∧ zipB eC (a.drop i) (b.drop i) = zipB eC a b) ?_ 0 ⟨Nat.zero_le _, rfl⟩ (by show [_, _, _, (16, i64 ((a.map Fnc.D).length : Int)), _] = _; rw [hna]; rfl) rfl
  rintro i ⟨hi, ht⟩
  by_cases hlt : i < a.length
  ·have hlb : i < b.length := by omega
   have c1 : (i : Int) < (a.length : Int) := by omega
   have wi : IntKind.i64.wrap ((i : Int) + 1) = ((i + 1 : Nat) : Int) := by rw [i64w (by omega)]; omega
   rw [zipB_step hlt hlb] at ht
   have ga := gF hlt
   have gb := gF hlb
   have hm := hk (a.getD i default) (by rw [List.getD_eq_getElem?_getD, List.getElem?_eq_getElem hlt]; exact List.getElem_mem _)
   revert ga gb ht hm
   generalize a.getD i default = x
   generalize b.getD i default = y
   intro ht ga gb hm
   have hev := fun H => same3_ev (fx := fx) (F := F) H x y hm.1 hm.2
   cases hs : eC x y with
   | true =>
    rw [hs, Bool.true_and] at ht
    rw [hs] at hev
    repeat' (first | refine run ⟨?_⟩ | refine pickD ga ?_ | refine pickD gb ?_ | refine ca (hev _) ?_ | fail)
    exact ⟨i + 1, ⟨by omega, ht⟩, by omega, by rw [wi] <;> rfl, rfl⟩
   | false =>
    rw [hs, Bool.false_and] at ht
    rw [← ht]
    rw [hs] at hev
    repeat' (first | refine run ⟨?_⟩ | refine pickD ga ?_ | refine pickD gb ?_ | refine ca (hev _) ?_ | fail)
    exact rfl
  ·obtain rfl : i = a.length := by omega
   have c1 : ¬ (a.length : Int) < (a.length : Int) := by omega
   rw [zipB_end hl] at ht
   rw [← ht]
   refine run ⟨?_⟩
   exact rfl
theorem same_ev (a b : Its) (ha : Fine a) : evF (pgL fx F) n_items_Same [.d a.D, .d b.D] H = some (boo (sameB a b), H) := by
 refine evF_wq (t_items_Same (F := F)) rfl rfl ?_ H
 have e1 := fun H => eqfS_ev (fx := fx) (F := F) H a.ss b.ss (Nat.le_trans ha.ss (by decide)) (fun x hx => Nat.le_trans (ha.sf x hx).2.1 (by decide))
 have e2 := fun H => eqfE_ev (fx := fx) (F := F) H a.es b.es (Nat.le_trans ha.es (by decide)) (fun x hx => Nat.le_trans (ha.ef x hx).2.1 (by decide))
 have e3 := fun H => eqfC_ev (fx := fx) (F := F) H a.fs b.fs (Nat.le_trans ha.fs (by decide)) (fun x hx => ⟨Nat.le_trans (ha.ff x hx).2.2.2.1 (by decide), Nat.le_trans (ha.ff x hx).2.2.1 (by decide)⟩)
 unfold sameB
 cases c1 : zipB eN a.ss b.ss with
 | false =>
  rw [c1] at e1
  repeat' (first | refine run ⟨?_⟩ | refine ca (e1 _) ?_ | fail)
  exact rfl
 | true =>
 rw [c1] at e1
 cases c2 : zipB eN a.es b.es with
 | false =>
  rw [c2] at e2
  repeat' (first | refine run ⟨?_⟩ | refine ca (e1 _) ?_ | refine ca (e2 _) ?_ | fail)
  exact rfl
 | true =>
  rw [c2] at e2
  repeat' (first | refine run ⟨?_⟩ | refine ca (e1 _) ?_ | refine ca (e2 _) ?_ | refine ca (e3 _) ?_ | fail)
  exact rfl
end
end Go.Vm.Ite

namespace Go.Vm
mutual
def eqD : D → D → Bool
 | .bool a, .bool b => a == b
 | .int k a, .int j b => decide (k = j) && decide (a = b)
 | .str a, .str b => decide (a = b)
 | .sl a, .sl b => eqDs a b
 | .agg a, .agg b => eqDs a b
 | _, _ => false
def eqDs : List D → List D → Bool
 | [], [] => true
 | a :: l, b :: m => eqD a b && eqDs l m
 | _, _ => false
end
mutual
theorem eqD_eq : ∀ (a b : D), eqD a b = true → a = b
 | .bool a, b, h => by cases b <;> simp only [eqD, beq_iff_eq, Bool.false_eq_true] at h; rw [h]
 | .int k a, b, h => by cases b <;> simp only [eqD, Bool.and_eq_true, decide_eq_true_eq, Bool.false_eq_true] at h; rw [h.1, h.2]
 | .str a, b, h => by cases b <;> simp only [eqD, decide_eq_true_eq, Bool.false_eq_true] at h; rw [h]
 | .sl a, b, h => by cases b <;> simp only [eqD, Bool.false_eq_true] at h; rw [eqDs_eq _ _ h]
 | .agg a, b, h => by cases b <;> simp only [eqD, Bool.false_eq_true] at h; rw [eqDs_eq _ _ h]
theorem eqDs_eq : ∀ (a b : List D), eqDs a b = true → a = b
 | [], b, h => by cases b <;> simp only [eqDs, Bool.false_eq_true] at h; rfl
 | a :: l, b, h => by cases b <;> simp only [eqDs, Bool.and_eq_true, Bool.false_eq_true] at h; rw [eqD_eq _ _ h.1, eqDs_eq _ _ h.2]
end
mutual
def eqV : V → V → Bool
 | .d a, .d b => eqD a b
 | .agg a, .agg b => eqVs a b
 | .tup a, .tup b => eqVs a b
 | .nils, .nils => true
 | .row a b, .row c d => decide (a = c) && decide (b = d)
 | .arr a b c, .arr d e f => decide (a = d) && (decide (b = e) && decide (c = f))
 | .ptr a b, .ptr c d => decide (a = c) && decide (b = d)
 | .ro a b, .ro c d => eqDs a c && decide (b = d)
 | .fn a b, .fn c d => decide (a = c) && eqVs b d
 | .fm a b, .fm c d => decide (a = c) && eqVs b d
 | .nul, .nul => true
 | .nof, .nof => true
 | .ifc a, .ifc b => a == b
 | .nmp, .nmp => true
 | .nile, .nile => true
 | .mp a, .mp b => decide (a = b)
 | .undef, .undef => true
 | _, _ => false
def eqVs : List V → List V → Bool
 | [], [] => true
 | a :: l, b :: m => eqV a b && eqVs l m
 | _, _ => false
end
mutual
theorem eqV_eq : ∀ (a b : V), eqV a b = true → a = b
 | .d a, b, h => by cases b <;> simp only [eqV, Bool.false_eq_true] at h; rw [eqD_eq _ _ h]
 | .agg a, b, h => by cases b <;> simp only [eqV, Bool.false_eq_true] at h; rw [eqVs_eq _ _ h]
 | .tup a, b, h => by cases b <;> simp only [eqV, Bool.false_eq_true] at h; rw [eqVs_eq _ _ h]
 | .nils, b, h => by cases b <;> simp only [eqV, Bool.false_eq_true] at h; rfl
 | .row .., b, h => by cases b <;> simp only [eqV, Bool.and_eq_true, decide_eq_true_eq, Bool.false_eq_true] at h; rw [h.1, h.2]
 | .arr .., b, h => by cases b <;> simp only [eqV, Bool.and_eq_true, decide_eq_true_eq, Bool.false_eq_true] at h; rw [h.1, h.2.1, h.2.2]
 | .ptr .., b, h => by cases b <;> simp only [eqV, Bool.and_eq_true, decide_eq_true_eq, Bool.false_eq_true] at h; rw [h.1, h.2]
 | .ro .., b, h => by cases b <;> simp only [eqV, Bool.and_eq_true, decide_eq_true_eq, Bool.false_eq_true] at h; rw [eqDs_eq _ _ h.1, h.2]
 | .fn _ c, b, h => by cases b <;> simp only [eqV, Bool.and_eq_true, decide_eq_true_eq, Bool.false_eq_true] at h; rw [h.1, eqVs_eq c _ h.2]
 | .fm _ c, b, h => by cases b <;> simp only [eqV, Bool.and_eq_true, decide_eq_true_eq, Bool.false_eq_true] at h; rw [h.1, eqVs_eq c _ h.2]
 | .nul, b, h => by cases b <;> simp only [eqV, Bool.false_eq_true] at h; rfl
 | .nof, b, h => by cases b <;> simp only [eqV, Bool.false_eq_true] at h; rfl
 | .ifc a, b, h => by cases b <;> simp only [eqV, beq_iff_eq, Bool.false_eq_true] at h; rw [h]
 | .raw a, b, h => by cases b <;> simp only [eqV, Bool.false_eq_true] at h
 | .nmp, b, h => by cases b <;> simp only [eqV, Bool.false_eq_true] at h; rfl
 | .nile, b, h => by cases b <;> simp only [eqV, Bool.false_eq_true] at h; rfl
 | .mp .., b, h => by cases b <;> simp only [eqV, decide_eq_true_eq, Bool.false_eq_true] at h; rw [h]
 | .undef, b, h => by cases b <;> simp only [eqV, Bool.false_eq_true] at h; rfl
theorem eqVs_eq : ∀ (a b : List V), eqVs a b = true → a = b
 | [], b, h => by cases b <;> simp only [eqVs, Bool.false_eq_true] at h; rfl
 | a :: l, b, h => by cases b <;> simp only [eqVs, Bool.and_eq_true, Bool.false_eq_true] at h; rw [eqV_eq _ _ h.1, eqVs_eq _ _ h.2]
end
def eqPs : List (D × D) → List (D × D) → Bool
 | [], [] => true
 | a :: l, b :: m => eqD a.1 b.1 && (eqD a.2 b.2 && eqPs l m)
 | _, _ => false
theorem eqPs_eq : ∀ (a b : List (D × D)), eqPs a b = true → a = b
 | [], b, h => by cases b <;> simp only [eqPs, Bool.false_eq_true] at h; rfl
 | (x, y) :: l, b, h => by
   cases b with
   | nil => simp only [eqPs, Bool.false_eq_true] at h
   | cons z m =>
    obtain ⟨z1, z2⟩ := z
    simp only [eqPs, Bool.and_eq_true] at h
    rw [eqD_eq _ _ h.1, eqD_eq _ _ h.2.1, eqPs_eq _ _ h.2.2]
def eqOb : Ob → Ob → Bool
 | .box a, .box b => eqVs a b
 | .frz a, .frz b => eqDs a b
 | .row n a, .row m b => decide (n = m) && eqDs a b
 | .map a, .map b => eqPs a b
 | _, _ => false
theorem eqOb_eq {a b : Ob} (h : eqOb a b = true) : a = b := by
 cases a <;> cases b <;> simp only [eqOb, Bool.and_eq_true, decide_eq_true_eq, Bool.false_eq_true] at h
 ·rw [eqVs_eq _ _ h]
 ·rw [eqDs_eq _ _ h]
 ·rw [h.1, eqDs_eq _ _ h.2]
 ·rw [eqPs_eq _ _ h]
def eqHp : Hp → Hp → Bool
 | [], [] => true
 | a :: l, b :: m => eqOb a b && eqHp l m
 | _, _ => false
theorem eqHp_eq : ∀ (a b : Hp), eqHp a b = true → a = b
 | [], b, h => by cases b <;> simp only [eqHp, Bool.false_eq_true] at h; rfl
 | a :: l, b, h => by cases b <;> simp only [eqHp, Bool.and_eq_true, Bool.false_eq_true] at h; rw [eqOb_eq h.1, eqHp_eq _ _ h.2]
def grewB (h h' : Hp) : Bool := eqHp h (h'.take h.length) && newOk h'.length (h'.drop h.length)
theorem grewB_t {h h' : Hp} (x : grewB h h' = true) : grew h h' = true := by
 simp only [grewB, Bool.and_eq_true] at x
 simp only [grew, Bool.and_eq_true, decide_eq_true_eq]
 exact ⟨⟨h'.drop h.length, by conv => lhs; rw [← List.take_append_drop h.length h', ← eqHp_eq _ _ x.1]⟩, x.2⟩
def hdE : Env → V
 | (_, v) :: _ => v
 | [] => .undef
def samQ (o : VOper) (x : Option St) (q : St) (H1 : Hp) : Bool := match x with
 | some y => (pureO o.op || eqHp y.h H1) && (match o.dst with | none => true | some _ => eqV (hdE y.e) (hdE q.e))
 | none => false
variable {cx : Cx} {orc : Orc}
theorem quiet_h {o : VOper} {s q : St} (h : evOper cx orc o s = some q) (hp : pureO o.op = true) : q.h = s.h := by
 unfold evOper at h
 split at h
 ·obtain ⟨r, hr, rfl⟩ := Option.map_eq_some_iff.1 h
  exact pure_hG hp (v := r.1) (H' := r.2) hr
 ·unfold grd at h
  split at h
  ·split at h
   ·obtain ⟨r, hr, rfl⟩ := Option.map_eq_some_iff.1 h
    exact pure_hG hp (v := r.1) (H' := r.2) hr
   ·cases h; rfl
  ·cases h; rfl
  ·cases h
theorem same_eq {o : VOper} {s q : St} {H1 : Hp} (h : evOper cx orc o s = some q) (hs : samQ o (evOper cx orc o ⟨s.e, H1, s.b⟩) q H1 = true) : evOper cx orc o ⟨s.e, H1, s.b⟩ = some ⟨q.e, H1, s.b⟩ := by
 unfold samQ at hs
 split at hs
 ·rename_i y hy
  simp only [Bool.and_eq_true, Bool.or_eq_true] at hs
  have hh : y.h = H1 := hs.1.elim (fun p => quiet_h hy p) (fun p => eqHp_eq _ _ p)
  obtain ⟨v, hv⟩ := evOper_e h
  obtain ⟨w, hw⟩ := evOper_e hy
  have he : y.e = q.e := by
   rw [hv, hw]
   cases hd : o.dst with
   | none => rfl
   | some d =>
    have h2 := hs.2
    rw [hd] at h2
    simp only [hv, hw, hd, putE, hdE] at h2
    rw [eqV_eq _ _ h2]
  rw [hy, ← he, ← hh, ← evOper_b hy]
 ·cases hs
def cDraw (cx : Cx) (orc : Orc) : Nat → List VOper → St → Option St
 | _, [], s => some s
 | 0, r, s => evOps cx orc r s
 | m + 1, o :: r, s => (evOper cx orc o s).bind fun s' => if (pureO o.op || grewB s.h s'.h) && dstOk o.dst s' then cDraw cx orc m r s' else none
theorem cDraw_ok : ∀ {m : Nat} {r : List VOper} {s q : St}, cDraw cx orc m r s = some q → evDraw cx orc m r s = some q
 | 0, [], _, _, h => h
 | _ + 1, [], _, _, h => h
 | 0, _ :: _, _, _, h => h
 | m + 1, o :: r, s, q, h => by
   simp only [cDraw] at h
   simp only [evDraw]
   cases hx : evOper cx orc o s with
   | none => rw [hx] at h; cases h
   | some s1 =>
    rw [hx] at h
    simp only [Option.bind_some] at h ⊢
    split at h
    ·rename_i hc
     simp only [Bool.and_eq_true, Bool.or_eq_true] at hc
     have hg : grew s.h s1.h = true := hc.1.elim (fun p => by rw [quiet_h hx p]; exact grew_self _) grewB_t
     rw [if_pos (by rw [hg, hc.2]; rfl)]
     exact cDraw_ok h
    ·cases h
def cBh (cx : Cx) (orc : Orc) (d : Option Nat) (H0 : Hp) : Nat → List VOper → St → Option St
 | _, [], s => some s
 | 0, r, s => evOps cx orc r s
 | m + 1, o :: r, s => (evOper cx orc o s).bind fun s' => if (pureO o.op || eqHp s'.h s.h) && (namedB d o || samQ o (evOper cx orc o ⟨s.e, H0, s.b⟩) s' H0) then cBh cx orc d H0 m r s' else none
def accB (cx : Cx) (orc : Orc) (H1 : Hp) (b : Nat) : List (VOper × St × St) → Bool
 | [] => true
 | (o, s, q) :: r => samQ o (evOper cx orc o ⟨s.e, H1, b⟩) q H1 && accB cx orc H1 b r
def cZ (cx : Cx) (orc : Orc) (acc : List (VOper × St × St)) (o : VOper) (s s1 : St) : List VOper → Option St
 | [] => none
 | z :: r => match evOper cx orc z s1, evOper cx orc z ⟨s1.e, s.h, s.b⟩ with
   | some s2, some s3 => match evOper cx orc o ⟨s.e, s3.h, s.b⟩ with
     | some s4 => if (z.dst.isNone || eqV (hdE s3.e) (hdE s2.e)) && ((o.dst.isNone || eqV (hdE s4.e) (hdE s1.e)) && (eqHp s4.h s2.h && (accB cx orc s1.h s.b acc && (accB cx orc s3.h s.b acc && accB cx orc s2.h s.b acc)))) then evOps cx orc r s2 else none
     | none => none
   | _, _ => none
def cGo (cx : Cx) (orc : Orc) (acc : List (VOper × St × St)) : Nat → List VOper → St → Option St
 | _, [], s => some s
 | 0, r, s => evOps cx orc r s
 | m + 1, o :: r, s => (evOper cx orc o s).bind fun s' =>
   if (pureO o.op || eqHp s'.h s.h) then (if dstOk o.dst s' then cGo cx orc ((o, s, s') :: acc) m r s' else none)
   else if grewB s.h s'.h && dstOk o.dst s' then cDraw cx orc m r s'
   else match (if Nat.ble m r.length && accB cx orc s'.h s.b acc then cBh cx orc o.dst s.h m r s' else none) with
    | some q => some q
    | none => if m = 1 then cZ cx orc acc o s s' r else none
section
variable {pg : Pg}
theorem Ahd.snocG {b : Nat} {s : St} {pre : List VOper} {e e' : Env} {chk chk' : Hp → Prop → Prop} (A : Ahd (pg := pg) b s pre e chk) {o : VOper} (h : evOper pg.toCx (evF pg) o ⟨e, s.h, b⟩ = some ⟨e', s.h, b⟩)
 (hcc : ∀ H1 P, chk' H1 P → evOper pg.toCx (evF pg) o ⟨e, H1, b⟩ = some ⟨e', H1, b⟩ ∧ chk H1 P) : Ahd (pg := pg) b s (pre ++ [o]) e' chk' := by
 have hr := evOps_snoc A.run h
 refine ⟨hr, fun i q hi hq => ?_, fun H1 P hc => ?_⟩
 ·rw [List.length_append, List.length_singleton] at hi
  by_cases c : i ≤ pre.length
  ·rw [take_snoc c] at hq; exact A.quiet i q c hq
  ·have : i = pre.length + 1 := by omega
   rw [this, List.take_of_length_le (by simp), hr] at hq
   cases hq; rfl
 ·obtain ⟨h1, h4⟩ := hcc H1 P hc
  obtain ⟨hP, hall⟩ := A.chk H1 P h4
  refine ⟨hP, fun i p q q' hp hq hq' => ?_⟩
  by_cases c : i < pre.length
  ·rw [List.getElem?_append_left c] at hp
   rw [take_snoc (by omega)] at hq hq'
   exact hall i p q q' hp hq hq'
  ·have hi : i = pre.length := by
    have := (List.getElem?_eq_some_iff.1 hp).1
    rw [List.length_append, List.length_singleton] at this
    omega
   subst hi
   rw [List.getElem?_append_right (Nat.le_refl _), Nat.sub_self] at hp
   cases hp
   rw [take_snoc (Nat.le_refl _), List.take_of_length_le (Nat.le_refl _), A.run] at hq
   rw [List.take_of_length_le (by simp), hr] at hq'
   cases hq; cases hq'
   exact h1
theorem dirtyZ_of {b d : Nat} {ops : List VOper} {od oz : VOper} {e : Env} {H H10 H01 H5 : Hp} {e1 e4 e5 : Env} {chk : Hp → Prop → Prop} {s' : St} (hlen : d + 2 ≤ ops.length) (hod : ops[d]? = some od) (hoz : ops[d + 1]? = some oz)
 (A : Ahd (pg := pg) b ⟨e, H, b⟩ (ops.take d) e1 chk)
 (g1 : evOper pg.toCx (evF pg) od ⟨e1, H, b⟩ = some ⟨e5, H10, b⟩) (g2 : evOper pg.toCx (evF pg) oz ⟨e5, H10, b⟩ = some ⟨e4, H5, b⟩)
 (g3 : evOper pg.toCx (evF pg) oz ⟨e5, H, b⟩ = some ⟨e4, H01, b⟩) (g4 : evOper pg.toCx (evF pg) od ⟨e1, H01, b⟩ = some ⟨e5, H5, b⟩)
 (k10 : chk H10 True) (k01 : chk H01 True) (k11 : chk H5 True) (hops : evOps pg.toCx (evF pg) ops ⟨e, H, b⟩ = some s') : Dirty pg.toCx (evF pg) (d + 2) ops ⟨e, H, b⟩ := by
 have htd : (ops.take d).length = d := by rw [List.length_take]; omega
 have c10 := (A.chk _ _ k10).2
 have c01 := (A.chk _ _ k01).2
 have c11 := (A.chk _ _ k11).2
 have r1 : evOps pg.toCx (evF pg) (ops.take (d + 1)) ⟨e, H, b⟩ = some ⟨e5, H10, b⟩ := by
  rw [List.take_add_one, hod]; exact evOps_snoc A.run g1
 have r2 : evOps pg.toCx (evF pg) (ops.take (d + 2)) ⟨e, H, b⟩ = some ⟨e4, H5, b⟩ := by
  rw [show d + 2 = d + 1 + 1 from rfl, List.take_add_one, hoz]; exact evOps_snoc r1 g2
 refine .inr (.inl ?_)
 have pref : ∀ i, ∃ q, evOps pg.toCx (evF pg) (ops.take i) ⟨e, H, b⟩ = some q := by
  intro i
  have h := hops
  rw [← List.take_append_drop i ops, evOps_app] at h
  cases hq : evOps pg.toCx (evF pg) (ops.take i) ⟨e, H, b⟩ with
  | none => rw [hq] at h; cases h
  | some q => exact ⟨q, rfl⟩
 have one : ∀ {i o q q'}, ops[i]? = some o → evOps pg.toCx (evF pg) (ops.take i) ⟨e, H, b⟩ = some q → evOps pg.toCx (evF pg) (ops.take (i + 1)) ⟨e, H, b⟩ = some q' → evOper pg.toCx (evF pg) o q = some q' := by
  intro i o q q' ho hq hq'
  rw [List.take_add_one, evOps_app, hq, ho] at hq'
  simp only [Option.toList, Option.bind_some, evOps] at hq'
  cases hx : evOper pg.toCx (evF pg) o q with
  | none => rw [hx] at hq'; cases hq'
  | some y => rw [hx] at hq'; exact hq'
 obtain ⟨τ, hτ⟩ : ∃ τ : Nat → St, ∀ i, evOps pg.toCx (evF pg) (ops.take i) ⟨e, H, b⟩ = some (τ i) := ⟨fun i => (pref i).choose, fun i => (pref i).choose_spec⟩
 have hv : ∀ i, ∃ x, ∀ o, ops[i]? = some o → (τ (i + 1)).e = putE o.dst x (τ i).e := by
  intro i
  cases ho : ops[i]? with
  | none => exact ⟨.undef, fun o h => by cases h⟩
  | some o =>
   obtain ⟨x, hx⟩ := evOper_e (one ho (hτ i) (hτ (i + 1)))
   exact ⟨x, fun o' h => by cases h; exact hx⟩
 obtain ⟨val, hval⟩ : ∃ val : Nat → V, ∀ i o, ops[i]? = some o → (τ (i + 1)).e = putE o.dst (val i) (τ i).e := ⟨fun i => (hv i).choose, fun i => (hv i).choose_spec⟩
 have t0 : τ 0 = ⟨e, H, b⟩ := by have := hτ 0; simp only [List.take_zero, evOps, Option.some.injEq] at this; exact this.symm
 have td : τ d = ⟨e1, H, b⟩ := by have := hτ d; rw [A.run] at this; simpa using this.symm
 have td1 : τ (d + 1) = ⟨e5, H10, b⟩ := by have := hτ (d + 1); rw [r1] at this; simpa using this.symm
 have td2 : τ (d + 2) = ⟨e4, H5, b⟩ := by have := hτ (d + 2); rw [r2] at this; simpa using this.symm
 have tk : ∀ {i j}, i ≤ j → (ops.take j).take i = ops.take i := fun {i j} h => by rw [List.take_take, Nat.min_eq_left h]
 have gt : ∀ {i j}, i < j → (ops.take j)[i]? = ops[i]? := fun {i j} h => by rw [List.getElem?_take, if_pos h]
 have lo : ∀ i, i ≤ d → (τ i).h = H := fun i hi => A.quiet i _ (by omega) (by rw [tk hi]; exact hτ i)
 have hb : ∀ i, (τ i).b = b := by
  intro i
  induction i with
  | zero => rw [t0]
  | succ i ih =>
   cases ho : ops[i]? with
   | none =>
    have e1 : ops.take (i + 1) = ops.take i := by
     have : ops.length ≤ i := List.getElem?_eq_none_iff.1 ho
     rw [List.take_of_length_le this, List.take_of_length_le (by omega)]
    have := hτ (i + 1)
    rw [e1, hτ i] at this
    simp only [Option.some.injEq] at this
    rw [← this, ih]
   | some o => rw [evOper_b (one ho (hτ i) (hτ (i + 1))), ih]
 refine ⟨d, d + 1, fun i => (τ i).e, val, fun x y => match x, y with | false, false => H | true, false => H10 | false, true => H01 | true, true => H5, by omega, by omega, by omega, hlen, by rw [t0], rfl, fun i o _ ho => hval i o ho, fun i o x y hi ho hx hy => ?_⟩
 have cs : i < d ∨ i = d ∨ i = d + 1 := by omega
 rcases cs with c | rfl | rfl
 ·rw [decide_eq_false (by omega), decide_eq_false (by omega), Bool.or_false, Bool.or_false]
  have all : ∀ H1, (∀ (i : Nat) (o : VOper) (q q' : St), (ops.take d)[i]? = some o → evOps pg.toCx (evF pg) ((ops.take d).take i) ⟨e, H, b⟩ = some q → evOps pg.toCx (evF pg) ((ops.take d).take (i + 1)) ⟨e, H, b⟩ = some q' → evOper pg.toCx (evF pg) o ⟨q.e, H1, b⟩ = some ⟨q'.e, H1, b⟩) → evOper pg.toCx (evF pg) o ⟨(τ i).e, H1, b⟩ = some ⟨(τ (i + 1)).e, H1, b⟩ := fun H1 hh =>
   hh i o _ _ (by rw [gt c]; exact ho) (by rw [tk (by omega)]; exact hτ i) (by rw [tk (by omega)]; exact hτ (i + 1))
  cases x <;> cases y
  ·have := one ho (hτ i) (hτ (i + 1))
   rw [show τ i = ⟨(τ i).e, (τ i).h, (τ i).b⟩ from rfl, show τ (i + 1) = ⟨(τ (i + 1)).e, (τ (i + 1)).h, (τ (i + 1)).b⟩ from rfl, lo i (by omega), lo (i + 1) (by omega), hb, hb] at this
   exact this
  ·exact all _ c01
  ·exact all _ c10
  ·exact all _ c11
 ·rw [hod] at ho; cases ho
  have hx := hx rfl
  subst hx
  simp only [td, td1]
  rw [decide_eq_false (show ¬ i = i + 1 by omega), Bool.or_false]
  cases y
  ·exact g1
  ·exact g4
 ·rw [hoz] at ho; cases ho
  have hy := hy rfl
  subst hy
  simp only [td1, td2]
  rw [decide_eq_false (show ¬ d + 1 = d by omega), Bool.or_false]
  cases x
  ·exact g3
  ·exact g2
variable {orc : Orc} (ho : OLe orc (evF pg))
include ho
theorem cBh_ok {b : Nat} {s0 : St} {d : Nat} {od : VOper} {H1 : Hp} : ∀ {m : Nat} {r pre : List VOper} {s q : St}, Bhd (pg := pg) b s0 d od H1 pre s.e → s.h = H1 → s.b = b → m ≤ r.length → cBh pg.toCx orc od.dst s0.h m r s = some q →
 ∃ e2, Bhd (pg := pg) b s0 d od H1 (pre ++ r.take m) e2 ∧ evOps pg.toCx (evF pg) (pre ++ r) s0 = some q
 | 0, r, pre, s, q, B, hh, hb, _, h => by
   refine ⟨s.e, by rw [List.take_zero, List.append_nil]; exact B, ?_⟩
   rw [evOps_app, B.run]
   subst hh; subst hb
   cases r with
   | nil => exact h
   | cons o r => exact evOps_mono ho h
 | m + 1, [], pre, s, q, B, hh, hb, hm, h => absurd hm (by simp)
 | m + 1, o :: r, pre, s, q, B, hh, hb, hm, h => by
   simp only [cBh] at h
   cases hy : evOper pg.toCx orc o s with
   | none => rw [hy] at h; cases h
   | some s1 =>
    rw [hy] at h
    have hx := evOper_mono ho hy
    simp only [Option.bind_some] at h
    split at h
    ·rename_i hc
     simp only [Bool.and_eq_true, Bool.or_eq_true] at hc
     have h1 : s1.h = s.h := hc.1.elim (fun p => quiet_h hx p) (fun p => eqHp_eq _ _ p)
     have hb1 := evOper_b hx
     subst hh; subst hb
     have hx' : evOper pg.toCx (evF pg) o ⟨s.e, s.h, s.b⟩ = some ⟨s1.e, s.h, s.b⟩ := by rw [show (⟨s.e, s.h, s.b⟩ : St) = s from rfl, hx, ← h1, ← hb1]
     have h2 : (∃ t, od.dst = some t ∧ t ∈ o.names) ∨ evOper pg.toCx (evF pg) o ⟨s.e, s0.h, s.b⟩ = some ⟨s1.e, s0.h, s.b⟩ := hc.2.imp namedB_t (fun p => evOper_mono ho (same_eq hy p))
     obtain ⟨e2, B2, h3⟩ := cBh_ok (m := m) (r := r) (pre := pre ++ [o]) (B.snoc hx' h2) h1 hb1 (by simpa using hm) h
     refine ⟨e2, ?_, ?_⟩
     ·rw [List.take_succ_cons]; rw [List.append_assoc] at B2; exact B2
     ·rw [List.append_assoc] at h3; exact h3
    ·cases h
structure GoI (pg : Pg) (s0 : St) (pre : List VOper) (acc : List (VOper × St × St)) (s : St) : Prop where
 h : s.h = s0.h
 b : s.b = s0.b
 draw : ∀ n r, evDraw pg.toCx (evF pg) (pre.length + n) (pre ++ r) s0 = evDraw pg.toCx (evF pg) n r s
 ahd : Ahd (pg := pg) s0.b s0 pre s.e (fun H1 P => P ∧ ∀ p ∈ acc, evOper pg.toCx (evF pg) p.1 ⟨p.2.1.e, H1, s0.b⟩ = some ⟨p.2.2.e, H1, s0.b⟩)
theorem accB_ok {H1 : Hp} {b : Nat} : ∀ {acc : List (VOper × St × St)}, (∀ p ∈ acc, evOper pg.toCx orc p.1 p.2.1 = some p.2.2 ∧ p.2.1.b = b) → accB pg.toCx orc H1 b acc = true → ∀ p ∈ acc, evOper pg.toCx (evF pg) p.1 ⟨p.2.1.e, H1, b⟩ = some ⟨p.2.2.e, H1, b⟩
 | [], _, _, p, hp => by cases hp
 | (o, s, q) :: r, ha, h, p, hp => by
   simp only [accB, Bool.and_eq_true] at h
   rcases List.mem_cons.1 hp with rfl | hp
   ·obtain ⟨h1, h2⟩ := ha _ (List.mem_cons_self ..)
    simp only at h1 h2 ⊢
    subst h2
    exact evOper_mono ho (same_eq h1 h.1)
   ·exact accB_ok (fun p hp => ha p (List.mem_cons_of_mem _ hp)) h.2 p hp
theorem cGo_ok {s0 : St} : ∀ {m : Nat} {r pre : List VOper} {acc} {s q : St}, GoI pg s0 pre acc s → (∀ p ∈ acc, evOper pg.toCx orc p.1 p.2.1 = some p.2.2 ∧ p.2.1.b = s0.b) → cGo pg.toCx orc acc m r s = some q → evDrw pg.toCx (evF pg) (pre.length + m) (pre ++ r) s0 = some q
 | 0, [], pre, acc, s, q, I, _, h => evDrw_of (by rw [I.draw]; first | exact h | exact evOps_mono ho h)
 | _ + 1, [], pre, acc, s, q, I, _, h => evDrw_of (by rw [I.draw]; first | exact h | exact evOps_mono ho h)
 | 0, _ :: _, pre, acc, s, q, I, _, h => evDrw_of (by rw [I.draw]; first | exact h | exact evOps_mono ho h)
 | m + 1, o :: r, pre, acc, s, q, I, ha, h => by
   simp only [cGo] at h
   cases hy : evOper pg.toCx orc o s with
   | none => rw [hy] at h; cases h
   | some s1 =>
    rw [hy] at h
    have hx := evOper_mono ho hy
    simp only [Option.bind_some] at h
    have hb1 := evOper_b hx
    split at h
    ·rename_i hq
     have h1 : s1.h = s.h := by
      rcases (Bool.or_eq_true _ _).mp hq with p | p
      ·exact quiet_h hx p
      ·exact eqHp_eq _ _ p
     split at h
     ·rename_i hd
      have hx' : evOper pg.toCx (evF pg) o ⟨s.e, s0.h, s0.b⟩ = some ⟨s1.e, s0.h, s0.b⟩ := by rw [← I.h, ← I.b, show (⟨s.e, s.h, s.b⟩ : St) = s from rfl, hx, ← h1, ← hb1]
      have J : GoI pg s0 (pre ++ [o]) ((o, s, s1) :: acc) s1 := by
       refine ⟨h1.trans I.h, hb1.trans I.b, fun n r => ?_, I.ahd.snocG hx' fun H1 P hc => ⟨hc.2 _ (List.mem_cons_self ..), hc.1, fun p hp => hc.2 p (List.mem_cons_of_mem _ hp)⟩⟩
       have := I.draw (n + 1) (o :: r)
       rw [List.length_append, List.length_singleton, List.append_assoc, show pre.length + 1 + n = pre.length + (n + 1) by omega]
       refine this.trans ?_
       simp only [evDraw, hx, Option.bind_some]
       rw [if_pos (by rw [h1, grew_self, hd]; rfl)]
      have := cGo_ok (m := m) (r := r) J (fun p hp => by
        rcases List.mem_cons.1 hp with rfl | hp
        ·exact ⟨hy, I.b⟩
        ·exact ha p hp) h
      rw [List.length_append, List.length_singleton, List.append_assoc, show pre.length + 1 + m = pre.length + (m + 1) by omega] at this
      exact this
     ·cases h
    ·split at h
     ·rename_i hg
      simp only [Bool.and_eq_true] at hg
      refine evDrw_of ?_
      rw [I.draw]
      simp only [evDraw, hx, Option.bind_some]
      rw [if_pos (by rw [grewB_t hg.1, hg.2]; rfl)]
      exact evDraw_mono ho (cDraw_ok h)
     ·have hrun := I.ahd.run
      have es : (⟨s.e, s0.h, s0.b⟩ : St) = s := by rw [← I.h, ← I.b]
      rw [es] at hrun
      have hpre := evOps_snoc hrun hx
      split at h
      ·rename_i q' hq'
       cases h
       split at hq'
       ·rename_i hc
        simp only [Bool.and_eq_true] at hc
        have hm := Nat.le_of_ble_eq_true hc.1
        have hchk := accB_ok ho ha (by rw [← I.b]; exact hc.2)
        have B0 : Bhd (pg := pg) s0.b s0 pre.length o s1.h (pre ++ [o]) s1.e := by
         refine ⟨by rw [hpre, ← I.b, ← hb1], by simp, fun i q h1 h2 hq => ?_, fun i p q q' h1 hp => ?_⟩
         ·simp only [List.length_append, List.length_singleton] at h2
          have : i = pre.length + 1 := by omega
          rw [this, List.take_of_length_le (by simp), hpre] at hq
          cases hq; rfl
         ·have := (List.getElem?_eq_some_iff.1 hp).1
          simp only [List.length_append, List.length_singleton] at this
          omega
        rw [I.h] at hq'
        obtain ⟨e2, B, hops⟩ := cBh_ok ho B0 rfl (hb1.trans I.b) hm hq'
        rw [List.append_assoc] at hops B
        have htk : (pre ++ o :: r).take (pre.length + (m + 1)) = pre ++ ([o] ++ r.take m) := by
         rw [List.take_append, List.take_of_length_le (by omega), Nat.add_sub_cancel_left]; rfl
        refine evDrw_iff.2 ⟨hops, .inr ?_⟩
        refine dirty_of (d := pre.length) (od := o) (e1 := s.e) (e2 := e2) (H1 := s1.h) (P := True) (chk := fun H1 P => P ∧ ∀ p ∈ acc, evOper pg.toCx (evF pg) p.1 ⟨p.2.1.e, H1, s0.b⟩ = some ⟨p.2.2.e, H1, s0.b⟩) rfl (by simp; omega) (by rw [List.getElem?_append_right (Nat.le_refl _), Nat.sub_self]; rfl) ?_ ⟨trivial, hchk⟩ (by omega) ?_ hops
        ·rw [List.take_left]; exact I.ahd
        ·rw [htk]; exact B
       ·cases hq'
      ·split at h
       ·rename_i hm1
        subst hm1
        unfold cZ at h
        split at h
        ·cases h
        ·rename_i z r' _
         split at h
         ·rename_i s2 s3 y2 y3
          split at h
          ·rename_i s4 y4
           split at h
           ·rename_i hc
            simp only [Bool.and_eq_true, Bool.or_eq_true, Option.isNone_iff_eq_none] at hc
            obtain ⟨d1, d2, d3, d4, d5, d6⟩ := hc
            have hd : ∀ {p : VOper} {a b c : Env} {x y : V}, a = putE p.dst x c → b = putE p.dst y c → (p.dst = none ∨ eqV (hdE a) (hdE b) = true) → a = b := by
             intro p a b c x y h1 h2 h3
             cases hp : p.dst with
             | none => rw [h1, h2, hp]; rfl
             | some d =>
              rw [hp] at h1 h2 h3
              rcases h3 with h3 | h3
              ·cases h3
              ·subst h1; subst h2
               have := eqV_eq _ _ h3
               simp only [putE, hdE] at this
               rw [this]
            have x2 := evOper_mono ho y2
            have x3 := evOper_mono ho y3
            have x4 := evOper_mono ho y4
            obtain ⟨v1, w1⟩ := evOper_e hx
            obtain ⟨v2, w2⟩ := evOper_e x2
            obtain ⟨v3, w3⟩ := evOper_e x3
            obtain ⟨v4, w4⟩ := evOper_e x4
            have q3 : s3.e = s2.e := hd w3 w2 d1
            have q4 : s4.e = s1.e := hd w4 w1 d2
            have q5 := eqHp_eq _ _ d3
            have b2 := evOper_b x2
            have b3 := evOper_b x3
            have b4 := evOper_b x4
            simp only at b3 b4
            have c1 := accB_ok ho (b := s.b) (acc := acc) (by rw [I.b]; exact ha) d4
            have c2 := accB_ok ho (b := s.b) (acc := acc) (by rw [I.b]; exact ha) d5
            have c3 := accB_ok ho (b := s.b) (acc := acc) (by rw [I.b]; exact ha) d6
            have hops : evOps pg.toCx (evF pg) (pre ++ o :: z :: r') s0 = some q := by
             have h3 := evOps_snoc hpre x2
             rw [List.append_assoc] at h3
             rw [show pre ++ o :: z :: r' = (pre ++ ([o] ++ [z])) ++ r' by simp, evOps_app, h3]
             exact evOps_mono ho h
            have eb : s0.b = s.b := I.b.symm
            refine evDrw_iff.2 ⟨hops, .inr ?_⟩
            refine dirtyZ_of (b := s0.b) (d := pre.length) (od := o) (oz := z) (e := s0.e) (H := s0.h) (H10 := s1.h) (H01 := s3.h) (H5 := s2.h) (e1 := s.e) (e4 := s2.e) (e5 := s1.e) (chk := fun H1 P => P ∧ ∀ p ∈ acc, evOper pg.toCx (evF pg) p.1 ⟨p.2.1.e, H1, s0.b⟩ = some ⟨p.2.2.e, H1, s0.b⟩) (by simp) (by rw [List.getElem?_append_right (Nat.le_refl _), Nat.sub_self]; rfl) (by rw [List.getElem?_append_right (by omega), Nat.add_sub_cancel_left]; rfl) (by rw [List.take_left]; exact I.ahd) ?_ ?_ ?_ ?_ ⟨trivial, by rw [eb]; exact c1⟩ ⟨trivial, by rw [eb]; exact c2⟩ ⟨trivial, by rw [eb]; exact c3⟩ hops
            ·rw [es, hx, eb, ← hb1]
            ·rw [eb, ← hb1, x2, ← b2]
            ·rw [eb, ← I.h, x3, ← q3, ← b3]
            ·rw [eb, x4, ← q4, ← q5, ← b4]
           ·cases h
          ·cases h
         ·cases h
       ·cases h
theorem cGo_drw {m : Nat} {ops : List VOper} {s q : St} (h : cGo pg.toCx orc [] m ops s = some q) : evDrw pg.toCx (evF pg) m ops s = some q := by
 have := cGo_ok ho (pre := []) (s0 := s) (acc := []) ⟨rfl, rfl, fun n r => by rw [List.length_nil, Nat.zero_add]; rfl, ⟨rfl, fun i q _ hq => by simp only [List.take_nil, evOps, Option.some.injEq] at hq; rw [← hq], fun H1 P hP => ⟨hP.1, fun i o q q' ho => by simp at ho⟩⟩⟩ (fun p hp => by cases hp) h
 rwa [List.length_nil, Nat.zero_add] at this
end
def cC (cx : Cx) (orc : Orc) (lp : Lp) : VCode → St → Option (Ex × St)
 | .skip, s => some (.nrm, s)
 | .reg ops, s => (evOps cx orc ops s).map fun s => (.nrm, s)
 | .draw m ops, s => (cGo cx orc [] m ops s).map fun s => (.nrm, s)
 | .seq a b, s => sq (cC cx orc lp a s) fun s' => cC cx orc lp b s'
 | .cond c a b, s => match evO cx s.e c with
   | .d (.bool true) => cC cx orc lp a s
   | .d (.bool false) => cC cx orc lp b s
   | _ => none
 | .block id b, s => match cC cx orc lp b s with
   | some (.exit i, s') => if i = id then some (.nrm, s') else some (.exit i, s')
   | r => r
 | .scope b, s => cC cx orc lp b s
 | .loop ks b, s => match cC cx orc lp b ⟨keepE ks s.e, s.h, s.h.length⟩ with
   | some (.nrm, s') => lp ks b ⟨cut s.h.length (keepE ks s'.e), s'.h.take s.h.length, s.b⟩
   | some (x, s') => some (x, ⟨s'.e, s'.h, s.b⟩)
   | none => none
 | .exit i, s => some (.exit i, s)
 | .ret, s => some (.ret, s)
 | .newrow sz t, s => match getE s.e t with
   | .nils => if 0 < sz then some (.nrm, ⟨(t, .row s.h.length 0) :: s.e, s.h ++ [.row sz []], s.b⟩) else none
   | _ => none
 | .bindrow sz t off, s => match getE s.e t with
   | .ptr id o => match s.h[id]? with
     | some (.box c) => match c[o + off]? with
       | some .nils => if s.b ≤ id ∧ 0 < sz then some (.nrm, ⟨s.e, s.h.set id (.box (c.set (o + off) (.row s.h.length 0))) ++ [.row sz []], s.b⟩) else none
       | _ => none
     | _ => none
   | _ => none
 | .mkrow sz, s => if 0 < sz then some (.nrm, ⟨s.e, s.h ++ [.row sz []], s.b⟩) else none
 | .bindto t off k, s => match getE s.e t with
   | .ptr id o => match s.h[id]? with
     | some (.box c) => match c[o + off]?, s.h[id - k]? with
       | some .nils, some (.row _ []) => if 0 < k ∧ k ≤ id ∧ s.b ≤ id - k then some (.nrm, ⟨s.e, s.h.set id (.box (c.set (o + off) (.row (id - k) 0))), s.b⟩) else none
       | _, _ => none
     | _ => none
   | _ => none
 | .freeze t, s => match getE s.e t with
   | .arr id _ _ => match s.h[id]? with
     | some (.box c) => match allD c with
       | some ds => some (.nrm, ⟨s.e, s.h.set id (.frz ds), s.b⟩)
       | none => none
     | _ => none
   | .row id len => match s.h[id]? with
     | some (.row _ l) => if l.length = len then some (.nrm, ⟨(t, .d (.sl l)) :: s.e, s.h, s.b⟩) else none
     | _ => none
   | _ => none
theorem cC_ok {pg : Pg} {orc : Orc} {lp : Lp} (ho : OLe orc (evF pg)) (hl : LLe lp (evL pg)) : ∀ {c : VCode} {s : St} {r : Ex × St}, cC pg.toCx orc lp c s = some r → evC pg.toCx (evF pg) (evL pg) c s = some r := by
 intro c
 induction c with
 | reg ops =>
  intro s r h; simp only [cC] at h; simp only [evC]
  cases hx : evOps pg.toCx orc ops s with
  | none => rw [hx] at h; cases h
  | some q => rw [hx] at h; rw [evOps_mono ho hx]; exact h
 | draw m ops =>
  intro s r h; simp only [cC] at h; simp only [evC]
  cases hx : cGo pg.toCx orc [] m ops s with
  | none => rw [hx] at h; cases h
  | some q => rw [hx] at h; rw [cGo_drw ho hx]; exact h
 | seq a b iha ihb =>
  intro s r h; simp only [cC] at h; simp only [evC]
  cases hx : cC pg.toCx orc lp a s with
  | none => rw [hx] at h; cases h
  | some q =>
   obtain ⟨x, s'⟩ := q
   rw [hx] at h; rw [iha hx]
   cases x <;> first | exact ihb h | exact h
 | cond c a b iha ihb =>
  intro s r h; simp only [cC] at h; simp only [evC]
  split at h
  ·rename_i hc; rw [hc]; exact iha h
  ·rename_i hc; rw [hc]; exact ihb h
  ·cases h
 | block id b ih =>
  intro s r h; simp only [cC] at h; simp only [evC]
  cases hx : cC pg.toCx orc lp b s with
  | none => rw [hx] at h; cases h
  | some q => rw [hx] at h; rw [ih hx]; exact h
 | scope b ih => intro s r h; simp only [cC] at h; simp only [evC]; exact ih h
 | loop k b ih =>
  intro s r h; simp only [cC] at h; simp only [evC]
  cases hx : cC pg.toCx orc lp b ⟨keepE k s.e, s.h, s.h.length⟩ with
  | none => rw [hx] at h; cases h
  | some q =>
   obtain ⟨x, s'⟩ := q
   rw [hx] at h; rw [ih hx]
   cases x <;> simp only at h ⊢ <;> first | exact hl _ _ _ _ h | exact h
 | _ => intro s r h; exact h
def cF (pg : Pg) (kn orc : Orc) (lp : Lp) (f : Nat) (args : List V) (h : Hp) : Option (V × Hp) :=
 match kn f args h with
 | some r => some r
 | none => match pg.tbl f with
   | some (.code vf) => if args.length = vf.np then
       bare (undL 0 args && !vf.keep) h fun h => match cC pg.toCx orc lp vf.body ⟨enterE args, h, h.length⟩ with
       | some (.nrm, s) | some (.ret, s) => leave vf h.length s
       | _ => none
     else none
   | some (.prim F) => F args h
   | none => none
def cAt (pg : Pg) (kn : Orc) : Nat → Orc × Lp
 | 0 => (fun _ _ _ => none, fun _ _ _ => none)
 | n + 1 => (cF pg kn (cAt pg kn n).1 (cAt pg kn n).2, fun ks b s => cC pg.toCx (cAt pg kn n).1 (cAt pg kn n).2 (.loop ks b) s)
theorem cAt_ok {pg : Pg} {kn : Orc} (hk : OLe kn (evF pg)) : ∀ n, OLe (cAt pg kn n).1 (evF pg) ∧ LLe (cAt pg kn n).2 (evL pg)
 | 0 => ⟨fun _ _ _ _ h => by simp [cAt] at h, fun _ _ _ _ h => by simp [cAt] at h⟩
 | n + 1 => by
   obtain ⟨h1, h2⟩ := cAt_ok hk n
   refine ⟨fun f a h r hr => ?_, fun k b s r hr => ?_⟩
   ·change cF pg kn (cAt pg kn n).1 (cAt pg kn n).2 f a h = some r at hr
    unfold cF at hr
    split at hr
    ·rename_i q hq; cases hr; exact hk _ _ _ _ hq
    ·split at hr
     ·rename_i vf ht
      rw [evF_code ht]
      split at hr
      ·rename_i hn
       rw [if_pos hn]
       refine bare_le (fun h r hr => ?_) hr
       unfold bodyF
       cases hx : cC pg.toCx (cAt pg kn n).1 (cAt pg kn n).2 vf.body ⟨enterE a, h, h.length⟩ with
       | none => rw [hx] at hr; cases hr
       | some q =>
        rw [hx] at hr
        have e1 : ev pg vf.body ⟨enterE a, h, h.length⟩ = some q := cC_ok h1 h2 hx
        rw [e1]; exact hr
      ·cases hr
     ·rename_i F ht; rw [evF_prim ht]; exact hr
     ·cases hr
   ·rw [evL_eq]
    exact cC_ok h1 h2 hr
theorem evF_comp {pg : Pg} {kn : Orc} (hk : OLe kn (evF pg)) (n : Nat) {f : Nat} {a : List V} {h : Hp} {r : V × Hp} (e : (cAt pg kn n).1 f a h = some r) : evF pg f a h = some r := (cAt_ok hk n).1 _ _ _ _ e
end Go.Vm
namespace Go.Vm.Ite
open Go.Vm.Ip
set_option maxRecDepth 100000
set_option linter.unusedVariables false
def sA : S := [83]
def jA : Its := ⟨[⟨sA, [⟨[97], [105, 54, 52]⟩, ⟨[98], [66, 111, 120, 60, 83, 62]⟩]⟩], [], [⟨[109, 97, 105, 110], [], [], [40, 41], 8⟩]⟩
def jB : Its := ⟨[⟨sA, [⟨[97], sA⟩]⟩], [], [⟨[109, 97, 105, 110], [], [], [40, 41], 5⟩]⟩
theorem jA_gets {y : S} (h : Gets jA sA y) : y = [105, 54, 52] ∨ y = [66, 111, 120, 60, 83, 62] := by
 have hh : (heldM jA sA).1 = [[105, 54, 52], [66, 111, 120, 60, 83, 62]] := by decide
 induction h with
 | one h => rw [hh] at h; simpa using h
 | step _ h ih =>
  rcases ih with e | e
  ·rw [e, show (heldM jA [105, 54, 52]).1 = [] by decide] at h; cases h
  ·rw [e, show (heldM jA [66, 111, 120, 60, 83, 62]).1 = [] by decide] at h; cases h
theorem endJA : endB jA sA = false := endB_f fun h => by
  rcases jA_gets h with e | e
  ·exact absurd e (by decide)
  ·exact absurd e (by decide)
theorem endJB : endB jB sA = true := endB_t (.one (by decide))
theorem fineJA : Fine jA := ⟨by decide, by decide, by decide, by decide, by decide, by decide⟩
theorem fineJB : Fine jB := ⟨by decide, by decide, by decide, by decide, by decide, by decide⟩
theorem smallJA : Small jA := ⟨by decide, by decide, by decide, by decide⟩
theorem smallJB : Small jB := ⟨by decide, by decide, by decide, by decide⟩
def mapB (h : Hp) (a : Nat) (l : List (D × D)) : Bool := match h[a]? with | some (.map m) => eqPs m l | _ => false
theorem mapB_t {h : Hp} {a : Nat} {l : List (D × D)} (x : mapB h a l = true) : h[a]? = some (.map l) := by
 unfold mapB at x
 split at x
 ·rename_i m e; rw [e, eqPs_eq _ _ x]
 ·cases x
def finB (x : Its) (p : Nat) (h : Hp) : Bool := match h[p]? with
 | some (.box [.mp a, .mp b, .mp c]) => mapB h a (finM (nS x)) && (mapB h b (finM (nE x)) && (mapB h c (finM (nF x)) && (decide (a ≠ b) && (decide (a ≠ c) && decide (b ≠ c)))))
 | _ => false
theorem finB_t {x : Its} {p : Nat} {h : Hp} (e : finB x p h = true) : FinAt x p h := by
 unfold finB at e
 split at e
 ·rename_i a b c hp
  simp only [Bool.and_eq_true, decide_eq_true_eq] at e
  obtain ⟨h1, h2, h3, h4, h5, h6⟩ := e
  exact ⟨a, b, c, hp, mapB_t h1, mapB_t h2, mapB_t h3, h4, h5, h6⟩
 ·cases e
def endK : Orc := fun f args h => if f = 55 then match args with
  | [.d d, .ptr p 0, .d (.str s)] => if s = sA then (if eqD d jA.D && finB jA p h then some (boo false, h) else if eqD d jB.D && finB jB p h then some (boo true, h) else none) else none
  | _ => none else none
section
variable {fx : Nat → Option Obj}
theorem endK_ok : OLe endK (evF (pgL fx FT)) := by
 intro f a h r e
 unfold endK at e
 split at e
 ·rename_i hf
  subst hf
  split at e
  ·split at e
   ·rename_i hs
    subst hs
    split at e
    ·rename_i hc
     simp only [Bool.and_eq_true] at hc
     cases e
     rw [eqD_eq _ _ hc.1, ← endJA]
     exact end3_ev fineJA smallJA (finB_t hc.2) _
    ·split at e
     ·rename_i hc
      simp only [Bool.and_eq_true] at hc
      cases e
      rw [eqD_eq _ _ hc.1, ← endJB]
      exact end3_ev fineJB smallJB (finB_t hc.2) _
     ·cases e
   ·cases e
  ·cases e
 ·cases e
theorem speakC : (cAt (pgL fx FT) endK 300).1 n_law14_speaks [] [] = some (boo true, []) := by kernel_rfl
theorem speaksC_ev (H : Hp) : evF (pgL fx FT) n_law14_speaks [] H = some (boo true, H) := by
 have h0 := evF_comp (endK_ok (fx := fx)) 300 (speakC (fx := fx))
 rw [evF_code (t_law14_speaks (F := FT)), if_pos (show ([] : List V).length = F8.np from rfl)] at h0 ⊢
 have hb : (undL 0 ([] : List V) && !F8.keep) = true := rfl
 rw [hb] at h0 ⊢
 simp only [bare, Option.map_eq_some_iff, Prod.mk.injEq] at h0 ⊢
 obtain ⟨q, h1, h2, _⟩ := h0
 exact ⟨q, h1, h2, trivial⟩
end
end Go.Vm.Ite

namespace Go.Proofs
open Go.Shelf
def Tryz.lays137_ren : Go.Shelf.Ren := ⟨fun | 137 => 151 | 217 => 162 | 266 => 174 | n => n, fun | 9 => 9 | 5 => 5 | 3 => 3 | n => n, fun | n => n⟩
theorem Tryz.lays137 : Go.Proofs.Lays.n137 Tryz.prog Tryz.lays137_ren := {
  mixed := by kernel_rfl
  f137 := Tryz.func151.trans (congrArg some (by kernel_rfl))
  f217 := Tryz.func162.trans (congrArg some (by kernel_rfl))
  f266 := Tryz.func174.trans (congrArg some (by kernel_rfl))
  t3 := Tryz.underlying3
  a3 := Tryz.isAgg3
  z3 := Tryz.sizeOf3
  v3 := Tryz.zeroValue3
  t5 := Tryz.underlying5
  a5 := Tryz.isAgg5
  z5 := Tryz.sizeOf5
  v5 := Tryz.zeroValue5
  t9 := Tryz.underlying9
  a9 := Tryz.isAgg9
  z9 := Tryz.sizeOf9
  v9 := Tryz.zeroValue9 }
open Go.RowKit in
theorem Tryz.strings_IndexByte (s : ByteArray) (c : Int) (w : World) :
 Calls Tryz.prog 151 #[.string s, .int .u8 c] w fun e w' => e = .returned (.int .i64 (Lib.indexByte s.data.toList c.toNat.toUInt8)) ∧ w' = w := Any.strings_IndexByte Tryz.lays137 s c w
def Tryz.lays145_ren : Go.Shelf.Ren := ⟨fun | 145 => 148 | 220 => 161 | 219 => 173 | 217 => 162 | 225 => 179 | 224 => 180 | 267 => 181 | 266 => 174 | 314 => 186 | n => n, fun | 9 => 9 | 4 => 4 | 59 => 172 | 3 => 3 | 5 => 5 | 46 => 188 | 146 => 191 | 51 => 190 | n => n, fun | 1 => 0 | n => n⟩
theorem Tryz.lays145 : Go.Proofs.Lays.n145 Tryz.prog Tryz.lays145_ren := {
  mixed := by kernel_rfl
  f145 := Tryz.func148.trans (congrArg some (by kernel_rfl))
  f217 := Tryz.func162.trans (congrArg some (by kernel_rfl))
  f219 := Tryz.func173.trans (congrArg some (by kernel_rfl))
  f220 := Tryz.func161.trans (congrArg some (by kernel_rfl))
  f224 := Tryz.func180.trans (congrArg some (by kernel_rfl))
  f225 := Tryz.func179.trans (congrArg some (by kernel_rfl))
  f266 := Tryz.func174.trans (congrArg some (by kernel_rfl))
  f267 := Tryz.func181.trans (congrArg some (by kernel_rfl))
  f314 := Tryz.func186.trans (congrArg some (by kernel_rfl))
  t3 := Tryz.underlying3
  a3 := Tryz.isAgg3
  z3 := Tryz.sizeOf3
  v3 := Tryz.zeroValue3
  t4 := Tryz.underlying4
  a4 := Tryz.isAgg4
  z4 := Tryz.sizeOf4
  v4 := Tryz.zeroValue4
  t5 := Tryz.underlying5
  a5 := Tryz.isAgg5
  z5 := Tryz.sizeOf5
  v5 := Tryz.zeroValue5
  t9 := Tryz.underlying9
  a9 := Tryz.isAgg9
  z9 := Tryz.sizeOf9
  v9 := Tryz.zeroValue9
  t46 := Tryz.underlying188
  a46 := Tryz.isAgg188
  z46 := Tryz.sizeOf188
  v46 := Tryz.zeroValue188
  t51 := Tryz.underlying190
  a51 := Tryz.isAgg190
  z51 := Tryz.sizeOf190
  v51 := Tryz.zeroValue190
  t59 := Tryz.underlying172
  a59 := Tryz.isAgg172
  z59 := Tryz.sizeOf172
  v59 := Tryz.zeroValue172
  t146 := Tryz.underlying191
  a146 := Tryz.isAgg191
  z146 := Tryz.sizeOf191
  v146 := Tryz.zeroValue191
  g1 := by kernel_rfl }
open Go.RowKit Go.Lib in
theorem Tryz.strings_Cut (s sep : ByteArray) (m : Int) (w : World) (hs : s.size < 4294967281) (hm : w.cell? ⟨0, 0, none⟩ = some (.int .i64 m)) :
 Calls Tryz.prog 148 #[.string s, .string sep] w fun e w' => e = .returned (.tuple #[.string ⟨(Lib.cut s.data.toList sep.data.toList).1.toArray⟩, .string ⟨(Lib.cut s.data.toList sep.data.toList).2.1.toArray⟩, .bool (Lib.cut s.data.toList sep.data.toList).2.2]) ∧ ∃ n, w' = w.drewN n := Any.strings_Cut Tryz.lays145 s sep m w hs hm
end Go.Proofs
namespace Go.Proofs.YtocpgkeiakjicaaGreat
open Go Go.Vm Go.ChangeShapes Go.WideShapes Go.ChangeAt Go.RowKit Go.Vm.Ip
set_option maxRecDepth 100000
theorem own : ownKnob Tryz.prog.godebug = none := by kernel_rfl
theorem laidOut : laidOutB Tryz.prog = true := by kernel_rfl
theorem mixed : Tryz.prog.follows .mixedOrders = true := by kernel_rfl
noncomputable def pgW (W : World) : Pg := ⟨⟨gvOf [], fixOf W [0]⟩, Go.Vm.Ite.tbl Go.Vm.Ite.FT⟩
theorem pg_eq (W : World) : pgW W = Go.Vm.Ite.pgL (fixOf W [0]) Go.Vm.Ite.FT := rfl
theorem code (f : Nat) {fn : Func} (h : Tryz.prog.funcs[f]? = some fn) (h1 : fn.body.isNone = false) (h2 : (fn.name == "runtime.NumGoroutine") = false) : IsCode Tryz.prog f := ⟨fn, h, h1, h2⟩
theorem max_cell {W : World} (h : W.ShapedOpen Tryz.prog) {g : Gh} {H : Hp} {w : World} (hI : Inv (pgW W).toCx g H w) : ∃ m : Int, w.cell? ⟨0, 0, none⟩ = some (.int .i64 m) := by
 obtain ⟨m, hm⟩ := (Go.Proofs.cell_of_shapedOpen_int (zero := #[.int .i64 0]) (t := 3) h (of_decide_eq_true (by kernel_rfl)) (by kernel_rfl) rfl (by kernel_rfl) (by kernel_rfl) Tryz.underlying3 : ∃ m : Int, W.cell? ⟨0, 0, none⟩ = some (.int .i64 m))
 have hm : W.cell? ⟨0, 0, none⟩ = some (.int .i64 m) := hm
 obtain ⟨o, ho⟩ : ∃ o, W.heap[0]? = some o := by
  cases hb : W.heap[0]? with
  | none => unfold World.cell? at hm; simp [hb] at hm
  | some o => exact ⟨o, rfl⟩
 have k := (hI.fix 0 o (by show fixOf W [0] 0 = _; unfold fixOf; rw [if_pos (by decide)]; exact ho)).1
 exact ⟨m, by rw [World.cell?_of_block (w := W) (a := ⟨0, 0, none⟩) (k.trans ho.symm)]; exact hm⟩
theorem tOk {W : World} (hs : W.ShapedOpen Tryz.prog) : TblOk Tryz.prog (pgW W) :=
 Go.Vm.Ite.tOk3 (fixOf W [0])
  (cut_spec (code 148 Tryz.func148 (by kernel_rfl) (by kernel_rfl)) (fun g H w hI => max_cell hs hI) fun s p w h1 hm => by obtain ⟨m, hm⟩ := hm; exact Tryz.strings_Cut s p m w h1 hm)
  (indexByte_spec (code 151 Tryz.func151 (by kernel_rfl) (by kernel_rfl)) Tryz.strings_IndexByte)
theorem globOk {W : World} : GlobOk (pgW W).toCx W := globOk_of _ (fixOf_ok W _) fun p hp => by cases hp
theorem flat_met {laid : List (String × DataW Unit)} {w : World} (h : (laid.filter fun x => x.2.handleName?.isSome) = []) (hm : laidMet Tryz.prog laid w) : laidMetH Tryz.prog laid w := by
  unfold laidMetH
  rw [h]
  exact hm
theorem door_met (os : Os) (args : Array Value) : laidMetH Tryz.prog [] ((World.laidAll Tryz.prog os []).forCall (fun _ _ => 0) ⟨#[], args, []⟩).memory :=
  flat_met (by kernel_rfl) (laidMet_laidAll _ (by kernel_rfl) (by kernel_rfl))
end Go.Proofs.YtocpgkeiakjicaaGreat
namespace Go.Vm.Tp
open Go.Vm.Lex
structure Nd where
 k : Int
 t : List UInt8
 v : Int
 kids : List Int
 f : Int
 e : Int
def Nd.D (x : Nd) : D := .agg [.int .i64 x.k, .str x.t, .int .i64 x.v, .sl (x.kids.map (D.int .i64)), .int .i64 x.f, .int .i64 x.e]
def treeD (t : List Nd) : D := .agg [.sl (t.map Nd.D)]
instance : Inhabited Nd := ⟨⟨0, [], 0, [], 0, 0⟩⟩
def I64 (n : Int) : Prop := -9223372036854775808 ≤ n ∧ n ≤ 9223372036854775807
structure Fine (t : List Nd) : Prop where
 len : t.length ≤ 1048576
 txt : ∀ x ∈ t, x.t.length ≤ 1048576
 kid : ∀ x ∈ t, x.kids.length ≤ 1048576
 ik : ∀ x ∈ t, ∀ k ∈ x.kids, I64 k
 iv : ∀ x ∈ t, I64 x.v
 ie : ∀ x ∈ t, I64 x.f ∧ I64 x.e
def isTy (k : Int) : Bool := decide (10 ≤ k) && decide (k ≤ 16)
def isSt (k : Int) : Bool := decide (21 ≤ k) && decide (k ≤ 27)
def isEx (k : Int) : Bool := decide (k = 20) || (decide (30 ≤ k) && decide (k ≤ 46) && !decide (k = 36))
def isPa (k : Int) : Bool := decide (50 ≤ k) && decide (k ≤ 54)
def lett (c : UInt8) (k : Int) : Bool :=
 if c = 105 then decide (k = 2 ∨ k = 3 ∨ k = 4)
 else if c = 116 then isTy k
 else if c = 115 then isSt k
 else if c = 101 then isEx k
 else if c = 112 then isPa k
 else if c = 98 then decide (k = 20)
 else if c = 102 then decide (k = 5)
 else if c = 118 then decide (k = 6)
 else if c = 110 then decide (k = 36)
 else if c = 97 then decide (k = 47)
 else if c = 113 then decide (k = 7)
 else if c = 111 then decide (k = 20 ∨ k = 45)
 else false
def shapeP (k v : Int) : List UInt8 × Option UInt8 × List UInt8 :=
 if k = 1 then ([], some 105, [])
 else if k = 2 then ([], some 113, [116, 98])
 else if k = 3 then ([], some 102, [])
 else if k = 4 then ([], some 118, [])
 else if k = 5 ∨ k = 7 ∨ k = 14 ∨ k = 15 ∨ k = 16 then ([116], none, [])
 else if k = 6 then ([63, 116], none, [])
 else if k = 20 then (if v = 1 then ([], some 115, [101]) else ([], some 115, []))
 else if k = 21 then ([63, 116, 101], none, [])
 else if k = 23 ∨ k = 38 then ([101, 101], none, [])
 else if k = 24 then ([101, 98], none, [])
 else if k = 25 ∨ k = 37 then ([63, 101], none, [])
 else if k = 34 then ([], some 101, [])
 else if k = 35 then ([], some 110, [])
 else if k = 22 ∨ k = 36 ∨ k = 41 ∨ k = 39 ∨ k = 40 ∨ k = 42 ∨ k = 44 ∨ k = 43 then ([101], none, [])
 else if k = 45 then ([101, 98, 63, 111], none, [])
 else if k = 46 then ([101], some 97, [])
 else if k = 47 then ([112, 101], none, [])
 else if k = 54 then ([63, 112], none, [])
 else ([], none, [])
def shapeOf : List UInt8 × Option UInt8 × List UInt8 → List UInt8
 | (a, none, _) => a
 | (a, some c, b) => a ++ 42 :: c :: b
def shapeL (k v : Int) : List UInt8 := shapeOf (shapeP k v)
def kidsB : List UInt8 → List Int → Bool
 | [], l => decide (l = [])
 | [c], l => match l with | [] => false | a :: r => lett c a && decide (r = [])
 | c :: d :: s, l => if c = 63 then (match l with | [] => false | a :: r => lett d a && kidsB s r) || kidsB s l else match l with | [] => false | a :: r => lett c a && kidsB (d :: s) r
def fitsB (k v : Int) (ks : List Int) : Bool := match shapeP k v with
 | (a, none, _) => kidsB a ks
 | (a, some c, b) => decide (a.length + b.length ≤ ks.length) && (kidsB a (ks.take a.length) && ((ks.take (ks.length - b.length)).drop a.length).all (lett c) && kidsB b (ks.drop (ks.length - b.length)))
def knownB (k : Int) : Bool := (decide (1 ≤ k) && decide (k ≤ 7)) || isTy k || isSt k || isPa k || isEx k || decide (k = 36) || decide (k = 47)
def signsL : List (List UInt8) := [[124, 124], [38, 38], [61, 61], [33, 61], [60], [62], [60, 61], [62, 61], [43], [45], [42], [47], [37]]
def cutT (s : List UInt8) : List UInt8 × List UInt8 × Bool := Lib.cut s [58, 58]
def nmB (k : Int) (t : List UInt8) : Bool :=
 if k = 2 ∨ k = 3 ∨ k = 4 ∨ k = 5 ∨ k = 6 ∨ k = 7 ∨ k = 13 ∨ k = 21 ∨ k = 33 ∨ k = 34 ∨ k = 35 ∨ k = 36 ∨ k = 41 ∨ k = 51 then nameB t
 else if k = 37 ∨ k = 54 then (cutT t).2.2 && nameB (cutT t).1 && nameB (cutT t).2.1
 else if k = 38 then decide (t ∈ signsL)
 else decide (t = [])
def numB (k v p : Int) : Bool :=
 if k = 2 then decide (v = p)
 else if k = 7 ∨ k = 20 ∨ k = 21 ∨ k = 31 ∨ k = 53 ∨ k = 43 then decide (v = 0) || decide (v = 1)
 else if k = 30 then decide (0 ≤ v)
 else if k = 52 then decide (-9223372036854775808 < v)
 else decide (v = 0)
def kindAt (t : List Nd) (i : Int) : Int := (t.getD i.toNat default).k
def kinds (t : List Nd) (l : List Int) : List Int := l.map (kindAt t)
def params (ks : List Int) : Int := (ks.filter fun k => decide (k = 7)).length
def nodeB (t : List Nd) (i : Nat) : Bool :=
 let x := t.getD i default
 x.kids.all (fun k => decide (0 ≤ k) && decide (k < i)) && (knownB x.k && nmB x.k x.t && numB x.k x.v (params (kinds t x.kids)) && decide (0 ≤ x.f) && decide (x.f ≤ x.e) && fitsB x.k x.v (kinds t x.kids))
end Go.Vm.Tp
namespace Go.Vm
variable {P : Program}
theorem hasT_int {m t : Nat} {k : IntKind} {x : D} (h : P.underlying t = some (.int k)) (hx : HasT P (m + 1) t x) : ∃ n, x = .int k n ∧ (Lit.int k n).wf = true := by
 unfold HasT at hx; rw [h] at hx; exact hx
theorem hasT_str {m t : Nat} {x : D} (h : P.underlying t = some .string) (hx : HasT P (m + 1) t x) : ∃ s, x = .str s ∧ s.length ≤ maxLen := by
 unfold HasT at hx; rw [h] at hx; exact hx
theorem hasT_slice {m t e : Nat} {x : D} (h : P.underlying t = some (.slice e)) (hx : HasT P (m + 1) t x) : ∃ l, x = .sl l ∧ l.length ≤ maxLen ∧ ∀ y ∈ l, HasT P m e y := by
 unfold HasT at hx; rw [h] at hx; exact hx
def fieldsOf (P : Program) (t : Nat) : Option (List Nat) := match P.underlying t with | some (.struct fs) => some (fs.toList.map (·.type)) | _ => none
def AllT (P : Program) (m : Nat) : List Nat → List D → Prop
 | [], [] => True
 | t :: ts, x :: xs => HasT P m t x ∧ AllT P m ts xs
 | _, _ => False
theorem allT_of {m : Nat} : ∀ (ts : List Field) (xs : List D), xs.length = ts.length → (∀ (i : Nat) (f : Field) (y : D), ts[i]? = some f → xs[i]? = some y → HasT P m f.type y) → AllT P m (ts.map (·.type)) xs
 | [], [], _, _ => trivial
 | [], _ :: _, h, _ => by simp at h
 | _ :: _, [], h, _ => by simp at h
 | t :: ts, x :: xs, h, hx => ⟨hx 0 t x rfl rfl, allT_of ts xs (by simpa using h) fun i f y h1 h2 => hx (i + 1) f y (by simpa using h1) (by simpa using h2)⟩
theorem hasT_struct {m t : Nat} {ts : List Nat} {x : D} (h : fieldsOf P t = some ts) (hx : HasT P (m + 1) t x) : ∃ xs : List D, x = .agg (xs.flatMap D.cells) ∧ AllT P m ts xs := by
 unfold fieldsOf at h
 unfold HasT at hx
 split at h
 ·rename_i fs hf
  rw [hf] at hx
  cases h
  obtain ⟨xs, h1, h2, h3⟩ := hx
  exact ⟨xs, h1, allT_of _ _ h2 h3⟩
 ·cases h
end Go.Vm
namespace Go.Vm.Tp
open Go
structure WN (x : Nd) : Prop where
 txt : x.t.length ≤ 9223372036854775807
 kid : x.kids.length ≤ 9223372036854775807
 ik : ∀ k ∈ x.kids, I64 k
 iv : I64 x.v
 ie : I64 x.f ∧ I64 x.e
theorem i64_of {n : Int} (h : (Lit.int .i64 n).wf = true) : I64 n := by
 have e1 : IntKind.i64.min = -9223372036854775808 := rfl
 have e2 : IntKind.i64.max = 9223372036854775807 := rfl
 simp only [Lit.wf, e1, e2] at h
 simp at h
 unfold I64
 omega
section
variable {P : Program}
theorem ints_of {m ti : Nat} (hi : P.underlying ti = some (.int .i64)) : ∀ l : List D, (∀ y ∈ l, HasT P (m + 1) ti y) → ∃ ks : List Int, l = ks.map (D.int .i64) ∧ ∀ k ∈ ks, I64 k
 | [], _ => ⟨[], rfl, by simp⟩
 | x :: r, h => by
   obtain ⟨n, rfl, w⟩ := hasT_int hi (h x (by simp))
   obtain ⟨ks, e, hk⟩ := ints_of hi r fun y hy => h y (by simp [hy])
   refine ⟨n :: ks, by rw [e]; rfl, fun k hm => ?_⟩
   rcases List.mem_cons.1 hm with rfl | hm
   ·exact i64_of w
   ·exact hk k hm
theorem node_of {m tN ti : Nat} (hf : (fieldsOf P tN).map (·.map P.underlying) = some [some (.int .i64), some .string, some (.int .i64), some (.slice ti), some (.int .i64), some (.int .i64)]) (hi : P.underlying ti = some (.int .i64)) {x : D} (h : HasT P (m + 3) tN x) : ∃ n : Nd, x = n.D ∧ WN n := by
 cases hfo : fieldsOf P tN with
 | none => rw [hfo] at hf; cases hf
 | some ts =>
  rw [hfo] at hf
  simp only [Option.map_some, Option.some.injEq] at hf
  obtain ⟨xs, hx, ha⟩ := hasT_struct hfo h
  have hl := congrArg List.length hf
  rw [List.length_map] at hl
  match ts, hl, hf with
  | [a, b, c, d, e, f], _, hf =>
   simp only [List.map_cons, List.map_nil, List.cons.injEq, and_true] at hf
   match xs, ha with
   | [x1, x2, x3, x4, x5, x6], ha =>
    obtain ⟨h1, h2, h3, h4, h5, h6, _⟩ := ha
    obtain ⟨n1, rfl, w1⟩ := hasT_int hf.1 h1
    obtain ⟨t, rfl, w2⟩ := hasT_str hf.2.1 h2
    obtain ⟨n3, rfl, w3⟩ := hasT_int hf.2.2.1 h3
    obtain ⟨l, rfl, w4, hl⟩ := hasT_slice hf.2.2.2.1 h4
    obtain ⟨n5, rfl, w5⟩ := hasT_int hf.2.2.2.2.1 h5
    obtain ⟨n6, rfl, w6⟩ := hasT_int hf.2.2.2.2.2 h6
    obtain ⟨ks, rfl, hk⟩ := ints_of hi l hl
    refine ⟨⟨n1, t, n3, ks, n5, n6⟩, hx, ⟨w2, by rw [List.length_map] at w4; exact w4, hk, i64_of w3, i64_of w5, i64_of w6⟩⟩
theorem nodes_of {m tN ti : Nat} (hf : (fieldsOf P tN).map (·.map P.underlying) = some [some (.int .i64), some .string, some (.int .i64), some (.slice ti), some (.int .i64), some (.int .i64)]) (hi : P.underlying ti = some (.int .i64)) : ∀ l : List D, (∀ y ∈ l, HasT P (m + 3) tN y) → ∃ t : List Nd, l = t.map Nd.D ∧ ∀ x ∈ t, WN x
 | [], _ => ⟨[], rfl, by simp⟩
 | x :: r, h => by
   obtain ⟨n, rfl, w⟩ := node_of hf hi (h x (by simp))
   obtain ⟨t, e, hk⟩ := nodes_of hf hi r fun y hy => h y (by simp [hy])
   refine ⟨n :: t, by rw [e]; rfl, fun k hm => ?_⟩
   rcases List.mem_cons.1 hm with rfl | hm
   ·exact w
   ·exact hk k hm
theorem tree_of {m tT tS tN ti : Nat} (ht : fieldsOf P tT = some [tS]) (hs : P.underlying tS = some (.slice tN)) (hf : (fieldsOf P tN).map (·.map P.underlying) = some [some (.int .i64), some .string, some (.int .i64), some (.slice ti), some (.int .i64), some (.int .i64)]) (hi : P.underlying ti = some (.int .i64)) {d : D} (h : HasT P (m + 5) tT d) : ∃ t : List Nd, d = treeD t ∧ t.length ≤ 9223372036854775807 ∧ ∀ x ∈ t, WN x := by
 obtain ⟨xs, hx, ha⟩ := hasT_struct ht h
 match xs, ha with
 | [x1], ha =>
  obtain ⟨h1, _⟩ := ha
  obtain ⟨l, rfl, w, hl⟩ := hasT_slice hs h1
  obtain ⟨t, rfl, hw⟩ := nodes_of hf hi l hl
  exact ⟨t, hx, by rw [List.length_map] at w; exact w, hw⟩
end
mutual
/-- How many values and letters a datum holds, at the least. -/
def bulkD : D → Nat
 | .str s => s.length + 1
 | .sl l => bulkDs l + 1
 | .agg l => bulkDs l + 1
 | _ => 1
def bulkDs : List D → Nat
 | [] => 0
 | x :: r => bulkD x + bulkDs r
end
theorem bulkDs_append : ∀ a b : List D, bulkDs (a ++ b) = bulkDs a + bulkDs b
 | [], b => by simp [bulkDs]
 | x :: a, b => by simp only [List.cons_append, bulkDs, bulkDs_append a b]; omega
theorem bulkD_pos (d : D) : 1 ≤ bulkD d := by cases d <;> simp [bulkD]
theorem bulkDs_cells (d : D) : bulkDs d.cells ≤ bulkD d := by
 cases d <;> simp [D.cells, bulkDs, bulkD]
theorem bulkDs_len : ∀ l : List D, l.length ≤ bulkDs l
 | [] => by simp
 | x :: r => by have := bulkD_pos x; have := bulkDs_len r; simp only [bulkDs, List.length_cons]; omega
theorem bulkDs_mem : ∀ {l : List D} {x : D}, x ∈ l → bulkD x ≤ bulkDs l
 | y :: r, x, h => by
   simp only [bulkDs]
   rcases List.mem_cons.1 h with rfl | h
   ·omega
   ·have := bulkDs_mem h; omega
theorem bulk_nd (x : Nd) : x.t.length ≤ bulkD x.D ∧ x.kids.length ≤ bulkD x.D := by
 have h := bulkDs_len (x.kids.map (D.int .i64))
 rw [List.length_map] at h
 simp only [Nd.D, bulkD, bulkDs]
 omega
theorem fine_of {t : List Nd} (hb : bulkD (treeD t) ≤ 1048576) (hw : ∀ x ∈ t, WN x) : Fine t := by
 have e : bulkD (treeD t) = bulkDs (t.map Nd.D) + 2 := by simp only [treeD, bulkD, bulkDs]
 rw [e] at hb
 have hl := bulkDs_len (t.map Nd.D)
 rw [List.length_map] at hl
 have key : ∀ x ∈ t, bulkD x.D ≤ 1048576 := fun x hx => by
   have := bulkDs_mem (List.mem_map_of_mem (f := Nd.D) hx); omega
 exact ⟨by omega, fun x hx => by have := (bulk_nd x).1; have := key x hx; omega, fun x hx => by have := (bulk_nd x).2; have := key x hx; omega, fun x hx => (hw x hx).ik, fun x hx => (hw x hx).iv, fun x hx => (hw x hx).ie⟩
end Go.Vm.Tp
namespace Go.Proofs.YtocpgkeiakjicaaGreat
open Go Go.Vm Go.ChangeShapes Go.WideShapes Go.ChangeAt Go.RowKit Go.Vm.Tp
set_option maxRecDepth 100000
theorem under3 : Tryz.prog.underlying 3 = some (.int .i64) := by kernel_rfl
theorem fieldsT : fieldsOf Tryz.prog 24 = some [22] := by kernel_rfl
theorem underS : Tryz.prog.underlying 22 = some (.slice 42) := by kernel_rfl
theorem fieldsN : (fieldsOf Tryz.prog 42).map (·.map Tryz.prog.underlying) = some [some (.int .i64), some .string, some (.int .i64), some (.slice 3), some (.int .i64), some (.int .i64)] := by kernel_rfl
theorem tree_arg {d : D} (h : HasT Tryz.prog 8 24 d) : ∃ t : List Nd, d = treeD t ∧ t.length ≤ 9223372036854775807 ∧ ∀ x ∈ t, WN x := tree_of (m := 3) fieldsT underS fieldsN under3 h
mutual
theorem dw_bulk {H : Type} : ∀ d : DataW H, bulkD (dwD d) ≤ Rows.uptoBulk d
 | .lit (.bool _) => by simp [dwD, bulkD, Rows.uptoBulk]
 | .lit (.int _ _) => by simp [dwD, bulkD, Rows.uptoBulk]
 | .lit (.string _) => by simp [dwD, bulkD, Rows.uptoBulk]
 | .lit (.float _ _) => by simp [dwD, bulkD, bulkDs, Rows.uptoBulk]
 | .lit .nil => by simp [dwD, bulkD, bulkDs, Rows.uptoBulk]
 | .agg l => by have := dws_bulk l; simp only [dwD, bulkD, Rows.uptoBulk]; omega
 | .slice l s => by have := dwl_bulk l; simp only [dwD, bulkD, Rows.uptoBulk]; omega
 | .nil => by simp [dwD, bulkD, bulkDs, Rows.uptoBulk]
 | .ptr _ => by simp [dwD, bulkD, bulkDs, Rows.uptoBulk]
 | .iface _ _ => by simp [dwD, bulkD, bulkDs, Rows.uptoBulk]
 | .map _ => by simp [dwD, bulkD, bulkDs, Rows.uptoBulk]
 | .held _ => by simp [dwD, bulkD, bulkDs, Rows.uptoBulk]
theorem dws_bulk {H : Type} : ∀ l : List (DataW H), bulkDs (dwCells l) ≤ Rows.uptoBulkAll l
 | [] => by simp [dwCells, bulkDs, Rows.uptoBulkAll]
 | x :: r => by
   have h1 := dw_bulk x
   have h2 := dws_bulk r
   have h3 := bulkDs_cells (dwD x)
   simp only [dwCells, Rows.uptoBulkAll, bulkDs_append]; omega
theorem dwl_bulk {H : Type} : ∀ l : List (DataW H), bulkDs (dwL l) ≤ Rows.uptoBulkAll l
 | [] => by simp [dwL, bulkDs, Rows.uptoBulkAll]
 | x :: r => by
   have h1 := dw_bulk x
   have h2 := dwl_bulk r
   simp only [dwL, Rows.uptoBulkAll, bulkDs]; omega
end
theorem bulk_bound {H : Type} {l : List (DataW H)} (hk : Rows.uptoSmall H l = true) : Rows.uptoBulkAll l ≤ 1048576 := of_decide_eq_true hk
theorem bulk_at {H : Type} {l : List (DataW H)} {d : DataW H} (hk : Rows.uptoSmall H l = true) (hd : d ∈ l) : bulkD (dwD d) ≤ 1048576 := by
 have h1 := bulk_bound hk
 have h2 := dw_bulk d
 have h3 : ∀ l : List (DataW H), d ∈ l → Rows.uptoBulk d ≤ Rows.uptoBulkAll l := by
  intro l
  induction l with
  | nil => intro h; cases h
  | cons x r ih =>
   intro h
   simp only [Rows.uptoBulkAll]
   rcases List.mem_cons.1 h with rfl | h
   ·omega
   ·have := ih h; omega
 have := h3 l hd
 omega
end Go.Proofs.YtocpgkeiakjicaaGreat
namespace Go.Vm.Tp
def upKids (i : Nat) : List Int → List Int → Option (List Int)
 | [], out => some out
 | k :: r, out => if 0 ≤ out.getD k.toNat 0 then none else upKids i r (out.set k.toNat i)
def upAll : Nat → List Nd → List Int → Option (List Int)
 | _, [], out => some out
 | i, x :: r, out => (upKids i x.kids out).bind (upAll (i + 1) r)
def ups (t : List Nd) : Option (List Int) := upAll 0 t (List.replicate t.length (-1))
def depGo (up : List Int) : Nat → List Int → List Int
 | 0, out => out
 | n + 1, out => depGo up n (if 0 ≤ up.getD n (-1) then out.set n (out.getD (up.getD n 0).toNat 0 + 1) else out)
def deps (up : List Int) : List Int := depGo up up.length (List.replicate up.length 0)
def maxL : List Int → Int
 | [] => 0
 | a :: r => r.foldl max a
def upOk (t : List Nd) : Bool := match ups t with
 | none => false
 | some up => (decide (up = []) || !up.dropLast.contains (-1)) && decide (maxL (deps up) ≤ 400)
def checkB (t : List Nd) : Bool := decide (1 ≤ t.length) && decide (t.length ≤ 20000) && decide ((t.getD (t.length - 1) default).k = 1) && (List.range t.length).all (nodeB t) && upOk t
def errT : Bool → Int
 | true => 0
 | false => 3
theorem upKids_len (i : Nat) : ∀ (ks out r : List Int), upKids i ks out = some r → r.length = out.length
 | [], out, r, h => by cases h; rfl
 | k :: ks, out, r, h => by
   simp only [upKids] at h
   split at h
   ·cases h
   ·rw [upKids_len i ks _ r h, List.length_set]
theorem upAll_len : ∀ (i : Nat) (t : List Nd) (out r : List Int), upAll i t out = some r → r.length = out.length
 | i, [], out, r, h => by cases h; rfl
 | i, x :: t, out, r, h => by
   simp only [upAll] at h
   obtain ⟨o, h1, h2⟩ := Option.bind_eq_some_iff.1 h
   rw [upAll_len (i + 1) t o r h2, upKids_len i _ _ _ h1]
theorem upKids_get (i : Nat) (P : Nat → Int → Prop) (hP : ∀ j, P j i) : ∀ (ks out r : List Int), upKids i ks out = some r → (∀ (j : Nat) (v : Int), out[j]? = some v → P j v) → ∀ (j : Nat) (v : Int), r[j]? = some v → P j v
 | [], out, r, h, h0 => by cases h; exact h0
 | k :: ks, out, r, h, h0 => by
   simp only [upKids] at h
   split at h
   ·cases h
   ·refine upKids_get i P hP ks _ r h fun j v hv => ?_
    rw [List.getElem?_set] at hv
    split at hv
    ·split at hv
     ·cases hv; exact hP j
     ·cases hv
    ·exact h0 j v hv
theorem upAll_rng (n : Nat) : ∀ (i : Nat) (t : List Nd) (out r : List Int), upAll i t out = some r → i + t.length ≤ n → (∀ (j : Nat) (v : Int), out[j]? = some v → -1 ≤ v ∧ v < n) → ∀ (j : Nat) (v : Int), r[j]? = some v → -1 ≤ v ∧ v < n
 | i, [], out, r, h, _, h0 => by cases h; exact h0
 | i, x :: t, out, r, h, hn, h0 => by
   simp only [upAll] at h
   obtain ⟨o, h1, h2⟩ := Option.bind_eq_some_iff.1 h
   simp only [List.length_cons] at hn
   exact upAll_rng n (i + 1) t o r h2 (by omega) (upKids_get i (fun _ v => -1 ≤ v ∧ v < n) (fun _ => by omega) _ _ _ h1 h0)
theorem ups_facts {t : List Nd} {up : List Int} (h : ups t = some up) : up.length = t.length ∧ ∀ (j : Nat) (v : Int), up[j]? = some v → -1 ≤ v ∧ v < t.length := by
 refine ⟨by rw [upAll_len _ _ _ _ h, List.length_replicate], upAll_rng t.length 0 t _ up h (by omega) fun j v hv => ?_⟩
 rw [List.getElem?_replicate] at hv
 split at hv
 ·cases hv; omega
 ·cases hv
theorem depGo_len (up : List Int) : ∀ (n : Nat) (out : List Int), (depGo up n out).length = out.length
 | 0, out => rfl
 | n + 1, out => by
   simp only [depGo]
   rw [depGo_len up n]
   split <;> simp
end Go.Vm.Tp
namespace Go.Vm.Tp
open Go.Vm.Lex
abbrev Toks := List (List UInt8)
abbrev kid (x : Nd) (i : Nat) : Int := x.kids.getD i 0
end Go.Vm.Tp

