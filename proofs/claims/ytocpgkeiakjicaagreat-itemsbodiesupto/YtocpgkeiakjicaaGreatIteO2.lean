import Derived.Test.YtocpgkeiakjicaaGreatTreP4
import Derived.Test.YtocpgkeiakjicaaGreatVmClone
import Derived.Test.YtocpgkeiakjicaaGreatIteK
import Derived.Test.YtocpgkeiakjicaaGreatIteW4
import Derived.Test.YtocpgkeiakjicaaGreatVmWp
import Derived.Lib.Bytealg
import Derived.Lib.IndexLaws
import Derived.Lib.ParseIntB
set_option linter.unusedSimpArgs false
set_option linter.unusedVariables false
namespace Go.Vm.Tp
open Go.Vm.Lex
theorem fn_parts {v : Int} {ks : List Int} (h : fitsB 2 v ks = true) : ∃ ps a b, ks = ps ++ [a, b] ∧ (∀ k ∈ ps, k = 7) ∧ isTy a = true ∧ b = 20 := by
 have e : fitsB 2 v ks = (decide (([] : List UInt8).length + ([116, 98] : List UInt8).length ≤ ks.length) && (kidsB [] (ks.take ([] : List UInt8).length) && ((ks.take (ks.length - ([116, 98] : List UInt8).length)).drop ([] : List UInt8).length).all (lett 113) && kidsB [116, 98] (ks.drop (ks.length - ([116, 98] : List UInt8).length)))) := rfl
 rw [e] at h
 simp only [Bool.and_eq_true, decide_eq_true_eq, List.length_nil, List.length_cons, List.drop_zero, Nat.zero_add] at h
 obtain ⟨h1, ⟨_, h2⟩, h3⟩ := h
 refine ⟨ks.take (ks.length - 2), ?_⟩
 cases hd : ks.drop (ks.length - 2) with
 | nil => rw [hd] at h3; cases h3
 | cons a r =>
  rw [hd] at h3
  cases r with
  | nil => simp [kidsB] at h3
  | cons b r =>
   have hl : (ks.drop (ks.length - 2)).length = 2 := by rw [List.length_drop]; omega
   rw [hd] at hl
   cases r with
   | cons c r => simp at hl
   | nil =>
    refine ⟨a, b, ?_, ?_, ?_, ?_⟩
    ·rw [← hd, List.take_append_drop]
    ·intro k hk
     have := List.all_eq_true.1 h2 k hk
     simpa [lett] using this
    ·simp [kidsB, lett] at h3; exact h3.1
    ·simp [kidsB, lett] at h3; exact h3.2
theorem params_fn {ps : List Int} {a b : Int} (h : ∀ k ∈ ps, k = 7) (ha : isTy a = true) (hb : b = 20) : params (ps ++ [a, b]) = ps.length := by
 unfold params
 rw [List.filter_append, List.filter_eq_self.2 (by intro k hk; simpa using h k hk)]
 have h7 : a ≠ 7 := by intro e; subst e; cases ha
 subst hb
 simp [h7]
theorem fn_num {v : Int} {ks : List Int} (hn : numB 2 v (params ks) = true) (hf : fitsB 2 v ks = true) : v = ((ks.length - 2 : Nat) : Int) ∧ 2 ≤ ks.length := by
 obtain ⟨ps, a, b, rfl, h1, h2, h3⟩ := fn_parts hf
 rw [params_fn h1 h2 h3] at hn
 have e : numB 2 v ps.length = decide (v = ps.length) := rfl
 rw [e, decide_eq_true_eq] at hn
 simp only [List.length_append, List.length_cons, List.length_nil]
 constructor <;> omega
structure NodOf (t : List Nd) (i : Nat) (x : Nd) : Prop where
 kid : ∀ k ∈ x.kids, 0 ≤ k ∧ k < i
 kn : knownB x.k = true
 nm : nmB x.k x.t = true
 num : numB x.k x.v (params (kinds t x.kids)) = true
 fe : 0 ≤ x.f ∧ x.f ≤ x.e
 fit : fitsB x.k x.v (kinds t x.kids) = true
theorem nodOf {t : List Nd} {i : Nat} (h : nodeB t i = true) : NodOf t i (t.getD i default) := by
 unfold nodeB at h
 simp only [Bool.and_eq_true, decide_eq_true_eq, List.all_eq_true] at h
 obtain ⟨h1, ⟨⟨⟨⟨h2, h3⟩, h4⟩, h5⟩, h6⟩, h7⟩ := h
 exact ⟨h1, h2, h3, h4, ⟨h5, h6⟩, h7⟩
theorem NodOf.fn {t : List Nd} {i : Nat} {x : Nd} (h : NodOf t i x) (hk : x.k = 2) : x.v = ((x.kids.length - 2 : Nat) : Int) ∧ 2 ≤ x.kids.length := by
 have h1 := h.num
 have h2 := h.fit
 rw [hk] at h1 h2
 have := fn_num h1 h2
 rwa [show (kinds t x.kids).length = x.kids.length from List.length_map ..] at this
structure TreeOk (t : List Nd) (up : List Int) : Prop where
 lo : 1 ≤ t.length
 hi : t.length ≤ 20000
 root : (t.getD (t.length - 1) default).k = 1
 nod : ∀ i, i < t.length → NodOf t i (t.getD i default)
 ups : ups t = some up
 one : up.dropLast.contains (-1) = false
 deep : maxL (deps up) ≤ 400
theorem treeOk {t : List Nd} (h : checkB t = true) : ∃ up, TreeOk t up := by
 unfold checkB at h
 simp only [Bool.and_eq_true, decide_eq_true_eq, List.all_eq_true] at h
 obtain ⟨⟨⟨⟨h1, h2⟩, h3⟩, h4⟩, h5⟩ := h
 unfold upOk at h5
 cases hu : ups t with
 | none => rw [hu] at h5; cases h5
 | some up =>
  rw [hu] at h5
  simp only [Bool.and_eq_true, decide_eq_true_eq, Bool.or_eq_true, Bool.not_eq_true'] at h5
  refine ⟨up, h1, h2, h3, fun i hi => nodOf (h4 i (List.mem_range.2 hi)), hu, ?_, h5.2⟩
  rcases h5.1 with e | e
  ·subst e; rfl
  ·exact e
end Go.Vm.Tp
namespace Go.Vm.Io
open Go.Vm.Tp (Nd kindAt kinds checkB nodeB NodOf isTy)
open Go.Vm.Ip (Fld Nam Fnc Its)
abbrev S := List UInt8
def nd (t : List Nd) (i : Int) : Nd := t.getD i.toNat default
def In (t : List Nd) (i : Int) : Prop := 0 ≤ i ∧ i.toNat < t.length
structure Rt (t : List Nd) : Prop where
 lo : 1 ≤ t.length
 hi : t.length ≤ 20000
 kid : ∀ i, In t i → ∀ k ∈ (nd t i).kids, 0 ≤ k ∧ k < i
 root : ∀ k ∈ (nd t ((t.length : Int) - 1)).kids, (nd t k).k = 2 ∨ (nd t k).k = 3 ∨ (nd t k).k = 4
 st : ∀ i, In t i → (nd t i).k = 3 → ∀ k ∈ (nd t i).kids, (nd t k).k = 5
 en : ∀ i, In t i → (nd t i).k = 4 → ∀ k ∈ (nd t i).kids, (nd t k).k = 6
 fn : ∀ i, In t i → (nd t i).k = 2 → ∃ ps a b, (nd t i).kids = ps ++ [a, b] ∧ (∀ k ∈ ps, (nd t k).k = 7) ∧ isTy (nd t a).k = true ∧ (nd t i).v = ps.length
 fd : ∀ i, In t i → (nd t i).k = 5 ∨ (nd t i).k = 7 → ∃ a, (nd t i).kids = [a] ∧ isTy (nd t a).k = true
 va : ∀ i, In t i → (nd t i).k = 6 → (nd t i).kids = [] ∨ ∃ a, (nd t i).kids = [a] ∧ isTy (nd t a).k = true
 leaf : ∀ i, In t i → (nd t i).k = 10 ∨ (nd t i).k = 11 ∨ (nd t i).k = 12 ∨ (nd t i).k = 13 → (nd t i).kids = []
 ref : ∀ i, In t i → (nd t i).k = 14 ∨ (nd t i).k = 15 ∨ (nd t i).k = 16 → ∃ a, (nd t i).kids = [a] ∧ isTy (nd t a).k = true
theorem In.lt {t : List Nd} {i : Int} (h : In t i) : i < t.length := by have := h.1; have := h.2; omega
theorem Rt.inK {t : List Nd} (h : Rt t) {i k : Int} (hi : In t i) (hk : k ∈ (nd t i).kids) : In t k := by
 obtain ⟨h1, h2⟩ := h.kid i hi k hk
 have := hi.1
 have := hi.2
 exact ⟨h1, by omega⟩
theorem kd (t : List Nd) (k : Int) : kindAt t k = (nd t k).k := rfl
theorem mem_kinds {t : List Nd} {l : List Int} {k : Int} (h : k ∈ l) : (nd t k).k ∈ kinds t l := List.mem_map.2 ⟨k, h, rfl⟩
theorem one_kind {t : List Nd} {l : List Int} (h : Go.Vm.Tp.kidsB [116] (kinds t l) = true) : ∃ a, l = [a] ∧ isTy (nd t a).k = true := by
 cases l with
 | nil => simp [kinds, Go.Vm.Tp.kidsB] at h
 | cons a r =>
  cases r with
  | nil => exact ⟨a, rfl, by rw [← kd]; simpa [kinds, Go.Vm.Tp.kidsB, Go.Vm.Tp.lett] using h⟩
  | cons b r => simp [kinds, Go.Vm.Tp.kidsB] at h
theorem rt_of {t : List Nd} (h : checkB t = true) : Rt t := by
 obtain ⟨up, hT⟩ := Go.Vm.Tp.treeOk h
 have hN : ∀ i, In t i → NodOf t i.toNat (nd t i) := fun i hi => hT.nod i.toNat hi.2
 have hlo := hT.lo
 have hroot : In t ((t.length : Int) - 1) := ⟨by omega, by omega⟩
 have er : (nd t ((t.length : Int) - 1)).k = 1 := by
  unfold nd
  rw [show ((t.length : Int) - 1).toNat = t.length - 1 by omega]
  exact hT.root
 have all : ∀ {c : UInt8} {ks : List Int} {v k : Int}, Go.Vm.Tp.shapeP k v = ([], some c, []) → Go.Vm.Tp.fitsB k v (kinds t ks) = true → ∀ x ∈ ks, Go.Vm.Tp.lett c (nd t x).k = true := by
  intro c ks v k hs hf x hx
  unfold Go.Vm.Tp.fitsB at hf
  rw [hs] at hf
  simp only [Bool.and_eq_true, List.length_nil, Nat.sub_zero, List.take_length, List.drop_zero] at hf
  exact List.all_eq_true.1 hf.2.1.2 _ (mem_kinds hx)
 have lst : ∀ {s : List UInt8} {ks : List Int} {v k : Int}, Go.Vm.Tp.shapeP k v = (s, none, []) → Go.Vm.Tp.fitsB k v (kinds t ks) = true → Go.Vm.Tp.kidsB s (kinds t ks) = true := by
  intro s ks v k hs hf
  unfold Go.Vm.Tp.fitsB at hf
  rw [hs] at hf
  exact hf
 refine ⟨hlo, hT.hi, fun i hi k hk => ?_, fun k hk => ?_, fun i hi e k hk => ?_, fun i hi e k hk => ?_, fun i hi e => ?_, fun i hi e => ?_, fun i hi e => ?_, fun i hi e => ?_, fun i hi e => ?_⟩
 ·obtain ⟨a, b⟩ := (hN i hi).kid k hk
  have := hi.1
  exact ⟨a, by omega⟩
 ·have hf := (hN _ hroot).fit
  rw [er] at hf
  have := all (c := 105) (by rfl) hf k hk
  simpa [Go.Vm.Tp.lett] using this
 ·have hf := (hN i hi).fit
  rw [e] at hf
  have := all (c := 102) (by rfl) hf k hk
  simpa [Go.Vm.Tp.lett] using this
 ·have hf := (hN i hi).fit
  rw [e] at hf
  have := all (c := 118) (by rfl) hf k hk
  simpa [Go.Vm.Tp.lett] using this
 ·have hf := (hN i hi).fit
  have hv := ((hN i hi).fn e).1
  rw [e] at hf
  obtain ⟨ps, a, b, h1, h2, h3, h4⟩ := Go.Vm.Tp.fn_parts hf
  unfold kinds at h1
  obtain ⟨q, r, e1, e2, e3⟩ := List.map_eq_append_iff.1 h1
  obtain ⟨x, r2, rfl, e4, e5⟩ := List.map_eq_cons_iff.1 e3
  obtain ⟨y, r3, rfl, e6, e7⟩ := List.map_eq_cons_iff.1 e5
  have : r3 = [] := by simpa using e7
  subst this
  refine ⟨q, x, y, e1, fun k hk => ?_, by rw [← kd, e4]; exact h3, by rw [hv, e1]; simp⟩
  exact h2 _ (by rw [← e2]; exact List.mem_map.2 ⟨k, hk, rfl⟩)
 ·have hf := (hN i hi).fit
  refine one_kind (lst (s := [116]) (v := (nd t i).v) (k := (nd t i).k) ?_ hf)
  rcases e with e | e <;> rw [e] <;> rfl
 ·have hf := (hN i hi).fit
  rw [e] at hf
  have := lst (s := [63, 116]) (by rfl) hf
  generalize hl : (nd t i).kids = l at this
  cases l with
  | nil => exact .inl rfl
  | cons a r =>
   cases r with
   | nil => exact .inr ⟨a, rfl, by rw [← kd]; simpa [kinds, Go.Vm.Tp.kidsB, Go.Vm.Tp.lett] using this⟩
   | cons b r => simp [kinds, Go.Vm.Tp.kidsB] at this
 ·have hf := (hN i hi).fit
  have := lst (s := []) (v := (nd t i).v) (k := (nd t i).k) (by rcases e with e | e | e | e <;> rw [e] <;> rfl) hf
  simpa [kinds, Go.Vm.Tp.kidsB] using this
 ·have hf := (hN i hi).fit
  refine one_kind (lst (s := [116]) (v := (nd t i).v) (k := (nd t i).k) ?_ hf)
  rcases e with e | e | e <;> rw [e] <;> rfl
def txt (t : List Nd) : Nat → Int → S
 | 0, _ => []
 | n + 1, i =>
  if (nd t i).k = 10 then [105, 54, 52]
  else if (nd t i).k = 11 then [98, 111, 111, 108]
  else if (nd t i).k = 12 then [40, 41]
  else if (nd t i).k = 14 then [38] ++ txt t n ((nd t i).kids.getD 0 0)
  else if (nd t i).k = 15 then [38, 109, 117, 116, 32] ++ txt t n ((nd t i).kids.getD 0 0)
  else if (nd t i).k = 16 then [66, 111, 120, 60] ++ txt t n ((nd t i).kids.getD 0 0) ++ [62]
  else (nd t i).t
def tx (t : List Nd) (i : Int) : S := txt t t.length i
def fldOf (t : List Nd) (i : Int) : Fld := ⟨(nd t i).t, match (nd t i).kids with | [] => [] | a :: _ => tx t a⟩
def mem (t : List Nd) (i : Int) : List Int := if (nd t i).k = 2 then (nd t i).kids.take ((nd t i).kids.length - 2) else (nd t i).kids
def ret (t : List Nd) (i : Int) : Int := (nd t i).kids.getD ((nd t i).kids.length - 2) 0
def namOf (t : List Nd) (i : Int) : Nam := ⟨(nd t i).t, (nd t i).kids.map (fldOf t)⟩
def fncOf (t : List Nd) (i : Int) : Fnc := ⟨(nd t i).t, (mem t i).map (fldOf t), (mem t i).map (fun k => decide ((nd t k).v = 1)), tx t (ret t i), i⟩
def roots (t : List Nd) : List Int := (nd t ((t.length : Int) - 1)).kids
def inn (t : List Nd) : Nat → Bool → Int → Int
 | 0, _, _ => -1
 | n + 1, may, i => if !may && (decide ((nd t i).k = 14) || decide ((nd t i).k = 15)) then i else match (nd t i).kids with
   | [] => -1
   | a :: _ => if 0 ≤ inn t n false a then inn t n false a else -1
def unk (t : List Nd) (kn : S → Bool) : Nat → Int → Int
 | 0, _ => -1
 | n + 1, i => if decide ((nd t i).k = 13) && !kn (nd t i).t then i else match (nd t i).kids with
   | [] => -1
   | a :: _ => if 0 ≤ unk t kn n a then unk t kn n a else -1
theorem Rt.ty {t : List Nd} (h : Rt t) {i : Int} (hi : In t i) (hk : isTy (nd t i).k = true) : (nd t i).kids = [] ∨ ∃ a, (nd t i).kids = [a] ∧ isTy (nd t a).k = true := by
 unfold isTy at hk
 simp only [Bool.and_eq_true, decide_eq_true_eq] at hk
 by_cases c : (nd t i).k = 14 ∨ (nd t i).k = 15 ∨ (nd t i).k = 16
 ·exact .inr (h.ref i hi c)
 ·exact .inl (h.leaf i hi (by omega))
def col1 (t : List Nd) (a : Its × Int) (n : Int) : Its × Int :=
 if (nd t n).k = 3 then (⟨a.1.ss ++ [namOf t n], a.1.es, a.1.fs⟩, if 64 < a.1.ss.length + 1 ∧ a.2 < 0 then n else a.2)
 else if (nd t n).k = 4 then (⟨a.1.ss, a.1.es ++ [namOf t n], a.1.fs⟩, if 64 < a.1.es.length + 1 ∧ a.2 < 0 then n else a.2)
 else (⟨a.1.ss, a.1.es, a.1.fs ++ [fncOf t n]⟩, if 64 < a.1.fs.length + 1 ∧ a.2 < 0 then n else a.2)
def col (t : List Nd) (l : List Int) : Its × Int := l.foldl (col1 t) (⟨[], [], []⟩, -1)
def dupG (t : List Nd) : List S → List Int → Option Int
 | _, [] => none
 | seen, k :: r => if (nd t k).t ∈ seen then some k else dupG t (seen ++ [(nd t k).t]) r
def nmsG (t : List Nd) : List S → List S → List Int → Option (Int × Int)
 | _, _, [] => none
 | ts, fs, n :: r =>
  if (nd t n).k = 2 then
   if (nd t n).t ∈ fs then some (140, n) else if 6 < (mem t n).length then some (2, n) else match dupG t [] (mem t n) with
    | some k => some (140, k)
    | none => nmsG t ts (fs ++ [(nd t n).t]) r
  else
   if (nd t n).t ∈ ts then some (140, n) else if 16 < (mem t n).length then some (2, n) else match dupG t [] (mem t n) with
    | some k => some (140, k)
    | none => nmsG t (ts ++ [(nd t n).t]) fs r
theorem mem_sub {t : List Nd} {n k : Int} (h : k ∈ mem t n) : k ∈ (nd t n).kids := by
 unfold mem at h
 split at h
 ·exact List.mem_of_mem_take h
 ·exact h
theorem mem_len (t : List Nd) (n : Int) : (mem t n).length ≤ (nd t n).kids.length := by
 unfold mem
 split
 ·exact Nat.le_trans (List.length_take_le _ _) (Nat.sub_le _ _)
 ·exact Nat.le_refl _
theorem unk_in {t : List Nd} (h : Rt t) (kn : S → Bool) : ∀ (n : Nat) (i : Int), In t i → 0 ≤ unk t kn n i → In t (unk t kn n i)
 | 0, i, _, h0 => absurd h0 (by rw [unk]; decide)
 | n + 1, i, hi, h0 => by
   rw [unk] at h0 ⊢
   split
   ·exact hi
   ·rename_i c
    rw [if_neg c] at h0
    cases hk : (nd t i).kids with
    | nil => rw [hk] at h0; exact absurd h0 (show ¬ (0 : Int) ≤ -1 by decide)
    | cons a r =>
     rw [hk] at h0
     simp only at h0 ⊢
     by_cases hp : 0 ≤ unk t kn n a
     ·rw [if_pos hp]; exact unk_in h kn n a (h.inK hi (by rw [hk]; exact List.mem_cons_self)) hp
     ·rw [if_neg hp] at h0; exact absurd h0 (by decide)
theorem inn_in {t : List Nd} (h : Rt t) : ∀ (n : Nat) (b : Bool) (i : Int), In t i → 0 ≤ inn t n b i → In t (inn t n b i)
 | 0, _, i, _, h0 => absurd h0 (by rw [inn]; decide)
 | n + 1, b, i, hi, h0 => by
   rw [inn] at h0 ⊢
   split
   ·exact hi
   ·rename_i c
    rw [if_neg c] at h0
    cases hk : (nd t i).kids with
    | nil => rw [hk] at h0; exact absurd h0 (show ¬ (0 : Int) ≤ -1 by decide)
    | cons a r =>
     rw [hk] at h0
     simp only at h0 ⊢
     by_cases hp : 0 ≤ inn t n false a
     ·rw [if_pos hp]; exact inn_in h n false a (h.inK hi (by rw [hk]; exact List.mem_cons_self)) hp
     ·rw [if_neg hp] at h0; exact absurd h0 (by decide)
def tyl (t : List Nd) (n : Int) : List Int := ((mem t n).map fun k => (nd t k).kids).flatten ++ (if (nd t n).k = 2 then [ret t n] else [])
def tyG (t : List Nd) (kn : S → Bool) (fn : Bool) : List Int → Option (Int × Int)
 | [] => none
 | a :: r => if 0 ≤ unk t kn t.length a then some (141, unk t kn t.length a) else if 0 ≤ inn t t.length fn a then some (142, inn t t.length fn a) else tyG t kn fn r
theorem Rt.memk {t : List Nd} (h : Rt t) {n : Int} (hi : In t n) (hk : (nd t n).k = 2 ∨ (nd t n).k = 3 ∨ (nd t n).k = 4) {k : Int} (hm : k ∈ mem t n) : In t k ∧ ((nd t k).kids = [] ∨ ∃ a, (nd t k).kids = [a] ∧ isTy (nd t a).k = true) := by
 have hin := h.inK hi (mem_sub hm)
 refine ⟨hin, ?_⟩
 rcases hk with e | e | e
 ·obtain ⟨ps, a, b, e1, e2, _⟩ := h.fn n hi e
  have : mem t n = ps := by unfold mem; rw [if_pos e, e1]; simp
  rw [this] at hm
  exact .inr (h.fd k hin (.inr (e2 k hm)))
 ·exact .inr (h.fd k hin (.inl (h.st n hi e k (mem_sub hm))))
 ·exact h.va k hin (h.en n hi e k (mem_sub hm))
theorem Rt.retk {t : List Nd} (h : Rt t) {n : Int} (hi : In t n) (hk : (nd t n).k = 2) : ∃ ps b, (nd t n).kids = ps ++ [ret t n, b] ∧ mem t n = ps ∧ In t (ret t n) ∧ isTy (nd t (ret t n)).k = true := by
 obtain ⟨ps, a, b, e1, e2, e3, _⟩ := h.fn n hi hk
 have er : ret t n = a := by unfold ret; rw [e1]; simp
 refine ⟨ps, b, by rw [er]; exact e1, by unfold mem; rw [if_pos hk, e1]; simp, ?_, by rw [er]; exact e3⟩
 rw [er]; exact h.inK hi (by rw [e1]; simp)
theorem Rt.tylk {t : List Nd} (h : Rt t) {n : Int} (hi : In t n) (hk : (nd t n).k = 2 ∨ (nd t n).k = 3 ∨ (nd t n).k = 4) {a : Int} (ha : a ∈ tyl t n) : In t a ∧ isTy (nd t a).k = true := by
 unfold tyl at ha
 rcases List.mem_append.1 ha with q | q
 ·obtain ⟨l, h1, h2⟩ := List.mem_flatten.1 q
  obtain ⟨k, h3, rfl⟩ := List.mem_map.1 h1
  obtain ⟨g1, g2⟩ := h.memk hi hk h3
  rcases g2 with e | ⟨b, e, eb⟩
  ·rw [e] at h2; cases h2
  ·have hin := h.inK g1 h2
   rw [e] at h2
   simp only [List.mem_singleton] at h2
   subst h2
   exact ⟨hin, eb⟩
 ·split at q
  ·rename_i e
   obtain ⟨ps, b, _, _, g1, g2⟩ := h.retk hi e
   simp only [List.mem_singleton] at q
   subst q
   exact ⟨g1, g2⟩
  ·cases q
def szG1 (t : List Nd) (e : S → Bool) : List Int → Option (Int × Int)
 | [] => none
 | n :: r => if ((nd t n).k ≠ 2 ∧ e (nd t n).t = true) ∨ ((nd t n).k = 4 ∧ (nd t n).kids = []) then some (143, n) else szG1 t e r
def szG2 (t : List Nd) (b : S → Bool) : List Int → Option (Int × Int)
 | [] => none
 | n :: r => if (nd t n).k = 2 then szG2 t b r else if b (nd t n).t = true then some (2, n) else szG2 t b r
theorem szG1_none {t : List Nd} {e : S → Bool} : ∀ {l : List Int}, szG1 t e l = none → ∀ n ∈ l, (nd t n).k ≠ 2 → e (nd t n).t = false
 | [], _, n, hn, _ => by cases hn
 | m :: r, h, n, hn, hk => by
   rw [szG1] at h
   split at h
   ·cases h
   ·rename_i c
    rcases List.mem_cons.1 hn with q | q
    ·subst q
     cases he : e (nd t n).t with
     | false => rfl
     | true => exact absurd (.inl ⟨hk, he⟩) c
    ·exact szG1_none h n q hk
end Go.Vm.Io
namespace Go.Vm.Itr
open Go.Vm.Ite
open Go.Vm.Tp
open Go.Vm.Lex (nameB)
set_option maxRecDepth 10000
abbrev ints (l : List Int) : V := .d (.sl (l.map (D.int .i64)))
abbrev ndV (x : Nd) : V := .d x.D
section
variable {fx : Nat → Option Obj} {F : Nat → Option VFun} (H : Hp)
theorem isType_ev (k : Int) : evF (pgL fx F) n_tree_isType [i64 k] H = some (boo (isTy k), H) := by
 refine evF_wp (t_tree_isType (F := F)) rfl rfl ?_ H
 repeat' refine And.intro (fun h => ?_) (fun h => ?_)
 all_goals show _ = _
 all_goals simp [oneOf, isTy] at *
 all_goals first | omega | (simp [*]; done)
theorem isStmt_ev (k : Int) : evF (pgL fx F) n_tree_isStmt [i64 k] H = some (boo (isSt k), H) := by
 refine evF_wp (t_tree_isStmt (F := F)) rfl rfl ?_ H
 repeat' refine And.intro (fun h => ?_) (fun h => ?_)
 all_goals show _ = _
 all_goals simp [oneOf, isSt] at *
 all_goals first | omega | (simp [*]; done)
theorem isPattern_ev (k : Int) : evF (pgL fx F) n_tree_isPattern [i64 k] H = some (boo (isPa k), H) := by
 refine evF_wp (t_tree_isPattern (F := F)) rfl rfl ?_ H
 repeat' refine And.intro (fun h => ?_) (fun h => ?_)
 all_goals show _ = _
 all_goals simp [oneOf, isPa] at *
 all_goals first | omega | (simp [*]; done)
theorem isExpr_ev (k : Int) : evF (pgL fx F) n_tree_isExpr [i64 k] H = some (boo (isEx k), H) := by
 refine evF_wp (t_tree_isExpr (F := F)) rfl rfl ?_ H
 repeat' refine And.intro (fun h => ?_) (fun h => ?_)
 all_goals show _ = _
 all_goals simp [oneOf, isEx] at *
 all_goals first | omega | (simp [*]; done) | grind
theorem u8ne {c d : UInt8} {n : Int} (h : c ≠ d) (hn : (d.toNat : Int) = n) : decide ((c.toNat : Int) = n) = false := by
 refine decide_eq_false fun e => h ?_
 apply UInt8.toNat_inj.1; omega
set_option maxHeartbeats 1000000 in
theorem is_ev (c : UInt8) (k : Int) : evF (pgL fx F) n_tree_is [u8 c, i64 k] H = some (boo (lett c k), H) := by
 refine evF_wp (t_tree_is (F := F)) rfl rfl ?_ H
 by_cases c1 : c = 105
 ·subst c1
  by_cases k1 : k = 2
  ·subst k1
   repeat' (first | refine run ⟨?_⟩ | fail)
   exact rfl
  by_cases k2 : k = 3
  ·subst k2
   repeat' (first | refine run ⟨?_⟩ | fail)
   exact rfl
  by_cases k3 : k = 4
  ·subst k3
   repeat' (first | refine run ⟨?_⟩ | fail)
   exact rfl
  rw [show lett 105 k = false from decide_eq_false (by omega)]
  repeat' (first | refine run ⟨?_⟩ | fail)
  show _ = _
  rw [decide_eq_false k3]; rfl
 by_cases c2 : c = 116
 ·subst c2
  repeat' (first | refine run ⟨?_⟩ | refine ca (isType_ev _ _) ?_ | fail)
  exact rfl
 by_cases c3 : c = 115
 ·subst c3
  repeat' (first | refine run ⟨?_⟩ | refine ca (isStmt_ev _ _) ?_ | fail)
  exact rfl
 by_cases c4 : c = 101
 ·subst c4
  repeat' (first | refine run ⟨?_⟩ | refine ca (isExpr_ev _ _) ?_ | fail)
  exact rfl
 by_cases c5 : c = 112
 ·subst c5
  repeat' (first | refine run ⟨?_⟩ | refine ca (isPattern_ev _ _) ?_ | fail)
  exact rfl
 by_cases c6 : c = 98
 ·subst c6
  repeat' (first | refine run ⟨?_⟩ | fail)
  exact rfl
 by_cases c7 : c = 102
 ·subst c7
  repeat' (first | refine run ⟨?_⟩ | fail)
  exact rfl
 by_cases c8 : c = 118
 ·subst c8
  repeat' (first | refine run ⟨?_⟩ | fail)
  exact rfl
 by_cases c9 : c = 110
 ·subst c9
  repeat' (first | refine run ⟨?_⟩ | fail)
  exact rfl
 by_cases c10 : c = 97
 ·subst c10
  repeat' (first | refine run ⟨?_⟩ | fail)
  exact rfl
 by_cases c11 : c = 113
 ·subst c11
  repeat' (first | refine run ⟨?_⟩ | fail)
  exact rfl
 by_cases c12 : c = 111
 ·subst c12
  by_cases k1 : k = 20
  ·subst k1
   repeat' (first | refine run ⟨?_⟩ | fail)
   exact rfl
  by_cases k2 : k = 45
  ·subst k2
   repeat' (first | refine run ⟨?_⟩ | fail)
   exact rfl
  rw [show lett 111 k = false from decide_eq_false (by omega)]
  repeat' (first | refine run ⟨?_⟩ | fail)
  show _ = _
  rw [decide_eq_false k2]; rfl
 have e : lett c k = false := by unfold lett; simp [c1, c2, c3, c4, c5, c6, c7, c8, c9, c10, c11, c12]
 rw [e]
 refine and_f (u8ne c1 rfl) ?_
 refine and_f (u8ne c2 rfl) ?_
 refine and_f (u8ne c3 rfl) ?_
 refine and_f (u8ne c4 rfl) ?_
 refine and_f (u8ne c5 rfl) ?_
 refine and_f (u8ne c6 rfl) ?_
 refine and_f (u8ne c7 rfl) ?_
 refine and_f (u8ne c8 rfl) ?_
 refine and_f (u8ne c9 rfl) ?_
 refine and_f (u8ne c10 rfl) ?_
 refine and_f (u8ne c11 rfl) ?_
 refine and_f (u8ne c12 rfl) ?_
 rfl
theorem ints_one (l : List Int) : ((l.map (D.int .i64)).all fun y => y.cells.length == 1) = true := by
  rw [List.all_map, List.all_eq_true]; intro x _; rfl
theorem slc1 {l : List Int} (h : 1 ≤ l.length) : (1 ≤ (l.map (D.int .i64)).length ∧ (l.map (D.int .i64)).length ≤ (l.map (D.int .i64)).length ∧ ((some (Opd.c (i64 1))).isNone || (l.map (D.int .i64)).all fun y => y.cells.length == 1) = true) :=
  ⟨by rw [List.length_map]; exact h, Nat.le_refl _, by rw [ints_one]; rfl⟩
theorem kidsB_cons {c : UInt8} (hc : c ≠ 63) (s : List UInt8) (l : List Int) : kidsB (c :: s) l = (match l with | [] => false | a :: r => lett c a && kidsB s r) := by
  cases s with
  | nil => cases l <;> rfl
  | cons d s => simp only [kidsB, if_neg hc]; cases l <;> rfl
theorem kidsB_q (d : UInt8) (s : List UInt8) (l : List Int) : kidsB (63 :: d :: s) l = ((match l with | [] => false | a :: r => lett d a && kidsB s r) || kidsB s l) := by simp only [kidsB, if_true]; cases l <;> rfl
set_option maxHeartbeats 2000000 in
theorem kids_ev : ∀ (n : Nat) (s : List UInt8) (l : List Int), s.length ≤ n → (∀ a, s ≠ a ++ [63]) → ∀ H, evF (pgL fx F) n_tree_kids [str s, ints l] H = some (boo (kidsB s l), H)
 | n, [], l, _, _, H => by
   refine evF_wp (t_tree_kids (F := F)) rfl rfl ?_ H
   refine and_t rfl ?_
   show _ = _
   cases l with
   | nil => rfl
   | cons a r => simp [oneOf, kidsB]; omega
 | 0, c :: s, l, h, _, H => by simp at h
 | n + 1, c :: s, l, h, h2, H => by
   have h3 : ∀ a, s ≠ a ++ [63] := fun a e => h2 (c :: a) (by rw [e]; rfl)
   refine evF_wp (t_tree_kids (F := F)) rfl rfl ?_ H
   refine and_f rfl ?_
   refine pickD (d := c) ⟨Int.le_refl _, rfl⟩ ?_
   by_cases hc : c = 63
   ·subst hc
    cases s with
    | nil => exact absurd rfl (h2 [])
    | cons d s =>
     have h4 : ∀ a, s ≠ a ++ [63] := fun a e => h3 (d :: a) (by rw [e]; rfl)
     have hs : s.length ≤ n := by simp at h; omega
     refine and_t rfl ?_
     rw [kidsB_q]
     have tail : ∀ _ : List Int, List.drop (Int.toNat 2) (List.take (63 :: d :: s).length (63 :: d :: s)) = s := by intro l; simp
     cases l with
     | nil =>
      refine gt_f rfl ?_
      repeat' (first | refine run ⟨?_⟩ | fail)
      refine And.intro ⟨by simp, by simp⟩ ?_
      rw [tail []]
      refine ca (kids_ev n s [] hs h4 _) ?_
      repeat' (first | refine run ⟨?_⟩ | fail)
      exact rfl
     | cons a r =>
      refine gt_t (decide_eq_true (by simp only [List.length_map, List.length_cons]; omega)) ?_
      refine pickD (d := d) ⟨by omega, rfl⟩ ?_
      refine pickD (d := .int .i64 a) ⟨Int.le_refl _, rfl⟩ ?_
      refine And.intro rfl ?_
      refine ca (is_ev _ d a) ?_
      repeat' (first | refine run ⟨?_⟩ | fail)
      cases hl : lett d a with
      | false =>
       refine gt_f rfl ?_
       repeat' (first | refine run ⟨?_⟩ | fail)
       refine And.intro ⟨by simp, by simp⟩ ?_
       rw [tail []]
       refine ca (kids_ev n s (a :: r) hs h4 _) ?_
       repeat' (first | refine run ⟨?_⟩ | fail)
       show _ = _
       simp_all [oneOf]
      | true =>
       refine gt_t rfl ?_
       refine And.intro ⟨by simp, by simp⟩ ?_
       refine And.intro (slc1 (by simp)) ?_
       rw [tail []]
       have e2 : List.drop (Int.toNat 1) (List.take (List.map (D.int .i64) (a :: r)).length (List.map (D.int .i64) (a :: r))) = r.map (D.int .i64) := by rw [List.take_length]; rfl
       rw [e2]
       refine ca (kids_ev n s r hs h4 _) ?_
       repeat' (first | refine run ⟨?_⟩ | fail)
       cases hk : kidsB s r with
       | true =>
        repeat' (first | refine run ⟨?_⟩ | fail)
        repeat' (first | refine run ⟨?_⟩ | fail)
        show _ = _
        simp_all [oneOf]
       | false =>
        repeat' (first | refine run ⟨?_⟩ | fail)
        refine And.intro ⟨by simp, by simp⟩ ?_
        rw [tail []]
        refine ca (kids_ev n s (a :: r) hs h4 _) ?_
        repeat' (first | refine run ⟨?_⟩ | fail)
        show _ = _
        simp_all [oneOf]
   ·refine and_f (u8ne hc rfl) ?_
    rw [kidsB_cons hc]
    have hs : s.length ≤ n := by simp at h; omega
    cases l with
    | nil =>
     refine gt_f rfl ?_
     repeat' (first | refine run ⟨?_⟩ | fail)
     exact rfl
    | cons a r =>
     refine gt_t (decide_eq_true (by simp only [List.length_map, List.length_cons]; omega)) ?_
     refine pickD (d := c) ⟨Int.le_refl _, rfl⟩ ?_
     refine pickD (d := .int .i64 a) ⟨Int.le_refl _, rfl⟩ ?_
     refine And.intro rfl ?_
     refine ca (is_ev _ c a) ?_
     repeat' (first | refine run ⟨?_⟩ | fail)
     cases hl : lett c a with
     | false =>
      refine gt_f rfl ?_
      repeat' (first | refine run ⟨?_⟩ | fail)
      show _ = _
      simp_all [oneOf]
     | true =>
      refine gt_t rfl ?_
      refine And.intro ⟨by simp, by simp⟩ ?_
      refine And.intro (slc1 (by simp)) ?_
      have e1 : List.drop (Int.toNat 1) (List.take (c :: s).length (c :: s)) = s := by simp
      have e2 : List.drop (Int.toNat 1) (List.take (List.map (D.int .i64) (a :: r)).length (List.map (D.int .i64) (a :: r))) = r.map (D.int .i64) := by rw [List.take_length]; rfl
      rw [e1, e2]
      refine ca (kids_ev n s r hs h3 _) ?_
      repeat' (first | refine run ⟨?_⟩ | fail)
      show _ = _
      simp_all [oneOf]
end
end Go.Vm.Itr
namespace Go.Vm.Itr
open Go.Vm.Ite
open Go.Vm.Tp
open Go.Vm.Lex (nameB)
set_option maxRecDepth 10000
section
variable {fx : Nat → Option Obj} {F : Nat → Option VFun} (H : Hp)
theorem all1_ev (k : Int) (c : UInt8) : evF (pgL fx F) «n_tree_all_1» [i64 k, .ptr 0 0] [.box [u8 c]] = some (boo (!lett c k), [.box [u8 c]]) := by
 refine evF_wpOn (t_tree_all_1 (F := F)) rfl rfl rfl ?_
 repeat' (first | refine run ⟨?_⟩ | refine ca (is_ev _ _ _) ?_ | fail)
 first | exact rfl | exact ⟨rfl, rfl⟩
theorem idxf_ev (l : List Int) (c : UInt8) (hl : l.length ≤ 1048576) : evF (pgL fx F) n_slices_IndexFunc_int_int [ints l, .fn n_tree_all_1 [.ptr 0 0]] [.box [u8 c]] = some (i64 (if l.all (lett c) then -1 else (l.findIdx fun k => !lett c k : Nat)), [.box [u8 c]]) := by
  refine evF_wpOn (t_slices_IndexFunc_int_int (F := F)) rfl rfl rfl ?_
  refine wp_loop (α := Nat) (fun i => l.length - i) (fun i => [(0, ints l), (1, .fn n_tree_all_1 [.ptr 0 0]), (7, i64 (l.map (D.int .i64)).length), (8, i64 i)]) (fun _ => [.box [u8 c]]) (fun i => i ≤ l.length ∧ ∀ k ∈ l.take i, lett c k = true) ?_ 0 ⟨by omega, by simp⟩
  rintro i ⟨hi, hall⟩
  refine And.intro (fun h => ?_) (fun h => ?_)
  ·replace h := of_decide_eq_true h
   rw [List.length_map] at h
   have hlt : i < l.length := by omega
   refine idx_of (s := l.map (D.int .i64)) (by rw [List.length_map]; exact hlt) ?_
   rw [List.getElem_map]
   refine And.intro rfl ?_
   refine ca (all1_ev l[i] c) ?_
   cases hk : lett c l[i] with
   | true =>
    repeat' (first | refine run ⟨?_⟩ | fail)
    refine ⟨i + 1, ⟨by omega, ?_⟩, by omega, ?_, rfl⟩
    ·intro k hkm
     rw [List.take_add_one, List.getElem?_eq_getElem hlt, List.mem_append] at hkm
     rcases hkm with hkm | hkm
     ·exact hall k hkm
     ·simp at hkm; rw [hkm]; exact hk
    ·rw [i64w (by omega)]; rfl
   | false =>
    repeat' (first | refine run ⟨?_⟩ | fail)
    refine ⟨?_, rfl⟩
    have h1 : l.all (lett c) = false := by
     cases hb : l.all (lett c) with
     | false => rfl
     | true => have := List.all_eq_true.1 hb l[i] (List.getElem_mem _); rw [hk] at this; cases this
    rw [h1]
    have h2 : l.findIdx (fun k => !lett c k) = i := by
      rw [List.findIdx_eq hlt]
      refine ⟨by rw [hk]; rfl, fun j hj => ?_⟩
      have : l[j] ∈ l.take i := by rw [List.mem_take_iff_getElem]; exact ⟨j, by omega, rfl⟩
      rw [hall _ this]; rfl
    rw [h2]; rfl
  ·replace h := of_decide_eq_false h
   rw [List.length_map] at h
   have hi' : i = l.length := by omega
   subst hi'
   rw [List.take_length] at hall
   refine ⟨?_, rfl⟩
   rw [List.all_eq_true.2 hall]; rfl
theorem cf_ev (l : List Int) (c : UInt8) (hl : l.length ≤ 1048576) : evF (pgL fx F) n_slices_ContainsFunc_int_int [ints l, .fn n_tree_all_1 [.ptr 0 0]] [.box [u8 c]] = some (boo (!l.all (lett c)), [.box [u8 c]]) := by
 refine evF_wpOn (t_slices_ContainsFunc_int_int (F := F)) rfl rfl rfl ?_
 refine ca (idxf_ev l c hl) ?_
 refine ⟨?_, rfl⟩
 cases l.all (lett c) with
 | true => rfl
 | false => show V.d (.bool (decide (0 ≤ ((l.findIdx fun k => !lett c k : Nat) : Int)))) = _; rw [decide_eq_true (by omega)]; rfl
theorem all_ev (l : List Int) (c : UInt8) (hl : l.length ≤ 1048576) : evF (pgL fx F) n_tree_all [u8 c, ints l] H = some (boo (l.all (lett c)), H) := by
 refine evF_wp (t_tree_all (F := F)) rfl rfl ?_ H
 refine ca (cf_ev l c hl) ?_
 show _ = _
 cases l.all (lett c) <;> rfl
theorem known_ev (k : Int) : evF (pgL fx F) n_tree_known [i64 k] H = some (boo (knownB k), H) := by
 refine evF_wp (t_tree_known (F := F)) rfl rfl ?_ H
 by_cases h1 : 1 ≤ k
 ·skip
  by_cases h2 : k ≤ 7
  ·skip
   repeat' (first | refine run ⟨?_⟩ | fail)
   try first | refine and_t (decide_eq_true h1) ?_ | refine gt_t (decide_eq_true h1) ?_ | refine gd_t (decide_eq_true h1) ?_
   repeat' (first | refine run ⟨?_⟩ | fail)
   try first | refine and_t (decide_eq_true h2) ?_ | refine gt_t (decide_eq_true h2) ?_ | refine gd_t (decide_eq_true h2) ?_
   repeat' (first | refine run ⟨?_⟩ | fail)
   show _ = _
   simp [oneOf, knownB, *]
  ·skip
   cases h3 : isTy k with
   | true =>
    repeat' (first | refine run ⟨?_⟩ | fail)
    try first | refine and_t (decide_eq_true h1) ?_ | refine gt_t (decide_eq_true h1) ?_ | refine gd_t (decide_eq_true h1) ?_
    repeat' (first | refine run ⟨?_⟩ | fail)
    try first | refine and_f (decide_eq_false h2) ?_ | refine gt_f (decide_eq_false h2) ?_ | refine gd_f (decide_eq_false h2) ?_
    repeat' (first | refine run ⟨?_⟩ | fail)
    try refine ca (isType_ev _ _) ?_
    repeat' (first | refine run ⟨?_⟩ | fail)
    try first | refine and_t h3 ?_ | refine gt_t h3 ?_ | refine gd_t h3 ?_
    repeat' (first | refine run ⟨?_⟩ | fail)
    show _ = _
    simp [oneOf, knownB, *]
   | false =>
    cases h4 : isSt k with
    | true =>
     repeat' (first | refine run ⟨?_⟩ | fail)
     try first | refine and_t (decide_eq_true h1) ?_ | refine gt_t (decide_eq_true h1) ?_ | refine gd_t (decide_eq_true h1) ?_
     repeat' (first | refine run ⟨?_⟩ | fail)
     try first | refine and_f (decide_eq_false h2) ?_ | refine gt_f (decide_eq_false h2) ?_ | refine gd_f (decide_eq_false h2) ?_
     repeat' (first | refine run ⟨?_⟩ | fail)
     try refine ca (isType_ev _ _) ?_
     repeat' (first | refine run ⟨?_⟩ | fail)
     try first | refine and_f h3 ?_ | refine gt_f h3 ?_ | refine gd_f h3 ?_
     repeat' (first | refine run ⟨?_⟩ | fail)
     try refine ca (isStmt_ev _ _) ?_
     repeat' (first | refine run ⟨?_⟩ | fail)
     try first | refine and_t h4 ?_ | refine gt_t h4 ?_ | refine gd_t h4 ?_
     repeat' (first | refine run ⟨?_⟩ | fail)
     show _ = _
     simp [oneOf, knownB, *]
    | false =>
     cases h5 : isPa k with
     | true =>
      repeat' (first | refine run ⟨?_⟩ | fail)
      try first | refine and_t (decide_eq_true h1) ?_ | refine gt_t (decide_eq_true h1) ?_ | refine gd_t (decide_eq_true h1) ?_
      repeat' (first | refine run ⟨?_⟩ | fail)
      try first | refine and_f (decide_eq_false h2) ?_ | refine gt_f (decide_eq_false h2) ?_ | refine gd_f (decide_eq_false h2) ?_
      repeat' (first | refine run ⟨?_⟩ | fail)
      try refine ca (isType_ev _ _) ?_
      repeat' (first | refine run ⟨?_⟩ | fail)
      try first | refine and_f h3 ?_ | refine gt_f h3 ?_ | refine gd_f h3 ?_
      repeat' (first | refine run ⟨?_⟩ | fail)
      try refine ca (isStmt_ev _ _) ?_
      repeat' (first | refine run ⟨?_⟩ | fail)
      try first | refine and_f h4 ?_ | refine gt_f h4 ?_ | refine gd_f h4 ?_
      repeat' (first | refine run ⟨?_⟩ | fail)
      try refine ca (isPattern_ev _ _) ?_
      repeat' (first | refine run ⟨?_⟩ | fail)
      try first | refine and_t h5 ?_ | refine gt_t h5 ?_ | refine gd_t h5 ?_
      repeat' (first | refine run ⟨?_⟩ | fail)
      show _ = _
      simp [oneOf, knownB, *]
     | false =>
      cases h6 : isEx k with
      | true =>
       repeat' (first | refine run ⟨?_⟩ | fail)
       try first | refine and_t (decide_eq_true h1) ?_ | refine gt_t (decide_eq_true h1) ?_ | refine gd_t (decide_eq_true h1) ?_
       repeat' (first | refine run ⟨?_⟩ | fail)
       try first | refine and_f (decide_eq_false h2) ?_ | refine gt_f (decide_eq_false h2) ?_ | refine gd_f (decide_eq_false h2) ?_
       repeat' (first | refine run ⟨?_⟩ | fail)
       try refine ca (isType_ev _ _) ?_
       repeat' (first | refine run ⟨?_⟩ | fail)
       try first | refine and_f h3 ?_ | refine gt_f h3 ?_ | refine gd_f h3 ?_
       repeat' (first | refine run ⟨?_⟩ | fail)
       try refine ca (isStmt_ev _ _) ?_
       repeat' (first | refine run ⟨?_⟩ | fail)
       try first | refine and_f h4 ?_ | refine gt_f h4 ?_ | refine gd_f h4 ?_
       repeat' (first | refine run ⟨?_⟩ | fail)
       try refine ca (isPattern_ev _ _) ?_
       repeat' (first | refine run ⟨?_⟩ | fail)
       try first | refine and_f h5 ?_ | refine gt_f h5 ?_ | refine gd_f h5 ?_
       repeat' (first | refine run ⟨?_⟩ | fail)
       try refine ca (isExpr_ev _ _) ?_
       repeat' (first | refine run ⟨?_⟩ | fail)
       try first | refine and_t h6 ?_ | refine gt_t h6 ?_ | refine gd_t h6 ?_
       repeat' (first | refine run ⟨?_⟩ | fail)
       show _ = _
       simp [oneOf, knownB, *]
      | false =>
       by_cases h7 : k = 36
       ·skip
        repeat' (first | refine run ⟨?_⟩ | fail)
        try first | refine and_t (decide_eq_true h1) ?_ | refine gt_t (decide_eq_true h1) ?_ | refine gd_t (decide_eq_true h1) ?_
        repeat' (first | refine run ⟨?_⟩ | fail)
        try first | refine and_f (decide_eq_false h2) ?_ | refine gt_f (decide_eq_false h2) ?_ | refine gd_f (decide_eq_false h2) ?_
        repeat' (first | refine run ⟨?_⟩ | fail)
        try refine ca (isType_ev _ _) ?_
        repeat' (first | refine run ⟨?_⟩ | fail)
        try first | refine and_f h3 ?_ | refine gt_f h3 ?_ | refine gd_f h3 ?_
        repeat' (first | refine run ⟨?_⟩ | fail)
        try refine ca (isStmt_ev _ _) ?_
        repeat' (first | refine run ⟨?_⟩ | fail)
        try first | refine and_f h4 ?_ | refine gt_f h4 ?_ | refine gd_f h4 ?_
        repeat' (first | refine run ⟨?_⟩ | fail)
        try refine ca (isPattern_ev _ _) ?_
        repeat' (first | refine run ⟨?_⟩ | fail)
        try first | refine and_f h5 ?_ | refine gt_f h5 ?_ | refine gd_f h5 ?_
        repeat' (first | refine run ⟨?_⟩ | fail)
        try refine ca (isExpr_ev _ _) ?_
        repeat' (first | refine run ⟨?_⟩ | fail)
        try first | refine and_f h6 ?_ | refine gt_f h6 ?_ | refine gd_f h6 ?_
        repeat' (first | refine run ⟨?_⟩ | fail)
        try first | refine and_t (decide_eq_true h7) ?_ | refine gt_t (decide_eq_true h7) ?_ | refine gd_t (decide_eq_true h7) ?_
        repeat' (first | refine run ⟨?_⟩ | fail)
        show _ = _
        simp [oneOf, knownB, *]
       ·skip
        repeat' (first | refine run ⟨?_⟩ | fail)
        try first | refine and_t (decide_eq_true h1) ?_ | refine gt_t (decide_eq_true h1) ?_ | refine gd_t (decide_eq_true h1) ?_
        repeat' (first | refine run ⟨?_⟩ | fail)
        try first | refine and_f (decide_eq_false h2) ?_ | refine gt_f (decide_eq_false h2) ?_ | refine gd_f (decide_eq_false h2) ?_
        repeat' (first | refine run ⟨?_⟩ | fail)
        try refine ca (isType_ev _ _) ?_
        repeat' (first | refine run ⟨?_⟩ | fail)
        try first | refine and_f h3 ?_ | refine gt_f h3 ?_ | refine gd_f h3 ?_
        repeat' (first | refine run ⟨?_⟩ | fail)
        try refine ca (isStmt_ev _ _) ?_
        repeat' (first | refine run ⟨?_⟩ | fail)
        try first | refine and_f h4 ?_ | refine gt_f h4 ?_ | refine gd_f h4 ?_
        repeat' (first | refine run ⟨?_⟩ | fail)
        try refine ca (isPattern_ev _ _) ?_
        repeat' (first | refine run ⟨?_⟩ | fail)
        try first | refine and_f h5 ?_ | refine gt_f h5 ?_ | refine gd_f h5 ?_
        repeat' (first | refine run ⟨?_⟩ | fail)
        try refine ca (isExpr_ev _ _) ?_
        repeat' (first | refine run ⟨?_⟩ | fail)
        try first | refine and_f h6 ?_ | refine gt_f h6 ?_ | refine gd_f h6 ?_
        repeat' (first | refine run ⟨?_⟩ | fail)
        try first | refine and_f (decide_eq_false h7) ?_ | refine gt_f (decide_eq_false h7) ?_ | refine gd_f (decide_eq_false h7) ?_
        repeat' (first | refine run ⟨?_⟩ | fail)
        show _ = _
        simp [oneOf, knownB, *]
 ·skip
  cases h8 : isTy k with
  | true =>
   repeat' (first | refine run ⟨?_⟩ | fail)
   try first | refine and_f (decide_eq_false h1) ?_ | refine gt_f (decide_eq_false h1) ?_ | refine gd_f (decide_eq_false h1) ?_
   repeat' (first | refine run ⟨?_⟩ | fail)
   try refine ca (isType_ev _ _) ?_
   repeat' (first | refine run ⟨?_⟩ | fail)
   try first | refine and_t h8 ?_ | refine gt_t h8 ?_ | refine gd_t h8 ?_
   repeat' (first | refine run ⟨?_⟩ | fail)
   show _ = _
   simp [oneOf, knownB, *]
  | false =>
   cases h9 : isSt k with
   | true =>
    repeat' (first | refine run ⟨?_⟩ | fail)
    try first | refine and_f (decide_eq_false h1) ?_ | refine gt_f (decide_eq_false h1) ?_ | refine gd_f (decide_eq_false h1) ?_
    repeat' (first | refine run ⟨?_⟩ | fail)
    try refine ca (isType_ev _ _) ?_
    repeat' (first | refine run ⟨?_⟩ | fail)
    try first | refine and_f h8 ?_ | refine gt_f h8 ?_ | refine gd_f h8 ?_
    repeat' (first | refine run ⟨?_⟩ | fail)
    try refine ca (isStmt_ev _ _) ?_
    repeat' (first | refine run ⟨?_⟩ | fail)
    try first | refine and_t h9 ?_ | refine gt_t h9 ?_ | refine gd_t h9 ?_
    repeat' (first | refine run ⟨?_⟩ | fail)
    show _ = _
    simp [oneOf, knownB, *]
   | false =>
    cases h10 : isPa k with
    | true =>
     repeat' (first | refine run ⟨?_⟩ | fail)
     try first | refine and_f (decide_eq_false h1) ?_ | refine gt_f (decide_eq_false h1) ?_ | refine gd_f (decide_eq_false h1) ?_
     repeat' (first | refine run ⟨?_⟩ | fail)
     try refine ca (isType_ev _ _) ?_
     repeat' (first | refine run ⟨?_⟩ | fail)
     try first | refine and_f h8 ?_ | refine gt_f h8 ?_ | refine gd_f h8 ?_
     repeat' (first | refine run ⟨?_⟩ | fail)
     try refine ca (isStmt_ev _ _) ?_
     repeat' (first | refine run ⟨?_⟩ | fail)
     try first | refine and_f h9 ?_ | refine gt_f h9 ?_ | refine gd_f h9 ?_
     repeat' (first | refine run ⟨?_⟩ | fail)
     try refine ca (isPattern_ev _ _) ?_
     repeat' (first | refine run ⟨?_⟩ | fail)
     try first | refine and_t h10 ?_ | refine gt_t h10 ?_ | refine gd_t h10 ?_
     repeat' (first | refine run ⟨?_⟩ | fail)
     show _ = _
     simp [oneOf, knownB, *]
    | false =>
     cases h11 : isEx k with
     | true =>
      repeat' (first | refine run ⟨?_⟩ | fail)
      try first | refine and_f (decide_eq_false h1) ?_ | refine gt_f (decide_eq_false h1) ?_ | refine gd_f (decide_eq_false h1) ?_
      repeat' (first | refine run ⟨?_⟩ | fail)
      try refine ca (isType_ev _ _) ?_
      repeat' (first | refine run ⟨?_⟩ | fail)
      try first | refine and_f h8 ?_ | refine gt_f h8 ?_ | refine gd_f h8 ?_
      repeat' (first | refine run ⟨?_⟩ | fail)
      try refine ca (isStmt_ev _ _) ?_
      repeat' (first | refine run ⟨?_⟩ | fail)
      try first | refine and_f h9 ?_ | refine gt_f h9 ?_ | refine gd_f h9 ?_
      repeat' (first | refine run ⟨?_⟩ | fail)
      try refine ca (isPattern_ev _ _) ?_
      repeat' (first | refine run ⟨?_⟩ | fail)
      try first | refine and_f h10 ?_ | refine gt_f h10 ?_ | refine gd_f h10 ?_
      repeat' (first | refine run ⟨?_⟩ | fail)
      try refine ca (isExpr_ev _ _) ?_
      repeat' (first | refine run ⟨?_⟩ | fail)
      try first | refine and_t h11 ?_ | refine gt_t h11 ?_ | refine gd_t h11 ?_
      repeat' (first | refine run ⟨?_⟩ | fail)
      show _ = _
      simp [oneOf, knownB, *]
     | false =>
      by_cases h12 : k = 36
      ·skip
       repeat' (first | refine run ⟨?_⟩ | fail)
       try first | refine and_f (decide_eq_false h1) ?_ | refine gt_f (decide_eq_false h1) ?_ | refine gd_f (decide_eq_false h1) ?_
       repeat' (first | refine run ⟨?_⟩ | fail)
       try refine ca (isType_ev _ _) ?_
       repeat' (first | refine run ⟨?_⟩ | fail)
       try first | refine and_f h8 ?_ | refine gt_f h8 ?_ | refine gd_f h8 ?_
       repeat' (first | refine run ⟨?_⟩ | fail)
       try refine ca (isStmt_ev _ _) ?_
       repeat' (first | refine run ⟨?_⟩ | fail)
       try first | refine and_f h9 ?_ | refine gt_f h9 ?_ | refine gd_f h9 ?_
       repeat' (first | refine run ⟨?_⟩ | fail)
       try refine ca (isPattern_ev _ _) ?_
       repeat' (first | refine run ⟨?_⟩ | fail)
       try first | refine and_f h10 ?_ | refine gt_f h10 ?_ | refine gd_f h10 ?_
       repeat' (first | refine run ⟨?_⟩ | fail)
       try refine ca (isExpr_ev _ _) ?_
       repeat' (first | refine run ⟨?_⟩ | fail)
       try first | refine and_f h11 ?_ | refine gt_f h11 ?_ | refine gd_f h11 ?_
       repeat' (first | refine run ⟨?_⟩ | fail)
       try first | refine and_t (decide_eq_true h12) ?_ | refine gt_t (decide_eq_true h12) ?_ | refine gd_t (decide_eq_true h12) ?_
       repeat' (first | refine run ⟨?_⟩ | fail)
       show _ = _
       simp [oneOf, knownB, *]
      ·skip
       repeat' (first | refine run ⟨?_⟩ | fail)
       try first | refine and_f (decide_eq_false h1) ?_ | refine gt_f (decide_eq_false h1) ?_ | refine gd_f (decide_eq_false h1) ?_
       repeat' (first | refine run ⟨?_⟩ | fail)
       try refine ca (isType_ev _ _) ?_
       repeat' (first | refine run ⟨?_⟩ | fail)
       try first | refine and_f h8 ?_ | refine gt_f h8 ?_ | refine gd_f h8 ?_
       repeat' (first | refine run ⟨?_⟩ | fail)
       try refine ca (isStmt_ev _ _) ?_
       repeat' (first | refine run ⟨?_⟩ | fail)
       try first | refine and_f h9 ?_ | refine gt_f h9 ?_ | refine gd_f h9 ?_
       repeat' (first | refine run ⟨?_⟩ | fail)
       try refine ca (isPattern_ev _ _) ?_
       repeat' (first | refine run ⟨?_⟩ | fail)
       try first | refine and_f h10 ?_ | refine gt_f h10 ?_ | refine gd_f h10 ?_
       repeat' (first | refine run ⟨?_⟩ | fail)
       try refine ca (isExpr_ev _ _) ?_
       repeat' (first | refine run ⟨?_⟩ | fail)
       try first | refine and_f h11 ?_ | refine gt_f h11 ?_ | refine gd_f h11 ?_
       repeat' (first | refine run ⟨?_⟩ | fail)
       try first | refine and_f (decide_eq_false h12) ?_ | refine gt_f (decide_eq_false h12) ?_ | refine gd_f (decide_eq_false h12) ?_
       repeat' (first | refine run ⟨?_⟩ | fail)
       show _ = _
       simp [oneOf, knownB, *]
theorem sign_ev (s : List UInt8) : evF (pgL fx F) n_tree_sign [str s] H = some (boo (decide (s ∈ signsL)), H) := by
 refine evF_wp (t_tree_sign (F := F)) rfl rfl ?_ H
 repeat' refine And.intro (fun h => ?_) (fun h => ?_)
 all_goals show _ = _
 all_goals simp only [decide_eq_true_eq, decide_eq_false_iff_not] at *
 all_goals simp [oneOf, signsL, *]
end
end Go.Vm.Itr
namespace Go.Vm.Itr
open Go.Vm.Ite
open Go.Vm.Tp
open Go.Vm.Lex (nameB)
set_option maxRecDepth 10000
section
variable {fx : Nat → Option Obj} {F : Nat → Option VFun} (H : Hp)
set_option maxHeartbeats 2000000 in
theorem shape_ev (x : Nd) : evF (pgL fx F) n_tree_shape [ndV x] H = some (str (shapeL x.k x.v), H) := by
 obtain ⟨k, t, v, kids, f, e⟩ := x
 refine evF_wp (t_tree_shape (F := F)) rfl rfl ?_ H
 by_cases c1 : k = 1
 ·subst c1
  repeat' (first | refine run ⟨?_⟩ | fail)
  exact rfl
 by_cases c2 : k = 2
 ·subst c2
  repeat' (first | refine run ⟨?_⟩ | fail)
  exact rfl
 by_cases c3 : k = 3
 ·subst c3
  repeat' (first | refine run ⟨?_⟩ | fail)
  exact rfl
 by_cases c4 : k = 4
 ·subst c4
  repeat' (first | refine run ⟨?_⟩ | fail)
  exact rfl
 by_cases c5 : k = 5
 ·subst c5
  repeat' (first | refine run ⟨?_⟩ | fail)
  exact rfl
 by_cases c7 : k = 7
 ·subst c7
  repeat' (first | refine run ⟨?_⟩ | fail)
  exact rfl
 by_cases c14 : k = 14
 ·subst c14
  repeat' (first | refine run ⟨?_⟩ | fail)
  exact rfl
 by_cases c15 : k = 15
 ·subst c15
  repeat' (first | refine run ⟨?_⟩ | fail)
  exact rfl
 by_cases c16 : k = 16
 ·subst c16
  repeat' (first | refine run ⟨?_⟩ | fail)
  exact rfl
 by_cases c6 : k = 6
 ·subst c6
  repeat' (first | refine run ⟨?_⟩ | fail)
  exact rfl
 by_cases c21 : k = 21
 ·subst c21
  repeat' (first | refine run ⟨?_⟩ | fail)
  exact rfl
 by_cases c23 : k = 23
 ·subst c23
  repeat' (first | refine run ⟨?_⟩ | fail)
  exact rfl
 by_cases c38 : k = 38
 ·subst c38
  repeat' (first | refine run ⟨?_⟩ | fail)
  exact rfl
 by_cases c24 : k = 24
 ·subst c24
  repeat' (first | refine run ⟨?_⟩ | fail)
  exact rfl
 by_cases c25 : k = 25
 ·subst c25
  repeat' (first | refine run ⟨?_⟩ | fail)
  exact rfl
 by_cases c37 : k = 37
 ·subst c37
  repeat' (first | refine run ⟨?_⟩ | fail)
  exact rfl
 by_cases c34 : k = 34
 ·subst c34
  repeat' (first | refine run ⟨?_⟩ | fail)
  exact rfl
 by_cases c35 : k = 35
 ·subst c35
  repeat' (first | refine run ⟨?_⟩ | fail)
  exact rfl
 by_cases c22 : k = 22
 ·subst c22
  repeat' (first | refine run ⟨?_⟩ | fail)
  exact rfl
 by_cases c36 : k = 36
 ·subst c36
  repeat' (first | refine run ⟨?_⟩ | fail)
  exact rfl
 by_cases c41 : k = 41
 ·subst c41
  repeat' (first | refine run ⟨?_⟩ | fail)
  exact rfl
 by_cases c39 : k = 39
 ·subst c39
  repeat' (first | refine run ⟨?_⟩ | fail)
  exact rfl
 by_cases c40 : k = 40
 ·subst c40
  repeat' (first | refine run ⟨?_⟩ | fail)
  exact rfl
 by_cases c42 : k = 42
 ·subst c42
  repeat' (first | refine run ⟨?_⟩ | fail)
  exact rfl
 by_cases c44 : k = 44
 ·subst c44
  repeat' (first | refine run ⟨?_⟩ | fail)
  exact rfl
 by_cases c43 : k = 43
 ·subst c43
  repeat' (first | refine run ⟨?_⟩ | fail)
  exact rfl
 by_cases c45 : k = 45
 ·subst c45
  repeat' (first | refine run ⟨?_⟩ | fail)
  exact rfl
 by_cases c46 : k = 46
 ·subst c46
  repeat' (first | refine run ⟨?_⟩ | fail)
  exact rfl
 by_cases c47 : k = 47
 ·subst c47
  repeat' (first | refine run ⟨?_⟩ | fail)
  exact rfl
 by_cases c54 : k = 54
 ·subst c54
  repeat' (first | refine run ⟨?_⟩ | fail)
  exact rfl
 by_cases c20 : k = 20
 ·subst c20
  by_cases hv : v = 1
  ·subst hv
   repeat' (first | refine run ⟨?_⟩ | fail)
   exact rfl
  rw [show shapeL 20 v = [42, 115] by simp [shapeL, shapeP, shapeOf, hv]]
  repeat' (first | refine run ⟨?_⟩ | fail)
  exact rfl
 have e0 : shapeL k v = [] := by
  unfold shapeL shapeP
  simp only [c1, c2, c3, c4, c5, c7, c14, c15, c16, c6, c21, c23, c38, c24, c25, c37, c34, c35, c22, c36, c41, c39, c40, c42, c44, c43, c45, c46, c47, c54, c20, if_false, or_self]
  rfl
 rw [e0]
 repeat' (first | refine run ⟨?_⟩ | fail)
 exact rfl
end
end Go.Vm.Itr
namespace Go.Vm.Itr
open Go.Vm.Ite
open Go.Vm.Tp
open Go.Vm.Lex (nameB)
set_option maxRecDepth 10000
section
variable {fx : Nat → Option Obj} {F : Nat → Option VFun} [HC F] (H : Hp)
theorem ib_ev (s : List UInt8) (c : UInt8) : evF (pgL fx F) n_primIndexByte [str s, u8 c] H = some (i64 (Lib.indexByte s c), H) := by
 rw [evF_prim (t_primIndexByte (F := F))]
 show some (V.d (D.int .i64 (Lib.indexByte s ((c.toNat : Int)).toNat.toUInt8)), H) = _
 simp
theorem cut_ev (s : List UInt8) (hs : s.length ≤ 1048576) : evF (pgL fx F) n_primCut [str s, str [58, 58]] H = some (.tup [str (cutT s).1, str (cutT s).2.1, boo (cutT s).2.2], H) := by
 rw [evF_prim (t_primCut (F := F))]
 exact if_pos (by omega)
theorem cutT_len (s : List UInt8) : (cutT s).1.length ≤ s.length ∧ (cutT s).2.1.length ≤ s.length := by
 unfold cutT Lib.cut
 split <;> simp <;> omega
theorem maxl {n : Nat} (h : n ≤ 1048576) : n ≤ maxLen := by unfold maxLen; omega
theorem tname_ev (x : Nd) (hx : x.t.length ≤ 1048576) : evF (pgL fx F) n_tree_name [ndV x] H = some (boo (nmB x.k x.t), H) := by
 obtain ⟨k, t, v, kids, f, e⟩ := x
 simp only at hx ⊢
 refine evF_wp (t_tree_name (F := F)) rfl rfl ?_ H
 by_cases hA : k = 2 ∨ k = 3 ∨ k = 4 ∨ k = 5 ∨ k = 6 ∨ k = 7 ∨ k = 13 ∨ k = 21 ∨ k = 33 ∨ k = 34 ∨ k = 35 ∨ k = 36 ∨ k = 41 ∨ k = 51
 ·have e0 : nmB k t = nameB t := by unfold nmB; rw [if_pos hA]
  rw [e0]
  rcases hA with rfl | rfl | rfl | rfl | rfl | rfl | rfl | rfl | rfl | rfl | rfl | rfl | rfl | rfl
  all_goals
   repeat' (first | refine run ⟨?_⟩ | refine ca (name_ev _ _ (maxl hx)) ?_ | fail)
   exact rfl
 have e1 : nmB k t = if k = 37 ∨ k = 54 then (cutT t).2.2 && nameB (cutT t).1 && nameB (cutT t).2.1 else if k = 38 then decide (t ∈ signsL) else decide (t = []) := by unfold nmB; exact if_neg hA
 rw [e1]
 clear e1
 simp only [not_or] at hA
 obtain ⟨a2, a3, a4, a5, a6, a7, a13, a21, a33, a34, a35, a36, a41, a51⟩ := hA
 try refine and_f (decide_eq_false a2) ?_
 repeat' (first | refine run ⟨?_⟩ | fail)
 try refine and_f (decide_eq_false a3) ?_
 repeat' (first | refine run ⟨?_⟩ | fail)
 try refine and_f (decide_eq_false a4) ?_
 repeat' (first | refine run ⟨?_⟩ | fail)
 try refine and_f (decide_eq_false a5) ?_
 repeat' (first | refine run ⟨?_⟩ | fail)
 try refine and_f (decide_eq_false a6) ?_
 repeat' (first | refine run ⟨?_⟩ | fail)
 try refine and_f (decide_eq_false a7) ?_
 repeat' (first | refine run ⟨?_⟩ | fail)
 try refine and_f (decide_eq_false a13) ?_
 repeat' (first | refine run ⟨?_⟩ | fail)
 try refine and_f (decide_eq_false a21) ?_
 repeat' (first | refine run ⟨?_⟩ | fail)
 try refine and_f (decide_eq_false a33) ?_
 repeat' (first | refine run ⟨?_⟩ | fail)
 try refine and_f (decide_eq_false a34) ?_
 repeat' (first | refine run ⟨?_⟩ | fail)
 try refine and_f (decide_eq_false a35) ?_
 repeat' (first | refine run ⟨?_⟩ | fail)
 try refine and_f (decide_eq_false a36) ?_
 repeat' (first | refine run ⟨?_⟩ | fail)
 try refine and_f (decide_eq_false a41) ?_
 repeat' (first | refine run ⟨?_⟩ | fail)
 try refine and_f (decide_eq_false a51) ?_
 repeat' (first | refine run ⟨?_⟩ | fail)
 have hc := cutT_len t
 by_cases hB : k = 37 ∨ k = 54
 ·rw [if_pos hB]
  have st : k = 37 ∨ k = 54 → True := fun _ => trivial
  rcases hB with rfl | rfl
  all_goals
   repeat' (first | refine run ⟨?_⟩ | refine ca (cut_ev _ _ hx) ?_ | fail)
   cases h1 : (cutT t).2.2 with
   | false =>
    repeat' (first | refine run ⟨?_⟩ | fail)
    exact rfl
   | true =>
    repeat' (first | refine run ⟨?_⟩ | refine ca (name_ev _ _ (maxl (Nat.le_trans hc.1 hx))) ?_ | fail)
    cases h2 : nameB (cutT t).1 with
    | false =>
     repeat' (first | refine run ⟨?_⟩ | fail)
     exact rfl
    | true =>
     repeat' (first | refine run ⟨?_⟩ | refine ca (name_ev _ _ (maxl (Nat.le_trans hc.2 hx))) ?_ | fail)
     exact rfl
 rw [if_neg hB]
 simp only [not_or] at hB
 try refine and_f (decide_eq_false hB.1) ?_
 repeat' (first | refine run ⟨?_⟩ | fail)
 try refine and_f (decide_eq_false hB.2) ?_
 repeat' (first | refine run ⟨?_⟩ | fail)
 by_cases hC : k = 38
 ·subst hC
  repeat' (first | refine run ⟨?_⟩ | refine ca (sign_ev _ _) ?_ | fail)
  exact rfl
 rw [if_neg hC]
 try refine and_f (decide_eq_false hC) ?_
 repeat' (first | refine run ⟨?_⟩ | fail)
 exact rfl
theorem num_ev (x : Nd) (p : Int) : evF (pgL fx F) n_tree_num [ndV x, i64 p] H = some (boo (numB x.k x.v p), H) := by
 have _u := (inferInstance : HC F)
 obtain ⟨k, t, v, kids, f, e⟩ := x
 simp only
 refine evF_wp (t_tree_num (F := F)) rfl rfl ?_ H
 by_cases h2 : k = 2
 ·subst h2
  repeat' (first | refine run ⟨?_⟩ | fail)
  exact rfl
 try refine and_f (decide_eq_false h2) ?_
 repeat' (first | refine run ⟨?_⟩ | fail)
 by_cases hA : k = 7 ∨ k = 20 ∨ k = 21 ∨ k = 31 ∨ k = 53 ∨ k = 43
 ·have e0 : numB k v p = (decide (v = 0) || decide (v = 1)) := by unfold numB; rw [if_neg h2, if_pos hA]
  rw [e0]
  rcases hA with rfl | rfl | rfl | rfl | rfl | rfl
  all_goals
   by_cases h0 : v = 0
   ·subst h0
    repeat' (first | refine run ⟨?_⟩ | fail)
    exact rfl
   ·repeat' (first | refine run ⟨?_⟩ | fail)
    try refine gd_f (decide_eq_false h0) ?_
    repeat' (first | refine run ⟨?_⟩ | fail)
    show _ = _
    rw [decide_eq_false h0]; rfl
 have e1 : numB k v p = (if k = 30 then decide (0 ≤ v) else if k = 52 then decide (-9223372036854775808 < v) else decide (v = 0)) := by unfold numB; rw [if_neg h2, if_neg hA]
 rw [e1]
 simp only [not_or] at hA
 obtain ⟨a1, a2, a3, a4, a5, a6⟩ := hA
 try refine and_f (decide_eq_false a1) ?_
 repeat' (first | refine run ⟨?_⟩ | fail)
 try refine and_f (decide_eq_false a2) ?_
 repeat' (first | refine run ⟨?_⟩ | fail)
 try refine and_f (decide_eq_false a3) ?_
 repeat' (first | refine run ⟨?_⟩ | fail)
 try refine and_f (decide_eq_false a4) ?_
 repeat' (first | refine run ⟨?_⟩ | fail)
 try refine and_f (decide_eq_false a5) ?_
 repeat' (first | refine run ⟨?_⟩ | fail)
 try refine and_f (decide_eq_false a6) ?_
 repeat' (first | refine run ⟨?_⟩ | fail)
 by_cases h30 : k = 30
 ·subst h30
  repeat' (first | refine run ⟨?_⟩ | fail)
  exact rfl
 rw [if_neg h30]
 try refine and_f (decide_eq_false h30) ?_
 repeat' (first | refine run ⟨?_⟩ | fail)
 by_cases h52 : k = 52
 ·subst h52
  repeat' (first | refine run ⟨?_⟩ | fail)
  exact rfl
 rw [if_neg h52]
 try refine and_f (decide_eq_false h52) ?_
 repeat' (first | refine run ⟨?_⟩ | fail)
 exact rfl
end
end Go.Vm.Itr
namespace Go.Vm.Itr
open Go.Vm.Ite
open Go.Vm.Tp
set_option maxRecDepth 10000
def okS (s : List UInt8) : Bool := s.all (fun c => !decide (c = 42)) && !decide (s.getLast? = some 63) && decide (s.length ≤ 4)
theorem ite_ind {α : Type} {P : α → Prop} {c : Prop} [Decidable c] {a b : α} (ha : P a) (hb : P b) : P (if c then a else b) := by split <;> assumption
def PShape (p : List UInt8 × Option UInt8 × List UInt8) : Prop := okS p.1 = true ∧ okS p.2.2 = true ∧ (p.2.1 = none → p.2.2 = [])
theorem shapeP_ok (k v : Int) : PShape (shapeP k v) := by
 unfold shapeP
 repeat' refine ite_ind ?_ ?_
 all_goals exact ⟨by decide, by decide, by decide⟩
theorem okS_last {s : List UInt8} (h : okS s = true) : ∀ a, s ≠ a ++ [63] := by
 rintro a rfl
 simp [okS] at h
theorem okS_len {s : List UInt8} (h : okS s = true) : s.length ≤ 4 := by simp [okS] at h; exact h.2
theorem okS_no {s : List UInt8} (h : okS s = true) : 42 ∉ s := by
 simp only [okS, Bool.and_eq_true] at h
 intro hm
 have := List.all_eq_true.1 h.1.1 42 hm
 simp at this
theorem ib_not {s : List UInt8} (h : 42 ∉ s) : Lib.indexByte s 42 = -1 := by
 induction s with
 | nil => rfl
 | cons a r ih =>
  simp only [List.mem_cons, not_or] at h
  unfold Lib.indexByte
  rw [ih h.2, if_neg (by simpa using fun e : a = 42 => h.1 e.symm)]; rfl
theorem ib_at (a r : List UInt8) (h : 42 ∉ a) : Lib.indexByte (a ++ 42 :: r) 42 = a.length := by
 induction a with
 | nil => simp [Lib.indexByte]
 | cons b a ih =>
  simp only [List.mem_cons, not_or] at h
  rw [List.cons_append]
  unfold Lib.indexByte
  rw [ih h.2, if_neg (by simpa using fun e : b = 42 => h.1 e.symm), if_neg (by simp)]
  simp
section
variable {fx : Nat → Option Obj} {F : Nat → Option VFun} [HC F] (H : Hp)
set_option maxHeartbeats 2000000 in
theorem fits_ev (x : Nd) (ks : List Int) (hk : ks.length ≤ 1048576) : evF (pgL fx F) n_tree_fits [ndV x, ints ks] H = some (boo (fitsB x.k x.v ks), H) := by
 refine evF_wp (t_tree_fits (F := F)) rfl rfl ?_ H
 have hsh := fun H => shape_ev (fx := fx) (F := F) H x
 obtain ⟨o1, o2, o3⟩ := shapeP_ok x.k x.v
 unfold fitsB
 unfold shapeL at hsh
 generalize shapeP x.k x.v = p at *
 obtain ⟨a, m, b⟩ := p
 simp only at o1 o2 o3 ⊢
 refine ca (hsh _) ?_
 have hal := okS_len o1
 have hbl := okS_len o2
 cases m with
 | none =>
  have hb := o3 rfl
  refine ca (ib_ev _ _ 42) ?_
  simp only [shapeOf]
  rw [ib_not (okS_no o1)]
  repeat' (first | refine run ⟨?_⟩ | fail)
  refine ca (kids_ev _ a ks (Nat.le_refl _) (okS_last o1) _) ?_
  exact rfl
 | some c =>
  simp only [shapeOf]
  refine ca (ib_ev _ _ 42) ?_
  rw [ib_at _ _ (okS_no o1)]
  refine and_f (decide_eq_false (by omega)) ?_
  have hsl : (a ++ 42 :: c :: b).length = a.length + b.length + 2 := by simp; omega
  have hr : IntKind.i64.wrap (IntKind.i64.wrap (((a ++ 42 :: c :: b).length : Int) - (a.length : Int)) - 2) = (b.length : Int) := by
   rw [hsl, i64w (n := ((a.length + b.length + 2 : Nat) : Int) - (a.length : Int)) (by omega), i64w (by omega)]; omega
  have hsum : IntKind.i64.wrap ((a.length : Int) + (b.length : Int)) = ((a.length + b.length : Nat) : Int) := by rw [i64w (by omega)]; omega
  by_cases hlt : ks.length < a.length + b.length
  ·refine and_t (decide_eq_true (by rw [hr, hsum, List.length_map]; omega)) ?_
   show _ = _
   rw [decide_eq_false (by omega : ¬ a.length + b.length ≤ ks.length)]; rfl
  refine and_f (decide_eq_false (by rw [hr, hsum, List.length_map]; omega)) ?_
  rw [hr]
  have he : IntKind.i64.wrap (((ks.map (D.int .i64)).length : Int) - (b.length : Int)) = ((ks.length - b.length : Nat) : Int) := by rw [List.length_map, i64w (by omega)]; omega
  have e1 : (a ++ 42 :: c :: b).take a.length = a := by simp
  have e2 : (a ++ 42 :: c :: b).drop (a.length + 2) = b := by rw [List.drop_append]; simp
  rw [decide_eq_true (by omega : a.length + b.length ≤ ks.length), Bool.true_and]
  refine And.intro (by omega) ?_
  refine And.intro ⟨by omega, by simp⟩ ?_
  refine And.intro (by omega) ?_
  refine And.intro ⟨by omega, by simp; omega, rfl⟩ ?_
  rw [show List.drop 0 (List.take (Int.toNat (a.length : Int)) (a ++ 42 :: c :: b)) = a from by simp, show List.drop 0 (List.take (Int.toNat (a.length : Int)) (ks.map (D.int .i64))) = (ks.take a.length).map (D.int .i64) from by simp]
  refine ca (kids_ev _ a (ks.take a.length) (Nat.le_refl _) (okS_last o1) _) ?_
  repeat' (first | refine run ⟨?_⟩ | fail)
  cases hk1 : kidsB a (ks.take a.length) with
  | false =>
   repeat' (first | refine run ⟨?_⟩ | fail)
   show _ = _
   simp [oneOf]
  | true =>
   repeat' (first | refine run ⟨?_⟩ | fail)
   refine pickD (d := c) ⟨by rw [i64w (by omega)]; omega, by rw [i64w (by omega)]; rw [show (Int.toNat ((a.length : Int) + 1)) = a.length + 1 by omega]; rw [List.getElem?_append_right (by omega)]; simp⟩ ?_
   refine And.intro (by omega) ?_
   refine And.intro (by rw [he]; omega) ?_
   refine And.intro ⟨by rw [he]; omega, by rw [he, List.length_map]; omega, by rw [ints_one]; rfl⟩ ?_
   rw [he]
   rw [show List.drop (Int.toNat (a.length : Int)) (List.take (Int.toNat ((ks.length - b.length : Nat) : Int)) (ks.map (D.int .i64))) = ((ks.take (ks.length - b.length)).drop a.length).map (D.int .i64) from by simp]
   refine ca (all_ev _ ((ks.take (ks.length - b.length)).drop a.length) c (by simp; omega)) ?_
   repeat' (first | refine run ⟨?_⟩ | fail)
   cases hk2 : ((ks.take (ks.length - b.length)).drop a.length).all (lett c) with
   | false =>
    repeat' (first | refine run ⟨?_⟩ | fail)
    show _ = _
    simp [oneOf]
   | true =>
    repeat' (first | refine run ⟨?_⟩ | fail)
    refine And.intro (by rw [i64w (by omega)]; omega) ?_
    refine And.intro ⟨by rw [i64w (by omega), hsl]; omega, Nat.le_refl _⟩ ?_
    refine And.intro (by omega) ?_
    refine And.intro ⟨by simp, Nat.le_refl _, by rw [ints_one]; rfl⟩ ?_
    rw [i64w (n := (a.length : Int) + 2) (by omega)]
    rw [show List.drop (Int.toNat ((a.length : Int) + 2)) (List.take (a ++ 42 :: c :: b).length (a ++ 42 :: c :: b)) = b from by rw [List.take_length, show Int.toNat ((a.length : Int) + 2) = a.length + 2 by omega, e2]]
    rw [show List.drop (Int.toNat ((ks.length - b.length : Nat) : Int)) (List.take (ks.map (D.int .i64)).length (ks.map (D.int .i64))) = (ks.drop (ks.length - b.length)).map (D.int .i64) from by rw [List.take_length]; simp]
    refine ca (kids_ev _ b (ks.drop (ks.length - b.length)) (Nat.le_refl _) (okS_last o2) _) ?_
    repeat' (first | refine run ⟨?_⟩ | fail)
    show _ = _
    simp [oneOf]
end
end Go.Vm.Itr
namespace Go.Vm.Itr
open Go.Vm.Ite
open Go.Vm.Tp
set_option maxRecDepth 10000
abbrev nd (t : List Nd) (i : Nat) : Nd := t.getD i default
theorem nd_get {t : List Nd} {i : Nat} (h : i < t.length) : t[i]? = some (nd t i) := by
 rw [List.getElem?_eq_getElem h]; simp [nd, h]
theorem nd_mem {t : List Nd} {i : Nat} (h : i < t.length) : nd t i ∈ t := List.mem_of_getElem? (nd_get h)
theorem ndD_get {t : List Nd} {i : Nat} (h : i < t.length) : (t.map Nd.D)[i]? = some (nd t i).D := by rw [List.getElem?_map, nd_get h]; rfl
theorem ndD_at {t : List Nd} {k : Int} (h0 : 0 ≤ k) (h : k < t.length) : 0 ≤ k ∧ (t.map Nd.D)[k.toNat]? = some (nd t k.toNat).D := ⟨h0, ndD_get (by omega)⟩
def kidOk (i : Nat) (k : Int) : Bool := decide (0 ≤ k) && decide (k < i)
theorem nodeB_kids {t : List Nd} {i : Nat} (h : (nd t i).kids.all (kidOk i) = false) : nodeB t i = false := by
 show ((nd t i).kids.all (kidOk i) && _) = false
 rw [h]; rfl
theorem kinds_take {t : List Nd} {l : List Int} {j : Nat} (h : j < l.length) : kinds t (l.take (j + 1)) = kinds t (l.take j) ++ [kindAt t l[j]] := by
 unfold kinds
 rw [List.take_add_one, List.getElem?_eq_getElem h, List.map_append]; rfl
theorem params_snoc (ks : List Int) (k : Int) : params (ks ++ [k]) = params ks + (if k = 7 then 1 else 0) := by
 unfold params
 rw [List.filter_append, List.length_append]
 by_cases h : k = 7
 ·simp [h]
 ·simp [h]
theorem params_le (ks : List Int) : 0 ≤ params ks ∧ params ks ≤ ks.length := by
 unfold params
 have := List.length_filter_le (fun k => decide (k = 7)) ks
 omega
section
variable {fx : Nat → Option Obj} {F : Nat → Option VFun} [HC F] (H : Hp)
set_option maxHeartbeats 4000000 in
theorem tnode_ev (t : List Nd) (hf : Fine t) (i : Nat) (hi : i < t.length) : evF (pgL fx F) n_tree_node [.d (treeD t), i64 i] H = some (boo (nodeB t i), H) := by
 refine evF_wp (t_tree_node (F := F)) rfl rfl ?_ H
 have htl := hf.len
 obtain ⟨x, hxe⟩ : ∃ x, x = nd t i := ⟨_, rfl⟩
 have hnb : nodeB t i = (x.kids.all (kidOk i) && (knownB x.k && nmB x.k x.t && numB x.k x.v (params (kinds t x.kids)) && decide (0 ≤ x.f) && decide (x.f ≤ x.e) && fitsB x.k x.v (kinds t x.kids))) := by rw [hxe]; rfl
 have hx : x ∈ t := by rw [hxe]; exact nd_mem hi
 refine pickD (d := x.D) (by rw [hxe]; exact ndD_at (k := (i : Int)) (by omega) (by omega)) ?_
 refine And.intro rfl ?_
 rw [hnb]
 have hkl := hf.kid x hx
 have htx := hf.txt x hx
 clear hnb
 refine wp_loop (α := Nat) (fun j => x.kids.length - j) (fun j => [(1, i64 i), (2, .ptr 0 0), (5, .ptr 1 0), (6, .row 2 j), (7, i64 (params (kinds t (x.kids.take j)))), (16, ints x.kids), (17, i64 (x.kids.map (D.int .i64)).length), (18, i64 j)])
   (fun j => [.box [.d (.sl (t.map Nd.D))], .box [i64 x.k, str x.t, i64 x.v, ints x.kids, i64 x.f, i64 x.e], .row 1 ((kinds t (x.kids.take j)).map (D.int .i64))]) (fun j => j ≤ x.kids.length ∧ (x.kids.take j).all (kidOk i) = true) ?_ 0 ⟨by omega, by simp⟩
 rintro j ⟨hj, hall⟩
 refine And.intro (fun h => ?_) (fun h => ?_)
 ·replace h := of_decide_eq_true h
  rw [List.length_map] at h
  have hlt : j < x.kids.length := by omega
  refine idx_of (s := x.kids.map (D.int .i64)) (by rw [List.length_map]; exact hlt) ?_
  rw [List.getElem_map]
  refine And.intro rfl ?_
  have bad : kidOk i x.kids[j] = false → x.kids.all (kidOk i) = false := by
   intro hb
   cases hc : x.kids.all (kidOk i) with
   | false => rfl
   | true => have := List.all_eq_true.1 hc _ (List.getElem_mem hlt); rw [hb] at this; cases this
  by_cases k0 : x.kids[j] < 0
  ·refine gd_t (decide_eq_true k0) ?_
   repeat' (first | refine run ⟨?_⟩ | fail)
   show _ = _
   rw [bad (by unfold kidOk; rw [decide_eq_false (by omega)]; rfl)]; rfl
  refine gd_f (decide_eq_false k0) ?_
  by_cases k1 : (i : Int) ≤ x.kids[j]
  ·refine and_t (decide_eq_true k1) ?_
   show _ = _
   rw [bad (by unfold kidOk; rw [decide_eq_false (by omega : ¬ x.kids[j] < (i : Int)), Bool.and_false])]; rfl
  refine and_f (decide_eq_false k1) ?_
  have hko : kidOk i x.kids[j] = true := by unfold kidOk; rw [decide_eq_true (by omega), decide_eq_true (by omega)]; rfl
  refine pickD (d := (nd t x.kids[j].toNat).D) (ndD_at (by omega) (by omega)) ?_
  refine And.intro rfl ?_
  have hkd : (nd t x.kids[j].toNat).k = kindAt t x.kids[j] := rfl
  have hkt := kinds_take (t := t) hlt
  have hlk : (kinds t (x.kids.take j)).length = j := by simp [kinds]; omega
  have hpl := params_le (kinds t (x.kids.take j))
  have hps := params_snoc (kinds t (x.kids.take j)) (kindAt t x.kids[j])
  rw [← hkt] at hps
  have hnext : (x.kids.take (j + 1)).all (kidOk i) = true := all_upto hlt hall hko
  refine And.intro ⟨rfl, by decide⟩ ?_
  refine And.intro ⟨rfl, by rw [List.length_map, hlk], by unfold roomy; simp; omega⟩ ?_
  refine pickD (d := (nd t x.kids[j].toNat).D) (ndD_at (by omega) (by omega)) ?_
  refine And.intro rfl ?_
  rw [hkd]
  by_cases k7 : kindAt t x.kids[j] = 7
  ·refine and_t (decide_eq_true k7) ?_
   rw [if_pos k7] at hps
   refine ⟨j + 1, ⟨by omega, hnext⟩, by omega, ?_, ?_⟩
   ·rw [i64w (n := params _ + 1) (by omega), i64w (by omega), hps]; rfl
   ·rw [hkt, List.map_append]; rfl
  ·refine and_f (decide_eq_false k7) ?_
   rw [if_neg k7] at hps
   refine ⟨j + 1, ⟨by omega, hnext⟩, by omega, ?_, ?_⟩
   ·rw [i64w (by omega), hps, Int.add_zero]; rfl
   ·rw [hkt, List.map_append]; rfl
 ·replace h := of_decide_eq_false h
  rw [List.length_map] at h
  have hj' : j = x.kids.length := by omega
  subst hj'
  rw [List.take_length] at hall ⊢
  rw [hall, Bool.true_and]
  clear hxe
  have hkl2 : (kinds t x.kids).length = x.kids.length := by simp [kinds]
  cases h1 : knownB x.k with
  | true =>
   cases h2 : nmB x.k x.t with
   | true =>
    cases h3 : numB x.k x.v (params (kinds t x.kids)) with
    | true =>
     by_cases h4 : 0 ≤ x.f
     ·skip
      by_cases h5 : x.f ≤ x.e
      ·skip
       repeat' (first | refine run ⟨?_⟩ | fail)
       try refine ca (known_ev _ _) ?_
       repeat' (first | refine run ⟨?_⟩ | fail)
       try first | refine and_t h1 ?_ | refine gt_t h1 ?_ | refine gd_t h1 ?_
       repeat' (first | refine run ⟨?_⟩ | fail)
       try refine ca (tname_ev _ x htx) ?_
       repeat' (first | refine run ⟨?_⟩ | fail)
       try first | refine and_t h2 ?_ | refine gt_t h2 ?_ | refine gd_t h2 ?_
       repeat' (first | refine run ⟨?_⟩ | fail)
       try refine ca (num_ev _ x _) ?_
       repeat' (first | refine run ⟨?_⟩ | fail)
       try first | refine and_t h3 ?_ | refine gt_t h3 ?_ | refine gd_t h3 ?_
       repeat' (first | refine run ⟨?_⟩ | fail)
       try first | refine and_t (decide_eq_true h4) ?_ | refine gt_t (decide_eq_true h4) ?_ | refine gd_t (decide_eq_true h4) ?_
       repeat' (first | refine run ⟨?_⟩ | fail)
       try first | refine and_t (decide_eq_true h5) ?_ | refine gt_t (decide_eq_true h5) ?_ | refine gd_t (decide_eq_true h5) ?_
       repeat' (first | refine run ⟨?_⟩ | fail)
       refine And.intro (by rw [List.length_map, hkl2]) ?_
       refine ca (fits_ev _ x (kinds t x.kids) (by omega)) ?_
       show _ = _
       simp [oneOf, *]
      ·skip
       repeat' (first | refine run ⟨?_⟩ | fail)
       try refine ca (known_ev _ _) ?_
       repeat' (first | refine run ⟨?_⟩ | fail)
       try first | refine and_t h1 ?_ | refine gt_t h1 ?_ | refine gd_t h1 ?_
       repeat' (first | refine run ⟨?_⟩ | fail)
       try refine ca (tname_ev _ x htx) ?_
       repeat' (first | refine run ⟨?_⟩ | fail)
       try first | refine and_t h2 ?_ | refine gt_t h2 ?_ | refine gd_t h2 ?_
       repeat' (first | refine run ⟨?_⟩ | fail)
       try refine ca (num_ev _ x _) ?_
       repeat' (first | refine run ⟨?_⟩ | fail)
       try first | refine and_t h3 ?_ | refine gt_t h3 ?_ | refine gd_t h3 ?_
       repeat' (first | refine run ⟨?_⟩ | fail)
       try first | refine and_t (decide_eq_true h4) ?_ | refine gt_t (decide_eq_true h4) ?_ | refine gd_t (decide_eq_true h4) ?_
       repeat' (first | refine run ⟨?_⟩ | fail)
       try first | refine and_f (decide_eq_false h5) ?_ | refine gt_f (decide_eq_false h5) ?_ | refine gd_f (decide_eq_false h5) ?_
       repeat' (first | refine run ⟨?_⟩ | fail)
       show _ = _
       simp [oneOf, *]
     ·skip
      repeat' (first | refine run ⟨?_⟩ | fail)
      try refine ca (known_ev _ _) ?_
      repeat' (first | refine run ⟨?_⟩ | fail)
      try first | refine and_t h1 ?_ | refine gt_t h1 ?_ | refine gd_t h1 ?_
      repeat' (first | refine run ⟨?_⟩ | fail)
      try refine ca (tname_ev _ x htx) ?_
      repeat' (first | refine run ⟨?_⟩ | fail)
      try first | refine and_t h2 ?_ | refine gt_t h2 ?_ | refine gd_t h2 ?_
      repeat' (first | refine run ⟨?_⟩ | fail)
      try refine ca (num_ev _ x _) ?_
      repeat' (first | refine run ⟨?_⟩ | fail)
      try first | refine and_t h3 ?_ | refine gt_t h3 ?_ | refine gd_t h3 ?_
      repeat' (first | refine run ⟨?_⟩ | fail)
      try first | refine and_f (decide_eq_false h4) ?_ | refine gt_f (decide_eq_false h4) ?_ | refine gd_f (decide_eq_false h4) ?_
      repeat' (first | refine run ⟨?_⟩ | fail)
      show _ = _
      simp [oneOf, *]
    | false =>
     repeat' (first | refine run ⟨?_⟩ | fail)
     try refine ca (known_ev _ _) ?_
     repeat' (first | refine run ⟨?_⟩ | fail)
     try first | refine and_t h1 ?_ | refine gt_t h1 ?_ | refine gd_t h1 ?_
     repeat' (first | refine run ⟨?_⟩ | fail)
     try refine ca (tname_ev _ x htx) ?_
     repeat' (first | refine run ⟨?_⟩ | fail)
     try first | refine and_t h2 ?_ | refine gt_t h2 ?_ | refine gd_t h2 ?_
     repeat' (first | refine run ⟨?_⟩ | fail)
     try refine ca (num_ev _ x _) ?_
     repeat' (first | refine run ⟨?_⟩ | fail)
     try first | refine and_f h3 ?_ | refine gt_f h3 ?_ | refine gd_f h3 ?_
     repeat' (first | refine run ⟨?_⟩ | fail)
     show _ = _
     simp [oneOf, *]
   | false =>
    repeat' (first | refine run ⟨?_⟩ | fail)
    try refine ca (known_ev _ _) ?_
    repeat' (first | refine run ⟨?_⟩ | fail)
    try first | refine and_t h1 ?_ | refine gt_t h1 ?_ | refine gd_t h1 ?_
    repeat' (first | refine run ⟨?_⟩ | fail)
    try refine ca (tname_ev _ x htx) ?_
    repeat' (first | refine run ⟨?_⟩ | fail)
    try first | refine and_f h2 ?_ | refine gt_f h2 ?_ | refine gd_f h2 ?_
    repeat' (first | refine run ⟨?_⟩ | fail)
    show _ = _
    simp [oneOf, *]
  | false =>
   repeat' (first | refine run ⟨?_⟩ | fail)
   try refine ca (known_ev _ _) ?_
   repeat' (first | refine run ⟨?_⟩ | fail)
   try first | refine and_f h1 ?_ | refine gt_f h1 ?_ | refine gd_f h1 ?_
   repeat' (first | refine run ⟨?_⟩ | fail)
   show _ = _
   simp [oneOf, *]
end
end Go.Vm.Itr
namespace Go.Vm.Itr
open Go.Vm.Ite
open Go.Vm.Tp
set_option maxRecDepth 10000
def KidsOk (t : List Nd) : Prop := ∀ i, i < t.length → (nd t i).kids.all (kidOk i) = true
abbrev arrI (l : List Int) : List V := l.map fun n => i64 n
theorem arrI_get {l : List Int} {i : Nat} (h : i < l.length) : (arrI l)[i]? = some (i64 (l.getD i 0)) := by
 rw [List.getElem?_map, List.getElem?_eq_getElem h]; simp [h]
theorem arrI_at {l : List Int} {i : Nat} (h : i < l.length) : (arrI l)[0 + i * 1]? = some (i64 (l.getD i 0)) := by rw [Nat.zero_add, Nat.mul_one]; exact arrI_get h
theorem arrI_allD (l : List Int) : allD (arrI l) = some (l.map (D.int .i64)) := by
 induction l with
 | nil => rfl
 | cons a l ih => rw [show arrI (a :: l) = i64 a :: arrI l from rfl, allD, ih]; rfl
theorem arrI_put {l : List Int} {i : Nat} (h : i < l.length) (n : Int) : putAt (arrI l) i [i64 n] = arrI (l.set i n) := putAt_map (fun n => i64 n) h
theorem get_getD {α : Type} {l : List α} {i : Nat} (h : i < l.length) (d : α) : l[i]? = some (l.getD i d) := by rw [List.getD_eq_getElem?_getD, List.getElem?_eq_getElem h]; rfl
theorem getD_of {l : List Int} {i : Nat} (h : i < l.length) (a b : Int) : l.getD i a = l.getD i b := by simp [h]
section
variable {fx : Nat → Option Obj} {F : Nat → Option VFun} [HC F] (H : Hp)
theorem index_ev (l : List Int) (v : Int) (hl : l.length ≤ 1048576) : evF (pgL fx F) n_slices_Index_int_int [ints l, i64 v] H = some (i64 (if l.contains v then ((l.idxOf v : Nat) : Int) else -1), H) := by
 have _u := (inferInstance : HC F)
 refine evF_wp (t_slices_Index_int_int (F := F)) rfl rfl ?_ H
 refine wp_loop (α := Nat) (fun i => l.length - i) (fun i => [(0, ints l), (1, i64 v), (7, i64 (l.map (D.int .i64)).length), (8, i64 i)]) (fun _ => []) (fun i => i ≤ l.length ∧ ∀ k ∈ l.take i, k ≠ v) ?_ 0 ⟨by omega, by simp⟩
 rintro i ⟨hi, hall⟩
 refine And.intro (fun h => ?_) (fun h => ?_)
 ·replace h := of_decide_eq_true h
  rw [List.length_map] at h
  have hlt : i < l.length := by omega
  refine idx_of (s := l.map (D.int .i64)) (by rw [List.length_map]; exact hlt) ?_
  rw [List.getElem_map]
  refine And.intro rfl ?_
  by_cases hk : v = l[i]
  ·refine and_t (decide_eq_true hk) ?_
   show _ = _
   have hc : l.contains v = true := by rw [List.contains_iff_mem, hk]; exact List.getElem_mem _
   have hx : l.idxOf v = i := by
    unfold List.idxOf
    rw [List.findIdx_eq hlt]
    refine ⟨by simp [hk], fun j hj => ?_⟩
    have : l[j] ∈ l.take i := by rw [List.mem_take_iff_getElem]; exact ⟨j, by omega, rfl⟩
    simpa using hall _ this
   rw [hc, hx]; rfl
  ·refine and_f (decide_eq_false hk) ?_
   refine ⟨i + 1, ⟨by omega, ?_⟩, by omega, ?_, rfl⟩
   ·intro k hkm
    rw [List.take_add_one, List.getElem?_eq_getElem hlt, List.mem_append] at hkm
    rcases hkm with hkm | hkm
    ·exact hall k hkm
    ·simp at hkm; rw [hkm]; exact fun e => hk e.symm
   ·rw [i64w (by omega)]; rfl
 ·replace h := of_decide_eq_false h
  rw [List.length_map] at h
  have hi' : i = l.length := by omega
  subst hi'
  rw [List.take_length] at hall
  show _ = _
  have hc : l.contains v = false := by
   cases hb : l.contains v with
   | false => rfl
   | true => rw [List.contains_iff_mem] at hb; exact absurd rfl (hall v hb)
  rw [hc]; rfl
theorem contains_ev (l : List Int) (v : Int) (hl : l.length ≤ 1048576) : evF (pgL fx F) n_slices_Contains_int_int [ints l, i64 v] H = some (boo (l.contains v), H) := by
 refine evF_wp (t_slices_Contains_int_int (F := F)) rfl rfl ?_ H
 refine ca (index_ev _ l v hl) ?_
 show V.d (.bool (decide ((0 : Int) ≤ if l.contains v then ((l.idxOf v : Nat) : Int) else -1))) = _
 cases l.contains v with
 | true => rw [if_pos rfl, decide_eq_true (by omega)]
 | false => rfl
set_option maxHeartbeats 4000000 in
theorem parents_ev (t : List Nd) (hf : Fine t) (hk : KidsOk t) : evF (pgL fx F) n_tree_parents [.d (treeD t)] H = some (match ups t with | none => .tup [.d (.sl []), boo false] | some up => .tup [ints up, boo (decide (up = []) || !up.dropLast.contains (-1))], H) := by
  refine evF_wp (t_tree_parents (F := F)) rfl rfl ?_ H
  have htl := hf.len
  have hnl : (t.map Nd.D).length = t.length := List.length_map ..
  refine And.intro ⟨by omega, by unfold roomy; omega⟩ ?_
  refine chk_of rfl ?_
  refine wp_loopE (α := Nat) (fun i => t.length - i) (fun i => [(1, .ptr 0 0), (4, .arr 1 0 t.length), (15, i64 t.length), (16, i64 i)])
    (fun i => [.box [.d (.sl (t.map Nd.D))], .box (arrI (List.replicate i (-1) ++ List.replicate (t.length - i) 0))]) (fun i => i ≤ t.length) ?_ 0 (by omega) ?_ ?_
  ·intro i hi
   refine And.intro (fun h => ?_) (fun h => ?_)
   ·replace h := of_decide_eq_true h
    have hlt : i < t.length := by omega
    refine And.intro ⟨by omega, by omega⟩ ?_
    refine st_of (by simp; omega) ?_
    refine ⟨i + 1, by omega, by omega, ?_, ?_⟩
    ·rw [i64w (by omega)]; rfl
    ·have e : (List.replicate i (-1 : Int) ++ List.replicate (t.length - i) 0).set i (-1) = List.replicate (i + 1) (-1) ++ List.replicate (t.length - (i + 1)) 0 := by
      rw [List.set_append_right _ _ (by simp), List.length_replicate, Nat.sub_self, show t.length - i = (t.length - (i + 1)) + 1 by omega, List.replicate_succ, List.set_cons_zero, List.replicate_succ', List.append_assoc]; rfl
     have e2 := arrI_put (l := List.replicate i (-1 : Int) ++ List.replicate (t.length - i) 0) (i := i) (by simp; omega) (-1)
     rw [e] at e2
     show [_, Ob.box (putAt _ (0 + i * 1) _)] = _
     rw [Nat.zero_add, Nat.mul_one, e2]
   ·replace h := of_decide_eq_false h
    have hi' : i = t.length := by omega
    subst hi'
    rw [Nat.sub_self, List.replicate_zero, List.append_nil]
    refine wp_loopE (α := Nat × List Int) (fun a => t.length - a.1) (fun a => [(4, .arr 1 0 t.length), (24, .d (.sl (t.map Nd.D))), (25, i64 t.length), (26, i64 a.1)])
      (fun a => [.box [.d (.sl (t.map Nd.D))], .box (arrI a.2)]) (fun a => a.1 ≤ t.length ∧ a.2.length = t.length ∧ upAll a.1 (t.drop a.1) a.2 = ups t) ?_ (0, List.replicate t.length (-1)) ⟨by omega, by simp, rfl⟩ ?_ ?_
    ·rintro ⟨i, out⟩ ⟨hi, hol, hup⟩
     simp only at hi hol hup ⊢
     refine And.intro (fun h => ?_) (fun h => ?_)
     ·replace h := of_decide_eq_true h
      have hlt : i < t.length := by omega
      obtain ⟨x, hxe⟩ : ∃ x, x = nd t i := ⟨_, rfl⟩
      have hx : x ∈ t := by rw [hxe]; exact nd_mem hlt
      have hkl := hf.kid x hx
      have hko : x.kids.all (kidOk i) = true := by rw [hxe]; exact hk i hlt
      have hdr : t.drop i = x :: t.drop (i + 1) := by rw [hxe, List.drop_eq_getElem_cons hlt]; congr 1; simp [nd, hlt]
      rw [hdr] at hup
      simp only [upAll] at hup
      refine pickD (d := x.D) (by rw [hxe]; exact ndD_at (k := (i : Int)) (by omega) (by omega)) ?_
      refine And.intro rfl ?_
      refine wp_loopE (α := Nat × List Int) (fun a => x.kids.length - a.1) (fun a => [(4, .arr 1 0 t.length), (6, i64 i), (24, .d (.sl (t.map Nd.D))), (25, i64 t.length), (26, i64 i), (32, ints x.kids), (33, i64 x.kids.length), (34, i64 a.1)])
        (fun a => [.box [.d (.sl (t.map Nd.D))], .box (arrI a.2), .box [i64 x.k, str x.t, i64 x.v, ints x.kids, i64 x.f, i64 x.e]]) (fun a => a.1 ≤ x.kids.length ∧ a.2.length = t.length ∧ upKids i (x.kids.drop a.1) a.2 = upKids i x.kids out) ?_ (0, out) ⟨by omega, hol, rfl⟩ ?_ ?_
      ·rintro ⟨j, o⟩ ⟨hj, hoj, hupj⟩
       simp only at hj hoj hupj ⊢
       refine And.intro (fun h => ?_) (fun h => ?_)
       ·replace h := of_decide_eq_true h
        have hjl : j < x.kids.length := by omega
        have hkj := List.all_eq_true.1 hko _ (List.getElem_mem hjl)
        simp only [kidOk, Bool.and_eq_true, decide_eq_true_eq] at hkj
        rw [List.drop_eq_getElem_cons hjl] at hupj
        simp only [upKids] at hupj
        refine idx_of (s := x.kids.map (D.int .i64)) (by rw [List.length_map]; exact hjl) ?_
        rw [List.getElem_map]
        refine And.intro rfl ?_
        have hkn : x.kids[j].toNat < o.length := by omega
        refine And.intro ⟨by omega, by omega⟩ ?_
        refine nthK_of (arrI_at hkn) ?_
        by_cases hc : 0 ≤ o.getD x.kids[j].toNat 0
        ·refine and_t (decide_eq_true hc) ?_
         rw [if_pos hc] at hupj
         rw [← hupj] at hup
         show _ = _
         rw [← hup]; rfl
        ·refine and_f (decide_eq_false hc) ?_
         rw [if_neg hc] at hupj
         refine And.intro ⟨by omega, by omega⟩ ?_
         refine st_of (by simp; omega) ?_
         refine ⟨(j + 1, o.set x.kids[j].toNat i), ⟨by show j + 1 ≤ _; omega, by simp [hoj], hupj⟩, by show _ - (j + 1) < _ - j; omega, ?_, ?_⟩
         ·rw [i64w (by omega)]; rfl
         ·show [_, Ob.box (putAt _ (0 + _ * 1) _), _] = _
          rw [Nat.zero_add, Nat.mul_one, arrI_put hkn]
       ·replace h := of_decide_eq_false h
        have hj' : j = x.kids.length := by omega
        subst hj'
        rw [List.drop_length] at hupj
        simp only [upKids] at hupj
        rw [← hupj] at hup
        refine ⟨(i + 1, o), ⟨by show i + 1 ≤ _; omega, hoj, hup⟩, by show _ - (i + 1) < _ - i; omega, ?_, rfl⟩
        rw [i64w (by omega)]; rfl
      ·rw [List.length_map]; rfl
      ·rfl
     ·replace h := of_decide_eq_false h
      have hi' : i = t.length := by omega
      subst hi'
      rw [List.drop_length] at hup
      simp only [upAll] at hup
      rw [← hup]
      refine fz (arrI_allD out) ?_
      have hdl : (out.map (D.int .i64)).length = t.length := by rw [List.length_map, hol]
      have hds : List.take t.length (List.drop 0 (out.map (D.int .i64))) = out.map (D.int .i64) := by rw [List.drop_zero, ← hdl, List.take_length]
      by_cases h0 : (t.length : Int) = 0
      ·refine gd_t (decide_eq_true h0) ?_
       repeat' (first | refine run ⟨?_⟩ | fail)
       refine And.intro (by omega) ?_
       show _ = _
       have ho : out = [] := List.eq_nil_of_length_eq_zero (by omega)
       subst ho
       rw [hds]; rfl
      ·refine gd_f (decide_eq_false h0) ?_
       refine And.intro (by omega) ?_
       refine And.intro (by rw [i64w (by omega)]; omega) ?_
       refine And.intro ⟨by omega, by rw [i64w (by omega), hds, hdl]; omega, rfl⟩ ?_
       rw [show List.drop 0 (List.take (Int.toNat (IntKind.i64.wrap ((t.length : Int) - 1))) (List.take t.length (List.drop 0 (out.map (D.int .i64))))) = out.dropLast.map (D.int .i64) from by rw [hds, List.drop_zero, i64w (by omega), List.dropLast_eq_take, List.map_take, hol]; congr 1; omega]
       refine ca (contains_ev _ out.dropLast (-1) (by rw [List.length_dropLast]; omega)) ?_
       repeat' (first | refine run ⟨?_⟩ | fail)
       refine And.intro (by omega) ?_
       show _ = _
       rw [hds]
       have ho : out ≠ [] := fun e => by rw [e] at hol; simp at hol; omega
       show V.tup [V.d (D.sl (List.map (D.int IntKind.i64) out)), V.d (D.bool !out.dropLast.contains (-1))] = V.tup [ints out, boo (decide (out = []) || !out.dropLast.contains (-1))]
       rw [decide_eq_false ho]; rfl
    ·rw [hnl]; rfl
    ·rfl
  ·rw [hnl]; rfl
  ·simp [hnl]
set_option maxHeartbeats 4000000 in
theorem depths_ev (up : List Int) (hl : up.length ≤ 1048576) (hu : ∀ (j : Nat) (v : Int), up[j]? = some v → -1 ≤ v ∧ v < up.length) : evF (pgL fx F) n_tree_depths [ints up] H = some (ints (deps up), H) := by
 have _u := (inferInstance : HC F)
 refine evF_wp (t_tree_depths (F := F)) rfl rfl ?_ H
 have hnl : (up.map (D.int .i64)).length = up.length := List.length_map ..
 refine And.intro ⟨by omega, by unfold roomy; omega⟩ ?_
 refine chk_of rfl ?_
 refine wp_loopE (α := Nat × List Int) (fun a => a.1) (fun a => [(0, ints up), (3, .arr 0 0 up.length), (4, i64 ((a.1 : Int) - 1))]) (fun a => [.box (arrI a.2)])
   (fun a => a.1 ≤ up.length ∧ a.2.length = up.length ∧ depGo up a.1 a.2 = deps up ∧ ∀ (j : Nat) (v : Int), a.2[j]? = some v → 0 ≤ v ∧ v ≤ 1048576 - a.1) ?_ (up.length, List.replicate up.length 0) ⟨by omega, by simp, rfl, fun j v hv => by
     rw [List.getElem?_replicate] at hv
     split at hv
     ·cases hv; omega
     ·cases hv⟩ ?_ ?_
 ·rintro ⟨n, out⟩ ⟨hn, hol, hdp, hbd⟩
  simp only at hn hol hdp hbd ⊢
  cases n with
  | zero =>
   refine and_f (decide_eq_false (by omega)) ?_
   simp only [depGo] at hdp
   refine fz (arrI_allD out) ?_
   refine And.intro (by rw [List.length_map]; omega) ?_
   show _ = _
   rw [← hdp, List.drop_zero, ← hol, ← List.length_map (D.int .i64), List.take_length]; rfl
  | succ i =>
   refine and_t (decide_eq_true (by omega)) ?_
   simp only [depGo] at hdp
   have hi : i < up.length := by omega
   have e0 : ((((i + 1 : Nat) : Int)) - 1) = (i : Int) := by omega
   rw [e0]
   have hg : (up.map (D.int .i64))[i]? = some (.int .i64 (up.getD i 0)) := by rw [List.getElem?_map, List.getElem?_eq_getElem hi]; simp [hi]
   have hui := hu i (up.getD i 0) (get_getD hi 0)
   rw [getD_of hi (-1) 0] at hdp
   refine pickD (d := .int .i64 (up.getD i 0)) ⟨by omega, hg⟩ ?_
   refine And.intro rfl ?_
   by_cases hc : 0 ≤ up.getD i 0
   ·refine and_t (decide_eq_true hc) ?_
    rw [if_pos hc] at hdp
    refine pickD (d := .int .i64 (up.getD i 0)) ⟨by omega, hg⟩ ?_
    refine And.intro rfl ?_
    have hk : (up.getD i 0).toNat < out.length := by omega
    have hbv := hbd _ _ (get_getD hk 0)
    refine And.intro ⟨by omega, by omega⟩ ?_
    refine nthK_of (arrI_at hk) ?_
    refine And.intro ⟨by omega, by omega⟩ ?_
    refine st_of (by simp; omega) ?_
    refine ⟨(i, out.set i (out.getD (up.getD i 0).toNat 0 + 1)), ⟨by show i ≤ _; omega, by simp [hol], hdp, fun j v hv => ?_⟩, by show i < i + 1; omega, ?_, ?_⟩
    ·simp only at hv
     rw [List.getElem?_set] at hv
     split at hv
     ·split at hv
      ·cases hv; omega
      ·cases hv
     ·have := hbd _ _ hv; omega
    ·rw [i64w (n := (i : Int) - 1) (by omega)]
    ·show [Ob.box (putAt _ (0 + i * 1) _)] = _
     rw [Nat.zero_add, Nat.mul_one, i64w (by omega), arrI_put (by omega)]
   ·refine and_f (decide_eq_false hc) ?_
    rw [if_neg hc] at hdp
    refine ⟨(i, out), ⟨by show i ≤ _; omega, hol, hdp, fun j v hv => by have := hbd _ _ hv; omega⟩, by show i < i + 1; omega, ?_, rfl⟩
    rw [i64w (n := (i : Int) - 1) (by omega)]
 ·rw [hnl, i64w (by omega)]; rfl
 ·simp [hnl]
theorem maxL_cons (a : Int) : ∀ (r : List Int) (i : Nat), i < r.length → maxL (a :: r.take (i + 1)) = max (maxL (a :: r.take i)) (r.getD i 0) := by
 intro r i h
 unfold maxL
 simp only
 rw [List.take_add_one, List.getElem?_eq_getElem h, List.foldl_append]
 simp [h]
theorem max_ev (a : Int) (r : List Int) (hl : r.length < 1048576) : evF (pgL fx F) n_slices_Max_int_int [ints (a :: r)] H = some (i64 (maxL (a :: r)), H) := by
 have _u := (inferInstance : HC F)
 refine evF_wp (t_slices_Max_int_int (F := F)) rfl rfl ?_ H
 refine and_f (decide_eq_false (by simp only [List.length_map, List.length_cons]; omega)) ?_
 refine pickD (d := .int .i64 a) ⟨Int.le_refl _, rfl⟩ ?_
 refine And.intro rfl ?_
 refine wp_loopE (α := Nat) (fun i => r.length - i) (fun i => [(0, ints (a :: r)), (3, i64 (maxL (a :: r.take i))), (4, i64 ((i : Int) + 1))]) (fun _ => []) (fun i => i ≤ r.length) ?_ 0 (by omega) ?_ rfl
 ·intro i hi
  refine And.intro (fun h => ?_) (fun h => ?_)
  ·replace h := of_decide_eq_true h
   rw [List.length_map, List.length_cons] at h
   have hlt : i < r.length := by omega
   refine pickD (d := .int .i64 (r.getD i 0)) ⟨by omega, by rw [show Int.toNat ((i : Int) + 1) = i + 1 by omega, List.map_cons, List.getElem?_cons_succ, List.getElem?_map, List.getElem?_eq_getElem hlt]; simp [hlt]⟩ ?_
   refine And.intro rfl ?_
   refine ⟨i + 1, by omega, by omega, ?_, rfl⟩
   rw [maxL_cons a r i hlt, i64w (by omega)]; rfl
  ·replace h := of_decide_eq_false h
   rw [List.length_map, List.length_cons] at h
   have hi' : i = r.length := by omega
   subst hi'
   rw [List.take_length]
   exact rfl
 ·simp [maxL]
end
end Go.Vm.Itr
namespace Go.Vm.Itr
open Go.Vm.Ite
open Go.Vm.Tp
set_option maxRecDepth 10000
theorem kidsOk_of {t : List Nd} (h : (List.range t.length).all (nodeB t) = true) : KidsOk t := by
 intro i hi
 have := List.all_eq_true.1 h i (List.mem_range.2 hi)
 cases hb : (nd t i).kids.all (kidOk i) with
 | true => rfl
 | false => rw [nodeB_kids hb] at this; cases this
theorem cons_of_len {up : List Int} (h : 1 ≤ up.length) : ∃ a r, up = a :: r := by
 cases up with
 | nil => simp at h
 | cons a r => exact ⟨a, r, rfl⟩
section
variable {fx : Nat → Option Obj} {F : Nat → Option VFun} [HC F] (H : Hp)
set_option maxHeartbeats 4000000 in
theorem check_ev (t : List Nd) (hf : Fine t) : evF (pgL fx F) n_tree_Check [.d (treeD t)] H = some (i64 (errT (checkB t)), H) := by
 refine evF_wp (t_tree_Check (F := F)) rfl rfl ?_ H
 have htl := hf.len
 have hnl : (t.map Nd.D).length = t.length := List.length_map ..
 have bad : checkB t = false → (i64 3 : V) = i64 (errT (checkB t)) := fun h => by rw [h]; rfl
 by_cases c1 : (t.length : Int) < 1
 ·refine gd_t (decide_eq_true (by rw [hnl]; exact c1)) ?_
  repeat' (first | refine run ⟨?_⟩ | fail)
  exact bad (by unfold checkB; rw [decide_eq_false (by omega : ¬ 1 ≤ t.length)]; rfl)
 refine gd_f (decide_eq_false (by rw [hnl]; exact c1)) ?_
 by_cases c2 : 20000 < (t.length : Int)
 ·refine gd_t (decide_eq_true (by rw [hnl]; exact c2)) ?_
  repeat' (first | refine run ⟨?_⟩ | fail)
  exact bad (by unfold checkB; rw [decide_eq_false (by omega : ¬ t.length ≤ 20000), Bool.and_false]; rfl)
 refine gd_f (decide_eq_false (by rw [hnl]; exact c2)) ?_
 have hw : IntKind.i64.wrap (((t.map Nd.D).length : Int) - 1) = ((t.length - 1 : Nat) : Int) := by rw [hnl, i64w (by omega)]; omega
 refine pickD (d := (nd t (t.length - 1)).D) (by rw [hw]; exact ndD_at (k := ((t.length - 1 : Nat) : Int)) (by omega) (by omega)) ?_
 refine And.intro rfl ?_
 have hcb : checkB t = (decide ((nd t (t.length - 1)).k = 1) && (List.range t.length).all (nodeB t) && upOk t) := by
  unfold checkB
  rw [decide_eq_true (by omega : 1 ≤ t.length), decide_eq_true (by omega : t.length ≤ 20000)]; rfl
 rw [hcb] at bad ⊢
 by_cases c3 : (nd t (t.length - 1)).k = 1
 ·refine and_f (by rw [c3]; rfl) ?_
  rw [decide_eq_true c3, Bool.true_and] at bad ⊢
  refine wp_loopE (α := Nat) (fun i => t.length - i) (fun i => [(1, .ptr 0 0), (28, i64 t.length), (29, i64 i)]) (fun _ => [.box [.d (.sl (t.map Nd.D))]]) (fun i => i ≤ t.length ∧ ∀ j, j < i → nodeB t j = true) ?_ 0 ⟨by omega, by omega⟩ ?_ rfl
  ·rintro i ⟨hi, hall⟩
   refine And.intro (fun h => ?_) (fun h => ?_)
   ·replace h := of_decide_eq_true h
    have hlt : i < t.length := by omega
    refine ca (tnode_ev _ t hf i hlt) ?_
    cases hb : nodeB t i with
    | false =>
     refine and_t rfl ?_
     refine bad ?_
     cases hc : (List.range t.length).all (nodeB t) with
     | false => rfl
     | true => have := List.all_eq_true.1 hc i (List.mem_range.2 hlt); rw [hb] at this; cases this
    | true =>
     refine and_f rfl ?_
     refine ⟨i + 1, ⟨by omega, fun j hj => ?_⟩, by omega, ?_, rfl⟩
     ·by_cases hji : j = i
      ·rw [hji]; exact hb
      ·exact hall j (by omega)
     ·rw [i64w (by omega)]; rfl
   ·replace h := of_decide_eq_false h
    have hi' : i = t.length := by omega
    subst hi'
    have hnodes : (List.range t.length).all (nodeB t) = true := List.all_eq_true.2 fun j hj => hall j (List.mem_range.1 hj)
    rw [hnodes, Bool.true_and] at bad ⊢
    refine ca (parents_ev _ t hf (kidsOk_of hnodes)) ?_
    cases hu : ups t with
    | none =>
     repeat' (first | refine run ⟨?_⟩ | fail)
     exact bad (by unfold upOk; rw [hu])
    | some up =>
     have hupo : upOk t = ((decide (up = []) || !up.dropLast.contains (-1)) && decide (maxL (deps up) ≤ 400)) := by unfold upOk; rw [hu]
     rw [hupo] at bad ⊢
     obtain ⟨u1, u2⟩ := ups_facts hu
     rcases Bool.eq_false_or_eq_true (decide (up = []) || !up.dropLast.contains (-1)) with hc | hc
     rotate_left
     ·rw [hc] at bad ⊢
      refine gd_t (by rw [hc]; rfl) ?_
      refine and_t rfl ?_
      exact bad rfl
     ·rw [hc] at bad ⊢
      refine gd_f (by rw [hc]; rfl) ?_
      refine ca (depths_ev _ up (by omega) (by rw [u1]; exact u2)) ?_
      have hdl : (deps up).length = up.length := by unfold deps; rw [depGo_len, List.length_replicate]
      obtain ⟨a, r, hd⟩ := cons_of_len (up := deps up) (by omega)
      rw [hd]
      have hrl : r.length < 1048576 := by have := congrArg List.length hd; simp at this; omega
      refine ca (max_ev _ a r hrl) ?_
      rw [← hd]
      by_cases hm : maxL (deps up) ≤ 400
      ·refine and_f (decide_eq_false (by omega)) ?_
       show _ = _
       rw [decide_eq_true hm]; rfl
      ·refine and_t (decide_eq_true (by omega)) ?_
       exact bad (by rw [decide_eq_false hm]; rfl)
  ·rw [hnl]; rfl
 ·refine and_t (by simpa using c3) ?_
  exact bad (by rw [decide_eq_false c3]; rfl)
end
end Go.Vm.Itr
namespace Go.Vm.Ite
open Go.Vm.Tp (Nd treeD checkB isTy)
open Go.Vm.Ip
open Go.Vm.Io (In Rt nd txt tx fldOf mem ret namOf fncOf roots)
open Go.Vm.Itr (ndD_at)
set_option maxRecDepth 10000
set_option linter.unusedVariables false
structure Rf (t : List Nd) : Prop where
 rt : Rt t
 txt : ∀ i, (nd t i).t.length ≤ 1048576
 kl : ∀ i, (nd t i).kids.length ≤ 1048576
theorem nodeP {t : List Nd} {i : Int} (h : In t i) : 0 ≤ i ∧ (t.map Nd.D)[i.toNat]? = some (nd t i).D := ndD_at h.1 h.lt
theorem txt_len {t : List Nd} (h : Rf t) : ∀ (n : Nat) (i : Int), (txt t n i).length ≤ 5 * n + 1048576
 | 0, _ => by rw [txt]; exact Nat.zero_le _
 | n + 1, i => by
   have h1 := txt_len h n ((nd t i).kids.getD 0 0)
   have h2 := h.txt i
   rw [txt]
   repeat' split
   all_goals (try simp only [List.length_append, List.length_cons, List.length_nil]); omega
theorem tx_len {t : List Nd} (h : Rf t) (i : Int) : (tx t i).length ≤ 1148576 := by
 have := txt_len h t.length i
 have := h.rt.hi
 unfold tx; omega
section
variable {fx : Nat → Option Obj} {F : Nat → Option VFun}
set_option maxHeartbeats 4000000 in
theorem text_go (t : List Nd) (h : Rf t) : ∀ (n : Nat) (i : Int), n ≤ 20000 → In t i → isTy (nd t i).k = true → i.toNat < n → ∀ H, evF (pgL fx F) n_items_text [.d (treeD t), .d (.int .i64 i)] H = some (str (txt t n i), H)
 | 0, _, _, _, _, hn, _ => absurd hn (Nat.not_lt_zero _)
 | n + 1, i, hm, hi, hty, hn, H => by
   have pn := nodeP hi
   have hk : (nd t i).k = 10 ∨ (nd t i).k = 11 ∨ (nd t i).k = 12 ∨ (nd t i).k = 13 ∨ (nd t i).k = 14 ∨ (nd t i).k = 15 ∨ (nd t i).k = 16 := by
    unfold isTy at hty
    simp only [Bool.and_eq_true, decide_eq_true_eq] at hty
    omega
   have ih := fun a (ha : a ∈ (nd t i).kids) (hb : isTy (nd t a).k = true) => text_go t h n a (by omega) (h.rt.inK hi ha) hb (by have := h.rt.kid i hi a ha; omega)
   have hl := fun a => txt_len h n a
   refine evF_wq (t_items_text (F := F)) rfl rfl ?_ H
   rw [txt]
   rcases hk with e | e | e | e | e | e | e
   ·have y10 := e
    repeat' (first | refine run ⟨?_⟩ | refine pickD pn ?_ | fail)
    rw [if_pos e]; exact rfl
   ·have n10 : ¬ (nd t i).k = 10 := by omega
    have y11 := e
    repeat' (first | refine run ⟨?_⟩ | refine pickD pn ?_ | fail)
    rw [if_neg n10]; rw [if_pos e]; exact rfl
   ·have n10 : ¬ (nd t i).k = 10 := by omega
    have n11 : ¬ (nd t i).k = 11 := by omega
    have y12 := e
    repeat' (first | refine run ⟨?_⟩ | refine pickD pn ?_ | fail)
    rw [if_neg n10]; rw [if_neg n11]; rw [if_pos e]; exact rfl
   ·have n10 : ¬ (nd t i).k = 10 := by omega
    have n11 : ¬ (nd t i).k = 11 := by omega
    have n12 : ¬ (nd t i).k = 12 := by omega
    have n14 : ¬ (nd t i).k = 14 := by omega
    have n15 : ¬ (nd t i).k = 15 := by omega
    have n16 : ¬ (nd t i).k = 16 := by omega
    repeat' (first | refine run ⟨?_⟩ | refine pickD pn ?_ | fail)
    rw [if_neg n10]; rw [if_neg n11]; rw [if_neg n12]; rw [if_neg n14]; rw [if_neg n15]; rw [if_neg n16]; exact rfl
   ·have n10 : ¬ (nd t i).k = 10 := by omega
    have n11 : ¬ (nd t i).k = 11 := by omega
    have n12 : ¬ (nd t i).k = 12 := by omega
    have n13 : ¬ (nd t i).k = 13 := by omega
    obtain ⟨a, ek, ea⟩ := h.rt.ref i hi (by omega)
    have pk : (0 : Int) ≤ 0 ∧ ((nd t i).kids.map (D.int .i64))[(0 : Int).toNat]? = some (.int .i64 a) := ⟨Int.le_refl _, by rw [ek]; rfl⟩
    have hc := ih a (by rw [ek]; exact List.mem_cons_self) ea
    have hla := hl a
    have l1 : ∀ p : S, p.length ≤ 10 → p.length + (txt t n a).length ≤ 9223372036854775807 := fun p hp => by omega
    have l2 : ∀ p q : S, p.length ≤ 10 → q.length ≤ 10 → (p ++ txt t n a).length + q.length ≤ 9223372036854775807 := fun p q hp hq => by rw [List.length_append]; omega
    repeat' (first | refine run ⟨?_⟩ | refine pickD pn ?_ | refine pickD pk ?_ | refine ca (hc _) ?_ | refine And.intro (l1 _ (by decide)) ?_ | refine And.intro (l2 _ _ (by decide) (by decide)) ?_ | fail)
    rw [if_neg n10]; rw [if_neg n11]; rw [if_neg n12]; rw [if_pos e, ek]; exact rfl
   ·have n10 : ¬ (nd t i).k = 10 := by omega
    have n11 : ¬ (nd t i).k = 11 := by omega
    have n12 : ¬ (nd t i).k = 12 := by omega
    have n13 : ¬ (nd t i).k = 13 := by omega
    have n14 : ¬ (nd t i).k = 14 := by omega
    obtain ⟨a, ek, ea⟩ := h.rt.ref i hi (by omega)
    have pk : (0 : Int) ≤ 0 ∧ ((nd t i).kids.map (D.int .i64))[(0 : Int).toNat]? = some (.int .i64 a) := ⟨Int.le_refl _, by rw [ek]; rfl⟩
    have hc := ih a (by rw [ek]; exact List.mem_cons_self) ea
    have hla := hl a
    have l1 : ∀ p : S, p.length ≤ 10 → p.length + (txt t n a).length ≤ 9223372036854775807 := fun p hp => by omega
    have l2 : ∀ p q : S, p.length ≤ 10 → q.length ≤ 10 → (p ++ txt t n a).length + q.length ≤ 9223372036854775807 := fun p q hp hq => by rw [List.length_append]; omega
    repeat' (first | refine run ⟨?_⟩ | refine pickD pn ?_ | refine pickD pk ?_ | refine ca (hc _) ?_ | refine And.intro (l1 _ (by decide)) ?_ | refine And.intro (l2 _ _ (by decide) (by decide)) ?_ | fail)
    rw [if_neg n10]; rw [if_neg n11]; rw [if_neg n12]; rw [if_neg n14]; rw [if_pos e, ek]; exact rfl
   ·have n10 : ¬ (nd t i).k = 10 := by omega
    have n11 : ¬ (nd t i).k = 11 := by omega
    have n12 : ¬ (nd t i).k = 12 := by omega
    have n13 : ¬ (nd t i).k = 13 := by omega
    have n14 : ¬ (nd t i).k = 14 := by omega
    have n15 : ¬ (nd t i).k = 15 := by omega
    obtain ⟨a, ek, ea⟩ := h.rt.ref i hi (by omega)
    have pk : (0 : Int) ≤ 0 ∧ ((nd t i).kids.map (D.int .i64))[(0 : Int).toNat]? = some (.int .i64 a) := ⟨Int.le_refl _, by rw [ek]; rfl⟩
    have hc := ih a (by rw [ek]; exact List.mem_cons_self) ea
    have hla := hl a
    have l1 : ∀ p : S, p.length ≤ 10 → p.length + (txt t n a).length ≤ 9223372036854775807 := fun p hp => by omega
    have l2 : ∀ p q : S, p.length ≤ 10 → q.length ≤ 10 → (p ++ txt t n a).length + q.length ≤ 9223372036854775807 := fun p q hp hq => by rw [List.length_append]; omega
    repeat' (first | refine run ⟨?_⟩ | refine pickD pn ?_ | refine pickD pk ?_ | refine ca (hc _) ?_ | refine And.intro (l1 _ (by decide)) ?_ | refine And.intro (l2 _ _ (by decide) (by decide)) ?_ | fail)
    rw [if_neg n10]; rw [if_neg n11]; rw [if_neg n12]; rw [if_neg n14]; rw [if_neg n15]; rw [if_pos e, ek]; exact rfl
theorem text_ev {t : List Nd} (h : Rf t) {i : Int} (hi : In t i) (hty : isTy (nd t i).k = true) (H : Hp) : evF (pgL fx F) n_items_text [.d (treeD t), .d (.int .i64 i)] H = some (str (tx t i), H) := text_go t h t.length i h.rt.hi hi hty hi.2 H
end
end Go.Vm.Ite

namespace Go.Vm.Lex
def hd1 : List UInt8 → UInt8
 | _ :: b :: _ => b
 | _ => 0
end Go.Vm.Lex



namespace Go.Vm.Lex
open Go.Vm.Ite
set_option maxRecDepth 10000
def dgD (c f e : Int) : D := .agg [.int .i64 c, .int .i64 f, .int .i64 e]
end Go.Vm.Lex
namespace Go.Vm.Ite
open Go.Vm.Tp (Nd treeD checkB isTy)
open Go.Vm.Ip
open Go.Vm.Io (In Rt nd txt tx fldOf mem ret namOf fncOf roots inn unk)
open Go.Vm.Itr (ndD_at)
set_option maxRecDepth 10000
set_option linter.unusedVariables false
set_option linter.unusedSimpArgs false
def kidD (l : List Int) : D := .sl (l.map (D.int .i64))
abbrev H4x (t : List Nd) (x : Its) (X : Hp) : Hp := .box [.d (.sl (t.map Nd.D)), .row 1 x.ss.length, .row 2 x.es.length, .row 3 x.fs.length, .nul] :: .row 2 (x.ss.map Nam.D) :: .row 2 (x.es.map Nam.D) :: .row 5 (x.fs.map Fnc.D) :: X
abbrev H9x (t : List Nd) (x : Its) (X : Hp) : Hp := .box [.d (.sl (t.map Nd.D)), .row 1 x.ss.length, .row 2 x.es.length, .row 3 x.fs.length, .ptr 8 0] :: .row 2 (x.ss.map Nam.D) :: .row 2 (x.es.map Nam.D) :: .row 5 (x.fs.map Fnc.D) :: IB x :: .map (finM (nS x)) :: .map (finM (nE x)) :: .map (finM (nF x)) :: .box [.mp 5, .mp 6, .mp 7] :: X
section
variable {fx : Nat → Option Obj} {F : Nat → Option VFun} {t : List Nd} {x : Its} {X : Hp}
theorem lift4 {y : Its} {f : Nat} {a : List V} {r : V} (h : evF (pgL fx F0) f a (H4x t x []) = some (r, H4x t y [])) (ha : undL 4 a = true) (hr : r.und 4 = true) : evF (pgL fx F) f a (H4x t x X) = some (r, H4x t y X) := by
 apply up
 exact evF_ext (mv fx) h ha rfl rfl rfl hr
theorem lift9 {f : Nat} {a : List V} {r : V} (h : evF (pgL fx F0) f a (H9x t x []) = some (r, H9x t x [])) (ha : undL 9 a = true) (hr : r.und 9 = true) : evF (pgL fx F) f a (H9x t x X) = some (r, H9x t x X) := by
 apply up
 exact evF_ext (mv fx) h ha rfl rfl rfl hr
theorem diag4_e {e i : Int} (hi : In t i) : evF (pgL fx F) n_items_reader_diag [.ptr 0 0, .d (.int .i64 e), .d (.int .i64 i)] (H4x t x X) = some (.d (Lex.dgD e (nd t i).f (nd t i).e), H4x t x X) := by
 refine lift4 ?_ rfl rfl
 have pn := nodeP hi
 refine evF_wqOn (t_items_reader_diag (F := F)) rfl rfl rfl ?_
 repeat' (first | refine rund ⟨?_⟩ | refine pickD pn ?_ | refine q_dirty 3 (by decide) (by decide) ?_ | fail)
 exact rfl
theorem diag9_e {e i : Int} (hi : In t i) : evF (pgL fx F) n_items_reader_diag [.ptr 0 0, .d (.int .i64 e), .d (.int .i64 i)] (H9x t x X) = some (.d (Lex.dgD e (nd t i).f (nd t i).e), H9x t x X) := by
 refine lift9 ?_ rfl rfl
 have pn := nodeP hi
 refine evF_wqOn (t_items_reader_diag (F := F)) rfl rfl rfl ?_
 repeat' (first | refine rund ⟨?_⟩ | refine pickD pn ?_ | refine q_dirty 3 (by decide) (by decide) ?_ | fail)
 exact rfl
theorem field_e (h : Rf t) {i : Int} (hi : In t i) (hk : (nd t i).kids = [] ∨ ∃ a, (nd t i).kids = [a] ∧ isTy (nd t a).k = true) : evF (pgL fx F) n_items_reader_field [.ptr 0 0, .d (.int .i64 i)] (H4x t x X) = some (.d (fldOf t i).D, H4x t x X) := by
 refine lift4 ?_ rfl rfl
 have pn := nodeP hi
 have hl : ((nd t i).kids.map (D.int .i64)).length = (nd t i).kids.length := List.length_map ..
 unfold fldOf
 refine evF_wqOn (t_items_reader_field (F := F)) rfl rfl rfl ?_
 rcases hk with ek | ⟨a, ek, ea⟩
 ·have c : ¬ (((nd t i).kids.map (D.int .i64)).length : Int) > 0 := by rw [ek]; simp
  repeat' (first | refine rund ⟨?_⟩ | refine pickD pn ?_ | refine q_dirty 3 (by decide) (by decide) ?_ | fail)
  rw [ek]
  first | exact rfl | exact ⟨rfl, rfl⟩
 ·have c : (((nd t i).kids.map (D.int .i64)).length : Int) > 0 := by rw [ek]; simp
  have pk : (0 : Int) ≤ 0 ∧ ((nd t i).kids.map (D.int .i64))[(0 : Int).toNat]? = some (.int .i64 a) := ⟨Int.le_refl _, by rw [ek]; rfl⟩
  have ht := fun H => text_ev (fx := fx) (F := F0) h (h.rt.inK hi (by rw [ek]; exact List.mem_cons_self)) ea H
  repeat' (first | refine rund ⟨?_⟩ | refine pickD pn ?_ | refine pickD pk ?_ | refine ca (ht _) ?_ | refine q_dirty 3 (by decide) (by decide) ?_ | fail)
  rw [ek]
  first | exact rfl | exact ⟨rfl, rfl⟩
theorem kids_e (h : Rf t) {i : Int} (hi : In t i) : evF (pgL fx F) n_items_reader_kids [.ptr 0 0, .d (.int .i64 i)] (H9x t x X) = some (.d (kidD (mem t i)), H9x t x X) := by
 refine lift9 ?_ rfl rfl
 have pn := nodeP hi
 have hl : ((nd t i).kids.map (D.int .i64)).length = (nd t i).kids.length := List.length_map ..
 unfold mem
 refine evF_wqOn (t_items_reader_kids (F := F)) rfl rfl rfl ?_
 by_cases c : (nd t i).k = 2
 ·obtain ⟨ps, a, b, ek, _⟩ := h.rt.fn i hi c
  have hlt := hi.lt
  have h2 : (nd t i).kids.length = ps.length + 2 := by rw [ek]; simp
  have hb := h.kl i
  ·have ew : IntKind.i64.wrap ((((nd t i).kids.map (D.int .i64)).length : Int) - 2) = ((ps.length : Nat) : Int) := by rw [hl, h2, i64w (by omega)]; omega
   have s1 : 0 ≤ IntKind.i64.wrap ((((nd t i).kids.map (D.int .i64)).length : Int) - 2) := by rw [ew]; omega
   have s2 : 0 ≤ (IntKind.i64.wrap ((((nd t i).kids.map (D.int .i64)).length : Int) - 2)).toNat ∧ (IntKind.i64.wrap ((((nd t i).kids.map (D.int .i64)).length : Int) - 2)).toNat ≤ ((nd t i).kids.map (D.int .i64)).length ∧ true = true := ⟨Nat.zero_le _, by rw [ew, hl, h2]; omega, rfl⟩
   repeat' (first | refine rund ⟨?_⟩ | refine pickD pn ?_ | refine And.intro s1 ?_ | refine And.intro s2 ?_ | refine q_dirty 3 (by decide) (by decide) ?_ | fail)
   rw [if_pos c, ew, Int.toNat_natCast, h2, Nat.add_sub_cancel]
   unfold kidD
   rw [List.map_take]
   first | exact rfl | exact ⟨rfl, rfl⟩
 ·repeat' (first | refine rund ⟨?_⟩ | refine pickD pn ?_ | refine q_dirty 3 (by decide) (by decide) ?_ | fail)
  rw [if_neg c]
  first | exact rfl | exact ⟨rfl, rfl⟩
set_option maxHeartbeats 4000000 in
theorem inner_go (h : Rf t) : ∀ (n : Nat) (may : Bool) (i : Int), n ≤ 20000 → In t i → isTy (nd t i).k = true → i.toNat < n → evF (pgL fx F0) n_items_reader_inner [.ptr 0 0, .d (.int .i64 i), .d (.bool may)] (H9x t x []) = some (.d (.int .i64 (inn t (n) may i)), H9x t x [])
 | 0, _, _, _, _, _, hn => absurd hn (Nat.not_lt_zero _)
 | n + 1, may, i, hm, hi, hty, hn => by
   have pn := nodeP hi
   have hlen : ((nd t i).kids.map (D.int .i64)).length = (nd t i).kids.length := List.length_map ..
   have ih := fun a (ha : a ∈ (nd t i).kids) (hb : isTy (nd t a).k = true) => inner_go h n false a (by omega) (h.rt.inK hi ha) hb (by have := h.rt.kid i hi a ha; omega)
   have hks := h.rt.ty hi hty
   refine evF_wqOn (t_items_reader_inner (F := F0)) rfl rfl rfl ?_
   rw [show inn t (n + 1) may i = if (!may && (decide ((nd t i).k = 14) || decide ((nd t i).k = 15))) then i else match (nd t i).kids with | [] => -1 | a :: _ => if 0 ≤ inn t n false a then inn t n false a else -1 from rfl]
   cases may <;> cases d1 : decide ((nd t i).k = 14) <;> cases d2 : decide ((nd t i).k = 15)
   all_goals simp only [Bool.not_true, Bool.not_false, Bool.true_and, Bool.false_and, Bool.or_true, Bool.or_false, Bool.true_or, Bool.false_or, Bool.and_true, Bool.and_false, if_pos, if_neg, Bool.false_eq_true, if_false, if_true]
   all_goals repeat' (first | refine rund ⟨?_⟩ | refine pickD pn ?_ | refine and_t d1 ?_ | refine and_f d1 ?_ | refine and_t d2 ?_ | refine and_f d2 ?_ | refine q_dirty 3 (by decide) (by decide) ?_ | fail)
   all_goals first
     | exact rfl
     | (rcases hks with ek | ⟨a, ek, ea⟩
        ·refine wq_loop (α := Nat) (fun j => 1 - j) (fun j => [(0, .ptr 0 0), (33, .d (.sl ((nd t i).kids.map (D.int .i64)))), (34, i64 0), (35, i64 j)]) (fun _ => H9x t x [.box [.d (.int .i64 (nd t i).k), str (nd t i).t, .d (.int .i64 (nd t i).v), .d (.sl ((nd t i).kids.map (D.int .i64))), .d (.int .i64 (nd t i).f), .d (.int .i64 (nd t i).e)]]) (fun j => j = 0) ?_ 0 rfl (by rw [ek]; rfl) rfl
         rintro j rfl
         have h' : ¬ ((0 : Nat) : Int) < 0 := by omega
         repeat' (first | refine rund ⟨?_⟩ | refine q_dirty 3 (by decide) (by decide) ?_ | fail)
         rw [ek]
         first | exact rfl | exact ⟨rfl, rfl⟩
        ·have hc := lift9 (fx := fx) (F := F0) (X := [.box [.d (.int .i64 (nd t i).k), str (nd t i).t, .d (.int .i64 (nd t i).v), .d (.sl ((nd t i).kids.map (D.int .i64))), .d (.int .i64 (nd t i).f), .d (.int .i64 (nd t i).e)]]) (ih a (by rw [ek]; exact List.mem_cons_self) ea) rfl rfl
         refine wq_loop (α := Nat) (fun j => 1 - j) (fun j => [(0, .ptr 0 0), (33, .d (.sl ((nd t i).kids.map (D.int .i64)))), (34, i64 1), (35, i64 j)]) (fun _ => H9x t x [.box [.d (.int .i64 (nd t i).k), str (nd t i).t, .d (.int .i64 (nd t i).v), .d (.sl ((nd t i).kids.map (D.int .i64))), .d (.int .i64 (nd t i).f), .d (.int .i64 (nd t i).e)]]) (fun j => j = 0 ∨ (j = 1 ∧ ¬ 0 ≤ inn t n false a)) ?_ 0 (.inl rfl) (by rw [ek]; rfl) rfl
         have ek2 : (match (nd t i).kids with | [] => -1 | a :: _ => if 0 ≤ inn t n false a then inn t n false a else -1) = if 0 ≤ inn t n false a then inn t n false a else -1 := by rw [ek]
         rw [ek2]
         rintro j (rfl | ⟨rfl, hneg⟩)
         ·have h' : ((0 : Nat) : Int) < 1 := by omega
          have pk : 0 ≤ ((0 : Nat) : Int) ∧ ((nd t i).kids.map (D.int .i64))[((0 : Nat) : Int).toNat]? = some (.int .i64 a) := ⟨by omega, by rw [ek]; rfl⟩
          by_cases hr : 0 ≤ inn t n false a
          ·rw [if_pos hr]
           repeat' (first | refine rund ⟨?_⟩ | refine pickD pk ?_ | refine ca (hc) ?_ | refine q_dirty 3 (by decide) (by decide) ?_ | fail)
           exact rfl
          ·repeat' (first | refine rund ⟨?_⟩ | refine pickD pk ?_ | refine ca (hc) ?_ | refine q_dirty 3 (by decide) (by decide) ?_ | fail)
           exact ⟨1, .inr ⟨rfl, hr⟩, by omega, rfl, rfl⟩
         ·have h' : ¬ ((1 : Nat) : Int) < 1 := by omega
          rw [if_neg hneg]
          repeat' (first | refine rund ⟨?_⟩ | refine q_dirty 3 (by decide) (by decide) ?_ | fail)
          exact rfl)
set_option maxHeartbeats 4000000 in
theorem unknown_go (h : Rf t) : ∀ (n : Nat) (i : Int), n ≤ 20000 → In t i → isTy (nd t i).k = true → i.toNat < n → evF (pgL fx F0) n_items_reader_unknown [.ptr 0 0, .d (.int .i64 i)] (H9x t x []) = some (.d (.int .i64 (unk t (kn x) (n) i)), H9x t x [])
 | 0, _, _, _, _, hn => absurd hn (Nat.not_lt_zero _)
 | n + 1, i, hm, hi, hty, hn => by
   have pn := nodeP hi
   have hlen : ((nd t i).kids.map (D.int .i64)).length = (nd t i).kids.length := List.length_map ..
   have ih := fun a (ha : a ∈ (nd t i).kids) (hb : isTy (nd t a).k = true) => unknown_go h n a (by omega) (h.rt.inK hi ha) hb (by have := h.rt.kid i hi a ha; omega)
   have hks := h.rt.ty hi hty
   have hnm : ∀ b, evF (pgL fx F0) n_items_finder_named [.ptr 8 0, str (nd t i).t] (H9x t x [b]) = some (boo (kn x (nd t i).t), H9x t x [b]) := fun b => evF_at (mv fx) [5, 6, 7, 8] (X := H9x t x [b]) (named_s (fx := fx) (F := F0) x (nd t i).t) rfl rfl rfl rfl rfl
   refine evF_wqOn (t_items_reader_unknown (F := F0)) rfl rfl rfl ?_
   rw [show unk t (kn x) (n + 1) i = if (decide ((nd t i).k = 13) && !kn x (nd t i).t) then i else match (nd t i).kids with | [] => -1 | a :: _ => if 0 ≤ unk t (kn x) n a then unk t (kn x) n a else -1 from rfl]
   cases d1 : decide ((nd t i).k = 13) <;> cases d2 : (!kn x (nd t i).t)
   all_goals simp only [Bool.not_true, Bool.not_false, Bool.true_and, Bool.false_and, Bool.or_true, Bool.or_false, Bool.true_or, Bool.false_or, Bool.and_true, Bool.and_false, if_pos, if_neg, Bool.false_eq_true, if_false, if_true]
   all_goals repeat' (first | refine rund ⟨?_⟩ | refine pickD pn ?_ | refine ca (hnm _) ?_ | refine and_t d1 ?_ | refine and_f d1 ?_ | refine and_t d2 ?_ | refine and_f d2 ?_ | refine q_dirty 3 (by decide) (by decide) ?_ | fail)
   all_goals first
     | exact rfl
     | (rcases hks with ek | ⟨a, ek, ea⟩
        ·refine wq_loop (α := Nat) (fun j => 1 - j) (fun j => [(0, .ptr 0 0), (32, .d (.sl ((nd t i).kids.map (D.int .i64)))), (33, i64 0), (34, i64 j)]) (fun _ => H9x t x [.box [.d (.int .i64 (nd t i).k), str (nd t i).t, .d (.int .i64 (nd t i).v), .d (.sl ((nd t i).kids.map (D.int .i64))), .d (.int .i64 (nd t i).f), .d (.int .i64 (nd t i).e)]]) (fun j => j = 0) ?_ 0 rfl (by rw [ek]; rfl) rfl
         rintro j rfl
         have h' : ¬ ((0 : Nat) : Int) < 0 := by omega
         repeat' (first | refine rund ⟨?_⟩ | refine q_dirty 3 (by decide) (by decide) ?_ | fail)
         rw [ek]
         first | exact rfl | exact ⟨rfl, rfl⟩
        ·have hc := lift9 (fx := fx) (F := F0) (X := [.box [.d (.int .i64 (nd t i).k), str (nd t i).t, .d (.int .i64 (nd t i).v), .d (.sl ((nd t i).kids.map (D.int .i64))), .d (.int .i64 (nd t i).f), .d (.int .i64 (nd t i).e)]]) (ih a (by rw [ek]; exact List.mem_cons_self) ea) rfl rfl
         refine wq_loop (α := Nat) (fun j => 1 - j) (fun j => [(0, .ptr 0 0), (32, .d (.sl ((nd t i).kids.map (D.int .i64)))), (33, i64 1), (34, i64 j)]) (fun _ => H9x t x [.box [.d (.int .i64 (nd t i).k), str (nd t i).t, .d (.int .i64 (nd t i).v), .d (.sl ((nd t i).kids.map (D.int .i64))), .d (.int .i64 (nd t i).f), .d (.int .i64 (nd t i).e)]]) (fun j => j = 0 ∨ (j = 1 ∧ ¬ 0 ≤ unk t (kn x) n a)) ?_ 0 (.inl rfl) (by rw [ek]; rfl) rfl
         have ek2 : (match (nd t i).kids with | [] => -1 | a :: _ => if 0 ≤ unk t (kn x) n a then unk t (kn x) n a else -1) = if 0 ≤ unk t (kn x) n a then unk t (kn x) n a else -1 := by rw [ek]
         rw [ek2]
         rintro j (rfl | ⟨rfl, hneg⟩)
         ·have h' : ((0 : Nat) : Int) < 1 := by omega
          have pk : 0 ≤ ((0 : Nat) : Int) ∧ ((nd t i).kids.map (D.int .i64))[((0 : Nat) : Int).toNat]? = some (.int .i64 a) := ⟨by omega, by rw [ek]; rfl⟩
          by_cases hr : 0 ≤ unk t (kn x) n a
          ·rw [if_pos hr]
           repeat' (first | refine rund ⟨?_⟩ | refine pickD pk ?_ | refine ca (hc) ?_ | refine q_dirty 3 (by decide) (by decide) ?_ | fail)
           exact rfl
          ·repeat' (first | refine rund ⟨?_⟩ | refine pickD pk ?_ | refine ca (hc) ?_ | refine q_dirty 3 (by decide) (by decide) ?_ | fail)
           exact ⟨1, .inr ⟨rfl, hr⟩, by omega, rfl, rfl⟩
         ·have h' : ¬ ((1 : Nat) : Int) < 1 := by omega
          rw [if_neg hneg]
          repeat' (first | refine rund ⟨?_⟩ | refine q_dirty 3 (by decide) (by decide) ?_ | fail)
          exact rfl)
end
end Go.Vm.Ite
