import Derived.Test.YtocpgkeiakjicaaGreatTypP11
import Derived.Test.YtocpgkeiakjicaaGreatVmFn
import Derived.Maps.RangeRun
import Derived.Test.YtocpgkeiakjicaaGreatVmRun
set_option linter.unusedSimpArgs false
set_option linter.unusedVariables false
namespace Go.Vm.Ip
open Go.Vm.Lex (nameB)
def flM (x : Its) (s : S) : List Fld := if known (nS x) s then (nam x.ss s).fs else if known (nE x) s then (nam x.es s).fs else []
theorem held_eq (x : Its) (s : S) : heldM x s = if known (nS x) s then ((flM x s).map Fld.t, false) else if known (nE x) s then (someT (flM x s), true) else ([], false) := by
 unfold heldM flM nam known
 rw [show x.ss.map Nam.n = nS x from rfl, show x.es.map Nam.n = nE x from rfl]
 cases pos (nS x) s with
 | some i => rfl
 | none =>
  cases pos (nE x) s with
  | some i => rfl
  | none => rfl
theorem namB_mem {k : S → Bool} {en : Bool} : ∀ {seen : List S} {l : List Nam}, namB k en seen l = true → ∀ y ∈ l, nameB y.n = true ∧ y.n ∉ seen ∧ (en = true → y.fs ≠ []) ∧ lstB (rt k false) en [] y.fs = true ∧ y.fs.length ≤ 16
 | _, [], _, y, hy => by cases hy
 | seen, z :: r, h, y, hy => by
   simp only [namB, Bool.and_eq_true, decide_eq_true_eq, Bool.not_eq_true', decide_eq_false_iff_not] at h
   obtain ⟨⟨⟨⟨h1, h2⟩, h3⟩, h4, h5⟩, h6⟩ := h
   rcases List.mem_cons.1 hy with q | q
   ·subst q
    refine ⟨h1, h2, fun he => ?_, h4, by omega⟩
    subst he
    simpa using h3
   ·obtain ⟨a, b, c⟩ := namB_mem h6 y q
    exact ⟨a, fun hm => b (List.mem_append_left _ hm), c⟩
theorem namB_nodup {k : S → Bool} {en : Bool} : ∀ {seen : List S} {l : List Nam}, namB k en seen l = true → (l.map Nam.n).Nodup
 | _, [], _ => by simp
 | seen, z :: r, h => by
   simp only [namB, Bool.and_eq_true] at h
   rw [List.map_cons, List.nodup_cons]
   refine ⟨fun hm => ?_, namB_nodup h.2⟩
   obtain ⟨y, hy, he⟩ := List.mem_map.1 hm
   exact (namB_mem h.2 y hy).2.1 (by rw [he]; simp)
theorem lstB_mem {r : S → Bool} {b : Bool} : ∀ {seen : List S} {l : List Fld}, lstB r b seen l = true → ∀ f ∈ l, nameB f.n = true ∧ (r f.t = true ∨ (b = true ∧ f.t = []))
 | _, [], _, f, hf => by cases hf
 | seen, g :: q, h, f, hf => by
   simp only [lstB, Bool.and_eq_true, Bool.or_eq_true, decide_eq_true_eq] at h
   obtain ⟨⟨⟨h1, h2⟩, h3⟩, h4⟩ := h
   rcases List.mem_cons.1 hf with e | e
   ·subst e; exact ⟨h1, h3⟩
   ·exact lstB_mem h4 f e
theorem known_mem {l : List S} {s : S} : known l s = true ↔ s ∈ l := by
 unfold known
 rw [Option.isSome_iff_exists]
 exact pos_mem.symm
theorem nam_mem {l : List Nam} {s : S} (h : known (l.map Nam.n) s = true) : nam l s ∈ l ∧ (nam l s).n = s := by
 unfold known at h
 obtain ⟨i, hi⟩ := Option.isSome_iff_exists.1 h
 unfold nam
 rw [hi]
 have h1 := pos_lt hi
 rw [List.length_map] at h1
 have h2 := (pos_some hi).1
 rw [List.getElem?_map, List.getElem?_eq_getElem h1] at h2
 simp only [Option.map_some, Option.some.injEq] at h2
 simp only [List.getD_eq_getElem?_getD, List.getElem?_eq_getElem h1, Option.getD_some]
 exact ⟨List.getElem_mem _, h2⟩
theorem name_head {s : S} (h : nameB s = true) : s ≠ [] ∧ ∀ c ∈ s, Lex.isLD c = true := by
 simp only [nameB, Lex.speltB, Bool.and_eq_true, decide_eq_true_eq, List.all_eq_true] at h
 exact ⟨h.1.1.1.1.1, h.1.1.2⟩
theorem name_not_box {s : S} (h : nameB s = true) : preB s boxT = false := by
 cases hp : preB s boxT with
 | false => rfl
 | true =>
  exfalso
  have h3 : 60 ∈ s := by
   simp only [preB, Bool.and_eq_true, decide_eq_true_eq] at hp
   have : (60 : UInt8) ∈ s.take boxT.length := by rw [hp.2]; decide
   exact List.mem_of_mem_take this
  have := (name_head h).2 _ h3
  exact absurd this (by decide)
structure Okay (x : Its) : Prop where
 sm : Small x
 nm : ∀ s, kn x s = true → nameB s = true
 ap : ∀ s, known (nS x) s = true → known (nE x) s = false
 sf : ∀ s, known (nS x) s = true → ∀ f ∈ (nam x.ss s).fs, rightB (kn x) f.t = true
 ef : ∀ s, known (nE x) s = true → ∀ f ∈ (nam x.es s).fs, f.t = [] ∨ rightB (kn x) f.t = true
 dp : ∀ s, deepOk x (deepN x) s
 sz : ∀ s, bigB (szF x (deepN x) s) = false
theorem okay_of {x : Its} (h : chkB x = true) : Okay x := by
 simp only [chkB, Bool.and_eq_true, decide_eq_true_eq, List.all_eq_true, Bool.not_eq_true'] at h
 obtain ⟨⟨⟨⟨⟨⟨⟨h1, h2⟩, h3⟩, h4⟩, h5⟩, h6⟩, h7⟩, h8⟩ := h
 have hS : ∀ s, known (nS x) s = true → nam x.ss s ∈ x.ss ∧ (nam x.ss s).n = s := fun s hs => nam_mem hs
 have hE : ∀ s, known (nE x) s = true → nam x.es s ∈ x.es ∧ (nam x.es s).n = s := fun s hs => nam_mem hs
 have dp : ∀ s, deepOk x (deepN x) s := fun s => deep_of (fun s hs hg => by
   have := h6 s hs
   rw [endB_t hg] at this
   cases this) s
 refine ⟨⟨h1, h2, fun y hy => (namB_mem h4 y hy).2.2.2.2, fun y hy => (namB_mem h5 y hy).2.2.2.2⟩, fun s hs => ?_, fun s hs => ?_, fun s hs f hf => ?_, fun s hs f hf => ?_, dp, fun s => ?_⟩
 ·unfold kn at hs
  rcases Bool.or_eq_true_iff.1 hs with q | q
  ·rw [← (hS s q).2]; exact (namB_mem h4 _ (hS s q).1).1
  ·rw [← (hE s q).2]; exact (namB_mem h5 _ (hE s q).1).1
 ·cases hq : known (nE x) s with
  | false => rfl
  | true =>
   have := (namB_mem h5 _ (hE s hq).1).2.1
   rw [(hE s hq).2] at this
   exact absurd (known_mem.1 hs) this
 ·rcases (lstB_mem (namB_mem h4 _ (hS s hs).1).2.2.2.1 f hf).2 with q | q
  ·exact q
  ·exact absurd q.1 (by decide)
 ·rcases (lstB_mem (namB_mem h5 _ (hE s hs).1).2.2.2.1 f hf).2 with q | q
  ·exact .inr q
  ·exact .inl q.2
 ·by_cases hm : s ∈ nS x ++ nE x
  ·exact h7 s hm
  ·have hm' : heldM x s = ([], false) ∧ known (nS x) s = false := by
    simp only [List.mem_append, not_or] at hm
    have a : known (nS x) s = false := by cases q : known (nS x) s with
      | false => rfl
      | true => exact absurd (known_mem.1 q) hm.1
    have b : known (nE x) s = false := by cases q : known (nE x) s with
      | false => rfl
      | true => exact absurd (known_mem.1 q) hm.2
    rw [held_eq, a, b]; exact ⟨rfl, rfl⟩
   unfold deepN
   rw [szF, hm'.1, hm'.2]
   by_cases hu : s = unitT
   ·simp only [if_pos hu]; rfl
   ·simp only [if_neg hu]; rfl
end Go.Vm.Ip
namespace Go.Vm.Ip
theorem someT_all {l : List Fld} (h : ∀ f ∈ l, f.t ≠ []) : someT l = l.map Fld.t := by
 unfold someT
 rw [List.filter_eq_self]
 intro a ha
 obtain ⟨f, hf, rfl⟩ := List.mem_map.1 ha
 simpa using h f hf
theorem someT_mem {l : List Fld} {t : S} : t ∈ someT l ↔ t ≠ [] ∧ ∃ f ∈ l, f.t = t := by
 unfold someT
 rw [List.mem_filter, List.mem_map]
 constructor
 ·rintro ⟨⟨f, hf, rfl⟩, h⟩; exact ⟨by simpa using h, f, hf, rfl⟩
 ·rintro ⟨h, f, hf, rfl⟩; exact ⟨⟨f, hf, rfl⟩, by simpa using h⟩
theorem held_E {x : Its} {s : S} (h : known (nS x) s = false) (h2 : known (nE x) s = true) : heldM x s = (someT (flM x s), true) := by
 rw [held_eq, h, h2]; rfl
theorem held_N {x : Its} {s : S} (h : known (nS x) s = false) (h2 : known (nE x) s = false) : heldM x s = ([], false) := by
 rw [held_eq, h, h2]; rfl
end Go.Vm.Ip
namespace Go.Vm.Ip
end Go.Vm.Ip
namespace Go.Vm.Ip
end Go.Vm.Ip
namespace Go.Vm.Ip
open Go.Vm.Lex (nameB)
theorem core_not_box {s : S} (h : coreB s = true) : preB s boxT = false := by
 unfold coreB at h
 simp only [Bool.or_eq_true, decide_eq_true_eq] at h
 rcases h with (h | h) | h <;> subst h <;> rfl
end Go.Vm.Ip
namespace Go.Vm.Ip
open Go.Vm.Lex (nameB)
def anyT : S → Bool := fun _ => true
def fld14 (l : List Fld) (most : Int) : Bool := lstB anyT false [] l && decide ((l.length : Int) ≤ most)
def biB (s : S) : Bool := decide (s = printT) || decide (s = readT) || decide (s = panicT)
def enB (x : Its) (s : S) : Bool := !known (nS x) s && known (nE x) s
theorem offR_drop (kn : S → Bool) (s : S) : isB kn s = if preB s mutT then bareB kn (s.drop 5) else if preB s [38] then bareB kn (s.drop 1) else bareB kn s := by
 unfold isB offR
 split
 ·rfl
 split
 ·rfl
 ·rfl
end Go.Vm.Ip
namespace Go.Vm.Ip
open Go.Vm.Lex (nameB)
def fns14 (k : S → Bool) : List Fnc → List Fnc → Bool
 | _, [] => true
 | dn, f :: r => nameB f.n && !biB f.n && fld14 f.ps 6 && decide (f.ms.length = f.ps.length) && isB k f.r && !decide (f.d < 0) && !decide (f.n ∈ dn.map Fnc.n ∨ f.d ∈ dn.map Fnc.d) && f.ps.all (fun p => isB k p.t) && fns14 k (dn ++ [f]) r
def mn14 (f : Fnc) : Bool := decide (f.n = mainT) && decide (f.ps.length = 0) && decide (f.r = unitT)
def fun14 (x : Its) : Bool := fns14 (kn x) [] x.fs && x.fs.any mn14 && decide (x.fs.length ≤ 64)
end Go.Vm.Ip
namespace Go.Vm.Ip
open Go.Vm.Lex (nameB)
def flT (x : Its) (s : S) : List S := (flM x s).map Fld.t
theorem held_sub {x : Its} {s z : S} (h : z ∈ (heldM x s).1) : z ∈ flT x s := by
 rw [held_eq] at h
 split at h
 ·exact h
 split at h
 ·obtain ⟨_, f, hf, e⟩ := someT_mem.1 h
  exact List.mem_map.2 ⟨f, hf, e⟩
 ·cases h
theorem held_sup {x : Its} {s z : S} (h : z ∈ flT x s) (hz : z ≠ []) : z ∈ (heldM x s).1 := by
 rw [held_eq]
 split
 ·exact h
 rename_i c1
 split
 ·obtain ⟨f, hf, e⟩ := List.mem_map.1 h
  exact someT_mem.2 ⟨hz, f, hf, e⟩
 ·rename_i c2
  unfold flT flM at h
  rw [if_neg c1, if_neg c2] at h
  cases h
structure Sr14 (x : Its) (s : S) (seen todo : List S) : Prop where
 a1 : ∀ y ∈ seen, y = s ∨ Gets x s y
 a2 : ∀ y ∈ todo, kn x y = true → y = s ∨ Gets x s y
 a3 : s ∈ seen ∨ s ∈ todo
 c1 : ∀ y ∈ seen, ∀ z ∈ (heldM x y).1, z ≠ s ∧ (z ∈ seen ∨ z ∈ todo ∨ kn x z = false)
theorem Sr14.start (x : Its) (s : S) : Sr14 x s [] [s] := ⟨by simp, fun y hy _ => .inl (by simpa using hy), .inr (by simp), by simp⟩
theorem held_none {x : Its} {s : S} (h : kn x s = false) : (heldM x s).1 = [] := by
 unfold kn at h
 rw [Bool.or_eq_false_iff] at h
 rw [held_N h.1 h.2]
theorem Sr14.end {x : Its} {s : S} {seen : List S} (h : Sr14 x s seen []) : ¬ Gets x s s := by
 have h0 : s ∈ seen := h.a3.resolve_right (by simp)
 have key : ∀ y, Gets x s y → y ≠ s ∧ (y ∈ seen ∨ kn x y = false) := by
  intro y hy
  induction hy with
  | one hz =>
   obtain ⟨a, b⟩ := h.c1 s h0 _ hz
   exact ⟨a, b.imp id fun q => q.resolve_left (by simp)⟩
  | step _ hz ih =>
   rcases ih.2 with q | q
   ·obtain ⟨a, b⟩ := h.c1 _ q _ hz
    exact ⟨a, b.imp id fun q => q.resolve_left (by simp)⟩
   ·rw [held_none q] at hz; cases hz
 exact fun hr => (key s hr).1 rfl
theorem Sr14.old {x : Its} {s y : S} {seen r : List S} (h : Sr14 x s seen (y :: r)) (hk : kn x s = true) (hy : kn x y = false ∨ y ∈ seen) : Sr14 x s seen r := by
 refine ⟨h.a1, fun z hz => h.a2 z (List.mem_cons_of_mem _ hz), ?_, fun u hu z hz => ?_⟩
 ·rcases h.a3 with q | q
  ·exact .inl q
  ·rcases List.mem_cons.1 q with e | e
   ·rcases hy with c | c
    ·rw [← e, hk] at c; cases c
    ·exact .inl (e ▸ c)
   ·exact .inr e
 ·obtain ⟨a, b⟩ := h.c1 u hu z hz
  refine ⟨a, ?_⟩
  rcases b with q | q | q
  ·exact .inl q
  ·rcases List.mem_cons.1 q with e | e
   ·rcases hy with c | c
    ·exact .inr (.inr (e ▸ c))
    ·exact .inl (e ▸ c)
   ·exact .inr (.inl e)
  ·exact .inr (.inr q)
theorem Sr14.found {x : Its} {s y : S} {seen r : List S} (h : Sr14 x s seen (y :: r)) (hn : s ≠ []) (hy : kn x y = true) (ht : s ∈ flT x y) : Gets x s s := by
 have := held_sup ht hn
 rcases h.a2 y (by simp) hy with q | q
 ·rw [q] at this; exact .one this
 ·exact .step q this
theorem Sr14.new {x : Its} {s y : S} {seen r : List S} (h : Sr14 x s seen (y :: r)) (hnm : ∀ s, kn x s = true → nameB s = true) (hy : kn x y = true) (ht : s ∉ flT x y) : Sr14 x s (seen ++ [y]) (r ++ flT x y) := by
 have ry := h.a2 y (by simp) hy
 refine ⟨fun z hz => ?_, fun z hz hk => ?_, ?_, fun u hu z hz => ?_⟩
 ·rcases List.mem_append.1 hz with q | q
  ·exact h.a1 z q
  ·rw [List.mem_singleton] at q; exact q ▸ ry
 ·rcases List.mem_append.1 hz with q | q
  ·exact h.a2 z (List.mem_cons_of_mem _ q) hk
  ·have hne : z ≠ [] := fun e => by
     have := hnm z hk
     rw [e] at this
     exact absurd this (by decide)
   have := held_sup q hne
   rcases ry with e | e
   ·rw [e] at this; exact .inr (.one this)
   ·exact .inr (.step e this)
 ·rcases h.a3 with q | q
  ·exact .inl (List.mem_append_left _ q)
  ·rcases List.mem_cons.1 q with e | e
   ·exact .inl (by rw [e]; simp)
   ·exact .inr (List.mem_append_left _ e)
 ·rcases List.mem_append.1 hu with q | q
  ·obtain ⟨a, b⟩ := h.c1 u q z hz
   refine ⟨a, ?_⟩
   rcases b with q | q | q
   ·exact .inl (List.mem_append_left _ q)
   ·rcases List.mem_cons.1 q with e | e
    ·exact .inl (by rw [e]; simp)
    ·exact .inr (.inl (List.mem_append_left _ e))
   ·exact .inr (.inr q)
  ·rw [List.mem_singleton] at q
   rw [q] at hz
   have := held_sub hz
   exact ⟨fun e => ht (e ▸ this), .inr (.inl (List.mem_append_right _ this))⟩
def owG (g : S → Nat) (seen : List S) : List S → Nat
 | [] => 0
 | n :: r => (if n ∈ seen then 0 else g n) + owG g seen r
theorem owG_le (g : S → Nat) (seen : List S) (y : S) : ∀ l : List S, owG g (seen ++ [y]) l ≤ owG g seen l
 | [] => Nat.le_refl _
 | n :: r => by
   have := owG_le g seen y r
   simp only [owG, List.mem_append, List.mem_singleton]
   by_cases h : n ∈ seen
   ·simp only [h, true_or, if_true]; omega
   ·by_cases h2 : n = y
    ·simp only [h2, or_true, if_true]; omega
    ·simp only [h, h2, or_self, if_false]; omega
theorem owG_lt (g : S → Nat) {seen : List S} {y : S} (hy : y ∉ seen) : ∀ l : List S, y ∈ l → owG g (seen ++ [y]) l + g y ≤ owG g seen l
 | [], h => by cases h
 | n :: r, h => by
   have hle := owG_le g seen y r
   simp only [owG, List.mem_append, List.mem_singleton]
   by_cases e : n = y
   ·subst e
    simp only [hy, or_true, if_true, if_false]; omega
   ·have hr : y ∈ r := by
     rcases List.mem_cons.1 h with q | q
     ·exact absurd q.symm e
     ·exact q
    have ih := owG_lt g hy r hr
    by_cases h1 : n ∈ seen
    ·simp only [h1, true_or, if_true]; omega
    ·simp only [h1, e, or_self, if_false]; omega
theorem owG_bound {g : S → Nat} {b : Nat} (hg : ∀ n, g n ≤ b) (seen : List S) : ∀ l : List S, owG g seen l ≤ b * l.length
 | [] => Nat.zero_le _
 | n :: r => by
   have := owG_bound hg seen r
   have := hg n
   simp only [owG, List.length_cons, Nat.mul_add, Nat.mul_one]
   split <;> omega
theorem kn_mem {x : Its} {s : S} : kn x s = true ↔ s ∈ nS x ++ nE x := by
 unfold kn
 rw [Bool.or_eq_true, known_mem, known_mem, List.mem_append]
noncomputable def end14 (x : Its) (s : S) : Bool := (enB x s && decide (flM x s = [])) || endB x s
end Go.Vm.Ip
namespace Go.Vm.Ip
open Go.Vm.Lex (nameB)
def tgt (v : Int × Int) : Int × Int := if v.2 ≤ 1024 then (v.2, min v.1 65) else (1025, 0)
structure Nmd (x : Its) : Prop where
 nm : ∀ s, kn x s = true → nameB s = true
 ne : ∀ s, known (nS x) s = true → ∀ f ∈ flM x s, f.t ≠ []
theorem Nmd.held_S {x : Its} (h : Nmd x) {s : S} (c : known (nS x) s = true) : heldM x s = (someT (flM x s), false) := by
 rw [held_eq, if_pos c, someT_all (h.ne s c)]
theorem Nmd.nu {x : Its} (h : Nmd x) {s : S} (c : kn x s = true) : s ≠ unitT ∧ s ≠ [] := ⟨fun e => by
  have := h.nm s c
  rw [e] at this
  exact absurd this (by decide), fun e => by
  have := h.nm s c
  rw [e] at this
  exact absurd this (by decide)⟩
theorem foldS2 {g : S → Int × Int} (hg : ∀ y, 0 ≤ (g y).2) : ∀ (l : List S) (a : Int × Int), a.2 ≤ 1025 → a.2 ≤ (l.foldl (fun a y => addS a (g y)) a).2 ∧ (l.foldl (fun a y => addS a (g y)) a).2 ≤ 1025
  | [], a, h => ⟨Int.le_refl _, h⟩
  | y :: r, a, h => by
    have h0 := hg y
    have := foldS2 hg r (addS a (g y)) (by simp only [addS]; omega)
    simp only [List.foldl_cons]
    simp only [addS] at this ⊢
    omega
theorem foldE2 {g : S → Int × Int} (hg : ∀ y, 0 ≤ (g y).2) : ∀ (l : List S) (a : Int × Int), a.2 ≤ 1025 → a.2 ≤ (l.foldl (fun a y => addE a (g y)) a).2 ∧ (l.foldl (fun a y => addE a (g y)) a).2 ≤ 1025
  | [], a, h => ⟨Int.le_refl _, h⟩
  | y :: r, a, h => by
    have h0 := hg y
    have := foldE2 hg r (addE a (g y)) (by simp only [addE]; omega)
    simp only [List.foldl_cons]
    simp only [addE] at this ⊢
    omega
theorem tgt_big {v : Int × Int} (h : 1025 ≤ v.2) : tgt v = (1025, 0) := by unfold tgt; rw [if_neg (by omega)]
theorem tgt_le {v : Int × Int} (h : v.2 ≤ 1024) : tgt v = (v.2, min v.1 65) := by unfold tgt; rw [if_pos h]
end Go.Vm.Ip
namespace Go.Vm.Ip
open Go.Vm.Lex (nameB)
def fty14 (x : Its) (en : Bool) (f : Fld) : Bool := bareB (kn x) f.t || (en && decide (f.t = []))
def nms14 (x : Its) : List S → List S → Bool
 | _, [] => true
 | seen, s :: r => nameB s && !decide (s ∈ seen) && fld14 (flM x s) 16 && (flM x s).all (fty14 x (enB x s)) && nms14 x (seen ++ [s]) r
def big14 (v : Int × Int) : Bool := decide (1024 < v.1) || decide (64 < v.2)
noncomputable def r14B (x : Its) : Bool := decide (x.ss.length ≤ 64) && decide (x.es.length ≤ 64) && fun14 x && nms14 x [] (nS x ++ nE x) && (nS x ++ nE x).all (fun s => !end14 x s) && (nS x ++ nE x).all (fun s => !big14 (tgt (szF x (deepN x) s)))
theorem nms14_mem {x : Its} : ∀ {seen l : List S}, nms14 x seen l = true → ∀ s ∈ l, nameB s = true ∧ s ∉ seen ∧ fld14 (flM x s) 16 = true ∧ (flM x s).all (fty14 x (enB x s)) = true
 | _, [], _, s, h => by cases h
 | seen, a :: r, h, s, hs => by
   simp only [nms14, Bool.and_eq_true, Bool.not_eq_true', decide_eq_false_iff_not] at h
   rcases List.mem_cons.1 hs with e | e
   ·subst e; exact ⟨h.1.1.1.1, h.1.1.1.2, h.1.1.2, h.1.2⟩
   ·obtain ⟨a, b, c⟩ := nms14_mem h.2 s e
    exact ⟨a, fun hm => b (List.mem_append_left _ hm), c⟩
theorem nms14_nodup {x : Its} : ∀ {seen l : List S}, nms14 x seen l = true → l.Nodup
 | _, [], _ => by simp
 | seen, a :: r, h => by
   simp only [nms14, Bool.and_eq_true] at h
   rw [List.nodup_cons]
   exact ⟨fun hm => (nms14_mem h.2 a hm).2.1 (by simp), nms14_nodup h.2⟩
theorem fl_none {x : Its} {s : S} (h : kn x s = false) : flM x s = [] := by
 unfold kn at h
 rw [Bool.or_eq_false_iff] at h
 unfold flM; rw [h.1, h.2]; rfl
theorem bare_nil {x : Its} (h : ∀ s, kn x s = true → nameB s = true) : bareB (kn x) [] = false := by
 rw [bareB_eq, if_neg (by decide)]
 cases hk : kn x [] with
 | false => rfl
 | true => exact absurd (h _ hk) (by decide)
theorem nmd_of {x : Its} (h : nms14 x [] (nS x ++ nE x) = true) : Nmd x ∧ ∀ n, (flM x n).length ≤ 16 := by
 have hnm : ∀ s, kn x s = true → nameB s = true := fun s hs => (nms14_mem h s (kn_mem.1 hs)).1
 refine ⟨⟨hnm, fun s hs f hf e => ?_⟩, fun n => ?_⟩
 ·have hk : kn x s = true := by unfold kn; rw [hs]; rfl
  have := List.all_eq_true.1 (nms14_mem h s (kn_mem.1 hk)).2.2.2 f hf
  unfold fty14 at this
  rw [e, bare_nil hnm] at this
  unfold enB at this
  rw [hs] at this
  cases this
 ·cases hk : kn x n with
  | false => rw [fl_none hk]; exact Nat.zero_le _
  | true =>
   have := (nms14_mem h n (kn_mem.1 hk)).2.2.1
   unfold fld14 at this
   simp only [Bool.and_eq_true, decide_eq_true_eq] at this
   omega
theorem deep14 {x : Its} (h : (nS x ++ nE x).all (fun s => !end14 x s) = true) (s : S) : deepOk x (deepN x) s := deep_of (fun s hs hg => by
  have := List.all_eq_true.1 h s hs
  unfold end14 at this
  rw [endB_t hg, Bool.or_true] at this
  cases this) s
end Go.Vm.Ip
namespace Go.Vm.Ip
open Go.Vm.Lex (nameB)
theorem right_bare {k : S → Bool} (h : ∀ s, k s = true → nameB s = true) : ∀ (n : Nat) (s : S), s.length ≤ n → rightB k s = bareB k s
 | n, s, hn => by
   rw [rightB_eq, bareB_eq]
   cases hp : preB s boxT with
   | false =>
    have hb : boxB s = false := by unfold boxB; rw [hp]; rfl
    rw [hb]; rfl
   | true =>
    rw [if_pos rfl]
    cases hs : sufB (s.drop 4) [62] with
    | false =>
     have hb : boxB s = false := by unfold boxB; rw [hs, Bool.and_false]
     rw [hb, Bool.false_and]
     have hk : k s = false := by
      cases hk : k s with
      | false => rfl
      | true => have := name_not_box (h s hk); rw [hp] at this; cases this
     have hc : coreB s = false := by
      cases hc : coreB s with
      | false => rfl
      | true => have := core_not_box hc; rw [hp] at this; cases this
     rw [hk, hc]; rfl
    | true =>
     have hb : boxB s = true := by unfold boxB; rw [hp, hs]; rfl
     have hl := box_len hb
     rw [hb, Bool.true_and, if_pos rfl]
     cases n with
     | zero => omega
     | succ n => exact right_bare h n _ (by omega)
theorem lstB_split (r : S → Bool) (b : Bool) : ∀ (l : List Fld) (seen : List S), lstB r b seen l = (lstB anyT false seen l && l.all (fun f => r f.t || (b && decide (f.t = []))))
  | [], _ => rfl
  | f :: q, seen => by
    simp only [lstB, List.all_cons]
    rw [lstB_split r b q (seen ++ [f.n])]
    generalize lstB anyT false (seen ++ [f.n]) q = u
    generalize (q.all fun f => r f.t || (b && decide (f.t = []))) = w
    generalize (r f.t || (b && decide (f.t = []))) = z
    generalize nameB f.n = n
    generalize (!decide (f.n ∈ seen)) = m
    unfold anyT
    cases u <;> cases w <;> cases z <;> cases n <;> cases m <;> rfl
theorem big_tgt (v : Int × Int) : big14 (tgt v) = bigB v := by
 rw [Bool.eq_iff_iff]
 unfold big14 bigB tgt
 by_cases h : v.2 ≤ 1024
 ·rw [if_pos h]
  simp only [Bool.or_eq_true, decide_eq_true_eq]
  omega
 ·rw [if_neg h]
  simp only [Bool.or_eq_true, decide_eq_true_eq]
  omega
theorem nam_self {l : List Nam} (hn : (l.map Nam.n).Nodup) {y : Nam} (hy : y ∈ l) : nam l y.n = y := by
 have hk : known (l.map Nam.n) y.n = true := known_mem.2 (List.mem_map.2 ⟨y, hy, rfl⟩)
 obtain ⟨h1, h2⟩ := nam_mem hk
 clear hk
 induction l with
 | nil => cases hy
 | cons a r ih =>
  rw [List.map_cons, List.nodup_cons] at hn
  have e : nam (a :: r) y.n = if a.n = y.n then a else nam r y.n := by
   unfold nam
   rw [List.map_cons]
   unfold pos
   rw [List.findIdx?_cons]
   by_cases c : a.n = y.n
   ·rw [if_pos c, show (a.n == y.n) = true by simp [c]]; rfl
   ·rw [if_neg c, show (a.n == y.n) = false by simp [c]]
    simp only [Bool.false_eq_true, if_false]
    cases List.findIdx? (fun x => x == y.n) (r.map Nam.n) with
    | none => rfl
    | some i => rfl
  rw [e] at h1 h2 ⊢
  by_cases c : a.n = y.n
  ·rw [if_pos c]
   rcases List.mem_cons.1 hy with q | q
   ·exact q.symm
   ·exact absurd (List.mem_map.2 ⟨y, q, c.symm⟩) hn.1
  ·rw [if_neg c] at h1 h2 ⊢
   have hyr : y ∈ r := by
    rcases List.mem_cons.1 hy with q | q
    ·exact absurd (congrArg Nam.n q).symm c
    ·exact q
   have hk : known (r.map Nam.n) y.n = true := known_mem.2 (List.mem_map.2 ⟨y, hyr, rfl⟩)
   obtain ⟨a1, a2⟩ := nam_mem hk
   exact ih hn.2 hyr a1 a2
theorem namB_of {k : S → Bool} {en : Bool} : ∀ {seen : List S} {l : List Nam}, (∀ y ∈ l, nameB y.n = true ∧ (en = true → y.fs ≠ []) ∧ lstB (rt k false) en [] y.fs = true ∧ y.fs.length ≤ 16) → (seen ++ l.map Nam.n).Nodup → namB k en seen l = true
 | _, [], _, _ => rfl
 | seen, z :: r, h, hn => by
   obtain ⟨h1, h2, h3, h4⟩ := h z (by simp)
   have hz : z.n ∉ seen := by
    rw [List.map_cons] at hn
    exact fun hm => (List.nodup_append.1 hn).2.2 _ hm _ (by simp) rfl
   have hn2 : (seen ++ [z.n] ++ r.map Nam.n).Nodup := by rw [List.append_assoc]; exact hn
   simp only [namB, Bool.and_eq_true, decide_eq_true_eq, Bool.not_eq_true', decide_eq_false_iff_not]
   refine ⟨⟨⟨⟨h1, hz⟩, ?_⟩, h3, by omega⟩, namB_of (fun y hy => h y (by simp [hy])) hn2⟩
   cases en with
   | false => rfl
   | true => simpa using h2 rfl
theorem nms14_of {x : Its} : ∀ {seen l : List S}, (∀ s ∈ l, nameB s = true ∧ fld14 (flM x s) 16 = true ∧ (flM x s).all (fty14 x (enB x s)) = true) → (seen ++ l).Nodup → nms14 x seen l = true
 | _, [], _, _ => rfl
 | seen, s :: r, h, hn => by
   obtain ⟨h1, h2, h3⟩ := h s (by simp)
   have hz : s ∉ seen := fun hm => (List.nodup_append.1 hn).2.2 _ hm _ (by simp) rfl
   have hn2 : (seen ++ [s] ++ r).Nodup := by rw [List.append_assoc]; exact hn
   simp only [nms14, Bool.and_eq_true, Bool.not_eq_true', decide_eq_false_iff_not]
   exact ⟨⟨⟨⟨h1, hz⟩, h2⟩, h3⟩, nms14_of (fun y hy => h y (by simp [hy])) hn2⟩
theorem fl_ss {x : Its} (hn : (nS x).Nodup) {y : Nam} (hy : y ∈ x.ss) : flM x y.n = y.fs ∧ enB x y.n = false := by
 have hk : known (nS x) y.n = true := known_mem.2 (List.mem_map.2 ⟨y, hy, rfl⟩)
 unfold flM enB
 rw [hk, if_pos rfl, nam_self hn hy]; exact ⟨rfl, rfl⟩
theorem fl_es {x : Its} (hn : (nE x).Nodup) (hd : ∀ s ∈ nE x, s ∉ nS x) {y : Nam} (hy : y ∈ x.es) : flM x y.n = y.fs ∧ enB x y.n = true := by
 have hm : y.n ∈ nE x := List.mem_map.2 ⟨y, hy, rfl⟩
 have hk : known (nE x) y.n = true := known_mem.2 hm
 have hk2 : known (nS x) y.n = false := by
  cases c : known (nS x) y.n with
  | false => rfl
  | true => exact absurd (known_mem.1 c) (hd _ hm)
 unfold flM enB
 rw [hk, hk2, nam_self hn hy]; exact ⟨rfl, rfl⟩
theorem fld_all {x : Its} (hnm : ∀ s, kn x s = true → nameB s = true) (en : Bool) (l : List Fld) : (lstB (rt (kn x) false) en [] l = true ∧ l.length ≤ 16) ↔ (fld14 l 16 = true ∧ l.all (fty14 x en) = true) := by
 have e : ∀ f : Fld, (rt (kn x) false f.t || (en && decide (f.t = []))) = fty14 x en f := fun f => by
   unfold fty14 rt
   rw [if_neg (by decide), right_bare hnm _ f.t (Nat.le_refl _)]
 rw [lstB_split]
 unfold fld14
 simp only [e, Bool.and_eq_true, decide_eq_true_eq]
 constructor
 ·rintro ⟨⟨a, b⟩, c⟩; exact ⟨⟨a, by omega⟩, b⟩
 ·rintro ⟨⟨a, c⟩, b⟩; exact ⟨⟨a, b⟩, by omega⟩
theorem nms_iff {x : Its} (hnm : ∀ s, kn x s = true → nameB s = true) : (nms14 x [] (nS x ++ nE x) = true ∧ ∀ s ∈ nS x ++ nE x, end14 x s = false) ↔ (namB (kn x) false [] x.ss = true ∧ namB (kn x) true (nS x) x.es = true ∧ ∀ s ∈ nS x ++ nE x, endB x s = false) := by
 constructor
 ·rintro ⟨h1, h2⟩
  have hN := nms14_nodup h1
  have hM := nms14_mem h1
  obtain ⟨nd1, nd2, nd3⟩ := List.nodup_append.1 hN
  have hd : ∀ s ∈ nE x, s ∉ nS x := fun s hs hs2 => nd3 s hs2 s hs rfl
  refine ⟨namB_of (fun y hy => ?_) (by rw [List.nil_append]; exact nd1), namB_of (fun y hy => ?_) hN, fun s hs => ?_⟩
  ·have hm : y.n ∈ nS x ++ nE x := List.mem_append_left _ (List.mem_map.2 ⟨y, hy, rfl⟩)
   obtain ⟨a, _, b, c⟩ := hM _ hm
   obtain ⟨e1, e2⟩ := fl_ss nd1 hy
   rw [e1] at b c
   rw [e2] at c
   obtain ⟨p, q⟩ := (fld_all hnm false y.fs).2 ⟨b, c⟩
   exact ⟨a, by simp, p, q⟩
  ·have hm : y.n ∈ nS x ++ nE x := List.mem_append_right _ (List.mem_map.2 ⟨y, hy, rfl⟩)
   obtain ⟨a, _, b, c⟩ := hM _ hm
   obtain ⟨e1, e2⟩ := fl_es nd2 hd hy
   have h3 := h2 _ hm
   rw [e1] at b c
   rw [e2] at c
   obtain ⟨p, q⟩ := (fld_all hnm true y.fs).2 ⟨b, c⟩
   refine ⟨a, fun _ e => ?_, p, q⟩
   unfold end14 at h3
   rw [e1, e2, e] at h3
   cases h3
  ·have h3 := h2 s hs
   unfold end14 at h3
   rw [Bool.or_eq_false_iff] at h3
   exact h3.2
 ·rintro ⟨h1, h2, h3⟩
  have nd1 : (nS x).Nodup := namB_nodup h1
  have nd2 : (nE x).Nodup := namB_nodup h2
  have hd : ∀ s ∈ nE x, s ∉ nS x := fun s hs => by
    obtain ⟨y, hy, rfl⟩ := List.mem_map.1 hs
    exact (namB_mem h2 y hy).2.1
  have key : ∀ s ∈ nS x ++ nE x, nameB s = true ∧ fld14 (flM x s) 16 = true ∧ (flM x s).all (fty14 x (enB x s)) = true ∧ (enB x s && decide (flM x s = [])) = false := fun s hs => by
    rcases List.mem_append.1 hs with q | q
    ·obtain ⟨y, hy, rfl⟩ := List.mem_map.1 q
     obtain ⟨a, _, b, c, d⟩ := namB_mem h1 y hy
     obtain ⟨e1, e2⟩ := fl_ss nd1 hy
     obtain ⟨p, r⟩ := (fld_all hnm false y.fs).1 ⟨c, d⟩
     rw [e1, e2]
     exact ⟨a, p, r, rfl⟩
    ·obtain ⟨y, hy, rfl⟩ := List.mem_map.1 q
     obtain ⟨a, _, b, c, d⟩ := namB_mem h2 y hy
     obtain ⟨e1, e2⟩ := fl_es nd2 hd hy
     obtain ⟨p, r⟩ := (fld_all hnm true y.fs).1 ⟨c, d⟩
     rw [e1, e2]
     exact ⟨a, p, r, by rw [decide_eq_false (b rfl)]; rfl⟩
  refine ⟨nms14_of (fun s hs => ⟨(key s hs).1, (key s hs).2.1, (key s hs).2.2.1⟩) ?_, fun s hs => ?_⟩
  ·rw [List.nil_append, List.nodup_append]
   exact ⟨nd1, nd2, fun a ha b hb e => hd b hb (e ▸ ha)⟩
  ·unfold end14
   rw [(key s hs).2.2.2, h3 s hs]; rfl
end Go.Vm.Ip
namespace Go.Vm.Ip
open Go.Vm.Lex (nameB)
theorem rt_is {x : Its} (hnm : ∀ s, kn x s = true → nameB s = true) (s : S) : rightR (kn x) s = isB (kn x) s := by
 unfold rightR
 rw [offR_drop, right_bare hnm _ (s.drop 5) (Nat.le_refl _), right_bare hnm _ (s.drop 1) (Nat.le_refl _), right_bare hnm _ s (Nat.le_refl _)]
theorem mem_bi (n : S) (l : List S) : n ∈ [printT, readT, panicT] ++ l ↔ (biB n = true ∨ n ∈ l) := by
 unfold biB
 rw [List.mem_append]
 simp only [List.mem_cons, List.not_mem_nil, or_false, Bool.or_eq_true, decide_eq_true_eq]
 constructor
 ·rintro ((a | a | a) | a)
  ·exact .inl (.inl (.inl a))
  ·exact .inl (.inl (.inr a))
  ·exact .inl (.inr a)
  ·exact .inr a
 ·rintro (((a | a) | a) | a)
  ·exact .inl (.inl a)
  ·exact .inl (.inr (.inl a))
  ·exact .inl (.inr (.inr a))
  ·exact .inr a
theorem all_fun (l : List Fld) {p q : Fld → Bool} (h : ∀ a, p a = q a) : l.all p = l.all q := by rw [show p = q from funext h]
theorem fnc_eq {x : Its} (hnm : ∀ s, kn x s = true → nameB s = true) : ∀ (l dn : List Fnc), fncB (kn x) ([printT, readT, panicT] ++ dn.map Fnc.n) (dn.map Fnc.d) l = fns14 (kn x) dn l
 | [], _ => rfl
 | f :: r, dn => by
   have ih := fnc_eq hnm r (dn ++ [f])
   rw [List.map_append, List.map_append, ← List.append_assoc] at ih
   simp only [fncB, fns14]
   rw [show ([f] : List Fnc).map Fnc.n = [f.n] from rfl, show ([f] : List Fnc).map Fnc.d = [f.d] from rfl] at ih
   rw [ih, rt_is hnm]
   have e1 : (lstB (rt (kn x) true) false [] f.ps && decide ((f.ps.length : Int) ≤ 6)) = (fld14 f.ps 6 && f.ps.all (fun p => isB (kn x) p.t)) := by
     rw [lstB_split]
     unfold fld14
     have : (f.ps.all fun f => rt (kn x) true f.t || (false && decide (f.t = []))) = f.ps.all (fun p => isB (kn x) p.t) := all_fun f.ps fun p => by
       unfold rt
       rw [if_pos rfl, rt_is hnm, Bool.false_and, Bool.or_false]
     rw [this]
     cases lstB anyT false [] f.ps <;> cases (f.ps.all fun p => isB (kn x) p.t) <;> cases decide ((f.ps.length : Int) ≤ 6) <;> rfl
   have e2 : decide (f.n ∈ [printT, readT, panicT] ++ dn.map Fnc.n) = (biB f.n || decide (f.n ∈ dn.map Fnc.n)) := by
    rw [Bool.eq_iff_iff, decide_eq_true_eq, mem_bi, Bool.or_eq_true, decide_eq_true_eq]
   have e3 : decide (f.n ∈ dn.map Fnc.n ∨ f.d ∈ dn.map Fnc.d) = (decide (f.n ∈ dn.map Fnc.n) || decide (f.d ∈ dn.map Fnc.d)) := Bool.decide_or ..
   rw [e1, e2, e3]
   generalize fns14 (kn x) (dn ++ [f]) r = b1
   generalize (f.ps.all fun p => isB (kn x) p.t) = b2
   generalize fld14 f.ps 6 = b3
   generalize biB f.n = b4
   generalize decide (f.n ∈ dn.map Fnc.n) = b5
   generalize decide (f.d ∈ dn.map Fnc.d) = b6
   generalize isB (kn x) f.r = b7
   generalize nameB f.n = b8
   generalize decide (f.ms.length = f.ps.length) = b9
   generalize decide (f.d < 0) = b10
   revert b1 b2 b3 b4 b5 b6 b7 b8 b9 b10
   decide
theorem fns14_nodup {k : S → Bool} : ∀ {dn l : List Fnc}, fns14 k dn l = true → (l.map Fnc.n).Nodup ∧ ∀ f ∈ l, f.n ∉ dn.map Fnc.n
 | _, [], _ => ⟨by simp, fun f hf => by cases hf⟩
 | dn, a :: r, h => by
   simp only [fns14, Bool.and_eq_true, Bool.not_eq_true', decide_eq_false_iff_not, not_or] at h
   obtain ⟨⟨⟨_, h1⟩, _⟩, h2⟩ := h
   obtain ⟨i1, i2⟩ := fns14_nodup h2
   refine ⟨?_, fun f hf => ?_⟩
   ·rw [List.map_cons, List.nodup_cons]
    refine ⟨fun hm => ?_, i1⟩
    obtain ⟨y, hy, he⟩ := List.mem_map.1 hm
    exact i2 y hy (by rw [he, List.map_append]; simp)
   ·rcases List.mem_cons.1 hf with e | e
    ·rw [e]; exact h1.1
    ·exact fun hm => i2 f e (by rw [List.map_append]; exact List.mem_append_left _ hm)
theorem main_eq {x : Its} (hn : (x.fs.map Fnc.n).Nodup) : x.fs.any mn14 = mainB x := by
 unfold mainB
 rw [show nF x = x.fs.map Fnc.n from rfl]
 cases hp : pos (x.fs.map Fnc.n) mainT with
 | none =>
  rw [List.any_eq_false]
  intro f hf
  unfold mn14
  have : f.n ≠ mainT := fun e => pos_none hp (List.mem_map.2 ⟨f, hf, e⟩)
  rw [decide_eq_false this]
  simp
 | some i =>
  have hi := pos_lt hp
  rw [List.length_map] at hi
  have hg := (pos_some hp).1
  rw [List.getElem?_map, List.getElem?_eq_getElem hi] at hg
  simp only [Option.map_some, Option.some.injEq] at hg
  have e : x.fs.getD i default = x.fs[i] := by rw [List.getD_eq_getElem?_getD, List.getElem?_eq_getElem hi]; rfl
  dsimp only
  rw [e]
  have key : x.fs.any mn14 = mn14 x.fs[i] := by
   rw [Bool.eq_iff_iff, List.any_eq_true]
   constructor
   ·rintro ⟨f, hf, h⟩
    have hfm : f.n = mainT := by
     unfold mn14 at h
     simp only [Bool.and_eq_true, decide_eq_true_eq] at h
     exact h.1.1
    obtain ⟨j, hj, hje⟩ := List.getElem_of_mem hf
    have : i = j := by
     have hd := List.nodup_iff_pairwise_ne.1 hn
     rw [List.pairwise_iff_getElem] at hd
     rcases Nat.lt_trichotomy i j with q | q | q
     ·exact absurd (by rw [List.getElem_map, List.getElem_map, hg, hje, hfm]) (hd i j (by simpa using hi) (by simpa using hj) q)
     ·exact q
     ·exact absurd (by rw [List.getElem_map, List.getElem_map, hg, hje, hfm]) (hd j i (by simpa using hj) (by simpa using hi) q)
    subst this
    rw [hje]; exact h
   ·intro h; exact ⟨_, List.getElem_mem _, h⟩
  rw [key]
  unfold mn14
  rw [hg]; rfl
theorem fun_eq {x : Its} (hnm : ∀ s, kn x s = true → nameB s = true) : fun14 x = (fnsB (kn x) x && decide (x.fs.length ≤ 64)) := by
 unfold fun14 fnsB
 have h := fnc_eq hnm x.fs []
 rw [show ([] : List Fnc).map Fnc.n = [] from rfl, show ([] : List Fnc).map Fnc.d = [] from rfl, List.append_nil] at h
 rw [h]
 cases c : fns14 (kn x) [] x.fs with
 | false => rfl
 | true => rw [main_eq (fns14_nodup c).1]
theorem r14_eq (x : Its) : r14B x = chkB x := by
 by_cases hnm : ∀ s, kn x s = true → nameB s = true
 ·have h1 := nms_iff hnm
  have h2 : ((nS x ++ nE x).all fun s => !big14 (tgt (szF x (deepN x) s))) = (nS x ++ nE x).all (fun s => !bigB (szF x (deepN x) s)) := by
    congr 1; funext s; rw [big_tgt]
  unfold r14B chkB
  rw [fun_eq hnm, h2]
  have h3 : (nms14 x [] (nS x ++ nE x) && (nS x ++ nE x).all (fun s => !end14 x s)) = (namB (kn x) false [] x.ss && namB (kn x) true (nS x) x.es && (nS x ++ nE x).all (fun s => !endB x s)) := by
    rw [Bool.eq_iff_iff]
    simp only [Bool.and_eq_true, List.all_eq_true, Bool.not_eq_true']
    rw [h1, and_assoc]
  have h4 : ∀ (a b c d e f g h i j : Bool), (d && e) = (f && g && h) → (a && b && (i && c) && d && e && j) = (a && b && c && f && g && h && j && i) := by decide
  exact h4 _ _ _ _ _ _ _ _ _ _ h3
 ·have c1 : r14B x = false := by
   cases c : r14B x with
   | false => rfl
   | true =>
    unfold r14B at c
    simp only [Bool.and_eq_true] at c
    exact absurd (nmd_of c.1.1.2).1.nm hnm
  have c2 : chkB x = false := by
   cases c : chkB x with
   | false => rfl
   | true => exact absurd (okay_of c).nm hnm
  rw [c1, c2]
end Go.Vm.Ip
namespace Go.Vm.Ip
open Go.Vm.Lex (nameB)
end Go.Vm.Ip
namespace Go.Vm.Ip
open Go.Vm.Lex (nameB)
end Go.Vm.Ip
namespace Go.Vm.Ip
open Go Go.Vm
theorem i64_of {n : Int} (h : (Lit.int .i64 n).wf = true) : -9223372036854775808 ≤ n ∧ n ≤ 9223372036854775807 := by
 have e1 : IntKind.i64.min = -9223372036854775808 := rfl
 have e2 : IntKind.i64.max = 9223372036854775807 := rfl
 simp only [Lit.wf, e1, e2] at h
 simp at h
 omega
theorem list_of {α : Type} {f : α → D} {p : α → Prop} : ∀ {l : List D}, (∀ y ∈ l, ∃ a, y = f a ∧ p a) → ∃ aas : List α, l = aas.map f ∧ ∀ a ∈ aas, p a
 | [], _ => ⟨[], rfl, fun a h => by cases h⟩
 | y :: r, h => by
   obtain ⟨a, rfl, ha⟩ := h y (by simp)
   obtain ⟨aas, rfl, has⟩ := list_of (l := r) (f := f) (p := p) fun z hz => h z (List.mem_cons_of_mem _ hz)
   exact ⟨a :: aas, rfl, fun b hb => by
     rcases List.mem_cons.1 hb with q | q
     ·exact q ▸ ha
     ·exact has b q⟩
abbrev sf (P : Program) (t : Nat) : Option (List Nat) := match P.underlying t with | some (.struct fs) => some (fs.toList.map (·.type)) | _ => none
structure Tys where
 it : Nat
 ss : Nat
 es : Nat
 fs : Nat
 s : Nat
 e : Nat
 f : Nat
 n : Nat
 fl : Nat
 fd : Nat
 bs : Nat
 b : Nat
 i : Nat
structure TysOk (P : Program) (t : Tys) : Prop where
 it : sf P t.it = some [t.ss, t.es, t.fs]
 ss : P.underlying t.ss = some (.slice t.s) ∧ P.bytesOf t.s = 40
 es : P.underlying t.es = some (.slice t.e) ∧ P.bytesOf t.e = 40
 fs : P.underlying t.fs = some (.slice t.f) ∧ P.bytesOf t.f = 88
 s : sf P t.s = some [t.n, t.fl]
 e : sf P t.e = some [t.n, t.fl]
 f : sf P t.f = some [t.n, t.fl, t.bs, t.n, t.i]
 n : P.underlying t.n = some .string
 fl : P.underlying t.fl = some (.slice t.fd) ∧ P.bytesOf t.fd = 32
 fd : sf P t.fd = some [t.n, t.n]
 bs : P.underlying t.bs = some (.slice t.b) ∧ P.bytesOf t.b = 1
 b : P.underlying t.b = some .bool
 i : P.underlying t.i = some (.int .i64)
theorem rb : reachBytes = 140737488351232 := by decide
section
variable {P : Program} {t : Tys} (ok : TysOk P t)
include ok
theorem fld_of {m : Nat} {d : D} (h : HasW P (m + 2) t.fd d) : ∃ f : Fld, d = f.D ∧ f.n.length ≤ mx ∧ f.t.length ≤ mx := by
 obtain ⟨xs, rfl, hx⟩ := hasW_struct ok.fd h
 match xs, hx with
 | [a, b], ⟨ha, hb, _⟩ =>
  obtain ⟨s, rfl, h1⟩ := hasW_str ok.n ha
  obtain ⟨u, rfl, h2⟩ := hasW_str ok.n hb
  have := rb
  exact ⟨⟨s, u⟩, rfl, by show s.length ≤ 140737488355328; omega, by show u.length ≤ 140737488355328; omega⟩
theorem flds_of {m : Nat} {d : D} (h : HasW P (m + 3) t.fl d) : ∃ l : List Fld, d = fldsD l ∧ l.length ≤ mf ∧ ∀ f ∈ l, f.n.length ≤ mx ∧ f.t.length ≤ mx := by
 obtain ⟨l, rfl, h1, h2⟩ := hasW_slice ok.fl.1 ok.fl.2 h
 obtain ⟨aas, rfl, h3⟩ := list_of (f := Fld.D) (p := fun f => f.n.length ≤ mx ∧ f.t.length ≤ mx) fun y hy => fld_of ok (h2 y hy)
 have := rb
 rw [List.length_map] at h1
 exact ⟨aas, rfl, by show aas.length ≤ 4398046511104; omega, h3⟩
theorem nam_of {m k : Nat} {d : D} (hk : sf P k = some [t.n, t.fl]) (h : HasW P (m + 4) k d) : ∃ y : Nam, d = y.D ∧ y.n.length ≤ mx ∧ y.fs.length ≤ mf ∧ ∀ f ∈ y.fs, f.n.length ≤ mx ∧ f.t.length ≤ mx := by
 obtain ⟨xs, rfl, hx⟩ := hasW_struct hk h
 match xs, hx with
 | [a, b], ⟨ha, hb, _⟩ =>
  obtain ⟨s, rfl, h1⟩ := hasW_str ok.n ha
  obtain ⟨l, rfl, h2, h3⟩ := flds_of ok hb
  have := rb
  exact ⟨⟨s, l⟩, rfl, by show s.length ≤ 140737488355328; omega, h2, h3⟩
theorem fnc_of {m : Nat} {d : D} (h : HasW P (m + 4) t.f d) : ∃ y : Fnc, d = y.D ∧ y.n.length ≤ mx ∧ y.r.length ≤ mx ∧ y.ms.length ≤ mx ∧ y.ps.length ≤ mf ∧ (∀ f ∈ y.ps, f.n.length ≤ mx ∧ f.t.length ≤ mx) ∧ -9223372036854775808 ≤ y.d ∧ y.d ≤ 9223372036854775807 := by
 obtain ⟨xs, rfl, hx⟩ := hasW_struct ok.f h
 match xs, hx with
 | [a, b, c, d, e], ⟨ha, hb, hc, hd, he, _⟩ =>
  obtain ⟨s, rfl, h1⟩ := hasW_str ok.n ha
  obtain ⟨l, rfl, h2, h3⟩ := flds_of ok hb
  obtain ⟨ms, rfl, h4, h5⟩ := hasW_slice ok.bs.1 ok.bs.2 hc
  obtain ⟨bs, rfl, _⟩ := list_of (f := D.bool) (p := fun _ => True) fun y hy => by
    obtain ⟨b, hb⟩ := hasW_bool ok.b (h5 y hy)
    exact ⟨b, hb, trivial⟩
  obtain ⟨r, rfl, h6⟩ := hasW_str ok.n hd
  obtain ⟨n, rfl, h7⟩ := hasW_int ok.i he
  have := rb
  rw [List.length_map] at h4
  exact ⟨⟨s, l, bs, r, n⟩, rfl, by show s.length ≤ 140737488355328; omega, by show r.length ≤ 140737488355328; omega, by show bs.length ≤ 140737488355328; omega, h2, h3, i64_of h7⟩
theorem its_of {m : Nat} {d : D} (h : HasW P (m + 6) t.it d) : ∃ x : Its, d = x.D ∧ Fine x := by
 obtain ⟨xs, rfl, hx⟩ := hasW_struct ok.it h
 match xs, hx with
 | [a, b, c], ⟨ha, hb, hc, _⟩ =>
  obtain ⟨l1, rfl, a1, a2⟩ := hasW_slice ok.ss.1 ok.ss.2 ha
  obtain ⟨l2, rfl, b1, b2⟩ := hasW_slice ok.es.1 ok.es.2 hb
  obtain ⟨l3, rfl, c1, c2⟩ := hasW_slice ok.fs.1 ok.fs.2 hc
  obtain ⟨ss, rfl, h1⟩ := list_of fun y hy => nam_of ok ok.s (a2 y hy)
  obtain ⟨es, rfl, h2⟩ := list_of fun y hy => nam_of ok ok.e (b2 y hy)
  obtain ⟨fs, rfl, h3⟩ := list_of fun y hy => fnc_of ok (c2 y hy)
  have := rb
  rw [List.length_map] at a1 b1 c1
  exact ⟨⟨ss, es, fs⟩, rfl, by show ss.length ≤ 140737488355328; omega, by show es.length ≤ 140737488355328; omega, by show fs.length ≤ 140737488355328; omega, h1, h2, h3⟩
end
end Go.Vm.Ip
namespace Go.Vm
def primClone (a : List V) (h : Hp) : Option (V × Hp) := match a with
 | [.d (.sl l)] => if roomy l.length 32 ∧ l.all (fun x => x.cells.length == 2) = true then some (.d (.sl l), h) else none
 | _ => none
end Go.Vm
namespace Go.Vm
open Go.ChangeMaps (setBlock)
section
variable {P : Program} {cx : Cx} {g : Gh} {H : Hp} {w : World}
theorem Inv.untr {w' : World} (hI : Inv cx g H w) (hs : w.heap.size ≤ w'.heap.size) (hh : ∀ b, ((∃ i c, g.J i = some (b, c)) ∨ g.C b ≠ [] ∨ cx.fx b ≠ none) → w'.heap[b]? = w.heap[b]?) : Inv cx g H w' := by
 refine ⟨hI.inj, fun i b c h => ⟨(hI.dom i b c h).1, Nat.lt_of_lt_of_le (hI.dom i b c h).2 hs⟩, fun i b c o h ho => ?_, fun b hb => ?_, hI.und, hI.glob, fun i o hi => ?_⟩
 ·exact (hI.ob i b c o h ho).ext (Keep.refl H.length g H).w (hh b (.inl ⟨i, c, h⟩)) rfl (by rintro c' rfl; exact hI.und i c' (hI.dom i b c h).1 ho)
 ·rw [hh b (.inr (.inl hb))]; exact hI.imm b hb
 ·obtain ⟨h1, h2⟩ := hI.fix i o hi
  exact ⟨by rw [hh i (.inr (.inr (by rw [hi]; simp)))]; exact h1, h2⟩
theorem Ext.untr {nb : Nat} {g' : Gh} {H' : Hp} {w' w2 : World} (h : Ext nb g H w g' H' w') (h1 : w2.os = w'.os) (h2 : w2.tape = w'.tape) (h3 : w2.output = w'.output) (h4 : w'.heap.size ≤ w2.heap.size) (h5 : ∀ b, b < w.heap.size → w2.heap[b]? = w'.heap[b]?) : Ext nb g H w g' H' w2 :=
 ⟨h1.trans h.os, h2.trans h.tape, h3.trans h.output, Nat.le_trans h.size h4, fun b hb hj => ⟨(h5 b hb).trans (h.frame b hb hj).1, (h.frame b hb hj).2⟩, h.keep, h.jnew, h.clean, h.len⟩
structure Iter (cx : Cx) (g : Gh) (w : World) (r bm n : Nat) (seen : Array Nat) : Prop where
 hr : w.heap[r]? = some (.mapIter (some bm) n seen n)
 noJ : ∀ k c, g.J k ≠ some (r, c)
 noC : g.C r = []
 noF : cx.fx r = none
theorem Iter.lt {r bm n : Nat} {seen : Array Nat} (h : Iter cx g w r bm n seen) : r < w.heap.size := (Array.getElem?_eq_some_iff.1 h.hr).1
theorem Iter.ext {nb r bm n : Nat} {seen : Array Nat} {g' : Gh} {H' : Hp} {w' : World} (h : Iter cx g w r bm n seen) (e : Ext nb g H w g' H' w') : Iter cx g' w' r bm n seen := by
 obtain ⟨h1, h2⟩ := e.frame r h.lt h.noJ
 refine ⟨h1.trans h.hr, fun k c hk => ?_, h2.trans h.noC, h.noF⟩
 obtain ⟨k', c', hk'⟩ := e.jnew k r c hk h.lt
 exact h.noJ k' c' hk'
theorem Iter.cut {r bm n m : Nat} {seen : Array Nat} (h : Iter cx g w r bm n seen) : Iter cx (g.cut m) w r bm n seen :=
 ⟨h.hr, fun k c hk => h.noJ k c (cut_some hk).2, h.noC, h.noF⟩
theorem op_step {ops : Array Oper} {i : Nat} {op : Op} {dst : Option Nat} (h : (ops[i]?).map (fun o => (o.op, o.dst, o.guard)) = some (op, dst, none)) {Q : Exit → Act → World → Prop} {K : Act → World → Prop} {a : Act} {w' : World} {x : Value} (hrun : ∀ o : Oper, o.op = op → (execOp a.eval o).run P w = .ok (.value x) w') (hk : K (a.put dst x) w') : wpOp P ops Q i K a w := by
  obtain ⟨o, ho, he⟩ := Option.map_eq_some_iff.1 h
  simp only [Prod.mk.injEq] at he
  obtain ⟨e1, e2, e3⟩ := he
  unfold wpOp
  simp only [ho]
  rw [if_pos (by simp [Region.wanted, e3])]
  refine .inl ?_
  unfold Oper.wp
  rw [hrun o e1, Oper.upon_value, e2]
  exact hk
structure RangeShape (N : Nat) (ops0 ops1 ops2 : Array Oper) (src tm ti tn tk te tx key : Nat) (mt : TypeId) : Prop where
 s0 : ops0.size = 2
 a0 : (ops0[0]?).map (fun o => (o.op, o.dst, o.guard)) = some (.move (.tmp src), some tm, none)
 a1 : (ops0[1]?).map (fun o => (o.op, o.dst, o.guard)) = some (.range mt (.tmp tm), some ti, none)
 s1 : ops1.size = 2
 b0 : (ops1[0]?).map (fun o => (o.op, o.dst, o.guard)) = some (.next (.tmp ti) false, some tn, none)
 b1 : (ops1[1]?).map (fun o => (o.op, o.dst, o.guard)) = some (.extract (.tmp tn) 0, some tk, none)
 s2 : ops2.size = 3
 c0 : (ops2[0]?).map (fun o => (o.op, o.dst, o.guard)) = some (.entry (.tmp ti), some te, none)
 c1 : (ops2[1]?).map (fun o => (o.op, o.dst, o.guard)) = some (.extract (.tmp te) 0, some tx, none)
 c2 : (ops2[2]?).map (fun o => (o.op, o.dst, o.guard)) = some (.assign (.tmp tx), some key, none)
 lt : src < N ∧ tm < N ∧ ti < N ∧ tn < N ∧ tk < N ∧ te < N ∧ tx < N ∧ key < N
 ne : tm ≠ ti ∧ tn ≠ ti ∧ tk ≠ ti ∧ tn ≠ tk ∧ te ≠ tx ∧ ti ≠ te
theorem range2 : List.range 2 = [0, 1] := rfl
theorem range3 : List.range 3 = [0, 1, 2] := rfl
theorem getE_hit (k : Nat) (v : V) (e : Env) : getE ((k, v) :: e) k = v := by simp [getE]
theorem getE_miss {k i : Nat} (h : k ≠ i) (v : V) (e : Env) : getE ((k, v) :: e) i = getE e i := by simp [getE, h]
theorem eval_tmp (a : Act) (t : Nat) : a.eval (.tmp t) = a.tmps.getD t Go.undef := rfl
theorem run_mv {a : Act} {t : Nat} {o : Oper} (h : o.op = .move (.tmp t)) : (execOp a.eval o).run P w = .ok (.value (a.tmps.getD t Go.undef)) w := by simp [execOp, h, Act.eval]
theorem run_as {a : Act} {t : Nat} {o : Oper} (h : o.op = .assign (.tmp t)) : (execOp a.eval o).run P w = .ok (.value (a.tmps.getD t Go.undef)) w := by simp [execOp, h, Act.eval]
theorem run_ex {a : Act} {t i : Nat} {o : Oper} {cs : Array Value} {y : Value} (h : o.op = .extract (.tmp t) i) (hv : a.tmps.getD t Go.undef = .tuple cs) (hy : cs[i]? = some y) : (execOp a.eval o).run P w = .ok (.value y) w := by
 simp [execOp, h, Act.eval, hv, Instr.extract, hy]
theorem run_rg {a : Act} {t bm n : Nat} {mt kt et : TypeId} {es : Array MapEntry} {o : Oper} (h : o.op = .range mt (.tmp t)) (hmt : P.underlying mt = some (.map kt et)) (hv : a.tmps.getD t Go.undef = .map (some bm)) (hb : w.heap[bm]? = some (.map es n)) : (execOp a.eval o).run P w = .ok (.value (.pointer (some ⟨w.heap.size, 0, none⟩))) (w.alloc (.mapIter (some bm) n #[] n)) := by
 simp [execOp, h, Act.eval, hv, Instr.range, hmt, Sem.run, underlying, getObj, hb, Result.andThen]
theorem run_nx {a : Act} {t : Nat} {x y : Value} {ty : TypeId} {w' : World} {o : Oper} (h : o.op = .next (.tmp t) false) (hv : a.tmps.getD t Go.undef = x) (hr : (Instr.next x false ty).run P w = .ok y w') : (execOp a.eval o).run P w = .ok (.value y) w' := by
 have hr' : (Instr.next x false o.type).run P w = .ok y w' := hr
 simp [execOp, h, Act.eval, hv, hr', Result.andThen]
theorem run_en {a : Act} {t : Nat} {x y : Value} {o : Oper} (h : o.op = .entry (.tmp t)) (hv : a.tmps.getD t Go.undef = x) (hr : (Instr.entry x).run P w = .ok y w) : (execOp a.eval o).run P w = .ok (.value y) w := by
 simp [execOp, h, Act.eval, hv, hr, Result.andThen]
theorem put_get {a : Act} {N k i : Nat} {x : Value} (hs : a.tmps.size = N) (hk : k < N) : (a.put (some k) x).tmps.getD i Go.undef = if k = i then x else a.tmps.getD i Go.undef := by
 simp only [put_tmps, setT, Array.getD_eq_getD_getElem?, Array.getElem?_setIfInBounds, hs]
 by_cases h : k = i
 ·subst h; simp [hk]
 ·simp [h]
def rangeLoop (tk id id1 id2 id3 : Nat) (ops1 ops2 : Array Oper) (body : Code) : Code :=
 .seq (.region id1 ops1 false) (.seq (.cond (.tmp tk) .skip (.exit id)) (.block id2 (.seq (.region id3 ops2 false) body)))
structure Head (cx : Cx) (N : Nat) (g : Gh) (s : St) (w : World) (E : Nat → Env) (mid bm cap n r : Nat) (seen : List Nat) (Hc : Hp) (g1 : Gh) (a1 : Act) (w1 : World) (sa : Array Nat) : Prop where
 ok : StOk cx N g1 ⟨E r, Hc, s.h.length⟩ a1 w1
 ext : Ext s.b g s.h w g1 Hc w1
 it : Iter cx g1 w1 r bm n sa
 sa : ∀ i, sa.contains i = true ↔ i ∈ seen
 J : g1.J mid = some (bm, cap)
 nw : w.heap.size ≤ r
theorem born_nodup {C : Nat → List Value} {l : List (D × D)} {es : List MapEntry} (h : RepM C l es) : (es.map (·.born)).Nodup := by
 have e : es.map (·.born) = List.range es.length := by
  apply List.ext_getElem
  ·simp
  ·intro i h1 h2
   simp only [List.length_map] at h1
   have hl : i < l.length := by rw [← h.1]; exact h1
   have := (h.2 i l[i] es[i] (List.getElem?_eq_getElem hl) (List.getElem?_eq_getElem h1)).2.2
   simpa using this
 rw [e]; exact List.nodup_range
theorem pigeon {n : Nat} {l : List Nat} (hd : l.Nodup) (hl : ∀ i ∈ l, i < n) : l.length ≤ n := by
 have : l ⊆ List.range n := fun i hi => List.mem_range.2 (hl i hi)
 have := List.Nodup.length_le_of_subset hd this
 simpa using this
theorem ev_code_sound {pg : Pg} (hT : TblOk P pg) (hmx : P.follows .mixedOrders = true) {A : Ann} {N : Nat} (c : Code) (v : VCode) (ht : tr P A c = some v) (hN : v.okN N = true) {s : St} {a : Act} {x : Ex} {s' : St} (h : ev pg v s = some (x, s')) (ok : StOk pg.toCx N g s a w)
 {Q : Exit → Act → World → Prop} (hq : ∀ g' a' w', StOk pg.toCx N g' s' a' w' → Ext s.b g s.h w g' s'.h w' → Q x.out a' w') : c.wp P Q a w := by
 obtain ⟨n, hn⟩ := evC_fin h
 obtain ⟨hS, hL⟩ := at_sound hT hmx n
 exact code_sound hS hmx hL c v ht hN hn ok hq
theorem rounds_sound {pg : Pg} (hT : TblOk P pg) (hmx : P.follows .mixedOrders = true) {A : Ann} {N : Nat} {body : Code} {v : VCode} (ht : tr P A body = some v) (hN : v.okN N = true)
 {ops0 ops1 ops2 : Array Oper} {src tm ti tn tk te tx key : Nat} {mt : TypeId} (sh : RangeShape N ops0 ops1 ops2 src tm ti tn tk te tx key mt) {id id1 id2 id3 : Nat}
 {s : St} {mid bm cap : Nat} {l : List (D × D)} {ks : List Nat} {E : Nat → Env} (hE : ∀ r, getE (E r) ti = .raw (.pointer (some ⟨r, 0, none⟩))) {I : List Nat → Hp → Prop}
 (hI : ∀ seen Hc, I seen Hc → Hc.length = s.h.length ∧ Hc[mid]? = some (.map l)) {R : St → Prop}
 (step : ∀ r seen Hc i p, I seen Hc → l[i]? = some p → i ∉ seen → ∃ x s1, ev pg v ⟨(key, .d p.1) :: (tx, .d p.1) :: (te, .tup [.d p.1, .d p.2]) :: (tk, .d (.bool true)) :: (tn, .tup [.d (.bool true), .d p.1, .d p.2]) :: E r, Hc, s.h.length⟩ = some (x, s1) ∧ ((x = .nrm ∧ cut s.h.length (keepE ks s1.e) = E r ∧ I (i :: seen) (s1.h.take s.h.length)) ∨ (x = .ret ∧ R s1)))
 {Q : Exit → Act → World → Prop}
 (hnrm : ∀ g' a' w' r Hc seen, I seen Hc → (∀ i, i < l.length → i ∈ seen) → StOk pg.toCx N g' ⟨(tk, .d (.bool false)) :: (tn, .tup [.d (.bool false)]) :: E r, Hc, s.b⟩ a' w' → Ext s.b g s.h w g' Hc w' → Q .normal a' w')
 (hret : ∀ g' a' w' s1, R s1 → StOk pg.toCx N g' ⟨s1.e, s1.h, s.b⟩ a' w' → Ext s.b g s.h w g' s1.h w' → Q .ret a' w') (hbase : s.b ≤ s.h.length) :
 ∀ (k : Nat) (seen : List Nat) (Hc : Hp) (g1 : Gh) (a1 : Act) (w1 : World) (r : Nat) (sa : Array Nat), seen.Nodup → (∀ i ∈ seen, i < l.length) → l.length ≤ seen.length + k → I seen Hc → Head pg.toCx N g s w E mid bm cap l.length r seen Hc g1 a1 w1 sa →
  Code.rounds P (rangeLoop tk id id1 id2 id3 ops1 ops2 body) (Exit.inBlock id Q) (k + 1) a1 w1 := by
 obtain ⟨l1, l2, l3, l4, l5, l6, l7, l8⟩ := sh.lt
 obtain ⟨n1, n2, n3, n4, n5, n6⟩ := sh.ne
 have round : ∀ (K : Act → World → Prop) (seen : List Nat) (Hc : Hp) (g1 : Gh) (a1 : Act) (w1 : World) (r : Nat) (sa : Array Nat), seen.Nodup → (∀ i ∈ seen, i < l.length) → I seen Hc → Head pg.toCx N g s w E mid bm cap l.length r seen Hc g1 a1 w1 sa →
  (∀ i Hc' g2 a2 w2 sa', i < l.length → i ∉ seen → I (i :: seen) Hc' → Head pg.toCx N g s w E mid bm cap l.length r (i :: seen) Hc' g2 a2 w2 sa' → K a2 w2) →
  (rangeLoop tk id id1 id2 id3 ops1 ops2 body).wp P (Exit.then K (Exit.inBlock id Q)) a1 w1 := by
  intro K seen Hc g1 a1 w1 r sa hd hlt hin hh hK
  obtain ⟨hlen, hmid⟩ := hI seen Hc hin
  have hob := hh.ok.inv.ob mid bm cap _ hh.J hmid
  obtain ⟨⟨es, hes, hrm⟩, hC0⟩ := hob
  have hit : a1.tmps.getD ti Go.undef = .pointer (some ⟨r, 0, none⟩) := by
   have := (hh.ok.env.2 ti l3).1
   simp only [hE, Rep] at this
   exact this
  have hold : ∀ x ∈ es.toList, x.born < l.length := fun x hx => by
    obtain ⟨i, hi, rfl⟩ := List.getElem_of_mem hx
    have hil : i < l.length := by rw [← hrm.1]; exact hi
    have := (hrm.2 i l[i] es.toList[i] (List.getElem?_eq_getElem hil) (List.getElem?_eq_getElem hi)).2.2
    omega
  apply wp_seq
  apply wp_region
  rw [sh.s1, range2, wpOps_cons]
  have hnx := run_next_at (P := P) w1 0 r bm l.length l.length sa es l.length hh.it.hr hes hold (Nat.le_refl _)
  rcases hnx with ⟨h0, hrun⟩ | ⟨e, he, w1', hw1', hrun⟩
  ·have hall : ∀ i, i < l.length → i ∈ seen := fun i hi => by
     have hi' : i < es.toList.length := by rw [hrm.1]; exact hi
     have hb := (hrm.2 i l[i] es.toList[i] (List.getElem?_eq_getElem hi) (List.getElem?_eq_getElem hi')).2.2
     have hem : leftOf es sa = #[] := Array.eq_empty_of_size_eq_zero h0
     unfold leftOf at hem
     rw [Array.filter_eq_empty_iff] at hem
     have := hem es.toList[i] (by simp)
     rw [hb] at this
     refine (hh.sa i).1 ?_
     simpa using this
   have o1 : StOk pg.toCx N g1 ⟨putE (some tn) (.tup [.d (.bool false)]) (E r), Hc, s.h.length⟩ (a1.put (some tn) (.tuple #[.bool false])) w1 := hh.ok.put (fun k hk => by cases hk; exact l4) hh.ok.inv (by simp only [Rep, RepTs]; exact ⟨_, rfl, _, _, rfl, by simp [RepD, RepCs], rfl⟩) (by simp [V.und, undL]) (Ext.refl ..)
   have o2 : StOk pg.toCx N g1 ⟨putE (some tk) (.d (.bool false)) (putE (some tn) (.tup [.d (.bool false)]) (E r)), Hc, s.h.length⟩ ((a1.put (some tn) (.tuple #[.bool false])).put (some tk) (.bool false)) w1 := o1.put (fun k hk => by cases hk; exact l5) hh.ok.inv (by simp [Rep, RepD, RepCs]) (by simp [V.und]) (Ext.refl ..)
   have e1 : (a1.put (some tn) (.tuple #[.bool false])).tmps.getD tn Go.undef = .tuple #[.bool false] := by rw [put_get hh.ok.env.1 l4, if_pos rfl]
   refine op_step sh.b0 (fun o ho => run_nx ho hit hrun) ?_
   rw [wpOps_cons]
   refine op_step sh.b1 (fun o ho => run_ex ho e1 rfl) ?_
   show (Code.seq (.cond (.tmp tk) .skip (.exit id)) _).wp P _ _ _
   apply wp_seq
   refine wp_cond_false (by rw [eval_tmp, put_get o1.env.1 l5, if_pos rfl]; rfl) ?_
   refine wp_exit ?_
   show (if id = id then Q .normal _ _ else _)
   rw [if_pos rfl]
   refine hnrm g1 _ w1 r Hc seen hin hall ⟨o2.inv, o2.env, o2.defers, ?_⟩ hh.ext
   show s.b ≤ Hc.length
   omega
  ·-- one more
   have hem : e ∈ es.toList ∧ sa.contains e.born = false := by
    unfold leftOf at he
    simp only [Array.toList_filter, List.mem_filter, Bool.not_eq_true'] at he
    exact he
   obtain ⟨i, hi, hie⟩ := List.getElem_of_mem hem.1
   have hil : i < l.length := by rw [← hrm.1]; exact hi
   obtain ⟨rk, rv, hb⟩ := hrm.2 i l[i] e (List.getElem?_eq_getElem hil) (by rw [List.getElem?_eq_getElem hi, hie])
   have hns : i ∉ seen := fun hm => by
     have := (hh.sa i).2 hm
     rw [← hb, hem.2] at this; cases this
   obtain ⟨p, hp⟩ : ∃ p, p = l[i] := ⟨_, rfl⟩
   rw [← hp] at rk rv
   have hpl : l[i]? = some p := by rw [hp]; exact List.getElem?_eq_getElem hil
   obtain ⟨w2, hw2⟩ : ∃ w2, w2 = setBlock w1' r (.mapIter (some bm) l.length (sa.push e.born) l.length) := ⟨_, rfl⟩
   rw [← hw2] at hrun
   have hheap : w1'.heap = w1.heap := by rcases hw1' with rfl | rfl <;> rfl
   have hos : w1'.os = w1.os ∧ w1'.tape = w1.tape ∧ w1'.output = w1.output := by rcases hw1' with rfl | rfl <;> exact ⟨rfl, rfl, rfl⟩
   have hrl : r < w1.heap.size := hh.it.lt
   have h2r : w2.heap[r]? = some (.mapIter (some bm) l.length (sa.push e.born) l.length) := by
    rw [hw2]; show (w1'.heap.setIfInBounds r _)[r]? = _
    rw [hheap, Array.getElem?_setIfInBounds_self_of_lt hrl]
   have h2o : ∀ b, b ≠ r → w2.heap[b]? = w1.heap[b]? := fun b hb => by
     rw [hw2]; show (w1'.heap.setIfInBounds r _)[b]? = _
     rw [hheap, Array.getElem?_setIfInBounds_ne (fun e => hb e.symm)]
   have hsz : w2.heap.size = w1.heap.size := by
    rw [hw2]; show (w1'.heap.setIfInBounds r _).size = _
    rw [Array.size_setIfInBounds, hheap]
   have hbr : bm ≠ r := fun e => hh.it.noJ mid cap (by rw [← e]; exact hh.J)
   have hI2 : Inv pg.toCx g1 Hc w2 := hh.ok.inv.untr (by omega) (fun b hb => h2o b (fun e => by
     subst e
     rcases hb with ⟨k, c, h⟩ | h | h
     ·exact hh.it.noJ k c h
     ·exact h hh.it.noC
     ·exact h hh.it.noF))
   have hx2 : Ext s.b g s.h w g1 Hc w2 := by
    have hox : w2.os = w1.os ∧ w2.tape = w1.tape ∧ w2.output = w1.output := by rw [hw2]; exact hos
    exact hh.ext.untr hox.1 hox.2.1 hox.2.2 (by omega) fun b hb => h2o b (by have := hh.nw; omega)
   have rv1 : RepTs g1 Hc [.d p.1, .d p.2] [e.key, e.val] := by
    simp only [RepTs, Rep]; exact ⟨_, _, rfl, rk, _, _, rfl, rv, rfl⟩
   have hbool : ∀ b, Rep g1 Hc (.d (.bool b)) (.bool b) := fun b => by simp [Rep, RepD, RepCs]
   have ht1 : Rep g1 Hc (.tup [.d (.bool true), .d p.1, .d p.2]) (.tuple #[.bool true, e.key, e.val]) := by
    simp only [Rep]; exact ⟨_, rfl, by rw [RepTs]; exact ⟨_, _, rfl, hbool true, rv1⟩⟩
   have ht2 : Rep g1 Hc (.tup [.d p.1, .d p.2]) (.tuple #[e.key, e.val]) := by simp only [Rep]; exact ⟨_, rfl, rv1⟩
   have ht3 : Rep g1 Hc (.d p.1) e.key := by simp only [Rep]; exact rk
   have u0 : ∀ x : D, (V.d x).und Hc.length = true := fun _ => rfl
   have o1 : StOk pg.toCx N g1 ⟨putE (some tn) (.tup [.d (.bool true), .d p.1, .d p.2]) (E r), Hc, s.h.length⟩ (a1.put (some tn) (.tuple #[.bool true, e.key, e.val])) w2 :=
    ⟨hI2, by rw [put_tmps]; exact hh.ok.env.put (fun k hk => by cases hk; exact l4) ht1 (by simp [V.und, undL]), by rw [put_defers]; exact hh.ok.defers, hh.ok.base⟩
   have o2 := o1.put (d := some tk) (v := .d (.bool true)) (x := .bool true) (fun k hk => by cases hk; exact l5) o1.inv (hbool true) rfl (Ext.refl ..)
   have o3 := o2.put (d := some te) (v := .tup [.d p.1, .d p.2]) (x := .tuple #[e.key, e.val]) (fun k hk => by cases hk; exact l6) o2.inv ht2 (by simp [V.und, undL]) (Ext.refl ..)
   have o4 := o3.put (d := some tx) (v := .d p.1) (x := e.key) (fun k hk => by cases hk; exact l7) o3.inv ht3 rfl (Ext.refl ..)
   have o5 := o4.put (d := some key) (v := .d p.1) (x := e.key) (fun k hk => by cases hk; exact l8) o4.inv ht3 rfl (Ext.refl ..)
   have e1 : (a1.put (some tn) (.tuple #[.bool true, e.key, e.val])).tmps.getD tn Go.undef = .tuple #[.bool true, e.key, e.val] := by rw [put_get hh.ok.env.1 l4, if_pos rfl]
   have e2 : ((a1.put (some tn) (.tuple #[.bool true, e.key, e.val])).put (some tk) (.bool true)).tmps.getD ti Go.undef = .pointer (some ⟨r, 0, none⟩) := by
    rw [put_get o1.env.1 l5, if_neg n3, put_get hh.ok.env.1 l4, if_neg n2, hit]
   have hen := run_entry_at (P := P) w2 r bm l.length sa es l.length e h2r (by rw [h2o bm hbr]; exact hes) hem.1 (born_nodup hrm)
   refine op_step sh.b0 (fun o ho => run_nx ho hit hrun) ?_
   rw [wpOps_cons]
   refine op_step sh.b1 (fun o ho => run_ex (y := .bool true) ho e1 rfl) ?_
   show (Code.seq (.cond (.tmp tk) .skip (.exit id)) _).wp P _ _ _
   apply wp_seq
   refine wp_cond_true (by rw [eval_tmp, put_get o1.env.1 l5, if_pos rfl]) ?_
   refine wp_skip ?_
   show (Code.block id2 _).wp P _ _ _
   apply wp_block
   apply wp_seq
   apply wp_region
   rw [sh.s2, range3, wpOps_cons]
   refine op_step sh.c0 (fun o ho => run_en ho e2 hen) ?_
   rw [wpOps_cons]
   refine op_step sh.c1 (fun o ho => run_ex (y := e.key) ho (by rw [put_get o2.env.1 l6, if_pos rfl]) rfl) ?_
   rw [wpOps_cons]
   refine op_step sh.c2 (fun o ho => run_as ho) ?_
   rw [put_get o3.env.1 l7, if_pos rfl]
   show body.wp P _ _ _
   obtain ⟨x, s1, hev, hcase⟩ := step r seen Hc i p hin hpl hns
   refine ev_code_sound hT hmx body v ht hN hev o5 fun g' a' w' ok' e' => ?_
   have it2 : Iter pg.toCx g1 w2 r bm l.length (sa.push e.born) := ⟨h2r, hh.it.noJ, hh.it.noC, hh.it.noF⟩
   have hxx : Ext s.b g s.h w g' s1.h w' := hx2.trans e' hbase
   rcases hcase with ⟨rfl, hcut, hI'⟩ | ⟨rfl, hR⟩
   ·show K a' w'
    have hle : Hc.length ≤ s1.h.length := e'.len
    have hJ' : g'.J mid = some (bm, cap) := ((e'.keep.obj mid (.map l) (List.getElem?_eq_some_iff.1 hmid).1 hmid (by rintro sz l' ⟨⟩)).1).trans hh.J
    have hml : mid < s.h.length := by rw [← hlen]; exact (List.getElem?_eq_some_iff.1 hmid).1
    have hback := StOk.back (ks := ks) (b0 := s.h.length) (s := ⟨E r, Hc, s.h.length⟩) hh.ok.inv.und (by show s.h.length ≤ Hc.length; omega) ok' (by rw [show (St.mk (E r) Hc s.h.length).h.length = s.h.length from hlen]; exact e')
    simp only [hlen] at hback
    rw [hcut] at hback
    refine hK i (s1.h.take s.h.length) (g'.cut s.h.length) a' w' (sa.push e.born) hil hns hI' ⟨hback, ?_, (it2.ext e').cut, fun j => ?_, by rw [cut_lt hml]; exact hJ', hh.nw⟩
    ·exact hxx.cut rfl hbase
    ·rw [List.mem_cons]
     simp only [Array.contains_push, Bool.or_eq_true, beq_iff_eq, hb, hh.sa]
     constructor
     ·rintro (h | h)
      ·exact .inr h
      ·exact .inl h
     ·rintro (h | h)
      ·exact .inr h
      ·exact .inl h
   ·show Q .ret a' w'
    exact hret g' a' w' s1 hR ⟨ok'.inv, ok'.env, ok'.defers, by have h9 : Hc.length ≤ s1.h.length := e'.len; show s.b ≤ s1.h.length; omega⟩ hxx
 intro k
 induction k with
 | zero =>
  intro seen Hc g1 a1 w1 r sa hd hlt hk hin hh
  rw [rounds_succ]
  refine round _ seen Hc g1 a1 w1 r sa hd hlt hin hh fun i Hc' g2 a2 w2 sa' h1 h2 _ _ => ?_
  have := pigeon (n := l.length) (l := i :: seen) (List.nodup_cons.2 ⟨h2, hd⟩) (fun j hj => (List.mem_cons.1 hj).elim (fun e => by rw [e]; exact h1) (hlt j))
  simp only [List.length_cons] at this
  omega
 | succ k ih =>
  intro seen Hc g1 a1 w1 r sa hd hlt hk hin hh
  rw [rounds_succ]
  refine round _ seen Hc g1 a1 w1 r sa hd hlt hin hh fun i Hc' g2 a2 w2 sa' h1 h2 h3 h4 => ?_
  exact ih (i :: seen) Hc' g2 a2 w2 r sa' (List.nodup_cons.2 ⟨h2, hd⟩) (fun j hj => (List.mem_cons.1 hj).elim (fun e => by rw [e]; exact h1) (hlt j)) (by simp only [List.length_cons]; omega) h3 h4
theorem mrange_sound {pg : Pg} (hT : TblOk P pg) (hmx : P.follows .mixedOrders = true) {A : Ann} {N : Nat} {body : Code} {v : VCode} (ht : tr P A body = some v) (hN : v.okN N = true)
 {ops0 ops1 ops2 : Array Oper} {src tm ti tn tk te tx key : Nat} {mt kt et : TypeId} (sh : RangeShape N ops0 ops1 ops2 src tm ti tn tk te tx key mt) (hmt : P.underlying mt = some (.map kt et)) {id id0 id1 id2 id3 : Nat}
 {s : St} {mid : Nat} {l : List (D × D)} {ks : List Nat} {a : Act} (ok : StOk pg.toCx N g s a w) (hsrc : getE s.e src = .mp mid) (hmid : s.h[mid]? = some (.map l)) (hks : ti ∈ ks) {I : List Nat → Hp → Prop} (h0 : I [] s.h)
 (hI : ∀ seen Hc, I seen Hc → Hc.length = s.h.length ∧ Hc[mid]? = some (.map l)) {R : St → Prop}
 (step : ∀ r seen Hc i p, I seen Hc → l[i]? = some p → i ∉ seen → ∃ x s1, ev pg v ⟨(key, .d p.1) :: (tx, .d p.1) :: (te, .tup [.d p.1, .d p.2]) :: (tk, .d (.bool true)) :: (tn, .tup [.d (.bool true), .d p.1, .d p.2]) :: keepE ks ((ti, .raw (.pointer (some ⟨r, 0, none⟩))) :: (tm, .mp mid) :: s.e), Hc, s.h.length⟩ = some (x, s1) ∧ ((x = .nrm ∧ cut s.h.length (keepE ks s1.e) = keepE ks ((ti, .raw (.pointer (some ⟨r, 0, none⟩))) :: (tm, .mp mid) :: s.e) ∧ I (i :: seen) (s1.h.take s.h.length)) ∨ (x = .ret ∧ R s1)))
 {Q : Exit → Act → World → Prop}
 (hnrm : ∀ g' a' w' r Hc seen, I seen Hc → (∀ i, i < l.length → i ∈ seen) → StOk pg.toCx N g' ⟨(tk, .d (.bool false)) :: (tn, .tup [.d (.bool false)]) :: keepE ks ((ti, .raw (.pointer (some ⟨r, 0, none⟩))) :: (tm, .mp mid) :: s.e), Hc, s.b⟩ a' w' → Ext s.b g s.h w g' Hc w' → Q .normal a' w')
 (hret : ∀ g' a' w' s1, R s1 → StOk pg.toCx N g' ⟨s1.e, s1.h, s.b⟩ a' w' → Ext s.b g s.h w g' s1.h w' → Q .ret a' w') :
 (Code.seq (.region id0 ops0 false) (.block id (.loop (rangeLoop tk id id1 id2 id3 ops1 ops2 body)))).wp P Q a w := by
 obtain ⟨l1, l2, l3, l4, l5, l6, l7, l8⟩ := sh.lt
 obtain ⟨n1, n2, n3, n4, n5, n6⟩ := sh.ne
 have hrep := (ok.env.2 src l1).1
 rw [hsrc] at hrep
 have hrep' := hrep
 simp only [Rep] at hrep
 obtain ⟨_, bm, cap, hJ, hval⟩ := hrep
 obtain ⟨⟨es, hes, hrm⟩, hC0⟩ := ok.inv.ob mid bm cap _ hJ hmid
 have hml := (List.getElem?_eq_some_iff.1 hmid).1
 have o1 := ok.put (d := some tm) (v := .mp mid) (x := a.tmps.getD src Go.undef) (fun k hk => by cases hk; exact l2) ok.inv hrep' (by simp [V.und, hml]) (Ext.refl ..)
 obtain ⟨w2, hw2⟩ : ∃ w2, w2 = w.alloc (.mapIter (some bm) l.length #[] l.length) := ⟨_, rfl⟩
 have h2n : w2.heap[w.heap.size]? = some (.mapIter (some bm) l.length #[] l.length) := by rw [hw2]; exact heap_alloc_new w _
 have h2o : ∀ b, b < w.heap.size → w2.heap[b]? = w.heap[b]? := fun b hb => by rw [hw2]; exact heap_alloc_old w _ hb
 have hsz : w.heap.size ≤ w2.heap.size := by rw [hw2]; show _ ≤ (w.heap.push _).size; simp
 have hfx : pg.toCx.fx w.heap.size = none := by
  cases hf : pg.toCx.fx w.heap.size with
  | none => rfl
  | some o =>
   have := (Array.getElem?_eq_some_iff.1 (ok.inv.fix _ o hf).1).1
   omega
 have hCn : g.C w.heap.size = [] := by
  by_cases h : g.C w.heap.size = []
  ·exact h
  ·obtain ⟨cur, e, fz, h1, _⟩ := ok.inv.imm _ h
   have := (Array.getElem?_eq_some_iff.1 h1).1
   omega
 have hJn : ∀ k c, g.J k ≠ some (w.heap.size, c) := fun k c h => by have := (ok.inv.dom k _ c h).2; omega
 have hlt : ∀ b, ((∃ i c, g.J i = some (b, c)) ∨ g.C b ≠ [] ∨ pg.toCx.fx b ≠ none) → b < w.heap.size := fun b hb => by
   rcases hb with ⟨k, c, h⟩ | h | h
   ·exact (ok.inv.dom k b c h).2
   ·obtain ⟨cur, e, fz, h1, _⟩ := ok.inv.imm b h
    exact (Array.getElem?_eq_some_iff.1 h1).1
   ·cases hf : pg.toCx.fx b with
    | none => exact absurd hf h
    | some o => exact (Array.getElem?_eq_some_iff.1 (ok.inv.fix _ o hf).1).1
 have hI2 : Inv pg.toCx g s.h w2 := ok.inv.untr hsz fun b hb => h2o b (hlt b hb)
 have hx2 : Ext s.b g s.h w g s.h w2 := (Ext.refl s.b g s.h w).untr (by rw [hw2]; rfl) (by rw [hw2]; rfl) (by rw [hw2]; rfl) hsz h2o
 have o2 : StOk pg.toCx N g ⟨putE (some ti) (.raw (.pointer (some ⟨w.heap.size, 0, none⟩))) (putE (some tm) (.mp mid) s.e), s.h, s.b⟩ ((a.put (some tm) (a.tmps.getD src Go.undef)).put (some ti) (.pointer (some ⟨w.heap.size, 0, none⟩))) w2 :=
  ⟨hI2, by rw [put_tmps]; exact o1.env.put (fun k hk => by cases hk; exact l3) (by simp only [Rep]) rfl, by rw [put_defers]; exact o1.defers, o1.base⟩
 have o3 := o2.keep ks
 apply wp_seq
 apply wp_region
 rw [sh.s0, range2, wpOps_cons]
 refine op_step sh.a0 (fun o ho => run_mv ho) ?_
 rw [wpOps_cons]
 refine op_step sh.a1 (fun o ho => run_rg ho hmt (by rw [put_get ok.env.1 l2, if_pos rfl]; exact hval) hes) ?_
 show (Code.block id _).wp P _ _ _
 rw [← hw2]
 apply wp_block
 apply wp_loop_rounds (l.length + 1)
 refine rounds_sound (cap := cap) hT hmx ht hN sh (E := fun r => keepE ks ((ti, .raw (.pointer (some ⟨r, 0, none⟩))) :: (tm, .mp mid) :: s.e)) (fun r => by rw [getE_keepE, if_pos hks, getE_hit]) hI step hnrm hret ok.base l.length [] s.h g _ w2 w.heap.size #[] List.nodup_nil (fun i hi => by cases hi) (by simp) h0 ⟨o3, hx2, ⟨h2n, hJn, hCn, hfx⟩, fun i => by simp, hJ, Nat.le_refl _⟩
theorem fnspec_bare {f : Nat} {fn : Func} {c : Code} {rs : List VRes} {N : Nat} (hf : P.funcs[f]? = some fn) (hb : fn.body = some c) (hname : (fn.name == "runtime.NumGoroutine") = false) (hres : trRes P fn.results.toList = some rs) (hrs : rs.all (resLt N) = true) (hnt : N = fn.ntmps) {args : List V} (hl : args.length ≤ N) (hu : undL 0 args = true) {r : V} (hr0 : r.und 0 = true)
 (hwp : ∀ g w a, StOk cx N g ⟨enterE args, [], 0⟩ a w → c.wp P (fun x a' w' => (x = .normal ∨ x = .ret) ∧ ∃ g' s' vs, StOk cx N g' s' a' w' ∧ Ext 0 g [] w g' s'.h w' ∧ resVs s'.e s'.h rs = some vs ∧ undL 0 (vs.map (toArg s'.h)) = true ∧ oneOf (vs.map (toArg s'.h)) = r) a w) (H : Hp) : FnSpec P cx f args H r H := by
 refine ⟨⟨fn, hf, by rw [hb]; rfl, hname⟩, fun g w cargs hI ra ua => ?_⟩
 have hI0 : Inv cx (g.cut 0) [] w := by
  have := hI.restrict (n := 0) (Nat.zero_le _) (fun i c hi => by omega)
  simpa using this
 have ra0 : RepTs (g.cut 0) [] args cargs.toList := by
  have := keepW_cut g H 0
  rw [List.take_zero] at this
  exact RepTs_keep this _ _ hu ra
 refine calls_of_wp hf hb ?_
 have ok0 : StOk cx N (g.cut 0) ⟨enterE args, [], 0⟩ { tmps := cargs ++ Array.replicate (fn.ntmps - cargs.size) Go.undef, defers := [] } w :=
  ⟨hI0, by rw [← hnt]; exact enter_ok ra0 hu hl, rfl, Nat.le_refl _⟩
 refine wp_mono (hwp _ _ _ ok0) fun x a1 w1 hx => ?_
 obtain ⟨hxx, g1, s, vs, ok1, e1, hvs, hu2, hone⟩ := hx
 have goal : a1.defers = [] ∧ ∃ v, (results fn a1.tmps).run P w1 = .ok v w1 ∧ ∃ g' x, Ending.returned v = .returned x ∧ Inv cx g' H w1 ∧ Rep g' H r x ∧ r.und H.length = true ∧ Ext H.length g H w g' H w1 := by
  refine ⟨ok1.defers, ?_⟩
  obtain ⟨ys, y1, y2, y3⟩ := results_run (P := P) (fn := fn) ok1.inv ok1.env hres hrs hvs
  refine ⟨_, y1, ?_⟩
  have hlen : ([] : Hp).length ≤ s.h.length := e1.len
  have hc := e1.clean 0 (Nat.le_refl _) hI0.und
  have ra' := RepTs_args ok1.inv y2
  have ra2 := RepTs_keep (keepW_cut g1 s.h 0) _ _ hu2 ra'
  have hinv := ok1.inv.restrict (n := 0) (Nat.zero_le _) hc
  have hext := e1.cut (n := 0) rfl (Nat.le_refl _)
  rw [List.take_zero] at ra2 hinv hext
  obtain ⟨q1, q2⟩ := lift_ext (g' := g1.cut 0) hI hinv hext
  refine ⟨⟨g.J, (g1.cut 0).C⟩, _, rfl, q1, ?_, V.und_le (Nat.zero_le _) _ hr0, q2⟩
  have h3 := oneOf_rep ra2
  rw [hone] at h3
  exact Rep_keep (n := 0) (g := g1.cut 0) (H := []) (g' := ⟨g.J, (g1.cut 0).C⟩) (H' := H) ⟨fun _ => List.prefix_refl _, fun i _ hi => by omega, fun i _ _ hi => by omega⟩ _ _ hr0 h3
 rcases hxx with rfl | rfl <;> exact goal
end
end Go.Vm
namespace Go.Vm
section
variable {P : Program} {cx : Cx} {g : Gh} {H : Hp} {w : World}
inductive Loose (cx : Cx) (g : Gh) (w : World) (n sz : Nat) : Value → Nat → List Value → Prop
 | nil : Loose cx g w n sz (.slice none 0 0) 0 []
 | at (b cap : Nat) (cur : Array Value) (e : TypeId) (k : Nat) (us : List Value) : w.heap[b]? = some (.cells cur e (0, 0)) → us <+: cur.toList → us.length = k * sz → k ≤ cap → cur.size = cap * sz → cap ≤ maxLen → (∀ k c, g.J k ≠ some (b, c)) → g.C b = [] → cx.fx b = none → n ≤ b → Loose cx g w n sz (.slice (some ⟨b, 0, none⟩) k cap) k us
theorem Loose.ext {n nb sz k : Nat} {x : Value} {us : List Value} {g' : Gh} {H' : Hp} {w' : World} (h : Loose cx g w n sz x k us) (e : Ext nb g H w g' H' w') : Loose cx g' w' n sz x k us := by
 cases h with
 | nil => exact .nil
 | «at» b cap cur e0 k us h1 h2 hk0 h3 h4 h5 h6 h7 h8 h9 =>
  have hlt := (Array.getElem?_eq_some_iff.1 h1).1
  obtain ⟨f1, f2⟩ := e.frame b hlt h6
  refine .at b cap cur e0 k us (f1.trans h1) h2 hk0 h3 h4 h5 (fun k c hk => ?_) (f2.trans h7) h8 h9
  obtain ⟨k', c', hk'⟩ := e.jnew k b c hk hlt
  exact h6 k' c' hk'
theorem Loose.cut {n m sz k : Nat} {x : Value} {us : List Value} (h : Loose cx g w n sz x k us) : Loose cx (g.cut m) w n sz x k us := by
 cases h with
 | nil => exact .nil
 | «at» b cap cur e0 k us h1 h2 hk0 h3 h4 h5 h6 h7 h8 h9 => exact .at b cap cur e0 k us h1 h2 hk0 h3 h4 h5 (fun k c hk => h6 k c (cut_some hk).2) h7 h8 h9
theorem Loose.len {n sz k : Nat} {x : Value} {us : List Value} (h : Loose cx g w n sz x k us) : ∃ a c, x = .slice a k c := by cases h <;> exact ⟨_, _, rfl⟩
theorem Loose.lens {n sz k : Nat} {x : Value} {us : List Value} (h : Loose cx g w n sz x k us) : us.length = k * sz := by
 cases h with
 | nil => simp
 | «at» b cap cur e0 k us h1 h2 hk0 => exact hk0
theorem known_lt (hI : Inv cx g H w) {b : Nat} (hb : (∃ i c, g.J i = some (b, c)) ∨ g.C b ≠ [] ∨ cx.fx b ≠ none) : b < w.heap.size := by
 rcases hb with ⟨k, c, h⟩ | h | h
 ·exact (hI.dom k b c h).2
 ·obtain ⟨cur, e, fz, h1, _⟩ := hI.imm b h
  exact (Array.getElem?_eq_some_iff.1 h1).1
 ·cases hf : cx.fx b with
  | none => exact absurd hf h
  | some o => exact (Array.getElem?_eq_some_iff.1 (hI.fix _ o hf).1).1
theorem new_unknown (hI : Inv cx g H w) {b : Nat} (hb : w.heap.size ≤ b) : (∀ k c, g.J k ≠ some (b, c)) ∧ g.C b = [] ∧ cx.fx b = none := by
 refine ⟨fun k c h => ?_, ?_, ?_⟩
 ·have := known_lt hI (.inl ⟨k, c, h⟩); omega
 ·by_cases h : g.C b = []
  ·exact h
  ·have := known_lt hI (.inr (.inl h)); omega
 ·by_cases h : cx.fx b = none
  ·exact h
  ·have := known_lt hI (.inr (.inr h)); omega
def Stand (w : World) (sz : Nat) (y : Value) (m : Nat) (vs : List Value) : Prop := vs.length = m * sz ∧ ∃ ad c, y = .slice ad m c ∧ (m = 0 ∨ ∃ q, ad = some q ∧ ∀ (j : Nat) u, vs[j]? = some u → w.cell? (q.add j) = some u)
theorem Loose.stand {n sz k : Nat} {x : Value} {us : List Value} (h : Loose cx g w n sz x k us) : Stand w sz x k us := by
 refine ⟨h.lens, ?_⟩
 cases h with
 | nil => exact ⟨_, _, rfl, .inl rfl⟩
 | «at» b cap cur e0 k us h1 h2 hk0 h3 h4 h5 h6 h7 h8 h9 =>
  refine ⟨_, _, rfl, .inr ⟨_, rfl, fun j u hj => ?_⟩⟩
  rw [cell_at h1 j]
  have := prefix_getElem h2 hj
  simpa using this
theorem stand_data (hI : Inv cx g H w) {sz : Nat} {l : List D} {y : Value} (r : RepD g.C (.sl l) y) (hall : l.all (fun y => y.cells.length == sz) = true) : ∃ vs, Stand w sz y l.length vs ∧ RepEl g.C sz l vs := by
  obtain ⟨ad, cap, hx, _, _⟩ := sl_parts r
  by_cases hl : l = []
  ·subst hl
   exact ⟨[], ⟨by simp, ad, cap, by rw [hx], .inl rfl⟩, by simp [RepEl]⟩
  ·obtain ⟨q, us, h1, h2, h3, h4⟩ := news_of (sz := sz) hI hl (hx ▸ r) hall
   exact ⟨us, ⟨RepEl_length h3, ad, cap, by rw [hx], .inr ⟨q, h1, h4⟩⟩, h3⟩
theorem loose_app (hI : Inv cx g H w) {t e ty : TypeId} (ht : P.underlying t = some (.slice e)) {i : TypeInfo} (hi : P.info? e = some i) {z : Value} (hz : i.zero = some z) (hzs : z.cells.size = i.size) {n : Nat} {x : Value} {k m : Nat} {us : List Value} (hx : Loose cx g w n i.size x k us) (hn : n ≤ w.heap.size) {y : Value} {vs : List Value} (hy : Stand w i.size y m vs) (h1 : ∀ u ∈ vs, u.oneCell' = true) (hroom : roomy (k + m) i.bytes) :
 ∃ x' w', (Builtin.append_ #[t, t] ty #[x, y]).run P w = .ok x' w' ∧ Loose cx g w' n i.size x' (k + m) (us ++ vs) ∧ Inv cx g H w' ∧ w'.os = w.os ∧ w'.tape = w.tape ∧ w'.output = w.output ∧ w.heap.size ≤ w'.heap.size ∧ ∀ b, b < n → w'.heap[b]? = w.heap[b]? := by
 obtain ⟨hvl, ad, c, rfl, hst⟩ := hy
 by_cases hv : m = 0
 ·subst hv
  have : vs = [] := List.eq_nil_of_length_eq_zero (by omega)
  subst this
  rw [List.append_nil, Nat.add_zero]
  cases hx with
  | nil => exact ⟨_, w, run_append_none t ty e i ht hi none 0 0 ad c (Nat.le_refl _) (by simp), .nil, hI, rfl, rfl, rfl, Nat.le_refl _, fun _ _ => rfl⟩
  | «at» b cap cur e0 k us a1 a2 ak a3 a4 a5 a6 a7 a8 a9 =>
   exact ⟨_, w, run_append_none t ty e i ht hi _ _ cap ad c a3 (by simp), .at b cap cur e0 k us a1 a2 ak a3 a4 a5 a6 a7 a8 a9, hI, rfl, rfl, rfl, Nat.le_refl _, fun _ _ => rfl⟩
 obtain ⟨q, rfl, hnews⟩ := hst.resolve_left hv
 obtain ⟨r1, r2⟩ := hroom
 have hlenl : (us ++ vs).length = (k + m) * i.size := by rw [List.length_append, hx.lens, hvl, Nat.add_mul]
 have fresh : ∀ (cs : Array Value) (cap : Nat), (us ++ vs) <+: cs.toList → k + m ≤ cap → cs.size = cap * i.size → cap ≤ maxLen → Loose cx g (w.drew.alloc (.cells cs e)) n i.size (.slice (some ⟨w.heap.size, 0, none⟩) (k + m) cap) (k + m) (us ++ vs) ∧ Inv cx g H (w.drew.alloc (.cells cs e)) := by
  intro cs cap p1 p2 p3 p4
  obtain ⟨q1, q2, q3⟩ := new_unknown hI (Nat.le_refl _)
  refine ⟨.at _ cap cs e _ _ (heap_alloc_new w.drew _) p1 hlenl p2 p3 p4 q1 q2 q3 hn, hI.untr (by simp) fun b hb => heap_alloc_old w.drew _ (known_lt hI hb)⟩
 cases hx with
 | nil =>
  simp only [Nat.zero_add] at r1 r2 fresh ⊢
  have hrun := run_append_nil (P := P) w t ty e i z ht hi hz q m c vs hvl hnews (by omega) (by omega) (by omega)
  refine ⟨_, _, hrun, ?_⟩
  have hge := grownCap_ge w m 0 e
  obtain ⟨f1, f2⟩ := fresh (vs.toArray ++ Builtin.zeroCells z.cells (grownCap w m 0 e - m)) (grownCap w m 0 e) (by simp) hge (by simp [size_zeroCells, hzs, hvl, ← Nat.add_mul]; congr 1; omega) (grownCap_le_maxLen _ _ _ _ (by simp [maxLen]; omega))
  exact ⟨f1, f2, rfl, rfl, rfl, by simp, fun b hb => heap_alloc_old w.drew _ (by show b < w.heap.size; omega)⟩
 | «at» b cap cur e0 k us a1 a2 ak a3 a4 a5 a6 a7 a8 a9 =>
  by_cases hin : k + m ≤ cap
  ·have hmul : k * i.size + vs.length ≤ cur.size := by rw [hvl, a4, ← Nat.add_mul]; exact Nat.mul_le_mul_right _ hin
   have hrun := run_append_here (P := P) t ty e i ht hi b k cap cur e0 a1 q m c vs hvl hnews h1 hin hmul
   refine ⟨_, _, hrun, ?_⟩
   have htk : cur.toList.take (k * i.size) = us := by rw [← ak]; exact (List.prefix_iff_eq_take.1 a2).symm
   have hb : ∀ b', b' ≠ b → (w.setRow b (cur.toList.take (k * i.size) ++ vs ++ cur.toList.drop (k * i.size + vs.length)).toArray).heap[b']? = w.heap[b']? := fun b' hb' => setRow_other w b b' _ hb'
   refine ⟨?_, hI.untr (by simp) fun b' hb' => hb b' (fun e => by
     subst e
     rcases hb' with ⟨k, c, h⟩ | h | h
     ·exact a6 k c h
     ·exact h a7
     ·exact h a8), rfl, rfl, rfl, by simp, fun b' hb' => hb b' (by omega)⟩
   refine .at b cap _ e0 _ _ (setRow_heap w b cur _ e0 (0, 0) a1) ?_ hlenl hin ?_ a5 a6 a7 a8 a9
   ·rw [htk]; exact List.prefix_append _ _
   ·simp only [List.size_toArray, List.length_append, List.length_take, List.length_drop, Array.length_toList]; omega
  ·have holds : ∀ (j : Nat) u, us[j]? = some u → w.cell? ((⟨b, 0, none⟩ : Addr).add j) = some u := by
    intro j u hj
    rw [cell_at a1 j]
    have := prefix_getElem a2 hj
    simpa using this
   have hrun := run_append_grow (P := P) w t ty e i z ht hi hz ⟨b, 0, none⟩ k cap us ak holds q m c vs hvl hnews (by omega) (by omega) (growslice_fits (by omega) (by omega))
   refine ⟨_, _, hrun, ?_⟩
   have hge := grownCap_ge w (k + m) cap e
   obtain ⟨f1, f2⟩ := fresh (us.toArray ++ vs.toArray ++ Builtin.zeroCells z.cells (grownCap w (k + m) cap e - (k + m))) (grownCap w (k + m) cap e) (by simp) hge (by simp [size_zeroCells, hzs, hvl, ak, ← Nat.add_mul]; congr 1; omega) (grownCap_le_maxLen _ _ _ _ (by simp [maxLen]; omega))
   exact ⟨f1, f2, rfl, rfl, rfl, by simp, fun b' hb => heap_alloc_old w.drew _ (by show b' < w.heap.size; omega)⟩
theorem ops_pre {orc : Orc} (hS : SOrc P cx orc) {N : Nat} {ops : Array Oper} {rest : List Nat} : ∀ (l : List Oper) (i : Nat) (vs : List VOper), (∀ k, k < l.length → ops[i + k]? = l[k]?) → trOpers P ops l = some vs → vs.all (VOper.okN N) = true → ∀ {g : Gh} {w : World} {s s' : St}, evOps cx orc vs s = some s' → ∀ {a : Act}, StOk cx N g s a w →
 ∀ {Q : Exit → Act → World → Prop}, (∀ g' a' w', StOk cx N g' s' a' w' → Ext s.b g s.h w g' s'.h w' → wpOps P ops Q rest a' w') → wpOps P ops Q (List.range' i l.length ++ rest) a w
 | [], i, vs, _, ht, _, g, w, s, s', h, a, ok, Q, hq => by
   simp only [trOpers, Option.some.injEq] at ht
   subst ht
   simp only [evOps, Option.some.injEq] at h
   subst h
   exact hq g a w ok (Ext.refl ..)
 | co :: l, i, vs, hl, ht, hok, g, w, s, s', h, a, ok, Q, hq => by
   simp only [trOpers] at ht
   split at ht
   ·rename_i v vs' hv hvs
    simp only [Option.some.injEq] at ht
    subst ht
    simp only [List.all_cons, Bool.and_eq_true] at hok
    simp only [evOps] at h
    cases h1 : evOper cx orc v s with
    | none => rw [h1] at h; cases h
    | some s1 =>
     rw [h1] at h
     simp only [Option.bind_some] at h
     have hi : ops[i]? = some co := by
      have := hl 0 (by simp)
      simpa using this
     have hl' : ∀ k, k < l.length → ops[i + 1 + k]? = l[k]? := fun k hk => by
       have := hl (k + 1) (by simpa using hk)
       rw [show i + (k + 1) = i + 1 + k by omega] at this
       simpa using this
     simp only [List.length_cons, List.range'_succ, List.cons_append]
     rw [wpOps_cons]
     refine oper_sound hS hi hv hok.1 h1 ok fun g' x w' ok' ext' => ?_
     have hb := evOper_b h1
     refine ops_pre hS l (i + 1) vs' hl' hvs hok.2 h ok' fun g2 a2 w2 ok2 ext2 => ?_
     exact hq g2 a2 w2 ok2 (ext'.trans ext2 (by omega))
   ·cases ht
theorem wp_loop_dec {c : Code} {Q : Exit → Act → World → Prop} (I : Nat → Act → World → Prop) (step : ∀ k a w, I k a w → c.wp P (Exit.then (fun a' w' => ∃ k', k' < k ∧ I k' a' w') Q) a w) {k : Nat} {a : Act} (h : I k a w) : (Code.loop c).wp P Q a w := by
  have key : ∀ n k a w, k < n → I k a w → Code.rounds P c Q n a w := by
   intro n
   induction n with
   | zero => intro k a w hk; omega
   | succ n ih =>
    intro k a w hk hI
    rw [rounds_succ]
    refine wp_mono (step k a w hI) fun e a' w' he => ?_
    cases e with
    | normal =>
     obtain ⟨k', hk', hI'⟩ := he
     exact ih k' a' w' (by omega) hI'
    | _ => exact he
  exact wp_loop_rounds (k + 1) (key (k + 1) k a w (by omega) h)
theorem Loose.freeze (hI : Inv cx g H w) {n sz k : Nat} {x : Value} {us : List Value} (h : Loose cx g w n sz x k us) {l : List D} (hl : RepEl g.C sz l us) (hk : l.length = k) (hsz : 0 < sz) :
 ∃ g' : Gh, g'.J = g.J ∧ (∀ b, g.C b <+: g'.C b) ∧ (∀ b, b < n → g'.C b = g.C b) ∧ Inv cx g' H w ∧ RepD g'.C (.sl l) x := by
 cases h with
 | nil =>
  have : l = [] := List.eq_nil_of_length_eq_zero hk
  subst this
  refine ⟨g, rfl, fun _ => List.prefix_refl _, fun _ _ => rfl, hI, ?_⟩
  simp only [RepD, RepCs]
  exact ⟨_, _, rfl, Nat.le_refl _, by simp⟩
 | «at» b cap cur e k us h1 h2 hk0 h3 h4 h5 h6 h7 h8 h9 =>
  obtain ⟨C', hC'⟩ : ∃ C' : Nat → List Value, C' = fun i => if i = b then us else g.C i := ⟨_, rfl⟩
  have hb : C' b = us := by rw [hC']; exact if_pos rfl
  have ho : ∀ i, i ≠ b → C' i = g.C i := fun i hi => by rw [hC']; exact if_neg hi
  have hC : ∀ i, g.C i <+: C' i := fun i => by
    by_cases hi : i = b
    ·subst hi; rw [h7]; exact List.nil_prefix
    ·rw [ho i hi]; exact List.prefix_refl _
  have hkeep : KeepW H.length g H ⟨g.J, C'⟩ H := ⟨hC, fun i o _ hio hr => ⟨fun p hp => hp, o, hio, hr⟩, fun i sz l _ hio => ⟨l, hio, List.prefix_refl _, fun _ p hp => hp⟩⟩
  refine ⟨⟨g.J, C'⟩, rfl, hC, fun i hi => ho i (by omega), ⟨hI.inj, hI.dom, fun i b' c o hj hio => ?_, fun i hi => ?_, hI.und, fun i => ?_, hI.fix⟩, ?_⟩
  ·exact (hI.ob i b' c o hj hio).ext hkeep rfl (ho b' (fun e => h6 i c (by rw [← e]; exact hj))) (by rintro c' rfl; exact hI.und i c' (hI.dom i b' c hj).1 hio)
  ·by_cases hib : i = b
   ·subst hib
    exact ⟨cur, e, (0, 0), h1, by show C' i <+: _; rw [hb]; exact h2⟩
   ·have hi' : g.C i ≠ [] := by rw [← ho i hib]; exact hi
    obtain ⟨cur', e', fz, q1, q2⟩ := hI.imm i hi'
    exact ⟨cur', e', fz, q1, by show C' i <+: _; rw [ho i hib]; exact q2⟩
  ·obtain ⟨vs, q1, q2⟩ := hI.glob i
   exact ⟨vs, q1.trans (hC i), RepDs_mono hC _ _ q2⟩
  ·simp only [RepD, RepCs]
   refine ⟨_, _, by rw [hk], by omega, .inr ⟨b, 0, sz, us, rfl, hsz, ?_, RepEl_mono hC sz l us hl⟩⟩
   rw [List.drop_zero, hb]; exact List.prefix_refl _
end
end Go.Vm
namespace Go.Vm
@[simp] theorem pickV_tt (a b : V) (h : Hp) : pickV (.d (.bool true)) a b h = some (a, h) := rfl
@[simp] theorem pickV_ff (a b : V) (h : Hp) : pickV (.d (.bool false)) a b h = some (b, h) := rfl
theorem allD_map : ∀ l : List D, allD (l.map V.d) = some l
 | [] => rfl
 | x :: l => by simp [allD, allD_map l]
@[simp] theorem mkAgg_map (l : List D) : mkAgg (l.map V.d) = .d (.agg l) := by simp only [mkAgg, allD_map]
@[simp] theorem partV_map (n off : Nat) (l : List D) : partV (some n) (l.map V.d) off = if off + n ≤ l.length then some (.d (.agg ((l.drop off).take n))) else none := by
 simp only [partV, List.length_map]
 rw [← List.map_drop, ← List.map_take, mkAgg_map]
@[simp] theorem partV_map1 (off : Nat) (l : List D) : partV none (l.map V.d) off = (l[off]?).map V.d := by simp [partV]
theorem partV_one (off : Nat) (l : List V) : partV none l off = l[off]? := rfl
theorem partV_some (n off : Nat) (l : List V) : partV (some n) l off = if off + n ≤ l.length then some (mkAgg ((l.drop off).take n)) else none := rfl
def obLoad (o : Option Ob) (n : Option Nat) (off : Nat) : Option V := match o with
 | some (.box c) => partV n c off
 | some (.frz c) => partV n (c.map V.d) off
 | _ => none
@[simp] theorem obLoad_box (c : List V) (n : Option Nat) (off : Nat) : obLoad (some (.box c)) n off = partV n c off := rfl
@[simp] theorem obLoad_frz (c : List D) (n : Option Nat) (off : Nat) : obLoad (some (.frz c)) n off = partV n (c.map V.d) off := rfl
@[simp] theorem loadV_ptr (H : Hp) (n : Option Nat) (id off : Nat) : loadV H n (.ptr id off) = obLoad H[id]? n off := by
 simp only [loadV, cellsAt, obLoad]
 cases H[id]? with
 | none => rfl
 | some o => cases o <;> rfl
@[simp] theorem loadV_ro (H : Hp) (n : Option Nat) (l : List D) (off : Nat) : loadV H n (.ro l off) = partV n (l.map V.d) off := rfl
def obStore (b : Nat) (H : Hp) (n id off : Nat) (x : V) (o : Option Ob) : Option Hp := match o with
 | some (.box c) => if x.cells.length = n ∧ off + n ≤ c.length ∧ x.cells.all V.one ∧ (undL id x.cells || decide (b ≤ id) || sameRow c off x.cells) then some (H.set id (.box (putAt c off x.cells))) else none
 | _ => none
@[simp] theorem obStore_box (b : Nat) (H : Hp) (n id off : Nat) (x : V) (c : List V) : obStore b H n id off x (some (.box c)) = if x.cells.length = n ∧ off + n ≤ c.length ∧ x.cells.all V.one ∧ (undL id x.cells || decide (b ≤ id) || sameRow c off x.cells) then some (H.set id (.box (putAt c off x.cells))) else none := rfl
@[simp] theorem storeV_ptr (b : Nat) (H : Hp) (n id off : Nat) (x : V) : storeV b H n (.ptr id off) x = obStore b H n id off x H[id]? := rfl
@[simp] theorem allD_nil : allD [] = some [] := rfl
@[simp] theorem allD_cons (x : D) (l : List V) : allD (.d x :: l) = (allD l).map (x :: ·) := rfl
def aggOf (o : Option (List D)) (l : List V) : V := match o with | some ds => .d (.agg ds) | none => .agg l
@[simp] theorem aggOf_some (ds : List D) (l : List V) : aggOf (some ds) l = .d (.agg ds) := rfl
@[simp] theorem aggOf_none (l : List V) : aggOf none l = .agg l := rfl
@[simp] theorem mkAgg_0 : mkAgg [] = .d (.agg []) := rfl
@[simp] theorem mkAgg_1 (x : V) (l : List V) : mkAgg (x :: l) = aggOf (allD (x :: l)) (x :: l) := rfl
@[simp] theorem allD_ptr (i o : Nat) (l : List V) : allD (.ptr i o :: l) = none := rfl
@[simp] theorem allD_row (i o : Nat) (l : List V) : allD (.row i o :: l) = none := rfl
@[simp] theorem allD_nils (l : List V) : allD (.nils :: l) = none := rfl
@[simp] theorem allD_nul (l : List V) : allD (.nul :: l) = none := rfl
@[simp] theorem allD_fn (f : Nat) (c l : List V) : allD (.fn f c :: l) = none := rfl
attribute [simp] buildV boxV
@[simp] theorem putAt_nil (c : List V) (n : Nat) : putAt c n [] = c := by cases c <;> cases n <;> rfl
@[simp] theorem putAt_zero (c v : V) (cs vs : List V) : putAt (c :: cs) 0 (v :: vs) = v :: putAt cs 0 vs := rfl
@[simp] theorem putAt_succ (c v : V) (cs vs : List V) (n : Nat) : putAt (c :: cs) (n + 1) (v :: vs) = c :: putAt cs n (v :: vs) := rfl
@[simp] theorem putAt_same : ∀ (c v : List V), v.length = c.length → putAt c 0 v = v
 | [], [], _ => rfl
 | [], _ :: _, h => by simp at h
 | _ :: _, [], h => by simp at h
 | c :: cs, v :: vs, h => by simp [putAt_same cs vs (by simpa using h)]
@[simp] theorem newOk_nil (n : Nat) : newOk n [] = true := rfl
@[simp] theorem newOk_box (n : Nat) (c : List V) (l : Hp) : newOk n (.box c :: l) = (undL n c && newOk n l) := rfl
@[simp] theorem newOk_frz (n : Nat) (c : List D) (l : Hp) : newOk n (.frz c :: l) = newOk n l := rfl
@[simp] theorem newOk_row (n z : Nat) (c : List D) (l : Hp) : newOk n (.row z c :: l) = newOk n l := rfl
open Classical in
noncomputable def pre (h h' : Hp) : Bool := decide (∃ l, h' = h ++ l)
@[simp] theorem pre_nil (h : Hp) : pre [] h = true := by simp [pre]
@[simp] theorem pre_self (h : Hp) : pre h h = true := by simp [pre]
@[simp] theorem pre_app (h l : Hp) : pre h (h ++ l) = true := by simp [pre]
@[simp] theorem pre_cons (o : Ob) (h h' : Hp) : pre (o :: h) (o :: h') = pre h h' := by simp [pre]
@[simp] theorem pre_apps (h l l' : Hp) : pre (h ++ l) (h ++ l') = pre l l' := by simp [pre]
theorem grew_eq (h h' : Hp) : grew h h' = (pre h h' && newOk h'.length (h'.drop h.length)) := rfl
@[simp] theorem idxNat_int (k : IntKind) (n : Int) : idxNat (.d (.int k n)) = if 0 ≤ n then some n.toNat else none := rfl
theorem oneOf_one (v : V) : oneOf [v] = v := rfl
theorem oneOf_two (u v : V) (l : List V) : oneOf (u :: v :: l) = .tup (u :: v :: l) := rfl
@[simp] theorem undL_map (n : Nat) : ∀ l : List D, undL n (l.map V.d) = true
 | [] => rfl
 | x :: l => by simp [undL_map n l]
@[simp] theorem resVs_nil (e : Env) (h : Hp) : resVs e h [] = some [] := rfl
def resC (v : Option V) (vs : Option (List V)) : Option (List V) := match v, vs with | some v, some vs => some (v :: vs) | _, _ => none
@[simp] theorem resC_some (v : V) (vs : List V) : resC (some v) (some vs) = some (v :: vs) := rfl
@[simp] theorem resVs_cons (e : Env) (h : Hp) (r : VRes) (l : List VRes) : resVs e h (r :: l) = resC (resV e h r) (resVs e h l) := rfl
@[simp] theorem resV_tmp (e : Env) (h : Hp) (t : Nat) : resV e h (.tmp t) = some (getE e t) := rfl
@[simp] theorem resV_cell (e : Env) (h : Hp) (t : Nat) (n : Option Nat) : resV e h (.cell t n) = loadV h n (getE e t) := rfl
def lv (keep : Bool) (h0 : Nat) (h : Hp) (r : Option (List V)) : Option (V × Hp) := match r with
 | none => none
 | some vs => if keep then some (oneOf vs, h) else if undL h0 (vs.map (toArg h)) then some (oneOf (vs.map (toArg h)), h.take h0) else none
@[simp] theorem lv_some (h0 : Nat) (h : Hp) (vs : List V) : lv false h0 h (some vs) = if undL h0 (vs.map (toArg h)) then some (oneOf (vs.map (toArg h)), h.take h0) else none := rfl
@[simp] theorem lv_keep (h0 : Nat) (h : Hp) (vs : List V) : lv true h0 h (some vs) = some (oneOf vs, h) := rfl
@[simp] theorem leave_eq (vf : VFn) (h0 : Nat) (s : St) : leave vf h0 s = lv vf.keep h0 s.h (resVs s.e s.h vf.res) := by
 unfold leave lv
 cases resVs s.e s.h vf.res <;> rfl
attribute [simp] grew_eq oneOf_one oneOf_two partV_one
attribute [simp low] partV_some
@[simp] theorem mkAgg_tdm (l : List D) (n k : Nat) : mkAgg (((l.map V.d).drop n).take k) = .d (.agg ((l.drop n).take k)) := by rw [← List.map_drop, ← List.map_take, mkAgg_map]
def enterFrom : Nat → List V → Env
 | _, [] => []
 | k, v :: l => (k, v) :: enterFrom (k + 1) l
theorem enterFrom_eq : ∀ (l : List V) (k : Nat), enterFrom k l = (List.range' k l.length).map fun i => (i, l.getD (i - k) .undef)
  | [], k => rfl
  | v :: l, k => by
    simp only [enterFrom, List.length_cons, List.range'_succ, List.map_cons, Nat.sub_self, List.getD_cons_zero, List.cons.injEq, true_and]
    rw [enterFrom_eq l (k + 1)]
    apply List.map_congr_left
    intro i hi
    have := List.mem_range'_1.1 hi
    rw [show i - k = (i - (k + 1)) + 1 by omega, List.getD_cons_succ]
@[simp] theorem enterE_eq (l : List V) : enterE l = enterFrom 0 l := by rw [enterFrom_eq, enterE, List.range_eq_range']; rfl
@[simp] theorem enterFrom_nil (k : Nat) : enterFrom k [] = [] := rfl
@[simp] theorem enterFrom_cons (k : Nat) (v : V) (l : List V) : enterFrom k (v :: l) = (k, v) :: enterFrom (k + 1) l := rfl
def andI (k : IntKind) (a b : Int) : Int := k.wrap (BitVec.ofInt k.bits a &&& BitVec.ofInt k.bits b).toNat
def orI (k : IntKind) (a b : Int) : Int := k.wrap (BitVec.ofInt k.bits a ||| BitVec.ofInt k.bits b).toNat
def xorI (k : IntKind) (a b : Int) : Int := k.wrap (BitVec.ofInt k.bits a ^^^ BitVec.ofInt k.bits b).toNat
def bicI (k : IntKind) (a b : Int) : Int := k.wrap (BitVec.ofInt k.bits a &&& ~~~BitVec.ofInt k.bits b).toNat
def shlI (k : IntKind) (a b : Int) : Int := k.wrap (a * 2 ^ (min b.toNat k.bits))
def shrI (k : IntKind) (a b : Int) : Int := a.fdiv (2 ^ (min b.toNat k.bits))
section
variable (k k' : IntKind) (a b : Int)
@[simp] theorem binV_add : binV .add (.d (.int k a)) (.d (.int k b)) = some (.d (.int k (k.wrap (a + b)))) := by simp [binV]
@[simp] theorem binV_sub : binV .sub (.d (.int k a)) (.d (.int k b)) = some (.d (.int k (k.wrap (a - b)))) := by simp [binV]
@[simp] theorem binV_mul : binV .mul (.d (.int k a)) (.d (.int k b)) = some (.d (.int k (k.wrap (a * b)))) := by simp [binV]
@[simp] theorem binV_quo : binV .quo (.d (.int k a)) (.d (.int k b)) = if b = 0 then none else some (.d (.int k (k.wrap (a.tdiv b)))) := by by_cases h : b = 0 <;> simp [binV, h]
@[simp] theorem binV_rem : binV .rem (.d (.int k a)) (.d (.int k b)) = if b = 0 then none else some (.d (.int k (a.tmod b))) := by by_cases h : b = 0 <;> simp [binV, h]
@[simp] theorem binV_and : binV .and (.d (.int k a)) (.d (.int k b)) = some (.d (.int k (andI k a b))) := by simp [binV, bitsI, andI]
@[simp] theorem binV_or : binV .or (.d (.int k a)) (.d (.int k b)) = some (.d (.int k (orI k a b))) := by simp [binV, bitsI, orI]
@[simp] theorem binV_xor : binV .xor (.d (.int k a)) (.d (.int k b)) = some (.d (.int k (xorI k a b))) := by simp [binV, bitsI, xorI]
@[simp] theorem binV_bic : binV .andNot (.d (.int k a)) (.d (.int k b)) = some (.d (.int k (bicI k a b))) := by simp [binV, bitsI, bicI]
@[simp] theorem binV_shl : binV .shl (.d (.int k a)) (.d (.int k' b)) = if 0 ≤ b then some (.d (.int k (shlI k a b))) else none := rfl
@[simp] theorem binV_shr : binV .shr (.d (.int k a)) (.d (.int k' b)) = if 0 ≤ b then some (.d (.int k (shrI k a b))) else none := rfl
@[simp] theorem binV_eql : binV .eql (.d (.int k a)) (.d (.int k b)) = some (.d (.bool (decide (a = b)))) := by simp [binV]; by_cases h : a = b <;> simp [h]
@[simp] theorem binV_neq : binV .neq (.d (.int k a)) (.d (.int k b)) = some (.d (.bool (!decide (a = b)))) := by simp [binV]; by_cases h : a = b <;> simp [h, bne]
@[simp] theorem binV_lss : binV .lss (.d (.int k a)) (.d (.int k b)) = some (.d (.bool (decide (a < b)))) := by simp [binV]
@[simp] theorem binV_leq : binV .leq (.d (.int k a)) (.d (.int k b)) = some (.d (.bool (decide (a ≤ b)))) := by simp [binV]
@[simp] theorem binV_gtr : binV .gtr (.d (.int k a)) (.d (.int k b)) = some (.d (.bool (decide (b < a)))) := by simp [binV]
@[simp] theorem binV_geq : binV .geq (.d (.int k a)) (.d (.int k b)) = some (.d (.bool (decide (b ≤ a)))) := by simp [binV]
@[simp] theorem binV_sadd (s t : List UInt8) : binV .add (.d (.str s)) (.d (.str t)) = if s.length + t.length ≤ 9223372036854775807 then some (.d (.str (s ++ t))) else none := rfl
@[simp] theorem binV_seql (s t : List UInt8) : binV .eql (.d (.str s)) (.d (.str t)) = some (.d (.bool (decide (s = t)))) := by simp [binV]; by_cases h : s = t <;> simp [h]
@[simp] theorem binV_sneq (s t : List UInt8) : binV .neq (.d (.str s)) (.d (.str t)) = some (.d (.bool (!decide (s = t)))) := by simp [binV]; by_cases h : s = t <;> simp [h]
@[simp] theorem unV_neg : unV .neg (.d (.int k a)) = some (.d (.int k (k.wrap (0 - a)))) := rfl
@[simp] theorem unV_not (b : Bool) : unV .not (.d (.bool b)) = some (.d (.bool !b)) := rfl
end
end Go.Vm
namespace Go.Vm
theorem i64w {n : Int} (h : -9223372036854775808 ≤ n ∧ n ≤ 9223372036854775807) : IntKind.i64.wrap n = n := by
 simp only [IntKind.wrap, IntKind.bits, IntKind.signed]; simp; omega
end Go.Vm
