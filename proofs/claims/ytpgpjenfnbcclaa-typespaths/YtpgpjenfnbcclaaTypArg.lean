import Derived.Test.YtpgpjenfnbcclaaTypP9
import Derived.Test.YtpgpjenfnbcclaaVmSized
set_option linter.unusedSimpArgs false
set_option linter.unusedVariables false
namespace Go.Vm.Ip
def boxB (s : S) : Bool := preB s boxT && sufB (s.drop 4) [62]
def inM (s : S) : S × Bool := if preB s mutT then (s.drop 5, true) else if preB s [38] then (s.drop 1, true) else if boxB s then ((s.drop 4).take ((s.drop 4).length - 1), true) else ([], false)
def fitB (a b : S) : Bool := decide (a = b) || decide (a = [33])
theorem suf_last (t : S) : sufB t [62] = match t.getLast? with | some c => decide (c = 62) | none => false := by
  unfold sufB
  rcases List.eq_nil_or_concat t with h | ⟨r, c, h⟩
  · subst h; rfl
  · subst h; simp
end Go.Vm.Ip
namespace Go.Vm.Ip
open Go.Vm.Lex (nameB)
def coreB (s : S) : Bool := decide (s = i64T) || decide (s = boolT) || decide (s = unitT)
def bareM (kn : S → Bool) : Nat → S → Bool
  | 0, _ => false
  | f + 1, s => if boxB s then bareM kn f ((s.drop 4).take ((s.drop 4).length - 1)) else coreB s || kn s
def bareB (kn : S → Bool) (s : S) : Bool := bareM kn (s.length + 1) s
theorem box_len {s : S} (h : boxB s = true) : 5 ≤ s.length ∧ ((s.drop 4).take ((s.drop 4).length - 1)).length + 5 = s.length := by
  unfold boxB at h
  rw [Bool.and_eq_true] at h
  have h1 := preB_len h.1
  have h2 := sufB_len h.2
  have h4 : (boxT).length = 4 := rfl
  simp only [List.length_drop, List.length_cons, List.length_nil, List.length_take] at h2 ⊢
  omega
theorem bareM_fuel (kn : S → Bool) : ∀ (f g : Nat) (s : S), s.length < f → s.length < g → bareM kn f s = bareM kn g s
  | 0, _, _, h, _ => by omega
  | _, 0, _, _, h => by omega
  | f + 1, g + 1, s, hf, hg => by
    simp only [bareM]
    split
    · rename_i hp
      have := box_len hp
      exact bareM_fuel kn f g _ (by omega) (by omega)
    · rfl
theorem bareB_eq (kn : S → Bool) (s : S) : bareB kn s = if boxB s then bareB kn ((s.drop 4).take ((s.drop 4).length - 1)) else coreB s || kn s := by
  unfold bareB
  rw [bareM]
  split
  · rename_i hp
    have := box_len hp
    exact bareM_fuel kn _ _ _ (by omega) (by omega)
  · rfl
theorem box_suf (s : S) (h : preB s boxT = true) : sufB s [62] = sufB (s.drop 4) [62] := by
  have hs : s = boxT ++ s.drop 4 := by
    have : s.take 4 = boxT := by simp only [preB, Bool.and_eq_true, decide_eq_true_eq] at h; exact h.2
    rw [← this, List.take_append_drop]
  revert hs
  generalize s.drop 4 = t
  intro hs
  subst hs
  rw [suf_last, suf_last]
  rcases List.eq_nil_or_concat t with h | ⟨r, c, h⟩
  · subst h; rfl
  · subst h
    rw [List.concat_eq_append, ← List.append_assoc, List.getLast?_concat, List.getLast?_concat]
theorem boxB_and (s : S) : boxB s = (preB s boxT && sufB s [62]) := by
  unfold boxB
  cases h : preB s boxT with
  | false => rfl
  | true => rw [box_suf s h]
def offR (s : S) : S := if preB s mutT then s.drop 5 else if preB s [38] then s.drop 1 else s
def isB (kn : S → Bool) (s : S) : Bool := bareB kn (offR s)
theorem mut_ref {s : S} (h : preB s mutT = true) : preB s [38] = true := by
  simp only [preB, Bool.and_eq_true, decide_eq_true_eq] at h ⊢
  obtain ⟨h1, h2⟩ := h
  have h5 : (mutT).length = 5 := rfl
  refine ⟨by simp; omega, ?_⟩
  have : (s.take 5).take 1 = (mutT).take 1 := by rw [show s.take 5 = mutT from h2]
  rw [List.take_take] at this
  exact this
theorem offR_eq (s : S) : offR s = if preB s [38] then (inM s).1 else s := by
  unfold offR inM
  cases h1 : preB s mutT with
  | true => rw [mut_ref h1]; rfl
  | false =>
    cases h2 : preB s [38] with
    | true => rfl
    | false => rfl
theorem offR_len (s : S) : (offR s).length ≤ s.length := by
  unfold offR
  split
  · rw [List.length_drop]; omega
  split
  · rw [List.length_drop]; omega
  · exact Nat.le_refl _
def kndI (x : Its) (s : S) : Int := if known (nS x) s then 3 else if known (nE x) s then 4 else 0
end Go.Vm.Ip
namespace Go.Vm.Ip
open Go.Vm.Lex (nameB)
def flM (x : Its) (s : S) : List Fld := if known (nS x) s then (nam x.ss s).fs else if known (nE x) s then (nam x.es s).fs else []
theorem held_eq (x : Its) (s : S) : heldM x s = if known (nS x) s then ((flM x s).map Fld.t, false) else if known (nE x) s then (someT (flM x s), true) else ([], false) := by
  unfold heldM flM nam known
  rw [show x.ss.map Nam.n = nS x from rfl, show x.es.map Nam.n = nE x from rfl]
  cases pos (nS x) s with
  | some i => rfl
  | none =>
    cases pos (nE x) s with
    | some i => rfl
    | none => rfl
theorem namB_mem {k : S → Bool} {en : Bool} : ∀ {seen : List S} {l : List Nam}, namB k en seen l = true → ∀ y ∈ l, nameB y.n = true ∧ y.n ∉ seen ∧ (en = true → y.fs ≠ []) ∧ lstB (rt k false) en [] y.fs = true ∧ y.fs.length ≤ 16
  | _, [], _, y, hy => by cases hy
  | seen, z :: r, h, y, hy => by
    simp only [namB, Bool.and_eq_true, decide_eq_true_eq, Bool.not_eq_true', decide_eq_false_iff_not] at h
    obtain ⟨⟨⟨⟨h1, h2⟩, h3⟩, h4, h5⟩, h6⟩ := h
    rcases List.mem_cons.1 hy with q | q
    · subst q
      refine ⟨h1, h2, fun he => ?_, h4, by omega⟩
      subst he
      simpa using h3
    · obtain ⟨a, b, c⟩ := namB_mem h6 y q
      exact ⟨a, fun hm => b (List.mem_append_left _ hm), c⟩
theorem lstB_mem {r : S → Bool} {b : Bool} : ∀ {seen : List S} {l : List Fld}, lstB r b seen l = true → ∀ f ∈ l, nameB f.n = true ∧ (r f.t = true ∨ (b = true ∧ f.t = []))
  | _, [], _, f, hf => by cases hf
  | seen, g :: q, h, f, hf => by
    simp only [lstB, Bool.and_eq_true, Bool.or_eq_true, decide_eq_true_eq] at h
    obtain ⟨⟨⟨h1, h2⟩, h3⟩, h4⟩ := h
    rcases List.mem_cons.1 hf with e | e
    · subst e; exact ⟨h1, h3⟩
    · exact lstB_mem h4 f e
theorem known_mem {l : List S} {s : S} : known l s = true ↔ s ∈ l := by
  unfold known
  rw [Option.isSome_iff_exists]
  exact pos_mem.symm
theorem nam_mem {l : List Nam} {s : S} (h : known (l.map Nam.n) s = true) : nam l s ∈ l ∧ (nam l s).n = s := by
  unfold known at h
  obtain ⟨i, hi⟩ := Option.isSome_iff_exists.1 h
  unfold nam
  rw [hi]
  have h1 := pos_lt hi
  rw [List.length_map] at h1
  have h2 := (pos_some hi).1
  rw [List.getElem?_map, List.getElem?_eq_getElem h1] at h2
  simp only [Option.map_some, Option.some.injEq] at h2
  simp only [List.getD_eq_getElem?_getD, List.getElem?_eq_getElem h1, Option.getD_some]
  exact ⟨List.getElem_mem _, h2⟩
theorem name_head {s : S} (h : nameB s = true) : s ≠ [] ∧ ∀ c ∈ s, Lex.isLD c = true := by
  simp only [nameB, Lex.speltB, Bool.and_eq_true, decide_eq_true_eq, List.all_eq_true] at h
  exact ⟨h.1.1.1.1.1, h.1.1.2⟩
theorem name_not_box {s : S} (h : nameB s = true) : preB s boxT = false := by
  cases hp : preB s boxT with
  | false => rfl
  | true =>
    exfalso
    have h3 : 60 ∈ s := by
      simp only [preB, Bool.and_eq_true, decide_eq_true_eq] at hp
      have : (60 : UInt8) ∈ s.take boxT.length := by rw [hp.2]; decide
      exact List.mem_of_mem_take this
    have := (name_head h).2 _ h3
    exact absurd this (by decide)
theorem name_not_ref {s : S} (h : nameB s = true) : preB s [38] = false := by
  cases hp : preB s [38] with
  | false => rfl
  | true =>
    exfalso
    have h3 : 38 ∈ s := by
      simp only [preB, Bool.and_eq_true, decide_eq_true_eq] at hp
      have : (38 : UInt8) ∈ s.take ([38] : S).length := by rw [hp.2]; decide
      exact List.mem_of_mem_take this
    have := (name_head h).2 _ h3
    exact absurd this (by decide)
structure Okay (x : Its) : Prop where
  sm : Small x
  nm : ∀ s, kn x s = true → nameB s = true
  ap : ∀ s, known (nS x) s = true → known (nE x) s = false
  sf : ∀ s, known (nS x) s = true → ∀ f ∈ (nam x.ss s).fs, rightB (kn x) f.t = true
  ef : ∀ s, known (nE x) s = true → ∀ f ∈ (nam x.es s).fs, f.t = [] ∨ rightB (kn x) f.t = true
  dp : ∀ s, deepOk x (deepN x) s
  sz : ∀ s, bigB (szF x (deepN x) s) = false
theorem right_nil {x : Its} (h : ∀ s, kn x s = true → nameB s = true) : rightB (kn x) [] = false := by
  rw [rightB_eq, if_neg (by decide)]
  cases hk : kn x [] with
  | false => rfl
  | true => exact absurd (h _ hk) (by decide)
theorem okay_of {x : Its} (h : chkB x = true) : Okay x := by
  simp only [chkB, Bool.and_eq_true, decide_eq_true_eq, List.all_eq_true, Bool.not_eq_true'] at h
  obtain ⟨⟨⟨⟨⟨⟨⟨h1, h2⟩, h3⟩, h4⟩, h5⟩, h6⟩, h7⟩, h8⟩ := h
  have hS : ∀ s, known (nS x) s = true → nam x.ss s ∈ x.ss ∧ (nam x.ss s).n = s := fun s hs => nam_mem hs
  have hE : ∀ s, known (nE x) s = true → nam x.es s ∈ x.es ∧ (nam x.es s).n = s := fun s hs => nam_mem hs
  have dp : ∀ s, deepOk x (deepN x) s := fun s => deep_of (fun s hs hg => by
    have := h6 s hs
    rw [endB_t hg] at this
    cases this) s
  refine ⟨⟨h1, h2, fun y hy => (namB_mem h4 y hy).2.2.2.2, fun y hy => (namB_mem h5 y hy).2.2.2.2⟩, fun s hs => ?_, fun s hs => ?_, fun s hs f hf => ?_, fun s hs f hf => ?_, dp, fun s => ?_⟩
  · unfold kn at hs
    rcases Bool.or_eq_true_iff.1 hs with q | q
    · rw [← (hS s q).2]; exact (namB_mem h4 _ (hS s q).1).1
    · rw [← (hE s q).2]; exact (namB_mem h5 _ (hE s q).1).1
  · cases hq : known (nE x) s with
    | false => rfl
    | true =>
      have := (namB_mem h5 _ (hE s hq).1).2.1
      rw [(hE s hq).2] at this
      exact absurd (known_mem.1 hs) this
  · rcases (lstB_mem (namB_mem h4 _ (hS s hs).1).2.2.2.1 f hf).2 with q | q
    · exact q
    · exact absurd q.1 (by decide)
  · rcases (lstB_mem (namB_mem h5 _ (hE s hs).1).2.2.2.1 f hf).2 with q | q
    · exact .inr q
    · exact .inl q.2
  · by_cases hm : s ∈ nS x ++ nE x
    · exact h7 s hm
    · have hm' : heldM x s = ([], false) ∧ known (nS x) s = false := by
        simp only [List.mem_append, not_or] at hm
        have a : known (nS x) s = false := by cases q : known (nS x) s with
          | false => rfl
          | true => exact absurd (known_mem.1 q) hm.1
        have b : known (nE x) s = false := by cases q : known (nE x) s with
          | false => rfl
          | true => exact absurd (known_mem.1 q) hm.2
        rw [held_eq, a, b]; exact ⟨rfl, rfl⟩
      unfold deepN
      rw [szF, hm'.1, hm'.2]
      by_cases hu : s = unitT
      · simp only [if_pos hu]; rfl
      · simp only [if_neg hu]; rfl
theorem Okay.nf {x : Its} (h : Okay x) {s : S} (hs : known (nS x) s = true) {f : Fld} (hf : f ∈ (nam x.ss s).fs) : f.t ≠ [] := fun e => by
  have := h.sf s hs f hf
  rw [e, right_nil h.nm] at this
  cases this
end Go.Vm.Ip
namespace Go.Vm.Ip
theorem someT_succ {l : List Fld} {j : Nat} (h : j < l.length) : someT (l.take (j + 1)) = someT (l.take j) ++ (if (l.getD j default).t = [] then [] else [(l.getD j default).t]) := by
  unfold someT
  rw [List.take_add_one, List.getElem?_eq_getElem h, Option.toList_some, List.map_append, List.filter_append, List.getD_eq_getElem?_getD, List.getElem?_eq_getElem h]
  congr 1
  by_cases e : l[j].t = []
  · simp [e]
  · simp [e]
theorem someT_all {l : List Fld} (h : ∀ f ∈ l, f.t ≠ []) : someT l = l.map Fld.t := by
  unfold someT
  rw [List.filter_eq_self]
  intro a ha
  obtain ⟨f, hf, rfl⟩ := List.mem_map.1 ha
  simpa using h f hf
theorem someT_mem {l : List Fld} {t : S} : t ∈ someT l ↔ t ≠ [] ∧ ∃ f ∈ l, f.t = t := by
  unfold someT
  rw [List.mem_filter, List.mem_map]
  constructor
  · rintro ⟨⟨f, hf, rfl⟩, h⟩; exact ⟨by simpa using h, f, hf, rfl⟩
  · rintro ⟨h, f, hf, rfl⟩; exact ⟨⟨f, hf, rfl⟩, by simpa using h⟩
theorem addS_pre {g : S → Int × Int} (hg : ∀ y, 0 ≤ (g y).1) : ∀ (l : List S) (a : Int × Int), a.1 ≤ 65 → a.1 ≤ (l.foldl (fun a y => addS a (g y)) a).1
  | [], a, _ => Int.le_refl _
  | y :: r, a, h => by
    have := hg y
    have := addS_pre hg r (addS a (g y)) (by simp only [addS]; omega)
    simp only [List.foldl_cons]
    simp only [addS] at this ⊢
    omega
theorem addS_one {a b : Int × Int} (h : (addS a b).1 ≤ 64) : (addS a b).1 = a.1 + b.1 := by simp only [addS] at *; omega
theorem addE_one (a b : Int × Int) : (addE a b).1 = max a.1 (1 + b.1) := rfl
theorem held_S {x : Its} (ok : Okay x) {s : S} (h : known (nS x) s = true) : heldM x s = (someT (flM x s), false) := by
  rw [held_eq, if_pos h, someT_all]
  intro f hf
  unfold flM at hf
  rw [if_pos h] at hf
  exact ok.nf h hf
theorem held_E {x : Its} {s : S} (h : known (nS x) s = false) (h2 : known (nE x) s = true) : heldM x s = (someT (flM x s), true) := by
  rw [held_eq, h, h2]; rfl
theorem held_N {x : Its} {s : S} (h : known (nS x) s = false) (h2 : known (nE x) s = false) : heldM x s = ([], false) := by
  rw [held_eq, h, h2]; rfl
theorem Okay.sz1 {x : Its} (ok : Okay x) {f : Nat} {s : S} (hd : deepOk x f s) : 0 ≤ (szF x f s).1 ∧ (szF x f s).1 ≤ 64 := by
  have h := ok.sz s
  rw [szF_any (ok.dp s) hd] at h
  unfold bigB at h
  simp only [Bool.or_eq_false_iff, decide_eq_false_iff_not] at h
  exact ⟨(szF_bound x f s).1, by omega⟩
theorem Okay.nu {x : Its} (ok : Okay x) {s : S} (h : kn x s = true) : s ≠ unitT := fun e => by
  have := ok.nm s h
  rw [e] at this
  exact absurd this (by decide)
def wsI (x : Its) (s : S) : Int := (szF x (deepN x) s).1
end Go.Vm.Ip
namespace Go.Vm.Ip
def ownM (x : Its) : Nat → S → Bool
  | 0, _ => false
  | f + 1, s => preB s boxT || (someT (flM x s)).any (ownM x f)
theorem held_some {x : Its} (ok : Okay x) (s : S) : (heldM x s).1 = someT (flM x s) := by
  cases cS : known (nS x) s with
  | true => rw [held_S ok cS]
  | false =>
    cases cE : known (nE x) s with
    | true => rw [held_E cS cE]
    | false => rw [held_N cS cE]; unfold flM; rw [cS, cE]; rfl
theorem any_congr {α : Type} {p q : α → Bool} : ∀ {l : List α}, (∀ a ∈ l, p a = q a) → l.any p = l.any q
  | [], _ => rfl
  | a :: r, h => by
    rw [List.any_cons, List.any_cons, h a (by simp), any_congr fun b hb => h b (by simp [hb])]
def ownB (x : Its) (s : S) : Bool := ownM x (deepN x) s
end Go.Vm.Ip
namespace Go.Vm.Ip
def offI (x : Its) (s : S) (k : Nat) : Int := ((((flM x s).take k).map Fld.t).foldl (fun a y => addS a (szF x (deepN x) y)) (0, 1)).1
theorem off_bound {x : Its} (ok : Okay x) {s : S} (h : known (nS x) s = true) (k : Nat) : 0 ≤ offI x s k ∧ offI x s k ≤ 64 := by
  have hh := held_S ok h
  have h1 := ok.sz1 (deepOk_mono x _ s (ok.dp s))
  rw [szF, hh] at h1
  simp only [Bool.false_eq_true, if_false, h, if_true] at h1
  have hb := szF_bound x (deepN x)
  have hfl : someT (flM x s) = (flM x s).map Fld.t := someT_all fun f hf => by
    unfold flM at hf; rw [if_pos h] at hf; exact ok.nf h hf
  rw [hfl] at h1
  unfold offI
  have e : (flM x s).map Fld.t = ((flM x s).take k).map Fld.t ++ ((flM x s).drop k).map Fld.t := by rw [← List.map_append, List.take_append_drop]
  rw [e, List.foldl_append] at h1
  have ha := addS_fold hb (((flM x s).take k).map Fld.t) (0, 1) (by decide) (by decide) (by decide) (by decide)
  have := addS_pre (g := szF x (deepN x)) (fun y => (hb y).1) (((flM x s).drop k).map Fld.t) _ ha.2.1
  exact ⟨ha.1, Int.le_trans this h1.2⟩
theorem off_succ {x : Its} (ok : Okay x) {s : S} (h : known (nS x) s = true) {k : Nat} (hk : k < (flM x s).length) : offI x s (k + 1) = offI x s k + wsI x ((flM x s).getD k default).t := by
  have hb := off_bound ok h (k + 1)
  have e : ((flM x s).take (k + 1)).map Fld.t = ((flM x s).take k).map Fld.t ++ [((flM x s).getD k default).t] := by
    rw [List.take_add_one, List.getElem?_eq_getElem hk, Option.toList_some, List.map_append, List.getD_eq_getElem?_getD, List.getElem?_eq_getElem hk]; rfl
  unfold offI wsI at *
  rw [e, List.foldl_append] at hb ⊢
  exact addS_one hb.2
theorem off_zero (x : Its) (s : S) : offI x s 0 = 0 := rfl
def stpM (x : Its) (s : S) (k : Int) : S × Bool :=
  if k = -1 then inM s
  else if 0 ≤ k then
    if known (nS x) s = true ∧ k < (flM x s).length then (((flM x s).getD k.toNat default).t, true) else ([], false)
  else if known (nE x) s = true ∧ -2 - k < (flM x s).length ∧ ((flM x s).getD (-2 - k).toNat default).t ≠ [] then (((flM x s).getD (-2 - k).toNat default).t, true) else ([], false)
def pathM (x : Its) : S → List Int → S × Bool
  | s, [] => (s, true)
  | s, k :: r => if (stpM x s k).2 then pathM x (stpM x s k).1 r else ([], false)
theorem inM_len (s : S) : (inM s).1.length ≤ s.length := by
  unfold inM
  split
  · simp only [List.length_drop]; omega
  split
  · simp only [List.length_drop]; omega
  split
  · simp only [List.length_drop, List.length_take]; omega
  · exact Nat.zero_le _
end Go.Vm.Ip
namespace Go.Vm.Ip
open Go.Vm.Lex (nameB)
theorem core_not_box {s : S} (h : coreB s = true) : preB s boxT = false := by
  unfold coreB at h
  simp only [Bool.or_eq_true, decide_eq_true_eq] at h
  rcases h with (h | h) | h <;> subst h <;> rfl
theorem ref_not_box {s : S} (h : preB s [38] = true) : preB s boxT = false := by
  cases hp : preB s boxT with
  | false => rfl
  | true =>
    simp only [preB, Bool.and_eq_true, decide_eq_true_eq] at h hp
    have h1 : s.take 1 = [38] := h.2
    have h2 : (s.take 4).take 1 = boxT.take 1 := by rw [show s.take 4 = boxT from hp.2]
    rw [List.take_take] at h2
    rw [show min 1 4 = 1 from rfl, h1] at h2
    cases h2
end Go.Vm.Ip
namespace Go.Vm.Ip
open Go.Vm.Lex (nameB)
theorem offR_drop (kn : S → Bool) (s : S) : isB kn s = if preB s mutT then bareB kn (s.drop 5) else if preB s [38] then bareB kn (s.drop 1) else bareB kn s := by
  unfold isB offR
  split
  · rfl
  split
  · rfl
  · rfl
end Go.Vm.Ip
namespace Go.Vm.Ip
open Go.Vm.Lex (nameB)
end Go.Vm.Ip
namespace Go.Vm.Ip
open Go.Vm.Lex (nameB)
def flT (x : Its) (s : S) : List S := (flM x s).map Fld.t
theorem held_sub {x : Its} {s z : S} (h : z ∈ (heldM x s).1) : z ∈ flT x s := by
  rw [held_eq] at h
  split at h
  · exact h
  split at h
  · obtain ⟨_, f, hf, e⟩ := someT_mem.1 h
    exact List.mem_map.2 ⟨f, hf, e⟩
  · cases h
theorem held_sup {x : Its} {s z : S} (h : z ∈ flT x s) (hz : z ≠ []) : z ∈ (heldM x s).1 := by
  rw [held_eq]
  split
  · exact h
  rename_i c1
  split
  · obtain ⟨f, hf, e⟩ := List.mem_map.1 h
    exact someT_mem.2 ⟨hz, f, hf, e⟩
  · rename_i c2
    unfold flT flM at h
    rw [if_neg c1, if_neg c2] at h
    cases h
structure Sr14 (x : Its) (s : S) (seen todo : List S) : Prop where
  a1 : ∀ y ∈ seen, y = s ∨ Gets x s y
  a2 : ∀ y ∈ todo, kn x y = true → y = s ∨ Gets x s y
  a3 : s ∈ seen ∨ s ∈ todo
  c1 : ∀ y ∈ seen, ∀ z ∈ (heldM x y).1, z ≠ s ∧ (z ∈ seen ∨ z ∈ todo ∨ kn x z = false)
theorem Sr14.start (x : Its) (s : S) : Sr14 x s [] [s] := ⟨by simp, fun y hy _ => .inl (by simpa using hy), .inr (by simp), by simp⟩
theorem held_none {x : Its} {s : S} (h : kn x s = false) : (heldM x s).1 = [] := by
  unfold kn at h
  rw [Bool.or_eq_false_iff] at h
  rw [held_N h.1 h.2]
theorem Sr14.end {x : Its} {s : S} {seen : List S} (h : Sr14 x s seen []) : ¬ Gets x s s := by
  have h0 : s ∈ seen := h.a3.resolve_right (by simp)
  have key : ∀ y, Gets x s y → y ≠ s ∧ (y ∈ seen ∨ kn x y = false) := by
    intro y hy
    induction hy with
    | one hz =>
      obtain ⟨a, b⟩ := h.c1 s h0 _ hz
      exact ⟨a, b.imp id fun q => q.resolve_left (by simp)⟩
    | step _ hz ih =>
      rcases ih.2 with q | q
      · obtain ⟨a, b⟩ := h.c1 _ q _ hz
        exact ⟨a, b.imp id fun q => q.resolve_left (by simp)⟩
      · rw [held_none q] at hz; cases hz
  exact fun hr => (key s hr).1 rfl
theorem Sr14.old {x : Its} {s y : S} {seen r : List S} (h : Sr14 x s seen (y :: r)) (hk : kn x s = true) (hy : kn x y = false ∨ y ∈ seen) : Sr14 x s seen r := by
  refine ⟨h.a1, fun z hz => h.a2 z (List.mem_cons_of_mem _ hz), ?_, fun u hu z hz => ?_⟩
  · rcases h.a3 with q | q
    · exact .inl q
    · rcases List.mem_cons.1 q with e | e
      · rcases hy with c | c
        · rw [← e, hk] at c; cases c
        · exact .inl (e ▸ c)
      · exact .inr e
  · obtain ⟨a, b⟩ := h.c1 u hu z hz
    refine ⟨a, ?_⟩
    rcases b with q | q | q
    · exact .inl q
    · rcases List.mem_cons.1 q with e | e
      · rcases hy with c | c
        · exact .inr (.inr (e ▸ c))
        · exact .inl (e ▸ c)
      · exact .inr (.inl e)
    · exact .inr (.inr q)
theorem Sr14.new {x : Its} {s y : S} {seen r : List S} (h : Sr14 x s seen (y :: r)) (hnm : ∀ s, kn x s = true → nameB s = true) (hy : kn x y = true) (ht : s ∉ flT x y) : Sr14 x s (seen ++ [y]) (r ++ flT x y) := by
  have ry := h.a2 y (by simp) hy
  refine ⟨fun z hz => ?_, fun z hz hk => ?_, ?_, fun u hu z hz => ?_⟩
  · rcases List.mem_append.1 hz with q | q
    · exact h.a1 z q
    · rw [List.mem_singleton] at q; exact q ▸ ry
  · rcases List.mem_append.1 hz with q | q
    · exact h.a2 z (List.mem_cons_of_mem _ q) hk
    · have hne : z ≠ [] := fun e => by
        have := hnm z hk
        rw [e] at this
        exact absurd this (by decide)
      have := held_sup q hne
      rcases ry with e | e
      · rw [e] at this; exact .inr (.one this)
      · exact .inr (.step e this)
  · rcases h.a3 with q | q
    · exact .inl (List.mem_append_left _ q)
    · rcases List.mem_cons.1 q with e | e
      · exact .inl (by rw [e]; simp)
      · exact .inr (List.mem_append_left _ e)
  · rcases List.mem_append.1 hu with q | q
    · obtain ⟨a, b⟩ := h.c1 u q z hz
      refine ⟨a, ?_⟩
      rcases b with q | q | q
      · exact .inl (List.mem_append_left _ q)
      · rcases List.mem_cons.1 q with e | e
        · exact .inl (by rw [e]; simp)
        · exact .inr (.inl (List.mem_append_left _ e))
      · exact .inr (.inr q)
    · rw [List.mem_singleton] at q
      rw [q] at hz
      have := held_sub hz
      exact ⟨fun e => ht (e ▸ this), .inr (.inl (List.mem_append_right _ this))⟩
end Go.Vm.Ip
namespace Go.Vm.Ip
open Go.Vm.Lex (nameB)
structure Nmd (x : Its) : Prop where
  nm : ∀ s, kn x s = true → nameB s = true
  ne : ∀ s, known (nS x) s = true → ∀ f ∈ flM x s, f.t ≠ []
theorem Nmd.held_S {x : Its} (h : Nmd x) {s : S} (c : known (nS x) s = true) : heldM x s = (someT (flM x s), false) := by
  rw [held_eq, if_pos c, someT_all (h.ne s c)]
theorem Nmd.nu {x : Its} (h : Nmd x) {s : S} (c : kn x s = true) : s ≠ unitT ∧ s ≠ [] := ⟨fun e => by
  have := h.nm s c
  rw [e] at this
  exact absurd this (by decide), fun e => by
  have := h.nm s c
  rw [e] at this
  exact absurd this (by decide)⟩
end Go.Vm.Ip
namespace Go.Vm.Ip
open Go.Vm.Lex (nameB)
end Go.Vm.Ip
namespace Go.Vm.Ip
open Go.Vm.Lex (nameB)
theorem right_bare {k : S → Bool} (h : ∀ s, k s = true → nameB s = true) : ∀ (n : Nat) (s : S), s.length ≤ n → rightB k s = bareB k s
  | n, s, hn => by
    rw [rightB_eq, bareB_eq]
    cases hp : preB s boxT with
    | false =>
      have hb : boxB s = false := by unfold boxB; rw [hp]; rfl
      rw [hb]; rfl
    | true =>
      rw [if_pos rfl]
      cases hs : sufB (s.drop 4) [62] with
      | false =>
        have hb : boxB s = false := by unfold boxB; rw [hs, Bool.and_false]
        rw [hb, Bool.false_and]
        have hk : k s = false := by
          cases hk : k s with
          | false => rfl
          | true => have := name_not_box (h s hk); rw [hp] at this; cases this
        have hc : coreB s = false := by
          cases hc : coreB s with
          | false => rfl
          | true => have := core_not_box hc; rw [hp] at this; cases this
        rw [hk, hc]; rfl
      | true =>
        have hb : boxB s = true := by unfold boxB; rw [hp, hs]; rfl
        have hl := box_len hb
        rw [hb, Bool.true_and, if_pos rfl]
        cases n with
        | zero => omega
        | succ n => exact right_bare h n _ (by omega)
end Go.Vm.Ip
namespace Go.Vm.Ip
open Go.Vm.Lex (nameB)
end Go.Vm.Ip
namespace Go.Vm.Ip
open Go.Vm.Lex (nameB)
def sT : S := [83]
def lit : Its := ⟨[⟨sT, [⟨[97], i64T⟩, ⟨[98], [66, 111, 120, 60, 83, 62]⟩]⟩], [], [⟨mainT, [], [], unitT, 0⟩]⟩
theorem lit_fine : Fine lit := ⟨by decide, by decide, by decide, by decide, by decide, by decide⟩
theorem lit_gets {y : S} (h : Gets lit sT y) : y = i64T ∨ y = [66, 111, 120, 60, 83, 62] := by
  have hh : (heldM lit sT).1 = [i64T, [66, 111, 120, 60, 83, 62]] := by decide
  induction h with
  | one h => rw [hh] at h; simpa using h
  | step _ h ih =>
    rcases ih with e | e
    · rw [e, show (heldM lit i64T).1 = [] by decide] at h; cases h
    · rw [e, show (heldM lit [66, 111, 120, 60, 83, 62]).1 = [] by decide] at h; cases h
theorem lit_chk : chkB lit = true := by
  unfold chkB
  simp only [Bool.and_eq_true, decide_eq_true_eq, List.all_eq_true, Bool.not_eq_true']
  refine ⟨⟨⟨⟨⟨⟨⟨by decide, by decide⟩, by decide⟩, by decide⟩, by decide⟩, fun s hs => ?_⟩, by decide⟩, by decide⟩
  have : s = sT := by simpa [nS, nE, lit] using hs
  rw [this]
  exact endB_f fun h => by
    rcases lit_gets h with e | e
    · exact absurd e (by decide)
    · exact absurd e (by decide)
end Go.Vm.Ip
namespace Go.Vm.Ip
open Go.Vm.Lex (nameB)
theorem box_not_ref {s : S} (h : preB s boxT = true) : preB s [38] = false := by
  cases c : preB s [38] with
  | false => rfl
  | true => rw [ref_not_box c] at h; cases h
theorem core_not_ref {s : S} (h : coreB s = true) : preB s [38] = false := by
  unfold coreB at h
  simp only [Bool.or_eq_true, decide_eq_true_eq] at h
  rcases h with (h | h) | h <;> subst h <;> rfl
theorem bare_not_ref {x : Its} (hn : ∀ s, kn x s = true → nameB s = true) {s : S} (h : bareB (kn x) s = true) : preB s [38] = false := by
  rw [bareB_eq] at h
  split at h
  · rename_i hb
    unfold boxB at hb
    rw [Bool.and_eq_true] at hb
    exact box_not_ref hb.1
  · rcases Bool.or_eq_true_iff.1 h with h | h
    · exact core_not_ref h
    · exact name_not_ref (hn _ h)
theorem bare_is {x : Its} (hn : ∀ s, kn x s = true → nameB s = true) {s : S} (h : bareB (kn x) s = true) : isB (kn x) s = true := by
  unfold isB
  rw [offR_eq, bare_not_ref hn h]; exact h
theorem fld_is {x : Its} (ok : Okay x) {s : S} {f : Fld} (hf : f ∈ flM x s) (hne : f.t ≠ []) : isB (kn x) f.t = true := by
  refine bare_is ok.nm ?_
  rw [← right_bare ok.nm _ f.t (Nat.le_refl _)]
  unfold flM at hf
  split at hf
  · rename_i c; exact ok.sf s c f hf
  split at hf
  · rename_i c; exact (ok.ef s c f hf).resolve_left hne
  · cases hf
theorem getD_in {l : List Fld} {j : Nat} (h : j < l.length) : l.getD j default ∈ l := by simp [List.getD_eq_getElem?_getD, List.getElem?_eq_getElem h]
theorem step_is {x : Its} (ok : Okay x) {s : S} (h : isB (kn x) s = true) {k : Int} (hk : (stpM x s k).2 = true) : isB (kn x) (stpM x s k).1 = true := by
  unfold stpM at hk ⊢
  split at hk
  · rename_i c1
    rw [if_pos c1]
    rw [offR_drop] at h
    unfold inM at hk ⊢
    split at h
    · rename_i c; rw [if_pos c]; exact bare_is ok.nm h
    rename_i c2
    split at h
    · rename_i c; rw [if_neg c2, if_pos c]; exact bare_is ok.nm h
    rename_i c3
    rw [if_neg c2, if_neg c3] at hk ⊢
    split at hk
    · rename_i c4
      rw [if_pos c4]
      rw [bareB_eq, if_pos c4] at h
      exact bare_is ok.nm h
    · cases hk
  rename_i c1
  rw [if_neg c1]
  split at hk
  · rename_i c2
    rw [if_pos c2]
    split at hk
    · rename_i c3
      rw [if_pos c3]
      have hm := getD_in (l := flM x s) (j := k.toNat) (by omega)
      refine fld_is ok hm ?_
      have : flM x s = (nam x.ss s).fs := by unfold flM; rw [if_pos c3.1]
      exact ok.nf c3.1 (this ▸ hm)
    · cases hk
  · rename_i c2
    rw [if_neg c2]
    split at hk
    · rename_i c3
      rw [if_pos c3]
      exact fld_is ok (getD_in (by omega)) c3.2.2
    · cases hk
theorem path_is {x : Its} (ok : Okay x) : ∀ {s : S} {p : List Int}, isB (kn x) s = true → (pathM x s p).2 = true → isB (kn x) (pathM x s p).1 = true
  | _, [], h, _ => h
  | s, k :: r, h, hk => by
    rw [pathM] at hk ⊢
    split at hk
    · rename_i c; rw [if_pos c]; exact path_is ok (step_is ok h c) hk
    · cases hk
theorem path_app {x : Its} : ∀ {s : S} {p q : List Int}, (pathM x s p).2 = true → pathM x s (p ++ q) = pathM x (pathM x s p).1 q
  | _, [], _, _ => rfl
  | s, k :: r, q, hk => by
    rw [List.cons_append, pathM]
    rw [pathM] at hk
    split at hk
    · rename_i c; rw [if_pos c, pathM, if_pos c]; exact path_app hk
    · cases hk
end Go.Vm.Ip
namespace Go.Vm.Ip
open Go Go.Vm
theorem i64_of {n : Int} (h : (Lit.int .i64 n).wf = true) : -9223372036854775808 ≤ n ∧ n ≤ 9223372036854775807 := by
  have e1 : IntKind.i64.min = -9223372036854775808 := rfl
  have e2 : IntKind.i64.max = 9223372036854775807 := rfl
  simp only [Lit.wf, e1, e2] at h
  simp at h
  omega
theorem list_of {α : Type} {f : α → D} {p : α → Prop} : ∀ {l : List D}, (∀ y ∈ l, ∃ a, y = f a ∧ p a) → ∃ as : List α, l = as.map f ∧ ∀ a ∈ as, p a
  | [], _ => ⟨[], rfl, fun a h => by cases h⟩
  | y :: r, h => by
    obtain ⟨a, rfl, ha⟩ := h y (by simp)
    obtain ⟨as, rfl, has⟩ := list_of (l := r) (f := f) (p := p) fun z hz => h z (List.mem_cons_of_mem _ hz)
    exact ⟨a :: as, rfl, fun b hb => by
      rcases List.mem_cons.1 hb with q | q
      · exact q ▸ ha
      · exact has b q⟩
abbrev sf (P : Program) (t : Nat) : Option (List Nat) := match P.underlying t with | some (.struct fs) => some (fs.toList.map (·.type)) | _ => none
structure Tys where
  it : Nat
  ss : Nat
  es : Nat
  fs : Nat
  s : Nat
  e : Nat
  f : Nat
  n : Nat
  fl : Nat
  fd : Nat
  bs : Nat
  b : Nat
  i : Nat
structure TysOk (P : Program) (t : Tys) : Prop where
  it : sf P t.it = some [t.ss, t.es, t.fs]
  ss : P.underlying t.ss = some (.slice t.s) ∧ P.bytesOf t.s = 40
  es : P.underlying t.es = some (.slice t.e) ∧ P.bytesOf t.e = 40
  fs : P.underlying t.fs = some (.slice t.f) ∧ P.bytesOf t.f = 88
  s : sf P t.s = some [t.n, t.fl]
  e : sf P t.e = some [t.n, t.fl]
  f : sf P t.f = some [t.n, t.fl, t.bs, t.n, t.i]
  n : P.underlying t.n = some .string
  fl : P.underlying t.fl = some (.slice t.fd) ∧ P.bytesOf t.fd = 32
  fd : sf P t.fd = some [t.n, t.n]
  bs : P.underlying t.bs = some (.slice t.b) ∧ P.bytesOf t.b = 1
  b : P.underlying t.b = some .bool
  i : P.underlying t.i = some (.int .i64)
theorem rb : reachBytes = 140737488351232 := by decide
section
variable {P : Program} {t : Tys} (ok : TysOk P t)
include ok
theorem fld_of {m : Nat} {d : D} (h : HasW P (m + 2) t.fd d) : ∃ f : Fld, d = f.D ∧ f.n.length ≤ mx ∧ f.t.length ≤ mx := by
  obtain ⟨xs, rfl, hx⟩ := hasW_struct ok.fd h
  match xs, hx with
  | [a, b], ⟨ha, hb, _⟩ =>
    obtain ⟨s, rfl, h1⟩ := hasW_str ok.n ha
    obtain ⟨u, rfl, h2⟩ := hasW_str ok.n hb
    have := rb
    exact ⟨⟨s, u⟩, rfl, by show s.length ≤ 140737488355328; omega, by show u.length ≤ 140737488355328; omega⟩
theorem flds_of {m : Nat} {d : D} (h : HasW P (m + 3) t.fl d) : ∃ l : List Fld, d = fldsD l ∧ l.length ≤ mf ∧ ∀ f ∈ l, f.n.length ≤ mx ∧ f.t.length ≤ mx := by
  obtain ⟨l, rfl, h1, h2⟩ := hasW_slice ok.fl.1 ok.fl.2 h
  obtain ⟨as, rfl, h3⟩ := list_of (f := Fld.D) (p := fun f => f.n.length ≤ mx ∧ f.t.length ≤ mx) fun y hy => fld_of ok (h2 y hy)
  have := rb
  rw [List.length_map] at h1
  exact ⟨as, rfl, by show as.length ≤ 4398046511104; omega, h3⟩
theorem nam_of {m k : Nat} {d : D} (hk : sf P k = some [t.n, t.fl]) (h : HasW P (m + 4) k d) : ∃ y : Nam, d = y.D ∧ y.n.length ≤ mx ∧ y.fs.length ≤ mf ∧ ∀ f ∈ y.fs, f.n.length ≤ mx ∧ f.t.length ≤ mx := by
  obtain ⟨xs, rfl, hx⟩ := hasW_struct hk h
  match xs, hx with
  | [a, b], ⟨ha, hb, _⟩ =>
    obtain ⟨s, rfl, h1⟩ := hasW_str ok.n ha
    obtain ⟨l, rfl, h2, h3⟩ := flds_of ok hb
    have := rb
    exact ⟨⟨s, l⟩, rfl, by show s.length ≤ 140737488355328; omega, h2, h3⟩
theorem fnc_of {m : Nat} {d : D} (h : HasW P (m + 4) t.f d) : ∃ y : Fnc, d = y.D ∧ y.n.length ≤ mx ∧ y.r.length ≤ mx ∧ y.ms.length ≤ mx ∧ y.ps.length ≤ mf ∧ (∀ f ∈ y.ps, f.n.length ≤ mx ∧ f.t.length ≤ mx) ∧ -9223372036854775808 ≤ y.d ∧ y.d ≤ 9223372036854775807 := by
  obtain ⟨xs, rfl, hx⟩ := hasW_struct ok.f h
  match xs, hx with
  | [a, b, c, d, e], ⟨ha, hb, hc, hd, he, _⟩ =>
    obtain ⟨s, rfl, h1⟩ := hasW_str ok.n ha
    obtain ⟨l, rfl, h2, h3⟩ := flds_of ok hb
    obtain ⟨ms, rfl, h4, h5⟩ := hasW_slice ok.bs.1 ok.bs.2 hc
    obtain ⟨bs, rfl, _⟩ := list_of (f := D.bool) (p := fun _ => True) fun y hy => by
      obtain ⟨b, hb⟩ := hasW_bool ok.b (h5 y hy)
      exact ⟨b, hb, trivial⟩
    obtain ⟨r, rfl, h6⟩ := hasW_str ok.n hd
    obtain ⟨n, rfl, h7⟩ := hasW_int ok.i he
    have := rb
    rw [List.length_map] at h4
    exact ⟨⟨s, l, bs, r, n⟩, rfl, by show s.length ≤ 140737488355328; omega, by show r.length ≤ 140737488355328; omega, by show bs.length ≤ 140737488355328; omega, h2, h3, i64_of h7⟩
theorem its_of {m : Nat} {d : D} (h : HasW P (m + 6) t.it d) : ∃ x : Its, d = x.D ∧ Fine x := by
  obtain ⟨xs, rfl, hx⟩ := hasW_struct ok.it h
  match xs, hx with
  | [a, b, c], ⟨ha, hb, hc, _⟩ =>
    obtain ⟨l1, rfl, a1, a2⟩ := hasW_slice ok.ss.1 ok.ss.2 ha
    obtain ⟨l2, rfl, b1, b2⟩ := hasW_slice ok.es.1 ok.es.2 hb
    obtain ⟨l3, rfl, c1, c2⟩ := hasW_slice ok.fs.1 ok.fs.2 hc
    obtain ⟨ss, rfl, h1⟩ := list_of fun y hy => nam_of ok ok.s (a2 y hy)
    obtain ⟨es, rfl, h2⟩ := list_of fun y hy => nam_of ok ok.e (b2 y hy)
    obtain ⟨fs, rfl, h3⟩ := list_of fun y hy => fnc_of ok (c2 y hy)
    have := rb
    rw [List.length_map] at a1 b1 c1
    exact ⟨⟨ss, es, fs⟩, rfl, by show ss.length ≤ 140737488355328; omega, by show es.length ≤ 140737488355328; omega, by show fs.length ≤ 140737488355328; omega, h1, h2, h3⟩
end
end Go.Vm.Ip
