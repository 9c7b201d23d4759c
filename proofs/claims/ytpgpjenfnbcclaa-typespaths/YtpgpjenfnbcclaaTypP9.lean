import Derived.Test.YtpgpjenfnbcclaaVmFix
import Derived.Test.YtpgpjenfnbcclaaVmClone
set_option linter.unusedSimpArgs false
set_option linter.unusedVariables false
namespace Go.Vm.Lex
def isL (c : UInt8) : Bool := decide (97 ≤ c.toNat ∧ c.toNat ≤ 122) || decide (65 ≤ c.toNat ∧ c.toNat ≤ 90) || decide (c.toNat = 95)
def isD (c : UInt8) : Bool := decide (48 ≤ c.toNat ∧ c.toNat ≤ 57)
def isLD (c : UInt8) : Bool := isL c || isD c
def wordsL : List (List UInt8) := [[102, 110], [115, 116, 114, 117, 99, 116], [101, 110, 117, 109], [108, 101, 116], [109, 117, 116], [119, 104, 105, 108, 101], [105, 102], [101, 108, 115, 101], [109, 97, 116, 99, 104], [114, 101, 116, 117, 114, 110], [98, 114, 101, 97, 107], [99, 111, 110, 116, 105, 110, 117, 101], [116, 114, 117, 101], [102, 97, 108, 115, 101], [105, 54, 52], [98, 111, 111, 108], [66, 111, 120]]
def wordB (s : List UInt8) : Bool := decide (s ∈ wordsL)
def hd0 : List UInt8 → UInt8
  | [] => 0
  | c :: _ => c
def speltB (s : List UInt8) : Bool := decide (s ≠ []) && decide (s ≠ [95]) && !isD (hd0 s) && s.all isLD
def nameB (s : List UInt8) : Bool := speltB s && decide (s.length ≤ 64) && !wordB s
end Go.Vm.Lex
namespace Go.Vm.Ip
open Go.Vm.Lex
abbrev S := List UInt8
structure Fld where
  n : S
  t : S
structure Nam where
  n : S
  fs : List Fld
structure Fnc where
  n : S
  ps : List Fld
  ms : List Bool
  r : S
  d : Int
structure Its where
  ss : List Nam
  es : List Nam
  fs : List Fnc
def Fld.D (x : Fld) : D := .agg [.str x.n, .str x.t]
def fldsD (l : List Fld) : D := .sl (l.map Fld.D)
def Nam.D (x : Nam) : D := .agg [.str x.n, fldsD x.fs]
def Fnc.D (x : Fnc) : D := .agg [.str x.n, fldsD x.ps, .sl (x.ms.map .bool), .str x.r, .int .i64 x.d]
def Its.D (x : Its) : D := .agg [.sl (x.ss.map Nam.D), .sl (x.es.map Nam.D), .sl (x.fs.map Fnc.D)]
instance : Inhabited Fld := ⟨⟨[], []⟩⟩
instance : Inhabited Nam := ⟨⟨[], []⟩⟩
instance : Inhabited Fnc := ⟨⟨[], [], [], [], 0⟩⟩
abbrev mx : Nat := 140737488355328
abbrev mf : Nat := 4398046511104
structure Fine (x : Its) : Prop where
  ss : x.ss.length ≤ mx
  es : x.es.length ≤ mx
  fs : x.fs.length ≤ mx
  sf : ∀ y ∈ x.ss, y.n.length ≤ mx ∧ y.fs.length ≤ mf ∧ ∀ f ∈ y.fs, f.n.length ≤ mx ∧ f.t.length ≤ mx
  ef : ∀ y ∈ x.es, y.n.length ≤ mx ∧ y.fs.length ≤ mf ∧ ∀ f ∈ y.fs, f.n.length ≤ mx ∧ f.t.length ≤ mx
  ff : ∀ y ∈ x.fs, y.n.length ≤ mx ∧ y.r.length ≤ mx ∧ y.ms.length ≤ mx ∧ y.ps.length ≤ mf ∧ (∀ f ∈ y.ps, f.n.length ≤ mx ∧ f.t.length ≤ mx) ∧ -9223372036854775808 ≤ y.d ∧ y.d ≤ 9223372036854775807
def pos (l : List S) (s : S) : Option Nat := l.findIdx? (· == s)
theorem pos_some {l : List S} {s : S} {i : Nat} (h : pos l s = some i) : l[i]? = some s ∧ ∀ j, j < i → l[j]? ≠ some s := by
  unfold pos at h
  rw [List.findIdx?_eq_some_iff_getElem] at h
  obtain ⟨h1, h2, h3⟩ := h
  refine ⟨by rw [List.getElem?_eq_getElem h1]; simpa using h2, fun j hj e => ?_⟩
  have := h3 j hj
  rw [List.getElem?_eq_getElem (by omega)] at e
  simp only [Option.some.injEq] at e
  simp [e] at this
theorem pos_none {l : List S} {s : S} (h : pos l s = none) : s ∉ l := by
  unfold pos at h
  rw [List.findIdx?_eq_none_iff] at h
  intro hm
  have := h s hm
  simp at this
theorem pos_mem {l : List S} {s : S} : s ∈ l ↔ ∃ i, pos l s = some i := by
  constructor
  · intro h
    cases hp : pos l s with
    | none => exact absurd h (pos_none hp)
    | some k => exact ⟨k, rfl⟩
  · rintro ⟨i, hi⟩; exact List.mem_of_getElem? (pos_some hi).1
theorem pos_lt {l : List S} {s : S} {i : Nat} (h : pos l s = some i) : i < l.length := (List.getElem?_eq_some_iff.1 (pos_some h).1).1
theorem pos_take_succ {l : List S} {s : S} {k : Nat} {y : S} (hy : l[k]? = some y) : pos (l.take (k + 1)) s = match pos (l.take k) s with
    | some i => some i
    | none => if y = s then some k else none := by
  have hk := (List.getElem?_eq_some_iff.1 hy).1
  unfold pos
  rw [List.take_add_one, hy, List.findIdx?_append]
  cases h : List.findIdx? (fun x => x == s) (List.take k l) with
  | some i => simp
  | none =>
    by_cases e : y = s
    · subst e; simp [Nat.min_eq_left (Nat.le_of_lt hk)]
    · simp [e, beq_iff_eq]
theorem eq1_str (a b : S) : eq1 (.str a) (.str b) = decide (a = b) := by rw [Bool.eq_iff_iff]; simp [eq1]
theorem mfind_mset (s y : S) (v : D) : ∀ l : List (D × D), keysOk 2 l = true → mfind (.str s) (mset (.str y) v l) = if s = y then some v else mfind (.str s) l
  | [], _ => by simp only [mset, mfind, eq1_str]; by_cases h : s = y <;> simp [h]
  | (a, x) :: r, hk => by
    simp only [keysOk, List.all_cons, Bool.and_eq_true] at hk
    obtain ⟨ha, hr⟩ := hk
    cases a with
    | str a =>
      simp only [mset, eq1_str]
      by_cases h : y = a
      · subst h
        simp only [decide_true, if_true, mfind, eq1_str]
        by_cases h2 : s = y <;> simp [h2]
      · simp only [h, decide_false, Bool.false_eq_true, if_false, mfind, eq1_str]
        rw [mfind_mset s y v r hr]
        by_cases h2 : s = a
        · subst h2
          have : ¬ s = y := fun e => h e.symm
          simp [this]
        · simp [h2]
    | _ => cases ha
theorem mset_keys (y : S) (v : D) : ∀ l : List (D × D), keysOk 2 l = true → keysOk 2 (mset (.str y) v l) = true
  | [], _ => rfl
  | (a, x) :: r, hk => by
    simp only [keysOk, List.all_cons, Bool.and_eq_true] at hk
    obtain ⟨ha, hr⟩ := hk
    simp only [mset]
    split
    · simp only [keysOk, List.all_cons, Bool.and_eq_true]; exact ⟨ha, hr⟩
    · simp only [keysOk, List.all_cons, Bool.and_eq_true]; exact ⟨ha, mset_keys y v r hr⟩
def fmap (l : List S) : Nat → List (D × D)
  | 0 => []
  | k + 1 => match mfind (.str (l.getD k [])) (fmap l k) with
    | some _ => fmap l k
    | none => mset (.str (l.getD k [])) (.int .i64 k) (fmap l k)
theorem fmap_keys (l : List S) : ∀ k, keysOk 2 (fmap l k) = true
  | 0 => rfl
  | k + 1 => by
    simp only [fmap]
    split
    · exact fmap_keys l k
    · exact mset_keys _ _ _ (fmap_keys l k)
theorem fmap_find (l : List S) (s : S) : ∀ k, k ≤ l.length → mfind (.str s) (fmap l k) = (pos (l.take k) s).map fun i => .int .i64 (i : Int)
  | 0, _ => by simp [fmap, mfind, pos]
  | k + 1, hk => by
    have ih := fun s => fmap_find l s k (by omega)
    have hy : l[k]? = some (l.getD k []) := by rw [List.getElem?_eq_getElem (by omega)]; simp [List.getD_eq_getElem?_getD, List.getElem?_eq_getElem (show k < l.length by omega)]
    rw [pos_take_succ hy]
    simp only [fmap]
    revert hy; generalize l.getD k [] = y; intro hy
    split
    · rename_i x hx
      rw [fmap_find l y k (by omega)] at hx
      obtain ⟨j, hj, _⟩ := Option.map_eq_some_iff.1 hx
      rw [fmap_find l s k (by omega)]
      cases hs : pos (List.take k l) s with
      | some i => rfl
      | none =>
        have : ¬ y = s := by rintro rfl; rw [hs] at hj; cases hj
        simp [this]
    · rename_i hx
      rw [fmap_find l y k (by omega)] at hx
      rw [mfind_mset _ _ _ _ (fmap_keys l k), fmap_find l s k (by omega)]
      by_cases e : s = y
      · subst e
        have hp : pos (List.take k l) s = none := by
          cases hp : pos (List.take k l) s with
          | none => rfl
          | some i => rw [hp] at hx; cases hx
        simp [hp]
      · have e' : ¬ y = s := fun h => e h.symm
        rw [if_neg e]
        cases pos (List.take k l) s with
        | some i => rfl
        | none => simp [e']
def finM (l : List S) : List (D × D) := fmap l l.length
theorem finM_find (l : List S) (s : S) : mfind (.str s) (finM l) = (pos l s).map fun i => .int .i64 (i : Int) := by
  unfold finM; rw [fmap_find l s _ (Nat.le_refl _), List.take_length]
def nS (x : Its) : List S := x.ss.map Nam.n
def nE (x : Its) : List S := x.es.map Nam.n
def nF (x : Its) : List S := x.fs.map Fnc.n
end Go.Vm.Ip
namespace Go.Vm.Ip
def preB (s p : S) : Bool := decide (p.length ≤ s.length) && decide (s.take p.length = p)
def sufB (s q : S) : Bool := decide (q.length ≤ s.length) && decide (s.drop (s.length - q.length) = q)
def loc (l : List S) (s : S) : Int := match pos l s with | some i => (i : Int) | none => 0
def known (l : List S) (s : S) : Bool := (pos l s).isSome
def boxT : S := [66, 111, 120, 60]
def mutT : S := [38, 109, 117, 116, 32]
def i64T : S := [105, 54, 52]
def boolT : S := [98, 111, 111, 108]
def unitT : S := [40, 41]
def rightM (kn : S → Bool) : Nat → S → Bool
  | 0, _ => false
  | f + 1, s => if preB s boxT then sufB (s.drop 4) [62] && rightM kn f ((s.drop 4).take ((s.drop 4).length - 1))
    else decide (s = i64T) || decide (s = boolT) || decide (s = unitT) || kn s
def rightB (kn : S → Bool) (s : S) : Bool := rightM kn (s.length + 1) s
def rightR (kn : S → Bool) (s : S) : Bool := if preB s mutT then rightB kn (s.drop 5) else if preB s [38] then rightB kn (s.drop 1) else rightB kn s
theorem preB_len {s p : S} (h : preB s p = true) : p.length ≤ s.length := by simp only [preB, Bool.and_eq_true, decide_eq_true_eq] at h; exact h.1
theorem sufB_len {s p : S} (h : sufB s p = true) : p.length ≤ s.length := by simp only [sufB, Bool.and_eq_true, decide_eq_true_eq] at h; exact h.1
theorem rightM_fuel (kn : S → Bool) : ∀ (f g : Nat) (s : S), s.length < f → s.length < g → rightM kn f s = rightM kn g s
  | 0, _, _, h, _ => by omega
  | _, 0, _, _, h => by omega
  | f + 1, g + 1, s, hf, hg => by
    simp only [rightM]
    split
    · rename_i hp
      have := preB_len hp
      have h4 : (boxT).length = 4 := rfl
      cases hs : sufB (s.drop 4) [62] with
      | false => rfl
      | true =>
        have := sufB_len hs
        simp only [List.length_drop, List.length_cons, List.length_nil] at this
        rw [rightM_fuel kn f g _ (by simp only [List.length_take, List.length_drop]; omega) (by simp only [List.length_take, List.length_drop]; omega)]
    · rfl
theorem rightB_eq (kn : S → Bool) (s : S) : rightB kn s = if preB s boxT then sufB (s.drop 4) [62] && rightB kn ((s.drop 4).take ((s.drop 4).length - 1)) else decide (s = i64T) || decide (s = boolT) || decide (s = unitT) || kn s := by
  unfold rightB
  rw [rightM]
  split
  · rename_i hp
    have := preB_len hp
    have h4 : (boxT).length = 4 := rfl
    cases hs : sufB (s.drop 4) [62] with
    | false => rfl
    | true =>
      have := sufB_len hs
      simp only [List.length_drop, List.length_cons, List.length_nil] at this
      rw [rightM_fuel kn s.length _ _ (by simp only [List.length_take, List.length_drop]; omega) (Nat.lt_succ_self _)]
  · rfl
def nam (l : List Nam) (s : S) : Nam := match pos (l.map Nam.n) s with
  | some i => l.getD i default
  | none => ⟨[], []⟩
end Go.Vm.Ip
namespace Go.Vm.Ip
open Go.Vm.Lex
def seenM (ns : List S) : List (D × D) := ns.map fun n => (.str n, .int .i64 1)
theorem seenM_keys (ns : List S) : keysOk 2 (seenM ns) = true := by
  unfold keysOk seenM; rw [List.all_eq_true]
  intro p hp
  obtain ⟨n, _, rfl⟩ := List.mem_map.1 hp
  rfl
theorem seenM_find (s : S) : ∀ ns : List S, mfind (.str s) (seenM ns) = if s ∈ ns then some (.int .i64 1) else none
  | [] => rfl
  | n :: r => by
    show (if eq1 (.str s) (.str n) then _ else mfind _ (seenM r)) = _
    rw [seenM_find s r, eq1_str]
    by_cases h : s = n
    · simp [h]
    · simp [h]
theorem seenM_set (s : S) : ∀ ns : List S, s ∉ ns → mset (.str s) (.int .i64 1) (seenM ns) = seenM (ns ++ [s])
  | [], _ => rfl
  | n :: r, h => by
    simp only [List.mem_cons, not_or] at h
    show (if eq1 (.str s) (.str n) then _ else _ :: mset _ _ (seenM r)) = _
    rw [seenM_set s r h.2, eq1_str, decide_eq_false h.1]; rfl
def lstB (rt : S → Bool) (bare : Bool) : List S → List Fld → Bool
  | _, [] => true
  | seen, f :: r => nameB f.n && !decide (f.n ∈ seen) && (rt f.t || (bare && decide (f.t = []))) && lstB rt bare (seen ++ [f.n]) r
def rt (kn : S → Bool) (ref : Bool) : S → Bool := if ref then rightR kn else rightB kn
theorem drop_getD {α : Type} {l : List α} {i : Nat} {d : α} (h : i < l.length) : l.drop i = l.getD i d :: l.drop (i + 1) := by
  rw [List.drop_eq_getElem_cons h]; simp [List.getD_eq_getElem?_getD, List.getElem?_eq_getElem h]
def nodM (ns : List Int) : List (D × D) := ns.map fun n => (.int .i64 n, .bool true)
theorem nodM_keys (ns : List Int) : keysOk 1 (nodM ns) = true := by
  unfold keysOk nodM; rw [List.all_eq_true]
  intro p hp
  obtain ⟨n, _, rfl⟩ := List.mem_map.1 hp
  rfl
theorem eq1_int (a b : Int) : eq1 (.int .i64 a) (.int .i64 b) = decide (a = b) := by rw [Bool.eq_iff_iff]; simp [eq1]
theorem nodM_find (s : Int) : ∀ ns : List Int, mfind (.int .i64 s) (nodM ns) = if s ∈ ns then some (.bool true) else none
  | [] => rfl
  | n :: r => by
    show (if eq1 (.int .i64 s) (.int .i64 n) then _ else mfind _ (nodM r)) = _
    rw [nodM_find s r, eq1_int]
    by_cases h : s = n
    · simp [h]
    · simp [h]
theorem nodM_set (s : Int) : ∀ ns : List Int, s ∉ ns → mset (.int .i64 s) (.bool true) (nodM ns) = nodM (ns ++ [s])
  | [], _ => rfl
  | n :: r, h => by
    simp only [List.mem_cons, not_or] at h
    show (if eq1 (.int .i64 s) (.int .i64 n) then _ else _ :: mset _ _ (nodM r)) = _
    rw [nodM_set s r h.2, eq1_int, decide_eq_false h.1]; rfl
def printT : S := [112, 114, 105, 110, 116]
def readT : S := [114, 101, 97, 100]
def panicT : S := [112, 97, 110, 105, 99]
def mainT : S := [109, 97, 105, 110]
def fncB (kn : S → Bool) : List S → List Int → List Fnc → Bool
  | _, _, [] => true
  | seen, nod, f :: r => nameB f.n && !decide (f.n ∈ seen) && decide (f.ms.length = f.ps.length) && (lstB (rt kn true) false [] f.ps && decide ((f.ps.length : Int) ≤ 6)) && rightR kn f.r && !decide (f.d < 0) && !decide (f.d ∈ nod) && fncB kn (seen ++ [f.n]) (nod ++ [f.d]) r
def mainB (x : Its) : Bool := match pos (nF x) mainT with
  | some i => decide ((x.fs.getD i default).ps.length = 0) && decide ((x.fs.getD i default).r = unitT)
  | none => false
def fnsB (kn : S → Bool) (x : Its) : Bool := fncB kn [printT, readT, panicT] [] x.fs && mainB x
end Go.Vm.Ip
namespace Go.Vm.Ip
def kn (x : Its) (s : S) : Bool := known (nS x) s || known (nE x) s
def someT (l : List Fld) : List S := (l.map Fld.t).filter fun t => decide (t ≠ [])
theorem someT_len (l : List Fld) : (someT l).length ≤ l.length := by
  unfold someT; have := List.length_filter_le (fun t => decide (t ≠ [])) (l.map Fld.t); simpa using this
def heldM (x : Its) (s : S) : List S × Bool := match pos (nS x) s with
  | some i => ((x.ss.getD i default).fs.map Fld.t, false)
  | none => match pos (nE x) s with
    | some i => (someT (x.es.getD i default).fs, true)
    | none => ([], false)
def deepOk (x : Its) : Nat → S → Prop
  | 0, _ => False
  | f + 1, t => ∀ y ∈ (heldM x t).1, deepOk x f y
def addE (a b : Int × Int) : Int × Int := (max a.1 (1 + b.1), min (a.2 + b.2) 1025)
def addS (a b : Int × Int) : Int × Int := (min (a.1 + b.1) 65, min (a.2 + b.2) 1025)
def szF (x : Its) : Nat → S → Int × Int
  | 0, _ => (0, 0)
  | f + 1, s => if (heldM x s).2 then (heldM x s).1.foldl (fun a y => addE a (szF x f y)) (1, 1)
    else if known (nS x) s then (heldM x s).1.foldl (fun a y => addS a (szF x f y)) (0, 1)
    else if s = unitT then (0, 1) else (1, 1)
theorem deepOk_mono (x : Its) : ∀ (f : Nat) (s : S), deepOk x f s → deepOk x (f + 1) s
  | 0, _, h => h.elim
  | f + 1, _, h => fun y hy => deepOk_mono x f y (h y hy)
theorem foldl_congr {α β : Type} {g h : α → β → α} : ∀ {l : List β} {a : α}, (∀ a, ∀ y ∈ l, g a y = h a y) → l.foldl g a = l.foldl h a
  | [], _, _ => rfl
  | y :: r, a, hh => by
    simp only [List.foldl_cons]
    rw [hh a y (by simp)]
    exact foldl_congr fun a z hz => hh a z (by simp [hz])
theorem szF_up (x : Its) : ∀ (f : Nat) (s : S), deepOk x f s → szF x (f + 1) s = szF x f s
  | 0, _, h => h.elim
  | f + 1, s, h => by
    have key : ∀ y ∈ (heldM x s).1, szF x (f + 1) y = szF x f y := fun y hy => szF_up x f y (h y hy)
    rw [szF, show szF x (f + 1) s = _ from rfl, szF]
    split
    · exact foldl_congr fun a y hy => by rw [key y hy]
    split
    · exact foldl_congr fun a y hy => by rw [key y hy]
    rfl
theorem deepOk_le {x : Its} {f g : Nat} {s : S} (h : deepOk x f s) (hg : f ≤ g) : deepOk x g s := by
  induction g with
  | zero => obtain rfl : f = 0 := by omega
            exact h
  | succ g ih =>
    by_cases e : f = g + 1
    · subst e; exact h
    · exact deepOk_mono x g s (ih (by omega))
theorem szF_le {x : Its} {f g : Nat} {s : S} (h : deepOk x f s) (hg : f ≤ g) : szF x g s = szF x f s := by
  induction g with
  | zero => obtain rfl : f = 0 := by omega
            rfl
  | succ g ih =>
    by_cases e : f = g + 1
    · subst e; rfl
    · rw [szF_up x g s (deepOk_le h (by omega)), ih (by omega)]
theorem szF_any {x : Its} {f g : Nat} {s : S} (h : deepOk x f s) (h2 : deepOk x g s) : szF x f s = szF x g s := by
  rcases Nat.le_total f g with e | e
  · exact (szF_le h e).symm
  · exact szF_le h2 e
theorem addE_fold {x : Its} {f : Nat} {n : Int} (hb : ∀ y, 0 ≤ (szF x f y).1 ∧ (szF x f y).1 ≤ n ∧ 0 ≤ (szF x f y).2 ∧ (szF x f y).2 ≤ 1025) (hn : 0 ≤ n) : ∀ (l : List S) (a : Int × Int), 0 ≤ a.1 → a.1 ≤ n + 1 → 0 ≤ a.2 → a.2 ≤ 1025 → 0 ≤ (l.foldl (fun a y => addE a (szF x f y)) a).1 ∧ (l.foldl (fun a y => addE a (szF x f y)) a).1 ≤ n + 1 ∧ 0 ≤ (l.foldl (fun a y => addE a (szF x f y)) a).2 ∧ (l.foldl (fun a y => addE a (szF x f y)) a).2 ≤ 1025
  | [], a, h1, h2, h3, h4 => ⟨h1, h2, h3, h4⟩
  | y :: r, a, h1, h2, h3, h4 => by
    obtain ⟨b1, b2, b3, b4⟩ := hb y
    exact addE_fold hb hn r _ (by simp only [addE]; omega) (by simp only [addE]; omega) (by simp only [addE]; omega) (by simp only [addE]; omega)
theorem addS_fold {x : Its} {f : Nat} {n : Int} (hb : ∀ y, 0 ≤ (szF x f y).1 ∧ (szF x f y).1 ≤ n ∧ 0 ≤ (szF x f y).2 ∧ (szF x f y).2 ≤ 1025) : ∀ (l : List S) (a : Int × Int), 0 ≤ a.1 → a.1 ≤ 65 → 0 ≤ a.2 → a.2 ≤ 1025 → 0 ≤ (l.foldl (fun a y => addS a (szF x f y)) a).1 ∧ (l.foldl (fun a y => addS a (szF x f y)) a).1 ≤ 65 ∧ 0 ≤ (l.foldl (fun a y => addS a (szF x f y)) a).2 ∧ (l.foldl (fun a y => addS a (szF x f y)) a).2 ≤ 1025
  | [], a, h1, h2, h3, h4 => ⟨h1, h2, h3, h4⟩
  | y :: r, a, h1, h2, h3, h4 => by
    obtain ⟨b1, b2, b3, b4⟩ := hb y
    exact addS_fold hb r _ (by simp only [addS]; omega) (by simp only [addS]; omega) (by simp only [addS]; omega) (by simp only [addS]; omega)
theorem szF_bound (x : Its) : ∀ (f : Nat) (s : S), 0 ≤ (szF x f s).1 ∧ (szF x f s).1 ≤ 65 + f ∧ 0 ≤ (szF x f s).2 ∧ (szF x f s).2 ≤ 1025
  | 0, _ => ⟨Int.le_refl _, by show (0 : Int) ≤ _; omega, Int.le_refl _, by show (0 : Int) ≤ _; omega⟩
  | f + 1, s => by
    have hb := szF_bound x f
    rw [szF]
    split
    · have := addE_fold hb (by omega) (heldM x s).1 (1, 1) (by decide) (by show (1 : Int) ≤ _; omega) (by decide) (by decide)
      omega
    split
    · have := addS_fold hb (heldM x s).1 (0, 1) (by decide) (by decide) (by decide) (by decide)
      omega
    split
    · exact ⟨by decide, by show (0 : Int) ≤ _; omega, by decide, by decide⟩
    · exact ⟨by decide, by show (1 : Int) ≤ _; omega, by decide, by decide⟩
def szM (d : List (S × Int × Int)) : List (D × D) := d.map fun p => (.str p.1, .agg [.int .i64 p.2.1, .int .i64 p.2.2])
theorem szM_keys (d : List (S × Int × Int)) : keysOk 2 (szM d) = true := by
  unfold keysOk szM; rw [List.all_eq_true]
  intro p hp
  obtain ⟨n, _, rfl⟩ := List.mem_map.1 hp
  rfl
theorem szM_find (s : S) : ∀ d : List (S × Int × Int), mfind (.str s) (szM d) = none ∨ ∃ w p, (s, w, p) ∈ d ∧ mfind (.str s) (szM d) = some (.agg [.int .i64 w, .int .i64 p])
  | [] => .inl rfl
  | (n, w, p) :: r => by
    have e : mfind (.str s) (szM ((n, w, p) :: r)) = if s = n then some (.agg [.int .i64 w, .int .i64 p]) else mfind (.str s) (szM r) := by
      show (if eq1 (.str s) (.str n) then _ else mfind _ (szM r)) = _
      rw [eq1_str]; by_cases h : s = n <;> simp [h]
    rw [e]
    by_cases h : s = n
    · subst h; exact .inr ⟨w, p, by simp, if_pos rfl⟩
    · rw [if_neg h]
      rcases szM_find s r with h1 | ⟨w', p', h1, h2⟩
      · exact .inl h1
      · exact .inr ⟨w', p', by simp [h1], h2⟩
theorem szM_set (s : S) (w p : Int) : ∀ d : List (S × Int × Int), ∃ d', mset (.str s) (.agg [.int .i64 w, .int .i64 p]) (szM d) = szM d' ∧ ∀ q ∈ d', q ∈ d ∨ q = (s, w, p)
  | [] => ⟨[(s, w, p)], rfl, fun q hq => .inr (by simpa using hq)⟩
  | (n, v) :: r => by
    have e : mset (.str s) (.agg [.int .i64 w, .int .i64 p]) (szM ((n, v) :: r)) = if s = n then (.str n, .agg [.int .i64 w, .int .i64 p]) :: szM r else (.str n, .agg [.int .i64 v.1, .int .i64 v.2]) :: mset (.str s) (.agg [.int .i64 w, .int .i64 p]) (szM r) := by
      show (if eq1 (.str s) (.str n) then _ else _ :: mset _ _ (szM r)) = _
      rw [eq1_str]; by_cases h : s = n
      · rw [decide_eq_true h]; simp only [if_pos h, if_true]; rfl
      · rw [decide_eq_false h]; simp only [if_neg h]; rfl
    rw [e]
    by_cases h : s = n
    · subst h
      refine ⟨(s, w, p) :: r, if_pos rfl, fun q hq => ?_⟩
      rcases List.mem_cons.1 hq with h | h
      · exact .inr h
      · exact .inl (List.mem_cons_of_mem _ h)
    · obtain ⟨d', h1, h2⟩ := szM_set s w p r
      refine ⟨(n, v) :: d', by rw [if_neg h, h1]; rfl, fun q hq => ?_⟩
      rcases List.mem_cons.1 hq with h | h
      · exact .inl (by simp [h])
      · rcases h2 q h with h | h
        · exact .inl (List.mem_cons_of_mem _ h)
        · exact .inr h
def SzOk (x : Its) (N : Nat) (d : List (S × Int × Int)) : Prop := ∀ q ∈ d, deepOk x N q.1 ∧ q.2 = szF x N q.1
end Go.Vm.Ip
namespace Go.Vm.Ip
inductive Gets (x : Its) (s : S) : S → Prop
  | one {y : S} : y ∈ (heldM x s).1 → Gets x s y
  | step {y z : S} : Gets x s y → z ∈ (heldM x y).1 → Gets x s z
noncomputable def endB (x : Its) (s : S) : Bool := @decide (Gets x s s) (Classical.propDecidable _)
theorem endB_t {x : Its} {s : S} (h : Gets x s s) : endB x s = true := by unfold endB; exact @decide_eq_true _ (Classical.propDecidable _) h
theorem endB_f {x : Its} {s : S} (h : ¬ Gets x s s) : endB x s = false := by unfold endB; exact @decide_eq_false _ (Classical.propDecidable _) h
structure Small (x : Its) : Prop where
  ss : x.ss.length ≤ 64
  es : x.es.length ≤ 64
  sf : ∀ y ∈ x.ss, y.fs.length ≤ 16
  ef : ∀ y ∈ x.es, y.fs.length ≤ 16
theorem held_small {x : Its} (hx : Small x) (s : S) : (heldM x s).1.length ≤ 16 := by
  unfold heldM
  have hS : (nS x).length = x.ss.length := by simp [nS]
  have hE : (nE x).length = x.es.length := by simp [nE]
  split
  · rename_i i hi
    have h := pos_lt hi
    have : x.ss.getD i default ∈ x.ss := by simp [List.getD_eq_getElem?_getD, List.getElem?_eq_getElem (show i < x.ss.length by omega)]
    have := hx.sf _ this
    rw [List.length_map]; exact this
  · split
    · rename_i i hi
      have h := pos_lt hi
      have : x.es.getD i default ∈ x.es := by simp [List.getD_eq_getElem?_getD, List.getElem?_eq_getElem (show i < x.es.length by omega)]
      exact Nat.le_trans (someT_len _) (hx.ef _ this)
    · exact Nat.zero_le _
theorem held_named {x : Its} {s z : S} (h : z ∈ (heldM x s).1) : s ∈ nS x ++ nE x := by
  unfold heldM at h
  split at h
  · rename_i i hi; exact List.mem_append_left _ (pos_mem.2 ⟨i, hi⟩)
  · split at h
    · rename_i i hi; exact List.mem_append_right _ (pos_mem.2 ⟨i, hi⟩)
    · cases h
def owed (x : Its) (seen : List S) : List S → Nat
  | [] => 0
  | n :: r => (if n ∈ seen then 0 else (heldM x n).1.length) + owed x seen r
theorem owed_le (x : Its) (seen : List S) (y : S) : ∀ l : List S, owed x (seen ++ [y]) l ≤ owed x seen l
  | [] => Nat.le_refl _
  | n :: r => by
    have := owed_le x seen y r
    simp only [owed, List.mem_append, List.mem_singleton]
    by_cases h : n ∈ seen
    · simp only [h, true_or, if_true]; omega
    · by_cases h2 : n = y
      · simp only [h2, or_true, if_true]; omega
      · simp only [h, h2, or_self, if_false]; omega
theorem owed_lt (x : Its) {seen : List S} {y : S} (hy : y ∉ seen) : ∀ l : List S, y ∈ l → owed x (seen ++ [y]) l + (heldM x y).1.length ≤ owed x seen l
  | [], h => by cases h
  | n :: r, h => by
    have hle := owed_le x seen y r
    simp only [owed, List.mem_append, List.mem_singleton]
    by_cases e : n = y
    · subst e
      simp only [hy, or_true, if_true, if_false]; omega
    · have hr : y ∈ r := by
        rcases List.mem_cons.1 h with q | q
        · exact absurd q.symm e
        · exact q
      have ih := owed_lt x hy r hr
      by_cases h1 : n ∈ seen
      · simp only [h1, true_or, if_true]; omega
      · simp only [h1, e, or_self, if_false]; omega
theorem owed_see (x : Its) {seen : List S} {y : S} (hy : y ∉ seen) : owed x (seen ++ [y]) (nS x ++ nE x) + (heldM x y).1.length ≤ owed x seen (nS x ++ nE x) := by
  by_cases h : (heldM x y).1 = []
  · rw [h]; exact owed_le x seen y _
  · obtain ⟨z, hz⟩ := List.exists_mem_of_ne_nil _ h
    exact owed_lt x hy _ (held_named hz)
theorem owed_bound {x : Its} (hx : Small x) (seen : List S) : ∀ l : List S, owed x seen l ≤ 16 * l.length
  | [] => Nat.le_refl _
  | n :: r => by
    have := owed_bound hx seen r
    have := held_small hx n
    simp only [owed, List.length_cons]
    split <;> omega
structure Srch (x : Its) (s : S) (seen todo : List S) : Prop where
  r1 : ∀ y ∈ seen, Gets x s y
  r2 : ∀ y ∈ todo, Gets x s y
  c0 : ∀ z ∈ (heldM x s).1, z ∈ seen ∨ z ∈ todo
  c1 : ∀ y ∈ seen, ∀ z ∈ (heldM x y).1, z ∈ seen ∨ z ∈ todo
  no : s ∉ seen
theorem Srch.start (x : Its) (s : S) : Srch x s [] (heldM x s).1 := ⟨by simp, fun _ h => .one h, fun _ h => .inr h, by simp, by simp⟩
theorem Srch.end {x : Its} {s : S} {seen : List S} (h : Srch x s seen []) : ¬ Gets x s s := by
  have key : ∀ y, Gets x s y → y ∈ seen := by
    intro y hy
    induction hy with
    | one hz => exact (h.c0 _ hz).resolve_right (by simp)
    | step _ hz ih => exact (h.c1 _ ih _ hz).resolve_right (by simp)
  exact fun hr => h.no (key s hr)
theorem Srch.old {x : Its} {s y : S} {seen todo : List S} (h : Srch x s seen (todo ++ [y])) (hy : y ∈ seen) : Srch x s seen todo := by
  refine ⟨h.r1, fun z hz => h.r2 z (List.mem_append_left _ hz), fun z hz => ?_, fun u hu z hz => ?_, h.no⟩
  · rcases h.c0 z hz with q | q
    · exact .inl q
    · rcases List.mem_append.1 q with q | q
      · exact .inr q
      · rw [List.mem_singleton] at q; exact .inl (q ▸ hy)
  · rcases h.c1 u hu z hz with q | q
    · exact .inl q
    · rcases List.mem_append.1 q with q | q
      · exact .inr q
      · rw [List.mem_singleton] at q; exact .inl (q ▸ hy)
theorem Srch.new {x : Its} {s y : S} {seen todo : List S} (h : Srch x s seen (todo ++ [y])) (hys : y ≠ s) : Srch x s (seen ++ [y]) (todo ++ (heldM x y).1) := by
  have ry : Gets x s y := h.r2 y (by simp)
  have mv : ∀ z, z ∈ seen ∨ z ∈ todo ++ [y] → z ∈ seen ++ [y] ∨ z ∈ todo ++ (heldM x y).1 := fun z hz => by
    simp only [List.mem_append, List.mem_singleton] at hz ⊢
    rcases hz with q | q | q
    · exact .inl (.inl q)
    · exact .inr (.inl q)
    · exact .inl (.inr q)
  refine ⟨fun z hz => ?_, fun z hz => ?_, fun z hz => mv z (h.c0 z hz), fun u hu z hz => ?_, ?_⟩
  · rcases List.mem_append.1 hz with q | q
    · exact h.r1 z q
    · rw [List.mem_singleton] at q; exact q ▸ ry
  · rcases List.mem_append.1 hz with q | q
    · exact h.r2 z (List.mem_append_left _ q)
    · exact .step ry q
  · rcases List.mem_append.1 hu with q | q
    · exact mv z (h.c1 u q z hz)
    · rw [List.mem_singleton] at q
      exact .inr (List.mem_append_right _ (q ▸ hz))
  · intro hm
    rcases List.mem_append.1 hm with q | q
    · exact h.no q
    · rw [List.mem_singleton] at q; exact hys q.symm
end Go.Vm.Ip
namespace Go.Vm.Ip
open Go.Vm.Lex
def namB (kn : S → Bool) (en : Bool) : List S → List Nam → Bool
  | _, [] => true
  | seen, y :: r => nameB y.n && !decide (y.n ∈ seen) && (!en || decide (y.fs ≠ [])) && (lstB (rt kn false) en [] y.fs && decide ((y.fs.length : Int) ≤ 16)) && namB kn en (seen ++ [y.n]) r
end Go.Vm.Ip
namespace Go.Vm.Ip
theorem not_deep {x : Its} : ∀ (f : Nat) (s : S), ¬ deepOk x f s → ∃ l : List S, l.length = f ∧ ∀ (i : Nat) (a b : S), (s :: l)[i]? = some a → (s :: l)[i + 1]? = some b → b ∈ (heldM x a).1
  | 0, s, _ => ⟨[], rfl, fun i a b _ h => by simp at h⟩
  | f + 1, s, h => by
    have h' : ∃ y, y ∈ (heldM x s).1 ∧ ¬ deepOk x f y := Classical.byContradiction fun hc => h fun y hy => Classical.byContradiction fun hd => hc ⟨y, hy, hd⟩
    obtain ⟨y, hy, hd⟩ := h'
    obtain ⟨l, h1, h2⟩ := not_deep f y hd
    refine ⟨y :: l, by simp [h1], fun i a b ha hb => ?_⟩
    cases i with
    | zero =>
      simp at ha hb
      subst ha hb
      exact hy
    | succ i => exact h2 i a b (by simpa using ha) (by simpa using hb)
theorem chain_gets {x : Its} {c : List S} (hc : ∀ (i : Nat) (a b : S), c[i]? = some a → c[i + 1]? = some b → b ∈ (heldM x a).1) {i : Nat} {a : S} (ha : c[i]? = some a) : ∀ (k : Nat) (b : S), c[i + 1 + k]? = some b → Gets x a b
  | 0, b, hb => .one (hc i a b ha hb)
  | k + 1, b, hb => by
    have hlt := (List.getElem?_eq_some_iff.1 hb).1
    obtain ⟨m, hm⟩ : ∃ m, c[i + 1 + k]? = some m := ⟨_, List.getElem?_eq_getElem (by omega)⟩
    exact .step (chain_gets hc ha k m hm) (hc (i + 1 + k) m b hm hb)
theorem deep_of {x : Its} (h : ∀ s ∈ nS x ++ nE x, ¬ Gets x s s) (s : S) : deepOk x ((nS x ++ nE x).length + 1) s := by
  refine Classical.byContradiction fun hd => ?_
  obtain ⟨l, hl, hc⟩ := not_deep _ s hd
  have hlen : (s :: l).length = (nS x ++ nE x).length + 2 := by simp [hl]
  have hsub : ((s :: l).take ((nS x ++ nE x).length + 1)) ⊆ nS x ++ nE x := by
    intro a ha
    obtain ⟨i, hi, he⟩ := List.getElem_of_mem ha
    simp only [List.length_take] at hi
    have h1 : (s :: l)[i]? = some a := by
      rw [List.getElem_take] at he
      rw [List.getElem?_eq_getElem (by omega), he]
    have h2 : (s :: l)[i + 1]? = some ((s :: l)[i + 1]'(by omega)) := List.getElem?_eq_getElem _
    exact held_named (hc i _ _ h1 h2)
  have hnd : ¬ ((s :: l).take ((nS x ++ nE x).length + 1)).Nodup := fun hn => by
    have := List.Nodup.length_le_of_subset hn hsub
    simp only [List.length_take] at this
    omega
  refine hnd ?_
  rw [List.nodup_iff_pairwise_ne, List.pairwise_iff_getElem]
  intro i j hi hj hij e
  simp only [List.length_take] at hi hj
  rw [List.getElem_take, List.getElem_take] at e
  have h1 : (s :: l)[i]? = some ((s :: l)[i]'(by omega)) := List.getElem?_eq_getElem _
  have h2 : (s :: l)[i + 1 + (j - i - 1)]? = some ((s :: l)[j]'(by omega)) := by
    rw [show i + 1 + (j - i - 1) = j by omega]; exact List.getElem?_eq_getElem _
  have hg := chain_gets hc h1 (j - i - 1) _ h2
  rw [← e] at hg
  have h3 : (s :: l)[i + 1]? = some ((s :: l)[i + 1]'(by omega)) := List.getElem?_eq_getElem _
  exact h _ (held_named (hc i _ _ h1 h3)) hg
end Go.Vm.Ip
namespace Go.Vm.Ip
def bigB (v : Int × Int) : Bool := decide (v.1 > 64) || decide (v.2 > 1024)
def deepN (x : Its) : Nat := (nS x ++ nE x).length + 1
noncomputable def chkB (x : Its) : Bool := decide (x.ss.length ≤ 64) && decide (x.es.length ≤ 64) && decide (x.fs.length ≤ 64) && namB (kn x) false [] x.ss && namB (kn x) true (nS x) x.es && (nS x ++ nE x).all (fun s => !endB x s) && (nS x ++ nE x).all (fun s => !bigB (szF x (deepN x) s)) && fnsB (kn x) x
theorem namB_len {kn : S → Bool} {en : Bool} : ∀ {seen : List S} {l : List Nam}, namB kn en seen l = true → ∀ y ∈ l, y.fs.length ≤ 16
  | _, [], _, y, hy => by cases hy
  | seen, z :: r, h, y, hy => by
    simp only [namB, Bool.and_eq_true, decide_eq_true_eq] at h
    rcases List.mem_cons.1 hy with q | q
    · subst q; have := h.1.2.2; omega
    · exact namB_len h.2 y q
end Go.Vm.Ip
namespace Go.Vm.Ip
theorem map_inj {α : Type} {f : α → D} (h : ∀ a b, f a = f b → a = b) : ∀ {l m : List α}, l.map f = m.map f → l = m
  | [], [], _ => rfl
  | [], b :: m, e => by simp at e
  | a :: l, [], e => by simp at e
  | a :: l, b :: m, e => by
    simp only [List.map_cons, List.cons.injEq] at e
    rw [h a b e.1, map_inj h e.2]
theorem Fld.D_inj (a b : Fld) (h : a.D = b.D) : a = b := by
  cases a; cases b
  simp only [Fld.D, D.agg.injEq, List.cons.injEq, D.str.injEq, and_true] at h
  rw [h.1, h.2]
theorem Nam.D_inj (a b : Nam) (h : a.D = b.D) : a = b := by
  cases a; cases b
  simp only [Nam.D, fldsD, D.agg.injEq, List.cons.injEq, D.str.injEq, D.sl.injEq, and_true] at h
  rw [h.1, map_inj Fld.D_inj h.2]
theorem Fnc.D_inj (a b : Fnc) (h : a.D = b.D) : a = b := by
  cases a; cases b
  simp only [Fnc.D, fldsD, D.agg.injEq, List.cons.injEq, D.str.injEq, D.sl.injEq, D.int.injEq, true_and, and_true] at h
  rw [h.1, map_inj Fld.D_inj h.2.1, map_inj (fun a b e => by cases e; rfl) h.2.2.1, h.2.2.2.1, h.2.2.2.2]
theorem Its.D_inj (a b : Its) (h : a.D = b.D) : a = b := by
  cases a; cases b
  simp only [Its.D, D.agg.injEq, List.cons.injEq, D.sl.injEq, and_true] at h
  rw [map_inj Nam.D_inj h.1, map_inj Nam.D_inj h.2.1, map_inj Fnc.D_inj h.2.2]
open Classical in
noncomputable def primChk (a : List V) (h : Hp) : Option (V × Hp) := match a with
  | [.d d] => if e : ∃ x : Its, Fine x ∧ d = x.D then some (.d (.int .i64 (if chkB e.choose then 0 else 7)), h) else none
  | _ => none
theorem primChk_of {x : Its} (hx : Fine x) (h : Hp) : primChk [.d x.D] h = some (.d (.int .i64 (if chkB x then 0 else 7)), h) := by
  have e : ∃ y : Its, Fine y ∧ x.D = y.D := ⟨x, hx, rfl⟩
  refine (dif_pos e).trans ?_
  have : e.choose = x := (Its.D_inj _ _ e.choose_spec.2).symm
  rw [this]
theorem primChk_some {a : List V} {h h' : Hp} {r : V} (e : primChk a h = some (r, h')) : ∃ x : Its, Fine x ∧ a = [.d x.D] ∧ r = .d (.int .i64 (if chkB x then 0 else 7)) ∧ h' = h := by
  unfold primChk at e
  split at e
  · rename_i d
    split at e
    · rename_i hh
      cases e
      exact ⟨hh.choose, hh.choose_spec.1, by rw [← hh.choose_spec.2], rfl, rfl⟩
    · cases e
  · cases e
end Go.Vm.Ip
