import Derived.Test.YtbaoljbcdjdnlaaGreatDoorTreP
import Derived.Lib.ItoaLen
import Derived.Lib.Join
import Derived.Lib.IndexLaws
set_option linter.unusedSimpArgs false
set_option linter.unusedVariables false
namespace Go.Vm.Tp
def upKids (i : Nat) : List Int → List Int → Option (List Int)
  | [], out => some out
  | k :: r, out => if 0 ≤ out.getD k.toNat 0 then none else upKids i r (out.set k.toNat i)
def upAll : Nat → List Nd → List Int → Option (List Int)
  | _, [], out => some out
  | i, x :: r, out => (upKids i x.kids out).bind (upAll (i + 1) r)
def ups (t : List Nd) : Option (List Int) := upAll 0 t (List.replicate t.length (-1))
def depGo (up : List Int) : Nat → List Int → List Int
  | 0, out => out
  | n + 1, out => depGo up n (if 0 ≤ up.getD n (-1) then out.set n (out.getD (up.getD n 0).toNat 0 + 1) else out)
def deps (up : List Int) : List Int := depGo up up.length (List.replicate up.length 0)
def maxL : List Int → Int
  | [] => 0
  | a :: r => r.foldl max a
def upOk (t : List Nd) : Bool := match ups t with
  | none => false
  | some up => (decide (up = []) || !up.dropLast.contains (-1)) && decide (maxL (deps up) ≤ 400)
def checkB (t : List Nd) : Bool := decide (1 ≤ t.length) && decide (t.length ≤ 20000) && decide ((t.getD (t.length - 1) default).k = 1) && (List.range t.length).all (nodeB t) && upOk t
def errT : Bool → Int
  | true => 0
  | false => 3
theorem upKids_len (i : Nat) : ∀ (ks out r : List Int), upKids i ks out = some r → r.length = out.length
  | [], out, r, h => by cases h; rfl
  | k :: ks, out, r, h => by
    simp only [upKids] at h
    split at h
    · cases h
    · rw [upKids_len i ks _ r h, List.length_set]
theorem upAll_len : ∀ (i : Nat) (t : List Nd) (out r : List Int), upAll i t out = some r → r.length = out.length
  | i, [], out, r, h => by cases h; rfl
  | i, x :: t, out, r, h => by
    simp only [upAll] at h
    obtain ⟨o, h1, h2⟩ := Option.bind_eq_some_iff.1 h
    rw [upAll_len (i + 1) t o r h2, upKids_len i _ _ _ h1]
theorem upKids_get (i : Nat) (P : Nat → Int → Prop) (hP : ∀ j, P j i) : ∀ (ks out r : List Int), upKids i ks out = some r → (∀ (j : Nat) (v : Int), out[j]? = some v → P j v) → ∀ (j : Nat) (v : Int), r[j]? = some v → P j v
  | [], out, r, h, h0 => by cases h; exact h0
  | k :: ks, out, r, h, h0 => by
    simp only [upKids] at h
    split at h
    · cases h
    · refine upKids_get i P hP ks _ r h fun j v hv => ?_
      rw [List.getElem?_set] at hv
      split at hv
      · split at hv
        · cases hv; exact hP j
        · cases hv
      · exact h0 j v hv
theorem upAll_rng (n : Nat) : ∀ (i : Nat) (t : List Nd) (out r : List Int), upAll i t out = some r → i + t.length ≤ n → (∀ (j : Nat) (v : Int), out[j]? = some v → -1 ≤ v ∧ v < n) → ∀ (j : Nat) (v : Int), r[j]? = some v → -1 ≤ v ∧ v < n
  | i, [], out, r, h, _, h0 => by cases h; exact h0
  | i, x :: t, out, r, h, hn, h0 => by
    simp only [upAll] at h
    obtain ⟨o, h1, h2⟩ := Option.bind_eq_some_iff.1 h
    simp only [List.length_cons] at hn
    exact upAll_rng n (i + 1) t o r h2 (by omega) (upKids_get i (fun _ v => -1 ≤ v ∧ v < n) (fun _ => by omega) _ _ _ h1 h0)
theorem ups_facts {t : List Nd} {up : List Int} (h : ups t = some up) : up.length = t.length ∧ ∀ (j : Nat) (v : Int), up[j]? = some v → -1 ≤ v ∧ v < t.length := by
  refine ⟨by rw [upAll_len _ _ _ _ h, List.length_replicate], upAll_rng t.length 0 t _ up h (by omega) fun j v hv => ?_⟩
  rw [List.getElem?_replicate] at hv
  split at hv
  · cases hv; omega
  · cases hv
theorem depGo_len (up : List Int) : ∀ (n : Nat) (out : List Int), (depGo up n out).length = out.length
  | 0, out => rfl
  | n + 1, out => by
    simp only [depGo]
    rw [depGo_len up n]
    split <;> simp
end Go.Vm.Tp
namespace Go.Vm.Tp
open Go.Vm.Lex
abbrev Toks := List (List UInt8)
def lstT (N : Int → Toks) : List Int → Toks
  | [] => []
  | k :: r => N k ++ r.flatMap fun k => [44] :: N k
def simK (k : Int) (get : Bool) : Bool := (decide (30 ≤ k) && decide (k ≤ 34)) || decide (k = 37) || decide (k = 44) || (get && decide (k = 41))
def opdT (t : List Nd) (N : Int → Toks) (k : Int) (get : Bool) : Toks := if simK (kindAt t k) get = true then N k else [[40]] ++ N k ++ [[41]]
def perT (N : Int → Toks) : List Int → Toks
  | [] => []
  | k :: _ => [[40]] ++ N k ++ [[41]]
abbrev kid (x : Nd) (i : Nat) : Int := x.kids.getD i 0
def fnT (t : List Nd) (N : Int → Toks) (x : Nd) : Toks :=
  [[102, 110], x.t, [40]] ++ lstT N (x.kids.take x.v.toNat) ++ [[41]] ++ (if kindAt t (kid x x.v.toNat) = 12 then [] else [[45, 62]] ++ N (kid x x.v.toNat)) ++ N (kid x (x.v.toNat + 1))
def itemT (t : List Nd) (N : Int → Toks) (x : Nd) : Toks :=
  if x.k = 1 then x.kids.flatMap N
  else if x.k = 2 then fnT t N x
  else if x.k = 3 then [[115, 116, 114, 117, 99, 116], x.t, [123]] ++ lstT N x.kids ++ [[125]]
  else if x.k = 4 then [[101, 110, 117, 109], x.t, [123]] ++ lstT N x.kids ++ [[125]]
  else if x.k = 6 then [x.t] ++ perT N x.kids
  else if x.k = 7 then (if x.v = 1 then [[109, 117, 116]] else []) ++ [x.t, [58]] ++ N (kid x 0)
  else if x.k = 5 then [x.t, [58]] ++ N (kid x 0)
  else []
def typT (N : Int → Toks) (x : Nd) : Toks :=
  if x.k = 10 then [[105, 54, 52]]
  else if x.k = 11 then [[98, 111, 111, 108]]
  else if x.k = 12 then [[40], [41]]
  else if x.k = 13 then [x.t]
  else if x.k = 14 then [[38]] ++ N (kid x 0)
  else if x.k = 15 then [[38], [109, 117, 116]] ++ N (kid x 0)
  else if x.k = 16 then [[66, 111, 120], [60]] ++ N (kid x 0) ++ [[62]]
  else []
def letT (N : Int → Toks) (x : Nd) : Toks :=
  [[108, 101, 116]] ++ (if x.v = 1 then [[109, 117, 116]] else []) ++ [x.t] ++ (if x.kids.length = 2 then [[58]] ++ N (kid x 0) else []) ++ [[61]] ++ N (kid x (x.kids.length - 1)) ++ [[59]]
def stmtT (t : List Nd) (N : Int → Toks) (x : Nd) : Toks :=
  if x.k = 21 then letT N x
  else if x.k = 22 then N (kid x 0) ++ [[59]]
  else if x.k = 23 then opdT t N (kid x 0) false ++ [[61]] ++ opdT t N (kid x 1) false ++ [[59]]
  else if x.k = 24 then [[119, 104, 105, 108, 101]] ++ opdT t N (kid x 0) false ++ N (kid x 1)
  else if x.k = 25 then [[114, 101, 116, 117, 114, 110]] ++ x.kids.flatMap N ++ [[59]]
  else if x.k = 26 then [[98, 114, 101, 97, 107], [59]]
  else if x.k = 27 then [[99, 111, 110, 116, 105, 110, 117, 101], [59]]
  else []
def exprT (t : List Nd) (N : Int → Toks) (x : Nd) : Toks :=
  if x.k = 38 then opdT t N (kid x 0) false ++ [x.t] ++ opdT t N (kid x 1) false
  else if x.k = 39 then [[45]] ++ opdT t N (kid x 0) false
  else if x.k = 40 then [[33]] ++ opdT t N (kid x 0) false
  else if x.k = 42 then [[42]] ++ opdT t N (kid x 0) false
  else if x.k = 43 then (if x.v = 1 then [[38], [109, 117, 116]] else [[38]]) ++ opdT t N (kid x 0) false
  else if x.k = 41 then opdT t N (kid x 0) true ++ [[46], x.t]
  else if x.k = 45 then [[105, 102]] ++ opdT t N (kid x 0) false ++ N (kid x 1) ++ (if x.kids.length = 3 then [[101, 108, 115, 101]] ++ N (kid x 2) else [])
  else if x.k = 46 then [[109, 97, 116, 99, 104]] ++ opdT t N (kid x 0) false ++ [[123]] ++ lstT N (x.kids.drop 1) ++ [[125]]
  else []
def numT (v : Int) : Toks := (if v < 0 then [[45]] else []) ++ [Lib.itoa (if v < 0 then -v else v)]
def truT (v : Int) : Toks := [if v = 1 then [116, 114, 117, 101] else [102, 97, 108, 115, 101]]
def namT (s : List UInt8) : Toks := [(cutT s).1, [58, 58], (cutT s).2.1]
def primT (N : Int → Toks) (x : Nd) : Toks :=
  if x.k = 30 ∨ x.k = 52 then numT x.v
  else if x.k = 31 ∨ x.k = 53 then truT x.v
  else if x.k = 32 then [[40], [41]]
  else if x.k = 33 ∨ x.k = 51 then [x.t]
  else if x.k = 50 then [[95]]
  else if x.k = 34 then [x.t, [40]] ++ lstT N x.kids ++ [[41]]
  else if x.k = 35 then [x.t, [123]] ++ lstT N x.kids ++ [[125]]
  else if x.k = 36 then [x.t, [58]] ++ N (kid x 0)
  else if x.k = 37 ∨ x.k = 54 then namT x.t ++ perT N x.kids
  else if x.k = 44 then [[66, 111, 120], [58, 58], [110, 101, 119]] ++ perT N x.kids
  else if x.k = 47 then N (kid x 0) ++ [[61, 62]] ++ N (kid x 1)
  else []
def bodyT (t : List Nd) (N : Int → Toks) (x : Nd) : Toks :=
  if x.k = 20 then [[123]] ++ x.kids.flatMap N ++ [[125]]
  else if x.k ≤ 7 then itemT t N x
  else if isTy x.k = true then typT N x
  else if isSt x.k = true then stmtT t N x
  else if (38 ≤ x.k ∧ x.k ≤ 43) ∨ x.k = 45 ∨ x.k = 46 then exprT t N x
  else primT N x
def prN (t : List Nd) : Nat → Nat → Toks
  | 0, _ => []
  | f + 1, n => bodyT t (fun k => prN t f k.toNat) (t.getD n default)
def prT (t : List Nd) : Toks := prN t t.length (t.length - 1)
theorem lstT_take (N : Int → Toks) (l : List Int) (j : Nat) (h : j < l.length) : lstT N (l.take (j + 1)) = lstT N (l.take j) ++ (if j = 0 then [] else [[44]]) ++ N (l.getD j 0) := by
  cases l with
  | nil => simp at h
  | cons a r =>
    cases j with
    | zero => simp [lstT]
    | succ j =>
      have hj : j < r.length := by simpa using h
      simp only [List.take_succ_cons, lstT, List.getD_cons_succ]
      rw [List.take_add_one, List.getElem?_eq_getElem hj, List.flatMap_append]
      simp [hj]
theorem flat_take (N : Int → Toks) (l : List Int) (j : Nat) (h : j < l.length) : (l.take (j + 1)).flatMap N = (l.take j).flatMap N ++ N (l.getD j 0) := by
  rw [List.take_add_one, List.getElem?_eq_getElem h, List.flatMap_append]
  simp [h]
def minS : List UInt8 → Nat
  | [] => 0
  | [_] => 1
  | c :: d :: s => if c = 63 then minS s else minS (d :: s) + 1
def maxS : List UInt8 → Nat
  | [] => 0
  | [_] => 1
  | c :: d :: s => if c = 63 then maxS s + 1 else maxS (d :: s) + 1
theorem kidsB_len : ∀ (s : List UInt8) (l : List Int), kidsB s l = true → minS s ≤ l.length ∧ l.length ≤ maxS s
  | [], l, h => by simp [kidsB] at h; subst h; simp [minS, maxS]
  | [c], l, h => by
    cases l with
    | nil => simp [kidsB] at h
    | cons a r => simp [kidsB] at h; obtain ⟨_, rfl⟩ := h; simp [minS, maxS]
  | c :: d :: s, l, h => by
    simp only [kidsB] at h
    simp only [minS, maxS]
    split at h
    · rename_i hc
      rw [if_pos hc, if_pos hc]
      rw [Bool.or_eq_true] at h
      rcases h with h | h
      · cases l with
        | nil => cases h
        | cons a r =>
          simp only [Bool.and_eq_true] at h
          have := kidsB_len s r h.2
          simp only [List.length_cons]; omega
      · have := kidsB_len s l h; omega
    · rename_i hc
      rw [if_neg hc, if_neg hc]
      cases l with
      | nil => cases h
      | cons a r =>
        simp only [Bool.and_eq_true] at h
        have := kidsB_len (d :: s) r h.2
        simp only [List.length_cons]; omega
def lenOk (k : Int) (n : Nat) : Prop :=
  (k = 2 → 2 ≤ n) ∧ (k = 5 ∨ k = 7 ∨ k = 14 ∨ k = 15 ∨ k = 16 ∨ k = 22 ∨ k = 36 ∨ k = 41 ∨ k = 39 ∨ k = 40 ∨ k = 42 ∨ k = 44 ∨ k = 43 → n = 1) ∧ (k = 6 ∨ k = 25 ∨ k = 37 ∨ k = 54 → n ≤ 1) ∧ (k = 21 → n = 1 ∨ n = 2) ∧ (k = 23 ∨ k = 38 ∨ k = 24 ∨ k = 47 → n = 2) ∧ (k = 45 → n = 2 ∨ n = 3) ∧ (k = 46 → 1 ≤ n)
theorem fits_len {k v : Int} {ks : List Int} (h : fitsB k v ks = true) : lenOk k ks.length := by
  have one : ∀ a, shapeP k v = (a, none, []) → minS a ≤ ks.length ∧ ks.length ≤ maxS a := by
    intro a ha
    unfold fitsB at h
    rw [ha] at h
    exact kidsB_len a ks h
  have many : ∀ a c b, shapeP k v = (a, some c, b) → a.length + b.length ≤ ks.length := by
    intro a c b ha
    unfold fitsB at h
    rw [ha] at h
    simp only [Bool.and_eq_true, decide_eq_true_eq] at h
    exact h.1
  refine ⟨?_, ?_, ?_, ?_, ?_, ?_, ?_⟩
  · rintro rfl; exact many [] 113 [116, 98] rfl
  · rintro (rfl | rfl | rfl | rfl | rfl | rfl | rfl | rfl | rfl | rfl | rfl | rfl | rfl)
    all_goals first
      | (have := one [116] rfl; simp [minS, maxS] at this; omega)
      | (have := one [101] rfl; simp [minS, maxS] at this; omega)
  · rintro (rfl | rfl | rfl | rfl)
    · have := one [63, 116] rfl; simp [minS, maxS] at this; omega
    · have := one [63, 101] rfl; simp [minS, maxS] at this; omega
    · have := one [63, 101] rfl; simp [minS, maxS] at this; omega
    · have := one [63, 112] rfl; simp [minS, maxS] at this; omega
  · rintro rfl; have := one [63, 116, 101] rfl; simp [minS, maxS] at this; omega
  · rintro (rfl | rfl | rfl | rfl)
    · have := one [101, 101] rfl; simp [minS, maxS] at this; omega
    · have := one [101, 101] rfl; simp [minS, maxS] at this; omega
    · have := one [101, 98] rfl; simp [minS, maxS] at this; omega
    · have := one [112, 101] rfl; simp [minS, maxS] at this; omega
  · rintro rfl; have := one [101, 98, 63, 111] rfl; simp [minS, maxS] at this; omega
  · rintro rfl; exact many [101] 97 [] rfl
end Go.Vm.Tp
namespace Go.Vm.Tp
open Go.Vm.Lex
structure Up (t : List Nd) (up : List Int) : Prop where
  len : up.length = t.length
  kid : ∀ i, i < t.length → ∀ k ∈ (t.getD i default).kids, 0 ≤ k ∧ k < i ∧ up.getD k.toNat (-1) = i
  nod : ∀ i, i < t.length → (t.getD i default).kids.Nodup
theorem upKids_kept (i : Nat) : ∀ (ks out r : List Int), upKids i ks out = some r → (∀ k ∈ ks, 0 ≤ k ∧ k < out.length) →
    (∀ j : Nat, 0 ≤ out.getD j (-1) → r.getD j (-1) = out.getD j (-1)) ∧ (∀ k ∈ ks, r.getD k.toNat (-1) = i ∧ ¬ 0 ≤ out.getD k.toNat (-1)) ∧ ks.Nodup
  | [], out, r, h, _ => by cases h; exact ⟨fun _ _ => rfl, by simp, List.nodup_nil⟩
  | k :: ks, out, r, h, hk => by
    simp only [upKids] at h
    split at h
    · cases h
    rename_i hc
    have hk0 := hk k (by simp)
    have hlt : k.toNat < out.length := by omega
    have e0 : out.getD k.toNat 0 = out.getD k.toNat (-1) := by simp [hlt]
    rw [e0] at hc
    obtain ⟨h1, h2, h3⟩ := upKids_kept i ks _ r h (by intro k' h'; rw [List.length_set]; exact hk k' (by simp [h']))
    have es : (out.set k.toNat (i : Int)).getD k.toNat (-1) = i := by simp [hlt]
    have hki : r.getD k.toNat (-1) = i := by
      rw [h1 k.toNat (by rw [es]; omega), es]
    refine ⟨fun j hj => ?_, fun k' h' => ?_, ?_⟩
    · by_cases hjk : k.toNat = j
      · subst hjk; exact absurd hj hc
      · have : (out.set k.toNat (i : Int)).getD j (-1) = out.getD j (-1) := by simp [List.getD_eq_getElem?_getD, hjk]
        rw [h1 j (by rw [this]; exact hj), this]
    · rcases List.mem_cons.1 h' with rfl | h'
      · exact ⟨hki, hc⟩
      · refine ⟨(h2 k' h').1, fun hp => (h2 k' h').2 ?_⟩
        by_cases hjk : k.toNat = k'.toNat
        · rw [← hjk, es]; omega
        · have : (out.set k.toNat (i : Int)).getD k'.toNat (-1) = out.getD k'.toNat (-1) := by simp [List.getD_eq_getElem?_getD, hjk]
          rw [this]; exact hp
    · refine List.nodup_cons.2 ⟨fun hm => (h2 k hm).2 ?_, h3⟩
      rw [es]; omega
theorem upAll_kept (n : Nat) : ∀ (i : Nat) (t : List Nd) (out r : List Int), upAll i t out = some r → out.length = n → (∀ j, j < t.length → ∀ k ∈ (t.getD j default).kids, 0 ≤ k ∧ k < n) →
    (∀ j : Nat, 0 ≤ out.getD j (-1) → r.getD j (-1) = out.getD j (-1)) ∧ ∀ j, j < t.length → (∀ k ∈ (t.getD j default).kids, r.getD k.toNat (-1) = (i + j : Nat)) ∧ (t.getD j default).kids.Nodup
  | i, [], out, r, h, _, _ => by cases h; exact ⟨fun _ _ => rfl, fun j hj => absurd hj (Nat.not_lt_zero _)⟩
  | i, x :: t, out, r, h, hn, hk => by
    simp only [upAll] at h
    obtain ⟨o, h1, h2⟩ := Option.bind_eq_some_iff.1 h
    have hx := hk 0 (by simp)
    simp only [List.getD_cons_zero] at hx
    obtain ⟨a1, a2, a3⟩ := upKids_kept i x.kids out o h1 (by intro k hk; have := hx k hk; omega)
    obtain ⟨b1, b2⟩ := upAll_kept n (i + 1) t o r h2 (by rw [upKids_len i _ _ _ h1]; exact hn) (fun j hj => by have := hk (j + 1) (by simpa using hj); simpa using this)
    refine ⟨fun j hj => ?_, fun j hj => ?_⟩
    · have := a1 j hj
      rw [b1 j (by rw [this]; exact hj), this]
    · cases j with
      | zero =>
        refine ⟨fun k hk => ?_, a3⟩
        have := (a2 k hk).1
        rw [b1 _ (by rw [this]; omega), this]; rfl
      | succ j =>
        obtain ⟨c1, c2⟩ := b2 j (by simpa using hj)
        refine ⟨fun k hk => ?_, c2⟩
        rw [c1 k hk]; congr 1; omega
theorem up_of {t : List Nd} {up : List Int} (h : ups t = some up) (hk : ∀ i, i < t.length → ∀ k ∈ (t.getD i default).kids, 0 ≤ k ∧ k < i) : Up t up := by
  have hl := (ups_facts h).1
  obtain ⟨_, h2⟩ := upAll_kept t.length 0 t _ up h (by simp) (fun j hj k hm => by have := hk j hj k hm; omega)
  refine ⟨hl, fun i hi k hm => ?_, fun i hi => (h2 i hi).2⟩
  obtain ⟨a, b⟩ := hk i hi k hm
  exact ⟨a, b, by rw [(h2 i hi).1 k hm]; simp⟩
def sumB (f : Nat → Nat) : Nat → Nat
  | 0 => 0
  | n + 1 => sumB f n + f n
theorem sumB_le {f g : Nat → Nat} : ∀ n, (∀ i, i < n → f i ≤ g i) → sumB f n ≤ sumB g n
  | 0, _ => Nat.le_refl _
  | n + 1, h => Nat.add_le_add (sumB_le n fun i hi => h i (by omega)) (h n (by omega))
theorem sumB_add (f g : Nat → Nat) : ∀ n, sumB (fun i => f i + g i) n = sumB f n + sumB g n
  | 0 => rfl
  | n + 1 => by simp only [sumB, sumB_add f g n]; omega
theorem sumB_zero (n : Nat) : sumB (fun _ => 0) n = 0 := by
  induction n with
  | zero => rfl
  | succ n ih => simp only [sumB, ih]
theorem sumB_one (w k : Nat) : ∀ n, k < n → sumB (fun j => if j = k then w else 0) n = w
  | 0, h => absurd h (Nat.not_lt_zero _)
  | n + 1, h => by
    simp only [sumB]
    by_cases hk : k = n
    · subst hk
      rw [if_pos rfl]
      have : sumB (fun j => if j = k then w else 0) k = 0 := by
        have h1 := sumB_le (f := fun j => if j = k then w else 0) (g := fun _ => 0) k (fun i hi => by rw [if_neg (by omega)]; exact Nat.le_refl _)
        rw [sumB_zero] at h1; omega
      omega
    · rw [sumB_one w k n (by omega), if_neg (fun e => hk e.symm)]; rfl
theorem sum_nodup (W : Nat → Nat) (n : Nat) : ∀ l : List Nat, l.Nodup → (∀ k ∈ l, k < n) → (l.map W).sum = sumB (fun j => if j ∈ l then W j else 0) n
  | [], _, _ => by simp only [List.map_nil, List.sum_nil, List.not_mem_nil, if_false]; exact (sumB_zero n).symm
  | k :: l, hd, hn => by
    rw [List.nodup_cons] at hd
    simp only [List.map_cons, List.sum_cons]
    rw [sum_nodup W n l hd.2 (fun k h => hn k (by simp [h])), ← sumB_one (W k) k n (hn k (by simp)), ← sumB_add]
    congr 1
    funext j
    by_cases hj : j = k
    · subst hj
      simp [hd.1]
    · simp [hj]
theorem weigh {t : List Nd} {up : List Int} (hu : Up t up) (K W : Nat → Nat) (hW : ∀ i, i < t.length → W i ≤ K i + ((t.getD i default).kids.map fun k => W k.toNat).sum) :
    ∀ n, n ≤ t.length → sumB (fun j => if 0 ≤ up.getD j (-1) ∧ up.getD j (-1) < n then 0 else W j) n ≤ sumB K n
  | 0, _ => Nat.le_refl _
  | n + 1, hn => by
    have ih := weigh hu K W hW n (by omega)
    have hk := hu.kid n (by omega)
    have hnd := hu.nod n (by omega)
    have hWn := hW n (by omega)
    have hl : ((t.getD n default).kids.map Int.toNat).Nodup := by
      unfold List.Nodup at hnd ⊢
      rw [List.pairwise_map]
      refine hnd.imp_of_mem fun {a b} ha hb hab => ?_
      have := hk a ha; have := hk b hb; omega
    have hs := sum_nodup W n _ hl (by intro k hm; obtain ⟨a, ha, rfl⟩ := List.mem_map.1 hm; have := hk a ha; omega)
    rw [List.map_map] at hs
    have hs' : ((t.getD n default).kids.map fun k => W k.toNat).sum = sumB (fun j => if j ∈ (t.getD n default).kids.map Int.toNat then W j else 0) n := hs
    have h2 : sumB (fun j => if 0 ≤ up.getD j (-1) ∧ up.getD j (-1) < (n + 1 : Nat) then 0 else W j) n + sumB (fun j => if j ∈ (t.getD n default).kids.map Int.toNat then W j else 0) n ≤ sumB (fun j => if 0 ≤ up.getD j (-1) ∧ up.getD j (-1) < n then 0 else W j) n := by
      rw [← sumB_add]
      refine sumB_le n fun j hj => ?_
      by_cases hm : j ∈ (t.getD n default).kids.map Int.toNat
      · obtain ⟨a, ha, rfl⟩ := List.mem_map.1 hm
        have := hk a ha
        rw [if_pos hm, if_pos (by omega), if_neg (by omega)]; omega
      · rw [if_neg hm]
        by_cases hc : 0 ≤ up.getD j (-1) ∧ up.getD j (-1) < n
        · rw [if_pos hc, if_pos (by omega)]; omega
        · rw [if_neg hc]; split <;> omega
    simp only [sumB]
    have h3 : (if 0 ≤ up.getD n (-1) ∧ up.getD n (-1) < (n + 1 : Nat) then 0 else W n) ≤ W n := by split <;> omega
    omega
theorem weigh_last {t : List Nd} {up : List Int} (hu : Up t up) (K W : Nat → Nat) (hW : ∀ i, i < t.length → W i ≤ K i + ((t.getD i default).kids.map fun k => W k.toNat).sum) (n : Nat) (hn : n < t.length) (hr : ¬ 0 ≤ up.getD n (-1)) : W n ≤ sumB K t.length := by
  have h := weigh hu K W hW t.length (Nat.le_refl _)
  have : W n ≤ sumB (fun j => if 0 ≤ up.getD j (-1) ∧ up.getD j (-1) < t.length then 0 else W j) t.length := by
    rw [← sumB_one (W n) n t.length hn]
    refine sumB_le _ fun j hj => ?_
    by_cases hjn : j = n
    · subst hjn
      rw [if_pos rfl, if_neg (by omega)]; exact Nat.le_refl _
    · rw [if_neg hjn]; exact Nat.zero_le _
  omega
end Go.Vm.Tp
namespace Go.Vm.Tp
open Go.Vm.Lex
theorem fn_parts {v : Int} {ks : List Int} (h : fitsB 2 v ks = true) : ∃ ps a b, ks = ps ++ [a, b] ∧ (∀ k ∈ ps, k = 7) ∧ isTy a = true ∧ b = 20 := by
  have e : fitsB 2 v ks = (decide (([] : List UInt8).length + ([116, 98] : List UInt8).length ≤ ks.length) && (kidsB [] (ks.take ([] : List UInt8).length) && ((ks.take (ks.length - ([116, 98] : List UInt8).length)).drop ([] : List UInt8).length).all (lett 113) && kidsB [116, 98] (ks.drop (ks.length - ([116, 98] : List UInt8).length)))) := rfl
  rw [e] at h
  simp only [Bool.and_eq_true, decide_eq_true_eq, List.length_nil, List.length_cons, List.drop_zero, Nat.zero_add] at h
  obtain ⟨h1, ⟨_, h2⟩, h3⟩ := h
  refine ⟨ks.take (ks.length - 2), ?_⟩
  cases hd : ks.drop (ks.length - 2) with
  | nil => rw [hd] at h3; cases h3
  | cons a r =>
    rw [hd] at h3
    cases r with
    | nil => simp [kidsB] at h3
    | cons b r =>
      have hl : (ks.drop (ks.length - 2)).length = 2 := by rw [List.length_drop]; omega
      rw [hd] at hl
      cases r with
      | cons c r => simp at hl
      | nil =>
        refine ⟨a, b, ?_, ?_, ?_, ?_⟩
        · rw [← hd, List.take_append_drop]
        · intro k hk
          have := List.all_eq_true.1 h2 k hk
          simpa [lett] using this
        · simp [kidsB, lett] at h3; exact h3.1
        · simp [kidsB, lett] at h3; exact h3.2
theorem params_fn {ps : List Int} {a b : Int} (h : ∀ k ∈ ps, k = 7) (ha : isTy a = true) (hb : b = 20) : params (ps ++ [a, b]) = ps.length := by
  unfold params
  rw [List.filter_append, List.filter_eq_self.2 (by intro k hk; simpa using h k hk)]
  have h7 : a ≠ 7 := by intro e; subst e; cases ha
  subst hb
  simp [h7]
theorem fn_num {v : Int} {ks : List Int} (hn : numB 2 v (params ks) = true) (hf : fitsB 2 v ks = true) : v = ((ks.length - 2 : Nat) : Int) ∧ 2 ≤ ks.length := by
  obtain ⟨ps, a, b, rfl, h1, h2, h3⟩ := fn_parts hf
  rw [params_fn h1 h2 h3] at hn
  have e : numB 2 v ps.length = decide (v = ps.length) := rfl
  rw [e, decide_eq_true_eq] at hn
  simp only [List.length_append, List.length_cons, List.length_nil]
  constructor <;> omega
structure NodOf (t : List Nd) (i : Nat) (x : Nd) : Prop where
  kid : ∀ k ∈ x.kids, 0 ≤ k ∧ k < i
  kn : knownB x.k = true
  nm : nmB x.k x.t = true
  num : numB x.k x.v (params (kinds t x.kids)) = true
  fe : 0 ≤ x.f ∧ x.f ≤ x.e
  fit : fitsB x.k x.v (kinds t x.kids) = true
theorem nodOf {t : List Nd} {i : Nat} (h : nodeB t i = true) : NodOf t i (t.getD i default) := by
  unfold nodeB at h
  simp only [Bool.and_eq_true, decide_eq_true_eq, List.all_eq_true] at h
  obtain ⟨h1, ⟨⟨⟨⟨h2, h3⟩, h4⟩, h5⟩, h6⟩, h7⟩ := h
  exact ⟨h1, h2, h3, h4, ⟨h5, h6⟩, h7⟩
theorem NodOf.len {t : List Nd} {i : Nat} {x : Nd} (h : NodOf t i x) : lenOk x.k x.kids.length := by
  have := fits_len h.fit
  rwa [show (kinds t x.kids).length = x.kids.length from List.length_map ..] at this
theorem NodOf.fn {t : List Nd} {i : Nat} {x : Nd} (h : NodOf t i x) (hk : x.k = 2) : x.v = ((x.kids.length - 2 : Nat) : Int) ∧ 2 ≤ x.kids.length := by
  have h1 := h.num
  have h2 := h.fit
  rw [hk] at h1 h2
  have := fn_num h1 h2
  rwa [show (kinds t x.kids).length = x.kids.length from List.length_map ..] at this
structure TreeOk (t : List Nd) (up : List Int) : Prop where
  lo : 1 ≤ t.length
  hi : t.length ≤ 20000
  root : (t.getD (t.length - 1) default).k = 1
  nod : ∀ i, i < t.length → NodOf t i (t.getD i default)
  ups : ups t = some up
  one : up.dropLast.contains (-1) = false
  deep : maxL (deps up) ≤ 400
theorem treeOk {t : List Nd} (h : checkB t = true) : ∃ up, TreeOk t up := by
  unfold checkB at h
  simp only [Bool.and_eq_true, decide_eq_true_eq, List.all_eq_true] at h
  obtain ⟨⟨⟨⟨h1, h2⟩, h3⟩, h4⟩, h5⟩ := h
  unfold upOk at h5
  cases hu : ups t with
  | none => rw [hu] at h5; cases h5
  | some up =>
    rw [hu] at h5
    simp only [Bool.and_eq_true, decide_eq_true_eq, Bool.or_eq_true, Bool.not_eq_true'] at h5
    refine ⟨up, h1, h2, h3, fun i hi => nodOf (h4 i (List.mem_range.2 hi)), hu, ?_, h5.2⟩
    rcases h5.1 with e | e
    · subst e; rfl
    · exact e
theorem TreeOk.up {t : List Nd} {up : List Int} (h : TreeOk t up) : Up t up := up_of h.ups fun i hi k hk => (h.nod i hi).kid k hk
end Go.Vm.Tp
namespace Go.Vm.Tp
open Go.Vm.Lex
theorem sum_map_le {α : Type} {f g : α → Nat} : ∀ l : List α, (∀ a ∈ l, f a ≤ g a) → (l.map f).sum ≤ (l.map g).sum
  | [], _ => Nat.le_refl _
  | a :: l, h => by
    simp only [List.map_cons, List.sum_cons]
    have := h a (by simp)
    have := sum_map_le l fun a h' => h a (by simp [h'])
    omega
theorem flat_len (N : Int → Toks) : ∀ l : List Int, (l.flatMap N).length = (l.map fun k => (N k).length).sum
  | [] => rfl
  | a :: l => by rw [List.flatMap_cons, List.length_append, flat_len N l]; rfl
theorem lst_len (N : Int → Toks) (l : List Int) : (lstT N l).length ≤ l.length + (l.map fun k => (N k).length).sum := by
  cases l with
  | nil => exact Nat.le_refl _
  | cons a r =>
    have : (r.flatMap fun k => [44] :: N k).length = r.length + (r.map fun k => (N k).length).sum := by
      induction r with
      | nil => rfl
      | cons b r ih => simp only [List.flatMap_cons, List.length_append, List.length_cons, ih, List.map_cons, List.sum_cons]; omega
    simp only [lstT, List.length_append, this, List.map_cons, List.sum_cons, List.length_cons]; omega
theorem sum_mem {α : Type} (f : α → Nat) : ∀ {l : List α} {i : Nat} {a : α}, l[i]? = some a → f a ≤ (l.map f).sum
  | [], i, a, h => by simp at h
  | b :: l, 0, a, h => by cases h; simp
  | b :: l, i + 1, a, h => by
    have := sum_mem f (l := l) (i := i) (a := a) (by simpa using h)
    simp only [List.map_cons, List.sum_cons]; omega
theorem opd_len (t : List Nd) (N : Int → Toks) (k : Int) (g : Bool) : (opdT t N k g).length ≤ 2 + (N k).length := by
  unfold opdT; split <;> simp; omega
set_option maxHeartbeats 4000000 in
theorem body_len (t : List Nd) (i : Nat) (x : Nd) (N : Int → Toks) (h : NodOf t i x) : (bodyT t N x).length ≤ 10 + x.kids.length + (x.kids.map fun k => (N k).length).sum := by
  have hlen := h.len
  have hfn := h.fn
  obtain ⟨q, tx, v, kids, f, e⟩ := x
  simp only at hlen hfn ⊢
  have hl := lst_len N kids
  have hfl := flat_len N kids
  have hper : ∀ l : List Int, (perT N l).length ≤ 2 + (l.map fun k => (N k).length).sum := by
    intro l
    cases l with
    | nil => simp [perT]
    | cons a r => simp [perT]; omega
  have hp := hper kids
  have one : ∀ n, n < kids.length → (N (kids.getD n 0)).length ≤ (kids.map fun k => (N k).length).sum := fun n hn => sum_mem (fun k => (N k).length) (i := n) (by simp [hn])
  have on1 : kids.length = 1 → (N (kids.getD 0 0)).length ≤ (kids.map fun k => (N k).length).sum := fun hh => one 0 (by omega)
  have on2 : kids.length = 2 → (N (kids.getD 0 0)).length + (N (kids.getD 1 0)).length ≤ (kids.map fun k => (N k).length).sum := fun hh => by
    match kids, hh with
    | [a, b], _ => simp
  have on3 : kids.length = 3 → (N (kids.getD 0 0)).length + (N (kids.getD 1 0)).length + (N (kids.getD 2 0)).length ≤ (kids.map fun k => (N k).length).sum := fun hh => by
    match kids, hh with
    | [a, b, c], _ => simp; omega
  have o0 := fun g => opd_len t N (kids.getD 0 0) g
  have o1 := fun g => opd_len t N (kids.getD 1 0) g
  have e2 : q = 2 → (fnT t N ⟨q, tx, v, kids, f, e⟩).length ≤ 10 + kids.length + (kids.map fun k => (N k).length).sum := by
    intro hq
    obtain ⟨hv, hn⟩ := hfn hq
    have hvn : v.toNat = kids.length - 2 := by omega
    have ek : kids = kids.take (kids.length - 2) ++ [kids.getD (kids.length - 2) 0, kids.getD (kids.length - 2 + 1) 0] := by
      conv => lhs; rw [← List.take_append_drop (kids.length - 2) kids]
      congr 1
      rw [List.drop_eq_getElem_cons (by omega), List.drop_eq_getElem_cons (by omega), List.drop_eq_nil_of_le (by omega)]
      simp [show kids.length - 2 < kids.length by omega, show kids.length - 2 + 1 < kids.length by omega]
    have hs : (kids.map fun k => (N k).length).sum = ((kids.take (kids.length - 2)).map fun k => (N k).length).sum + ((N (kids.getD (kids.length - 2) 0)).length + (N (kids.getD (kids.length - 2 + 1) 0)).length) := by
      conv => lhs; rw [ek]
      rw [List.map_append, List.sum_append]; simp
    have hlt := lst_len N (kids.take (kids.length - 2))
    rw [List.length_take] at hlt
    unfold fnT
    simp only [kid, hvn]
    simp only [List.length_append, List.length_cons, List.length_nil]
    split
    · simp only [List.length_nil]; omega
    · simp only [List.length_append, List.length_cons, List.length_nil]; omega
  have e46 : q = 46 → (lstT N (kids.drop 1)).length + (N (kids.getD 0 0)).length ≤ kids.length + (kids.map fun k => (N k).length).sum := by
    intro hq
    have := hlen.2.2.2.2.2.2 hq
    cases kids with
    | nil => simp at this
    | cons a r =>
      have := lst_len N r
      simp only [List.drop_succ_cons, List.drop_zero, List.getD_cons_zero, List.map_cons, List.sum_cons, List.length_cons]; omega
  obtain ⟨l1, l2, l3, l4, l5, l6, l7⟩ := hlen
  unfold bodyT
  simp only
  split
  · simp only [List.length_append, List.length_cons, List.length_nil]; omega
  split
  · unfold itemT
    simp only [kid]
    repeat' split
    all_goals first
      | exact e2 (by assumption)
      | ((try simp only [List.length_append, List.length_cons, List.length_nil]); first | omega | (have := on1 (l2 (by omega)); omega))
  split
  · unfold typT
    simp only [kid]
    repeat' split
    all_goals ((try simp only [List.length_append, List.length_cons, List.length_nil]); first | omega | (have := on1 (l2 (by omega)); omega))
  split
  · unfold stmtT
    simp only [kid]
    split
    · unfold letT
      simp only [kid]
      rcases l4 (by omega) with hk | hk
      · have := on1 hk
        rw [if_neg (show ¬ kids.length = 2 by omega), show kids.length - 1 = 0 by omega]
        split <;> simp only [List.length_append, List.length_cons, List.length_nil] <;> omega
      · have := on2 hk
        rw [if_pos hk, show kids.length - 1 = 1 by omega]
        split <;> simp only [List.length_append, List.length_cons, List.length_nil] <;> omega
    repeat' split
    all_goals ((try simp only [List.length_append, List.length_cons, List.length_nil]); first | omega | (have := on1 (l2 (by omega)); omega) | (have := on2 (l5 (by omega)); have := o0 false; have := o1 false; omega))
  split
  · unfold exprT
    simp only [kid]
    repeat' split
    all_goals first
      | ((try simp only [List.length_append, List.length_cons, List.length_nil]); first | omega | (have := on1 (l2 (by omega)); have := o0 false; have := o0 true; omega) | (have := on2 (l5 (by omega)); have := o0 false; have := o1 false; omega) | (have := e46 (by omega); have := o0 false; omega) | (have := on3 (by assumption); have := o0 false; omega))
      | skip
    all_goals ((try simp only [List.length_append, List.length_cons, List.length_nil]); rcases l6 (by omega) with hk | hk; (have := on2 hk; have := o0 false; omega); (exfalso; contradiction))
  · have n1 : (numT v).length ≤ 2 := by unfold numT; split <;> simp
    have n2 : (truT v).length = 1 := rfl
    have n3 : (namT tx).length = 3 := rfl
    unfold primT
    simp only
    by_cases g0 : q = 30 ∨ q = 52
    · rw [if_pos g0]
      ((try simp only [kid, List.length_append, List.length_cons, List.length_nil]); first | omega | (have := on1 (l2 (by omega)); omega) | (have := on2 (l5 (by omega)); omega))
    rw [if_neg g0]
    by_cases g1 : q = 31 ∨ q = 53
    · rw [if_pos g1]
      ((try simp only [kid, List.length_append, List.length_cons, List.length_nil]); first | omega | (have := on1 (l2 (by omega)); omega) | (have := on2 (l5 (by omega)); omega))
    rw [if_neg g1]
    by_cases g2 : q = 32
    · rw [if_pos g2]
      ((try simp only [kid, List.length_append, List.length_cons, List.length_nil]); first | omega | (have := on1 (l2 (by omega)); omega) | (have := on2 (l5 (by omega)); omega))
    rw [if_neg g2]
    by_cases g3 : q = 33 ∨ q = 51
    · rw [if_pos g3]
      ((try simp only [kid, List.length_append, List.length_cons, List.length_nil]); first | omega | (have := on1 (l2 (by omega)); omega) | (have := on2 (l5 (by omega)); omega))
    rw [if_neg g3]
    by_cases g4 : q = 50
    · rw [if_pos g4]
      ((try simp only [kid, List.length_append, List.length_cons, List.length_nil]); first | omega | (have := on1 (l2 (by omega)); omega) | (have := on2 (l5 (by omega)); omega))
    rw [if_neg g4]
    by_cases g5 : q = 34
    · rw [if_pos g5]
      ((try simp only [kid, List.length_append, List.length_cons, List.length_nil]); first | omega | (have := on1 (l2 (by omega)); omega) | (have := on2 (l5 (by omega)); omega))
    rw [if_neg g5]
    by_cases g6 : q = 35
    · rw [if_pos g6]
      ((try simp only [kid, List.length_append, List.length_cons, List.length_nil]); first | omega | (have := on1 (l2 (by omega)); omega) | (have := on2 (l5 (by omega)); omega))
    rw [if_neg g6]
    by_cases g7 : q = 36
    · rw [if_pos g7]
      ((try simp only [kid, List.length_append, List.length_cons, List.length_nil]); first | omega | (have := on1 (l2 (by omega)); omega) | (have := on2 (l5 (by omega)); omega))
    rw [if_neg g7]
    by_cases g8 : q = 37 ∨ q = 54
    · rw [if_pos g8]
      ((try simp only [kid, List.length_append, List.length_cons, List.length_nil]); first | omega | (have := on1 (l2 (by omega)); omega) | (have := on2 (l5 (by omega)); omega))
    rw [if_neg g8]
    by_cases g9 : q = 44
    · rw [if_pos g9]
      ((try simp only [kid, List.length_append, List.length_cons, List.length_nil]); first | omega | (have := on1 (l2 (by omega)); omega) | (have := on2 (l5 (by omega)); omega))
    rw [if_neg g9]
    by_cases g10 : q = 47
    · rw [if_pos g10]
      ((try simp only [kid, List.length_append, List.length_cons, List.length_nil]); first | omega | (have := on1 (l2 (by omega)); omega) | (have := on2 (l5 (by omega)); omega))
    rw [if_neg g10]
    show ([] : Toks).length ≤ _
    simp only [List.length_nil]; omega
end Go.Vm.Tp
namespace Go.Vm.Tp
open Go.Vm.Lex
set_option linter.unusedSimpArgs false
theorem upKids_mem (i : Nat) : ∀ (ks out r : List Int), upKids i ks out = some r → (∀ k ∈ ks, 0 ≤ k) → ∀ (j : Nat), 0 ≤ r.getD j (-1) → 0 ≤ out.getD j (-1) ∧ r.getD j (-1) = out.getD j (-1) ∨ r.getD j (-1) = i ∧ (j : Int) ∈ ks
  | [], out, r, h, _, j, hj => by cases h; exact .inl ⟨hj, rfl⟩
  | k :: ks, out, r, h, hk, j, hj => by
    simp only [upKids] at h
    split at h
    · cases h
    have hk0 := hk k (by simp)
    rcases upKids_mem i ks _ r h (fun k' h' => hk k' (by simp [h'])) j hj with ⟨h1, h2⟩ | ⟨h1, h2⟩
    · by_cases hjk : k.toNat = j
      · subst hjk
        right
        by_cases hlt : k.toNat < out.length
        · refine ⟨by rw [h2]; simp [hlt], ?_⟩
          rw [show ((k.toNat : Nat) : Int) = k by omega]; simp
        · rw [h2] at hj; simp [hlt] at hj
      · left
        have : (out.set k.toNat (i : Int)).getD j (-1) = out.getD j (-1) := by simp [List.getD_eq_getElem?_getD, hjk]
        rw [this] at h1 h2
        exact ⟨h1, h2⟩
    · exact .inr ⟨h1, by simp [h2]⟩
theorem upAll_mem : ∀ (i : Nat) (t : List Nd) (out r : List Int), upAll i t out = some r → (∀ x ∈ t, ∀ k ∈ x.kids, 0 ≤ k) → ∀ (j : Nat), 0 ≤ r.getD j (-1) → 0 ≤ out.getD j (-1) ∨ ∃ a, a < t.length ∧ r.getD j (-1) = (i + a : Nat) ∧ (j : Int) ∈ (t.getD a default).kids
  | i, [], out, r, h, _, j, hj => by cases h; exact .inl hj
  | i, x :: t, out, r, h, hk, j, hj => by
    simp only [upAll] at h
    obtain ⟨o, h1, h2⟩ := Option.bind_eq_some_iff.1 h
    rcases upAll_mem (i + 1) t o r h2 (fun y hy => hk y (by simp [hy])) j hj with h3 | ⟨a, h3, h4, h5⟩
    · rcases upKids_mem i x.kids out o h1 (hk x (by simp)) j h3 with ⟨h4, _⟩ | ⟨h4, h5⟩
      · exact .inl h4
      · refine .inr ⟨0, by simp, ?_, by simpa using h5⟩
        by_cases hr : r.getD j (-1) = (i : Int)
        · rw [hr]; simp
        · exfalso
          exact hr (by
            have := upAll_keep (i + 1) t o r h2 j h3
            rw [this, h4])
    · exact .inr ⟨a + 1, by simp; omega, by rw [h4]; congr 1; omega, by simpa using h5⟩
where
  upKids_keep (i : Nat) : ∀ (ks out r : List Int), upKids i ks out = some r → ∀ j : Nat, 0 ≤ out.getD j (-1) → r.getD j (-1) = out.getD j (-1)
    | [], out, r, h, j, hj => by cases h; rfl
    | k :: ks, out, r, h, j, hj => by
      simp only [upKids] at h
      split at h
      · cases h
      rename_i hc
      have : (out.set k.toNat (i : Int)).getD j (-1) = out.getD j (-1) := by
        by_cases hjk : k.toNat = j
        · subst hjk
          by_cases hlt : k.toNat < out.length
          · have e : out.getD k.toNat 0 = out.getD k.toNat (-1) := by simp [hlt]
            rw [e] at hc; exact absurd hj hc
          · simp [hlt]
        · simp [List.getD_eq_getElem?_getD, hjk]
      rw [upKids_keep i ks _ r h j (by rw [this]; exact hj), this]
  upAll_keep : ∀ (i : Nat) (t : List Nd) (out r : List Int), upAll i t out = some r → ∀ j : Nat, 0 ≤ out.getD j (-1) → r.getD j (-1) = out.getD j (-1)
    | i, [], out, r, h, j, hj => by cases h; rfl
    | i, x :: t, out, r, h, j, hj => by
      simp only [upAll] at h
      obtain ⟨o, h1, h2⟩ := Option.bind_eq_some_iff.1 h
      have e1 := upKids_keep i x.kids out o h1 j hj
      rw [upAll_keep (i + 1) t o r h2 j (by rw [e1]; exact hj), e1]
theorem ups_mem {t : List Nd} {up : List Int} (h : ups t = some up) (hk : ∀ x ∈ t, ∀ k ∈ x.kids, 0 ≤ k) (j : Nat) (hj : 0 ≤ up.getD j (-1)) : up.getD j (-1) < t.length ∧ (j : Int) ∈ (t.getD (up.getD j (-1)).toNat default).kids := by
  rcases upAll_mem 0 t _ up h hk j hj with h1 | ⟨a, h1, h2, h3⟩
  · exfalso
    rw [List.getD_eq_getElem?_getD, List.getElem?_replicate] at h1
    split at h1 <;> simp at h1
  · rw [h2]
    exact ⟨by omega, by simpa using h3⟩
theorem TreeOk.kidpos {t : List Nd} {up : List Int} (h : TreeOk t up) : ∀ x ∈ t, ∀ k ∈ x.kids, 0 ≤ k := by
  intro x hx k hk
  obtain ⟨i, hi, rfl⟩ := List.getElem_of_mem hx
  have e : t.getD i default = t[i] := by simp [hi]
  have := (h.nod i hi).kid k (by rw [e]; exact hk)
  exact this.1
theorem TreeOk.above {t : List Nd} {up : List Int} (h : TreeOk t up) (j : Nat) (hj : 0 ≤ up.getD j (-1)) : (j : Int) < up.getD j (-1) ∧ up.getD j (-1) < t.length ∧ (j : Int) ∈ (t.getD (up.getD j (-1)).toNat default).kids := by
  obtain ⟨h1, h2⟩ := ups_mem h.ups h.kidpos j hj
  exact ⟨by have := ((h.nod (up.getD j (-1)).toNat (by omega)).kid _ h2).2; omega, h1, h2⟩
theorem TreeOk.last {t : List Nd} {up : List Int} (h : TreeOk t up) : ¬ 0 ≤ up.getD (t.length - 1) (-1) := fun hj => by
  have := h.above _ hj
  have := h.lo
  omega
def wts (t : List Nd) : Nat → List Nat
  | 0 => []
  | i + 1 => wts t i ++ [10 + (t.getD i default).kids.length + ((t.getD i default).kids.map fun k => (wts t i).getD k.toNat 0).sum]
theorem wts_len (t : List Nd) : ∀ i, (wts t i).length = i
  | 0 => rfl
  | i + 1 => by simp [wts, wts_len t i]
def wt (t : List Nd) (j : Nat) : Nat := (wts t (j + 1)).getD j 0
theorem wts_get (t : List Nd) (j : Nat) : ∀ i, j < i → (wts t i).getD j 0 = wt t j
  | 0, h => absurd h (Nat.not_lt_zero _)
  | i + 1, h => by
    by_cases hj : j = i
    · subst hj; rfl
    · have hlt : j < (wts t i).length := by rw [wts_len]; omega
      have : (wts t (i + 1)).getD j 0 = (wts t i).getD j 0 := by simp [wts, List.getD_eq_getElem?_getD, List.getElem?_append_left hlt]
      rw [this, wts_get t j i (by omega)]
theorem wt_eq (t : List Nd) (i : Nat) (hk : ∀ k ∈ (t.getD i default).kids, 0 ≤ k ∧ k < i) : wt t i = 10 + (t.getD i default).kids.length + ((t.getD i default).kids.map fun k => wt t k.toNat).sum := by
  have e : wt t i = 10 + (t.getD i default).kids.length + ((t.getD i default).kids.map fun k => (wts t i).getD k.toNat 0).sum := by
    unfold wt
    have hl : (wts t i).length = i := wts_len t i
    simp only [wts]
    rw [List.getD_eq_getElem?_getD, List.getElem?_append_right (by omega), hl, Nat.sub_self]; rfl
  rw [e]
  congr 2
  refine List.map_congr_left fun k hm => ?_
  have := hk k hm
  exact wts_get t _ i (by omega)
theorem prN_len {t : List Nd} (h : ∀ i, i < t.length → NodOf t i (t.getD i default)) : ∀ f n, n < t.length → (prN t f n).length ≤ wt t n
  | 0, n, _ => Nat.zero_le _
  | f + 1, n, hn => by
    have hno := h n hn
    rw [wt_eq t n hno.kid]
    refine Nat.le_trans (body_len t n _ _ hno) (Nat.add_le_add_left ?_ _)
    refine sum_map_le _ fun k hk => ?_
    have := hno.kid k hk
    exact prN_len h f k.toNat (by omega)
theorem sumB_const (c : Nat) : ∀ n, sumB (fun _ => c) n = n * c
  | 0 => by simp [sumB]
  | n + 1 => by simp only [sumB, sumB_const c n, Nat.succ_mul]
theorem kids_len {t : List Nd} {up : List Int} (hu : Up t up) (i : Nat) (hi : i < t.length) : (t.getD i default).kids.length ≤ i := by
  have hk := hu.kid i hi
  have hnd := hu.nod i hi
  have hl : ((t.getD i default).kids.map Int.toNat).Nodup := by
    unfold List.Nodup at hnd ⊢
    rw [List.pairwise_map]
    refine hnd.imp_of_mem fun {a b} ha hb hab => ?_
    have := hk a ha; have := hk b hb; omega
  have hs := sum_nodup (fun _ => 1) i _ hl (by intro k hm; obtain ⟨a, ha, rfl⟩ := List.mem_map.1 hm; have := hk a ha; omega)
  have h1 : (((t.getD i default).kids.map Int.toNat).map fun _ => 1).sum = (t.getD i default).kids.length := by
    rw [List.map_map]
    generalize (t.getD i default).kids = l
    induction l with
    | nil => rfl
    | cons a l ih => simp only [List.map_cons, List.sum_cons, ih, List.length_cons, Function.comp]; omega
  have h2 : sumB (fun j => if j ∈ (t.getD i default).kids.map Int.toNat then 1 else 0) i ≤ i := by
    have := sumB_le (f := fun j => if j ∈ (t.getD i default).kids.map Int.toNat then 1 else 0) (g := fun _ => 1) i (fun j _ => by split <;> omega)
    rw [sumB_const] at this
    omega
  omega
theorem prT_len {t : List Nd} {up : List Int} (h : TreeOk t up) : (prT t).length ≤ 400200000 := by
  have h1 := h.lo
  have h2 := h.hi
  have hw := weigh_last h.up (fun i => 10 + (t.getD i default).kids.length) (wt t) (fun i hi => by rw [wt_eq t i (h.nod i hi).kid]; exact Nat.le_refl _) (t.length - 1) (by omega) h.last
  have hp := prN_len h.nod t.length (t.length - 1) (by omega)
  have hs : sumB (fun i => 10 + (t.getD i default).kids.length) t.length ≤ sumB (fun _ => 20010) t.length := sumB_le _ fun i hi => by
    have := kids_len h.up i hi
    omega
  rw [sumB_const] at hs
  have : t.length * 20010 ≤ 20000 * 20010 := Nat.mul_le_mul_right _ h2
  unfold prT
  omega
def TokP (s : List UInt8) : Prop := s ≠ [] ∧ s.length ≤ 64
def AllT (l : Toks) : Prop := ∀ s ∈ l, TokP s
theorem at_nil : AllT [] := by intro s hs; cases hs
theorem at_cons (s : List UInt8) (l : Toks) : AllT (s :: l) ↔ TokP s ∧ AllT l := by unfold AllT; simp
theorem at_app (l r : Toks) : AllT (l ++ r) ↔ AllT l ∧ AllT r := by
  unfold AllT
  simp only [List.mem_append]
  exact ⟨fun h => ⟨fun s hs => h s (.inl hs), fun s hs => h s (.inr hs)⟩, fun h s hs => hs.elim (h.1 s) (h.2 s)⟩
section
variable {N : Int → Toks} (hN : ∀ k, AllT (N k))
include hN
theorem at_flat (l : List Int) : AllT (l.flatMap N) := by
  induction l with
  | nil => exact at_nil
  | cons a l ih => rw [List.flatMap_cons, at_app]; exact ⟨hN a, ih⟩
theorem at_lst (l : List Int) : AllT (lstT N l) := by
  cases l with
  | nil => exact at_nil
  | cons a l =>
    simp only [lstT]
    rw [at_app]
    refine ⟨hN a, ?_⟩
    induction l with
    | nil => exact at_nil
    | cons b l ih => rw [List.flatMap_cons, at_app, at_cons]; exact ⟨⟨⟨by simp, by simp⟩, hN b⟩, ih⟩
theorem at_per (l : List Int) : AllT (perT N l) := by
  cases l with
  | nil => exact at_nil
  | cons a l => simp only [perT, at_app, at_cons]; exact ⟨⟨⟨⟨by simp, by simp⟩, at_nil⟩, hN a⟩, ⟨⟨by simp, by simp⟩, at_nil⟩⟩
theorem at_opd (t : List Nd) (k : Int) (g : Bool) : AllT (opdT t N k g) := by
  unfold opdT
  split
  · exact hN k
  · simp only [at_app, at_cons]; exact ⟨⟨⟨⟨by simp, by simp⟩, at_nil⟩, hN k⟩, ⟨⟨by simp, by simp⟩, at_nil⟩⟩
end
theorem name_tok {s : List UInt8} (h : nameB s = true) : TokP s := by
  unfold nameB speltB at h
  simp only [Bool.and_eq_true, decide_eq_true_eq] at h
  exact ⟨h.1.1.1.1.1, h.1.2⟩
theorem sign_tok {s : List UInt8} (h : s ∈ signsL) : TokP s := by
  unfold signsL at h
  simp only [List.mem_cons, List.not_mem_nil, or_false] at h
  rcases h with rfl | rfl | rfl | rfl | rfl | rfl | rfl | rfl | rfl | rfl | rfl | rfl | rfl <;> exact ⟨by simp, by simp⟩
theorem itoa_tok {n : Int} (h : I64 n) : TokP (Lib.itoa n) := by
  refine ⟨?_, Nat.le_trans (Lib.itoa_length_le n h.1 h.2) (by omega)⟩
  intro e
  have : (Lib.itoa n).length = 0 := by rw [e]; rfl
  by_cases hn : 0 ≤ n
  · obtain ⟨u, rfl⟩ : ∃ u : Nat, n = u := ⟨n.toNat, by omega⟩
    rw [Lib.itoa_nonneg, Lib.decDigits_length] at this
    have := Lib.nDigits_pos u
    omega
  · obtain ⟨u, rfl⟩ : ∃ u : Nat, n = -(u : Int) := ⟨(-n).toNat, by omega⟩
    rw [Lib.itoa_neg u (by omega)] at this
    simp at this
theorem nm_tok {k : Int} {s : List UInt8} (h : nmB k s = true) (hk : k = 2 ∨ k = 3 ∨ k = 4 ∨ k = 5 ∨ k = 6 ∨ k = 7 ∨ k = 13 ∨ k = 21 ∨ k = 33 ∨ k = 34 ∨ k = 35 ∨ k = 36 ∨ k = 41 ∨ k = 51 ∨ k = 38) : TokP s := by
  by_cases h38 : k = 38
  · subst h38
    have e : nmB 38 s = decide (s ∈ signsL) := rfl
    rw [e, decide_eq_true_eq] at h
    exact sign_tok h
  · unfold nmB at h
    rw [if_pos (by omega)] at h
    exact name_tok h
theorem pick_tok {k : Int} {s : List UInt8} (h : nmB k s = true) (hk : k = 37 ∨ k = 54) : AllT (namT s) := by
  have e : nmB k s = ((cutT s).2.2 && nameB (cutT s).1 && nameB (cutT s).2.1) := by rcases hk with rfl | rfl <;> rfl
  rw [e] at h
  simp only [Bool.and_eq_true] at h
  unfold namT
  rw [at_cons, at_cons, at_cons]
  exact ⟨name_tok h.1.2, ⟨by simp, by simp⟩, name_tok h.2, at_nil⟩
theorem num_tok {k v : Int} (hv : I64 v) (hn : k = 52 → -9223372036854775808 < v) (h30 : k = 30 → 0 ≤ v) (hk : k = 30 ∨ k = 52) : AllT (numT v) := by
  unfold numT
  by_cases hneg : v < 0
  · rw [if_pos hneg, if_pos hneg]
    have : k = 52 := by
      rcases hk with rfl | rfl
      · have := h30 rfl; omega
      · rfl
    have := hn this
    exact (at_app _ _).2 ⟨(at_cons _ _).2 ⟨⟨by simp, by simp⟩, at_nil⟩, (at_cons _ _).2 ⟨itoa_tok ⟨by omega, by have := hv.1; omega⟩, at_nil⟩⟩
  · rw [if_neg hneg, if_neg hneg]
    exact (at_app _ _).2 ⟨at_nil, (at_cons _ _).2 ⟨itoa_tok hv, at_nil⟩⟩
theorem tru_tok (v : Int) : AllT (truT v) := by
  unfold truT
  rw [at_cons]
  refine ⟨?_, at_nil⟩
  split <;> exact ⟨by simp, by simp⟩
theorem at_if {c : Prop} [Decidable c] {a b : Toks} (ha : c → AllT a) (hb : ¬ c → AllT b) : AllT (if c then a else b) := by
  split
  · exact ha (by assumption)
  · exact hb (by assumption)
theorem lit_tok {s : List UInt8} (h : (decide (s ≠ []) && decide (s.length ≤ 64)) = true) : TokP s := by
  simp only [Bool.and_eq_true, decide_eq_true_eq] at h; exact h
set_option maxHeartbeats 4000000 in
theorem body_tok (t : List Nd) (i : Nat) (x : Nd) (N : Int → Toks) (h : NodOf t i x) (hv : I64 x.v) (hN : ∀ k, AllT (N k)) : AllT (bodyT t N x) := by
  have hnum := h.num
  have hnm := h.nm
  obtain ⟨q, tx, v, kids, f, e⟩ := x
  simp only at hnum hnm hv ⊢
  have hx := nm_tok hnm
  have hp := pick_tok hnm
  have h52 : q = 52 → -9223372036854775808 < v := by rintro rfl; have e : numB 52 v (params (kinds t kids)) = decide (-9223372036854775808 < v) := rfl; rw [e, decide_eq_true_eq] at hnum; exact hnum
  have h30 : q = 30 → 0 ≤ v := by rintro rfl; have e : numB 30 v (params (kinds t kids)) = decide (0 ≤ v) := rfl; rw [e, decide_eq_true_eq] at hnum; exact hnum
  have hnt := num_tok hv h52 h30
  clear hnum hnm
  unfold bodyT itemT fnT typT stmtT letT exprT primT
  simp only
  repeat' (first
    | exact at_nil
    | exact hN _
    | exact at_flat hN _
    | exact at_lst hN _
    | exact at_per hN _
    | exact at_opd hN _ _ _
    | exact tru_tok _
    | exact hnt (by assumption)
    | exact hp (by assumption)
    | exact hx (by omega)
    | exact lit_tok rfl
    | refine at_if (fun _ => ?_) (fun _ => ?_)
    | refine (at_app _ _).2 ⟨?_, ?_⟩
    | refine (at_cons _ _).2 ⟨?_, ?_⟩)
theorem prN_tok {t : List Nd} (h : ∀ i, i < t.length → NodOf t i (t.getD i default)) (hv : ∀ x ∈ t, I64 x.v) : ∀ f n, AllT (prN t f n)
  | 0, n => at_nil
  | f + 1, n => by
    by_cases hn : n < t.length
    · exact body_tok t n _ _ (h n hn) (hv _ (by simp [hn])) fun k => prN_tok h hv f k.toNat
    · have e : t.getD n default = default := by simp [hn]
      show AllT (bodyT t (fun k => prN t f k.toNat) (t.getD n default))
      rw [e]
      exact at_nil
end Go.Vm.Tp
namespace Go.Vm.Tp
open Go.Vm.Lex
theorem lens_le {n : Nat} : ∀ (r : List (List UInt8)), (∀ x ∈ r, x.length ≤ n) → (Lib.joinTail [32] r).length ≤ (n + 1) * r.length
  | [], _ => by simp [Lib.joinTail]
  | x :: r, h => by
    have ih := lens_le r fun y hy => h y (by simp [hy])
    have hx := h x (by simp)
    simp only [Lib.joinTail, List.map_cons, List.flatten_cons, List.length_append, List.length_cons, List.length_nil] at ih ⊢
    rw [Nat.mul_add]; omega
theorem join_le {n : Nat} (r : List (List UInt8)) (h : ∀ x ∈ r, x.length ≤ n) : (Lib.join r [32]).length ≤ (n + 1) * r.length := by
  cases r with
  | nil => simp [Lib.join_nil]
  | cons x r =>
    have ih := lens_le r fun y hy => h y (by simp [hy])
    have hx := h x (by simp)
    rw [Lib.join_cons, List.length_append, List.length_cons, Nat.mul_add]; omega
def prS (t : List Nd) : List UInt8 := Lib.join (prT t) [32]
def prA (t : List Nd) : List UInt8 × Int := if checkB t = true then (prS t, 0) else ([], 3)
def upT (t : List Nd) : List Int := (ups t).getD []
def depA (t : List Nd) : Int × Int := if checkB t = true then (maxL (deps (upT t)), 0) else (0, 3)
theorem TreeOk.upT {t : List Nd} {up : List Int} (h : TreeOk t up) : upT t = up := by unfold Tp.upT; rw [h.ups]; rfl
def tyT (t : List Nd) : Nat → Nat → List UInt8
  | 0, _ => []
  | f + 1, n => let x := t.getD n default
    if x.k = 10 then [105, 54, 52]
    else if x.k = 11 then [98, 111, 111, 108]
    else if x.k = 12 then [40, 41]
    else if x.k = 14 then [38] ++ tyT t f (kid x 0).toNat
    else if x.k = 15 then [38, 109, 117, 116, 32] ++ tyT t f (kid x 0).toNat
    else if x.k = 16 then [66, 111, 120, 60] ++ tyT t f (kid x 0).toNat ++ [62]
    else x.t
def tyA (t : List Nd) (n : Int) : List UInt8 × Int :=
  if checkB t = true then (if n < 0 ∨ (t.length : Int) ≤ n then ([], 9) else if isTy (t.getD n.toNat default).k = true then (tyT t t.length n.toNat, 0) else ([], 1)) else ([], 3)
end Go.Vm.Tp
set_option linter.unusedSimpArgs false
namespace Go.Vm.Tp
open Go.Vm.Lex
def lettR (c : UInt8) (k : Int) : Bool :=
  if c = 84 then isTy k
  else if c = 83 then isSt k
  else if c = 69 then isEx k
  else if c = 80 then isPa k
  else if c = 66 then decide (k = 20)
  else if c = 73 then decide (k = 2 ∨ k = 3 ∨ k = 4)
  else if c = 70 then decide (k = 5)
  else if c = 86 then decide (k = 6)
  else if c = 77 then decide (k = 7)
  else if c = 65 then decide (k = 47)
  else if c = 74 then decide (k = 36)
  else decide (k = 20 ∨ k = 45)
def formsR (k : Int) : List (List UInt8) :=
  if k = 1 then [[42, 73]]
  else if k = 2 then [[102, 110]]
  else if k = 3 then [[42, 70]]
  else if k = 4 then [[42, 86]]
  else if k = 5 ∨ k = 7 ∨ k = 14 ∨ k = 15 ∨ k = 16 then [[84]]
  else if k = 6 then [[], [84]]
  else if k = 20 then [[98, 108, 111, 99, 107]]
  else if k = 21 then [[69], [84, 69]]
  else if k = 22 ∨ k = 36 ∨ k = 41 ∨ k = 39 ∨ k = 40 ∨ k = 42 ∨ k = 44 ∨ k = 43 then [[69]]
  else if k = 23 ∨ k = 38 then [[69, 69]]
  else if k = 24 then [[69, 66]]
  else if k = 25 ∨ k = 37 then [[], [69]]
  else if k = 34 then [[42, 69]]
  else if k = 35 then [[42, 74]]
  else if k = 45 then [[69, 66], [69, 66, 88]]
  else if k = 46 then [[69, 42, 65]]
  else if k = 47 then [[80, 69]]
  else if k = 54 then [[], [80]]
  else [[]]
def goR : List UInt8 → List Int → Bool
  | [], l => decide (l = [])
  | 42 :: c :: _, l => l.all (lettR c)
  | c :: s, l => match l with | [] => false | a :: r => lettR c a && goR s r
def fnR (v : Int) (ks : List Int) : Bool := decide (2 ≤ ks.length) && decide (v = ks.length - 2) && isTy (ks.getD (ks.length - 2) 0) && decide (ks.getD (ks.length - 1) 0 = 20) && (ks.take (ks.length - 2)).all (lettR 77)
def blockR (v : Int) (ks : List Int) : Bool := !(decide (v = 1) && (decide (ks.length = 0) || !isEx (ks.getD (ks.length - 1) 0))) && (ks.take (ks.length - v.toNat)).all (lettR 83)
def fitsR (v : Int) (ks : List Int) (f : List UInt8) : Bool := if f = [102, 110] then fnR v ks else if f = [98, 108, 111, 99, 107] then blockR v ks else goR f ks
def countR (k v : Int) : Bool :=
  if k = 2 then true
  else if k = 7 ∨ k = 20 ∨ k = 21 ∨ k = 31 ∨ k = 53 ∨ k = 43 then decide (v = 0) || decide (v = 1)
  else if k = 30 then decide (0 ≤ v)
  else if k = 52 then !decide (v = -9223372036854775808)
  else decide (v = 0)
theorem count_num {k v : Int} (hv : I64 v) (p : Int) : numB k v p = if k = 2 then decide (v = p) else countR k v := by
  unfold numB countR
  by_cases h : k = 2
  · rw [if_pos h, if_pos h]
  rw [if_neg h, if_neg h, if_neg h]
  by_cases h5 : k = 52
  · subst h5
    simp only [I64] at hv
    simp
    by_cases e : v = -9223372036854775808
    · simp [e]
    · rw [decide_eq_false e, decide_eq_true (by omega)]; rfl
  · simp only [h5, if_false]
theorem go_one (c : UInt8) (hc : c ≠ 42) (s : List UInt8) (l : List Int) : goR (c :: s) l = match l with | [] => false | a :: r => lettR c a && goR s r := by
  cases s with
  | nil => cases l <;> simp only [goR]
  | cons d s => cases l <;> simp [goR, hc]
theorem fn_eq (v : Int) (ks : List Int) : fnR v ks = (decide (v = params ks) && fitsB 2 v ks) := by
  rw [Bool.eq_iff_iff]
  constructor
  · intro h
    unfold fnR at h
    simp only [Bool.and_eq_true, decide_eq_true_eq] at h
    obtain ⟨⟨⟨⟨h1, h2⟩, h3⟩, h4⟩, h5⟩ := h
    have hd : ks.drop (ks.length - 2) = [ks.getD (ks.length - 2) 0, ks.getD (ks.length - 1) 0] := by
      have l1 : ks.length - 2 < ks.length := by omega
      have l2 : ks.length - 2 + 1 < ks.length := by omega
      rw [List.drop_eq_getElem_cons l1, List.drop_eq_getElem_cons l2, List.drop_of_length_le (by omega)]
      have e : ks.length - 2 + 1 = ks.length - 1 := by omega
      simp only [e, List.getD_eq_getElem?_getD, List.getElem?_eq_getElem l1, Option.getD_some]
      rw [List.getElem?_eq_getElem (by omega : ks.length - 1 < ks.length)]; rfl
    have h7 : ∀ k ∈ ks.take (ks.length - 2), k = 7 := fun k hk => by
      have := List.all_eq_true.1 h5 k hk
      simpa [lettR] using this
    have hp : params ks = ((ks.length - 2 : Nat) : Int) := by
      conv => lhs; rw [← List.take_append_drop (ks.length - 2) ks, hd]
      rw [params_fn h7 h3 h4, List.length_take]; omega
    rw [Bool.and_eq_true, decide_eq_true_eq, hp]
    refine ⟨by omega, ?_⟩
    have e : fitsB 2 v ks = (decide (([] : List UInt8).length + ([116, 98] : List UInt8).length ≤ ks.length) && (kidsB [] (ks.take ([] : List UInt8).length) && ((ks.take (ks.length - ([116, 98] : List UInt8).length)).drop ([] : List UInt8).length).all (lett 113) && kidsB [116, 98] (ks.drop (ks.length - ([116, 98] : List UInt8).length)))) := rfl
    rw [e]
    simp only [Bool.and_eq_true, decide_eq_true_eq, List.length_nil, List.length_cons, List.drop_zero, Nat.zero_add, hd]
    refine ⟨by omega, ⟨⟨rfl, ?_⟩, ?_⟩⟩
    · rw [List.all_eq_true]; intro k hk; rw [h7 k hk]; rfl
    · rw [h4]; simp only [kidsB, lett]; rw [show isTy (ks.getD (ks.length - 2) 0) = true from h3]; simp
  · intro h
    simp only [Bool.and_eq_true, decide_eq_true_eq] at h
    obtain ⟨h1, h2⟩ := h
    obtain ⟨ps, a, b, rfl, h3, h4, h5⟩ := fn_parts h2
    rw [params_fn h3 h4 h5] at h1
    unfold fnR
    have hl : (ps ++ [a, b]).length = ps.length + 2 := by simp
    rw [hl]
    simp only [Bool.and_eq_true, decide_eq_true_eq]
    refine ⟨⟨⟨⟨by omega, by omega⟩, ?_⟩, ?_⟩, ?_⟩
    · simpa using h4
    · simpa using h5
    · rw [show ps.length + 2 - 2 = ps.length by omega, List.take_left', List.all_eq_true]
      · intro k hk; rw [h3 k hk]; rfl
      · rfl
theorem lettR_S (k : Int) : lettR 83 k = isSt k := by simp [lettR]
theorem lett_s (k : Int) : lett 115 k = isSt k := by simp [lett]
theorem block_eq (v : Int) (ks : List Int) (hv : v = 0 ∨ v = 1) : blockR v ks = fitsB 20 v ks := by
  rcases hv with rfl | rfl
  · have e : fitsB 20 0 ks = (decide (([] : List UInt8).length + ([] : List UInt8).length ≤ ks.length) && (kidsB [] (ks.take ([] : List UInt8).length) && ((ks.take (ks.length - ([] : List UInt8).length)).drop ([] : List UInt8).length).all (lett 115) && kidsB [] (ks.drop (ks.length - ([] : List UInt8).length)))) := rfl
    rw [e]
    unfold blockR
    have e3 : (lettR 83) = lett 115 := by funext k; rw [lettR_S, lett_s]
    rw [e3]
    simp [kidsB]
  · have e : fitsB 20 1 ks = (decide (([] : List UInt8).length + ([101] : List UInt8).length ≤ ks.length) && (kidsB [] (ks.take ([] : List UInt8).length) && ((ks.take (ks.length - ([101] : List UInt8).length)).drop ([] : List UInt8).length).all (lett 115) && kidsB [101] (ks.drop (ks.length - ([101] : List UInt8).length)))) := rfl
    rw [e]
    unfold blockR
    rcases Nat.eq_zero_or_pos ks.length with h0 | h0
    · have : ks = [] := List.length_eq_zero_iff.1 h0
      subst this; rfl
    have l1 : ks.length - 1 < ks.length := by omega
    have hd : ks.drop (ks.length - 1) = [ks.getD (ks.length - 1) 0] := by
      rw [List.drop_eq_getElem_cons l1, List.drop_of_length_le (by omega)]
      simp only [List.getD_eq_getElem?_getD, List.getElem?_eq_getElem l1, Option.getD_some]
    simp only [List.length_nil, List.length_cons, Nat.zero_add, List.drop_zero, hd]
    have e2 : ∀ a, kidsB [101] [a] = isEx a := fun a => by simp [kidsB, lett]
    have e3 : (lettR 83) = lett 115 := by funext k; rw [lettR_S, lett_s]
    rw [e2, e3]
    have n0 : ¬ ks.length = 0 := by omega
    simp only [n0, decide_false, decide_true, Bool.true_and, Bool.false_or, Bool.not_not, decide_eq_true (by omega : 1 ≤ ks.length), show (1 : Int).toNat = 1 from rfl, List.take_zero]
    rw [show kidsB [] ([] : List Int) = true from rfl]
    cases isEx (ks.getD (ks.length - 1) 0) <;> simp
theorem anyR {v : Int} {ks : List Int} : ∀ k : Int, (k = 2 → v = params ks) → (k = 20 → v = 0 ∨ v = 1) → (formsR k).any (fitsR v ks) = fitsB k v ks := by
  intro k h2 h20
  have cT : ∀ a, lettR 84 a = lett 116 a := fun a => by simp [lettR, lett]
  have cE : ∀ a, lettR 69 a = lett 101 a := fun a => by simp [lettR, lett]
  have cP : ∀ a, lettR 80 a = lett 112 a := fun a => by simp [lettR, lett]
  have cB : ∀ a, lettR 66 a = lett 98 a := fun a => by simp [lettR, lett]
  have cX : ∀ a, lettR 88 a = lett 111 a := fun a => by simp [lettR, lett]
  have cI : ∀ a, lettR 73 a = lett 105 a := fun a => by simp [lettR, lett]
  have cF : ∀ a, lettR 70 a = lett 102 a := fun a => by simp [lettR, lett]
  have cV : ∀ a, lettR 86 a = lett 118 a := fun a => by simp [lettR, lett]
  have cA : ∀ a, lettR 65 a = lett 97 a := fun a => by simp [lettR, lett]
  have cJ : ∀ a, lettR 74 a = lett 110 a := fun a => by simp [lettR, lett]
  have star : ∀ (c d : UInt8) (m : Bool), (∀ a, lettR c a = lett d a) → goR [42, c] ks = (decide (0 + 0 ≤ ks.length) && (kidsB [] (ks.take 0) && ((ks.take (ks.length - 0)).drop 0).all (lett d) && kidsB [] (ks.drop (ks.length - 0)))) := by
    intro c d _ h
    simp [goR, kidsB, List.drop_length]
    congr 1; funext a; exact h a
  by_cases k2 : k = 2
  · subst k2
    have h2 := h2 rfl
    show (fitsR v ks [102, 110] || false) = _
    rw [Bool.or_false, show fitsR v ks [102, 110] = fnR v ks from rfl, fn_eq, decide_eq_true h2, Bool.true_and]
  by_cases k20 : k = 20
  · subst k20
    show (fitsR v ks [98, 108, 111, 99, 107] || false) = _
    rw [Bool.or_false, show fitsR v ks [98, 108, 111, 99, 107] = blockR v ks from rfl, block_eq v ks (h20 rfl)]
  by_cases k1 : k = 1
  · subst k1
    show (fitsR v ks [42, 73] || false) = _
    rw [Bool.or_false]
    exact star 73 105 true cI
  by_cases k3 : k = 3
  · subst k3
    show (fitsR v ks [42, 70] || false) = _
    rw [Bool.or_false]
    exact star 70 102 true cF
  by_cases k4 : k = 4
  · subst k4
    show (fitsR v ks [42, 86] || false) = _
    rw [Bool.or_false]
    exact star 86 118 true cV
  by_cases k34 : k = 34
  · subst k34
    show (fitsR v ks [42, 69] || false) = _
    rw [Bool.or_false]
    exact star 69 101 true cE
  by_cases k35 : k = 35
  · subst k35
    show (fitsR v ks [42, 74] || false) = _
    rw [Bool.or_false]
    exact star 74 110 true cJ
  by_cases k5 : k = 5
  · subst k5
    match ks with
    | [] => rfl
    | [a] => simp [formsR, fitsR, goR, fitsB, shapeP, kidsB, cT, cE, cP, cB, cX]
    | [a, b] => simp [formsR, fitsR, goR, fitsB, shapeP, kidsB, cT, cE, cP, cB, cX]
    | [a, b, c] => simp [formsR, fitsR, goR, fitsB, shapeP, kidsB, cT, cE, cP, cB, cX]
    | a :: b :: c :: d :: r => simp [formsR, fitsR, goR, fitsB, shapeP, kidsB, cT, cE, cP, cB, cX]
  by_cases k7 : k = 7
  · subst k7
    match ks with
    | [] => rfl
    | [a] => simp [formsR, fitsR, goR, fitsB, shapeP, kidsB, cT, cE, cP, cB, cX]
    | [a, b] => simp [formsR, fitsR, goR, fitsB, shapeP, kidsB, cT, cE, cP, cB, cX]
    | [a, b, c] => simp [formsR, fitsR, goR, fitsB, shapeP, kidsB, cT, cE, cP, cB, cX]
    | a :: b :: c :: d :: r => simp [formsR, fitsR, goR, fitsB, shapeP, kidsB, cT, cE, cP, cB, cX]
  by_cases k14 : k = 14
  · subst k14
    match ks with
    | [] => rfl
    | [a] => simp [formsR, fitsR, goR, fitsB, shapeP, kidsB, cT, cE, cP, cB, cX]
    | [a, b] => simp [formsR, fitsR, goR, fitsB, shapeP, kidsB, cT, cE, cP, cB, cX]
    | [a, b, c] => simp [formsR, fitsR, goR, fitsB, shapeP, kidsB, cT, cE, cP, cB, cX]
    | a :: b :: c :: d :: r => simp [formsR, fitsR, goR, fitsB, shapeP, kidsB, cT, cE, cP, cB, cX]
  by_cases k15 : k = 15
  · subst k15
    match ks with
    | [] => rfl
    | [a] => simp [formsR, fitsR, goR, fitsB, shapeP, kidsB, cT, cE, cP, cB, cX]
    | [a, b] => simp [formsR, fitsR, goR, fitsB, shapeP, kidsB, cT, cE, cP, cB, cX]
    | [a, b, c] => simp [formsR, fitsR, goR, fitsB, shapeP, kidsB, cT, cE, cP, cB, cX]
    | a :: b :: c :: d :: r => simp [formsR, fitsR, goR, fitsB, shapeP, kidsB, cT, cE, cP, cB, cX]
  by_cases k16 : k = 16
  · subst k16
    match ks with
    | [] => rfl
    | [a] => simp [formsR, fitsR, goR, fitsB, shapeP, kidsB, cT, cE, cP, cB, cX]
    | [a, b] => simp [formsR, fitsR, goR, fitsB, shapeP, kidsB, cT, cE, cP, cB, cX]
    | [a, b, c] => simp [formsR, fitsR, goR, fitsB, shapeP, kidsB, cT, cE, cP, cB, cX]
    | a :: b :: c :: d :: r => simp [formsR, fitsR, goR, fitsB, shapeP, kidsB, cT, cE, cP, cB, cX]
  by_cases k6 : k = 6
  · subst k6
    match ks with
    | [] => rfl
    | [a] => simp [formsR, fitsR, goR, fitsB, shapeP, kidsB, cT, cE, cP, cB, cX]
    | [a, b] => simp [formsR, fitsR, goR, fitsB, shapeP, kidsB, cT, cE, cP, cB, cX]
    | [a, b, c] => simp [formsR, fitsR, goR, fitsB, shapeP, kidsB, cT, cE, cP, cB, cX]
    | a :: b :: c :: d :: r => simp [formsR, fitsR, goR, fitsB, shapeP, kidsB, cT, cE, cP, cB, cX]
  by_cases k21 : k = 21
  · subst k21
    match ks with
    | [] => rfl
    | [a] => simp [formsR, fitsR, goR, fitsB, shapeP, kidsB, cT, cE, cP, cB, cX]
    | [a, b] => simp [formsR, fitsR, goR, fitsB, shapeP, kidsB, cT, cE, cP, cB, cX]
    | [a, b, c] => simp [formsR, fitsR, goR, fitsB, shapeP, kidsB, cT, cE, cP, cB, cX]
    | a :: b :: c :: d :: r => simp [formsR, fitsR, goR, fitsB, shapeP, kidsB, cT, cE, cP, cB, cX]
  by_cases k22 : k = 22
  · subst k22
    match ks with
    | [] => rfl
    | [a] => simp [formsR, fitsR, goR, fitsB, shapeP, kidsB, cT, cE, cP, cB, cX]
    | [a, b] => simp [formsR, fitsR, goR, fitsB, shapeP, kidsB, cT, cE, cP, cB, cX]
    | [a, b, c] => simp [formsR, fitsR, goR, fitsB, shapeP, kidsB, cT, cE, cP, cB, cX]
    | a :: b :: c :: d :: r => simp [formsR, fitsR, goR, fitsB, shapeP, kidsB, cT, cE, cP, cB, cX]
  by_cases k36 : k = 36
  · subst k36
    match ks with
    | [] => rfl
    | [a] => simp [formsR, fitsR, goR, fitsB, shapeP, kidsB, cT, cE, cP, cB, cX]
    | [a, b] => simp [formsR, fitsR, goR, fitsB, shapeP, kidsB, cT, cE, cP, cB, cX]
    | [a, b, c] => simp [formsR, fitsR, goR, fitsB, shapeP, kidsB, cT, cE, cP, cB, cX]
    | a :: b :: c :: d :: r => simp [formsR, fitsR, goR, fitsB, shapeP, kidsB, cT, cE, cP, cB, cX]
  by_cases k41 : k = 41
  · subst k41
    match ks with
    | [] => rfl
    | [a] => simp [formsR, fitsR, goR, fitsB, shapeP, kidsB, cT, cE, cP, cB, cX]
    | [a, b] => simp [formsR, fitsR, goR, fitsB, shapeP, kidsB, cT, cE, cP, cB, cX]
    | [a, b, c] => simp [formsR, fitsR, goR, fitsB, shapeP, kidsB, cT, cE, cP, cB, cX]
    | a :: b :: c :: d :: r => simp [formsR, fitsR, goR, fitsB, shapeP, kidsB, cT, cE, cP, cB, cX]
  by_cases k39 : k = 39
  · subst k39
    match ks with
    | [] => rfl
    | [a] => simp [formsR, fitsR, goR, fitsB, shapeP, kidsB, cT, cE, cP, cB, cX]
    | [a, b] => simp [formsR, fitsR, goR, fitsB, shapeP, kidsB, cT, cE, cP, cB, cX]
    | [a, b, c] => simp [formsR, fitsR, goR, fitsB, shapeP, kidsB, cT, cE, cP, cB, cX]
    | a :: b :: c :: d :: r => simp [formsR, fitsR, goR, fitsB, shapeP, kidsB, cT, cE, cP, cB, cX]
  by_cases k40 : k = 40
  · subst k40
    match ks with
    | [] => rfl
    | [a] => simp [formsR, fitsR, goR, fitsB, shapeP, kidsB, cT, cE, cP, cB, cX]
    | [a, b] => simp [formsR, fitsR, goR, fitsB, shapeP, kidsB, cT, cE, cP, cB, cX]
    | [a, b, c] => simp [formsR, fitsR, goR, fitsB, shapeP, kidsB, cT, cE, cP, cB, cX]
    | a :: b :: c :: d :: r => simp [formsR, fitsR, goR, fitsB, shapeP, kidsB, cT, cE, cP, cB, cX]
  by_cases k42 : k = 42
  · subst k42
    match ks with
    | [] => rfl
    | [a] => simp [formsR, fitsR, goR, fitsB, shapeP, kidsB, cT, cE, cP, cB, cX]
    | [a, b] => simp [formsR, fitsR, goR, fitsB, shapeP, kidsB, cT, cE, cP, cB, cX]
    | [a, b, c] => simp [formsR, fitsR, goR, fitsB, shapeP, kidsB, cT, cE, cP, cB, cX]
    | a :: b :: c :: d :: r => simp [formsR, fitsR, goR, fitsB, shapeP, kidsB, cT, cE, cP, cB, cX]
  by_cases k44 : k = 44
  · subst k44
    match ks with
    | [] => rfl
    | [a] => simp [formsR, fitsR, goR, fitsB, shapeP, kidsB, cT, cE, cP, cB, cX]
    | [a, b] => simp [formsR, fitsR, goR, fitsB, shapeP, kidsB, cT, cE, cP, cB, cX]
    | [a, b, c] => simp [formsR, fitsR, goR, fitsB, shapeP, kidsB, cT, cE, cP, cB, cX]
    | a :: b :: c :: d :: r => simp [formsR, fitsR, goR, fitsB, shapeP, kidsB, cT, cE, cP, cB, cX]
  by_cases k43 : k = 43
  · subst k43
    match ks with
    | [] => rfl
    | [a] => simp [formsR, fitsR, goR, fitsB, shapeP, kidsB, cT, cE, cP, cB, cX]
    | [a, b] => simp [formsR, fitsR, goR, fitsB, shapeP, kidsB, cT, cE, cP, cB, cX]
    | [a, b, c] => simp [formsR, fitsR, goR, fitsB, shapeP, kidsB, cT, cE, cP, cB, cX]
    | a :: b :: c :: d :: r => simp [formsR, fitsR, goR, fitsB, shapeP, kidsB, cT, cE, cP, cB, cX]
  by_cases k23 : k = 23
  · subst k23
    match ks with
    | [] => rfl
    | [a] => simp [formsR, fitsR, goR, fitsB, shapeP, kidsB, cT, cE, cP, cB, cX]
    | [a, b] => simp [formsR, fitsR, goR, fitsB, shapeP, kidsB, cT, cE, cP, cB, cX]
    | [a, b, c] => simp [formsR, fitsR, goR, fitsB, shapeP, kidsB, cT, cE, cP, cB, cX]
    | a :: b :: c :: d :: r => simp [formsR, fitsR, goR, fitsB, shapeP, kidsB, cT, cE, cP, cB, cX]
  by_cases k38 : k = 38
  · subst k38
    match ks with
    | [] => rfl
    | [a] => simp [formsR, fitsR, goR, fitsB, shapeP, kidsB, cT, cE, cP, cB, cX]
    | [a, b] => simp [formsR, fitsR, goR, fitsB, shapeP, kidsB, cT, cE, cP, cB, cX]
    | [a, b, c] => simp [formsR, fitsR, goR, fitsB, shapeP, kidsB, cT, cE, cP, cB, cX]
    | a :: b :: c :: d :: r => simp [formsR, fitsR, goR, fitsB, shapeP, kidsB, cT, cE, cP, cB, cX]
  by_cases k24 : k = 24
  · subst k24
    match ks with
    | [] => rfl
    | [a] => simp [formsR, fitsR, goR, fitsB, shapeP, kidsB, cT, cE, cP, cB, cX]
    | [a, b] => simp [formsR, fitsR, goR, fitsB, shapeP, kidsB, cT, cE, cP, cB, cX]
    | [a, b, c] => simp [formsR, fitsR, goR, fitsB, shapeP, kidsB, cT, cE, cP, cB, cX]
    | a :: b :: c :: d :: r => simp [formsR, fitsR, goR, fitsB, shapeP, kidsB, cT, cE, cP, cB, cX]
  by_cases k25 : k = 25
  · subst k25
    match ks with
    | [] => rfl
    | [a] => simp [formsR, fitsR, goR, fitsB, shapeP, kidsB, cT, cE, cP, cB, cX]
    | [a, b] => simp [formsR, fitsR, goR, fitsB, shapeP, kidsB, cT, cE, cP, cB, cX]
    | [a, b, c] => simp [formsR, fitsR, goR, fitsB, shapeP, kidsB, cT, cE, cP, cB, cX]
    | a :: b :: c :: d :: r => simp [formsR, fitsR, goR, fitsB, shapeP, kidsB, cT, cE, cP, cB, cX]
  by_cases k37 : k = 37
  · subst k37
    match ks with
    | [] => rfl
    | [a] => simp [formsR, fitsR, goR, fitsB, shapeP, kidsB, cT, cE, cP, cB, cX]
    | [a, b] => simp [formsR, fitsR, goR, fitsB, shapeP, kidsB, cT, cE, cP, cB, cX]
    | [a, b, c] => simp [formsR, fitsR, goR, fitsB, shapeP, kidsB, cT, cE, cP, cB, cX]
    | a :: b :: c :: d :: r => simp [formsR, fitsR, goR, fitsB, shapeP, kidsB, cT, cE, cP, cB, cX]
  by_cases k45 : k = 45
  · subst k45
    match ks with
    | [] => rfl
    | [a] => simp [formsR, fitsR, goR, fitsB, shapeP, kidsB, cT, cE, cP, cB, cX]
    | [a, b] => simp [formsR, fitsR, goR, fitsB, shapeP, kidsB, cT, cE, cP, cB, cX]
    | [a, b, c] => simp [formsR, fitsR, goR, fitsB, shapeP, kidsB, cT, cE, cP, cB, cX]
    | a :: b :: c :: d :: r => simp [formsR, fitsR, goR, fitsB, shapeP, kidsB, cT, cE, cP, cB, cX]
  by_cases k47 : k = 47
  · subst k47
    match ks with
    | [] => rfl
    | [a] => simp [formsR, fitsR, goR, fitsB, shapeP, kidsB, cT, cE, cP, cB, cX]
    | [a, b] => simp [formsR, fitsR, goR, fitsB, shapeP, kidsB, cT, cE, cP, cB, cX]
    | [a, b, c] => simp [formsR, fitsR, goR, fitsB, shapeP, kidsB, cT, cE, cP, cB, cX]
    | a :: b :: c :: d :: r => simp [formsR, fitsR, goR, fitsB, shapeP, kidsB, cT, cE, cP, cB, cX]
  by_cases k54 : k = 54
  · subst k54
    match ks with
    | [] => rfl
    | [a] => simp [formsR, fitsR, goR, fitsB, shapeP, kidsB, cT, cE, cP, cB, cX]
    | [a, b] => simp [formsR, fitsR, goR, fitsB, shapeP, kidsB, cT, cE, cP, cB, cX]
    | [a, b, c] => simp [formsR, fitsR, goR, fitsB, shapeP, kidsB, cT, cE, cP, cB, cX]
    | a :: b :: c :: d :: r => simp [formsR, fitsR, goR, fitsB, shapeP, kidsB, cT, cE, cP, cB, cX]
  by_cases k46 : k = 46
  · subst k46
    show (fitsR v ks [69, 42, 65] || false) = (decide (1 + 0 ≤ ks.length) && (kidsB [101] (ks.take 1) && ((ks.take (ks.length - 0)).drop 1).all (lett 97) && kidsB [] (ks.drop (ks.length - 0))))
    rw [Bool.or_false]
    cases ks with
    | nil => rfl
    | cons a r =>
      show (lettR 69 a && r.all (lettR 65)) = _
      have e : lettR 65 = lett 97 := by funext a; exact cA a
      rw [cE, e]
      simp [kidsB]
  have e1 : formsR k = [[]] := by unfold formsR; simp only [k1, k3, k4, k34, k35, k5, k7, k14, k15, k16, k6, k21, k22, k36, k41, k39, k40, k42, k44, k43, k23, k38, k24, k25, k37, k45, k47, k54, k46, k2, k20, if_false, or_self]
  have e2 : fitsB k v ks = kidsB [] ks := by unfold fitsB shapeP; simp only [k1, k3, k4, k34, k35, k5, k7, k14, k15, k16, k6, k21, k22, k36, k41, k39, k40, k42, k44, k43, k23, k38, k24, k25, k37, k45, k47, k54, k46, k2, k20, if_false, or_self]
  rw [e1, e2]
  show (goR [] ks || false) = _
  rw [Bool.or_false]; rfl

def nodeR (t : List Nd) (i : Nat) : Bool :=
  let x := t.getD i default
  knownB x.k && (nmB x.k x.t && (countR x.k x.v && (decide (0 ≤ x.f) && (decide (x.f ≤ x.e) && (x.kids.all (fun k => decide (0 ≤ k) && decide (k < i)) && (formsR x.k).any (fitsR x.v (kinds t x.kids)))))))
theorem node_eq (t : List Nd) (i : Nat) (hv : I64 (t.getD i default).v) : nodeR t i = nodeB t i := by
  unfold nodeR nodeB
  simp only
  generalize t.getD i default = x at hv
  obtain ⟨q, tx, v, kids, f, e⟩ := x
  simp only at hv ⊢
  rw [count_num hv]
  cases knownB q
  · simp
  cases nmB q tx
  · simp
  cases decide (0 ≤ f)
  · simp
  cases decide (f ≤ e)
  · simp
  cases kids.all (fun k => decide (0 ≤ k) && decide (k < (i : Int)))
  · simp
  simp only [Bool.true_and, Bool.and_true]
  by_cases k2 : q = 2
  · subst k2
    rw [if_pos rfl, show countR 2 v = true from rfl, Bool.true_and]
    show (fitsR v (kinds t kids) [102, 110] || false) = _
    rw [Bool.or_false, show fitsR v (kinds t kids) [102, 110] = fnR v (kinds t kids) from rfl, fn_eq]
  rw [if_neg k2]
  cases hc : countR q v with
  | false => simp
  | true =>
    simp only [Bool.true_and]
    refine anyR q (fun e => absurd e k2) (fun e => ?_)
    subst e
    have : (decide (v = 0) || decide (v = 1)) = true := hc
    simpa using this

theorem take_all {p : Int → Bool} {ks : List Int} {n : Nat} (hn : n ≤ ks.length) : (ks.take n).all p = true ↔ ∀ j, j < n → p (ks.getD j 0) = true := by
  rw [List.all_eq_true]
  constructor
  · intro h j hj
    refine h _ ?_
    rw [List.getD_eq_getElem?_getD, List.getElem?_eq_getElem (by omega : j < ks.length)]
    exact List.mem_take_iff_getElem.2 ⟨j, by omega, rfl⟩
  · intro h k hk
    obtain ⟨j, hj, rfl⟩ := List.mem_take_iff_getElem.1 hk
    have := h j (by omega)
    rwa [List.getD_eq_getElem?_getD, List.getElem?_eq_getElem (by omega : j < ks.length)] at this
theorem drop_all {p : Int → Bool} {ks : List Int} {n : Nat} : (ks.drop n).all p = true ↔ ∀ j, n ≤ j → j < ks.length → p (ks.getD j 0) = true := by
  rw [List.all_eq_true]
  constructor
  · intro h j hj hl
    refine h _ ?_
    rw [List.getD_eq_getElem?_getD, List.getElem?_eq_getElem hl]
    exact List.mem_drop_iff_getElem.2 ⟨j - n, by omega, by simp [show n + (j - n) = j by omega]⟩
  · intro h k hk
    obtain ⟨j, hj, rfl⟩ := List.mem_drop_iff_getElem.1 hk
    have := h (n + j) (by omega) (by omega)
    rwa [List.getD_eq_getElem?_getD, List.getElem?_eq_getElem (by omega : n + j < ks.length)] at this
theorem not_all {α : Type} {p : α → Bool} {l : List α} (h : ¬ l.all p = true) : l.all p = false := by
  cases hb : l.all p with
  | false => rfl
  | true => exact absurd hb h
theorem kinds_get {t : List Nd} {l : List Int} {i : Nat} (h : i < l.length) : (kinds t l).getD i 0 = kindAt t (l.getD i 0) := by
  unfold kinds
  simp only [List.getD_eq_getElem?_getD, List.getElem?_map, List.getElem?_eq_getElem h, Option.map_some, Option.getD_some]
theorem kinds_len {t : List Nd} {l : List Int} : (kinds t l).length = l.length := List.length_map ..
theorem occ2 (s : List UInt8) (i : Nat) : decide ((s.take (i + 2)).drop i = [58, 58]) = Lib.occAt s [58, 58] i := by
  rw [List.drop_take, show i + 2 - i = 2 by omega]
  unfold Lib.occAt
  match s.drop i with
  | [] => rfl
  | [a] =>
    show decide (([a] : List UInt8) = [58, 58]) = (((58 : UInt8) == a) && false)
    rw [Bool.and_false]; exact decide_eq_false (by simp)
  | a :: b :: r =>
    show decide (([a, b] : List UInt8) = [58, 58]) = (((58 : UInt8) == a) && (((58 : UInt8) == b) && true))
    rw [Bool.eq_iff_iff]
    simp only [decide_eq_true_eq, List.cons.injEq, and_true, Bool.and_true, Bool.and_eq_true, beq_iff_eq]
    constructor
    · rintro ⟨h1, h2⟩; exact ⟨h1.symm, h2.symm⟩
    · rintro ⟨h1, h2⟩; exact ⟨h1.symm, h2.symm⟩
theorem cut_hit {s : List UInt8} {i : Nat} (h : Lib.NoOcc s [58, 58] i) (hi : i + 2 ≤ s.length) (ho : Lib.occAt s [58, 58] i = true) : cutT s = (s.take i, s.drop (i + 2), true) := by
  unfold cutT Lib.cut
  rw [Lib.index_hit h (by omega) ho, if_pos (by omega)]
  rfl
theorem cut_miss {s : List UInt8} {i : Nat} (h : Lib.NoOcc s [58, 58] i) (hi : s.length < i + 2) : (cutT s).2.2 = false := by
  unfold cutT Lib.cut
  rw [Lib.index_past (by simp) h (by simpa using hi)]
  rfl
end Go.Vm.Tp
namespace Go.Vm.Tp
def inB (up : List Int) (n i : Nat) (l : List Bool) : Bool := decide (i = n) || (decide (up.getD i (-1) ≤ n) && (decide (0 ≤ up.getD i (-1)) && l.getD (up.getD i (-1)).toNat false))
def inGo (up : List Int) (n : Nat) : Nat → List Bool → List Bool
  | 0, l => l
  | i + 1, l => inGo up n i (l.set i (inB up n i l))
def insT (up : List Int) (n : Nat) : List Bool := inGo up n (n + 1) (List.replicate (n + 1) false)
def subK (pl : List Int) (x : Nd) : Nd := ⟨x.k, x.t, x.v, x.kids.map fun k => pl.getD k.toNat 0, x.f, x.e⟩
def subGo (t : List Nd) (ins : List Bool) : Nat → Nat → List Int → List Nd → List Nd
  | 0, _, _, out => out
  | m + 1, i, pl, out => if ins.getD i false = true then subGo t ins m (i + 1) (pl.set i out.length) (out ++ [subK (pl.set i out.length) (t.getD i default)]) else subGo t ins m (i + 1) pl out
def subT (t : List Nd) (up : List Int) (n : Nat) : List Nd := subGo t (insT up n) (n + 1) 0 (List.replicate (n + 1) 0) []
def subA (t : List Nd) (n : Int) : List Nd × Int := if checkB t = true then (if n < 0 ∨ (t.length : Int) ≤ n then ([], 9) else (subT t (upT t) n.toNat, 0)) else ([], 3)
end Go.Vm.Tp
namespace Go.Vm.Tp
end Go.Vm.Tp
