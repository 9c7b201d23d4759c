import Derived.Test.YtnhoonglfejdeaaDoorVmPrim
import Derived.Lib.ItoaNum
import Derived.Lib.Join
import Derived.Lib.Fields
import Derived.Sort.Grow
import Derived.Lib.LaidTab
import Derived.Deep.Draws
/- Library functions on texts and numbers, as the machine's own. -/
namespace Go.Vm
open Go.RowKit
def primItoa : List V → Hp → Option (V × Hp)
  | [.d (.int .i64 n)], H => if -9223372036854775808 ≤ n ∧ n ≤ 9223372036854775807 then some (.d (.str (Lib.itoa n)), H) else none
  | _, _ => none
def primFmt : List V → Hp → Option (V × Hp)
  | [.d (.int .i64 n), .d (.int .i64 b)], H => if (-9223372036854775808 ≤ n ∧ n ≤ 9223372036854775807) ∧ b = 10 then some (.d (.str (Lib.itoa n)), H) else none
  | _, _ => none
def strsOf : List D → Option (List (List UInt8))
  | [] => some []
  | .str s :: r => (strsOf r).map (s :: ·)
  | _ => none
theorem strsOf_map : ∀ l : List (List UInt8), strsOf (l.map .str) = some l
  | [] => rfl
  | s :: r => by simp [strsOf, strsOf_map r]
def primJoin : List V → Hp → Option (V × Hp)
  | [.d (.sl l), .d (.str sep)], H => match strsOf l with
    | some xs => if xs.length ≤ 140737488355328 ∧ (Lib.join xs sep).length ≤ 140737488355328 then some (.d (.str (Lib.join xs sep)), H) else none
    | none => none
  | _, _ => none
def primFields : List V → Hp → Option (V × Hp)
  | [.d (.str s)], H => if s.length < 4294967281 ∧ s.all (fun b => decide (b.toNat < 128)) = true then some (.d (.sl ((Lib.fields s).map .str)), H) else none
  | _, _ => none
section
variable {P : Program} {cx : Cx}
def IsCode (P : Program) (f : Nat) : Prop := ∃ fn, P.funcs[f]? = some fn ∧ fn.body.isNone = false ∧ (fn.name == "runtime.NumGoroutine") = false
/-- A table of numbers that is known whole. -/
def TabAt (P : Program) (cx : Cx) (name : String) (k : IntKind) (zs : List Int) : Prop := ∃ i t fz, P.globalNamed name = some i ∧ cx.fx i = some (.cells (zs.map fun z => Value.int k z).toArray t fz)
theorem TabAt.is {name : String} {k : IntKind} {zs : List Int} (h : TabAt P cx name k zs) {g : Gh} {H : Hp} {w : World} (hI : Inv cx g H w) : Lib.TabIs P w name k zs := by
  obtain ⟨i, t, fz, h1, h2⟩ := h
  exact var_of hI h1 h2
theorem below_grow (w : World) (k : Nat) (os : Array Obj) : Below w.heap.size w (Sort.grow (w.drewN k) os) := by
  refine ⟨rfl, rfl, rfl, ?_, fun b hb => ?_⟩
  · show w.heap.size ≤ (w.heap ++ os).size
    simp
  · show (w.heap ++ os)[b]? = w.heap[b]?
    rw [Array.getElem?_append_left hb]
theorem itoa_spec {f : Nat} (hf : IsCode P f) (htab : TabAt P cx "internal/strconv.uint64pow10" .u64 Lib.pow10Tab)
    (hc : ∀ (n : Int), -9223372036854775808 ≤ n → n ≤ 9223372036854775807 → ∀ w : World, Lib.TabIs P w "internal/strconv.uint64pow10" .u64 Lib.pow10Tab → Calls P f #[.int .i64 n] w fun e w' => e = .returned (.string ⟨(Lib.itoa n).toArray⟩) ∧ ∃ k os, w' = Sort.grow (w.drewN k) os) :
    ∀ args H r H', primItoa args H = some (r, H') → FnSpec P cx f args H r H' := by
  intro args H r H' h
  unfold primItoa at h
  split at h
  · rename_i H0 n
    split at h
    · rename_i hn
      cases h
      refine prim_of hf fun g w cargs hI ra => ?_
      obtain ⟨ys, e1, r1⟩ := args_int ra
      rw [args_nil r1] at e1
      have : cargs = #[.int .i64 n] := by apply Array.toList_inj.1; exact e1
      subst this
      refine (hc n hn.1 hn.2 w (htab.is hI)).mono fun e w' he => ?_
      obtain ⟨e2, k, os, rfl⟩ := he
      exact ⟨_, e2, by simp only [RepD, RepCs], below_grow w k os⟩
    · cases h
  · cases h
theorem fmt_spec {f : Nat} (hf : IsCode P f) (htab : TabAt P cx "internal/strconv.uint64pow10" .u64 Lib.pow10Tab)
    (hc : ∀ (n : Int), -9223372036854775808 ≤ n → n ≤ 9223372036854775807 → ∀ w : World, Lib.TabIs P w "internal/strconv.uint64pow10" .u64 Lib.pow10Tab → Calls P f #[.int .i64 n, .int .i64 10] w fun e w' => e = .returned (.string ⟨(Lib.itoa n).toArray⟩) ∧ ∃ k os, w' = Sort.grow (w.drewN k) os) :
    ∀ args H r H', primFmt args H = some (r, H') → FnSpec P cx f args H r H' := by
  intro args H r H' h
  unfold primFmt at h
  split at h
  · rename_i H0 n b
    split at h
    · rename_i hn
      obtain ⟨hn, rfl⟩ := hn
      cases h
      refine prim_of hf fun g w cargs hI ra => ?_
      obtain ⟨ys, e1, r1⟩ := args_int ra
      obtain ⟨zs, e2, r2⟩ := args_int r1
      rw [args_nil r2] at e2
      rw [e2] at e1
      have : cargs = #[.int .i64 n, .int .i64 10] := by apply Array.toList_inj.1; exact e1
      subst this
      refine (hc n hn.1 hn.2 w (htab.is hI)).mono fun e w' he => ?_
      obtain ⟨e2, k, os, rfl⟩ := he
      exact ⟨_, e2, by simp only [RepD, RepCs], below_grow w k os⟩
    · cases h
  · cases h
theorem strsOf_eq : ∀ {l : List D} {xs : List (List UInt8)}, strsOf l = some xs → l = xs.map .str
  | [], xs, h => by cases h; rfl
  | .str s :: r, xs, h => by
    simp only [strsOf, Option.map_eq_some_iff] at h
    obtain ⟨ys, h1, rfl⟩ := h
    rw [strsOf_eq h1]; rfl
  | .bool _ :: _, _, h => by simp [strsOf] at h
  | .int _ _ :: _, _, h => by simp [strsOf] at h
  | .sl _ :: _, _, h => by simp [strsOf] at h
  | .agg _ :: _, _, h => by simp [strsOf] at h
theorem RepEl_strs {C : Nat → List Value} {sz : Nat} : ∀ {xs : List (List UInt8)} {us : List Value}, RepEl C sz (xs.map .str) us → ∀ (j : Nat) x, xs[j]? = some x → us[j]? = some (.string ⟨x.toArray⟩)
  | [], us, _, j, x, hx => by simp at hx
  | s :: r, us, h, j, x, hx => by
    simp only [List.map_cons, RepEl] at h
    obtain ⟨v1, v2, rfl, h1, h2, h3⟩ := h
    simp only [RepCs] at h2
    subst h2
    cases j with
    | zero => simp only [List.getElem?_cons_zero, Option.some.injEq] at hx; subst hx; rfl
    | succ j =>
      simp only [List.getElem?_cons_succ] at hx
      simp only [List.singleton_append, List.getElem?_cons_succ]
      exact RepEl_strs h3 j x hx
theorem join_spec {f : Nat} (hf : IsCode P f)
    (hc0 : ∀ (a : Option Addr) (c : Nat) (sep : ByteArray) (w : World), Calls P f #[.slice a 0 c, .string sep] w fun e w' => e = .returned (.string ⟨#[]⟩) ∧ w' = w)
    (hc : ∀ (bk o c : Nat) (xs : List ByteArray) (sep : ByteArray) (w : World), (∀ (j : Nat) x, xs[j]? = some x → w.cell? ⟨bk, o + j, none⟩ = some (.string x)) → bk < w.heap.size → xs.length ≤ 140737488355328 → xs.length ≤ c → (Lib.join (xs.map (·.data.toList)) sep.data.toList).length ≤ 140737488355328 →
      Calls P f #[.slice (some ⟨bk, o, none⟩) xs.length c, .string sep] w fun e w' => e = .returned (.string ⟨(Lib.join (xs.map (·.data.toList)) sep.data.toList).toArray⟩) ∧ Below w.heap.size w w') :
    ∀ args H r H', primJoin args H = some (r, H') → FnSpec P cx f args H r H' := by
  intro args H r H' h
  unfold primJoin at h
  split at h
  · rename_i H0 l sep
    split at h
    · rename_i xs hxs
      split at h
      · rename_i hn
        have hl := strsOf_eq hxs
        cases h
        refine prim_of hf fun g w cargs hI ra => ?_
        simp only [RepTs] at ra
        obtain ⟨y, ys, e1, r1, z, zs, e2, r2, r3⟩ := ra
        subst r3
        subst e2
        simp only [Rep, RepD, RepCs, List.cons.injEq, and_true] at r1 r2
        subst r2
        obtain ⟨a, cap, e3, hcap, hr⟩ := r1
        subst e3
        have : cargs = #[.slice a l.length cap, .string ⟨sep.toArray⟩] := by apply Array.toList_inj.1; exact e1
        subst this
        have hm : (xs.map fun x => (⟨x.toArray⟩ : ByteArray)).map (·.data.toList) = xs := by rw [List.map_map]; exact List.map_id'' (fun x => rfl) xs
        rcases hr with hr | ⟨b, off, sz, us, rfl, hsz, hp, hel⟩
        · rw [hl] at hr
          have hx0 : xs = [] := by simpa using hr
          subst hx0
          subst hl
          refine (hc0 a cap _ w).mono fun e w' he => ?_
          obtain ⟨e4, rfl⟩ := he
          exact ⟨_, e4, by simp [RepD, RepCs, Lib.join_nil], Below.refl _ _⟩
        · rw [hl] at hel
          by_cases hx0 : xs = []
          · subst hx0
            subst hl
            refine (hc0 _ cap _ w).mono fun e w' he => ?_
            obtain ⟨e4, rfl⟩ := he
            exact ⟨_, e4, by simp [RepD, RepCs, Lib.join_nil], Below.refl _ _⟩
          have hCb : g.C b ≠ [] := by
            intro h0
            rw [h0] at hp
            simp at hp
            subst hp
            cases xs with
            | nil => exact hx0 rfl
            | cons x r =>
              have := RepEl_strs hel 0 x rfl
              simp at this
          obtain ⟨cur, e, fz, q1, q2⟩ := hI.imm b hCb
          have hll : l.length = (xs.map fun x => (⟨x.toArray⟩ : ByteArray)).length := by rw [hl]; simp
          rw [hll] at hcap ⊢
          refine (hc b off cap _ ⟨sep.toArray⟩ w (fun j x hx => ?_) (Array.getElem?_eq_some_iff.1 q1).1 (by simpa using hn.1) hcap (by rw [hm]; exact hn.2)).mono fun e w' he => ?_
          · rw [List.getElem?_map, Option.map_eq_some_iff] at hx
            obtain ⟨x', hx1, rfl⟩ := hx
            have hu := RepEl_strs hel j x' hx1
            have h3 := prefix_getElem hp hu
            rw [List.getElem?_drop] at h3
            have h4 := prefix_getElem q2 h3
            unfold World.cell?
            simp only [q1]
            simpa using h4
          · rw [hm] at he
            exact ⟨_, he.1, by simp only [RepD, RepCs], he.2⟩
      · cases h
    · cases h
  · cases h
theorem fields_spec {f : Nat} {T : TypeId} (hf : IsCode P f) (htab : TabAt P cx "strings.asciiSpace" .u8 Lib.asciiSpaceTab)
    (hc : ∀ (s : ByteArray) (w : World), s.size < 4294967281 → (∀ (j : Nat) b, s.data.toList[j]? = some b → b.toNat < 128) → Lib.TabIs P w "strings.asciiSpace" .u8 Lib.asciiSpaceTab →
      Calls P f #[.string s] w fun e w' => e = .returned (.slice (some ⟨w.heap.size, 0, none⟩) (Lib.fields s.data.toList).length (Lib.fields s.data.toList).length) ∧ w' = w.alloc (.cells ((Lib.fields s.data.toList).map fun l => Value.string ⟨l.toArray⟩).toArray T)) :
    ∀ args H r H', primFields args H = some (r, H') → FnSpec P cx f args H r H' := by
  intro args H r H' h
  unfold primFields at h
  split at h
  · rename_i H0 s
    split at h
    · rename_i hn
      cases h
      refine ⟨hf, fun g w cargs hI ra ua => ?_⟩
      obtain ⟨ys, e1, r1⟩ := args_str ra
      rw [args_nil r1] at e1
      have : cargs = #[.string ⟨s.toArray⟩] := by apply Array.toList_inj.1; exact e1
      subst this
      refine (hc ⟨s.toArray⟩ w (by simpa [ByteArray.size] using hn.1) (fun j b hb => ?_) (htab.is hI)).mono fun e w' he => ?_
      · have := List.all_eq_true.1 hn.2 b (List.mem_of_getElem? hb)
        simpa using this
      · obtain ⟨e2, rfl⟩ := he
        simp only at e2 ⊢
        obtain ⟨g', i1, i2, i3⟩ := hI.lit (nb := H.length) (cs := ((Lib.fields s).map fun l => Value.string ⟨l.toArray⟩).toArray) (T := T)
        refine ⟨g', _, e2, i1, ?_, rfl, i2⟩
        simp only [Rep, RepD, RepCs]
        refine ⟨some ⟨w.heap.size, 0, none⟩, (Lib.fields s).length, by simp, by simp, .inr ⟨w.heap.size, 0, 1, _, rfl, by decide, by rw [i3]; exact List.prefix_refl _, ?_⟩⟩
        generalize Lib.fields s = l
        induction l with
        | nil => simp [RepEl]
        | cons x r ih => 
          simp only [List.map_cons, RepEl]
          exact ⟨[.string ⟨x.toArray⟩], _, rfl, rfl, by simp only [RepCs], by simpa using ih⟩
    · cases h
  · cases h
end
end Go.Vm
