import Derived.Test.YtbaoljbcdjdnlaaGreatDoorVmRow
import Derived.Below
import Derived.Lib.ItoaNum
import Derived.Lib.Join
import Derived.Lib.Fields
import Derived.Sort.Grow
import Derived.Lib.LaidTab
import Derived.Deep.Draws
import Derived.Lib.Bytealg
import Derived.Lib.LastIndexByte
import Derived.Lib.ParseIntB
import Derived.Lib.Strings
import Derived.Lib.CutLaws
set_option linter.unusedSimpArgs false
set_option linter.unusedVariables false
namespace Go.Vm
open Go.RowKit
section
variable {P : Program} {cx : Cx} {g : Gh} {H : Hp} {w w' : World}
theorem Inv.below (hI : Inv cx g H w) (h : Below w.heap.size w w') : Inv cx g H w' ∧ Ext H.length g H w g H w' := by
  have hk : Keep H.length g H g H := Keep.refl _ _ _
  refine ⟨⟨hI.inj, fun i b c hj => ⟨(hI.dom i b c hj).1, Nat.lt_of_lt_of_le (hI.dom i b c hj).2 h.size⟩, fun i b c o hj ho => ?_, fun b hb => ?_, hI.und, hI.glob, hI.fix.mono fun b hb hn => ⟨h.block b hb, hn⟩⟩, ⟨h.os, h.tape, h.output, h.size, fun b hb _ => ⟨h.block b hb, rfl⟩, hk, fun i b c hj _ => ⟨i, c, hj⟩, fun _ _ h => h, Nat.le_refl _⟩⟩
  · have hd := hI.dom i b c hj
    exact (hI.ob i b c o hj ho).ext hk.w (h.block b hd.2) rfl (by rintro c' rfl; exact hI.und i c' hd.1 ho)
  · obtain ⟨cur, e, fz, h1, h2⟩ := hI.imm b hb
    exact ⟨cur, e, fz, by rw [h.block b (Array.getElem?_eq_some_iff.1 h1).1]; exact h1, h2⟩
theorem prim_of {f : Nat} {args : List V} {r : D} (hfn : ∃ fn, P.funcs[f]? = some fn ∧ fn.body.isNone = false ∧ (fn.name == "runtime.NumGoroutine") = false)
    (hc : ∀ g w (cargs : Array Value), Inv cx g H w → RepTs g H args cargs.toList → Calls P f cargs w fun e w' => ∃ x, e = .returned x ∧ RepD g.C r x ∧ Below w.heap.size w w') : FnSpec P cx f args H (.d r) H := by
  refine ⟨hfn, fun g w cargs hI ra ua => (hc g w cargs hI ra).mono fun e w' he => ?_⟩
  obtain ⟨x, h1, h2, h3⟩ := he
  obtain ⟨k1, k2⟩ := hI.below h3
  exact ⟨g, x, h1, k1, by simpa only [Rep] using h2, rfl, k2⟩
theorem var_of (hI : Inv cx g H w) {n : String} {i : Nat} (hg : P.globalNamed n = some i) {cs : Array Value} {t : TypeId} {fz : Nat × Nat} (hf : cx.fx i = some (.cells cs t fz)) : w.var? P n = some cs := by
  unfold World.var?
  rw [hg]
  simp only [Option.bind_some, (hI.fix i _ hf).1]
theorem args_str {s : List UInt8} {r : List V} {vs : List Value} (h : RepTs g H (.d (.str s) :: r) vs) : ∃ ys, vs = .string ⟨s.toArray⟩ :: ys ∧ RepTs g H r ys := by
  simp only [RepTs] at h
  obtain ⟨y, ys, rfl, h1, h2⟩ := h
  simp only [Rep, RepD, RepCs, List.cons.injEq, and_true] at h1
  exact ⟨ys, by rw [h1], h2⟩
theorem args_int {k : IntKind} {n : Int} {r : List V} {vs : List Value} (h : RepTs g H (.d (.int k n) :: r) vs) : ∃ ys, vs = .int k n :: ys ∧ RepTs g H r ys := by
  simp only [RepTs] at h
  obtain ⟨y, ys, rfl, h1, h2⟩ := h
  simp only [Rep, RepD, RepCs, List.cons.injEq, and_true] at h1
  exact ⟨ys, by rw [h1], h2⟩
theorem args_nil {vs : List Value} (h : RepTs g H [] vs) : vs = [] := by simpa only [RepTs] using h
end
end Go.Vm
namespace Go.Vm
open Go.RowKit
def primFmt : List V → Hp → Option (V × Hp)
  | [.d (.int .i64 n), .d (.int .i64 b)], H => if (-9223372036854775808 ≤ n ∧ n ≤ 9223372036854775807) ∧ b = 10 then some (.d (.str (Lib.itoa n)), H) else none
  | _, _ => none
def strsOf : List D → Option (List (List UInt8))
  | [] => some []
  | .str s :: r => (strsOf r).map (s :: ·)
  | _ => none
theorem strsOf_map : ∀ l : List (List UInt8), strsOf (l.map .str) = some l
  | [] => rfl
  | s :: r => by simp [strsOf, strsOf_map r]
def primJoin : List V → Hp → Option (V × Hp)
  | [.d (.sl l), .d (.str sep)], H => match strsOf l with
    | some xs => if xs.length ≤ 140737488355328 ∧ (Lib.join xs sep).length ≤ 140737488355328 then some (.d (.str (Lib.join xs sep)), H) else none
    | none => none
  | _, _ => none
section
variable {P : Program} {cx : Cx}
def IsCode (P : Program) (f : Nat) : Prop := ∃ fn, P.funcs[f]? = some fn ∧ fn.body.isNone = false ∧ (fn.name == "runtime.NumGoroutine") = false
def TabAt (P : Program) (cx : Cx) (name : String) (k : IntKind) (zs : List Int) : Prop := ∃ i t fz, P.globalNamed name = some i ∧ cx.fx i = some (.cells (zs.map fun z => Value.int k z).toArray t fz)
theorem TabAt.is {name : String} {k : IntKind} {zs : List Int} (h : TabAt P cx name k zs) {g : Gh} {H : Hp} {w : World} (hI : Inv cx g H w) : Lib.TabIs P w name k zs := by
  obtain ⟨i, t, fz, h1, h2⟩ := h
  exact var_of hI h1 h2
theorem below_grow (w : World) (k : Nat) (os : Array Obj) : Below w.heap.size w (Sort.grow (w.drewN k) os) := by
  refine ⟨rfl, rfl, rfl, ?_, fun b hb => ?_⟩
  · show w.heap.size ≤ (w.heap ++ os).size
    simp
  · show (w.heap ++ os)[b]? = w.heap[b]?
    rw [Array.getElem?_append_left hb]
theorem fmt_spec {f : Nat} (hf : IsCode P f) (htab : TabAt P cx "internal/strconv.uint64pow10" .u64 Lib.pow10Tab)
    (hc : ∀ (n : Int), -9223372036854775808 ≤ n → n ≤ 9223372036854775807 → ∀ w : World, Lib.TabIs P w "internal/strconv.uint64pow10" .u64 Lib.pow10Tab → Calls P f #[.int .i64 n, .int .i64 10] w fun e w' => e = .returned (.string ⟨(Lib.itoa n).toArray⟩) ∧ ∃ k os, w' = Sort.grow (w.drewN k) os) :
    ∀ args H r H', primFmt args H = some (r, H') → FnSpec P cx f args H r H' := by
  intro args H r H' h
  unfold primFmt at h
  split at h
  · rename_i H0 n b
    split at h
    · rename_i hn
      obtain ⟨hn, rfl⟩ := hn
      cases h
      refine prim_of hf fun g w cargs hI ra => ?_
      obtain ⟨ys, e1, r1⟩ := args_int ra
      obtain ⟨zs, e2, r2⟩ := args_int r1
      rw [args_nil r2] at e2
      rw [e2] at e1
      have : cargs = #[.int .i64 n, .int .i64 10] := by apply Array.toList_inj.1; exact e1
      subst this
      refine (hc n hn.1 hn.2 w (htab.is hI)).mono fun e w' he => ?_
      obtain ⟨e2, k, os, rfl⟩ := he
      exact ⟨_, e2, by simp only [RepD, RepCs], below_grow w k os⟩
    · cases h
  · cases h
theorem strsOf_eq : ∀ {l : List D} {xs : List (List UInt8)}, strsOf l = some xs → l = xs.map .str
  | [], xs, h => by cases h; rfl
  | .str s :: r, xs, h => by
    simp only [strsOf, Option.map_eq_some_iff] at h
    obtain ⟨ys, h1, rfl⟩ := h
    rw [strsOf_eq h1]; rfl
  | .bool _ :: _, _, h => by simp [strsOf] at h
  | .int _ _ :: _, _, h => by simp [strsOf] at h
  | .sl _ :: _, _, h => by simp [strsOf] at h
  | .agg _ :: _, _, h => by simp [strsOf] at h
theorem RepEl_strs {C : Nat → List Value} {sz : Nat} : ∀ {xs : List (List UInt8)} {us : List Value}, RepEl C sz (xs.map .str) us → ∀ (j : Nat) x, xs[j]? = some x → us[j]? = some (.string ⟨x.toArray⟩)
  | [], us, _, j, x, hx => by simp at hx
  | s :: r, us, h, j, x, hx => by
    simp only [List.map_cons, RepEl] at h
    obtain ⟨v1, v2, rfl, h1, h2, h3⟩ := h
    simp only [RepCs] at h2
    subst h2
    cases j with
    | zero => simp only [List.getElem?_cons_zero, Option.some.injEq] at hx; subst hx; rfl
    | succ j =>
      simp only [List.getElem?_cons_succ] at hx
      simp only [List.singleton_append, List.getElem?_cons_succ]
      exact RepEl_strs h3 j x hx
theorem join_spec {f : Nat} (hf : IsCode P f)
    (hc0 : ∀ (a : Option Addr) (c : Nat) (sep : ByteArray) (w : World), Calls P f #[.slice a 0 c, .string sep] w fun e w' => e = .returned (.string ⟨#[]⟩) ∧ w' = w)
    (hc : ∀ (bk o c : Nat) (xs : List ByteArray) (sep : ByteArray) (w : World), (∀ (j : Nat) x, xs[j]? = some x → w.cell? ⟨bk, o + j, none⟩ = some (.string x)) → bk < w.heap.size → xs.length ≤ 140737488355328 → xs.length ≤ c → (Lib.join (xs.map (·.data.toList)) sep.data.toList).length ≤ 140737488355328 →
      Calls P f #[.slice (some ⟨bk, o, none⟩) xs.length c, .string sep] w fun e w' => e = .returned (.string ⟨(Lib.join (xs.map (·.data.toList)) sep.data.toList).toArray⟩) ∧ Below w.heap.size w w') :
    ∀ args H r H', primJoin args H = some (r, H') → FnSpec P cx f args H r H' := by
  intro args H r H' h
  unfold primJoin at h
  split at h
  · rename_i H0 l sep
    split at h
    · rename_i xs hxs
      split at h
      · rename_i hn
        have hl := strsOf_eq hxs
        cases h
        refine prim_of hf fun g w cargs hI ra => ?_
        simp only [RepTs] at ra
        obtain ⟨y, ys, e1, r1, z, zs, e2, r2, r3⟩ := ra
        subst r3
        subst e2
        simp only [Rep, RepD, RepCs, List.cons.injEq, and_true] at r1 r2
        subst r2
        obtain ⟨a, cap, e3, hcap, hr⟩ := r1
        subst e3
        have : cargs = #[.slice a l.length cap, .string ⟨sep.toArray⟩] := by apply Array.toList_inj.1; exact e1
        subst this
        have hm : (xs.map fun x => (⟨x.toArray⟩ : ByteArray)).map (·.data.toList) = xs := by rw [List.map_map]; exact List.map_id'' (fun x => rfl) xs
        rcases hr with hr | ⟨b, off, sz, us, rfl, hsz, hp, hel⟩
        · rw [hl] at hr
          have hx0 : xs = [] := by simpa using hr
          subst hx0
          subst hl
          refine (hc0 a cap _ w).mono fun e w' he => ?_
          obtain ⟨e4, rfl⟩ := he
          exact ⟨_, e4, by simp [RepD, RepCs, Lib.join_nil], Below.refl _ _⟩
        · rw [hl] at hel
          by_cases hx0 : xs = []
          · subst hx0
            subst hl
            refine (hc0 _ cap _ w).mono fun e w' he => ?_
            obtain ⟨e4, rfl⟩ := he
            exact ⟨_, e4, by simp [RepD, RepCs, Lib.join_nil], Below.refl _ _⟩
          have hCb : g.C b ≠ [] := by
            intro h0
            rw [h0] at hp
            simp at hp
            subst hp
            cases xs with
            | nil => exact hx0 rfl
            | cons x r =>
              have := RepEl_strs hel 0 x rfl
              simp at this
          obtain ⟨cur, e, fz, q1, q2⟩ := hI.imm b hCb
          have hll : l.length = (xs.map fun x => (⟨x.toArray⟩ : ByteArray)).length := by rw [hl]; simp
          rw [hll] at hcap ⊢
          refine (hc b off cap _ ⟨sep.toArray⟩ w (fun j x hx => ?_) (Array.getElem?_eq_some_iff.1 q1).1 (by simpa using hn.1) hcap (by rw [hm]; exact hn.2)).mono fun e w' he => ?_
          · rw [List.getElem?_map, Option.map_eq_some_iff] at hx
            obtain ⟨x', hx1, rfl⟩ := hx
            have hu := RepEl_strs hel j x' hx1
            have h3 := prefix_getElem hp hu
            rw [List.getElem?_drop] at h3
            have h4 := prefix_getElem q2 h3
            unfold World.cell?
            simp only [q1]
            simpa using h4
          · rw [hm] at he
            exact ⟨_, he.1, by simp only [RepD, RepCs], he.2⟩
      · cases h
    · cases h
  · cases h
end
end Go.Vm
namespace Go.Vm
open Go.RowKit
def primIndexByte : List V → Hp → Option (V × Hp)
  | [.d (.str s), .d (.int .u8 c)], H => some (.d (.int .i64 (Lib.indexByte s c.toNat.toUInt8)), H)
  | _, _ => none
section
variable {P : Program} {cx : Cx}
theorem prim_ofV {f : Nat} {args : List V} {H : Hp} {r : V} (hu : ∀ n, r.und n = true) (hfn : IsCode P f)
    (hc : ∀ g w (cargs : Array Value), Inv cx g H w → RepTs g H args cargs.toList → Calls P f cargs w fun e w' => ∃ x, e = .returned x ∧ Rep g H r x ∧ Below w.heap.size w w') : FnSpec P cx f args H r H := by
  refine ⟨hfn, fun g w cargs hI ra ua => (hc g w cargs hI ra).mono fun e w' he => ?_⟩
  obtain ⟨x, h1, h2, h3⟩ := he
  obtain ⟨k1, k2⟩ := hI.below h3
  exact ⟨g, x, h1, k1, h2, hu _, k2⟩
theorem indexByte_spec {f : Nat} (hf : IsCode P f)
    (hc : ∀ (s : ByteArray) (c : Int) (w : World), Calls P f #[.string s, .int .u8 c] w fun e w' => e = .returned (.int .i64 (Lib.indexByte s.data.toList c.toNat.toUInt8)) ∧ w' = w) :
    ∀ args H r H', primIndexByte args H = some (r, H') → FnSpec P cx f args H r H' := by
  intro args H r H' h
  unfold primIndexByte at h
  split at h
  · rename_i H0 s c
    cases h
    refine prim_of hf fun g w cargs hI ra => ?_
    obtain ⟨ys, e1, r1⟩ := args_str ra
    obtain ⟨zs, e2, r2⟩ := args_int r1
    rw [args_nil r2] at e2
    rw [e2] at e1
    have : cargs = #[.string ⟨s.toArray⟩, .int .u8 c] := by apply Array.toList_inj.1; exact e1
    subst this
    refine (hc ⟨s.toArray⟩ c w).mono fun e w' he => ?_
    obtain ⟨e2, rfl⟩ := he
    exact ⟨_, e2, by simp only [RepD, RepCs], Below.refl _ _⟩
  · cases h
def ErrAt (cx : Cx) (i : Nat) : Prop := ∃ ev t fz, cx.fx i = some (.cells #[ev] t fz) ∧ (ev = .nilIface ∨ ∃ te pe, ev = .iface te pe)
theorem ErrAt.cell {i : Nat} (h : ErrAt cx i) {g : Gh} {H : Hp} {w : World} (hI : Inv cx g H w) : ∃ ev, w.cell? ⟨i, 0, none⟩ = some ev ∧ (ev = .nilIface ∨ ∃ te pe, ev = .iface te pe) := by
  obtain ⟨ev, t, fz, h1, h2⟩ := h
  refine ⟨ev, ?_, h2⟩
  unfold World.cell?
  simp [(hI.fix i _ h1).1]
end
end Go.Vm
namespace Go.Vm
open Go.RowKit
def primCut : List V → Hp → Option (V × Hp)
  | [.d (.str s), .d (.str p)], H => if s.length < 4294967281 then some (.tup [.d (.str (Lib.cut s p).1), .d (.str (Lib.cut s p).2.1), .d (.bool (Lib.cut s p).2.2)], H) else none
  | _, _ => none
section
variable {P : Program} {cx : Cx}
theorem below_drewN (w : World) (n : Nat) : Below w.heap.size w (w.drewN n) := by
  induction n with
  | zero => exact Below.refl _ w
  | succ n ih => first | exact ih.drew | exact ih
theorem cut_spec {f : Nat} (hf : IsCode P f) {T : World → Prop} (hT : ∀ g H w, Inv cx g H w → T w)
    (hc : ∀ (s p : ByteArray) (w : World), s.size < 4294967281 → T w → Calls P f #[.string s, .string p] w fun e w' => e = .returned (.tuple #[.string ⟨(Lib.cut s.data.toList p.data.toList).1.toArray⟩, .string ⟨(Lib.cut s.data.toList p.data.toList).2.1.toArray⟩, .bool (Lib.cut s.data.toList p.data.toList).2.2]) ∧ ∃ n, w' = w.drewN n) :
    ∀ args H r H', primCut args H = some (r, H') → FnSpec P cx f args H r H' := by
  intro args H r H' h
  unfold primCut at h
  split at h
  · rename_i H0 s p
    split at h
    · rename_i hs
      cases h
      refine prim_ofV (fun _ => rfl) hf fun g w cargs hI ra => ?_
      obtain ⟨ys, e1, r1⟩ := args_str ra
      obtain ⟨zs, e2, r2⟩ := args_str r1
      rw [args_nil r2] at e2
      rw [e2] at e1
      have : cargs = #[.string ⟨s.toArray⟩, .string ⟨p.toArray⟩] := by apply Array.toList_inj.1; exact e1
      subst this
      refine (hc ⟨s.toArray⟩ ⟨p.toArray⟩ w (by simpa [ByteArray.size] using hs) (hT g H w hI)).mono fun e w' he => ?_
      obtain ⟨e3, k, rfl⟩ := he
      refine ⟨_, e3, ?_, below_drewN w k⟩
      simp only [Rep, RepTs]
      exact ⟨_, rfl, _, _, rfl, by simp only [RepD, RepCs], _, _, rfl, by simp only [RepD, RepCs], _, _, rfl, by simp only [RepD, RepCs], rfl⟩
    · cases h
  · cases h
end
end Go.Vm
