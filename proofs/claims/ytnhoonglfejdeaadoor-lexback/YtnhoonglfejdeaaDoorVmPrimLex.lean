import Derived.Test.YtnhoonglfejdeaaDoorVmPrimStr
import Derived.Lib.Bytealg
import Derived.Lib.LastIndexByte
import Derived.Lib.ParseIntB
import Derived.Lib.Strings
/- More library functions on texts. -/
namespace Go.Vm
open Go.RowKit
def primIndexByte : List V → Hp → Option (V × Hp)
  | [.d (.str s), .d (.int .u8 c)], H => some (.d (.int .i64 (Lib.indexByte s c.toNat.toUInt8)), H)
  | _, _ => none
def primHasPrefix : List V → Hp → Option (V × Hp)
  | [.d (.str s), .d (.str p)], H => some (.d (.bool (Lib.hasPrefix s p)), H)
  | _, _ => none
def primCount1 : List V → Hp → Option (V × Hp)
  | [.d (.str s), .d (.str [c])], H => some (.d (.int .i64 (Lib.countByte s c)), H)
  | _, _ => none
def primLastIndexByte : List V → Hp → Option (V × Hp)
  | [.d (.str s), .d (.int .u8 c)], H => if s.length < 4611686018427387904 then some (.d (.int .i64 (Lib.lastIndexByte ⟨s.toArray⟩ c)), H) else none
  | _, _ => none
/-- strconv.ParseUint at base 10 and 64 bits. -/
def primParse : List V → Hp → Option (V × Hp)
  | [.d (.str s), .d (.int .i64 b), .d (.int .i64 n)], H => if (b = 10 ∧ n = 64) ∧ s.length ≤ 281474976710656 then
      (match Lib.parseUintB 64 s with
        | .ok u => some (.tup [.d (.int .u64 u), .ifc true], H)
        | .range => some (.tup [.d (.int .u64 18446744073709551615), .ifc false], H)
        | _ => some (.tup [.d (.int .u64 0), .ifc false], H)) else none
  | _, _ => none
/-- The first place that opens no letter, from a place on; -1: there is none. -/
def utfAt (s : ByteArray) : Nat → Nat → Int
  | 0, _ => -1
  | f + 1, pos => if pos < s.size then (if Utf8.decode s pos = (65533, 1) then (pos : Int) else utfAt s f (pos + (Utf8.decode s pos).2)) else -1
def primUtf : List V → Hp → Option (V × Hp)
  | [.d (.str s)], H => some (.d (.int .i64 (utfAt ⟨s.toArray⟩ s.length 0)), H)
  | _, _ => none
/-- unicode/utf8.DecodeRuneInString. -/
def decGo (s : ByteArray) : Nat × Nat := if s.size = 0 then (65533, 0) else Utf8.decode s 0
def primDecode : List V → Hp → Option (V × Hp)
  | [.d (.str s)], H => some (.tup [.d (.int .i32 (decGo ⟨s.toArray⟩).1), .d (.int .i64 (decGo ⟨s.toArray⟩).2)], H)
  | _, _ => none
section
variable {P : Program} {cx : Cx}
/-- A function that leaves memory as it was. -/
theorem prim_ofV {f : Nat} {args : List V} {H : Hp} {r : V} (hu : ∀ n, r.und n = true) (hfn : IsCode P f)
    (hc : ∀ g w (cargs : Array Value), Inv cx g H w → RepTs g H args cargs.toList → Calls P f cargs w fun e w' => ∃ x, e = .returned x ∧ Rep g H r x ∧ Below w.heap.size w w') : FnSpec P cx f args H r H := by
  refine ⟨hfn, fun g w cargs hI ra ua => (hc g w cargs hI ra).mono fun e w' he => ?_⟩
  obtain ⟨x, h1, h2, h3⟩ := he
  obtain ⟨k1, k2⟩ := hI.below h3
  exact ⟨g, x, h1, k1, h2, hu _, k2⟩
theorem indexByte_spec {f : Nat} (hf : IsCode P f)
    (hc : ∀ (s : ByteArray) (c : Int) (w : World), Calls P f #[.string s, .int .u8 c] w fun e w' => e = .returned (.int .i64 (Lib.indexByte s.data.toList c.toNat.toUInt8)) ∧ w' = w) :
    ∀ args H r H', primIndexByte args H = some (r, H') → FnSpec P cx f args H r H' := by
  intro args H r H' h
  unfold primIndexByte at h
  split at h
  · rename_i H0 s c
    cases h
    refine prim_of hf fun g w cargs hI ra => ?_
    obtain ⟨ys, e1, r1⟩ := args_str ra
    obtain ⟨zs, e2, r2⟩ := args_int r1
    rw [args_nil r2] at e2
    rw [e2] at e1
    have : cargs = #[.string ⟨s.toArray⟩, .int .u8 c] := by apply Array.toList_inj.1; exact e1
    subst this
    refine (hc ⟨s.toArray⟩ c w).mono fun e w' he => ?_
    obtain ⟨e2, rfl⟩ := he
    exact ⟨_, e2, by simp only [RepD, RepCs], Below.refl _ _⟩
  · cases h
theorem utf_spec {f : Nat} (hf : IsCode P f) {T : World → Prop} (hT : ∀ g H w, Inv cx g H w → T w)
    (hc : ∀ (s : ByteArray) (w : World), T w → Calls P f #[.string s] w fun e w' => e = .returned (.int .i64 (utfAt s s.size 0)) ∧ Below w.heap.size w w') :
    ∀ args H r H', primUtf args H = some (r, H') → FnSpec P cx f args H r H' := by
  intro args H r H' h
  unfold primUtf at h
  split at h
  · rename_i H0 s
    cases h
    refine prim_of hf fun g w cargs hI ra => ?_
    obtain ⟨ys, e1, r1⟩ := args_str ra
    rw [args_nil r1] at e1
    have : cargs = #[.string ⟨s.toArray⟩] := by apply Array.toList_inj.1; exact e1
    subst this
    refine (hc ⟨s.toArray⟩ w (hT g H w hI)).mono fun e w' he => ?_
    obtain ⟨e2, e3⟩ := he
    have e4 : (⟨s.toArray⟩ : ByteArray).size = s.length := by simp [ByteArray.size]
    rw [e4] at e2
    exact ⟨_, e2, by simp only [RepD, RepCs], e3⟩
  · cases h
theorem decode_spec {f : Nat} (hf : IsCode P f) {T : World → Prop} (hT : ∀ g H w, Inv cx g H w → T w)
    (hc : ∀ (s : ByteArray) (w : World), T w → Calls P f #[.string s] w fun e w' => e = .returned (.tuple #[.int .i32 (decGo s).1, .int .i64 (decGo s).2]) ∧ Below w.heap.size w w') :
    ∀ args H r H', primDecode args H = some (r, H') → FnSpec P cx f args H r H' := by
  intro args H r H' h
  unfold primDecode at h
  split at h
  · rename_i H0 s
    cases h
    refine prim_ofV (fun _ => rfl) hf fun g w cargs hI ra => ?_
    obtain ⟨ys, e1, r1⟩ := args_str ra
    rw [args_nil r1] at e1
    have : cargs = #[.string ⟨s.toArray⟩] := by apply Array.toList_inj.1; exact e1
    subst this
    refine (hc ⟨s.toArray⟩ w (hT g H w hI)).mono fun e w' he => ?_
    refine ⟨_, he.1, ?_, he.2⟩
    simp only [Rep, RepTs]
    exact ⟨_, rfl, _, _, rfl, by simp only [RepD, RepCs], _, _, rfl, by simp only [RepD, RepCs], rfl⟩
  · cases h
theorem hasPrefix_spec {f : Nat} (hf : IsCode P f)
    (hc : ∀ (s p : ByteArray) (w : World), Calls P f #[.string s, .string p] w fun e w' => e = .returned (.bool (Lib.hasPrefix s.data.toList p.data.toList)) ∧ w' = w) :
    ∀ args H r H', primHasPrefix args H = some (r, H') → FnSpec P cx f args H r H' := by
  intro args H r H' h
  unfold primHasPrefix at h
  split at h
  · rename_i H0 s p
    cases h
    refine prim_of hf fun g w cargs hI ra => ?_
    obtain ⟨ys, e1, r1⟩ := args_str ra
    obtain ⟨zs, e2, r2⟩ := args_str r1
    rw [args_nil r2] at e2
    rw [e2] at e1
    have : cargs = #[.string ⟨s.toArray⟩, .string ⟨p.toArray⟩] := by apply Array.toList_inj.1; exact e1
    subst this
    refine (hc ⟨s.toArray⟩ ⟨p.toArray⟩ w).mono fun e w' he => ?_
    obtain ⟨e2, rfl⟩ := he
    exact ⟨_, e2, by simp only [RepD, RepCs], Below.refl _ _⟩
  · cases h
theorem count1_spec {f : Nat} (hf : IsCode P f)
    (hc : ∀ (s : ByteArray) (c : UInt8) (w : World), Calls P f #[.string s, .string ⟨#[c]⟩] w fun e w' => e = .returned (.int .i64 (Lib.countByte s.data.toList c)) ∧ w' = w) :
    ∀ args H r H', primCount1 args H = some (r, H') → FnSpec P cx f args H r H' := by
  intro args H r H' h
  unfold primCount1 at h
  split at h
  · rename_i H0 s c
    cases h
    refine prim_of hf fun g w cargs hI ra => ?_
    obtain ⟨ys, e1, r1⟩ := args_str ra
    obtain ⟨zs, e2, r2⟩ := args_str r1
    rw [args_nil r2] at e2
    rw [e2] at e1
    have : cargs = #[.string ⟨s.toArray⟩, .string ⟨#[c]⟩] := by apply Array.toList_inj.1; exact e1
    subst this
    refine (hc ⟨s.toArray⟩ c w).mono fun e w' he => ?_
    obtain ⟨e2, rfl⟩ := he
    exact ⟨_, e2, by simp only [RepD, RepCs], Below.refl _ _⟩
  · cases h
theorem lastIndexByte_spec {f : Nat} (hf : IsCode P f)
    (hc : ∀ (s : ByteArray) (c : Int), s.size < 4611686018427387904 → ∀ (w : World), Calls P f #[.string s, .int .u8 c] w fun e w' => e = .returned (.int .i64 (Lib.lastIndexByte s c)) ∧ w' = w) :
    ∀ args H r H', primLastIndexByte args H = some (r, H') → FnSpec P cx f args H r H' := by
  intro args H r H' h
  unfold primLastIndexByte at h
  split at h
  · rename_i H0 s c
    split at h
    · rename_i hn
      cases h
      refine prim_of hf fun g w cargs hI ra => ?_
      obtain ⟨ys, e1, r1⟩ := args_str ra
      obtain ⟨zs, e2, r2⟩ := args_int r1
      rw [args_nil r2] at e2
      rw [e2] at e1
      have : cargs = #[.string ⟨s.toArray⟩, .int .u8 c] := by apply Array.toList_inj.1; exact e1
      subst this
      refine (hc ⟨s.toArray⟩ c (by simpa [ByteArray.size] using hn) w).mono fun e w' he => ?_
      obtain ⟨e2, rfl⟩ := he
      exact ⟨_, e2, by simp only [RepD, RepCs], Below.refl _ _⟩
    · cases h
  · cases h
/-- A variable that holds an error, known whole. -/
def ErrAt (cx : Cx) (i : Nat) : Prop := ∃ ev t fz, cx.fx i = some (.cells #[ev] t fz) ∧ (ev = .nilIface ∨ ∃ te pe, ev = .iface te pe)
theorem ErrAt.cell {i : Nat} (h : ErrAt cx i) {g : Gh} {H : Hp} {w : World} (hI : Inv cx g H w) : ∃ ev, w.cell? ⟨i, 0, none⟩ = some ev ∧ (ev = .nilIface ∨ ∃ te pe, ev = .iface te pe) := by
  obtain ⟨ev, t, fz, h1, h2⟩ := h
  refine ⟨ev, ?_, h2⟩
  unfold World.cell?
  simp [(hI.fix i _ h1).1]
theorem parse_spec {f i j : Nat} (hf : IsCode P f) (h1 : ErrAt cx i) (h2 : ErrAt cx j)
    (hok : ∀ (s : ByteArray), s.size ≤ 281474976710656 → ∀ (u : Nat), Lib.parseUintB 64 s.data.toList = .ok u → ∀ (w : World), Calls P f #[.string s, .int .i64 10, .int .i64 64] w fun e w' => e = .returned (.tuple #[.int .u64 u, .nilIface]) ∧ Below w.heap.size w w')
    (hsy : ∀ (s : ByteArray), s.size ≤ 281474976710656 → (∀ u, Lib.parseUintB 64 s.data.toList ≠ .ok u) → Lib.parseUintB 64 s.data.toList ≠ .range → ∀ (ev : Value) (w : World), w.cell? ⟨i, 0, none⟩ = some ev → (ev = .nilIface ∨ ∃ te pe, ev = .iface te pe) → Calls P f #[.string s, .int .i64 10, .int .i64 64] w fun e w' => ∃ t p, e = .returned (.tuple #[.int .u64 0, .iface t p]) ∧ Below w.heap.size w w')
    (hra : ∀ (s : ByteArray), s.size ≤ 281474976710656 → Lib.parseUintB 64 s.data.toList = .range → ∀ (ev : Value) (w : World), w.cell? ⟨j, 0, none⟩ = some ev → (ev = .nilIface ∨ ∃ te pe, ev = .iface te pe) → Calls P f #[.string s, .int .i64 10, .int .i64 64] w fun e w' => ∃ t p, e = .returned (.tuple #[.int .u64 18446744073709551615, .iface t p]) ∧ Below w.heap.size w w') :
    ∀ args H r H', primParse args H = some (r, H') → FnSpec P cx f args H r H' := by
  intro args H r H' h
  unfold primParse at h
  split at h
  · rename_i H0 s b n
    split at h
    · rename_i hn
      obtain ⟨⟨rfl, rfl⟩, hlen⟩ := hn
      have hsz : (⟨s.toArray⟩ : ByteArray).size ≤ 281474976710656 := by simpa [ByteArray.size] using hlen
      have hargs : ∀ {g : Gh} {cargs : Array Value}, RepTs g H [.d (.str s), .d (.int .i64 10), .d (.int .i64 64)] cargs.toList → cargs = #[.string ⟨s.toArray⟩, .int .i64 10, .int .i64 64] := by
        intro g cargs ra
        obtain ⟨ys, e1, r1⟩ := args_str ra
        obtain ⟨zs, e2, r2⟩ := args_int r1
        obtain ⟨us, e3, r3⟩ := args_int r2
        rw [args_nil r3] at e3
        rw [e3] at e2
        rw [e2] at e1
        apply Array.toList_inj.1; exact e1
      have rep : ∀ (g : Gh) (u : Int) (b : Bool) (y : Value), ((b = true ∧ y = .nilIface) ∨ (b = false ∧ ∃ t p, y = .iface t p)) → Rep g H (.tup [.d (.int .u64 u), .ifc b]) (.tuple #[.int .u64 u, y]) := by
        intro g u b y hy
        simp only [Rep, RepTs]
        exact ⟨_, rfl, _, _, rfl, by simp only [RepD, RepCs], _, _, rfl, hy, rfl⟩
      split at h
      · rename_i u hp
        cases h
        refine prim_ofV (fun _ => rfl) hf fun g w cargs hI ra => ?_
        rw [hargs ra]
        refine (hok ⟨s.toArray⟩ hsz u hp w).mono fun e w' he => ?_
        exact ⟨_, he.1, rep g u true _ (.inl ⟨rfl, rfl⟩), he.2⟩
      · rename_i hp
        cases h
        refine prim_ofV (fun _ => rfl) hf fun g w cargs hI ra => ?_
        rw [hargs ra]
        obtain ⟨ev, hv, hev⟩ := h2.cell hI
        refine (hra ⟨s.toArray⟩ hsz hp ev w hv hev).mono fun e w' he => ?_
        obtain ⟨t, p, h3, h4⟩ := he
        exact ⟨_, h3, rep g _ false _ (.inr ⟨rfl, t, p, rfl⟩), h4⟩
      · rename_i hp1 hp2
        cases h
        refine prim_ofV (fun _ => rfl) hf fun g w cargs hI ra => ?_
        rw [hargs ra]
        obtain ⟨ev, hv, hev⟩ := h1.cell hI
        refine (hsy ⟨s.toArray⟩ hsz hp1 hp2 ev w hv hev).mono fun e w' he => ?_
        obtain ⟨t, p, h3, h4⟩ := he
        exact ⟨_, h3, rep g 0 false _ (.inr ⟨rfl, t, p, rfl⟩), h4⟩
    · cases h
  · cases h
end
end Go.Vm
