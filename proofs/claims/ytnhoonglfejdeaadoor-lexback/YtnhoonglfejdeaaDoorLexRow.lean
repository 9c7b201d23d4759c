import Derived.Test.YtnhoonglfejdeaaDoorLexTbl
import Derived.Test.YtnhoonglfejdeaaDoorLexUtf
import Derived.Test.YtnhoonglfejdeaaDoorLexW11
import Derived.Test.YtnhoonglfejdeaaDoorVmTab
import Derived.Test.YtnhoonglfejdeaaDoorVmArg
import Derived.Lib.LaidU8
import Derived.LaidLaws
import Derived.Test.YtnhoonglfejdeaaDoorCards
import Derived.Test.YtnhoonglfejdeaaDoorTie
import Derived.SevenTiedAt
import Derived.Lay
namespace Go.Proofs.YtnhoonglfejdeaaDoor
open Go Go.Vm Go.ChangeShapes Go.WideShapes Go.ChangeAt Go.RowKit
set_option maxRecDepth 100000
theorem own : ownKnob Tryd.prog.godebug = none := by kernel_rfl
theorem laidOut : laidOutB Tryd.prog = true := by kernel_rfl
theorem mixed : Tryd.prog.follows .mixedOrders = true := by kernel_rfl
theorem gPow : Tryd.prog.globalNamed "internal/strconv.uint64pow10" = some 3 := by kernel_rfl
theorem tPow : (Tryd.prog.globals[3]?).map (·.type) = some 103 := by kernel_rfl
theorem plain103 : plainT Tryd.prog 8 103 = true := by kernel_rfl
theorem pow_eq : (dwD (Rows.laid_internal_strconv_uint64pow10 (H := Unit))).cells = Lib.pow10Tab.map (D.int .u64) := by kernel_rfl
theorem first_eq : Rows.laid_unicode_utf8_first = Lib.firstData := by kernel_rfl
theorem accept_eq : Rows.laid_unicode_utf8_acceptRanges (H := Unit) = Lib.acceptData := by kernel_rfl
def laid7 : List (String × DataW Unit) := [("math/bits.deBruijn32tab", Rows.laid_math_bits_deBruijn32tab), ("math/bits.deBruijn64tab", Rows.laid_math_bits_deBruijn64tab), ("internal/strconv.uint64pow10", Rows.laid_internal_strconv_uint64pow10), ("unicode/utf8.acceptRanges", Rows.laid_unicode_utf8_acceptRanges), ("strconv.ErrRange", Rows.laid_strconv_ErrRange), ("strconv.ErrSyntax", Rows.laid_strconv_ErrSyntax), ("unicode/utf8.first", Rows.laid_unicode_utf8_first)]
def pgW (W : World) : Pg := ⟨⟨gvOf [], fixOf W [1, 2, 3, 4, 5]⟩, Go.Vm.Lex.tbl⟩
theorem pg_eq (W : World) : pgW W = Go.Vm.Lex.pgL (fixOf W [1, 2, 3, 4, 5]) := rfl
theorem code (f : Nat) {fn : Func} (h : Tryd.prog.funcs[f]? = some fn) (h1 : fn.body.isNone = false) (h2 : (fn.name == "runtime.NumGoroutine") = false) : IsCode Tryd.prog f := ⟨fn, h, h1, h2⟩
/-- What a listed variable's block is. -/
theorem laid_block {w : World} {n : String} {d : DataW Unit} (h : Lib.VarReads Tryd.prog w n d) {g : Nat} (hg : Tryd.prog.globalNamed n = some g) : ∃ cs t fz fuel p ty, w.heap[g]? = some (.cells cs t fz) ∧ (Tryd.prog.globals[g]?).map (·.type) = some ty ∧ DataW.trod (fun _ => ()) Tryd.prog w 0 (fun _ => true) false fuel ty cs.toList = some (d, p) := by
  obtain ⟨g', t, cs, fuel, p, h1, h2, h3, h4⟩ := h
  obtain rfl := Option.some.inj (hg.symm.trans h1)
  unfold World.var? at h3
  rw [hg] at h3
  simp only [Option.bind_some] at h3
  split at h3
  · rename_i c' t' f' hc
    cases h3
    exact ⟨_, _, _, fuel, p, t, hc, h2, h4⟩
  · cases h3
theorem err_at {W : World} {n nm : String} {d : DataW Unit} {g : Nat} (ty : Nat) {l : List Nat} (h : Lib.VarReads Tryd.prog W n (.iface nm d)) (hg : Tryd.prog.globalNamed n = some g) (hty : (Tryd.prog.globals[g]?).map (·.type) = some ty) (hu : (match Tryd.prog.underlying ty with | some (.interface _) => true | _ => false) = true) (hm : g ∈ l) : ErrAt ⟨gvOf [], fixOf W l⟩ g := by
  obtain ⟨cs, t, fz, fuel, p, ty', h1, h2, h3⟩ := laid_block h hg
  obtain rfl := Option.some.inj (hty.symm.trans h2)
  obtain ⟨ms, hms⟩ : ∃ ms, Tryd.prog.underlying ty = some (.interface ms) := by
    cases hh : Tryd.prog.underlying ty with
    | none => rw [hh] at hu; cases hu
    | some t => rw [hh] at hu; cases t <;> first | exact ⟨_, rfl⟩ | cases hu
  obtain ⟨f', u, v, h4, _, _⟩ := iface_of_trod hms h3
  refine ⟨.iface u v, t, fz, ?_, .inr ⟨u, v, rfl⟩⟩
  show fixOf W l g = _
  unfold fixOf
  rw [if_pos hm, h1]
  congr 2
  apply Array.toList_inj.1; exact h4
theorem utf8_keeps {W w : World} (h : Lib.Utf8Tabs 1 2 W) (h1 : w.heap[1]? = W.heap[1]?) (h2 : w.heap[2]? = W.heap[2]?) : Lib.Utf8Tabs 1 2 w :=
  ⟨fun c hc => by rw [World.cell?_of_block (w := W) (a := ⟨1, c, none⟩) h1]; exact h.1 c hc, fun i hi => ⟨by rw [World.cell?_of_block (w := W) (a := ⟨2, 2 * i, none⟩) h2]; exact (h.2 i hi).1, by rw [World.cell?_of_block (w := W) (a := ⟨2, 2 * i + 1, none⟩) h2]; exact (h.2 i hi).2⟩⟩
theorem gFirst : Tryd.prog.globalNamed "unicode/utf8.first" = some 1 := by kernel_rfl
theorem gAcc : Tryd.prog.globalNamed "unicode/utf8.acceptRanges" = some 2 := by kernel_rfl
theorem gSyn : Tryd.prog.globalNamed "strconv.ErrSyntax" = some 4 := by kernel_rfl
theorem gRan : Tryd.prog.globalNamed "strconv.ErrRange" = some 5 := by kernel_rfl
theorem utf_of {W : World} (h : laidMet Tryd.prog laid7 W) {g : Gh} {H : Hp} {w : World} (hI : Inv (pgW W).toCx g H w) : Lib.Utf8Tabs 1 2 w := by
  have r1 : Lib.VarReads Tryd.prog W "unicode/utf8.first" Lib.firstData := by rw [← first_eq]; exact Lib.laidMet.reads h (by simp [laid7])
  have r2 : Lib.VarReads Tryd.prog W "unicode/utf8.acceptRanges" Lib.acceptData := by rw [← accept_eq]; exact Lib.laidMet.reads h (by simp [laid7])
  have hU : Lib.Utf8Tabs 1 2 W := utf8Tabs_of_reads (ρ := Tryd.lays197_ren) { Tryd.lays197 with } ⟨by kernel_rfl, by kernel_rfl, by kernel_rfl, by kernel_rfl, by kernel_rfl, by kernel_rfl, by kernel_rfl⟩ r1 r2
  obtain ⟨c1, t1, z1, _, _, _, b1, _⟩ := laid_block r1 gFirst
  obtain ⟨c2, t2, z2, _, _, _, b2, _⟩ := laid_block r2 gAcc
  have k1 := (hI.fix 1 _ (by show fixOf W [1, 2, 3, 4, 5] 1 = _; unfold fixOf; rw [if_pos (by decide)]; exact b1)).1
  have k2 := (hI.fix 2 _ (by show fixOf W [1, 2, 3, 4, 5] 2 = _; unfold fixOf; rw [if_pos (by decide)]; exact b2)).1
  exact utf8_keeps hU (k1.trans b1.symm) (k2.trans b2.symm)
theorem below_bytes (w : World) (s : ByteArray) : Below w.heap.size w (Lib.bytesWorld w 5 s) := by
  have hb : Below w.heap.size w (w.drew.alloc (.cells (Lib.bytesCells w 5 s) 5)) := (Below.refl _ w).drew.alloc (Nat.le_refl _) _
  unfold Lib.bytesWorld World.freeze
  rw [if_neg (by decide)]
  refine hb.trans ⟨rfl, rfl, rfl, by simp, fun k hk => ?_⟩
  show (Array.modify _ _ _)[k]? = _
  rw [Array.getElem?_modify, if_neg (fun e => by have e' : w.heap.size = k := e; omega)]
theorem tOk {W : World} (h : laidMetH Tryd.prog laid7 W) : TblOk Tryd.prog (pgW W) := by
  have h := laidMetH_flat (by kernel_rfl) h
  have t1 : TabAt Tryd.prog (pgW W).toCx "internal/strconv.uint64pow10" .u64 Lib.pow10Tab := tab_at rfl (by decide) gPow (laid_tab h (by simp [laid7]) gPow tPow plain103 pow_eq)
  have rS : Lib.VarReads Tryd.prog W "strconv.ErrSyntax" (Rows.laid_strconv_ErrSyntax (H := Unit)) := Lib.laidMet.reads h (by simp [laid7])
  have rR : Lib.VarReads Tryd.prog W "strconv.ErrRange" (Rows.laid_strconv_ErrRange (H := Unit)) := Lib.laidMet.reads h (by simp [laid7])
  have e4 : ErrAt (pgW W).toCx 4 := err_at 73 rS gSyn (by kernel_rfl) (by kernel_rfl) (by decide)
  have e5 : ErrAt (pgW W).toCx 5 := err_at 73 rR gRan (by kernel_rfl) (by kernel_rfl) (by decide)
  have hT : ∀ g H w, Inv (pgW W).toCx g H w → Lib.Utf8Tabs 1 2 w := fun g H w hI => utf_of h hI
  refine Go.Vm.Lex.tblOk _
    (utf_spec (code 23 Tryd.func23 (by kernel_rfl) (by kernel_rfl)) hT fun s w hw => LexUtf.walk s w hw)
    (join_spec (code 39 Tryd.func39 (by kernel_rfl) (by kernel_rfl)) (fun a c sep w => Tryd.strings_Join_none _ _ _ _) fun bk o c xs sep w a1 a2 a3 a4 a5 => Tryd.strings_Join bk o c xs sep w a1 a2 a3 a4 a5)
    (count1_spec (code 41 Tryd.func41 (by kernel_rfl) (by kernel_rfl)) Tryd.strings_Count_one)
    (lastIndexByte_spec (code 42 Tryd.func42 (by kernel_rfl) (by kernel_rfl)) Tryd.strings_LastIndexByte)
    (decode_spec (code 43 Tryd.func43 (by kernel_rfl) (by kernel_rfl)) hT fun s w hw => Tryd.utf8_DecodeRuneInString s w hw)
    (indexByte_spec (code 44 Tryd.func44 (by kernel_rfl) (by kernel_rfl)) Tryd.strings_IndexByte)
    (hasPrefix_spec (code 45 Tryd.func45 (by kernel_rfl) (by kernel_rfl)) Tryd.strings_HasPrefix)
    (fmt_spec (code 52 Tryd.func52 (by kernel_rfl) (by kernel_rfl)) t1 fun n a b w hw => Tryd.strconv_FormatInt_10 n a b w hw)
    (parse_spec (code 63 Tryd.func63 (by kernel_rfl) (by kernel_rfl)) e4 e5 (fun s hs u hu w => ?_) (fun s hs hu1 hu2 ev w hv hev => ?_) (fun s hs hu ev w hv hev => ?_))
  · refine (Tryd.strconv_ParseUint_10_at64_ok s (by omega) u hu w).mono ?_
    rintro e w' ⟨rfl, rfl | rfl⟩
    · exact ⟨rfl, Below.refl _ _⟩
    · exact ⟨rfl, below_bytes _ _⟩
  · cases hu : Lib.parseUintB 64 s.data.toList with
    | ok u => exact absurd hu (hu1 u)
    | range => exact absurd hu hu2
    | _ =>
      refine (Any.strconv_ParseUint_10_at64_syntax Tryd.laysPu14 s hs hu ev w hv hev).mono ?_
      rintro e w' ⟨N, rfl, _, _, hb⟩
      exact ⟨_, _, rfl, hb⟩
  · refine (Tryd.strconv_ParseUint_10_at64_range s hs hu ev w hv hev).mono ?_
    rintro e w' ⟨N, rfl, _, _, hb⟩
    exact ⟨_, _, rfl, hb⟩
theorem globOk {W : World} (_ : laidMetH Tryd.prog laid7 W) : GlobOk (pgW W).toCx W := globOk_of _ (fixOf_ok W _) fun p hp => by cases hp
theorem flat_met {laid : List (String × DataW Unit)} {w : World} (h : (laid.filter fun x => x.2.handleName?.isSome) = []) (hm : laidMet Tryd.prog laid w) : laidMetH Tryd.prog laid w := by
  unfold laidMetH
  rw [h]
  exact hm
theorem door_met (os : Os) (args : Array Value) : laidMetH Tryd.prog laid7 ((World.laidAll Tryd.prog os laid7).forCall (fun _ _ => 0) ⟨#[], args, []⟩).memory :=
  flat_met (by kernel_rfl) (laidMet_laidAll _ (by kernel_rfl) (by kernel_rfl))
theorem under9 : Tryd.prog.underlying 9 = some .string := by kernel_rfl
end Go.Proofs.YtnhoonglfejdeaaDoor
