/- For all arguments the law ItemsChecks of package patinalaw14 returns true and leaves its arguments as they were. -/
import Derived.Shelf.Small.Strs
import Derived.Shelf.Small.Wraps
import Derived.Shelf.Strings.Search1
import Derived.Shelf.Strings.Search2
import Derived.Shelf.Strings.Cut
import Derived.Shelf.LaysM
import Derived.Shelf.Strings.Shaped
import Derived.Shelf.Strings.Prefix
import Derived.Shelf.Slices.Turned
import Derived.Test.YtocpgkeiakjicaaGreatProg
import Derived.Test.YtocpgkeiakjicaaGreatTypP11
import Derived.Test.YtocpgkeiakjicaaGreatVmNum
import Derived.Test.YtocpgkeiakjicaaGreatIteV16
import Derived.Test.YtocpgkeiakjicaaGreatIteQ3
import Derived.LaidLaws
import Derived.Test.YtocpgkeiakjicaaGreatRows
import Derived.WalkKit
import Derived.ProofKit
import Derived.OpenShut
import Derived.Deep.DeepHandedRow
import Derived.SevenTiedAt
import Derived.Lay
set_option linter.unusedSimpArgs false
set_option linter.unusedVariables false
namespace Go.Proofs
open Go.Shelf
def Tryz.lays137_ren : Go.Shelf.Ren := ⟨fun | 137 => 151 | 217 => 162 | 266 => 174 | n => n, fun | 9 => 9 | 5 => 5 | 3 => 3 | n => n, fun | n => n⟩
theorem Tryz.lays137 : Go.Proofs.Lays.n137 Tryz.prog Tryz.lays137_ren := {
  mixed := by kernel_rfl
  f137 := Tryz.func151.trans (congrArg some (by kernel_rfl))
  f217 := Tryz.func162.trans (congrArg some (by kernel_rfl))
  f266 := Tryz.func174.trans (congrArg some (by kernel_rfl))
  t3 := Tryz.underlying3
  a3 := Tryz.isAgg3
  z3 := Tryz.sizeOf3
  v3 := Tryz.zeroValue3
  t5 := Tryz.underlying5
  a5 := Tryz.isAgg5
  z5 := Tryz.sizeOf5
  v5 := Tryz.zeroValue5
  t9 := Tryz.underlying9
  a9 := Tryz.isAgg9
  z9 := Tryz.sizeOf9
  v9 := Tryz.zeroValue9 }
open Go.RowKit in
theorem Tryz.strings_IndexByte (s : ByteArray) (c : Int) (w : World) :
 Calls Tryz.prog 151 #[.string s, .int .u8 c] w fun e w' => e = .returned (.int .i64 (Lib.indexByte s.data.toList c.toNat.toUInt8)) ∧ w' = w := Any.strings_IndexByte Tryz.lays137 s c w
def Tryz.lays145_ren : Go.Shelf.Ren := ⟨fun | 145 => 148 | 220 => 161 | 219 => 173 | 217 => 162 | 225 => 179 | 224 => 180 | 267 => 181 | 266 => 174 | 314 => 186 | n => n, fun | 9 => 9 | 4 => 4 | 59 => 172 | 3 => 3 | 5 => 5 | 46 => 188 | 146 => 191 | 51 => 190 | n => n, fun | 1 => 0 | n => n⟩
theorem Tryz.lays145 : Go.Proofs.Lays.n145 Tryz.prog Tryz.lays145_ren := {
  mixed := by kernel_rfl
  f145 := Tryz.func148.trans (congrArg some (by kernel_rfl))
  f217 := Tryz.func162.trans (congrArg some (by kernel_rfl))
  f219 := Tryz.func173.trans (congrArg some (by kernel_rfl))
  f220 := Tryz.func161.trans (congrArg some (by kernel_rfl))
  f224 := Tryz.func180.trans (congrArg some (by kernel_rfl))
  f225 := Tryz.func179.trans (congrArg some (by kernel_rfl))
  f266 := Tryz.func174.trans (congrArg some (by kernel_rfl))
  f267 := Tryz.func181.trans (congrArg some (by kernel_rfl))
  f314 := Tryz.func186.trans (congrArg some (by kernel_rfl))
  t3 := Tryz.underlying3
  a3 := Tryz.isAgg3
  z3 := Tryz.sizeOf3
  v3 := Tryz.zeroValue3
  t4 := Tryz.underlying4
  a4 := Tryz.isAgg4
  z4 := Tryz.sizeOf4
  v4 := Tryz.zeroValue4
  t5 := Tryz.underlying5
  a5 := Tryz.isAgg5
  z5 := Tryz.sizeOf5
  v5 := Tryz.zeroValue5
  t9 := Tryz.underlying9
  a9 := Tryz.isAgg9
  z9 := Tryz.sizeOf9
  v9 := Tryz.zeroValue9
  t46 := Tryz.underlying188
  a46 := Tryz.isAgg188
  z46 := Tryz.sizeOf188
  v46 := Tryz.zeroValue188
  t51 := Tryz.underlying190
  a51 := Tryz.isAgg190
  z51 := Tryz.sizeOf190
  v51 := Tryz.zeroValue190
  t59 := Tryz.underlying172
  a59 := Tryz.isAgg172
  z59 := Tryz.sizeOf172
  v59 := Tryz.zeroValue172
  t146 := Tryz.underlying191
  a146 := Tryz.isAgg191
  z146 := Tryz.sizeOf191
  v146 := Tryz.zeroValue191
  g1 := by kernel_rfl }
open Go.RowKit Go.Lib in
theorem Tryz.strings_Cut (s sep : ByteArray) (m : Int) (w : World) (hs : s.size < 4294967281) (hm : w.cell? ⟨0, 0, none⟩ = some (.int .i64 m)) :
 Calls Tryz.prog 148 #[.string s, .string sep] w fun e w' => e = .returned (.tuple #[.string ⟨(Lib.cut s.data.toList sep.data.toList).1.toArray⟩, .string ⟨(Lib.cut s.data.toList sep.data.toList).2.1.toArray⟩, .bool (Lib.cut s.data.toList sep.data.toList).2.2]) ∧ ∃ n, w' = w.drewN n := Any.strings_Cut Tryz.lays145 s sep m w hs hm
end Go.Proofs
namespace Go.Proofs.YtocpgkeiakjicaaGreat
open Go Go.Vm Go.ChangeShapes Go.WideShapes Go.ChangeAt Go.RowKit Go.Vm.Ip
set_option maxRecDepth 100000
theorem own : ownKnob Tryz.prog.godebug = none := by kernel_rfl
theorem laidOut : laidOutB Tryz.prog = true := by kernel_rfl
theorem mixed : Tryz.prog.follows .mixedOrders = true := by kernel_rfl
noncomputable def pgW (W : World) : Pg := ⟨⟨gvOf [], fixOf W [0]⟩, Go.Vm.Ite.tbl Go.Vm.Ite.FT⟩
theorem pg_eq (W : World) : pgW W = Go.Vm.Ite.pgL (fixOf W [0]) Go.Vm.Ite.FT := rfl
theorem code (f : Nat) {fn : Func} (h : Tryz.prog.funcs[f]? = some fn) (h1 : fn.body.isNone = false) (h2 : (fn.name == "runtime.NumGoroutine") = false) : IsCode Tryz.prog f := ⟨fn, h, h1, h2⟩
theorem max_cell {W : World} (h : W.ShapedOpen Tryz.prog) {g : Gh} {H : Hp} {w : World} (hI : Inv (pgW W).toCx g H w) : ∃ m : Int, w.cell? ⟨0, 0, none⟩ = some (.int .i64 m) := by
 obtain ⟨m, hm⟩ := (Go.Proofs.cell_of_shapedOpen_int (zero := #[.int .i64 0]) (t := 3) h (of_decide_eq_true (by kernel_rfl)) (by kernel_rfl) rfl (by kernel_rfl) (by kernel_rfl) Tryz.underlying3 : ∃ m : Int, W.cell? ⟨0, 0, none⟩ = some (.int .i64 m))
 have hm : W.cell? ⟨0, 0, none⟩ = some (.int .i64 m) := hm
 obtain ⟨o, ho⟩ : ∃ o, W.heap[0]? = some o := by
  cases hb : W.heap[0]? with
  | none => unfold World.cell? at hm; simp [hb] at hm
  | some o => exact ⟨o, rfl⟩
 have k := (hI.fix 0 o (by show fixOf W [0] 0 = _; unfold fixOf; rw [if_pos (by decide)]; exact ho)).1
 exact ⟨m, by rw [World.cell?_of_block (w := W) (a := ⟨0, 0, none⟩) (k.trans ho.symm)]; exact hm⟩
theorem tOk {W : World} (hs : W.ShapedOpen Tryz.prog) : TblOk Tryz.prog (pgW W) :=
 Go.Vm.Ite.tOk3 (fixOf W [0])
  (cut_spec (code 148 Tryz.func148 (by kernel_rfl) (by kernel_rfl)) (fun g H w hI => max_cell hs hI) fun s p w h1 hm => by obtain ⟨m, hm⟩ := hm; exact Tryz.strings_Cut s p m w h1 hm)
  (indexByte_spec (code 151 Tryz.func151 (by kernel_rfl) (by kernel_rfl)) Tryz.strings_IndexByte)
theorem globOk {W : World} : GlobOk (pgW W).toCx W := globOk_of _ (fixOf_ok W _) fun p hp => by cases hp
theorem flat_met {laid : List (String × DataW Unit)} {w : World} (h : (laid.filter fun x => x.2.handleName?.isSome) = []) (hm : laidMet Tryz.prog laid w) : laidMetH Tryz.prog laid w := by
  unfold laidMetH
  rw [h]
  exact hm
theorem door_met (os : Os) (args : Array Value) : laidMetH Tryz.prog [] ((World.laidAll Tryz.prog os []).forCall (fun _ _ => 0) ⟨#[], args, []⟩).memory :=
  flat_met (by kernel_rfl) (laidMet_laidAll _ (by kernel_rfl) (by kernel_rfl))
def tys : Tys := ⟨37, 33, 34, 35, 46, 50, 83, 9, 44, 62, 81, 4, 3⟩
theorem tysOk : TysOk Tryz.prog tys where
 it := by kernel_rfl
 ss := ⟨by kernel_rfl, by kernel_rfl⟩
 es := ⟨by kernel_rfl, by kernel_rfl⟩
 fs := ⟨by kernel_rfl, by kernel_rfl⟩
 s := by kernel_rfl
 e := by kernel_rfl
 f := by kernel_rfl
 n := by kernel_rfl
 fl := ⟨by kernel_rfl, by kernel_rfl⟩
 fd := by kernel_rfl
 bs := ⟨by kernel_rfl, by kernel_rfl⟩
 b := by kernel_rfl
 i := by kernel_rfl
end Go.Proofs.YtocpgkeiakjicaaGreat
namespace Go.Proofs.YtocpgkeiakjicaaGreat
open Go Go.Vm Go.ChangeShapes Go.WideShapes Go.ChangeAt Go.RowKit Go.Vm.Ip
set_option maxRecDepth 100000
theorem itemsChecks_key {H : Type} (W : World) (ds : List (DataW H)) (h1 : ds.length = Tryz.f6.params.size) (h2 : ∀ (i : Nat) t x, Tryz.f6.params[i]? = some t → ds[i]? = some x → HasW Tryz.prog 8 t (dwD x)) : ∃ H', evF (pgW W) 6 ((ds.map dwD).map V.d) [] = some (.d (.bool true), H') := by
 have hp : Tryz.f6.params = #[37, 37] := Tryz.params6
 match ds, h1 with
 | [d0, d1], _ =>
  have hd0 := h2 0 37 d0 (by rw [hp]; rfl) rfl
  have hd1 := h2 1 37 d1 (by rw [hp]; rfl) rfl
  obtain ⟨x, e1, h1⟩ := its_of (m := 2) tysOk hd0
  obtain ⟨y, e2, h2⟩ := its_of (m := 2) tysOk hd1
  exact ⟨[], by rw [pg_eq]; show evF _ 6 [.d (dwD d0), .d (dwD d1)] [] = _; rw [e1, e2]; exact Go.Vm.Ite.checks_ev x y h1 h2 []⟩
theorem itemsChecks_lifted (os : Os) (started : os.Started) (H : Type) (enc : TypeId × Value → H) (F : Stop.Interp) :
 ReturnsInHanded {} Tryz.checked os 6 .any ((OpenSpec.ofChange Rows.itemsChecksSpec).preRow enc Tryz.prog Tryz.f6 Rows.itemsChecksRow.domain false Rows.itemsChecksRow.laid) (((OpenSpec.ofChange Rows.itemsChecksSpec).at F).post enc Tryz.prog Tryz.f6 false true false false) := by
 refine returnsInHanded_of_row (C := Tryz.checked) (s := OpenSpec.ofChange Rows.itemsChecksSpec) own started (by kernel_rfl) Tryz.func6
   (witness_row_at (enc := enc) (C := Tryz.checked) false (World.laidAll Tryz.prog os []) #[.agg #[.slice none 0 0, .slice none 0 0, .slice none 0 0], .agg #[.slice none 0 0, .slice none 0 0, .slice none 0 0]] (World.laidAll_os _ _ _) (by kernel_rfl) (by kernel_rfl) (by kernel_rfl)
     (OpenSpec.preRow_of_cond 8 (x := ([.agg [.nil, .nil, .nil], .agg [.nil, .nil, .nil]], [], [])) (by kernel_rfl) (by kernel_rfl) (fun k hk => by cases hk) (by kernel_rfl) (door_met os _))) ?_
 intro W base args ds gs before hval hW _ hcond hsz hL hsh _
 refine row_contract_w (s := Rows.itemsChecksSpec) (m := 8) (tb := 4) (pg := pgW W) (tOk hsh) mixed laidOut rfl (fun ds h => ?_) (fun t ht => ?_) (by kernel_rfl) Tryz.underlying4 hval hW globOk hsz (fun h1 h2 => itemsChecks_key W ds h1 h2)
 ·match ds, h with
  | [d0, d1], _ => rfl
 ·rw [Tryz.params6] at ht
  simp only [List.mem_cons, List.not_mem_nil, or_false] at ht
  rcases ht with rfl | rfl
  ·exact ⟨⟨by kernel_rfl, of_decide_eq_true (by kernel_rfl)⟩, by kernel_rfl⟩
  ·exact ⟨⟨by kernel_rfl, of_decide_eq_true (by kernel_rfl)⟩, by kernel_rfl⟩
theorem itemsChecks_holds : Rows.ItemsChecksSaid :=
 OpenClaim.holds_of_cond 6 Tryz.f6 rfl rfl rfl rfl rfl rfl rfl ⟨rfl, rfl, rfl, rfl, rfl⟩ rfl rfl rfl rfl rfl (by kernel_rfl) Tryz.func6 (by kernel_rfl)
   (of_decide_eq_true (by kernel_rfl)) (by unfold Func.isWrapper; first | (rw [if_pos (by decide +kernel)]; kernel_rfl) | (rw [if_neg (by decide +kernel)]; exact ⟨rfl, rfl⟩))
   (fun os started H enc _ F => by rw [OpenClaim.pre_eq_preRow]; exact itemsChecks_lifted os started H enc F)
end Go.Proofs.YtocpgkeiakjicaaGreat
