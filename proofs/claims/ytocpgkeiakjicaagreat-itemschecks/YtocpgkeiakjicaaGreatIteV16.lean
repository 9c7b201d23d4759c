import Derived.Test.YtocpgkeiakjicaaGreatIteL
import Derived.Test.YtocpgkeiakjicaaGreatTypP11
import Derived.Test.YtocpgkeiakjicaaGreatVmFn
import Derived.Test.YtocpgkeiakjicaaGreatVmNum
set_option linter.unusedSimpArgs false
set_option linter.unusedVariables false
namespace Go.Vm.Ite
open Go Go.Vm Go.Proofs Go.Vm.Ip
set_option maxRecDepth 100000
noncomputable def c72 : Code := (Tryz.f55.body).getD .skip
theorem b72 : Tryz.f55.body = some c72 := by kernel_rfl
noncomputable def m72 : Code := cR (cR c72)
noncomputable def e72 : Code := cR m72
noncomputable def l72 : Code := cK (cK (cL e72))
noncomputable def kk72 : Code := cK (cR l72)
noncomputable def p72 : Code := cR (cR kk72)
noncomputable def z72 : Code := cA (cR (cR p72))
theorem q72a : c72 = .seq (cL c72) (.seq (cL (cR c72)) (.seq (.region (cId (cL m72)) (cOps (cL m72)) false) (.seq (.block 0 (.loop l72)) (cR e72)))) := by kernel_rfl
theorem q72b : l72 = .seq (.seq (.region (cId (cL (cL l72))) (cOps (cL (cL l72))) false) (.cond (.tmp 23) .skip (.exit 0))) (.block 1 (.seq (.region (cId (cL kk72)) (cOps (cL kk72)) false) (.seq (.region (cId (cL (cR kk72))) (cOps (cL (cR kk72))) false) p72))) := by kernel_rfl
theorem q72c : p72 = .seq (.seq (cL (cL p72)) (.cond (.tmp 37) (cA (cR (cL p72))) .skip)) (.seq (cL (cR p72)) (.cond (.tmp 41) z72 .skip)) := by kernel_rfl
theorem q72d : z72 = .seq (cL z72) (.seq (.region (cId (cL (cR z72))) (cOps (cL (cR z72))) false) (.region (cId (cR (cR z72))) (cOps (cR (cR z72))) false)) := by kernel_rfl
noncomputable def v72 : VCode := vR (vR (vR (vK (vR L55_0))))
theorem tE0 : tr Tryz.prog n50 (cL c72) = some (vL B55) := by kernel_rfl
theorem tE1 : tr Tryz.prog n50 (cL (cR c72)) = some (vL (vR B55)) := by kernel_rfl
theorem tE2 : tr Tryz.prog n50 (cR e72) = some (vR (vR (vR (vR B55)))) := by kernel_rfl
theorem tE3 : tr Tryz.prog n50 (cL (cL p72)) = some (vL (vL (vR (vR (vK (vR L55_0)))))) := by kernel_rfl
theorem tE4 : tr Tryz.prog n50 (cA (cR (cL p72))) = some (vA (vR (vL (vR (vR (vK (vR L55_0))))))) := by kernel_rfl
theorem tE5 : tr Tryz.prog n50 (cL (cR p72)) = some (vL v72) := by kernel_rfl
theorem tE6 : tr Tryz.prog n50 (cL z72) = some (vL (vA (vR v72))) := by kernel_rfl
theorem R2s : (cOps (cL m72)).size = 9 := by kernel_rfl
theorem R2o3 : ((cOps (cL m72))[3]?).map (fun o => (o.op, o.dst, o.guard)) = some (.call { callee := .value (.func 95), args := #[.tmp 15, .tmp 16, .tmp 17], argTypes := #[37, 66, 9] }, some 18, none) := by kernel_rfl
theorem R2o4 : ((cOps (cL m72))[4]?).map (fun o => (o.op, o.dst, o.guard)) = some (.move (.tmp 18), some 14, none) := by kernel_rfl
theorem R2o5 : ((cOps (cL m72))[5]?).map (fun o => (o.op, o.dst, o.guard)) = some (.extract (.tmp 14) 0, some 19, none) := by kernel_rfl
theorem R2o6 : ((cOps (cL m72))[6]?).map (fun o => (o.op, o.dst, o.guard)) = some (.extract (.tmp 14) 1, some 20, none) := by kernel_rfl
theorem R2o7 : ((cOps (cL m72))[7]?).map (fun o => (o.op, o.dst, o.guard)) = some (.assign (.tmp 19), some 8, none) := by kernel_rfl
theorem R2o8 : ((cOps (cL m72))[8]?).map (fun o => (o.op, o.dst, o.guard)) = some (.assign (.tmp 20), some 9, none) := by kernel_rfl
theorem R2v0 : trOpers Tryz.prog (cOps (cL m72)) (((cOps (cL m72)).toList.drop 0).take 3) = some (((vO (vL (vR (vR B55)))).drop 0).take 3) := by kernel_rfl
theorem R3s : (cOps (cL (cL l72))).size = 3 := by kernel_rfl
theorem R3o0 : ((cOps (cL (cL l72)))[0]?).map (fun o => (o.op, o.dst, o.guard)) = some (.move (.tmp 8), some 21, none) := by kernel_rfl
theorem R3o1 : ((cOps (cL (cL l72)))[1]?).map (fun o => (o.op, o.dst, o.guard)) = some (.call { callee := .builtin .len, args := #[.tmp 21], argTypes := #[97] }, some 22, none) := by kernel_rfl
theorem R3v2 : trOpers Tryz.prog (cOps (cL (cL l72))) (((cOps (cL (cL l72))).toList.drop 2).take 1) = some (((vO (vL (vL L55_0))).drop 2).take 1) := by kernel_rfl
theorem R4s : (cOps (cL kk72)).size = 7 := by kernel_rfl
theorem R4o0 : ((cOps (cL kk72))[0]?).map (fun o => (o.op, o.dst, o.guard)) = some (.move (.tmp 8), some 24, none) := by kernel_rfl
theorem R4o1 : ((cOps (cL kk72))[1]?).map (fun o => (o.op, o.dst, o.guard)) = some (.move (.tmp 8), some 25, none) := by kernel_rfl
theorem R4o2 : ((cOps (cL kk72))[2]?).map (fun o => (o.op, o.dst, o.guard)) = some (.call { callee := .builtin .len, args := #[.tmp 25], argTypes := #[97] }, some 26, none) := by kernel_rfl
theorem R4o4 : ((cOps (cL kk72))[4]?).map (fun o => (o.op, o.dst, o.guard)) = some (.indexAddr 97 (.tmp 24) (.tmp 27), some 28, none) := by kernel_rfl
theorem R4o5 : ((cOps (cL kk72))[5]?).map (fun o => (o.op, o.dst, o.guard)) = some (.load 9 (.tmp 28), some 29, none) := by kernel_rfl
theorem R4o6 : ((cOps (cL kk72))[6]?).map (fun o => (o.op, o.dst, o.guard)) = some (.assign (.tmp 29), some 10, none) := by kernel_rfl
theorem R4v3 : trOpers Tryz.prog (cOps (cL kk72)) (((cOps (cL kk72)).toList.drop 3).take 1) = some (((vO (vL (vK (vR L55_0)))).drop 3).take 1) := by kernel_rfl
theorem R5s : (cOps (cL (cR kk72))).size = 6 := by kernel_rfl
theorem R5o0 : ((cOps (cL (cR kk72)))[0]?).map (fun o => (o.op, o.dst, o.guard)) = some (.move (.tmp 8), some 30, none) := by kernel_rfl
theorem R5o1 : ((cOps (cL (cR kk72)))[1]?).map (fun o => (o.op, o.dst, o.guard)) = some (.move (.tmp 8), some 31, none) := by kernel_rfl
theorem R5o2 : ((cOps (cL (cR kk72)))[2]?).map (fun o => (o.op, o.dst, o.guard)) = some (.call { callee := .builtin .len, args := #[.tmp 31], argTypes := #[97] }, some 32, none) := by kernel_rfl
theorem R5o4 : ((cOps (cL (cR kk72)))[4]?).map (fun o => (o.op, o.dst, o.guard)) = some (.slice 97 (.tmp 30) none (some (.tmp 33)) none, some 34, none) := by kernel_rfl
theorem R5o5 : ((cOps (cL (cR kk72)))[5]?).map (fun o => (o.op, o.dst, o.guard)) = some (.assign (.tmp 34), some 8, none) := by kernel_rfl
theorem R5v3 : trOpers Tryz.prog (cOps (cL (cR kk72))) (((cOps (cL (cR kk72))).toList.drop 3).take 1) = some (((vO (vL (vR (vK (vR L55_0))))).drop 3).take 1) := by kernel_rfl
theorem R10s : (cOps (cL (cR z72))).size = 9 := by kernel_rfl
theorem R10o3 : ((cOps (cL (cR z72)))[3]?).map (fun o => (o.op, o.dst, o.guard)) = some (.call { callee := .value (.func 95), args := #[.tmp 45, .tmp 46, .tmp 47], argTypes := #[37, 66, 9] }, some 48, none) := by kernel_rfl
theorem R10o4 : ((cOps (cL (cR z72)))[4]?).map (fun o => (o.op, o.dst, o.guard)) = some (.move (.tmp 48), some 44, none) := by kernel_rfl
theorem R10o5 : ((cOps (cL (cR z72)))[5]?).map (fun o => (o.op, o.dst, o.guard)) = some (.extract (.tmp 44) 0, some 49, none) := by kernel_rfl
theorem R10o6 : ((cOps (cL (cR z72)))[6]?).map (fun o => (o.op, o.dst, o.guard)) = some (.extract (.tmp 44) 1, some 50, none) := by kernel_rfl
theorem R10o7 : ((cOps (cL (cR z72)))[7]?).map (fun o => (o.op, o.dst, o.guard)) = some (.assign (.tmp 49), some 11, none) := by kernel_rfl
theorem R10o8 : ((cOps (cL (cR z72)))[8]?).map (fun o => (o.op, o.dst, o.guard)) = some (.assign (.tmp 50), some 12, none) := by kernel_rfl
theorem R10v0 : trOpers Tryz.prog (cOps (cL (cR z72))) (((cOps (cL (cR z72))).toList.drop 0).take 3) = some (((vO (vL (vR (vA (vR v72))))).drop 0).take 3) := by kernel_rfl
theorem R11s : (cOps (cR (cR z72))).size = 4 := by kernel_rfl
theorem R11a : trOpers Tryz.prog (cOps (cR (cR z72))) (((cOps (cR (cR z72))).toList.drop 0).take 2) = some ((vO (vR (vR (vA (vR v72))))).take 2) := by kernel_rfl
theorem R11b : trOpers Tryz.prog (cOps (cR (cR z72))) (((cOps (cR (cR z72))).toList.drop 3).take 1) = some ((vO (vR (vR (vA (vR v72))))).drop 3) := by kernel_rfl
theorem R11c : ((cOps (cR (cR z72)))[2]?).map (fun o => (o.op, o.dst, o.guard)) = some (.call { callee := .builtin .append, args := #[.tmp 51, .tmp 52], argTypes := #[97, 97] }, some 53, none) := by kernel_rfl
theorem sz9 : sizeT Tryz.prog 9 = some 1 := by kernel_rfl
theorem sh9 : shapeT Tryz.prog 9 = some none := by kernel_rfl
theorem f88b : Tryz.f95.body.isNone = false := by kernel_rfl
theorem f88n : (Tryz.f95.name == "runtime.NumGoroutine") = false := by kernel_rfl
section
variable {fx : Nat → Option Obj}
abbrev H8 (x : Its) (o6 o7 : Ob) : Hp := [IB x, IB x, .map (finM (nS x)), .map (finM (nE x)), .map (finM (nF x)), .box [.mp 2, .mp 3, .mp 4], o6, o7]
abbrev HE (x : Its) (o6 o7 : Ob) (seen : List S) : Hp := HH x o6 o7 (IB x) (.map (seenM seen))
def EInv (fx : Nat → Option Obj) (x : Its) (s : S) (o6 o7 : Ob) (g0 : Gh) (ww : World) (k : Nat) (a : Act) (w : World) : Prop :=
 ∃ g xv seen todo, k = todo.length + owed x seen (nS x ++ nE x) ∧ k ≤ 4096 ∧ Srch x s seen todo ∧ StOk (cxL fx) 54 g ⟨[(1, .ptr 5 0), (2, str s), (3, .ptr 8 0), (7, .mp 9), (8, .raw xv)], HE x o6 o7 seen, 8⟩ a w ∧ Loose (cxL fx) g w ww.heap.size 1 xv todo.length (todo.map strV) ∧ Ext 8 g0 (H8 x o6 o7) ww g (HE x o6 o7 seen) w
set_option maxHeartbeats 4000000 in
theorem loopE (x : Its) (hx : Fine x) (hsm : Small x) (s : S) (o6 o7 : Ob) (g0 : Gh) (ww : World) {Q : Exit → Act → World → Prop}
 (hq : ∀ g a w seen, ¬ Gets x s s → StOk (cxL fx) 54 g ⟨[(2, str s)], HE x o6 o7 seen, 8⟩ a w → Ext 8 g0 (H8 x o6 o7) ww g (HE x o6 o7 seen) w → Q .normal a w)
 (hr : ∀ g a w seen, Gets x s s → StOk (cxL fx) 54 g ⟨[(6, boo true)], HE x o6 o7 seen, 8⟩ a w → Ext 8 g0 (H8 x o6 o7) ww g (HE x o6 o7 seen) w → Q .ret a w)
 (k : Nat) (a : Act) (w : World) (h : EInv fx x s o6 o7 g0 ww k a w) : (Code.block 0 (.loop l72)).wp Tryz.prog Q a w := by
 have hT := tOk fx
 have hS := ev_sound hT mixed
 apply wp_block
 refine wp_loop_dec (EInv fx x s o6 o7 g0 ww) ?_ h
 rintro k a w ⟨g, xv, seen, todo, hk, hk2, hsr, ok, hl, E0⟩
 rw [q72b]
 apply wp_seq
 apply wp_seq
 obtain ⟨ad, c, hxv⟩ := hl.len
 apply wp_region
 rw [R3s, range3]
 have hg8 := (ok.env.2 8 (by decide)).1
 simp only [getE_miss (show (1 : Nat) ≠ 8 by decide), getE_miss (show (2 : Nat) ≠ 8 by decide), getE_miss (show (3 : Nat) ≠ 8 by decide), getE_miss (show (7 : Nat) ≠ 8 by decide), getE_hit, Rep] at hg8
 refine op_put R3o0 ok (v := .raw xv) (fun o ho => run_mv ho) (by decide) hg8 rfl fun ok1 => ?_
 have hg21 := (ok1.env.2 21 (by decide)).1
 simp only [putE, getE_hit, Rep] at hg21
 refine op_put R3o1 ok1 (v := i64 todo.length) (fun o ho => run_lenR u66 (hg21.trans hxv) ho) (by decide) (int_rep _ _) rfl fun ok2 => ?_
 show Go.wpOps _ _ _ (List.range' 2 1 ++ []) _ _
 refine ops_mid hS R3v2 (by kernel_rfl) (by rw [R3s]; decide) (s' := ⟨[(23, boo (decide ((todo.length : Int) > 0))), (22, i64 todo.length), (21, .raw xv), (1, .ptr 5 0), (2, str s), (3, .ptr 8 0), (7, .mp 9), (8, .raw xv)], HE x o6 o7 seen, 8⟩) rfl ok2 fun g3 a3 w3 ok3 ext3 => ?_
 have hl3 := hl.ext ext3
 have E3 := E0.trans ext3 (Nat.le_refl _)
 show (Code.cond _ _ _).wp _ _ _ _
 refine Go.wp_cond_split (cond_val ok3 (i := 23) (by decide) rfl) (fun hc => ?_) (fun hc => ?_)
 ·have hpos : 0 < todo.length := by have := of_decide_eq_true hc; omega
  obtain ⟨td, y, rfl⟩ : ∃ td y, todo = td ++ [y] := ⟨todo.dropLast, todo.getLast (List.length_pos_iff.1 hpos), (List.dropLast_concat_getLast _).symm⟩
  have ok3 := ok3.forget [1, 2, 3, 7, 8]
  rw [show keepE [1, 2, 3, 7, 8] _ = [(1, .ptr 5 0), (2, str s), (3, .ptr 8 0), (7, .mp 9), (8, .raw xv)] from rfl] at ok3
  clear ok ok1 ok2 hg8 hg21
  have hlen : (td ++ [y]).length = td.length + 1 := by simp
  have hlb : td.length + 1 ≤ 4096 := by omega
  apply wp_skip
  show (Code.block 1 _).wp _ _ _ _
  apply wp_block
  apply wp_seq
  apply wp_region
  rw [R4s, show List.range 7 = [0, 1, 2, 3, 4, 5, 6] from rfl]
  refine op_put R4o0 ok3 (v := .raw xv) (fun o ho => run_mv ho) (by decide) (repOf ok3 (i := 8) (by decide) rfl) rfl fun ok4 => ?_
  refine op_put R4o1 ok4 (v := .raw xv) (fun o ho => run_mv ho) (by decide) (repOf ok4 (i := 8) (by decide) rfl) rfl fun ok5 => ?_
  refine op_put R4o2 ok5 (v := i64 (td ++ [y]).length) (fun o ho => run_lenR u66 ((valR ok5 (i := 25) (by decide) rfl).trans hxv) ho) (by decide) (int_rep _ _) rfl fun ok6 => ?_
  show Go.wpOps _ _ _ (List.range' 3 1 ++ [4, 5, 6]) _ _
  have hw : IntKind.i64.wrap (((td ++ [y]).length : Int) - 1) = (td.length : Int) := by rw [hlen, i64w (by omega)]; omega
  refine ops_mid hS R4v3 (by kernel_rfl) (by rw [R4s]; decide) (s' := ⟨[(27, i64 td.length), (26, i64 (td ++ [y]).length), (25, .raw xv), (24, .raw xv), (1, .ptr 5 0), (2, str s), (3, .ptr 8 0), (7, .mp 9), (8, .raw xv)], HE x o6 o7 seen, 8⟩) (by rw [← hw]; rfl) ok6 fun g7 a7 w7 ok7 ext7 => ?_
  have hl7 := hl3.ext ext7
  have E7 := E3.trans ext7 (Nat.le_refl _)
  obtain ⟨b, cap, cur, e, hx1, hh, hy⟩ := hl7.get (i := td.length) (y := strV y) (by rw [List.map_append, List.getElem?_append_right (by simp)]; simp)
  refine op_put R4o4 ok7 (v := .raw (.pointer (some ⟨b, td.length, none⟩))) (fun o ho => run_iadrR u66 sz9 ((valR ok7 (i := 24) (by decide) rfl).trans hx1) (valI ok7 (i := 27) (by decide) rfl) (by omega) ho) (by decide) (by simp only [Rep]) rfl fun ok8 => ?_
  refine op_put R4o5 ok8 (v := str y) (fun o ho => run_ldR sh9 (valR ok8 (i := 28) (by decide) rfl) hh hy ho) (by decide) (by simp only [Rep, RepD, RepCs]; rfl) rfl fun ok9 => ?_
  refine op_put R4o6 ok9 (v := str y) (fun o ho => run_as ho) (by decide) (repOf ok9 (i := 29) (by decide) rfl) rfl fun ok10 => ?_
  have ok10 := ok10.forget [1, 2, 3, 7, 8, 10]
  rw [show keepE [1, 2, 3, 7, 8, 10] _ = [(1, .ptr 5 0), (2, str s), (3, .ptr 8 0), (7, .mp 9), (8, .raw xv), (10, str y)] from rfl] at ok10
  clear ok4 ok5 ok6 ok7 ok8 ok9
  show (Code.seq _ _).wp _ _ _ _
  apply wp_seq
  apply wp_region
  rw [R5s, show List.range 6 = [0, 1, 2, 3, 4, 5] from rfl]
  refine op_put R5o0 ok10 (v := .raw xv) (fun o ho => run_mv ho) (by decide) (repOf ok10 (i := 8) (by decide) rfl) rfl fun ok11 => ?_
  refine op_put R5o1 ok11 (v := .raw xv) (fun o ho => run_mv ho) (by decide) (repOf ok11 (i := 8) (by decide) rfl) rfl fun ok12 => ?_
  refine op_put R5o2 ok12 (v := i64 (td ++ [y]).length) (fun o ho => run_lenR u66 ((valR ok12 (i := 31) (by decide) rfl).trans hxv) ho) (by decide) (int_rep _ _) rfl fun ok13 => ?_
  show Go.wpOps _ _ _ (List.range' 3 1 ++ [4, 5]) _ _
  refine ops_mid hS R5v3 (by kernel_rfl) (by rw [R5s]; decide) (s' := ⟨[(33, i64 td.length), (32, i64 (td ++ [y]).length), (31, .raw xv), (30, .raw xv), (1, .ptr 5 0), (2, str s), (3, .ptr 8 0), (7, .mp 9), (8, .raw xv), (10, str y)], HE x o6 o7 seen, 8⟩) (by rw [← hw]; rfl) ok13 fun g14 a14 w14 ok14 ext14 => ?_
  have hl14 := hl7.ext ext14
  have E14 := E7.trans ext14 (Nat.le_refl _)
  rw [hxv] at hl14
  obtain ⟨hmc, hl15⟩ := hl14.pop (m := td.length) (by omega)
  rw [show ((td ++ [y]).map strV).take td.length = td.map strV by rw [List.map_append]; exact List.take_left' (by simp)] at hl15
  revert hl15
  obtain ⟨xv2, hxv2⟩ : ∃ xv2, xv2 = Value.slice (if c = 0 then ad else ad.map (·.add 0)) td.length c := ⟨_, rfl⟩
  rw [← hxv2]
  intro hl15
  refine op_put R5o4 ok14 (v := .raw xv2) (x := xv2) (fun o ho => by rw [hxv2]; exact run_slcR u66 sz9 ((valR ok14 (i := 30) (by decide) rfl).trans hxv) (valI ok14 (i := 33) (by decide) rfl) hmc ho) (by decide) (by simp only [Rep]) rfl fun ok15 => ?_
  refine op_put R5o5 ok15 (v := .raw xv2) (fun o ho => run_as ho) (by decide) (repOf ok15 (i := 34) (by decide) rfl) rfl fun ok16 => ?_
  have ok16 := ok16.forget [1, 2, 3, 7, 8, 10]
  rw [show keepE [1, 2, 3, 7, 8, 10] _ = [(1, .ptr 5 0), (2, str s), (3, .ptr 8 0), (7, .mp 9), (8, .raw xv2), (10, str y)] from rfl] at ok16
  clear ok10 ok11 ok12 ok13 ok14 ok15
  show Code.wp _ p72 _ _ _
  rw [q72c]
  apply wp_seq
  apply wp_seq
  refine chunk hT mixed tE3 (by kernel_rfl) ok16 (R := fun x1 e' H' => x1 = .nrm ∧ keepE [1, 2, 3, 7, 8, 10, 37] e' = [(1, .ptr 5 0), (2, str s), (3, .ptr 8 0), (7, .mp 9), (8, .raw xv2), (10, str y), (37, boo (decide (y = s)))] ∧ H' = HE x o6 o7 seen) ?_ ?_
  ·refine run ⟨?_⟩
   exact rfl
  rintro x1 e' H' g17 a17 w17 ⟨rfl, he, rfl⟩ ok17 ext17
  have ok17 := ok17.forget [1, 2, 3, 7, 8, 10, 37]
  rw [he] at ok17
  have hl17 := hl15.ext ext17
  have E17 := E14.trans ext17 (Nat.le_refl _)
  clear he ok16
  show (Code.cond _ _ _).wp _ _ _ _
  refine Go.wp_cond_split (cond_val ok17 (i := 37) (by decide) rfl) (fun hc2 => ?_) (fun hc2 => ?_)
  ·have hys : y = s := of_decide_eq_true hc2
   refine chunk hT mixed tE4 (by kernel_rfl) ok17 (R := fun x1 e' H' => x1 = .ret ∧ keepE [6] e' = [(6, boo true)] ∧ H' = HE x o6 o7 seen) ?_ ?_
   ·refine run ⟨?_⟩
    exact rfl
   rintro x1 e' H' g18 a18 w18 ⟨rfl, he, rfl⟩ ok18 ext18
   have ok18 := ok18.forget [6]
   rw [he] at ok18
   exact hr g18 a18 w18 seen (by have := hsr.r2 y (by simp); rwa [hys] at this) ok18 (E17.trans ext18 (Nat.le_refl _))
  ·have hys : ¬ y = s := of_decide_eq_false hc2
   apply wp_skip
   show (Code.seq _ _).wp _ _ _ _
   apply wp_seq
   have h1 := seenM_keys seen
   have h2 := seenM_find y seen
   have h3 := seenM_set y seen
   by_cases hm : y ∈ seen
   ·rw [if_pos hm] at h2
    refine chunk hT mixed tE5 (by kernel_rfl) ok17 (R := fun x1 e' H' => x1 = .nrm ∧ keepE [1, 2, 3, 7, 8, 41] e' = [(1, .ptr 5 0), (2, str s), (3, .ptr 8 0), (7, .mp 9), (8, .raw xv2), (41, boo (decide ((1 : Int) = 0)))] ∧ H' = HE x o6 o7 seen) ?_ ?_
    ·repeat' (first | refine run ⟨?_⟩ | refine mg h1 h2 ?_ | fail)
     exact rfl
    rintro x1 e' H' g18 a18 w18 ⟨rfl, he, rfl⟩ ok18 ext18
    have ok18 := ok18.forget [1, 2, 3, 7, 8, 41]
    rw [he] at ok18
    show (Code.cond _ _ _).wp _ _ _ _
    refine Go.wp_cond_false (cond_val ok18 (i := 41) (b := false) (by decide) rfl) ?_
    apply wp_skip
    exact ⟨td.length + owed x seen (nS x ++ nE x), by omega, g18, xv2, seen, td, rfl, by omega, hsr.old hm, ok18.forget [1, 2, 3, 7, 8], hl17.ext ext18, E17.trans ext18 (Nat.le_refl _)⟩
   ·rw [if_neg hm] at h2
    have h3 := h3 hm
    refine chunk hT mixed tE5 (by kernel_rfl) ok17 (R := fun x1 e' H' => x1 = .nrm ∧ keepE [1, 2, 3, 7, 8, 10, 41] e' = [(1, .ptr 5 0), (2, str s), (3, .ptr 8 0), (7, .mp 9), (8, .raw xv2), (10, str y), (41, boo (decide ((0 : Int) = 0)))] ∧ H' = HE x o6 o7 seen) ?_ ?_
    ·repeat' (first | refine run ⟨?_⟩ | refine mg h1 h2 ?_ | fail)
     exact rfl
    rintro x1 e' H' g18 a18 w18 ⟨rfl, he, rfl⟩ ok18 ext18
    have ok18 := ok18.forget [1, 2, 3, 7, 8, 10, 41]
    rw [he] at ok18
    have hl18 := hl17.ext ext18
    have E18 := E17.trans ext18 (Nat.le_refl _)
    show (Code.cond _ _ _).wp _ _ _ _
    refine Go.wp_cond_true (cond_val ok18 (i := 41) (b := true) (by decide) rfl) ?_
    rw [q72d]
    apply wp_seq
    refine chunk hT mixed tE6 (by kernel_rfl) ok18 (R := fun x1 e' H' => x1 = .nrm ∧ keepE [1, 2, 3, 7, 8, 10] e' = [(1, .ptr 5 0), (2, str s), (3, .ptr 8 0), (7, .mp 9), (8, .raw xv2), (10, str y)] ∧ H' = HE x o6 o7 (seen ++ [y])) ?_ ?_
    ·repeat' (first | refine run ⟨?_⟩ | refine And.intro h1 ?_ | fail)
     show [_, _, _, _, _, _, _, _, _, Ob.map _] = _
     rw [h3]
    rintro x1 e' H' g19 a19 w19 ⟨rfl, he, rfl⟩ ok19 ext19
    have ok19 := ok19.forget [1, 2, 3, 7, 8, 10]
    rw [he] at ok19
    have hl19 := hl18.ext ext19
    have E19 := E18.trans ext19 (Nat.le_refl _)
    show (Code.seq _ _).wp _ _ _ _
    apply wp_seq
    apply wp_region
    rw [R10s, show List.range 9 = List.range' 0 3 ++ [3, 4, 5, 6, 7, 8] from rfl]
    refine ops_mid hS R10v0 (by kernel_rfl) (by rw [R10s]; decide) (s' := ⟨[(47, str y), (46, .ptr 5 0), (45, .d x.D), (1, .ptr 5 0), (2, str s), (3, .ptr 8 0), (7, .mp 9), (8, .raw xv2), (10, str y)], HE x o6 o7 (seen ++ [y]), 8⟩) rfl ok19 fun g20 a20 w20 ok20 ext20 => ?_
    have hl20 := hl19.ext ext20
    have E20 := E19.trans ext20 (Nat.le_refl _)
    have hra : RepTs g20 (HE x o6 o7 (seen ++ [y])) [.d x.D, .ptr 5 0, str y] ((#[Operand.tmp 45, Operand.tmp 46, Operand.tmp 47].map a20.eval).toList) := by
     simp only [List.map_toArray, List.map_cons, List.map_nil, RepTs]
     exact ⟨_, _, rfl, repOf ok20 (i := 45) (by decide) rfl, _, _, rfl, repOf ok20 (i := 46) (by decide) rfl, _, _, rfl, repOf ok20 (i := 47) (by decide) rfl, rfl⟩
    refine op_callE f88f f88b f88n R10o3 (held_calls x hx y o6 o7 (IB x) (.map (seenM (seen ++ [y]))) g20 w20 _ ok20.inv hra) fun e w21 he => ?_
    obtain ⟨xl, g21, rfl, hI21, ext21, hl21⟩ := he
    refine ⟨_, rfl, ?_⟩
    have ok21 := ok20.put (d := some 48) (v := .raw (.tuple #[xl, .bool (heldM x y).2])) (x := .tuple #[xl, .bool (heldM x y).2]) (fun k hk => by cases hk; decide) hI21 (by simp only [Rep]) rfl (ext21.le (by show 8 ≤ 10; decide))
    have hl22 := hl20.ext ext21
    have E22 := E20.trans ext21 (by show 8 ≤ 10; decide)
    refine op_put R10o4 ok21 (v := .raw (.tuple #[xl, .bool (heldM x y).2])) (fun o ho => run_mv ho) (by decide) (repOf ok21 (i := 48) (by decide) rfl) rfl fun ok22 => ?_
    refine op_put R10o5 ok22 (v := .raw xl) (x := xl) (fun o ho => run_ex ho (valR ok22 (i := 44) (by decide) rfl) rfl) (by decide) (by simp only [Rep]) rfl fun ok23 => ?_
    refine op_put R10o6 ok23 (v := boo (heldM x y).2) (x := .bool (heldM x y).2) (fun o ho => run_ex ho (valR ok23 (i := 44) (by decide) rfl) rfl) (by decide) (bool_rep _) rfl fun ok24 => ?_
    refine op_put R10o7 ok24 (v := .raw xl) (fun o ho => run_as ho) (by decide) (repOf ok24 (i := 49) (by decide) rfl) rfl fun ok25 => ?_
    refine op_put R10o8 ok25 (v := boo (heldM x y).2) (fun o ho => run_as ho) (by decide) (repOf ok25 (i := 50) (by decide) rfl) rfl fun ok26 => ?_
    have ok26 := ok26.forget [1, 2, 3, 7, 8, 11]
    rw [show keepE [1, 2, 3, 7, 8, 11] _ = [(1, .ptr 5 0), (2, str s), (3, .ptr 8 0), (7, .mp 9), (8, .raw xv2), (11, .raw xl)] from rfl] at ok26
    have how := owed_see x hm
    have hhs := held_small hsm y
    show (Code.region _ _ _).wp _ _ _ _
    refine wp_app hS R11s R11a R11b (by kernel_rfl) (by kernel_rfl) R11c (by decide) u66 iStr_e zStr_e zStr_s ok26 (s1 := ⟨[(52, .raw xl), (51, .raw xv2), (1, .ptr 5 0), (2, str s), (3, .ptr 8 0), (7, .mp 9), (8, .raw xv2), (11, .raw xl)], HE x o6 o7 (seen ++ [y]), 8⟩) rfl (xv := xv2) rfl (by decide) (w0 := ww) (by rw [iStr_s]; exact hl22) E22 (m3 := (heldM x y).1.length) (vs := (heldM x y).1.map strV) (fun g' a' w' ok' ext' => by rw [iStr_s, valR ok' (i := 52) (by decide) rfl]; exact (hl21.ext ext').stand) (by intro u hu; obtain ⟨q, _, rfl⟩ := List.mem_map.1 hu; rfl) (by rw [iStr_b]; constructor <;> omega) (s2 := fun xv' => ⟨[(8, .raw xv'), (53, .raw xv'), (52, .raw xl), (51, .raw xv2), (1, .ptr 5 0), (2, str s), (3, .ptr 8 0), (7, .mp 9), (8, .raw xv2), (11, .raw xl)], HE x o6 o7 (seen ++ [y]), 8⟩) (fun _ => rfl) ?_
    intro xv' g27 a27 w27 ok27 hl27 E27
    rw [iStr_s] at hl27
    refine ⟨(td ++ (heldM x y).1).length + owed x (seen ++ [y]) (nS x ++ nE x), by rw [List.length_append]; omega, g27, xv', seen ++ [y], td ++ (heldM x y).1, rfl, by rw [List.length_append]; omega, hsr.new hys, ok27.forget [1, 2, 3, 7, 8], ?_, E27⟩
    rw [List.length_append, List.map_append]
    exact hl27
 ·apply wp_exit
  have h0 : todo = [] := by
   have := of_decide_eq_false hc
   apply List.eq_nil_of_length_eq_zero; omega
  subst h0
  exact hq g3 a3 w3 seen hsr.end (ok3.forget [2]) E3
def EQ (fx : Nat → Option Obj) (x : Its) (s : S) (o6 o7 : Ob) (g0 : Gh) (ww : World) : Exit → Act → World → Prop := fun e a w => e = .ret ∧ ∃ g seen, StOk (cxL fx) 54 g ⟨[(6, boo (endB x s))], HE x o6 o7 seen, 8⟩ a w ∧ Ext 8 g0 (H8 x o6 o7) ww g (HE x o6 o7 seen) w
set_option maxHeartbeats 4000000 in
theorem end_body (x : Its) (hx : Fine x) (hsm : Small x) (s : S) (o6 o7 : Ob) (g : Gh) (w : World) (a : Act) (ok : StOk (cxL fx) 54 g ⟨[(0, .d x.D), (1, .ptr 5 0), (2, str s)], H8 x o6 o7, 8⟩ a w) : c72.wp Tryz.prog (EQ fx x s o6 o7 g w) a w := by
 have hT := tOk fx
 have hS := ev_sound hT mixed
 rw [q72a]
 apply wp_seq
 refine chunk hT mixed tE0 (by kernel_rfl) ok (R := fun x1 e' H' => x1 = .nrm ∧ keepE [1, 2, 3] e' = [(1, .ptr 5 0), (2, str s), (3, .ptr 8 0)] ∧ H' = H8 x o6 o7 ++ [IB x]) ?_ ?_
 ·refine run ⟨?_⟩
  exact rfl
 rintro x1 e' H' g1 a1 w1 ⟨rfl, he, rfl⟩ ok1 ext1
 have ok1 := ok1.forget [1, 2, 3]
 rw [he] at ok1
 clear he ok
 show (Code.seq _ _).wp _ _ _ _
 apply wp_seq
 refine chunk hT mixed tE1 (by kernel_rfl) ok1 (R := fun x1 e' H' => x1 = .nrm ∧ keepE [1, 2, 3, 7] e' = [(1, .ptr 5 0), (2, str s), (3, .ptr 8 0), (7, .mp 9)] ∧ H' = HE x o6 o7 []) ?_ ?_
 ·refine run ⟨?_⟩
  exact rfl
 rintro x1 e' H' g2 a2 w2 ⟨rfl, he, rfl⟩ ok19 ext2
 have ok19 := ok19.forget [1, 2, 3, 7]
 rw [he] at ok19
 have E19 := ext1.trans ext2 (Nat.le_refl _)
 clear he ok1
 show (Code.seq _ _).wp _ _ _ _
 apply wp_seq
 apply wp_region
 rw [R2s, show List.range 9 = List.range' 0 3 ++ [3, 4, 5, 6, 7, 8] from rfl]
 refine ops_mid hS R2v0 (by kernel_rfl) (by rw [R2s]; decide) (s' := ⟨[(17, str s), (16, .ptr 5 0), (15, .d x.D), (1, .ptr 5 0), (2, str s), (3, .ptr 8 0), (7, .mp 9)], HE x o6 o7 [], 8⟩) rfl ok19 fun g20 a20 w20 ok20 ext20 => ?_
 have E20 := E19.trans ext20 (Nat.le_refl _)
 have hra : RepTs g20 (HE x o6 o7 []) [.d x.D, .ptr 5 0, str s] ((#[Operand.tmp 15, Operand.tmp 16, Operand.tmp 17].map a20.eval).toList) := by
  simp only [List.map_toArray, List.map_cons, List.map_nil, RepTs]
  exact ⟨_, _, rfl, repOf ok20 (i := 15) (by decide) rfl, _, _, rfl, repOf ok20 (i := 16) (by decide) rfl, _, _, rfl, repOf ok20 (i := 17) (by decide) rfl, rfl⟩
 refine op_callE f88f f88b f88n R2o3 (held_calls x hx s o6 o7 (IB x) (.map (seenM [])) g20 w20 _ ok20.inv hra) fun e w21 he => ?_
 obtain ⟨xl, g21, rfl, hI21, ext21, hl21⟩ := he
 refine ⟨_, rfl, ?_⟩
 have ok21 := ok20.put (d := some 18) (v := .raw (.tuple #[xl, .bool (heldM x s).2])) (x := .tuple #[xl, .bool (heldM x s).2]) (fun k hk => by cases hk; decide) hI21 (by simp only [Rep]) rfl (ext21.le (by show 8 ≤ 10; decide))
 have E22 := E20.trans ext21 (by show 8 ≤ 10; decide)
 refine op_put R2o4 ok21 (v := .raw (.tuple #[xl, .bool (heldM x s).2])) (fun o ho => run_mv ho) (by decide) (repOf ok21 (i := 18) (by decide) rfl) rfl fun ok22 => ?_
 refine op_put R2o5 ok22 (v := .raw xl) (x := xl) (fun o ho => run_ex ho (valR ok22 (i := 14) (by decide) rfl) rfl) (by decide) (by simp only [Rep]) rfl fun ok23 => ?_
 refine op_put R2o6 ok23 (v := boo (heldM x s).2) (x := .bool (heldM x s).2) (fun o ho => run_ex ho (valR ok23 (i := 14) (by decide) rfl) rfl) (by decide) (bool_rep _) rfl fun ok24 => ?_
 refine op_put R2o7 ok24 (v := .raw xl) (fun o ho => run_as ho) (by decide) (repOf ok24 (i := 19) (by decide) rfl) rfl fun ok25 => ?_
 refine op_put R2o8 ok25 (v := boo (heldM x s).2) (fun o ho => run_as ho) (by decide) (repOf ok25 (i := 20) (by decide) rfl) rfl fun ok26 => ?_
 have ok26 := ok26.forget [1, 2, 3, 7, 8]
 rw [show keepE [1, 2, 3, 7, 8] _ = [(1, .ptr 5 0), (2, str s), (3, .ptr 8 0), (7, .mp 9), (8, .raw xl)] from rfl] at ok26
 have hhs := held_small hsm s
 have hob := owed_bound hsm [] (nS x ++ nE x)
 have hnl : (nS x ++ nE x).length ≤ 128 := by
  have h1 := hsm.ss
  have h2 := hsm.es
  simp only [List.length_append, nS, nE, List.length_map]; omega
 show (Code.seq _ _).wp _ _ _ _
 apply wp_seq
 have hle : w.heap.size ≤ w20.heap.size := E20.size
 have hl22 : Loose (cxL fx) g21 w21 w.heap.size 1 xl (heldM x s).1.length ((heldM x s).1.map strV) := hl21.older hle
 refine loopE x hx hsm s o6 o7 g w (fun g3 a3 w3 seen hn ok3 E3 => ?_) (fun g3 a3 w3 seen hy ok3 E3 => ?_) _ _ _ ⟨g21, xl, [], (heldM x s).1, rfl, by omega, Srch.start x s, ok26, hl22, E22⟩
 ·show Code.wp _ (cR e72) _ _ _
  refine chunk hT mixed tE2 (by kernel_rfl) ok3 (R := fun x1 e' H' => x1 = .ret ∧ keepE [6] e' = [(6, boo false)] ∧ H' = HE x o6 o7 seen) ?_ ?_
  ·refine run ⟨?_⟩
   exact rfl
  rintro x1 e' H' g4 a4 w4 ⟨rfl, he, rfl⟩ ok4 ext4
  have ok4 := ok4.forget [6]
  rw [he] at ok4
  exact ⟨rfl, g4, seen, by rw [endB_f hn]; exact ok4, E3.trans ext4 (Nat.le_refl _)⟩
 ·exact ⟨rfl, g3, seen, by rw [endB_t hy]; exact ok3, E3⟩
theorem r72 : trRes Tryz.prog Tryz.f55.results.toList = some [.tmp 6] := by kernel_rfl
theorem f72f : Tryz.prog.funcs[55]? = some Tryz.f55 := by kernel_rfl
theorem n72t : Tryz.f55.ntmps = 54 := by kernel_rfl
theorem end_spec (x : Its) (hx : Fine x) (hsm : Small x) (s : S) (o6 o7 : Ob) : FnSpec Tryz.prog (cxL fx) 55 [.d x.D, .ptr 5 0, str s] (H8 x o6 o7) (boo (endB x s)) (H8 x o6 o7) := by
 refine ⟨⟨Tryz.f55, f72f, by kernel_rfl, by kernel_rfl⟩, fun g w cargs hI ra ua => ?_⟩
 refine calls_of_wp f72f b72 ?_
 have ok0 : StOk (cxL fx) 54 g ⟨enterE [.d x.D, .ptr 5 0, str s], H8 x o6 o7, 8⟩ { tmps := cargs ++ Array.replicate (Tryz.f55.ntmps - cargs.size) Go.undef, defers := [] } w :=
  ⟨hI, by rw [n72t]; exact enter_ok ra ua (by show 3 ≤ 54; decide), rfl, by show 8 ≤ 8; decide⟩
 have ok0 := ok0.forget [0, 1, 2]
 rw [show keepE [0, 1, 2] (enterE [.d x.D, .ptr 5 0, str s]) = [(0, .d x.D), (1, .ptr 5 0), (2, str s)] from rfl] at ok0
 refine wp_mono (end_body x hx hsm s o6 o7 g w _ ok0) fun e a1 w1 he => ?_
 obtain ⟨rfl, g1, seen, ok1, E⟩ := he
 have goal : a1.defers = [] ∧ ∃ v, (results Tryz.f55 a1.tmps).run Tryz.prog w1 = .ok v w1 ∧ ∃ g' z, Ending.returned v = .returned z ∧ Inv (cxL fx) g' (H8 x o6 o7) w1 ∧ Rep g' (H8 x o6 o7) (boo (endB x s)) z ∧ (boo (endB x s)).und (H8 x o6 o7).length = true ∧ Ext (H8 x o6 o7).length g (H8 x o6 o7) w g' (H8 x o6 o7) w1 := by
  refine ⟨ok1.defers, ?_⟩
  obtain ⟨ys, y1, y2, y3⟩ := results_run (P := Tryz.prog) (fn := Tryz.f55) (vs := [boo (endB x s)]) ok1.inv ok1.env r72 (by decide) rfl
  simp only [RepTs, Rep, RepD, RepCs] at y2
  obtain ⟨z1, ys1, rfl, h2, rfl⟩ := y2
  simp only [List.cons.injEq, and_true] at h2
  subst h2
  refine ⟨_, y1, g1.cut 8, _, rfl, ?_, bool_rep _, rfl, ?_⟩
  ·exact ok1.inv.restrict (n := 8) (by show 8 ≤ 10; decide) (E.clean 8 (Nat.le_refl _) hI.und)
  ·exact E.cut2 (n := 8) (by show 8 ≤ 8; decide) (by show 8 ≤ 10; decide) (Nat.le_refl _)
 exact goal
end
end Go.Vm.Ite
namespace Go.Vm.Ite
open Go Go.Vm Go.Proofs Go.Vm.Ip
set_option maxRecDepth 100000
noncomputable def c46 : Code := (Tryz.f16.body).getD .skip
theorem b46 : Tryz.f16.body = some c46 := by kernel_rfl
noncomputable def c46a : Code := cR (cR (cR (cR c46)))
noncomputable def c46b : Code := cR (cR (cR c46a))
noncomputable def c46c : Code := cR c46b
noncomputable def c46d : Code := cR c46c
noncomputable def m1 : Code := cL c46b
noncomputable def m2 : Code := cL c46c
noncomputable def l1 : Code := cK (cK (cR m1))
noncomputable def l2 : Code := cK (cK (cR m2))
theorem q46 : c46 = .seq (cL c46) (.seq (cL (cR c46)) (.seq (cL (cR (cR c46))) (.seq (cL (cR (cR (cR c46)))) (.seq (cL c46a) (.seq (cL (cR c46a)) (.seq (cL (cR (cR c46a))) (.seq m1 (.seq m2 c46d)))))))) := by kernel_rfl
theorem qm1 : m1 = .seq (.region (cId (cL m1)) (cOps (cL m1)) false) (.block 4 (.loop (rangeLoop 104 4 (cId (cL l1)) (cId (cR (cR l1))) (cId (cL (cK (cR (cR l1))))) (cOps (cL l1)) (cOps (cL (cK (cR (cR l1))))) (cR (cK (cR (cR l1))))))) := by kernel_rfl
theorem qm2 : m2 = .seq (.region (cId (cL m2)) (cOps (cL m2)) false) (.block 6 (.loop (rangeLoop 114 6 (cId (cL l2)) (cId (cR (cR l2))) (cId (cL (cK (cR (cR l2))))) (cOps (cL l2)) (cOps (cL (cK (cR (cR l2))))) (cR (cK (cR (cR l2))))))) := by kernel_rfl
theorem sh1 : RangeShape 134 (cOps (cL m1)) (cOps (cL l1)) (cOps (cL (cK (cR (cR l1))))) 4 101 102 103 104 105 106 10 75 :=
 ⟨by kernel_rfl, by kernel_rfl, by kernel_rfl, by kernel_rfl, by kernel_rfl, by kernel_rfl, by kernel_rfl, by kernel_rfl, by kernel_rfl, by kernel_rfl, by decide, by decide⟩
theorem sh2 : RangeShape 134 (cOps (cL m2)) (cOps (cL l2)) (cOps (cL (cK (cR (cR l2))))) 4 111 112 113 114 115 116 11 75 :=
 ⟨by kernel_rfl, by kernel_rfl, by kernel_rfl, by kernel_rfl, by kernel_rfl, by kernel_rfl, by kernel_rfl, by kernel_rfl, by kernel_rfl, by kernel_rfl, by decide, by decide⟩
theorem u75 : Tryz.prog.underlying 75 = some (.map 9 3) := by kernel_rfl
theorem tK0 : tr Tryz.prog n50 (cL c46) = some (vL B16) := by kernel_rfl
theorem tK1 : tr Tryz.prog n50 (cL (cR c46)) = some (vL (vR B16)) := by kernel_rfl
theorem tK2 : tr Tryz.prog n50 (cL (cR (cR c46))) = some (vL (vR (vR B16))) := by kernel_rfl
theorem tK3 : tr Tryz.prog n50 (cL (cR (cR (cR c46)))) = some (vL (vR (vR (vR B16)))) := by kernel_rfl
noncomputable def d46 : VCode := vR (vR (vR (vR B16)))
theorem tK4 : tr Tryz.prog A16 (cL c46a) = some (vL d46) := by kernel_rfl
theorem tK5 : tr Tryz.prog A16 (cL (cR c46a)) = some (vL (vR d46)) := by kernel_rfl
theorem tK6 : tr Tryz.prog n50 (cL (cR (cR c46a))) = some (vL (vR (vR d46))) := by kernel_rfl
noncomputable def vb1 : VCode := vR (vK (vR (vR L16_2)))
noncomputable def vb2 : VCode := vR (vK (vR (vR L16_3)))
theorem tb1 : tr Tryz.prog n50 (cR (cK (cR (cR l1)))) = some vb1 := by kernel_rfl
theorem tb2 : tr Tryz.prog n50 (cR (cK (cR (cR l2)))) = some vb2 := by kernel_rfl
open Classical in
noncomputable def primEnd (x : Its) (a : List V) (h : Hp) : Option (V × Hp) := match a with
 | [d, p, .d (.str s)] => if d = .d x.D ∧ p = .ptr 5 0 ∧ ∃ o6 o7, h = H8 x o6 o7 then some (boo (endB x s), h) else none
 | _ => none
noncomputable def F1 (x : Its) : Nat → Option VFun := fun i => if i = 55 then some (.prim (primEnd x)) else none
theorem tOk1 (fx : Nat → Option Obj) (x : Its) (hx : Fine x) (hsm : Small x) : TblOk Tryz.prog (pgL fx (F1 x)) := by
 refine tblOk _ _ fun f e h => ?_
 unfold F1 at h
 split at h
 ·rename_i hf
  subst hf
  cases h
  intro args H r H' hh
  unfold primEnd at hh
  split at hh
  ·rename_i d p s
   split at hh
   ·rename_i hc
    obtain ⟨rfl, rfl, o6, o7, rfl⟩ := hc
    cases hh
    exact end_spec x hx hsm s o6 o7
   ·cases hh
  ·cases hh
 ·cases h
theorem end_ev {fx : Nat → Option Obj} (x : Its) (s : S) (o6 o7 : Ob) : evF (pgL fx (F1 x)) 55 [.d x.D, .ptr 5 0, str s] (H8 x o6 o7) = some (boo (endB x s), H8 x o6 o7) := by
 have ht : (pgL fx (F1 x)).tbl 55 = some (.prim (primEnd x)) := rfl
 rw [evF_prim ht]
 unfold primEnd
 exact if_pos ⟨rfl, rfl, o6, o7, rfl⟩
theorem seenM_at {ns : List S} {i : Nat} {p : D × D} (h : (seenM ns)[i]? = some p) : ∃ n, ns[i]? = some n ∧ p = (.str n, .int .i64 1) := by
 unfold seenM at h
 rw [List.getElem?_map] at h
 obtain ⟨n, h1, h2⟩ := Option.map_eq_some_iff.1 h
 exact ⟨n, h1, h2.symm⟩
set_option maxHeartbeats 2000000 in
theorem range1 {fx : Nat → Option Obj} (x : Its) (hx : Fine x) (hsm : Small x) (ns : List S) (o7 : Ob) (g : Gh) (a : Act) (w : World) (b : Nat) (ok : StOk (cxL fx) 134 g ⟨[(1, .ptr 0 0), (3, .ptr 5 0), (4, .mp 6), (9, .mp 7)], H8 x (.map (seenM ns)) o7, b⟩ a w) {Q : Exit → Act → World → Prop}
 (hn : ∀ g' a' w', (∀ s ∈ ns, endB x s = false) → StOk (cxL fx) 134 g' ⟨[(1, .ptr 0 0), (3, .ptr 5 0), (4, .mp 6), (9, .mp 7)], H8 x (.map (seenM ns)) o7, b⟩ a' w' → Ext b g (H8 x (.map (seenM ns)) o7) w g' (H8 x (.map (seenM ns)) o7) w' → Q .normal a' w')
 (hr : ∀ g' a' w' e H', (∃ s ∈ ns, endB x s = true) → getE e 2 = .d (.int .i64 7) → StOk (cxL fx) 134 g' ⟨e, H', b⟩ a' w' → Ext b g (H8 x (.map (seenM ns)) o7) w g' H' w' → Q .ret a' w') : m1.wp Tryz.prog Q a w := by
 have hT := tOk1 fx x hx hsm
 rw [qm1]
 refine mrange_sound hT mixed tb1 (by kernel_rfl) sh1 u75 ok (mid := 6) (l := seenM ns) (ks := [1, 3, 4, 9, 102]) rfl rfl (by decide) (I := fun seen Hc => Hc = H8 x (.map (seenM ns)) o7 ∧ ∀ i ∈ seen, ∀ s, ns[i]? = some s → endB x s = false) ⟨rfl, by simp⟩ (fun seen Hc h => by rw [h.1]; exact ⟨rfl, rfl⟩) (R := fun s1 => (∃ s ∈ ns, endB x s = true) ∧ getE s1.e 2 = .d (.int .i64 7)) ?_ ?_ ?_
 ·intro r seen Hc i p hI hp hi
  obtain ⟨rfl, hall⟩ := hI
  obtain ⟨s, hs, rfl⟩ := seenM_at hp
  have ee := end_ev (fx := fx) x s (.map (seenM ns)) o7
  cases hb : endB x s with
  | false =>
   rw [hb] at ee
   have hq : WQ (pgL fx (F1 x)) 8 vb1 [] ((10, .d (.str s)) :: (106, .d (.str s)) :: (105, .tup [.d (.str s), .d (.int .i64 1)]) :: (104, .d (.bool true)) :: (103, .tup [.d (.bool true), .d (.str s), .d (.int .i64 1)]) :: keepE [1, 3, 4, 9, 102] ((102, .raw (.pointer (some ⟨r, 0, none⟩))) :: (101, .mp 6) :: [(1, .ptr 0 0), (3, .ptr 5 0), (4, .mp 6), (9, .mp 7)])) (H8 x (.map (seenM ns)) o7) fun x1 _ e' H' => x1 = .nrm ∧ cut 8 (keepE [1, 3, 4, 9, 102] e') = [(1, .ptr 0 0), (3, .ptr 5 0), (4, .mp 6), (9, .mp 7), (102, .raw (.pointer (some ⟨r, 0, none⟩)))] ∧ H' = H8 x (.map (seenM ns)) o7 := by
     repeat' (first | refine run ⟨?_⟩ | refine ca (ee) ?_ | fail)
     exact rfl
   obtain ⟨x1, kn, e', H', h1, _, rfl, h2, rfl⟩ := hq.imp (KnOk.nil _)
   refine ⟨_, _, h1, .inl ⟨rfl, h2, rfl, fun i' hi' s' hs' => ?_⟩⟩
   rcases List.mem_cons.1 hi' with q | q
   ·subst q
    rw [hs] at hs'
    cases hs'
    exact hb
   ·exact hall i' q s' hs'
  | true =>
   rw [hb] at ee
   have hq : WQ (pgL fx (F1 x)) 8 vb1 [] ((10, .d (.str s)) :: (106, .d (.str s)) :: (105, .tup [.d (.str s), .d (.int .i64 1)]) :: (104, .d (.bool true)) :: (103, .tup [.d (.bool true), .d (.str s), .d (.int .i64 1)]) :: keepE [1, 3, 4, 9, 102] ((102, .raw (.pointer (some ⟨r, 0, none⟩))) :: (101, .mp 6) :: [(1, .ptr 0 0), (3, .ptr 5 0), (4, .mp 6), (9, .mp 7)])) (H8 x (.map (seenM ns)) o7) fun x1 _ e' H' => x1 = .ret ∧ getE e' 2 = .d (.int .i64 7) := by
     repeat' (first | refine run ⟨?_⟩ | refine ca (ee) ?_ | fail)
     exact rfl
   obtain ⟨x1, kn, e', H', h1, _, rfl, h2⟩ := hq.imp (KnOk.nil _)
   exact ⟨_, _, h1, .inr ⟨rfl, ⟨s, List.mem_of_getElem? hs, hb⟩, h2⟩⟩
 ·intro g' a' w' r Hc seen hI hall ok' ext'
  obtain ⟨rfl, h2⟩ := hI
  refine hn g' a' w' (fun s hs => ?_) (ok'.forget [1, 3, 4, 9]) ext'
  obtain ⟨i, hi, he⟩ := List.getElem_of_mem hs
  have hi' : i < (seenM ns).length := by unfold seenM; rw [List.length_map]; exact hi
  exact h2 i (hall i hi') s (by rw [List.getElem?_eq_getElem hi, he])
 ·intro g' a' w' s1 hR ok' ext'
  exact hr g' a' w' s1.e s1.h hR.1 hR.2 ok' ext'
set_option maxHeartbeats 2000000 in
theorem range2 {fx : Nat → Option Obj} (x : Its) (hx : Fine x) (N : Nat) (hN : N ≤ 1000000) (ns : List S) (hd : ∀ s ∈ ns, deepOk x N s) (g : Gh) (a : Act) (w : World) (b : Nat) (ok : StOk (cxL fx) 134 g ⟨[(1, .ptr 0 0), (3, .ptr 5 0), (4, .mp 6), (9, .mp 7)], H8 x (.map (seenM ns)) (.map []), b⟩ a w) {Q : Exit → Act → World → Prop}
 (hn : ∀ g' a' w' o7, (∀ s ∈ ns, bigB (szF x N s) = false) → StOk (cxL fx) 134 g' ⟨[(1, .ptr 0 0), (3, .ptr 5 0)], H8 x (.map (seenM ns)) o7, b⟩ a' w' → Ext b g (H8 x (.map (seenM ns)) (.map [])) w g' (H8 x (.map (seenM ns)) o7) w' → Q .normal a' w')
 (hr : ∀ g' a' w' e H', (∃ s ∈ ns, bigB (szF x N s) = true) → getE e 2 = .d (.int .i64 7) → StOk (cxL fx) 134 g' ⟨e, H', b⟩ a' w' → Ext b g (H8 x (.map (seenM ns)) (.map [])) w g' H' w' → Q .ret a' w') : m2.wp Tryz.prog Q a w := by
 have hT := tOk fx
 rw [qm2]
 refine mrange_sound hT mixed tb2 (by kernel_rfl) sh2 u75 ok (mid := 6) (l := seenM ns) (ks := [1, 3, 9, 112]) rfl rfl (by decide) (I := fun seen Hc => ∃ d, SzOk x N d ∧ Hc = H8 x (.map (seenM ns)) (.map (szM d)) ∧ ∀ i ∈ seen, ∀ s, ns[i]? = some s → bigB (szF x N s) = false) ⟨[], (fun q hq => by cases hq), rfl, by simp⟩ (fun seen Hc h => by obtain ⟨d, _, rfl, _⟩ := h; exact ⟨rfl, rfl⟩) (R := fun s1 => (∃ s ∈ ns, bigB (szF x N s) = true) ∧ getE s1.e 2 = .d (.int .i64 7)) ?_ ?_ ?_
 ·intro r seen Hc i p hI hp hi
  obtain ⟨d, hd1, rfl, hall⟩ := hI
  obtain ⟨s, hs, rfl⟩ := seenM_at hp
  have hmem := List.mem_of_getElem? hs
  obtain ⟨rr, H2, hev, rfl, d', hd2, rfl⟩ := sized_s (fx := fx) x hx N hN N s (hd s hmem) (Nat.le_refl _) d hd1
  have ee : evF (pgL fx F0) n_items_sized [.d x.D, .ptr 5 0, str s, .mp 7] (H8 x (.map (seenM ns)) (.map (szM d))) = some (SzD (szF x N s), H8 x (.map (seenM ns)) (.map (szM d'))) :=
   evF_at (mv fx) [2, 3, 4, 5, 7] hev rfl rfl rfl rfl rfl
  have hbound := szF_bound x N s
  obtain ⟨v, hv⟩ : ∃ v, v = szF x N s := ⟨_, rfl⟩
  have hv' : bigB v = bigB (szF x N s) := by rw [hv]
  rw [← hv] at ee
  have good : bigB v = false → ∃ x1 s1, ev (pgL fx F0) vb2 ⟨(11, .d (.str s)) :: (116, .d (.str s)) :: (115, .tup [.d (.str s), .d (.int .i64 1)]) :: (114, .d (.bool true)) :: (113, .tup [.d (.bool true), .d (.str s), .d (.int .i64 1)]) :: keepE [1, 3, 9, 112] ((112, .raw (.pointer (some ⟨r, 0, none⟩))) :: (111, .mp 6) :: [(1, .ptr 0 0), (3, .ptr 5 0), (4, .mp 6), (9, .mp 7)]), H8 x (.map (seenM ns)) (.map (szM d)), 8⟩ = some (x1, s1) ∧ x1 = .nrm ∧ cut 8 (keepE [1, 3, 9, 112] s1.e) = [(1, .ptr 0 0), (3, .ptr 5 0), (9, .mp 7), (112, .raw (.pointer (some ⟨r, 0, none⟩)))] ∧ s1.h.take 8 = H8 x (.map (seenM ns)) (.map (szM d')) := fun hb => by
    have hb1 : ¬ v.1 > 64 := by simp only [bigB, Bool.or_eq_false_iff, decide_eq_false_iff_not] at hb; exact hb.1
    have hb2 : ¬ v.2 > 1024 := by simp only [bigB, Bool.or_eq_false_iff, decide_eq_false_iff_not] at hb; exact hb.2
    have hq : WQ (pgL fx F0) 8 vb2 [] ((11, .d (.str s)) :: (116, .d (.str s)) :: (115, .tup [.d (.str s), .d (.int .i64 1)]) :: (114, .d (.bool true)) :: (113, .tup [.d (.bool true), .d (.str s), .d (.int .i64 1)]) :: keepE [1, 3, 9, 112] ((112, .raw (.pointer (some ⟨r, 0, none⟩))) :: (111, .mp 6) :: [(1, .ptr 0 0), (3, .ptr 5 0), (4, .mp 6), (9, .mp 7)])) (H8 x (.map (seenM ns)) (.map (szM d))) fun x1 _ e' H' => x1 = .nrm ∧ cut 8 (keepE [1, 3, 9, 112] e') = [(1, .ptr 0 0), (3, .ptr 5 0), (9, .mp 7), (112, .raw (.pointer (some ⟨r, 0, none⟩)))] ∧ H'.take 8 = H8 x (.map (seenM ns)) (.map (szM d')) := by
      repeat' (first | refine run ⟨?_⟩ | refine ca (ee) ?_ | fail)
      exact rfl
    obtain ⟨x1, kn, e', H', h1, _, h2, h3, h4⟩ := hq.imp (KnOk.nil _)
    exact ⟨_, _, h1, h2, h3, h4⟩
  cases hb : bigB v with
  | false =>
   obtain ⟨x1, s1, h1, h2, h3, h4⟩ := good hb
   refine ⟨x1, s1, h1, .inl ⟨h2, h3, d', hd2, h4, fun i' hi' s' hs' => ?_⟩⟩
   rcases List.mem_cons.1 hi' with q | q
   ·subst q
    rw [hs] at hs'
    cases hs'
    rw [← hv']; exact hb
   ·exact hall i' q s' hs'
  | true =>
   have hq : WQ (pgL fx F0) 8 vb2 [] ((11, .d (.str s)) :: (116, .d (.str s)) :: (115, .tup [.d (.str s), .d (.int .i64 1)]) :: (114, .d (.bool true)) :: (113, .tup [.d (.bool true), .d (.str s), .d (.int .i64 1)]) :: keepE [1, 3, 9, 112] ((112, .raw (.pointer (some ⟨r, 0, none⟩))) :: (111, .mp 6) :: [(1, .ptr 0 0), (3, .ptr 5 0), (4, .mp 6), (9, .mp 7)])) (H8 x (.map (seenM ns)) (.map (szM d))) fun x1 _ e' H' => x1 = .ret ∧ getE e' 2 = .d (.int .i64 7) := by
     by_cases hb1 : v.1 > 64
     ·repeat' (first | refine run ⟨?_⟩ | refine ca (ee) ?_ | fail)
      exact rfl
     ·have hb2 : v.2 > 1024 := by
       simp only [bigB, Bool.or_eq_true, decide_eq_true_eq] at hb
       exact hb.resolve_left hb1
      repeat' (first | refine run ⟨?_⟩ | refine ca (ee) ?_ | fail)
      exact rfl
   obtain ⟨x1, kn, e', H', h1, _, rfl, h2⟩ := hq.imp (KnOk.nil _)
   exact ⟨_, _, h1, .inr ⟨rfl, ⟨s, hmem, by rw [← hv']; exact hb⟩, h2⟩⟩
 ·intro g' a' w' r Hc seen hI hall ok' ext'
  obtain ⟨d, _, rfl, h2⟩ := hI
  refine hn g' a' w' _ (fun s hs => ?_) (ok'.forget [1, 3]) ext'
  obtain ⟨i, hi, he⟩ := List.getElem_of_mem hs
  have hi' : i < (seenM ns).length := by unfold seenM; rw [List.length_map]; exact hi
  exact h2 i (hall i hi') s (by rw [List.getElem?_eq_getElem hi, he])
 ·intro g' a' w' s1 hR ok' ext'
  exact hr g' a' w' s1.e s1.h hR.1 hR.2 ok' ext'
end Go.Vm.Ite
namespace Go.Vm.Ite
open Go Go.Vm Go.Proofs Go.Vm.Ip
open Go.Vm.Lex (nameB)
set_option maxRecDepth 100000
theorem takeNN {l : List Nam} {i : Nat} (h : i < l.length) : (l.take (i + 1)).map Nam.n = (l.take i).map Nam.n ++ [(l.getD i default).n] := by
 rw [take_succ_getD h, List.map_append]; rfl
theorem seenM_twice (s : S) : ∀ ns : List S, s ∈ ns → mfind (.str s) (mset (.str s) (.int .i64 2) (seenM ns)) = some (.int .i64 2) := fun ns _ => by
  rw [mfind_mset _ _ _ _ (seenM_keys ns), if_pos rfl]
abbrev CH (x : Its) (m : List (D × D)) : Hp := [IB x, IB x, .map (finM (nS x)), .map (finM (nE x)), .map (finM (nF x)), .box [.mp 2, .mp 3, .mp 4], .map m]
set_option maxHeartbeats 4000000 in
theorem structs_wq {fx : Nat → Option Obj} (x : Its) (hx : Fine x) : WQ (pgL fx F0) 0 (vL d46) [] [(1, .ptr 0 0), (3, .ptr 5 0), (4, .mp 6)] (CH x []) fun x1 _ e' H' => (namB (kn x) false [] x.ss = true ∧ x1 = .nrm ∧ keepE [1, 3, 4] e' = [(1, .ptr 0 0), (3, .ptr 5 0), (4, .mp 6)] ∧ H' = CH x (seenM (nS x))) ∨ (namB (kn x) false [] x.ss = false ∧ x1 = .ret ∧ getE e' 2 = .d (.int .i64 7)) := by
  have hl' : x.ss.length ≤ 140737488355328 := hx.ss
  refine run ⟨?_⟩
  refine wq_loop (α := Nat) (fun j => x.ss.length - j) (fun j => [(1, .ptr 0 0), (3, .ptr 5 0), (4, .mp 6), (33, .d (.sl (x.ss.map Nam.D))), (34, i64 x.ss.length), (35, i64 j)]) (fun j => CH x (seenM ((x.ss.take j).map Nam.n))) (fun j => j ≤ x.ss.length ∧ namB (kn x) false [] x.ss = namB (kn x) false ((x.ss.take j).map Nam.n) (x.ss.drop j)) ?_ 0 ⟨Nat.zero_le _, rfl⟩ (by show [_, _, _, _, _, _] = _; rw [List.length_map] <;> rfl) rfl
  rintro j ⟨hj, hinv⟩
  rw [hinv]
  by_cases h : j < x.ss.length
  ·have h' : (j : Int) < (x.ss.length : Int) := by omega
   have pj := gN h
   have hn := takeNN h
   have hd := drop_getD (d := default) h
   have hfm := hx.sf (x.ss.getD j default) (by simp [List.getD_eq_getElem?_getD, List.getElem?_eq_getElem h])
   obtain ⟨A, hA⟩ : ∃ A, A = (x.ss.take j).map Nam.n := ⟨_, rfl⟩
   rw [← hA] at hn hinv ⊢
   have h1 := seenM_keys A
   have h2 := seenM_find (x.ss.getD j default).n A
   have h3 := seenM_set (x.ss.getD j default).n A
   revert pj hn hd hfm h2 h3
   generalize x.ss.getD j default = y
   obtain ⟨n, fs⟩ := y
   intro pj hd hfm hn h2 h3
   dsimp only at hn hfm h2 h3
   have en := name_ev (fx := fx) (F := F0) (s := n) (hs := Nat.le_trans hfm.1 (by decide))
   rw [hd]
   simp only [namB]
   by_cases hm : n ∈ A
   ·rw [if_pos hm] at h2
    rw [decide_eq_true hm]
    have hf : (nameB n && !true && (!false || decide (fs ≠ [])) && (lstB (rt (kn x) false) false [] fs && decide ((fs.length : Int) ≤ 16)) && namB (kn x) false (A ++ [n]) (List.drop (j + 1) x.ss)) = false := by simp
    rw [hf]
    have k1 := mset_keys n (.int .i64 2) (seenM A) h1
    have k2 := seenM_twice n A hm
    cases c1 : nameB n <;> rw [c1] at en
    ·repeat' (first | refine run ⟨?_⟩ | refine pickD pj ?_ | refine mg h1 h2 ?_ | refine And.intro h1 ?_ | refine ca (en _) ?_ | fail)
     exact .inr ⟨rfl, rfl, rfl⟩
    ·repeat' (first | refine run ⟨?_⟩ | refine pickD pj ?_ | refine mg h1 h2 ?_ | refine And.intro h1 ?_ | refine ca (en _) ?_ | refine mg k1 k2 ?_ | fail)
     exact .inr ⟨rfl, rfl, rfl⟩
   rw [if_neg hm] at h2
   rw [decide_eq_false hm]
   have h3 := h3 hm
   have k1 := seenM_keys (A ++ [n])
   have k2 := seenM_find n (A ++ [n])
   rw [if_pos (by simp)] at k2
   rw [← h3] at k1 k2
   have el : evF (pgL fx F0) n_items_finder_listed [.ptr 5 0, .d (fldsD fs), i64 16, boo false, boo false] (CH x (mset (.str n) (.int .i64 1) (seenM A)) ++ [.box [str n, .d (fldsD fs)]]) = some (boo (lstB (rt (kn x) false) false [] fs && decide ((fs.length : Int) ≤ 16)), CH x (mset (.str n) (.int .i64 1) (seenM A)) ++ [.box [str n, .d (fldsD fs)]]) :=
    evF_at (mv fx) [2, 3, 4, 5] (listed_s x fs hfm.2.1 hfm.2.2 16 false false) rfl rfl rfl rfl rfl
   cases c1 : nameB n with
   | false =>
    rw [c1] at en
    repeat' (first | refine run ⟨?_⟩ | refine pickD pj ?_ | refine mg h1 h2 ?_ | refine And.intro h1 ?_ | refine ca (en _) ?_ | fail)
    exact .inr ⟨rfl, rfl, rfl⟩
   | true =>
   rw [c1] at en
   cases c2 : lstB (rt (kn x) false) false [] fs && decide ((fs.length : Int) ≤ 16) with
   | false =>
    rw [c2] at el
    repeat' (first | refine run ⟨?_⟩ | refine pickD pj ?_ | refine mg h1 h2 ?_ | refine And.intro h1 ?_ | refine ca (en _) ?_ | refine mg k1 k2 ?_ | refine ca (el) ?_ | fail)
    exact .inr ⟨rfl, rfl, rfl⟩
   | true =>
    rw [c2] at el
    repeat' (first | refine run ⟨?_⟩ | refine pickD pj ?_ | refine mg h1 h2 ?_ | refine And.intro h1 ?_ | refine ca (en _) ?_ | refine mg k1 k2 ?_ | refine ca (el) ?_ | fail)
    exact ⟨j + 1, ⟨by omega, by rw [hn]; rfl⟩, by omega, by rw [i64w (by omega)] <;> rfl, by rw [hn, ← h3] <;> rfl⟩
  ·have h' : ¬ (j : Int) < (x.ss.length : Int) := by omega
   obtain rfl : j = x.ss.length := by omega
   rw [List.drop_length, List.take_length]
   refine run ⟨?_⟩
   exact .inl ⟨rfl, rfl, rfl, rfl⟩
end Go.Vm.Ite
namespace Go.Vm.Ite
open Go Go.Vm Go.Proofs Go.Vm.Ip
open Go.Vm.Lex (nameB)
set_option maxRecDepth 100000
set_option maxHeartbeats 4000000 in
theorem enums_wq {fx : Nat → Option Obj} (x : Its) (hx : Fine x) : WQ (pgL fx F0) 0 (vL (vR d46)) [] [(1, .ptr 0 0), (3, .ptr 5 0), (4, .mp 6)] (CH x (seenM (nS x))) fun x1 _ e' H' => (namB (kn x) true (nS x) x.es = true ∧ x1 = .nrm ∧ keepE [1, 3, 4] e' = [(1, .ptr 0 0), (3, .ptr 5 0), (4, .mp 6)] ∧ H' = CH x (seenM (nS x ++ nE x))) ∨ (namB (kn x) true (nS x) x.es = false ∧ x1 = .ret ∧ getE e' 2 = .d (.int .i64 7)) := by
  have hl' : x.es.length ≤ 140737488355328 := hx.es
  refine run ⟨?_⟩
  refine wq_loop (α := Nat) (fun j => x.es.length - j) (fun j => [(1, .ptr 0 0), (3, .ptr 5 0), (4, .mp 6), (64, .d (.sl (x.es.map Nam.D))), (65, i64 x.es.length), (66, i64 j)]) (fun j => CH x (seenM (nS x ++ (x.es.take j).map Nam.n))) (fun j => j ≤ x.es.length ∧ namB (kn x) true (nS x) x.es = namB (kn x) true (nS x ++ (x.es.take j).map Nam.n) (x.es.drop j)) ?_ 0 ⟨Nat.zero_le _, by rw [List.take_zero, List.map_nil, List.append_nil, List.drop_zero]⟩ (by show [_, _, _, _, _, _] = _; rw [List.length_map] <;> rfl) (by rw [List.take_zero, List.map_nil, List.append_nil])
  rintro j ⟨hj, hinv⟩
  rw [hinv]
  by_cases h : j < x.es.length
  ·have h' : (j : Int) < (x.es.length : Int) := by omega
   have pj := gN h
   have hn := takeNN h
   have hd := drop_getD (d := default) h
   have hfm := hx.ef (x.es.getD j default) (by simp [List.getD_eq_getElem?_getD, List.getElem?_eq_getElem h])
   obtain ⟨A, hA⟩ : ∃ A, A = nS x ++ (x.es.take j).map Nam.n := ⟨_, rfl⟩
   rw [← hA] at hinv ⊢
   have hn : nS x ++ (x.es.take (j + 1)).map Nam.n = A ++ [(x.es.getD j default).n] := by rw [hn, hA, List.append_assoc]
   have h1 := seenM_keys A
   have h2 := seenM_find (x.es.getD j default).n A
   have h3 := seenM_set (x.es.getD j default).n A
   revert pj hn hd hfm h2 h3
   generalize x.es.getD j default = y
   obtain ⟨n, fs⟩ := y
   intro pj hd hfm hn h2 h3
   dsimp only at hn hfm h2 h3
   have en := name_ev (fx := fx) (F := F0) (s := n) (hs := Nat.le_trans hfm.1 (by decide))
   rw [hd]
   simp only [namB]
   by_cases hm : n ∈ A
   ·rw [if_pos hm] at h2
    rw [decide_eq_true hm]
    have hf : (nameB n && !true && (!true || decide (fs ≠ [])) && (lstB (rt (kn x) false) true [] fs && decide ((fs.length : Int) ≤ 16)) && namB (kn x) true (A ++ [n]) (List.drop (j + 1) x.es)) = false := by simp
    rw [hf]
    have k1 := mset_keys n (.int .i64 2) (seenM A) h1
    have k2 := seenM_twice n A hm
    cases c1 : nameB n <;> rw [c1] at en
    ·repeat' (first | refine run ⟨?_⟩ | refine pickD pj ?_ | refine mg h1 h2 ?_ | refine And.intro h1 ?_ | refine ca (en _) ?_ | fail)
     exact .inr ⟨rfl, rfl, rfl⟩
    ·repeat' (first | refine run ⟨?_⟩ | refine pickD pj ?_ | refine mg h1 h2 ?_ | refine And.intro h1 ?_ | refine ca (en _) ?_ | refine mg k1 k2 ?_ | fail)
     exact .inr ⟨rfl, rfl, rfl⟩
   rw [if_neg hm] at h2
   rw [decide_eq_false hm]
   have h3 := h3 hm
   have k1 := seenM_keys (A ++ [n])
   have k2 := seenM_find n (A ++ [n])
   rw [if_pos (by simp)] at k2
   rw [← h3] at k1 k2
   have el : evF (pgL fx F0) n_items_finder_listed [.ptr 5 0, .d (fldsD fs), i64 16, boo false, boo true] (CH x (mset (.str n) (.int .i64 1) (seenM A)) ++ [.box [str n, .d (fldsD fs)]]) = some (boo (lstB (rt (kn x) false) true [] fs && decide ((fs.length : Int) ≤ 16)), CH x (mset (.str n) (.int .i64 1) (seenM A)) ++ [.box [str n, .d (fldsD fs)]]) :=
    evF_at (mv fx) [2, 3, 4, 5] (listed_s x fs hfm.2.1 hfm.2.2 16 false true) rfl rfl rfl rfl rfl
   cases c1 : nameB n with
   | false =>
    rw [c1] at en
    repeat' (first | refine run ⟨?_⟩ | refine pickD pj ?_ | refine mg h1 h2 ?_ | refine And.intro h1 ?_ | refine ca (en _) ?_ | fail)
    exact .inr ⟨rfl, rfl, rfl⟩
   | true =>
   rw [c1] at en
   by_cases ce : fs = []
   ·have ce' : (((fs.map Fld.D).length : Nat) : Int) = 0 := by rw [ce]; rfl
    rw [show decide (fs ≠ []) = false by rw [ce]; rfl]
    repeat' (first | refine run ⟨?_⟩ | refine pickD pj ?_ | refine mg h1 h2 ?_ | refine And.intro h1 ?_ | refine ca (en _) ?_ | refine mg k1 k2 ?_ | fail)
    exact .inr ⟨rfl, rfl, rfl⟩
   have ce' : ¬ (((fs.map Fld.D).length : Nat) : Int) = 0 := by
    rw [List.length_map]; intro h0; exact ce (List.eq_nil_of_length_eq_zero (by omega))
   rw [show decide (fs ≠ []) = true from decide_eq_true ce]
   cases c2 : lstB (rt (kn x) false) true [] fs && decide ((fs.length : Int) ≤ 16) with
   | false =>
    rw [c2] at el
    repeat' (first | refine run ⟨?_⟩ | refine pickD pj ?_ | refine mg h1 h2 ?_ | refine And.intro h1 ?_ | refine ca (en _) ?_ | refine mg k1 k2 ?_ | refine ca (el) ?_ | fail)
    exact .inr ⟨rfl, rfl, rfl⟩
   | true =>
    rw [c2] at el
    repeat' (first | refine run ⟨?_⟩ | refine pickD pj ?_ | refine mg h1 h2 ?_ | refine And.intro h1 ?_ | refine ca (en _) ?_ | refine mg k1 k2 ?_ | refine ca (el) ?_ | fail)
    exact ⟨j + 1, ⟨by omega, by rw [hn]; rfl⟩, by omega, by rw [i64w (by omega)] <;> rfl, by rw [hn, ← h3] <;> rfl⟩
  ·have h' : ¬ (j : Int) < (x.es.length : Int) := by omega
   obtain rfl : j = x.es.length := by omega
   rw [List.drop_length, List.take_length]
   refine run ⟨?_⟩
   exact .inl ⟨rfl, rfl, rfl, rfl⟩
end Go.Vm.Ite
namespace Go.Vm.Ite
open Go Go.Vm Go.Proofs Go.Vm.Ip
set_option maxRecDepth 100000
theorem tK7 : tr Tryz.prog n50 c46d = some (vR (vR (vR (vR (vR d46))))) := by kernel_rfl
theorem r46 : trRes Tryz.prog Tryz.f16.results.toList = some [.tmp 2] := by kernel_rfl
theorem f46f : Tryz.prog.funcs[16]? = some Tryz.f16 := by kernel_rfl
section
variable {fx : Nat → Option Obj}
def CQ (fx : Nat → Option Obj) (r : Int) (g : Gh) (w : World) : Exit → Act → World → Prop := fun e a' w' => e = .ret ∧ ∃ g' s', s'.b = 0 ∧ StOk (cxL fx) 134 g' s' a' w' ∧ Ext 0 g [] w g' s'.h w' ∧ getE s'.e 2 = i64 r
theorem many_wq (x : Its) : WQ (pgL fx F0) 0 (vL (vR B16)) [] [(1, .ptr 0 0)] [IB x] fun x1 _ e' H' => ((x.ss.length ≤ 64 ∧ x.es.length ≤ 64 ∧ x.fs.length ≤ 64) ∧ x1 = .nrm ∧ keepE [1] e' = [(1, .ptr 0 0)] ∧ H' = [IB x]) ∨ (¬ (x.ss.length ≤ 64 ∧ x.es.length ≤ 64 ∧ x.fs.length ≤ 64) ∧ x1 = .ret ∧ getE e' 2 = i64 7) := by
  have e1 : ((x.ss.map Nam.D).length : Int) = (x.ss.length : Int) := by rw [List.length_map]
  have e2 : ((x.es.map Nam.D).length : Int) = (x.es.length : Int) := by rw [List.length_map]
  have e3 : ((x.fs.map Fnc.D).length : Int) = (x.fs.length : Int) := by rw [List.length_map]
  by_cases h1 : (((x.ss.map Nam.D).length : Nat) : Int) > 64
  ·refine run ⟨?_⟩
   exact .inr ⟨by omega, rfl, rfl⟩
  by_cases h2 : (((x.es.map Nam.D).length : Nat) : Int) > 64
  ·refine run ⟨?_⟩
   exact .inr ⟨by omega, rfl, rfl⟩
  by_cases h3 : (((x.fs.map Fnc.D).length : Nat) : Int) > 64
  ·refine run ⟨?_⟩
   exact .inr ⟨by omega, rfl, rfl⟩
  refine run ⟨?_⟩
  exact .inl ⟨by omega, rfl, rfl, rfl⟩
theorem fns_wq (x : Its) (hx : Fine x) (o6 o7 : Ob) : WQ (pgL fx F0) 0 (vR (vR (vR (vR (vR d46))))) [] [(1, .ptr 0 0), (3, .ptr 5 0)] (H8 x o6 o7) fun x1 _ e' _ => x1 = .ret ∧ getE e' 2 = i64 (if fnsB (kn x) x then 0 else 7) := by
  have ee : evF (pgL fx F0) n_items_fns [.d x.D, .ptr 5 0] (H8 x o6 o7) = some (boo (fnsB (kn x) x), H8 x o6 o7) :=
   evF_at (mv fx) [2, 3, 4, 5] (fns_s x hx) rfl rfl rfl rfl rfl
  cases hb : fnsB (kn x) x <;> rw [hb] at ee
  all_goals
   repeat' (first | refine run ⟨?_⟩ | refine ca (ee) ?_ | fail)
   exact rfl
set_option maxHeartbeats 4000000 in
theorem chk_body (x : Its) (hx : Fine x) (g : Gh) (w : World) (a : Act) (ok : StOk (cxL fx) 134 g ⟨[(0, .d x.D)], [], 0⟩ a w) : c46.wp Tryz.prog (CQ fx (if chkB x then 0 else 7) g w) a w := by
 have hT := tOk fx
 rw [q46]
 apply wp_seq
 refine chunk hT mixed tK0 (by kernel_rfl) ok (R := fun x1 e' H' => x1 = .nrm ∧ keepE [1] e' = [(1, .ptr 0 0)] ∧ H' = [IB x]) ?_ ?_
 ·refine run ⟨?_⟩
  exact rfl
 rintro x1 e' H' g1 a1 w1 ⟨rfl, he, rfl⟩ ok1 E1
 have ok1 := ok1.forget [1]
 rw [he] at ok1
 clear he ok
 show (Code.seq _ _).wp _ _ _ _
 apply wp_seq
 refine chunk hT mixed tK1 (by kernel_rfl) ok1 (many_wq x) ?_
 rintro x1 e' H' g2 a2 w2 hR ok2 ext2
 have E2 := E1.trans ext2 (Nat.le_refl _)
 rcases hR with ⟨hm, rfl, he, rfl⟩ | ⟨hm, rfl, he⟩
 rotate_left
 ·have hc : chkB x = false := by
   cases hcb : chkB x with
   | false => rfl
   | true =>
    simp only [chkB, Bool.and_eq_true, decide_eq_true_eq] at hcb
    exact absurd ⟨hcb.1.1.1.1.1.1.1, hcb.1.1.1.1.1.1.2, hcb.1.1.1.1.1.2⟩ hm
  exact ⟨rfl, g2, _, rfl, ok2, E2, by rw [hc]; exact he⟩
 have ok2 := ok2.forget [1]
 rw [he] at ok2
 clear he ok1
 show (Code.seq _ _).wp _ _ _ _
 apply wp_seq
 refine chunk hT mixed tK2 (by kernel_rfl) ok2 (R := fun x1 e' H' => x1 = .nrm ∧ keepE [1, 3] e' = [(1, .ptr 0 0), (3, .ptr 5 0)] ∧ H' = [IB x, IB x, .map (finM (nS x)), .map (finM (nE x)), .map (finM (nF x)), .box [.mp 2, .mp 3, .mp 4]]) ?_ ?_
 ·have ei := index1_ev (fx := fx) (F := F0) x hx (IB x)
  repeat' (first | refine run ⟨?_⟩ | refine ca (ei) ?_ | fail)
  exact rfl
 rintro x1 e' H' g3 a3 w3 ⟨rfl, he, rfl⟩ ok3 ext3
 have ok3 := ok3.forget [1, 3]
 rw [he] at ok3
 have E3 := E2.trans ext3 (Nat.le_refl _)
 clear he ok2
 show (Code.seq _ _).wp _ _ _ _
 apply wp_seq
 refine chunk hT mixed tK3 (by kernel_rfl) ok3 (R := fun x1 e' H' => x1 = .nrm ∧ keepE [1, 3, 4] e' = [(1, .ptr 0 0), (3, .ptr 5 0), (4, .mp 6)] ∧ H' = CH x []) ?_ ?_
 ·refine run ⟨?_⟩
  exact rfl
 rintro x1 e' H' g4 a4 w4 ⟨rfl, he, rfl⟩ ok4 ext4
 have ok4 := ok4.forget [1, 3, 4]
 rw [he] at ok4
 have E4 := E3.trans ext4 (Nat.le_refl _)
 clear he ok3
 show (Code.seq _ _).wp _ _ _ _
 apply wp_seq
 refine chunk hT mixed tK4 (by kernel_rfl) ok4 (structs_wq x hx) ?_
 rintro x1 e' H' g5 a5 w5 hR ok5 ext5
 have E5 := E4.trans ext5 (Nat.le_refl _)
 rcases hR with ⟨hns, rfl, he, rfl⟩ | ⟨hns, rfl, he⟩
 rotate_left
 ·have hc : chkB x = false := by simp only [chkB, hns, Bool.and_false, Bool.false_and]
  exact ⟨rfl, g5, _, rfl, ok5, E5, by rw [hc]; exact he⟩
 have ok5 := ok5.forget [1, 3, 4]
 rw [he] at ok5
 clear he ok4
 show (Code.seq _ _).wp _ _ _ _
 apply wp_seq
 refine chunk hT mixed tK5 (by kernel_rfl) ok5 (enums_wq x hx) ?_
 rintro x1 e' H' g6 a6 w6 hR ok6 ext6
 have E6 := E5.trans ext6 (Nat.le_refl _)
 rcases hR with ⟨hne, rfl, he, rfl⟩ | ⟨hne, rfl, he⟩
 rotate_left
 ·have hc : chkB x = false := by simp only [chkB, hne, Bool.and_false, Bool.false_and]
  exact ⟨rfl, g6, _, rfl, ok6, E6, by rw [hc]; exact he⟩
 have ok6 := ok6.forget [1, 3, 4]
 rw [he] at ok6
 clear he ok5
 show (Code.seq _ _).wp _ _ _ _
 apply wp_seq
 refine chunk hT mixed tK6 (by kernel_rfl) ok6 (R := fun x1 e' H' => x1 = .nrm ∧ keepE [1, 3, 4, 9] e' = [(1, .ptr 0 0), (3, .ptr 5 0), (4, .mp 6), (9, .mp 7)] ∧ H' = H8 x (.map (seenM (nS x ++ nE x))) (.map [])) ?_ ?_
 ·refine run ⟨?_⟩
  exact rfl
 rintro x1 e' H' g7 a7 w7 ⟨rfl, he, rfl⟩ ok7 ext7
 have ok7 := ok7.forget [1, 3, 4, 9]
 rw [he] at ok7
 have E7 := E6.trans ext7 (Nat.le_refl _)
 clear he ok6
 have hsm : Small x := ⟨hm.1, hm.2.1, namB_len hns, namB_len hne⟩
 show (Code.seq _ _).wp _ _ _ _
 apply wp_seq
 refine range1 x hx hsm (nS x ++ nE x) (.map []) g7 a7 w7 0 ok7 (fun g8 a8 w8 hne2 ok8 ext8 => ?_) (fun g8 a8 w8 e8 H8' hbad he8 ok8 ext8 => ?_)
 rotate_left
 ·have hc : chkB x = false := by
   obtain ⟨s, hs, hb⟩ := hbad
   have : (nS x ++ nE x).all (fun s => !endB x s) = false := by
     rw [List.all_eq_false]; exact ⟨s, hs, by simp [hb]⟩
   simp only [chkB, this, Bool.and_false, Bool.false_and]
  exact ⟨rfl, g8, _, rfl, ok8, E7.trans ext8 (Nat.le_refl _), by rw [hc]; exact he8⟩
 have E8 := E7.trans ext8 (Nat.le_refl _)
 have hng : ∀ s ∈ nS x ++ nE x, ¬ Gets x s s := fun s hs hg => by have := hne2 s hs; rw [endB_t hg] at this; cases this
 have hend : (nS x ++ nE x).all (fun s => !endB x s) = true := by
   rw [List.all_eq_true]; intro s hs; rw [hne2 s hs]; rfl
 have hN : deepN x ≤ 1000000 := by
  unfold deepN
  simp only [List.length_append, nS, nE, List.length_map]
  have := hm.1; have := hm.2.1; omega
 show (Code.seq _ _).wp _ _ _ _
 apply wp_seq
 refine range2 x hx (deepN x) hN (nS x ++ nE x) (fun s _ => deep_of hng s) g8 a8 w8 0 ok8 (fun g9 a9 w9 o7 hnb ok9 ext9 => ?_) (fun g9 a9 w9 e9 H9' hbad he9 ok9 ext9 => ?_)
 rotate_left
 ·have hc : chkB x = false := by
   obtain ⟨s, hs, hb⟩ := hbad
   have : (nS x ++ nE x).all (fun s => !bigB (szF x (deepN x) s)) = false := by
     rw [List.all_eq_false]; exact ⟨s, hs, by simp [hb]⟩
   simp only [chkB, this, Bool.and_false, Bool.false_and]
  exact ⟨rfl, g9, _, rfl, ok9, E8.trans ext9 (Nat.le_refl _), by rw [hc]; exact he9⟩
 have hbig : (nS x ++ nE x).all (fun s => !bigB (szF x (deepN x) s)) = true := by
   rw [List.all_eq_true]; intro s hs; rw [hnb s hs]; rfl
 have E9 := E8.trans ext9 (Nat.le_refl _)
 show Code.wp _ c46d _ _ _
 refine chunk hT mixed tK7 (by kernel_rfl) ok9 (R := fun x1 e' _ => x1 = .ret ∧ getE e' 2 = i64 (if fnsB (kn x) x then 0 else 7)) (fns_wq x hx _ o7) ?_
 rintro x1 e' H' g10 a10 w10 ⟨rfl, he⟩ ok10 ext10
 have hc : chkB x = fnsB (kn x) x := by
  simp only [chkB, hns, hne, hend, hbig, decide_eq_true hm.1, decide_eq_true hm.2.1, decide_eq_true hm.2.2, Bool.true_and]
 exact ⟨rfl, g10, _, rfl, ok10, E9.trans ext10 (Nat.le_refl _), by rw [hc]; exact he⟩
theorem chk_spec : ∀ args H r H', primChk args H = some (r, H') → FnSpec Tryz.prog (cxL fx) 16 args H r H' := by
 intro args H r H' h
 obtain ⟨x, hx, rfl, rfl, rfl⟩ := primChk_some h
 refine fnspec_bare (N := 134) (rs := [.tmp 2]) f46f b46 (by kernel_rfl) r46 rfl (by kernel_rfl) (Nat.le_of_ble_eq_true rfl) rfl rfl ?_ _
 intro g w a ok
 have ok := ok.forget [0]
 rw [show keepE [0] (enterE [.d x.D]) = [(0, .d x.D)] from rfl] at ok
 refine wp_mono (chk_body x hx g w a ok) fun e a1 w1 he => ?_
 obtain ⟨rfl, g1, s1, hb, ok1, E1, hv⟩ := he
 refine ⟨.inr rfl, g1, s1, [i64 (if chkB x then 0 else 7)], ok1, E1, ?_, rfl, rfl⟩
 simp only [resVs, resV, hv]
end
end Go.Vm.Ite
namespace Go.Vm.Ite
open Go Go.Vm Go.Proofs Go.Vm.Ip
set_option maxRecDepth 100000
noncomputable def F2 : Nat → Option VFun := fun i => if i = 16 then some (.prim primChk) else if i = 43 then some (.prim primClone) else none
section
variable {fx : Nat → Option Obj}
end
end Go.Vm.Ite
namespace Go.Vm.Ite
class HC (F : Nat → Option VFun) : Prop where
 cut : F 148 = some (.prim primCut)
 ib : F 151 = some (.prim primIndexByte)
section
variable {fx : Nat → Option Obj} {F : Nat → Option VFun} [HC F]
end
end Go.Vm.Ite
namespace Go.Vm
def VFit (σ : Nat → Option Nat) : V → V → Prop
 | .d x, v => v = .d x
 | .mp k, v => ∃ j, σ k = some j ∧ v = .mp j
 | .ptr k o, v => ∃ j, σ k = some j ∧ v = .ptr j o
 | _, _ => False
def VFits (σ : Nat → Option Nat) : List V → List V → Prop
 | [], l => l = []
 | v :: r, l => ∃ v' r', l = v' :: r' ∧ VFit σ v v' ∧ VFits σ r r'
def OFit (σ : Nat → Option Nat) : Ob → Ob → Prop
 | .map l, o => o = .map l
 | .box c, o => ∃ c', o = .box c' ∧ VFits σ c c'
 | _, _ => False
theorem OFit.nrow {σ : Nat → Option Nat} {o o' : Ob} (h : OFit σ o o') : (∀ sz l, o ≠ .row sz l) ∧ ∀ sz l, o' ≠ .row sz l := by
 cases o with
 | map l => simp only [OFit] at h; subst h; exact ⟨nofun, nofun⟩
 | box c => simp only [OFit] at h; obtain ⟨c', rfl, _⟩ := h; exact ⟨nofun, nofun⟩
 | frz c => exact h.elim
 | row sz l => exact h.elim
section
variable {σ : Nat → Option Nat} {g g2 : Gh} {h H : Hp}
theorem VFit.one {v v' : V} (hv : VFit σ v v') : v.one = v'.one := by
 cases v with
 | d x => simp only [VFit] at hv; rw [hv]
 | mp k => simp only [VFit] at hv; obtain ⟨j, _, rfl⟩ := hv; rfl
 | ptr k o => simp only [VFit] at hv; obtain ⟨j, _, rfl⟩ := hv; rfl
 | _ => exact hv.elim
theorem rep_down (hC : g2.C = g.C) (hJ : ∀ i j, σ i = some j → g2.J i = g.J j) (hh : ∀ i j, σ i = some j → ∃ o, h[i]? = some o ∧ ∀ sz l, o ≠ .row sz l) {v v' : V} {x : Value} (hv : VFit σ v v') (r : Rep g H v' x) : Rep g2 h v x := by
 cases v with
 | d d => simp only [VFit] at hv; subst hv; simp only [Rep] at r ⊢; rw [hC]; exact r
 | mp k =>
  simp only [VFit] at hv
  obtain ⟨j, h1, rfl⟩ := hv
  simp only [Rep] at r ⊢
  obtain ⟨_, b, c, h2, rfl⟩ := r
  exact ⟨hh k j h1, b, c, (hJ k j h1).trans h2, rfl⟩
 | ptr k o =>
  simp only [VFit] at hv
  obtain ⟨j, h1, rfl⟩ := hv
  simp only [Rep] at r ⊢
  obtain ⟨_, b, c, h2, rfl⟩ := r
  exact ⟨hh k j h1, b, c, (hJ k j h1).trans h2, rfl⟩
 | _ => exact hv.elim
theorem rep_up (hC : g2.C = g.C) (hJ : ∀ i j, σ i = some j → g2.J i = g.J j) (hh : ∀ i j, σ i = some j → ∃ o, H[j]? = some o ∧ ∀ sz l, o ≠ .row sz l) {v v' : V} {x : Value} (hv : VFit σ v v') (r : Rep g2 h v x) : Rep g H v' x := by
 cases v with
 | d d => simp only [VFit] at hv; subst hv; simp only [Rep] at r ⊢; rw [← hC]; exact r
 | mp k =>
  simp only [VFit] at hv
  obtain ⟨j, h1, rfl⟩ := hv
  simp only [Rep] at r ⊢
  obtain ⟨_, b, c, h2, rfl⟩ := r
  exact ⟨hh k j h1, b, c, (hJ k j h1).symm.trans h2, rfl⟩
 | ptr k o =>
  simp only [VFit] at hv
  obtain ⟨j, h1, rfl⟩ := hv
  simp only [Rep] at r ⊢
  obtain ⟨_, b, c, h2, rfl⟩ := r
  exact ⟨hh k j h1, b, c, (hJ k j h1).symm.trans h2, rfl⟩
 | _ => exact hv.elim
theorem repVs_down (hC : g2.C = g.C) (hJ : ∀ i j, σ i = some j → g2.J i = g.J j) (hh : ∀ i j, σ i = some j → ∃ o, h[i]? = some o ∧ ∀ sz l, o ≠ .row sz l) : ∀ {l l' : List V} {xs : List Value}, VFits σ l l' → RepVs g H l' xs → RepVs g2 h l xs
 | [], l', xs, hv, r => by simp only [VFits] at hv; subst hv; exact r
 | v :: l, l', xs, hv, r => by
   simp only [VFits] at hv
   obtain ⟨v', r', rfl, h1, h2⟩ := hv
   simp only [RepVs] at r ⊢
   obtain ⟨y, ys, rfl, a1, a2, a3⟩ := r
   exact ⟨y, ys, rfl, h1.one.trans a1, rep_down hC hJ hh h1 a2, repVs_down hC hJ hh h2 a3⟩
theorem repVs_up (hC : g2.C = g.C) (hJ : ∀ i j, σ i = some j → g2.J i = g.J j) (hh : ∀ i j, σ i = some j → ∃ o, H[j]? = some o ∧ ∀ sz l, o ≠ .row sz l) : ∀ {l l' : List V} {xs : List Value}, VFits σ l l' → RepVs g2 h l xs → RepVs g H l' xs
 | [], l', xs, hv, r => by simp only [VFits] at hv; subst hv; exact r
 | v :: l, l', xs, hv, r => by
   simp only [VFits] at hv
   obtain ⟨v', r', rfl, h1, h2⟩ := hv
   simp only [RepVs] at r ⊢
   obtain ⟨y, ys, rfl, a1, a2, a3⟩ := r
   exact ⟨y, ys, rfl, h1.one.symm.trans a1, rep_up hC hJ hh h1 a2, repVs_up hC hJ hh h2 a3⟩
theorem repTs_down (hC : g2.C = g.C) (hJ : ∀ i j, σ i = some j → g2.J i = g.J j) (hh : ∀ i j, σ i = some j → ∃ o, h[i]? = some o ∧ ∀ sz l, o ≠ .row sz l) : ∀ {l l' : List V} {xs : List Value}, VFits σ l l' → RepTs g H l' xs → RepTs g2 h l xs
 | [], l', xs, hv, r => by simp only [VFits] at hv; subst hv; exact r
 | v :: l, l', xs, hv, r => by
   simp only [VFits] at hv
   obtain ⟨v', r', rfl, h1, h2⟩ := hv
   simp only [RepTs] at r ⊢
   obtain ⟨y, ys, rfl, a2, a3⟩ := r
   exact ⟨y, ys, rfl, rep_down hC hJ hh h1 a2, repTs_down hC hJ hh h2 a3⟩
theorem fits_und {n : Nat} (hlt : ∀ i j, σ i = some j → i < n) : ∀ {l l' : List V}, VFits σ l l' → undL n l = true
 | [], _, _ => rfl
 | v :: l, l', hv => by
   simp only [VFits] at hv
   obtain ⟨v', r', rfl, h1, h2⟩ := hv
   simp only [undL, Bool.and_eq_true]
   refine ⟨?_, fits_und hlt h2⟩
   cases v with
   | d x => rfl
   | mp k => simp only [VFit] at h1; obtain ⟨j, h3, rfl⟩ := h1; simp only [V.und, decide_eq_true_eq]; exact hlt k j h3
   | ptr k o => simp only [VFit] at h1; obtain ⟨j, h3, rfl⟩ := h1; simp only [V.und, decide_eq_true_eq]; exact hlt k j h3
   | _ => exact h1.elim
end
section
variable {P : Program} {cx : Cx}
theorem fnspec_embed {f : Nat} {a A : List V} {h H : Hp} {r : D} (σ : Nat → Option Nat) (hs : FnSpec P cx f a h (.d r) h) (hinj : ∀ i k j, σ i = some j → σ k = some j → i = k) (hc : Clean h.length h)
 (hob : ∀ i j, σ i = some j → ∃ o o', h[i]? = some o ∧ H[j]? = some o' ∧ OFit σ o o') (ha : VFits σ a A) : FnSpec P cx f A H (.d r) H := by
 obtain ⟨hf, hs⟩ := hs
 refine ⟨hf, fun g w cargs hI ra _ => ?_⟩
 have hh : ∀ i j, σ i = some j → ∃ o, h[i]? = some o ∧ ∀ sz l, o ≠ .row sz l := fun i j e => by
   obtain ⟨o, o', h1, _, h3⟩ := hob i j e; exact ⟨o, h1, h3.nrow.1⟩
 have hH : ∀ i j, σ i = some j → ∃ o, H[j]? = some o ∧ ∀ sz l, o ≠ .row sz l := fun i j e => by
   obtain ⟨o, o', _, h2, h3⟩ := hob i j e; exact ⟨o', h2, h3.nrow.2⟩
 have hlt : ∀ i j, σ i = some j → i < h.length := fun i j e => by
   obtain ⟨o, h1, _⟩ := hh i j e; exact (List.getElem?_eq_some_iff.1 h1).1
 obtain ⟨gs, hgs⟩ : ∃ gs : Gh, gs = ⟨fun i => (σ i).bind g.J, g.C⟩ := ⟨_, rfl⟩
 have gC : gs.C = g.C := by rw [hgs]
 have gJ : ∀ i j, σ i = some j → gs.J i = g.J j := fun i j e => by rw [hgs]; show (σ i).bind g.J = _; rw [e]; rfl
 have gJ' : ∀ i p, gs.J i = some p → ∃ j, σ i = some j ∧ g.J j = some p := fun i p e => by
   rw [hgs] at e
   exact Option.bind_eq_some_iff.1 e
 have hIs : Inv cx gs h w := {
   inj := fun i k b c c' e1 e2 => by
     obtain ⟨j1, s1, t1⟩ := gJ' i _ e1
     obtain ⟨j2, s2, t2⟩ := gJ' k _ e2
     have := hI.inj _ _ _ _ _ t1 t2
     subst this
     exact hinj _ _ _ s1 s2
   dom := fun i b c e => by
     obtain ⟨j, s1, t1⟩ := gJ' i _ e
     exact ⟨hlt i j s1, (hI.dom _ _ _ t1).2⟩
   ob := fun i b c o e ho => by
     obtain ⟨j, s1, t1⟩ := gJ' i _ e
     obtain ⟨o1, o2, h1, h2, h3⟩ := hob i j s1
     rw [h1] at ho; simp only [Option.some.injEq] at ho; subst ho
     have := hI.ob j b c o2 t1 h2
     cases o1 with
     | map l => simp only [OFit] at h3; subst h3; simp only [ObOk, gC] at this ⊢; exact this
     | box cs =>
      simp only [OFit] at h3
      obtain ⟨c', rfl, hf⟩ := h3
      simp only [ObOk, gC] at this ⊢
      obtain ⟨cur, e, a1, a2, a3⟩ := this
      exact ⟨cur, e, a1, repVs_down gC gJ hh hf a2, a3⟩
     | frz cs => exact h3.elim
     | row sz l => exact h3.elim
   imm := fun b hb => by rw [gC] at hb ⊢; exact hI.imm b hb
   und := hc
   glob := fun i => by rw [gC]; exact hI.glob i
   fix := fun i o hi => ⟨(hI.fix i o hi).1, fun k c e => by
     obtain ⟨j, _, t1⟩ := gJ' k _ e
     exact (hI.fix i o hi).2 j c t1⟩ }
 refine Calls.mono (hs gs w cargs hIs (repTs_down gC gJ hh ha ra) (fits_und hlt ha)) fun e w' hR => ?_
 obtain ⟨g', x, he, hI', hr, _, hE⟩ := hR
 have kC : ∀ b, g.C b <+: g'.C b := fun b => by have := hE.keep.C b; rw [gC] at this; exact this
 have kJ : ∀ i j, σ i = some j → g'.J i = g.J j := fun i j e => by
   obtain ⟨o, h1, h2⟩ := hh i j e
   exact (hE.keep.obj i o (hlt i j e) h1 h2).1.trans (gJ i j e)
 obtain ⟨g2, hg2⟩ : ∃ g2 : Gh, g2 = ⟨g.J, g'.C⟩ := ⟨_, rfl⟩
 have C2 : g2.C = g'.C := by rw [hg2]
 have J2 : g2.J = g.J := by rw [hg2]
 have kw : KeepW H.length g H g2 H := ⟨fun b => by rw [C2]; exact kC b, fun i o _ ho hr => ⟨fun p hp => by rw [J2]; exact hp, o, ho, hr⟩, fun i sz l _ ho => ⟨l, ho, List.prefix_refl _, fun _ p hp => by rw [J2]; exact hp⟩⟩
 refine ⟨g2, x, he, ?_, by simp only [Rep] at hr ⊢; rw [C2]; exact hr, rfl, ?_⟩
 ·exact {
    inj := by rw [J2]; exact hI.inj
    dom := fun i b c e => by
      rw [J2] at e
      exact ⟨(hI.dom i b c e).1, Nat.lt_of_lt_of_le (hI.dom i b c e).2 hE.size⟩
    ob := fun i b c o e ho => by
      rw [J2] at e
      by_cases hm : ∃ k, σ k = some i
      ·obtain ⟨k, hk⟩ := hm
       obtain ⟨o1, o2, h1, h2, h3⟩ := hob k i hk
       rw [h2] at ho; simp only [Option.some.injEq] at ho; subst ho
       have := hI'.ob k b c o1 ((kJ k i hk).trans e) h1
       cases o1 with
       | map l => simp only [OFit] at h3; subst h3; simp only [ObOk, C2] at this ⊢; exact this
       | box cs =>
        simp only [OFit] at h3
        obtain ⟨c', rfl, hf⟩ := h3
        simp only [ObOk, C2] at this ⊢
        obtain ⟨cur, e, a1, a2, a3⟩ := this
        exact ⟨cur, e, a1, repVs_up C2.symm (fun i j e => (kJ i j e).trans (by rw [J2])) hH hf a2, a3⟩
       | frz cs => exact h3.elim
       | row sz l => exact h3.elim
      ·have hn : ∀ k c', gs.J k ≠ some (b, c') := fun k c' ek => by
         obtain ⟨j, s1, t1⟩ := gJ' k _ ek
         have := hI.inj _ _ _ _ _ t1 e
         subst this
         exact hm ⟨k, s1⟩
       obtain ⟨f1, f2⟩ := hE.frame b (hI.dom i b c e).2 hn
       exact ObOk.ext (hI.ob i b c o e ho) kw f1 (by rw [C2, f2, gC]) (fun cs hcs => by
         subst hcs
         exact hI.und i cs (hI.dom i b c e).1 ho)
    imm := fun b hb => by rw [C2] at hb ⊢; exact hI'.imm b hb
    und := hI.und
    glob := fun i => by rw [C2]; exact hI'.glob i
    fix := fun i o hi => ⟨(hI'.fix i o hi).1, fun k c e => by rw [J2] at e; exact (hI.fix i o hi).2 k c e⟩ }
 ·exact {
    os := hE.os
    tape := hE.tape
    output := hE.output
    size := hE.size
    frame := fun b hb hj => by
      have hn : ∀ k c', gs.J k ≠ some (b, c') := fun k c' ek => by
        obtain ⟨j, _, t1⟩ := gJ' k _ ek
        exact hj j c' t1
      obtain ⟨f1, f2⟩ := hE.frame b hb hn
      exact ⟨f1, by rw [C2, f2, gC]⟩
    keep := ⟨fun b => by rw [C2]; exact kC b, fun i o _ ho hr => ⟨by rw [J2], o, ho, hr⟩, fun i sz l _ ho => ⟨l, ho, List.prefix_refl _, fun _ => by rw [J2]⟩⟩
    jnew := fun i b c e _ => ⟨i, c, by rw [J2] at e; exact e⟩
    clean := fun _ _ h => h
    len := Nat.le_refl _ }
end
end Go.Vm
namespace Go.Vm.Ite
open Go Go.Vm Go.Proofs Go.Vm.Ip
set_option maxRecDepth 100000
def FinAt (x : Its) (p : Nat) (h : Hp) : Prop := ∃ a b c, h[p]? = some (.box [.mp a, .mp b, .mp c]) ∧ h[a]? = some (.map (finM (nS x))) ∧ h[b]? = some (.map (finM (nE x))) ∧ h[c]? = some (.map (finM (nF x))) ∧ a ≠ b ∧ a ≠ c ∧ b ≠ c
open Classical in
noncomputable def primEnd2 (a : List V) (h : Hp) : Option (V × Hp) := match a with
 | [.d d, .ptr p 0, .d (.str s)] => if c : ∃ x : Its, Fine x ∧ Small x ∧ d = x.D ∧ FinAt x p h then some (boo (endB c.choose s), h) else none
 | _ => none
theorem primEnd2_of {x : Its} (hx : Fine x) (hs : Small x) {p : Nat} {h : Hp} (hf : FinAt x p h) (s : S) : primEnd2 [.d x.D, .ptr p 0, str s] h = some (boo (endB x s), h) := by
 have e : ∃ y : Its, Fine y ∧ Small y ∧ x.D = y.D ∧ FinAt y p h := ⟨x, hx, hs, rfl, hf⟩
 refine (dif_pos e).trans ?_
 have : e.choose = x := (Its.D_inj _ _ e.choose_spec.2.2.1).symm
 rw [this]
section
variable {fx : Nat → Option Obj}
theorem end_any {x : Its} (hx : Fine x) (hs : Small x) {p : Nat} {h : Hp} (hf : FinAt x p h) (s : S) : FnSpec Tryz.prog (cxL fx) 55 [.d x.D, .ptr p 0, str s] h (boo (endB x s)) h := by
 obtain ⟨a, b, c, h1, h2, h3, h4, n1, n2, n3⟩ := hf
 have np : p ≠ a ∧ p ≠ b ∧ p ≠ c := ⟨fun e => (by rw [e, h2] at h1; cases h1), fun e => (by rw [e, h3] at h1; cases h1), fun e => (by rw [e, h4] at h1; cases h1)⟩
 refine fnspec_embed (fun i => if i = 2 then some a else if i = 3 then some b else if i = 4 then some c else if i = 5 then some p else none) (end_spec x hx hs s (.map []) (.map [])) ?_ ?_ ?_ ?_
 ·intro i k j e1 e2
  try simp only at e1 e2
  split at e1
  ·cases e1
   split at e2
   ·omega
   ·split at e2
    ·cases e2; exact absurd rfl n1
    ·split at e2
     ·cases e2; exact absurd rfl n2
     ·split at e2
      ·cases e2; exact absurd rfl np.1
      ·cases e2
  ·split at e1
   ·cases e1
    split at e2
    ·cases e2; exact absurd rfl n1
    ·split at e2
     ·omega
     ·split at e2
      ·cases e2; exact absurd rfl n3
      ·split at e2
       ·cases e2; exact absurd rfl np.2.1
       ·cases e2
   ·split at e1
    ·cases e1
     split at e2
     ·cases e2; exact absurd rfl n2
     ·split at e2
      ·cases e2; exact absurd rfl n3
      ·split at e2
       ·omega
       ·split at e2
        ·cases e2; exact absurd rfl np.2.2
        ·cases e2
    ·split at e1
     ·cases e1
      split at e2
      ·cases e2; exact absurd rfl np.1
      ·split at e2
       ·cases e2; exact absurd rfl np.2.1
       ·split at e2
        ·cases e2; exact absurd rfl np.2.2
        ·split at e2
         ·omega
         ·cases e2
     ·cases e1
 ·intro i c2 hi hc
  match i, hi, hc with
  | 0, _, hc => cases hc; rfl
  | 1, _, hc => cases hc; rfl
  | 2, _, hc => cases hc
  | 3, _, hc => cases hc
  | 4, _, hc => cases hc
  | 5, _, hc => cases hc; rfl
  | 6, _, hc => cases hc
  | 7, _, hc => cases hc
  | n + 8, hi, _ => exact absurd hi (by show ¬ n + 8 < 8; omega)
 ·intro i j e
  try simp only at e
  split at e
  ·rename_i q; cases e; exact ⟨.map (finM (nS x)), _, by rw [q]; rfl, h2, rfl⟩
  ·split at e
   ·rename_i q; cases e; exact ⟨.map (finM (nE x)), _, by rw [q]; rfl, h3, rfl⟩
   ·split at e
    ·rename_i q; cases e; exact ⟨.map (finM (nF x)), _, by rw [q]; rfl, h4, rfl⟩
    ·split at e
     ·rename_i q; cases e
      exact ⟨.box [.mp 2, .mp 3, .mp 4], _, by rw [q]; rfl, h1, ⟨_, rfl, _, _, rfl, ⟨a, rfl, rfl⟩, _, _, rfl, ⟨b, rfl, rfl⟩, _, _, rfl, ⟨c, rfl, rfl⟩, rfl⟩⟩
     ·cases e
 ·exact ⟨_, _, rfl, rfl, _, _, rfl, ⟨p, rfl, rfl⟩, _, _, rfl, rfl, rfl⟩
theorem primEnd2_spec : ∀ args H r H', primEnd2 args H = some (r, H') → FnSpec Tryz.prog (cxL fx) 55 args H r H' := by
 intro args H r H' h
 unfold primEnd2 at h
 split at h
 ·split at h
  ·rename_i d p s c
   cases h
   obtain ⟨h1, h2, h3, h4⟩ := c.choose_spec
   have := end_any (fx := fx) h1 h2 h4 s
   rw [← h3] at this
   exact this
  ·cases h
 ·cases h
end
noncomputable def FT : Nat → Option VFun := fun i => if i = 16 then some (.prim primChk) else if i = 43 then some (.prim primClone) else if i = 55 then some (.prim primEnd2) else if i = 148 then some (.prim primCut) else if i = 151 then some (.prim primIndexByte) else none
instance : HC FT := ⟨rfl, rfl⟩
theorem tOk3 (fx : Nat → Option Obj) (h1 : ∀ args H r H', primCut args H = some (r, H') → FnSpec Tryz.prog (cxL fx) 148 args H r H') (h2 : ∀ args H r H', primIndexByte args H = some (r, H') → FnSpec Tryz.prog (cxL fx) 151 args H r H') : TblOk Tryz.prog (pgL fx FT) := tblOk _ _ fun f e h => by
  unfold FT at h
  split at h
  ·rename_i hf; cases h; subst hf; exact chk_spec
  split at h
  ·rename_i hf; cases h; subst hf; exact clone_spec _
  split at h
  ·rename_i hf; cases h; subst hf; exact primEnd2_spec
  split at h
  ·rename_i hf; cases h; subst hf; exact h1
  split at h
  ·rename_i hf; cases h; subst hf; exact h2
  ·cases h
section
variable {fx : Nat → Option Obj}
theorem chk3_ev (x : Its) (hx : Fine x) (H : Hp) : evF (pgL fx FT) 16 [.d x.D] H = some (i64 (if chkB x then 0 else 7), H) := by
 have ht : (pgL fx FT).tbl 16 = some (.prim primChk) := rfl
 rw [evF_prim ht]
 exact primChk_of hx H
theorem end3_ev {x : Its} (hx : Fine x) (hs : Small x) {p : Nat} {h : Hp} (hf : FinAt x p h) (s : S) : evF (pgL fx FT) 55 [.d x.D, .ptr p 0, str s] h = some (boo (endB x s), h) := by
 have ht : (pgL fx FT).tbl 55 = some (.prim primEnd2) := rfl
 rw [evF_prim ht]
 exact primEnd2_of hx hs hf s
end
end Go.Vm.Ite
namespace Go.Vm.Ite
open Go Go.Vm Go.Proofs Go.Vm.Ip
set_option maxRecDepth 10000
section
variable {fx : Nat → Option Obj} {F : Nat → Option VFun}
end
end Go.Vm.Ite
namespace Go.Vm.Ite
open Go Go.Vm Go.Proofs Go.Vm.Ip
set_option maxRecDepth 10000
section
variable {fx : Nat → Option Obj} {F : Nat → Option VFun}
end
section
variable {fx : Nat → Option Obj}
end
end Go.Vm.Ite
namespace Go.Vm.Ite
open Go Go.Vm Go.Proofs Go.Vm.Ip
open Go.Vm.Lex (nameB)
set_option maxRecDepth 10000
section
variable {fx : Nat → Option Obj} {F : Nat → Option VFun}
end
end Go.Vm.Ite
namespace Go.Vm.Ite
open Go Go.Vm Go.Proofs Go.Vm.Ip
open Go.Vm.Lex (nameB)
set_option maxRecDepth 10000
section
variable {fx : Nat → Option Obj} {F : Nat → Option VFun}
end
end Go.Vm.Ite
namespace Go.Vm.Ite
open Go Go.Vm Go.Proofs Go.Vm.Ip
set_option maxRecDepth 10000
section
variable {fx : Nat → Option Obj} {F : Nat → Option VFun}
theorem fl_fine {x : Its} (hx : Fine x) (s : S) : (flM x s).length ≤ mf ∧ ∀ f ∈ flM x s, f.n.length ≤ mx ∧ f.t.length ≤ mx := by
 unfold flM
 split
 ·rename_i h; have := hx.sf _ (nam_mem (l := x.ss) h).1; exact this.2
 split
 ·rename_i h; have := hx.ef _ (nam_mem (l := x.es) h).1; exact this.2
 ·exact ⟨Nat.zero_le _, fun f hf => by cases hf⟩
end
end Go.Vm.Ite
namespace Go.Vm.Ite
open Go Go.Vm Go.Proofs Go.Vm.Ip
set_option maxRecDepth 10000
section
variable {fx : Nat → Option Obj} {F : Nat → Option VFun}
theorem getD_mem {l : List Fld} {j : Nat} (h : j < l.length) : l.getD j default ∈ l := by simp [List.getD_eq_getElem?_getD, List.getElem?_eq_getElem h]
end
end Go.Vm.Ite
namespace Go.Vm.Ite
open Go Go.Vm Go.Proofs Go.Vm.Ip
set_option maxRecDepth 10000
section
variable {fx : Nat → Option Obj}
end
end Go.Vm.Ite
namespace Go.Vm.Ite
open Go Go.Vm Go.Proofs Go.Vm.Ip
set_option maxRecDepth 10000
section
variable {fx : Nat → Option Obj}
end
end Go.Vm.Ite
namespace Go.Vm.Ite
open Go Go.Vm Go.Proofs Go.Vm.Ip
open Go.Vm.Lex (nameB)
set_option maxRecDepth 10000
section
variable {fx : Nat → Option Obj} {F : Nat → Option VFun}
end
end Go.Vm.Ite
namespace Go.Vm.Ite
open Go Go.Vm Go.Proofs Go.Vm.Ip
open Go.Vm.Lex (nameB)
set_option maxRecDepth 10000
section
variable {fx : Nat → Option Obj} {F : Nat → Option VFun}
end
end Go.Vm.Ite
namespace Go.Vm.Ite
open Go Go.Vm Go.Proofs Go.Vm.Ip
open Go.Vm.Lex (nameB)
set_option maxRecDepth 10000
def RightOk (fx : Nat → Option Obj) : Prop := ∀ x : Its, Fine x → ∀ H, evF (pgL fx F2) n_ref14_Right [.d x.D] H = some (boo (chkB x), H)
section
variable {fx : Nat → Option Obj} (hR : RightOk fx)
include hR
end
section
variable {fx : Nat → Option Obj}
end
section
variable {fx : Nat → Option Obj} (hR : RightOk fx)
include hR
end
end Go.Vm.Ite
namespace Go.Vm.Ite
open Go Go.Vm Go.Proofs Go.Vm.Ip
open Go.Vm.Lex (nameB)
set_option maxRecDepth 10000
section
variable {fx : Nat → Option Obj} {F : Nat → Option VFun}
theorem built_ev (s : S) (H : Hp) : evF (pgL fx F) n_ref14_built [str s] H = some (boo (biB s), H) := by
 refine evF_wq (t_ref14_built (F := F)) rfl rfl ?_ H
 unfold biB
 by_cases c5 : s = printT
 ·have c5' : s = [112, 114, 105, 110, 116] := c5
  rw [decide_eq_true c5]
  refine run ⟨?_⟩
  exact rfl
 rw [decide_eq_false c5]
 have c5' : ¬ s = [112, 114, 105, 110, 116] := c5
 by_cases c6 : s = readT
 ·have c6' : s = [114, 101, 97, 100] := c6
  rw [decide_eq_true c6]
  refine run ⟨?_⟩
  exact rfl
 rw [decide_eq_false c6]
 have c6' : ¬ s = [114, 101, 97, 100] := c6
 refine run ⟨?_⟩
 exact rfl
theorem gS2 {l : List S} {i : Nat} (h : i < l.length) : 0 ≤ (i : Int) ∧ (l.map D.str)[(i : Int).toNat]? = some (.str (l.getD i [])) := by
 refine ⟨by omega, ?_⟩
 rw [Int.toNat_natCast, List.getElem?_map, List.getElem?_eq_getElem h]
 simp [List.getD_eq_getElem?_getD, List.getElem?_eq_getElem h]
theorem has_ev (l : List S) (hl : l.length ≤ mx) (s : S) (H : Hp) : evF (pgL fx F) n_ref14_has [.d (.sl (l.map D.str)), str s] H = some (boo (decide (s ∈ l)), H) := by
 have hl' : l.length ≤ 140737488355328 := hl
 have hlm : (l.map D.str).length = l.length := List.length_map ..
 refine evF_wq (t_ref14_has (F := F)) rfl rfl ?_ H
 refine run ⟨?_⟩
 refine wq_loop (α := Nat) (fun a => l.length - a) (fun a => [(0, .d (.sl (l.map D.str))), (1, str s), (5, i64 a)]) (fun _ => []) (fun a => a ≤ l.length ∧ s ∉ l.take a) ?_ 0 ⟨Nat.zero_le _, by simp⟩ rfl rfl
 rintro j ⟨hj, hs⟩
 by_cases h : j < l.length
 ·have h' : (j : Int) < ((l.map D.str).length : Int) := by rw [hlm]; omega
  have pj := gS2 h
  have ht := take_succ_getD (d := []) h
  have hm : l.getD j [] ∈ l := by simp [List.getD_eq_getElem?_getD, List.getElem?_eq_getElem h]
  revert pj ht hm
  generalize l.getD j [] = y
  intro pj ht hm
  by_cases c : y = s
  ·rw [decide_eq_true (c ▸ hm)]
   repeat' (first | refine run ⟨?_⟩ | refine pickD pj ?_ | fail)
   exact rfl
  ·have hs2 : s ∉ l.take (j + 1) := by
    rw [ht, List.mem_append, List.mem_singleton, not_or]
    exact ⟨hs, fun e => c e.symm⟩
   repeat' (first | refine run ⟨?_⟩ | refine pickD pj ?_ | fail)
   exact ⟨j + 1, ⟨by omega, hs2⟩, by omega, by rw [i64w (by omega)] <;> rfl, rfl⟩
 ·have h' : ¬ (j : Int) < ((l.map D.str).length : Int) := by rw [hlm]; omega
  obtain rfl : j = l.length := by omega
  rw [List.take_length] at hs
  rw [decide_eq_false hs]
  refine run ⟨?_⟩
  exact rfl
set_option maxHeartbeats 1000000 in
theorem parts_ev (x : Its) (hx : Fine x) (s : S) (H : Hp) : evF (pgL fx F) n_ref14_parts [.d x.D, str s] H = some (.tup [.d (fldsD (flM x s)), boo (enB x s), boo (kn x s)], H) := by
 have hl1 : x.ss.length ≤ 140737488355328 := hx.ss
 have hl2 : x.es.length ≤ 140737488355328 := hx.es
 have m1 : (x.ss.map Nam.D).length = x.ss.length := List.length_map ..
 have m2 : (x.es.map Nam.D).length = x.es.length := List.length_map ..
 refine evF_wq (t_ref14_parts (F := F)) rfl rfl ?_ H
 unfold flM enB kn nam
 rw [show x.ss.map Nam.n = nS x from rfl, show x.es.map Nam.n = nE x from rfl]
 unfold known
 refine run ⟨?_⟩
 refine wq_loop (α := Nat) (fun a => x.ss.length - a) (fun a => [(1, str s), (2, .ptr 0 0), (7, i64 a)]) (fun _ => [IB x]) (fun a => a ≤ x.ss.length ∧ ∀ j, j < a → (nS x)[j]? ≠ some s) ?_ 0 ⟨Nat.zero_le _, fun j h => absurd h (Nat.not_lt_zero j)⟩ rfl rfl
 rintro j ⟨hj, hs⟩
 by_cases h : j < x.ss.length
 ·have h' : (j : Int) < ((x.ss.map Nam.D).length : Int) := by rw [m1]; omega
  have pj := gN h
  have hg : (nS x)[j]? = some (x.ss.getD j default).n := by
   unfold nS
   rw [List.getElem?_map, List.getElem?_eq_getElem h, List.getD_eq_getElem?_getD, List.getElem?_eq_getElem h]; rfl
  by_cases c : (x.ss.getD j default).n = s
  ·rw [pos_of (c ▸ hg) hs]
   dsimp only
   revert pj c
   generalize x.ss.getD j default = y
   obtain ⟨n, fs⟩ := y
   intro pj c
   dsimp only at c ⊢
   repeat' (first | refine run ⟨?_⟩ | refine pickD pj ?_ | fail)
   exact rfl
  ·have hs2 : ∀ i, i < j + 1 → (nS x)[i]? ≠ some s := fun i hi => by
     rcases Nat.lt_succ_iff_lt_or_eq.1 hi with q | q
     ·exact hs i q
     ·rw [q, hg]; exact fun e => c (Option.some.inj e)
   revert pj c
   generalize x.ss.getD j default = y
   obtain ⟨n, fs⟩ := y
   intro pj c
   dsimp only at c
   repeat' (first | refine run ⟨?_⟩ | refine pickD pj ?_ | fail)
   exact ⟨j + 1, ⟨by omega, hs2⟩, by omega, by rw [i64w (by omega)] <;> rfl, rfl⟩
 ·have h' : ¬ (j : Int) < ((x.ss.map Nam.D).length : Int) := by rw [m1]; omega
  have hv : pos (nS x) s = none := by
   cases hp : pos (nS x) s with
   | none => rfl
   | some i =>
    have := pos_lt hp
    unfold nS at this
    rw [List.length_map] at this
    exact absurd (pos_some hp).1 (hs i (by omega))
  rw [hv]
  dsimp only
  refine run ⟨?_⟩
  refine wq_loop (α := Nat) (fun a => x.es.length - a) (fun a => [(1, str s), (2, .ptr 0 0), (8, i64 a)]) (fun _ => [IB x]) (fun a => a ≤ x.es.length ∧ ∀ j, j < a → (nE x)[j]? ≠ some s) ?_ 0 ⟨Nat.zero_le _, fun j h => absurd h (Nat.not_lt_zero j)⟩ rfl rfl
  rintro j ⟨hj, hs⟩
  by_cases h : j < x.es.length
  ·have h' : (j : Int) < ((x.es.map Nam.D).length : Int) := by rw [m2]; omega
   have pj := gN h
   have hg : (nE x)[j]? = some (x.es.getD j default).n := by
    unfold nE
    rw [List.getElem?_map, List.getElem?_eq_getElem h, List.getD_eq_getElem?_getD, List.getElem?_eq_getElem h]; rfl
   by_cases c : (x.es.getD j default).n = s
   ·rw [pos_of (c ▸ hg) hs]
    dsimp only
    revert pj c
    generalize x.es.getD j default = y
    obtain ⟨n, fs⟩ := y
    intro pj c
    dsimp only at c ⊢
    repeat' (first | refine run ⟨?_⟩ | refine pickD pj ?_ | fail)
    exact rfl
   ·have hs2 : ∀ i, i < j + 1 → (nE x)[i]? ≠ some s := fun i hi => by
      rcases Nat.lt_succ_iff_lt_or_eq.1 hi with q | q
      ·exact hs i q
      ·rw [q, hg]; exact fun e => c (Option.some.inj e)
    revert pj c
    generalize x.es.getD j default = y
    obtain ⟨n, fs⟩ := y
    intro pj c
    dsimp only at c
    repeat' (first | refine run ⟨?_⟩ | refine pickD pj ?_ | fail)
    exact ⟨j + 1, ⟨by omega, hs2⟩, by omega, by rw [i64w (by omega)] <;> rfl, rfl⟩
  ·have h' : ¬ (j : Int) < ((x.es.map Nam.D).length : Int) := by rw [m2]; omega
   have hv : pos (nE x) s = none := by
    cases hp : pos (nE x) s with
    | none => rfl
    | some i =>
     have := pos_lt hp
     unfold nE at this
     rw [List.length_map] at this
     exact absurd (pos_some hp).1 (hs i (by omega))
   rw [hv]
   refine run ⟨?_⟩
   exact rfl
end
end Go.Vm.Ite
namespace Go.Vm.Ite
open Go Go.Vm Go.Proofs Go.Vm.Ip
open Go.Vm.Lex (nameB)
set_option maxRecDepth 10000
section
variable {fx : Nat → Option Obj} {F : Nat → Option VFun}
set_option maxHeartbeats 1000000 in
theorem fields14_ev (l : List Fld) (hl : l.length ≤ mf) (hf : ∀ f ∈ l, f.n.length ≤ mx) (most : Int) (H : Hp) : evF (pgL fx F) n_ref14_fields [.d (fldsD l), i64 most] H = some (boo (fld14 l most), H) := by
 have hl' : l.length ≤ 4398046511104 := hl
 have hlm : (l.map Fld.D).length = l.length := List.length_map ..
 refine evF_wq (t_ref14_fields (F := F)) rfl rfl ?_ H
 unfold fld14
 refine run ⟨?_⟩
 refine wq_loop (α := Nat) (fun a => l.length - a) (fun a => [(0, .d (fldsD l)), (1, i64 most), (5, i64 a)]) (fun _ => []) (fun i => i ≤ l.length ∧ lstB anyT false [] l = lstB anyT false ((l.take i).map Fld.n) (l.drop i)) ?_ 0 ⟨Nat.zero_le _, rfl⟩ rfl rfl
 rintro i ⟨hi, hinv⟩
 rw [hinv]
 by_cases h : i < l.length
 ·have h' : (i : Int) < ((l.map Fld.D).length : Int) := by rw [hlm]; omega
  have pi := gFl h
  have hn := takeN h
  have hd := drop_getD (d := default) h
  have hfm := hf _ (getD_mem h)
  revert pi hn hd hfm
  generalize l.getD i default = y
  obtain ⟨n, t⟩ := y
  intro pi hn hd hfm
  dsimp only at hn hfm
  have en := rname_ev (fx := fx) (F := F) (s := n) (hs := Nat.le_trans hfm (by decide))
  rw [hd]
  simp only [lstB]
  cases c1 : nameB n with
  | false =>
   rw [c1] at en
   repeat' (first | refine run ⟨?_⟩ | refine pickD pi ?_ | refine ca (en _) ?_ | fail)
   exact rfl
  | true =>
   rw [c1] at en
   repeat' (first | refine run ⟨?_⟩ | refine pickD pi ?_ | refine ca (en _) ?_ | fail)
   refine wq_loop (α := Nat) (fun a => i - a) (fun a => [(0, .d (fldsD l)), (1, i64 most), (5, i64 i), (6, i64 a)]) (fun _ => []) (fun k => k ≤ i ∧ n ∉ (l.take k).map Fld.n) ?_ 0 ⟨Nat.zero_le _, by simp⟩ rfl rfl
   rintro k ⟨hk, hs⟩
   by_cases g : k < i
   ·have g' : (k : Int) < (i : Int) := by omega
    have pk := gFl (show k < l.length by omega)
    have hn2 := takeN (show k < l.length by omega)
    have hmem : (l.getD k default).n ∈ (l.take i).map Fld.n := by
     refine List.mem_map.2 ⟨_, ?_, rfl⟩
     rw [List.mem_take_iff_getElem]
     exact ⟨k, by omega, by rw [List.getD_eq_getElem?_getD, List.getElem?_eq_getElem (show k < l.length by omega)]; rfl⟩
    revert pk hn2 hmem
    generalize l.getD k default = z
    obtain ⟨m, u⟩ := z
    intro pk hn2 hmem
    dsimp only at hn2 hmem
    by_cases c : m = n
    ·rw [c] at hmem
     rw [decide_eq_true hmem]
     repeat' (first | refine run ⟨?_⟩ | refine pickD pk ?_ | refine pickD pi ?_ | fail)
     exact rfl
    ·have hs2 : n ∉ (l.take (k + 1)).map Fld.n := by
      rw [hn2, List.mem_append, List.mem_singleton, not_or]
      exact ⟨hs, fun e => c e.symm⟩
     repeat' (first | refine run ⟨?_⟩ | refine pickD pk ?_ | refine pickD pi ?_ | fail)
     exact ⟨k + 1, ⟨by omega, hs2⟩, by omega, by rw [i64w (by omega)] <;> rfl, rfl⟩
   ·have g' : ¬ (k : Int) < (i : Int) := by omega
    obtain rfl : k = i := by omega
    rw [decide_eq_false hs]
    refine run ⟨?_⟩
    exact ⟨k + 1, ⟨by omega, by rw [hn]; rfl⟩, by omega, by rw [i64w (by omega)] <;> rfl, rfl⟩
 ·have h' : ¬ (i : Int) < ((l.map Fld.D).length : Int) := by rw [hlm]; omega
  obtain rfl : i = l.length := by omega
  rw [List.drop_length, show lstB anyT false ((l.take l.length).map Fld.n) [] = true from rfl, Bool.true_and]
  have hv : boo (decide ((((l.map Fld.D).length : Nat) : Int) ≤ most)) = boo (decide ((l.length : Int) ≤ most)) := by rw [hlm]
  refine run ⟨?_⟩
  exact hv
set_option maxHeartbeats 1000000 in
theorem typed_ev (x : Its) (hx : Fine x) (s : S) (hs : s.length ≤ mx) (H : Hp) : evF (pgL fx F) n_ref14_typed [.d x.D, str s] H = some (boo (bareB (kn x) s), H) := by
 have hs' : s.length ≤ 140737488355328 := hs
 refine evF_wq (t_ref14_typed (F := F)) rfl rfl ?_ H
 refine run ⟨?_⟩
 refine wq_loop (α := S) (fun t => t.length) (fun t => [(1, str t), (2, .ptr 0 0)]) (fun _ => [IB x]) (fun t => t.length ≤ s.length ∧ bareB (kn x) s = bareB (kn x) t) ?_ s ⟨Nat.le_refl _, rfl⟩ rfl rfl
 rintro t ⟨ht, hinv⟩
 rw [hinv, bareB_eq]
 have e1 := starts4_ev (fx := fx) (F := F) t boxT
 have ep := parts_ev (fx := fx) (F := F) x hx t
 unfold boxB coreB
 cases c1 : preB t boxT with
 | true =>
  rw [c1] at e1
  rw [Bool.true_and]
  have h4 : 4 ≤ t.length := preB_len c1
  have hw : IntKind.i64.wrap (((t.length : Nat) : Int) - 1) = ((t.length - 1 : Nat) : Int) := by rw [i64w (by omega)]; omega
  have hn : (0 : Int) ≤ IntKind.i64.wrap (((t.length : Nat) : Int) - 1) := by rw [hw]; omega
  have pj : 0 ≤ IntKind.i64.wrap (((t.length : Nat) : Int) - 1) ∧ t[(IntKind.i64.wrap (((t.length : Nat) : Int) - 1)).toNat]? = some (t.getD (t.length - 1) 0) := by
   rw [hw]
   refine ⟨by omega, ?_⟩
   rw [Int.toNat_natCast, List.getD_eq_getElem?_getD, List.getElem?_eq_getElem (by omega)]; rfl
  have hbl := box_last t c1
  have hlen : sufB (t.drop 4) [62] = true → 5 ≤ t.length := fun h => by
    have := sufB_len h
    rw [List.length_drop] at this
    simp at this
    omega
  rw [hbl] at hlen ⊢
  revert pj hlen
  generalize t.getD (t.length - 1) 0 = c
  intro pj hlen
  have hc5 : ¬ t = [105, 54, 52] := fun h => by rw [h] at c1; exact absurd c1 (by decide)
  have hc6 : ¬ t = [98, 111, 111, 108] := fun h => by rw [h] at c1; exact absurd c1 (by decide)
  have hc7 : ¬ t = [40, 41] := fun h => by rw [h] at c1; exact absurd c1 (by decide)
  by_cases cc : c = 62
  ·rw [decide_eq_true cc]
   have hlen := hlen (decide_eq_true cc)
   subst cc
   have hb : (4 : Nat) ≤ (IntKind.i64.wrap (((t.length : Nat) : Int) - 1)).toNat ∧ (IntKind.i64.wrap (((t.length : Nat) : Int) - 1)).toNat ≤ t.length := by rw [hw]; omega
   have hv : (t.drop 4).take ((t.drop 4).length - 1) = (t.take (t.length - 1)).drop 4 := by rw [List.drop_take, List.length_drop, show t.length - 4 - 1 = t.length - 1 - 4 by omega]
   rw [hv, if_pos rfl]
   repeat' (first | refine run ⟨?_⟩ | refine ca (e1 _) ?_ | refine pickD pj ?_ | refine And.intro (by decide) ?_ | refine And.intro hn ?_ | refine And.intro hb ?_ | fail)
   refine ⟨_, ⟨?_, rfl⟩, ?_, by rw [hw] <;> rfl, rfl⟩
   ·rw [List.length_drop, List.length_take]; omega
   ·show (List.drop 4 _).length < _
    rw [List.length_drop, List.length_take]; omega
  ·rw [decide_eq_false cc, if_neg (by decide)]
   have c5 : ¬ ((c.toNat : Int) = 62) := fun h => cc (UInt8.toNat_inj.1 (by show c.toNat = 62; omega))
   rw [decide_eq_false (show ¬ t = i64T from hc5), decide_eq_false (show ¬ t = boolT from hc6), decide_eq_false (show ¬ t = unitT from hc7)]
   generalize flM x t = l at ep
   generalize kn x t = k at ep ⊢
   generalize enB x t = e at ep
   repeat' (first | refine run ⟨?_⟩ | refine ca (e1 _) ?_ | refine pickD pj ?_ | refine ca (ep _) ?_ | fail)
   exact rfl
 | false =>
  rw [c1] at e1
  rw [Bool.false_and, if_neg (by decide)]
  generalize flM x t = l at ep
  generalize kn x t = k at ep ⊢
  generalize enB x t = e at ep
  by_cases c5 : t = i64T
  ·have c5' : t = [105, 54, 52] := c5
   rw [decide_eq_true c5]
   repeat' (first | refine run ⟨?_⟩ | refine ca (e1 _) ?_ | refine ca (ep _) ?_ | fail)
   exact rfl
  have c5' : ¬ t = [105, 54, 52] := c5
  rw [decide_eq_false c5]
  by_cases c6 : t = boolT
  ·have c6' : t = [98, 111, 111, 108] := c6
   rw [decide_eq_true c6]
   repeat' (first | refine run ⟨?_⟩ | refine ca (e1 _) ?_ | refine ca (ep _) ?_ | fail)
   exact rfl
  have c6' : ¬ t = [98, 111, 111, 108] := c6
  rw [decide_eq_false c6]
  by_cases c7 : t = unitT
  ·have c7' : t = [40, 41] := c7
   rw [decide_eq_true c7]
   repeat' (first | refine run ⟨?_⟩ | refine ca (e1 _) ?_ | refine ca (ep _) ?_ | fail)
   exact rfl
  have c7' : ¬ t = [40, 41] := c7
  rw [decide_eq_false c7]
  repeat' (first | refine run ⟨?_⟩ | refine ca (e1 _) ?_ | refine ca (ep _) ?_ | fail)
  exact rfl
theorem outer_ev (x : Its) (hx : Fine x) (s : S) (hs : s.length ≤ mx) (H : Hp) : evF (pgL fx F) n_ref14_outer [.d x.D, str s] H = some (boo (isB (kn x) s), H) := by
 have e1 := starts4_ev (fx := fx) (F := F) s mutT
 have e2 := starts4_ev (fx := fx) (F := F) s [38]
 have e3 := typed_ev (fx := fx) (F := F) x hx s hs
 have e4 := typed_ev (fx := fx) (F := F) x hx (s.drop 5) (by rw [List.length_drop]; omega)
 have e5 := typed_ev (fx := fx) (F := F) x hx (s.drop 1) (by rw [List.length_drop]; omega)
 rw [offR_drop]
 refine evF_wq (t_ref14_outer (F := F)) rfl rfl ?_ H
 cases c1 : preB s mutT with
 | true =>
  rw [c1] at e1
  have h5 : 5 ≤ s.length := preB_len c1
  have hb : (5 : Nat) ≤ s.length ∧ s.length ≤ s.length := ⟨h5, Nat.le_refl _⟩
  have e4 : ∀ H, evF (pgL fx F) n_ref14_typed [.d x.D, str ((s.take s.length).drop 5)] H = some (boo (bareB (kn x) (s.drop 5)), H) := by rw [List.take_length]; exact e4
  repeat' (first | refine run ⟨?_⟩ | refine ca (e1 _) ?_ | refine And.intro (by decide) ?_ | refine And.intro hb ?_ | refine ca (e4 _) ?_ | fail)
  exact rfl
 | false =>
  rw [c1] at e1
  cases c2 : preB s [38] with
  | true =>
   rw [c2] at e2
   have h5 : 1 ≤ s.length := preB_len c2
   have hb : (1 : Nat) ≤ s.length ∧ s.length ≤ s.length := ⟨h5, Nat.le_refl _⟩
   have e5 : ∀ H, evF (pgL fx F) n_ref14_typed [.d x.D, str ((s.take s.length).drop 1)] H = some (boo (bareB (kn x) (s.drop 1)), H) := by rw [List.take_length]; exact e5
   repeat' (first | refine run ⟨?_⟩ | refine ca (e1 _) ?_ | refine ca (e2 _) ?_ | refine And.intro (by decide) ?_ | refine And.intro hb ?_ | refine ca (e5 _) ?_ | fail)
   exact rfl
  | false =>
   rw [c2] at e2
   repeat' (first | refine run ⟨?_⟩ | refine ca (e1 _) ?_ | refine ca (e2 _) ?_ | refine ca (e3 _) ?_ | fail)
   exact rfl
end
end Go.Vm.Ite
namespace Go.Vm.Ite
open Go Go.Vm Go.Proofs Go.Vm.Ip
open Go.Vm.Lex (nameB)
set_option maxRecDepth 10000
section
variable {fx : Nat → Option Obj} {F : Nat → Option VFun}
theorem getF_mem {l : List Fnc} {j : Nat} (h : j < l.length) : l.getD j default ∈ l := by simp [List.getD_eq_getElem?_getD, List.getElem?_eq_getElem h]
theorem takeFF {l : List Fnc} {i : Nat} (h : i < l.length) : l.take (i + 1) = l.take i ++ [l.getD i default] := take_succ_getD h
set_option maxHeartbeats 4000000 in
theorem fun14_ev (x : Its) (hx : Fine x) (H : Hp) : evF (pgL fx F) n_ref14_functions [.d x.D] H = some (boo (fun14 x), H) := by
 have hl' : x.fs.length ≤ 140737488355328 := hx.fs
 have hff := hx.ff
 have hlm : (x.fs.map Fnc.D).length = x.fs.length := List.length_map ..
 unfold fun14
 obtain ⟨l, hl⟩ : ∃ l, l = x.fs := ⟨_, rfl⟩
 have hib : IB x = .box [.d (.sl (x.ss.map Nam.D)), .d (.sl (x.es.map Nam.D)), .d (.sl (l.map Fnc.D))] := by rw [hl]; rfl
 have hxd : x.D = .agg [.sl (x.ss.map Nam.D), .sl (x.es.map Nam.D), .sl (l.map Fnc.D)] := by rw [hl]; rfl
 rw [← hl] at hl' hff hlm ⊢
 refine evF_wq (t_ref14_functions (F := F)) rfl rfl ?_ H
 refine run ⟨?_⟩
 refine wq_loop (α := Nat × Bool) (fun a => l.length - a.1) (fun a => [(1, .ptr 0 0), (3, boo a.2), (4, i64 a.1)]) (fun _ => [.box [.d (.sl (x.ss.map Nam.D)), .d (.sl (x.es.map Nam.D)), .d (.sl (l.map Fnc.D))]]) (fun a => a.1 ≤ l.length ∧ a.2 = (l.take a.1).any mn14 ∧ fns14 (kn x) [] l = fns14 (kn x) (l.take a.1) (l.drop a.1)) ?_ (0, false) ⟨Nat.zero_le _, rfl, rfl⟩ rfl (by rw [← hib] <;> rfl)
 rintro ⟨i, m⟩ ⟨hi, hm, hinv⟩
 dsimp only at hi hm hinv
 rw [hinv]
 by_cases h : i < l.length
 ·have h' : (i : Int) < ((l.map Fnc.D).length : Int) := by rw [hlm]; omega
  have pi := gF h
  have ht := takeFF h
  have hd := drop_getD (d := default) h
  have hfm := hff _ (getF_mem h)
  revert pi ht hd hfm
  generalize l.getD i default = y
  intro pi ht hd hfm
  rw [hd]
  simp only [fns14]
  have en := rname_ev (fx := fx) (F := F) (s := y.n) (hs := Nat.le_trans hfm.1 (by decide))
  have eb := built_ev (fx := fx) (F := F) y.n
  have ef := fields14_ev (fx := fx) (F := F) y.ps hfm.2.2.2.1 (fun f hf => (hfm.2.2.2.2.1 f hf).1) 6
  have eo := outer_ev (fx := fx) (F := F) x hx y.r hfm.2.1
  have ep := fun (j : Nat) (hj : j < y.ps.length) => outer_ev (fx := fx) (F := F) x hx (y.ps.getD j default).t (hfm.2.2.2.2.1 _ (getD_mem hj)).2
  rw [hxd] at eo ep
  have lms : (y.ms.map D.bool).length = y.ms.length := List.length_map ..
  have lps : (y.ps.map Fld.D).length = y.ps.length := List.length_map ..
  have hpl := hfm.2.2.2.1
  have hpl' : y.ps.length ≤ 4398046511104 := hpl
  clear hfm
  have hmn : mn14 y = (decide (y.n = mainT) && decide (y.ps.length = 0) && decide (y.r = unitT)) := rfl
  revert pi ht en eb ef eo ep lms lps hpl hpl' hmn
  obtain ⟨n, ps, ms, r, dd⟩ := y
  dsimp only
  intro pi ht en eb ef eo ep lms lps hpl hpl' hmn
  cases c1 : nameB n with
  | false =>
   rw [c1] at en
   repeat' (first | refine run ⟨?_⟩ | refine pickD pi ?_ | refine ca (en _) ?_ | fail)
   exact rfl
  | true =>
  rw [c1] at en
  cases c2 : biB n with
  | true =>
   rw [c2] at eb
   repeat' (first | refine run ⟨?_⟩ | refine pickD pi ?_ | refine ca (en _) ?_ | refine ca (eb _) ?_ | fail)
   exact rfl
  | false =>
  rw [c2] at eb
  cases c3 : fld14 ps 6 with
  | false =>
   rw [c3] at ef
   repeat' (first | refine run ⟨?_⟩ | refine pickD pi ?_ | refine ca (en _) ?_ | refine ca (eb _) ?_ | refine ca (ef _) ?_ | fail)
   exact rfl
  | true =>
  rw [c3] at ef
  by_cases c4 : ms.length = ps.length
  rotate_left
  ·rw [decide_eq_false c4]
   have c4' : (!decide (((ms.map D.bool).length : Int) = ((ps.map Fld.D).length : Int))) = true := by rw [lms, lps]; simp; omega
   repeat' (first | refine run ⟨?_⟩ | refine pickD pi ?_ | refine ca (en _) ?_ | refine ca (eb _) ?_ | refine ca (ef _) ?_ | fail)
   exact rfl
  rw [decide_eq_true c4]
  have c4' : (!decide (((ms.map D.bool).length : Int) = ((ps.map Fld.D).length : Int))) = false := by rw [lms, lps, c4]; simp
  cases c5 : isB (kn x) r with
  | false =>
   rw [c5] at eo
   repeat' (first | refine run ⟨?_⟩ | refine pickD pi ?_ | refine ca (en _) ?_ | refine ca (eb _) ?_ | refine ca (ef _) ?_ | refine ca (eo _) ?_ | fail)
   exact rfl
  | true =>
  rw [c5] at eo
  by_cases c6 : dd < 0
  ·rw [decide_eq_true c6]
   repeat' (first | refine run ⟨?_⟩ | refine pickD pi ?_ | refine ca (en _) ?_ | refine ca (eb _) ?_ | refine ca (ef _) ?_ | refine ca (eo _) ?_ | fail)
   exact rfl
  rw [decide_eq_false c6]
  repeat' (first | refine run ⟨?_⟩ | refine pickD pi ?_ | refine ca (en _) ?_ | refine ca (eb _) ?_ | refine ca (ef _) ?_ | refine ca (eo _) ?_ | fail)
  refine wq_loop (α := Nat) (fun a => i - a) (fun a => [(1, .ptr 0 0), (3, boo m), (4, i64 i), (5, .ptr 1 0), (6, i64 a)]) (fun _ => [.box [.d (.sl (x.ss.map Nam.D)), .d (.sl (x.es.map Nam.D)), .d (.sl (l.map Fnc.D))], .box [str n, .d (fldsD ps), .d (.sl (ms.map .bool)), str r, i64 dd]]) (fun k => k ≤ i ∧ ¬ (n ∈ (l.take k).map Fnc.n ∨ dd ∈ (l.take k).map Fnc.d)) ?_ 0 ⟨Nat.zero_le _, by simp⟩ rfl rfl
  rintro k ⟨hk, hs⟩
  by_cases g : k < i
  ·have g' : (k : Int) < (i : Int) := by omega
   have hkl : k < l.length := by omega
   have pk := gF hkl
   have ht2 := takeFF hkl
   have hm1 : l.getD k default ∈ l.take i := by
    rw [List.mem_take_iff_getElem]
    exact ⟨k, by omega, by rw [List.getD_eq_getElem?_getD, List.getElem?_eq_getElem hkl]; rfl⟩
   revert pk ht2 hm1
   generalize l.getD k default = z
   obtain ⟨zn, zps, zms, zr, zd⟩ := z
   intro pk ht2 hm1
   have q1 : zn ∈ (l.take i).map Fnc.n := List.mem_map.2 ⟨_, hm1, rfl⟩
   have q2 : zd ∈ (l.take i).map Fnc.d := List.mem_map.2 ⟨_, hm1, rfl⟩
   by_cases c7 : zn = n
   ·rw [decide_eq_true (.inl (c7 ▸ q1))]
    repeat' (first | refine run ⟨?_⟩ | refine pickD pk ?_ | fail)
    exact rfl
   by_cases c8 : zd = dd
   ·rw [decide_eq_true (.inr (c8 ▸ q2))]
    repeat' (first | refine run ⟨?_⟩ | refine pickD pk ?_ | fail)
    exact rfl
   have hs2 : ¬ (n ∈ (l.take (k + 1)).map Fnc.n ∨ dd ∈ (l.take (k + 1)).map Fnc.d) := by
    rw [ht2, List.map_append, List.map_append, List.mem_append, List.mem_append]
    rintro ((a | a) | (a | a))
    ·exact hs (.inl a)
    ·simp at a; exact c7 a.symm
    ·exact hs (.inr a)
    ·simp at a; exact c8 a.symm
   repeat' (first | refine run ⟨?_⟩ | refine pickD pk ?_ | fail)
   exact ⟨k + 1, ⟨by omega, hs2⟩, by omega, by rw [i64w (by omega)] <;> rfl, rfl⟩
  ·have g' : ¬ (k : Int) < (i : Int) := by omega
   obtain rfl : k = i := by omega
   rw [decide_eq_false hs]
   refine run ⟨?_⟩
   refine wq_loop (α := Nat) (fun a => ps.length - a) (fun a => [(1, .ptr 0 0), (3, boo m), (4, i64 k), (5, .ptr 1 0), (7, i64 a)]) (fun _ => [.box [.d (.sl (x.ss.map Nam.D)), .d (.sl (x.es.map Nam.D)), .d (.sl (l.map Fnc.D))], .box [str n, .d (fldsD ps), .d (.sl (ms.map .bool)), str r, i64 dd]]) (fun j => j ≤ ps.length ∧ ∀ p ∈ ps.take j, isB (kn x) p.t = true) ?_ 0 ⟨Nat.zero_le _, by simp⟩ rfl rfl
   rintro j ⟨hj, hq⟩
   by_cases u : j < ps.length
   ·have u' : (j : Int) < ((ps.map Fld.D).length : Int) := by rw [lps]; omega
    have pj := gFl u
    have e1 := ep j u
    have ht3 := take_succ_getD (d := default) u
    have hmem := getD_mem u
    revert pj e1 ht3 hmem
    generalize ps.getD j default = p
    obtain ⟨pn, pt⟩ := p
    intro pj e1 ht3 hmem
    dsimp only at e1
    cases c9 : isB (kn x) pt with
    | false =>
     rw [c9] at e1
     have hv : (ps.all fun p => isB (kn x) p.t) = false := by
       rw [List.all_eq_false]; exact ⟨_, hmem, by rw [c9]; decide⟩
     rw [hv]
     repeat' (first | refine run ⟨?_⟩ | refine pickD pj ?_ | refine ca (e1 _) ?_ | fail)
     exact rfl
    | true =>
     rw [c9] at e1
     have hq2 : ∀ p ∈ ps.take (j + 1), isB (kn x) p.t = true := fun p hp => by
       rw [ht3, List.mem_append, List.mem_singleton] at hp
       rcases hp with a | a
       ·exact hq p a
       ·rw [a]; exact c9
     repeat' (first | refine run ⟨?_⟩ | refine pickD pj ?_ | refine ca (e1 _) ?_ | fail)
     exact ⟨j + 1, ⟨by omega, hq2⟩, by omega, by rw [i64w (by omega)] <;> rfl, rfl⟩
   ·have u' : ¬ (j : Int) < ((ps.map Fld.D).length : Int) := by rw [lps]; omega
    obtain rfl : j = ps.length := by omega
    rw [List.take_length] at hq
    have hv : (ps.all fun p => isB (kn x) p.t) = true := List.all_eq_true.2 hq
    rw [hv]
    have hm2 : (l.take (k + 1)).any mn14 = (m || mn14 ⟨n, ps, ms, r, dd⟩) := by
     rw [ht, List.any_append, ← hm]; simp
    rw [hmn] at hm2
    have fin : ∀ m', m' = (m || (decide (n = mainT) && decide (ps.length = 0) && decide (r = unitT))) → ∃ a' : Nat × Bool, (a'.1 ≤ l.length ∧ a'.2 = (l.take a'.1).any mn14 ∧ fns14 (kn x) (l.take k ++ [⟨n, ps, ms, r, dd⟩]) (l.drop (k + 1)) = fns14 (kn x) (l.take a'.1) (l.drop a'.1)) ∧ l.length - a'.1 < l.length - k ∧ a' = (k + 1, m') := fun m' hm' => ⟨(k + 1, m'), ⟨by show k + 1 ≤ _; omega, by rw [hm', ← hm2], by rw [← ht]⟩, by show _ - (k + 1) < _; omega, rfl⟩
    cases m with
    | true =>
     obtain ⟨a', f1, f2, rfl⟩ := fin true rfl
     refine run ⟨?_⟩
     exact ⟨_, f1, f2, by dsimp only; rw [i64w (by omega)] <;> rfl, rfl⟩
    | false =>
    by_cases d1 : n = mainT
    rotate_left
    ·have d1' : ¬ n = [109, 97, 105, 110] := d1
     obtain ⟨a', f1, f2, rfl⟩ := fin false (by rw [decide_eq_false d1]; rfl)
     refine run ⟨?_⟩
     exact ⟨_, f1, f2, by dsimp only; rw [i64w (by omega)] <;> rfl, rfl⟩
    have d1' : n = [109, 97, 105, 110] := d1
    by_cases d2 : ps.length = 0
    rotate_left
    ·have d2' : ¬ (((ps.map Fld.D).length : Nat) : Int) = 0 := by rw [lps]; omega
     obtain ⟨a', f1, f2, rfl⟩ := fin false (by rw [decide_eq_false d2, Bool.and_false]; rfl)
     refine run ⟨?_⟩
     exact ⟨_, f1, f2, by dsimp only; rw [i64w (by omega)] <;> rfl, rfl⟩
    have d2' : (((ps.map Fld.D).length : Nat) : Int) = 0 := by rw [lps]; omega
    obtain ⟨a', f1, f2, rfl⟩ := fin (decide (r = unitT)) (by rw [decide_eq_true d1, decide_eq_true d2]; rfl)
    refine run ⟨?_⟩
    exact ⟨_, f1, f2, by dsimp only; rw [i64w (by omega)] <;> rfl, rfl⟩
 ·have h' : ¬ (i : Int) < ((l.map Fnc.D).length : Int) := by rw [hlm]; omega
  obtain rfl : i = l.length := by omega
  rw [List.take_length] at hm
  rw [List.drop_length, show fns14 (kn x) (l.take l.length) [] = true from rfl, Bool.true_and, ← hm]
  have hv : decide ((((l.map Fnc.D).length : Nat) : Int) ≤ 64) = decide (l.length ≤ 64) := by
   rw [hlm, Bool.eq_iff_iff, decide_eq_true_eq, decide_eq_true_eq]; omega
  rw [← hv]
  cases m with
  | true =>
   refine run ⟨?_⟩
   exact rfl
  | false =>
   refine run ⟨?_⟩
   exact rfl
end
end Go.Vm.Ite
namespace Go.Vm.Ite
open Go Go.Vm Go.Proofs Go.Vm.Ip
open Go.Vm.Lex (nameB)
set_option maxRecDepth 10000
section
variable {fx : Nat → Option Obj} {F : Nat → Option VFun}
set_option maxHeartbeats 1000000 in
theorem all14_ev (x : Its) (h1 : x.ss.length ≤ 64) (h2 : x.es.length ≤ 64) (H : Hp) : evF (pgL fx F) n_ref14_all [.d x.D] H = some (.d (.sl ((nS x ++ nE x).map D.str)), H) := by
 have m1 : (x.ss.map Nam.D).length = x.ss.length := List.length_map ..
 have m2 : (x.es.map Nam.D).length = x.es.length := List.length_map ..
 refine evF_wq (t_ref14_all (F := F)) rfl rfl ?_ H
 refine run ⟨?_⟩
 refine wq_loop (α := Nat) (fun a => x.ss.length - a) (fun a => [(1, .ptr 0 0), (3, .row 1 a), (4, i64 a)]) (fun a => [IB x, .row 1 (((nS x).take a).map D.str)]) (fun a => a ≤ x.ss.length) ?_ 0 (Nat.zero_le _) rfl rfl
 rintro j hj
 by_cases h : j < x.ss.length
 ·have h' : (j : Int) < ((x.ss.map Nam.D).length : Int) := by rw [m1]; omega
  have pj := gN h
  have hn : (nS x).take (j + 1) = (nS x).take j ++ [(x.ss.getD j default).n] := by
   unfold nS
   rw [List.take_add_one, List.getElem?_map, List.getElem?_eq_getElem h, List.getD_eq_getElem?_getD, List.getElem?_eq_getElem h]; rfl
  have hln : (((nS x).take j).map D.str).length = j := by unfold nS; rw [List.length_map, List.length_take, List.length_map]; omega
  revert pj hn
  generalize x.ss.getD j default = y
  obtain ⟨n, fs⟩ := y
  intro pj hn
  dsimp only at hn
  repeat' (first | refine run ⟨?_⟩ | refine pickD pj ?_ | fail)
  refine And.intro ⟨rfl, by decide⟩ ?_
  refine And.intro ⟨rfl, hln, by show roomy (j + 1) 16; unfold roomy; omega⟩ ?_
  refine run ⟨?_⟩
  exact ⟨j + 1, by omega, by omega, by rw [i64w (by omega)] <;> rfl, by rw [hn, List.map_append] <;> rfl⟩
 ·have h' : ¬ (j : Int) < ((x.ss.map Nam.D).length : Int) := by rw [m1]; omega
  obtain rfl : j = x.ss.length := by omega
  have hln : (((nS x).take x.ss.length).map D.str).length = x.ss.length := by unfold nS; rw [List.length_map, List.length_take, List.length_map]; omega
  have hta : (nS x).take x.ss.length = nS x := List.take_of_length_le (by unfold nS; rw [List.length_map]; exact Nat.le_refl _)
  have hlS : (nS x).length = x.ss.length := by unfold nS; rw [List.length_map]
  rw [hta]
  refine run ⟨?_⟩
  refine wq_loop (α := Nat) (fun a => x.es.length - a) (fun a => [(1, .ptr 0 0), (3, .row 1 (x.ss.length + a)), (5, i64 a)]) (fun a => [IB x, .row 1 ((nS x ++ (nE x).take a).map D.str)]) (fun a => a ≤ x.es.length) ?_ 0 (Nat.zero_le _) rfl (by rw [List.take_zero, List.append_nil] <;> rfl)
  rintro j hj
  by_cases h : j < x.es.length
  ·have h' : (j : Int) < ((x.es.map Nam.D).length : Int) := by rw [m2]; omega
   have pj := gN h
   have hn : (nE x).take (j + 1) = (nE x).take j ++ [(x.es.getD j default).n] := by
    unfold nE
    rw [List.take_add_one, List.getElem?_map, List.getElem?_eq_getElem h, List.getD_eq_getElem?_getD, List.getElem?_eq_getElem h]; rfl
   have hln : ((nS x ++ (nE x).take j).map D.str).length = x.ss.length + j := by unfold nE; rw [List.length_map, List.length_append, hlS, List.length_take, List.length_map]; omega
   revert pj hn
   generalize x.es.getD j default = y
   obtain ⟨n, fs⟩ := y
   intro pj hn
   dsimp only at hn
   repeat' (first | refine run ⟨?_⟩ | refine pickD pj ?_ | fail)
   refine And.intro ⟨rfl, by decide⟩ ?_
   refine And.intro ⟨rfl, hln, by show roomy (x.ss.length + j + 1) 16; unfold roomy; omega⟩ ?_
   refine run ⟨?_⟩
   exact ⟨j + 1, by omega, by omega, by rw [i64w (by omega)] <;> rfl, by rw [hn, ← List.append_assoc, List.map_append (l₁ := nS x ++ (nE x).take j)] <;> rfl⟩
  ·have h' : ¬ (j : Int) < ((x.es.map Nam.D).length : Int) := by rw [m2]; omega
   obtain rfl : j = x.es.length := by omega
   have hta2 : (nE x).take x.es.length = nE x := List.take_of_length_le (by unfold nE; rw [List.length_map]; exact Nat.le_refl _)
   have hln : ((nS x ++ nE x).map D.str).length = x.ss.length + x.es.length := by rw [List.length_map, List.length_append, hlS]; unfold nE; rw [List.length_map]
   rw [hta2]
   refine run ⟨?_⟩
   refine And.intro hln ?_
   exact rfl
end
end Go.Vm.Ite
