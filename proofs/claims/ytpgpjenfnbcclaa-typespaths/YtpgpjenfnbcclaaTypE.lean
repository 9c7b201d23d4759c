import Derived.Test.YtpgpjenfnbcclaaTypL
import Derived.Test.YtpgpjenfnbcclaaTypP9
set_option linter.unusedSimpArgs false
set_option linter.unusedVariables false
namespace Go.Vm.Typ
open Go Go.Vm Go.Proofs Go.Vm.Ip
set_option maxRecDepth 100000
noncomputable def c72 : Code := (Try.f72.body).getD .skip
theorem b72 : Try.f72.body = some c72 := by kernel_rfl
noncomputable def m72 : Code := cR (cR c72)
noncomputable def e72 : Code := cR m72
noncomputable def l72 : Code := cK (cK (cL e72))
noncomputable def k72 : Code := cK (cR l72)
noncomputable def p72 : Code := cR (cR k72)
noncomputable def z72 : Code := cA (cR (cR p72))
theorem q72a : c72 = .seq (cL c72) (.seq (cL (cR c72)) (.seq (.region (cId (cL m72)) (cOps (cL m72)) false) (.seq (.block 0 (.loop l72)) (cR e72)))) := by kernel_rfl
theorem q72b : l72 = .seq (.seq (.region (cId (cL (cL l72))) (cOps (cL (cL l72))) false) (.cond (.tmp 23) .skip (.exit 0))) (.block 1 (.seq (.region (cId (cL k72)) (cOps (cL k72)) false) (.seq (.region (cId (cL (cR k72))) (cOps (cL (cR k72))) false) p72))) := by kernel_rfl
theorem q72c : p72 = .seq (.seq (cL (cL p72)) (.cond (.tmp 37) (cA (cR (cL p72))) .skip)) (.seq (cL (cR p72)) (.cond (.tmp 41) z72 .skip)) := by kernel_rfl
theorem q72d : z72 = .seq (cL z72) (.seq (.region (cId (cL (cR z72))) (cOps (cL (cR z72))) false) (.region (cId (cR (cR z72))) (cOps (cR (cR z72))) false)) := by kernel_rfl
noncomputable def v72 : VCode := vR (vR (vR (vK (vR L72_0))))
theorem tE0 : tr Try.prog n50 (cL c72) = some (vL B72) := by kernel_rfl
theorem tE1 : tr Try.prog n50 (cL (cR c72)) = some (vL (vR B72)) := by kernel_rfl
theorem tE2 : tr Try.prog n50 (cR e72) = some (vR (vR (vR (vR B72)))) := by kernel_rfl
theorem tE3 : tr Try.prog n50 (cL (cL p72)) = some (vL (vL (vR (vR (vK (vR L72_0)))))) := by kernel_rfl
theorem tE4 : tr Try.prog n50 (cA (cR (cL p72))) = some (vA (vR (vL (vR (vR (vK (vR L72_0))))))) := by kernel_rfl
theorem tE5 : tr Try.prog n50 (cL (cR p72)) = some (vL v72) := by kernel_rfl
theorem tE6 : tr Try.prog n50 (cL z72) = some (vL (vA (vR v72))) := by kernel_rfl
theorem R2s : (cOps (cL m72)).size = 9 := by kernel_rfl
theorem R2o3 : ((cOps (cL m72))[3]?).map (fun o => (o.op, o.dst, o.guard)) = some (.call { callee := .value (.func 88), args := #[.tmp 15, .tmp 16, .tmp 17], argTypes := #[26, 72, 9] }, some 18, none) := by kernel_rfl
theorem R2o4 : ((cOps (cL m72))[4]?).map (fun o => (o.op, o.dst, o.guard)) = some (.move (.tmp 18), some 14, none) := by kernel_rfl
theorem R2o5 : ((cOps (cL m72))[5]?).map (fun o => (o.op, o.dst, o.guard)) = some (.extract (.tmp 14) 0, some 19, none) := by kernel_rfl
theorem R2o6 : ((cOps (cL m72))[6]?).map (fun o => (o.op, o.dst, o.guard)) = some (.extract (.tmp 14) 1, some 20, none) := by kernel_rfl
theorem R2o7 : ((cOps (cL m72))[7]?).map (fun o => (o.op, o.dst, o.guard)) = some (.assign (.tmp 19), some 8, none) := by kernel_rfl
theorem R2o8 : ((cOps (cL m72))[8]?).map (fun o => (o.op, o.dst, o.guard)) = some (.assign (.tmp 20), some 9, none) := by kernel_rfl
theorem R2v0 : trOpers Try.prog (cOps (cL m72)) (((cOps (cL m72)).toList.drop 0).take 3) = some (((vO (vL (vR (vR B72)))).drop 0).take 3) := by kernel_rfl
theorem R3s : (cOps (cL (cL l72))).size = 3 := by kernel_rfl
theorem R3o0 : ((cOps (cL (cL l72)))[0]?).map (fun o => (o.op, o.dst, o.guard)) = some (.move (.tmp 8), some 21, none) := by kernel_rfl
theorem R3o1 : ((cOps (cL (cL l72)))[1]?).map (fun o => (o.op, o.dst, o.guard)) = some (.call { callee := .builtin .len, args := #[.tmp 21], argTypes := #[66] }, some 22, none) := by kernel_rfl
theorem R3v2 : trOpers Try.prog (cOps (cL (cL l72))) (((cOps (cL (cL l72))).toList.drop 2).take 1) = some (((vO (vL (vL L72_0))).drop 2).take 1) := by kernel_rfl
theorem R4s : (cOps (cL k72)).size = 7 := by kernel_rfl
theorem R4o0 : ((cOps (cL k72))[0]?).map (fun o => (o.op, o.dst, o.guard)) = some (.move (.tmp 8), some 24, none) := by kernel_rfl
theorem R4o1 : ((cOps (cL k72))[1]?).map (fun o => (o.op, o.dst, o.guard)) = some (.move (.tmp 8), some 25, none) := by kernel_rfl
theorem R4o2 : ((cOps (cL k72))[2]?).map (fun o => (o.op, o.dst, o.guard)) = some (.call { callee := .builtin .len, args := #[.tmp 25], argTypes := #[66] }, some 26, none) := by kernel_rfl
theorem R4o4 : ((cOps (cL k72))[4]?).map (fun o => (o.op, o.dst, o.guard)) = some (.indexAddr 66 (.tmp 24) (.tmp 27), some 28, none) := by kernel_rfl
theorem R4o5 : ((cOps (cL k72))[5]?).map (fun o => (o.op, o.dst, o.guard)) = some (.load 9 (.tmp 28), some 29, none) := by kernel_rfl
theorem R4o6 : ((cOps (cL k72))[6]?).map (fun o => (o.op, o.dst, o.guard)) = some (.assign (.tmp 29), some 10, none) := by kernel_rfl
theorem R4v3 : trOpers Try.prog (cOps (cL k72)) (((cOps (cL k72)).toList.drop 3).take 1) = some (((vO (vL (vK (vR L72_0)))).drop 3).take 1) := by kernel_rfl
theorem R5s : (cOps (cL (cR k72))).size = 6 := by kernel_rfl
theorem R5o0 : ((cOps (cL (cR k72)))[0]?).map (fun o => (o.op, o.dst, o.guard)) = some (.move (.tmp 8), some 30, none) := by kernel_rfl
theorem R5o1 : ((cOps (cL (cR k72)))[1]?).map (fun o => (o.op, o.dst, o.guard)) = some (.move (.tmp 8), some 31, none) := by kernel_rfl
theorem R5o2 : ((cOps (cL (cR k72)))[2]?).map (fun o => (o.op, o.dst, o.guard)) = some (.call { callee := .builtin .len, args := #[.tmp 31], argTypes := #[66] }, some 32, none) := by kernel_rfl
theorem R5o4 : ((cOps (cL (cR k72)))[4]?).map (fun o => (o.op, o.dst, o.guard)) = some (.slice 66 (.tmp 30) none (some (.tmp 33)) none, some 34, none) := by kernel_rfl
theorem R5o5 : ((cOps (cL (cR k72)))[5]?).map (fun o => (o.op, o.dst, o.guard)) = some (.assign (.tmp 34), some 8, none) := by kernel_rfl
theorem R5v3 : trOpers Try.prog (cOps (cL (cR k72))) (((cOps (cL (cR k72))).toList.drop 3).take 1) = some (((vO (vL (vR (vK (vR L72_0))))).drop 3).take 1) := by kernel_rfl
theorem R10s : (cOps (cL (cR z72))).size = 9 := by kernel_rfl
theorem R10o3 : ((cOps (cL (cR z72)))[3]?).map (fun o => (o.op, o.dst, o.guard)) = some (.call { callee := .value (.func 88), args := #[.tmp 45, .tmp 46, .tmp 47], argTypes := #[26, 72, 9] }, some 48, none) := by kernel_rfl
theorem R10o4 : ((cOps (cL (cR z72)))[4]?).map (fun o => (o.op, o.dst, o.guard)) = some (.move (.tmp 48), some 44, none) := by kernel_rfl
theorem R10o5 : ((cOps (cL (cR z72)))[5]?).map (fun o => (o.op, o.dst, o.guard)) = some (.extract (.tmp 44) 0, some 49, none) := by kernel_rfl
theorem R10o6 : ((cOps (cL (cR z72)))[6]?).map (fun o => (o.op, o.dst, o.guard)) = some (.extract (.tmp 44) 1, some 50, none) := by kernel_rfl
theorem R10o7 : ((cOps (cL (cR z72)))[7]?).map (fun o => (o.op, o.dst, o.guard)) = some (.assign (.tmp 49), some 11, none) := by kernel_rfl
theorem R10o8 : ((cOps (cL (cR z72)))[8]?).map (fun o => (o.op, o.dst, o.guard)) = some (.assign (.tmp 50), some 12, none) := by kernel_rfl
theorem R10v0 : trOpers Try.prog (cOps (cL (cR z72))) (((cOps (cL (cR z72))).toList.drop 0).take 3) = some (((vO (vL (vR (vA (vR v72))))).drop 0).take 3) := by kernel_rfl
theorem R11s : (cOps (cR (cR z72))).size = 4 := by kernel_rfl
theorem R11a : trOpers Try.prog (cOps (cR (cR z72))) (((cOps (cR (cR z72))).toList.drop 0).take 2) = some ((vO (vR (vR (vA (vR v72))))).take 2) := by kernel_rfl
theorem R11b : trOpers Try.prog (cOps (cR (cR z72))) (((cOps (cR (cR z72))).toList.drop 3).take 1) = some ((vO (vR (vR (vA (vR v72))))).drop 3) := by kernel_rfl
theorem R11c : ((cOps (cR (cR z72)))[2]?).map (fun o => (o.op, o.dst, o.guard)) = some (.call { callee := .builtin .append, args := #[.tmp 51, .tmp 52], argTypes := #[66, 66] }, some 53, none) := by kernel_rfl
theorem sz9 : sizeT Try.prog 9 = some 1 := by kernel_rfl
theorem sh9 : shapeT Try.prog 9 = some none := by kernel_rfl
theorem f88b : Try.f88.body.isNone = false := by kernel_rfl
theorem f88n : (Try.f88.name == "runtime.NumGoroutine") = false := by kernel_rfl
section
variable {fx : Nat → Option Obj}
abbrev H8 (x : Its) (o6 o7 : Ob) : Hp := [IB x, IB x, .map (finM (nS x)), .map (finM (nE x)), .map (finM (nF x)), .box [.mp 2, .mp 3, .mp 4], o6, o7]
abbrev HE (x : Its) (o6 o7 : Ob) (seen : List S) : Hp := HH x o6 o7 (IB x) (.map (seenM seen))
def EInv (fx : Nat → Option Obj) (x : Its) (s : S) (o6 o7 : Ob) (g0 : Gh) (ww : World) (k : Nat) (a : Act) (w : World) : Prop :=
  ∃ g xv seen todo, k = todo.length + owed x seen (nS x ++ nE x) ∧ k ≤ 4096 ∧ Srch x s seen todo ∧ StOk (cxL fx) 54 g ⟨[(1, .ptr 5 0), (2, str s), (3, .ptr 8 0), (7, .mp 9), (8, .raw xv)], HE x o6 o7 seen, 8⟩ a w ∧ Loose (cxL fx) g w ww.heap.size 1 xv todo.length (todo.map strV) ∧ Ext 8 g0 (H8 x o6 o7) ww g (HE x o6 o7 seen) w
set_option maxHeartbeats 4000000 in
theorem loopE (x : Its) (hx : Fine x) (hsm : Small x) (s : S) (o6 o7 : Ob) (g0 : Gh) (ww : World) {Q : Exit → Act → World → Prop}
    (hq : ∀ g a w seen, ¬ Gets x s s → StOk (cxL fx) 54 g ⟨[(2, str s)], HE x o6 o7 seen, 8⟩ a w → Ext 8 g0 (H8 x o6 o7) ww g (HE x o6 o7 seen) w → Q .normal a w)
    (hr : ∀ g a w seen, Gets x s s → StOk (cxL fx) 54 g ⟨[(6, boo true)], HE x o6 o7 seen, 8⟩ a w → Ext 8 g0 (H8 x o6 o7) ww g (HE x o6 o7 seen) w → Q .ret a w)
    (k : Nat) (a : Act) (w : World) (h : EInv fx x s o6 o7 g0 ww k a w) : (Code.block 0 (.loop l72)).wp Try.prog Q a w := by
  have hT := tOk fx
  have hS := ev_sound hT mixed
  apply wp_block
  refine wp_loop_dec (EInv fx x s o6 o7 g0 ww) ?_ h
  rintro k a w ⟨g, xv, seen, todo, hk, hk2, hsr, ok, hl, E0⟩
  rw [q72b]
  apply wp_seq
  apply wp_seq
  obtain ⟨ad, c, hxv⟩ := hl.len
  apply wp_region
  rw [R3s, range3]
  have hg8 := (ok.env.2 8 (by decide)).1
  simp only [getE_miss (show (1 : Nat) ≠ 8 by decide), getE_miss (show (2 : Nat) ≠ 8 by decide), getE_miss (show (3 : Nat) ≠ 8 by decide), getE_miss (show (7 : Nat) ≠ 8 by decide), getE_hit, Rep] at hg8
  refine op_put R3o0 ok (v := .raw xv) (fun o ho => run_mv ho) (by decide) hg8 rfl fun ok1 => ?_
  have hg21 := (ok1.env.2 21 (by decide)).1
  simp only [putE, getE_hit, Rep] at hg21
  refine op_put R3o1 ok1 (v := i64 todo.length) (fun o ho => run_lenR u66 (hg21.trans hxv) ho) (by decide) (int_rep _ _) rfl fun ok2 => ?_
  show Go.wpOps _ _ _ (List.range' 2 1 ++ []) _ _
  refine ops_mid hS R3v2 (by kernel_rfl) (by rw [R3s]; decide) (s' := ⟨[(23, boo (decide ((todo.length : Int) > 0))), (22, i64 todo.length), (21, .raw xv), (1, .ptr 5 0), (2, str s), (3, .ptr 8 0), (7, .mp 9), (8, .raw xv)], HE x o6 o7 seen, 8⟩) rfl ok2 fun g3 a3 w3 ok3 ext3 => ?_
  have hl3 := hl.ext ext3
  have E3 := E0.trans ext3 (Nat.le_refl _)
  show (Code.cond _ _ _).wp _ _ _ _
  refine Go.wp_cond_split (cond_val ok3 (i := 23) (by decide) rfl) (fun hc => ?_) (fun hc => ?_)
  · have hpos : 0 < todo.length := by have := of_decide_eq_true hc; omega
    obtain ⟨td, y, rfl⟩ : ∃ td y, todo = td ++ [y] := ⟨todo.dropLast, todo.getLast (List.length_pos_iff.1 hpos), (List.dropLast_concat_getLast _).symm⟩
    have ok3 := ok3.forget [1, 2, 3, 7, 8]
    rw [show keepE [1, 2, 3, 7, 8] _ = [(1, .ptr 5 0), (2, str s), (3, .ptr 8 0), (7, .mp 9), (8, .raw xv)] from rfl] at ok3
    clear ok ok1 ok2 hg8 hg21
    have hlen : (td ++ [y]).length = td.length + 1 := by simp
    have hlb : td.length + 1 ≤ 4096 := by omega
    apply wp_skip
    show (Code.block 1 _).wp _ _ _ _
    apply wp_block
    apply wp_seq
    apply wp_region
    rw [R4s, show List.range 7 = [0, 1, 2, 3, 4, 5, 6] from rfl]
    refine op_put R4o0 ok3 (v := .raw xv) (fun o ho => run_mv ho) (by decide) (repOf ok3 (i := 8) (by decide) rfl) rfl fun ok4 => ?_
    refine op_put R4o1 ok4 (v := .raw xv) (fun o ho => run_mv ho) (by decide) (repOf ok4 (i := 8) (by decide) rfl) rfl fun ok5 => ?_
    refine op_put R4o2 ok5 (v := i64 (td ++ [y]).length) (fun o ho => run_lenR u66 ((valR ok5 (i := 25) (by decide) rfl).trans hxv) ho) (by decide) (int_rep _ _) rfl fun ok6 => ?_
    show Go.wpOps _ _ _ (List.range' 3 1 ++ [4, 5, 6]) _ _
    have hw : IntKind.i64.wrap (((td ++ [y]).length : Int) - 1) = (td.length : Int) := by rw [hlen, i64w (by omega)]; omega
    refine ops_mid hS R4v3 (by kernel_rfl) (by rw [R4s]; decide) (s' := ⟨[(27, i64 td.length), (26, i64 (td ++ [y]).length), (25, .raw xv), (24, .raw xv), (1, .ptr 5 0), (2, str s), (3, .ptr 8 0), (7, .mp 9), (8, .raw xv)], HE x o6 o7 seen, 8⟩) (by rw [← hw]; rfl) ok6 fun g7 a7 w7 ok7 ext7 => ?_
    have hl7 := hl3.ext ext7
    have E7 := E3.trans ext7 (Nat.le_refl _)
    obtain ⟨b, cap, cur, e, hx1, hh, hy⟩ := hl7.get (i := td.length) (y := strV y) (by rw [List.map_append, List.getElem?_append_right (by simp)]; simp)
    refine op_put R4o4 ok7 (v := .raw (.pointer (some ⟨b, td.length, none⟩))) (fun o ho => run_iadrR u66 sz9 ((valR ok7 (i := 24) (by decide) rfl).trans hx1) (valI ok7 (i := 27) (by decide) rfl) (by omega) ho) (by decide) (by simp only [Rep]) rfl fun ok8 => ?_
    refine op_put R4o5 ok8 (v := str y) (fun o ho => run_ldR sh9 (valR ok8 (i := 28) (by decide) rfl) hh hy ho) (by decide) (by simp only [Rep, RepD, RepCs]; rfl) rfl fun ok9 => ?_
    refine op_put R4o6 ok9 (v := str y) (fun o ho => run_as ho) (by decide) (repOf ok9 (i := 29) (by decide) rfl) rfl fun ok10 => ?_
    have ok10 := ok10.forget [1, 2, 3, 7, 8, 10]
    rw [show keepE [1, 2, 3, 7, 8, 10] _ = [(1, .ptr 5 0), (2, str s), (3, .ptr 8 0), (7, .mp 9), (8, .raw xv), (10, str y)] from rfl] at ok10
    clear ok4 ok5 ok6 ok7 ok8 ok9
    show (Code.seq _ _).wp _ _ _ _
    apply wp_seq
    apply wp_region
    rw [R5s, show List.range 6 = [0, 1, 2, 3, 4, 5] from rfl]
    refine op_put R5o0 ok10 (v := .raw xv) (fun o ho => run_mv ho) (by decide) (repOf ok10 (i := 8) (by decide) rfl) rfl fun ok11 => ?_
    refine op_put R5o1 ok11 (v := .raw xv) (fun o ho => run_mv ho) (by decide) (repOf ok11 (i := 8) (by decide) rfl) rfl fun ok12 => ?_
    refine op_put R5o2 ok12 (v := i64 (td ++ [y]).length) (fun o ho => run_lenR u66 ((valR ok12 (i := 31) (by decide) rfl).trans hxv) ho) (by decide) (int_rep _ _) rfl fun ok13 => ?_
    show Go.wpOps _ _ _ (List.range' 3 1 ++ [4, 5]) _ _
    refine ops_mid hS R5v3 (by kernel_rfl) (by rw [R5s]; decide) (s' := ⟨[(33, i64 td.length), (32, i64 (td ++ [y]).length), (31, .raw xv), (30, .raw xv), (1, .ptr 5 0), (2, str s), (3, .ptr 8 0), (7, .mp 9), (8, .raw xv), (10, str y)], HE x o6 o7 seen, 8⟩) (by rw [← hw]; rfl) ok13 fun g14 a14 w14 ok14 ext14 => ?_
    have hl14 := hl7.ext ext14
    have E14 := E7.trans ext14 (Nat.le_refl _)
    rw [hxv] at hl14
    obtain ⟨hmc, hl15⟩ := hl14.pop (m := td.length) (by omega)
    rw [show ((td ++ [y]).map strV).take td.length = td.map strV by rw [List.map_append]; exact List.take_left' (by simp)] at hl15
    revert hl15
    obtain ⟨xv2, hxv2⟩ : ∃ xv2, xv2 = Value.slice (if c = 0 then ad else ad.map (·.add 0)) td.length c := ⟨_, rfl⟩
    rw [← hxv2]
    intro hl15
    refine op_put R5o4 ok14 (v := .raw xv2) (x := xv2) (fun o ho => by rw [hxv2]; exact run_slcR u66 sz9 ((valR ok14 (i := 30) (by decide) rfl).trans hxv) (valI ok14 (i := 33) (by decide) rfl) hmc ho) (by decide) (by simp only [Rep]) rfl fun ok15 => ?_
    refine op_put R5o5 ok15 (v := .raw xv2) (fun o ho => run_as ho) (by decide) (repOf ok15 (i := 34) (by decide) rfl) rfl fun ok16 => ?_
    have ok16 := ok16.forget [1, 2, 3, 7, 8, 10]
    rw [show keepE [1, 2, 3, 7, 8, 10] _ = [(1, .ptr 5 0), (2, str s), (3, .ptr 8 0), (7, .mp 9), (8, .raw xv2), (10, str y)] from rfl] at ok16
    clear ok10 ok11 ok12 ok13 ok14 ok15
    show Code.wp _ p72 _ _ _
    rw [q72c]
    apply wp_seq
    apply wp_seq
    refine chunk hT mixed tE3 (by kernel_rfl) ok16 (R := fun x1 e' H' => x1 = .nrm ∧ keepE [1, 2, 3, 7, 8, 10, 37] e' = [(1, .ptr 5 0), (2, str s), (3, .ptr 8 0), (7, .mp 9), (8, .raw xv2), (10, str y), (37, boo (decide (y = s)))] ∧ H' = HE x o6 o7 seen) ?_ ?_
    · refine run ⟨?_⟩
      exact rfl
    rintro x1 e' H' g17 a17 w17 ⟨rfl, he, rfl⟩ ok17 ext17
    have ok17 := ok17.forget [1, 2, 3, 7, 8, 10, 37]
    rw [he] at ok17
    have hl17 := hl15.ext ext17
    have E17 := E14.trans ext17 (Nat.le_refl _)
    clear he ok16
    show (Code.cond _ _ _).wp _ _ _ _
    refine Go.wp_cond_split (cond_val ok17 (i := 37) (by decide) rfl) (fun hc2 => ?_) (fun hc2 => ?_)
    · have hys : y = s := of_decide_eq_true hc2
      refine chunk hT mixed tE4 (by kernel_rfl) ok17 (R := fun x1 e' H' => x1 = .ret ∧ keepE [6] e' = [(6, boo true)] ∧ H' = HE x o6 o7 seen) ?_ ?_
      · refine run ⟨?_⟩
        exact rfl
      rintro x1 e' H' g18 a18 w18 ⟨rfl, he, rfl⟩ ok18 ext18
      have ok18 := ok18.forget [6]
      rw [he] at ok18
      exact hr g18 a18 w18 seen (by have := hsr.r2 y (by simp); rwa [hys] at this) ok18 (E17.trans ext18 (Nat.le_refl _))
    · have hys : ¬ y = s := of_decide_eq_false hc2
      apply wp_skip
      show (Code.seq _ _).wp _ _ _ _
      apply wp_seq
      have h1 := seenM_keys seen
      have h2 := seenM_find y seen
      have h3 := seenM_set y seen
      by_cases hm : y ∈ seen
      · rw [if_pos hm] at h2
        refine chunk hT mixed tE5 (by kernel_rfl) ok17 (R := fun x1 e' H' => x1 = .nrm ∧ keepE [1, 2, 3, 7, 8, 41] e' = [(1, .ptr 5 0), (2, str s), (3, .ptr 8 0), (7, .mp 9), (8, .raw xv2), (41, boo (decide ((1 : Int) = 0)))] ∧ H' = HE x o6 o7 seen) ?_ ?_
        · repeat' (first | refine run ⟨?_⟩ | refine mg h1 h2 ?_ | fail)
          exact rfl
        rintro x1 e' H' g18 a18 w18 ⟨rfl, he, rfl⟩ ok18 ext18
        have ok18 := ok18.forget [1, 2, 3, 7, 8, 41]
        rw [he] at ok18
        show (Code.cond _ _ _).wp _ _ _ _
        refine Go.wp_cond_false (cond_val ok18 (i := 41) (b := false) (by decide) rfl) ?_
        apply wp_skip
        exact ⟨td.length + owed x seen (nS x ++ nE x), by omega, g18, xv2, seen, td, rfl, by omega, hsr.old hm, ok18.forget [1, 2, 3, 7, 8], hl17.ext ext18, E17.trans ext18 (Nat.le_refl _)⟩
      · rw [if_neg hm] at h2
        have h3 := h3 hm
        refine chunk hT mixed tE5 (by kernel_rfl) ok17 (R := fun x1 e' H' => x1 = .nrm ∧ keepE [1, 2, 3, 7, 8, 10, 41] e' = [(1, .ptr 5 0), (2, str s), (3, .ptr 8 0), (7, .mp 9), (8, .raw xv2), (10, str y), (41, boo (decide ((0 : Int) = 0)))] ∧ H' = HE x o6 o7 seen) ?_ ?_
        · repeat' (first | refine run ⟨?_⟩ | refine mg h1 h2 ?_ | fail)
          exact rfl
        rintro x1 e' H' g18 a18 w18 ⟨rfl, he, rfl⟩ ok18 ext18
        have ok18 := ok18.forget [1, 2, 3, 7, 8, 10, 41]
        rw [he] at ok18
        have hl18 := hl17.ext ext18
        have E18 := E17.trans ext18 (Nat.le_refl _)
        show (Code.cond _ _ _).wp _ _ _ _
        refine Go.wp_cond_true (cond_val ok18 (i := 41) (b := true) (by decide) rfl) ?_
        rw [q72d]
        apply wp_seq
        refine chunk hT mixed tE6 (by kernel_rfl) ok18 (R := fun x1 e' H' => x1 = .nrm ∧ keepE [1, 2, 3, 7, 8, 10] e' = [(1, .ptr 5 0), (2, str s), (3, .ptr 8 0), (7, .mp 9), (8, .raw xv2), (10, str y)] ∧ H' = HE x o6 o7 (seen ++ [y])) ?_ ?_
        · repeat' (first | refine run ⟨?_⟩ | refine And.intro h1 ?_ | fail)
          show [_, _, _, _, _, _, _, _, _, Ob.map _] = _
          rw [h3]
        rintro x1 e' H' g19 a19 w19 ⟨rfl, he, rfl⟩ ok19 ext19
        have ok19 := ok19.forget [1, 2, 3, 7, 8, 10]
        rw [he] at ok19
        have hl19 := hl18.ext ext19
        have E19 := E18.trans ext19 (Nat.le_refl _)
        show (Code.seq _ _).wp _ _ _ _
        apply wp_seq
        apply wp_region
        rw [R10s, show List.range 9 = List.range' 0 3 ++ [3, 4, 5, 6, 7, 8] from rfl]
        refine ops_mid hS R10v0 (by kernel_rfl) (by rw [R10s]; decide) (s' := ⟨[(47, str y), (46, .ptr 5 0), (45, .d x.D), (1, .ptr 5 0), (2, str s), (3, .ptr 8 0), (7, .mp 9), (8, .raw xv2), (10, str y)], HE x o6 o7 (seen ++ [y]), 8⟩) rfl ok19 fun g20 a20 w20 ok20 ext20 => ?_
        have hl20 := hl19.ext ext20
        have E20 := E19.trans ext20 (Nat.le_refl _)
        have hra : RepTs g20 (HE x o6 o7 (seen ++ [y])) [.d x.D, .ptr 5 0, str y] ((#[Operand.tmp 45, Operand.tmp 46, Operand.tmp 47].map a20.eval).toList) := by
          simp only [List.map_toArray, List.map_cons, List.map_nil, RepTs]
          exact ⟨_, _, rfl, repOf ok20 (i := 45) (by decide) rfl, _, _, rfl, repOf ok20 (i := 46) (by decide) rfl, _, _, rfl, repOf ok20 (i := 47) (by decide) rfl, rfl⟩
        refine op_callE f88f f88b f88n R10o3 (held_calls x hx y o6 o7 (IB x) (.map (seenM (seen ++ [y]))) g20 w20 _ ok20.inv hra) fun e w21 he => ?_
        obtain ⟨xl, g21, rfl, hI21, ext21, hl21⟩ := he
        refine ⟨_, rfl, ?_⟩
        have ok21 := ok20.put (d := some 48) (v := .raw (.tuple #[xl, .bool (heldM x y).2])) (x := .tuple #[xl, .bool (heldM x y).2]) (fun k hk => by cases hk; decide) hI21 (by simp only [Rep]) rfl (ext21.le (by show 8 ≤ 10; decide))
        have hl22 := hl20.ext ext21
        have E22 := E20.trans ext21 (by show 8 ≤ 10; decide)
        refine op_put R10o4 ok21 (v := .raw (.tuple #[xl, .bool (heldM x y).2])) (fun o ho => run_mv ho) (by decide) (repOf ok21 (i := 48) (by decide) rfl) rfl fun ok22 => ?_
        refine op_put R10o5 ok22 (v := .raw xl) (x := xl) (fun o ho => run_ex ho (valR ok22 (i := 44) (by decide) rfl) rfl) (by decide) (by simp only [Rep]) rfl fun ok23 => ?_
        refine op_put R10o6 ok23 (v := boo (heldM x y).2) (x := .bool (heldM x y).2) (fun o ho => run_ex ho (valR ok23 (i := 44) (by decide) rfl) rfl) (by decide) (bool_rep _) rfl fun ok24 => ?_
        refine op_put R10o7 ok24 (v := .raw xl) (fun o ho => run_as ho) (by decide) (repOf ok24 (i := 49) (by decide) rfl) rfl fun ok25 => ?_
        refine op_put R10o8 ok25 (v := boo (heldM x y).2) (fun o ho => run_as ho) (by decide) (repOf ok25 (i := 50) (by decide) rfl) rfl fun ok26 => ?_
        have ok26 := ok26.forget [1, 2, 3, 7, 8, 11]
        rw [show keepE [1, 2, 3, 7, 8, 11] _ = [(1, .ptr 5 0), (2, str s), (3, .ptr 8 0), (7, .mp 9), (8, .raw xv2), (11, .raw xl)] from rfl] at ok26
        have how := owed_see x hm
        have hhs := held_small hsm y
        show (Code.region _ _ _).wp _ _ _ _
        refine wp_app hS R11s R11a R11b (by kernel_rfl) (by kernel_rfl) R11c (by decide) u66 iStr_e zStr_e zStr_s ok26 (s1 := ⟨[(52, .raw xl), (51, .raw xv2), (1, .ptr 5 0), (2, str s), (3, .ptr 8 0), (7, .mp 9), (8, .raw xv2), (11, .raw xl)], HE x o6 o7 (seen ++ [y]), 8⟩) rfl (xv := xv2) rfl (by decide) (w0 := ww) (by rw [iStr_s]; exact hl22) E22 (m3 := (heldM x y).1.length) (vs := (heldM x y).1.map strV) (fun g' a' w' ok' ext' => by rw [iStr_s, valR ok' (i := 52) (by decide) rfl]; exact (hl21.ext ext').stand) (by intro u hu; obtain ⟨q, _, rfl⟩ := List.mem_map.1 hu; rfl) (by rw [iStr_b]; constructor <;> omega) (s2 := fun xv' => ⟨[(8, .raw xv'), (53, .raw xv'), (52, .raw xl), (51, .raw xv2), (1, .ptr 5 0), (2, str s), (3, .ptr 8 0), (7, .mp 9), (8, .raw xv2), (11, .raw xl)], HE x o6 o7 (seen ++ [y]), 8⟩) (fun _ => rfl) ?_
        intro xv' g27 a27 w27 ok27 hl27 E27
        rw [iStr_s] at hl27
        refine ⟨(td ++ (heldM x y).1).length + owed x (seen ++ [y]) (nS x ++ nE x), by rw [List.length_append]; omega, g27, xv', seen ++ [y], td ++ (heldM x y).1, rfl, by rw [List.length_append]; omega, hsr.new hys, ok27.forget [1, 2, 3, 7, 8], ?_, E27⟩
        rw [List.length_append, List.map_append]
        exact hl27
  · apply wp_exit
    have h0 : todo = [] := by
      have := of_decide_eq_false hc
      apply List.eq_nil_of_length_eq_zero; omega
    subst h0
    exact hq g3 a3 w3 seen hsr.end (ok3.forget [2]) E3
def EQ (fx : Nat → Option Obj) (x : Its) (s : S) (o6 o7 : Ob) (g0 : Gh) (ww : World) : Exit → Act → World → Prop := fun e a w => e = .ret ∧ ∃ g seen, StOk (cxL fx) 54 g ⟨[(6, boo (endB x s))], HE x o6 o7 seen, 8⟩ a w ∧ Ext 8 g0 (H8 x o6 o7) ww g (HE x o6 o7 seen) w
set_option maxHeartbeats 4000000 in
theorem end_body (x : Its) (hx : Fine x) (hsm : Small x) (s : S) (o6 o7 : Ob) (g : Gh) (w : World) (a : Act) (ok : StOk (cxL fx) 54 g ⟨[(0, .d x.D), (1, .ptr 5 0), (2, str s)], H8 x o6 o7, 8⟩ a w) : c72.wp Try.prog (EQ fx x s o6 o7 g w) a w := by
  have hT := tOk fx
  have hS := ev_sound hT mixed
  rw [q72a]
  apply wp_seq
  refine chunk hT mixed tE0 (by kernel_rfl) ok (R := fun x1 e' H' => x1 = .nrm ∧ keepE [1, 2, 3] e' = [(1, .ptr 5 0), (2, str s), (3, .ptr 8 0)] ∧ H' = H8 x o6 o7 ++ [IB x]) ?_ ?_
  · refine run ⟨?_⟩
    exact rfl
  rintro x1 e' H' g1 a1 w1 ⟨rfl, he, rfl⟩ ok1 ext1
  have ok1 := ok1.forget [1, 2, 3]
  rw [he] at ok1
  clear he ok
  show (Code.seq _ _).wp _ _ _ _
  apply wp_seq
  refine chunk hT mixed tE1 (by kernel_rfl) ok1 (R := fun x1 e' H' => x1 = .nrm ∧ keepE [1, 2, 3, 7] e' = [(1, .ptr 5 0), (2, str s), (3, .ptr 8 0), (7, .mp 9)] ∧ H' = HE x o6 o7 []) ?_ ?_
  · refine run ⟨?_⟩
    exact rfl
  rintro x1 e' H' g2 a2 w2 ⟨rfl, he, rfl⟩ ok19 ext2
  have ok19 := ok19.forget [1, 2, 3, 7]
  rw [he] at ok19
  have E19 := ext1.trans ext2 (Nat.le_refl _)
  clear he ok1
  show (Code.seq _ _).wp _ _ _ _
  apply wp_seq
  apply wp_region
  rw [R2s, show List.range 9 = List.range' 0 3 ++ [3, 4, 5, 6, 7, 8] from rfl]
  refine ops_mid hS R2v0 (by kernel_rfl) (by rw [R2s]; decide) (s' := ⟨[(17, str s), (16, .ptr 5 0), (15, .d x.D), (1, .ptr 5 0), (2, str s), (3, .ptr 8 0), (7, .mp 9)], HE x o6 o7 [], 8⟩) rfl ok19 fun g20 a20 w20 ok20 ext20 => ?_
  have E20 := E19.trans ext20 (Nat.le_refl _)
  have hra : RepTs g20 (HE x o6 o7 []) [.d x.D, .ptr 5 0, str s] ((#[Operand.tmp 15, Operand.tmp 16, Operand.tmp 17].map a20.eval).toList) := by
    simp only [List.map_toArray, List.map_cons, List.map_nil, RepTs]
    exact ⟨_, _, rfl, repOf ok20 (i := 15) (by decide) rfl, _, _, rfl, repOf ok20 (i := 16) (by decide) rfl, _, _, rfl, repOf ok20 (i := 17) (by decide) rfl, rfl⟩
  refine op_callE f88f f88b f88n R2o3 (held_calls x hx s o6 o7 (IB x) (.map (seenM [])) g20 w20 _ ok20.inv hra) fun e w21 he => ?_
  obtain ⟨xl, g21, rfl, hI21, ext21, hl21⟩ := he
  refine ⟨_, rfl, ?_⟩
  have ok21 := ok20.put (d := some 18) (v := .raw (.tuple #[xl, .bool (heldM x s).2])) (x := .tuple #[xl, .bool (heldM x s).2]) (fun k hk => by cases hk; decide) hI21 (by simp only [Rep]) rfl (ext21.le (by show 8 ≤ 10; decide))
  have E22 := E20.trans ext21 (by show 8 ≤ 10; decide)
  refine op_put R2o4 ok21 (v := .raw (.tuple #[xl, .bool (heldM x s).2])) (fun o ho => run_mv ho) (by decide) (repOf ok21 (i := 18) (by decide) rfl) rfl fun ok22 => ?_
  refine op_put R2o5 ok22 (v := .raw xl) (x := xl) (fun o ho => run_ex ho (valR ok22 (i := 14) (by decide) rfl) rfl) (by decide) (by simp only [Rep]) rfl fun ok23 => ?_
  refine op_put R2o6 ok23 (v := boo (heldM x s).2) (x := .bool (heldM x s).2) (fun o ho => run_ex ho (valR ok23 (i := 14) (by decide) rfl) rfl) (by decide) (bool_rep _) rfl fun ok24 => ?_
  refine op_put R2o7 ok24 (v := .raw xl) (fun o ho => run_as ho) (by decide) (repOf ok24 (i := 19) (by decide) rfl) rfl fun ok25 => ?_
  refine op_put R2o8 ok25 (v := boo (heldM x s).2) (fun o ho => run_as ho) (by decide) (repOf ok25 (i := 20) (by decide) rfl) rfl fun ok26 => ?_
  have ok26 := ok26.forget [1, 2, 3, 7, 8]
  rw [show keepE [1, 2, 3, 7, 8] _ = [(1, .ptr 5 0), (2, str s), (3, .ptr 8 0), (7, .mp 9), (8, .raw xl)] from rfl] at ok26
  have hhs := held_small hsm s
  have hob := owed_bound hsm [] (nS x ++ nE x)
  have hnl : (nS x ++ nE x).length ≤ 128 := by
    have h1 := hsm.ss
    have h2 := hsm.es
    simp only [List.length_append, nS, nE, List.length_map]; omega
  show (Code.seq _ _).wp _ _ _ _
  apply wp_seq
  have hle : w.heap.size ≤ w20.heap.size := E20.size
  have hl22 : Loose (cxL fx) g21 w21 w.heap.size 1 xl (heldM x s).1.length ((heldM x s).1.map strV) := hl21.older hle
  refine loopE x hx hsm s o6 o7 g w (fun g3 a3 w3 seen hn ok3 E3 => ?_) (fun g3 a3 w3 seen hy ok3 E3 => ?_) _ _ _ ⟨g21, xl, [], (heldM x s).1, rfl, by omega, Srch.start x s, ok26, hl22, E22⟩
  · show Code.wp _ (cR e72) _ _ _
    refine chunk hT mixed tE2 (by kernel_rfl) ok3 (R := fun x1 e' H' => x1 = .ret ∧ keepE [6] e' = [(6, boo false)] ∧ H' = HE x o6 o7 seen) ?_ ?_
    · refine run ⟨?_⟩
      exact rfl
    rintro x1 e' H' g4 a4 w4 ⟨rfl, he, rfl⟩ ok4 ext4
    have ok4 := ok4.forget [6]
    rw [he] at ok4
    exact ⟨rfl, g4, seen, by rw [endB_f hn]; exact ok4, E3.trans ext4 (Nat.le_refl _)⟩
  · exact ⟨rfl, g3, seen, by rw [endB_t hy]; exact ok3, E3⟩
theorem r72 : trRes Try.prog Try.f72.results.toList = some [.tmp 6] := by kernel_rfl
theorem f72f : Try.prog.funcs[72]? = some Try.f72 := by kernel_rfl
theorem n72t : Try.f72.ntmps = 54 := by kernel_rfl
theorem end_spec (x : Its) (hx : Fine x) (hsm : Small x) (s : S) (o6 o7 : Ob) : FnSpec Try.prog (cxL fx) 72 [.d x.D, .ptr 5 0, str s] (H8 x o6 o7) (boo (endB x s)) (H8 x o6 o7) := by
  refine ⟨⟨Try.f72, f72f, by kernel_rfl, by kernel_rfl⟩, fun g w cargs hI ra ua => ?_⟩
  refine calls_of_wp f72f b72 ?_
  have ok0 : StOk (cxL fx) 54 g ⟨enterE [.d x.D, .ptr 5 0, str s], H8 x o6 o7, 8⟩ { tmps := cargs ++ Array.replicate (Try.f72.ntmps - cargs.size) Go.undef, defers := [] } w :=
    ⟨hI, by rw [n72t]; exact enter_ok ra ua (by show 3 ≤ 54; decide), rfl, by show 8 ≤ 8; decide⟩
  have ok0 := ok0.forget [0, 1, 2]
  rw [show keepE [0, 1, 2] (enterE [.d x.D, .ptr 5 0, str s]) = [(0, .d x.D), (1, .ptr 5 0), (2, str s)] from rfl] at ok0
  refine wp_mono (end_body x hx hsm s o6 o7 g w _ ok0) fun e a1 w1 he => ?_
  obtain ⟨rfl, g1, seen, ok1, E⟩ := he
  have goal : a1.defers = [] ∧ ∃ v, (results Try.f72 a1.tmps).run Try.prog w1 = .ok v w1 ∧ ∃ g' z, Ending.returned v = .returned z ∧ Inv (cxL fx) g' (H8 x o6 o7) w1 ∧ Rep g' (H8 x o6 o7) (boo (endB x s)) z ∧ (boo (endB x s)).und (H8 x o6 o7).length = true ∧ Ext (H8 x o6 o7).length g (H8 x o6 o7) w g' (H8 x o6 o7) w1 := by
    refine ⟨ok1.defers, ?_⟩
    obtain ⟨ys, y1, y2, y3⟩ := results_run (P := Try.prog) (fn := Try.f72) (vs := [boo (endB x s)]) ok1.inv ok1.env r72 (by decide) rfl
    simp only [RepTs, Rep, RepD, RepCs] at y2
    obtain ⟨z1, ys1, rfl, h2, rfl⟩ := y2
    simp only [List.cons.injEq, and_true] at h2
    subst h2
    refine ⟨_, y1, g1.cut 8, _, rfl, ?_, bool_rep _, rfl, ?_⟩
    · exact ok1.inv.restrict (n := 8) (by show 8 ≤ 10; decide) (E.clean 8 (Nat.le_refl _) hI.und)
    · exact E.cut2 (n := 8) (by show 8 ≤ 8; decide) (by show 8 ≤ 10; decide) (Nat.le_refl _)
  exact goal
end
end Go.Vm.Typ
