import Derived.Test.YtpgpjenfnbcclaaTypTbl
import Derived.Test.YtpgpjenfnbcclaaTypC
import Derived.Test.YtpgpjenfnbcclaaTypW10
import Derived.Test.YtpgpjenfnbcclaaVmHand
set_option linter.unusedSimpArgs false
set_option linter.unusedVariables false
namespace Go.Vm.Typ
open Go Go.Vm Go.Proofs Go.Vm.Ip
set_option maxRecDepth 100000
noncomputable def c88 : Code := (Try.f88.body).getD .skip
theorem b88 : Try.f88.body = some c88 := by kernel_rfl
noncomputable def x88 : Code := cR (cR c88)
noncomputable def y88 : Code := cR x88
noncomputable def d88 : VCode := vR (vR B88)
noncomputable def A0 : Code := cA (cR (cR (cL x88)))
noncomputable def L0 : Code := cK (cK (cR (cL A0)))
noncomputable def G0 : Code := cR (cR L0)
noncomputable def J0 : Code := cK (cL G0)
noncomputable def vA0 : VCode := vA (vR (vR (vL d88)))
theorem sA0 : (cL x88) = .seq (cL (cL x88)) (.seq (cL (cR (cL x88))) (.cond (.tmp 25) A0 .skip)) := by kernel_rfl
theorem sB0 : A0 = .seq (.seq (cL (cL A0)) (.block 0 (.loop L0))) (cR A0) := by kernel_rfl
theorem tA0 : tr Try.prog n50 (cL (cL x88)) = some (vR (vL (vL d88))) := by kernel_rfl
theorem tB0 : tr Try.prog n50 (cL (cR (cL x88))) = some (vL (vR (vL d88))) := by kernel_rfl
theorem tC0 : tr Try.prog n50 (cL (cL A0)) = some (vL (vL vA0)) := by kernel_rfl
theorem tD0 : tr Try.prog n50 (cR A0) = some (vR vA0) := by kernel_rfl
noncomputable def A1 : Code := cA (cR (cR (cL y88)))
noncomputable def L1 : Code := cK (cK (cR (cL A1)))
noncomputable def G1 : Code := cR (cR L1)
noncomputable def J1 : Code := cK (cL G1)
noncomputable def vA1 : VCode := vA (vR (vR (vL (vR d88))))
theorem sA1 : (cL y88) = .seq (cL (cL y88)) (.seq (cL (cR (cL y88))) (.cond (.tmp 52) A1 .skip)) := by kernel_rfl
theorem sB1 : A1 = .seq (.seq (cL (cL A1)) (.block 2 (.loop L1))) (cR A1) := by kernel_rfl
theorem tA1 : tr Try.prog n50 (cL (cL y88)) = some (vL (vL (vR d88))) := by kernel_rfl
theorem tB1 : tr Try.prog n50 (cL (cR (cL y88))) = some (vL (vR (vL (vR d88)))) := by kernel_rfl
theorem tC1 : tr Try.prog n50 (cL (cL A1)) = some (vL (vL vA1)) := by kernel_rfl
theorem tD1 : tr Try.prog n50 (cR A1) = some (vR vA1) := by kernel_rfl
theorem tR0 : tr Try.prog n50 (cL L0) = some (vL L88_0) := by kernel_rfl
theorem tR1 : tr Try.prog n50 (cL L1) = some (vL L88_1) := by kernel_rfl
theorem tJ0 : tr Try.prog n50 (cL J0) = some (vL (vK (vL (vR (vR L88_0))))) := by kernel_rfl
theorem tG0 : tr Try.prog n50 (cR G0) = some (vR (vR (vR L88_0))) := by kernel_rfl
noncomputable def w0 : List VOper := vO (vR (vK (vL (vR (vR L88_0)))))
theorem ap0a : trOpers Try.prog (cOps (cR J0)) (((cOps (cR J0)).toList.drop 0).take 4) = some (w0.take 4) := by kernel_rfl
theorem ap0b : trOpers Try.prog (cOps (cR J0)) (((cOps (cR J0)).toList.drop 5).take 1) = some (w0.drop 5) := by kernel_rfl
theorem ap0c : ((cOps (cR J0))[4]?).map (fun o => (o.op, o.dst, o.guard)) = some (.call { callee := .builtin .append, args := #[.tmp 37, .tmp 40], argTypes := #[66, 66] }, some 41, none) := by kernel_rfl
theorem ap0s : (cOps (cR J0)).size = 4 + 1 + 1 := by kernel_rfl
noncomputable def iStr : TypeInfo := (Try.prog.info? 9).getD default
theorem iStr_e : Try.prog.info? 9 = some iStr := by kernel_rfl
noncomputable def zStr : Value := (iStr.zero).getD default
theorem zStr_e : iStr.zero = some zStr := by kernel_rfl
theorem zStr_s : zStr.cells.size = iStr.size := by kernel_rfl
theorem iStr_s : iStr.size = 1 := by kernel_rfl
theorem iStr_b : iStr.bytes = 16 := by kernel_rfl
theorem tJ1 : tr Try.prog n50 (cL J1) = some (vL (vK (vL (vR (vR L88_1))))) := by kernel_rfl
theorem tN1 : tr Try.prog n50 (cL (cR J1)) = some (vL (vR (vK (vL (vR (vR L88_1)))))) := by kernel_rfl
theorem tG1 : tr Try.prog n50 (cR G1) = some (vR (vR (vR L88_1))) := by kernel_rfl
noncomputable def g1c : Code := cA (cR (cR J1))
noncomputable def w1 : List VOper := vO (vA (vR (vR (vK (vL (vR (vR L88_1)))))))
theorem ap1a : trOpers Try.prog (cOps g1c) (((cOps g1c).toList.drop 0).take 4) = some (w1.take 4) := by kernel_rfl
theorem ap1b : trOpers Try.prog (cOps g1c) (((cOps g1c).toList.drop 5).take 1) = some (w1.drop 5) := by kernel_rfl
theorem ap1c : ((cOps g1c)[4]?).map (fun o => (o.op, o.dst, o.guard)) = some (.call { callee := .builtin .append, args := #[.tmp 67, .tmp 70], argTypes := #[66, 66] }, some 71, none) := by kernel_rfl
theorem ap1s : (cOps g1c).size = 4 + 1 + 1 := by kernel_rfl
theorem s88 : c88 = .seq (cL c88) (.seq (cL (cR c88)) (.seq (cL x88) (.seq (cL y88) (cR y88)))) := by kernel_rfl
theorem t88a : tr Try.prog n50 (cL c88) = some (vL B88) := by kernel_rfl
theorem t88b : tr Try.prog n50 (cL (cR c88)) = some (vL (vR B88)) := by kernel_rfl
theorem t88c : tr Try.prog n50 (cR y88) = some (vR (vR d88)) := by kernel_rfl
theorem sL0 : L0 = .seq (cL L0) (.seq (.cond (.tmp 34) .skip (.exit 0)) (.seq (.block 1 (.seq (cL J0) (.region (cId (cR J0)) (cOps (cR J0)) false))) (cR G0))) := by kernel_rfl
theorem sL1 : L1 = .seq (cL L1) (.seq (.cond (.tmp 61) .skip (.exit 2)) (.seq (.block 3 (.seq (cL J1) (.seq (cL (cR J1)) (.cond (.tmp 66) (.region (cId (cA (cR (cR J1)))) (cOps (cA (cR (cR J1)))) false) .skip)))) (cR G1))) := by kernel_rfl
abbrev HH (x : Its) (o6 o7 o8 o9 : Ob) : Hp := [IB x, IB x, .map (finM (nS x)), .map (finM (nE x)), .map (finM (nF x)), .box [.mp 2, .mp 3, .mp 4], o6, o7, o8, o9]
abbrev HI (x : Its) (o6 o7 o8 o9 : Ob) : Hp := [IB x, IB x, .map (finM (nS x)), .map (finM (nE x)), .map (finM (nF x)), .box [.mp 2, .mp 3, .mp 4], o6, o7, o8, o9, IB x]
theorem clean_HI {x : Its} {o6 o7 o8 o9 : Ob} (h : Clean 10 (HH x o6 o7 o8 o9)) : Clean 11 (HI x o6 o7 o8 o9) := by
  intro i c hi ho
  by_cases e : i = 10
  · subst e
    simp only [HI, List.getElem?_cons_succ, List.getElem?_cons_zero, Option.some.injEq, IB, Ob.box.injEq] at ho
    subst ho; rfl
  · have h1 := h i c (by omega) (by
      have : (HI x o6 o7 o8 o9) = HH x o6 o7 o8 o9 ++ [IB x] := rfl
      rw [this, List.getElem?_append_left (by show i < 10; omega)] at ho
      exact ho)
    exact undL_le (by omega) _ h1
theorem clean_app {n : Nat} {H X : Hp} (h : Clean n H) (hn : n ≤ H.length) : Clean n (H ++ X) := by
  intro i c hi ho
  rw [List.getElem?_append_left (by omega)] at ho
  exact h i c hi ho
section
variable {fx : Nat → Option Obj}
abbrev cxL (fx : Nat → Option Obj) : Cx := ⟨fun _ => [], fx⟩
theorem tOk (fx : Nat → Option Obj) : TblOk Try.prog (pgL fx F0) := tblOk _ _ (fun _ _ h => nomatch h)
theorem u66 : Try.prog.underlying 66 = some (.slice 9) := by kernel_rfl
def LInv (fx : Nat → Option Obj) (x : Its) (o6 o7 o8 o9 : Ob) (g0 : Gh) (ww : World) (E : Nat → Value → Env) (len : Nat) (us : Nat → List S) (k : Nat) (a : Act) (w : World) : Prop :=
  ∃ j g xv, k = len - j ∧ j ≤ len ∧ StOk (cxL fx) 74 g ⟨E j xv, HI x o6 o7 o8 o9, 10⟩ a w ∧ Loose (cxL fx) g w ww.heap.size 1 xv (us j).length ((us j).map strV) ∧ Ext 10 g0 (HH x o6 o7 o8 o9) ww g (HI x o6 o7 o8 o9) w
set_option maxHeartbeats 2000000 in
theorem loop0 (x : Its) (o6 o7 o8 o9 : Ob) (hcl : Clean 10 (HH x o6 o7 o8 o9)) (g0 : Gh) (ww : World) (fs : List Fld) (hfs : fs.length ≤ 4398046511104) {Q : Exit → Act → World → Prop}
    (hq : ∀ g a w xv, StOk (cxL fx) 74 g ⟨[(8, .raw xv)], HI x o6 o7 o8 o9, 10⟩ a w → Loose (cxL fx) g w ww.heap.size 1 xv (fs.map Fld.t).length ((fs.map Fld.t).map strV) → Ext 10 g0 (HH x o6 o7 o8 o9) ww g (HI x o6 o7 o8 o9) w → Q .normal a w)
    (a : Act) (w : World) (h : LInv fx x o6 o7 o8 o9 g0 ww (fun j xv => [(8, .raw xv), (31, .d (fldsD fs)), (32, i64 fs.length), (33, i64 j)]) fs.length (fun j => (fs.take j).map Fld.t) fs.length a w) : (Code.block 0 (.loop L0)).wp Try.prog Q a w := by
  have hT := tOk fx
  apply wp_block
  refine wp_loop_dec (LInv fx x o6 o7 o8 o9 g0 ww (fun j xv => [(8, .raw xv), (31, .d (fldsD fs)), (32, i64 fs.length), (33, i64 j)]) fs.length (fun j => (fs.take j).map Fld.t)) ?_ h
  rintro k a w ⟨j, g, xv, rfl, hj, ok, hl, E0⟩
  rw [sL0]
  apply wp_seq
  refine chunk hT mixed tR0 (by kernel_rfl) ok (R := fun x1 e' H' => x1 = .nrm ∧ keepE [8, 31, 32, 33, 34] e' = [(8, .raw xv), (31, .d (fldsD fs)), (32, i64 fs.length), (33, i64 j), (34, boo (decide ((j : Int) < fs.length)))] ∧ H' = HI x o6 o7 o8 o9) ?_ ?_
  · refine run ⟨?_⟩
    exact rfl
  rintro x1 e' H' g1 a1 w1 ⟨rfl, he, rfl⟩ ok1 ext1
  have ok1 := ok1.forget [8, 31, 32, 33, 34]
  rw [he] at ok1
  have hl1 := hl.ext ext1
  have E1 := E0.trans ext1 (Nat.le_refl _)
  clear ok he
  show (Code.seq _ _).wp _ _ _ _
  apply wp_seq
  refine Go.wp_cond_split (cond_val ok1 (i := 34) (by decide) rfl) (fun hc => ?_) (fun hc => ?_)
  · have hlt : j < fs.length := by have := of_decide_eq_true hc; omega
    have pj := gFl hlt
    have ht : (fs.take (j + 1)).map Fld.t = (fs.take j).map Fld.t ++ [(fs.getD j default).t] := by rw [take_succ_getD hlt, List.map_append]; rfl
    revert pj ht
    generalize fs.getD j default = f
    intro pj ht
    apply wp_skip
    show (Code.seq _ _).wp _ _ _ _
    apply wp_seq
    apply wp_block
    apply wp_seq
    refine chunk hT mixed tJ0 (by kernel_rfl) ok1 (R := fun x1 e' H' => x1 = .nrm ∧ keepE [8, 12, 31, 32, 33] e' = [(8, .raw xv), (12, .ptr 11 0), (31, .d (fldsD fs)), (32, i64 fs.length), (33, i64 j)] ∧ H' = HI x o6 o7 o8 o9 ++ [.box [str f.n, str f.t]]) ?_ ?_
    · repeat' (first | refine run ⟨?_⟩ | refine pickD pj ?_ | fail)
      exact rfl
    rintro x1 e' H' g2 a2 w2 ⟨rfl, he, rfl⟩ ok2 ext2
    have ok2 := ok2.forget [8, 12, 31, 32, 33]
    rw [he] at ok2
    have hl2 := hl1.ext ext2
    have E2 := E1.trans ext2 (Nat.le_refl _)
    show (Code.region _ _ _).wp _ _ _ _
    refine wp_app (ev_sound hT mixed) ap0s ap0a ap0b (by kernel_rfl) (by kernel_rfl) ap0c (by decide) u66 iStr_e zStr_e zStr_s ok2 (s1 := ⟨[(40, .d (.sl [.str f.t])), (39, str f.t), (38, .ptr 11 1), (37, .raw xv), (8, .raw xv), (12, .ptr 11 0), (31, .d (fldsD fs)), (32, i64 fs.length), (33, i64 j)], HI x o6 o7 o8 o9 ++ [.box [str f.n, str f.t]], 10⟩) rfl (xv := xv) rfl (by decide) (w0 := ww) (by rw [iStr_s]; exact hl2) E2 (m3 := 1) (vs := [strV f.t]) (fun g' a' w' ok' _ => by rw [iStr_s]; exact stand_str ok' (by decide) rfl) (by intro u hu; rw [List.mem_singleton] at hu; subst hu; rfl) (by rw [iStr_b]; constructor <;> simp <;> omega) (s2 := fun xv' => ⟨[(8, .raw xv'), (41, .raw xv'), (40, .d (.sl [.str f.t])), (39, str f.t), (38, .ptr 11 1), (37, .raw xv), (8, .raw xv), (12, .ptr 11 0), (31, .d (fldsD fs)), (32, i64 fs.length), (33, i64 j)], HI x o6 o7 o8 o9 ++ [.box [str f.n, str f.t]], 10⟩) (fun _ => rfl) ?_
    intro xv' g3 a3 w3 ok3 hl3 E3
    rw [iStr_s] at hl3
    show Code.wp _ (cR G0) _ _ _
    refine chunk hT mixed tG0 (by kernel_rfl) ok3 (R := fun x1 e' H' => x1 = .nrm ∧ cut 11 (keepE [8, 31, 32, 33] e') = [(8, .raw xv'), (31, .d (fldsD fs)), (32, i64 fs.length), (33, i64 ((j + 1 : Nat) : Int))] ∧ H' = HI x o6 o7 o8 o9 ++ [.box [str f.n, str f.t]]) ?_ ?_
    · have hw : IntKind.i64.wrap ((j : Int) + 1) = ((j + 1 : Nat) : Int) := by rw [i64w (by omega)]; rfl
      refine run ⟨?_⟩
      refine ⟨?_, rfl⟩
      rw [← hw]; rfl
    rintro x1 e' H' g4 a4 w4 ⟨rfl, he, rfl⟩ ok4 ext4
    have hl4 := (hl3.ext ext4).cut (m := 11)
    have E4 := (E3.trans ext4 (Nat.le_refl _)).cut2 (n := 11) (by show 10 ≤ 11; decide) (by show 11 ≤ 12; decide) (by show 10 ≤ 11; decide)
    have ok4 := ok4.drop (n := 11) [8, 31, 32, 33] (by show 11 ≤ 12; decide) (clean_app (clean_HI hcl) (by show 11 ≤ 11; decide)) (by show 10 ≤ 11; decide)
    rw [he] at ok4
    refine ⟨fs.length - (j + 1), by omega, j + 1, g4.cut 11, xv', rfl, by omega, ok4, ?_, E4⟩
    dsimp only at hl4 ⊢
    rw [ht, List.map_append, List.length_append]
    exact hl4
  · apply wp_exit
    have hj' : j = fs.length := by have := of_decide_eq_false hc; omega
    subst hj'
    dsimp only at hl1
    rw [List.take_length] at hl1
    exact hq _ _ _ xv (ok1.forget [8]) hl1 E1
set_option maxHeartbeats 2000000 in
theorem loop1 (x : Its) (o6 o7 o8 o9 : Ob) (hcl : Clean 10 (HH x o6 o7 o8 o9)) (g0 : Gh) (ww : World) (fs : List Fld) (hfs : fs.length ≤ 4398046511104) {Q : Exit → Act → World → Prop}
    (hq : ∀ g a w xv, StOk (cxL fx) 74 g ⟨[(8, .raw xv)], HI x o6 o7 o8 o9, 10⟩ a w → Loose (cxL fx) g w ww.heap.size 1 xv (someT fs).length ((someT fs).map strV) → Ext 10 g0 (HH x o6 o7 o8 o9) ww g (HI x o6 o7 o8 o9) w → Q .normal a w)
    (a : Act) (w : World) (h : LInv fx x o6 o7 o8 o9 g0 ww (fun j xv => [(8, .raw xv), (58, .d (fldsD fs)), (59, i64 fs.length), (60, i64 j)]) fs.length (fun j => someT (fs.take j)) fs.length a w) : (Code.block 2 (.loop L1)).wp Try.prog Q a w := by
  have hT := tOk fx
  apply wp_block
  refine wp_loop_dec (LInv fx x o6 o7 o8 o9 g0 ww (fun j xv => [(8, .raw xv), (58, .d (fldsD fs)), (59, i64 fs.length), (60, i64 j)]) fs.length (fun j => someT (fs.take j))) ?_ h
  rintro k a w ⟨j, g, xv, rfl, hj, ok, hl, E0⟩
  rw [sL1]
  apply wp_seq
  refine chunk hT mixed tR1 (by kernel_rfl) ok (R := fun x1 e' H' => x1 = .nrm ∧ keepE [8, 58, 59, 60, 61] e' = [(8, .raw xv), (58, .d (fldsD fs)), (59, i64 fs.length), (60, i64 j), (61, boo (decide ((j : Int) < fs.length)))] ∧ H' = HI x o6 o7 o8 o9) ?_ ?_
  · refine run ⟨?_⟩
    exact rfl
  rintro x1 e' H' g1 a1 w1 ⟨rfl, he, rfl⟩ ok1 ext1
  have ok1 := ok1.forget [8, 58, 59, 60, 61]
  rw [he] at ok1
  have hl1 := hl.ext ext1
  have E1 := E0.trans ext1 (Nat.le_refl _)
  clear ok he
  show (Code.seq _ _).wp _ _ _ _
  apply wp_seq
  refine Go.wp_cond_split (cond_val ok1 (i := 61) (by decide) rfl) (fun hc => ?_) (fun hc => ?_)
  · have hlt : j < fs.length := by have := of_decide_eq_true hc; omega
    have pj := gFl hlt
    have ht := someT_succ hlt
    have hsl := someT_len (fs.take j)
    simp only [List.length_take] at hsl
    revert pj ht
    generalize fs.getD j default = f
    intro pj ht
    apply wp_skip
    show (Code.seq _ _).wp _ _ _ _
    apply wp_seq
    apply wp_block
    apply wp_seq
    refine chunk hT mixed tJ1 (by kernel_rfl) ok1 (R := fun x1 e' H' => x1 = .nrm ∧ keepE [8, 16, 58, 59, 60] e' = [(8, .raw xv), (16, .ptr 11 0), (58, .d (fldsD fs)), (59, i64 fs.length), (60, i64 j)] ∧ H' = HI x o6 o7 o8 o9 ++ [.box [str f.n, str f.t]]) ?_ ?_
    · repeat' (first | refine run ⟨?_⟩ | refine pickD pj ?_ | fail)
      exact rfl
    rintro x1 e' H' g2 a2 w2 ⟨rfl, he, rfl⟩ ok2 ext2
    have ok2 := ok2.forget [8, 16, 58, 59, 60]
    rw [he] at ok2
    have hl2 := hl1.ext ext2
    have E2 := E1.trans ext2 (Nat.le_refl _)
    show (Code.seq _ _).wp _ _ _ _
    apply wp_seq
    refine chunk hT mixed tN1 (by kernel_rfl) ok2 (R := fun x1 e' H' => x1 = .nrm ∧ keepE [8, 16, 58, 59, 60, 66] e' = [(8, .raw xv), (16, .ptr 11 0), (58, .d (fldsD fs)), (59, i64 fs.length), (60, i64 j), (66, boo (!decide (f.t = [])))] ∧ H' = HI x o6 o7 o8 o9 ++ [.box [str f.n, str f.t]]) ?_ ?_
    · refine run ⟨?_⟩
      exact rfl
    rintro x1 e' H' g3 a3 w3 ⟨rfl, he, rfl⟩ ok3 ext3
    have ok3 := ok3.forget [8, 16, 58, 59, 60, 66]
    rw [he] at ok3
    have hl3 := hl2.ext ext3
    have E3 := E2.trans ext3 (Nat.le_refl _)
    have fin : ∀ (g3 : Gh) (a3 : Act) (w3 : World) (xv' : Value) (e : Env), getE e 8 = .raw xv' → getE e 58 = .d (fldsD fs) → getE e 59 = i64 fs.length → getE e 60 = i64 j → StOk (pgL fx F0).toCx 74 g3 ⟨e, HI x o6 o7 o8 o9 ++ [.box [str f.n, str f.t]], 10⟩ a3 w3 → Loose (cxL fx) g3 w3 ww.heap.size 1 xv' (someT (fs.take (j + 1))).length ((someT (fs.take (j + 1))).map strV) → Ext 10 g0 (HH x o6 o7 o8 o9) ww g3 (HI x o6 o7 o8 o9 ++ [.box [str f.n, str f.t]]) w3 →
        Code.wp Try.prog (cR G1) (Exit.then (fun a' w' => ∃ k', k' < fs.length - j ∧ LInv fx x o6 o7 o8 o9 g0 ww (fun j xv => [(8, .raw xv), (58, .d (fldsD fs)), (59, i64 fs.length), (60, i64 j)]) fs.length (fun j => someT (fs.take j)) k' a' w') (Exit.inBlock 2 Q)) a3 w3 := by
      intro g3 a3 w3 xv' e q1 q2 q3 q4 ok3 hl3 E3
      have ok3 := ok3.forget [8, 58, 59, 60]
      rw [show keepE [8, 58, 59, 60] e = [(8, getE e 8), (58, getE e 58), (59, getE e 59), (60, getE e 60)] from rfl, q1, q2, q3, q4] at ok3
      refine chunk hT mixed tG1 (by kernel_rfl) ok3 (R := fun x1 e' H' => x1 = .nrm ∧ cut 11 (keepE [8, 58, 59, 60] e') = [(8, .raw xv'), (58, .d (fldsD fs)), (59, i64 fs.length), (60, i64 ((j + 1 : Nat) : Int))] ∧ H' = HI x o6 o7 o8 o9 ++ [.box [str f.n, str f.t]]) ?_ ?_
      · have hw : IntKind.i64.wrap ((j : Int) + 1) = ((j + 1 : Nat) : Int) := by rw [i64w (by omega)]; rfl
        refine run ⟨?_⟩
        refine ⟨?_, rfl⟩
        rw [← hw]; rfl
      rintro x1 e' H' g4 a4 w4 ⟨rfl, he, rfl⟩ ok4 ext4
      have hl4 := (hl3.ext ext4).cut (m := 11)
      have E4 := (E3.trans ext4 (Nat.le_refl _)).cut2 (n := 11) (by show 10 ≤ 11; decide) (by show 11 ≤ 12; decide) (by show 10 ≤ 11; decide)
      have ok4 := ok4.drop (n := 11) [8, 58, 59, 60] (by show 11 ≤ 12; decide) (clean_app (clean_HI hcl) (by show 11 ≤ 11; decide)) (by show 10 ≤ 11; decide)
      rw [he] at ok4
      exact ⟨fs.length - (j + 1), by omega, j + 1, g4.cut 11, xv', rfl, by omega, ok4, hl4, E4⟩
    show (Code.cond _ _ _).wp _ _ _ _
    refine Go.wp_cond_split (cond_val ok3 (i := 66) (by decide) rfl) (fun hc2 => ?_) (fun hc2 => ?_)
    · have hft : ¬ f.t = [] := by simpa using hc2
      rw [if_neg hft] at ht
      refine wp_app (ev_sound hT mixed) ap1s ap1a ap1b (by kernel_rfl) (by kernel_rfl) ap1c (by decide) u66 iStr_e zStr_e zStr_s ok3 (s1 := ⟨[(70, .d (.sl [.str f.t])), (69, str f.t), (68, .ptr 11 1), (67, .raw xv), (8, .raw xv), (16, .ptr 11 0), (58, .d (fldsD fs)), (59, i64 fs.length), (60, i64 j), (66, boo (!decide (f.t = [])))], HI x o6 o7 o8 o9 ++ [.box [str f.n, str f.t]], 10⟩) rfl (xv := xv) rfl (by decide) (w0 := ww) (by rw [iStr_s]; exact hl3) E3 (m3 := 1) (vs := [strV f.t]) (fun g' a' w' ok' _ => by rw [iStr_s]; exact stand_str ok' (by decide) rfl) (by intro u hu; rw [List.mem_singleton] at hu; subst hu; rfl) (by rw [iStr_b]; dsimp only; constructor <;> omega) (s2 := fun xv' => ⟨[(8, .raw xv'), (71, .raw xv'), (70, .d (.sl [.str f.t])), (69, str f.t), (68, .ptr 11 1), (67, .raw xv), (8, .raw xv), (16, .ptr 11 0), (58, .d (fldsD fs)), (59, i64 fs.length), (60, i64 j), (66, boo (!decide (f.t = [])))], HI x o6 o7 o8 o9 ++ [.box [str f.n, str f.t]], 10⟩) (fun _ => rfl) ?_
      intro xv' g4 a4 w4 ok4 hl4 E4
      rw [iStr_s] at hl4
      refine fin g4 a4 w4 xv' _ rfl rfl rfl rfl ok4 ?_ E4
      rw [ht, List.map_append, List.length_append]
      exact hl4
    · have hft : f.t = [] := by simpa using hc2
      rw [if_pos hft] at ht
      apply wp_skip
      refine fin g3 a3 w3 xv _ rfl rfl rfl rfl ok3 ?_ E3
      rw [ht]
      exact hl3
  · apply wp_exit
    have hj' : j = fs.length := by have := of_decide_eq_false hc; omega
    subst hj'
    dsimp only at hl1
    rw [List.take_length] at hl1
    exact hq _ _ _ xv (ok1.forget [8]) hl1 E1
theorem r88 : trRes Try.prog Try.f88.results.toList = some [.tmp 6, .tmp 7] := by kernel_rfl
theorem f88f : Try.prog.funcs[88]? = some Try.f88 := by kernel_rfl
theorem n88t : Try.f88.ntmps = 74 := by kernel_rfl
def HQ (fx : Nat → Option Obj) (x : Its) (s : S) (o6 o7 o8 o9 : Ob) (g0 : Gh) (ww : World) : Exit → Act → World → Prop := fun e a w => e = .ret ∧ ∃ g xv, StOk (cxL fx) 74 g ⟨[(6, .raw xv), (7, boo (heldM x s).2)], HI x o6 o7 o8 o9, 10⟩ a w ∧ Loose (cxL fx) g w ww.heap.size 1 xv (heldM x s).1.length ((heldM x s).1.map strV) ∧ Ext 10 g0 (HH x o6 o7 o8 o9) ww g (HI x o6 o7 o8 o9) w
set_option maxHeartbeats 4000000 in
theorem held_body (x : Its) (hx : Fine x) (s : S) (o6 o7 o8 o9 : Ob) (g : Gh) (w : World) (a : Act) (hcl : Clean 10 (HH x o6 o7 o8 o9)) (ok : StOk (cxL fx) 74 g ⟨[(0, .d x.D), (1, .ptr 5 0), (2, str s)], HH x o6 o7 o8 o9, 10⟩ a w) : c88.wp Try.prog (HQ fx x s o6 o7 o8 o9 g w) a w := by
  have hT := tOk fx
  have hp : ∀ (k : Nat) (r : V), evF (pgL fx F0) n_items_table_find [.ptr 3 k, str s] (FH x) = some (r, FH x) → r.sh (toPl [2, 3, 4, 5] (HI x o6 o7 o8 o9).length) = r → evF (pgL fx F0) n_items_table_find [.ptr 5 k, str s] (HI x o6 o7 o8 o9) = some (r, HI x o6 o7 o8 o9) := fun k r h hr => by
    have := evF_at (mv fx) [2, 3, 4, 5] (X := HI x o6 o7 o8 o9) (A := [.ptr 5 k, str s]) h rfl rfl rfl rfl rfl
    rw [hr] at this
    exact this
  have e1 := hp 0 _ (find0_s x s) rfl
  have e2 := hp 1 _ (find1_s x s) rfl
  clear hp
  have hS : (nS x).length = x.ss.length := by simp [nS]
  have hE : (nE x).length = x.es.length := by simp [nE]
  have gS : ∀ i, pos (nS x) s = some i → i < x.ss.length := fun i h => by have := pos_lt h; omega
  have gE : ∀ i, pos (nE x) s = some i → i < x.es.length := fun i h => by have := pos_lt h; omega
  rw [s88]
  apply wp_seq
  refine chunk hT mixed t88a (by kernel_rfl) ok (R := fun x1 e' H' => x1 = .nrm ∧ keepE [1, 2, 3] e' = [(1, .ptr 5 0), (2, str s), (3, .ptr 10 0)] ∧ H' = HI x o6 o7 o8 o9) ?_ ?_
  · refine run ⟨?_⟩
    exact rfl
  rintro x1 e' H' g1 a1 w1 ⟨rfl, he, rfl⟩ ok1 ext1
  have ok1 := ok1.forget [1, 2, 3]
  rw [he] at ok1
  clear he ok
  show (Code.seq _ _).wp _ _ _ _
  apply wp_seq
  refine chunk hT mixed t88b (by kernel_rfl) ok1 (R := fun x1 e' H' => x1 = .nrm ∧ keepE [1, 2, 3, 8] e' = [(1, .ptr 5 0), (2, str s), (3, .ptr 10 0), (8, .nils)] ∧ H' = HI x o6 o7 o8 o9) ?_ ?_
  · refine run ⟨?_⟩
    exact rfl
  rintro x1 e' H' g2 a2 w2 ⟨rfl, he, rfl⟩ ok2 ext2
  have ok2 := ok2.forget [1, 2, 3, 8]
  rw [he] at ok2
  have ok2 := (ok2.toRaw (i := 8) (by decide) rfl).forget [1, 2, 3, 8]
  have E2 := ext1.trans ext2 (Nat.le_refl _)
  clear he ok1
  show (Code.seq _ _).wp _ _ _ _
  apply wp_seq
  rw [sA0]
  apply wp_seq
  refine chunk hT mixed tA0 (by kernel_rfl) ok2 (R := fun x1 e' H' => x1 = .nrm ∧ keepE [1, 2, 3, 8, 9, 10] e' = [(1, .ptr 5 0), (2, str s), (3, .ptr 10 0), (8, .raw (.slice none 0 0)), (9, i64 (loc (nS x) s)), (10, boo (known (nS x) s))] ∧ H' = HI x o6 o7 o8 o9) ?_ ?_
  · repeat' (first | refine run ⟨?_⟩ | refine ca (e1) ?_ | fail)
    exact rfl
  rintro x1 e' H' g3 a3 w3 ⟨rfl, he, rfl⟩ ok3 ext3
  have ok3 := ok3.forget [1, 2, 3, 8, 9, 10]
  rw [he] at ok3
  have E3 := E2.trans ext3 (Nat.le_refl _)
  clear he ok2
  show (Code.seq _ _).wp _ _ _ _
  apply wp_seq
  refine chunk hT mixed tB0 (by kernel_rfl) ok3 (R := fun x1 e' H' => x1 = .nrm ∧ keepE [1, 2, 3, 8, 9, 25] e' = [(1, .ptr 5 0), (2, str s), (3, .ptr 10 0), (8, .raw (.slice none 0 0)), (9, i64 (loc (nS x) s)), (25, boo (known (nS x) s))] ∧ H' = HI x o6 o7 o8 o9) ?_ ?_
  · refine run ⟨?_⟩
    exact rfl
  rintro x1 e' H' g4 a4 w4 ⟨rfl, he, rfl⟩ ok4 ext4
  have ok4 := ok4.forget [1, 2, 3, 8, 9, 25]
  rw [he] at ok4
  have E4 := E3.trans ext4 (Nat.le_refl _)
  clear he ok3
  show (Code.cond _ _ _).wp _ _ _ _
  refine Go.wp_cond_split (cond_val ok4 (i := 25) (by decide) rfl) (fun hc => ?_) (fun hc => ?_)
  · cases hp : pos (nS x) s with
    | none => rw [known, hp] at hc; cases hc
    | some i =>
      have hi := gS i hp
      have hloc : loc (nS x) s = (i : Int) := by rw [loc, hp]
      rw [hloc] at ok4
      unfold HQ heldM
      rw [hp]
      dsimp only
      have pi := gN hi
      have hl : (x.ss.getD i default).fs.length ≤ 4398046511104 := by
        have : x.ss.getD i default ∈ x.ss := by simp [List.getD_eq_getElem?_getD, List.getElem?_eq_getElem hi]
        exact (hx.sf _ this).2.1
      revert pi hl
      generalize x.ss.getD i default = y
      obtain ⟨yn, fs⟩ := y
      intro pi hl
      dsimp only at hl ⊢
      rw [sB0]
      apply wp_seq
      apply wp_seq
      refine chunk hT mixed tC0 (by kernel_rfl) ok4 (R := fun x1 e' H' => x1 = .nrm ∧ keepE [8, 31, 32, 33] e' = [(8, .raw (.slice none 0 0)), (31, .d (fldsD fs)), (32, i64 fs.length), (33, i64 ((0 : Nat) : Int))] ∧ H' = HI x o6 o7 o8 o9) ?_ ?_
      · repeat' (first | refine run ⟨?_⟩ | refine pickD pi ?_ | fail)
        exact ⟨by show [_, _, _, _] = _; rw [List.length_map] <;> rfl, rfl⟩
      rintro x1 e' H' g7 a7 w7 ⟨rfl, he, rfl⟩ ok7 ext7
      have ok7 := ok7.forget [8, 31, 32, 33]
      rw [he] at ok7
      have E7 := E4.trans ext7 (Nat.le_refl _)
      show (Code.block _ _).wp _ _ _ _
      refine loop0 x o6 o7 o8 o9 hcl g w fs hl (fun g8 a8 w8 xv ok8 hl8 E8 => ?_) a7 w7 ⟨0, g7, .slice none 0 0, rfl, Nat.zero_le _, ok7, .nil, E7⟩
      show Code.wp _ (cR A0) _ _ _
      refine chunk hT mixed tD0 (by kernel_rfl) ok8 (R := fun x1 e' H' => x1 = .ret ∧ keepE [6, 7] e' = [(6, .raw xv), (7, boo false)] ∧ H' = HI x o6 o7 o8 o9) ?_ ?_
      · refine run ⟨?_⟩
        exact rfl
      rintro x1 e' H' g9 a9 w9 ⟨rfl, he, rfl⟩ ok9 ext9
      have ok9 := ok9.forget [6, 7]
      rw [he] at ok9
      exact ⟨rfl, g9, xv, ok9, hl8.ext ext9, E8.trans ext9 (Nat.le_refl _)⟩
  · apply wp_skip
    cases hpS : pos (nS x) s with
    | some i => rw [known, hpS] at hc; cases hc
    | none =>
      show (Code.seq _ _).wp _ _ _ _
      apply wp_seq
      rw [sA1]
      apply wp_seq
      refine chunk hT mixed tA1 (by kernel_rfl) ok4 (R := fun x1 e' H' => x1 = .nrm ∧ keepE [2, 3, 8, 13, 14] e' = [(2, str s), (3, .ptr 10 0), (8, .raw (.slice none 0 0)), (13, i64 (loc (nE x) s)), (14, boo (known (nE x) s))] ∧ H' = HI x o6 o7 o8 o9) ?_ ?_
      · repeat' (first | refine run ⟨?_⟩ | refine ca (e2) ?_ | fail)
        exact rfl
      rintro x1 e' H' g5 a5 w5 ⟨rfl, he, rfl⟩ ok5 ext5
      have ok5 := ok5.forget [2, 3, 8, 13, 14]
      rw [he] at ok5
      have E5 := E4.trans ext5 (Nat.le_refl _)
      clear he ok4
      show (Code.seq _ _).wp _ _ _ _
      apply wp_seq
      refine chunk hT mixed tB1 (by kernel_rfl) ok5 (R := fun x1 e' H' => x1 = .nrm ∧ keepE [2, 3, 8, 13, 52] e' = [(2, str s), (3, .ptr 10 0), (8, .raw (.slice none 0 0)), (13, i64 (loc (nE x) s)), (52, boo (known (nE x) s))] ∧ H' = HI x o6 o7 o8 o9) ?_ ?_
      · refine run ⟨?_⟩
        exact rfl
      rintro x1 e' H' g6 a6 w6 ⟨rfl, he, rfl⟩ ok6 ext6
      have ok6 := ok6.forget [2, 3, 8, 13, 52]
      rw [he] at ok6
      have E6 := E5.trans ext6 (Nat.le_refl _)
      clear he ok5
      show (Code.cond _ _ _).wp _ _ _ _
      refine Go.wp_cond_split (cond_val ok6 (i := 52) (by decide) rfl) (fun hc2 => ?_) (fun hc2 => ?_)
      · cases hp : pos (nE x) s with
        | none => rw [known, hp] at hc2; cases hc2
        | some i =>
          have hi := gE i hp
          have hloc : loc (nE x) s = (i : Int) := by rw [loc, hp]
          rw [hloc] at ok6
          unfold HQ heldM
          rw [hpS, hp]
          dsimp only
          have pi := gN hi
          have hl : (x.es.getD i default).fs.length ≤ 4398046511104 := by
            have : x.es.getD i default ∈ x.es := by simp [List.getD_eq_getElem?_getD, List.getElem?_eq_getElem hi]
            exact (hx.ef _ this).2.1
          revert pi hl
          generalize x.es.getD i default = y
          obtain ⟨yn, fs⟩ := y
          intro pi hl
          dsimp only at hl ⊢
          rw [sB1]
          apply wp_seq
          apply wp_seq
          refine chunk hT mixed tC1 (by kernel_rfl) ok6 (R := fun x1 e' H' => x1 = .nrm ∧ keepE [8, 58, 59, 60] e' = [(8, .raw (.slice none 0 0)), (58, .d (fldsD fs)), (59, i64 fs.length), (60, i64 ((0 : Nat) : Int))] ∧ H' = HI x o6 o7 o8 o9) ?_ ?_
          · repeat' (first | refine run ⟨?_⟩ | refine pickD pi ?_ | fail)
            exact ⟨by show [_, _, _, _] = _; rw [List.length_map] <;> rfl, rfl⟩
          rintro x1 e' H' g7 a7 w7 ⟨rfl, he, rfl⟩ ok7 ext7
          have ok7 := ok7.forget [8, 58, 59, 60]
          rw [he] at ok7
          have E7 := E6.trans ext7 (Nat.le_refl _)
          show (Code.block _ _).wp _ _ _ _
          refine loop1 x o6 o7 o8 o9 hcl g w fs hl (fun g8 a8 w8 xv ok8 hl8 E8 => ?_) a7 w7 ⟨0, g7, .slice none 0 0, rfl, Nat.zero_le _, ok7, .nil, E7⟩
          show Code.wp _ (cR A1) _ _ _
          refine chunk hT mixed tD1 (by kernel_rfl) ok8 (R := fun x1 e' H' => x1 = .ret ∧ keepE [6, 7] e' = [(6, .raw xv), (7, boo true)] ∧ H' = HI x o6 o7 o8 o9) ?_ ?_
          · refine run ⟨?_⟩
            exact rfl
          rintro x1 e' H' g9 a9 w9 ⟨rfl, he, rfl⟩ ok9 ext9
          have ok9 := ok9.forget [6, 7]
          rw [he] at ok9
          exact ⟨rfl, g9, xv, ok9, hl8.ext ext9, E8.trans ext9 (Nat.le_refl _)⟩
      · apply wp_skip
        cases hp : pos (nE x) s with
        | some i => rw [known, hp] at hc2; cases hc2
        | none =>
          unfold HQ heldM
          rw [hpS, hp]
          dsimp only
          show Code.wp _ (cR y88) _ _ _
          refine chunk hT mixed t88c (by kernel_rfl) ok6 (R := fun x1 e' H' => x1 = .ret ∧ keepE [6, 7] e' = [(6, .nils), (7, boo false)] ∧ H' = HI x o6 o7 o8 o9) ?_ ?_
          · refine run ⟨?_⟩
            exact rfl
          rintro x1 e' H' g9 a9 w9 ⟨rfl, he, rfl⟩ ok9 ext9
          have ok9 := ok9.forget [6, 7]
          rw [he] at ok9
          have ok9 := (ok9.toRaw (i := 6) (by decide) rfl).forget [6, 7]
          exact ⟨rfl, g9, .slice none 0 0, ok9, .nil, E6.trans ext9 (Nat.le_refl _)⟩
theorem held_calls (x : Its) (hx : Fine x) (s : S) (o6 o7 o8 o9 : Ob) (g : Gh) (w : World) (cargs : Array Value) (hI : Inv (cxL fx) g (HH x o6 o7 o8 o9) w) (ra : RepTs g (HH x o6 o7 o8 o9) [.d x.D, .ptr 5 0, str s] cargs.toList) :
    Calls Try.prog 88 cargs w fun e w' => ∃ xv g', e = .returned (.tuple #[xv, .bool (heldM x s).2]) ∧ Inv (cxL fx) g' (HH x o6 o7 o8 o9) w' ∧ Ext 10 g (HH x o6 o7 o8 o9) w g' (HH x o6 o7 o8 o9) w' ∧ Loose (cxL fx) g' w' w.heap.size 1 xv (heldM x s).1.length ((heldM x s).1.map strV) := by
  refine calls_of_wp f88f b88 ?_
  have ok0 : StOk (cxL fx) 74 g ⟨enterE [.d x.D, .ptr 5 0, str s], HH x o6 o7 o8 o9, 10⟩ { tmps := cargs ++ Array.replicate (Try.f88.ntmps - cargs.size) Go.undef, defers := [] } w :=
    ⟨hI, by rw [n88t]; exact enter_ok ra rfl (by show 3 ≤ 74; decide), rfl, by show 10 ≤ 10; decide⟩
  have ok0 := ok0.forget [0, 1, 2]
  rw [show keepE [0, 1, 2] (enterE [.d x.D, .ptr 5 0, str s]) = [(0, .d x.D), (1, .ptr 5 0), (2, str s)] from rfl] at ok0
  refine wp_mono (held_body x hx s o6 o7 o8 o9 g w _ hI.und ok0) fun e a1 w1 he => ?_
  obtain ⟨rfl, g1, xv, ok1, hl, E⟩ := he
  have goal : a1.defers = [] ∧ ∃ v, (results Try.f88 a1.tmps).run Try.prog w1 = .ok v w1 ∧ ∃ xv g', Ending.returned v = .returned (.tuple #[xv, .bool (heldM x s).2]) ∧ Inv (cxL fx) g' (HH x o6 o7 o8 o9) w1 ∧ Ext 10 g (HH x o6 o7 o8 o9) w g' (HH x o6 o7 o8 o9) w1 ∧ Loose (cxL fx) g' w1 w.heap.size 1 xv (heldM x s).1.length ((heldM x s).1.map strV) := by
    refine ⟨ok1.defers, ?_⟩
    obtain ⟨ys, y1, y2, y3⟩ := results_run (P := Try.prog) (fn := Try.f88) (vs := [.raw xv, boo (heldM x s).2]) ok1.inv ok1.env r88 (by decide) rfl
    simp only [RepTs, Rep, RepD, RepCs] at y2
    obtain ⟨z1, ys1, rfl, rfl, z2, ys2, rfl, h2, rfl⟩ := y2
    simp only [List.cons.injEq, and_true] at h2
    subst h2
    refine ⟨_, y1, _, g1.cut 10, rfl, ?_, ?_, hl.cut⟩
    · have := ok1.inv.restrict (n := 10) (by show 10 ≤ 11; decide) (E.clean 10 (Nat.le_refl _) hI.und)
      exact this
    · exact E.cut2 (n := 10) (by show 10 ≤ 10; decide) (by show 10 ≤ 11; decide) (Nat.le_refl _)
  exact goal
end
end Go.Vm.Typ
