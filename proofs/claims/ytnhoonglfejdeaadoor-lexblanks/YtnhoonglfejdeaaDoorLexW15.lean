import Derived.Test.YtnhoonglfejdeaaDoorLexW11
import Derived.Test.YtnhoonglfejdeaaDoorLexP7
/- Two sources with blanks between. -/
namespace Go.Vm.Lex
set_option maxRecDepth 10000
def plD (k : Int) (t : List UInt8) (v : Int) : D := tkD k t (if k = 3 then v else 0) 0 0
theorem pickD {l : List D} {n : Int} {d : D} (h : 0 ≤ n ∧ l[n.toNat]? = some d) {k : D → Prop} (hk : k d) : ∃ c, (0 ≤ n ∧ l[n.toNat]? = some c) ∧ k c := ⟨d, h, hk⟩
theorem eqL_self5 (k : Int) (t : List UInt8) (v f e : Int) : eqL [D.int .i64 k, D.str t, D.int .i64 v, D.int .i64 f, D.int .i64 e] [D.int .i64 k, D.str t, D.int .i64 v, D.int .i64 f, D.int .i64 e] = true := by simp [eqL, eq1]
section
variable {fx : Nat → Option Obj} (H : Hp)
theorem plain_ev (k : Int) (t : List UInt8) (v f e : Int) : evF (pgL fx) n_law11_plain [.d (tkD k t v f e)] H = some (.d (plD k t v), H) := by
  refine evF_wp t_law11_plain rfl rfl ?_ H
  unfold plD
  by_cases h : k = 3
  · refine and_f (by simp [h]) ?_
    rw [if_pos h]; rfl
  · refine and_t (by simp [h]) ?_
    rw [if_neg h]; rfl
set_option maxHeartbeats 2000000 in
theorem lexBlanks_ev (a b : List UInt8) (ha : a.length ≤ 140737488355328) (hb : b.length ≤ 140737488355328) : evF (pgL fx) n_law11_LexBlanks [str a, str b] H = some (boo true, H) := by
  have hma : a.length ≤ maxLen := by unfold maxLen; omega
  have hmb : b.length ≤ maxLen := by unfold maxLen; omega
  have hw : IntKind.i64.wrap ((a.length : Int) + (b.length : Int)) = (a.length : Int) + (b.length : Int) := i64w (by omega)
  refine evF_wp t_law11_LexBlanks rfl rfl ?_ H
  by_cases h1 : 60000 < a.length + b.length
  · refine and_t (decide_eq_true (by rw [hw]; omega)) ?_
    refine Exists.intro _ (Exists.intro _ (And.intro (small_ev _) ?_))
    rfl
  refine and_f (decide_eq_false (by rw [hw]; omega)) ?_
  have hz : (a ++ midL ++ b).length ≤ maxLen := by simp [midL]; unfold maxLen; omega
  have ea := fun H : Hp => tokens_ev (fx := fx) H a hma
  have eb := fun H : Hp => tokens_ev (fx := fx) H b hmb
  have ez := fun H : Hp => tokens_ev (fx := fx) H (a ++ midL ++ b) hz
  obtain ⟨k1, k2, k3⟩ := blanks a b (by omega)
  have la := lexT_len a
  have lb := lexT_len b
  have na : (lexT a).2.c = 0 → (lexT a).1 ≠ [] := fun h => (lexT_chain a h).2.2.2.2.1
  have nb : (lexT b).2.c = 0 → (lexT b).1 ≠ [] := fun h => (lexT_chain b h).2.2.2.2.1
  refine Exists.intro _ (Exists.intro _ (And.intro (ea _) ?_))
  refine Exists.intro _ (Exists.intro _ (And.intro (eb _) ?_))
  refine And.intro (by simp; omega) ?_
  refine And.intro (by simp; omega) ?_
  refine Exists.intro _ (Exists.intro _ (And.intro (ez _) ?_))
  clear ea eb ez
  generalize lexT a = A at *
  generalize lexT b = B at *
  generalize lexT (a ++ midL ++ b) = Z at *
  obtain ⟨x, da⟩ := A
  obtain ⟨y, db⟩ := B
  simp only at k1 k2 k3 la lb na nb
  by_cases hac : da.c = 0
  · refine and_f (by simp [hac]) ?_
    by_cases hbc : db.c = 0
    · refine and_f (by simp [hbc]) ?_
      have hz3 := k3 hac hbc
      subst hz3
      have hxl : 0 < x.length := List.length_pos_iff.2 (na hac)
      have hyl : 0 < y.length := List.length_pos_iff.2 (nb hbc)
      clear k1 k2 k3 na nb
      have hdl : (x.dropLast).length = x.length - 1 := List.length_dropLast
      have w1 : IntKind.i64.wrap (((x.map Tok.D).length : Int) - 1) = ((x.length - 1 : Nat) : Int) := by rw [List.length_map, i64w (by omega)]; omega
      have hzl : ((x.dropLast ++ y.map (shTok (a.length + 8))).map Tok.D).length = x.length - 1 + y.length := by rw [List.length_map, List.length_append, List.length_map, hdl]
      refine gd_f rfl ?_
      refine gd_f (decide_eq_false (by simp only [List.length_map]; omega)) ?_
      refine and_f (by
        simp only [hzl, List.length_map]
        rw [i64w (n := (x.length : Int) + (y.length : Int)) (by omega), i64w (by omega)]
        simp; omega) ?_
      refine And.intro (by simp only; rw [w1]; omega) ?_
      refine And.intro ⟨Nat.zero_le _, by simp only; rw [w1, List.length_map]; omega, rfl⟩ ?_
      have hz1 : ∀ i (h : i < x.length - 1), (0 : Int) ≤ (i : Int) ∧ ((x.dropLast ++ y.map (shTok (a.length + 8))).map Tok.D)[(i : Int).toNat]? = some (Tok.D (x[i]'(by omega))) := by
        intro i h
        refine ⟨by omega, ?_⟩
        rw [Int.toNat_natCast, List.getElem?_map, List.getElem?_append_left (by omega), List.getElem?_dropLast, if_pos h, List.getElem?_eq_getElem (by omega)]; rfl
      have hx1 : ∀ i (h : i < x.length), (0 : Int) ≤ (i : Int) ∧ (x.map Tok.D)[(i : Int).toNat]? = some (Tok.D x[i]) := by
        intro i h
        refine ⟨by omega, ?_⟩
        rw [Int.toNat_natCast, List.getElem?_map, List.getElem?_eq_getElem h]; rfl
      have hy1 : ∀ i (h : i < y.length), (0 : Int) ≤ (i : Int) ∧ (y.map Tok.D)[(i : Int).toNat]? = some (Tok.D y[i]) := by
        intro i h
        refine ⟨by omega, ?_⟩
        rw [Int.toNat_natCast, List.getElem?_map, List.getElem?_eq_getElem h]; rfl
      have hz2 : ∀ i (h : i < y.length), 0 ≤ IntKind.i64.wrap (IntKind.i64.wrap (((x.map Tok.D).length : Int) - 1) + (i : Int)) ∧ ((x.dropLast ++ y.map (shTok (a.length + 8))).map Tok.D)[(IntKind.i64.wrap (IntKind.i64.wrap (((x.map Tok.D).length : Int) - 1) + (i : Int))).toNat]? = some (Tok.D (shTok (a.length + 8) y[i])) := by
        intro i h
        rw [w1, i64w (by omega)]
        refine ⟨by omega, ?_⟩
        rw [show (((x.length - 1 : Nat) : Int) + (i : Int)).toNat = x.length - 1 + i by omega, List.getElem?_map, List.getElem?_append_right (by omega), hdl, Nat.add_sub_cancel_left, List.getElem?_map, List.getElem?_eq_getElem h]; rfl
      have hLl : (List.drop 0 (List.take (Int.toNat (IntKind.i64.wrap (((x.map Tok.D).length : Int) - 1))) (x.map Tok.D))).length = x.length - 1 := by
        rw [w1, List.drop_zero, List.length_take, List.length_map]; omega
      obtain ⟨zD, hzD⟩ : ∃ zD, zD = (x.dropLast ++ y.map (shTok (a.length + 8))).map Tok.D := ⟨_, rfl⟩
      rw [← hzD] at hz1 hz2
      rw [← hzD]
      refine wp_loop (α := Nat) (fun i => x.length - i) (fun i => [(5, .d (.sl (x.map Tok.D))), (7, .d (.sl (y.map Tok.D))), (9, .d (.sl zD)), (80, i64 (List.drop 0 (List.take (Int.toNat (IntKind.i64.wrap (((x.map Tok.D).length : Int) - 1))) (x.map Tok.D))).length), (81, i64 i)]) (fun _ => [.box [.d (.int .i64 da.c), .d (.int .i64 da.f), .d (.int .i64 da.e)], .box [.d (.int .i64 db.c), .d (.int .i64 db.f), .d (.int .i64 db.e)], .box [.d (.int .i64 0), .d (.int .i64 0), .d (.int .i64 0)]]) (fun i => i ≤ x.length - 1) ?_ 0 (by omega)
      intro i hi
      refine And.intro (fun h => ?_) (fun h => ?_)
      · replace h := of_decide_eq_true h
        rw [hLl] at h
        have hlt : i < x.length - 1 := by omega
        refine pickD (hz1 i hlt) ?_
        refine And.intro rfl ?_
        refine pickD (hx1 i (by omega)) ?_
        refine And.intro rfl ?_
        refine and_f (by rw [Bool.not_eq_false']; exact eqL_tok _) ?_
        refine ⟨i + 1, by omega, by omega, ?_, rfl⟩
        rw [i64w (n := (i : Int) + 1) (by omega)]; rfl
      · refine wp_loop (α := Nat) (fun i => y.length - i) (fun i => [(5, .d (.sl (x.map Tok.D))), (7, .d (.sl (y.map Tok.D))), (9, .d (.sl zD)), (95, i64 (y.map Tok.D).length), (96, i64 i)]) (fun _ => [.box [.d (.int .i64 da.c), .d (.int .i64 da.f), .d (.int .i64 da.e)], .box [.d (.int .i64 db.c), .d (.int .i64 db.f), .d (.int .i64 db.e)], .box [.d (.int .i64 0), .d (.int .i64 0), .d (.int .i64 0)]]) (fun i => i ≤ y.length) ?_ 0 (by omega)
        intro k hk
        refine And.intro (fun h2 => ?_) (fun h2 => ?_)
        · replace h2 := of_decide_eq_true h2
          rw [List.length_map] at h2
          have hlt : k < y.length := by omega
          refine pickD (hz2 k hlt) ?_
          refine And.intro rfl ?_
          refine Exists.intro _ (Exists.intro _ (And.intro (plain_ev _ y[k].k y[k].t y[k].v _ _) ?_))
          refine And.intro (grew_self _) ?_
          refine pickD (hy1 k hlt) ?_
          refine And.intro rfl ?_
          refine Exists.intro _ (Exists.intro _ (And.intro (plain_ev _ y[k].k y[k].t y[k].v _ _) ?_))
          refine and_f (by rw [Bool.not_eq_false']; exact eqL_self5 _ _ _ _ _) ?_
          refine ⟨k + 1, by omega, by omega, ?_, rfl⟩
          rw [i64w (n := (k : Int) + 1) (by omega)]; rfl
        · refine Exists.intro _ (Exists.intro _ (And.intro (small_ev _) ?_))
          rfl
    · refine and_t (by simp [hbc]) ?_
      refine and_t (by simp [k2 hbc]) ?_
      refine Exists.intro _ (Exists.intro _ (And.intro (small_ev _) ?_))
      rfl
  · refine and_t (by simp [hac]) ?_
    refine and_t (by simp [k1 hac]) ?_
    refine Exists.intro _ (Exists.intro _ (And.intro (small_ev _) ?_))
    rfl
end
end Go.Vm.Lex
