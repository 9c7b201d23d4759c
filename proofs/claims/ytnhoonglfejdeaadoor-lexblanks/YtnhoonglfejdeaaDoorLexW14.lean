import Derived.Test.YtnhoonglfejdeaaDoorLexW11
import Derived.Test.YtnhoonglfejdeaaDoorLexP6
namespace Go.Vm.Lex
set_option maxRecDepth 10000
theorem mid3_eq (s : List UInt8) (a b : Nat) : List.drop (Int.toNat (a : Int)) (List.take (Int.toNat (b : Int)) s) = (s.drop a).take (b - a) := by
  simp only [Int.toNat_natCast]; rw [List.drop_take]
section
variable {fx : Nat → Option Obj} (H : Hp)
set_option maxHeartbeats 2000000 in
theorem lexCovers_ev (s : List UInt8) (hs : s.length ≤ maxLen) : evF (pgL fx) n_law11_LexCovers [str s] H = some (boo true, H) := by
  have hm : s.length ≤ 9223372036854775807 := hs
  have e1 := fun H : Hp => tokens_ev (fx := fx) H s hs
  have hlen := lexT_len s
  refine evF_wp t_law11_LexCovers rfl rfl ?_ H
  by_cases hc : (lexT s).2.c = 0
  · obtain ⟨h1, hv, _, hch, _, hok⟩ := lexT_chain s hc
    generalize lexT s = r at *
    obtain ⟨l, d⟩ := r
    simp only at hc hch hok hlen
    subst hok
    refine Exists.intro _ (Exists.intro _ (And.intro (e1 _) ?_))
    refine and_f rfl ?_
    refine wp_loop (α := Nat × Nat) (fun p => l.length - p.1) (fun p => [(0, str s), (3, .d (.sl (l.map Tok.D))), (5, i64 p.2), (43, .d (.sl (l.map Tok.D))), (44, i64 (l.map Tok.D).length), (45, i64 p.1)]) (fun _ => [.box [.d (.int .i64 0), .d (.int .i64 0), .d (.int .i64 0)]]) (fun p => p.1 ≤ l.length ∧ Chain s p.2 (l.drop p.1)) ?_ (0, 0) ⟨by simp, by simpa using hch⟩
    rintro ⟨i, a⟩ ⟨hi, hch⟩
    simp only at hi hch
    refine And.intro (fun h => ?_) (fun h => ?_)
    · replace h := of_decide_eq_true h
      rw [List.length_map] at h
      have hlt : i < l.length := by simp only at h; omega
      have hlt' : i < (l.map Tok.D).length := by rw [List.length_map]; exact hlt
      rw [List.drop_eq_getElem_cons hlt] at hch
      obtain ⟨c1, c2, c3, c4, c5, c6, c7⟩ := hch
      have hlast : (l[i].k = 5) ↔ (i = l.length - 1) := by
        rw [c5]
        constructor
        · intro e; have := congrArg List.length e; rw [List.length_drop] at this; simp at this; omega
        · intro e; exact List.drop_eq_nil_of_le (by omega)
      refine idx_of hlt' ?_
      rw [List.getElem_map]
      refine And.intro rfl ?_
      generalize hx : l[i] = x at *
      refine gd_f (decide_eq_false (by simp only; omega)) ?_
      refine gd_f (decide_eq_false (by omega)) ?_
      refine gd_f (decide_eq_false (by omega)) ?_
      refine And.intro (by omega) ?_
      refine And.intro (by omega) ?_
      refine And.intro ⟨by omega, by omega⟩ ?_
      refine gd_f (by rw [mid3_eq, c4]; simp) ?_
      have hq : decide (x.k = 5) = decide ((i : Int) = IntKind.i64.wrap (((l.map Tok.D).length : Int) - 1)) := by
        rw [List.length_map, i64w (by omega)]
        simp only [decide_eq_decide]
        rw [hlast]; omega
      refine and_f (by simp only; rw [hq]; simp) ?_
      refine And.intro (by simp only; omega) ?_
      refine And.intro (by omega) ?_
      refine And.intro ⟨by simp only; omega, by omega⟩ ?_
      have hgl : ((s.drop a).take (x.f - a)).length ≤ maxLen := by rw [List.length_take, List.length_drop]; unfold maxLen; omega
      have gev : ∀ H : Hp, evF (pgL fx) n_ref11_Tokens [str (List.drop (Int.toNat (a : Int)) (List.take (Int.toNat (x.f : Int)) s))] H = some (toksR ([⟨5, [], 0, x.f - a, x.f - a⟩], Dg.ok), H) := by
        intro H
        rw [mid3_eq, rtokens_ev _ _ hgl, show lexT ((s.drop a).take (x.f - a)) = _ from c6]
      refine Exists.intro _ (Exists.intro _ (And.intro (gev _) ?_))
      refine gd_f rfl ?_
      refine and_f rfl ?_
      refine ⟨(i + 1, x.e), ⟨by simp only; omega, c7⟩, by simp only; omega, ?_, rfl⟩
      simp only
      rw [i64w (by omega)]; rfl
    · replace h := of_decide_eq_false h
      rw [List.length_map] at h
      have hi' : i = l.length := by simp only at h; omega
      rw [List.drop_eq_nil_of_le (by omega)] at hch
      have ha : a = s.length := hch
      subst ha
      refine and_t (decide_eq_true rfl) ?_
      refine Exists.intro _ (Exists.intro _ (And.intro (small_ev _) ?_))
      rfl
  · obtain ⟨p1, p2, p3⟩ := lexT_places s hc
    generalize lexT s = r at *
    obtain ⟨l, d⟩ := r
    simp only at hc p1 p2 p3
    subst p1
    refine Exists.intro _ (Exists.intro _ (And.intro (e1 _) ?_))
    refine and_t (by simp [hc]) ?_
    refine and_t rfl ?_
    refine and_t (decide_eq_true (by simp only; omega)) ?_
    refine and_t (decide_eq_true (by simp only; omega)) ?_
    refine and_t (decide_eq_true (by simp only; omega)) ?_
    refine Exists.intro _ (Exists.intro _ (And.intro (small_ev _) ?_))
    rfl
end
end Go.Vm.Lex
