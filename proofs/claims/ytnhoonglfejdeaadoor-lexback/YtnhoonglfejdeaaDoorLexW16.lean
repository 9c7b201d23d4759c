import Derived.Test.YtnhoonglfejdeaaDoorLexW11
import Derived.Test.YtnhoonglfejdeaaDoorLexP8
namespace Go.Vm.Lex
set_option maxRecDepth 10000
theorem mid3_eq (s : List UInt8) (a b : Nat) : List.drop (Int.toNat (a : Int)) (List.take (Int.toNat (b : Int)) s) = (s.drop a).take (b - a) := by
  simp only [Int.toNat_natCast]; rw [List.drop_take]
section
variable {fx : Nat → Option Obj} (H : Hp)
set_option maxHeartbeats 2000000 in
theorem lexCovers_ev (s : List UInt8) (hs : s.length ≤ maxLen) : evF (pgL fx) n_law11_LexCovers [str s] H = some (boo true, H) := by
  have hm : s.length ≤ 9223372036854775807 := hs
  have e1 := fun H : Hp => tokens_ev (fx := fx) H s hs
  have hlen := lexT_len s
  refine evF_wp t_law11_LexCovers rfl rfl ?_ H
  by_cases hc : (lexT s).2.c = 0
  · obtain ⟨h1, hv, _, hch, _, hok⟩ := lexT_chain s hc
    generalize lexT s = r at *
    obtain ⟨l, d⟩ := r
    simp only at hc hch hok hlen
    subst hok
    refine Exists.intro _ (Exists.intro _ (And.intro (e1 _) ?_))
    refine and_f rfl ?_
    refine wp_loop (α := Nat × Nat) (fun p => l.length - p.1) (fun p => [(0, str s), (3, .d (.sl (l.map Tok.D))), (5, i64 p.2), (43, .d (.sl (l.map Tok.D))), (44, i64 (l.map Tok.D).length), (45, i64 p.1)]) (fun _ => [.box [.d (.int .i64 0), .d (.int .i64 0), .d (.int .i64 0)]]) (fun p => p.1 ≤ l.length ∧ Chain s p.2 (l.drop p.1)) ?_ (0, 0) ⟨by simp, by simpa using hch⟩
    rintro ⟨i, a⟩ ⟨hi, hch⟩
    simp only at hi hch
    refine And.intro (fun h => ?_) (fun h => ?_)
    · replace h := of_decide_eq_true h
      rw [List.length_map] at h
      have hlt : i < l.length := by simp only at h; omega
      have hlt' : i < (l.map Tok.D).length := by rw [List.length_map]; exact hlt
      rw [List.drop_eq_getElem_cons hlt] at hch
      obtain ⟨c1, c2, c3, c4, c5, c6, c7⟩ := hch
      have hlast : (l[i].k = 5) ↔ (i = l.length - 1) := by
        rw [c5]
        constructor
        · intro e; have := congrArg List.length e; rw [List.length_drop] at this; simp at this; omega
        · intro e; exact List.drop_eq_nil_of_le (by omega)
      refine idx_of hlt' ?_
      rw [List.getElem_map]
      refine And.intro rfl ?_
      generalize hx : l[i] = x at *
      refine gd_f (decide_eq_false (by simp only; omega)) ?_
      refine gd_f (decide_eq_false (by omega)) ?_
      refine gd_f (decide_eq_false (by omega)) ?_
      refine And.intro (by omega) ?_
      refine And.intro (by omega) ?_
      refine And.intro ⟨by omega, by omega⟩ ?_
      refine gd_f (by rw [mid3_eq, c4]; simp) ?_
      have hq : decide (x.k = 5) = decide ((i : Int) = IntKind.i64.wrap (((l.map Tok.D).length : Int) - 1)) := by
        rw [List.length_map, i64w (by omega)]
        simp only [decide_eq_decide]
        rw [hlast]; omega
      refine and_f (by simp only; rw [hq]; simp) ?_
      refine And.intro (by simp only; omega) ?_
      refine And.intro (by omega) ?_
      refine And.intro ⟨by simp only; omega, by omega⟩ ?_
      have hgl : ((s.drop a).take (x.f - a)).length ≤ maxLen := by rw [List.length_take, List.length_drop]; unfold maxLen; omega
      have gev : ∀ H : Hp, evF (pgL fx) n_ref11_Tokens [str (List.drop (Int.toNat (a : Int)) (List.take (Int.toNat (x.f : Int)) s))] H = some (toksR ([⟨5, [], 0, x.f - a, x.f - a⟩], Dg.ok), H) := by
        intro H
        rw [mid3_eq, rtokens_ev _ _ hgl, show lexT ((s.drop a).take (x.f - a)) = _ from c6]
      refine Exists.intro _ (Exists.intro _ (And.intro (gev _) ?_))
      refine gd_f rfl ?_
      refine and_f rfl ?_
      refine ⟨(i + 1, x.e), ⟨by simp only; omega, c7⟩, by simp only; omega, ?_, rfl⟩
      simp only
      rw [i64w (by omega)]; rfl
    · replace h := of_decide_eq_false h
      rw [List.length_map] at h
      have hi' : i = l.length := by simp only at h; omega
      rw [List.drop_eq_nil_of_le (by omega)] at hch
      have ha : a = s.length := hch
      subst ha
      refine and_t (decide_eq_true rfl) ?_
      refine Exists.intro _ (Exists.intro _ (And.intro (small_ev _) ?_))
      rfl
  · obtain ⟨p1, p2, p3⟩ := lexT_places s hc
    generalize lexT s = r at *
    obtain ⟨l, d⟩ := r
    simp only at hc p1 p2 p3
    subst p1
    refine Exists.intro _ (Exists.intro _ (And.intro (e1 _) ?_))
    refine and_t (by simp [hc]) ?_
    refine and_t rfl ?_
    refine and_t (decide_eq_true (by simp only; omega)) ?_
    refine and_t (decide_eq_true (by simp only; omega)) ?_
    refine and_t (decide_eq_true (by simp only; omega)) ?_
    refine Exists.intro _ (Exists.intro _ (And.intro (small_ev _) ?_))
    rfl
end
end Go.Vm.Lex
/- Two sources with blanks between. -/
namespace Go.Vm.Lex
set_option maxRecDepth 10000
def plD (k : Int) (t : List UInt8) (v : Int) : D := tkD k t (if k = 3 then v else 0) 0 0
theorem pickD {l : List D} {n : Int} {d : D} (h : 0 ≤ n ∧ l[n.toNat]? = some d) {k : D → Prop} (hk : k d) : ∃ c, (0 ≤ n ∧ l[n.toNat]? = some c) ∧ k c := ⟨d, h, hk⟩
theorem eqL_self5 (k : Int) (t : List UInt8) (v f e : Int) : eqL [D.int .i64 k, D.str t, D.int .i64 v, D.int .i64 f, D.int .i64 e] [D.int .i64 k, D.str t, D.int .i64 v, D.int .i64 f, D.int .i64 e] = true := by simp [eqL, eq1]
section
variable {fx : Nat → Option Obj} (H : Hp)
theorem plain_ev (k : Int) (t : List UInt8) (v f e : Int) : evF (pgL fx) n_law11_plain [.d (tkD k t v f e)] H = some (.d (plD k t v), H) := by
  refine evF_wp t_law11_plain rfl rfl ?_ H
  unfold plD
  by_cases h : k = 3
  · refine and_f (by simp [h]) ?_
    rw [if_pos h]; rfl
  · refine and_t (by simp [h]) ?_
    rw [if_neg h]; rfl
set_option maxHeartbeats 2000000 in
theorem lexBlanks_ev (a b : List UInt8) (ha : a.length ≤ 140737488355328) (hb : b.length ≤ 140737488355328) : evF (pgL fx) n_law11_LexBlanks [str a, str b] H = some (boo true, H) := by
  have hma : a.length ≤ maxLen := by unfold maxLen; omega
  have hmb : b.length ≤ maxLen := by unfold maxLen; omega
  have hw : IntKind.i64.wrap ((a.length : Int) + (b.length : Int)) = (a.length : Int) + (b.length : Int) := i64w (by omega)
  refine evF_wp t_law11_LexBlanks rfl rfl ?_ H
  by_cases h1 : 60000 < a.length + b.length
  · refine and_t (decide_eq_true (by rw [hw]; omega)) ?_
    refine Exists.intro _ (Exists.intro _ (And.intro (small_ev _) ?_))
    rfl
  refine and_f (decide_eq_false (by rw [hw]; omega)) ?_
  have hz : (a ++ midL ++ b).length ≤ maxLen := by simp [midL]; unfold maxLen; omega
  have ea := fun H : Hp => tokens_ev (fx := fx) H a hma
  have eb := fun H : Hp => tokens_ev (fx := fx) H b hmb
  have ez := fun H : Hp => tokens_ev (fx := fx) H (a ++ midL ++ b) hz
  obtain ⟨k1, k2, k3⟩ := blanks a b (by omega)
  have la := lexT_len a
  have lb := lexT_len b
  have na : (lexT a).2.c = 0 → (lexT a).1 ≠ [] := fun h => (lexT_chain a h).2.2.2.2.1
  have nb : (lexT b).2.c = 0 → (lexT b).1 ≠ [] := fun h => (lexT_chain b h).2.2.2.2.1
  refine Exists.intro _ (Exists.intro _ (And.intro (ea _) ?_))
  refine Exists.intro _ (Exists.intro _ (And.intro (eb _) ?_))
  refine And.intro (by simp; omega) ?_
  refine And.intro (by simp; omega) ?_
  refine Exists.intro _ (Exists.intro _ (And.intro (ez _) ?_))
  clear ea eb ez
  generalize lexT a = A at *
  generalize lexT b = B at *
  generalize lexT (a ++ midL ++ b) = Z at *
  obtain ⟨x, da⟩ := A
  obtain ⟨y, db⟩ := B
  simp only at k1 k2 k3 la lb na nb
  by_cases hac : da.c = 0
  · refine and_f (by simp [hac]) ?_
    by_cases hbc : db.c = 0
    · refine and_f (by simp [hbc]) ?_
      have hz3 := k3 hac hbc
      subst hz3
      have hxl : 0 < x.length := List.length_pos_iff.2 (na hac)
      have hyl : 0 < y.length := List.length_pos_iff.2 (nb hbc)
      clear k1 k2 k3 na nb
      have hdl : (x.dropLast).length = x.length - 1 := List.length_dropLast
      have w1 : IntKind.i64.wrap (((x.map Tok.D).length : Int) - 1) = ((x.length - 1 : Nat) : Int) := by rw [List.length_map, i64w (by omega)]; omega
      have hzl : ((x.dropLast ++ y.map (shTok (a.length + 8))).map Tok.D).length = x.length - 1 + y.length := by rw [List.length_map, List.length_append, List.length_map, hdl]
      refine gd_f rfl ?_
      refine gd_f (decide_eq_false (by simp only [List.length_map]; omega)) ?_
      refine and_f (by
        simp only [hzl, List.length_map]
        rw [i64w (n := (x.length : Int) + (y.length : Int)) (by omega), i64w (by omega)]
        simp; omega) ?_
      refine And.intro (by simp only; rw [w1]; omega) ?_
      refine And.intro ⟨Nat.zero_le _, by simp only; rw [w1, List.length_map]; omega, rfl⟩ ?_
      have hz1 : ∀ i (h : i < x.length - 1), (0 : Int) ≤ (i : Int) ∧ ((x.dropLast ++ y.map (shTok (a.length + 8))).map Tok.D)[(i : Int).toNat]? = some (Tok.D (x[i]'(by omega))) := by
        intro i h
        refine ⟨by omega, ?_⟩
        rw [Int.toNat_natCast, List.getElem?_map, List.getElem?_append_left (by omega), List.getElem?_dropLast, if_pos h, List.getElem?_eq_getElem (by omega)]; rfl
      have hx1 : ∀ i (h : i < x.length), (0 : Int) ≤ (i : Int) ∧ (x.map Tok.D)[(i : Int).toNat]? = some (Tok.D x[i]) := by
        intro i h
        refine ⟨by omega, ?_⟩
        rw [Int.toNat_natCast, List.getElem?_map, List.getElem?_eq_getElem h]; rfl
      have hy1 : ∀ i (h : i < y.length), (0 : Int) ≤ (i : Int) ∧ (y.map Tok.D)[(i : Int).toNat]? = some (Tok.D y[i]) := by
        intro i h
        refine ⟨by omega, ?_⟩
        rw [Int.toNat_natCast, List.getElem?_map, List.getElem?_eq_getElem h]; rfl
      have hz2 : ∀ i (h : i < y.length), 0 ≤ IntKind.i64.wrap (IntKind.i64.wrap (((x.map Tok.D).length : Int) - 1) + (i : Int)) ∧ ((x.dropLast ++ y.map (shTok (a.length + 8))).map Tok.D)[(IntKind.i64.wrap (IntKind.i64.wrap (((x.map Tok.D).length : Int) - 1) + (i : Int))).toNat]? = some (Tok.D (shTok (a.length + 8) y[i])) := by
        intro i h
        rw [w1, i64w (by omega)]
        refine ⟨by omega, ?_⟩
        rw [show (((x.length - 1 : Nat) : Int) + (i : Int)).toNat = x.length - 1 + i by omega, List.getElem?_map, List.getElem?_append_right (by omega), hdl, Nat.add_sub_cancel_left, List.getElem?_map, List.getElem?_eq_getElem h]; rfl
      have hLl : (List.drop 0 (List.take (Int.toNat (IntKind.i64.wrap (((x.map Tok.D).length : Int) - 1))) (x.map Tok.D))).length = x.length - 1 := by
        rw [w1, List.drop_zero, List.length_take, List.length_map]; omega
      obtain ⟨zD, hzD⟩ : ∃ zD, zD = (x.dropLast ++ y.map (shTok (a.length + 8))).map Tok.D := ⟨_, rfl⟩
      rw [← hzD] at hz1 hz2
      rw [← hzD]
      refine wp_loop (α := Nat) (fun i => x.length - i) (fun i => [(5, .d (.sl (x.map Tok.D))), (7, .d (.sl (y.map Tok.D))), (9, .d (.sl zD)), (80, i64 (List.drop 0 (List.take (Int.toNat (IntKind.i64.wrap (((x.map Tok.D).length : Int) - 1))) (x.map Tok.D))).length), (81, i64 i)]) (fun _ => [.box [.d (.int .i64 da.c), .d (.int .i64 da.f), .d (.int .i64 da.e)], .box [.d (.int .i64 db.c), .d (.int .i64 db.f), .d (.int .i64 db.e)], .box [.d (.int .i64 0), .d (.int .i64 0), .d (.int .i64 0)]]) (fun i => i ≤ x.length - 1) ?_ 0 (by omega)
      intro i hi
      refine And.intro (fun h => ?_) (fun h => ?_)
      · replace h := of_decide_eq_true h
        rw [hLl] at h
        have hlt : i < x.length - 1 := by omega
        refine pickD (hz1 i hlt) ?_
        refine And.intro rfl ?_
        refine pickD (hx1 i (by omega)) ?_
        refine And.intro rfl ?_
        refine and_f (by rw [Bool.not_eq_false']; exact eqL_tok _) ?_
        refine ⟨i + 1, by omega, by omega, ?_, rfl⟩
        rw [i64w (n := (i : Int) + 1) (by omega)]; rfl
      · refine wp_loop (α := Nat) (fun i => y.length - i) (fun i => [(5, .d (.sl (x.map Tok.D))), (7, .d (.sl (y.map Tok.D))), (9, .d (.sl zD)), (95, i64 (y.map Tok.D).length), (96, i64 i)]) (fun _ => [.box [.d (.int .i64 da.c), .d (.int .i64 da.f), .d (.int .i64 da.e)], .box [.d (.int .i64 db.c), .d (.int .i64 db.f), .d (.int .i64 db.e)], .box [.d (.int .i64 0), .d (.int .i64 0), .d (.int .i64 0)]]) (fun i => i ≤ y.length) ?_ 0 (by omega)
        intro k hk
        refine And.intro (fun h2 => ?_) (fun h2 => ?_)
        · replace h2 := of_decide_eq_true h2
          rw [List.length_map] at h2
          have hlt : k < y.length := by omega
          refine pickD (hz2 k hlt) ?_
          refine And.intro rfl ?_
          refine Exists.intro _ (Exists.intro _ (And.intro (plain_ev _ y[k].k y[k].t y[k].v _ _) ?_))
          refine And.intro (grew_self _) ?_
          refine pickD (hy1 k hlt) ?_
          refine And.intro rfl ?_
          refine Exists.intro _ (Exists.intro _ (And.intro (plain_ev _ y[k].k y[k].t y[k].v _ _) ?_))
          refine and_f (by rw [Bool.not_eq_false']; exact eqL_self5 _ _ _ _ _) ?_
          refine ⟨k + 1, by omega, by omega, ?_, rfl⟩
          rw [i64w (n := (k : Int) + 1) (by omega)]; rfl
        · refine Exists.intro _ (Exists.intro _ (And.intro (small_ev _) ?_))
          rfl
    · refine and_t (by simp [hbc]) ?_
      refine and_t (by simp [k2 hbc]) ?_
      refine Exists.intro _ (Exists.intro _ (And.intro (small_ev _) ?_))
      rfl
  · refine and_t (by simp [hac]) ?_
    refine and_t (by simp [k1 hac]) ?_
    refine Exists.intro _ (Exists.intro _ (And.intro (small_ev _) ?_))
    rfl
end
end Go.Vm.Lex
/- What is printed is cut into the same tokens. -/
namespace Go.Vm.Lex
set_option maxRecDepth 10000
def nonEnd (x : TkA) : Bool := !decide (x.k = 5)
theorem filter_get {l : List TkA} {j : Nat} (h : j < l.length) (hp : nonEnd l[j] = true) : (l.filter nonEnd)[((l.take j).filter nonEnd).length]? = some l[j] := by
  have e : l.filter nonEnd = (l.take j).filter nonEnd ++ l[j] :: (l.drop (j + 1)).filter nonEnd := by
    conv => lhs; rw [← List.take_append_drop j l]
    rw [List.filter_append, List.drop_eq_getElem_cons h, List.filter_cons, if_pos hp]
  rw [e, List.getElem?_append_right (Nat.le_refl _), Nat.sub_self]; rfl
theorem filter_next {l : List TkA} {j : Nat} (h : j < l.length) : ((l.take (j + 1)).filter nonEnd).length = ((l.take j).filter nonEnd).length + (if nonEnd l[j] then 1 else 0) := by
  rw [List.take_add_one, List.getElem?_eq_getElem h, List.filter_append, List.length_append]
  congr 1
  show (List.filter nonEnd [l[j]]).length = _
  rw [List.filter_cons]; split <;> rfl
theorem Like.get {ts xs} (h : Like ts xs) : ∀ (i : Nat) (x : TkA), xs[i]? = some x → ∃ t, ts[i]? = some t ∧ Same3 t x := by
  induction h with
  | nil => intro i x hx; simp at hx
  | cons hs _ ih =>
    intro i x hx
    cases i with
    | zero => simp at hx; subst hx; exact ⟨_, rfl, hs⟩
    | succ i => simp at hx; obtain ⟨t, h1, h2⟩ := ih i x hx; exact ⟨t, by simpa using h1, h2⟩
section
variable {fx : Nat → Option Obj} (H : Hp)
set_option maxHeartbeats 2000000 in
theorem lexBack_ev (l : List TkA) (hl : ∀ x ∈ l, x.Fine) : evF (pgL fx) n_law11_LexBack [.d (.sl (l.map TkA.D))] H = some (boo true, H) := by
  have ep := fun H : Hp => print_ev (fx := fx) H l hl
  refine evF_wp t_law11_LexBack rfl rfl ?_ H
  have bad : ∀ e : Int, e ≠ 0 → prR l = .tup [str [], i64 e] → wp (pgL fx) 0 F8.body [] [(0, .d (.sl (l.map TkA.D)))] [] (retK F8.res 0 fun v _ => v = boo true) := by
    intro e he hp
    rw [hp] at ep
    refine Exists.intro _ (Exists.intro _ (And.intro (ep _) ?_))
    refine gd_t (by simp [he]) ?_
    refine and_t rfl ?_
    refine gd_f (by simp [he]) ?_
    refine and_t rfl ?_
    refine Exists.intro _ (Exists.intro _ (And.intro (small_ev _) ?_))
    rfl
  by_cases c1 : 65536 < l.length
  · exact bad 2 (by decide) (by unfold prR; rw [if_pos c1])
  by_cases c2 : l.all (fun x => fitsB x.k x.t x.v) = true
  · have hp : prR l = .tup [str (Lib.join (outT l) [32]), i64 0] := by unfold prR; rw [if_neg c1, if_pos c2]
    rw [hp] at ep
    clear bad
    have hfit := List.all_eq_true.1 c2
    have htx := outT_texts (l := l) fun x hx => ⟨hfit x hx, (hl x hx).2.2⟩
    have hol := outT_len l
    have hjl := join_le (outT l) fun t ht => (htx t ht).2
    have hgood : ∀ x ∈ l.filter nonEnd, Good x.k x.t x.v := by
      intro x hx
      rw [List.mem_filter] at hx
      exact good_of (hfit x hx.1) (by simpa [nonEnd] using hx.2) (hl x hx.1).2.2
    have hout : outT l = (l.filter nonEnd).map (·.t) := rfl
    refine Exists.intro _ (Exists.intro _ (And.intro (ep _) ?_))
    refine gd_f rfl ?_
    by_cases c3 : 65536 < (Lib.join (outT l) [32]).length
    · refine and_t (decide_eq_true (by omega)) ?_
      refine gd_t rfl ?_
      refine and_t rfl ?_
      refine Exists.intro _ (Exists.intro _ (And.intro (small_ev _) ?_))
      rfl
    refine and_f (decide_eq_false (by omega)) ?_
    have hml : (Lib.join (outT l) [32]).length ≤ maxLen := by unfold maxLen; omega
    have et := fun H : Hp => tokens_ev (fx := fx) H (Lib.join (outT l) [32]) hml
    obtain ⟨ts, q, h1, h2⟩ := lexT_join (l.filter nonEnd) hgood (by rw [← hout]; omega)
    rw [← hout] at h1
    rw [h1] at et
    have htl := h2.length
    have hfl : (l.filter nonEnd).length ≤ l.length := List.length_filter_le _ _
    refine Exists.intro _ (Exists.intro _ (And.intro (et _) ?_))
    refine and_f rfl ?_
    obtain ⟨mD, hmD⟩ : ∃ mD, mD = (ts ++ [(⟨5, [], 0, q, q⟩ : Tok)]).map Tok.D := ⟨_, rfl⟩
    have hmlen : mD.length = ts.length + 1 := by rw [hmD, List.length_map, List.length_append]; rfl
    rw [← hmD]
    refine wp_loop (α := Nat) (fun j => l.length - j) (fun j => [(5, .d (.sl mD)), (7, i64 ((l.take j).filter nonEnd).length), (39, .d (.sl (l.map TkA.D))), (40, i64 (l.map TkA.D).length), (41, i64 j)]) (fun _ => [.box [.d (.int .i64 0), .d (.int .i64 0), .d (.int .i64 0)]]) (fun j => j ≤ l.length) ?_ 0 (by omega)
    intro j hj
    have hcl : ((l.take j).filter nonEnd).length ≤ j := by have := List.length_filter_le nonEnd (l.take j); rw [List.length_take] at this; omega
    refine And.intro (fun h => ?_) (fun h => ?_)
    · replace h := of_decide_eq_true h
      rw [List.length_map] at h
      have hlt : j < l.length := by omega
      have hlt' : j < (l.map TkA.D).length := by rw [List.length_map]; exact hlt
      have hnx := filter_next hlt
      refine idx_of hlt' ?_
      rw [List.getElem_map]
      refine And.intro rfl ?_
      by_cases h5 : l[j].k = 5
      · have hne : nonEnd l[j] = false := by simp [nonEnd, h5]
        rw [hne] at hnx
        refine and_t (decide_eq_true h5) ?_
        refine ⟨j + 1, by omega, by omega, ?_, rfl⟩
        rw [i64w (by omega), hnx]; rfl
      · have hne : nonEnd l[j] = true := by simp [nonEnd, h5]
        have hg := filter_get hlt hne
        obtain ⟨t, g1, g2, g3, g4⟩ := h2.get _ _ hg
        have hil : ((l.take j).filter nonEnd).length < ts.length := (List.getElem?_eq_some_iff.1 g1).1
        rw [hne] at hnx
        refine and_f (decide_eq_false h5) ?_
        refine gd_f (decide_eq_false (by omega)) ?_
        refine pickD (d := Tok.D t) ⟨by omega, by rw [Int.toNat_natCast, hmD, List.getElem?_map, List.getElem?_append_left hil, g1]; rfl⟩ ?_
        refine And.intro rfl ?_
        refine Exists.intro _ (Exists.intro _ (And.intro (plain_ev _ t.k t.t t.v _ _) ?_))
        refine And.intro (grew_self _) ?_
        refine Exists.intro _ (Exists.intro _ (And.intro (plain_ev _ l[j].k l[j].t l[j].v _ _) ?_))
        refine and_f (by
          rw [Bool.not_eq_false', g2, g3, g4]
          by_cases h3 : l[j].k = 3
          · simp [plD, tkD, h3, eqL, eq1]
          · simp [plD, tkD, h3, eqL, eq1]) ?_
        refine ⟨j + 1, by omega, by omega, ?_, rfl⟩
        rw [i64w (n := (((l.take j).filter nonEnd).length : Int) + 1) (by omega), i64w (by omega), hnx]; rfl
    · replace h := of_decide_eq_false h
      rw [List.length_map] at h
      have hj' : j = l.length := by omega
      subst hj'
      rw [List.take_length]
      refine and_t (decide_eq_true (by rw [i64w (by omega), hmlen]; omega)) ?_
      refine pickD (d := Tok.D ⟨5, [], 0, q, q⟩) ⟨by omega, by rw [Int.toNat_natCast, hmD, List.getElem?_map, List.getElem?_append_right (by omega), ← htl, Nat.sub_self]; rfl⟩ ?_
      refine And.intro rfl ?_
      refine and_t rfl ?_
      refine Exists.intro _ (Exists.intro _ (And.intro (small_ev _) ?_))
      rfl
  · exact bad 8 (by decide) (by unfold prR; rw [if_neg c1, if_neg c2])
end
end Go.Vm.Lex
