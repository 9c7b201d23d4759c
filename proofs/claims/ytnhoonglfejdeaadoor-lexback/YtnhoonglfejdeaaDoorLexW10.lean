import Derived.Test.YtnhoonglfejdeaaDoorLexW9
namespace Go.Vm.Lex
set_option maxRecDepth 10000
section
variable {fx : Nat → Option Obj} (H : Hp)
set_option maxHeartbeats 2000000 in
theorem rtokens_ev (s : List UInt8) (hs : s.length ≤ maxLen) : evF (pgL fx) n_ref11_Tokens [str s] H = some (toksR (lexT s), H) := by
  refine evF_wp t_ref11_Tokens rfl rfl ?_ H
  refine And.intro (fun h => ?_) (fun h => ?_)
  · replace h := of_decide_eq_true h
    refine Exists.intro _ (Exists.intro _ (And.intro (diag_ev _ 2 0 0) ?_))
    show _ = _
    unfold lexT
    rw [if_pos (by omega)]; rfl
  replace h := of_decide_eq_false h
  have hm : s.length ≤ 65536 := by omega
  have hs2 : s.length ≤ 4611686018427387904 := by omega
  have hL : lexT s = if 0 ≤ strange 0 s then ([], ⟨110, (strange 0 s).toNat, (strange 0 s).toNat + 1⟩) else toks 0 s := by unfold lexT; rw [if_neg (by omega)]
  have hg := strange_ge _ s 0 (Nat.le_refl _)
  refine Exists.intro _ (Exists.intro _ (And.intro (strange_ev _ _ hs2) ?_))
  refine And.intro (fun h2 => ?_) (fun h2 => ?_)
  · replace h2 := of_decide_eq_true h2
    refine Exists.intro _ (Exists.intro _ (And.intro (diag_ev _ _ _ _) ?_))
    show _ = _
    rw [hL, if_pos (by omega), i64w (by omega)]
    simp only [oneOf, toksR, dgD, List.map_nil, Int.natCast_add, Int.toNat_of_nonneg h2]; rfl
  replace h2 := of_decide_eq_false h2
  rw [if_neg (by omega)] at hL
  have hv : Val s := by unfold Val; omega
  refine Exists.intro _ (Exists.intro _ (And.intro (blank_ev _ _ hs 0 (by omega)) ?_))
  rw [hL]
  simp only [List.drop_zero, Nat.zero_add]
  refine wp_loop (α := Nat × List Tok) (fun p => s.length - p.1) (fun p => [(0, str s), (3, .ptr 0 0), (5, .row 1 p.2.length), (6, i64 p.1)]) (fun p => [dg0, .row 5 (p.2.map Tok.D)]) (fun p => Head s p.1 p.2) ?_ (skipA false s, []) (Head.start hv)
  rintro ⟨i, out⟩ hh
  have hle := hh.le
  have hol := hh.ol
  simp only at hh hle hol
  refine And.intro (fun hl => ?_) (fun hl => ?_)
  · replace hl := of_decide_eq_true hl
    have hlt : i < s.length := by omega
    have hd : s.drop i = s[i] :: s.drop (i + 1) := List.drop_eq_getElem_cons hlt
    have hne : s.drop i ≠ [] := by rw [hd]; exact List.cons_ne_nil _ _
    have hh0 : hd0 (s.drop i) = s[i] := by rw [hd]; rfl
    have hn := hh.next hlt
    have hx := hh.err hlt
    have hk : (tokL szL (s.drop i)).e = 0 → 1 ≤ (tokL szL (s.drop i)).n ∧ (tokL szL (s.drop i)).n ≤ s.length - i := fun e => by
      obtain ⟨k1, k2, _⟩ := tokL_ok e
      rw [List.length_drop] at k2
      exact ⟨k1, k2⟩
    have hR0 : 0 < runL (s.drop i) ↔ isLD s[i] = true := by
      rw [hd, runL_cons]
      cases isLD s[i] <;> simp
    have hR1 : s[i] = 95 → ((s.drop i).take (runL (s.drop i)) = [95] ↔ runL (s.drop i) = 1) := by
      intro e
      have hpos : 0 < runL (s.drop i) := hR0.2 (by rw [e]; rfl)
      constructor
      · intro h1
        have h2 : min (runL (s.drop i)) (s.drop i).length = 1 := by rw [← List.length_take, h1]; rfl
        have h3 := runL_le (s.drop i)
        omega
      · intro h1; rw [h1, hd, e]; rfl
    have hR2 : s[i] ≠ 95 → (s.drop i).take (runL (s.drop i)) ≠ [95] := by
      intro e h1
      cases hr : runL (s.drop i) with
      | zero => rw [hr] at h1; simp at h1
      | succ n => rw [hr, hd, List.take_succ_cons] at h1; injection h1 with h1 _; exact e h1
    have hrl := runL_le (s.drop i)
    have hszl := szL_le (s.drop i)
    rw [List.length_drop] at hrl hszl
    have bl : ∀ (n : Nat), n ≤ s.length - i → ∀ (z : Int), z = ((i + n : Nat) : Int) → ∀ H : Hp, evF (pgL fx) n_ref11_blank [str s, i64 z] H = some (i64 ((i + n + skipA false (s.drop (i + n)) : Nat)), H) := by
      intro n hn z hz H
      rw [hz]; exact blank_ev _ _ hs _ (by omega)
    have ew1 : IntKind.i64.wrap ((i : Int) + 1) = (i : Int) + 1 := i64w (by omega)
    generalize hR : runL (s.drop i) = R at *
    refine idx_of hlt ?_
    -- is it '_' alone?
    have hal : (decide ((s[i].toNat : Int) = 95) && decide (((i + R : Nat) : Int) = IntKind.i64.wrap ((i : Int) + 1))) = decide (s[i] = 95 ∧ R = 1) := by
      rw [ew1, ← Bool.decide_and]
      simp only [decide_eq_decide, u8eq]
      constructor
      · rintro ⟨h1, h2⟩; exact ⟨by show s[i].toNat = 95; omega, by omega⟩
      · rintro ⟨h1, h2⟩; have h3 : s[i].toNat = 95 := h1; exact ⟨by omega, by omega⟩
    have tail : ∀ al : Bool, al = decide (s[i] = 95 ∧ R = 1) → True := fun _ _ => trivial
    clear tail
    refine And.intro (fun ha => ?_) (fun ha => ?_)
    · refine Exists.intro _ (Exists.intro _ (And.intro (rrun_ev _ _ i (by omega) hs) ?_))
      rw [hR]
      refine idx_of hlt ?_
      refine Exists.intro _ (Exists.intro _ (And.intro (rdigit_ev _ _) ?_))
      refine And.intro (fun h4 => ?_) (fun h4 => ?_)
      · have hpos : 0 < R := hR0.2 (by unfold isLD; rw [h4, Bool.or_true])
        have hbr : 0 < R ∧ isD (hd0 (s.drop i)) = true := ⟨hpos, by rw [hh0]; exact h4⟩
        have hnum := fun H : Hp => numbered_ev (fx := fx) H s hs i (by omega)
        unfold numbR at hnum
        rw [hR] at hnum
        cases hb : numB ((s.drop i).take R) with
        | true =>
          simp only [hb, if_true] at hnum
          have hT : tokL szL (s.drop i) = ⟨3, (s.drop i).take R, valD ((s.drop i).take R), R, 0⟩ := by
            unfold tokL; rw [hR, if_pos hbr, if_pos hb]
          refine Exists.intro _ (Exists.intro _ (And.intro (hnum _) ?_))
          refine and_f rfl ?_
          have hn := hn (by rw [hT])
          rw [hT] at hn
          have hk := hk (by rw [hT])
          rw [hT] at hk
          simp only at hn hk
          have hsl := skipA_le false (s.drop (i + R))
          rw [List.length_drop] at hsl
          refine And.intro ⟨rfl, by decide⟩ ?_
          refine And.intro ⟨rfl, by simp, ⟨by simp; omega, by simp; omega⟩⟩ ?_
          refine Exists.intro _ (Exists.intro _ (And.intro (bl R (by omega) _ rfl _) ?_))
          refine ⟨(_, _), hn, by simp only; omega, ?_, ?_⟩
          · simp
          · simp [Tok.D, tkD, dg0]
        | false =>
          simp only [hb, if_false, Bool.false_eq_true] at hnum
          have hT : tokL szL (s.drop i) = ⟨0, [], 0, R, 112⟩ := by
            unfold tokL; rw [hR, if_pos hbr, if_neg (by rw [hb]; simp)]
          refine Exists.intro _ (Exists.intro _ (And.intro (hnum _) ?_))
          refine and_t rfl ?_
          show _ = _
          rw [hx (by rw [hT]; simp), hT]
          simp only [oneOf, toksR, dgD, List.map_nil, Int.natCast_add]
          try rfl
      · refine idx_of hlt ?_
        refine Exists.intro _ (Exists.intro _ (And.intro (rletter_ev _ _) ?_))
        have h95 : s[i] = 95 := by rw [u8eq]; show s[i].toNat = 95; have := of_decide_eq_true ha; omega
        have hLt : isL s[i] = true := by rw [h95]; rfl
        rw [hLt]
        refine And.intro (fun _ => ?_) (fun e => by cases e)
        by_cases hR1' : R = 1
        · have hnm : ¬ (0 < R ∧ (s.drop i).take R ≠ [95]) := fun e => e.2 ((hR1 h95).2 hR1')
          refine and_f (by simp [ew1, hR1']) ?_
          have hnb : ¬ (0 < R ∧ isD (hd0 (s.drop i)) = true) := by rw [hh0, h4]; simp
          refine Exists.intro _ (Exists.intro _ (And.intro (rsign_ev _ s i hlt (by omega)) ?_))
          by_cases hsg : signL (s.drop i) = []
          · have hT : tokL szL (s.drop i) = ⟨0, [], 0, szL (s.drop i), 111⟩ := by
              unfold tokL; rw [hR, if_neg hnb, if_neg hnm, if_neg (fun e => e hsg)]
            refine and_f (by simp [hsg]) ?_
            refine Exists.intro _ (Exists.intro _ (And.intro (size_ev _ s hs2 i hlt) ?_))
            refine Exists.intro _ (Exists.intro _ (And.intro (diag_ev _ 111 _ _) ?_))
            rw [show IntKind.i64.wrap ((i : Int) + (szL (s.drop i) : Int)) = ((i + szL (s.drop i) : Nat) : Int) by rw [i64w (by omega)]; omega]
            refine and_t rfl ?_
            show _ = _
            rw [hx (by rw [hT]; simp), hT]
            simp only [oneOf, toksR, dgD, List.map_nil, Int.natCast_add]
            try rfl
          · have hT : tokL szL (s.drop i) = ⟨4, signL (s.drop i), 0, (signL (s.drop i)).length, 0⟩ := by
              unfold tokL; rw [hR, if_neg hnb, if_neg hnm, if_pos hsg]
            have hsl2 : (signL (s.drop i)).length ≤ s.length - i := by have := hk (by rw [hT]); rw [hT] at this; exact this.2
            refine and_t (by simp [hsg]) ?_
            refine Exists.intro _ (Exists.intro _ (And.intro (rsign_ev _ s i hlt (by omega)) ?_))
            have ews : IntKind.i64.wrap ((i : Int) + ((signL (s.drop i)).length : Int)) = ((i + (signL (s.drop i)).length : Nat) : Int) := by rw [i64w (by omega)]; omega
            refine and_f rfl ?_
            have hn := hn (by rw [hT])
            rw [hT] at hn
            have hk := hk (by rw [hT])
            rw [hT] at hk
            simp only at hn hk
            have hsl := skipA_le false (s.drop (i + (signL (s.drop i)).length))
            rw [List.length_drop] at hsl
            refine And.intro ⟨rfl, by decide⟩ ?_
            refine And.intro ⟨rfl, by simp, ⟨by simp; omega, by simp; omega⟩⟩ ?_
            refine Exists.intro _ (Exists.intro _ (And.intro (bl (signL (s.drop i)).length hsl2 _ ews _) ?_))
            refine ⟨(_, _), hn, by simp only; omega, ?_, ?_⟩
            · simp
            · simp [Tok.D, tkD, dg0, ews]
        · have hnm : 0 < R ∧ (s.drop i).take R ≠ [95] := ⟨hR0.2 (by rw [h95]; rfl), fun e => hR1' ((hR1 h95).1 e)⟩
          refine and_t (by simp [ew1]; omega) ?_
          have hnb : ¬ (0 < R ∧ isD (hd0 (s.drop i)) = true) := by rw [hh0, h4]; simp
          have hnam := fun H : Hp => named_ev (fx := fx) H s hs i (by omega)
          unfold namR at hnam
          rw [hR] at hnam
          by_cases h64 : 64 < R
          · simp only [h64, if_true] at hnam
            have hT : tokL szL (s.drop i) = ⟨0, [], 0, R, 2⟩ := by
              unfold tokL; rw [hR, if_neg hnb, if_pos hnm, if_pos h64]
            refine Exists.intro _ (Exists.intro _ (And.intro (hnam _) ?_))
            refine and_t rfl ?_
            show _ = _
            rw [hx (by rw [hT]; simp), hT]
            simp only [oneOf, toksR, dgD, List.map_nil, Int.natCast_add]
            try rfl
          · simp only [h64, if_false] at hnam
            have hT : tokL szL (s.drop i) = ⟨if wordB ((s.drop i).take R) then 2 else 1, (s.drop i).take R, 0, R, 0⟩ := by
              unfold tokL; rw [hR, if_neg hnb, if_pos hnm, if_neg h64]
            refine Exists.intro _ (Exists.intro _ (And.intro (hnam _) ?_))
            refine and_f rfl ?_
            have hn := hn (by rw [hT])
            rw [hT] at hn
            have hk := hk (by rw [hT])
            rw [hT] at hk
            simp only at hn hk
            have hsl := skipA_le false (s.drop (i + R))
            rw [List.length_drop] at hsl
            refine And.intro ⟨rfl, by decide⟩ ?_
            refine And.intro ⟨rfl, by simp, ⟨by simp; omega, by simp; omega⟩⟩ ?_
            refine Exists.intro _ (Exists.intro _ (And.intro (bl R (by omega) _ rfl _) ?_))
            refine ⟨(_, _), hn, by simp only; omega, ?_, ?_⟩
            · simp
            · simp [Tok.D, tkD, dg0]
    · refine idx_of hlt ?_
      refine Exists.intro _ (Exists.intro _ (And.intro (rdigit_ev _ _) ?_))
      refine And.intro (fun h4 => ?_) (fun h4 => ?_)
      · have hpos : 0 < R := hR0.2 (by unfold isLD; rw [h4, Bool.or_true])
        have hbr : 0 < R ∧ isD (hd0 (s.drop i)) = true := ⟨hpos, by rw [hh0]; exact h4⟩
        have hnum := fun H : Hp => numbered_ev (fx := fx) H s hs i (by omega)
        unfold numbR at hnum
        rw [hR] at hnum
        cases hb : numB ((s.drop i).take R) with
        | true =>
          simp only [hb, if_true] at hnum
          have hT : tokL szL (s.drop i) = ⟨3, (s.drop i).take R, valD ((s.drop i).take R), R, 0⟩ := by
            unfold tokL; rw [hR, if_pos hbr, if_pos hb]
          refine Exists.intro _ (Exists.intro _ (And.intro (hnum _) ?_))
          refine and_f rfl ?_
          have hn := hn (by rw [hT])
          rw [hT] at hn
          have hk := hk (by rw [hT])
          rw [hT] at hk
          simp only at hn hk
          have hsl := skipA_le false (s.drop (i + R))
          rw [List.length_drop] at hsl
          refine And.intro ⟨rfl, by decide⟩ ?_
          refine And.intro ⟨rfl, by simp, ⟨by simp; omega, by simp; omega⟩⟩ ?_
          refine Exists.intro _ (Exists.intro _ (And.intro (bl R (by omega) _ rfl _) ?_))
          refine ⟨(_, _), hn, by simp only; omega, ?_, ?_⟩
          · simp
          · simp [Tok.D, tkD, dg0]
        | false =>
          simp only [hb, if_false, Bool.false_eq_true] at hnum
          have hT : tokL szL (s.drop i) = ⟨0, [], 0, R, 112⟩ := by
            unfold tokL; rw [hR, if_pos hbr, if_neg (by rw [hb]; simp)]
          refine Exists.intro _ (Exists.intro _ (And.intro (hnum _) ?_))
          refine and_t rfl ?_
          show _ = _
          rw [hx (by rw [hT]; simp), hT]
          simp only [oneOf, toksR, dgD, List.map_nil, Int.natCast_add]
          try rfl
      · refine idx_of hlt ?_
        refine Exists.intro _ (Exists.intro _ (And.intro (rletter_ev _ _) ?_))
        have h95 : s[i] ≠ 95 := by rw [ne_eq, u8eq]; show ¬ s[i].toNat = 95; have := of_decide_eq_false ha; omega
        cases hLt : isL s[i] with
        | true =>
          have hnm : 0 < R ∧ (s.drop i).take R ≠ [95] := ⟨hR0.2 (by unfold isLD; rw [hLt, Bool.true_or]), hR2 h95⟩
          repeat' (first | refine and_t rfl ?_ | refine And.intro (fun _ => ?_) (fun e => by cases e))
          have hnb : ¬ (0 < R ∧ isD (hd0 (s.drop i)) = true) := by rw [hh0, h4]; simp
          have hnam := fun H : Hp => named_ev (fx := fx) H s hs i (by omega)
          unfold namR at hnam
          rw [hR] at hnam
          by_cases h64 : 64 < R
          · simp only [h64, if_true] at hnam
            have hT : tokL szL (s.drop i) = ⟨0, [], 0, R, 2⟩ := by
              unfold tokL; rw [hR, if_neg hnb, if_pos hnm, if_pos h64]
            refine Exists.intro _ (Exists.intro _ (And.intro (hnam _) ?_))
            refine and_t rfl ?_
            show _ = _
            rw [hx (by rw [hT]; simp), hT]
            simp only [oneOf, toksR, dgD, List.map_nil, Int.natCast_add]
            try rfl
          · simp only [h64, if_false] at hnam
            have hT : tokL szL (s.drop i) = ⟨if wordB ((s.drop i).take R) then 2 else 1, (s.drop i).take R, 0, R, 0⟩ := by
              unfold tokL; rw [hR, if_neg hnb, if_pos hnm, if_neg h64]
            refine Exists.intro _ (Exists.intro _ (And.intro (hnam _) ?_))
            refine and_f rfl ?_
            have hn := hn (by rw [hT])
            rw [hT] at hn
            have hk := hk (by rw [hT])
            rw [hT] at hk
            simp only at hn hk
            have hsl := skipA_le false (s.drop (i + R))
            rw [List.length_drop] at hsl
            refine And.intro ⟨rfl, by decide⟩ ?_
            refine And.intro ⟨rfl, by simp, ⟨by simp; omega, by simp; omega⟩⟩ ?_
            refine Exists.intro _ (Exists.intro _ (And.intro (bl R (by omega) _ rfl _) ?_))
            refine ⟨(_, _), hn, by simp only; omega, ?_, ?_⟩
            · simp
            · simp [Tok.D, tkD, dg0]
        | false =>
          have hnm : ¬ (0 < R ∧ (s.drop i).take R ≠ [95]) := fun e => by
            have := hR0.1 e.1
            unfold isLD at this; rw [hLt, h4] at this; cases this
          repeat' (first | refine and_f rfl ?_ | refine And.intro (fun e => by cases e) (fun _ => ?_))
          have hnb : ¬ (0 < R ∧ isD (hd0 (s.drop i)) = true) := by rw [hh0, h4]; simp
          refine Exists.intro _ (Exists.intro _ (And.intro (rsign_ev _ s i hlt (by omega)) ?_))
          by_cases hsg : signL (s.drop i) = []
          · have hT : tokL szL (s.drop i) = ⟨0, [], 0, szL (s.drop i), 111⟩ := by
              unfold tokL; rw [hR, if_neg hnb, if_neg hnm, if_neg (fun e => e hsg)]
            refine and_f (by simp [hsg]) ?_
            refine Exists.intro _ (Exists.intro _ (And.intro (size_ev _ s hs2 i hlt) ?_))
            refine Exists.intro _ (Exists.intro _ (And.intro (diag_ev _ 111 _ _) ?_))
            rw [show IntKind.i64.wrap ((i : Int) + (szL (s.drop i) : Int)) = ((i + szL (s.drop i) : Nat) : Int) by rw [i64w (by omega)]; omega]
            refine and_t rfl ?_
            show _ = _
            rw [hx (by rw [hT]; simp), hT]
            simp only [oneOf, toksR, dgD, List.map_nil, Int.natCast_add]
            try rfl
          · have hT : tokL szL (s.drop i) = ⟨4, signL (s.drop i), 0, (signL (s.drop i)).length, 0⟩ := by
              unfold tokL; rw [hR, if_neg hnb, if_neg hnm, if_pos hsg]
            have hsl2 : (signL (s.drop i)).length ≤ s.length - i := by have := hk (by rw [hT]); rw [hT] at this; exact this.2
            refine and_t (by simp [hsg]) ?_
            refine Exists.intro _ (Exists.intro _ (And.intro (rsign_ev _ s i hlt (by omega)) ?_))
            have ews : IntKind.i64.wrap ((i : Int) + ((signL (s.drop i)).length : Int)) = ((i + (signL (s.drop i)).length : Nat) : Int) := by rw [i64w (by omega)]; omega
            refine and_f rfl ?_
            have hn := hn (by rw [hT])
            rw [hT] at hn
            have hk := hk (by rw [hT])
            rw [hT] at hk
            simp only at hn hk
            have hsl := skipA_le false (s.drop (i + (signL (s.drop i)).length))
            rw [List.length_drop] at hsl
            refine And.intro ⟨rfl, by decide⟩ ?_
            refine And.intro ⟨rfl, by simp, ⟨by simp; omega, by simp; omega⟩⟩ ?_
            refine Exists.intro _ (Exists.intro _ (And.intro (bl (signL (s.drop i)).length hsl2 _ ews _) ?_))
            refine ⟨(_, _), hn, by simp only; omega, ?_, ?_⟩
            · simp
            · simp [Tok.D, tkD, dg0, ews]
  · replace hl := of_decide_eq_false hl
    have hf := hh.fin (by omega)
    refine And.intro ⟨rfl, by decide⟩ ?_
    refine And.intro ⟨rfl, by simp, ⟨by simp; omega, by simp; omega⟩⟩ ?_
    refine And.intro (by simp) ?_
    show _ = _
    rw [hf]
    simp [oneOf, toksR, dgD, Tok.D, tkD, Dg.ok]
end
end Go.Vm.Lex
