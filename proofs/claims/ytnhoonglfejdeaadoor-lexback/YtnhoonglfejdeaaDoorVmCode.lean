import Derived.Test.YtnhoonglfejdeaaDoorVmGhost
import Derived.Scope
import Derived.LoopN
namespace Go.Vm
section
variable {P : Program} {cx : Cx} {g : Gh} {w : World} {H : Hp}

def Ex.out : Ex → Exit
  | .nrm => .normal
  | .exit i => .exit i
  | .ret => .ret

theorem evOps_b {orc : Orc} : ∀ {l : List VOper} {s s' : St}, evOps cx orc l s = some s' → s'.b = s.b
  | [], s, s', h => by simp only [evOps, Option.some.injEq] at h; rw [h]
  | o :: l, s, s', h => by
    simp only [evOps] at h
    cases h1 : evOper cx orc o s with
    | none => rw [h1] at h; cases h
    | some s1 => rw [h1] at h; rw [evOps_b h, evOper_b h1]

theorem evDraw_b {orc : Orc} : ∀ {m : Nat} {l : List VOper} {s s' : St}, evDraw cx orc m l s = some s' → s'.b = s.b
  | 0, [], s, s', h => by simp only [evDraw, Option.some.injEq] at h; rw [h]
  | _ + 1, [], s, s', h => by simp only [evDraw, Option.some.injEq] at h; rw [h]
  | 0, o :: l, s, s', h => evOps_b h
  | m + 1, o :: l, s, s', h => by
    simp only [evDraw] at h
    cases h1 : evOper cx orc o s with
    | none => rw [h1] at h; cases h
    | some s1 =>
      rw [h1] at h
      simp only [Option.bind_some] at h
      split at h
      · rw [evDraw_b h, evOper_b h1]
      · cases h

theorem evC_b {orc : Orc} {lp : Lp} (hl : ∀ ks b s r, lp ks b s = some r → r.2.b = s.b) : ∀ {c : VCode} {s : St} {x : Ex} {s' : St}, evC cx orc lp c s = some (x, s') → s'.b = s.b := by
  intro c
  induction c with
  | skip => intro s x s' h; cases h; rfl
  | reg ops =>
    intro s x s' h; simp only [evC] at h
    obtain ⟨q, hq, he⟩ := Option.map_eq_some_iff.1 h
    cases he; exact evOps_b hq
  | draw m ops =>
    intro s x s' h; simp only [evC] at h
    obtain ⟨q, hq, he⟩ := Option.map_eq_some_iff.1 h
    cases he; exact evDraw_b hq
  | seq a b iha ihb =>
    intro s x s' h; simp only [evC] at h
    cases hx : evC cx orc lp a s with
    | none => rw [hx] at h; cases h
    | some q =>
      obtain ⟨y, s1⟩ := q
      rw [hx] at h
      cases y with
      | nrm => have h' : evC cx orc lp b s1 = some (x, s') := h; rw [ihb h', iha hx]
      | exit i => have h' : some (Ex.exit i, s1) = some (x, s') := h; cases h'; exact iha hx
      | ret => have h' : some (Ex.ret, s1) = some (x, s') := h; cases h'; exact iha hx
  | cond c a b iha ihb =>
    intro s x s' h; simp only [evC] at h
    split at h
    · split at h
      · exact iha h
      · exact ihb h
    · cases h
  | block id b ih =>
    intro s x s' h; simp only [evC] at h
    cases hx : evC cx orc lp b s with
    | none => rw [hx] at h; cases h
    | some q =>
      obtain ⟨y, s1⟩ := q
      rw [hx] at h
      cases y with
      | nrm => cases h; exact ih hx
      | ret => cases h; exact ih hx
      | exit i =>
        simp only at h
        split at h <;> (cases h; exact ih hx)
  | scope b ih => intro s x s' h; simp only [evC] at h; exact ih h
  | loop k b ih =>
    intro s x s' h; simp only [evC] at h
    cases hx : evC cx orc lp b ⟨keepE k s.e, s.h, s.h.length⟩ with
    | none => rw [hx] at h; cases h
    | some q =>
      obtain ⟨y, s1⟩ := q
      rw [hx] at h
      cases y with
      | nrm => exact hl _ _ _ _ h
      | exit i => cases h; rfl
      | ret => cases h; rfl
  | exit i => intro s x s' h; cases h; rfl
  | ret => intro s x s' h; cases h; rfl
  | newrow a b =>
    intro s x s' h; simp only [evC] at h
    split at h
    · split at h
      · cases h; rfl
      · cases h
    · cases h
  | bindrow a b c =>
    intro s x s' h; simp only [evC] at h
    split at h
    · split at h
      · split at h
        · split at h
          · cases h; rfl
          · cases h
        · cases h
      · cases h
    · cases h
  | freeze a =>
    intro s x s' h; simp only [evC] at h
    split at h
    · split at h
      · split at h
        · cases h; rfl
        · cases h
      · cases h
    · cases h

theorem getE_cut (n : Nat) (e : Env) (t : Nat) : getE (cut n e) t = if (getE e t).und n = true then getE e t else .undef := by
  induction e with
  | nil => exact (if_pos rfl).symm
  | cons p r ih =>
    obtain ⟨k, v⟩ := p
    simp only [cut, List.map_cons, getE] at ih ⊢
    by_cases hk : k = t
    · simp [hk]
    · simp only [if_neg hk]
      exact ih

/-- The heap's foot alone is kept. -/
theorem Ext.cut {nb n : Nat} {g' : Gh} {H' : Hp} {w' : World} (h : Ext nb g H w g' H' w') (hn : n = H.length) (hnb : nb ≤ n) : Ext nb g H w (g'.cut n) (H'.take n) w' := by
  have hlen := h.len
  have hget : ∀ i, i < n → (H'.take n)[i]? = H'[i]? := fun i hi => by rw [List.getElem?_take, if_pos hi]
  refine ⟨h.os, h.tape, h.output, h.size, h.frame, ⟨h.keep.C, fun i o hi ho hr => ?_, fun i sz l hi ho => ?_⟩, fun i b c hj hb => h.jnew i b c (cut_some hj).2 hb, fun m hm hc i c hi ho => ?_, by rw [List.length_take]; omega⟩
  · obtain ⟨h1, o', h2, h3⟩ := h.keep.obj i o hi ho hr
    exact ⟨by rw [cut_lt (by omega)]; exact h1, o', by rw [hget i (by omega)]; exact h2, h3⟩
  · obtain ⟨l', h1, h2, h3⟩ := h.keep.row i sz l hi ho
    exact ⟨l', by rw [hget i (by omega)]; exact h1, h2, fun he => by rw [cut_lt (by omega)]; exact h3 he⟩
  · rw [hget i (by omega)] at ho
    exact h.clean m hm hc i c hi ho

/-- At a loop's head. -/
theorem StOk.keep {N : Nat} {s : St} {a : Act} {w : World} (ok : StOk cx N g s a w) (ks : List Nat) : StOk cx N g ⟨keepE ks s.e, s.h, s.h.length⟩ a w := by
  refine ⟨ok.inv, ⟨ok.env.1, fun k hk => ?_⟩, ok.defers, Nat.le_refl _⟩
  rw [getE_keepE]
  by_cases hks : k ∈ ks
  · rw [if_pos hks]; exact ok.env.2 k hk
  · rw [if_neg hks]; exact ⟨by simp [Rep], rfl⟩

/-- Back to a loop's head. -/
theorem StOk.back {N : Nat} {ks : List Nat} {s s1 : St} {g1 : Gh} {a1 : Act} {w1 : World} {b0 : Nat} (hI : Clean s.h.length s.h) (hb0 : b0 ≤ s.h.length) (ok : StOk cx N g1 s1 a1 w1) (e : Ext s.h.length g s.h w g1 s1.h w1) :
    StOk cx N (g1.cut s.h.length) ⟨cut s.h.length (keepE ks s1.e), s1.h.take s.h.length, b0⟩ a1 w1 := by
  have hlen := e.len
  have hc := e.clean s.h.length (Nat.le_refl _) hI
  refine ⟨ok.inv.restrict hlen hc, ⟨ok.env.1, fun k hk => ?_⟩, ok.defers, ?_⟩
  · rw [getE_cut]
    split
    · rename_i hu
      rw [getE_keepE] at hu ⊢
      by_cases hks : k ∈ ks
      · rw [if_pos hks] at hu ⊢
        refine ⟨Rep_keep (keepW_cut g1 s1.h s.h.length) _ _ hu (ok.env.2 k hk).1, ?_⟩
        show V.und (s1.h.take s.h.length).length _ = true
        rw [List.length_take, Nat.min_eq_left hlen]
        exact hu
      · rw [if_neg hks]
        exact ⟨by simp [Rep], rfl⟩
    · exact ⟨by simp [Rep], rfl⟩
  · show b0 ≤ (s1.h.take s.h.length).length
    rw [List.length_take, Nat.min_eq_left hlen]
    exact hb0

/-- Rounds of loops that are handed on. -/
def SLp (P : Program) (cx : Cx) (n : Nat) (lp : Lp) : Prop :=
  (∀ ks b s r, lp ks b s = some r → r.2.b = s.b) ∧
  ∀ (A : Ann) (N : Nat) (c : Code) (v : VCode) (ks : List Nat), tr P A c = some v → v.okN N = true → ∀ (g : Gh) (s : St) (a : Act) (w : World) (x : Ex) (s' : St), lp ks v s = some (x, s') → StOk cx N g s a w →
    ∀ Q : Exit → Act → World → Prop, (∀ g' a' w', StOk cx N g' s' a' w' → Ext s.b g s.h w g' s'.h w' → Q x.out a' w') → Code.rounds P c Q n a w

theorem tr_region {A : Ann} {id : Nat} {ops : Array Oper} {draw : Bool} {v : VCode} (h : tr P A (.region id ops draw) = some v) :
    ∃ vs c, trOpers P ops ops.toList = some vs ∧ v = seqAll (A.ghost id) c ∧ (A.ghost id).all VCode.isGhost = true ∧
      ((draw = true ∧ ∃ m, orderOk ops vs m = true ∧ c = .draw m vs) ∨ (draw = false ∧ c = .reg vs)) := by
  simp only [tr] at h
  split at h
  · cases h
  · rename_i vs hvs
    split at h
    · cases h
    · rename_i hg
      have hg' : (A.ghost id).all VCode.isGhost = true := by
        cases hh : (A.ghost id).all VCode.isGhost with
        | true => rfl
        | false => exact absurd hh hg
      split at h
      · rename_i hd
        split at h
        · rename_i ho
          cases h
          exact ⟨vs, _, hvs, rfl, hg', .inl ⟨hd, _, ho, rfl⟩⟩
        · cases h
      · rename_i hd
        cases h
        exact ⟨vs, _, hvs, rfl, hg', .inr ⟨by simpa using hd, rfl⟩⟩

/-- What the evaluator says of a piece of code, the code does. -/
theorem code_sound {orc : Orc} (hS : SOrc P cx orc) (hmx : P.follows .mixedOrders = true) {n : Nat} {lp : Lp} (hL : SLp P cx n lp) {A : Ann} {N : Nat} : ∀ (c : Code) (v : VCode), tr P A c = some v → v.okN N = true → ∀ {g : Gh} {s : St} {a : Act} {w : World} {x : Ex} {s' : St}, evC cx orc lp v s = some (x, s') → StOk cx N g s a w →
    ∀ {Q : Exit → Act → World → Prop}, (∀ g' a' w', StOk cx N g' s' a' w' → Ext s.b g s.h w g' s'.h w' → Q x.out a' w') → c.wp P Q a w := by
  intro c
  induction c with
  | skip =>
    intro v ht hN g s a w x s' h ok Q hq
    simp only [tr, Option.some.injEq] at ht
    subst ht
    cases h
    exact wp_skip (hq g a w ok (Ext.refl ..))
  | label l =>
    intro v ht hN g s a w x s' h ok Q hq
    simp only [tr, Option.some.injEq] at ht
    subst ht
    cases h
    exact wp_label (hq g a w ok (Ext.refl ..))
  | exit id =>
    intro v ht hN g s a w x s' h ok Q hq
    simp only [tr, Option.some.injEq] at ht
    subst ht
    cases h
    exact wp_exit (hq g a w ok (Ext.refl ..))
  | ret =>
    intro v ht hN g s a w x s' h ok Q hq
    simp only [tr, Option.some.injEq] at ht
    subst ht
    cases h
    exact wp_ret (hq g a w ok (Ext.refl ..))
  | region id ops draw =>
    intro v ht hN g s a w x s' h ok Q hq
    obtain ⟨vs, c, h1, rfl, h2, h3⟩ := tr_region ht
    obtain ⟨g1, s1, ok1, e1, b1, hc, hN1⟩ := seqAll_sound _ h2 hN h ok
    rcases h3 with ⟨rfl, m, ho, rfl⟩ | ⟨rfl, rfl⟩
    · simp only [evC] at hc
      obtain ⟨q, hq', he⟩ := Option.map_eq_some_iff.1 hc
      cases he
      exact draw_sound hS hmx h1 (by simpa [VCode.okN] using hN1) ho hq' ok1 fun g' a' w' ok' e' => hq g' a' w' ok' (e1.trans e' (by omega))
    · simp only [evC] at hc
      obtain ⟨q, hq', he⟩ := Option.map_eq_some_iff.1 hc
      cases he
      exact reg_sound hS h1 (by simpa [VCode.okN] using hN1) hq' ok1 fun g' a' w' ok' e' => hq g' a' w' ok' (e1.trans e' (by omega))
  | seq c1 c2 ih1 ih2 =>
    intro v ht hN g s a w x s' h ok Q hq
    simp only [tr] at ht
    split at ht
    · rename_i v1 v2 ht1 ht2
      cases ht
      simp only [VCode.okN, Bool.and_eq_true] at hN
      simp only [evC] at h
      apply wp_seq
      cases hx : evC cx orc lp v1 s with
      | none => rw [hx] at h; cases h
      | some q =>
        obtain ⟨y, s1⟩ := q
        rw [hx] at h
        have hb := evC_b hL.1 hx
        refine ih1 v1 ht1 hN.1 hx ok fun g1 a1 w1 ok1 e1 => ?_
        cases y with
        | nrm => exact ih2 v2 ht2 hN.2 h ok1 fun g' a' w' ok' e' => hq g' a' w' ok' (e1.trans e' (by omega))
        | exit i => have h' : some (Ex.exit i, s1) = some (x, s') := h; cases h'; exact hq g1 a1 w1 ok1 e1
        | ret => have h' : some (Ex.ret, s1) = some (x, s') := h; cases h'; exact hq g1 a1 w1 ok1 e1
    · cases ht
  | cond c c1 c2 ih1 ih2 =>
    intro v ht hN g s a w x s' h ok Q hq
    simp only [tr] at ht
    split at ht
    · rename_i vc v1 v2 hc ht1 ht2
      cases ht
      simp only [VCode.okN, Bool.and_eq_true] at hN
      simp only [evC] at h
      split at h
      · rename_i t hv
        have hr := (opd_ok ok.inv ok.env hc hN.1.1).1
        rw [hv] at hr
        refine wp_cond (rep_bool hr) ?_
        cases t with
        | true => exact ih1 v1 ht1 hN.1.2 (by simpa using h) ok hq
        | false => exact ih2 v2 ht2 hN.2 (by simpa using h) ok hq
      · cases h
    · cases ht
  | block id c ih =>
    intro v ht hN g s a w x s' h ok Q hq
    simp only [tr] at ht
    obtain ⟨v1, ht1, rfl⟩ := Option.map_eq_some_iff.1 ht
    simp only [VCode.okN] at hN
    simp only [evC] at h
    apply wp_block
    cases hx : evC cx orc lp v1 s with
    | none => rw [hx] at h; cases h
    | some q =>
      obtain ⟨y, s1⟩ := q
      rw [hx] at h
      refine ih v1 ht1 hN hx ok fun g1 a1 w1 ok1 e1 => ?_
      cases y with
      | nrm => cases h; exact hq g1 a1 w1 ok1 e1
      | ret => cases h; exact hq g1 a1 w1 ok1 e1
      | exit i =>
        simp only at h
        split at h
        · rename_i hi
          cases h
          simp only [Ex.out, Exit.inBlock, hi, if_true]
          exact hq g1 a1 w1 ok1 e1
        · rename_i hi
          cases h
          simp only [Ex.out, Exit.inBlock, hi, if_false]
          exact hq g1 a1 w1 ok1 e1
  | scope c ih =>
    intro v ht hN g s a w x s' h ok Q hq
    simp only [tr] at ht
    obtain ⟨v1, ht1, rfl⟩ := Option.map_eq_some_iff.1 ht
    simp only [VCode.okN] at hN
    simp only [evC] at h
    apply wp_scope_straight
    refine ih v1 ht1 hN h ok fun g1 a1 w1 ok1 e1 => ?_
    have := hq g1 a1 w1 ok1 e1
    cases x <;> exact this
  | loop c ih =>
    intro v ht hN g s a w x s' h ok Q hq
    simp only [tr] at ht
    obtain ⟨v1, ht1, rfl⟩ := Option.map_eq_some_iff.1 ht
    simp only [VCode.okN, Bool.and_eq_true] at hN
    simp only [evC] at h
    apply wp_loop_rounds (n + 1)
    rw [rounds_succ]
    cases hx : evC cx orc lp v1 ⟨keepE _ s.e, s.h, s.h.length⟩ with
    | none => rw [hx] at h; cases h
    | some q =>
      obtain ⟨y, s1⟩ := q
      rw [hx] at h
      refine ih v1 ht1 hN.2 hx (ok.keep _) fun g1 a1 w1 ok1 e1 => ?_
      have e1' : Ext s.b g s.h w g1 s1.h w1 := e1.le ok.base
      have hlen := e1.len
      have hbase := ok.base
      cases y with
      | nrm =>
        refine hL.2 A N c v1 _ ht1 hN.2 (g1.cut s.h.length) _ a1 w1 x s' h (StOk.back ok.inv.und ok.base ok1 e1) Q fun g' a' w' ok' e' => ?_
        exact hq g' a' w' ok' ((e1'.cut rfl ok.base).trans e' (Nat.le_refl _))
      | exit i =>
        cases h
        exact hq g1 a1 w1 ⟨ok1.inv, ok1.env, ok1.defers, by simp only at hlen ⊢; omega⟩ e1'
      | ret =>
        cases h
        exact hq g1 a1 w1 ⟨ok1.inv, ok1.env, ok1.defers, by simp only at hlen ⊢; omega⟩ e1'
  | _ => intro v ht; simp [tr] at ht
end
end Go.Vm
