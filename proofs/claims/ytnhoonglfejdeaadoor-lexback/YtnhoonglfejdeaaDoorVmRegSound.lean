import Derived.Test.YtnhoonglfejdeaaDoorVmOpSound
namespace Go.Vm
section
variable {P : Program} {cx : Cx} {g : Gh} {w : World}

structure StOk (cx : Cx) (N : Nat) (g : Gh) (s : St) (a : Act) (w : World) : Prop where
  inv : Inv cx g s.h w
  env : EnvOk g s.h N s.e a.tmps
  defers : a.defers = []
  base : s.b ≤ s.h.length

theorem put_tmps (a : Act) (d : Option Nat) (x : Value) : (a.put d x).tmps = setT d x a.tmps := by cases d <;> rfl
theorem put_defers (a : Act) (d : Option Nat) (x : Value) : (a.put d x).defers = a.defers := by cases d <;> rfl

theorem StOk.put {N : Nat} {s : St} {a : Act} {d : Option Nat} {v : V} {x : Value} {h' : Hp} {g' : Gh} {w' : World} (ok : StOk cx N g s a w) (hd : ∀ k, d = some k → k < N) (hI : Inv cx g' h' w') (hr : Rep g' h' v x) (hu : v.und h'.length = true) (he : Ext s.b g s.h w g' h' w') :
    StOk cx N g' ⟨putE d v s.e, h', s.b⟩ (a.put d x) w' :=
  ⟨hI, by rw [put_tmps]; exact (ok.env.ext he).put hd hr hu, by rw [put_defers]; exact ok.defers, Nat.le_trans ok.base he.len⟩

theorem StOk.put' {N : Nat} {s : St} {a : Act} {d d' : Option Nat} {v : V} {x : Value} {h' : Hp} {g' : Gh} {w' : World} (hdd : d' = d) (ok : StOk cx N g s a w) (hd : ∀ k, d = some k → k < N) (hI : Inv cx g' h' w') (hr : Rep g' h' v x) (hu : v.und h'.length = true) (he : Ext s.b g s.h w g' h' w') :
    StOk cx N g' ⟨putE d v s.e, h', s.b⟩ (a.put d' x) w' := by
  subst hdd
  exact ok.put hd hI hr hu he

theorem trOper_parts {ops : Array Oper} {co : Oper} {o : VOper} (h : trOper P ops co = some o) : trOp P co.op = some o.op ∧ o.dst = co.dst ∧ ((co.guard = none ∧ o.guard = none) ∨ ∃ j b s, co.guard = some (j, b) ∧ (ops[j]?).bind (·.dst) = some s ∧ o.guard = some (s, b)) := by
  unfold trOper at h
  split at h
  · cases h
  · rename_i v hv
    split at h
    · rename_i hg
      simp only [Option.some.injEq] at h
      subst h
      exact ⟨hv, rfl, .inl ⟨hg, rfl⟩⟩
    · rename_i j b hg
      split at h
      · rename_i s hs
        simp only [Option.some.injEq] at h
        subst h
        exact ⟨hv, rfl, .inr ⟨j, b, s, hg, hs, rfl⟩⟩
      · cases h

theorem okN_parts {N : Nat} {o : VOper} (h : o.okN N = true) : (∀ k, o.dst = some k → k < N) ∧ o.op.opds.all (Opd.lt N) = true ∧ ∀ s b, o.guard = some (s, b) → s < N := by
  unfold VOper.okN at h
  simp only [Bool.and_eq_true] at h
  obtain ⟨⟨h1, h2⟩, h3⟩ := h
  refine ⟨fun k hk => ?_, h2, fun s b hs => ?_⟩
  · rw [hk] at h1; simpa using h1
  · rw [hs] at h3; simpa using h3

theorem yielded_at {ops : Array Oper} {t : Array Value} {j s N : Nat} (hs : (ops[j]?).bind (·.dst) = some s) (hN : t.size = N) (hlt : s < N) : yielded ops t j = match t.getD s Go.undef with | .bool b => some b | _ => none := by
  unfold yielded
  rw [hs]
  have : t[s]? = some (t.getD s Go.undef) := by
    simp [Array.getD, hN, hlt]
  simp only [Option.bind_some, this]
  generalize t.getD s Go.undef = v
  cases v <;> rfl

/-- One operation of a region. -/
theorem oper_sound {orc : Orc} (hS : SOrc P cx orc) {N : Nat} {ops : Array Oper} {i : Nat} {co : Oper} (hi : ops[i]? = some co) {o : VOper} (ht : trOper P ops co = some o) (hok : o.okN N = true) {s s' : St} (h : evOper cx orc o s = some s') {a : Act} (ok : StOk cx N g s a w)
    {Q : Exit → Act → World → Prop} {K : Act → World → Prop} (hk : ∀ g' x w', StOk cx N g' s' (a.put co.dst x) w' → Ext s.b g s.h w g' s'.h w' → K (a.put co.dst x) w') : wpOp P ops Q i K a w := by
  obtain ⟨h1, h2, h3⟩ := trOper_parts ht
  obtain ⟨k1, k2, k3⟩ := okN_parts hok
  have run : ∀ r : V × Hp, evOp cx orc s.b s.e s.h o.op = some r → s' = ⟨putE o.dst r.1 s.e, r.2, s.b⟩ → co.wp P a w K Q := by
    rintro ⟨r, h'⟩ hr rfl
    refine (op_sound hS ok.inv ok.env ok.base h1 k2 hr).wp fun g' x w' i1 i2 i3 i4 => ?_
    exact hk g' x w' (ok.put' h2.symm k1 i1 i2 i3 i4) i4
  have skip : s' = ⟨putE o.dst (.tup []) s.e, s.h, s.b⟩ → K (a.put co.dst Go.undef) w := by
    rintro rfl
    exact hk g Go.undef w (ok.put' (v := .tup []) (x := Go.undef) h2.symm k1 ok.inv (by simp [Rep, RepTs, Go.undef]) (by simp [V.und, undL]) (Ext.refl ..)) (Ext.refl ..)
  unfold wpOp
  simp only [hi]
  unfold evOper at h
  rcases h3 with ⟨g1, g2⟩ | ⟨j, b, sl, g1, g2, g3⟩
  · simp only [g2, lay] at h
    obtain ⟨r, hr, rfl⟩ := Option.map_eq_some_iff.1 h
    rw [if_pos (by simp [Region.wanted, g1])]
    exact .inl (run r hr rfl)
  · simp only [g3] at h
    have hlt := k3 sl b g3
    have hy := yielded_at (t := a.tmps) g2 ok.env.1 hlt
    obtain ⟨e1, _⟩ := ok.env.2 sl hlt
    unfold grd at h
    split at h
    · rename_i t hv
      rw [hv] at e1
      have hb := rep_bool e1
      rw [hb] at hy
      split at h
      · rename_i htb
        subst htb
        obtain ⟨r, hr, rfl⟩ := Option.map_eq_some_iff.1 h
        rw [if_pos (by simp [Region.wanted, g1, hy])]
        exact .inl (run r hr rfl)
      · rename_i htb
        simp only [Option.some.injEq] at h
        rw [if_neg (by simp [Region.wanted, g1, hy, htb])]
        exact skip h.symm
    · rename_i hv
      rw [hv] at e1
      simp only [Rep, RepTs] at e1
      obtain ⟨cs, hx, hcs⟩ := e1
      rw [hx] at hy
      simp only [Option.some.injEq] at h
      rw [if_neg (by simp [Region.wanted, g1, hy])]
      exact skip h.symm
    · cases h

theorem evOper_b {orc : Orc} {v : VOper} {s s1 : St} (h1 : evOper cx orc v s = some s1) : s1.b = s.b := by
  unfold evOper at h1
  split at h1
  · obtain ⟨r, _, rfl⟩ := Option.map_eq_some_iff.1 h1; rfl
  · unfold grd at h1
    split at h1
    · split at h1
      · obtain ⟨r, _, rfl⟩ := Option.map_eq_some_iff.1 h1; rfl
      · simp only [Option.some.injEq] at h1; subst h1; rfl
    · simp only [Option.some.injEq] at h1; subst h1; rfl
    · cases h1

/-- A run of operations, in the order of the text. -/
theorem ops_sound {orc : Orc} (hS : SOrc P cx orc) {N : Nat} {ops : Array Oper} : ∀ (l : List Oper) (i : Nat) (vs : List VOper), ops.toList.drop i = l → trOpers P ops l = some vs → vs.all (VOper.okN N) = true → ∀ {g : Gh} {w : World} {s s' : St}, evOps cx orc vs s = some s' → ∀ {a : Act}, StOk cx N g s a w →
    ∀ {Q : Exit → Act → World → Prop}, (∀ g' a' w', StOk cx N g' s' a' w' → Ext s.b g s.h w g' s'.h w' → Q .normal a' w') → wpOps P ops Q (List.range' i l.length) a w
  | [], i, vs, _, ht, _, g, w, s, s', h, a, ok, Q, hq => by
    simp only [trOpers, Option.some.injEq] at ht
    subst ht
    simp only [evOps, Option.some.injEq] at h
    subst h
    exact hq g a w ok (Ext.refl ..)
  | co :: l, i, vs, hl, ht, hok, g, w, s, s', h, a, ok, Q, hq => by
    simp only [trOpers] at ht
    split at ht
    · rename_i v vs' hv hvs
      simp only [Option.some.injEq] at ht
      subst ht
      simp only [List.all_cons, Bool.and_eq_true] at hok
      simp only [evOps] at h
      cases h1 : evOper cx orc v s with
      | none => rw [h1] at h; cases h
      | some s1 =>
        rw [h1] at h
        simp only [Option.bind_some] at h
        have hi : ops[i]? = some co := by
          have := congrArg (·[0]?) hl
          simpa using this
        have hl' : ops.toList.drop (i + 1) = l := by rw [← List.drop_drop, hl]; rfl
        simp only [List.length_cons, List.range'_succ]
        rw [wpOps_cons]
        refine oper_sound hS hi hv hok.1 h1 ok fun g' x w' ok' ext' => ?_
        have hb := evOper_b h1
        refine ops_sound hS l (i + 1) vs' hl' hvs hok.2 h ok' fun g2 a2 w2 ok2 ext2 => ?_
        exact hq g2 a2 w2 ok2 (ext'.trans ext2 (by omega))
    · cases ht

theorem reg_sound {orc : Orc} (hS : SOrc P cx orc) {N : Nat} {ops : Array Oper} {id : Nat} {vs : List VOper} (ht : trOpers P ops ops.toList = some vs) (hok : vs.all (VOper.okN N) = true) {s s' : St} (h : evOps cx orc vs s = some s') {a : Act} (ok : StOk cx N g s a w)
    {Q : Exit → Act → World → Prop} (hq : ∀ g' a' w', StOk cx N g' s' a' w' → Ext s.b g s.h w g' s'.h w' → Q .normal a' w') : (Code.region id ops false).wp P Q a w := by
  apply wp_region
  have := ops_sound hS ops.toList 0 vs (by simp) ht hok h ok hq
  simpa [List.range_eq_range'] using this
end
end Go.Vm
