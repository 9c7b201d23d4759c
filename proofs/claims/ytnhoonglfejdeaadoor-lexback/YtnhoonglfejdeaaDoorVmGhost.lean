import Derived.Test.YtnhoonglfejdeaaDoorVmDrawAll
set_option linter.unusedSimpArgs false
set_option linter.unusedVariables false
namespace Go.Vm
section
variable {P : Program} {cx : Cx} {g : Gh} {w : World} {H : Hp}

/-- What is said of the heap alone, the world and all that is known of it standing. -/
theorem newrow_sound {orc : Orc} {lp : Lp} {N sz t : Nat} {s s' : St} {x : Ex} {a : Act} (hN : t < N) (h : evC cx orc lp (.newrow sz t) s = some (x, s')) (ok : StOk cx N g s a w) :
    x = .nrm ∧ StOk cx N g s' a w ∧ Ext s.b g s.h w g s'.h w ∧ s'.b = s.b := by
  simp only [evC] at h
  split at h
  · rename_i hv
    split at h
    · rename_i hsz
      cases h
      have hI := ok.inv
      obtain ⟨e1, e2⟩ := ok.env.2 t hN
      rw [hv] at e1
      simp only [Rep] at e1
      have hout : ∀ p, g.J s.h.length ≠ some p := fun p hp => by have := (hI.dom _ p.1 p.2 hp).1; omega
      have hext : Ext s.b g s.h w g (s.h ++ [.row sz []]) w := ⟨rfl, rfl, rfl, Nat.le_refl _, fun _ _ _ => ⟨rfl, rfl⟩, keep_snoc _ _ _ _ _ (Nat.le_refl _) (fun _ => List.prefix_refl _) (fun _ _ => rfl), fun i _ c h _ => ⟨i, c, h⟩, fun n hn hc => clean_snoc (by have := ok.base; omega) hc, by simp⟩
      refine ⟨rfl, ⟨?_, ?_, ok.defers, by have := ok.base; simp; omega⟩, hext, rfl⟩
      · refine ⟨hI.inj, fun i b c hj => ⟨by simp; have := (hI.dom i b c hj).1; omega, (hI.dom i b c hj).2⟩, fun i b c o hj ho => ?_, hI.imm, ?_, hI.glob, hI.fix⟩
        · have hi := (hI.dom i b c hj).1
          rw [get_snoc _ _ i hi] at ho
          exact (hI.ob i b c o hj ho).ext hext.keep.w rfl rfl (by rintro c' rfl; exact hI.und i c' hi ho)
        · intro i c hi ho
          by_cases hlt : i < s.h.length
          · rw [get_snoc _ _ i hlt] at ho
            exact undL_le (by simp) _ (hI.und i c hlt ho)
          · have : i = s.h.length := by simp at hi; omega
            subst this
            rw [get_last] at ho
            cases ho
      · have := (ok.env.ext hext).put (d := some t) (v := .row s.h.length 0) (x := a.tmps.getD t undef) (fun k hk => by cases hk; exact hN) (by
          simp only [Rep]
          exact ⟨none, 0, sz, [], e1, get_last _ _, by simp, fun _ => .inl (by simp)⟩) (by simp [V.und])
        have e3 : setT (some t) (a.tmps.getD t undef) a.tmps = a.tmps := by
          simp only [setT]
          apply Array.ext
          · simp
          · intro i h1 h2
            by_cases hti : t = i
            · subst hti; simp [Array.getD, h2]
            · rw [Array.getElem_setIfInBounds_ne h2 hti]
        rw [e3] at this
        exact this
    · cases h
  · cases h

theorem RepVs_set {l : List V} {vs : List Value} (r : RepVs g H l vs) {k : Nat} {v : V} {y : Value} (hy : vs[k]? = some y) (h1 : v.one = true) (h2 : Rep g H v y) : RepVs g H (l.set k v) vs := by
  induction l generalizing vs k with
  | nil => simpa using r
  | cons x xs ih =>
    simp only [RepVs] at r
    obtain ⟨z, zs, rfl, r1, r2, r3⟩ := r
    cases k with
    | zero =>
      simp only [List.getElem?_cons_zero, Option.some.injEq] at hy
      subst hy
      simp only [List.set_cons_zero, RepVs]
      exact ⟨_, _, rfl, h1, h2, r3⟩
    | succ k =>
      simp only [List.getElem?_cons_succ] at hy
      simp only [List.set_cons_succ, RepVs]
      exact ⟨_, _, rfl, r1, r2, ih r3 hy⟩

theorem undL_set {n : Nat} : ∀ {l : List V} (k : Nat) {v : V}, undL n l = true → v.und n = true → undL n (l.set k v) = true
  | [], k, v, _, _ => by cases k <;> rfl
  | x :: xs, 0, v, h, hv => by simp only [undL, Bool.and_eq_true] at h; simp only [List.set_cons_zero, undL, hv, h.2, Bool.and_self]
  | x :: xs, k + 1, v, h, hv => by simp only [undL, Bool.and_eq_true] at h; simp only [List.set_cons_succ, undL, h.1, undL_set k h.2 hv, Bool.and_self]

theorem bindrow_sound {orc : Orc} {lp : Lp} {N sz t off : Nat} {s s' : St} {x : Ex} {a : Act} (hN : t < N) (h : evC cx orc lp (.bindrow sz t off) s = some (x, s')) (ok : StOk cx N g s a w) :
    x = .nrm ∧ StOk cx N g s' a w ∧ Ext s.b g s.h w g s'.h w ∧ s'.b = s.b := by
  simp only [evC] at h
  split at h
  · rename_i id o hv
    split at h
    · rename_i c hc
      split at h
      · rename_i hnil
        split at h
        · rename_i hb
          cases h
          have hI := ok.inv
          have hid := (List.getElem?_eq_some_iff.1 hc).1
          -- the heap's two steps in one
          generalize hH' : s.h.set id (.box (c.set (o + off) (.row s.h.length 0))) ++ [Ob.row sz []] = H'
          have hlen : H'.length = s.h.length + 1 := by rw [← hH']; simp
          have hold : ∀ i, i < s.h.length → i ≠ id → H'[i]? = s.h[i]? := fun i hi hne => by
            rw [← hH', List.getElem?_append_left (by simpa using hi), List.getElem?_set_ne (Ne.symm hne)]
          have hself : H'[id]? = some (.box (c.set (o + off) (.row s.h.length 0))) := by
            rw [← hH', List.getElem?_append_left (by simpa using hid), List.getElem?_set_self hid]
          have hlast : H'[s.h.length]? = some (.row sz []) := by rw [← hH']; simp
          have hkeep : Keep s.h.length g s.h g H' := by
            refine ⟨fun _ => List.prefix_refl _, fun i ob hi ho hr => ⟨rfl, ?_⟩, fun i sz' l hi ho => ?_⟩
            · by_cases he : i = id
              · subst he; exact ⟨_, hself, by simp⟩
              · exact ⟨ob, by rw [hold i hi he]; exact ho, hr⟩
            · by_cases he : i = id
              · subst he; rw [hc] at ho; cases ho
              · exact ⟨l, by rw [hold i hi he]; exact ho, List.prefix_refl _, fun _ => rfl⟩
          have hund : Clean H'.length H' := by
            intro i ci hi ho
            by_cases he : i = id
            · subst he
              rw [hself] at ho
              cases ho
              exact undL_set _ (undL_le (by omega) _ (hI.und i c hid hc)) (by simp [V.und, hlen])
            · by_cases hlt : i < s.h.length
              · rw [hold i hlt he] at ho
                exact undL_le (by omega) _ (hI.und i ci hlt ho)
              · have : i = s.h.length := by have hi' : i < H'.length := hi; omega
                rw [this, hlast] at ho; cases ho
          have hext : Ext s.b g s.h w g H' w := ⟨rfl, rfl, rfl, Nat.le_refl _, fun _ _ _ => ⟨rfl, rfl⟩, hkeep, fun i _ c h _ => ⟨i, c, h⟩, fun n hn hcl => by
            intro i ci hi ho
            have hbs := ok.base
            rw [hold i (by omega) (by omega)] at ho
            exact hcl i ci hi ho, by omega⟩
          refine ⟨rfl, ⟨?_, ok.env.ext hext, ok.defers, by have := ok.base; show s.b ≤ H'.length; omega⟩, hext, rfl⟩
          refine ⟨hI.inj, fun i b c hj => ⟨by have := (hI.dom i b c hj).1; show i < H'.length; omega, (hI.dom i b c hj).2⟩, fun i b cap ob hj ho => ?_, hI.imm, hund, hI.glob, hI.fix⟩
          have hi := (hI.dom i b cap hj).1
          by_cases he : i = id
          · subst he
            rw [hself] at ho
            cases ho
            have hob := hI.ob i b cap _ hj hc
            obtain ⟨cur, e, q1, q2, q3⟩ := hob
            have r1 := RepVs_keep hkeep.w c _ (hI.und i c hid hc) q2
            refine ⟨cur, e, q1, ?_, q3⟩
            obtain ⟨y, y1, y2, y3⟩ := RepVs_get q2 hnil
            simp only [Rep] at y3
            refine RepVs_set r1 y1 rfl ?_
            simp only [Rep]
            exact ⟨none, 0, sz, [], y3, hlast, by simp, fun _ => .inl (by simp)⟩
          · rw [hold i hi he] at ho
            exact (hI.ob i b cap ob hj ho).ext hkeep.w rfl rfl (by rintro c' rfl; exact hI.und i c' hi ho)
        · cases h
      · cases h
    · cases h
  · cases h

theorem freeze_sound {orc : Orc} {lp : Lp} {N t : Nat} {s s' : St} {x : Ex} {a : Act} (h : evC cx orc lp (.freeze t) s = some (x, s')) (ok : StOk cx N g s a w) :
    x = .nrm ∧ ∃ g', StOk cx N g' s' a w ∧ Ext s.b g s.h w g' s'.h w ∧ s'.b = s.b := by
  simp only [evC] at h
  split at h
  · rename_i id o l hv
    split at h
    · rename_i c hc
      split at h
      · rename_i ds hds
        cases h
        have hI := ok.inv
        have hid := (List.getElem?_eq_some_iff.1 hc).1
        have hold : ∀ i, i ≠ id → (s.h.set id (.frz ds))[i]? = s.h[i]? := fun i hne => List.getElem?_set_ne (Ne.symm hne)
        have hself : (s.h.set id (.frz ds))[id]? = some (.frz ds) := List.getElem?_set_self hid
        have hclean : ∀ n, Clean n s.h → Clean n (s.h.set id (.frz ds)) := by
          intro n hcl i ci hi ho
          by_cases he : i = id
          · subst he; rw [hself] at ho; cases ho
          · rw [hold i he] at ho; exact hcl i ci hi ho
        have hrow : ∀ (i sz : Nat) (l : List D), s.h[i]? = some (Ob.row sz l) → (s.h.set id (.frz ds))[i]? = some (Ob.row sz l) := by
          intro i sz l ho
          by_cases he : i = id
          · subst he; rw [hc] at ho; cases ho
          · rw [hold i he]; exact ho
        have hobj : ∀ (i : Nat) (ob : Ob), s.h[i]? = some ob → (∀ sz l, ob ≠ .row sz l) → ∃ o', (s.h.set id (.frz ds))[i]? = some o' ∧ ∀ sz l, o' ≠ .row sz l := by
          intro i ob ho hr
          by_cases he : i = id
          · subst he; exact ⟨_, hself, by simp⟩
          · exact ⟨ob, by rw [hold i he]; exact ho, hr⟩
        cases hj : g.J id with
        | none =>
          have hkeep : Keep s.h.length g s.h g (s.h.set id (.frz ds)) := ⟨fun _ => List.prefix_refl _, fun i ob hi ho hr => ⟨rfl, hobj i ob ho hr⟩, fun i sz l hi ho => ⟨l, hrow i sz l ho, List.prefix_refl _, fun _ => rfl⟩⟩
          have hext : Ext s.b g s.h w g (s.h.set id (.frz ds)) w := ⟨rfl, rfl, rfl, Nat.le_refl _, fun _ _ _ => ⟨rfl, rfl⟩, hkeep, fun i _ c h _ => ⟨i, c, h⟩, fun n _ hcl => hclean n hcl, by simp⟩
          refine ⟨rfl, g, ⟨?_, ok.env.ext hext, ok.defers, by simpa using ok.base⟩, hext, rfl⟩
          refine ⟨hI.inj, fun i b c hj => ⟨by simpa using (hI.dom i b c hj).1, (hI.dom i b c hj).2⟩, fun i b cap ob hj' ho => ?_, hI.imm, by rw [List.length_set]; exact hclean _ hI.und, hI.glob, hI.fix⟩
          have he : i ≠ id := by rintro rfl; rw [hj] at hj'; cases hj'
          rw [hold i he] at ho
          exact (hI.ob i b cap ob hj' ho).ext hkeep.w rfl rfl (by rintro c' rfl; exact hI.und i c' (hI.dom i b cap hj').1 ho)
        | some p =>
          obtain ⟨b, cap⟩ := p
          obtain ⟨cur, e, q1, q2, q3⟩ := hI.ob id b cap _ hj hc
          have hC : ∀ b', g.C b' <+: (if b' = b then cur.toList else g.C b') := fun b' => by
            split
            · rename_i he; subst he; rw [q3]; exact List.nil_prefix
            · exact List.prefix_refl _
          generalize hg' : (⟨g.J, fun b' => if b' = b then cur.toList else g.C b'⟩ : Gh) = g'
          have hgJ : g'.J = g.J := by rw [← hg']
          have hgC : ∀ b', g.C b' <+: g'.C b' := by rw [← hg']; exact hC
          have hgb : g'.C b = cur.toList := by rw [← hg']; exact if_pos rfl
          have hgo : ∀ b', b' ≠ b → g'.C b' = g.C b' := fun b' he => by rw [← hg']; exact if_neg he
          have hkeep : Keep s.h.length g s.h g' (s.h.set id (.frz ds)) := ⟨hgC, fun i ob hi ho hr => ⟨by rw [hgJ], hobj i ob ho hr⟩, fun i sz l hi ho => ⟨l, hrow i sz l ho, List.prefix_refl _, fun _ => by rw [hgJ]⟩⟩
          have hext : Ext s.b g s.h w g' (s.h.set id (.frz ds)) w := ⟨rfl, rfl, rfl, Nat.le_refl _, fun b' _ hn => ⟨rfl, hgo b' (by rintro rfl; exact hn id cap hj)⟩, hkeep, fun i b' c h _ => ⟨i, c, by rw [← hgJ]; exact h⟩, fun n _ hcl => hclean n hcl, by simp⟩
          refine ⟨rfl, g', ⟨?_, ok.env.ext hext, ok.defers, by simpa using ok.base⟩, hext, rfl⟩
          refine ⟨by rw [hgJ]; exact hI.inj, fun i b c hj => by rw [hgJ] at hj; exact ⟨by simpa using (hI.dom i b c hj).1, (hI.dom i b c hj).2⟩, fun i b' cap' ob hj' ho => ?_, fun b' hb' => ?_, by rw [List.length_set]; exact hclean _ hI.und, fun k => ?_, hI.fix.mono fun b' _ hn => ⟨rfl, by rw [hgJ]; exact hn⟩⟩
          · rw [hgJ] at hj'
            by_cases he : i = id
            · subst he
              rw [hself] at ho
              cases ho
              rw [hj] at hj'
              cases hj'
              simp only [ObOk]
              rw [hgb]
              exact RepDs_mono hgC _ _ (allD_rep hds q2)
            · rw [hold i he] at ho
              have hbb : b' ≠ b := by rintro rfl; exact he (hI.inj _ _ _ _ _ hj' hj)
              exact (hI.ob i b' cap' ob hj' ho).ext hkeep.w rfl (hgo b' hbb) (by rintro c' rfl; exact hI.und i c' (hI.dom i b' cap' hj').1 ho)
          · by_cases hbb : b' = b
            · subst hbb; rw [hgb]; exact ⟨cur, e, _, q1, List.prefix_refl _⟩
            · rw [hgo b' hbb] at hb' ⊢; exact hI.imm b' hb'
          · obtain ⟨vs, h1, h2⟩ := hI.glob k
            exact ⟨vs, h1.trans (hgC k), RepDs_mono hgC _ _ h2⟩
      · cases h
    · cases h
  · cases h

theorem ghost_sound {orc : Orc} {lp : Lp} {N : Nat} {v : VCode} (hv : v.isGhost = true) (hN : v.okN N = true) {s s' : St} {x : Ex} {a : Act} (h : evC cx orc lp v s = some (x, s')) (ok : StOk cx N g s a w) :
    x = .nrm ∧ ∃ g', StOk cx N g' s' a w ∧ Ext s.b g s.h w g' s'.h w ∧ s'.b = s.b := by
  cases v with
  | newrow sz t =>
    obtain ⟨h1, h2, h3, h4⟩ := newrow_sound (by simpa [VCode.okN] using hN) h ok
    exact ⟨h1, g, h2, h3, h4⟩
  | bindrow sz t off =>
    obtain ⟨h1, h2, h3, h4⟩ := bindrow_sound (by simpa [VCode.okN] using hN) h ok
    exact ⟨h1, g, h2, h3, h4⟩
  | freeze t => exact freeze_sound h ok
  | _ => cases hv

/-- What is laid ahead of a region. -/
theorem seqAll_sound {orc : Orc} {lp : Lp} {N : Nat} {w : World} {a : Act} {x : Ex} {s' : St} {c : VCode} : ∀ (l : List VCode), l.all VCode.isGhost = true → (seqAll l c).okN N = true → ∀ {s : St} {g : Gh}, evC cx orc lp (seqAll l c) s = some (x, s') → StOk cx N g s a w →
    ∃ g1 s1, StOk cx N g1 s1 a w ∧ Ext s.b g s.h w g1 s1.h w ∧ s1.b = s.b ∧ evC cx orc lp c s1 = some (x, s') ∧ c.okN N = true
  | [], _, hN, s, g, h, ok => ⟨g, s, ok, Ext.refl .., rfl, h, hN⟩
  | v :: l, hl, hN, s, g, h, ok => by
    simp only [List.all_cons, Bool.and_eq_true] at hl
    simp only [seqAll, VCode.okN, Bool.and_eq_true] at hN
    simp only [seqAll, evC] at h
    cases h1 : evC cx orc lp v s with
    | none => rw [h1] at h; cases h
    | some q =>
      obtain ⟨y, s1⟩ := q
      obtain ⟨rfl, g1, ok1, e1, b1⟩ := ghost_sound hl.1 hN.1 h1 ok
      rw [h1] at h
      have h : evC cx orc lp (seqAll l c) s1 = some (x, s') := h
      obtain ⟨g2, s2, ok2, e2, b2, h2, n2⟩ := seqAll_sound l hl.2 hN.2 h ok1
      exact ⟨g2, s2, ok2, e1.trans e2 (by omega), by omega, h2, n2⟩
end
end Go.Vm
