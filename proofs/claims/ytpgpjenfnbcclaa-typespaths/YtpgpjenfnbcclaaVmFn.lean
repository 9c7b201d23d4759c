import Derived.Test.YtpgpjenfnbcclaaVmDrawAll
import Derived.Scope
import Derived.LoopN
set_option linter.unusedSimpArgs false
set_option linter.unusedVariables false
namespace Go.Vm
section
variable {P : Program} {cx : Cx} {g : Gh} {w : World} {H : Hp}

theorem newrow_sound {orc : Orc} {lp : Lp} {N sz t : Nat} {s s' : St} {x : Ex} {a : Act} (hN : t < N) (h : evC cx orc lp (.newrow sz t) s = some (x, s')) (ok : StOk cx N g s a w) :
    x = .nrm ∧ StOk cx N g s' a w ∧ Ext s.b g s.h w g s'.h w ∧ s'.b = s.b := by
  simp only [evC] at h
  split at h
  · rename_i hv
    split at h
    · rename_i hsz
      cases h
      have hI := ok.inv
      obtain ⟨e1, e2⟩ := ok.env.2 t hN
      rw [hv] at e1
      simp only [Rep] at e1
      have hout : ∀ p, g.J s.h.length ≠ some p := fun p hp => by have := (hI.dom _ p.1 p.2 hp).1; omega
      have hext : Ext s.b g s.h w g (s.h ++ [.row sz []]) w := ⟨rfl, rfl, rfl, Nat.le_refl _, fun _ _ _ => ⟨rfl, rfl⟩, keep_snoc _ _ _ _ _ (Nat.le_refl _) (fun _ => List.prefix_refl _) (fun _ _ => rfl), fun i _ c h _ => ⟨i, c, h⟩, fun n hn hc => clean_snoc (by have := ok.base; omega) hc, by simp⟩
      refine ⟨rfl, ⟨?_, ?_, ok.defers, by have := ok.base; simp; omega⟩, hext, rfl⟩
      · refine ⟨hI.inj, fun i b c hj => ⟨by simp; have := (hI.dom i b c hj).1; omega, (hI.dom i b c hj).2⟩, fun i b c o hj ho => ?_, hI.imm, ?_, hI.glob, hI.fix⟩
        · have hi := (hI.dom i b c hj).1
          rw [get_snoc _ _ i hi] at ho
          exact (hI.ob i b c o hj ho).ext hext.keep.w rfl rfl (by rintro c' rfl; exact hI.und i c' hi ho)
        · intro i c hi ho
          by_cases hlt : i < s.h.length
          · rw [get_snoc _ _ i hlt] at ho
            exact undL_le (by simp) _ (hI.und i c hlt ho)
          · have : i = s.h.length := by simp at hi; omega
            subst this
            rw [get_last] at ho
            cases ho
      · have := (ok.env.ext hext).put (d := some t) (v := .row s.h.length 0) (x := a.tmps.getD t undef) (fun k hk => by cases hk; exact hN) (by
          simp only [Rep]
          exact ⟨none, 0, sz, [], e1, get_last _ _, by simp, fun _ => .inl (by simp)⟩) (by simp [V.und])
        have e3 : setT (some t) (a.tmps.getD t undef) a.tmps = a.tmps := by
          simp only [setT]
          apply Array.ext
          · simp
          · intro i h1 h2
            by_cases hti : t = i
            · subst hti; simp [Array.getD, h2]
            · rw [Array.getElem_setIfInBounds_ne h2 hti]
        rw [e3] at this
        exact this
    · cases h
  · cases h

theorem RepVs_set {l : List V} {vs : List Value} (r : RepVs g H l vs) {k : Nat} {v : V} {y : Value} (hy : vs[k]? = some y) (h1 : v.one = true) (h2 : Rep g H v y) : RepVs g H (l.set k v) vs := by
  induction l generalizing vs k with
  | nil => simpa using r
  | cons x xs ih =>
    simp only [RepVs] at r
    obtain ⟨z, zs, rfl, r1, r2, r3⟩ := r
    cases k with
    | zero =>
      simp only [List.getElem?_cons_zero, Option.some.injEq] at hy
      subst hy
      simp only [List.set_cons_zero, RepVs]
      exact ⟨_, _, rfl, h1, h2, r3⟩
    | succ k =>
      simp only [List.getElem?_cons_succ] at hy
      simp only [List.set_cons_succ, RepVs]
      exact ⟨_, _, rfl, r1, r2, ih r3 hy⟩

theorem undL_set {n : Nat} : ∀ {l : List V} (k : Nat) {v : V}, undL n l = true → v.und n = true → undL n (l.set k v) = true
  | [], k, v, _, _ => by cases k <;> rfl
  | x :: xs, 0, v, h, hv => by simp only [undL, Bool.and_eq_true] at h; simp only [List.set_cons_zero, undL, hv, h.2, Bool.and_self]
  | x :: xs, k + 1, v, h, hv => by simp only [undL, Bool.and_eq_true] at h; simp only [List.set_cons_succ, undL, h.1, undL_set k h.2 hv, Bool.and_self]

theorem bindrow_sound {orc : Orc} {lp : Lp} {N sz t off : Nat} {s s' : St} {x : Ex} {a : Act} (hN : t < N) (h : evC cx orc lp (.bindrow sz t off) s = some (x, s')) (ok : StOk cx N g s a w) :
    x = .nrm ∧ StOk cx N g s' a w ∧ Ext s.b g s.h w g s'.h w ∧ s'.b = s.b := by
  simp only [evC] at h
  split at h
  · rename_i id o hv
    split at h
    · rename_i c hc
      split at h
      · rename_i hnil
        split at h
        · rename_i hb
          cases h
          have hI := ok.inv
          have hid := (List.getElem?_eq_some_iff.1 hc).1
          -- the heap's two steps in one
          generalize hH' : s.h.set id (.box (c.set (o + off) (.row s.h.length 0))) ++ [Ob.row sz []] = H'
          have hlen : H'.length = s.h.length + 1 := by rw [← hH']; simp
          have hold : ∀ i, i < s.h.length → i ≠ id → H'[i]? = s.h[i]? := fun i hi hne => by
            rw [← hH', List.getElem?_append_left (by simpa using hi), List.getElem?_set_ne (Ne.symm hne)]
          have hself : H'[id]? = some (.box (c.set (o + off) (.row s.h.length 0))) := by
            rw [← hH', List.getElem?_append_left (by simpa using hid), List.getElem?_set_self hid]
          have hlast : H'[s.h.length]? = some (.row sz []) := by rw [← hH']; simp
          have hkeep : Keep s.h.length g s.h g H' := by
            refine ⟨fun _ => List.prefix_refl _, fun i ob hi ho hr => ⟨rfl, ?_⟩, fun i sz' l hi ho => ?_⟩
            · by_cases he : i = id
              · subst he; exact ⟨_, hself, by simp⟩
              · exact ⟨ob, by rw [hold i hi he]; exact ho, hr⟩
            · by_cases he : i = id
              · subst he; rw [hc] at ho; cases ho
              · exact ⟨l, by rw [hold i hi he]; exact ho, List.prefix_refl _, fun _ => rfl⟩
          have hund : Clean H'.length H' := by
            intro i ci hi ho
            by_cases he : i = id
            · subst he
              rw [hself] at ho
              cases ho
              exact undL_set _ (undL_le (by omega) _ (hI.und i c hid hc)) (by simp [V.und, hlen])
            · by_cases hlt : i < s.h.length
              · rw [hold i hlt he] at ho
                exact undL_le (by omega) _ (hI.und i ci hlt ho)
              · have : i = s.h.length := by have hi' : i < H'.length := hi; omega
                rw [this, hlast] at ho; cases ho
          have hext : Ext s.b g s.h w g H' w := ⟨rfl, rfl, rfl, Nat.le_refl _, fun _ _ _ => ⟨rfl, rfl⟩, hkeep, fun i _ c h _ => ⟨i, c, h⟩, fun n hn hcl => by
            intro i ci hi ho
            have hbs := ok.base
            rw [hold i (by omega) (by omega)] at ho
            exact hcl i ci hi ho, by omega⟩
          refine ⟨rfl, ⟨?_, ok.env.ext hext, ok.defers, by have := ok.base; show s.b ≤ H'.length; omega⟩, hext, rfl⟩
          refine ⟨hI.inj, fun i b c hj => ⟨by have := (hI.dom i b c hj).1; show i < H'.length; omega, (hI.dom i b c hj).2⟩, fun i b cap ob hj ho => ?_, hI.imm, hund, hI.glob, hI.fix⟩
          have hi := (hI.dom i b cap hj).1
          by_cases he : i = id
          · subst he
            rw [hself] at ho
            cases ho
            have hob := hI.ob i b cap _ hj hc
            obtain ⟨cur, e, q1, q2, q3⟩ := hob
            have r1 := RepVs_keep hkeep.w c _ (hI.und i c hid hc) q2
            refine ⟨cur, e, q1, ?_, q3⟩
            obtain ⟨y, y1, y2, y3⟩ := RepVs_get q2 hnil
            simp only [Rep] at y3
            refine RepVs_set r1 y1 rfl ?_
            simp only [Rep]
            exact ⟨none, 0, sz, [], y3, hlast, by simp, fun _ => .inl (by simp)⟩
          · rw [hold i hi he] at ho
            exact (hI.ob i b cap ob hj ho).ext hkeep.w rfl rfl (by rintro c' rfl; exact hI.und i c' hi ho)
        · cases h
      · cases h
    · cases h
  · cases h

theorem mkrow_sound {orc : Orc} {lp : Lp} {N sz : Nat} {s s' : St} {x : Ex} {a : Act} (h : evC cx orc lp (.mkrow sz) s = some (x, s')) (ok : StOk cx N g s a w) :
    x = .nrm ∧ StOk cx N g s' a w ∧ Ext s.b g s.h w g s'.h w ∧ s'.b = s.b := by
  simp only [evC] at h
  split at h
  · cases h
    have hI := ok.inv
    have hext : Ext s.b g s.h w g (s.h ++ [.row sz []]) w := ⟨rfl, rfl, rfl, Nat.le_refl _, fun _ _ _ => ⟨rfl, rfl⟩, keep_snoc _ _ _ _ _ (Nat.le_refl _) (fun _ => List.prefix_refl _) (fun _ _ => rfl), fun i _ c h _ => ⟨i, c, h⟩, fun n hn hc => clean_snoc (by have := ok.base; omega) hc, by simp⟩
    refine ⟨rfl, ⟨?_, ok.env.ext hext, ok.defers, by have := ok.base; simp; omega⟩, hext, rfl⟩
    refine ⟨hI.inj, fun i b c hj => ⟨by simp; have := (hI.dom i b c hj).1; omega, (hI.dom i b c hj).2⟩, fun i b c o hj ho => ?_, hI.imm, ?_, hI.glob, hI.fix⟩
    · have hi := (hI.dom i b c hj).1
      rw [get_snoc _ _ i hi] at ho
      exact (hI.ob i b c o hj ho).ext hext.keep.w rfl rfl (by rintro c' rfl; exact hI.und i c' hi ho)
    · intro i c hi ho
      by_cases hlt : i < s.h.length
      · rw [get_snoc _ _ i hlt] at ho
        exact undL_le (by simp) _ (hI.und i c hlt ho)
      · have : i = s.h.length := by simp at hi; omega
        subst this
        rw [get_last] at ho
        cases ho
  · cases h
theorem bindto_sound {orc : Orc} {lp : Lp} {N t off k : Nat} {s s' : St} {x : Ex} {a : Act} (h : evC cx orc lp (.bindto t off k) s = some (x, s')) (ok : StOk cx N g s a w) :
    x = .nrm ∧ StOk cx N g s' a w ∧ Ext s.b g s.h w g s'.h w ∧ s'.b = s.b := by
  simp only [evC] at h
  split at h
  · rename_i id o hv
    split at h
    · rename_i c hc
      split at h
      · rename_i sz hnil hrow
        split at h
        · rename_i hk
          cases h
          have hI := ok.inv
          have hid := (List.getElem?_eq_some_iff.1 hc).1
          generalize hH' : s.h.set id (.box (c.set (o + off) (.row (id - k) 0))) = H'
          have hlen : H'.length = s.h.length := by rw [← hH']; simp
          have hold : ∀ i, i ≠ id → H'[i]? = s.h[i]? := fun i hne => by rw [← hH', List.getElem?_set_ne (Ne.symm hne)]
          have hself : H'[id]? = some (.box (c.set (o + off) (.row (id - k) 0))) := by rw [← hH', List.getElem?_set_self hid]
          have hkeep : Keep s.h.length g s.h g H' := by
            refine ⟨fun _ => List.prefix_refl _, fun i ob hi ho hr => ⟨rfl, ?_⟩, fun i sz' l hi ho => ?_⟩
            · by_cases he : i = id
              · subst he; exact ⟨_, hself, by simp⟩
              · exact ⟨ob, by rw [hold i he]; exact ho, hr⟩
            · by_cases he : i = id
              · subst he; rw [hc] at ho; cases ho
              · exact ⟨l, by rw [hold i he]; exact ho, List.prefix_refl _, fun _ => rfl⟩
          have hcl : ∀ n, id < n → undL n c = true → undL n (c.set (o + off) (.row (id - k) 0)) = true := fun n hn hu => undL_set _ hu (by simp [V.und]; omega)
          have hund : Clean H'.length H' := by
            intro i ci hi ho
            by_cases he : i = id
            · subst he
              rw [hself] at ho
              cases ho
              rw [hlen]
              exact hcl _ hid (hI.und i c hid hc)
            · rw [hold i he] at ho
              rw [hlen] at hi ⊢
              exact hI.und i ci hi ho
          have hext : Ext s.b g s.h w g H' w := ⟨rfl, rfl, rfl, Nat.le_refl _, fun _ _ _ => ⟨rfl, rfl⟩, hkeep, fun i _ c h _ => ⟨i, c, h⟩, fun n hn hcln => by
            intro i ci hi ho
            by_cases he : i = id
            · subst he
              rw [hself] at ho
              cases ho
              exact hcl n hi (hcln i c hi hc)
            · rw [hold i he] at ho
              exact hcln i ci hi ho, by omega⟩
          refine ⟨rfl, ⟨?_, ok.env.ext hext, ok.defers, by have := ok.base; show s.b ≤ H'.length; omega⟩, hext, rfl⟩
          refine ⟨hI.inj, fun i b c hj => ⟨by have := (hI.dom i b c hj).1; show i < H'.length; omega, (hI.dom i b c hj).2⟩, fun i b cap ob hj ho => ?_, hI.imm, hund, hI.glob, hI.fix⟩
          have hi := (hI.dom i b cap hj).1
          by_cases he : i = id
          · subst he
            rw [hself] at ho
            cases ho
            have hob := hI.ob i b cap _ hj hc
            obtain ⟨cur, e, q1, q2, q3⟩ := hob
            have r1 := RepVs_keep hkeep.w c _ (hI.und i c hid hc) q2
            refine ⟨cur, e, q1, ?_, q3⟩
            obtain ⟨y, y1, y2, y3⟩ := RepVs_get q2 hnil
            simp only [Rep] at y3
            refine RepVs_set r1 y1 rfl ?_
            simp only [Rep]
            exact ⟨none, 0, sz, [], y3, by rw [hold _ (by omega)]; exact hrow, by simp, fun _ => .inl (by simp)⟩
          · rw [hold i he] at ho
            exact (hI.ob i b cap ob hj ho).ext hkeep.w rfl rfl (by rintro c' rfl; exact hI.und i c' hi ho)
        · cases h
      · cases h
    · cases h
  · cases h

theorem freeze_sound {orc : Orc} {lp : Lp} {N t : Nat} {s s' : St} {x : Ex} {a : Act} (h : evC cx orc lp (.freeze t) s = some (x, s')) (ok : StOk cx N g s a w) :
    x = .nrm ∧ ∃ g', StOk cx N g' s' a w ∧ Ext s.b g s.h w g' s'.h w ∧ s'.b = s.b := by
  simp only [evC] at h
  split at h
  · rename_i id o l hv
    split at h
    · rename_i c hc
      split at h
      · rename_i ds hds
        cases h
        have hI := ok.inv
        have hid := (List.getElem?_eq_some_iff.1 hc).1
        have hold : ∀ i, i ≠ id → (s.h.set id (.frz ds))[i]? = s.h[i]? := fun i hne => List.getElem?_set_ne (Ne.symm hne)
        have hself : (s.h.set id (.frz ds))[id]? = some (.frz ds) := List.getElem?_set_self hid
        have hclean : ∀ n, Clean n s.h → Clean n (s.h.set id (.frz ds)) := by
          intro n hcl i ci hi ho
          by_cases he : i = id
          · subst he; rw [hself] at ho; cases ho
          · rw [hold i he] at ho; exact hcl i ci hi ho
        have hrow : ∀ (i sz : Nat) (l : List D), s.h[i]? = some (Ob.row sz l) → (s.h.set id (.frz ds))[i]? = some (Ob.row sz l) := by
          intro i sz l ho
          by_cases he : i = id
          · subst he; rw [hc] at ho; cases ho
          · rw [hold i he]; exact ho
        have hobj : ∀ (i : Nat) (ob : Ob), s.h[i]? = some ob → (∀ sz l, ob ≠ .row sz l) → ∃ o', (s.h.set id (.frz ds))[i]? = some o' ∧ ∀ sz l, o' ≠ .row sz l := by
          intro i ob ho hr
          by_cases he : i = id
          · subst he; exact ⟨_, hself, by simp⟩
          · exact ⟨ob, by rw [hold i he]; exact ho, hr⟩
        cases hj : g.J id with
        | none =>
          have hkeep : Keep s.h.length g s.h g (s.h.set id (.frz ds)) := ⟨fun _ => List.prefix_refl _, fun i ob hi ho hr => ⟨rfl, hobj i ob ho hr⟩, fun i sz l hi ho => ⟨l, hrow i sz l ho, List.prefix_refl _, fun _ => rfl⟩⟩
          have hext : Ext s.b g s.h w g (s.h.set id (.frz ds)) w := ⟨rfl, rfl, rfl, Nat.le_refl _, fun _ _ _ => ⟨rfl, rfl⟩, hkeep, fun i _ c h _ => ⟨i, c, h⟩, fun n _ hcl => hclean n hcl, by simp⟩
          refine ⟨rfl, g, ⟨?_, ok.env.ext hext, ok.defers, by simpa using ok.base⟩, hext, rfl⟩
          refine ⟨hI.inj, fun i b c hj => ⟨by simpa using (hI.dom i b c hj).1, (hI.dom i b c hj).2⟩, fun i b cap ob hj' ho => ?_, hI.imm, by rw [List.length_set]; exact hclean _ hI.und, hI.glob, hI.fix⟩
          have he : i ≠ id := by rintro rfl; rw [hj] at hj'; cases hj'
          rw [hold i he] at ho
          exact (hI.ob i b cap ob hj' ho).ext hkeep.w rfl rfl (by rintro c' rfl; exact hI.und i c' (hI.dom i b cap hj').1 ho)
        | some p =>
          obtain ⟨b, cap⟩ := p
          obtain ⟨cur, e, q1, q2, q3⟩ := hI.ob id b cap _ hj hc
          have hC : ∀ b', g.C b' <+: (if b' = b then cur.toList else g.C b') := fun b' => by
            split
            · rename_i he; subst he; rw [q3]; exact List.nil_prefix
            · exact List.prefix_refl _
          generalize hg' : (⟨g.J, fun b' => if b' = b then cur.toList else g.C b'⟩ : Gh) = g'
          have hgJ : g'.J = g.J := by rw [← hg']
          have hgC : ∀ b', g.C b' <+: g'.C b' := by rw [← hg']; exact hC
          have hgb : g'.C b = cur.toList := by rw [← hg']; exact if_pos rfl
          have hgo : ∀ b', b' ≠ b → g'.C b' = g.C b' := fun b' he => by rw [← hg']; exact if_neg he
          have hkeep : Keep s.h.length g s.h g' (s.h.set id (.frz ds)) := ⟨hgC, fun i ob hi ho hr => ⟨by rw [hgJ], hobj i ob ho hr⟩, fun i sz l hi ho => ⟨l, hrow i sz l ho, List.prefix_refl _, fun _ => by rw [hgJ]⟩⟩
          have hext : Ext s.b g s.h w g' (s.h.set id (.frz ds)) w := ⟨rfl, rfl, rfl, Nat.le_refl _, fun b' _ hn => ⟨rfl, hgo b' (by rintro rfl; exact hn id cap hj)⟩, hkeep, fun i b' c h _ => ⟨i, c, by rw [← hgJ]; exact h⟩, fun n _ hcl => hclean n hcl, by simp⟩
          refine ⟨rfl, g', ⟨?_, ok.env.ext hext, ok.defers, by simpa using ok.base⟩, hext, rfl⟩
          refine ⟨by rw [hgJ]; exact hI.inj, fun i b c hj => by rw [hgJ] at hj; exact ⟨by simpa using (hI.dom i b c hj).1, (hI.dom i b c hj).2⟩, fun i b' cap' ob hj' ho => ?_, fun b' hb' => ?_, by rw [List.length_set]; exact hclean _ hI.und, fun k => ?_, hI.fix.mono fun b' _ hn => ⟨rfl, by rw [hgJ]; exact hn⟩⟩
          · rw [hgJ] at hj'
            by_cases he : i = id
            · subst he
              rw [hself] at ho
              cases ho
              rw [hj] at hj'
              cases hj'
              simp only [ObOk]
              rw [hgb]
              exact RepDs_mono hgC _ _ (allD_rep hds q2)
            · rw [hold i he] at ho
              have hbb : b' ≠ b := by rintro rfl; exact he (hI.inj _ _ _ _ _ hj' hj)
              exact (hI.ob i b' cap' ob hj' ho).ext hkeep.w rfl (hgo b' hbb) (by rintro c' rfl; exact hI.und i c' (hI.dom i b' cap' hj').1 ho)
          · by_cases hbb : b' = b
            · subst hbb; rw [hgb]; exact ⟨cur, e, _, q1, List.prefix_refl _⟩
            · rw [hgo b' hbb] at hb' ⊢; exact hI.imm b' hb'
          · obtain ⟨vs, h1, h2⟩ := hI.glob k
            exact ⟨vs, h1.trans (hgC k), RepDs_mono hgC _ _ h2⟩
      · cases h
    · cases h
  · rename_i id len hv
    split at h
    · rename_i sz l ho
      split at h
      · rename_i hl
        cases h
        refine ⟨rfl, g, ⟨ok.inv, ⟨ok.env.1, fun k hk => ?_⟩, ok.defers, ok.base⟩, Ext.refl .., rfl⟩
        show Rep g s.h (getE ((t, .d (.sl l)) :: s.e) k) _ ∧ (getE ((t, .d (.sl l)) :: s.e) k).und s.h.length = true
        by_cases e : t = k
        · subst e
          rw [show getE ((t, V.d (.sl l)) :: s.e) t = .d (.sl l) by simp [getE]]
          have hr := (ok.env.2 t hk).1
          rw [hv] at hr
          have := toD1_rep ok.inv (d := .sl l) (by simp only [toD1, ho, hl, if_true]) hr
          exact ⟨by simpa only [Rep] using this, rfl⟩
        · rw [show getE ((t, V.d (.sl l)) :: s.e) k = getE s.e k by simp [getE, e]]; exact ok.env.2 k hk
      · cases h
    · cases h
  · cases h

theorem ghost_sound {orc : Orc} {lp : Lp} {N : Nat} {v : VCode} (hv : v.isGhost = true) (hN : v.okN N = true) {s s' : St} {x : Ex} {a : Act} (h : evC cx orc lp v s = some (x, s')) (ok : StOk cx N g s a w) :
    x = .nrm ∧ ∃ g', StOk cx N g' s' a w ∧ Ext s.b g s.h w g' s'.h w ∧ s'.b = s.b := by
  cases v with
  | newrow sz t =>
    obtain ⟨h1, h2, h3, h4⟩ := newrow_sound (by simpa [VCode.okN] using hN) h ok
    exact ⟨h1, g, h2, h3, h4⟩
  | bindrow sz t off =>
    obtain ⟨h1, h2, h3, h4⟩ := bindrow_sound (by simpa [VCode.okN] using hN) h ok
    exact ⟨h1, g, h2, h3, h4⟩
  | mkrow sz =>
    obtain ⟨h1, h2, h3, h4⟩ := mkrow_sound h ok
    exact ⟨h1, g, h2, h3, h4⟩
  | bindto t off k =>
    obtain ⟨h1, h2, h3, h4⟩ := bindto_sound h ok
    exact ⟨h1, g, h2, h3, h4⟩
  | freeze t => exact freeze_sound h ok
  | _ => cases hv

theorem seqAll_sound {orc : Orc} {lp : Lp} {N : Nat} {w : World} {a : Act} {x : Ex} {s' : St} {c : VCode} : ∀ (l : List VCode), l.all VCode.isGhost = true → (seqAll l c).okN N = true → ∀ {s : St} {g : Gh}, evC cx orc lp (seqAll l c) s = some (x, s') → StOk cx N g s a w →
    ∃ g1 s1, StOk cx N g1 s1 a w ∧ Ext s.b g s.h w g1 s1.h w ∧ s1.b = s.b ∧ evC cx orc lp c s1 = some (x, s') ∧ c.okN N = true
  | [], _, hN, s, g, h, ok => ⟨g, s, ok, Ext.refl .., rfl, h, hN⟩
  | v :: l, hl, hN, s, g, h, ok => by
    simp only [List.all_cons, Bool.and_eq_true] at hl
    simp only [seqAll, VCode.okN, Bool.and_eq_true] at hN
    simp only [seqAll, evC] at h
    cases h1 : evC cx orc lp v s with
    | none => rw [h1] at h; cases h
    | some q =>
      obtain ⟨y, s1⟩ := q
      obtain ⟨rfl, g1, ok1, e1, b1⟩ := ghost_sound hl.1 hN.1 h1 ok
      rw [h1] at h
      have h : evC cx orc lp (seqAll l c) s1 = some (x, s') := h
      obtain ⟨g2, s2, ok2, e2, b2, h2, n2⟩ := seqAll_sound l hl.2 hN.2 h ok1
      exact ⟨g2, s2, ok2, e1.trans e2 (by omega), by omega, h2, n2⟩
end
end Go.Vm
namespace Go.Vm
section
variable {P : Program} {cx : Cx} {g : Gh} {w : World} {H : Hp}

def Ex.out : Ex → Exit
  | .nrm => .normal
  | .exit i => .exit i
  | .ret => .ret

theorem evOps_b {orc : Orc} : ∀ {l : List VOper} {s s' : St}, evOps cx orc l s = some s' → s'.b = s.b
  | [], s, s', h => by simp only [evOps, Option.some.injEq] at h; rw [h]
  | o :: l, s, s', h => by
    simp only [evOps] at h
    cases h1 : evOper cx orc o s with
    | none => rw [h1] at h; cases h
    | some s1 => rw [h1] at h; rw [evOps_b h, evOper_b h1]

theorem evDraw_b {orc : Orc} : ∀ {m : Nat} {l : List VOper} {s s' : St}, evDraw cx orc m l s = some s' → s'.b = s.b
  | 0, [], s, s', h => by simp only [evDraw, Option.some.injEq] at h; rw [h]
  | _ + 1, [], s, s', h => by simp only [evDraw, Option.some.injEq] at h; rw [h]
  | 0, o :: l, s, s', h => evOps_b h
  | m + 1, o :: l, s, s', h => by
    simp only [evDraw] at h
    cases h1 : evOper cx orc o s with
    | none => rw [h1] at h; cases h
    | some s1 =>
      rw [h1] at h
      simp only [Option.bind_some] at h
      split at h
      · rw [evDraw_b h, evOper_b h1]
      · cases h

theorem evC_b {orc : Orc} {lp : Lp} (hl : ∀ ks b s r, lp ks b s = some r → r.2.b = s.b) : ∀ {c : VCode} {s : St} {x : Ex} {s' : St}, evC cx orc lp c s = some (x, s') → s'.b = s.b := by
  intro c
  induction c with
  | skip => intro s x s' h; cases h; rfl
  | reg ops =>
    intro s x s' h; simp only [evC] at h
    obtain ⟨q, hq, he⟩ := Option.map_eq_some_iff.1 h
    cases he; exact evOps_b hq
  | draw m ops =>
    intro s x s' h; simp only [evC] at h
    obtain ⟨q, hq, he⟩ := Option.map_eq_some_iff.1 h
    cases he; exact evDraw_b hq
  | seq a b iha ihb =>
    intro s x s' h; simp only [evC] at h
    cases hx : evC cx orc lp a s with
    | none => rw [hx] at h; cases h
    | some q =>
      obtain ⟨y, s1⟩ := q
      rw [hx] at h
      cases y with
      | nrm => have h' : evC cx orc lp b s1 = some (x, s') := h; rw [ihb h', iha hx]
      | exit i => have h' : some (Ex.exit i, s1) = some (x, s') := h; cases h'; exact iha hx
      | ret => have h' : some (Ex.ret, s1) = some (x, s') := h; cases h'; exact iha hx
  | cond c a b iha ihb =>
    intro s x s' h; simp only [evC] at h
    split at h
    · split at h
      · exact iha h
      · exact ihb h
    · cases h
  | block id b ih =>
    intro s x s' h; simp only [evC] at h
    cases hx : evC cx orc lp b s with
    | none => rw [hx] at h; cases h
    | some q =>
      obtain ⟨y, s1⟩ := q
      rw [hx] at h
      cases y with
      | nrm => cases h; exact ih hx
      | ret => cases h; exact ih hx
      | exit i =>
        simp only at h
        split at h <;> (cases h; exact ih hx)
  | scope b ih => intro s x s' h; simp only [evC] at h; exact ih h
  | loop k b ih =>
    intro s x s' h; simp only [evC] at h
    cases hx : evC cx orc lp b ⟨keepE k s.e, s.h, s.h.length⟩ with
    | none => rw [hx] at h; cases h
    | some q =>
      obtain ⟨y, s1⟩ := q
      rw [hx] at h
      cases y with
      | nrm => exact hl _ _ _ _ h
      | exit i => cases h; rfl
      | ret => cases h; rfl
  | exit i => intro s x s' h; cases h; rfl
  | ret => intro s x s' h; cases h; rfl
  | newrow a b =>
    intro s x s' h; simp only [evC] at h
    split at h
    · split at h
      · cases h; rfl
      · cases h
    · cases h
  | bindrow a b c =>
    intro s x s' h; simp only [evC] at h
    split at h
    · split at h
      · split at h
        · split at h
          · cases h; rfl
          · cases h
        · cases h
      · cases h
    · cases h
  | mkrow a =>
    intro s x s' h; simp only [evC] at h
    split at h
    · cases h; rfl
    · cases h
  | bindto a b c =>
    intro s x s' h; simp only [evC] at h
    split at h
    · split at h
      · split at h
        · split at h
          · cases h; rfl
          · cases h
        · cases h
      · cases h
    · cases h
  | freeze a =>
    intro s x s' h; simp only [evC] at h
    split at h
    · split at h
      · split at h
        · cases h; rfl
        · cases h
      · cases h
    · split at h
      · split at h
        · cases h; rfl
        · cases h
      · cases h
    · cases h

theorem getE_cut (n : Nat) (e : Env) (t : Nat) : getE (cut n e) t = if (getE e t).und n = true then getE e t else .undef := by
  induction e with
  | nil => exact (if_pos rfl).symm
  | cons p r ih =>
    obtain ⟨k, v⟩ := p
    simp only [cut, List.map_cons, getE] at ih ⊢
    by_cases hk : k = t
    · simp [hk]
    · simp only [if_neg hk]
      exact ih

theorem Ext.cut {nb n : Nat} {g' : Gh} {H' : Hp} {w' : World} (h : Ext nb g H w g' H' w') (hn : n = H.length) (hnb : nb ≤ n) : Ext nb g H w (g'.cut n) (H'.take n) w' := by
  have hlen := h.len
  have hget : ∀ i, i < n → (H'.take n)[i]? = H'[i]? := fun i hi => by rw [List.getElem?_take, if_pos hi]
  refine ⟨h.os, h.tape, h.output, h.size, h.frame, ⟨h.keep.C, fun i o hi ho hr => ?_, fun i sz l hi ho => ?_⟩, fun i b c hj hb => h.jnew i b c (cut_some hj).2 hb, fun m hm hc i c hi ho => ?_, by rw [List.length_take]; omega⟩
  · obtain ⟨h1, o', h2, h3⟩ := h.keep.obj i o hi ho hr
    exact ⟨by rw [cut_lt (by omega)]; exact h1, o', by rw [hget i (by omega)]; exact h2, h3⟩
  · obtain ⟨l', h1, h2, h3⟩ := h.keep.row i sz l hi ho
    exact ⟨l', by rw [hget i (by omega)]; exact h1, h2, fun he => by rw [cut_lt (by omega)]; exact h3 he⟩
  · rw [hget i (by omega)] at ho
    exact h.clean m hm hc i c hi ho

theorem StOk.keep {N : Nat} {s : St} {a : Act} {w : World} (ok : StOk cx N g s a w) (ks : List Nat) : StOk cx N g ⟨keepE ks s.e, s.h, s.h.length⟩ a w := by
  refine ⟨ok.inv, ⟨ok.env.1, fun k hk => ?_⟩, ok.defers, Nat.le_refl _⟩
  rw [getE_keepE]
  by_cases hks : k ∈ ks
  · rw [if_pos hks]; exact ok.env.2 k hk
  · rw [if_neg hks]; exact ⟨by simp [Rep], rfl⟩

theorem StOk.back {N : Nat} {ks : List Nat} {s s1 : St} {g1 : Gh} {a1 : Act} {w1 : World} {b0 : Nat} (hI : Clean s.h.length s.h) (hb0 : b0 ≤ s.h.length) (ok : StOk cx N g1 s1 a1 w1) (e : Ext s.h.length g s.h w g1 s1.h w1) :
    StOk cx N (g1.cut s.h.length) ⟨cut s.h.length (keepE ks s1.e), s1.h.take s.h.length, b0⟩ a1 w1 := by
  have hlen := e.len
  have hc := e.clean s.h.length (Nat.le_refl _) hI
  refine ⟨ok.inv.restrict hlen hc, ⟨ok.env.1, fun k hk => ?_⟩, ok.defers, ?_⟩
  · rw [getE_cut]
    split
    · rename_i hu
      rw [getE_keepE] at hu ⊢
      by_cases hks : k ∈ ks
      · rw [if_pos hks] at hu ⊢
        refine ⟨Rep_keep (keepW_cut g1 s1.h s.h.length) _ _ hu (ok.env.2 k hk).1, ?_⟩
        show V.und (s1.h.take s.h.length).length _ = true
        rw [List.length_take, Nat.min_eq_left hlen]
        exact hu
      · rw [if_neg hks]
        exact ⟨by simp [Rep], rfl⟩
    · exact ⟨by simp [Rep], rfl⟩
  · show b0 ≤ (s1.h.take s.h.length).length
    rw [List.length_take, Nat.min_eq_left hlen]
    exact hb0

def SLp (P : Program) (cx : Cx) (n : Nat) (lp : Lp) : Prop :=
  (∀ ks b s r, lp ks b s = some r → r.2.b = s.b) ∧
  ∀ (A : Ann) (N : Nat) (c : Code) (v : VCode) (ks : List Nat), tr P A c = some v → v.okN N = true → ∀ (g : Gh) (s : St) (a : Act) (w : World) (x : Ex) (s' : St), lp ks v s = some (x, s') → StOk cx N g s a w →
    ∀ Q : Exit → Act → World → Prop, (∀ g' a' w', StOk cx N g' s' a' w' → Ext s.b g s.h w g' s'.h w' → Q x.out a' w') → Code.rounds P c Q n a w

theorem tr_region {A : Ann} {id : Nat} {ops : Array Oper} {draw : Bool} {v : VCode} (h : tr P A (.region id ops draw) = some v) :
    ∃ vs c, trOpers P ops ops.toList = some vs ∧ v = seqAll (A.ghost id) c ∧ (A.ghost id).all VCode.isGhost = true ∧
      ((draw = true ∧ ∃ m, orderOk ops vs m = true ∧ c = .draw m vs) ∨ (draw = false ∧ c = .reg vs)) := by
  simp only [tr] at h
  split at h
  · cases h
  · rename_i vs hvs
    split at h
    · cases h
    · rename_i hg
      have hg' : (A.ghost id).all VCode.isGhost = true := by
        cases hh : (A.ghost id).all VCode.isGhost with
        | true => rfl
        | false => exact absurd hh hg
      split at h
      · rename_i hd
        split at h
        · rename_i ho
          cases h
          exact ⟨vs, _, hvs, rfl, hg', .inl ⟨hd, _, ho, rfl⟩⟩
        · cases h
      · rename_i hd
        cases h
        exact ⟨vs, _, hvs, rfl, hg', .inr ⟨by simpa using hd, rfl⟩⟩

theorem code_sound {orc : Orc} (hS : SOrc P cx orc) (hmx : P.follows .mixedOrders = true) {n : Nat} {lp : Lp} (hL : SLp P cx n lp) {A : Ann} {N : Nat} : ∀ (c : Code) (v : VCode), tr P A c = some v → v.okN N = true → ∀ {g : Gh} {s : St} {a : Act} {w : World} {x : Ex} {s' : St}, evC cx orc lp v s = some (x, s') → StOk cx N g s a w →
    ∀ {Q : Exit → Act → World → Prop}, (∀ g' a' w', StOk cx N g' s' a' w' → Ext s.b g s.h w g' s'.h w' → Q x.out a' w') → c.wp P Q a w := by
  intro c
  induction c with
  | skip =>
    intro v ht hN g s a w x s' h ok Q hq
    simp only [tr, Option.some.injEq] at ht
    subst ht
    cases h
    exact wp_skip (hq g a w ok (Ext.refl ..))
  | label l =>
    intro v ht hN g s a w x s' h ok Q hq
    simp only [tr, Option.some.injEq] at ht
    subst ht
    cases h
    exact wp_label (hq g a w ok (Ext.refl ..))
  | exit id =>
    intro v ht hN g s a w x s' h ok Q hq
    simp only [tr, Option.some.injEq] at ht
    subst ht
    cases h
    exact wp_exit (hq g a w ok (Ext.refl ..))
  | ret =>
    intro v ht hN g s a w x s' h ok Q hq
    simp only [tr, Option.some.injEq] at ht
    subst ht
    cases h
    exact wp_ret (hq g a w ok (Ext.refl ..))
  | region id ops draw =>
    intro v ht hN g s a w x s' h ok Q hq
    obtain ⟨vs, c, h1, rfl, h2, h3⟩ := tr_region ht
    obtain ⟨g1, s1, ok1, e1, b1, hc, hN1⟩ := seqAll_sound _ h2 hN h ok
    rcases h3 with ⟨rfl, m, ho, rfl⟩ | ⟨rfl, rfl⟩
    · simp only [evC] at hc
      obtain ⟨q, hq', he⟩ := Option.map_eq_some_iff.1 hc
      cases he
      exact draw_sound hS hmx h1 (by simpa [VCode.okN] using hN1) ho hq' ok1 fun g' a' w' ok' e' => hq g' a' w' ok' (e1.trans e' (by omega))
    · simp only [evC] at hc
      obtain ⟨q, hq', he⟩ := Option.map_eq_some_iff.1 hc
      cases he
      exact reg_sound hS h1 (by simpa [VCode.okN] using hN1) hq' ok1 fun g' a' w' ok' e' => hq g' a' w' ok' (e1.trans e' (by omega))
  | seq c1 c2 ih1 ih2 =>
    intro v ht hN g s a w x s' h ok Q hq
    simp only [tr] at ht
    split at ht
    · rename_i v1 v2 ht1 ht2
      cases ht
      simp only [VCode.okN, Bool.and_eq_true] at hN
      simp only [evC] at h
      apply wp_seq
      cases hx : evC cx orc lp v1 s with
      | none => rw [hx] at h; cases h
      | some q =>
        obtain ⟨y, s1⟩ := q
        rw [hx] at h
        have hb := evC_b hL.1 hx
        refine ih1 v1 ht1 hN.1 hx ok fun g1 a1 w1 ok1 e1 => ?_
        cases y with
        | nrm => exact ih2 v2 ht2 hN.2 h ok1 fun g' a' w' ok' e' => hq g' a' w' ok' (e1.trans e' (by omega))
        | exit i => have h' : some (Ex.exit i, s1) = some (x, s') := h; cases h'; exact hq g1 a1 w1 ok1 e1
        | ret => have h' : some (Ex.ret, s1) = some (x, s') := h; cases h'; exact hq g1 a1 w1 ok1 e1
    · cases ht
  | cond c c1 c2 ih1 ih2 =>
    intro v ht hN g s a w x s' h ok Q hq
    simp only [tr] at ht
    split at ht
    · rename_i vc v1 v2 hc ht1 ht2
      cases ht
      simp only [VCode.okN, Bool.and_eq_true] at hN
      simp only [evC] at h
      split at h
      · rename_i t hv
        have hr := (opd_ok ok.inv ok.env hc hN.1.1).1
        rw [hv] at hr
        refine wp_cond (rep_bool hr) ?_
        cases t with
        | true => exact ih1 v1 ht1 hN.1.2 (by simpa using h) ok hq
        | false => exact ih2 v2 ht2 hN.2 (by simpa using h) ok hq
      · cases h
    · cases ht
  | block id c ih =>
    intro v ht hN g s a w x s' h ok Q hq
    simp only [tr] at ht
    obtain ⟨v1, ht1, rfl⟩ := Option.map_eq_some_iff.1 ht
    simp only [VCode.okN] at hN
    simp only [evC] at h
    apply wp_block
    cases hx : evC cx orc lp v1 s with
    | none => rw [hx] at h; cases h
    | some q =>
      obtain ⟨y, s1⟩ := q
      rw [hx] at h
      refine ih v1 ht1 hN hx ok fun g1 a1 w1 ok1 e1 => ?_
      cases y with
      | nrm => cases h; exact hq g1 a1 w1 ok1 e1
      | ret => cases h; exact hq g1 a1 w1 ok1 e1
      | exit i =>
        simp only at h
        split at h
        · rename_i hi
          cases h
          simp only [Ex.out, Exit.inBlock, hi, if_true]
          exact hq g1 a1 w1 ok1 e1
        · rename_i hi
          cases h
          simp only [Ex.out, Exit.inBlock, hi, if_false]
          exact hq g1 a1 w1 ok1 e1
  | scope c ih =>
    intro v ht hN g s a w x s' h ok Q hq
    simp only [tr] at ht
    obtain ⟨v1, ht1, rfl⟩ := Option.map_eq_some_iff.1 ht
    simp only [VCode.okN] at hN
    simp only [evC] at h
    apply wp_scope_straight
    refine ih v1 ht1 hN h ok fun g1 a1 w1 ok1 e1 => ?_
    have := hq g1 a1 w1 ok1 e1
    cases x <;> exact this
  | loop c ih =>
    intro v ht hN g s a w x s' h ok Q hq
    simp only [tr] at ht
    obtain ⟨v1, ht1, rfl⟩ := Option.map_eq_some_iff.1 ht
    simp only [VCode.okN, Bool.and_eq_true] at hN
    simp only [evC] at h
    apply wp_loop_rounds (n + 1)
    rw [rounds_succ]
    cases hx : evC cx orc lp v1 ⟨keepE _ s.e, s.h, s.h.length⟩ with
    | none => rw [hx] at h; cases h
    | some q =>
      obtain ⟨y, s1⟩ := q
      rw [hx] at h
      refine ih v1 ht1 hN.2 hx (ok.keep _) fun g1 a1 w1 ok1 e1 => ?_
      have e1' : Ext s.b g s.h w g1 s1.h w1 := e1.le ok.base
      have hlen := e1.len
      have hbase := ok.base
      cases y with
      | nrm =>
        refine hL.2 A N c v1 _ ht1 hN.2 (g1.cut s.h.length) _ a1 w1 x s' h (StOk.back ok.inv.und ok.base ok1 e1) Q fun g' a' w' ok' e' => ?_
        exact hq g' a' w' ok' ((e1'.cut rfl ok.base).trans e' (Nat.le_refl _))
      | exit i =>
        cases h
        exact hq g1 a1 w1 ⟨ok1.inv, ok1.env, ok1.defers, by simp only at hlen ⊢; omega⟩ e1'
      | ret =>
        cases h
        exact hq g1 a1 w1 ⟨ok1.inv, ok1.env, ok1.defers, by simp only at hlen ⊢; omega⟩ e1'
  | _ => intro v ht; simp [tr] at ht
end
end Go.Vm
namespace Go.Vm
section
variable {P : Program} {cx : Cx} {g : Gh} {w : World} {H : Hp}

def TblOk (P : Program) (pg : Pg) : Prop := ∀ f e, pg.tbl f = some e →
  match e with
  | .prim F => ∀ args H r H', F args H = some (r, H') → FnSpec P pg.toCx f args H r H'
  | .code vf => ∃ fn A, P.funcs[f]? = some fn ∧ (fn.name == "runtime.NumGoroutine") = false ∧ trFn P A vf.keep fn = some vf ∧ vf.ok = true

theorem enter_get (args : List V) (i : Nat) : getE (enterE args) i = args.getD i .undef := by
  have key : ∀ (l : List Nat) (f : Nat → V), getE (l.map fun i => (i, f i)) i = if i ∈ l then f i else .undef := by
    intro l f
    induction l with
    | nil => rfl
    | cons k l ih =>
      simp only [List.map_cons, getE, ih, List.mem_cons]
      by_cases hk : k = i
      · subst hk; simp
      · rw [if_neg hk]
        by_cases hl : i ∈ l
        · simp [hl]
        · rw [if_neg hl, if_neg (by rintro (h | h); exact hk h.symm; exact hl h)]
  rw [enterE, key]
  simp only [List.mem_range]
  split
  · rfl
  · rename_i h
    rw [List.getD_eq_getElem?_getD, List.getElem?_eq_none (by omega)]; rfl

theorem RepTs_get : ∀ {l : List V} {vs : List Value} (i : Nat), RepTs g H l vs → i < l.length → Rep g H (l.getD i .undef) (vs.getD i undef)
  | [], vs, i, _, h => by simp at h
  | v :: l, vs, 0, r, _ => by
    simp only [RepTs] at r
    obtain ⟨y, ys, rfl, r1, _⟩ := r
    exact r1
  | v :: l, vs, i + 1, r, h => by
    simp only [RepTs] at r
    obtain ⟨y, ys, rfl, _, r2⟩ := r
    have := RepTs_get i r2 (by simpa using h)
    simpa using this

theorem RepTs_length : ∀ {l : List V} {vs : List Value}, RepTs g H l vs → vs.length = l.length
  | [], vs, r => by simp only [RepTs] at r; subst r; rfl
  | v :: l, vs, r => by
    simp only [RepTs] at r
    obtain ⟨y, ys, rfl, _, r2⟩ := r
    simp [RepTs_length r2]

theorem undL_getD {n : Nat} : ∀ {l : List V} (i : Nat), undL n l = true → (l.getD i .undef).und n = true
  | [], i, _ => by simp [V.und]
  | v :: l, 0, h => by simp only [undL, Bool.and_eq_true] at h; exact h.1
  | v :: l, i + 1, h => by simp only [undL, Bool.and_eq_true] at h; simpa using undL_getD i h.2

theorem enter_ok {N : Nat} {args : List V} {cargs : Array Value} (ra : RepTs g H args cargs.toList) (ua : undL H.length args = true) (hN : args.length ≤ N) : EnvOk g H N (enterE args) (cargs ++ Array.replicate (N - cargs.size) undef) := by
  have hl : cargs.size = args.length := by simpa using RepTs_length ra
  refine ⟨by simp; omega, fun i hi => ?_⟩
  rw [enter_get]
  refine ⟨?_, undL_getD i ua⟩
  by_cases h : i < args.length
  · have := RepTs_get i ra h
    have e : (cargs ++ Array.replicate (N - cargs.size) undef).getD i undef = cargs.toList.getD i undef := by
      simp only [Array.getD_eq_getD_getElem?, List.getD_eq_getElem?_getD, Array.getElem?_append_left (show i < cargs.size by omega), Array.getElem?_toList]
    rw [e]; exact this
  · rw [List.getD_eq_getElem?_getD, List.getElem?_eq_none (by omega)]
    simp [Rep]

def resRun (t : Array Value) : ResultVar → Sem Value
  | .tmp i => pure (t.getD i undef)
  | .cell a ty => do loadVar ty (← asAddr (t.getD a undef))

def resLt (N : Nat) : VRes → Bool
  | .tmp t => decide (t < N)
  | .cell t _ => decide (t < N)

theorem trRes_run {N : Nat} (hI : Inv cx g H w) {e : Env} {t : Array Value} (hE : EnvOk g H N e t) : ∀ {l : List ResultVar} {rs : List VRes} {vs : List V}, trRes P l = some rs → rs.all (resLt N) = true → resVs e H rs = some vs →
    ∃ ys : List Value, (l.mapM (resRun t)).run P w = Result.ok ys w ∧ RepTs g H vs ys ∧ undL H.length vs = true
  | [], rs, vs, h, _, hr => by
    simp only [trRes, Option.some.injEq] at h
    subst h
    simp only [resVs, Option.some.injEq] at hr
    subst hr
    exact ⟨[], by simp [List.mapM_nil], by simp [RepTs], rfl⟩
  | .tmp i :: l, rs, vs, h, hl, hr => by
    simp only [trRes] at h
    obtain ⟨rs', h', rfl⟩ := Option.map_eq_some_iff.1 h
    simp only [List.all_cons, Bool.and_eq_true, resLt, decide_eq_true_eq] at hl
    simp only [resVs, resV] at hr
    split at hr
    · rename_i v vs' hv hvs
      cases hv
      cases hr
      obtain ⟨ys, y1, y2, y3⟩ := trRes_run hI hE h' hl.2 hvs
      obtain ⟨z1, z2⟩ := hE.2 i hl.1
      refine ⟨t.getD i undef :: ys, ?_, by simp only [RepTs]; exact ⟨_, _, rfl, z1, y2⟩, by simp only [undL, z2, y3, Bool.and_self]⟩
      simp only [List.mapM_cons, Sem.run_bind, resRun, Sem.run_pure, Result.andThen_ok]
      rw [y1]
      rfl
    · cases hr
  | .cell a ty :: l, rs, vs, h, hl, hr => by
    simp only [trRes] at h
    split at h
    · rename_i n rs' hn h'
      cases h
      simp only [List.all_cons, Bool.and_eq_true, resLt, decide_eq_true_eq] at hl
      simp only [resVs, resV] at hr
      split at hr
      · rename_i v vs' hv hvs
        cases hr
        obtain ⟨ys, y1, y2, y3⟩ := trRes_run hI hE h' hl.2 hvs
        obtain ⟨z1, z2⟩ := hE.2 a hl.1
        obtain ⟨b, off, z, q1, q2, q3, q4⟩ := loadV_ok (P := P) hI hn hv z1 z2
        refine ⟨z :: ys, ?_, by simp only [RepTs]; exact ⟨_, _, rfl, q3, y2⟩, by simp only [undL, q4, y3, Bool.and_self]⟩
        simp only [List.mapM_cons, Sem.run_bind, resRun, q1, asAddr, Sem.run_pure, Result.andThen_ok, q2]
        rw [y1]
        rfl
      · cases hr
    · cases h

theorem oneOf_rep {vs : List V} {ys : List Value} (r : RepTs g H vs ys) : Rep g H (oneOf vs) (if h : ys.toArray.size = 1 then ys.toArray[0] else .tuple ys.toArray) := by
  match vs, ys, r with
  | [], ys, r =>
    simp only [RepTs] at r
    subst r
    simp only [oneOf, Rep]
    exact ⟨#[], rfl, by simp [RepTs]⟩
  | [v], ys, r =>
    simp only [RepTs] at r
    obtain ⟨y, _, rfl, h1, rfl⟩ := r
    exact h1
  | v :: v' :: vs, ys, r =>
    have r' := r
    simp only [RepTs] at r
    obtain ⟨y, _, rfl, _, y', ys', rfl, _, _⟩ := r
    rw [dif_neg (by simp)]
    simp only [oneOf, Rep]
    exact ⟨_, rfl, r'⟩

theorem oneOf_und {n : Nat} {vs : List V} (h : undL n vs = true) : (oneOf vs).und n = true := by
  match vs, h with
  | [], _ => rfl
  | [v], h => simpa [undL, oneOf] using h
  | v :: v' :: vs, h => simpa only [oneOf, V.und] using h

theorem results_run {fn : Func} {N : Nat} (hI : Inv cx g H w) {e : Env} {t : Array Value} (hE : EnvOk g H N e t) {rs : List VRes} {vs : List V} (h : trRes P fn.results.toList = some rs) (hl : rs.all (resLt N) = true) (hr : resVs e H rs = some vs) :
    ∃ ys : List Value, (results fn t).run P w = Result.ok (if h : ys.toArray.size = 1 then ys.toArray[0] else .tuple ys.toArray) w ∧ RepTs g H vs ys ∧ undL H.length vs = true := by
  obtain ⟨ys, h1, h2, h3⟩ := trRes_run (P := P) hI hE h hl hr
  refine ⟨ys, ?_, h2, h3⟩
  have e1 : results fn t = (fn.results.mapM (resRun t) >>= fun vs => pure (if h : vs.size = 1 then vs[0] else .tuple vs)) := rfl
  rw [e1, Array.mapM_eq_mapM_toList, Sem.run_bind, Sem.run_map, h1]
  rfl

theorem trFn_parts {A : Ann} {keep : Bool} {fn : Func} {vf : VFn} (h : trFn P A keep fn = some vf) : ∃ c, fn.body = some c ∧ tr P A c = some vf.body ∧ trRes P fn.results.toList = some vf.res ∧ vf.nt = fn.ntmps ∧ vf.keep = keep := by
  unfold trFn at h
  split at h
  · cases h
  · rename_i c hc
    split at h
    · rename_i b rs hb hrs
      cases h
      exact ⟨c, hc, hb, hrs, rfl, rfl⟩
    · cases h

theorem ok_parts {vf : VFn} (h : vf.ok = true) : vf.body.okN vf.nt = true ∧ vf.res.all (resLt vf.nt) = true ∧ vf.np ≤ vf.nt := by
  unfold VFn.ok at h
  simp only [Bool.and_eq_true, decide_eq_true_eq] at h
  refine ⟨h.1.1, ?_, h.2⟩
  have := h.1.2
  simp only [List.all_eq_true] at this ⊢
  intro x hx
  have := this x hx
  cases x <;> exact this

theorem body_sound {orc : Orc} (hS : SOrc P cx orc) (hmx : P.follows .mixedOrders = true) {n : Nat} {lp : Lp} (hL : SLp P cx n lp) {f : Nat} {fn : Func} {A : Ann} {vf : VFn} (hf : P.funcs[f]? = some fn) (ht : trFn P A vf.keep fn = some vf) (hok : vf.ok = true)
    {args : List V} (hl : args.length = vf.np) {H : Hp} {r : V} {H' : Hp} (h : (match evC cx orc lp vf.body ⟨enterE args, H, H.length⟩ with
      | some (.nrm, s) | some (.ret, s) => leave vf H.length s
      | _ => none) = some (r, H')) {g : Gh} {w : World} {cargs : Array Value} (hI : Inv cx g H w) (ra : RepTs g H args cargs.toList) (ua : undL H.length args = true) :
    Calls P f cargs w (fun e w' => ∃ g' x, e = .returned x ∧ Inv cx g' H' w' ∧ Rep g' H' r x ∧ r.und H'.length = true ∧ Ext H.length g H w g' H' w') := by
  obtain ⟨c, hb, htr, hres, hnt, _⟩ := trFn_parts ht
  obtain ⟨k1, k2, k3⟩ := ok_parts hok
  refine calls_of_wp hf hb ?_
  have key : ∀ x s, evC cx orc lp vf.body ⟨enterE args, H, H.length⟩ = some (x, s) → (x = .nrm ∨ x = .ret) → leave vf H.length s = some (r, H') →
      c.wp P (bodyPost P fn fun e w' => ∃ g' x, e = .returned x ∧ Inv cx g' H' w' ∧ Rep g' H' r x ∧ r.und H'.length = true ∧ Ext H.length g H w g' H' w') { tmps := cargs ++ Array.replicate (fn.ntmps - cargs.size) undef, defers := [] } w := by
    intro x s hx hxx hlv
    have ok0 : StOk cx vf.nt g ⟨enterE args, H, H.length⟩ { tmps := cargs ++ Array.replicate (fn.ntmps - cargs.size) undef, defers := [] } w :=
      ⟨hI, by rw [← hnt]; exact enter_ok ra ua (by omega), rfl, Nat.le_refl _⟩
    refine code_sound hS hmx hL c vf.body htr k1 hx ok0 fun g1 a1 w1 ok1 e1 => ?_
    have goal : a1.defers = [] ∧ ∃ v, (results fn a1.tmps).run P w1 = .ok v w1 ∧ ∃ g' x, Ending.returned v = .returned x ∧ Inv cx g' H' w1 ∧ Rep g' H' r x ∧ r.und H'.length = true ∧ Ext H.length g H w g' H' w1 := by
      refine ⟨ok1.defers, ?_⟩
      unfold leave at hlv
      split at hlv
      · cases hlv
      · rename_i vs hvs
        obtain ⟨ys, y1, y2, y3⟩ := results_run (P := P) (fn := fn) ok1.inv ok1.env hres k2 hvs
        refine ⟨_, y1, ?_⟩
        split at hlv
        · cases hlv
          exact ⟨g1, _, rfl, ok1.inv, oneOf_rep y2, oneOf_und y3, e1⟩
        · simp only at hlv
          split at hlv
          · rename_i hu
            cases hlv
            have hlen : H.length ≤ s.h.length := e1.len
            have hc := e1.clean H.length (Nat.le_refl _) hI.und
            have ra' := RepTs_args ok1.inv y2
            have ra2 := RepTs_keep (keepW_cut g1 s.h H.length) _ _ hu ra'
            refine ⟨g1.cut H.length, _, rfl, ok1.inv.restrict hlen hc, oneOf_rep ra2, ?_, e1.cut rfl (Nat.le_refl _)⟩
            rw [List.length_take, Nat.min_eq_left hlen]
            exact oneOf_und hu
          · cases hlv
    rcases hxx with rfl | rfl <;> exact goal
  cases hx : evC cx orc lp vf.body ⟨enterE args, H, H.length⟩ with
  | none => rw [hx] at h; cases h
  | some q =>
    obtain ⟨x, s⟩ := q
    rw [hx] at h
    cases x with
    | nrm => exact key _ _ hx (.inl rfl) h
    | ret => exact key _ _ hx (.inr rfl) h
    | exit i => cases h

theorem cut_zero (g : Gh) : ∀ i p, (g.cut 0).J i ≠ some p := fun i p h => by have := (cut_some h).1; omega

theorem lift_ext {g' : Gh} {w' : World} (hI : Inv cx g H w) (hI' : Inv cx g' [] w') (e : Ext 0 (g.cut 0) [] w g' [] w') :
    Inv cx ⟨g.J, g'.C⟩ H w' ∧ Ext H.length g H w ⟨g.J, g'.C⟩ H w' := by
  have hC : ∀ b, g.C b <+: g'.C b := e.keep.C
  have hfr : ∀ b, b < w.heap.size → w'.heap[b]? = w.heap[b]? ∧ g'.C b = g.C b := fun b hb => e.frame b hb fun i c => cut_zero g i _
  have hk : Keep H.length g H ⟨g.J, g'.C⟩ H := ⟨hC, fun i o _ ho hr => ⟨rfl, o, ho, hr⟩, fun i sz l _ ho => ⟨l, ho, List.prefix_refl _, fun _ => rfl⟩⟩
  refine ⟨⟨hI.inj, fun i b c h => ⟨(hI.dom i b c h).1, Nat.lt_of_lt_of_le (hI.dom i b c h).2 e.size⟩, fun i b c o h ho => ?_, hI'.imm, hI.und, hI'.glob, hI.fix.mono fun b hb hn => ⟨(hfr b hb).1, hn⟩⟩, ⟨e.os, e.tape, e.output, e.size, fun b hb _ => hfr b hb, hk, fun i b c h _ => ⟨i, c, h⟩, fun _ _ h => h, Nat.le_refl _⟩⟩
  obtain ⟨f1, f2⟩ := hfr b (hI.dom i b c h).2
  exact (hI.ob i b c o h ho).ext hk.w f1 f2 (by rintro c' rfl; exact hI.und i c' (hI.dom i b c h).1 ho)

theorem step_sound {pg : Pg} (hT : TblOk P pg) (hmx : P.follows .mixedOrders = true) {orc : Orc} (hS : SOrc P pg.toCx orc) {n : Nat} {lp : Lp} (hL : SLp P pg.toCx n lp) : SOrc P pg.toCx (stepF pg orc lp) := by
  intro f args H r H' h
  unfold stepF at h
  split at h
  · cases h
  · rename_i F ht
    exact hT f _ ht args H r H' h
  · rename_i vf ht
    obtain ⟨fn, A, hf, hname, htr, hok⟩ := hT f _ ht
    obtain ⟨c, hb, _⟩ := trFn_parts htr
    split at h
    · rename_i hl
      refine ⟨⟨fn, hf, by rw [hb]; rfl, hname⟩, fun g w cargs hI ra ua => ?_⟩
      cases hbare : (undL 0 args && !vf.keep) with
      | false =>
        rw [hbare] at h
        exact body_sound hS hmx hL hf htr hok hl h hI ra ua
      | true =>
        rw [hbare] at h
        simp only [bare] at h
        obtain ⟨q, hq, he⟩ := Option.map_eq_some_iff.1 h
        cases he
        obtain ⟨r, H1⟩ := q
        simp only [Bool.and_eq_true, Bool.not_eq_true'] at hbare
        have hI0 : Inv pg.toCx (g.cut 0) [] w := by
          have := hI.restrict (n := 0) (Nat.zero_le _) (fun i c hi => by omega)
          simpa using this
        have ra0 : RepTs (g.cut 0) [] args cargs.toList := by
          have := keepW_cut g H 0
          rw [List.take_zero] at this
          exact RepTs_keep this _ _ hbare.1 ra
        have hH1 : H1 = [] ∧ r.und 0 = true := by
          have : ∀ s, leave vf ([] : Hp).length s = some (r, H1) → H1 = [] ∧ r.und 0 = true := by
            intro s hs
            unfold leave at hs
            split at hs
            · cases hs
            · rw [if_neg (by rw [hbare.2]; simp)] at hs
              simp only at hs
              split at hs
              · rename_i hu
                cases hs
                exact ⟨by simp, oneOf_und hu⟩
              · cases hs
          split at hq
          · exact this _ hq
          · exact this _ hq
          · cases hq
        obtain ⟨rfl, hu0⟩ := hH1
        refine (body_sound hS hmx hL hf htr hok hl hq hI0 ra0 hbare.1).mono fun e w' he => ?_
        obtain ⟨g', x, h1, h2, h3, h4, h5⟩ := he
        obtain ⟨q1, q2⟩ := lift_ext hI h2 h5
        refine ⟨⟨g.J, g'.C⟩, x, h1, q1, ?_, V.und_le (Nat.zero_le _) _ hu0, q2⟩
        exact Rep_keep (n := 0) (g := g') (H := []) (g' := ⟨g.J, g'.C⟩) (H' := H) ⟨fun _ => List.prefix_refl _, fun i _ hi => by omega, fun i _ _ hi => by omega⟩ _ _ hu0 h3
    · cases h

theorem at_sound {pg : Pg} (hT : TblOk P pg) (hmx : P.follows .mixedOrders = true) : ∀ n, SOrc P pg.toCx (fnAt pg n) ∧ SLp P pg.toCx n (lpAt pg n)
  | 0 => ⟨fun f args H r H' h => (nomatch ((fnAt_zero pg _ _ _).symm.trans h)), fun ks b s r h => (nomatch ((lpAt_zero pg _ _ _).symm.trans h)), fun A N c v ks _ _ g s a w x s' h => (nomatch ((lpAt_zero pg _ _ _).symm.trans h))⟩
  | n + 1 => by
    obtain ⟨hS, hL⟩ := at_sound hT hmx n
    refine ⟨step_sound hT hmx hS hL, fun ks b s r h => ?_, fun A N c v ks ht hN g s a w x s' h ok Q hq => ?_⟩
    · rw [lpAt_succ] at h
      exact evC_b hL.1 h
    · rw [lpAt_succ] at h
      rw [rounds_succ]
      simp only [evC] at h
      cases hx : evC pg.toCx (fnAt pg n) (lpAt pg n) v ⟨keepE ks s.e, s.h, s.h.length⟩ with
      | none => rw [hx] at h; cases h
      | some q =>
        obtain ⟨y, s1⟩ := q
        rw [hx] at h
        refine code_sound hS hmx hL c v ht hN hx (ok.keep _) fun g1 a1 w1 ok1 e1 => ?_
        have e1' : Ext s.b g s.h w g1 s1.h w1 := e1.le ok.base
        have hlen := e1.len
        have hbase := ok.base
        cases y with
        | nrm =>
          refine hL.2 A N c v ks ht hN (g1.cut s.h.length) _ a1 w1 x s' h (StOk.back ok.inv.und ok.base ok1 e1) Q fun g' a' w' ok' e' => ?_
          exact hq g' a' w' ok' ((e1'.cut rfl ok.base).trans e' (Nat.le_refl _))
        | exit i =>
          cases h
          exact hq g1 a1 w1 ⟨ok1.inv, ok1.env, ok1.defers, by simp only at hlen ⊢; omega⟩ e1'
        | ret =>
          cases h
          exact hq g1 a1 w1 ⟨ok1.inv, ok1.env, ok1.defers, by simp only at hlen ⊢; omega⟩ e1'

theorem ev_sound {pg : Pg} (hT : TblOk P pg) (hmx : P.follows .mixedOrders = true) : SOrc P pg.toCx (evF pg) := fun f args H r H' h => by
  obtain ⟨n, hn⟩ := evF_iff.1 h
  exact (at_sound hT hmx n).1 f args H r H' hn
end
end Go.Vm
