import Derived.Test.YtlcaoocfajkljaaDoorVmInv
import Derived.WalkKit
import Derived.Laws.StructEq
namespace Go.Vm

/-- What an operation's run comes to. -/
inductive StepOk (P : Program) (cx : Cx) (nb : Nat) (g : Gh) (H : Hp) (w : World) (r : V) (H' : Hp) : Result Next → Prop
  | val (g' : Gh) (x : Value) (w' : World) : Inv cx g' H' w' → Rep g' H' r x → r.und H'.length = true → Ext nb g H w g' H' w' → StepOk P cx nb g H w r H' (.ok (.value x) w')
  | skip (g' : Gh) (w' : World) : Inv cx g' H' w' → r = .undef → Ext nb g H w g' H' w' → StepOk P cx nb g H w r H' (.ok .skip w')
  | call (f : FuncId) (args : Array Value) : Calls P f args w (fun e w' => ∃ g' x, e = .returned x ∧ Inv cx g' H' w' ∧ Rep g' H' r x ∧ r.und H'.length = true ∧ Ext nb g H w g' H' w') → StepOk P cx nb g H w r H' (.ok (.enter f args) w)

theorem StepOk.wp {P : Program} {cx : Cx} {nb : Nat} {g : Gh} {H : Hp} {w : World} {r : V} {H' : Hp} {o : Oper} {a : Act} {K : Act → World → Prop} {Q : Exit → Act → World → Prop}
    (h : StepOk P cx nb g H w r H' ((execOp a.eval o).run P w))
    (hk : ∀ g' x w', Inv cx g' H' w' → Rep g' H' r x → r.und H'.length = true → Ext nb g H w g' H' w' → K (a.put o.dst x) w') : o.wp P a w K Q := by
  unfold Oper.wp
  generalize (execOp a.eval o).run P w = res at h
  cases h with
  | val g' x w' h1 h2 h3 h4 => exact hk g' x w' h1 h2 h3 h4
  | skip g' w' h1 h2 h4 => subst h2; exact hk g' Go.undef w' h1 trivial rfl h4
  | call f args hc =>
    rw [Oper.upon_enter]
    refine hc.mono fun e w' he => ?_
    obtain ⟨g', x, rfl, h1, h2, h3, h4⟩ := he
    exact hk g' x w' h1 h2 h3 h4

section
variable {P : Program} {cx : Cx} {nb : Nat} {g : Gh} {H : Hp} {w : World}

theorem StepOk.pure {r : V} {x : Value} {res : Result Next} (hI : Inv cx g H w) (he : res = .ok (.value x) w) (hr : Rep g H r x) (hu : r.und H.length = true) : StepOk P cx nb g H w r H res := by
  subst he
  exact .val g x w hI hr hu (Ext.refl ..)

theorem RepVs_map_d : ∀ {l : List D} {vs : List Value}, RepDs g.C l vs → RepVs g H (l.map V.d) vs
  | [], vs, r => by simp only [RepDs] at r; subst r; simp [RepVs]
  | d :: ds, vs, r => by
    simp only [RepDs] at r
    obtain ⟨y, ys, rfl, h1, h2, h3⟩ := r
    simp only [List.map_cons, RepVs]
    refine ⟨y, ys, rfl, ?_, ?_, RepVs_map_d h3⟩
    · cases d <;> first | rfl | cases h1
    · simp only [Rep]; exact RepD_of_one h1 h2

theorem undL_map_d (n : Nat) : ∀ l : List D, undL n (l.map V.d) = true
  | [] => rfl
  | d :: ds => by simp only [List.map_cons, undL, undL_map_d n ds, Bool.and_true]; rfl

theorem allD_rep : ∀ {l : List V} {ds : List D} {vs : List Value}, allD l = some ds → RepVs g H l vs → RepDs g.C ds vs
  | [], ds, vs, h, r => by simp only [allD, Option.some.injEq] at h; subst h; simpa only [RepVs, RepDs] using r
  | v :: l, ds, vs, h, r => by
    simp only [RepVs] at r
    obtain ⟨y, ys, rfl, h1, h2, h3⟩ := r
    cases v with
    | d x =>
      simp only [allD] at h
      obtain ⟨xs, hx, rfl⟩ := Option.map_eq_some_iff.1 h
      simp only [RepDs]
      have hone : x.one = true := by cases x <;> first | rfl | cases h1
      refine ⟨y, ys, rfl, hone, ?_, allD_rep hx h3⟩
      simp only [Rep] at h2
      cases x <;> first | exact h2 | cases hone
    | _ => simp [allD] at h

theorem mkAgg_rep {l : List V} {vs : List Value} (r : RepVs g H l vs) : Rep g H (mkAgg l) (.agg vs.toArray) := by
  unfold mkAgg
  split
  · rename_i ds hd
    simp only [Rep, RepD]
    exact ⟨_, rfl, by simpa using allD_rep hd r⟩
  · simp only [Rep]
    exact ⟨_, rfl, by simpa using r⟩

theorem mkAgg_und {l : List V} {n : Nat} (r : undL n l = true) : (mkAgg l).und n = true := by
  unfold mkAgg
  split
  · rfl
  · simpa only [V.und] using r

theorem Rep_cells {v : V} {x : Value} (ho : v.cells.all V.one = true) (r : Rep g H v x) : RepVs g H v.cells x.cells.toList := by
  have one (hv : v.one = true) (hc : v.cells = [v]) (hx : x.cells = #[x]) : RepVs g H v.cells x.cells.toList := by
    rw [hc, hx]; simp only [RepVs]; exact ⟨x, [], rfl, hv, r, rfl⟩
  cases v with
  | d d =>
    cases d with
    | agg l =>
      simp only [Rep, RepD] at r
      obtain ⟨cs, rfl, r⟩ := r
      exact RepVs_map_d r
    | bool b => exact one rfl rfl (by simp only [Rep, RepD, RepCs] at r; cases r; rfl)
    | int k n => exact one rfl rfl (by simp only [Rep, RepD, RepCs] at r; cases r; rfl)
    | str s => exact one rfl rfl (by simp only [Rep, RepD, RepCs] at r; cases r; rfl)
    | sl l => exact one rfl rfl (by simp only [Rep, RepD, RepCs] at r; obtain ⟨a, cap, h, _⟩ := r; cases h; rfl)
  | agg l =>
    simp only [Rep] at r
    obtain ⟨cs, rfl, r⟩ := r
    exact r
  | tup l => cases ho
  | undef => cases ho
  | nils => exact one rfl rfl (by simp only [Rep] at r; subst r; rfl)
  | row id len => exact one rfl rfl (by simp only [Rep] at r; obtain ⟨a, cap, sz, l, rfl, _⟩ := r; rfl)
  | arr id off len => exact one rfl rfl (by simp only [Rep] at r; obtain ⟨_, b, c, cap, _, rfl, _⟩ := r; rfl)
  | ptr id off => exact one rfl rfl (by simp only [Rep] at r; obtain ⟨_, b, c, _, rfl⟩ := r; rfl)
  | ro l off => exact one rfl rfl (by simp only [Rep] at r; obtain ⟨b, o, vs, rfl, _⟩ := r; rfl)
  | fn f c => exact one rfl rfl (by simp only [Rep] at r; obtain ⟨cs, rfl, _⟩ := r; rfl)
  | nul => exact one rfl rfl (by simp only [Rep] at r; subst r; rfl)
  | nof => exact one rfl rfl (by simp only [Rep] at r; subst r; rfl)

theorem und_cells {v : V} {n : Nat} (u : v.und n = true) (ho : v.cells.all V.one = true) : undL n v.cells = true := by
  cases v with
  | d d => cases d <;> first | rfl | exact undL_map_d n _
  | agg l => simpa only [V.und, V.cells] using u
  | tup l => cases ho
  | undef => cases ho
  | _ => simp only [V.cells, undL, Bool.and_true]; exact u

theorem RepVs_length : ∀ {l : List V} {vs : List Value}, RepVs g H l vs → vs.length = l.length
  | [], vs, r => by simp only [RepVs] at r; subst r; rfl
  | d :: ds, vs, r => by
    simp only [RepVs] at r
    obtain ⟨y, ys, rfl, _, _, h3⟩ := r
    simp [RepVs_length h3]

theorem Rep_one {v : V} {x : Value} (h : v.one = true) (r : Rep g H v x) : x.oneCell' = true := by
  cases v with
  | d d =>
    simp only [Rep] at r
    cases d with
    | agg l => cases h
    | _ => exact RepCs_one rfl r
  | agg l => cases h
  | tup l => cases h
  | undef => cases h
  | nils => simp only [Rep] at r; subst r; rfl
  | row id len => simp only [Rep] at r; obtain ⟨a, cap, sz, l, rfl, _⟩ := r; rfl
  | arr id off len => simp only [Rep] at r; obtain ⟨_, b, c, cap, _, rfl, _⟩ := r; rfl
  | ptr id off => simp only [Rep] at r; obtain ⟨_, b, c, _, rfl⟩ := r; rfl
  | ro l off => simp only [Rep] at r; obtain ⟨b, o, vs, rfl, _⟩ := r; rfl
  | fn f c => simp only [Rep] at r; obtain ⟨cs, rfl, _⟩ := r; rfl
  | nul => simp only [Rep] at r; subst r; rfl
  | nof => simp only [Rep] at r; subst r; rfl

theorem RepVs_ones : ∀ {l : List V} {vs : List Value}, RepVs g H l vs → ∀ v ∈ vs, v.oneCell' = true
  | [], vs, r, v, hv => by simp only [RepVs] at r; subst r; cases hv
  | d :: ds, vs, r, v, hv => by
    simp only [RepVs] at r
    obtain ⟨y, ys, rfl, h1, h2, h3⟩ := r
    cases hv with
    | head => exact Rep_one h1 h2
    | tail _ hm => exact RepVs_ones h3 v hm

theorem RepVs_get : ∀ {l : List V} {vs : List Value} {i : Nat} {v : V}, RepVs g H l vs → l[i]? = some v → ∃ y, vs[i]? = some y ∧ v.one = true ∧ Rep g H v y
  | [], vs, i, d, r, h => by simp at h
  | d :: ds, vs, 0, d', r, h => by
    simp only [RepVs] at r
    obtain ⟨y, ys, rfl, h1, h2, h3⟩ := r
    simp only [List.getElem?_cons_zero, Option.some.injEq] at h
    subst h
    exact ⟨y, rfl, h1, h2⟩
  | d :: ds, vs, i + 1, d', r, h => by
    simp only [RepVs] at r
    obtain ⟨y, ys, rfl, h1, h2, h3⟩ := r
    simp only [List.getElem?_cons_succ] at h ⊢
    exact RepVs_get h3 h

theorem RepVs_take : ∀ {l : List V} {vs : List Value} (k : Nat), RepVs g H l vs → RepVs g H (l.take k) (vs.take k)
  | [], vs, k, r => by simp only [RepVs] at r; subst r; simp [RepVs]
  | d :: ds, vs, 0, r => by simp [RepVs]
  | d :: ds, vs, k + 1, r => by
    simp only [RepVs] at r
    obtain ⟨y, ys, rfl, h1, h2, h3⟩ := r
    simp only [List.take_succ_cons, RepVs]
    exact ⟨y, ys.take k, rfl, h1, h2, RepVs_take k h3⟩

theorem RepVs_drop : ∀ {l : List V} {vs : List Value} (k : Nat), RepVs g H l vs → RepVs g H (l.drop k) (vs.drop k)
  | [], vs, k, r => by simp only [RepVs] at r; subst r; simp [RepVs]
  | d :: ds, vs, 0, r => by simpa using r
  | d :: ds, vs, k + 1, r => by
    simp only [RepVs] at r
    obtain ⟨y, ys, rfl, h1, h2, h3⟩ := r
    simp only [List.drop_succ_cons]
    exact RepVs_drop k h3

theorem undL_get {n : Nat} : ∀ {l : List V} {i : Nat} {v : V}, undL n l = true → l[i]? = some v → v.und n = true
  | [], i, v, _, h => by simp at h
  | x :: xs, 0, v, u, h => by
    simp only [undL, Bool.and_eq_true] at u
    simp only [List.getElem?_cons_zero, Option.some.injEq] at h
    subst h; exact u.1
  | x :: xs, i + 1, v, u, h => by
    simp only [undL, Bool.and_eq_true] at u
    simp only [List.getElem?_cons_succ] at h
    exact undL_get u.2 h

theorem undL_drop {n : Nat} : ∀ {l : List V} (k : Nat), undL n l = true → undL n (l.drop k) = true
  | [], k, u => by simp [undL]
  | x :: xs, 0, u => by simpa using u
  | x :: xs, k + 1, u => by
    simp only [undL, Bool.and_eq_true] at u
    simp only [List.drop_succ_cons]
    exact undL_drop k u.2

theorem undL_take {n : Nat} : ∀ {l : List V} (k : Nat), undL n l = true → undL n (l.take k) = true
  | [], k, u => by simp [undL]
  | x :: xs, 0, u => by simp [undL]
  | x :: xs, k + 1, u => by
    simp only [undL, Bool.and_eq_true] at u
    simp only [List.take_succ_cons, undL, Bool.and_eq_true]
    exact ⟨u.1, undL_take k u.2⟩

/-! Data out of values. -/
theorem toD1_rep {v : V} {d : D} {x : Value} (hI : Inv cx g H w) (h : toD1 H v = some d) (r : Rep g H v x) : RepD g.C d x := by
  cases v with
  | d y => simp only [toD1, Option.some.injEq] at h; subst h; simpa only [Rep] using r
  | nils => simp only [toD1, Option.some.injEq] at h; subst h; simp only [Rep] at r; subst r; exact ⟨none, 0, rfl, Nat.le_refl _, .inl rfl⟩
  | row id len =>
    simp only [Rep] at r
    obtain ⟨a, cap, sz, l, rfl, ho, h1, h2⟩ := r
    simp only [toD1, ho] at h
    split at h
    · rename_i hl
      simp only [Option.some.injEq] at h
      subst h
      simp only [RepD, RepCs]
      refine ⟨a, cap, by rw [hl], ?_⟩
      rcases h2 hl.symm with ⟨h0, _, _⟩ | ⟨b, hJ, rfl⟩
      · rw [h0] at hl
        have := List.eq_nil_of_length_eq_zero hl
        subst this
        exact ⟨Nat.zero_le _, .inl rfl⟩
      · have := hI.ob id b cap _ hJ ho
        obtain ⟨cur, e, _, h4, h5, h6, _⟩ := this
        exact ⟨h6, .inr ⟨b, 0, sz, g.C b, rfl, h5, by simp, h4⟩⟩
    · cases h
  | arr id off len =>
    simp only [Rep] at r
    obtain ⟨⟨o, ho, _⟩, b, c, cap, hJ, rfl, hlc⟩ := r
    simp only [toD1, ho] at h
    split at h
    · rename_i c' hc
      simp only [Option.some.injEq] at hc
      subst hc
      split at h
      · rename_i hl
        simp only [Option.some.injEq] at h
        subst h
        simp only [RepD, RepCs]
        refine ⟨_, cap, by simp; omega, by simp; omega, .inr ⟨b, off, 1, ((g.C b).drop off).take len, rfl, by omega, List.take_prefix _ _, ?_⟩⟩
        have := hI.ob id b c _ hJ ho
        exact RepDs_El (RepDs_take len (RepDs_drop off this))
      · cases h
    · cases h
  | _ => simp [toD1] at h

theorem toDs_rep (hI : Inv cx g H w) : ∀ {l : List V} {ds : List D} {vs : List Value}, toDs H l = some ds → RepVs g H l vs → RepDs g.C ds vs
  | [], ds, vs, h, r => by simp only [toDs, Option.some.injEq] at h; subst h; simpa only [RepVs, RepDs] using r
  | v :: l, ds, vs, h, r => by
    simp only [RepVs] at r
    obtain ⟨y, ys, rfl, h1, h2, h3⟩ := r
    simp only [toDs] at h
    split at h
    · rename_i x xs hx hxs
      simp only [Option.some.injEq] at h
      subst h
      simp only [RepDs]
      have hrep := toD1_rep hI hx h2
      have hone : x.one = true := by
        cases v with
        | d q => simp only [toD1, Option.some.injEq] at hx; subst hx; cases q <;> first | rfl | cases h1
        | nils => simp only [toD1, Option.some.injEq] at hx; subst hx; rfl
        | row id len => simp only [toD1] at hx; split at hx <;> first | (split at hx <;> cases hx; rfl) | cases hx
        | arr id off len => simp only [toD1] at hx; split at hx <;> first | (split at hx <;> cases hx; rfl) | cases hx
        | _ => simp [toD1] at hx
      refine ⟨y, ys, rfl, hone, ?_, toDs_rep hI hxs h3⟩
      cases x <;> first | exact hrep | cases hone
    · cases h

theorem toD_rep {v : V} {d : D} {x : Value} (hI : Inv cx g H w) (h : toD H v = some d) (r : Rep g H v x) : RepD g.C d x := by
  cases v with
  | agg l =>
    simp only [toD] at h
    obtain ⟨ds, hd, rfl⟩ := Option.map_eq_some_iff.1 h
    simp only [Rep] at r
    obtain ⟨cs, rfl, r⟩ := r
    exact ⟨cs, rfl, toDs_rep hI hd r⟩
  | _ => exact toD1_rep hI (by simpa only [toD] using h) r

theorem toArg_rep {v : V} {x : Value} (hI : Inv cx g H w) (r : Rep g H v x) : Rep g H (toArg H v) x := by
  unfold toArg
  split
  · rename_i d hd; simp only [Rep]; exact toD_rep hI hd r
  · exact r

theorem toArg_und {v : V} {n : Nat} (u : v.und n = true) : (toArg H v).und n = true := by
  unfold toArg
  split
  · rfl
  · exact u
end
end Go.Vm
