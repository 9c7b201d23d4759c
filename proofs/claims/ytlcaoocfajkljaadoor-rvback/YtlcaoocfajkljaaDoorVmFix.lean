import Derived.Test.YtlcaoocfajkljaaDoorVmEval
namespace Go.Vm

def OLe (o o' : Orc) : Prop := ∀ f a h r, o f a h = some r → o' f a h = some r
def LLe (l l' : Lp) : Prop := ∀ k b s r, l k b s = some r → l' k b s = some r

theorem evOp_mono {cx : Cx} {o o' : Orc} (ho : OLe o o') {b : Nat} {e : Env} {H : Hp} {op : VOp} {r : V × Hp} (h : evOp cx o b e H op = some r) : evOp cx o' b e H op = some r := by
  cases op with
  | call f args => exact ho _ _ _ _ h
  | callv f args =>
    simp only [evOp] at h ⊢
    split at h
    · exact ho _ _ _ _ h
    · cases h
  | _ => exact h

theorem lay_le {d : Option Nat} {e : Env} {b : Nat} {x y : Option (V × Hp)} {r : St} (h : ∀ q, x = some q → y = some q) (hr : lay d e b x = some r) : lay d e b y = some r := by
  cases x with
  | none => cases hr
  | some q => rw [h q rfl]; exact hr

theorem grd_le {v : V} {b : Bool} {d : Option Nat} {s : St} {x y : Option (V × Hp)} {r : St} (h : ∀ q, x = some q → y = some q) (hr : grd v b d s x = some r) : grd v b d s y = some r := by
  unfold grd at hr ⊢
  split at hr
  · split at hr
    · rename_i hb; exact (if_pos hb).trans (lay_le h hr)
    · rename_i hb; exact (if_neg hb).trans hr
  · exact hr
  · cases hr

theorem evOper_mono {cx : Cx} {o o' : Orc} (ho : OLe o o') {x : VOper} {s r : St} (h : evOper cx o x s = some r) : evOper cx o' x s = some r := by
  unfold evOper at h ⊢
  split at h
  · exact lay_le (fun q hq => evOp_mono ho hq) h
  · exact grd_le (fun q hq => evOp_mono ho hq) h

theorem evOps_mono {cx : Cx} {o o' : Orc} (ho : OLe o o') : ∀ {ops : List VOper} {s r : St}, evOps cx o ops s = some r → evOps cx o' ops s = some r
  | [], _, _, h => h
  | x :: xs, s, r, h => by
    simp only [evOps] at h ⊢
    cases hx : evOper cx o x s with
    | none => rw [hx] at h; cases h
    | some q => rw [hx] at h; rw [evOper_mono ho hx]; exact evOps_mono ho h

theorem evDraw_mono {cx : Cx} {o o' : Orc} (ho : OLe o o') : ∀ {m : Nat} {ops : List VOper} {s r : St}, evDraw cx o m ops s = some r → evDraw cx o' m ops s = some r
  | 0, [], _, _, h => h
  | _ + 1, [], _, _, h => h
  | 0, x :: xs, s, r, h => evOps_mono ho h
  | m + 1, x :: xs, s, r, h => by
    simp only [evDraw] at h ⊢
    cases hx : evOper cx o x s with
    | none => rw [hx] at h; cases h
    | some q =>
      rw [hx] at h; rw [evOper_mono ho hx]
      simp only [Option.bind_some] at h ⊢
      split at h
      · rename_i hg; rw [if_pos hg]; exact evDraw_mono ho h
      · cases h

theorem evC_mono {cx : Cx} {o o' : Orc} (ho : OLe o o') {l l' : Lp} (hl : LLe l l') : ∀ {c : VCode} {s : St} {r : Ex × St}, evC cx o l c s = some r → evC cx o' l' c s = some r := by
  intro c
  induction c with
  | skip => intro s r h; exact h
  | reg ops =>
    intro s r h; simp only [evC] at h ⊢
    cases hx : evOps cx o ops s with
    | none => rw [hx] at h; cases h
    | some q => rw [hx] at h; rw [evOps_mono ho hx]; exact h
  | draw m ops =>
    intro s r h; simp only [evC] at h ⊢
    cases hx : evDraw cx o m ops s with
    | none => rw [hx] at h; cases h
    | some q => rw [hx] at h; rw [evDraw_mono ho hx]; exact h
  | seq a b iha ihb =>
    intro s r h; simp only [evC] at h ⊢
    cases hx : evC cx o l a s with
    | none => rw [hx] at h; cases h
    | some q =>
      obtain ⟨x, s'⟩ := q
      rw [hx] at h; rw [iha hx]
      cases x <;> first | exact ihb h | exact h
  | cond c a b iha ihb =>
    intro s r h; simp only [evC] at h ⊢
    split at h
    · split at h
      · rename_i hb; rw [if_pos hb]; exact iha h
      · rename_i hb; rw [if_neg hb]; exact ihb h
    · cases h
  | block id b ih =>
    intro s r h; simp only [evC] at h ⊢
    cases hx : evC cx o l b s with
    | none => rw [hx] at h; cases h
    | some q => rw [hx] at h; rw [ih hx]; exact h
  | scope b ih => intro s r h; simp only [evC] at h ⊢; exact ih h
  | loop k b ih =>
    intro s r h; simp only [evC] at h ⊢
    cases hx : evC cx o l b ⟨keepE k s.e, s.h, s.h.length⟩ with
    | none => rw [hx] at h; cases h
    | some q =>
      obtain ⟨x, s'⟩ := q
      rw [hx] at h; rw [ih hx]
      cases x <;> simp only at h ⊢ <;> first | exact hl _ _ _ _ h | exact h
  | exit i => intro s r h; exact h
  | ret => intro s r h; exact h
  | newrow a b => intro s r h; exact h
  | bindrow a b c => intro s r h; exact h
  | freeze a => intro s r h; exact h

theorem bare_le {t : Bool} {h : Hp} {k k' : Hp → Option (V × Hp)} {r : V × Hp} (hk : ∀ h r, k h = some r → k' h = some r) (hr : bare t h k = some r) : bare t h k' = some r := by
  cases t with
  | true =>
    simp only [bare] at hr ⊢
    obtain ⟨q, hq, rfl⟩ := Option.map_eq_some_iff.1 hr
    rw [hk _ _ hq]; rfl
  | false => exact hk _ _ hr

theorem at_mono (pg : Pg) : ∀ n, OLe (fnAt pg n) (fnAt pg (n + 1)) ∧ LLe (lpAt pg n) (lpAt pg (n + 1))
  | 0 => ⟨fun _ _ _ _ h => (nomatch ((fnAt_zero pg _ _ _).symm.trans h)), fun _ _ _ _ h => (nomatch ((lpAt_zero pg _ _ _).symm.trans h))⟩
  | n + 1 => by
    obtain ⟨h1, h2⟩ := at_mono pg n
    refine ⟨fun f a h r hr => ?_, fun k b s r hr => ?_⟩
    · rw [fnAt_succ, stepF] at hr ⊢
      split at hr
      · cases hr
      · exact hr
      · rename_i vf ht
        split at hr
        · rename_i hl; rw [if_pos hl]
          refine bare_le (fun h r hr => ?_) hr
          cases hx : evC pg.toCx (fnAt pg n) (lpAt pg n) vf.body ⟨enterE a, h, h.length⟩ with
          | none => rw [hx] at hr; cases hr
          | some q => rw [hx] at hr; rw [evC_mono h1 h2 hx]; exact hr
        · cases hr
    · rw [lpAt_succ] at hr ⊢; exact evC_mono h1 h2 hr

theorem fn_le (pg : Pg) {n m : Nat} (h : n ≤ m) : OLe (fnAt pg n) (fnAt pg m) := by
  induction m with
  | zero => obtain rfl : n = 0 := by omega
            exact fun _ _ _ _ h => h
  | succ m ih =>
    by_cases hm : n = m + 1
    · subst hm; exact fun _ _ _ _ h => h
    · exact fun f a hh r hr => (at_mono pg m).1 _ _ _ _ (ih (by omega) _ _ _ _ hr)

theorem lp_le (pg : Pg) {n m : Nat} (h : n ≤ m) : LLe (lpAt pg n) (lpAt pg m) := by
  induction m with
  | zero => obtain rfl : n = 0 := by omega
            exact fun _ _ _ _ h => h
  | succ m ih =>
    by_cases hm : n = m + 1
    · subst hm; exact fun _ _ _ _ h => h
    · exact fun f a hh r hr => (at_mono pg m).2 _ _ _ _ (ih (by omega) _ _ _ _ hr)

open Classical in
/-- What a function computes, with whatever fuel it wants. -/
noncomputable def evF (pg : Pg) : Orc := fun f a h => if x : ∃ r, ∃ n, fnAt pg n f a h = some r then some x.choose else none

open Classical in
noncomputable def evL (pg : Pg) : Lp := fun k b s => if x : ∃ r, ∃ n, lpAt pg n k b s = some r then some x.choose else none

theorem evF_iff {pg : Pg} {f : Nat} {a : List V} {h : Hp} {r : V × Hp} : evF pg f a h = some r ↔ ∃ n, fnAt pg n f a h = some r := by
  unfold evF
  constructor
  · intro hx
    split at hx
    · rename_i x; cases hx; exact x.choose_spec
    · cases hx
  · rintro ⟨n, hn⟩
    have x : ∃ r, ∃ n, fnAt pg n f a h = some r := ⟨r, n, hn⟩
    rw [dif_pos x]
    obtain ⟨m, hm⟩ := x.choose_spec
    have e1 := fn_le pg (Nat.le_max_left n m) _ _ _ _ hn
    have e2 := fn_le pg (Nat.le_max_right n m) _ _ _ _ hm
    rw [e1] at e2; exact e2.symm

theorem evL_iff {pg : Pg} {k : List Nat} {b : VCode} {s : St} {r : Ex × St} : evL pg k b s = some r ↔ ∃ n, lpAt pg n k b s = some r := by
  unfold evL
  constructor
  · intro hx
    split at hx
    · rename_i x; cases hx; exact x.choose_spec
    · cases hx
  · rintro ⟨n, hn⟩
    have x : ∃ r, ∃ n, lpAt pg n k b s = some r := ⟨r, n, hn⟩
    rw [dif_pos x]
    obtain ⟨m, hm⟩ := x.choose_spec
    have e1 := lp_le pg (Nat.le_max_left n m) _ _ _ _ hn
    have e2 := lp_le pg (Nat.le_max_right n m) _ _ _ _ hm
    rw [e1] at e2; exact e2.symm

theorem fn_evF (pg : Pg) (n : Nat) : OLe (fnAt pg n) (evF pg) := fun _ _ _ _ h => evF_iff.2 ⟨n, h⟩
theorem lp_evL (pg : Pg) (n : Nat) : LLe (lpAt pg n) (evL pg) := fun _ _ _ _ h => evL_iff.2 ⟨n, h⟩

section fin
variable {pg : Pg}
theorem evOp_fin {b : Nat} {e : Env} {H : Hp} {op : VOp} {r : V × Hp} (h : evOp pg.toCx (evF pg) b e H op = some r) : ∃ n, evOp pg.toCx (fnAt pg n) b e H op = some r := by
  cases op with
  | call f args => exact evF_iff.1 h
  | callv f args =>
    simp only [evOp] at h ⊢
    split at h
    · exact evF_iff.1 h
    · cases h
  | _ => exact ⟨0, h⟩

theorem evOper_fin {x : VOper} {s r : St} (h : evOper pg.toCx (evF pg) x s = some r) : ∃ n, evOper pg.toCx (fnAt pg n) x s = some r := by
  unfold evOper at h ⊢
  cases hx : evOp pg.toCx (evF pg) s.b s.e s.h x.op with
  | none =>
    rw [hx] at h
    refine ⟨0, ?_⟩
    split at h
    · cases h
    · exact grd_le (fun q hq => by cases hq) h
  | some q =>
    obtain ⟨n, hn⟩ := evOp_fin hx
    rw [hx] at h
    exact ⟨n, by rw [hn]; exact h⟩

theorem evOps_fin : ∀ {ops : List VOper} {s r : St}, evOps pg.toCx (evF pg) ops s = some r → ∃ n, evOps pg.toCx (fnAt pg n) ops s = some r
  | [], _, _, h => ⟨0, h⟩
  | x :: xs, s, r, h => by
    simp only [evOps] at h
    cases hx : evOper pg.toCx (evF pg) x s with
    | none => rw [hx] at h; cases h
    | some q =>
      rw [hx] at h
      obtain ⟨n, hn⟩ := evOper_fin hx
      obtain ⟨m, hm⟩ := evOps_fin (ops := xs) h
      exact ⟨max n m, by simp only [evOps]; rw [evOper_mono (fn_le pg (Nat.le_max_left n m)) hn]; exact evOps_mono (fn_le pg (Nat.le_max_right n m)) hm⟩

theorem evDraw_fin : ∀ {k : Nat} {ops : List VOper} {s r : St}, evDraw pg.toCx (evF pg) k ops s = some r → ∃ n, evDraw pg.toCx (fnAt pg n) k ops s = some r
  | 0, [], _, _, h => ⟨0, h⟩
  | _ + 1, [], _, _, h => ⟨0, h⟩
  | 0, x :: xs, s, r, h => evOps_fin h
  | k + 1, x :: xs, s, r, h => by
    simp only [evDraw] at h
    cases hx : evOper pg.toCx (evF pg) x s with
    | none => rw [hx] at h; cases h
    | some q =>
      rw [hx] at h
      obtain ⟨n, hn⟩ := evOper_fin hx
      simp only [Option.bind_some] at h
      split at h
      · rename_i hg
        obtain ⟨m, hm⟩ := evDraw_fin (ops := xs) h
        refine ⟨max n m, ?_⟩
        simp only [evDraw]; rw [evOper_mono (fn_le pg (Nat.le_max_left n m)) hn]
        simp only [Option.bind_some, if_pos hg]
        exact evDraw_mono (fn_le pg (Nat.le_max_right n m)) hm
      · cases h

theorem evC_fin : ∀ {c : VCode} {s : St} {r : Ex × St}, evC pg.toCx (evF pg) (evL pg) c s = some r → ∃ n, evC pg.toCx (fnAt pg n) (lpAt pg n) c s = some r := by
  intro c
  induction c with
  | skip => intro s r h; exact ⟨0, h⟩
  | reg ops =>
    intro s r h; simp only [evC] at h ⊢
    cases hx : evOps pg.toCx (evF pg) ops s with
    | none => rw [hx] at h; cases h
    | some q => rw [hx] at h; obtain ⟨n, hn⟩ := evOps_fin hx; exact ⟨n, by rw [hn]; exact h⟩
  | draw m ops =>
    intro s r h; simp only [evC] at h ⊢
    cases hx : evDraw pg.toCx (evF pg) m ops s with
    | none => rw [hx] at h; cases h
    | some q => rw [hx] at h; obtain ⟨n, hn⟩ := evDraw_fin hx; exact ⟨n, by rw [hn]; exact h⟩
  | seq a b iha ihb =>
    intro s r h; simp only [evC] at h ⊢
    cases hx : evC pg.toCx (evF pg) (evL pg) a s with
    | none => rw [hx] at h; cases h
    | some q =>
      obtain ⟨x, s'⟩ := q
      rw [hx] at h
      obtain ⟨n, hn⟩ := iha hx
      cases x with
      | nrm =>
        obtain ⟨m, hm⟩ := ihb h
        refine ⟨max n m, ?_⟩
        rw [evC_mono (fn_le pg (Nat.le_max_left n m)) (lp_le pg (Nat.le_max_left n m)) hn]
        exact evC_mono (fn_le pg (Nat.le_max_right n m)) (lp_le pg (Nat.le_max_right n m)) hm
      | exit i => exact ⟨n, by rw [hn]; exact h⟩
      | ret => exact ⟨n, by rw [hn]; exact h⟩
  | cond c a b iha ihb =>
    intro s r h; simp only [evC] at h ⊢
    split at h
    · split at h
      · rename_i hb; simp only [if_pos hb]; exact iha h
      · rename_i hb; simp only [if_neg hb]; exact ihb h
    · cases h
  | block id b ih =>
    intro s r h; simp only [evC] at h ⊢
    cases hx : evC pg.toCx (evF pg) (evL pg) b s with
    | none => rw [hx] at h; cases h
    | some q => rw [hx] at h; obtain ⟨n, hn⟩ := ih hx; exact ⟨n, by rw [hn]; exact h⟩
  | scope b ih => intro s r h; simp only [evC] at h ⊢; exact ih h
  | loop k b ih =>
    intro s r h; simp only [evC] at h ⊢
    cases hx : evC pg.toCx (evF pg) (evL pg) b ⟨keepE k s.e, s.h, s.h.length⟩ with
    | none => rw [hx] at h; cases h
    | some q =>
      obtain ⟨x, s'⟩ := q
      rw [hx] at h
      obtain ⟨n, hn⟩ := ih hx
      cases x with
      | nrm =>
        obtain ⟨m, hm⟩ := evL_iff.1 h
        refine ⟨max n m, ?_⟩
        rw [evC_mono (fn_le pg (Nat.le_max_left n m)) (lp_le pg (Nat.le_max_left n m)) hn]
        exact lp_le pg (Nat.le_max_right n m) _ _ _ _ hm
      | exit i => exact ⟨n, by rw [hn]; exact h⟩
      | ret => exact ⟨n, by rw [hn]; exact h⟩
  | exit i => intro s r h; exact ⟨0, h⟩
  | ret => intro s r h; exact ⟨0, h⟩
  | newrow a b => intro s r h; exact ⟨0, h⟩
  | bindrow a b c => intro s r h; exact ⟨0, h⟩
  | freeze a => intro s r h; exact ⟨0, h⟩
end fin

/-- Code, with whatever fuel it wants. -/
noncomputable def ev (pg : Pg) (c : VCode) (s : St) : Option (Ex × St) := evC pg.toCx (evF pg) (evL pg) c s

theorem opt_eq {α : Type} {a b : Option α} (h1 : ∀ r, a = some r → b = some r) (h2 : ∀ r, b = some r → a = some r) : a = b := by
  cases ha : a with
  | some r => exact (h1 r ha).symm
  | none =>
    cases hb : b with
    | none => rfl
    | some r => rw [h2 r hb] at ha; cases ha

/-- A round of a loop, and the rounds behind it. -/
theorem evL_eq (pg : Pg) (k : List Nat) (b : VCode) (s : St) : evL pg k b s = ev pg (.loop k b) s := by
  refine opt_eq (fun r h => ?_) (fun r h => ?_)
  · obtain ⟨n, hn⟩ := evL_iff.1 h
    cases n with
    | zero => rw [lpAt_zero] at hn; cases hn
    | succ n => rw [lpAt_succ] at hn; exact evC_mono (fn_evF pg n) (lp_evL pg n) hn
  · obtain ⟨n, hn⟩ := evC_fin h
    exact evL_iff.2 ⟨n + 1, by rw [lpAt_succ]; exact hn⟩

theorem evF_prim {pg : Pg} {f : Nat} {F : List V → Hp → Option (V × Hp)} (ht : pg.tbl f = some (.prim F)) (a : List V) (h : Hp) : evF pg f a h = F a h := by
  refine opt_eq (fun r hr => ?_) (fun r hr => ?_)
  · obtain ⟨n, hn⟩ := evF_iff.1 hr
    cases n with
    | zero => rw [fnAt_zero] at hn; cases hn
    | succ n => rw [fnAt_succ, stepF, ht] at hn; exact hn
  · exact evF_iff.2 ⟨1, by rw [fnAt_succ, stepF, ht]; exact hr⟩

/-- What a function's body leaves on a heap. -/
noncomputable def bodyF (pg : Pg) (vf : VFn) (a : List V) (h : Hp) : Option (V × Hp) :=
  match ev pg vf.body ⟨enterE a, h, h.length⟩ with
  | some (.nrm, s) | some (.ret, s) => leave vf h.length s
  | _ => none

/-- A function's body is run, and what is new in the heap goes with it. -/
theorem evF_code {pg : Pg} {f : Nat} {vf : VFn} (ht : pg.tbl f = some (.code vf)) (a : List V) (h : Hp) :
    evF pg f a h = if a.length = vf.np then bare (undL 0 a && !vf.keep) h (bodyF pg vf a) else none := by
  refine opt_eq (fun r hr => ?_) (fun r hr => ?_)
  · obtain ⟨n, hn⟩ := evF_iff.1 hr
    cases n with
    | zero => rw [fnAt_zero] at hn; cases hn
    | succ n =>
      rw [fnAt_succ, stepF, ht] at hn
      simp only at hn
      split at hn
      · rename_i hl; rw [if_pos hl]
        refine bare_le (fun h r hn => ?_) hn
        cases hx : evC pg.toCx (fnAt pg n) (lpAt pg n) vf.body ⟨enterE a, h, h.length⟩ with
        | none => rw [hx] at hn; cases hn
        | some q => rw [hx] at hn; rw [bodyF, ev, evC_mono (fn_evF pg n) (lp_evL pg n) hx]; exact hn
      · cases hn
  · split at hr
    · rename_i hl
      have key : ∀ h r, bodyF pg vf a h = some r → ∃ n, (match evC pg.toCx (fnAt pg n) (lpAt pg n) vf.body ⟨enterE a, h, h.length⟩ with
          | some (.nrm, s) | some (.ret, s) => leave vf h.length s
          | _ => none) = some r := by
        intro h r hr
        rw [bodyF] at hr
        cases hx : ev pg vf.body ⟨enterE a, h, h.length⟩ with
        | none => rw [hx] at hr; cases hr
        | some q =>
          rw [hx] at hr
          obtain ⟨n, hn⟩ := evC_fin hx
          exact ⟨n, by rw [hn]; exact hr⟩
      cases ht' : (undL 0 a && !vf.keep) with
      | true =>
        rw [ht'] at hr
        simp only [bare] at hr
        obtain ⟨q, hq, rfl⟩ := Option.map_eq_some_iff.1 hr
        obtain ⟨n, hn⟩ := key _ _ hq
        refine evF_iff.2 ⟨n + 1, ?_⟩
        rw [fnAt_succ, stepF, ht]
        simp only [if_pos hl, ht', bare]
        exact congrArg (Option.map fun r => (r.1, h)) hn
      | false =>
        rw [ht'] at hr
        simp only [bare] at hr
        obtain ⟨n, hn⟩ := key _ _ hr
        refine evF_iff.2 ⟨n + 1, ?_⟩
        rw [fnAt_succ, stepF, ht]
        simp only [if_pos hl, ht', bare]
        exact hn
    · cases hr

end Go.Vm
