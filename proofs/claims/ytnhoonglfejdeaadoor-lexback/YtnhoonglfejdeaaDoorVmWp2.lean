import Derived.Test.YtnhoonglfejdeaaDoorVmWp
import Derived.Test.YtnhoonglfejdeaaDoorVmDrawAll
namespace Go.Vm
section
variable (pg : Pg)
noncomputable def putK (kn : List (Nat × Bool)) (dst : Option Nat) (v : V) (e : Env) (H : Hp) (k : List (Nat × Bool) → Env → Hp → Prop) : Prop := match dst with
  | some d => forceL (forget kn d) fun kn => k kn ((d, v) :: e) H
  | none => k kn e H
noncomputable def goK (b : Nat) (dst : Option Nat) (op : VOp) (kn : List (Nat × Bool)) (e : Env) (H : Hp) (k : List (Nat × Bool) → Env → Hp → Prop) : Prop :=
  match op with
  | .mv (.c (.d (.bool t))) => (match dst with
    | some d => forceL (forget kn d) fun kn => k ((d, t) :: kn) ((d, .d (.bool t)) :: e) H
    | none => k kn e H)
  | .mv (.t i) => (match dst, look kn i with
    | some d, some t => forceL (forget kn d) fun kn => k ((d, t) :: kn) ((d, .d (.bool t)) :: e) H
    | dst, _ => forceV (gE e i) fun v => putK kn dst v e H k)
  | op => wpO pg kn b e H op fun v H' => putK kn dst v e H' k
noncomputable def wpOper (b : Nat) (o : VOper) (kn : List (Nat × Bool)) (e : Env) (H : Hp) (k : List (Nat × Bool) → Env → Hp → Prop) : Prop := match o with
  | ⟨dst, op, none⟩ => goK pg b dst op kn e H k
  | ⟨dst, op, some (g, bb)⟩ => match look kn g with
    | some t => match t, bb with
      | true, true => goK pg b dst op kn e H k
      | false, false => goK pg b dst op kn e H k
      | true, false => putK kn dst (.tup []) e H k
      | false, true => putK kn dst (.tup []) e H k
    | none => match gE e g with
      | .tup [] => putK kn dst (.tup []) e H k
      | .d (.bool t) => (t = bb → goK pg b dst op ((g, bb) :: kn) e H k) ∧ (t = (!bb) → putK ((g, !bb) :: kn) dst (.tup []) e H k)
      | _ => False
abbrev Kn := List (Nat × Bool)
noncomputable def wpOps (b : Nat) (l : List VOper) : Kn → Env → Hp → (Kn → Env → Hp → Prop) → Prop := List.rec (motive := fun _ => Kn → Env → Hp → (Kn → Env → Hp → Prop) → Prop) (fun kn e H K => K kn e H) (fun o _ ih kn e H K => wpOper pg b o kn e H fun kn e H => ih kn e H K) l
/-- Operations that leave the heap as it is. -/
def pureO : VOp → Bool
  | .mv _ | .pick .. | .build .. | .ld .. | .bin .. | .un .. | .conv .. | .fld .. | .fadr .. | .ext .. | .len .. | .mkfn .. | .eqa .. | .eqb .. | .convs .. | .isnil .. | .bslice .. | .idx .. | .iadra .. | .iadr .. | .slcs .. | .slc .. | .mget .. => true
  | _ => false
noncomputable def grK (p : Bool) (H H' : Hp) (q : Prop) : Prop := match p with | true => q | false => grew H H' = true ∧ q
noncomputable def dstK (d : Option Nat) (e : Env) (H : Hp) (q : Prop) : Prop := match d with | some d => chk ((gE e d).und H.length) q | none => q
noncomputable def wpDraw (b : Nat) (m : Nat) (l : List VOper) : Kn → Env → Hp → (Kn → Env → Hp → Prop) → Prop := List.rec (motive := fun _ => Nat → Kn → Env → Hp → (Kn → Env → Hp → Prop) → Prop) (fun _ kn e H K => K kn e H) (fun o _ ih m kn e H K => wpOper pg b o kn e H fun kn e' H' => match m with
  | 0 => ih 0 kn e' H' K
  | m + 1 => grK (pureO o.op) H H' (dstK o.dst e' H' (ih m kn e' H' K))) l m

/-- The slots that a loop keeps. -/
noncomputable def keepK (e : Env) (ks : List Nat) : (Env → Prop) → Prop := List.rec (motive := fun _ => (Env → Prop) → Prop) (fun k => k []) (fun i _ ih k => forceV (gE e i) fun v => ih fun r => k ((i, v) :: r)) ks
theorem keepK_eq (e : Env) : ∀ (ks : List Nat) (k : Env → Prop), keepK e ks k = k (keepE ks e)
  | [], _ => rfl
  | i :: r, k => by
    rw [show keepK e (i :: r) k = forceV (gE e i) (fun v => keepK e r fun r => k ((i, v) :: r)) from rfl, forceV_eq, keepK_eq e r, gE_eq]
    rfl
/-- The same, behind a round. -/
noncomputable def backK (n : Nat) (e : Env) (ks : List Nat) : (Env → Prop) → Prop := List.rec (motive := fun _ => (Env → Prop) → Prop) (fun k => k []) (fun i _ ih k => forceV (gE e i) fun v => match v.und n with
  | true => ih fun r => k ((i, v) :: r)
  | false => ih fun r => k ((i, .undef) :: r)) ks
theorem backK_eq (n : Nat) (e : Env) : ∀ (ks : List Nat) (k : Env → Prop), backK n e ks k = k (cut n (keepE ks e))
  | [], _ => rfl
  | i :: r, k => by
    rw [show backK n e (i :: r) k = forceV (gE e i) (fun v => match v.und n with
      | true => backK n e r fun r => k ((i, v) :: r)
      | false => backK n e r fun r => k ((i, .undef) :: r)) from rfl, forceV_eq, gE_eq]
    have hc : cut n (keepE (i :: r) e) = (i, if (getE e i).und n then getE e i else .undef) :: cut n (keepE r e) := rfl
    rw [hc]
    cases hu : (getE e i).und n <;> simp only [backK_eq n e r] <;> rfl
/-- A loop, as a condition. -/
@[irreducible] def LoopK (b : Nat) (ks : List Nat) (c : VCode) (e : Env) (H : Hp) (Q : Ex → Kn → Env → Hp → Prop) : Prop := ∃ x e' H', ev pg (.loop ks c) ⟨e, H, b⟩ = some (x, ⟨e', H', b⟩) ∧ Q x [] e' H'
noncomputable def wp (b : Nat) (c : VCode) : Kn → Env → Hp → (Ex → Kn → Env → Hp → Prop) → Prop := VCode.rec (motive := fun _ => Kn → Env → Hp → (Ex → Kn → Env → Hp → Prop) → Prop)
  (fun kn e H Q => Q .nrm kn e H)
  (fun ops kn e H Q => wpOps pg b ops kn e H fun kn e H => Q .nrm kn e H)
  (fun m ops kn e H Q => wpDraw pg b m ops kn e H fun kn e H => Q .nrm kn e H)
  (fun _ _ ihc ihd kn e H Q => ihc kn e H fun x kn' e' H' => match x with
    | .nrm => ihd kn' e' H' Q
    | .exit i => Q (.exit i) kn' e' H'
    | .ret => Q .ret kn' e' H')
  (fun o _ _ ihc ihd kn e H Q => match o with
    | .t i => (match look kn i with
      | some true => ihc kn e H Q
      | some false => ihd kn e H Q
      | none => match gE e i with
        | .d (.bool t) => (t = true → ihc ((i, true) :: kn) e H Q) ∧ (t = false → ihd ((i, false) :: kn) e H Q)
        | _ => False)
    | o => match gO pg.toCx e o with
      | .d (.bool t) => (t = true → ihc kn e H Q) ∧ (t = false → ihd kn e H Q)
      | _ => False)
  (fun id _ ih kn e H Q => ih kn e H fun x kn' e' H' => match x with
    | .exit i => (match Nat.beq i id with | true => Q .nrm kn' e' H' | false => Q (.exit i) kn' e' H')
    | .nrm => Q .nrm kn' e' H'
    | .ret => Q .ret kn' e' H')
  (fun ks c _ _ e H Q => keepK e ks fun e => LoopK pg b ks c e H Q)
  (fun _ ih kn e H Q => ih kn e H Q)
  (fun i kn e H Q => Q (.exit i) kn e H)
  (fun kn e H Q => Q .ret kn e H)
  (fun sz t kn e H Q => match gE e t with
    | .nils => chk (Nat.blt 0 sz) (lenK H 0 fun n => forceL (H ++ [.row sz []]) fun H' => forceL (forget kn t) fun kn => Q .nrm kn ((t, .row n 0) :: e) H')
    | _ => False)
  (fun sz t off kn e H Q => match gE e t with
    | .ptr id o => nthK H id fun ob => match ob with
      | .box c => nthK c (o + off) fun v => match v with
        | .nils => chk (Nat.ble b id && Nat.blt 0 sz) (lenK H 0 fun n => forceL (c.set (o + off) (.row n 0)) fun c' => forceL (H.set id (.box c') ++ [.row sz []]) fun H' => Q .nrm kn e H')
        | _ => False
      | _ => False
    | _ => False)
  (fun t kn e H Q => match gE e t with
    | .arr id _ _ => nthK H id fun ob => match ob with
      | .box c => ∃ ds, allD c = some ds ∧ forceL (H.set id (.frz ds)) fun H' => Q .nrm kn e H'
      | _ => False
    | _ => False) c
theorem wp_cond_t (b i : Nat) (c d : VCode) (kn e H Q) : wp pg b (.cond (.t i) c d) kn e H Q = (match look kn i with
      | some true => wp pg b c kn e H Q
      | some false => wp pg b d kn e H Q
      | none => match gE e i with
        | .d (.bool t) => (t = true → wp pg b c ((i, true) :: kn) e H Q) ∧ (t = false → wp pg b d ((i, false) :: kn) e H Q)
        | _ => False) := rfl
theorem wp_newrow (b sz t : Nat) (kn e H Q) : wp pg b (.newrow sz t) kn e H Q = (match gE e t with
    | .nils => chk (Nat.blt 0 sz) (lenK H 0 fun n => forceL (H ++ [.row sz []]) fun H' => forceL (forget kn t) fun kn => Q .nrm kn ((t, .row n 0) :: e) H')
    | _ => False) := rfl
theorem wp_bindrow (b sz t off : Nat) (kn e H Q) : wp pg b (.bindrow sz t off) kn e H Q = (match gE e t with
    | .ptr id o => nthK H id fun ob => match ob with
      | .box c => nthK c (o + off) fun v => match v with
        | .nils => chk (Nat.ble b id && Nat.blt 0 sz) (lenK H 0 fun n => forceL (c.set (o + off) (.row n 0)) fun c' => forceL (H.set id (.box c') ++ [.row sz []]) fun H' => Q .nrm kn e H')
        | _ => False
      | _ => False
    | _ => False) := rfl
theorem wp_freeze (b t : Nat) (kn e H Q) : wp pg b (.freeze t) kn e H Q = (match gE e t with
    | .arr id _ _ => nthK H id fun ob => match ob with
      | .box c => ∃ ds, allD c = some ds ∧ forceL (H.set id (.frz ds)) fun H' => Q .nrm kn e H'
      | _ => False
    | _ => False) := rfl
end
section
variable {pg : Pg}
theorem putK_imp {kn dst v e H b} {k : List (Nat × Bool) → Env → Hp → Prop} (hk : KnOk kn e) (h : putK kn dst v e H k) : ∃ kn' e' H', lay dst e b (some (v, H)) = some ⟨e', H', b⟩ ∧ KnOk kn' e' ∧ k kn' e' H' := by
  cases dst with
  | none => exact ⟨_, _, _, rfl, hk, h⟩
  | some d =>
    have h : k (forget kn d) ((d, v) :: e) H := by simpa only [putK, forceL_eq] using h
    exact ⟨_, _, _, rfl, hk.forget d v, h⟩
theorem goK_imp {b dst op kn e H} {k : List (Nat × Bool) → Env → Hp → Prop} (hk : KnOk kn e) (h : goK pg b dst op kn e H k) : ∃ kn' e' H', lay dst e b (evOp pg.toCx (evF pg) b e H op) = some ⟨e', H', b⟩ ∧ KnOk kn' e' ∧ k kn' e' H' := by
  have gen : ∀ op, (wpO pg kn b e H op fun v H' => putK kn dst v e H' k) → ∃ kn' e' H', lay dst e b (evOp pg.toCx (evF pg) b e H op) = some ⟨e', H', b⟩ ∧ KnOk kn' e' ∧ k kn' e' H' := by
    intro op h
    obtain ⟨v, H', hv, h⟩ := wpO_imp hk h
    rw [hv]
    exact putK_imp hk h
  unfold goK at h
  split at h
  · rename_i t
    cases dst with
    | none => exact ⟨_, _, _, rfl, hk, h⟩
    | some d =>
      have h : k ((d, t) :: forget kn d) ((d, .d (.bool t)) :: e) H := by simpa only [forceL_eq] using h
      exact ⟨_, _, _, rfl, (hk.forget d _).add (by simp [getE]), h⟩
  · rename_i i
    split at h
    · rename_i d t ht
      rw [forceL_eq] at h
      exact ⟨_, _, _, by simp only [evOp, evO, hk i t ht, lay_some, putE], (hk.forget d _).add (by simp [getE]), h⟩
    · rw [forceV_eq, gE_eq] at h
      exact putK_imp hk h
  · exact gen _ h
theorem wpOper_imp {b : Nat} {o : VOper} {kn e H} {k : List (Nat × Bool) → Env → Hp → Prop} (hk : KnOk kn e) (h : wpOper pg b o kn e H k) : ∃ kn' e' H', evOper pg.toCx (evF pg) o ⟨e, H, b⟩ = some ⟨e', H', b⟩ ∧ KnOk kn' e' ∧ k kn' e' H' := by
  obtain ⟨dst, op, g⟩ := o
  cases g with
  | none => exact goK_imp hk h
  | some p =>
    obtain ⟨g, bb⟩ := p
    have yes : ∀ {kn}, KnOk kn e → getE e g = .d (.bool bb) → goK pg b dst op kn e H k → ∃ kn' e' H', evOper pg.toCx (evF pg) ⟨dst, op, some (g, bb)⟩ ⟨e, H, b⟩ = some ⟨e', H', b⟩ ∧ KnOk kn' e' ∧ k kn' e' H' := by
      intro kn hk hg h
      simp only [evOper, hg, grd_bool, if_true]
      exact goK_imp hk h
    have no : ∀ {kn}, KnOk kn e → getE e g = .d (.bool !bb) → putK kn dst (.tup []) e H k → ∃ kn' e' H', evOper pg.toCx (evF pg) ⟨dst, op, some (g, bb)⟩ ⟨e, H, b⟩ = some ⟨e', H', b⟩ ∧ KnOk kn' e' ∧ k kn' e' H' := by
      intro kn hk hg h
      simp only [evOper, hg, grd_bool]
      rw [if_neg (by cases bb <;> simp)]
      exact putK_imp (b := b) hk h
    unfold wpOper at h
    simp only at h
    split at h
    · rename_i t ht
      have hg := hk g t ht
      split at h
      · exact yes hk hg h
      · exact yes hk hg h
      · exact no hk hg h
      · exact no hk hg h
    · rw [gE_eq] at h
      split at h
      · rename_i hg
        simp only [evOper, hg, grd_tup]
        exact putK_imp (b := b) hk h
      · rename_i t hg
        by_cases ht : t = bb
        · subst ht
          exact yes (hk.add hg) hg (h.1 rfl)
        · have ht' : t = !bb := by cases t <;> cases bb <;> simp_all
          rw [ht'] at hg
          exact no (hk.add hg) hg (h.2 ht')
      · cases h
theorem wpOps_imp {b : Nat} : ∀ {l : List VOper} {kn e H} {K : Kn → Env → Hp → Prop}, KnOk kn e → wpOps pg b l kn e H K → ∃ kn' e' H', evOps pg.toCx (evF pg) l ⟨e, H, b⟩ = some ⟨e', H', b⟩ ∧ KnOk kn' e' ∧ K kn' e' H'
  | [], _, _, _, _, hk, h => ⟨_, _, _, rfl, hk, h⟩
  | o :: r, kn, e, H, K, hk, h => by
    obtain ⟨kn', e', H', h1, h2, h3⟩ := wpOper_imp hk h
    obtain ⟨kn2, e2, H2, h4, hk2, h5⟩ := wpOps_imp h2 h3
    exact ⟨kn2, e2, H2, by simp only [evOps, h1, Option.bind_some, h4], hk2, h5⟩
theorem pure_h {b : Nat} {e : Env} {H : Hp} {o : VOp} {v : V} {H' : Hp} (hp : pureO o = true) (h : evOp pg.toCx (evF pg) b e H o = some (v, H')) : H' = H := by
  cases o <;> first | (cases hp; done) | skip
  case len str x =>
    cases str <;> simp only [evOp] at h
    · cases hl : lenV (evO pg.toCx e x) with
      | none => rw [hl] at h; cases h
      | some n => rw [hl] at h; cases h; rfl
    · split at h
      · cases h; rfl
      · rename_i hh; cases hh
      · cases h
  all_goals
    simp only [evOp] at h
    repeat' split at h
    all_goals first
      | (cases h; done)
      | (simp only [Option.some.injEq, Prod.mk.injEq] at h; exact h.2.symm)
      | (simp only [Option.map_eq_some_iff, Prod.mk.injEq] at h; obtain ⟨_, _, _, h⟩ := h; exact h.symm)
theorem pure_oper {b : Nat} {e : Env} {H : Hp} {o : VOper} {e' H'} (hp : pureO o.op = true) (h : evOper pg.toCx (evF pg) o ⟨e, H, b⟩ = some ⟨e', H', b⟩) : H' = H := by
  have key : ∀ {dst : Option Nat} {r : Option (V × Hp)}, (∀ v H', r = some (v, H') → H' = H) → lay dst e b r = some ⟨e', H', b⟩ → H' = H := by
    intro dst r hr h
    cases r with
    | none => cases h
    | some q =>
      obtain ⟨v, H2⟩ := q
      have := hr v H2 rfl
      simp only [lay_some, Option.some.injEq, St.mk.injEq] at h
      rw [← h.2.1, this]
  obtain ⟨dst, op, g⟩ := o
  cases g with
  | none => exact key (fun v H' hh => pure_h hp hh) h
  | some p =>
    obtain ⟨g, bb⟩ := p
    simp only [evOper] at h
    unfold grd at h
    split at h
    · split at h
      · exact key (fun v H' hh => pure_h hp hh) h
      · simp only [Option.some.injEq, St.mk.injEq] at h; exact h.2.1.symm
    · simp only [Option.some.injEq, St.mk.injEq] at h; exact h.2.1.symm
    · cases h
theorem evDraw_zero (cx : Cx) (orc : Orc) (l : List VOper) (s : St) : evDraw cx orc 0 l s = evOps cx orc l s := by cases l <;> simp [evDraw, evOps]
theorem wpDraw_imp {b : Nat} : ∀ {l : List VOper} {m : Nat} {kn e H} {K : Kn → Env → Hp → Prop}, KnOk kn e → wpDraw pg b m l kn e H K → ∃ kn' e' H', evDraw pg.toCx (evF pg) m l ⟨e, H, b⟩ = some ⟨e', H', b⟩ ∧ KnOk kn' e' ∧ K kn' e' H'
  | [], m, _, _, _, _, hk, h => ⟨_, _, _, by cases m <;> rfl, hk, h⟩
  | o :: r, 0, kn, e, H, K, hk, h => by
    obtain ⟨kn', e', H', h1, h2, h3⟩ := wpOper_imp hk h
    obtain ⟨kn2, e2, H2, h4, hk2, h5⟩ := wpDraw_imp (m := 0) h2 h3
    rw [evDraw_zero] at h4
    exact ⟨kn2, e2, H2, by rw [evDraw_zero]; simp only [evOps, h1, Option.bind_some, h4], hk2, h5⟩
  | o :: r, m + 1, kn, e, H, K, hk, h => by
    obtain ⟨kn', e', H', h1, h2, h3⟩ := wpOper_imp hk h
    have hg : grew H H' = true ∧ dstK o.dst e' H' (wpDraw pg b m r kn' e' H' K) := by
      have h3 : grK (pureO o.op) H H' (dstK o.dst e' H' (wpDraw pg b m r kn' e' H' K)) := h3
      unfold grK at h3
      cases hp : pureO o.op with
      | true =>
        rw [hp] at h3
        rw [pure_oper hp h1]
        exact ⟨by simp, by rw [pure_oper hp h1] at h3; exact h3⟩
      | false => rw [hp] at h3; exact h3
    have hd : dstOk o.dst ⟨e', H', b⟩ = true ∧ wpDraw pg b m r kn' e' H' K := by
      have := hg.2
      unfold dstK at this
      unfold dstOk
      cases hd : o.dst with
      | some d => rw [hd] at this; simp only [chk_iff, gE_eq] at this; exact this
      | none => rw [hd] at this; exact ⟨rfl, this⟩
    obtain ⟨kn2, e2, H2, h4, hk2, h5⟩ := wpDraw_imp h2 hd.2
    exact ⟨kn2, e2, H2, by simp only [evDraw, h1, Option.bind_some, hg.1, hd.1, Bool.and_self, if_true, h4], hk2, h5⟩

theorem keepE_keepE (ks : List Nat) (e : Env) : keepE ks (keepE ks e) = keepE ks e := by
  have key : ∀ i, i ∈ ks → getE (keepE ks e) i = getE e i := fun i hi => by rw [getE_keepE, if_pos hi]
  show (ks.map fun k => (k, getE (keepE ks e) k)) = ks.map fun k => (k, getE e k)
  apply List.map_congr_left
  intro i hi
  rw [key i hi]
theorem wp_imp {b : Nat} : ∀ {c : VCode} {kn e H} {Q : Ex → Kn → Env → Hp → Prop}, KnOk kn e → wp pg b c kn e H Q → ∃ x kn' e' H', ev pg c ⟨e, H, b⟩ = some (x, ⟨e', H', b⟩) ∧ KnOk kn' e' ∧ Q x kn' e' H'
  | .skip, _, _, _, _, hk, h => ⟨_, _, _, _, rfl, hk, h⟩
  | .reg ops, kn, e, H, Q, hk, h => by
    obtain ⟨kn', e', H', h1, hk', h2⟩ := wpOps_imp hk h
    exact ⟨_, kn', e', H', by rw [ev_reg, evR, h1]; rfl, hk', h2⟩
  | .draw m ops, kn, e, H, Q, hk, h => by
    obtain ⟨kn', e', H', h1, hk', h2⟩ := wpDraw_imp hk h
    exact ⟨_, kn', e', H', by rw [ev_draw, evD, h1]; rfl, hk', h2⟩
  | .seq c d, kn, e, H, Q, hk, h => by
    obtain ⟨x, kn', e', H', h1, hk', h2⟩ := wp_imp (c := c) hk h
    cases x with
    | nrm =>
      obtain ⟨x2, kn2, e2, H2, h3, hk2, h4⟩ := wp_imp (c := d) hk' h2
      exact ⟨x2, kn2, e2, H2, by rw [ev_seq, h1, sq_nrm, h3], hk2, h4⟩
    | exit i => exact ⟨_, kn', e', H', by rw [ev_seq, h1, sq_exit], hk', h2⟩
    | ret => exact ⟨_, kn', e', H', by rw [ev_seq, h1, sq_ret], hk', h2⟩
  | .cond o c d, kn, e, H, Q, hk, h => by
    have yes : evO pg.toCx e o = .d (.bool true) → ∀ {kn}, KnOk kn e → wp pg b c kn e H Q → ∃ x kn' e' H', ev pg (.cond o c d) ⟨e, H, b⟩ = some (x, ⟨e', H', b⟩) ∧ KnOk kn' e' ∧ Q x kn' e' H' := by
      intro ht kn hk h
      obtain ⟨x, kn', e', H', h1, hk', h2⟩ := wp_imp (c := c) hk h
      exact ⟨x, kn', e', H', by rw [ev_cond]; simp only [ht, cnd_bool, if_true]; exact h1, hk', h2⟩
    have no : evO pg.toCx e o = .d (.bool false) → ∀ {kn}, KnOk kn e → wp pg b d kn e H Q → ∃ x kn' e' H', ev pg (.cond o c d) ⟨e, H, b⟩ = some (x, ⟨e', H', b⟩) ∧ KnOk kn' e' ∧ Q x kn' e' H' := by
      intro ht kn hk h
      obtain ⟨x, kn', e', H', h1, hk', h2⟩ := wp_imp (c := d) hk h
      exact ⟨x, kn', e', H', by rw [ev_cond]; simp only [ht, cnd_bool]; exact h1, hk', h2⟩
    have gen : ∀ {f : Bool → Kn}, (match gO pg.toCx e o with | .d (.bool t) => (t = true → wp pg b c (f true) e H Q) ∧ (t = false → wp pg b d (f false) e H Q) | _ => False) → (∀ t, evO pg.toCx e o = .d (.bool t) → KnOk (f t) e) → ∃ x kn' e' H', ev pg (.cond o c d) ⟨e, H, b⟩ = some (x, ⟨e', H', b⟩) ∧ KnOk kn' e' ∧ Q x kn' e' H' := by
      intro f h hf
      rw [gO_eq] at h
      split at h
      · rename_i t ht
        cases t with
        | true => exact yes ht (hf _ ht) (h.1 rfl)
        | false => exact no ht (hf _ ht) (h.2 rfl)
      · cases h
    cases o with
    | t i =>
      rw [wp_cond_t] at h
      split at h
      · rename_i ht; exact yes (hk i _ ht) hk h
      · rename_i ht; exact no (hk i _ ht) hk h
      · exact gen (f := fun t => (i, t) :: kn) h fun t ht => hk.add ht
    | c v => exact gen (f := fun _ => kn) h fun _ _ => hk
    | g v => exact gen (f := fun _ => kn) h fun _ _ => hk
    | f v => exact gen (f := fun _ => kn) h fun _ _ => hk
  | .block id c, kn, e, H, Q, hk, h => by
    obtain ⟨x, kn', e', H', h1, hk', h2⟩ := wp_imp (c := c) hk h
    cases x with
    | nrm => exact ⟨_, kn', e', H', by rw [ev_block, h1, blk_nrm], hk', h2⟩
    | ret => exact ⟨_, kn', e', H', by rw [ev_block, h1, blk_ret], hk', h2⟩
    | exit i =>
      simp only at h2
      by_cases hi : i = id
      · rw [beqT hi] at h2
        exact ⟨_, kn', e', H', by rw [ev_block, h1, blk_exit, if_pos hi], hk', h2⟩
      · rw [beqF hi] at h2
        exact ⟨_, kn', e', H', by rw [ev_block, h1, blk_exit, if_neg hi], hk', h2⟩
  | .scope c, kn, e, H, Q, hk, h => by
    obtain ⟨x, kn', e', H', h1, hk', h2⟩ := wp_imp (c := c) hk h
    exact ⟨x, kn', e', H', by rw [ev_scope, h1], hk', h2⟩
  | .loop ks c, kn, e, H, Q, hk, h => by
    have h : keepK e ks fun e => LoopK pg b ks c e H Q := h
    rw [keepK_eq] at h
    unfold LoopK at h
    obtain ⟨x, e', H', h1, h2⟩ := h
    rw [ev_loop] at h1
    refine ⟨x, [], e', H', ?_, KnOk.nil e', h2⟩
    rw [ev_loop, ← h1]
    simp only [keepE_keepE]
  | .exit i, _, _, _, _, hk, h => ⟨_, _, _, _, rfl, hk, h⟩
  | .ret, _, _, _, _, hk, h => ⟨_, _, _, _, rfl, hk, h⟩
  | .newrow sz t, kn, e, H, Q, hk, h => by
    rw [wp_newrow] at h
    rw [gE_eq] at h
    split at h
    · rename_i ht
      simp only [chk_iff, lenK_eq, forceL_eq, Nat.zero_add] at h
      have hs : 0 < sz := by have := h.1; simp [Nat.blt] at this; omega
      exact ⟨_, _, _, _, by rw [ev_newrow]; simp only [ht, nwr_nils, if_pos hs], hk.forget t _, h.2⟩
    · cases h
  | .bindrow sz t off, kn, e, H, Q, hk, h => by
    rw [wp_bindrow] at h
    rw [gE_eq] at h
    split at h
    · rename_i id o ht
      obtain ⟨ob, ho, h⟩ := (nthK_iff ..).1 h
      cases ob with
      | box c =>
        obtain ⟨v, hv, h⟩ := (nthK_iff ..).1 h
        cases v with
        | nils =>
          simp only [chk_iff, lenK_eq, forceL_eq, Nat.zero_add, Bool.and_eq_true, Nat.ble_eq] at h
          have hs : 0 < sz := by have := h.1.2; simp [Nat.blt] at this; omega
          refine ⟨_, _, _, _, ?_, hk, h.2⟩
          simp only [ev, evC, ht, ho, hv]
          rw [if_pos ⟨h.1.1, hs⟩]
        | _ => cases h
      | _ => cases h
    · cases h
  | .freeze t, kn, e, H, Q, hk, h => by
    rw [wp_freeze] at h
    rw [gE_eq] at h
    split at h
    · rename_i id o l ht
      obtain ⟨ob, ho, h⟩ := (nthK_iff ..).1 h
      cases ob with
      | box c =>
        obtain ⟨ds, hd, h⟩ := h
        rw [forceL_eq] at h
        exact ⟨_, _, _, _, by simp only [ev, evC, ht, ho, hd], hk, h⟩
      | _ => cases h
    · cases h

/-- Loops, by a measure. -/
theorem wp_loop {ks : List Nat} {c : VCode} {b : Nat} {α : Type} (μ : α → Nat) (E : α → Env) (Hf : α → Hp) (P : α → Prop) {Q : Ex → Kn → Env → Hp → Prop}
    (step : ∀ a, P a → lenK (Hf a) 0 fun n => keepK (E a) ks fun e => wp pg n c [] e (Hf a) (fun x _ e' H' => match x with
      | .nrm => backK n e' ks fun e2 => forceL (H'.take n) fun H2 => ∃ a', P a' ∧ μ a' < μ a ∧ e2 = E a' ∧ H2 = Hf a'
      | .exit i => Q (.exit i) [] e' H'
      | .ret => Q .ret [] e' H')) (a : α) (ha : P a) : LoopK pg b ks c (E a) (Hf a) Q := by
  have key : ∀ n, ∀ a, μ a < n → P a → ∃ x e' H', ev pg (.loop ks c) ⟨E a, Hf a, b⟩ = some (x, ⟨e', H', b⟩) ∧ Q x [] e' H' := by
    intro n
    induction n with
    | zero => intro a h; omega
    | succ n ih =>
      intro a hn ha
      have st := step a ha
      rw [lenK_eq, keepK_eq, Nat.zero_add] at st
      obtain ⟨x, kn', e', H', h1, _, h2⟩ := wp_imp (KnOk.nil _) st
      rw [ev_loop]
      simp only [h1]
      cases x with
      | nrm =>
        simp only [backK_eq, forceL_eq] at h2
        obtain ⟨a', h3, h4, h5, h6⟩ := h2
        simp only [rnd_nrm, h5, h6]
        exact ih a' (by omega) h3
      | exit i => exact ⟨_, e', H', rfl, h2⟩
      | ret => exact ⟨_, e', H', rfl, h2⟩
  unfold LoopK
  exact key (μ a + 1) a (by omega) ha

noncomputable def resK (e : Env) (H : Hp) (l : List VRes) : (List V → Prop) → Prop := List.rec (motive := fun _ => (List V → Prop) → Prop) (fun k => k []) (fun o _ ih k => match o with
  | .tmp t => argK H (gE e t) fun v => ih fun vs => k (v :: vs)
  | .cell t n => (match gE e t with
    | .ptr id off => nthK H id fun ob => match ob with
      | .box c => partK n c off fun v => argK H v fun v => ih fun vs => k (v :: vs)
      | .frz c => partK n (c.map V.d) off fun v => argK H v fun v => ih fun vs => k (v :: vs)
      | _ => False
    | _ => False)) l
theorem resK_cell (e : Env) (H : Hp) (t n) (r : List VRes) (k : List V → Prop) : resK e H (.cell t n :: r) k = (match gE e t with
    | .ptr id off => nthK H id fun ob => match ob with
      | .box c => partK n c off fun v => argK H v fun v => resK e H r fun vs => k (v :: vs)
      | .frz c => partK n (c.map V.d) off fun v => argK H v fun v => resK e H r fun vs => k (v :: vs)
      | _ => False
    | _ => False) := rfl
theorem resK_imp {e : Env} {H : Hp} : ∀ {l : List VRes} {k : List V → Prop}, resK e H l k → ∃ vs, resVs e H l = some vs ∧ k (vs.map (toArg H))
  | [], _, h => ⟨[], rfl, h⟩
  | .tmp t :: r, k, h => by
    have h : argK H (gE e t) fun v => resK e H r fun vs => k (v :: vs) := h
    have h := argK_imp _ _ _ h
    obtain ⟨vs, h1, h2⟩ := resK_imp h
    rw [gE_eq] at h2
    exact ⟨getE e t :: vs, by simp only [resVs_cons, resV_tmp, h1, resC_some], h2⟩
  | .cell t n :: r, k, h => by
    rw [resK_cell] at h
    rw [gE_eq] at h
    have fin : ∀ {v id off}, getE e t = .ptr id off → loadV H n (.ptr id off) = some v → (argK H v fun v => resK e H r fun vs => k (v :: vs)) → ∃ vs, resVs e H (.cell t n :: r) = some vs ∧ k (vs.map (toArg H)) := by
      intro v id off ht hl h
      have h := argK_imp _ _ _ h
      obtain ⟨vs, h1, h2⟩ := resK_imp h
      exact ⟨v :: vs, by simp only [resVs_cons, resV_cell, ht, hl, h1, resC_some], h2⟩
    split at h
    · rename_i id off ht
      obtain ⟨ob, ho, h⟩ := (nthK_iff ..).1 h
      cases ob with
      | box c =>
        obtain ⟨v, hv, h⟩ := (partK_iff ..).1 h
        exact fin ht (by simp only [loadV_ptr, ho, obLoad_box, hv]) h
      | frz c =>
        obtain ⟨v, hv, h⟩ := (partK_iff ..).1 h
        exact fin ht (by simp only [loadV_ptr, ho, obLoad_frz, hv]) h
      | _ => cases h
    · cases h

/-- Behind a function's body. -/
noncomputable def retK (res : List VRes) (n : Nat) (R : V → Hp → Prop) : Ex → Kn → Env → Hp → Prop := fun x _ e H => match x with
  | .exit _ => False
  | .nrm => resK e H res fun vs => chk (undL n vs) (R (oneOf vs) H)
  | .ret => resK e H res fun vs => chk (undL n vs) (R (oneOf vs) H)
theorem retK_imp {res : List VRes} {n : Nat} {R : V → Hp → Prop} {x kn e H b} (h : retK res n R x kn e H) : ∃ r, leaveE false res n (some (x, ⟨e, H, b⟩)) = some (r, H.take n) ∧ R r H := by
  have fin : (resK e H res fun vs => chk (undL n vs) (R (oneOf vs) H)) → ∃ r, leave ⟨0, 0, .skip, res, false⟩ n ⟨e, H, b⟩ = some (r, H.take n) ∧ R r H := by
    intro h
    obtain ⟨vs, h1, h2⟩ := resK_imp h
    rw [chk_iff] at h2
    exact ⟨_, by simp only [leave_eq, h1, lv_some, h2.1, if_true], h2.2⟩
  cases x with
  | nrm => exact fin h
  | ret => exact fin h
  | exit i => cases h
noncomputable def enterK (i : Nat) (l : List V) : (Env → Prop) → Prop := List.rec (motive := fun _ => Nat → (Env → Prop) → Prop) (fun _ k => k []) (fun v _ ih i k => ih (i + 1) fun e => k ((i, v) :: e)) l i
theorem enterK_eq : ∀ (i : Nat) (l : List V) (k : Env → Prop), enterK i l k = k (enterFrom i l)
  | _, [], _ => rfl
  | i, v :: r, k => enterK_eq (i + 1) r fun e => k ((i, v) :: e)
/-- A call upon data. -/
theorem evF_wp {f : Nat} {vf : VFn} (ht : pg.tbl f = some (.code vf)) {a : List V} (hn : a.length = vf.np) (hu : (undL 0 a && !vf.keep) = true) {r : V} (h : enterK 0 a fun e => wp pg 0 vf.body [] e [] (retK vf.res 0 fun v _ => v = r)) (H : Hp) : evF pg f a H = some (r, H) := by
  rw [enterK_eq] at h
  obtain ⟨x, kn, e, H', h1, _, h2⟩ := wp_imp (KnOk.nil _) h
  obtain ⟨r', h3, h4⟩ := retK_imp (b := 0) h2
  have hk : vf.keep = false := by cases hh : vf.keep <;> simp_all
  refine evF_of ht hn hu (h' := H'.take 0) ?_ H
  rw [enterE_eq, h1, hk, h3, h4]
/-- A call with a pointer among its arguments. -/
theorem evF_wpOn {f : Nat} {vf : VFn} (ht : pg.tbl f = some (.code vf)) {a : List V} (hn : a.length = vf.np) (hk : vf.keep = false) (hu : undL 0 a = false) {r : V} {H H2 : Hp} (h : enterK 0 a fun e => wp pg H.length vf.body [] e H (retK vf.res H.length fun v H' => v = r ∧ H'.take H.length = H2)) : evF pg f a H = some (r, H2) := by
  rw [enterK_eq] at h
  obtain ⟨x, kn, e, H', h1, _, h2⟩ := wp_imp (KnOk.nil _) h
  obtain ⟨r', h3, h4, h5⟩ := retK_imp (b := H.length) h2
  rw [evF_on ht hn (by rw [hu]; rfl), enterE_eq, h1, hk, h3, h4, h5]
end
end Go.Vm
