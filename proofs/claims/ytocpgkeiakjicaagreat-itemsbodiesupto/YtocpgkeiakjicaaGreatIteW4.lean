import Derived.Test.YtocpgkeiakjicaaGreatVmWp
import Derived.Test.YtocpgkeiakjicaaGreatVmDrawSound
import Derived.Test.YtocpgkeiakjicaaGreatVmRun
import Derived.Laws.Cover3
import Derived.Test.YtocpgkeiakjicaaGreatVmClone
import Derived.Test.YtocpgkeiakjicaaGreatVmOps2
set_option linter.unusedSimpArgs false
set_option linter.unusedVariables false
namespace Go.Vm
section
variable (pg : Pg)
noncomputable def putK (kn : List (Nat × Bool)) (dst : Option Nat) (v : V) (e : Env) (H : Hp) (k : List (Nat × Bool) → Env → Hp → Prop) : Prop := match dst with
 | some d => forceL (forget kn d) fun kn => k kn ((d, v) :: e) H
 | none => k kn e H
noncomputable def goK (b : Nat) (dst : Option Nat) (op : VOp) (kn : List (Nat × Bool)) (e : Env) (H : Hp) (k : List (Nat × Bool) → Env → Hp → Prop) : Prop :=
 match op with
 | .mv (.c (.d (.bool t))) => (match dst with
   | some d => forceL (forget kn d) fun kn => k ((d, t) :: kn) ((d, .d (.bool t)) :: e) H
   | none => k kn e H)
 | .mv (.t i) => (match dst, look kn i with
   | some d, some t => forceL (forget kn d) fun kn => k ((d, t) :: kn) ((d, .d (.bool t)) :: e) H
   | dst, _ => forceV (gE e i) fun v => putK kn dst v e H k)
 | op => wpO pg kn b e H op fun v H' => putK kn dst v e H' k
noncomputable def wpOper (b : Nat) (o : VOper) (kn : List (Nat × Bool)) (e : Env) (H : Hp) (k : List (Nat × Bool) → Env → Hp → Prop) : Prop := match o with
 | ⟨dst, op, none⟩ => goK pg b dst op kn e H k
 | ⟨dst, op, some (g, bb)⟩ => match look kn g with
   | some t => match t, bb with
     | true, true => goK pg b dst op kn e H k
     | false, false => goK pg b dst op kn e H k
     | true, false => putK kn dst (.tup []) e H k
     | false, true => putK kn dst (.tup []) e H k
   | none => match gE e g with
     | .tup [] => putK kn dst (.tup []) e H k
     | .d (.bool t) => (t = bb → goK pg b dst op ((g, bb) :: kn) e H k) ∧ (t = (!bb) → putK ((g, !bb) :: kn) dst (.tup []) e H k)
     | _ => False
abbrev Kn := List (Nat × Bool)
noncomputable def wpOps (b : Nat) (l : List VOper) : Kn → Env → Hp → (Kn → Env → Hp → Prop) → Prop := List.rec (motive := fun _ => Kn → Env → Hp → (Kn → Env → Hp → Prop) → Prop) (fun kn e H K => K kn e H) (fun o _ ih kn e H K => wpOper pg b o kn e H fun kn e H => ih kn e H K) l
noncomputable def grK (p : Bool) (H H' : Hp) (q : Prop) : Prop := match p with | true => q | false => grew H H' = true ∧ q
noncomputable def dstK (d : Option Nat) (e : Env) (H : Hp) (q : Prop) : Prop := match d with | some d => chk ((gE e d).und H.length) q | none => q
noncomputable def wpDraw (b : Nat) (m : Nat) (l : List VOper) : Kn → Env → Hp → (Kn → Env → Hp → Prop) → Prop := List.rec (motive := fun _ => Nat → Kn → Env → Hp → (Kn → Env → Hp → Prop) → Prop) (fun _ kn e H K => K kn e H) (fun o _ ih m kn e H K => wpOper pg b o kn e H fun kn e' H' => match m with
  | 0 => ih 0 kn e' H' K
  | m + 1 => grK (pureO o.op) H H' (dstK o.dst e' H' (ih m kn e' H' K))) l m
noncomputable def wpAh (b : Nat) (l : List VOper) : (Hp → Prop → Prop) → Kn → Env → Hp → ((Hp → Prop → Prop) → Kn → Env → Prop) → Prop := List.rec (motive := fun _ => (Hp → Prop → Prop) → Kn → Env → Hp → ((Hp → Prop → Prop) → Kn → Env → Prop) → Prop) (fun chk kn e _ K => K chk kn e) (fun o _ ih chk kn e H K => wpOper pg b o kn e H fun kn' e' H' => H' = H ∧ ih (fun H1 P => wpOper pg b o kn e H1 fun _ e2 H2 => e2 = e' ∧ H2 = H1 ∧ chk H1 P) kn' e' H K) l
def namedB (d : Option Nat) (o : VOper) : Bool := match d with | some t => o.names.contains t | none => false
noncomputable def wpBh (b : Nat) (d : Option Nat) (H0 : Hp) (l : List VOper) : Kn → Env → Hp → (Kn → Env → Prop) → Prop := List.rec (motive := fun _ => Kn → Env → Hp → (Kn → Env → Prop) → Prop) (fun kn e _ K => K kn e) (fun o _ ih kn e H1 K => wpOper pg b o kn e H1 fun kn' e' H' => H' = H1 ∧ (match namedB d o with
  | true => ih kn' e' H1 K
  | false => wpOper pg b o kn e H0 fun _ e2 H2 => e2 = e' ∧ H2 = H0 ∧ ih kn' e' H1 K)) l
noncomputable def wpDirty (b : Nat) (d m : Nat) (ops : List VOper) (kn : Kn) (e : Env) (H : Hp) (K : Kn → Env → Hp → Prop) : Prop :=
 wpAh pg b (ops.take d) (fun _ P => P) kn e H fun chk kn e => match ops[d]? with
   | some od => wpOper pg b od kn e H fun kn e H1 => chk H1 (wpBh pg b od.dst H ((ops.take m).drop (d + 1)) kn e H1 fun kn e => wpOps pg b (ops.drop m) kn e H1 K)
   | none => False
noncomputable def wpDirtyZ (b : Nat) (d : Nat) (ops : List VOper) (kn : Kn) (e : Env) (H : Hp) (K : Kn → Env → Hp → Prop) : Prop :=
 wpAh pg b (ops.take d) (fun _ P => P) kn e H fun chk kn e => match ops.drop d with
   | od :: oz :: r => wpOper pg b od kn e H fun kn1 e1 H10 => wpOper pg b oz kn1 e1 H10 fun kn2 e2 H11 => wpOper pg b oz kn1 e1 H fun _ e3 H01 => e3 = e2 ∧ wpOper pg b od kn e H01 fun _ e4 H4 => e4 = e1 ∧ H4 = H11 ∧ chk H10 (chk H01 (chk H11 (wpOps pg b r kn2 e2 H11 K)))
   | _ => False
noncomputable def keepK (e : Env) (ks : List Nat) : (Env → Prop) → Prop := List.rec (motive := fun _ => (Env → Prop) → Prop) (fun k => k []) (fun i _ ih k => forceV (gE e i) fun v => ih fun r => k ((i, v) :: r)) ks
theorem keepK_eq (e : Env) : ∀ (ks : List Nat) (k : Env → Prop), keepK e ks k = k (keepE ks e)
 | [], _ => rfl
 | i :: r, k => by
   rw [show keepK e (i :: r) k = forceV (gE e i) (fun v => keepK e r fun r => k ((i, v) :: r)) from rfl, forceV_eq, keepK_eq e r, gE_eq]
   rfl
noncomputable def backK (n : Nat) (e : Env) (ks : List Nat) : (Env → Prop) → Prop := List.rec (motive := fun _ => (Env → Prop) → Prop) (fun k => k []) (fun i _ ih k => forceV (gE e i) fun v => match v.und n with
  | true => ih fun r => k ((i, v) :: r)
  | false => ih fun r => k ((i, .undef) :: r)) ks
theorem backK_eq (n : Nat) (e : Env) : ∀ (ks : List Nat) (k : Env → Prop), backK n e ks k = k (cut n (keepE ks e))
 | [], _ => rfl
 | i :: r, k => by
   rw [show backK n e (i :: r) k = forceV (gE e i) (fun v => match v.und n with
     | true => backK n e r fun r => k ((i, v) :: r)
     | false => backK n e r fun r => k ((i, .undef) :: r)) from rfl, forceV_eq, gE_eq]
   have hc : cut n (keepE (i :: r) e) = (i, if (getE e i).und n then getE e i else .undef) :: cut n (keepE r e) := rfl
   rw [hc]
   cases hu : (getE e i).und n <;> simp only [backK_eq n e r] <;> rfl
@[irreducible] def LoopK (b : Nat) (ks : List Nat) (c : VCode) (e : Env) (H : Hp) (Q : Ex → Kn → Env → Hp → Prop) : Prop := ∃ x e' H', ev pg (.loop ks c) ⟨e, H, b⟩ = some (x, ⟨e', H', b⟩) ∧ Q x [] e' H'
noncomputable def wp (b : Nat) (c : VCode) : Kn → Env → Hp → (Ex → Kn → Env → Hp → Prop) → Prop := VCode.rec (motive := fun _ => Kn → Env → Hp → (Ex → Kn → Env → Hp → Prop) → Prop)
  (fun kn e H Q => Q .nrm kn e H)
  (fun ops kn e H Q => wpOps pg b ops kn e H fun kn e H => Q .nrm kn e H)
  (fun m ops kn e H Q => wpDraw pg b m ops kn e H fun kn e H => Q .nrm kn e H)
  (fun _ _ ihc ihd kn e H Q => ihc kn e H fun x kn' e' H' => match x with
    | .nrm => ihd kn' e' H' Q
    | .exit i => Q (.exit i) kn' e' H'
    | .ret => Q .ret kn' e' H')
  (fun o _ _ ihc ihd kn e H Q => match o with
    | .t i => (match look kn i with
      | some true => ihc kn e H Q
      | some false => ihd kn e H Q
      | none => match gE e i with
        | .d (.bool t) => (t = true → ihc ((i, true) :: kn) e H Q) ∧ (t = false → ihd ((i, false) :: kn) e H Q)
        | _ => False)
    | o => match gO pg.toCx e o with
      | .d (.bool t) => (t = true → ihc kn e H Q) ∧ (t = false → ihd kn e H Q)
      | _ => False)
  (fun id _ ih kn e H Q => ih kn e H fun x kn' e' H' => match x with
    | .exit i => (match Nat.beq i id with | true => Q .nrm kn' e' H' | false => Q (.exit i) kn' e' H')
    | .nrm => Q .nrm kn' e' H'
    | .ret => Q .ret kn' e' H')
  (fun ks c _ _ e H Q => keepK e ks fun e => LoopK pg b ks c e H Q)
  (fun _ ih kn e H Q => ih kn e H Q)
  (fun i kn e H Q => Q (.exit i) kn e H)
  (fun kn e H Q => Q .ret kn e H)
  (fun sz t kn e H Q => match gE e t with
    | .nils => chk (Nat.blt 0 sz) (lenK H 0 fun n => forceL (H ++ [.row sz []]) fun H' => forceL (forget kn t) fun kn => Q .nrm kn ((t, .row n 0) :: e) H')
    | _ => False)
  (fun sz t off kn e H Q => match gE e t with
    | .ptr id o => nthK H id fun ob => match ob with
      | .box c => nthK c (o + off) fun v => match v with
        | .nils => chk (Nat.ble b id && Nat.blt 0 sz) (lenK H 0 fun n => forceL (c.set (o + off) (.row n 0)) fun c' => forceL (H.set id (.box c') ++ [.row sz []]) fun H' => Q .nrm kn e H')
        | _ => False
      | _ => False
    | _ => False)
  (fun t kn e H Q => match gE e t with
    | .arr id _ _ => nthK H id fun ob => match ob with
      | .box c => ∃ ds, allD c = some ds ∧ forceL (H.set id (.frz ds)) fun H' => Q .nrm kn e H'
      | _ => False
    | .row id len => nthK H id fun ob => match ob with
      | .row _ l => l.length = len ∧ forceL (forget kn t) fun kn => Q .nrm kn ((t, .d (.sl l)) :: e) H
      | _ => False
    | _ => False)
  (fun sz kn e H Q => chk (Nat.blt 0 sz) (forceL (H ++ [.row sz []]) fun H' => Q .nrm kn e H'))
  (fun t off k kn e H Q => match gE e t with
    | .ptr id o => nthK H id fun ob => match ob with
      | .box c => nthK c (o + off) fun v => (match v with
        | .nils => nthK H (id - k) fun ob => (match ob with
          | .row _ [] => chk (Nat.blt 0 k && Nat.ble k id && Nat.ble b (id - k)) (forceL (c.set (o + off) (.row (id - k) 0)) fun c' => forceL (H.set id (.box c')) fun H' => Q .nrm kn e H')
          | _ => False)
        | _ => False)
      | _ => False
    | _ => False) c
theorem wp_cond_t (b i : Nat) (c d : VCode) (kn e H Q) : wp pg b (.cond (.t i) c d) kn e H Q = (match look kn i with
      | some true => wp pg b c kn e H Q
      | some false => wp pg b d kn e H Q
      | none => match gE e i with
        | .d (.bool t) => (t = true → wp pg b c ((i, true) :: kn) e H Q) ∧ (t = false → wp pg b d ((i, false) :: kn) e H Q)
        | _ => False) := rfl
theorem wp_newrow (b sz t : Nat) (kn e H Q) : wp pg b (.newrow sz t) kn e H Q = (match gE e t with
    | .nils => chk (Nat.blt 0 sz) (lenK H 0 fun n => forceL (H ++ [.row sz []]) fun H' => forceL (forget kn t) fun kn => Q .nrm kn ((t, .row n 0) :: e) H')
    | _ => False) := rfl
theorem wp_bindrow (b sz t off : Nat) (kn e H Q) : wp pg b (.bindrow sz t off) kn e H Q = (match gE e t with
    | .ptr id o => nthK H id fun ob => match ob with
      | .box c => nthK c (o + off) fun v => match v with
        | .nils => chk (Nat.ble b id && Nat.blt 0 sz) (lenK H 0 fun n => forceL (c.set (o + off) (.row n 0)) fun c' => forceL (H.set id (.box c') ++ [.row sz []]) fun H' => Q .nrm kn e H')
        | _ => False
      | _ => False
    | _ => False) := rfl
theorem wp_mkrow (b sz : Nat) (kn e H Q) : wp pg b (.mkrow sz) kn e H Q = chk (Nat.blt 0 sz) (forceL (H ++ [.row sz []]) fun H' => Q .nrm kn e H') := rfl
theorem wp_bindto (b t off k : Nat) (kn e H Q) : wp pg b (.bindto t off k) kn e H Q = (match gE e t with
    | .ptr id o => nthK H id fun ob => match ob with
      | .box c => nthK c (o + off) fun v => (match v with
        | .nils => nthK H (id - k) fun ob => (match ob with
          | .row _ [] => chk (Nat.blt 0 k && Nat.ble k id && Nat.ble b (id - k)) (forceL (c.set (o + off) (.row (id - k) 0)) fun c' => forceL (H.set id (.box c')) fun H' => Q .nrm kn e H')
          | _ => False)
        | _ => False)
      | _ => False
    | _ => False) := rfl
theorem wp_freeze (b t : Nat) (kn e H Q) : wp pg b (.freeze t) kn e H Q = (match gE e t with
    | .arr id _ _ => nthK H id fun ob => match ob with
      | .box c => ∃ ds, allD c = some ds ∧ forceL (H.set id (.frz ds)) fun H' => Q .nrm kn e H'
      | _ => False
    | .row id len => nthK H id fun ob => match ob with
      | .row _ l => l.length = len ∧ forceL (forget kn t) fun kn => Q .nrm kn ((t, .d (.sl l)) :: e) H
      | _ => False
    | _ => False) := rfl
end
section
variable {pg : Pg}
theorem putK_imp {kn dst v e H b} {k : List (Nat × Bool) → Env → Hp → Prop} (hk : KnOk kn e) (h : putK kn dst v e H k) : ∃ kn' e' H', lay dst e b (some (v, H)) = some ⟨e', H', b⟩ ∧ KnOk kn' e' ∧ k kn' e' H' := by
 cases dst with
 | none => exact ⟨_, _, _, rfl, hk, h⟩
 | some d =>
  have h : k (forget kn d) ((d, v) :: e) H := by simpa only [putK, forceL_eq] using h
  exact ⟨_, _, _, rfl, hk.forget d v, h⟩
theorem goK_imp {b dst op kn e H} {k : List (Nat × Bool) → Env → Hp → Prop} (hk : KnOk kn e) (h : goK pg b dst op kn e H k) : ∃ kn' e' H', lay dst e b (evOp pg.toCx (evF pg) b e H op) = some ⟨e', H', b⟩ ∧ KnOk kn' e' ∧ k kn' e' H' := by
 have gen : ∀ op, (wpO pg kn b e H op fun v H' => putK kn dst v e H' k) → ∃ kn' e' H', lay dst e b (evOp pg.toCx (evF pg) b e H op) = some ⟨e', H', b⟩ ∧ KnOk kn' e' ∧ k kn' e' H' := by
   intro op h
   obtain ⟨v, H', hv, h⟩ := wpO_imp hk h
   rw [hv]
   exact putK_imp hk h
 unfold goK at h
 split at h
 ·rename_i t
  cases dst with
  | none => exact ⟨_, _, _, rfl, hk, h⟩
  | some d =>
   have h : k ((d, t) :: forget kn d) ((d, .d (.bool t)) :: e) H := by simpa only [forceL_eq] using h
   exact ⟨_, _, _, rfl, (hk.forget d _).add (by simp [getE]), h⟩
 ·rename_i i
  split at h
  ·rename_i d t ht
   rw [forceL_eq] at h
   exact ⟨_, _, _, by simp only [evOp, evO, hk i t ht, lay_some, putE], (hk.forget d _).add (by simp [getE]), h⟩
  ·rw [forceV_eq, gE_eq] at h
   exact putK_imp hk h
 ·exact gen _ h
theorem wpOper_imp {b : Nat} {o : VOper} {kn e H} {k : List (Nat × Bool) → Env → Hp → Prop} (hk : KnOk kn e) (h : wpOper pg b o kn e H k) : ∃ kn' e' H', evOper pg.toCx (evF pg) o ⟨e, H, b⟩ = some ⟨e', H', b⟩ ∧ KnOk kn' e' ∧ k kn' e' H' := by
 obtain ⟨dst, op, g⟩ := o
 cases g with
 | none => exact goK_imp hk h
 | some p =>
  obtain ⟨g, bb⟩ := p
  have yes : ∀ {kn}, KnOk kn e → getE e g = .d (.bool bb) → goK pg b dst op kn e H k → ∃ kn' e' H', evOper pg.toCx (evF pg) ⟨dst, op, some (g, bb)⟩ ⟨e, H, b⟩ = some ⟨e', H', b⟩ ∧ KnOk kn' e' ∧ k kn' e' H' := by
   intro kn hk hg h
   simp only [evOper, hg, grd_bool, if_true]
   exact goK_imp hk h
  have no : ∀ {kn}, KnOk kn e → getE e g = .d (.bool !bb) → putK kn dst (.tup []) e H k → ∃ kn' e' H', evOper pg.toCx (evF pg) ⟨dst, op, some (g, bb)⟩ ⟨e, H, b⟩ = some ⟨e', H', b⟩ ∧ KnOk kn' e' ∧ k kn' e' H' := by
   intro kn hk hg h
   simp only [evOper, hg, grd_bool]
   rw [if_neg (by cases bb <;> simp)]
   exact putK_imp (b := b) hk h
  unfold wpOper at h
  simp only at h
  split at h
  ·rename_i t ht
   have hg := hk g t ht
   split at h
   ·exact yes hk hg h
   ·exact yes hk hg h
   ·exact no hk hg h
   ·exact no hk hg h
  ·rw [gE_eq] at h
   split at h
   ·rename_i hg
    simp only [evOper, hg, grd_tup]
    exact putK_imp (b := b) hk h
   ·rename_i t hg
    by_cases ht : t = bb
    ·subst ht
     exact yes (hk.add hg) hg (h.1 rfl)
    ·have ht' : t = !bb := by cases t <;> cases bb <;> simp_all
     rw [ht'] at hg
     exact no (hk.add hg) hg (h.2 ht')
   ·cases h
theorem wpOps_imp {b : Nat} : ∀ {l : List VOper} {kn e H} {K : Kn → Env → Hp → Prop}, KnOk kn e → wpOps pg b l kn e H K → ∃ kn' e' H', evOps pg.toCx (evF pg) l ⟨e, H, b⟩ = some ⟨e', H', b⟩ ∧ KnOk kn' e' ∧ K kn' e' H'
 | [], _, _, _, _, hk, h => ⟨_, _, _, rfl, hk, h⟩
 | o :: r, kn, e, H, K, hk, h => by
   obtain ⟨kn', e', H', h1, h2, h3⟩ := wpOper_imp hk h
   obtain ⟨kn2, e2, H2, h4, hk2, h5⟩ := wpOps_imp h2 h3
   exact ⟨kn2, e2, H2, by simp only [evOps, h1, Option.bind_some, h4], hk2, h5⟩
theorem pure_h {b : Nat} {e : Env} {H : Hp} {o : VOp} {v : V} {H' : Hp} (hp : pureO o = true) (h : evOp pg.toCx (evF pg) b e H o = some (v, H')) : H' = H := pure_hG hp h
theorem pure_oper {b : Nat} {e : Env} {H : Hp} {o : VOper} {e' H'} (hp : pureO o.op = true) (h : evOper pg.toCx (evF pg) o ⟨e, H, b⟩ = some ⟨e', H', b⟩) : H' = H := by
 have key : ∀ {dst : Option Nat} {r : Option (V × Hp)}, (∀ v H', r = some (v, H') → H' = H) → lay dst e b r = some ⟨e', H', b⟩ → H' = H := by
  intro dst r hr h
  cases r with
  | none => cases h
  | some q =>
   obtain ⟨v, H2⟩ := q
   have := hr v H2 rfl
   simp only [lay_some, Option.some.injEq, St.mk.injEq] at h
   rw [← h.2.1, this]
 obtain ⟨dst, op, g⟩ := o
 cases g with
 | none => exact key (fun v H' hh => pure_h hp hh) h
 | some p =>
  obtain ⟨g, bb⟩ := p
  simp only [evOper] at h
  unfold grd at h
  split at h
  ·split at h
   ·exact key (fun v H' hh => pure_h hp hh) h
   ·simp only [Option.some.injEq, St.mk.injEq] at h; exact h.2.1.symm
  ·simp only [Option.some.injEq, St.mk.injEq] at h; exact h.2.1.symm
  ·cases h
theorem evDraw_zero (cx : Cx) (orc : Orc) (l : List VOper) (s : St) : evDraw cx orc 0 l s = evOps cx orc l s := by cases l <;> simp [evDraw, evOps]
theorem wpDraw_imp {b : Nat} : ∀ {l : List VOper} {m : Nat} {kn e H} {K : Kn → Env → Hp → Prop}, KnOk kn e → wpDraw pg b m l kn e H K → ∃ kn' e' H', evDraw pg.toCx (evF pg) m l ⟨e, H, b⟩ = some ⟨e', H', b⟩ ∧ KnOk kn' e' ∧ K kn' e' H'
 | [], m, _, _, _, _, hk, h => ⟨_, _, _, by cases m <;> rfl, hk, h⟩
 | o :: r, 0, kn, e, H, K, hk, h => by
   obtain ⟨kn', e', H', h1, h2, h3⟩ := wpOper_imp hk h
   obtain ⟨kn2, e2, H2, h4, hk2, h5⟩ := wpDraw_imp (m := 0) h2 h3
   rw [evDraw_zero] at h4
   exact ⟨kn2, e2, H2, by rw [evDraw_zero]; simp only [evOps, h1, Option.bind_some, h4], hk2, h5⟩
 | o :: r, m + 1, kn, e, H, K, hk, h => by
   obtain ⟨kn', e', H', h1, h2, h3⟩ := wpOper_imp hk h
   have hg : grew H H' = true ∧ dstK o.dst e' H' (wpDraw pg b m r kn' e' H' K) := by
    have h3 : grK (pureO o.op) H H' (dstK o.dst e' H' (wpDraw pg b m r kn' e' H' K)) := h3
    unfold grK at h3
    cases hp : pureO o.op with
    | true =>
     rw [hp] at h3
     rw [pure_oper hp h1]
     exact ⟨by simp, by rw [pure_oper hp h1] at h3; exact h3⟩
    | false => rw [hp] at h3; exact h3
   have hd : dstOk o.dst ⟨e', H', b⟩ = true ∧ wpDraw pg b m r kn' e' H' K := by
    have := hg.2
    unfold dstK at this
    unfold dstOk
    cases hd : o.dst with
    | some d => rw [hd] at this; simp only [chk_iff, gE_eq] at this; exact this
    | none => rw [hd] at this; exact ⟨rfl, this⟩
   obtain ⟨kn2, e2, H2, h4, hk2, h5⟩ := wpDraw_imp h2 hd.2
   exact ⟨kn2, e2, H2, by simp only [evDraw, h1, Option.bind_some, hg.1, hd.1, Bool.and_self, if_true, h4], hk2, h5⟩
theorem evOps_app {cx : Cx} {orc : Orc} : ∀ {l l' : List VOper} {s : St}, evOps cx orc (l ++ l') s = (evOps cx orc l s).bind (evOps cx orc l')
 | [], _, _ => rfl
 | o :: r, l', s => by
   simp only [List.cons_append, evOps]
   cases evOper cx orc o s with
   | none => rfl
   | some q => exact evOps_app
theorem evOps_snoc {cx : Cx} {orc : Orc} {l : List VOper} {o : VOper} {s q r : St} (h : evOps cx orc l s = some q) (h1 : evOper cx orc o q = some r) : evOps cx orc (l ++ [o]) s = some r := by
 rw [evOps_app, h]; simp only [Option.bind_some, evOps, h1]
theorem take_snoc {l r : List VOper} {o : VOper} {i : Nat} (hi : i ≤ l.length) : (l ++ o :: r).take i = l.take i := by rw [List.take_append_of_le_length hi]
structure Ahd (b : Nat) (s : St) (pre : List VOper) (e : Env) (chk : Hp → Prop → Prop) : Prop where
 run : evOps pg.toCx (evF pg) pre s = some ⟨e, s.h, b⟩
 quiet : ∀ i q, i ≤ pre.length → evOps pg.toCx (evF pg) (pre.take i) s = some q → q.h = s.h
 chk : ∀ H1 P, chk H1 P → P ∧ ∀ i o q q', pre[i]? = some o → evOps pg.toCx (evF pg) (pre.take i) s = some q → evOps pg.toCx (evF pg) (pre.take (i + 1)) s = some q' → evOper pg.toCx (evF pg) o ⟨q.e, H1, b⟩ = some ⟨q'.e, H1, b⟩
theorem Ahd.snoc {b : Nat} {s : St} {pre : List VOper} {e e' : Env} {chk : Hp → Prop → Prop} (A : Ahd (pg := pg) b s pre e chk) {kn : Kn} (hk : KnOk kn e) {o : VOper} (h : evOper pg.toCx (evF pg) o ⟨e, s.h, b⟩ = some ⟨e', s.h, b⟩) :
 Ahd (pg := pg) b s (pre ++ [o]) e' (fun H1 P => wpOper pg b o kn e H1 fun _ e2 H2 => e2 = e' ∧ H2 = H1 ∧ chk H1 P) := by
 have hr := evOps_snoc A.run h
 refine ⟨hr, fun i q hi hq => ?_, fun H1 P hc => ?_⟩
 ·rw [List.length_append, List.length_singleton] at hi
  by_cases c : i ≤ pre.length
  ·rw [take_snoc c] at hq; exact A.quiet i q c hq
  ·have : i = pre.length + 1 := by omega
   rw [this, List.take_of_length_le (by simp), hr] at hq
   cases hq; rfl
 ·obtain ⟨_, e2, H2, h1, _, rfl, rfl, h4⟩ := wpOper_imp hk hc
  obtain ⟨hP, hall⟩ := A.chk H2 P h4
  refine ⟨hP, fun i p q q' hp hq hq' => ?_⟩
  by_cases c : i < pre.length
  ·rw [List.getElem?_append_left c] at hp
   rw [take_snoc (by omega)] at hq hq'
   exact hall i p q q' hp hq hq'
  ·have hi : i = pre.length := by
    have := (List.getElem?_eq_some_iff.1 hp).1
    rw [List.length_append, List.length_singleton] at this
    omega
   subst hi
   rw [List.getElem?_append_right (Nat.le_refl _), Nat.sub_self] at hp
   cases hp
   rw [take_snoc (Nat.le_refl _), List.take_of_length_le (Nat.le_refl _), A.run] at hq
   rw [List.take_of_length_le (by simp), hr] at hq'
   cases hq; cases hq'
   exact h1
theorem wpAh_imp {b : Nat} {s : St} : ∀ {r pre : List VOper} {kn e chk} {K : (Hp → Prop → Prop) → Kn → Env → Prop}, KnOk kn e → Ahd (pg := pg) b s pre e chk → wpAh pg b r chk kn e s.h K → ∃ chk' kn' e', Ahd (pg := pg) b s (pre ++ r) e' chk' ∧ KnOk kn' e' ∧ K chk' kn' e'
 | [], pre, kn, e, chk, K, hk, A, h => ⟨chk, kn, e, by rw [List.append_nil]; exact A, hk, h⟩
 | o :: r, pre, kn, e, chk, K, hk, A, h => by
   obtain ⟨kn', e', H', h1, h2, h3⟩ := wpOper_imp hk h
   obtain ⟨rfl, h3⟩ := h3
   obtain ⟨chk', kn2, e2, B, hk2, h5⟩ := wpAh_imp h2 (A.snoc hk h1) h3
   exact ⟨chk', kn2, e2, by rw [List.append_assoc] at B; exact B, hk2, h5⟩
structure Bhd (b : Nat) (s : St) (d : Nat) (od : VOper) (H1 : Hp) (pre : List VOper) (e : Env) : Prop where
 run : evOps pg.toCx (evF pg) pre s = some ⟨e, H1, b⟩
 lt : d < pre.length
 quiet : ∀ i q, d < i → i ≤ pre.length → evOps pg.toCx (evF pg) (pre.take i) s = some q → q.h = H1
 both : ∀ i o q q', d < i → pre[i]? = some o → evOps pg.toCx (evF pg) (pre.take i) s = some q → evOps pg.toCx (evF pg) (pre.take (i + 1)) s = some q' → (∃ t, od.dst = some t ∧ t ∈ o.names) ∨ evOper pg.toCx (evF pg) o ⟨q.e, s.h, b⟩ = some ⟨q'.e, s.h, b⟩
theorem Bhd.snoc {b : Nat} {s : St} {d : Nat} {od : VOper} {H1 : Hp} {pre : List VOper} {e e' : Env} (B : Bhd (pg := pg) b s d od H1 pre e) {o : VOper} (h : evOper pg.toCx (evF pg) o ⟨e, H1, b⟩ = some ⟨e', H1, b⟩)
 (h2 : (∃ t, od.dst = some t ∧ t ∈ o.names) ∨ evOper pg.toCx (evF pg) o ⟨e, s.h, b⟩ = some ⟨e', s.h, b⟩) : Bhd (pg := pg) b s d od H1 (pre ++ [o]) e' := by
 have hr := evOps_snoc B.run h
 refine ⟨hr, by have := B.lt; simp; omega, fun i q hd hi hq => ?_, fun i p q q' hd hp hq hq' => ?_⟩
 ·rw [List.length_append, List.length_singleton] at hi
  by_cases c : i ≤ pre.length
  ·rw [take_snoc c] at hq; exact B.quiet i q hd c hq
  ·have : i = pre.length + 1 := by omega
   rw [this, List.take_of_length_le (by simp), hr] at hq
   cases hq; rfl
 ·by_cases c : i < pre.length
  ·rw [List.getElem?_append_left c] at hp
   rw [take_snoc (by omega)] at hq hq'
   exact B.both i p q q' hd hp hq hq'
  ·have hi : i = pre.length := by
    have := (List.getElem?_eq_some_iff.1 hp).1
    rw [List.length_append, List.length_singleton] at this
    omega
   subst hi
   rw [List.getElem?_append_right (Nat.le_refl _), Nat.sub_self] at hp
   cases hp
   rw [take_snoc (Nat.le_refl _), List.take_of_length_le (Nat.le_refl _), B.run] at hq
   rw [List.take_of_length_le (by simp), hr] at hq'
   cases hq; cases hq'
   exact h2
theorem namedB_t {d : Option Nat} {o : VOper} (h : namedB d o = true) : ∃ t, d = some t ∧ t ∈ o.names := by
 unfold namedB at h
 split at h
 ·exact ⟨_, rfl, by simpa using h⟩
 ·cases h
theorem wpBh_imp {b : Nat} {s : St} {d : Nat} {od : VOper} {H1 : Hp} : ∀ {r pre : List VOper} {kn e} {K : Kn → Env → Prop}, KnOk kn e → Bhd (pg := pg) b s d od H1 pre e → wpBh pg b od.dst s.h r kn e H1 K → ∃ kn' e', Bhd (pg := pg) b s d od H1 (pre ++ r) e' ∧ KnOk kn' e' ∧ K kn' e'
 | [], pre, kn, e, K, hk, B, h => ⟨kn, e, by rw [List.append_nil]; exact B, hk, h⟩
 | o :: r, pre, kn, e, K, hk, B, h => by
   obtain ⟨kn', e', H', h1, h2, h3⟩ := wpOper_imp hk h
   obtain ⟨rfl, h3⟩ := h3
   have fin : Bhd (pg := pg) b s d od H' (pre ++ [o]) e' → wpBh pg b od.dst s.h r kn' e' H' K → ∃ kn' e', Bhd (pg := pg) b s d od H' (pre ++ o :: r) e' ∧ KnOk kn' e' ∧ K kn' e' := by
    intro C h4
    obtain ⟨kn2, e2, C', hk2, h5⟩ := wpBh_imp h2 C h4
    exact ⟨kn2, e2, by rw [List.append_assoc] at C'; exact C', hk2, h5⟩
   cases hn : namedB od.dst o with
   | true =>
    rw [hn] at h3
    exact fin (B.snoc h1 (.inl (namedB_t hn))) h3
   | false =>
    rw [hn] at h3
    obtain ⟨_, e2, H2, g1, _, rfl, rfl, g4⟩ := wpOper_imp hk h3
    exact fin (B.snoc h1 (.inr g1)) g4
theorem dirty_of {b : Nat} {s s' : St} (hb : s.b = b) {ops : List VOper} {d m : Nat} (hm : m ≤ ops.length) {od : VOper} (ho : ops[d]? = some od) {e1 e2 : Env} {H1 : Hp} {chk : Hp → Prop → Prop} {P : Prop}
 (A : Ahd (pg := pg) b s (ops.take d) e1 chk) (hc : chk H1 P) (hd : d < m) (B : Bhd (pg := pg) b s d od H1 (ops.take m) e2) (h : evOps pg.toCx (evF pg) ops s = some s') : Dirty pg.toCx (evF pg) m ops s := by
 have pref : ∀ i, ∃ q, evOps pg.toCx (evF pg) (ops.take i) s = some q := by
  intro i
  rw [← List.take_append_drop i ops, evOps_app] at h
  cases hq : evOps pg.toCx (evF pg) (ops.take i) s with
  | none => rw [hq] at h; cases h
  | some q => exact ⟨q, rfl⟩
 have one : ∀ {i o q q'}, ops[i]? = some o → evOps pg.toCx (evF pg) (ops.take i) s = some q → evOps pg.toCx (evF pg) (ops.take (i + 1)) s = some q' → evOper pg.toCx (evF pg) o q = some q' := by
  intro i o q q' ho hq hq'
  rw [List.take_add_one, evOps_app, hq, ho] at hq'
  simp only [Option.toList, Option.bind_some, evOps] at hq'
  cases hx : evOper pg.toCx (evF pg) o q with
  | none => rw [hx] at hq'; cases hq'
  | some y => rw [hx] at hq'; exact hq'
 obtain ⟨τ, hτ⟩ : ∃ τ : Nat → St, ∀ i, evOps pg.toCx (evF pg) (ops.take i) s = some (τ i) := ⟨fun i => (pref i).choose, fun i => (pref i).choose_spec⟩
 have hv : ∀ i, ∃ x, ∀ o, ops[i]? = some o → (τ (i + 1)).e = putE o.dst x (τ i).e := by
  intro i
  cases ho : ops[i]? with
  | none => exact ⟨.undef, fun o h => by cases h⟩
  | some o =>
   obtain ⟨x, hx⟩ := evOper_e (one ho (hτ i) (hτ (i + 1)))
   exact ⟨x, fun o' h => by cases h; exact hx⟩
 obtain ⟨val, hval⟩ : ∃ val : Nat → V, ∀ i o, ops[i]? = some o → (τ (i + 1)).e = putE o.dst (val i) (τ i).e := ⟨fun i => (hv i).choose, fun i => (hv i).choose_spec⟩
 have hml : (ops.take m).length = m := by simp; omega
 have hdl : (ops.take d).length = d := by simp; omega
 have tk : ∀ {i j}, i ≤ j → (ops.take j).take i = ops.take i := fun {i j} h => by rw [List.take_take, Nat.min_eq_left h]
 have gt : ∀ {i j}, i < j → (ops.take j)[i]? = ops[i]? := fun {i j} h => by rw [List.getElem?_take, if_pos h]
 have h0 : τ 0 = s := by have := hτ 0; simp only [List.take_zero, evOps, Option.some.injEq] at this; exact this.symm
 have lo : ∀ i, i ≤ d → (τ i).h = s.h := fun i hi => A.quiet i _ (by omega) (by rw [tk hi]; exact hτ i)
 have hi : ∀ i, d < i → i ≤ m → (τ i).h = H1 := fun i h1 h2 => B.quiet i _ h1 (by omega) (by rw [tk h2]; exact hτ i)
 refine .inl ⟨d, od, τ, val, hd, hm, ho, h0, fun i o _ hq => ⟨one hq (hτ i) (hτ (i + 1)), hval i o hq⟩, fun i o him _ hne => ?_, fun i o hid hq => ?_, fun i o hdi him hq => ?_⟩
 ·by_cases c : i < d
  ·rw [lo i (by omega), lo (i + 1) (by omega)]
  ·rw [hi i (by omega) (by omega), hi (i + 1) (by omega) (by omega)]
 ·rw [hi (d + 1) (by omega) (by omega), hb]
  exact (A.chk H1 P hc).2 i o _ _ (by rw [gt hid]; exact hq) (by rw [tk (by omega)]; exact hτ i) (by rw [tk (by omega)]; exact hτ (i + 1))
 ·rw [hb]
  exact B.both i o _ _ hdi (by rw [gt him]; exact hq) (by rw [tk (by omega)]; exact hτ i) (by rw [tk (by omega)]; exact hτ (i + 1))
theorem wpDirty_imp {b : Nat} {ops : List VOper} {d m : Nat} (hd : d < m) (hm : m ≤ ops.length) {kn e H} {K : Kn → Env → Hp → Prop} (hk : KnOk kn e) (h : wpDirty pg b d m ops kn e H K) : ∃ kn' e' H', evDrw pg.toCx (evF pg) m ops ⟨e, H, b⟩ = some ⟨e', H', b⟩ ∧ KnOk kn' e' ∧ K kn' e' H' := by
 unfold wpDirty at h
 have A0 : Ahd (pg := pg) b ⟨e, H, b⟩ [] e (fun _ P => P) := ⟨rfl, fun i q _ hq => by simp only [List.take_nil, evOps, Option.some.injEq] at hq; rw [← hq], fun H1 P hP => ⟨hP, fun i o q q' ho => by simp at ho⟩⟩
 obtain ⟨chk, kn1, e1, A, hk1, h1⟩ := wpAh_imp (s := ⟨e, H, b⟩) hk A0 h
 rw [List.nil_append] at A
 split at h1
 ·rename_i od ho
  obtain ⟨kn2, e2, H1, h2, hk2, h3⟩ := wpOper_imp hk1 h1
  obtain ⟨h4, _⟩ := A.chk H1 _ h3
  have hdl : (ops.take d).length = d := by simp; omega
  have hpre : ops.take (d + 1) = ops.take d ++ [od] := by rw [List.take_add_one, ho]; rfl
  have hrun := evOps_snoc A.run h2
  rw [← hpre] at hrun
  have hl1 : (ops.take (d + 1)).length = d + 1 := by simp; omega
  have B0 : Bhd (pg := pg) b ⟨e, H, b⟩ d od H1 (ops.take (d + 1)) e2 := by
   refine ⟨hrun, by omega, fun i q h1 h2 hq => ?_, fun i o q q' h1 ho' => ?_⟩
   ·have : i = d + 1 := by omega
    subst this
    rw [List.take_of_length_le (by omega), hrun] at hq
    cases hq; rfl
   ·have := (List.getElem?_eq_some_iff.1 ho').1
    omega
  obtain ⟨kn3, e3, B, hk3, h5⟩ := wpBh_imp (s := ⟨e, H, b⟩) hk2 B0 h4
  have hall : ops.take (d + 1) ++ (ops.take m).drop (d + 1) = ops.take m := by
   have := List.take_append_drop (d + 1) (ops.take m)
   rwa [List.take_take, Nat.min_eq_left (by omega)] at this
  rw [hall] at B
  obtain ⟨kn4, e4, H4, h6, hk4, h7⟩ := wpOps_imp hk3 h5
  have hops : evOps pg.toCx (evF pg) ops ⟨e, H, b⟩ = some ⟨e4, H4, b⟩ := by
   rw [← List.take_append_drop m ops, evOps_app, B.run]; exact h6
  exact ⟨kn4, e4, H4, evDrw_iff.2 ⟨hops, .inr (dirty_of rfl hm ho A h3 hd B hops)⟩, hk4, h7⟩
 ·exact h1.elim
theorem wpDirtyZ_imp {b : Nat} {ops : List VOper} {d m : Nat} (hm : m = d + 2) {kn e H} {K : Kn → Env → Hp → Prop} (hk : KnOk kn e) (h : wpDirtyZ pg b d ops kn e H K) : ∃ kn' e' H', evDrw pg.toCx (evF pg) m ops ⟨e, H, b⟩ = some ⟨e', H', b⟩ ∧ KnOk kn' e' ∧ K kn' e' H' := by
 subst hm
 unfold wpDirtyZ at h
 have A0 : Ahd (pg := pg) b ⟨e, H, b⟩ [] e (fun _ P => P) := ⟨rfl, fun i q _ hq => by simp only [List.take_nil, evOps, Option.some.injEq] at hq; rw [← hq], fun H1 P hP => ⟨hP, fun i o q q' ho => by simp at ho⟩⟩
 obtain ⟨chk, kn1, e1, A, hk1, h1⟩ := wpAh_imp (s := ⟨e, H, b⟩) hk A0 h
 rw [List.nil_append] at A
 split at h1
 ·rename_i od oz r hdr
  have hdl : d < ops.length := by
   have := congrArg List.length hdr
   rw [List.length_drop] at this
   simp only [List.length_cons] at this
   omega
  have hlen : d + 2 ≤ ops.length := by
   have := congrArg List.length hdr
   rw [List.length_drop] at this
   simp only [List.length_cons] at this
   omega
  have htd : (ops.take d).length = d := by rw [List.length_take]; omega
  have hod : ops[d]? = some od := by have := congrArg (·[0]?) hdr; simpa using this
  have hoz : ops[d + 1]? = some oz := by have := congrArg (·[1]?) hdr; simpa using this
  have hrr : ops.drop (d + 2) = r := by
   rw [show d + 2 = d + 1 + 1 from rfl, ← List.drop_drop, ← List.drop_drop, hdr]; rfl
  obtain ⟨kn2, e2, H10, g1, hk2, h2⟩ := wpOper_imp hk1 h1
  obtain ⟨kn3, e3, H11, g2, hk3, h3⟩ := wpOper_imp hk2 h2
  obtain ⟨_, e4, H01, g3, _, rfl, h4⟩ := wpOper_imp hk2 h3
  obtain ⟨_, e5, H5, g4, _, rfl, rfl, h5⟩ := wpOper_imp hk1 h4
  obtain ⟨h6, c10⟩ := A.chk _ _ h5
  obtain ⟨h7, c01⟩ := A.chk _ _ h6
  obtain ⟨h8, c11⟩ := A.chk _ _ h7
  obtain ⟨kn4, e6, H6, g6, hk4, h9⟩ := wpOps_imp hk3 h8
  have r1 : evOps pg.toCx (evF pg) (ops.take (d + 1)) ⟨e, H, b⟩ = some ⟨e5, H10, b⟩ := by
   rw [List.take_add_one, hod]; exact evOps_snoc A.run g1
  have r2 : evOps pg.toCx (evF pg) (ops.take (d + 2)) ⟨e, H, b⟩ = some ⟨e4, H5, b⟩ := by
   rw [show d + 2 = d + 1 + 1 from rfl, List.take_add_one, hoz]; exact evOps_snoc r1 g2
  have hops : evOps pg.toCx (evF pg) ops ⟨e, H, b⟩ = some ⟨e6, H6, b⟩ := by
   rw [← List.take_append_drop (d + 2) ops, evOps_app, r2, hrr]; exact g6
  refine ⟨kn4, e6, H6, evDrw_iff.2 ⟨hops, .inr (.inr (.inl ?_))⟩, hk4, h9⟩
  have pref : ∀ i, ∃ q, evOps pg.toCx (evF pg) (ops.take i) ⟨e, H, b⟩ = some q := by
   intro i
   have h := hops
   rw [← List.take_append_drop i ops, evOps_app] at h
   cases hq : evOps pg.toCx (evF pg) (ops.take i) ⟨e, H, b⟩ with
   | none => rw [hq] at h; cases h
   | some q => exact ⟨q, rfl⟩
  have one : ∀ {i o q q'}, ops[i]? = some o → evOps pg.toCx (evF pg) (ops.take i) ⟨e, H, b⟩ = some q → evOps pg.toCx (evF pg) (ops.take (i + 1)) ⟨e, H, b⟩ = some q' → evOper pg.toCx (evF pg) o q = some q' := by
   intro i o q q' ho hq hq'
   rw [List.take_add_one, evOps_app, hq, ho] at hq'
   simp only [Option.toList, Option.bind_some, evOps] at hq'
   cases hx : evOper pg.toCx (evF pg) o q with
   | none => rw [hx] at hq'; cases hq'
   | some y => rw [hx] at hq'; exact hq'
  obtain ⟨τ, hτ⟩ : ∃ τ : Nat → St, ∀ i, evOps pg.toCx (evF pg) (ops.take i) ⟨e, H, b⟩ = some (τ i) := ⟨fun i => (pref i).choose, fun i => (pref i).choose_spec⟩
  have hv : ∀ i, ∃ x, ∀ o, ops[i]? = some o → (τ (i + 1)).e = putE o.dst x (τ i).e := by
   intro i
   cases ho : ops[i]? with
   | none => exact ⟨.undef, fun o h => by cases h⟩
   | some o =>
    obtain ⟨x, hx⟩ := evOper_e (one ho (hτ i) (hτ (i + 1)))
    exact ⟨x, fun o' h => by cases h; exact hx⟩
  obtain ⟨val, hval⟩ : ∃ val : Nat → V, ∀ i o, ops[i]? = some o → (τ (i + 1)).e = putE o.dst (val i) (τ i).e := ⟨fun i => (hv i).choose, fun i => (hv i).choose_spec⟩
  have t0 : τ 0 = ⟨e, H, b⟩ := by have := hτ 0; simp only [List.take_zero, evOps, Option.some.injEq] at this; exact this.symm
  have td : τ d = ⟨e1, H, b⟩ := by have := hτ d; rw [A.run] at this; simpa using this.symm
  have td1 : τ (d + 1) = ⟨e5, H10, b⟩ := by have := hτ (d + 1); rw [r1] at this; simpa using this.symm
  have td2 : τ (d + 2) = ⟨e4, H5, b⟩ := by have := hτ (d + 2); rw [r2] at this; simpa using this.symm
  have tk : ∀ {i j}, i ≤ j → (ops.take j).take i = ops.take i := fun {i j} h => by rw [List.take_take, Nat.min_eq_left h]
  have gt : ∀ {i j}, i < j → (ops.take j)[i]? = ops[i]? := fun {i j} h => by rw [List.getElem?_take, if_pos h]
  have lo : ∀ i, i ≤ d → (τ i).h = H := fun i hi => A.quiet i _ (by omega) (by rw [tk hi]; exact hτ i)
  have hb : ∀ i, (τ i).b = b := by
   intro i
   induction i with
   | zero => rw [t0]
   | succ i ih =>
    cases ho : ops[i]? with
    | none =>
     have e1 : ops.take (i + 1) = ops.take i := by
      have : ops.length ≤ i := List.getElem?_eq_none_iff.1 ho
      rw [List.take_of_length_le this, List.take_of_length_le (by omega)]
     have := hτ (i + 1)
     rw [e1, hτ i] at this
     simp only [Option.some.injEq] at this
     rw [← this, ih]
    | some o => rw [evOper_b (one ho (hτ i) (hτ (i + 1))), ih]
  refine ⟨d, d + 1, fun i => (τ i).e, val, fun x y => match x, y with | false, false => H | true, false => H10 | false, true => H01 | true, true => H5, by omega, by omega, by omega, hlen, by rw [t0], rfl, fun i o _ ho => hval i o ho, fun i o x y hi ho hx hy => ?_⟩
  have cs : i < d ∨ i = d ∨ i = d + 1 := by omega
  rcases cs with c | rfl | rfl
  ·rw [decide_eq_false (by omega), decide_eq_false (by omega), Bool.or_false, Bool.or_false]
   have all : ∀ H1, (∀ (i : Nat) (o : VOper) (q q' : St), (ops.take d)[i]? = some o → evOps pg.toCx (evF pg) ((ops.take d).take i) ⟨e, H, b⟩ = some q → evOps pg.toCx (evF pg) ((ops.take d).take (i + 1)) ⟨e, H, b⟩ = some q' → evOper pg.toCx (evF pg) o ⟨q.e, H1, b⟩ = some ⟨q'.e, H1, b⟩) → evOper pg.toCx (evF pg) o ⟨(τ i).e, H1, b⟩ = some ⟨(τ (i + 1)).e, H1, b⟩ := fun H1 hh =>
    hh i o _ _ (by rw [gt c]; exact ho) (by rw [tk (by omega)]; exact hτ i) (by rw [tk (by omega)]; exact hτ (i + 1))
   cases x <;> cases y
   ·have := one ho (hτ i) (hτ (i + 1))
    rw [show τ i = ⟨(τ i).e, (τ i).h, (τ i).b⟩ from rfl, show τ (i + 1) = ⟨(τ (i + 1)).e, (τ (i + 1)).h, (τ (i + 1)).b⟩ from rfl, lo i (by omega), lo (i + 1) (by omega), hb, hb] at this
    exact this
   ·exact all _ c01
   ·exact all _ c10
   ·exact all _ c11
  ·rw [hod] at ho; cases ho
   have hx := hx rfl
   subst hx
   simp only [decide_eq_true rfl, Bool.or_true, td, td1]
   rw [decide_eq_false (show ¬ i = i + 1 by omega), Bool.or_false]
   cases y
   ·exact g1
   ·exact g4
  ·rw [hoz] at ho; cases ho
   have hy := hy rfl
   subst hy
   simp only [decide_eq_true rfl, Bool.or_true, td1, td2]
   rw [decide_eq_false (show ¬ d + 1 = d by omega), Bool.or_false]
   cases x
   ·exact g3
   ·exact g2
 ·exact h1.elim
theorem keepE_keepE (ks : List Nat) (e : Env) : keepE ks (keepE ks e) = keepE ks e := by
 have key : ∀ i, i ∈ ks → getE (keepE ks e) i = getE e i := fun i hi => by rw [getE_keepE, if_pos hi]
 show (ks.map fun k => (k, getE (keepE ks e) k)) = ks.map fun k => (k, getE e k)
 apply List.map_congr_left
 intro i hi
 rw [key i hi]
theorem wp_imp {b : Nat} : ∀ {c : VCode} {kn e H} {Q : Ex → Kn → Env → Hp → Prop}, KnOk kn e → wp pg b c kn e H Q → ∃ x kn' e' H', ev pg c ⟨e, H, b⟩ = some (x, ⟨e', H', b⟩) ∧ KnOk kn' e' ∧ Q x kn' e' H'
 | .skip, _, _, _, _, hk, h => ⟨_, _, _, _, rfl, hk, h⟩
 | .reg ops, kn, e, H, Q, hk, h => by
   obtain ⟨kn', e', H', h1, hk', h2⟩ := wpOps_imp hk h
   exact ⟨_, kn', e', H', by rw [ev_reg, evR, h1]; rfl, hk', h2⟩
 | .draw m ops, kn, e, H, Q, hk, h => by
   obtain ⟨kn', e', H', h1, hk', h2⟩ := wpDraw_imp hk h
   exact ⟨_, kn', e', H', ev_draw pg h1, hk', h2⟩
 | .seq c d, kn, e, H, Q, hk, h => by
   obtain ⟨x, kn', e', H', h1, hk', h2⟩ := wp_imp (c := c) hk h
   cases x with
   | nrm =>
    obtain ⟨x2, kn2, e2, H2, h3, hk2, h4⟩ := wp_imp (c := d) hk' h2
    exact ⟨x2, kn2, e2, H2, by rw [ev_seq, h1, sq_nrm, h3], hk2, h4⟩
   | exit i => exact ⟨_, kn', e', H', by rw [ev_seq, h1, sq_exit], hk', h2⟩
   | ret => exact ⟨_, kn', e', H', by rw [ev_seq, h1, sq_ret], hk', h2⟩
 | .cond o c d, kn, e, H, Q, hk, h => by
   have yes : evO pg.toCx e o = .d (.bool true) → ∀ {kn}, KnOk kn e → wp pg b c kn e H Q → ∃ x kn' e' H', ev pg (.cond o c d) ⟨e, H, b⟩ = some (x, ⟨e', H', b⟩) ∧ KnOk kn' e' ∧ Q x kn' e' H' := by
    intro ht kn hk h
    obtain ⟨x, kn', e', H', h1, hk', h2⟩ := wp_imp (c := c) hk h
    exact ⟨x, kn', e', H', by rw [ev_cond]; simp only [ht, cnd_bool, if_true]; exact h1, hk', h2⟩
   have no : evO pg.toCx e o = .d (.bool false) → ∀ {kn}, KnOk kn e → wp pg b d kn e H Q → ∃ x kn' e' H', ev pg (.cond o c d) ⟨e, H, b⟩ = some (x, ⟨e', H', b⟩) ∧ KnOk kn' e' ∧ Q x kn' e' H' := by
    intro ht kn hk h
    obtain ⟨x, kn', e', H', h1, hk', h2⟩ := wp_imp (c := d) hk h
    exact ⟨x, kn', e', H', by rw [ev_cond]; simp only [ht, cnd_bool]; exact h1, hk', h2⟩
   have gen : ∀ {f : Bool → Kn}, (match gO pg.toCx e o with | .d (.bool t) => (t = true → wp pg b c (f true) e H Q) ∧ (t = false → wp pg b d (f false) e H Q) | _ => False) → (∀ t, evO pg.toCx e o = .d (.bool t) → KnOk (f t) e) → ∃ x kn' e' H', ev pg (.cond o c d) ⟨e, H, b⟩ = some (x, ⟨e', H', b⟩) ∧ KnOk kn' e' ∧ Q x kn' e' H' := by
     intro f h hf
     rw [gO_eq] at h
     split at h
     ·rename_i t ht
      cases t with
      | true => exact yes ht (hf _ ht) (h.1 rfl)
      | false => exact no ht (hf _ ht) (h.2 rfl)
     ·cases h
   cases o with
   | t i =>
    rw [wp_cond_t] at h
    split at h
    ·rename_i ht; exact yes (hk i _ ht) hk h
    ·rename_i ht; exact no (hk i _ ht) hk h
    ·exact gen (f := fun t => (i, t) :: kn) h fun t ht => hk.add ht
   | c v => exact gen (f := fun _ => kn) h fun _ _ => hk
   | g v => exact gen (f := fun _ => kn) h fun _ _ => hk
   | f v => exact gen (f := fun _ => kn) h fun _ _ => hk
 | .block id c, kn, e, H, Q, hk, h => by
   obtain ⟨x, kn', e', H', h1, hk', h2⟩ := wp_imp (c := c) hk h
   cases x with
   | nrm => exact ⟨_, kn', e', H', by rw [ev_block, h1, blk_nrm], hk', h2⟩
   | ret => exact ⟨_, kn', e', H', by rw [ev_block, h1, blk_ret], hk', h2⟩
   | exit i =>
    simp only at h2
    by_cases hi : i = id
    ·rw [beqT hi] at h2
     exact ⟨_, kn', e', H', by rw [ev_block, h1, blk_exit, if_pos hi], hk', h2⟩
    ·rw [beqF hi] at h2
     exact ⟨_, kn', e', H', by rw [ev_block, h1, blk_exit, if_neg hi], hk', h2⟩
 | .scope c, kn, e, H, Q, hk, h => by
   obtain ⟨x, kn', e', H', h1, hk', h2⟩ := wp_imp (c := c) hk h
   exact ⟨x, kn', e', H', by rw [ev_scope, h1], hk', h2⟩
 | .loop ks c, kn, e, H, Q, hk, h => by
   have h : keepK e ks fun e => LoopK pg b ks c e H Q := h
   rw [keepK_eq] at h
   unfold LoopK at h
   obtain ⟨x, e', H', h1, h2⟩ := h
   rw [ev_loop] at h1
   refine ⟨x, [], e', H', ?_, KnOk.nil e', h2⟩
   rw [ev_loop, ← h1]
   simp only [keepE_keepE]
 | .exit i, _, _, _, _, hk, h => ⟨_, _, _, _, rfl, hk, h⟩
 | .ret, _, _, _, _, hk, h => ⟨_, _, _, _, rfl, hk, h⟩
 | .newrow sz t, kn, e, H, Q, hk, h => by
   rw [wp_newrow] at h
   rw [gE_eq] at h
   split at h
   ·rename_i ht
    simp only [chk_iff, lenK_eq, forceL_eq, Nat.zero_add] at h
    have hs : 0 < sz := by have := h.1; simp [Nat.blt] at this; omega
    exact ⟨_, _, _, _, by rw [ev_newrow]; simp only [ht, nwr_nils, if_pos hs], hk.forget t _, h.2⟩
   ·cases h
 | .bindrow sz t off, kn, e, H, Q, hk, h => by
   rw [wp_bindrow] at h
   rw [gE_eq] at h
   split at h
   ·rename_i id o ht
    obtain ⟨ob, ho, h⟩ := (nthK_iff ..).1 h
    cases ob with
    | box c =>
     obtain ⟨v, hv, h⟩ := (nthK_iff ..).1 h
     cases v with
     | nils =>
      simp only [chk_iff, lenK_eq, forceL_eq, Nat.zero_add, Bool.and_eq_true, Nat.ble_eq] at h
      have hs : 0 < sz := by have := h.1.2; simp [Nat.blt] at this; omega
      refine ⟨_, _, _, _, ?_, hk, h.2⟩
      simp only [ev, evC, ht, ho, hv]
      rw [if_pos ⟨h.1.1, hs⟩]
     | _ => cases h
    | _ => cases h
   ·cases h
 | .mkrow sz, kn, e, H, Q, hk, h => by
   rw [wp_mkrow] at h
   simp only [chk_iff, forceL_eq] at h
   have hs : 0 < sz := by have := h.1; simp [Nat.blt] at this; omega
   exact ⟨_, _, _, _, by simp only [ev, evC, if_pos hs], hk, h.2⟩
 | .bindto t off k, kn, e, H, Q, hk, h => by
   rw [wp_bindto] at h
   rw [gE_eq] at h
   split at h
   ·rename_i id o ht
    obtain ⟨ob, ho, h⟩ := (nthK_iff ..).1 h
    cases ob with
    | box c =>
     obtain ⟨v, hv, h⟩ := (nthK_iff ..).1 h
     cases v with
     | nils =>
      obtain ⟨ob2, ho2, h⟩ := (nthK_iff ..).1 h
      split at h
      ·simp only [chk_iff, forceL_eq, Bool.and_eq_true, Nat.ble_eq] at h
       have hs : 0 < k := by have := h.1.1.1; simp [Nat.blt] at this; omega
       refine ⟨_, _, _, _, ?_, hk, h.2⟩
       simp only [ev, evC, ht, ho, hv, ho2]
       rw [if_pos ⟨hs, h.1.1.2, h.1.2⟩]
      ·cases h
     | _ => cases h
    | _ => cases h
   ·cases h
 | .freeze t, kn, e, H, Q, hk, h => by
   rw [wp_freeze] at h
   rw [gE_eq] at h
   split at h
   ·rename_i id o l ht
    obtain ⟨ob, ho, h⟩ := (nthK_iff ..).1 h
    cases ob with
    | box c =>
     obtain ⟨ds, hd, h⟩ := h
     rw [forceL_eq] at h
     exact ⟨_, _, _, _, by simp only [ev, evC, ht, ho, hd], hk, h⟩
    | _ => cases h
   ·rename_i id len ht
    obtain ⟨ob, ho, h⟩ := (nthK_iff ..).1 h
    cases ob with
    | row sz l =>
     obtain ⟨hl, h⟩ := h
     rw [forceL_eq] at h
     exact ⟨_, _, _, _, by simp only [ev, evC, ht, ho, if_pos hl], hk.forget t _, h⟩
    | _ => cases h
   ·cases h
theorem wp_loop {ks : List Nat} {c : VCode} {b : Nat} {α : Type} (μ : α → Nat) (E : α → Env) (Hf : α → Hp) (P : α → Prop) {Q : Ex → Kn → Env → Hp → Prop}
 (step : ∀ a, P a → lenK (Hf a) 0 fun n => keepK (E a) ks fun e => wp pg n c [] e (Hf a) (fun x _ e' H' => match x with
   | .nrm => backK n e' ks fun e2 => forceL (H'.take n) fun H2 => ∃ a', P a' ∧ μ a' < μ a ∧ e2 = E a' ∧ H2 = Hf a'
   | .exit i => Q (.exit i) [] e' H'
   | .ret => Q .ret [] e' H')) (a : α) (ha : P a) : LoopK pg b ks c (E a) (Hf a) Q := by
 have key : ∀ n, ∀ a, μ a < n → P a → ∃ x e' H', ev pg (.loop ks c) ⟨E a, Hf a, b⟩ = some (x, ⟨e', H', b⟩) ∧ Q x [] e' H' := by
  intro n
  induction n with
  | zero => intro a h; omega
  | succ n ih =>
   intro a hn ha
   have st := step a ha
   rw [lenK_eq, keepK_eq, Nat.zero_add] at st
   obtain ⟨x, kn', e', H', h1, _, h2⟩ := wp_imp (KnOk.nil _) st
   rw [ev_loop]
   simp only [h1]
   cases x with
   | nrm =>
    simp only [backK_eq, forceL_eq] at h2
    obtain ⟨a', h3, h4, h5, h6⟩ := h2
    simp only [rnd_nrm, h5, h6]
    exact ih a' (by omega) h3
   | exit i => exact ⟨_, e', H', rfl, h2⟩
   | ret => exact ⟨_, e', H', rfl, h2⟩
 unfold LoopK
 exact key (μ a + 1) a (by omega) ha
noncomputable def resK (e : Env) (H : Hp) (l : List VRes) : (List V → Prop) → Prop := List.rec (motive := fun _ => (List V → Prop) → Prop) (fun k => k []) (fun o _ ih k => match o with
  | .tmp t => argK H (gE e t) fun v => ih fun vs => k (v :: vs)
  | .cell t n => (match gE e t with
    | .ptr id off => nthK H id fun ob => match ob with
      | .box c => partK n c off fun v => argK H v fun v => ih fun vs => k (v :: vs)
      | .frz c => partK n (c.map V.d) off fun v => argK H v fun v => ih fun vs => k (v :: vs)
      | _ => False
    | _ => False)) l
theorem resK_cell (e : Env) (H : Hp) (t n) (r : List VRes) (k : List V → Prop) : resK e H (.cell t n :: r) k = (match gE e t with
    | .ptr id off => nthK H id fun ob => match ob with
      | .box c => partK n c off fun v => argK H v fun v => resK e H r fun vs => k (v :: vs)
      | .frz c => partK n (c.map V.d) off fun v => argK H v fun v => resK e H r fun vs => k (v :: vs)
      | _ => False
    | _ => False) := rfl
theorem resK_imp {e : Env} {H : Hp} : ∀ {l : List VRes} {k : List V → Prop}, resK e H l k → ∃ vs, resVs e H l = some vs ∧ k (vs.map (toArg H))
 | [], _, h => ⟨[], rfl, h⟩
 | .tmp t :: r, k, h => by
   have h : argK H (gE e t) fun v => resK e H r fun vs => k (v :: vs) := h
   have h := argK_imp _ _ _ h
   obtain ⟨vs, h1, h2⟩ := resK_imp h
   rw [gE_eq] at h2
   exact ⟨getE e t :: vs, by simp only [resVs_cons, resV_tmp, h1, resC_some], h2⟩
 | .cell t n :: r, k, h => by
   rw [resK_cell] at h
   rw [gE_eq] at h
   have fin : ∀ {v id off}, getE e t = .ptr id off → loadV H n (.ptr id off) = some v → (argK H v fun v => resK e H r fun vs => k (v :: vs)) → ∃ vs, resVs e H (.cell t n :: r) = some vs ∧ k (vs.map (toArg H)) := by
     intro v id off ht hl h
     have h := argK_imp _ _ _ h
     obtain ⟨vs, h1, h2⟩ := resK_imp h
     exact ⟨v :: vs, by simp only [resVs_cons, resV_cell, ht, hl, h1, resC_some], h2⟩
   split at h
   ·rename_i id off ht
    obtain ⟨ob, ho, h⟩ := (nthK_iff ..).1 h
    cases ob with
    | box c =>
     obtain ⟨v, hv, h⟩ := (partK_iff ..).1 h
     exact fin ht (by simp only [loadV_ptr, ho, obLoad_box, hv]) h
    | frz c =>
     obtain ⟨v, hv, h⟩ := (partK_iff ..).1 h
     exact fin ht (by simp only [loadV_ptr, ho, obLoad_frz, hv]) h
    | _ => cases h
   ·cases h
noncomputable def retK (res : List VRes) (n : Nat) (R : V → Hp → Prop) : Ex → Kn → Env → Hp → Prop := fun x _ e H => match x with
  | .exit _ => False
  | .nrm => resK e H res fun vs => chk (undL n vs) (R (oneOf vs) H)
  | .ret => resK e H res fun vs => chk (undL n vs) (R (oneOf vs) H)
theorem retK_imp {res : List VRes} {n : Nat} {R : V → Hp → Prop} {x kn e H b} (h : retK res n R x kn e H) : ∃ r, leaveE false res n (some (x, ⟨e, H, b⟩)) = some (r, H.take n) ∧ R r H := by
 have fin : (resK e H res fun vs => chk (undL n vs) (R (oneOf vs) H)) → ∃ r, leave ⟨0, 0, .skip, res, false⟩ n ⟨e, H, b⟩ = some (r, H.take n) ∧ R r H := by
   intro h
   obtain ⟨vs, h1, h2⟩ := resK_imp h
   rw [chk_iff] at h2
   exact ⟨_, by simp only [leave_eq, h1, lv_some, h2.1, if_true], h2.2⟩
 cases x with
 | nrm => exact fin h
 | ret => exact fin h
 | exit i => cases h
noncomputable def enterK (i : Nat) (l : List V) : (Env → Prop) → Prop := List.rec (motive := fun _ => Nat → (Env → Prop) → Prop) (fun _ k => k []) (fun v _ ih i k => ih (i + 1) fun e => k ((i, v) :: e)) l i
theorem enterK_eq : ∀ (i : Nat) (l : List V) (k : Env → Prop), enterK i l k = k (enterFrom i l)
 | _, [], _ => rfl
 | i, v :: r, k => enterK_eq (i + 1) r fun e => k ((i, v) :: e)
theorem evF_wp {f : Nat} {vf : VFn} (ht : pg.tbl f = some (.code vf)) {a : List V} (hn : a.length = vf.np) (hu : (undL 0 a && !vf.keep) = true) {r : V} (h : enterK 0 a fun e => wp pg 0 vf.body [] e [] (retK vf.res 0 fun v _ => v = r)) (H : Hp) : evF pg f a H = some (r, H) := by
  rw [enterK_eq] at h
  obtain ⟨x, kn, e, H', h1, _, h2⟩ := wp_imp (KnOk.nil _) h
  obtain ⟨r', h3, h4⟩ := retK_imp (b := 0) h2
  have hk : vf.keep = false := by cases hh : vf.keep <;> simp_all
  refine evF_of ht hn hu (h' := H'.take 0) ?_ H
  rw [enterE_eq, h1, hk, h3, h4]
theorem evF_wpOn {f : Nat} {vf : VFn} (ht : pg.tbl f = some (.code vf)) {a : List V} (hn : a.length = vf.np) (hk : vf.keep = false) (hu : undL 0 a = false) {r : V} {H H2 : Hp} (h : enterK 0 a fun e => wp pg H.length vf.body [] e H (retK vf.res H.length fun v H' => v = r ∧ H'.take H.length = H2)) : evF pg f a H = some (r, H2) := by
  rw [enterK_eq] at h
  obtain ⟨x, kn, e, H', h1, _, h2⟩ := wp_imp (KnOk.nil _) h
  obtain ⟨r', h3, h4, h5⟩ := retK_imp (b := H.length) h2
  rw [evF_on ht hn (by rw [hu]; rfl), enterE_eq, h1, hk, h3, h4, h5]
end
end Go.Vm
namespace Go.Vm
abbrev u8 (c : UInt8) : V := .d (.int .u8 c.toNat)
abbrev str (s : List UInt8) : V := .d (.str s)
abbrev i64 (n : Int) : V := .d (.int .i64 n)
abbrev boo (b : Bool) : V := .d (.bool b)
theorem idx_of {α : Type} {s : List α} {i : Nat} (h : i < s.length) {k : α → Prop} (hk : k s[i]) : ∃ c, ((0 : Int) ≤ (i : Int) ∧ s[(i : Int).toNat]? = some c) ∧ k c :=
 ⟨s[i], ⟨by omega, by rw [Int.toNat_natCast, List.getElem?_eq_getElem h]⟩, hk⟩
theorem all_upto {α : Type} {p : α → Bool} {s : List α} {i : Nat} (hi : i < s.length) (h : (s.take i).all p = true) (hp : p s[i] = true) : (s.take (i + 1)).all p = true := by
 rw [List.take_add_one, List.getElem?_eq_getElem hi, List.all_append, h]
 simp [hp]
theorem pickD {α : Type} {l : List α} {n : Int} {d : α} (h : 0 ≤ n ∧ l[n.toNat]? = some d) {k : α → Prop} (hk : k d) : ∃ c, (0 ≤ n ∧ l[n.toNat]? = some c) ∧ k c := ⟨d, h, hk⟩
theorem and_t {b : Bool} {X Y : Prop} (h : b = true) (x : X) : (b = true → X) ∧ (b = false → Y) := ⟨fun _ => x, fun e => by rw [h] at e; cases e⟩
theorem and_f {b : Bool} {X Y : Prop} (h : b = false) (y : Y) : (b = true → X) ∧ (b = false → Y) := ⟨fun e => by (rw [h] at e; cases e), fun _ => y⟩
theorem gd_t {b : Bool} {X Y : Prop} (h : b = true) (x : X) : (b = false → Y) ∧ (b = (!false) → X) := ⟨fun e => by (rw [h] at e; cases e), fun _ => x⟩
theorem gd_f {b : Bool} {X Y : Prop} (h : b = false) (y : Y) : (b = false → Y) ∧ (b = (!false) → X) := ⟨fun _ => y, fun e => by (rw [h] at e; cases e)⟩
theorem gt_t {b : Bool} {X Y : Prop} (h : b = true) (x : X) : (b = true → X) ∧ (b = (!true) → Y) := ⟨fun _ => x, fun e => by (rw [h] at e; cases e)⟩
theorem gt_f {b : Bool} {X Y : Prop} (h : b = false) (y : Y) : (b = true → X) ∧ (b = (!true) → Y) := ⟨fun e => by (rw [h] at e; cases e), fun _ => y⟩
theorem ca {x : Option (V × Hp)} {p : V → Hp → Prop} {r : V} {H : Hp} (h : x = some (r, H)) (k : p r H) : ∃ r H, x = some (r, H) ∧ p r H := ⟨r, H, h, k⟩
theorem st_of {b : Bool} {l : List V} {k : List V → Prop} (h : b = true) (hk : k l) : chk b (forceL l k) := chk_of h (by rw [forceL_eq]; exact hk)
theorem putAt_one : ∀ {c : List V} {n : Nat} {v : V}, n < c.length → putAt c n [v] = c.set n v
 | [], n, v, h => by simp at h
 | a :: c, 0, v, _ => by simp [putAt]
 | a :: c, n + 1, v, h => by
   simp only [List.length_cons] at h
   simp only [putAt, List.set_cons_succ]
   rw [putAt_one (by omega)]
theorem putAt_map {α : Type} (f : α → V) {l : List α} {n : Nat} {a : α} (h : n < l.length) : putAt (l.map f) n [f a] = (l.set n a).map f := by
 rw [putAt_one (by rw [List.length_map]; exact h), List.map_set]
theorem fz {c : List V} {ds : List D} {p : List D → Prop} (h : allD c = some ds) (k : p ds) : ∃ ds, allD c = some ds ∧ p ds := ⟨ds, h, k⟩
theorem wp_loopE {pg : Pg} {ks : List Nat} {c : VCode} {b : Nat} {α : Type} (μ : α → Nat) (E : α → Env) (Hf : α → Hp) (P : α → Prop) {Q : Ex → Kn → Env → Hp → Prop} {e0 : Env} {h0 : Hp}
 (step : ∀ a, P a → lenK (Hf a) 0 fun n => keepK (E a) ks fun e => wp pg n c [] e (Hf a) (fun x _ e' H' => match x with
   | .nrm => backK n e' ks fun e2 => forceL (H'.take n) fun H2 => ∃ a', P a' ∧ μ a' < μ a ∧ e2 = E a' ∧ H2 = Hf a'
   | .exit i => Q (.exit i) [] e' H'
   | .ret => Q .ret [] e' H')) (a : α) (ha : P a) (he : e0 = E a) (hh : h0 = Hf a) : LoopK pg b ks c e0 h0 Q := by
 subst he; subst hh; exact wp_loop μ E Hf P step a ha
end Go.Vm
namespace Go.Vm
section
variable {pg : Pg} {b : Nat}
structure WQ (pg : Pg) (b : Nat) (c : VCode) (kn : Kn) (e : Env) (H : Hp) (Q : Ex → Kn → Env → Hp → Prop) : Prop where
 imp : KnOk kn e → ∃ x kn' e' H', ev pg c ⟨e, H, b⟩ = some (x, ⟨e', H', b⟩) ∧ KnOk kn' e' ∧ Q x kn' e' H'
structure KS (pg : Pg) (b : Nat) (d : VCode) (Q : Ex → Kn → Env → Hp → Prop) (x : Ex) (kn : Kn) (e : Env) (H : Hp) : Prop where
 nrm : x = .nrm → WQ pg b d kn e H Q
 exit : ∀ i, x = .exit i → Q (.exit i) kn e H
 ret : x = .ret → Q .ret kn e H
structure KB (id : Nat) (Q : Ex → Kn → Env → Hp → Prop) (x : Ex) (kn : Kn) (e : Env) (H : Hp) : Prop where
 nrm : x = .nrm → Q .nrm kn e H
 hit : ∀ i, x = .exit i → i.beq id = true → Q .nrm kn e H
 exit : ∀ i, x = .exit i → i.beq id = false → Q (.exit i) kn e H
 ret : x = .ret → Q .ret kn e H
structure KL (P : Env → Hp → Prop) (Q : Ex → Kn → Env → Hp → Prop) (x : Ex) (e : Env) (H : Hp) : Prop where
 nrm : x = .nrm → P e H
 exit : ∀ i, x = .exit i → Q (.exit i) [] e H
 ret : x = .ret → Q .ret [] e H
variable {c d : VCode} {Q : Ex → Kn → Env → Hp → Prop} {kn : Kn} {e : Env} {H : Hp}
theorem ks_nrm (h : WQ pg b d kn e H Q) : KS pg b d Q .nrm kn e H := by constructor <;> intros <;> simp_all
theorem ks_exit {i : Nat} (h : Q (.exit i) kn e H) : KS pg b d Q (.exit i) kn e H := by constructor <;> intros <;> simp_all
theorem ks_ret (h : Q .ret kn e H) : KS pg b d Q .ret kn e H := by constructor <;> intros <;> simp_all
theorem kb_nrm {id : Nat} (h : Q .nrm kn e H) : KB id Q .nrm kn e H := by constructor <;> intros <;> simp_all
theorem kb_hit {id i : Nat} (hi : i.beq id = true) (h : Q .nrm kn e H) : KB id Q (.exit i) kn e H := by constructor <;> intros <;> simp_all
theorem kb_exit {id i : Nat} (hi : i.beq id = false) (h : Q (.exit i) kn e H) : KB id Q (.exit i) kn e H := by constructor <;> intros <;> simp_all
theorem kb_ret {id : Nat} (h : Q .ret kn e H) : KB id Q .ret kn e H := by constructor <;> intros <;> simp_all
theorem kl_nrm {P : Env → Hp → Prop} (h : P e H) : KL P Q .nrm e H := by constructor <;> intros <;> simp_all
theorem kl_exit {P : Env → Hp → Prop} {i : Nat} (h : Q (.exit i) [] e H) : KL P Q (.exit i) e H := by constructor <;> intros <;> simp_all
theorem kl_ret {P : Env → Hp → Prop} (h : Q .ret [] e H) : KL P Q .ret e H := by constructor <;> intros <;> simp_all
theorem q_wp (h : wp pg b c kn e H Q) : WQ pg b c kn e H Q := ⟨fun hk => wp_imp hk h⟩
theorem q_skip (h : Q .nrm kn e H) : WQ pg b .skip kn e H Q := ⟨fun hk => ⟨_, _, _, _, rfl, hk, h⟩⟩
theorem q_exit {i : Nat} (h : Q (.exit i) kn e H) : WQ pg b (.exit i) kn e H Q := ⟨fun hk => ⟨_, _, _, _, rfl, hk, h⟩⟩
theorem q_ret (h : Q .ret kn e H) : WQ pg b .ret kn e H Q := ⟨fun hk => ⟨_, _, _, _, rfl, hk, h⟩⟩
theorem q_reg {ops : List VOper} (h : wpOps pg b ops kn e H fun kn e H => Q .nrm kn e H) : WQ pg b (.reg ops) kn e H Q := ⟨fun hk => by
  obtain ⟨kn', e', H', h1, hk', h2⟩ := wpOps_imp hk h
  exact ⟨_, kn', e', H', by rw [ev_reg, evR, h1]; rfl, hk', h2⟩⟩
theorem q_draw {m : Nat} {ops : List VOper} (h : wpDraw pg b m ops kn e H fun kn e H => Q .nrm kn e H) : WQ pg b (.draw m ops) kn e H Q := ⟨fun hk => by
  obtain ⟨kn', e', H', h1, hk', h2⟩ := wpDraw_imp hk h
  exact ⟨_, kn', e', H', ev_draw pg h1, hk', h2⟩⟩
theorem q_dirty (d : Nat) {m : Nat} {ops : List VOper} (hd : d < m) (hm : m ≤ ops.length) (h : wpDirty pg b d m ops kn e H fun kn e H => Q .nrm kn e H) : WQ pg b (.draw m ops) kn e H Q := ⟨fun hk => by
  obtain ⟨kn', e', H', h1, hk', h2⟩ := wpDirty_imp hd hm hk h
  refine ⟨.nrm, kn', e', H', ?_, hk', h2⟩
  show (evDrw pg.toCx (evF pg) m ops ⟨e, H, b⟩).map _ = _
  rw [h1]; rfl⟩
theorem q_dirtyZ (d : Nat) {m : Nat} {ops : List VOper} (hm : m = d + 2) (h : wpDirtyZ pg b d ops kn e H fun kn e H => Q .nrm kn e H) : WQ pg b (.draw m ops) kn e H Q := ⟨fun hk => by
  obtain ⟨kn', e', H', h1, hk', h2⟩ := wpDirtyZ_imp hm hk h
  refine ⟨.nrm, kn', e', H', ?_, hk', h2⟩
  show (evDrw pg.toCx (evF pg) m ops ⟨e, H, b⟩).map _ = _
  rw [h1]; rfl⟩
def plainD (m : Nat) (ops : List VOper) : Bool := ((ops.take m).all fun o => match o.op with | .call .. | .callv .. | .app .. => false | _ => true) && (Nat.ble m 2 || !shapeS (m - 3) ops)
theorem q_drawn {m : Nat} {ops : List VOper} (_ : plainD m ops = true) (h : wpDraw pg b m ops kn e H fun kn e H => Q .nrm kn e H) : WQ pg b (.draw m ops) kn e H Q := q_draw h
theorem q_seq (h : WQ pg b c kn e H (KS pg b d Q)) : WQ pg b (.seq c d) kn e H Q := ⟨fun hk => by
  obtain ⟨x, kn', e', H', h1, hk', h2⟩ := h.imp hk
  cases x with
  | nrm =>
   obtain ⟨x2, kn2, e2, H2, h3, hk2, h4⟩ := (h2.nrm rfl).imp hk'
   exact ⟨x2, kn2, e2, H2, by rw [ev_seq, h1, sq_nrm, h3], hk2, h4⟩
  | exit i => exact ⟨_, kn', e', H', by rw [ev_seq, h1, sq_exit], hk', h2.exit _ rfl⟩
  | ret => exact ⟨_, kn', e', H', by rw [ev_seq, h1, sq_ret], hk', h2.ret rfl⟩⟩
theorem q_scope (h : WQ pg b c kn e H Q) : WQ pg b (.scope c) kn e H Q := ⟨fun hk => by
  obtain ⟨x, kn', e', H', h1, hk', h2⟩ := h.imp hk
  exact ⟨x, kn', e', H', by rw [ev_scope, h1], hk', h2⟩⟩
theorem q_block {id : Nat} (h : WQ pg b c kn e H (KB id Q)) : WQ pg b (.block id c) kn e H Q := ⟨fun hk => by
  obtain ⟨x, kn', e', H', h1, hk', h2⟩ := h.imp hk
  cases x with
  | nrm => exact ⟨_, kn', e', H', by rw [ev_block, h1, blk_nrm], hk', h2.nrm rfl⟩
  | ret => exact ⟨_, kn', e', H', by rw [ev_block, h1, blk_ret], hk', h2.ret rfl⟩
  | exit i =>
   by_cases hi : i = id
   ·exact ⟨_, kn', e', H', by rw [ev_block, h1, blk_exit, if_pos hi], hk', h2.hit _ rfl (beqT hi)⟩
   ·exact ⟨_, kn', e', H', by rw [ev_block, h1, blk_exit, if_neg hi], hk', h2.exit _ rfl (beqF hi)⟩⟩
theorem q_cond {i : Nat} (h : match look kn i with
      | some true => WQ pg b c kn e H Q
      | some false => WQ pg b d kn e H Q
      | none => match gE e i with
        | .d (.bool t) => (t = true → WQ pg b c ((i, true) :: kn) e H Q) ∧ (t = false → WQ pg b d ((i, false) :: kn) e H Q)
        | _ => False) : WQ pg b (.cond (.t i) c d) kn e H Q := ⟨fun hk => by
  have yes : evO pg.toCx e (.t i) = .d (.bool true) → ∀ {kn}, KnOk kn e → WQ pg b c kn e H Q → ∃ x kn' e' H', ev pg (.cond (.t i) c d) ⟨e, H, b⟩ = some (x, ⟨e', H', b⟩) ∧ KnOk kn' e' ∧ Q x kn' e' H' := by
   intro ht kn hk h
   obtain ⟨x, kn', e', H', h1, hk', h2⟩ := h.imp hk
   exact ⟨x, kn', e', H', by rw [ev_cond]; simp only [ht, cnd_bool, if_true]; exact h1, hk', h2⟩
  have no : evO pg.toCx e (.t i) = .d (.bool false) → ∀ {kn}, KnOk kn e → WQ pg b d kn e H Q → ∃ x kn' e' H', ev pg (.cond (.t i) c d) ⟨e, H, b⟩ = some (x, ⟨e', H', b⟩) ∧ KnOk kn' e' ∧ Q x kn' e' H' := by
   intro ht kn hk h
   obtain ⟨x, kn', e', H', h1, hk', h2⟩ := h.imp hk
   exact ⟨x, kn', e', H', by rw [ev_cond]; simp only [ht, cnd_bool]; exact h1, hk', h2⟩
  split at h
  ·rename_i ht; exact yes (hk i _ ht) hk h
  ·rename_i ht; exact no (hk i _ ht) hk h
  ·rw [gE_eq] at h
   split at h
   ·rename_i t ht
    cases t with
    | true => exact yes ht (hk.add ht) (h.1 rfl)
    | false => exact no ht (hk.add ht) (h.2 rfl)
   ·cases h⟩
theorem q_newrow {sz t : Nat} (h : wp pg b (.newrow sz t) kn e H Q) : WQ pg b (.newrow sz t) kn e H Q := q_wp h
theorem q_bindrow {sz t o : Nat} (h : wp pg b (.bindrow sz t o) kn e H Q) : WQ pg b (.bindrow sz t o) kn e H Q := q_wp h
theorem q_freeze {t : Nat} (h : wp pg b (.freeze t) kn e H Q) : WQ pg b (.freeze t) kn e H Q := q_wp h
theorem q_mkrow {sz : Nat} (h : wp pg b (.mkrow sz) kn e H Q) : WQ pg b (.mkrow sz) kn e H Q := q_wp h
theorem q_bindto {t o k : Nat} (h : wp pg b (.bindto t o k) kn e H Q) : WQ pg b (.bindto t o k) kn e H Q := q_wp h
theorem q_loop {ks : List Nat} (h : keepK e ks fun e => LoopK pg b ks c e H Q) : WQ pg b (.loop ks c) kn e H Q := q_wp h
theorem wq_loop {ks : List Nat} {α : Type} (μ : α → Nat) (E : α → Env) (Hf : α → Hp) (P : α → Prop)
 (step : ∀ a, P a → lenK (Hf a) 0 fun n => keepK (E a) ks fun e => WQ pg n c [] e (Hf a) fun x _ e' H' => KL (fun e' H' => backK n e' ks fun e2 => forceL (H'.take n) fun H2 => ∃ a', P a' ∧ μ a' < μ a ∧ e2 = E a' ∧ H2 = Hf a') Q x e' H') (a : α) (ha : P a) {e0 : Env} {h0 : Hp} (he : e0 = E a) (hh : h0 = Hf a) : LoopK pg b ks c e0 h0 Q := by
 subst he; subst hh
 have key : ∀ n, ∀ a, μ a < n → P a → ∃ x e' H', ev pg (.loop ks c) ⟨E a, Hf a, b⟩ = some (x, ⟨e', H', b⟩) ∧ Q x [] e' H' := by
  intro n
  induction n with
  | zero => intro a h; omega
  | succ n ih =>
   intro a hn ha
   have st := step a ha
   rw [lenK_eq, keepK_eq, Nat.zero_add] at st
   obtain ⟨x, kn', e', H', h1, _, h2⟩ := st.imp (KnOk.nil _)
   rw [ev_loop]
   simp only [h1]
   cases x with
   | nrm =>
    have h2 := h2.nrm rfl
    simp only [backK_eq, forceL_eq] at h2
    obtain ⟨a', h3, h4, h5, h6⟩ := h2
    simp only [rnd_nrm, h5, h6]
    exact ih a' (by omega) h3
   | exit i => exact ⟨_, e', H', rfl, h2.exit _ rfl⟩
   | ret => exact ⟨_, e', H', rfl, h2.ret rfl⟩
 unfold LoopK
 exact key (μ a + 1) a (by omega) ha
theorem evF_wq {f : Nat} {vf : VFn} (ht : pg.tbl f = some (.code vf)) {a : List V} (hn : a.length = vf.np) (hu : (undL 0 a && !vf.keep) = true) {r : V} (h : enterK 0 a fun e => WQ pg 0 vf.body [] e [] (retK vf.res 0 fun v _ => v = r)) (H : Hp) : evF pg f a H = some (r, H) := by
  rw [enterK_eq] at h
  obtain ⟨x, kn, e, H', h1, _, h2⟩ := h.imp (KnOk.nil _)
  obtain ⟨r', h3, h4⟩ := retK_imp (b := 0) h2
  have hk : vf.keep = false := by cases hh : vf.keep <;> simp_all
  refine evF_of ht hn hu (h' := H'.take 0) ?_ H
  rw [enterE_eq, h1, hk, h3, h4]
theorem evF_wqOn {f : Nat} {vf : VFn} (ht : pg.tbl f = some (.code vf)) {a : List V} (hn : a.length = vf.np) (hk : vf.keep = false) (hu : undL 0 a = false) {r : V} {H H2 : Hp} (h : enterK 0 a fun e => WQ pg H.length vf.body [] e H (retK vf.res H.length fun v H' => v = r ∧ H'.take H.length = H2)) : evF pg f a H = some (r, H2) := by
  rw [enterK_eq] at h
  obtain ⟨x, kn, e, H', h1, _, h2⟩ := h.imp (KnOk.nil _)
  obtain ⟨r', h3, h4, h5⟩ := retK_imp (b := H.length) h2
  rw [evF_on ht hn (by rw [hu]; rfl), enterE_eq, h1, hk, h3, h4, h5]
end
end Go.Vm
namespace Go.Vm
section
variable {b : Bool} {X Y : Prop}
theorem b1 (x : X) (h : b = true := by first | with_reducible rfl | exact rfl | exact decide_eq_true (by assumption) | assumption) : (b = true → X) ∧ (b = false → Y) := and_t h x
theorem b2 (y : Y) (h : b = false := by first | with_reducible rfl | exact rfl | exact decide_eq_false (by assumption) | assumption) : (b = true → X) ∧ (b = false → Y) := and_f h y
theorem b3 (x : X) (h : b = true := by first | with_reducible rfl | exact rfl | exact decide_eq_true (by assumption) | assumption) : (b = false → Y) ∧ (b = (!false) → X) := gd_t h x
theorem b4 (y : Y) (h : b = false := by first | with_reducible rfl | exact rfl | exact decide_eq_false (by assumption) | assumption) : (b = false → Y) ∧ (b = (!false) → X) := gd_f h y
theorem b5 (x : X) (h : b = true := by first | with_reducible rfl | exact rfl | exact decide_eq_true (by assumption) | assumption) : (b = true → X) ∧ (b = (!true) → Y) := gt_t h x
theorem b6 (y : Y) (h : b = false := by first | with_reducible rfl | exact rfl | exact decide_eq_false (by assumption) | assumption) : (b = true → X) ∧ (b = (!true) → Y) := gt_f h y
end
theorem pk {α : Type} {l : List α} {n : Int} {d : α} {k : α → Prop} (hk : k d) (h : 0 ≤ n ∧ l[n.toNat]? = some d := by exact ⟨by first | decide | exact Int.NonNeg.mk _, rfl⟩) : ∃ c, (0 ≤ n ∧ l[n.toNat]? = some c) ∧ k c := ⟨d, h, hk⟩
structure Left (P : Prop) : Prop where
 f : P
theorem stp {P Q : Prop} (q : Q) (g : Q → P := by
  first
   | exact q_seq | exact q_block | exact q_reg | exact q_cond | exact q_exit | exact q_ret | exact q_skip | exact q_scope | exact q_draw | exact q_loop | exact q_mkrow | exact q_bindto | exact q_freeze | exact q_newrow | exact q_bindrow) : P := g q
theorem stpd {P Q : Prop} (q : Q) (g : Q → P := by
  first
   | exact q_seq | exact q_block | exact q_reg | exact q_cond | exact q_exit | exact q_ret | exact q_skip | exact q_scope | exact q_drawn rfl | exact q_loop | exact q_mkrow | exact q_bindto | exact q_freeze | exact q_newrow | exact q_bindrow) : P := g q
theorem stq {P Q : Prop} (q : Q) (g : Q → P := by
  first
   | exact ks_nrm | exact ks_exit | exact ks_ret | exact kb_nrm | exact kb_hit rfl | exact kb_exit rfl | exact kb_ret | exact kl_nrm | exact kl_exit | exact kl_ret
   | exact And.intro (grew_self _)
   | exact fun x => b1 x | exact fun x => b2 x | exact fun x => b3 x | exact fun x => b4 x | exact fun x => b5 x | exact fun x => b6 x
   | exact fun x => pk x | exact And.intro rfl) : P := g q
theorem run {P Q : Prop} (q : Left Q) (h : Left Q → P := by
  intro q
  first
   | ((with_reducible show WQ _ _ _ _ _ _ _); refine stp ?_)
   | ((conv => whnf); first | (with_reducible show WQ _ _ _ _ _ _ _) | refine stq ?_)
  repeat' (first
    | ((with_reducible show WQ _ _ _ _ _ _ _); refine stp ?_)
    | ((conv => whnf); first | (with_reducible show WQ _ _ _ _ _ _ _) | refine stq ?_)
    | fail)
  exact q.f) : P := h q
theorem rund {P Q : Prop} (q : Left Q) (h : Left Q → P := by
  intro q
  first
   | ((with_reducible show WQ _ _ _ _ _ _ _); refine stpd ?_)
   | ((fail_if_success (with_reducible show WQ _ _ _ _ _ _ _)); (conv => whnf); first | (with_reducible show WQ _ _ _ _ _ _ _) | refine stq ?_)
  repeat' (first
    | ((with_reducible show WQ _ _ _ _ _ _ _); refine stpd ?_)
    | ((fail_if_success (with_reducible show WQ _ _ _ _ _ _ _)); (conv => whnf); first | (with_reducible show WQ _ _ _ _ _ _ _) | refine stq ?_)
    | fail)
  exact q.f) : P := h q
end Go.Vm
namespace Go.Vm
section
variable {pg : Pg}
def retQ (res : List VRes) (R : List V → Hp → Prop) : Ex → Kn → Env → Hp → Prop := fun x _ e H => match x with
  | .exit _ => False
  | .nrm => ∃ vs, resVs e H res = some vs ∧ R vs H
  | .ret => ∃ vs, resVs e H res = some vs ∧ R vs H
theorem evF_wqK {f : Nat} {vf : VFn} (ht : pg.tbl f = some (.code vf)) {a : List V} (hn : a.length = vf.np) (hk : vf.keep = true) {r : V} {H H2 : Hp} (h : enterK 0 a fun e => WQ pg H.length vf.body [] e H (retQ vf.res fun vs H' => oneOf vs = r ∧ H' = H2)) : evF pg f a H = some (r, H2) := by
  rw [enterK_eq] at h
  obtain ⟨x, kn, e, H', h1, _, h2⟩ := h.imp (KnOk.nil _)
  rw [evF_on ht hn (by rw [hk, Bool.not_true, Bool.and_false]), enterE_eq, h1]
  cases x with
  | exit i => cases h2
  | nrm =>
   obtain ⟨vs, h3, h4, h5⟩ := h2
   subst h5
   simp only [leaveE, leave, h3, hk, if_true, h4]
  | ret =>
   obtain ⟨vs, h3, h4, h5⟩ := h2
   subst h5
   simp only [leaveE, leave, h3, hk, if_true, h4]
theorem evF_wqOnE {f : Nat} {vf : VFn} (ht : pg.tbl f = some (.code vf)) {a : List V} (hn : a.length = vf.np) (hk : vf.keep = false) (hu : undL 0 a = false) {H : Hp} {Q : V → Hp → Prop} (h : enterK 0 a fun e => WQ pg H.length vf.body [] e H (retK vf.res H.length fun v H' => Q v (H'.take H.length))) : ∃ r H2, evF pg f a H = some (r, H2) ∧ Q r H2 := by
  rw [enterK_eq] at h
  obtain ⟨x, kn, e, H', h1, _, h2⟩ := h.imp (KnOk.nil _)
  obtain ⟨r', h3, h4⟩ := retK_imp (b := H.length) h2
  exact ⟨r', _, by rw [evF_on ht hn (by rw [hu]; rfl), enterE_eq, h1, hk, h3], h4⟩
end
end Go.Vm
namespace Go.Vm
open Go.RowKit
section
variable {P : Program} {cx : Cx} {g : Gh} {H : Hp} {w : World}
theorem chunk {pg : Pg} (hT : TblOk P pg) (hmx : P.follows .mixedOrders = true) {A : Ann} {N : Nat} {c : Code} {v : VCode} (ht : tr P A c = some v) (hN : v.okN N = true) {e : Env} {b : Nat} {a : Act} (ok : StOk pg.toCx N g ⟨e, H, b⟩ a w) {R : Ex → Env → Hp → Prop} (h : WQ pg b v [] e H fun x _ e' H' => R x e' H')
    {Q : Exit → Act → World → Prop} (hq : ∀ x e' H' g' a' w', R x e' H' → StOk pg.toCx N g' ⟨e', H', b⟩ a' w' → Ext b g H w g' H' w' → Q x.out a' w') : c.wp P Q a w := by
  obtain ⟨x, kn, e', H', h1, _, h2⟩ := h.imp (KnOk.nil _)
  exact ev_code_sound hT hmx c v ht hN h1 ok fun g' a' w' ok' ext' => hq x e' H' g' a' w' h2 ok' ext'
theorem take_at {ops : Array Oper} {i m k : Nat} (h : k < ((ops.toList.drop i).take m).length) : ops[i + k]? = ((ops.toList.drop i).take m)[k]? := by
 simp only [List.length_take, List.length_drop] at h
 rw [List.getElem?_take_of_lt (by omega), List.getElem?_drop, Array.getElem?_toList]
theorem StOk.low {N : Nat} {s : St} {a : Act} {b : Nat} (ok : StOk cx N g s a w) (hb : b ≤ s.h.length) : StOk cx N g ⟨s.e, s.h, b⟩ a w := ⟨ok.inv, ok.env, ok.defers, hb⟩
theorem StOk.forget {N : Nat} {e : Env} {H : Hp} {b : Nat} {a : Act} (ok : StOk cx N g ⟨e, H, b⟩ a w) (ks : List Nat) : StOk cx N g ⟨keepE ks e, H, b⟩ a w := (ok.keep ks).low ok.base
theorem wp_app {orc : Orc} (hS : SOrc P cx orc) {N id : Nat} {ops : Array Oper} {m m2 : Nat} (hsz : ops.size = m + 1 + m2) {vs1 vs2 : List VOper} (ht1 : trOpers P ops ((ops.toList.drop 0).take m) = some vs1) (ht2 : trOpers P ops ((ops.toList.drop (m + 1)).take m2) = some vs2) (ok1 : vs1.all (VOper.okN N) = true) (ok2 : vs2.all (VOper.okN N) = true)
 {p q d : Nat} {t el : TypeId} (hop : (ops[m]?).map (fun o => (o.op, o.dst, o.guard)) = some (.call { callee := .builtin .append, args := #[.tmp p, .tmp q], argTypes := #[t, t] }, some d, none)) (hd : d < N) (htt : P.underlying t = some (.slice el)) {i : TypeInfo} (hi : P.info? el = some i) {z : Value} (hz : i.zero = some z) (hzs : z.cells.size = i.size)
 {s s1 : St} {a : Act} (ok : StOk cx N g s a w) (e1 : evOps cx orc vs1 s = some s1) {xv : Value} (hx : getE s1.e p = .raw xv) (hpN : p < N) {w0 : World} {g0 : Gh} {H0 : Hp} {k : Nat} {us : List Value} (hl : Loose cx g w w0.heap.size i.size xv k us) (E0 : Ext s.b g0 H0 w0 g s.h w)
 {m3 : Nat} {vs : List Value} (hy : ∀ g' a' w', StOk cx N g' s1 a' w' → Ext s.b g s.h w g' s1.h w' → Stand w' i.size (a'.tmps.getD q Go.undef) m3 vs) (hone : ∀ u ∈ vs, u.oneCell' = true) (hroom : roomy (k + m3) i.bytes)
 {s2 : Value → St} (e2 : ∀ xv', evOps cx orc vs2 ⟨putE (some d) (.raw xv') s1.e, s1.h, s1.b⟩ = some (s2 xv'))
 {Q : Exit → Act → World → Prop} (hq : ∀ xv' g' a' w', StOk cx N g' (s2 xv') a' w' → Loose cx g' w' w0.heap.size i.size xv' (k + m3) (us ++ vs) → Ext s.b g0 H0 w0 g' (s2 xv').h w' → Q .normal a' w') : (Code.region id ops false).wp P Q a w := by
 have hb1 := evOps_b e1
 apply wp_region
 have hr : List.range ops.size = List.range' 0 ((ops.toList.drop 0).take m).length ++ (m :: (List.range' (m + 1) ((ops.toList.drop (m + 1)).take m2).length ++ [])) := by
  have l1 : ((ops.toList.drop 0).take m).length = m := by simp; omega
  have l2 : ((ops.toList.drop (m + 1)).take m2).length = m2 := by simp; omega
  rw [l1, l2, hsz, List.range_eq_range', List.append_nil, Nat.add_assoc, List.range'_append_1.symm, Nat.zero_add, Nat.add_comm 1 m2, List.range'_succ]
 rw [hr]
 refine ops_pre hS _ 0 _ (fun k hk => take_at hk) ht1 ok1 e1 ok fun g' a' w' ok' ext' => ?_
 rw [wpOps_cons]
 have hl' := hl.ext ext'
 have E1 := E0.trans ext' (Nat.le_refl _)
 have hxv : a'.tmps.getD p Go.undef = xv := by
  have := (ok'.env.2 p hpN).1
  rw [hx] at this
  simpa only [Rep] using this
 obtain ⟨o, ho, he⟩ := Option.map_eq_some_iff.1 hop
 simp only [Prod.mk.injEq] at he
 obtain ⟨q1, q2, q3⟩ := he
 obtain ⟨x2, w2, hrun, hl2, hI2, h5, h6, h7, h8, h9⟩ := loose_app (P := P) (t := t) (ty := o.type) ok'.inv htt hi hz hzs hl' E1.size (hy g' a' w' ok' ext') hone hroom
 have hex : (execOp a'.eval o).run P w' = .ok (.value x2) w2 := by
  have : (execOp a'.eval o).run P w' = ((Builtin.append_ #[t, t] o.type #[a'.eval (.tmp p), a'.eval (.tmp q)]).run P w').andThen (fun v w' => .ok (.value v) w') := by
    simp [execOp, q1, resolve, invoke, builtin]
  rw [this, eval_tmp, eval_tmp, hxv, hrun]; rfl
 unfold wpOp
 simp only [ho]
 rw [if_pos (by simp [Region.wanted, q3])]
 refine .inl ?_
 unfold Oper.wp
 rw [hex, Oper.upon_value, q2]
 have E2 : Ext s.b g0 H0 w0 g' s1.h w2 := E1.untr h5 h6 h7 h8 fun b hb => h9 b hb
 have ok2' : StOk cx N g' ⟨putE (some d) (.raw x2) s1.e, s1.h, s1.b⟩ (a'.put (some d) x2) w2 := by
  refine ⟨hI2, ?_, by rw [put_defers]; exact ok'.defers, ok'.base⟩
  rw [put_tmps]
  exact ok'.env.put (fun k hk => by cases hk; exact hd) (by simp only [Rep]) rfl
 refine ops_pre hS _ (m + 1) _ (fun k hk => take_at hk) ht2 ok2 (e2 x2) ok2' fun g3 a3 w3 ok3 ext3 => ?_
 show Q .normal a3 w3
 refine hq x2 g3 a3 w3 ok3 (hl2.ext ext3) (E2.trans ext3 ?_)
 show s.b ≤ s1.b
 omega
end
end Go.Vm
namespace Go.Vm
def cL : Code → Code | .seq a _ => a | c => c
def cR : Code → Code | .seq _ b => b | c => c
def cA : Code → Code | .cond _ a _ => a | c => c
def cE : Code → Code | .cond _ _ b => b | c => c
def cK : Code → Code | .block _ b => b | .loop b => b | c => c
def vL : VCode → VCode | .seq a _ => a | c => c
def vR : VCode → VCode | .seq _ b => b | c => c
def vA : VCode → VCode | .cond _ a _ => a | c => c
def vK : VCode → VCode | .block _ b => b | .loop _ b => b | c => c
def cOps : Code → Array Oper | .region _ ops _ => ops | _ => #[]
def cId : Code → Nat | .region id _ _ => id | .block id _ => id | _ => 0
section
variable {P : Program} {cx : Cx} {g : Gh} {H : Hp} {w : World}
theorem tblNone (P : Program) (cx : Cx) : TblOk P ⟨cx, fun _ => none⟩ := fun _ _ h => nomatch h
theorem op_put {N : Nat} {ops : Array Oper} {i : Nat} {op : Op} {d : Nat} (h : (ops[i]?).map (fun o => (o.op, o.dst, o.guard)) = some (op, some d, none)) {s : St} {a : Act} (ok : StOk cx N g s a w) {x : Value} {v : V} (hrun : ∀ o : Oper, o.op = op → (execOp a.eval o).run P w = .ok (.value x) w) (hd : d < N) (hr : Rep g s.h v x) (hu : v.und s.h.length = true)
    {Q : Exit → Act → World → Prop} {rest : List Nat} (hk : StOk cx N g ⟨putE (some d) v s.e, s.h, s.b⟩ (a.put (some d) x) w → Go.wpOps P ops Q rest (a.put (some d) x) w) : Go.wpOps P ops Q (i :: rest) a w := by
  rw [Go.wpOps_cons]
  exact op_step h hrun (hk (ok.put (fun k hk => by cases hk; exact hd) ok.inv hr hu (Ext.refl ..)))
theorem run_nilsl {a : Act} {t e u : TypeId} {p : Nat} {o : Oper} (ht : P.underlying t = some (.slice e)) {ad : Option Addr} {l c : Nat} (hv : a.tmps.getD p Go.undef = .slice ad l c) (ho : o.op = .binOp .eql t (.tmp p) (.const (.slice none 0 0)) u) : (execOp a.eval o).run P w = .ok (.value (.bool ad.isNone)) w := by
 have h1 : a.eval (.tmp p) = .slice ad l c := hv
 simp only [execOp, ho, h1]
 simp [Act.eval, binOp, eqGuard, run_equal_slice_nil w t e ad l c ht]
theorem op_callE {f : Nat} {fn : Func} (hf : P.funcs[f]? = some fn) (hb : fn.body.isNone = false) (hn : (fn.name == "runtime.NumGoroutine") = false) {ops : Array Oper} {i : Nat} {ar : Array Operand} {at' : Array TypeId} {d : Nat} (h : (ops[i]?).map (fun o => (o.op, o.dst, o.guard)) = some (.call { callee := .value (.func f), args := ar, argTypes := at' }, some d, none)) {a : Act} {R : Ending → World → Prop} (hc : Calls P f (ar.map a.eval) w R)
    {Q : Exit → Act → World → Prop} {rest : List Nat} (hk : ∀ e w', R e w' → ∃ x, e = .returned x ∧ Go.wpOps P ops Q rest (a.put (some d) x) w') : Go.wpOps P ops Q (i :: rest) a w := by
  rw [Go.wpOps_cons]
  obtain ⟨o, ho, he⟩ := Option.map_eq_some_iff.1 h
  simp only [Prod.mk.injEq] at he
  obtain ⟨e1, e2, e3⟩ := he
  have hrun : (execOp a.eval o).run P w = .ok (.enter f (ar.map a.eval)) w := by
   have : (execOp a.eval o).run P w = (callFunc f (ar.map a.eval)).run P w := by
    simp [execOp, e1, resolve, Act.eval, Deferred.ofValue, invoke]
   rw [this, run_callFunc hf hb hn]
  unfold wpOp
  simp only [ho]
  rw [if_pos (by simp [Region.wanted, e3])]
  refine .inl ?_
  unfold Oper.wp
  rw [hrun, Oper.upon_enter]
  refine hc.mono fun e w' he => ?_
  obtain ⟨x, rfl, hx⟩ := hk e w' he
  rw [e2]
  exact hx
theorem run_lenR {a : Act} {t e : TypeId} {p : Nat} {o : Oper} (ht : P.underlying t = some (.slice e)) {ad : Option Addr} {l c : Nat} (hv : a.tmps.getD p Go.undef = .slice ad l c) (ho : o.op = .call { callee := .builtin .len, args := #[.tmp p], argTypes := #[t] }) : (execOp a.eval o).run P w = .ok (.value (.int .i64 l)) w := by
 have h1 : a.eval (.tmp p) = .slice ad l c := hv
 simp [execOp, ho, resolve, invoke, builtin, h1, Builtin.len_, run_underlying ht, goInt]
theorem run_iadrR {a : Act} {t e : TypeId} {p q : Nat} {o : Oper} (ht : P.underlying t = some (.slice e)) (hsz : sizeT P e = some 1) {b l c n : Nat} {k : IntKind} (hv : a.tmps.getD p Go.undef = .slice (some ⟨b, 0, none⟩) l c) (hn : a.tmps.getD q Go.undef = .int k (n : Int)) (hl : n < l) (ho : o.op = .indexAddr t (.tmp p) (.tmp q)) : (execOp a.eval o).run P w = .ok (.value (.pointer (some ⟨b, n, none⟩))) w := by
 have h1 : a.eval (.tmp p) = .slice (some ⟨b, 0, none⟩) l c := hv
 have h2 : a.eval (.tmp q) = .int k (n : Int) := hn
 simp only [execOp, ho, h1, h2]
 refine run_v ?_
 simp [Instr.indexAt, asIntOf, run_underlying ht, run_sizeOf hsz, Addr.add_lit]
 omega
theorem run_slcR {a : Act} {t e : TypeId} {p q : Nat} {o : Oper} (ht : P.underlying t = some (.slice e)) (hsz : sizeT P e = some 1) {ad : Option Addr} {l c n : Nat} {k : IntKind} (hv : a.tmps.getD p Go.undef = .slice ad l c) (hn : a.tmps.getD q Go.undef = .int k (n : Int)) (hl : n ≤ c) (ho : o.op = .slice t (.tmp p) none (some (.tmp q)) none) : (execOp a.eval o).run P w = .ok (.value (.slice (if c = 0 then ad else ad.map (·.add 0)) n c)) w := by
 have h1 : a.eval (.tmp p) = .slice ad l c := hv
 have h2 : a.eval (.tmp q) = .int k (n : Int) := hn
 simp only [execOp, ho, h1]
 refine run_v ?_
 simp [Instr.sliceAt, run_underlying ht, Instr.slice, Instr.sliceBounds, run_sizeOf hsz, h2, run_bound hl]
theorem run_ldR {a : Act} {t : TypeId} {p : Nat} {o : Oper} (hs : shapeT P t = some none) {b n : Nat} {cur : Array Value} {e : TypeId} {fz : Nat × Nat} {y : Value} (hv : a.tmps.getD p Go.undef = .pointer (some ⟨b, n, none⟩)) (hc : w.heap[b]? = some (.cells cur e fz)) (hy : cur[n]? = some y) (ho : o.op = .load t (.tmp p)) : (execOp a.eval o).run P w = .ok (.value y) w := by
 have h1 : a.eval (.tmp p) = .pointer (some ⟨b, n, none⟩) := hv
 have hcell : w.cell? ⟨b, n, none⟩ = some y := by rw [cell_of_row w b n cur e fz hc]; simpa using hy
 rcases shape_parts hs with ⟨_, ha, _⟩ | ⟨k, hk, _⟩
 ·have h2 : (loadVar t ⟨b, n, none⟩).run P w = .ok y w := by simp [loadVar, ha, hcell]
  simp only [execOp, ho, h1]
  exact run_v (by simp [Instr.loadAt, Instr.sureAddr, h2])
 ·cases hk
theorem Loose.get {n k : Nat} {x : Value} {us : List Value} (h : Loose cx g w n 1 x k us) {i : Nat} {y : Value} (hy : us[i]? = some y) : ∃ b cap cur e, x = .slice (some ⟨b, 0, none⟩) k cap ∧ w.heap[b]? = some (.cells cur e (0, 0)) ∧ cur[i]? = some y := by
 cases h with
 | nil => simp at hy
 | «at» b cap cur e k us h1 h2 hk0 h3 h4 h5 h6 h7 h8 h9 =>
  refine ⟨b, cap, cur, e, rfl, h1, ?_⟩
  have := prefix_getElem h2 hy
  simpa using this
theorem Loose.older {n m sz k : Nat} {x : Value} {us : List Value} (h : Loose cx g w n sz x k us) (hm : m ≤ n) : Loose cx g w m sz x k us := by
 cases h with
 | nil => exact .nil
 | «at» b cap cur e k us h1 h2 hk0 h3 h4 h5 h6 h7 h8 h9 => exact .at b cap cur e k us h1 h2 hk0 h3 h4 h5 h6 h7 h8 (Nat.le_trans hm h9)
theorem Loose.pop {n k : Nat} {ad : Option Addr} {c : Nat} {us : List Value} (h : Loose cx g w n 1 (.slice ad k c) k us) {m : Nat} (hm : m ≤ k) : m ≤ c ∧ Loose cx g w n 1 (.slice (if c = 0 then ad else ad.map (·.add 0)) m c) m (us.take m) := by
 cases h with
 | nil =>
  obtain rfl : m = 0 := by omega
  exact ⟨Nat.le_refl _, .nil⟩
 | «at» b cap cur e k us h1 h2 hk0 h3 h4 h5 h6 h7 h8 h9 =>
  have e0 : (if c = 0 then some (⟨b, 0, none⟩ : Addr) else (some (⟨b, 0, none⟩ : Addr)).map (·.add 0)) = some ⟨b, 0, none⟩ := by
   split <;> simp [Addr.add_lit]
  rw [e0]
  refine ⟨by omega, .at b c cur e m _ h1 ((List.take_prefix _ _).trans h2) ?_ (by omega) h4 h5 h6 h7 h8 h9⟩
  rw [List.length_take]; omega
def vO : VCode → List VOper | .reg l => l | _ => []
def strV (s : List UInt8) : Value := .string ⟨s.toArray⟩
theorem StOk.toRaw {N : Nat} {s : St} {a : Act} (ok : StOk cx N g s a w) {i : Nat} (hi : i < N) (hv : getE s.e i = .nils) : StOk cx N g ⟨putE (some i) (.raw (.slice none 0 0)) s.e, s.h, s.b⟩ a w := by
 refine ⟨ok.inv, ⟨ok.env.1, fun k hk => ?_⟩, ok.defers, ok.base⟩
 show Rep g s.h (getE ((i, .raw (.slice none 0 0)) :: s.e) k) _ ∧ (getE ((i, .raw (.slice none 0 0)) :: s.e) k).und s.h.length = true
 by_cases e : i = k
 ·subst e
  rw [getE_hit]
  have := (ok.env.2 i hi).1
  rw [hv] at this
  exact ⟨by simpa only [Rep] using this, rfl⟩
 ·rw [getE_miss e]; exact ok.env.2 k hk
theorem stand_str {N : Nat} {s : St} {a : Act} (ok : StOk cx N g s a w) {i : Nat} (hi : i < N) {t : List UInt8} (hv : getE s.e i = .d (.sl [.str t])) : Stand w 1 (a.tmps.getD i Go.undef) 1 [strV t] := by
 have r := (ok.env.2 i hi).1
 rw [hv] at r
 obtain ⟨vs, h1, h2⟩ := stand_data ok.inv r (sz := 1) rfl
 simp only [RepEl] at h2
 obtain ⟨v1, v2, rfl, _, h3, rfl⟩ := h2
 simp only [RepCs] at h3
 subst h3
 exact h1
theorem Ext.cut2 {nb n : Nat} {g' : Gh} {H' : Hp} {w' : World} (h : Ext nb g H w g' H' w') (hn : H.length ≤ n) (hn2 : n ≤ H'.length) (hnb : nb ≤ n) : Ext nb g H w (g'.cut n) (H'.take n) w' := by
 have hlen := h.len
 have hget : ∀ i, i < n → (H'.take n)[i]? = H'[i]? := fun i hi => by rw [List.getElem?_take, if_pos hi]
 refine ⟨h.os, h.tape, h.output, h.size, h.frame, ⟨h.keep.C, fun i o hi ho hr => ?_, fun i sz l hi ho => ?_⟩, fun i b c hj hb => h.jnew i b c (cut_some hj).2 hb, fun m hm hc i c hi ho => ?_, by rw [List.length_take]; omega⟩
 ·obtain ⟨h1, o', h2, h3⟩ := h.keep.obj i o hi ho hr
  exact ⟨by rw [cut_lt (by omega)]; exact h1, o', by rw [hget i (by omega)]; exact h2, h3⟩
 ·obtain ⟨l', h1, h2, h3⟩ := h.keep.row i sz l hi ho
  exact ⟨l', by rw [hget i (by omega)]; exact h1, h2, fun he => by rw [cut_lt (by omega)]; exact h3 he⟩
 ·rw [hget i (by omega)] at ho
  exact h.clean m hm hc i c hi ho
theorem StOk.drop {N n : Nat} (ks : List Nat) {s1 : St} {g1 : Gh} {a1 : Act} {w1 : World} (hlen : n ≤ s1.h.length) (hc : Clean n s1.h) (hb0 : s1.b ≤ n) (ok : StOk cx N g1 s1 a1 w1) :
 StOk cx N (g1.cut n) ⟨cut n (keepE ks s1.e), s1.h.take n, s1.b⟩ a1 w1 := by
 refine ⟨ok.inv.restrict hlen hc, ⟨ok.env.1, fun k hk => ?_⟩, ok.defers, ?_⟩
 ·rw [getE_cut]
  split
  ·rename_i hu
   rw [getE_keepE] at hu ⊢
   by_cases hks : k ∈ ks
   ·rw [if_pos hks] at hu ⊢
    refine ⟨Rep_keep (keepW_cut g1 s1.h n) _ _ hu (ok.env.2 k hk).1, ?_⟩
    show V.und (s1.h.take n).length _ = true
    rw [List.length_take, Nat.min_eq_left hlen]
    exact hu
   ·rw [if_neg hks]
    exact ⟨by simp [Rep], rfl⟩
  ·exact ⟨by simp [Rep], rfl⟩
 ·show s1.b ≤ (s1.h.take n).length
  rw [List.length_take, Nat.min_eq_left hlen]
  exact hb0
theorem ops_mid {orc : Orc} (hS : SOrc P cx orc) {N : Nat} {ops : Array Oper} {i m : Nat} {vs : List VOper} (ht : trOpers P ops ((ops.toList.drop i).take m) = some vs) (hok : vs.all (VOper.okN N) = true) (hsz : i + m ≤ ops.size) {s s' : St} (h : evOps cx orc vs s = some s') {a : Act} (ok : StOk cx N g s a w) {Q : Exit → Act → World → Prop} {rest : List Nat}
 (hq : ∀ g' a' w', StOk cx N g' s' a' w' → Ext s.b g s.h w g' s'.h w' → Go.wpOps P ops Q rest a' w') : Go.wpOps P ops Q (List.range' i m ++ rest) a w := by
 have hl : ((ops.toList.drop i).take m).length = m := by simp; omega
 have := ops_pre hS ((ops.toList.drop i).take m) i vs (fun k hk => take_at hk) ht hok h ok (rest := rest) (Q := Q) hq
 rw [hl] at this
 exact this
theorem valR {N : Nat} {s : St} {a : Act} (ok : StOk cx N g s a w) {i : Nat} (hi : i < N) {x : Value} (hv : getE s.e i = .raw x) : a.tmps.getD i Go.undef = x := by
 have := (ok.env.2 i hi).1
 rw [hv] at this
 simpa only [Rep] using this
theorem valI {N : Nat} {s : St} {a : Act} (ok : StOk cx N g s a w) {i : Nat} (hi : i < N) {n : Int} (hv : getE s.e i = .d (.int .i64 n)) : a.tmps.getD i Go.undef = .int .i64 n := by
 have := (ok.env.2 i hi).1
 rw [hv] at this
 simp only [Rep, RepD, RepCs, List.cons.injEq, and_true] at this
 exact this
theorem repOf {N : Nat} {s : St} {a : Act} (ok : StOk cx N g s a w) {i : Nat} (hi : i < N) {v : V} (hv : getE s.e i = v) : Rep g s.h v (a.tmps.getD i Go.undef) := by
 have := (ok.env.2 i hi).1
 rw [hv] at this
 exact this
theorem cond_val {N : Nat} {s : St} {a : Act} (ok : StOk cx N g s a w) {i : Nat} (hi : i < N) {b : Bool} (hv : getE s.e i = .d (.bool b)) : a.eval (.tmp i) = .bool b := by
 have := (ok.env.2 i hi).1
 rw [hv] at this
 simp only [Rep, RepD, RepCs, List.cons.injEq, and_true] at this
 exact this
end
end Go.Vm
namespace Go.Vm.Ite
open Go Go.Vm Go.Proofs
set_option maxRecDepth 100000
def Q43 : Laid Tryz.prog (AA [] []) false Tryz.f43 := laid
abbrev B43 : VCode := Q43.F.body
def A16 : Ann := AA [(6, [1, 3, 4, 33, 34, 35]), (13, [1, 3, 4, 64, 65, 66]), (21, [1, 3, 4, 9, 102]), (26, [1, 3, 9, 112])] []
abbrev B16 : VCode := Q16.F.body
abbrev B55 : VCode := Q55.F.body
abbrev B95 : VCode := Q95.F.body
noncomputable def c50 : Code := (Tryz.f43.body).getD .skip
theorem b50 : Tryz.f43.body = some c50 := by kernel_rfl
noncomputable def y50 : Code := cR c50
noncomputable def q50 : Code := cL (cL y50)
theorem s50 : c50 = .seq (cL c50) (.seq (.seq (.region (cId q50) (cOps q50) false) (.cond (.tmp 4) (cA (cR (cL y50))) .skip)) (cR y50)) := by kernel_rfl
def n50 : Ann := ⟨fun _ => [], fun _ => []⟩
theorem t50a : tr Tryz.prog n50 (cL c50) = some (vL B43) := by kernel_rfl
theorem t50b : tr Tryz.prog n50 (cA (cR (cL y50))) = some (vA (vR (vL (vR B43)))) := by kernel_rfl
theorem t50c : tr Tryz.prog n50 (cR y50) = some (vR (vR B43)) := by kernel_rfl
theorem z50 : (cOps q50).size = 2 := by kernel_rfl
theorem o50a : ((cOps q50)[0]?).map (fun o => (o.op, o.dst, o.guard)) = some (.move (.tmp 0), some 3, none) := by kernel_rfl
theorem o50b : ((cOps q50)[1]?).map (fun o => (o.op, o.dst, o.guard)) = some (.binOp .eql 44 (.tmp 3) (.const (.slice none 0 0)) 44, some 4, none) := by kernel_rfl
theorem u50 : Tryz.prog.underlying 44 = some (.slice 62) := by kernel_rfl
theorem r50 : trRes Tryz.prog Tryz.f43.results.toList = some [.tmp 2] := by kernel_rfl
theorem f50 : Tryz.prog.funcs[43]? = some Tryz.f43 := by kernel_rfl
theorem mixed : Tryz.prog.follows .mixedOrders = true := by kernel_rfl
theorem clone_spec (cx : Cx) : ∀ args H r H', primClone args H = some (r, H') → FnSpec Tryz.prog cx 43 args H r H' := by
 intro args H r H' h
 unfold primClone at h
 split at h
 ·rename_i l
  split at h
  ·rename_i hc
   simp only [Option.some.injEq, Prod.mk.injEq] at h
   obtain ⟨rfl, rfl⟩ := h
   obtain ⟨hroom, hall⟩ := hc
   refine fnspec_bare (N := 8) (rs := [.tmp 2]) f50 b50 (by kernel_rfl) r50 rfl (by kernel_rfl) (Nat.le_of_ble_eq_true rfl) rfl rfl ?_ H
   intro g w a ok
   have hT := tblNone Tryz.prog cx
   rw [s50]
   apply wp_seq
   refine chunk (pg := ⟨cx, fun _ => none⟩) hT mixed t50a (by kernel_rfl) ok (R := fun x e' H' => x = .nrm ∧ e' = [(2, .nils), (0, .d (.sl l))] ∧ H' = []) ?_ ?_
   ·refine run ⟨?_⟩
    exact rfl
   rintro x e' H' g1 a1 w1 ⟨rfl, rfl, rfl⟩ ok1 ext1
   show (Code.seq _ _).wp _ _ _ _
   apply wp_seq
   apply wp_seq
   apply wp_region
   rw [z50, range2]
   have hr0 := (ok1.env.2 0 (by decide)).1
   refine op_put o50a ok1 (v := .d (.sl l)) (fun o ho => run_mv ho) (by decide) hr0 rfl fun ok2 => ?_
   have hr3 := (ok2.env.2 3 (by decide)).1
   obtain ⟨ad, cap, hx, hcap, hlz⟩ := sl_parts hr3
   refine op_put o50b ok2 (v := .d (.bool ad.isNone)) (fun o ho => run_nilsl u50 hx ho) (by decide) (bool_rep _) rfl fun ok3 => ?_
   show (Code.cond _ _ _).wp _ _ _ _
   have hc := cond_val ok3 (i := 4) (b := ad.isNone) (by decide) rfl
   refine Go.wp_cond_split hc (fun hn => ?_) (fun hn => ?_)
   ·have hl : l = [] := by
     rcases hlz with h | ⟨b, off, sz, us, h, _⟩
     ·exact h
     ·rw [h] at hn; cases hn
    refine chunk (pg := ⟨cx, fun _ => none⟩) hT mixed t50b (by kernel_rfl) ok3 (R := fun x e' H' => x = .ret ∧ getE e' 2 = .nils ∧ H' = []) ?_ ?_
    ·refine run ⟨?_⟩
     exact rfl
    rintro x e' H' g2 a2 w2 ⟨rfl, he, rfl⟩ ok4 ext4
    refine ⟨.inr rfl, g2, _, [.nils], ok4, ext1.trans ext4 (Nat.le_refl _), ?_, rfl, by rw [hl]; rfl⟩
    simp only [resVs, resV, he]
   ·apply wp_skip
    show Code.wp _ _ _ _ _
    have h3 : (l.all fun y => y.cells.length == 2) = true ∧ 0 < 2 := ⟨hall, by decide⟩
    by_cases hl : l = []
    ·refine chunk (pg := ⟨cx, fun _ => none⟩) hT mixed t50c (by kernel_rfl) ok3 (R := fun x e' H' => x = .ret ∧ getE e' 2 = .nile ∧ H' = []) ?_ ?_
     ·repeat' (first | refine run ⟨?_⟩ | refine And.intro h3 ?_ | refine And.intro (fun _ => ?_) (fun h => absurd hl h) | fail)
      exact rfl
     rintro x e' H' g2 a2 w2 ⟨rfl, he, rfl⟩ ok4 ext4
     refine ⟨.inr rfl, g2, _, [.nile], ok4, ext1.trans ext4 (Nat.le_refl _), ?_, rfl, by rw [hl]; rfl⟩
     simp only [resVs, resV, he]
    ·refine chunk (pg := ⟨cx, fun _ => none⟩) hT mixed t50c (by kernel_rfl) ok3 (R := fun x e' H' => x = .ret ∧ getE e' 2 = .row 0 l.length ∧ H' = [.row 2 l]) ?_ ?_
     ·repeat' (first | refine run ⟨?_⟩ | refine And.intro h3 ?_ | refine And.intro (fun h => absurd h hl) (fun _ => And.intro hroom ?_) | fail)
      exact rfl
     rintro x e' H' g2 a2 w2 ⟨rfl, he, rfl⟩ ok4 ext4
     refine ⟨.inr rfl, g2, _, [.row 0 l.length], ok4, ext1.trans ext4 (Nat.le_refl _), ?_, ?_, ?_⟩
     ·simp only [resVs, resV, he]
     ·show undL 0 [toArg [.row 2 l] (.row 0 l.length)] = true
      simp [toArg, toD, toD1]
     ·show oneOf [toArg [.row 2 l] (.row 0 l.length)] = _
      simp [toArg, toD, toD1]
  ·cases h
 ·cases h
end Go.Vm.Ite

namespace Go.Vm.Ite
open Go.Vm.Lex (isL isD isLD wordB wordsL hd0 speltB nameB)
set_option maxRecDepth 10000
def pgL (fx : Nat → Option Obj) (F : Nat → Option VFun) : Pg := ⟨⟨fun _ => [], fx⟩, tbl F⟩
abbrev F0 : Nat → Option VFun := fun _ => none
theorem mv (fx : Nat → Option Obj) : MoveOk (pgL fx F0) := moveOk _ _ (fun _ _ h => nomatch h)
theorem idx0_of {s : List UInt8} (h : s ≠ []) {k : UInt8 → Prop} (hk : k (hd0 s)) : ∃ c, ((0 : Int) ≤ 0 ∧ s[(0 : Int).toNat]? = some c) ∧ k c := by
 cases s with
 | nil => exact absurd rfl h
 | cons c r => exact ⟨c, ⟨Int.le_refl _, rfl⟩, hk⟩
section
variable {fx : Nat → Option Obj} {F : Nat → Option VFun} (H : Hp)
theorem letter_ev (c : UInt8) : evF (pgL fx F) n_lex_letter [u8 c] H = some (boo (isL c), H) := by
 refine evF_wp (t_lex_letter (F := F)) rfl rfl ?_ H
 repeat' refine And.intro (fun h => ?_) (fun h => ?_)
 all_goals show _ = _
 all_goals simp [oneOf, isL] at *
 all_goals grind
theorem digit_ev (c : UInt8) : evF (pgL fx F) n_lex_digit [u8 c] H = some (boo (isD c), H) := by
 refine evF_wp (t_lex_digit (F := F)) rfl rfl ?_ H
 repeat' refine And.intro (fun h => ?_) (fun h => ?_)
 all_goals show _ = _
 all_goals simp [oneOf, isD] at *
 all_goals omega
theorem word_ev (s : List UInt8) : evF (pgL fx F) n_lex_Word [str s] H = some (boo (wordB s), H) := by
 refine evF_wp (t_lex_Word (F := F)) rfl rfl ?_ H
 repeat' refine And.intro (fun h => ?_) (fun h => ?_)
 all_goals show _ = _
 all_goals simp only [decide_eq_true_eq, decide_eq_false_iff_not] at *
 all_goals simp [oneOf, wordB, wordsL, *]
set_option maxHeartbeats 1000000 in
theorem spelt_ev (s : List UInt8) (hs : s.length ≤ maxLen) : evF (pgL fx F) n_lex_spelt [str s] H = some (boo (speltB s), H) := by
 have hm : s.length ≤ 9223372036854775807 := hs
 refine evF_wp (t_lex_spelt (F := F)) rfl rfl ?_ H
 by_cases h0 : s = []
 ·subst h0
  repeat' (refine And.intro (fun h => ?_) (fun h => ?_) <;> try (exfalso; simp at h; done))
  all_goals rfl
 by_cases h1 : s = [95]
 ·subst h1
  repeat' (refine And.intro (fun h => ?_) (fun h => ?_) <;> try (exfalso; simp at h; done))
  all_goals rfl
 repeat' (first
     | (refine And.intro (fun h => ?_) (fun h => ?_) <;> try (exfalso; simp_all; done))
     | refine idx0_of (by assumption) ?_
     | refine Exists.intro _ (Exists.intro _ (And.intro (letter_ev _ _) ?_))
     | refine Exists.intro _ (Exists.intro _ (And.intro (digit_ev _ _) ?_)))
 all_goals first
   | (show _ = _; simp_all [oneOf, speltB]; done)
   | (show _ = _; obtain ⟨c, r, rfl⟩ := List.exists_cons_of_ne_nil h0; simp_all [oneOf, speltB, isLD, hd0]; done)
   | skip
 refine wp_loop (α := Nat) (fun i => s.length - i) (fun i => [(0, str s), (16, i64 s.length), (17, i64 i)]) (fun _ => []) (fun i => i ≤ s.length ∧ (s.take i).all isLD = true) ?_ 0 ⟨by omega, by simp⟩
 rintro i ⟨hi, hall⟩
 refine And.intro (fun hl => ?_) (fun hl => ?_)
 ·replace hl := of_decide_eq_true hl
  have hlt : i < s.length := by omega
  repeat' (first
      | (refine And.intro (fun h => ?_) (fun h => ?_) <;> try (exfalso; simp_all; done))
      | refine idx_of hlt ?_
      | refine Exists.intro _ (Exists.intro _ (And.intro (letter_ev _ _) ?_))
      | refine Exists.intro _ (Exists.intro _ (And.intro (digit_ev _ _) ?_)))
  all_goals first
    | (show _ = _
       have : s.all isLD = false := by
        cases hb : s.all isLD with
        | false => rfl
        | true =>
         have := List.all_eq_true.1 hb s[i] (List.getElem_mem _)
         simp_all [isLD]
       simp [oneOf, speltB, this]; done)
    | (refine ⟨i + 1, ⟨by omega, all_upto hlt hall (by simp_all [isLD])⟩, by omega, ?_, rfl⟩
       rw [i64w (by omega)]; rfl)
 ·replace hl := of_decide_eq_false hl
  have hi : i = s.length := by omega
  rw [hi, List.take_length] at hall
  show _ = _
  have hd : isD (hd0 s) = false := by
   first | assumption | (have hl : isL (hd0 s) = true := by simp_all
                         simp [isL, isD] at hl ⊢; omega)
  simp [oneOf, speltB, h0, h1, hall, hd]
theorem name_ev (s : List UInt8) (hs : s.length ≤ maxLen) : evF (pgL fx F) n_lex_Name [str s] H = some (boo (nameB s), H) := by
 refine evF_wp (t_lex_Name (F := F)) rfl rfl ?_ H
 repeat' (first
     | (refine And.intro (fun h => ?_) (fun h => ?_))
     | refine Exists.intro _ (Exists.intro _ (And.intro (spelt_ev _ _ hs) ?_))
     | refine Exists.intro _ (Exists.intro _ (And.intro (word_ev _ _) ?_)))
 all_goals show _ = _
 all_goals clear hs
 all_goals have e : ((s.length : Int) ≤ 64) = (s.length ≤ 64) := by simp only [eq_iff_iff]; omega
 all_goals simp only [e] at *
 all_goals clear e
 all_goals simp only [Bool.not_true, Bool.false_eq_true, decide_eq_true_eq, decide_eq_false_iff_not] at *
 all_goals simp [oneOf, nameB, *]
theorem rletter_ev (c : UInt8) : evF (pgL fx F) n_ref11_letter [u8 c] H = some (boo (isL c), H) := by
 refine evF_wp (t_ref11_letter (F := F)) rfl rfl ?_ H
 repeat' refine And.intro (fun h => ?_) (fun h => ?_)
 all_goals show _ = _
 all_goals simp [oneOf, isL] at *
 all_goals grind
theorem rdigit_ev (c : UInt8) : evF (pgL fx F) n_ref11_digit [u8 c] H = some (boo (isD c), H) := by
 refine evF_wp (t_ref11_digit (F := F)) rfl rfl ?_ H
 repeat' refine And.intro (fun h => ?_) (fun h => ?_)
 all_goals show _ = _
 all_goals simp [oneOf, isD] at *
 all_goals grind
theorem rword_ev (s : List UInt8) : evF (pgL fx F) n_ref11_Word [str s] H = some (boo (wordB s), H) := by
 refine evF_wp (t_ref11_Word (F := F)) rfl rfl ?_ H
 refine wp_loop (α := Nat) (fun i => 17 - i) (fun i => [(0, str s), (5, .d (.sl (wordsL.map .str))), (6, i64 17), (7, i64 i)]) (fun _ => []) (fun i => i ≤ 17 ∧ ∀ x ∈ wordsL.take i, s ≠ x) ?_ 0 ⟨by omega, by simp⟩
 rintro i ⟨hi, hall⟩
 refine And.intro (fun h => ?_) (fun h => ?_)
 ·replace h := of_decide_eq_true h
  have hlt : i < wordsL.length := by show i < 17; omega
  have hlt' : i < (wordsL.map D.str).length := by rw [List.length_map]; exact hlt
  refine idx_of hlt' ?_
  rw [List.getElem_map]
  refine And.intro rfl ?_
  refine And.intro (fun h => ?_) (fun h => ?_)
  ·replace h := of_decide_eq_true h
   show _ = _
   have : s ∈ wordsL := by rw [h]; exact List.getElem_mem _
   simp [oneOf, wordB, this]
  ·replace h := of_decide_eq_false h
   refine ⟨i + 1, ⟨by omega, ?_⟩, by omega, ?_, rfl⟩
   ·intro x hx
    rw [List.take_add_one, List.mem_append] at hx
    rcases hx with hx | hx
    ·exact hall x hx
    ·rw [List.getElem?_eq_getElem hlt] at hx
     simp only [Option.toList_some, List.mem_singleton] at hx
     rw [hx]; exact h
   ·rw [i64w (by omega)]; rfl
 ·replace h := of_decide_eq_false h
  have : i = 17 := by omega
  subst this
  show _ = _
  have : ¬ s ∈ wordsL := fun h => hall s (by rw [show wordsL.take 17 = wordsL from rfl]; exact h) rfl
  simp [oneOf, wordB, this]
set_option maxHeartbeats 1000000 in
theorem rspelt_ev (s : List UInt8) (hs : s.length ≤ maxLen) : evF (pgL fx F) n_ref11_spelt [str s] H = some (boo (speltB s), H) := by
 have hm : s.length ≤ 9223372036854775807 := hs
 refine evF_wp (t_ref11_spelt (F := F)) rfl rfl ?_ H
 by_cases h0 : s = []
 ·subst h0
  repeat' (refine And.intro (fun h => ?_) (fun h => ?_) <;> try (exfalso; simp at h; done))
  all_goals rfl
 by_cases h1 : s = [95]
 ·subst h1
  repeat' (refine And.intro (fun h => ?_) (fun h => ?_) <;> try (exfalso; simp at h; done))
  all_goals rfl
 repeat' (first
     | (refine And.intro (fun h => ?_) (fun h => ?_) <;> try (exfalso; simp_all; done))
     | refine idx0_of (by assumption) ?_
     | refine Exists.intro _ (Exists.intro _ (And.intro (rletter_ev _ _) ?_))
     | refine Exists.intro _ (Exists.intro _ (And.intro (rdigit_ev _ _) ?_)))
 all_goals first
   | (show _ = _; simp_all [oneOf, speltB]; done)
   | (show _ = _; obtain ⟨c, r, rfl⟩ := List.exists_cons_of_ne_nil h0; simp_all [oneOf, speltB, isLD, hd0]; done)
   | skip
 refine wp_loop (α := Nat) (fun i => s.length - i) (fun i => [(0, str s), (3, i64 i)]) (fun _ => []) (fun i => i ≤ s.length ∧ (s.take i).all isLD = true) ?_ 0 ⟨by omega, by simp⟩
 rintro i ⟨hi, hall⟩
 refine And.intro (fun hl => ?_) (fun hl => ?_)
 ·replace hl := of_decide_eq_true hl
  have hlt : i < s.length := by omega
  repeat' (first
      | (refine And.intro (fun h => ?_) (fun h => ?_) <;> try (exfalso; simp_all; done))
      | refine idx_of hlt ?_
      | refine Exists.intro _ (Exists.intro _ (And.intro (rletter_ev _ _) ?_))
      | refine Exists.intro _ (Exists.intro _ (And.intro (rdigit_ev _ _) ?_)))
  all_goals first
    | (show _ = _
       have : s.all isLD = false := by
        cases hb : s.all isLD with
        | false => rfl
        | true =>
         have := List.all_eq_true.1 hb s[i] (List.getElem_mem _)
         simp_all [isLD]
       simp [oneOf, speltB, this]; done)
    | (refine ⟨i + 1, ⟨by omega, all_upto hlt hall (by simp_all [isLD])⟩, by omega, ?_, rfl⟩
       rw [i64w (by omega)]; rfl)
 ·replace hl := of_decide_eq_false hl
  have hi : i = s.length := by omega
  rw [hi, List.take_length] at hall
  show _ = _
  have hd : isD (hd0 s) = false := by
   first | assumption | (have hl : isL (hd0 s) = true := by simp_all
                         simp [isL, isD] at hl ⊢; omega)
  simp [oneOf, speltB, h0, h1, hall, hd]
theorem rname_ev (s : List UInt8) (hs : s.length ≤ maxLen) : evF (pgL fx F) n_ref11_Name [str s] H = some (boo (nameB s), H) := by
 refine evF_wp (t_ref11_Name (F := F)) rfl rfl ?_ H
 repeat' (first
     | (refine And.intro (fun h => ?_) (fun h => ?_))
     | refine Exists.intro _ (Exists.intro _ (And.intro (rspelt_ev _ _ hs) ?_))
     | refine Exists.intro _ (Exists.intro _ (And.intro (rword_ev _ _) ?_)))
 all_goals show _ = _
 all_goals clear hs
 all_goals have e : ((s.length : Int) ≤ 64) = (s.length ≤ 64) := by simp only [eq_iff_iff]; omega
 all_goals simp only [e] at *
 all_goals clear e
 all_goals simp only [Bool.not_true, Bool.false_eq_true, decide_eq_true_eq, decide_eq_false_iff_not] at *
 all_goals simp [oneOf, nameB, *]
end
end Go.Vm.Ite
namespace Go.Vm
theorem fnAt_tbl {cx : Cx} {t t' : Nat → Option VFun} (h : ∀ f e, t f = some e → t' f = some e) : ∀ n, OLe (fnAt ⟨cx, t⟩ n) (fnAt ⟨cx, t'⟩ n) ∧ LLe (lpAt ⟨cx, t⟩ n) (lpAt ⟨cx, t'⟩ n)
 | 0 => ⟨fun _ _ _ _ h => (nomatch ((fnAt_zero _ _ _ _).symm.trans h)), fun _ _ _ _ h => (nomatch ((lpAt_zero _ _ _ _).symm.trans h))⟩
 | n + 1 => by
   obtain ⟨h1, h2⟩ := fnAt_tbl (cx := cx) h n
   refine ⟨fun f a hh r hr => ?_, fun k b s r hr => ?_⟩
   ·rw [fnAt_succ, stepF] at hr ⊢
    split at hr
    ·cases hr
    ·rename_i Fp ht
     rw [show (⟨cx, t'⟩ : Pg).tbl f = some (.prim Fp) from h _ _ ht]
     exact hr
    ·rename_i vf ht
     rw [show (⟨cx, t'⟩ : Pg).tbl f = some (.code vf) from h _ _ ht]
     split at hr
     ·rename_i hl
      show (if a.length = vf.np then _ else none) = some r
      rw [if_pos hl]
      refine bare_le (fun h r hr => ?_) hr
      cases hx : evC cx (fnAt ⟨cx, t⟩ n) (lpAt ⟨cx, t⟩ n) vf.body ⟨enterE a, h, h.length⟩ with
      | none => rw [hx] at hr; cases hr
      | some q => rw [hx] at hr; rw [evC_mono h1 h2 hx]; exact hr
     ·cases hr
   ·rw [lpAt_succ] at hr ⊢; exact evC_mono h1 h2 hr
theorem evF_tbl {cx : Cx} {t t' : Nat → Option VFun} (h : ∀ f e, t f = some e → t' f = some e) {f : Nat} {a : List V} {H : Hp} {r : V × Hp} (he : evF ⟨cx, t⟩ f a H = some r) : evF ⟨cx, t'⟩ f a H = some r := by
 obtain ⟨n, hn⟩ := evF_iff.1 he
 exact evF_iff.2 ⟨n, (fnAt_tbl h n).1 _ _ _ _ hn⟩
end Go.Vm
namespace Go.Vm.Ite
open Go.Vm.Ip
set_option maxRecDepth 10000
theorem mg {kk : Nat} {l : List (D × D)} {kd : D} {r : Option D} {k : Option D → Prop} (h1 : keysOk kk l = true) (h2 : mfind kd l = r) (hk : k r) : keysOk kk l = true ∧ ∃ r, mfind kd l = r ∧ k r := ⟨h1, r, h2, hk⟩
def FH (x : Its) : Hp := [.map (finM (nS x)), .map (finM (nE x)), .map (finM (nF x)), .box [.mp 0, .mp 1, .mp 2]]
theorem tbl_le (F : Nat → Option VFun) : ∀ f e, tbl F0 f = some e → tbl F f = some e := by
 intro f e h
 unfold tbl at *
 split at h <;> first | exact h | cases h
theorem up {fx : Nat → Option Obj} {F : Nat → Option VFun} {f : Nat} {a : List V} {H : Hp} {r : V × Hp} (h : evF (pgL fx F0) f a H = some r) : evF (pgL fx F) f a H = some r := evF_tbl (tbl_le F) h
section
variable {fx : Nat → Option Obj} {F : Nat → Option VFun}
theorem find0_s (x : Its) (s : S) : evF (pgL fx F) n_items_table_find [.ptr 3 0, str s] (FH x) = some (.tup [i64 (loc (nS x) s), boo (known (nS x) s)], FH x) := by
 refine evF_wqOn (t_items_table_find (F := F)) rfl rfl rfl ?_
 have h1 := fmap_keys (nS x) (nS x).length
 change keysOk 2 (finM (nS x)) = true at h1
 have h2 := finM_find (nS x) s
 unfold loc known
 revert h2
 cases pos (nS x) s with
 | none =>
  intro h2
  repeat' (first | refine run ⟨?_⟩ | refine mg h1 h2 ?_ | fail)
  exact rfl
 | some i =>
  intro h2
  repeat' (first | refine run ⟨?_⟩ | refine mg h1 h2 ?_ | fail)
  exact rfl
theorem find1_s (x : Its) (s : S) : evF (pgL fx F) n_items_table_find [.ptr 3 1, str s] (FH x) = some (.tup [i64 (loc (nE x) s), boo (known (nE x) s)], FH x) := by
 refine evF_wqOn (t_items_table_find (F := F)) rfl rfl rfl ?_
 have h1 := fmap_keys (nE x) (nE x).length
 change keysOk 2 (finM (nE x)) = true at h1
 have h2 := finM_find (nE x) s
 unfold loc known
 revert h2
 cases pos (nE x) s with
 | none =>
  intro h2
  repeat' (first | refine run ⟨?_⟩ | refine mg h1 h2 ?_ | fail)
  exact rfl
 | some i =>
  intro h2
  repeat' (first | refine run ⟨?_⟩ | refine mg h1 h2 ?_ | fail)
  exact rfl
theorem find2_s (x : Its) (s : S) : evF (pgL fx F) n_items_table_find [.ptr 3 2, str s] (FH x) = some (.tup [i64 (loc (nF x) s), boo (known (nF x) s)], FH x) := by
 refine evF_wqOn (t_items_table_find (F := F)) rfl rfl rfl ?_
 have h1 := fmap_keys (nF x) (nF x).length
 change keysOk 2 (finM (nF x)) = true at h1
 have h2 := finM_find (nF x) s
 unfold loc known
 revert h2
 cases pos (nF x) s with
 | none =>
  intro h2
  repeat' (first | refine run ⟨?_⟩ | refine mg h1 h2 ?_ | fail)
  exact rfl
 | some i =>
  intro h2
  repeat' (first | refine run ⟨?_⟩ | refine mg h1 h2 ?_ | fail)
  exact rfl
end
end Go.Vm.Ite
namespace Go.Vm.Ite
open Go.Vm.Ip
set_option maxRecDepth 10000
def putM (a : List (D × D)) (s : S) (i : Int) : List (D × D) := match mfind (.str s) a with
 | some _ => a
 | none => mset (.str s) (.int .i64 i) a
theorem fmap_put (l : List S) (k : Nat) : fmap l (k + 1) = putM (fmap l k) (l.getD k []) k := rfl
def IB (x : Its) : Ob := .box [.d (.sl (x.ss.map Nam.D)), .d (.sl (x.es.map Nam.D)), .d (.sl (x.fs.map Fnc.D))]
theorem gN {l : List Nam} {i : Nat} (h : i < l.length) : 0 ≤ (i : Int) ∧ (l.map Nam.D)[(i : Int).toNat]? = some (l.getD i default).D := by
 refine ⟨by omega, ?_⟩
 rw [Int.toNat_natCast, List.getElem?_map, List.getElem?_eq_getElem h]
 simp [List.getD_eq_getElem?_getD, List.getElem?_eq_getElem h]
theorem gF {l : List Fnc} {i : Nat} (h : i < l.length) : 0 ≤ (i : Int) ∧ (l.map Fnc.D)[(i : Int).toNat]? = some (l.getD i default).D := by
 refine ⟨by omega, ?_⟩
 rw [Int.toNat_natCast, List.getElem?_map, List.getElem?_eq_getElem h]
 simp [List.getD_eq_getElem?_getD, List.getElem?_eq_getElem h]
theorem nS_getD {x : Its} {i : Nat} (h : i < x.ss.length) : (nS x).getD i [] = (x.ss.getD i default).n := by
 simp [nS, List.getD_eq_getElem?_getD, List.getElem?_eq_getElem h]
theorem nE_getD {x : Its} {i : Nat} (h : i < x.es.length) : (nE x).getD i [] = (x.es.getD i default).n := by
 simp [nE, List.getD_eq_getElem?_getD, List.getElem?_eq_getElem h]
theorem nF_getD {x : Its} {i : Nat} (h : i < x.fs.length) : (nF x).getD i [] = (x.fs.getD i default).n := by
 simp [nF, List.getD_eq_getElem?_getD, List.getElem?_eq_getElem h]
section
variable {fx : Nat → Option Obj} {F : Nat → Option VFun}
theorem put0_s (a b c : List (D × D)) (s : S) (i : Int) (hk : keysOk 2 a = true) (hq : ∀ v, mfind (.str s) a = some v → ∃ n : Int, v = .int .i64 n) : evF (pgL fx F) n_items_table_put [.ptr 3 0, str s, i64 i] [.map a, .map b, .map c, .box [.mp 0, .mp 1, .mp 2]] = some (.tup [], [.map (putM a s i), .map b, .map c, .box [.mp 0, .mp 1, .mp 2]]) := by
 refine evF_wqOn (t_items_table_put (F := F)) rfl rfl rfl ?_
 obtain ⟨r, hr⟩ : ∃ r, mfind (.str s) a = r := ⟨_, rfl⟩
 unfold putM
 rw [hr]
 cases r with
 | none =>
  repeat' (first | refine run ⟨?_⟩ | refine mg hk hr ?_ | refine And.intro hk ?_ | fail)
  exact rfl
 | some v =>
  obtain ⟨n, rfl⟩ := hq v hr
  repeat' (first | refine run ⟨?_⟩ | refine mg hk hr ?_ | fail)
  exact rfl
theorem put1_s (a b c : List (D × D)) (s : S) (i : Int) (hk : keysOk 2 b = true) (hq : ∀ v, mfind (.str s) b = some v → ∃ n : Int, v = .int .i64 n) : evF (pgL fx F) n_items_table_put [.ptr 3 1, str s, i64 i] [.map a, .map b, .map c, .box [.mp 0, .mp 1, .mp 2]] = some (.tup [], [.map a, .map (putM b s i), .map c, .box [.mp 0, .mp 1, .mp 2]]) := by
 refine evF_wqOn (t_items_table_put (F := F)) rfl rfl rfl ?_
 obtain ⟨r, hr⟩ : ∃ r, mfind (.str s) b = r := ⟨_, rfl⟩
 unfold putM
 rw [hr]
 cases r with
 | none =>
  repeat' (first | refine run ⟨?_⟩ | refine mg hk hr ?_ | refine And.intro hk ?_ | fail)
  exact rfl
 | some v =>
  obtain ⟨n, rfl⟩ := hq v hr
  repeat' (first | refine run ⟨?_⟩ | refine mg hk hr ?_ | fail)
  exact rfl
theorem put2_s (a b c : List (D × D)) (s : S) (i : Int) (hk : keysOk 2 c = true) (hq : ∀ v, mfind (.str s) c = some v → ∃ n : Int, v = .int .i64 n) : evF (pgL fx F) n_items_table_put [.ptr 3 2, str s, i64 i] [.map a, .map b, .map c, .box [.mp 0, .mp 1, .mp 2]] = some (.tup [], [.map a, .map b, .map (putM c s i), .box [.mp 0, .mp 1, .mp 2]]) := by
 refine evF_wqOn (t_items_table_put (F := F)) rfl rfl rfl ?_
 obtain ⟨r, hr⟩ : ∃ r, mfind (.str s) c = r := ⟨_, rfl⟩
 unfold putM
 rw [hr]
 cases r with
 | none =>
  repeat' (first | refine run ⟨?_⟩ | refine mg hk hr ?_ | refine And.intro hk ?_ | fail)
  exact rfl
 | some v =>
  obtain ⟨n, rfl⟩ := hq v hr
  repeat' (first | refine run ⟨?_⟩ | refine mg hk hr ?_ | fail)
  exact rfl
theorem fmap_int (l : List S) (s : S) (k : Nat) (hk : k ≤ l.length) (v : D) (h : mfind (.str s) (fmap l k) = some v) : ∃ n : Int, v = .int .i64 n := by
 rw [fmap_find l s k hk] at h
 obtain ⟨j, _, e⟩ := Option.map_eq_some_iff.1 h
 exact ⟨_, e.symm⟩
set_option maxHeartbeats 1000000 in
theorem index1_ev (x : Its) (hx : Fine x) (o0 : Ob) : evF (pgL fx F) n_items_index [.d x.D] [o0] = some (.ptr 5 0, [o0, IB x, .map (finM (nS x)), .map (finM (nE x)), .map (finM (nF x)), .box [.mp 2, .mp 3, .mp 4]]) := by
 apply up
 have es : (nS x).length = x.ss.length := by simp [nS]
 have ee : (nE x).length = x.es.length := by simp [nE]
 have ef : (nF x).length = x.fs.length := by simp [nF]
 have l0 : x.ss.length ≤ 140737488355328 := hx.ss
 have l1 : x.es.length ≤ 140737488355328 := hx.es
 have l2 : x.fs.length ≤ 140737488355328 := hx.fs
 refine evF_wqK (t_items_index (F := F)) rfl rfl ?_
 refine run ⟨?_⟩
 refine wq_loop (α := Nat) (fun i => x.ss.length - i) (fun i => [(1, .ptr 1 0), (3, .ptr 5 0), (19, .d (.sl (x.ss.map Nam.D))), (20, i64 x.ss.length), (21, i64 i)]) (fun i => [o0, IB x, .map (fmap (nS x) i), .map [], .map [], .box [.mp 2, .mp 3, .mp 4]]) (fun i => i ≤ x.ss.length) ?_ 0 (Nat.zero_le _) (by rw [List.length_map]; rfl) rfl
 ·intro i hi
  by_cases h : i < x.ss.length
  ·have h' : (i : Int) < (x.ss.length : Int) := by omega
   have pi := gN h
   have hp : ∀ y, x.ss.getD i default = y → evF (pgL fx F0) n_items_table_put [.ptr 5 0, str y.n, i64 i] ([o0, IB x, .map (fmap (nS x) i), .map [], .map [], .box [.mp 2, .mp 3, .mp 4]] ++ [.box [str y.n, .d (fldsD y.fs)]]) = some (.tup [], [o0, IB x, .map (fmap (nS x) (i + 1)), .map [], .map [], .box [.mp 2, .mp 3, .mp 4]] ++ [.box [str y.n, .d (fldsD y.fs)]]) := fun y hy => by
     have hn := put0_s (fx := fx) (F := F0) (fmap (nS x) i) [] [] y.n i (fmap_keys _ _) (fmap_int _ _ _ (by omega))
     rw [← hy, ← nS_getD h, ← fmap_put] at hn
     rw [← hy, ← nS_getD h]
     exact evF_at (mv fx) [2, 3, 4, 5] hn rfl rfl rfl rfl rfl
   revert pi hp
   generalize x.ss.getD i default = y
   intro pi hp
   have hp := hp y rfl
   repeat' (first | refine run ⟨?_⟩ | refine pickD pi ?_ | refine ca (hp) ?_ | fail)
   exact ⟨i + 1, by omega, by omega, by rw [i64w (by omega)]; rfl, rfl⟩
  ·have h' : ¬ (i : Int) < (x.ss.length : Int) := by omega
   obtain rfl : i = x.ss.length := by omega
   refine run ⟨?_⟩
   refine wq_loop (α := Nat) (fun i => x.es.length - i) (fun i => [(1, .ptr 1 0), (3, .ptr 5 0), (35, .d (.sl (x.es.map Nam.D))), (36, i64 x.es.length), (37, i64 i)]) (fun i => [o0, IB x, .map (fmap (nS x) x.ss.length), .map (fmap (nE x) i), .map [], .box [.mp 2, .mp 3, .mp 4]]) (fun i => i ≤ x.es.length) ?_ 0 (Nat.zero_le _) (by rw [List.length_map]; rfl) rfl
   ·intro i hi
    by_cases h : i < x.es.length
    ·have h' : (i : Int) < (x.es.length : Int) := by omega
     have pi := gN h
     have hp : ∀ y, x.es.getD i default = y → evF (pgL fx F0) n_items_table_put [.ptr 5 1, str y.n, i64 i] ([o0, IB x, .map (fmap (nS x) x.ss.length), .map (fmap (nE x) i), .map [], .box [.mp 2, .mp 3, .mp 4]] ++ [.box [str y.n, .d (fldsD y.fs)]]) = some (.tup [], [o0, IB x, .map (fmap (nS x) x.ss.length), .map (fmap (nE x) (i + 1)), .map [], .box [.mp 2, .mp 3, .mp 4]] ++ [.box [str y.n, .d (fldsD y.fs)]]) := fun y hy => by
       have hn := put1_s (fx := fx) (F := F0) (fmap (nS x) x.ss.length) (fmap (nE x) i) [] y.n i (fmap_keys _ _) (fmap_int _ _ _ (by omega))
       rw [← hy, ← nE_getD h, ← fmap_put] at hn
       rw [← hy, ← nE_getD h]
       exact evF_at (mv fx) [2, 3, 4, 5] hn rfl rfl rfl rfl rfl
     revert pi hp
     generalize x.es.getD i default = y
     intro pi hp
     have hp := hp y rfl
     repeat' (first | refine run ⟨?_⟩ | refine pickD pi ?_ | refine ca (hp) ?_ | fail)
     exact ⟨i + 1, by omega, by omega, by rw [i64w (by omega)]; rfl, rfl⟩
    ·have h' : ¬ (i : Int) < (x.es.length : Int) := by omega
     obtain rfl : i = x.es.length := by omega
     refine run ⟨?_⟩
     refine wq_loop (α := Nat) (fun i => x.fs.length - i) (fun i => [(3, .ptr 5 0), (51, .d (.sl (x.fs.map Fnc.D))), (52, i64 x.fs.length), (53, i64 i)]) (fun i => [o0, IB x, .map (fmap (nS x) x.ss.length), .map (fmap (nE x) x.es.length), .map (fmap (nF x) i), .box [.mp 2, .mp 3, .mp 4]]) (fun i => i ≤ x.fs.length) ?_ 0 (Nat.zero_le _) (by rw [List.length_map]; rfl) rfl
     ·intro i hi
      by_cases h : i < x.fs.length
      ·have h' : (i : Int) < (x.fs.length : Int) := by omega
       have pi := gF h
       have hp : ∀ y, x.fs.getD i default = y → evF (pgL fx F0) n_items_table_put [.ptr 5 2, str y.n, i64 i] ([o0, IB x, .map (fmap (nS x) x.ss.length), .map (fmap (nE x) x.es.length), .map (fmap (nF x) i), .box [.mp 2, .mp 3, .mp 4]] ++ [.box [str y.n, .d (fldsD y.ps), .d (.sl (y.ms.map .bool)), str y.r, i64 y.d]]) = some (.tup [], [o0, IB x, .map (fmap (nS x) x.ss.length), .map (fmap (nE x) x.es.length), .map (fmap (nF x) (i + 1)), .box [.mp 2, .mp 3, .mp 4]] ++ [.box [str y.n, .d (fldsD y.ps), .d (.sl (y.ms.map .bool)), str y.r, i64 y.d]]) := fun y hy => by
         have hn := put2_s (fx := fx) (F := F0) (fmap (nS x) x.ss.length) (fmap (nE x) x.es.length) (fmap (nF x) i) y.n i (fmap_keys _ _) (fmap_int _ _ _ (by omega))
         rw [← hy, ← nF_getD h, ← fmap_put] at hn
         rw [← hy, ← nF_getD h]
         exact evF_at (mv fx) [2, 3, 4, 5] hn rfl rfl rfl rfl rfl
       revert pi hp
       generalize x.fs.getD i default = y
       intro pi hp
       have hp := hp y rfl
       repeat' (first | refine run ⟨?_⟩ | refine pickD pi ?_ | refine ca (hp) ?_ | fail)
       exact ⟨i + 1, by omega, by omega, by rw [i64w (by omega)]; rfl, rfl⟩
      ·have h' : ¬ (i : Int) < (x.fs.length : Int) := by omega
       obtain rfl : i = x.fs.length := by omega
       refine run ⟨?_⟩
       exact ⟨_, rfl, rfl, by unfold finM; rw [es, ee, ef]⟩
end
end Go.Vm.Ite

