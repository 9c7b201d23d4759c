import Derived.Test.YtpgpjenfnbcclaaVmFrame
import Derived.Test.YtpgpjenfnbcclaaVmNum
import Derived.Test.YtpgpjenfnbcclaaVmWp2
set_option linter.unusedSimpArgs false
set_option linter.unusedVariables false
namespace Go.Vm
abbrev u8 (c : UInt8) : V := .d (.int .u8 c.toNat)
abbrev str (s : List UInt8) : V := .d (.str s)
abbrev i64 (n : Int) : V := .d (.int .i64 n)
abbrev boo (b : Bool) : V := .d (.bool b)
theorem idx_of {α : Type} {s : List α} {i : Nat} (h : i < s.length) {k : α → Prop} (hk : k s[i]) : ∃ c, ((0 : Int) ≤ (i : Int) ∧ s[(i : Int).toNat]? = some c) ∧ k c :=
  ⟨s[i], ⟨by omega, by rw [Int.toNat_natCast, List.getElem?_eq_getElem h]⟩, hk⟩
theorem all_upto {α : Type} {p : α → Bool} {s : List α} {i : Nat} (hi : i < s.length) (h : (s.take i).all p = true) (hp : p s[i] = true) : (s.take (i + 1)).all p = true := by
  rw [List.take_add_one, List.getElem?_eq_getElem hi, List.all_append, h]
  simp [hp]
theorem pickD {α : Type} {l : List α} {n : Int} {d : α} (h : 0 ≤ n ∧ l[n.toNat]? = some d) {k : α → Prop} (hk : k d) : ∃ c, (0 ≤ n ∧ l[n.toNat]? = some c) ∧ k c := ⟨d, h, hk⟩
theorem and_t {b : Bool} {X Y : Prop} (h : b = true) (x : X) : (b = true → X) ∧ (b = false → Y) := ⟨fun _ => x, fun e => by rw [h] at e; cases e⟩
theorem and_f {b : Bool} {X Y : Prop} (h : b = false) (y : Y) : (b = true → X) ∧ (b = false → Y) := ⟨fun e => by (rw [h] at e; cases e), fun _ => y⟩
theorem gd_t {b : Bool} {X Y : Prop} (h : b = true) (x : X) : (b = false → Y) ∧ (b = (!false) → X) := ⟨fun e => by (rw [h] at e; cases e), fun _ => x⟩
theorem gd_f {b : Bool} {X Y : Prop} (h : b = false) (y : Y) : (b = false → Y) ∧ (b = (!false) → X) := ⟨fun _ => y, fun e => by (rw [h] at e; cases e)⟩
theorem gt_t {b : Bool} {X Y : Prop} (h : b = true) (x : X) : (b = true → X) ∧ (b = (!true) → Y) := ⟨fun _ => x, fun e => by (rw [h] at e; cases e)⟩
theorem gt_f {b : Bool} {X Y : Prop} (h : b = false) (y : Y) : (b = true → X) ∧ (b = (!true) → Y) := ⟨fun e => by (rw [h] at e; cases e), fun _ => y⟩
theorem ca {x : Option (V × Hp)} {p : V → Hp → Prop} {r : V} {H : Hp} (h : x = some (r, H)) (k : p r H) : ∃ r H, x = some (r, H) ∧ p r H := ⟨r, H, h, k⟩
theorem fz {c : List V} {ds : List D} {p : List D → Prop} (h : allD c = some ds) (k : p ds) : ∃ ds, allD c = some ds ∧ p ds := ⟨ds, h, k⟩
end Go.Vm
namespace Go.Vm
section
variable {pg : Pg} {b : Nat}
structure WQ (pg : Pg) (b : Nat) (c : VCode) (kn : Kn) (e : Env) (H : Hp) (Q : Ex → Kn → Env → Hp → Prop) : Prop where
  imp : KnOk kn e → ∃ x kn' e' H', ev pg c ⟨e, H, b⟩ = some (x, ⟨e', H', b⟩) ∧ KnOk kn' e' ∧ Q x kn' e' H'
structure KS (pg : Pg) (b : Nat) (d : VCode) (Q : Ex → Kn → Env → Hp → Prop) (x : Ex) (kn : Kn) (e : Env) (H : Hp) : Prop where
  nrm : x = .nrm → WQ pg b d kn e H Q
  exit : ∀ i, x = .exit i → Q (.exit i) kn e H
  ret : x = .ret → Q .ret kn e H
structure KB (id : Nat) (Q : Ex → Kn → Env → Hp → Prop) (x : Ex) (kn : Kn) (e : Env) (H : Hp) : Prop where
  nrm : x = .nrm → Q .nrm kn e H
  hit : ∀ i, x = .exit i → i.beq id = true → Q .nrm kn e H
  exit : ∀ i, x = .exit i → i.beq id = false → Q (.exit i) kn e H
  ret : x = .ret → Q .ret kn e H
structure KL (P : Env → Hp → Prop) (Q : Ex → Kn → Env → Hp → Prop) (x : Ex) (e : Env) (H : Hp) : Prop where
  nrm : x = .nrm → P e H
  exit : ∀ i, x = .exit i → Q (.exit i) [] e H
  ret : x = .ret → Q .ret [] e H
variable {c d : VCode} {Q : Ex → Kn → Env → Hp → Prop} {kn : Kn} {e : Env} {H : Hp}
theorem ks_nrm (h : WQ pg b d kn e H Q) : KS pg b d Q .nrm kn e H := by constructor <;> intros <;> simp_all
theorem ks_exit {i : Nat} (h : Q (.exit i) kn e H) : KS pg b d Q (.exit i) kn e H := by constructor <;> intros <;> simp_all
theorem ks_ret (h : Q .ret kn e H) : KS pg b d Q .ret kn e H := by constructor <;> intros <;> simp_all
theorem kb_nrm {id : Nat} (h : Q .nrm kn e H) : KB id Q .nrm kn e H := by constructor <;> intros <;> simp_all
theorem kb_hit {id i : Nat} (hi : i.beq id = true) (h : Q .nrm kn e H) : KB id Q (.exit i) kn e H := by constructor <;> intros <;> simp_all
theorem kb_exit {id i : Nat} (hi : i.beq id = false) (h : Q (.exit i) kn e H) : KB id Q (.exit i) kn e H := by constructor <;> intros <;> simp_all
theorem kb_ret {id : Nat} (h : Q .ret kn e H) : KB id Q .ret kn e H := by constructor <;> intros <;> simp_all
theorem kl_nrm {P : Env → Hp → Prop} (h : P e H) : KL P Q .nrm e H := by constructor <;> intros <;> simp_all
theorem kl_exit {P : Env → Hp → Prop} {i : Nat} (h : Q (.exit i) [] e H) : KL P Q (.exit i) e H := by constructor <;> intros <;> simp_all
theorem kl_ret {P : Env → Hp → Prop} (h : Q .ret [] e H) : KL P Q .ret e H := by constructor <;> intros <;> simp_all
theorem q_wp (h : wp pg b c kn e H Q) : WQ pg b c kn e H Q := ⟨fun hk => wp_imp hk h⟩
theorem q_skip (h : Q .nrm kn e H) : WQ pg b .skip kn e H Q := ⟨fun hk => ⟨_, _, _, _, rfl, hk, h⟩⟩
theorem q_exit {i : Nat} (h : Q (.exit i) kn e H) : WQ pg b (.exit i) kn e H Q := ⟨fun hk => ⟨_, _, _, _, rfl, hk, h⟩⟩
theorem q_ret (h : Q .ret kn e H) : WQ pg b .ret kn e H Q := ⟨fun hk => ⟨_, _, _, _, rfl, hk, h⟩⟩
theorem q_reg {ops : List VOper} (h : wpOps pg b ops kn e H fun kn e H => Q .nrm kn e H) : WQ pg b (.reg ops) kn e H Q := ⟨fun hk => by
  obtain ⟨kn', e', H', h1, hk', h2⟩ := wpOps_imp hk h
  exact ⟨_, kn', e', H', by rw [ev_reg, evR, h1]; rfl, hk', h2⟩⟩
theorem q_draw {m : Nat} {ops : List VOper} (h : wpDraw pg b m ops kn e H fun kn e H => Q .nrm kn e H) : WQ pg b (.draw m ops) kn e H Q := ⟨fun hk => by
  obtain ⟨kn', e', H', h1, hk', h2⟩ := wpDraw_imp hk h
  exact ⟨_, kn', e', H', by rw [ev_draw, evD, h1]; rfl, hk', h2⟩⟩
theorem q_seq (h : WQ pg b c kn e H (KS pg b d Q)) : WQ pg b (.seq c d) kn e H Q := ⟨fun hk => by
  obtain ⟨x, kn', e', H', h1, hk', h2⟩ := h.imp hk
  cases x with
  | nrm =>
    obtain ⟨x2, kn2, e2, H2, h3, hk2, h4⟩ := (h2.nrm rfl).imp hk'
    exact ⟨x2, kn2, e2, H2, by rw [ev_seq, h1, sq_nrm, h3], hk2, h4⟩
  | exit i => exact ⟨_, kn', e', H', by rw [ev_seq, h1, sq_exit], hk', h2.exit _ rfl⟩
  | ret => exact ⟨_, kn', e', H', by rw [ev_seq, h1, sq_ret], hk', h2.ret rfl⟩⟩
theorem q_scope (h : WQ pg b c kn e H Q) : WQ pg b (.scope c) kn e H Q := ⟨fun hk => by
  obtain ⟨x, kn', e', H', h1, hk', h2⟩ := h.imp hk
  exact ⟨x, kn', e', H', by rw [ev_scope, h1], hk', h2⟩⟩
theorem q_block {id : Nat} (h : WQ pg b c kn e H (KB id Q)) : WQ pg b (.block id c) kn e H Q := ⟨fun hk => by
  obtain ⟨x, kn', e', H', h1, hk', h2⟩ := h.imp hk
  cases x with
  | nrm => exact ⟨_, kn', e', H', by rw [ev_block, h1, blk_nrm], hk', h2.nrm rfl⟩
  | ret => exact ⟨_, kn', e', H', by rw [ev_block, h1, blk_ret], hk', h2.ret rfl⟩
  | exit i =>
    by_cases hi : i = id
    · exact ⟨_, kn', e', H', by rw [ev_block, h1, blk_exit, if_pos hi], hk', h2.hit _ rfl (beqT hi)⟩
    · exact ⟨_, kn', e', H', by rw [ev_block, h1, blk_exit, if_neg hi], hk', h2.exit _ rfl (beqF hi)⟩⟩
theorem q_cond {i : Nat} (h : match look kn i with
      | some true => WQ pg b c kn e H Q
      | some false => WQ pg b d kn e H Q
      | none => match gE e i with
        | .d (.bool t) => (t = true → WQ pg b c ((i, true) :: kn) e H Q) ∧ (t = false → WQ pg b d ((i, false) :: kn) e H Q)
        | _ => False) : WQ pg b (.cond (.t i) c d) kn e H Q := ⟨fun hk => by
  have yes : evO pg.toCx e (.t i) = .d (.bool true) → ∀ {kn}, KnOk kn e → WQ pg b c kn e H Q → ∃ x kn' e' H', ev pg (.cond (.t i) c d) ⟨e, H, b⟩ = some (x, ⟨e', H', b⟩) ∧ KnOk kn' e' ∧ Q x kn' e' H' := by
    intro ht kn hk h
    obtain ⟨x, kn', e', H', h1, hk', h2⟩ := h.imp hk
    exact ⟨x, kn', e', H', by rw [ev_cond]; simp only [ht, cnd_bool, if_true]; exact h1, hk', h2⟩
  have no : evO pg.toCx e (.t i) = .d (.bool false) → ∀ {kn}, KnOk kn e → WQ pg b d kn e H Q → ∃ x kn' e' H', ev pg (.cond (.t i) c d) ⟨e, H, b⟩ = some (x, ⟨e', H', b⟩) ∧ KnOk kn' e' ∧ Q x kn' e' H' := by
    intro ht kn hk h
    obtain ⟨x, kn', e', H', h1, hk', h2⟩ := h.imp hk
    exact ⟨x, kn', e', H', by rw [ev_cond]; simp only [ht, cnd_bool]; exact h1, hk', h2⟩
  split at h
  · rename_i ht; exact yes (hk i _ ht) hk h
  · rename_i ht; exact no (hk i _ ht) hk h
  · rw [gE_eq] at h
    split at h
    · rename_i t ht
      cases t with
      | true => exact yes ht (hk.add ht) (h.1 rfl)
      | false => exact no ht (hk.add ht) (h.2 rfl)
    · cases h⟩
theorem q_newrow {sz t : Nat} (h : wp pg b (.newrow sz t) kn e H Q) : WQ pg b (.newrow sz t) kn e H Q := q_wp h
theorem q_bindrow {sz t o : Nat} (h : wp pg b (.bindrow sz t o) kn e H Q) : WQ pg b (.bindrow sz t o) kn e H Q := q_wp h
theorem q_freeze {t : Nat} (h : wp pg b (.freeze t) kn e H Q) : WQ pg b (.freeze t) kn e H Q := q_wp h
theorem q_mkrow {sz : Nat} (h : wp pg b (.mkrow sz) kn e H Q) : WQ pg b (.mkrow sz) kn e H Q := q_wp h
theorem q_bindto {t o k : Nat} (h : wp pg b (.bindto t o k) kn e H Q) : WQ pg b (.bindto t o k) kn e H Q := q_wp h
theorem q_loop {ks : List Nat} (h : keepK e ks fun e => LoopK pg b ks c e H Q) : WQ pg b (.loop ks c) kn e H Q := q_wp h
theorem wq_loop {ks : List Nat} {α : Type} (μ : α → Nat) (E : α → Env) (Hf : α → Hp) (P : α → Prop)
    (step : ∀ a, P a → lenK (Hf a) 0 fun n => keepK (E a) ks fun e => WQ pg n c [] e (Hf a) fun x _ e' H' => KL (fun e' H' => backK n e' ks fun e2 => forceL (H'.take n) fun H2 => ∃ a', P a' ∧ μ a' < μ a ∧ e2 = E a' ∧ H2 = Hf a') Q x e' H') (a : α) (ha : P a) {e0 : Env} {h0 : Hp} (he : e0 = E a) (hh : h0 = Hf a) : LoopK pg b ks c e0 h0 Q := by
  subst he; subst hh
  have key : ∀ n, ∀ a, μ a < n → P a → ∃ x e' H', ev pg (.loop ks c) ⟨E a, Hf a, b⟩ = some (x, ⟨e', H', b⟩) ∧ Q x [] e' H' := by
    intro n
    induction n with
    | zero => intro a h; omega
    | succ n ih =>
      intro a hn ha
      have st := step a ha
      rw [lenK_eq, keepK_eq, Nat.zero_add] at st
      obtain ⟨x, kn', e', H', h1, _, h2⟩ := st.imp (KnOk.nil _)
      rw [ev_loop]
      simp only [h1]
      cases x with
      | nrm =>
        have h2 := h2.nrm rfl
        simp only [backK_eq, forceL_eq] at h2
        obtain ⟨a', h3, h4, h5, h6⟩ := h2
        simp only [rnd_nrm, h5, h6]
        exact ih a' (by omega) h3
      | exit i => exact ⟨_, e', H', rfl, h2.exit _ rfl⟩
      | ret => exact ⟨_, e', H', rfl, h2.ret rfl⟩
  unfold LoopK
  exact key (μ a + 1) a (by omega) ha
theorem evF_wq {f : Nat} {vf : VFn} (ht : pg.tbl f = some (.code vf)) {a : List V} (hn : a.length = vf.np) (hu : (undL 0 a && !vf.keep) = true) {r : V} (h : enterK 0 a fun e => WQ pg 0 vf.body [] e [] (retK vf.res 0 fun v _ => v = r)) (H : Hp) : evF pg f a H = some (r, H) := by
  rw [enterK_eq] at h
  obtain ⟨x, kn, e, H', h1, _, h2⟩ := h.imp (KnOk.nil _)
  obtain ⟨r', h3, h4⟩ := retK_imp (b := 0) h2
  have hk : vf.keep = false := by cases hh : vf.keep <;> simp_all
  refine evF_of ht hn hu (h' := H'.take 0) ?_ H
  rw [enterE_eq, h1, hk, h3, h4]
theorem evF_wqOn {f : Nat} {vf : VFn} (ht : pg.tbl f = some (.code vf)) {a : List V} (hn : a.length = vf.np) (hk : vf.keep = false) (hu : undL 0 a = false) {r : V} {H H2 : Hp} (h : enterK 0 a fun e => WQ pg H.length vf.body [] e H (retK vf.res H.length fun v H' => v = r ∧ H'.take H.length = H2)) : evF pg f a H = some (r, H2) := by
  rw [enterK_eq] at h
  obtain ⟨x, kn, e, H', h1, _, h2⟩ := h.imp (KnOk.nil _)
  obtain ⟨r', h3, h4, h5⟩ := retK_imp (b := H.length) h2
  rw [evF_on ht hn (by rw [hu]; rfl), enterE_eq, h1, hk, h3, h4, h5]
end
end Go.Vm
namespace Go.Vm
section
variable {b : Bool} {X Y : Prop}
theorem b1 (x : X) (h : b = true := by first | with_reducible rfl | exact rfl | exact decide_eq_true (by assumption) | assumption) : (b = true → X) ∧ (b = false → Y) := and_t h x
theorem b2 (y : Y) (h : b = false := by first | with_reducible rfl | exact rfl | exact decide_eq_false (by assumption) | assumption) : (b = true → X) ∧ (b = false → Y) := and_f h y
theorem b3 (x : X) (h : b = true := by first | with_reducible rfl | exact rfl | exact decide_eq_true (by assumption) | assumption) : (b = false → Y) ∧ (b = (!false) → X) := gd_t h x
theorem b4 (y : Y) (h : b = false := by first | with_reducible rfl | exact rfl | exact decide_eq_false (by assumption) | assumption) : (b = false → Y) ∧ (b = (!false) → X) := gd_f h y
theorem b5 (x : X) (h : b = true := by first | with_reducible rfl | exact rfl | exact decide_eq_true (by assumption) | assumption) : (b = true → X) ∧ (b = (!true) → Y) := gt_t h x
theorem b6 (y : Y) (h : b = false := by first | with_reducible rfl | exact rfl | exact decide_eq_false (by assumption) | assumption) : (b = true → X) ∧ (b = (!true) → Y) := gt_f h y
end
theorem pk {α : Type} {l : List α} {n : Int} {d : α} {k : α → Prop} (hk : k d) (h : 0 ≤ n ∧ l[n.toNat]? = some d := by exact ⟨by first | decide | exact Int.NonNeg.mk _, rfl⟩) : ∃ c, (0 ≤ n ∧ l[n.toNat]? = some c) ∧ k c := ⟨d, h, hk⟩
structure Left (P : Prop) : Prop where
  f : P
theorem stp {P Q : Prop} (q : Q) (g : Q → P := by
  first
    | exact q_seq | exact q_block | exact q_reg | exact q_cond | exact q_exit | exact q_ret | exact q_skip | exact q_scope | exact q_draw | exact q_loop | exact q_mkrow | exact q_bindto | exact q_freeze | exact q_newrow | exact q_bindrow) : P := g q
theorem stq {P Q : Prop} (q : Q) (g : Q → P := by
  first
    | exact ks_nrm | exact ks_exit | exact ks_ret | exact kb_nrm | exact kb_hit rfl | exact kb_exit rfl | exact kb_ret | exact kl_nrm | exact kl_exit | exact kl_ret
    | exact And.intro (grew_self _)
    | exact fun x => b1 x | exact fun x => b2 x | exact fun x => b3 x | exact fun x => b4 x | exact fun x => b5 x | exact fun x => b6 x
    | exact fun x => pk x | exact And.intro rfl) : P := g q
theorem run {P Q : Prop} (q : Left Q) (h : Left Q → P := by
  intro q
  first
    | ((with_reducible show WQ _ _ _ _ _ _ _); refine stp ?_)
    | ((conv => whnf); first | (with_reducible show WQ _ _ _ _ _ _ _) | refine stq ?_)
  repeat' (first
    | ((with_reducible show WQ _ _ _ _ _ _ _); refine stp ?_)
    | ((conv => whnf); first | (with_reducible show WQ _ _ _ _ _ _ _) | refine stq ?_)
    | fail)
  exact q.f) : P := h q
end Go.Vm
namespace Go.Vm
section
variable {pg : Pg}
def retQ (res : List VRes) (R : List V → Hp → Prop) : Ex → Kn → Env → Hp → Prop := fun x _ e H => match x with
  | .exit _ => False
  | .nrm => ∃ vs, resVs e H res = some vs ∧ R vs H
  | .ret => ∃ vs, resVs e H res = some vs ∧ R vs H
theorem evF_wqK {f : Nat} {vf : VFn} (ht : pg.tbl f = some (.code vf)) {a : List V} (hn : a.length = vf.np) (hk : vf.keep = true) {r : V} {H H2 : Hp} (h : enterK 0 a fun e => WQ pg H.length vf.body [] e H (retQ vf.res fun vs H' => oneOf vs = r ∧ H' = H2)) : evF pg f a H = some (r, H2) := by
  rw [enterK_eq] at h
  obtain ⟨x, kn, e, H', h1, _, h2⟩ := h.imp (KnOk.nil _)
  rw [evF_on ht hn (by rw [hk, Bool.not_true, Bool.and_false]), enterE_eq, h1]
  cases x with
  | exit i => cases h2
  | nrm =>
    obtain ⟨vs, h3, h4, h5⟩ := h2
    subst h5
    simp only [leaveE, leave, h3, hk, if_true, h4]
  | ret =>
    obtain ⟨vs, h3, h4, h5⟩ := h2
    subst h5
    simp only [leaveE, leave, h3, hk, if_true, h4]
theorem evF_wqOnE {f : Nat} {vf : VFn} (ht : pg.tbl f = some (.code vf)) {a : List V} (hn : a.length = vf.np) (hk : vf.keep = false) (hu : undL 0 a = false) {H : Hp} {Q : V → Hp → Prop} (h : enterK 0 a fun e => WQ pg H.length vf.body [] e H (retK vf.res H.length fun v H' => Q v (H'.take H.length))) : ∃ r H2, evF pg f a H = some (r, H2) ∧ Q r H2 := by
  rw [enterK_eq] at h
  obtain ⟨x, kn, e, H', h1, _, h2⟩ := h.imp (KnOk.nil _)
  obtain ⟨r', h3, h4⟩ := retK_imp (b := H.length) h2
  exact ⟨r', _, by rw [evF_on ht hn (by rw [hu]; rfl), enterE_eq, h1, hk, h3], h4⟩
end
end Go.Vm
