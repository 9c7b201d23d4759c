import Derived.Test.YtlcaoocfajkljaaDoorVmOrder
namespace Go.Vm

section congr
variable {cx : Cx} {orc : Orc} {b : Nat} {e e' : Env} {H : Hp}

theorem evO_congr {x : Opd} (h : ∀ t ∈ x.slots, getE e t = getE e' t) : evO cx e x = evO cx e' x := by
  cases x with
  | t i => exact h i (by simp [Opd.slots])
  | _ => rfl

theorem toDs'_congr : ∀ {l : List Opd}, (∀ x ∈ l, evO cx e x = evO cx e' x) → evOp.toDs' cx e H l = evOp.toDs' cx e' H l
  | [], _ => rfl
  | x :: r, h => by
    simp only [evOp.toDs']
    rw [h x (by simp), toDs'_congr (l := r) fun y hy => h y (by simp [hy])]

theorem bound_congr {d : Nat} {x : Option Opd} (h : ∀ y ∈ x.toList, evO cx e y = evO cx e' y) : evOp.bound cx e d x = evOp.bound cx e' d x := by
  cases x with
  | none => rfl
  | some y => simp only [evOp.bound]; rw [h y (by simp)]

theorem evOp_congr {op : VOp} (h : ∀ x ∈ op.opds, evO cx e x = evO cx e' x) : evOp cx orc b e H op = evOp cx orc b e' H op := by
  cases op with
  | build z ps =>
    simp only [VOp.opds, List.mem_map] at h
    have h1 : ∀ p ∈ ps, evO cx e p.2.2 = evO cx e' p.2.2 := fun p hp => h _ ⟨p, hp, rfl⟩
    have e1 : (ps.all fun p => (evO cx e p.2.2).cells.all V.one) = ps.all fun p => (evO cx e' p.2.2).cells.all V.one := by
      apply Bool.eq_iff_iff.2
      simp only [List.all_eq_true]
      exact ⟨fun q p hp => by have := q p hp; rwa [h1 p hp] at this, fun q p hp => by have := q p hp; rwa [← h1 p hp] at this⟩
    have e2 : (ps.map fun p => (p.1, p.2.1, evO cx e p.2.2)) = ps.map fun p => (p.1, p.2.1, evO cx e' p.2.2) := List.map_congr_left fun p hp => by rw [h1 p hp]
    simp only [evOp]
    rw [e1, e2]
  | bslice sz len ps =>
    simp only [evOp]
    rw [toDs'_congr (l := ps) h]
  | mkfn f caps =>
    simp only [evOp]
    rw [List.map_congr_left (l := caps) h]
  | call f args =>
    simp only [evOp]
    rw [List.map_congr_left fun x hx => by rw [h x hx]]
  | callv f args =>
    simp only [VOp.opds] at h
    simp only [evOp]
    rw [h f (by simp)]
    rw [List.map_congr_left (g := fun x => toArg H (evO cx e' x)) fun x hx => by rw [h x (by simp [hx])]]
  | slcs x lo hi =>
    simp only [VOp.opds] at h
    simp only [evOp]
    rw [h x (by simp), bound_congr (x := lo) fun y hy => h y (by simp [List.mem_append.2 (.inl hy)])]
    have : ∀ d, evOp.bound cx e d hi = evOp.bound cx e' d hi := fun d => bound_congr (x := hi) fun y hy => h y (by simp [List.mem_append.2 (.inr hy)])
    simp only [this]
  | slc sz x lo hi =>
    simp only [VOp.opds] at h
    simp only [evOp]
    rw [h x (by simp), bound_congr (x := lo) fun y hy => h y (by simp [List.mem_append.2 (.inl hy)])]
    have : ∀ d, evOp.bound cx e d hi = evOp.bound cx e' d hi := fun d => bound_congr (x := hi) fun y hy => h y (by simp [List.mem_append.2 (.inr hy)])
    simp only [this]
  | zbox z => rfl
  | _ => simp only [VOp.opds, List.mem_cons, List.not_mem_nil, or_false, forall_eq_or_imp, forall_eq] at h; simp only [evOp, h]

theorem evOper_e {v : VOper} {s s1 : St} (h1 : evOper cx orc v s = some s1) : ∃ x, s1.e = putE v.dst x s.e := by
  unfold evOper at h1
  split at h1
  · obtain ⟨r, _, rfl⟩ := Option.map_eq_some_iff.1 h1; exact ⟨_, rfl⟩
  · unfold grd at h1
    split at h1
    · split at h1
      · obtain ⟨r, _, rfl⟩ := Option.map_eq_some_iff.1 h1; exact ⟨_, rfl⟩
      · simp only [Option.some.injEq] at h1; subst h1; exact ⟨_, rfl⟩
    · simp only [Option.some.injEq] at h1; subst h1; exact ⟨_, rfl⟩
    · cases h1

/-- An operation reads the slots alone that it names. -/
theorem evOper_congr {o : VOper} {s s1 : St} (h : ∀ t ∈ o.names, getE s.e t = getE e' t) (h1 : evOper cx orc o s = some s1) :
    ∃ x, s1.e = putE o.dst x s.e ∧ evOper cx orc o ⟨e', s.h, s.b⟩ = some ⟨putE o.dst x e', s1.h, s1.b⟩ := by
  have hop : evOp cx orc s.b s.e s.h o.op = evOp cx orc s.b e' s.h o.op := evOp_congr fun x hx => evO_congr fun t ht => h t (by
    simp only [VOper.names, List.mem_append, List.mem_flatMap]
    exact .inl (.inr ⟨x, hx, ht⟩))
  unfold evOper at h1 ⊢
  cases hg : o.guard with
  | none =>
    rw [hg] at h1
    simp only at h1 ⊢
    obtain ⟨r, hr, rfl⟩ := Option.map_eq_some_iff.1 h1
    refine ⟨r.1, rfl, ?_⟩
    rw [← hop, hr]; rfl
  | some gb =>
    obtain ⟨gs, b⟩ := gb
    rw [hg] at h1
    simp only at h1 ⊢
    have e1 := h gs (by simp [VOper.names, hg])
    rw [← e1, ← hop]
    unfold grd at h1 ⊢
    split at h1
    · split at h1
      · rename_i htb
        obtain ⟨r, hr, rfl⟩ := Option.map_eq_some_iff.1 h1
        refine ⟨r.1, rfl, ?_⟩
        simp only [if_pos htb, hr]; rfl
      · rename_i htb
        simp only [Option.some.injEq] at h1; subst h1
        exact ⟨_, rfl, if_neg htb⟩
    · simp only [Option.some.injEq] at h1; subst h1; exact ⟨_, rfl, rfl⟩
    · cases h1
end congr

theorem getE_keepE (ks : List Nat) (e : Env) (t : Nat) : getE (keepE ks e) t = if t ∈ ks then getE e t else .undef := by
  unfold keepE
  induction ks with
  | nil => rfl
  | cons k ks ih =>
    simp only [List.map_cons, getE, ih, List.mem_cons]
    by_cases hk : k = t
    · subst hk; simp
    · rw [if_neg hk]
      by_cases ht : t ∈ ks
      · simp [ht]
      · have : ¬ (t = k ∨ t ∈ ks) := by rintro (h | h); exact hk h.symm; exact ht h
        rw [if_neg ht, if_neg this]

theorem getE_putE (d : Option Nat) (v : V) (e : Env) (t : Nat) : getE (putE d v e) t = if d = some t then v else getE e t := by
  cases d with
  | none => simp [putE]
  | some d => simp only [putE, getE, Option.some.injEq]

/-- The slots when the listed ones alone have been run. -/
def envAt (L : Nat → Bool) (dst : Nat → Option Nat) (val : Nat → V) (e0 : Env) : Nat → Env
  | 0 => e0
  | n + 1 => if L n then putE (dst n) (val n) (envAt L dst val e0 n) else envAt L dst val e0 n

section envAt
variable {L L' : Nat → Bool} {dst : Nat → Option Nat} {val : Nat → V} {e0 : Env}

theorem getE_envAt (n t : Nat) : getE (envAt L dst val e0 (n + 1)) t = if L n = true ∧ dst n = some t then val n else getE (envAt L dst val e0 n) t := by
  simp only [envAt]
  by_cases h : L n = true
  · rw [if_pos h, getE_putE]
    simp [h]
  · rw [if_neg h, if_neg (fun q => h q.1)]

theorem envAt_congr {t : Nat} : ∀ n, (∀ k, k < n → dst k = some t → L k = L' k) → getE (envAt L dst val e0 n) t = getE (envAt L' dst val e0 n) t
  | 0, _ => rfl
  | n + 1, h => by
    rw [getE_envAt, getE_envAt, envAt_congr n fun k hk => h k (by omega)]
    by_cases hd : dst n = some t
    · rw [h n (by omega) hd]
    · simp [hd]

theorem envAt_skip {t i : Nat} : ∀ d, (∀ k, i ≤ k → k < i + d → dst k = some t → L k = false) → getE (envAt L dst val e0 (i + d)) t = getE (envAt L dst val e0 i) t
  | 0, _ => rfl
  | d + 1, h => by
    rw [show i + (d + 1) = (i + d) + 1 by omega, getE_envAt, envAt_skip d fun k h1 h2 => h k h1 (by omega)]
    rw [if_neg]
    rintro ⟨h1, h2⟩
    have := h (i + d) (by omega) (by omega) h2
    rw [h1] at this; cases this

theorem envAt_all {τ : Nat → St} {m : Nat} (h0 : (τ 0).e = e0) (hs : ∀ n, n < m → (τ (n + 1)).e = putE (dst n) (val n) (τ n).e) (hL : ∀ n, n < m → L n = true) : ∀ n, n ≤ m → envAt L dst val e0 n = (τ n).e
  | 0, _ => h0.symm
  | n + 1, h => by simp only [envAt]; rw [if_pos (hL n (by omega)), envAt_all h0 hs hL n (by omega), hs n (by omega)]

theorem envAt_none : ∀ n, (∀ k, k < n → L k = false) → envAt L dst val e0 n = e0
  | 0, _ => rfl
  | n + 1, h => by simp only [envAt]; rw [if_neg (by rw [h n (by omega)]; simp), envAt_none n fun k hk => h k (by omega)]

theorem envAt_und {M : Nat} (h0 : ∀ t, (getE e0 t).und M = true) (hv : ∀ n t, dst n = some t → L n = true → (val n).und M = true) : ∀ n t, (getE (envAt L dst val e0 n) t).und M = true
  | 0, t => h0 t
  | n + 1, t => by
    rw [getE_envAt]
    split
    · rename_i h; exact hv n t h.2 h.1
    · exact envAt_und h0 hv n t
end envAt

/-- The states of a region's free part, in the order of the text. -/
structure Trace (cx : Cx) (orc : Orc) (m : Nat) (vs : List VOper) (s : St) (τ : Nat → St) (val : Nat → V) : Prop where
  zero : τ 0 = s
  step : ∀ i o, i < m → vs[i]? = some o → evOper cx orc o (τ i) = some (τ (i + 1)) ∧ (τ (i + 1)).e = putE o.dst (val i) (τ i).e ∧ grew (τ i).h (τ (i + 1)).h = true ∧ dstOk o.dst (τ (i + 1)) = true

theorem draw_trace {cx : Cx} {orc : Orc} : ∀ (m : Nat) (vs : List VOper) (s s' : St), m ≤ vs.length → evDraw cx orc m vs s = some s' → ∃ τ val, Trace cx orc m vs s τ val ∧ evOps cx orc (vs.drop m) (τ m) = some s'
  | 0, vs, s, s', _, h => ⟨fun _ => s, fun _ => .undef, ⟨rfl, fun i o hi => by omega⟩, by cases vs <;> exact h⟩
  | m + 1, [], s, s', hm, h => by simp at hm
  | m + 1, o :: r, s, s', hm, h => by
    simp only [evDraw] at h
    cases h1 : evOper cx orc o s with
    | none => rw [h1] at h; cases h
    | some s1 =>
      rw [h1] at h
      simp only [Option.bind_some] at h
      split at h
      · rename_i hg
        simp only [Bool.and_eq_true] at hg
        obtain ⟨τ, val, ht, he⟩ := draw_trace m r s1 s' (by simpa using hm) h
        obtain ⟨x, hx⟩ := evOper_e h1
        refine ⟨fun i => match i with | 0 => s | i + 1 => τ i, fun i => match i with | 0 => x | i + 1 => val i, ⟨rfl, fun i p hi hp => ?_⟩, he⟩
        cases i with
        | zero =>
          simp only [List.getElem?_cons_zero, Option.some.injEq] at hp
          subst hp
          show evOper cx orc o s = some (τ 0) ∧ (τ 0).e = putE o.dst x s.e ∧ grew s.h (τ 0).h = true ∧ dstOk o.dst (τ 0) = true
          rw [ht.zero]
          exact ⟨h1, hx, hg⟩
        | succ i => exact ht.step i p (by omega) (by simpa using hp)
      · cases h
end Go.Vm
