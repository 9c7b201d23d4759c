import Derived.Test.YtbaoljbcdjdnlaaGreatDoorVmTr
import Derived.Laws.AppendOwn
import Derived.Laws.Sem
import Derived.Test.YtbaoljbcdjdnlaaGreatDoorVmFix
import Derived.Calls
set_option linter.unusedSimpArgs false
set_option linter.unusedVariables false
namespace Go.Vm

structure Gh where
  J : Nat → Option (Nat × Nat)
  C : Nat → List Value

mutual
def RepCs (C : Nat → List Value) : D → List Value → Prop
  | .bool b, vs => vs = [.bool b]
  | .int k n, vs => vs = [.int k n]
  | .str s, vs => vs = [.string ⟨s.toArray⟩]
  | .agg l, vs => RepDs C l vs
  | .sl l, vs => ∃ a cap, vs = [.slice a l.length cap] ∧ l.length ≤ cap ∧ (l = [] ∨ ∃ b off sz us, a = some ⟨b, off, none⟩ ∧ 0 < sz ∧ us <+: (C b).drop off ∧ RepEl C sz l us)
def RepDs (C : Nat → List Value) : List D → List Value → Prop
  | [], vs => vs = []
  | d :: ds, vs => ∃ y ys, vs = y :: ys ∧ d.one = true ∧ RepCs C d [y] ∧ RepDs C ds ys
def RepEl (C : Nat → List Value) (sz : Nat) : List D → List Value → Prop
  | [], vs => vs = []
  | d :: ds, vs => ∃ v1 v2, vs = v1 ++ v2 ∧ v1.length = sz ∧ RepCs C d v1 ∧ RepEl C sz ds v2
end

def RepD (C : Nat → List Value) : D → Value → Prop
  | .agg l, x => ∃ cs : Array Value, x = .agg cs ∧ RepDs C l cs.toList
  | d, x => RepCs C d [x]

theorem prefix_drop {α : Type} {a b : List α} (h : a <+: b) (n : Nat) : a.drop n <+: b.drop n := by
  obtain ⟨t, rfl⟩ := h
  rw [List.drop_append]
  exact List.prefix_append _ _

theorem prefix_getElem {α : Type} {a b : List α} (h : a <+: b) {i : Nat} {x : α} (hx : a[i]? = some x) : b[i]? = some x := by
  obtain ⟨t, rfl⟩ := h
  have hi := (List.getElem?_eq_some_iff.1 hx).1
  rw [List.getElem?_append_left hi]; exact hx

section mono
variable {C C' : Nat → List Value}
mutual
theorem RepCs_mono (h : ∀ b, C b <+: C' b) : ∀ (d : D) (vs : List Value), RepCs C d vs → RepCs C' d vs
  | .bool _, _, r => r
  | .int _ _, _, r => r
  | .str _, _, r => r
  | .agg l, vs, r => by simp only [RepCs] at r ⊢; exact RepDs_mono h l vs r
  | .sl l, vs, r => by
    simp only [RepCs] at r ⊢
    obtain ⟨a, cap, rfl, hc, r⟩ := r
    refine ⟨a, cap, rfl, hc, r.imp id ?_⟩
    rintro ⟨b, off, sz, us, h1, h2, h3, h4⟩
    exact ⟨b, off, sz, us, h1, h2, h3.trans (prefix_drop (h b) off), RepEl_mono h sz l us h4⟩
theorem RepDs_mono (h : ∀ b, C b <+: C' b) : ∀ (l : List D) (vs : List Value), RepDs C l vs → RepDs C' l vs
  | [], _, r => r
  | d :: ds, vs, r => by
    simp only [RepDs] at r ⊢
    obtain ⟨y, ys, rfl, h1, h2, h3⟩ := r
    exact ⟨y, ys, rfl, h1, RepCs_mono h d [y] h2, RepDs_mono h ds ys h3⟩
theorem RepEl_mono (h : ∀ b, C b <+: C' b) (sz : Nat) : ∀ (l : List D) (vs : List Value), RepEl C sz l vs → RepEl C' sz l vs
  | [], _, r => r
  | d :: ds, vs, r => by
    simp only [RepEl] at r ⊢
    obtain ⟨v1, v2, rfl, h1, h2, h3⟩ := r
    exact ⟨v1, v2, rfl, h1, RepCs_mono h d v1 h2, RepEl_mono h sz ds v2 h3⟩
end
theorem RepD_mono (h : ∀ b, C b <+: C' b) {d : D} {x : Value} (r : RepD C d x) : RepD C' d x := by
  cases d with
  | agg l => obtain ⟨cs, rfl, r⟩ := r; exact ⟨cs, rfl, RepDs_mono h _ _ r⟩
  | _ => exact RepCs_mono h _ _ r
end mono

section facts
variable {C : Nat → List Value}
theorem RepDs_length : ∀ {l : List D} {vs : List Value}, RepDs C l vs → vs.length = l.length
  | [], vs, r => by simp only [RepDs] at r; subst r; rfl
  | d :: ds, vs, r => by
    simp only [RepDs] at r
    obtain ⟨y, ys, rfl, _, _, h3⟩ := r
    simp [RepDs_length h3]

theorem RepCs_length {d : D} {vs : List Value} (r : RepCs C d vs) : vs.length = d.cells.length := by
  cases d with
  | bool b => simp only [RepCs] at r; subst r; rfl
  | int k n => simp only [RepCs] at r; subst r; rfl
  | str s => simp only [RepCs] at r; subst r; rfl
  | agg l => simp only [RepCs] at r; exact RepDs_length r
  | sl l => simp only [RepCs] at r; obtain ⟨a, cap, rfl, _⟩ := r; rfl

theorem RepCs_one {d : D} {y : Value} (hd : d.one = true) (r : RepCs C d [y]) : y.oneCell' = true := by
  cases d with
  | bool b => simp only [RepCs] at r; cases r; rfl
  | int k n => simp only [RepCs] at r; cases r; rfl
  | str s => simp only [RepCs] at r; cases r; rfl
  | agg l => cases hd
  | sl l => simp only [RepCs] at r; obtain ⟨a, cap, h, _⟩ := r; cases h; rfl

theorem RepDs_one : ∀ {l : List D} {vs : List Value}, RepDs C l vs → ∀ v ∈ vs, v.oneCell' = true
  | [], vs, r, v, hv => by simp only [RepDs] at r; subst r; cases hv
  | d :: ds, vs, r, v, hv => by
    simp only [RepDs] at r
    obtain ⟨y, ys, rfl, h1, h2, h3⟩ := r
    cases hv with
    | head => exact RepCs_one h1 h2
    | tail _ hm => exact RepDs_one h3 v hm

theorem RepCs_ones {d : D} {vs : List Value} (r : RepCs C d vs) : ∀ v ∈ vs, v.oneCell' = true := by
  cases d with
  | agg l => simp only [RepCs] at r; exact RepDs_one r
  | _ =>
    intro v hv
    have hl := RepCs_length r
    simp only [D.cells, List.length_cons, List.length_nil] at hl
    obtain ⟨y, rfl⟩ := List.length_eq_one_iff.1 hl
    simp only [List.mem_singleton] at hv
    subst hv
    exact RepCs_one rfl r

theorem RepEl_length {sz : Nat} : ∀ {l : List D} {vs : List Value}, RepEl C sz l vs → vs.length = l.length * sz
  | [], vs, r => by simp only [RepEl] at r; subst r; simp
  | d :: ds, vs, r => by
    simp only [RepEl] at r
    obtain ⟨v1, v2, rfl, h1, _, h3⟩ := r
    simp [RepEl_length h3, h1, Nat.add_mul, Nat.add_comm]

theorem RepEl_ones {sz : Nat} : ∀ {l : List D} {vs : List Value}, RepEl C sz l vs → ∀ v ∈ vs, v.oneCell' = true
  | [], vs, r, v, hv => by simp only [RepEl] at r; subst r; cases hv
  | d :: ds, vs, r, v, hv => by
    simp only [RepEl] at r
    obtain ⟨v1, v2, rfl, h1, h2, h3⟩ := r
    rcases List.mem_append.1 hv with hv | hv
    · exact RepCs_ones h2 v hv
    · exact RepEl_ones h3 v hv

theorem RepEl_append {sz : Nat} : ∀ {l l' : List D} {vs vs' : List Value}, RepEl C sz l vs → RepEl C sz l' vs' → RepEl C sz (l ++ l') (vs ++ vs')
  | [], l', vs, vs', r, r' => by simp only [RepEl] at r; subst r; exact r'
  | d :: ds, l', vs, vs', r, r' => by
    simp only [RepEl] at r
    obtain ⟨v1, v2, rfl, h1, h2, h3⟩ := r
    simp only [List.cons_append, RepEl]
    exact ⟨v1, v2 ++ vs', by simp, h1, h2, RepEl_append h3 r'⟩

theorem RepEl_get {sz : Nat} : ∀ {l : List D} {vs : List Value} {i : Nat} {d : D}, RepEl C sz l vs → l[i]? = some d → RepCs C d ((vs.drop (i * sz)).take sz)
  | [], vs, i, d, r, h => by simp at h
  | d :: ds, vs, 0, d', r, h => by
    simp only [RepEl] at r
    obtain ⟨v1, v2, rfl, h1, h2, h3⟩ := r
    simp only [List.getElem?_cons_zero, Option.some.injEq] at h
    subst h
    simpa [← h1] using h2
  | d :: ds, vs, i + 1, d', r, h => by
    simp only [RepEl] at r
    obtain ⟨v1, v2, rfl, h1, h2, h3⟩ := r
    simp only [List.getElem?_cons_succ] at h
    have := RepEl_get h3 h
    rw [Nat.add_mul, Nat.one_mul, Nat.add_comm, ← h1, List.drop_length_add_append, h1]
    exact this

theorem RepEl_take {sz : Nat} : ∀ {l : List D} {vs : List Value} (k : Nat), RepEl C sz l vs → RepEl C sz (l.take k) (vs.take (k * sz))
  | [], vs, k, r => by simp only [RepEl] at r; subst r; simp [RepEl]
  | d :: ds, vs, 0, r => by simp [RepEl]
  | d :: ds, vs, k + 1, r => by
    simp only [RepEl] at r
    obtain ⟨v1, v2, rfl, h1, h2, h3⟩ := r
    simp only [List.take_succ_cons, RepEl]
    refine ⟨v1, v2.take (k * sz), ?_, h1, h2, RepEl_take k h3⟩
    rw [Nat.add_mul, Nat.one_mul, Nat.add_comm, ← h1, List.take_length_add_append]

theorem RepEl_drop {sz : Nat} : ∀ {l : List D} {vs : List Value} (k : Nat), RepEl C sz l vs → RepEl C sz (l.drop k) (vs.drop (k * sz))
  | [], vs, k, r => by simp only [RepEl] at r; subst r; simp [RepEl]
  | d :: ds, vs, 0, r => by simpa using r
  | d :: ds, vs, k + 1, r => by
    simp only [RepEl] at r
    obtain ⟨v1, v2, rfl, h1, h2, h3⟩ := r
    simp only [List.drop_succ_cons]
    rw [Nat.add_mul, Nat.one_mul, Nat.add_comm, ← h1, List.drop_length_add_append, h1]
    exact RepEl_drop k h3

theorem RepDs_take : ∀ {l : List D} {vs : List Value} (k : Nat), RepDs C l vs → RepDs C (l.take k) (vs.take k)
  | [], vs, k, r => by simp only [RepDs] at r; subst r; simp [RepDs]
  | d :: ds, vs, 0, r => by simp [RepDs]
  | d :: ds, vs, k + 1, r => by
    simp only [RepDs] at r
    obtain ⟨y, ys, rfl, h1, h2, h3⟩ := r
    simp only [List.take_succ_cons, RepDs]
    exact ⟨y, ys.take k, rfl, h1, h2, RepDs_take k h3⟩

theorem RepDs_drop : ∀ {l : List D} {vs : List Value} (k : Nat), RepDs C l vs → RepDs C (l.drop k) (vs.drop k)
  | [], vs, k, r => by simp only [RepDs] at r; subst r; simp [RepDs]
  | d :: ds, vs, 0, r => by simpa using r
  | d :: ds, vs, k + 1, r => by
    simp only [RepDs] at r
    obtain ⟨y, ys, rfl, h1, h2, h3⟩ := r
    simp only [List.drop_succ_cons]
    exact RepDs_drop k h3

theorem RepDs_El : ∀ {l : List D} {vs : List Value}, RepDs C l vs → RepEl C 1 l vs
  | [], vs, r => r
  | d :: ds, vs, r => by
    simp only [RepDs] at r
    obtain ⟨y, ys, rfl, h1, h2, h3⟩ := r
    simp only [RepEl]
    exact ⟨[y], ys, rfl, rfl, h2, RepDs_El h3⟩

theorem RepD_cells {d : D} {x : Value} (r : RepD C d x) : RepCs C d x.cells.toList := by
  cases d with
  | agg l => obtain ⟨cs, rfl, r⟩ := r; simpa only [RepCs, Value.cells] using r
  | bool b => simp only [RepD, RepCs] at r; cases r; simp [RepCs, Value.cells]
  | int k n => simp only [RepD, RepCs] at r; cases r; simp [RepCs, Value.cells]
  | str s => simp only [RepD, RepCs] at r; cases r; simp [RepCs, Value.cells]
  | sl l => simp only [RepD] at r; have := r; simp only [RepCs] at r; obtain ⟨a, cap, h, _⟩ := r; cases h; exact this

theorem RepD_of_one {d : D} {y : Value} (hd : d.one = true) (r : RepCs C d [y]) : RepD C d y := by
  cases d with
  | agg l => cases hd
  | _ => exact r

theorem RepDs_cells {d : D} {vs : List Value} (r : RepCs C d vs) : RepDs C d.cells vs := by
  cases d with
  | agg l => simpa only [D.cells, RepCs] using r
  | bool b => simp only [D.cells, RepDs]; simp only [RepCs] at r; subst r; exact ⟨_, _, rfl, rfl, rfl, rfl⟩
  | int k n => simp only [D.cells, RepDs]; simp only [RepCs] at r; subst r; exact ⟨_, _, rfl, rfl, rfl, rfl⟩
  | str s => simp only [D.cells, RepDs]; simp only [RepCs] at r; subst r; exact ⟨_, _, rfl, rfl, rfl, rfl⟩
  | sl l =>
    simp only [D.cells, RepDs]
    have r' := r
    simp only [RepCs] at r
    obtain ⟨a, cap, rfl, _⟩ := r
    exact ⟨_, _, rfl, rfl, r', rfl⟩
end facts

mutual
/-- A value of the model that a value of the machine stands for. -/
def Rep (g : Gh) (H : Hp) : V → Value → Prop
  | .d x, v => RepD g.C x v
  | .agg l, v => ∃ cs : Array Value, v = .agg cs ∧ RepVs g H l cs.toList
  | .tup l, v => ∃ cs : Array Value, v = .tuple cs ∧ RepTs g H l cs.toList
  | .nils, v => v = .slice none 0 0
  | .row id len, v => ∃ a cap sz l, v = .slice a len cap ∧ H[id]? = some (.row sz l) ∧ len ≤ l.length ∧ (len = l.length → (len = 0 ∧ a = none ∧ cap = 0) ∨ ∃ b, g.J id = some (b, cap) ∧ a = some ⟨b, 0, none⟩)
  | .arr id off len, v => (∃ o, H[id]? = some o ∧ ∀ sz l, o ≠ .row sz l) ∧ ∃ b c cap, g.J id = some (b, c) ∧ v = .slice (some ⟨b, off, none⟩) len cap ∧ len ≤ cap
  | .ptr id off, v => (∃ o, H[id]? = some o ∧ ∀ sz l, o ≠ .row sz l) ∧ ∃ b c, g.J id = some (b, c) ∧ v = .pointer (some ⟨b, off, none⟩)
  | .mp id, v => (∃ o, H[id]? = some o ∧ ∀ sz l, o ≠ .row sz l) ∧ ∃ b c, g.J id = some (b, c) ∧ v = .map (some b)
  | .ro l off, v => ∃ b o vs, v = .pointer (some ⟨b, o + off, none⟩) ∧ vs <+: (g.C b).drop o ∧ RepDs g.C l vs
  | .fn f c, v => ∃ cs : Array Value, v = .func (.func f) #[] cs ∧ RepTs g H c cs.toList
  | .nul, v => v = .pointer none
  | .nof, v => v = .nilFunc
  | .ifc b, v => (b = true ∧ v = .nilIface) ∨ (b = false ∧ ∃ t y, v = .iface t y)
  | .undef, _ => True
/-- Cells. -/
def RepVs (g : Gh) (H : Hp) : List V → List Value → Prop
  | [], vs => vs = []
  | x :: xs, vs => ∃ y ys, vs = y :: ys ∧ x.one = true ∧ Rep g H x y ∧ RepVs g H xs ys
/-- Components. -/
def RepTs (g : Gh) (H : Hp) : List V → List Value → Prop
  | [], vs => vs = []
  | x :: xs, vs => ∃ y ys, vs = y :: ys ∧ Rep g H x y ∧ RepTs g H xs ys
end

structure Keep (n : Nat) (g : Gh) (H : Hp) (g' : Gh) (H' : Hp) : Prop where
  C : ∀ b, g.C b <+: g'.C b
  obj : ∀ i o, i < n → H[i]? = some o → (∀ sz l, o ≠ .row sz l) → g'.J i = g.J i ∧ ∃ o', H'[i]? = some o' ∧ ∀ sz l, o' ≠ .row sz l
  row : ∀ i sz l, i < n → H[i]? = some (.row sz l) → ∃ l', H'[i]? = some (.row sz l') ∧ l <+: l' ∧ (l'.length = l.length → g'.J i = g.J i)

theorem Keep.refl (n : Nat) (g : Gh) (H : Hp) : Keep n g H g H :=
  ⟨fun _ => List.prefix_refl _, fun _ o _ ho h => ⟨rfl, o, ho, h⟩, fun _ _ l _ ho => ⟨l, ho, List.prefix_refl _, fun _ => rfl⟩⟩

theorem Keep.trans {n m : Nat} {g g1 g2 : Gh} {H H1 H2 : Hp} (h : Keep n g H g1 H1) (k : Keep m g1 H1 g2 H2) (hm : n ≤ m) : Keep n g H g2 H2 := by
  refine ⟨fun b => (h.C b).trans (k.C b), fun i o hi ho hr => ?_, fun i sz l hi ho => ?_⟩
  · obtain ⟨e1, o', h1, h2⟩ := h.obj i o hi ho hr
    obtain ⟨e2, o'', h3, h4⟩ := k.obj i o' (by omega) h1 h2
    exact ⟨e2.trans e1, o'', h3, h4⟩
  · obtain ⟨l', h1, h2, h3⟩ := h.row i sz l hi ho
    obtain ⟨l'', h4, h5, h6⟩ := k.row i sz l' (by omega) h1
    refine ⟨l'', h4, h2.trans h5, fun he => ?_⟩
    have a := h2.length_le
    have b := h5.length_le
    rw [h6 (by omega), h3 (by omega)]

theorem Keep.le {n m : Nat} {g g' : Gh} {H H' : Hp} (h : Keep m g H g' H') (hn : n ≤ m) : Keep n g H g' H' :=
  ⟨h.C, fun i o hi => h.obj i o (by omega), fun i sz l hi => h.row i sz l (by omega)⟩

structure KeepW (n : Nat) (g : Gh) (H : Hp) (g' : Gh) (H' : Hp) : Prop where
  C : ∀ b, g.C b <+: g'.C b
  obj : ∀ i o, i < n → H[i]? = some o → (∀ sz l, o ≠ .row sz l) → (∀ p, g.J i = some p → g'.J i = some p) ∧ ∃ o', H'[i]? = some o' ∧ ∀ sz l, o' ≠ .row sz l
  row : ∀ i sz l, i < n → H[i]? = some (.row sz l) → ∃ l', H'[i]? = some (.row sz l') ∧ l <+: l' ∧ (l'.length = l.length → ∀ p, g.J i = some p → g'.J i = some p)

theorem Keep.w {n : Nat} {g g' : Gh} {H H' : Hp} (k : Keep n g H g' H') : KeepW n g H g' H' :=
  ⟨k.C, fun i o hi ho hr => ⟨fun _ hp => (k.obj i o hi ho hr).1.trans hp, (k.obj i o hi ho hr).2⟩, fun i sz l hi ho => by
    obtain ⟨l', h1, h2, h3⟩ := k.row i sz l hi ho
    exact ⟨l', h1, h2, fun he _ hp => (h3 he).trans hp⟩⟩

section
variable {n : Nat} {g g' : Gh} {H H' : Hp}
mutual
theorem Rep_keep (k : KeepW n g H g' H') : ∀ (v : V) (x : Value), v.und n = true → Rep g H v x → Rep g' H' v x
  | .d d, x, _, r => by simp only [Rep] at r ⊢; exact RepD_mono k.C r
  | .agg l, x, u, r => by
    simp only [Rep] at r ⊢
    obtain ⟨cs, rfl, r⟩ := r
    exact ⟨cs, rfl, RepVs_keep k l _ (by simpa only [V.und] using u) r⟩
  | .tup l, x, u, r => by
    simp only [Rep] at r ⊢
    obtain ⟨cs, rfl, r⟩ := r
    exact ⟨cs, rfl, RepTs_keep k l _ (by simpa only [V.und] using u) r⟩
  | .nils, x, _, r => by simpa only [Rep] using r
  | .row id len, x, u, r => by
    simp only [Rep] at r ⊢
    obtain ⟨a, cap, sz, l, rfl, ho, r1, r2⟩ := r
    simp only [V.und, decide_eq_true_eq] at u
    obtain ⟨l', h1, h2, h3⟩ := k.row id sz l u ho
    have hp := h2.length_le
    refine ⟨a, cap, sz, l', rfl, h1, by omega, fun he => ?_⟩
    have e := h3 (by omega)
    rcases r2 (by omega) with q | ⟨b, q1, q2⟩
    · exact .inl q
    · exact .inr ⟨b, e _ q1, q2⟩
  | .arr id off len, x, u, r => by
    simp only [Rep] at r ⊢
    obtain ⟨⟨o, ho, hr⟩, b, c, cap, h1, rfl, hlc⟩ := r
    simp only [V.und, decide_eq_true_eq] at u
    obtain ⟨e, q⟩ := k.obj id o u ho hr
    exact ⟨q, b, c, cap, e _ h1, rfl, hlc⟩
  | .ptr id off, x, u, r => by
    simp only [Rep] at r ⊢
    obtain ⟨⟨o, ho, hr⟩, b, c, h1, rfl⟩ := r
    simp only [V.und, decide_eq_true_eq] at u
    obtain ⟨e, q⟩ := k.obj id o u ho hr
    exact ⟨q, b, c, e _ h1, rfl⟩
  | .mp id, x, u, r => by
    simp only [Rep] at r ⊢
    obtain ⟨⟨o, ho, hr⟩, b, c, h1, rfl⟩ := r
    simp only [V.und, decide_eq_true_eq] at u
    obtain ⟨e, q⟩ := k.obj id o u ho hr
    exact ⟨q, b, c, e _ h1, rfl⟩
  | .ro l off, x, _, r => by
    simp only [Rep] at r ⊢
    obtain ⟨b, o, vs, rfl, h1, h2⟩ := r
    exact ⟨b, o, vs, rfl, h1.trans (prefix_drop (k.C b) o), RepDs_mono k.C _ _ h2⟩
  | .fn f c, x, u, r => by
    simp only [Rep] at r ⊢
    obtain ⟨cs, rfl, r⟩ := r
    exact ⟨cs, rfl, RepTs_keep k c _ (by simpa only [V.und] using u) r⟩
  | .nul, x, _, r => by simpa only [Rep] using r
  | .nof, x, _, r => by simpa only [Rep] using r
  | .ifc _, x, _, r => by simpa only [Rep] using r
  | .undef, x, _, r => by simp only [Rep]
theorem RepVs_keep (k : KeepW n g H g' H') : ∀ (l : List V) (vs : List Value), undL n l = true → RepVs g H l vs → RepVs g' H' l vs
  | [], _, _, r => r
  | v :: l, vs, u, r => by
    simp only [RepVs] at r ⊢
    simp only [undL, Bool.and_eq_true] at u
    obtain ⟨y, ys, rfl, h1, h2, h3⟩ := r
    exact ⟨y, ys, rfl, h1, Rep_keep k v y u.1 h2, RepVs_keep k l ys u.2 h3⟩
theorem RepTs_keep (k : KeepW n g H g' H') : ∀ (l : List V) (vs : List Value), undL n l = true → RepTs g H l vs → RepTs g' H' l vs
  | [], _, _, r => r
  | v :: l, vs, u, r => by
    simp only [RepTs] at r ⊢
    simp only [undL, Bool.and_eq_true] at u
    obtain ⟨y, ys, rfl, h2, h3⟩ := r
    exact ⟨y, ys, rfl, Rep_keep k v y u.1 h2, RepTs_keep k l ys u.2 h3⟩
end
end
end Go.Vm
namespace Go.Vm

def Clean (n : Nat) (H : Hp) : Prop := ∀ i c, i < n → H[i]? = some (.box c) → undL n c = true

def RepM (C : Nat → List Value) (l : List (D × D)) (es : List MapEntry) : Prop := es.length = l.length ∧ ∀ (i : Nat) p e, l[i]? = some p → es[i]? = some e → RepD C p.1 e.key ∧ RepD C p.2 e.val ∧ e.born = i

def ObOk (g : Gh) (H : Hp) (w : World) (b cap : Nat) : Ob → Prop
  | .box c => ∃ cur e, w.heap[b]? = some (.cells cur e (0, 0)) ∧ RepVs g H c cur.toList ∧ g.C b = []
  | .frz c => RepDs g.C c (g.C b)
  | .map l => (∃ es : Array MapEntry, w.heap[b]? = some (.map es l.length) ∧ RepM g.C l es.toList) ∧ g.C b = []
  | .row sz l => ∃ cur e, w.heap[b]? = some (.cells cur e (0, 0)) ∧ RepEl g.C sz l (g.C b) ∧ 0 < sz ∧ l.length ≤ cap ∧ cur.size = cap * sz ∧ cap ≤ maxLen

def FixOk (cx : Cx) (g : Gh) (w : World) : Prop := ∀ i o, cx.fx i = some o → w.heap[i]? = some o ∧ ∀ k c, g.J k ≠ some (i, c)

structure Inv (cx : Cx) (g : Gh) (H : Hp) (w : World) : Prop where
  inj : ∀ i k b c c', g.J i = some (b, c) → g.J k = some (b, c') → i = k
  dom : ∀ i b c, g.J i = some (b, c) → i < H.length ∧ b < w.heap.size
  ob : ∀ i b c o, g.J i = some (b, c) → H[i]? = some o → ObOk g H w b c o
  imm : ∀ b, g.C b ≠ [] → ∃ cur e fz, w.heap[b]? = some (.cells cur e fz) ∧ g.C b <+: cur.toList
  und : Clean H.length H
  glob : ∀ i, ∃ vs, vs <+: g.C i ∧ RepDs g.C (cx.gv i) vs
  fix : FixOk cx g w

theorem FixOk.mono {cx : Cx} {g g' : Gh} {w w' : World} (h : FixOk cx g w) (hh : ∀ b, b < w.heap.size → (∀ k c, g.J k ≠ some (b, c)) → w'.heap[b]? = w.heap[b]? ∧ ∀ k c, g'.J k ≠ some (b, c)) : FixOk cx g' w' := fun i o hi => by
  obtain ⟨h1, h2⟩ := h i o hi
  obtain ⟨h3, h4⟩ := hh i (Array.getElem?_eq_some_iff.1 h1).1 h2
  exact ⟨h3.trans h1, h4⟩

structure Ext (nb : Nat) (g : Gh) (H : Hp) (w : World) (g' : Gh) (H' : Hp) (w' : World) : Prop where
  os : w'.os = w.os
  tape : w'.tape = w.tape
  output : w'.output = w.output
  size : w.heap.size ≤ w'.heap.size
  frame : ∀ b, b < w.heap.size → (∀ i c, g.J i ≠ some (b, c)) → w'.heap[b]? = w.heap[b]? ∧ g'.C b = g.C b
  keep : Keep H.length g H g' H'
  jnew : ∀ i b c, g'.J i = some (b, c) → b < w.heap.size → ∃ k c', g.J k = some (b, c')
  clean : ∀ n, n ≤ nb → Clean n H → Clean n H'
  len : H.length ≤ H'.length

theorem Ext.refl (nb : Nat) (g : Gh) (H : Hp) (w : World) : Ext nb g H w g H w :=
  ⟨rfl, rfl, rfl, Nat.le_refl _, fun _ _ _ => ⟨rfl, rfl⟩, Keep.refl _ _ _, fun i _ c h _ => ⟨i, c, h⟩, fun _ _ h => h, Nat.le_refl _⟩

theorem Ext.trans {nb nb' : Nat} {g g1 g2 : Gh} {H H1 H2 : Hp} {w w1 w2 : World} (h : Ext nb g H w g1 H1 w1) (k : Ext nb' g1 H1 w1 g2 H2 w2) (hb : nb ≤ nb') : Ext nb g H w g2 H2 w2 := by
  refine ⟨k.os.trans h.os, k.tape.trans h.tape, k.output.trans h.output, Nat.le_trans h.size k.size, fun b hb hj => ?_, h.keep.trans k.keep h.len, fun i b c hi hlt => ?_, fun n hn hc => k.clean n (by omega) (h.clean n hn hc), Nat.le_trans h.len k.len⟩
  · obtain ⟨a1, a2⟩ := h.frame b hb hj
    obtain ⟨b1, b2⟩ := k.frame b (Nat.lt_of_lt_of_le hb h.size) (fun i c hi => by
      obtain ⟨k', c', hk⟩ := h.jnew i b c hi hb
      exact hj k' c' hk)
    exact ⟨b1.trans a1, b2.trans a2⟩
  · obtain ⟨k1, c1, h1⟩ := k.jnew i b c hi (Nat.lt_of_lt_of_le hlt h.size)
    exact h.jnew k1 b c1 h1 hlt

theorem Ext.le {nb nb' : Nat} {g g' : Gh} {H H' : Hp} {w w' : World} (h : Ext nb g H w g' H' w') (hn : nb' ≤ nb) : Ext nb' g H w g' H' w' :=
  ⟨h.os, h.tape, h.output, h.size, h.frame, h.keep, h.jnew, fun n hn' => h.clean n (by omega), h.len⟩

def EnvOk (g : Gh) (H : Hp) (N : Nat) (e : Env) (t : Array Value) : Prop :=
  t.size = N ∧ ∀ i, i < N → Rep g H (getE e i) (t.getD i undef) ∧ (getE e i).und H.length = true

mutual
theorem V.und_le {n m : Nat} (h : n ≤ m) : ∀ v : V, v.und n = true → v.und m = true
  | .d _, _ => rfl
  | .agg l, u => by simp only [V.und] at u ⊢; exact undL_le h l u
  | .tup l, u => by simp only [V.und] at u ⊢; exact undL_le h l u
  | .nils, _ => rfl
  | .row id _, u => by simp only [V.und, decide_eq_true_eq] at u ⊢; omega
  | .arr id _ _, u => by simp only [V.und, decide_eq_true_eq] at u ⊢; omega
  | .ptr id _, u => by simp only [V.und, decide_eq_true_eq] at u ⊢; omega
  | .mp id, u => by simp only [V.und, decide_eq_true_eq] at u ⊢; omega
  | .ro _ _, _ => rfl
  | .fn _ l, u => by simp only [V.und] at u ⊢; exact undL_le h l u
  | .nul, _ => rfl
  | .nof, _ => rfl
  | .ifc _, _ => rfl
  | .undef, _ => rfl
theorem undL_le {n m : Nat} (h : n ≤ m) : ∀ l : List V, undL n l = true → undL m l = true
  | [], _ => rfl
  | v :: l, u => by
    simp only [undL, Bool.and_eq_true] at u ⊢
    exact ⟨V.und_le h v u.1, undL_le h l u.2⟩
end

theorem EnvOk.ext {nb : Nat} {g g' : Gh} {H H' : Hp} {w w' : World} {N : Nat} {e : Env} {t : Array Value} (h : EnvOk g H N e t) (x : Ext nb g H w g' H' w') : EnvOk g' H' N e t :=
  ⟨h.1, fun i hi => ⟨Rep_keep x.keep.w _ _ (h.2 i hi).2 (h.2 i hi).1, V.und_le x.len _ (h.2 i hi).2⟩⟩

def setT (d : Option Nat) (x : Value) (t : Array Value) : Array Value := match d with | some d => t.setIfInBounds d x | none => t

theorem EnvOk.put {g : Gh} {H : Hp} {N : Nat} {e : Env} {t : Array Value} (h : EnvOk g H N e t) {d : Option Nat} {v : V} {x : Value} (hd : ∀ k, d = some k → k < N) (hr : Rep g H v x) (hu : v.und H.length = true) :
    EnvOk g H N (putE d v e) (setT d x t) := by
  cases d with
  | none => exact h
  | some k =>
    simp only [setT]
    refine ⟨by simpa using h.1, fun i hi => ?_⟩
    have hk := hd k rfl
    simp only [putE, getE]
    by_cases hki : k = i
    · subst hki
      rw [if_pos rfl]
      have : (t.setIfInBounds k x).getD k undef = x := by simp [Array.getD, h.1, hi]
      rw [this]
      exact ⟨hr, hu⟩
    · rw [if_neg hki]
      have : (t.setIfInBounds k x).getD i undef = t.getD i undef := by
        simp only [Array.getD_eq_getD_getElem?, Array.getElem?_setIfInBounds]
        rw [if_neg hki]
      rw [this]
      exact h.2 i hi

end Go.Vm
