import Derived.Test.YtlcaoocfajkljaaDoorVmOps
namespace Go.Vm
section
variable {P : Program} {cx : Cx} {nb : Nat} {g : Gh} {H : Hp} {w : World}

/-! Operands. -/
theorem constV_rep {x : Value} {v : V} (h : constV x = some v) : Rep g H v x ∧ v.und 0 = true ∧ v.one = true := by
  unfold constV at h
  split at h <;> first | cases h | skip
  · exact ⟨by simp [Rep, RepD, RepCs], rfl, rfl⟩
  · exact ⟨by simp [Rep, RepD, RepCs], rfl, rfl⟩
  · rename_i s
    refine ⟨?_, rfl, rfl⟩
    simp only [Rep, RepD, RepCs]
  · exact ⟨by simp [Rep], rfl, rfl⟩
  · exact ⟨by simp [Rep], rfl, rfl⟩
  · exact ⟨by simp [Rep], rfl, rfl⟩

theorem constVs_rep : ∀ {xs : List Value} {l : List V}, constVs xs = some l → RepVs g H l xs ∧ undL 0 l = true
  | [], l, h => by simp only [constVs, Option.some.injEq] at h; subst h; exact ⟨by simp [RepVs], rfl⟩
  | x :: xs, l, h => by
    simp only [constVs] at h
    split at h
    · rename_i v vs hv hvs
      simp only [Option.some.injEq] at h
      subst h
      obtain ⟨h1, h2, h3⟩ := constV_rep (g := g) (H := H) hv
      obtain ⟨h4, h5⟩ := constVs_rep hvs
      exact ⟨by simp only [RepVs]; exact ⟨x, xs, rfl, h3, h1, h4⟩, by simp only [undL, h2, h5, Bool.and_self]⟩
    · cases h

theorem opd_ok {N : Nat} {e : Env} {a : Act} (hI : Inv cx g H w) (hE : EnvOk g H N e a.tmps) {x : Operand} {vx : Opd} (h : opdV x = some vx) (hl : vx.lt N = true) :
    Rep g H (evO cx e vx) (a.eval x) ∧ (evO cx e vx).und H.length = true := by
  unfold opdV at h
  split at h
  · rename_i t
    simp only [Option.some.injEq] at h
    subst h
    exact hE.2 t (by simpa [Opd.lt] using hl)
  · rename_i c
    obtain ⟨l, hl', rfl⟩ := Option.map_eq_some_iff.1 h
    obtain ⟨h1, h2⟩ := constVs_rep (g := g) (H := H) hl'
    have := mkAgg_rep h1
    refine ⟨?_, V.und_le (Nat.zero_le _) _ (mkAgg_und h2)⟩
    simpa [evO, Act.eval] using this
  · rename_i v _
    obtain ⟨q, hq, rfl⟩ := Option.map_eq_some_iff.1 h
    obtain ⟨h1, h2, _⟩ := constV_rep (g := g) (H := H) hq
    exact ⟨h1, V.und_le (Nat.zero_le _) _ h2⟩
  · rename_i i
    simp only [Option.some.injEq] at h
    subst h
    obtain ⟨vs, h1, h2⟩ := hI.glob i
    refine ⟨?_, rfl⟩
    simp only [evO, Rep, Act.eval]
    exact ⟨i, 0, vs, rfl, by simpa using h1, h2⟩
  · simp only [Option.some.injEq] at h
    subst h
    refine ⟨?_, rfl⟩
    simp only [evO, Rep, Act.eval]
    exact ⟨#[], rfl, by simp [RepTs]⟩

theorem opds_ok {N : Nat} {e : Env} {a : Act} (hI : Inv cx g H w) (hE : EnvOk g H N e a.tmps) : ∀ {xs : List Operand} {vs : List Opd}, opdVs xs = some vs → vs.all (Opd.lt N) = true →
    RepTs g H (vs.map (evO cx e)) (xs.map a.eval) ∧ undL H.length (vs.map (evO cx e)) = true
  | [], vs, h, _ => by simp only [opdVs, Option.some.injEq] at h; subst h; exact ⟨by simp [RepTs], rfl⟩
  | x :: xs, vs, h, hl => by
    simp only [opdVs] at h
    split at h
    · rename_i v vs' hv hvs
      simp only [Option.some.injEq] at h
      subst h
      simp only [List.all_cons, Bool.and_eq_true] at hl
      obtain ⟨h1, h2⟩ := opd_ok hI hE hv hl.1
      obtain ⟨h3, h4⟩ := opds_ok hI hE hvs hl.2
      exact ⟨by simp only [List.map_cons, RepTs]; exact ⟨_, _, rfl, h1, h3⟩, by simp only [List.map_cons, undL, h2, h4, Bool.and_self]⟩
    · cases h

theorem RepTs_args (hI : Inv cx g H w) : ∀ {l : List V} {vs : List Value}, RepTs g H l vs → RepTs g H (l.map (toArg H)) vs
  | [], vs, r => by simpa only [RepTs, List.map_nil] using r
  | v :: l, vs, r => by
    simp only [RepTs, List.map_cons] at r ⊢
    obtain ⟨y, ys, rfl, h1, h2⟩ := r
    exact ⟨y, ys, rfl, toArg_rep hI h1, RepTs_args hI h2⟩

theorem undL_args {n : Nat} : ∀ {l : List V}, undL n l = true → undL n (l.map (toArg H)) = true
  | [], _ => rfl
  | v :: l, u => by
    simp only [undL, List.map_cons, Bool.and_eq_true] at u ⊢
    exact ⟨toArg_und u.1, undL_args u.2⟩

theorem RepTs_append : ∀ {l l' : List V} {vs vs' : List Value}, RepTs g H l vs → RepTs g H l' vs' → RepTs g H (l ++ l') (vs ++ vs')
  | [], l', vs, vs', r, r' => by simp only [RepTs] at r; subst r; exact r'
  | v :: l, l', vs, vs', r, r' => by
    simp only [RepTs] at r
    obtain ⟨y, ys, rfl, h1, h2⟩ := r
    simp only [List.cons_append, RepTs]
    exact ⟨y, ys ++ vs', rfl, h1, RepTs_append h2 r'⟩

theorem undL_append {n : Nat} : ∀ {l l' : List V}, undL n l = true → undL n l' = true → undL n (l ++ l') = true
  | [], l', _, u' => u'
  | v :: l, l', u, u' => by
    simp only [undL, List.cons_append, Bool.and_eq_true] at u ⊢
    exact ⟨u.1, undL_append u.2 u'⟩

/-! Numbers, texts, truths. -/
theorem rep_int {k : IntKind} {n : Int} {x : Value} (r : Rep g H (.d (.int k n)) x) : x = .int k n := by simp only [Rep, RepD, RepCs] at r; cases r; rfl
theorem rep_bool {b : Bool} {x : Value} (r : Rep g H (.d (.bool b)) x) : x = .bool b := by simp only [Rep, RepD, RepCs] at r; cases r; rfl
theorem rep_str {s : List UInt8} {x : Value} (r : Rep g H (.d (.str s)) x) : x = .string ⟨s.toArray⟩ := by simp only [Rep, RepD, RepCs] at r; cases r; rfl
theorem int_rep (k : IntKind) (n : Int) : Rep g H (.d (.int k n)) (.int k n) := by simp [Rep, RepD, RepCs]
theorem bool_rep (b : Bool) : Rep g H (.d (.bool b)) (.bool b) := by simp [Rep, RepD, RepCs]
theorem str_rep (s : List UInt8) : Rep g H (.d (.str s)) (.string ⟨s.toArray⟩) := by simp [Rep, RepD, RepCs]

theorem binV_ok {op : BinOp} {vx vy r : V} {x y : Value} (t : TypeId) (h : binV op vx vy = some r) (rx : Rep g H vx x) (ry : Rep g H vy y) (tx ty : Operand) :
    ∃ z, (do eqGuard op t tx ty x y; binOp op t x y : Sem Value).run P w = .ok z w ∧ Rep g H r z ∧ r.und H.length = true := by
  unfold binV at h
  split at h
  · rename_i k a k' b
    obtain rfl := rep_int rx
    obtain rfl := rep_int ry
    have hg : ∀ op, (eqGuard op t tx ty (.int k a) (.int k' b)).run P w = .ok () w := by
      intro op; cases op <;> simp [eqGuard]
    simp only [Sem.run_bind, hg, Result.andThen_ok]
    cases op <;> simp only at h
    case shl =>
      split at h <;> cases h
      refine ⟨_, ?_, int_rep _ _, rfl⟩
      simp [binOp, Op.shift]; omega
    case shr =>
      split at h <;> cases h
      refine ⟨_, ?_, int_rep _ _, rfl⟩
      simp [binOp, Op.shift]; omega
    case and | or | xor | andNot =>
      split at h
      · rename_i hk; subst hk
        simp only [bitsI, Option.map_some, Option.some.injEq] at h
        subst h
        exact ⟨_, by simp [binOp, Op.intBits], int_rep _ _, rfl⟩
      · cases h
    case quo | rem =>
      split at h <;> cases h
      rename_i hk
      obtain ⟨rfl, hb⟩ := hk
      exact ⟨_, by simp [binOp, Op.intDiv, hb], int_rep _ _, rfl⟩
    case add | sub | mul =>
      split at h <;> cases h
      rename_i hk; subst hk
      exact ⟨_, by simp [binOp, Op.intArith], int_rep _ _, rfl⟩
    all_goals
      split at h <;> cases h
      rename_i hk; subst hk
      exact ⟨_, by simp [binOp, Op.intCmp], bool_rep _, rfl⟩
  · rename_i a b
    obtain rfl := rep_str rx
    obtain rfl := rep_str ry
    have hg : ∀ op, (eqGuard op t tx ty (.string ⟨a.toArray⟩) (.string ⟨b.toArray⟩)).run P w = .ok () w := by
      intro op; cases op <;> simp [eqGuard]
    simp only [Sem.run_bind, hg, Result.andThen_ok]
    cases op <;> simp only at h <;> first | cases h | skip
    case add =>
      split at h <;> cases h
      rename_i hl
      refine ⟨.string ⟨(a ++ b).toArray⟩, ?_, str_rep _, rfl⟩
      have hs : ¬ ((((⟨a.toArray⟩ : ByteArray).size + (⟨b.toArray⟩ : ByteArray).size : Nat) : Int) > IntKind.i64.max) := by
        simp [ByteArray.size, IntKind.max, IntKind.signed, IntKind.bits]; omega
      simp only [binOp, Op.stringOp, if_neg hs, Sem.run_pure]
      first | (congr 2; done) | (congr 2; apply ByteArray.ext; simp)
    · exact ⟨.bool (a == b), by simp [binOp, Op.stringOp], bool_rep _, rfl⟩
    · exact ⟨.bool (!(a == b)), by simp [binOp, Op.stringOp], bool_rep _, rfl⟩
  · cases h
end
end Go.Vm
