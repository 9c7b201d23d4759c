import Derived.Test.YtlcaoocfajkljaaDoorVmDraw
import Derived.Orders
namespace Go.Vm
section
variable {P : Program} {cx : Cx} {g : Gh} {w : World} {H : Hp}

theorem keepW_grow (g : Gh) (H l : Hp) : KeepW H.length g H g (H ++ l) :=
  ⟨fun _ => List.prefix_refl _, fun i o hi ho hr => ⟨fun _ h => h, o, by rw [List.getElem?_append_left hi]; exact ho, hr⟩, fun i sz l' hi ho => ⟨l', by rw [List.getElem?_append_left hi]; exact ho, List.prefix_refl _, fun _ _ h => h⟩⟩

/-- What is known of a heap's foot. -/
def Gh.cut (g : Gh) (n : Nat) : Gh := ⟨fun i => if i < n then g.J i else none, g.C⟩

theorem cut_some {n i : Nat} {p : Nat × Nat} (h : (g.cut n).J i = some p) : i < n ∧ g.J i = some p := by
  simp only [Gh.cut] at h
  split at h
  · exact ⟨by assumption, h⟩
  · cases h

theorem cut_lt {n i : Nat} (h : i < n) : (g.cut n).J i = g.J i := if_pos h

theorem keepW_cut (g : Gh) (H : Hp) (n : Nat) : KeepW n g H (g.cut n) (H.take n) := by
  refine ⟨fun _ => List.prefix_refl _, fun i o hi ho hr => ⟨fun p h => by rw [cut_lt hi]; exact h, o, ?_, hr⟩, fun i sz l hi ho => ⟨l, ?_, List.prefix_refl _, fun _ p h => by rw [cut_lt hi]; exact h⟩⟩ <;>
  rw [List.getElem?_take, if_pos hi] <;> exact ho

theorem Inv.restrict (hI : Inv cx g H w) {n : Nat} (hn : n ≤ H.length) (hc : Clean n H) : Inv cx (g.cut n) (H.take n) w := by
  refine ⟨fun i k b c c' h1 h2 => hI.inj i k b c c' (cut_some h1).2 (cut_some h2).2, fun i b c h => ?_, fun i b c o h ho => ?_, hI.imm, ?_, hI.glob⟩
  · obtain ⟨h1, h2⟩ := cut_some h
    exact ⟨by rw [List.length_take]; omega, (hI.dom i b c h2).2⟩
  · obtain ⟨h1, h2⟩ := cut_some h
    rw [List.getElem?_take, if_pos h1] at ho
    exact (hI.ob i b c o h2 ho).ext (keepW_cut g H n) rfl rfl (by rintro c rfl; exact hc i c h1 ho)
  · intro i c hi ho
    rw [List.length_take, Nat.min_eq_left hn] at hi ⊢
    rw [List.getElem?_take, if_pos hi] at ho
    exact hc i c hi ho

theorem Inv.drawn (hI : Inv cx g H w) (d : Nat) : Inv cx g H { w with drawn := d } :=
  ⟨hI.inj, hI.dom, fun i b c o h1 h2 => (hI.ob i b c o h1 h2), hI.imm, hI.und, hI.glob⟩

theorem Ext.drawn {nb : Nat} {g' : Gh} {H' : Hp} {w' : World} {d : Nat} (h : Ext nb g H { w with drawn := d } g' H' w') : Ext nb g H w g' H' w' :=
  ⟨h.os, h.tape, h.output, h.size, h.frame, h.keep, h.jnew, h.clean, h.len⟩

theorem grew_iff {h h' : Hp} (x : grew h h' = true) : ∃ l, h' = h ++ l ∧ newOk h'.length l = true := by
  unfold grew at x
  simp only [Bool.and_eq_true, decide_eq_true_eq] at x
  obtain ⟨⟨l, rfl⟩, h2⟩ := x
  rw [List.drop_left] at h2
  exact ⟨l, rfl, h2⟩

theorem newOk_get {n : Nat} : ∀ {l : Hp} {i : Nat} {c : List V}, newOk n l = true → l[i]? = some (.box c) → undL n c = true
  | [], i, c, _, h => by simp at h
  | o :: l, 0, c, h, ho => by
    simp only [List.getElem?_cons_zero, Option.some.injEq] at ho
    subst ho
    simp only [newOk, Bool.and_eq_true] at h
    exact h.1
  | o :: l, i + 1, c, h, ho => by
    have h' : newOk n l = true := by
      cases o <;> simp only [newOk, Bool.and_eq_true] at h <;> first | exact h.2 | exact h
    exact newOk_get h' (by simpa using ho)

theorem clean_le {n m : Nat} (h : Clean n H) (hn : n ≤ m) (l : Hp) (hl : H.length = n) (ho : newOk m l = true) : Clean m (H ++ l) := by
  intro i c hi hb
  by_cases hin : i < n
  · rw [List.getElem?_append_left (by omega)] at hb
    exact undL_le hn _ (h i c hin hb)
  · rw [List.getElem?_append_right (by omega)] at hb
    exact newOk_get ho hb

/-- What the trace of a region's free part keeps. -/
structure Good (N m : Nat) (s : St) (τ : Nat → St) : Prop where
  clean : ∀ i, i ≤ m → Clean (τ i).h.length (τ i).h
  und : ∀ i, i ≤ m → ∀ k, k < N → (getE (τ i).e k).und (τ i).h.length = true
  b : ∀ i, i ≤ m → (τ i).b = s.b
  grow : ∀ i k, i ≤ k → k ≤ m → ∃ l, (τ k).h = (τ i).h ++ l

theorem trace_good {orc : Orc} {N m : Nat} {vs : List VOper} {s : St} {τ : Nat → St} {val : Nat → V} (T : Trace cx orc m vs s τ val) (hm : m ≤ vs.length)
    (hc : Clean s.h.length s.h) (hu : ∀ k, k < N → (getE s.e k).und s.h.length = true) : Good N m s τ := by
  have key : ∀ i, i ≤ m → Clean (τ i).h.length (τ i).h ∧ (∀ k, k < N → (getE (τ i).e k).und (τ i).h.length = true) ∧ (τ i).b = s.b := by
    intro i
    induction i with
    | zero => intro _; rw [T.zero]; exact ⟨hc, hu, rfl⟩
    | succ i ih =>
      intro hi
      obtain ⟨a1, a2, a3⟩ := ih (by omega)
      obtain ⟨b1, b2, b3, b4⟩ := T.step i vs[i] (by omega) (List.getElem?_eq_getElem (by omega))
      obtain ⟨l, hl, hn⟩ := grew_iff b3
      have hle : (τ i).h.length ≤ (τ (i + 1)).h.length := by rw [hl]; simp
      refine ⟨?_, ?_, by rw [evOper_b b1, a3]⟩
      · rw [hl] at hn ⊢
        exact clean_le a1 (by simp) l rfl hn
      · intro k hk
        by_cases hd : vs[i].dst = some k
        · unfold dstOk at b4
          rw [hd] at b4
          exact b4
        · rw [b2, getE_putE, if_neg hd]
          exact V.und_le hle _ (a2 k hk)
  refine ⟨fun i hi => (key i hi).1, fun i hi => (key i hi).2.1, fun i hi => (key i hi).2.2, fun i k hik => ?_⟩
  induction hik with
  | refl => intro _; exact ⟨[], by simp⟩
  | step hik ih =>
    rename_i k
    intro hk
    obtain ⟨l, hl⟩ := ih (by omega)
    obtain ⟨b1, b2, b3, b4⟩ := T.step k vs[k] (by omega) (List.getElem?_eq_getElem (by omega))
    obtain ⟨l', hl', _⟩ := grew_iff b3
    exact ⟨l ++ l', by rw [hl', hl, List.append_assoc]⟩

/-- Some of the free operations have been run, in some order. -/
structure Dst (cx : Cx) (N m : Nat) (τ : Nat → St) (dst : Nat → Option Nat) (val : Nat → V) (g0 : Gh) (s : St) (w0 : World) (L : Nat → Bool) (g : Gh) (a : Act) (w : World) : Prop where
  inv : Inv cx g (τ m).h w
  size : a.tmps.size = N
  env : ∀ k, k < N → Rep g (τ m).h (getE (envAt L dst val s.e m) k) (a.tmps.getD k undef)
  defers : a.defers = []
  ext : Ext s.b g0 s.h w0 g (τ m).h w
  unl : ∀ i, i < m → L i = false → ∀ id, (τ i).h.length ≤ id → id < (τ (i + 1)).h.length → g.J id = none

theorem ext_same {nb : Nat} {g' : Gh} {H' : Hp} {w' : World} {l : Hp} (e : Ext nb g H w g' H' w') (hl : H' = H ++ l) {i : Nat} (hi : i < H.length) : g'.J i = g.J i := by
  have hg : H[i]? = some H[i] := List.getElem?_eq_getElem hi
  have hg' : H'[i]? = some H[i] := by rw [hl, List.getElem?_append_left hi]; exact hg
  cases ho : H[i] with
  | row sz r =>
    rw [ho] at hg hg'
    obtain ⟨l', h1, h2, h3⟩ := e.keep.row i sz r hi hg
    rw [hg'] at h1
    cases h1
    exact h3 rfl
  | box c => rw [ho] at hg; exact (e.keep.obj i _ hi hg (by simp)).1
  | frz c => rw [ho] at hg; exact (e.keep.obj i _ hi hg (by simp)).1

theorem mem_names_dst {o : VOper} {k : Nat} (h : o.dst = some k) : k ∈ o.names := by simp [VOper.names, h]

/-- One more free operation. -/
theorem dst_step {orc : Orc} (hS : SOrc P cx orc) {N m : Nat} {vs : List VOper} {s : St} {τ : Nat → St} {val : Nat → V} (T : Trace cx orc m vs s τ val) (G : Good N m s τ) (hsb : s.b ≤ s.h.length)
    {ops : Array Oper} {i : Nat} (him : i < m) {co : Oper} (hco : ops[i]? = some co) {o : VOper} (ho : vs[i]? = some o) (ht : trOper P ops co = some o) (hok : o.okN N = true)
    {dst : Nat → Option Nat} (hdst : dst i = o.dst) (hdm : ∀ n o', vs[n]? = some o' → dst n = o'.dst) (hml : m ≤ vs.length) {L L' : Nat → Bool} (hL : L i = false) (hL' : L' i = true) (hLo : ∀ k, k ≠ i → L' k = L k)
    (hA : ∀ t ∈ o.names, (∀ n, n < i → dst n = some t → L n = true) ∧ (∀ n, i < n → n < m → dst n = some t → L n = false))
    {g0 : Gh} {w0 : World} {a : Act} (D : Dst cx N m τ dst val g0 s w0 L g a w) {Q : Exit → Act → World → Prop} {K : Act → World → Prop}
    (hk : ∀ g' a' w', Dst cx N m τ dst val g0 s w0 L' g' a' w' → K a' w') : wpOp P ops Q i K a w := by
  obtain ⟨s1, s2, s3, s4⟩ := T.step i o him ho
  have hlen : ∀ j, j ≤ m → (τ j).h.length ≤ (τ m).h.length := fun j hj => by
    obtain ⟨l, hl⟩ := G.grow j m hj (Nat.le_refl _)
    rw [hl]; simp
  obtain ⟨lm, hlm⟩ := G.grow i m (by omega) (Nat.le_refl _)
  obtain ⟨ln, hln⟩ := G.grow (i + 1) m (by omega) (Nat.le_refl _)
  obtain ⟨l1, hl1⟩ := G.grow i (i + 1) (by omega) (by omega)
  have hle1 : (τ i).h.length ≤ (τ (i + 1)).h.length := by rw [hl1]; simp
  have htk : (τ m).h.take (τ i).h.length = (τ i).h := by rw [hlm]; simp
  have he : ∀ n, n ≤ m → envAt (fun _ => true) dst val s.e n = (τ n).e := envAt_all (by rw [T.zero]) (fun n hn => by
    obtain ⟨_, q, _⟩ := T.step n vs[n] hn (List.getElem?_eq_getElem (by omega))
    rw [q, hdm n _ (List.getElem?_eq_getElem (by omega))]) (fun _ _ => rfl)
  -- the slots that are named
  have hname : ∀ t ∈ o.names, getE (envAt L dst val s.e m) t = getE (τ i).e t := by
    intro t htn
    obtain ⟨q1, q2⟩ := hA t htn
    have e1 : getE (envAt L dst val s.e m) t = getE (envAt L dst val s.e i) t := by
      have := envAt_skip (L := L) (dst := dst) (val := val) (e0 := s.e) (t := t) (i := i) (m - i) fun k h1 h2 h3 => by
        by_cases hki : k = i
        · subst hki; exact hL
        · exact q2 k (by omega) (by omega) h3
      rwa [show i + (m - i) = m by omega] at this
    rw [e1, ← he i (by omega)]
    exact envAt_congr i fun k h1 h2 => by rw [q1 k h1 h2]
  obtain ⟨x, hx1, hx2⟩ := evOper_congr (e' := keepE o.names (τ i).e) (fun t htn => by rw [getE_keepE, if_pos htn]) s1
  have hbi : (τ i).b = s.b := G.b i (by omega)
  have hInv0 : Inv cx (g.cut (τ i).h.length) (τ i).h w := by
    have := D.inv.restrict (n := (τ i).h.length) (hlen i (by omega)) (by
      intro k c hk hb
      have := G.clean i (by omega) k c hk
      rw [hlm, List.getElem?_append_left hk] at hb
      exact this hb)
    rwa [htk] at this
  have hcutW : KeepW (τ i).h.length g (τ m).h (g.cut (τ i).h.length) (τ i).h := by
    have := keepW_cut g (τ m).h (τ i).h.length
    rwa [htk] at this
  have hok0 : StOk cx N (g.cut (τ i).h.length) ⟨keepE o.names (τ i).e, (τ i).h, (τ i).b⟩ a w := by
    refine ⟨hInv0, ⟨D.size, fun k hk => ?_⟩, D.defers, ?_⟩
    · rw [getE_keepE]
      by_cases hkn : k ∈ o.names
      · rw [if_pos hkn]
        have hu := G.und i (by omega) k hk
        refine ⟨Rep_keep hcutW _ _ hu ?_, hu⟩
        rw [← hname k hkn]
        exact D.env k hk
      · rw [if_neg hkn]
        exact ⟨by simp [Rep], rfl⟩
    · rw [hbi]
      obtain ⟨l0, hl0⟩ := G.grow 0 i (by omega) (by omega)
      rw [T.zero] at hl0
      show s.b ≤ (τ i).h.length
      rw [hl0]; simp; omega
  refine oper_sound hS hco ht hok hx2 hok0 fun g' y w' ok' ext' => ?_
  have hdd := (trOper_parts ht).2.1
  have hkk := (okN_parts hok).1
  refine hk ⟨fun id => if id < (τ (i + 1)).h.length then g'.J id else g.J id, g'.C⟩ _ _ ?_
  generalize hg2 : (⟨fun id => if id < (τ (i + 1)).h.length then g'.J id else g.J id, g'.C⟩ : Gh) = g2
  have hlo : ∀ id, id < (τ (i + 1)).h.length → g2.J id = g'.J id := fun id h => by rw [← hg2]; exact if_pos h
  have hhi : ∀ id, (τ (i + 1)).h.length ≤ id → g2.J id = g.J id := fun id h => by rw [← hg2]; exact if_neg (by omega)
  have hC2 : g2.C = g'.C := by rw [← hg2]
  have hold : ∀ id, id < (τ i).h.length → g'.J id = g.J id := fun id h => by rw [ext_same ext' hl1 h, cut_lt h]
  have hnew : ∀ id, (τ i).h.length ≤ id → id < (τ (i + 1)).h.length → g.J id = none := D.unl i him hL
  have hCm : ∀ b, g.C b <+: g2.C b := fun b => by rw [hC2]; exact ext'.keep.C b
  have hkeepM : ∀ n, n ≤ (τ m).h.length → KeepW n g (τ m).h g2 (τ m).h := by
    intro n hn
    have hJ : ∀ id p, g.J id = some p → g2.J id = some p := by
      intro id p hp
      by_cases h1 : id < (τ i).h.length
      · rw [hlo id (by omega), hold id h1]; exact hp
      · by_cases h2 : id < (τ (i + 1)).h.length
        · rw [hnew id (by omega) h2] at hp; cases hp
        · rw [hhi id (by omega)]; exact hp
    exact ⟨hCm, fun id o hi ho hr => ⟨hJ id, o, ho, hr⟩, fun id sz l hi ho => ⟨l, ho, List.prefix_refl _, fun _ => hJ id⟩⟩
  have hkeep1 : KeepW (τ (i + 1)).h.length g' (τ (i + 1)).h g2 (τ m).h := by
    rw [hln]
    refine ⟨fun b => by rw [hC2]; exact List.prefix_refl _, fun id o hi ho hr => ⟨fun p hp => by rw [hlo id hi]; exact hp, o, by rw [List.getElem?_append_left hi]; exact ho, hr⟩, fun id sz l hi ho => ⟨l, by rw [List.getElem?_append_left hi]; exact ho, List.prefix_refl _, fun _ p hp => by rw [hlo id hi]; exact hp⟩⟩
  have hjn : ∀ id b c, g2.J id = some (b, c) → b < w.heap.size → ∃ k c', k < (τ m).h.length ∧ g.J k = some (b, c') ∧ ((id < (τ (i + 1)).h.length ∧ k < (τ i).h.length) ∨ ((τ (i + 1)).h.length ≤ id ∧ k = id)) := by
    intro id b c h hb
    by_cases h2 : id < (τ (i + 1)).h.length
    · rw [hlo id h2] at h
      obtain ⟨k, c', hk'⟩ := ext'.jnew id b c h hb
      obtain ⟨q1, q2⟩ := cut_some hk'
      exact ⟨k, c', (D.inv.dom k b c' q2).1, q2, .inl ⟨h2, q1⟩⟩
    · rw [hhi id (by omega)] at h
      exact ⟨id, c, (D.inv.dom id b c h).1, h, .inr ⟨by omega, rfl⟩⟩
  have hframe : ∀ b, b < w.heap.size → (∀ id c, id < (τ i).h.length → g.J id ≠ some (b, c)) → w'.heap[b]? = w.heap[b]? ∧ g2.C b = g.C b := by
    intro b hb hn
    rw [hC2]
    exact ext'.frame b hb fun id c h => hn id c (cut_some h).1 (cut_some h).2
  have hI2 : Inv cx g2 (τ m).h w' := by
    refine ⟨fun i1 i2 b c c' h1 h2 => ?_, fun id b c h => ?_, fun id b c ob h hob => ?_, fun b hb => ?_, D.inv.und, fun k => ?_⟩
    · by_cases a1 : i1 < (τ (i + 1)).h.length <;> by_cases a2 : i2 < (τ (i + 1)).h.length
      · rw [hlo _ a1] at h1; rw [hlo _ a2] at h2
        exact ok'.inv.inj _ _ _ _ _ h1 h2
      · rw [hhi i2 (by omega)] at h2
        have hb := (D.inv.dom _ _ _ h2).2
        obtain ⟨k, c'', _, q2, q3⟩ := hjn i1 b c h1 hb
        have := D.inv.inj _ _ _ _ _ q2 h2
        omega
      · rw [hhi i1 (by omega)] at h1
        have hb := (D.inv.dom _ _ _ h1).2
        obtain ⟨k, c'', _, q2, q3⟩ := hjn i2 b c' h2 hb
        have := D.inv.inj _ _ _ _ _ q2 h1
        omega
      · rw [hhi _ (by omega)] at h1 h2
        exact D.inv.inj _ _ _ _ _ h1 h2
    · by_cases a1 : id < (τ (i + 1)).h.length
      · rw [hlo _ a1] at h
        have := ok'.inv.dom _ _ _ h
        have := hlen (i + 1) (by omega)
        exact ⟨by omega, by omega⟩
      · rw [hhi _ (by omega)] at h
        have := D.inv.dom _ _ _ h
        exact ⟨this.1, Nat.lt_of_lt_of_le this.2 ext'.size⟩
    · by_cases a1 : id < (τ (i + 1)).h.length
      · rw [hlo _ a1] at h
        have hob' : (τ (i + 1)).h[id]? = some ob := by rw [hln, List.getElem?_append_left a1] at hob; exact hob
        exact (ok'.inv.ob id b c ob h hob').ext hkeep1 rfl (by rw [hC2]) (by rintro cc rfl; exact G.clean (i + 1) (by omega) id cc a1 hob')
      · rw [hhi _ (by omega)] at h
        have hd := D.inv.dom _ _ _ h
        obtain ⟨f1, f2⟩ := hframe b hd.2 fun k c' hk' hkc => by
          have := D.inv.inj _ _ _ _ _ hkc h
          omega
        exact (D.inv.ob id b c ob h hob).ext (hkeepM _ (Nat.le_refl _)) f1 f2 (by rintro cc rfl; exact G.clean m (Nat.le_refl _) id cc hd.1 hob)
    · rw [hC2] at hb ⊢
      exact ok'.inv.imm b hb
    · rw [hC2]
      exact ok'.inv.glob k
  have hundL : ∀ t, t < N → (getE (envAt L dst val s.e m) t).und (τ m).h.length = true := by
    intro t htN
    have : ∀ n, n ≤ m → (getE (envAt L dst val s.e n) t).und (τ m).h.length = true := by
      intro n
      induction n with
      | zero =>
        intro _
        have := G.und 0 (by omega) t htN
        rw [T.zero] at this
        have h0 := hlen 0 (by omega)
        rw [T.zero] at h0
        exact V.und_le h0 _ this
      | succ n ih =>
        intro hn
        rw [getE_envAt]
        split
        · rename_i h
          have h1 := G.und (n + 1) hn t htN
          obtain ⟨_, q, _⟩ := T.step n vs[n] (by omega) (List.getElem?_eq_getElem (by omega))
          rw [q, getE_putE, ← hdm n _ (List.getElem?_eq_getElem (by omega)), if_pos h.2] at h1
          exact V.und_le (hlen (n + 1) hn) _ h1
        · exact ih (by omega)
    exact this m (Nat.le_refl _)
  have hval : ∀ k, o.dst = some k → val i = x := by
    intro k hk'
    have e1 := congrArg (getE · k) (s2.symm.trans hx1)
    simpa [getE_putE, hk'] using e1
  refine ⟨hI2, by rw [put_tmps]; cases co.dst <;> simp [setT, D.size], fun k hk' => ?_, by rw [put_defers]; exact D.defers, ?_, fun i' hi' hL'' id h1 h2 => ?_⟩
  · by_cases hd : o.dst = some k
    · have e1 : getE (envAt L' dst val s.e m) k = x := by
        obtain ⟨q1, q2⟩ := hA k (mem_names_dst hd)
        have := envAt_skip (L := L') (dst := dst) (val := val) (e0 := s.e) (t := k) (i := i + 1) (m - (i + 1)) fun n h1 h2 h3 => by
          rw [hLo n (by omega)]
          exact q2 n (by omega) (by omega) h3
        rw [show i + 1 + (m - (i + 1)) = m by omega] at this
        rw [this, getE_envAt, if_pos ⟨hL', hdst.trans hd⟩]
        exact hval k hd
      rw [e1]
      obtain ⟨r1, r2⟩ := ok'.env.2 k hk'
      simp only [getE_putE, if_pos hd] at r1 r2
      exact Rep_keep hkeep1 _ _ r2 r1
    · have e1 : getE (envAt L' dst val s.e m) k = getE (envAt L dst val s.e m) k := envAt_congr m fun n h1 h2 => hLo n (by rintro rfl; rw [hdst] at h2; exact hd h2)
      rw [e1]
      have e2 : (a.put co.dst y).tmps.getD k undef = a.tmps.getD k undef := by
        rw [put_tmps, ← hdd]
        cases hod : o.dst with
        | none => rfl
        | some d =>
          have hdk : d ≠ k := by rintro rfl; exact hd hod
          simp only [setT, Array.getD_eq_getD_getElem?, Array.getElem?_setIfInBounds, if_neg hdk]
      rw [e2]
      exact Rep_keep (hkeepM _ (Nat.le_refl _)) _ _ (hundL k hk') (D.env k hk')
  · have E := D.ext
    have hs0 : s.h.length ≤ (τ m).h.length := E.len
    refine ⟨ext'.os.trans E.os, ext'.tape.trans E.tape, ext'.output.trans E.output, Nat.le_trans E.size ext'.size, fun b hb hn => ?_, ?_, fun id b c h hb => ?_, E.clean, E.len⟩
    · obtain ⟨f1, f2⟩ := E.frame b hb hn
      obtain ⟨f3, f4⟩ := hframe b (Nat.lt_of_lt_of_le hb E.size) fun id c _ h => by
        obtain ⟨k, c', hk'⟩ := E.jnew id b c h hb
        exact hn k c' hk'
      exact ⟨f3.trans f1, f4.trans f2⟩
    · obtain ⟨l0, hl0⟩ := G.grow 0 i (by omega) (by omega)
      rw [T.zero] at hl0
      have hsi : s.h.length ≤ (τ i).h.length := by rw [hl0]; simp
      refine E.keep.trans (m := s.h.length) ⟨hCm, fun id o' hid hob hr => ⟨?_, o', hob, hr⟩, fun id sz l hid hob => ⟨l, hob, List.prefix_refl _, fun _ => ?_⟩⟩ (Nat.le_refl _) <;>
      rw [hlo id (by omega), hold id (by omega)]
    · obtain ⟨k, c', _, q2, _⟩ := hjn id b c h (Nat.lt_of_lt_of_le hb E.size)
      exact E.jnew k b c' q2 hb
  · have hne : i' ≠ i := by rintro rfl; rw [hL'] at hL''; cases hL''
    have hL0 : L i' = false := by rw [← hLo i' hne]; exact hL''
    have := D.unl i' hi' hL0 id h1 h2
    by_cases hgt : i < i'
    · obtain ⟨l', hl'⟩ := G.grow (i + 1) i' (by omega) (by omega)
      have : (τ (i + 1)).h.length ≤ (τ i').h.length := by rw [hl']; simp
      rw [hhi id (by omega)]
      assumption
    · obtain ⟨l', hl'⟩ := G.grow (i' + 1) i (by omega) (by omega)
      have : (τ (i' + 1)).h.length ≤ (τ i).h.length := by rw [hl']; simp
      rw [hlo id (by omega), hold id (by omega)]
      assumption
end
end Go.Vm
