import Derived.Test.YtlcaoocfajkljaaDoorVmDrawSound
namespace Go.Vm
section
variable {P : Program} {cx : Cx} {g : Gh} {w : World} {H : Hp}

theorem trOpers_get {ops : Array Oper} : ∀ {l : List Oper} {vs : List VOper}, trOpers P ops l = some vs → vs.length = l.length ∧ ∀ (i : Nat) (co : Oper), l[i]? = some co → ∃ o, vs[i]? = some o ∧ trOper P ops co = some o
  | [], vs, h => by
    simp only [trOpers, Option.some.injEq] at h
    subst h
    exact ⟨rfl, fun i co h => by simp at h⟩
  | c :: l, vs, h => by
    simp only [trOpers] at h
    split at h
    · rename_i v vs' hv hvs
      simp only [Option.some.injEq] at h
      subst h
      obtain ⟨h1, h2⟩ := trOpers_get hvs
      refine ⟨by simp [h1], fun i co hi => ?_⟩
      cases i with
      | zero => simp only [List.getElem?_cons_zero, Option.some.injEq] at hi; subst hi; exact ⟨v, rfl, hv⟩
      | succ i => exact h2 i co (by simpa using hi)
    · cases h

structure OrderOk (ops : Array Oper) (vs : List VOper) (m : Nat) : Prop where
  back : ∀ (i : Nat) (o : Oper), ops[i]? = some o → ∀ e ∈ o.after, e.on < i
  tail : ∀ i, i < ops.size → m ≤ i → ∀ k, k < i → ((befores ops.toList).getD i 0).testBit k = true
  free : ∀ i o, i < m → vs[i]? = some o → ∀ t ∈ o.names, ∀ k p, k < m → vs[k]? = some p → k ≠ i → p.dst = some t → (if k < i then ((befores ops.toList).getD i 0).testBit k else ((befores ops.toList).getD k 0).testBit i) = true
  le : m ≤ vs.length

theorem orderOk_iff {ops : Array Oper} {vs : List VOper} {m : Nat} (h : orderOk ops vs m = true) : OrderOk ops vs m := by
  unfold orderOk at h
  simp only [Bool.and_eq_true, List.all_eq_true, decide_eq_true_eq] at h
  obtain ⟨⟨⟨h1, h2⟩, h3⟩, h4⟩ := h
  have hz : ∀ {α : Type} (l : List α) (i : Nat) (x : α), l[i]? = some x → (x, i) ∈ l.zipIdx := by
    intro α l i x hx
    rw [List.mem_iff_getElem?]
    exact ⟨i, by simp [List.getElem?_zipIdx, hx]⟩
  refine ⟨fun i o hi e he => ?_, fun i hi hm k hk => ?_, fun i o hi ho t ht k p hk hp hne hd => ?_, h4⟩
  · have := h1 (o, i) (hz ops.toList i o (by simpa using hi))
    simp only [Array.all_eq_true_iff_forall_mem, decide_eq_true_eq] at this
    exact this e he
  · have := h2 (ops[i], i) (hz ops.toList i _ (by simp [hi]))
    simp only [Bool.or_eq_true, decide_eq_true_eq, List.all_eq_true, List.mem_range] at this
    exact (this.resolve_left (by omega)) k hk
  · have := h3 (o, i) (hz (vs.take m) i o (by rw [List.getElem?_take, if_pos hi]; exact ho)) t ht (p, k) (hz (vs.take m) k p (by rw [List.getElem?_take, if_pos hk]; exact hp))
    simp only [Bool.or_eq_true, beq_iff_eq, bne_iff_ne] at this
    rcases this with (h | h) | h
    · exact absurd h hne
    · exact absurd hd h
    · exact h

/-- What is listed. -/
def lst (listed : Array Bool) (i : Nat) : Bool := listed.getD i false

theorem lst_set {listed : Array Bool} {i k : Nat} (h : k ≠ i) : lst (listed.setIfInBounds i true) k = lst listed k := getD_set_ne false (Ne.symm h)
theorem lst_self {listed : Array Bool} {i : Nat} (h : i < listed.size) : lst (listed.setIfInBounds i true) i = true := by simp [lst, h]

theorem ready_iff {ops : Array Oper} {listed : Array Bool} (hs : listed.size = ops.size) {j : Nat} : j ∈ Region.ready .any ops listed ↔
    j < ops.size ∧ lst listed j = false ∧ ∃ o, ops[j]? = some o ∧ ∀ e ∈ o.after, Region.binds .any e = true → lst listed e.on = true := by
  rw [mem_ready]
  constructor
  · rintro ⟨h1, o, h2, h3⟩
    have hj := (Array.getElem?_eq_some_iff.1 h2).1
    refine ⟨hj, ?_, o, h2, h3⟩
    simp only [lst, Array.getD, hs, hj] at h1 ⊢
    simpa using h1
  · rintro ⟨hj, h1, o, h2, h3⟩
    refine ⟨?_, o, h2, h3⟩
    simp only [lst, Array.getD, hs, hj] at h1 ⊢
    simpa using h1

/-- The rest of the region, in its one order. -/
theorem tail_sound {orc : Orc} (hS : SOrc P cx orc) {N : Nat} {ops : Array Oper} {vs : List VOper} (ht : trOpers P ops ops.toList = some vs) (hok : vs.all (VOper.okN N) = true) {m : Nat} (hO : OrderOk ops vs m)
    {s' : St} {Q : Exit → Act → World → Prop} : ∀ (fuel j : Nat), m ≤ j → j + fuel = ops.size → ∀ {listed : Array Bool}, listed.size = ops.size → (∀ i, i < ops.size → (lst listed i = true ↔ i < j)) →
    ∀ {s : St} {g : Gh} {a : Act} {w : World}, evOps cx orc (vs.drop j) s = some s' → StOk cx N g s a w → (∀ g' a' w', StOk cx N g' s' a' w' → Ext s.b g s.h w g' s'.h w' → Q .normal a' w') → wpAny P .any ops Q fuel listed a w := by
  obtain ⟨hlen, hget⟩ := trOpers_get ht
  have hlen' : vs.length = ops.size := by simpa using hlen
  intro fuel
  induction fuel with
  | zero =>
    intro j hm hj listed hs hL s g a w he ok hq
    have hnil : Region.ready .any ops listed = [] := by
      apply List.eq_nil_iff_forall_not_mem.2
      intro k hk
      obtain ⟨k1, k2, _⟩ := (ready_iff hs).1 hk
      rw [(hL k k1).2 (by omega)] at k2
      cases k2
    rw [List.drop_eq_nil_of_le (by omega)] at he
    simp only [evOps, Option.some.injEq] at he
    subst he
    exact ⟨hnil, hq g a w ok (Ext.refl ..)⟩
  | succ fuel ih =>
    intro j hm hj listed hs hL s g a w he ok hq
    have hjs : j < ops.size := by omega
    have hoj : ops[j]? = some ops[j] := Array.getElem?_eq_getElem hjs
    obtain ⟨o, ho, hto⟩ := hget j ops[j] (by simp)
    have hready : j ∈ Region.ready .any ops listed := (ready_iff hs).2 ⟨hjs, by
      cases h : lst listed j with
      | false => rfl
      | true => have := (hL j hjs).1 h; omega, _, hoj, fun e he _ => by
        have h1 := hO.back j _ hoj e he
        exact (hL e.on (by omega)).2 h1⟩
    have hback : ∀ (i : Nat) (o : Oper), ops[i]? = some o → lst listed i = true → ∀ e ∈ o.after, Region.binds .any e = true → lst listed e.on = true := by
      intro i o hi hl e he _
      have h1 := hO.back i o hi e he
      have h2 := (Array.getElem?_eq_some_iff.1 hi).1
      have h3 := (hL i h2).1 hl
      exact (hL e.on (by omega)).2 (by omega)
    refine ⟨fun h => by rw [h] at hready; simp at hready, fun i hi => ?_⟩
    obtain ⟨i1, i2, co, i3, i4⟩ := (ready_iff hs).1 hi
    have hij : i = j := by
      have hge : j ≤ i := Nat.le_of_not_lt fun h => by rw [(hL i i1).2 h] at i2; cases i2
      refine Nat.le_antisymm (Nat.le_of_not_lt fun h => ?_) hge
      have := before_listed (L := lst listed) hO.back hback i co i3 i4 j (hO.tail i i1 (by omega) j h)
      have := (hL j hjs).1 this
      omega
    subst hij
    rw [List.drop_eq_getElem_cons (by omega)] at he
    obtain rfl : vs[i] = o := by rw [List.getElem?_eq_getElem (by omega)] at ho; exact Option.some.inj ho
    simp only [evOps] at he
    cases h1 : evOper cx orc vs[i] s with
    | none => rw [h1] at he; cases he
    | some s1 =>
      rw [h1] at he
      simp only [Option.bind_some] at he
      have hoki : vs[i].okN N = true := (List.all_eq_true.1 hok) _ (List.getElem_mem _)
      have hb := evOper_b h1
      refine oper_sound hS hoj hto hoki h1 ok fun g' x w' ok' ext' => ?_
      refine ih (i + 1) (by omega) (by omega) (by simp [hs]) (fun k hk => ?_) he ok' fun g2 a2 w2 ok2 ext2 => hq g2 a2 w2 ok2 (ext'.trans ext2 (by omega))
      by_cases hki : k = i
      · subst hki; rw [lst_self (show k < listed.size by omega)]; simp
      · rw [lst_set hki, hL k hk]; omega

/-- The free part, in whatever order; then the rest. -/
theorem free_sound {orc : Orc} (hS : SOrc P cx orc) {N : Nat} {ops : Array Oper} {vs : List VOper} (ht : trOpers P ops ops.toList = some vs) (hok : vs.all (VOper.okN N) = true) {m : Nat} (hO : OrderOk ops vs m)
    {s s' : St} {τ : Nat → St} {val : Nat → V} (T : Trace cx orc m vs s τ val) (G : Good N m s τ) (hsb : s.b ≤ s.h.length) (he : evOps cx orc (vs.drop m) (τ m) = some s')
    {g0 : Gh} {w0 : World} {Q : Exit → Act → World → Prop} (hq : ∀ g' a' w', StOk cx N g' s' a' w' → Ext s.b g0 s.h w0 g' s'.h w' → Q .normal a' w') :
    ∀ (fuel : Nat) (listed : Array Bool), listed.size = ops.size → fuel = cnt (lst listed) ops.size → (∀ i, i < ops.size → lst listed i = true → i < m) →
    (∀ (i : Nat) (o : Oper), ops[i]? = some o → lst listed i = true → ∀ e ∈ o.after, Region.binds .any e = true → lst listed e.on = true) →
    ∀ {g : Gh} {a : Act} {w : World}, Dst cx N m τ (fun n => (vs.getD n default).dst) val g0 s w0 (lst listed) g a w → wpAny P .any ops Q fuel listed a w := by
  obtain ⟨hlen, hget⟩ := trOpers_get ht
  have hlen' : vs.length = ops.size := by simpa using hlen
  have hml := hO.le
  have hdm : ∀ n o', vs[n]? = some o' → (vs.getD n default).dst = o'.dst := fun n o' h => by rw [List.getD_eq_getElem?_getD, h]; rfl
  -- all of the free ones are there
  have full : ∀ (listed : Array Bool), listed.size = ops.size → (∀ i, i < m → lst listed i = true) → (∀ i, i < ops.size → lst listed i = true → i < m) →
      ∀ {g : Gh} {a : Act} {w : World}, Dst cx N m τ (fun n => (vs.getD n default).dst) val g0 s w0 (lst listed) g a w → wpAny P .any ops Q (ops.size - m) listed a w := by
    intro listed hs hall hlt g a w D
    have hE : envAt (lst listed) (fun n => (vs.getD n default).dst) val s.e m = (τ m).e := envAt_all (by rw [T.zero]) (fun n hn => by
      obtain ⟨_, q, _⟩ := T.step n vs[n] hn (List.getElem?_eq_getElem (by omega))
      rw [q, hdm n _ (List.getElem?_eq_getElem (by omega))]) hall m (Nat.le_refl _)
    have hlm : s.h.length ≤ (τ m).h.length := D.ext.len
    refine tail_sound hS ht hok hO (ops.size - m) m (Nat.le_refl _) (by omega) hs (fun i hi => ⟨hlt i hi, hall i⟩) he ⟨D.inv, ⟨D.size, fun k hk => ⟨by rw [← hE]; exact D.env k hk, G.und m (Nat.le_refl _) k hk⟩⟩, D.defers, by rw [G.b m (Nat.le_refl _)]; omega⟩ fun g' a' w' ok' ext' => ?_
    refine hq g' a' w' ok' (D.ext.trans ext' ?_)
    rw [G.b m (Nat.le_refl _)]
    exact Nat.le_refl _
  intro fuel
  induction fuel with
  | zero =>
    intro listed hs hf hlt hcl g a w D
    have hz := cnt_zero ops.size hf.symm
    have hm0 : ops.size - m = 0 := by
      rcases Nat.lt_or_ge m ops.size with h | h
      · have := hlt m h (hz m h); omega
      · omega
    have := full listed hs (fun i hi => hz i (by omega)) hlt D
    rwa [hm0] at this
  | succ fuel ih =>
    intro listed hs hf hlt hcl g a w D
    by_cases hall : ∀ i, i < m → lst listed i = true
    · have hc : ops.size - m = fuel + 1 := by
        rw [hf]
        have : ∀ d, m + d ≤ ops.size → cnt (lst listed) (m + d) = d := by
          intro d
          induction d with
          | zero =>
            intro _
            have : ∀ n, n ≤ m → cnt (lst listed) n = 0 := by
              intro n
              induction n with
              | zero => intro _; rfl
              | succ n ihn => intro hn; simp only [cnt]; rw [ihn (by omega), hall n (by omega)]; rfl
            exact this m (Nat.le_refl _)
          | succ d ihd =>
            intro hd
            show cnt (lst listed) (m + d) + (if lst listed (m + d) = true then 0 else 1) = d + 1
            rw [ihd (by omega)]
            have : lst listed (m + d) = false := by
              cases h : lst listed (m + d) with
              | false => rfl
              | true => have := hlt (m + d) (by omega) h; omega
            rw [this]; rfl
        have := this (ops.size - m) (by omega)
        rwa [show m + (ops.size - m) = ops.size by omega, eq_comm] at this
      have := full listed hs hall hlt D
      rwa [hc] at this
    · -- the least that is missing is ready
      have hex : ∃ i, i < m ∧ lst listed i = false ∧ ∀ k, k < i → lst listed k = true := by
        have hne : ∃ i, i < m ∧ lst listed i = false := by
          apply Classical.byContradiction
          intro h
          apply hall
          intro i hi
          cases hl : lst listed i with
          | true => rfl
          | false => exact absurd ⟨i, hi, hl⟩ h
        obtain ⟨i, hi⟩ := hne
        induction i using Nat.strongRecOn with
        | _ i ihi =>
          by_cases h : ∀ k, k < i → lst listed k = true
          · exact ⟨i, hi.1, hi.2, h⟩
          · have : ∃ k, k < i ∧ lst listed k = false := by
              apply Classical.byContradiction
              intro h2
              apply h
              intro k hk
              cases hl : lst listed k with
              | true => rfl
              | false => exact absurd ⟨k, hk, hl⟩ h2
            obtain ⟨k, hk, hkl⟩ := this
            exact ihi k hk ⟨by omega, hkl⟩
      obtain ⟨i0, hi0, hl0, hk0⟩ := hex
      have hready0 : i0 ∈ Region.ready .any ops listed := (ready_iff hs).2 ⟨by omega, hl0, ops[i0], Array.getElem?_eq_getElem (by omega), fun e he _ => hk0 _ (hO.back i0 _ (Array.getElem?_eq_getElem (by omega)) e he)⟩
      refine ⟨fun h => by rw [h] at hready0; simp at hready0, fun i hi => ?_⟩
      obtain ⟨i1, i2, co, i3, i4⟩ := (ready_iff hs).1 hi
      have hbef := before_listed (L := lst listed) hO.back hcl i co i3 i4
      have him : i < m := by
        apply Nat.lt_of_not_le
        intro hge
        have := hbef i0 (hO.tail i i1 hge i0 (by omega))
        rw [hl0] at this; cases this
      obtain ⟨o, ho, hto⟩ := hget i co (by simpa using i3)
      have hoki : o.okN N = true := (List.all_eq_true.1 hok) _ (List.mem_of_getElem? ho)
      have hcl' : ∀ (k : Nat) (o : Oper), ops[k]? = some o → lst (listed.setIfInBounds i true) k = true → ∀ e ∈ o.after, Region.binds .any e = true → lst (listed.setIfInBounds i true) e.on = true := by
        intro k p hk hl e he hb
        have hmono : ∀ x, lst listed x = true → lst (listed.setIfInBounds i true) x = true := fun x hx => by
          by_cases hxi : x = i
          · subst hxi; rw [i2] at hx; cases hx
          · rw [lst_set hxi]; exact hx
        by_cases hki : k = i
        · subst hki
          rw [i3] at hk; cases hk
          exact hmono _ (i4 e he hb)
        · rw [lst_set hki] at hl
          exact hmono _ (hcl k p hk hl e he hb)
      refine dst_step hS T G hsb him i3 ho hto hoki (hdm i o ho) hdm hml i2 (lst_self (show i < listed.size by omega)) (fun k hk => lst_set hk) (fun t htn => ⟨fun n hn hd => ?_, fun n hn hnm hd => ?_⟩) D fun g' a' w' D' => ?_
      · have hvn : vs[n]? = some vs[n] := List.getElem?_eq_getElem (by omega)
        have hd' : vs[n].dst = some t := by rw [← hdm n _ hvn]; exact hd
        have := hO.free i o him ho t htn n vs[n] (by omega) hvn (by omega) hd'
        rw [if_pos hn] at this
        exact hbef n this
      · have hvn : vs[n]? = some vs[n] := List.getElem?_eq_getElem (by omega)
        have hd' : vs[n].dst = some t := by rw [← hdm n _ hvn]; exact hd
        have := hO.free i o him ho t htn n vs[n] hnm hvn (by omega) hd'
        rw [if_neg (by omega)] at this
        cases hln : lst listed n with
        | false => rfl
        | true =>
          have hon : ops[n]? = some ops[n] := Array.getElem?_eq_getElem (by omega)
          have := before_listed (L := lst listed) hO.back hcl n _ hon (hcl n _ hon hln) i this
          rw [i2] at this; cases this
      · refine ih _ (by simpa using hs) ?_ (fun k hk hl => ?_) hcl' D'
        · have := cnt_set (L := lst listed) (L' := lst (listed.setIfInBounds i true)) (i := i) i2 (lst_self (show i < listed.size by omega)) (fun k hk => lst_set hk) ops.size i1
          omega
        · by_cases hki : k = i
          · subst hki; exact him
          · rw [lst_set hki] at hl; exact hlt k hk hl

theorem draw_sound {orc : Orc} (hS : SOrc P cx orc) (hmx : P.follows .mixedOrders = true) {N : Nat} {ops : Array Oper} {id m : Nat} {vs : List VOper} (ht : trOpers P ops ops.toList = some vs) (hok : vs.all (VOper.okN N) = true) (hord : orderOk ops vs m = true)
    {s s' : St} (h : evDraw cx orc m vs s = some s') {a : Act} (ok : StOk cx N g s a w)
    {Q : Exit → Act → World → Prop} (hq : ∀ g' a' w', StOk cx N g' s' a' w' → Ext s.b g s.h w g' s'.h w' → Q .normal a' w') : (Code.region id ops true).wp P Q a w := by
  have hO := orderOk_iff hord
  obtain ⟨τ, val, T, he⟩ := draw_trace m vs s s' hO.le h
  have G := trace_good (N := N) T hO.le ok.inv.und fun k hk => (ok.env.2 k hk).2
  refine wp_region_any hmx ?_
  have hl0 : ∀ i, lst (Array.replicate ops.size false) i = false := fun i => by simp [lst, Array.getD]
  obtain ⟨l, hl⟩ := G.grow 0 m (Nat.zero_le _) (Nat.le_refl _)
  rw [T.zero] at hl
  have hk := keepW_grow g s.h l
  rw [← hl] at hk
  have hout : ∀ id, s.h.length ≤ id → g.J id = none := fun id hid => by
    cases hj : g.J id with
    | none => rfl
    | some p => have := (ok.inv.dom id p.1 p.2 hj).1; omega
  refine free_sound hS ht hok hO T G ok.base he (g0 := g) (w0 := w) hq ops.size _ (by simp) (cnt_none ops.size fun i _ => hl0 i).symm (fun i _ h => by rw [hl0] at h; cases h) (fun i o _ h => by rw [hl0] at h; cases h) (g := g) ⟨?_, ok.env.1, fun k hkN => ?_, ok.defers, ⟨rfl, rfl, rfl, Nat.le_refl _, fun _ _ _ => ⟨rfl, rfl⟩, ?_, fun i _ c h _ => ⟨i, c, h⟩, fun n hn hc => ?_, by rw [hl]; simp⟩, fun i hi _ id h1 h2 => hout id ?_⟩
  · have hI := ok.inv
    refine ⟨hI.inj, fun i b c hj => ⟨by rw [hl, List.length_append]; have := (hI.dom i b c hj).1; omega, (hI.dom i b c hj).2⟩, fun i b c o hj ho => ?_, hI.imm, G.clean m (Nat.le_refl _), hI.glob⟩
    have hi := (hI.dom i b c hj).1
    rw [hl, List.getElem?_append_left hi] at ho
    exact (hI.ob i b c o hj ho).ext hk rfl rfl (by rintro c' rfl; exact hI.und i c' hi ho)
  · rw [envAt_none m fun k _ => hl0 k]
    exact Rep_keep hk _ _ (ok.env.2 k hkN).2 (ok.env.2 k hkN).1
  · rw [hl]
    exact ⟨fun _ => List.prefix_refl _, fun i o hi ho hr => ⟨rfl, o, by rw [List.getElem?_append_left hi]; exact ho, hr⟩, fun i sz r hi ho => ⟨r, by rw [List.getElem?_append_left hi]; exact ho, List.prefix_refl _, fun _ => rfl⟩⟩
  · intro i c hi ho
    have := ok.base
    rw [hl, List.getElem?_append_left (by omega)] at ho
    exact hc i c hi ho
  · obtain ⟨l', hl'⟩ := G.grow 0 i (Nat.zero_le _) (by omega)
    rw [T.zero] at hl'
    have : s.h.length ≤ (τ i).h.length := by rw [hl']; simp
    omega
end
end Go.Vm
