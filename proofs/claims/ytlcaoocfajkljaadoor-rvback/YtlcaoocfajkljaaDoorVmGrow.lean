import Derived.Test.YtlcaoocfajkljaaDoorVmOps2
namespace Go.Vm
section
variable {P : Program} {cx : Cx} {nb : Nat} {g : Gh} {H : Hp} {w : World}

theorem ObOk.ext {n : Nat} {g' : Gh} {H' : Hp} {w' : World} {b cap : Nat} {o : Ob} (h : ObOk g H w b cap o) (hk : KeepW n g H g' H') (hh : w'.heap[b]? = w.heap[b]?) (hC : g'.C b = g.C b)
    (hu : ∀ c, o = .box c → undL n c = true) : ObOk g' H' w' b cap o := by
  cases o with
  | box c =>
    obtain ⟨cur, e, h1, h2, h3⟩ := h
    exact ⟨cur, e, hh.trans h1, RepVs_keep hk _ _ (hu c rfl) h2, hC.trans h3⟩
  | frz c => simp only [ObOk] at h ⊢; rw [hC]; exact RepDs_mono hk.C _ _ h
  | row sz l =>
    obtain ⟨cur, e, h1, h2, h3⟩ := h
    exact ⟨cur, e, hh.trans h1, by rw [hC]; exact RepEl_mono hk.C _ _ _ h2, h3⟩

theorem Inv.C_out (hI : Inv cx g H w) {b : Nat} (hb : w.heap.size ≤ b) : g.C b = [] := by
  by_cases h : g.C b = []
  · exact h
  · obtain ⟨cur, e, fz, h1, _⟩ := hI.imm b h
    have := (Array.getElem?_eq_some_iff.1 h1).1
    omega

theorem Inv.J_out (hI : Inv cx g H w) {b : Nat} (hb : w.heap.size ≤ b) (i c : Nat) : g.J i ≠ some (b, c) := fun h => by
  have := (hI.dom i b c h).2
  omega

theorem und_of (hI : Inv cx g H w) {i : Nat} {o : Ob} (h : H[i]? = some o) : ∀ c, o = .box c → undL H.length c = true := by
  rintro c rfl
  exact hI.und i c (List.getElem?_eq_some_iff.1 h).1 h

/-- The heap's end. -/
theorem get_snoc (H : Hp) (o : Ob) (i : Nat) (h : i < H.length) : (H ++ [o])[i]? = H[i]? := List.getElem?_append_left h
theorem get_last (H : Hp) (o : Ob) : (H ++ [o])[H.length]? = some o := by simp

theorem keep_snoc (n : Nat) (g g' : Gh) (H : Hp) (o : Ob) (hn : n ≤ H.length) (hC : ∀ b, g.C b <+: g'.C b) (hJ : ∀ i, i < H.length → g'.J i = g.J i) : Keep n g H g' (H ++ [o]) := by
  refine ⟨hC, fun i o' hi ho hr => ⟨hJ i (by omega), o', by rw [get_snoc H o i (by omega)]; exact ho, hr⟩, fun i sz l hi ho => ⟨l, by rw [get_snoc H o i (by omega)]; exact ho, List.prefix_refl _, fun _ => hJ i (by omega)⟩⟩

theorem clean_snoc {n : Nat} {H : Hp} {o : Ob} (hn : n ≤ H.length) (h : Clean n H) : Clean n (H ++ [o]) := by
  intro i c hi ho
  rw [get_snoc H o i (by omega)] at ho
  exact h i c hi ho

/-- A new block, and an object of the heap in it. -/
theorem Inv.alloc (hI : Inv cx g H w) (hnb : nb ≤ H.length) {w1 : World} (hw1 : w1.heap = w.heap) (ho : w1.os = w.os) (ht : w1.tape = w.tape) (hp : w1.output = w.output)
    {cs : Array Value} {T : TypeId} {o : Ob} {cap : Nat} {vs : List Value} (hvs : vs <+: cs.toList) (hu : ∀ c, o = .box c → undL H.length c = true)
    (hob : ∀ (g' : Gh) (w' : World), Keep H.length g H g' (H ++ [o]) → g'.C w.heap.size = vs → w'.heap[w.heap.size]? = some (.cells cs T (0, 0)) → ObOk g' (H ++ [o]) w' w.heap.size cap o) :
    ∃ g', Inv cx g' (H ++ [o]) (w1.alloc (.cells cs T)) ∧ Ext nb g H w g' (H ++ [o]) (w1.alloc (.cells cs T)) ∧ g'.J H.length = some (w.heap.size, cap) ∧ g'.C w.heap.size = vs := by
  let g' : Gh := { J := fun i => if i = H.length then some (w.heap.size, cap) else g.J i, C := fun b => if b = w.heap.size then vs else g.C b }
  have hsz : w1.heap.size = w.heap.size := by rw [hw1]
  have hC : ∀ b, g.C b <+: g'.C b := by
    intro b
    show _ <+: if b = w.heap.size then vs else g.C b
    split
    · rename_i hb; subst hb; rw [hI.C_out (Nat.le_refl _)]; exact List.nil_prefix
    · exact List.prefix_refl _
  have hJ : ∀ i, i < H.length → g'.J i = g.J i := fun i hi => if_neg (by omega)
  have hJn : g'.J H.length = some (w.heap.size, cap) := if_pos rfl
  have hCn : g'.C w.heap.size = vs := if_pos rfl
  have hCo : ∀ b, b ≠ w.heap.size → g'.C b = g.C b := fun b hb => if_neg hb
  have hold : ∀ b, b < w.heap.size → (w1.alloc (.cells cs T)).heap[b]? = w.heap[b]? := fun b hb => by rw [heap_alloc_old _ _ (by omega), hw1]
  have hnew : (w1.alloc (.cells cs T)).heap[w.heap.size]? = some (.cells cs T (0, 0)) := by rw [← hsz]; exact heap_alloc_new _ _
  have hkeep : Keep H.length g H g' (H ++ [o]) := keep_snoc _ _ _ _ _ (Nat.le_refl _) hC hJ
  have hJc : ∀ i b c, g'.J i = some (b, c) → (i = H.length ∧ b = w.heap.size ∧ c = cap) ∨ (i < H.length ∧ g.J i = some (b, c)) := by
    intro i b c h
    by_cases hi : i = H.length
    · subst hi; rw [hJn] at h; cases h; exact .inl ⟨rfl, rfl, rfl⟩
    · have h' : g.J i = some (b, c) := by simpa only [g', if_neg hi] using h
      exact .inr ⟨(hI.dom i b c h').1, h'⟩
  refine ⟨g', ⟨?_, ?_, ?_, ?_, ?_, ?_⟩, ⟨ho, ht, hp, by simp [hsz], ?_, hkeep, ?_, ?_, by simp⟩, hJn, hCn⟩
  · intro i k b c c' h1 h2
    rcases hJc i b c h1 with ⟨e1, e2, _⟩ | ⟨e1, e2⟩ <;> rcases hJc k b c' h2 with ⟨f1, f2, _⟩ | ⟨f1, f2⟩
    · omega
    · have := (hI.dom _ _ _ f2).2; omega
    · have := (hI.dom _ _ _ e2).2; omega
    · exact hI.inj i k b c c' e2 f2
  · intro i b c h
    rcases hJc i b c h with ⟨rfl, rfl, _⟩ | ⟨e1, e2⟩
    · simp [hsz]
    · have := hI.dom _ _ _ e2; simp [hsz]; omega
  · intro i b c o' h h'
    rcases hJc i b c h with ⟨rfl, rfl, rfl⟩ | ⟨e1, e2⟩
    · rw [get_last] at h'; cases h'
      exact hob g' _ hkeep hCn hnew
    · rw [get_snoc H o i e1] at h'
      have hd := hI.dom _ _ _ e2
      exact (hI.ob i b c o' e2 h').ext hkeep.w (hold b hd.2) (hCo b (by omega)) (und_of hI h')
  · intro b hb
    by_cases hbs : b = w.heap.size
    · subst hbs; rw [hCn]; exact ⟨cs, T, (0, 0), hnew, hvs⟩
    · rw [hCo b hbs] at hb ⊢
      obtain ⟨cur, e, fz, h1, h2⟩ := hI.imm b hb
      have := (Array.getElem?_eq_some_iff.1 h1).1
      exact ⟨cur, e, fz, by rw [hold b this]; exact h1, h2⟩
  · intro i c hi hc
    by_cases hil : i = H.length
    · subst hil; rw [get_last] at hc; cases hc
      exact undL_le (by simp) _ (hu c rfl)
    · have hil' : i < H.length := by simp at hi; omega
      rw [get_snoc H o i hil'] at hc
      exact undL_le (by simp) _ (hI.und i c hil' hc)
  · intro i
    obtain ⟨us, h1, h2⟩ := hI.glob i
    exact ⟨us, h1.trans (hC i), RepDs_mono hC _ _ h2⟩
  · intro b hb hj
    exact ⟨hold b hb, hCo b (by omega)⟩
  · intro i b c h hb
    rcases hJc i b c h with ⟨_, e2, _⟩ | ⟨e1, e2⟩
    · omega
    · exact ⟨i, c, e2⟩
  · intro n hn hc
    exact clean_snoc (by omega) hc

/-- A new block whose cells never change, and no object of the heap. -/
theorem Inv.lit (hI : Inv cx g H w) {cs : Array Value} {T : TypeId} :
    ∃ g', Inv cx g' H (w.alloc (.cells cs T)) ∧ Ext nb g H w g' H (w.alloc (.cells cs T)) ∧ g'.C w.heap.size = cs.toList := by
  let g' : Gh := { J := g.J, C := fun b => if b = w.heap.size then cs.toList else g.C b }
  have hC : ∀ b, g.C b <+: g'.C b := by
    intro b
    show _ <+: if b = w.heap.size then cs.toList else g.C b
    split
    · rename_i hb; subst hb; rw [hI.C_out (Nat.le_refl _)]; exact List.nil_prefix
    · exact List.prefix_refl _
  have hCn : g'.C w.heap.size = cs.toList := if_pos rfl
  have hCo : ∀ b, b ≠ w.heap.size → g'.C b = g.C b := fun b hb => if_neg hb
  have hold : ∀ b, b < w.heap.size → (w.alloc (.cells cs T)).heap[b]? = w.heap[b]? := fun b hb => heap_alloc_old _ _ hb
  have hnew : (w.alloc (.cells cs T)).heap[w.heap.size]? = some (.cells cs T (0, 0)) := heap_alloc_new _ _
  have hkeep : Keep H.length g H g' H := ⟨hC, fun i o hi ho hr => ⟨rfl, o, ho, hr⟩, fun i sz l hi ho => ⟨l, ho, List.prefix_refl _, fun _ => rfl⟩⟩
  refine ⟨g', ⟨hI.inj, fun i b c h => ?_, fun i b c o h h' => ?_, fun b hb => ?_, hI.und, fun i => ?_⟩, ⟨rfl, rfl, rfl, by simp, fun b hb _ => ⟨hold b hb, hCo b (by omega)⟩, hkeep, fun i b c h _ => ⟨i, c, h⟩, fun _ _ h => h, Nat.le_refl _⟩, hCn⟩
  · have := hI.dom i b c h; simp; omega
  · have hd := hI.dom i b c h
    exact (hI.ob i b c o h h').ext hkeep.w (hold b hd.2) (hCo b (by omega)) (und_of hI h')
  · by_cases hbs : b = w.heap.size
    · subst hbs; rw [hCn]; exact ⟨cs, T, (0, 0), hnew, List.prefix_refl _⟩
    · rw [hCo b hbs] at hb ⊢
      obtain ⟨cur, e, fz, h1, h2⟩ := hI.imm b hb
      have := (Array.getElem?_eq_some_iff.1 h1).1
      exact ⟨cur, e, fz, by rw [hold b this]; exact h1, h2⟩
  · obtain ⟨us, h1, h2⟩ := hI.glob i
    exact ⟨us, h1.trans (hC i), RepDs_mono hC _ _ h2⟩
end
end Go.Vm
