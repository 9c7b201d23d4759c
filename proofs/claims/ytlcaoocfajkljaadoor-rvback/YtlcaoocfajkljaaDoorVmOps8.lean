import Derived.Test.YtlcaoocfajkljaaDoorVmOps7
namespace Go.Vm
section
variable {P : Program} {cx : Cx} {nb : Nat} {g : Gh} {H : Hp} {w : World} {o : Oper} {a : Act}

/-- A row grows: in its block, or in a new one. -/
theorem Inv.growRow (hI : Inv cx g H w) {id sz : Nat} {l ys : List D} (ho : H[id]? = some (.row sz l)) (hys : ys ≠ []) {w' : World} {b' cap' : Nat} {cur' : Array Value} {e' : TypeId} {vs' : List Value}
    (hos : w'.os = w.os) (ht : w'.tape = w.tape) (hp : w'.output = w.output) (hsz : w.heap.size ≤ w'.heap.size)
    (hother : ∀ k, k < w.heap.size → k ≠ b' → w'.heap[k]? = w.heap[k]?) (hb : w'.heap[b']? = some (.cells cur' e' (0, 0))) (hvs : vs' <+: cur'.toList) (hC' : g.C b' <+: vs')
    (hel : RepEl g.C sz (l ++ ys) vs') (h0 : 0 < sz) (hcap : (l ++ ys).length ≤ cap') (hcs : cur'.size = cap' * sz) (hm : cap' ≤ maxLen) (hfresh : w.heap.size ≤ b' ∨ ∃ c, g.J id = some (b', c)) :
    ∃ g', Inv cx g' (H.set id (.row sz (l ++ ys))) w' ∧ Ext nb g H w g' (H.set id (.row sz (l ++ ys))) w' ∧ g'.J id = some (b', cap') := by
  let g' : Gh := { J := fun i => if i = id then some (b', cap') else g.J i, C := fun b => if b = b' then vs' else g.C b }
  have hid := (List.getElem?_eq_some_iff.1 ho).1
  have hb'lt : b' < w'.heap.size := (Array.getElem?_eq_some_iff.1 hb).1
  have hJn : g'.J id = some (b', cap') := if_pos rfl
  have hJo : ∀ i, i ≠ id → g'.J i = g.J i := fun i hi => if_neg hi
  have hCn : g'.C b' = vs' := if_pos rfl
  have hCo : ∀ b, b ≠ b' → g'.C b = g.C b := fun b hb => if_neg hb
  have hC : ∀ b, g.C b <+: g'.C b := by
    intro b
    by_cases hbb : b = b'
    · subst hbb; rw [hCn]; exact hC'
    · rw [hCo b hbb]; exact List.prefix_refl _
  have hne : ∀ i b c, i ≠ id → g.J i = some (b, c) → b ≠ b' := by
    rintro i b c hi h rfl
    rcases hfresh with hf | ⟨c', hf⟩
    · have := (hI.dom i b c h).2; omega
    · exact hi (hI.inj i id b c c' h hf)
  have hset : ∀ i, i ≠ id → (H.set id (.row sz (l ++ ys)))[i]? = H[i]? := fun i hi => List.getElem?_set_ne (Ne.symm hi)
  have hself : (H.set id (.row sz (l ++ ys)))[id]? = some (.row sz (l ++ ys)) := by simp [hid]
  have hkeep : Keep H.length g H g' (H.set id (.row sz (l ++ ys))) := by
    refine ⟨hC, fun i q _ hq hr => ?_, fun i s q _ hq => ?_⟩
    · have hi : i ≠ id := by rintro rfl; rw [ho] at hq; cases hq; exact hr _ _ rfl
      exact ⟨hJo i hi, q, by rw [hset i hi]; exact hq, hr⟩
    · by_cases hi : i = id
      · subst hi
        rw [ho] at hq; cases hq
        refine ⟨_, hself, List.prefix_append _ _, fun he => ?_⟩
        simp at he; exact absurd he hys
      · exact ⟨q, by rw [hset i hi]; exact hq, List.prefix_refl _, fun _ => hJo i hi⟩
  refine ⟨g', ⟨?_, ?_, ?_, ?_, ?_, ?_⟩, ⟨hos, ht, hp, hsz, ?_, hkeep, ?_, ?_, by simp⟩, hJn⟩
  · intro i k b c c' h1 h2
    by_cases hi : i = id <;> by_cases hk : k = id
    · rw [hi, hk]
    · subst hi; rw [hJn] at h1; cases h1; rw [hJo k hk] at h2; exact absurd rfl (hne k _ _ hk h2)
    · subst hk; rw [hJn] at h2; cases h2; rw [hJo i hi] at h1; exact absurd rfl (hne i _ _ hi h1)
    · rw [hJo i hi] at h1; rw [hJo k hk] at h2; exact hI.inj i k b c c' h1 h2
  · intro i b c h
    by_cases hi : i = id
    · subst hi; rw [hJn] at h; cases h; simp; exact ⟨hid, hb'lt⟩
    · rw [hJo i hi] at h; have := hI.dom i b c h; simp; omega
  · intro i b c q h hq
    by_cases hi : i = id
    · subst hi
      rw [hJn] at h; cases h
      rw [hself] at hq; cases hq
      exact ⟨cur', e', hb, by rw [hCn]; exact RepEl_mono hC _ _ _ hel, h0, hcap, hcs, hm⟩
    · rw [hJo i hi] at h
      rw [hset i hi] at hq
      have hbb := hne i b c hi h
      exact (hI.ob i b c q h hq).ext hkeep.w (hother b (hI.dom i b c h).2 hbb) (hCo b hbb) (und_of hI hq)
  · intro b hbn
    by_cases hbb : b = b'
    · subst hbb; rw [hCn]; exact ⟨cur', e', (0, 0), hb, hvs⟩
    · rw [hCo b hbb] at hbn ⊢
      obtain ⟨cur, e, fz, h1, h2⟩ := hI.imm b hbn
      exact ⟨cur, e, fz, by rw [hother b (Array.getElem?_eq_some_iff.1 h1).1 hbb]; exact h1, h2⟩
  · intro i c hi hq
    simp only [List.length_set] at hi ⊢
    by_cases hii : i = id
    · subst hii; rw [hself] at hq; cases hq
    · rw [hset i hii] at hq; exact hI.und i c hi hq
  · intro i
    obtain ⟨us, h1, h2⟩ := hI.glob i
    exact ⟨us, h1.trans (hC i), RepDs_mono hC _ _ h2⟩
  · intro b hbl hj
    have hbb : b ≠ b' := by
      rintro rfl
      rcases hfresh with hf | ⟨c, hf⟩
      · omega
      · exact hj id c hf
    exact ⟨hother b hbl hbb, hCo b hbb⟩
  · intro i b c h hbl
    by_cases hi : i = id
    · subst hi; rw [hJn] at h; cases h
      rcases hfresh with hf | ⟨c, hf⟩
      · omega
      · exact ⟨i, c, hf⟩
    · rw [hJo i hi] at h; exact ⟨i, c, h⟩
  · intro n _ hc i c hi hq
    by_cases hii : i = id
    · subst hii; rw [hself] at hq; cases hq
    · rw [hset i hii] at hq; exact hc i c hi hq

theorem run_append_here (t ty e : TypeId) (i : TypeInfo) (ht : P.underlying t = some (.slice e)) (hi : P.info? e = some i) (b sLen sCap : Nat) (cur : Array Value) (e' : TypeId) (hb : w.heap[b]? = some (.cells cur e' (0, 0)))
    (ad : Addr) (m c : Nat) (news : List Value) (hl : news.length = m * i.size) (hnews : ∀ j u, news[j]? = some u → w.cell? (ad.add j) = some u) (h1 : ∀ u ∈ news, u.oneCell' = true)
    (hroom : sLen + m ≤ sCap) (hfit : sLen * i.size + news.length ≤ cur.size) :
    (Builtin.append_ #[t, t] ty #[.slice (some ⟨b, 0, none⟩) sLen sCap, .slice (some ad) m c]).run P w =
      .ok (.slice (some ⟨b, 0, none⟩) (sLen + m) sCap) (w.setRow b (cur.toList.take (sLen * i.size) ++ news ++ cur.toList.drop (sLen * i.size + news.length)).toArray) := by
  have hf := run_firstCells_some (P := P) w i.size m ad m c news hl hnews
  have hst := run_storeCells_at P b (sLen * i.size) e' news 0 cur w hb (by simpa using hfit) h1
  simp only [Nat.add_zero] at hst
  simp [Builtin.append_, run_underlying ht, sizeOf, typeInfo, hi, Builtin.lenOf, hroom, hf, Addr.add_lit, hst]

theorem run_append_none (t ty e : TypeId) (i : TypeInfo) (ht : P.underlying t = some (.slice e)) (hi : P.info? e = some i) (base : Option Addr) (sLen sCap : Nat) (ad : Option Addr) (c : Nat) (hc : sLen ≤ sCap) (hb : ∀ q, base = some q → q.spot = none) :
    (Builtin.append_ #[t, t] ty #[.slice base sLen sCap, .slice ad 0 c]).run P w = .ok (.slice base sLen sCap) w := by
  cases base with
  | none => cases ad <;> simp [Builtin.append_, run_underlying ht, sizeOf, typeInfo, hi, Builtin.lenOf, hc, Builtin.firstCells, loadCells, loadCellsFrom]
  | some q => cases ad <;> simp [Builtin.append_, run_underlying ht, sizeOf, typeInfo, hi, Builtin.lenOf, hc, Builtin.firstCells, loadCells, loadCellsFrom, storeCells]

/-- The cells of what is appended. -/
theorem news_of {sz : Nat} {l : List D} {ad : Option Addr} {m cap : Nat} (hI : Inv cx g H w) (hl : l ≠ []) (r : RepD g.C (.sl l) (.slice ad m cap)) (hall : l.all (fun y => y.cells.length == sz) = true) :
    ∃ q us, ad = some q ∧ m = l.length ∧ RepEl g.C sz l us ∧ (∀ j u, us[j]? = some u → w.cell? (q.add j) = some u) := by
  obtain ⟨ad', cap', hx, _, hr⟩ := sl_parts r
  simp only [Value.slice.injEq] at hx
  obtain ⟨rfl, rfl, rfl⟩ := hx
  rcases hr with h | ⟨b, off, sz', us, rfl, h0, h1, h2⟩
  · exact absurd h hl
  · have hs0 : 0 < l.length := List.length_pos_iff.2 hl
    have hus := RepEl_length h2
    have hszz : sz' = sz := by
      have hg := RepCs_length (RepEl_get h2 (List.getElem?_eq_getElem hs0))
      have hc : (l[0]).cells.length = sz := by
        have := List.all_eq_true.1 hall _ (List.getElem_mem hs0)
        simpa using this
      rw [hc] at hg
      have : 1 * sz' ≤ l.length * sz' := Nat.mul_le_mul_right _ (by omega)
      simp only [Nat.zero_mul, List.drop_zero, List.length_take] at hg
      omega
    subst hszz
    refine ⟨_, us, rfl, rfl, h2, fun j u hj => ?_⟩
    have hne : g.C b ≠ [] := by
      intro hn
      rw [hn, List.drop_nil] at h1
      have := List.prefix_nil.1 h1
      subst this; simp at hj
    obtain ⟨cur, e, fz, h3, h4⟩ := hI.imm b hne
    rw [cell_at h3 j]
    have := prefix_getElem (h1.trans (prefix_drop h4 off)) hj
    rw [List.getElem?_drop] at this
    simpa using this

theorem op_app (hI : Inv cx g H w) (hnb : nb ≤ H.length) {x y : Operand} {t e : TypeId} {ar : Array Operand} {at' : Array TypeId} (hop : o.op = .call { callee := .builtin .append, args := ar, argTypes := at' }) (har : ar.toList = [x, y]) (hat : at'.toList = [t, t])
    (ht : P.underlying t = some (.slice e)) {i : TypeInfo} (hi : P.info? e = some i) (hz : (zeroCells P e).map (·.length) = some i.size) {v vy : V} {ys : List D} (hys : lsize H vy = some ys) (hall : ys.all (fun q => q.cells.length == i.size) = true) (h0 : 0 < i.size) (rx : Rep g H v (a.eval x)) (ry : Rep g H vy (a.eval y)) (ux : v.und H.length = true) {r : V} {H' : Hp}
    (h : (v = .nils ∧ ((ys = [] ∧ r = .nils ∧ H' = H) ∨ (ys ≠ [] ∧ roomy ys.length i.bytes ∧ r = .row H.length ys.length ∧ H' = H ++ [.row i.size ys]))) ∨
      (∃ id len l, v = .row id len ∧ H[id]? = some (.row i.size l) ∧ l.length = len ∧ roomy (len + ys.length) i.bytes ∧ r = .row id (len + ys.length) ∧ H' = H.set id (.row i.size (l ++ ys)))) :
    StepOk P cx nb g H w r H' ((execOp a.eval o).run P w) := by
  obtain rfl : ar = #[x, y] := by apply Array.ext'; simpa using har
  obtain rfl : at' = #[t, t] := by apply Array.ext'; simpa using hat
  obtain ⟨z, hz', hzl⟩ := Option.map_eq_some_iff.1 hz
  obtain ⟨it, zv, hi', hzv, hcz⟩ := zero_parts hz'
  obtain rfl : it = i := by rw [hi] at hi'; exact (Option.some.inj hi').symm
  have hzs : zv.cells.size = it.size := by
    have := RepVs_length (constVs_rep (g := g) (H := H) hcz).1
    simp at this; omega
  have hx : (execOp a.eval o).run P w = ((Builtin.append_ #[t, t] o.type #[a.eval x, a.eval y]).run P w).andThen (fun v w' => .ok (.value v) w') := by
    simp [execOp, hop, resolve, invoke, builtin]
  have hy := lsize_rep hI hys ry
  obtain ⟨ady, capy, hey, _, _⟩ := sl_parts hy
  have newrow : ∀ (hne : ys ≠ []) (hroom : roomy ys.length it.bytes), ∃ (us : List Value) (cap : Nat) (cs : Array Value), RepEl g.C it.size ys us ∧ ys.length ≤ cap ∧ cap ≤ maxLen ∧ us <+: cs.toList ∧ cs.size = cap * it.size ∧
      (Builtin.append_ #[t, t] o.type #[.slice none 0 0, a.eval y]).run P w = .ok (.slice (some ⟨w.heap.size, 0, none⟩) ys.length cap) (w.drew.alloc (.cells cs e)) := by
    intro hne hroom
    obtain ⟨q, us, hq, hm, hel, hnews⟩ := news_of (sz := it.size) hI hne (hey ▸ hy) hall
    have hus := RepEl_length hel
    have hlen : 0 < ys.length := List.length_pos_iff.2 hne
    have hrun := run_append_nil (P := P) w t o.type e it zv ht hi hzv q ys.length capy us hus hnews hlen (by have := hroom.2; omega) (by have := hroom.1; omega)
    refine ⟨us, grownCap w ys.length 0 e, _, hel, grownCap_ge .., grownCap_le_maxLen _ _ _ _ (by have := hroom.2; simp [maxLen]; omega), ?_, ?_, by rw [hey, hq]; exact hrun⟩
    · simp
    · have := grownCap_ge w ys.length 0 e
      simp [size_zeroCells, hus, hzs, ← Nat.add_mul]
      congr 1; omega
  rw [hx]
  rcases h with ⟨rfl, h⟩ | ⟨id, len, l, rfl, ho, rfl, hroom, rfl, rfl⟩
  · simp only [Rep] at rx
    rw [rx]
    rcases h with ⟨rfl, rfl, rfl⟩ | ⟨hne, hroom, rfl, rfl⟩
    · rw [hey, List.length_nil]
      rw [run_append_none t o.type e it ht hi none 0 0 ady capy (Nat.le_refl _) (by simp)]
      exact StepOk.pure hI rfl (by simp [Rep]) rfl
    · obtain ⟨us, cap, cs, h1, h2, h3, h4, h5, h6⟩ := newrow hne hroom
      rw [h6]
      obtain ⟨g', i1, i2, i3, i4⟩ := hI.alloc (nb := nb) hnb (w1 := w.drew) rfl rfl rfl rfl (cs := cs) (T := e) (o := .row it.size ys) (cap := cap) (vs := us) h4 (by simp)
        (fun g' w' hk hC hw => ⟨_, _, hw, by rw [hC]; exact RepEl_mono hk.C _ _ _ h1, h0, h2, h5, h3⟩)
      refine .val g' _ _ i1 ?_ (by simp [V.und]) i2
      simp only [Rep]
      exact ⟨_, _, _, _, rfl, get_last H _, Nat.le_refl _, fun _ => .inr ⟨_, i3, rfl⟩⟩
  · simp only [Rep] at rx
    obtain ⟨ad, cap, sz, l', hxv, ho', _, hrep⟩ := rx
    rw [ho] at ho'
    simp only [Option.some.injEq, Ob.row.injEq] at ho'
    obtain ⟨rfl, rfl⟩ := ho'
    have hid := (List.getElem?_eq_some_iff.1 ho).1
    rw [hxv]
    by_cases hne : ys = []
    · subst hne
      simp only [List.append_nil, List.length_nil, Nat.add_zero]
      have hset : H.set id (.row it.size l) = H := by
        apply List.ext_getElem?
        intro k
        by_cases hk : id = k
        · subst hk; simp [hid]
          exact ((List.getElem?_eq_some_iff.1 ho).2).symm
        · rw [List.getElem?_set_ne hk]
      rw [hset, hey, List.length_nil]
      have hle : l.length ≤ cap := by
        rcases hrep rfl with ⟨h1, _, _⟩ | ⟨b, hJ, _⟩
        · omega
        · obtain ⟨_, _, _, _, _, h, _⟩ := hI.ob id b cap _ hJ ho; exact h
      have hsp : ∀ q, ad = some q → q.spot = none := by
        rcases hrep rfl with ⟨_, rfl, _⟩ | ⟨b, _, rfl⟩ <;> simp
      rw [run_append_none t o.type e it ht hi ad l.length cap ady capy hle hsp]
      refine StepOk.pure hI rfl ?_ ux
      simp only [Rep]
      exact ⟨_, _, _, _, rfl, ho, Nat.le_refl _, hrep⟩
    · obtain ⟨q, us, hq, hm, hel, hnews⟩ := news_of (sz := it.size) hI hne (hey ▸ hy) hall
      have hus := RepEl_length hel
      have finish : ∀ (w' : World) (b' cap' : Nat) (cur' : Array Value) (e' : TypeId) (vs' : List Value), w'.os = w.os → w'.tape = w.tape → w'.output = w.output → w.heap.size ≤ w'.heap.size → (∀ k, k < w.heap.size → k ≠ b' → w'.heap[k]? = w.heap[k]?) →
          w'.heap[b']? = some (.cells cur' e' (0, 0)) → vs' <+: cur'.toList → g.C b' <+: vs' → RepEl g.C it.size (l ++ ys) vs' → (l ++ ys).length ≤ cap' → cur'.size = cap' * it.size → cap' ≤ maxLen → (w.heap.size ≤ b' ∨ ∃ c, g.J id = some (b', c)) →
          StepOk P cx nb g H w (.row id (l.length + ys.length)) (H.set id (.row it.size (l ++ ys))) (.ok (.value (.slice (some ⟨b', 0, none⟩) (l.length + ys.length) cap')) w') := by
        intro w' b' cap' cur' e' vs' a1 a2 a3 a4 a5 a6 a7 a8 a9 a10 a11 a12 a13
        obtain ⟨g', i1, i2, i3⟩ := hI.growRow (nb := nb) ho hne a1 a2 a3 a4 a5 a6 a7 a8 a9 h0 a10 a11 a12 a13
        refine .val g' _ _ i1 ?_ (by simpa [V.und] using hid) i2
        simp only [Rep]
        exact ⟨some ⟨b', 0, none⟩, cap', it.size, l ++ ys, rfl, by simp [hid], by simp, fun _ => .inr ⟨_, i3, rfl⟩⟩
      rcases hrep rfl with ⟨hl0, rfl, rfl⟩ | ⟨b, hJ, rfl⟩
      · have hl : l = [] := List.eq_nil_of_length_eq_zero hl0
        subst hl
        simp only [List.length_nil, Nat.zero_add] at hroom ⊢
        obtain ⟨us, cap, cs, h1, h2, h3, h4, h5, h6⟩ := newrow hne hroom
        rw [h6]
        have := finish (w.drew.alloc (.cells cs e)) w.heap.size cap cs e us rfl rfl rfl (by simp) (fun k hk _ => heap_alloc_old _ _ hk) (heap_alloc_new w.drew _) h4 (by rw [hI.C_out (Nat.le_refl _)]; exact List.nil_prefix) (by simpa using h1) (by simpa using h2) h5 h3 (.inl (Nat.le_refl _))
        simpa using this
      · obtain ⟨cur, e', hb, hC, _, hlc, hcs, hcm⟩ := hI.ob id b cap _ hJ ho
        have hCl := RepEl_length hC
        have hCp : g.C b <+: cur.toList := by
          by_cases hn : g.C b = []
          · rw [hn]; exact List.nil_prefix
          · obtain ⟨cur2, e2, fz2, h3, h4⟩ := hI.imm b hn
            rw [hb] at h3; cases h3; exact h4
        have hCt : cur.toList.take (l.length * it.size) = g.C b := by rw [← hCl]; exact (List.prefix_iff_eq_take.1 hCp).symm
        rw [hey, hq]
        by_cases hin : l.length + ys.length ≤ cap
        · have hfit : l.length * it.size + us.length ≤ cur.size := by
            rw [hus, hcs, ← Nat.add_mul]; exact Nat.mul_le_mul_right _ hin
          rw [run_append_here t o.type e it ht hi b l.length cap cur e' hb q ys.length capy us hus hnews (RepEl_ones hel) hin hfit]
          refine finish _ b cap _ e' (g.C b ++ us) rfl rfl rfl (by simp) (fun k _ hk => setRow_other w b k _ hk) (setRow_heap w b cur _ e' (0, 0) hb) ?_ (List.prefix_append _ _) (RepEl_append hC hel) (by simpa using hin) ?_ hcm (.inr ⟨cap, hJ⟩)
          · rw [hCt]; exact List.prefix_append _ _
          · simp only [List.size_toArray, List.length_append, List.length_take, List.length_drop, Array.length_toList]; omega
        · have holds : ∀ j u, (g.C b)[j]? = some u → w.cell? ((⟨b, 0, none⟩ : Addr).add j) = some u := by
            intro j u hj
            rw [cell_at hb j]
            have := prefix_getElem hCp hj
            simpa using this
          have hrun := run_append_grow (P := P) w t o.type e it zv ht hi hzv ⟨b, 0, none⟩ l.length cap (g.C b) hCl holds q ys.length capy us hus hnews (by omega) (by have := hroom.2; omega) (growslice_fits (by omega) (by have := hroom.1; omega))
          rw [hrun]
          have hge := grownCap_ge w (l.length + ys.length) cap e
          refine finish _ w.heap.size _ _ e (g.C b ++ us) rfl rfl rfl (by simp) (fun k hk _ => heap_alloc_old _ _ hk) (heap_alloc_new w.drew _) ?_ (by rw [hI.C_out (Nat.le_refl _)]; exact List.nil_prefix) (RepEl_append hC hel) (by simpa using hge) ?_ (grownCap_le_maxLen _ _ _ _ (by have := hroom.2; simp [maxLen]; omega)) (.inl (Nat.le_refl _))
          · simp
          · simp [size_zeroCells, hCl, hus, hzs, ← Nat.add_mul]
            congr 1; omega
end
end Go.Vm
