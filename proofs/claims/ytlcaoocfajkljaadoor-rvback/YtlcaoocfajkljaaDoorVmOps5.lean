import Derived.Test.YtlcaoocfajkljaaDoorVmOps4
namespace Go.Vm
section
variable {P : Program} {cx : Cx} {nb : Nat} {g : Gh} {H : Hp} {w : World} {o : Oper} {a : Act}

/-! Structs compared. -/
theorem eq_fields {xs ys : Array Value} {C : Nat → List Value} (d : Nat) : ∀ (fs : List Field) (n : Nat) (ks : List Nat) (A B : List D), kindsOf P n fs = some ks → kindOk ks A B = true →
    RepDs C A (xs.toList.drop n) → RepDs C B (ys.toList.drop n) → (Op.eqFields (d + 1) xs ys fs).run P w = .ok (eqL A B) w
  | [], n, ks, A, B, hk, hok, ra, rb => by
    simp only [kindsOf, Option.some.injEq] at hk
    subst hk
    cases A <;> cases B <;> first | (simp [kindOk] at hok; done) | simp [Op.eqFields, eqL]
  | f :: fs, n, ks, A, B, hk, hok, ra, rb => by
    simp only [kindsOf] at hk
    split at hk
    · rename_i hf
      obtain ⟨hoff, hname⟩ := hf
      have next : ∀ (ks' : List Nat) (A' B' : List D) (q : D) (q' : D), A = q :: A' → B = q' :: B' → ∃ p p', xs[n]? = some p ∧ ys[n]? = some p' ∧ RepCs C q [p] ∧ RepCs C q' [p'] ∧ RepDs C A' (xs.toList.drop (n + 1)) ∧ RepDs C B' (ys.toList.drop (n + 1)) := by
        rintro ks' A' B' q q' rfl rfl
        simp only [RepDs] at ra rb
        obtain ⟨p, pr, e1, _, h1, h2⟩ := ra
        obtain ⟨p', pr', e2, _, h3, h4⟩ := rb
        have g1 : xs.toList[n]? = some p := by
          have := congrArg (·[0]?) e1
          simpa using this
        have g2 : ys.toList[n]? = some p' := by
          have := congrArg (·[0]?) e2
          simpa using this
        have d1 : xs.toList.drop (n + 1) = pr := by rw [← List.drop_drop, e1]; rfl
        have d2 : ys.toList.drop (n + 1) = pr' := by rw [← List.drop_drop, e2]; rfl
        refine ⟨p, p', by simpa using g1, by simpa using g2, h1, h3, by rw [d1]; exact h2, by rw [d2]; exact h4⟩
      have hagg : ∀ dsc, P.underlying f.type = some dsc → (dsc = .bool ∨ (∃ k, dsc = .int k) ∨ dsc = .string) → (isAgg f.type).run P w = .ok false w := by
        intro dsc hu hd
        rcases hd with rfl | ⟨k, rfl⟩ | rfl <;> simp [isAgg, run_underlying hu]
      split at hk
      · rename_i ks' hu hks'
        simp only [Option.some.injEq] at hk; subst hk
        match A, B, hok with
        | .bool p :: A', .bool q :: B', hok =>
          obtain ⟨x, y, hx, hy, rx, ry, ra', rb'⟩ := next ks' A' B' _ _ rfl rfl
          simp only [RepCs] at rx ry; cases rx; cases ry
          have ih := eq_fields d fs (n + 1) ks' A' B' hks' (by simpa [kindOk] using hok) ra' rb'
          subst hoff
          simp [Op.eqFields, hname, part, hagg _ hu (.inl rfl), hx, hy, run_equalIn_bool' w d _ p q hu, ih, eqL, eq1]
          cases p <;> cases q <;> simp
      · rename_i k0 ks' hu hks'
        simp only [Option.some.injEq] at hk; subst hk
        match A, B, hok with
        | .int k p :: A', .int k' q :: B', hok =>
          obtain ⟨x, y, hx, hy, rx, ry, ra', rb'⟩ := next ks' A' B' _ _ rfl rfl
          simp only [RepCs] at rx ry; cases rx; cases ry
          simp only [kindOk, Bool.and_eq_true, beq_iff_eq] at hok
          obtain ⟨rfl, hok⟩ := hok
          have ih := eq_fields d fs (n + 1) ks' A' B' hks' hok ra' rb'
          subst hoff
          simp [Op.eqFields, hname, part, hagg _ hu (.inr (.inl ⟨_, rfl⟩)), hx, hy, run_equalIn_int w d _ k _ p q hu, ih, eqL, eq1]
          by_cases hpq : p = q <;> simp [hpq]
      · rename_i ks' hu hks'
        simp only [Option.some.injEq] at hk; subst hk
        match A, B, hok with
        | .str p :: A', .str q :: B', hok =>
          obtain ⟨x, y, hx, hy, rx, ry, ra', rb'⟩ := next ks' A' B' _ _ rfl rfl
          simp only [RepCs] at rx ry; cases rx; cases ry
          have ih := eq_fields d fs (n + 1) ks' A' B' hks' (by simpa [kindOk] using hok) ra' rb'
          subst hoff
          simp [Op.eqFields, hname, part, hagg _ hu (.inr (.inr rfl)), hx, hy, run_equalIn_string w d _ _ _ hu, ih, eqL, eq1]
          by_cases hpq : p = q <;> simp [hpq]
      · cases hk
    · cases hk

theorem op_eqa (hI : Inv cx g H w) {neg : Bool} {t u : TypeId} {x y : Operand} (hop : o.op = .binOp (if neg then .neq else .eql) t x y u) {ks : List Nat} (hks : kindsT P t = some ks) {A B : List D} (hok : kindOk ks A B = true) (rx : Rep g H (.d (.agg A)) (a.eval x)) (ry : Rep g H (.d (.agg B)) (a.eval y)) :
    StepOk P cx nb g H w (.d (.bool (if neg then !eqL A B else eqL A B))) H ((execOp a.eval o).run P w) := by
  simp only [Rep, RepD] at rx ry
  obtain ⟨xs, hx, ra⟩ := rx
  obtain ⟨ys, hy, rb⟩ := ry
  unfold kindsT at hks
  split at hks
  · rename_i fs hu
    split at hks
    · rename_i hp
      have hfo : P.fieldsOf t = fs := by simp [Program.fieldsOf, hu]
      have heq : (Op.equal t (.agg xs) (.agg ys)).run P w = .ok (eqL A B) w := by
        have := run_equalIn_struct (P := P) w 9999 t xs ys (by rw [hfo]; exact hu) hp.1
        rw [hfo, eq_fields (w := w) 9998 fs.toList 0 ks A B hks hok (by simpa using ra) (by simpa using rb)] at this
        exact this
      have hgd : ∀ op, (eqGuard op t x y (.agg xs) (.agg ys)).run P w = .ok () w := fun op => run_eqGuard_agg w op t x y xs ys hp.2
      refine StepOk.pure hI ?_ (bool_rep _) rfl
      simp only [execOp, hop, hx, hy]
      refine run_v ?_
      cases neg
      · simp [hgd, binOp, heq]
      · simp [hgd, binOp, heq]
    · cases hks
  · cases hks

/-! Stores. -/
theorem putAt_eq : ∀ (c : List V) (off : Nat) (vs : List V), off + vs.length ≤ c.length → putAt c off vs = c.take off ++ vs ++ c.drop (off + vs.length)
  | c, off, [], h => by cases c <;> cases off <;> simp [putAt]
  | [], off, v :: vs, h => by simp at h
  | x :: c, 0, v :: vs, h => by
    simp only [putAt]
    rw [putAt_eq c 0 vs (by simp at h ⊢; omega)]
    simp
  | x :: c, n + 1, v :: vs, h => by
    simp only [putAt]
    rw [putAt_eq c n (v :: vs) (by simp at h ⊢; omega)]
    have e : n + 1 + (v :: vs).length = (n + (v :: vs).length) + 1 := by omega
    rw [e]
    simp only [List.take_succ_cons, List.drop_succ_cons, List.cons_append]

theorem RepVs_append : ∀ {l l' : List V} {vs vs' : List Value}, RepVs g H l vs → RepVs g H l' vs' → RepVs g H (l ++ l') (vs ++ vs')
  | [], l', vs, vs', r, r' => by simp only [RepVs] at r; subst r; exact r'
  | v :: l, l', vs, vs', r, r' => by
    simp only [RepVs] at r
    obtain ⟨y, ys, rfl, h0, h1, h2⟩ := r
    simp only [List.cons_append, RepVs]
    exact ⟨y, ys ++ vs', rfl, h0, h1, RepVs_append h2 r'⟩

theorem RepVs_put {c vs : List V} {cs xs : List Value} {off : Nat} (hc : RepVs g H c cs) (hv : RepVs g H vs xs) (h : off + vs.length ≤ c.length) :
    RepVs g H (putAt c off vs) (cs.take off ++ xs ++ cs.drop (off + xs.length)) := by
  rw [putAt_eq c off vs h, ← RepVs_length hv]
  exact RepVs_append (RepVs_append (RepVs_take off hc) hv) (RepVs_drop _ hc)

theorem undL_put {n : Nat} {c vs : List V} {off : Nat} (h : off + vs.length ≤ c.length) (hc : undL n c = true) (hv : undL n vs = true) : undL n (putAt c off vs) = true := by
  rw [putAt_eq c off vs h]
  exact undL_append (undL_append (undL_take _ hc) hv) (undL_drop _ hc)

theorem Keep.set {n : Nat} {id : Nat} {o' : Ob} (ho : ∃ q, H[id]? = some q ∧ ∀ sz l, q ≠ .row sz l) (hr : ∀ sz l, o' ≠ .row sz l) : Keep n g H g (H.set id o') := by
  obtain ⟨q, hq, hqr⟩ := ho
  have hid := (List.getElem?_eq_some_iff.1 hq).1
  refine ⟨fun _ => List.prefix_refl _, fun i x _ hx hxr => ⟨rfl, ?_⟩, fun i sz l _ hx => ⟨l, ?_, List.prefix_refl _, fun _ => rfl⟩⟩
  · by_cases hi : id = i
    · subst hi; exact ⟨o', by simp [hid], hr⟩
    · exact ⟨x, by rw [List.getElem?_set_ne hi]; exact hx, hxr⟩
  · by_cases hi : id = i
    · subst hi; rw [hq] at hx; cases hx; exact absurd rfl (hqr _ _)
    · rw [List.getElem?_set_ne hi]; exact hx

/-- One object's cells change in place. -/
theorem Inv.setBox (hI : Inv cx g H w) {id b cap : Nat} (hJ : g.J id = some (b, cap)) {c c' : List V} (ho : H[id]? = some (.box c)) {w' : World} (hos : w'.os = w.os) (ht : w'.tape = w.tape) (hp : w'.output = w.output)
    (hsz : w'.heap.size = w.heap.size) (hheap : ∀ k, k ≠ b → w'.heap[k]? = w.heap[k]?) (hob : ObOk g (H.set id (.box c')) w' b cap (.box c')) (hu : undL H.length c' = true)
    (hcl : ∀ n, n ≤ nb → id < n → undL n c = true → undL n c' = true) :
    Inv cx g (H.set id (.box c')) w' ∧ Ext nb g H w g (H.set id (.box c')) w' := by
  have hid := (List.getElem?_eq_some_iff.1 ho).1
  have hkeep : Keep H.length g H g (H.set id (.box c')) := Keep.set ⟨_, ho, by simp⟩ (by simp)
  have hCb : g.C b = [] := by obtain ⟨_, _, _, _, h⟩ := hI.ob id b cap _ hJ ho; exact h
  refine ⟨⟨hI.inj, fun i b' c'' h => ?_, fun i b' c'' q h hq => ?_, fun b' hb' => ?_, fun i q hi hq => ?_, hI.glob⟩, ⟨hos, ht, hp, by omega, fun b' hb' hj => ⟨hheap b' fun e => hj id cap (e ▸ hJ), rfl⟩, hkeep, fun i b' c'' h _ => ⟨i, c'', h⟩, fun n hn hc i q hi hq => ?_, by simp⟩⟩
  · have := hI.dom i b' c'' h; simp; omega
  · by_cases hi : id = i
    · subst hi
      rw [hJ] at h; cases h
      simp only [List.getElem?_set_self hid, Option.some.injEq] at hq
      subst hq; exact hob
    · rw [List.getElem?_set_ne hi] at hq
      have hne : b' ≠ b := fun e => hi (hI.inj _ _ _ _ _ hJ (e ▸ h))
      exact (hI.ob i b' c'' q h hq).ext hkeep.w (hheap b' hne) rfl (und_of hI hq)
  · have hne : b' ≠ b := fun e => hb' (e ▸ hCb)
    rw [hheap b' hne]; exact hI.imm b' hb'
  · simp only [List.length_set] at hi ⊢
    by_cases hii : id = i
    · subst hii; simp only [List.getElem?_set_self hid, Option.some.injEq, Ob.box.injEq] at hq; subst hq; exact hu
    · rw [List.getElem?_set_ne hii] at hq; exact hI.und i q hi hq
  · by_cases hii : id = i
    · subst hii
      simp only [List.getElem?_set_self hid, Option.some.injEq, Ob.box.injEq] at hq; subst hq
      exact hcl n hn hi (hc id c hi ho)
    · rw [List.getElem?_set_ne hii] at hq; exact hc i q hi hq

theorem op_st (hI : Inv cx g H w) {t : TypeId} {x y : Operand} (hop : o.op = .store t x y) {n : Nat} (hn : sizeT P t = some n) {p v : V} {H' : Hp} (h : storeV nb H n p v = some H') (rp : Rep g H p (a.eval x)) (rv : Rep g H v (a.eval y)) (uv : v.und H.length = true) :
    StepOk P cx nb g H w .undef H' ((execOp a.eval o).run P w) := by
  unfold storeV at h
  split at h
  · rename_i id off
    split at h
    · rename_i c hc
      split at h
      · rename_i hcond
        obtain ⟨h1, h2, h3, h4⟩ := hcond
        simp only [Option.some.injEq] at h
        subst h
        simp only [Rep] at rp
        obtain ⟨_, b, cap, hJ, hx⟩ := rp
        obtain ⟨cur, e, hb, hcur, hC⟩ := hI.ob id b cap _ hJ hc
        have hxs := Rep_cells h3 rv
        have hxl := RepVs_length hxs
        have hcl := RepVs_length hcur
        have hlen : off + v.cells.length ≤ c.length := by omega
        have hrun : (execOp a.eval o).run P w = .ok .skip (w.setRow b (cur.toList.take off ++ (a.eval y).cells.toList ++ cur.toList.drop (off + (a.eval y).cells.toList.length)).toArray) := by
          simp only [execOp, hop, hx]
          refine run_u ?_
          have hst := run_storeCells_at P b off e (a.eval y).cells.toList 0 cur w hb (by simp at hxl hcl ⊢; omega) (RepVs_ones hxs)
          simp only [Nat.add_zero] at hst
          have hsz : (a.eval y).cells.size = n := by simp at hxl; omega
          simp only [Array.length_toList] at hst
          simp [Instr.storeAt, Instr.sureAddr, storeVar, run_sizeOf hn, hsz]
          simpa [hsz] using hst
        rw [hrun]
        have hu' := und_cells uv h3
        obtain ⟨i1, i2⟩ := hI.setBox (nb := nb) hJ hc (c' := putAt c off v.cells) (w' := w.setRow b (cur.toList.take off ++ (a.eval y).cells.toList ++ cur.toList.drop (off + (a.eval y).cells.toList.length)).toArray) rfl rfl rfl (setRow_size w b _) (fun k hk => setRow_other w b k _ hk)
          ⟨_, e, setRow_heap w b cur _ e (0, 0) hb, RepVs_keep (Keep.set (n := H.length) ⟨_, hc, by simp⟩ (by simp)).w _ _ (undL_put hlen (hI.und id c (List.getElem?_eq_some_iff.1 hc).1 hc) hu') (RepVs_put hcur hxs hlen), hC⟩
          (undL_put hlen (hI.und id c (List.getElem?_eq_some_iff.1 hc).1 hc) hu')
          (fun m hm hidm hcm => undL_put hlen hcm (by
            rcases Bool.or_eq_true_iff.1 h4 with h4 | h4
            · exact undL_le (by omega) _ h4
            · simp at h4; omega))
        exact .skip g _ i1 rfl i2
      · cases h
    · cases h
  · cases h
end
end Go.Vm
