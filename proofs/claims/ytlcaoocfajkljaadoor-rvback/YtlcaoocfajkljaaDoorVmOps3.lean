import Derived.Test.YtlcaoocfajkljaaDoorVmGrow
namespace Go.Vm
section
variable {P : Program} {cx : Cx} {nb : Nat} {g : Gh} {H : Hp} {w : World} {o : Oper} {a : Act}

theorem run_v {s : Sem Value} {x : Value} {w' : World} (h : s.run P w = .ok x w') : (do pure (Next.value (← s)) : Sem Next).run P w = .ok (.value x) w' := by
  simp [h]

theorem run_u {s : Sem Unit} {w' : World} (h : s.run P w = .ok () w') : (do s; pure Next.skip : Sem Next).run P w = .ok .skip w' := by
  simp [h]

theorem op_mv (hI : Inv cx g H w) {x : Operand} (hop : o.op = .move x ∨ o.op = .assign x) {v : V} (hr : Rep g H v (a.eval x)) (hu : v.und H.length = true) :
    StepOk P cx nb g H w v H ((execOp a.eval o).run P w) := by
  refine StepOk.pure hI ?_ hr hu
  rcases hop with h | h <;> simp [execOp, h]

theorem op_pick (hI : Inv cx g H w) {c x y : Operand} (hop : o.op = .pick c x y) {t : Bool} {vx vy : V} (hc : Rep g H (.d (.bool t)) (a.eval c)) (hx : Rep g H vx (a.eval x)) (hy : Rep g H vy (a.eval y))
    (ux : vx.und H.length = true) (uy : vy.und H.length = true) : StepOk P cx nb g H w (if t then vx else vy) H ((execOp a.eval o).run P w) := by
  have hc' := rep_bool hc
  refine StepOk.pure (x := if t then a.eval x else a.eval y) hI ?_ ?_ ?_
  · simp [execOp, hop, hc', asBool]
  · cases t <;> simp_all
  · cases t <;> simp_all

theorem zero_parts {t : TypeId} {z : List V} (h : zeroCells P t = some z) : ∃ i zv, P.info? t = some i ∧ i.zero = some zv ∧ constVs zv.cells.toList = some z := by
  unfold zeroCells at h
  split at h
  · rename_i i hi
    split at h
    · rename_i zv hz; exact ⟨i, zv, hi, hz, h⟩
    · cases h
  · cases h

theorem op_zbox (hI : Inv cx g H w) (hnb : nb ≤ H.length) {t : TypeId} (hop : o.op = .alloc t) {z : List V} (hz : zeroCells P t = some z) :
    StepOk P cx nb g H w (.ptr H.length 0) (H ++ [.box z]) ((execOp a.eval o).run P w) := by
  obtain ⟨i, zv, hi, hzv, hc⟩ := zero_parts hz
  have hrun : (execOp a.eval o).run P w = .ok (.value (.pointer (some ⟨w.heap.size, 0, none⟩))) (w.alloc (.cells zv.cells t)) := by
    simp [execOp, hop, Instr.alloc, zeroValue, typeInfo, hi, hzv, newVar, newRow]
  obtain ⟨_, hu⟩ := constVs_rep (g := g) (H := H) hc
  obtain ⟨g', h1, h2, h3, h4⟩ := hI.alloc (nb := nb) hnb (w1 := w) rfl rfl rfl rfl (cs := zv.cells) (T := t) (o := .box z) (cap := 0) (vs := []) List.nil_prefix
    (by rintro c ⟨⟩; exact undL_le (Nat.zero_le _) _ hu)
    (fun g' w' hk hC hw => ⟨_, _, hw, (constVs_rep hc).1, hC⟩)
  rw [hrun]
  refine .val g' _ _ h1 ?_ ?_ h2
  · simp only [Rep]; exact ⟨⟨_, get_last H _, by simp⟩, _, _, h3, rfl⟩
  · simp [V.und]

theorem op_box (hI : Inv cx g H w) (hnb : nb ≤ H.length) {t : TypeId} {x : Operand} (hop : o.op = .box t x) {v : V} (hr : Rep g H v (a.eval x)) (hu : v.und H.length = true) (ho : v.cells.all V.one = true) :
    StepOk P cx nb g H w (.ptr H.length 0) (H ++ [.box v.cells]) ((execOp a.eval o).run P w) := by
  have hrun : (execOp a.eval o).run P w = .ok (.value (.pointer (some ⟨w.heap.size, 0, none⟩))) (w.alloc (.cells (a.eval x).cells t)) := by
    simp [execOp, hop, Instr.box, newVar, newRow]
  have hcs := Rep_cells ho hr
  have huc := und_cells hu ho
  obtain ⟨g', h1, h2, h3, h4⟩ := hI.alloc (nb := nb) hnb (w1 := w) rfl rfl rfl rfl (cs := (a.eval x).cells) (T := t) (o := .box v.cells) (cap := 0) (vs := []) List.nil_prefix
    (by rintro c ⟨⟩; exact huc)
    (fun g' w' hk hC hw => ⟨_, _, hw, RepVs_keep hk.w _ _ huc hcs, hC⟩)
  rw [hrun]
  refine .val g' _ _ h1 ?_ ?_ h2
  · simp only [Rep]; exact ⟨⟨_, get_last H _, by simp⟩, _, _, h3, rfl⟩
  · simp [V.und]

theorem op_nilck (hI : Inv cx g H w) {x : Operand} (hop : o.op = .nilCheck x) {v : V} (hv : (∃ id off, v = .ptr id off) ∨ ∃ f c, v = .fn f c) (hr : Rep g H v (a.eval x)) (hu : v.und H.length = true) :
    StepOk P cx nb g H w v H ((execOp a.eval o).run P w) := by
  refine StepOk.pure hI ?_ hr hu
  rcases hv with ⟨id, off, rfl⟩ | ⟨f, c, rfl⟩
  · simp only [Rep] at hr
    obtain ⟨_, b, c, _, hx⟩ := hr
    simp [execOp, hop, hx]
  · simp only [Rep] at hr
    obtain ⟨cs, hx, _⟩ := hr
    simp [execOp, hop, hx]

theorem op_bin (hI : Inv cx g H w) {op : BinOp} {t u : TypeId} {x y : Operand} (hop : o.op = .binOp op t x y u) {vx vy r : V} (h : binV op vx vy = some r) (rx : Rep g H vx (a.eval x)) (ry : Rep g H vy (a.eval y)) :
    StepOk P cx nb g H w r H ((execOp a.eval o).run P w) := by
  obtain ⟨z, h1, h2, h3⟩ := binV_ok (P := P) (w := w) t h rx ry x y
  refine StepOk.pure hI ?_ h2 h3
  simp only [execOp, hop]
  exact run_v h1

theorem op_eqb (hI : Inv cx g H w) {neg : Bool} {t u : TypeId} {x y : Operand} (hop : o.op = .binOp (if neg then .neq else .eql) t x y u) (ht : P.underlying t = some .bool) {p q : Bool} (rx : Rep g H (.d (.bool p)) (a.eval x)) (ry : Rep g H (.d (.bool q)) (a.eval y)) :
    StepOk P cx nb g H w (.d (.bool (if neg then !(p == q) else p == q))) H ((execOp a.eval o).run P w) := by
  refine StepOk.pure hI ?_ (bool_rep _) rfl
  simp only [execOp, hop, rep_bool rx, rep_bool ry]
  refine run_v ?_
  cases neg
  · simp only [Bool.false_eq_true, if_false, Sem.run_bind]
    simp [eqGuard, run_eql_bool w t p q ht]
  · simp only [if_true, Sem.run_bind]
    simp [eqGuard, run_neq_bool w t p q ht]

theorem op_un (hI : Inv cx g H w) {op : UnOp} {t : TypeId} {x : Operand} (hop : o.op = .unOp op t x) {v r : V} (h : unV op v = some r) (rx : Rep g H v (a.eval x)) :
    StepOk P cx nb g H w r H ((execOp a.eval o).run P w) := by
  unfold unV at h
  split at h
  · rename_i k n
    cases op <;> simp only at h <;> cases h
    refine StepOk.pure hI ?_ (int_rep _ _) rfl
    simp [execOp, hop, rep_int rx, Op.unary, Op.intArith]
  · rename_i b
    cases op <;> simp only at h <;> cases h
    refine StepOk.pure hI ?_ (bool_rep _) rfl
    simp [execOp, hop, rep_bool rx, Op.unary]
  · cases h

theorem op_conv (hI : Inv cx g H w) {s t : TypeId} {x : Operand} (hop : o.op = .convert s t x) {k k0 : IntKind} (hs : P.underlying s = some (.int k0)) (ht : P.underlying t = some (.int k)) {k' : IntKind} {n : Int} (rx : Rep g H (.d (.int k' n)) (a.eval x)) :
    StepOk P cx nb g H w (.d (.int k (k.wrap n))) H ((execOp a.eval o).run P w) := by
  refine StepOk.pure hI ?_ (int_rep _ _) rfl
  simp only [execOp, hop, rep_int rx]
  refine run_v ?_
  simp [convert, run_underlying hs, run_underlying ht, Conv.intToInt]

theorem op_convs (hI : Inv cx g H w) {s t : TypeId} {x : Operand} (hop : o.op = .convert s t x) (hs : P.underlying s = some .string) (ht : P.underlying t = some .string) {l : List UInt8} (rx : Rep g H (.d (.str l)) (a.eval x)) :
    StepOk P cx nb g H w (.d (.str l)) H ((execOp a.eval o).run P w) := by
  refine StepOk.pure hI ?_ (str_rep _) rfl
  simp only [execOp, hop, rep_str rx]
  refine run_v ?_
  simp [convert, run_underlying hs, run_underlying ht]

theorem op_mkfn (hI : Inv cx g H w) {f : Nat} {first caps : Array Operand} (hop : o.op = .makeFunc (.func f) first caps) (hf : first.isEmpty = true) {c : List V} (hr : RepTs g H c (caps.toList.map a.eval)) (hu : undL H.length c = true) :
    StepOk P cx nb g H w (.fn f c) H ((execOp a.eval o).run P w) := by
  have : first = #[] := by simpa using hf
  subst this
  refine StepOk.pure (x := .func (.func f) #[] (caps.map a.eval)) hI ?_ ?_ ?_
  · simp [execOp, hop, Instr.makeFunc]
  · simp only [Rep]; exact ⟨_, rfl, by simpa using hr⟩
  · simpa only [V.und] using hu

theorem op_ext (hI : Inv cx g H w) {x : Operand} {i : Nat} (hop : o.op = .extract x i) {l : List V} {v : V} (hl : l[i]? = some v) (hr : Rep g H (.tup l) (a.eval x)) (hu : (V.tup l).und H.length = true) :
    StepOk P cx nb g H w v H ((execOp a.eval o).run P w) := by
  simp only [Rep] at hr
  obtain ⟨cs, hx, hr⟩ := hr
  have get : ∀ {l : List V} {vs : List Value} {i : Nat} {v : V}, RepTs g H l vs → l[i]? = some v → ∃ y, vs[i]? = some y ∧ Rep g H v y := by
    intro l
    induction l with
    | nil => intro vs i v _ h; simp at h
    | cons q l ih =>
      intro vs i v r h
      simp only [RepTs] at r
      obtain ⟨y, ys, rfl, h1, h2⟩ := r
      cases i with
      | zero => simp only [List.getElem?_cons_zero, Option.some.injEq] at h; subst h; exact ⟨y, rfl, h1⟩
      | succ i => simp only [List.getElem?_cons_succ] at h ⊢; exact ih h2 h
  obtain ⟨y, h1, h2⟩ := get hr hl
  refine StepOk.pure (x := y) hI ?_ h2 (undL_get (by simpa only [V.und] using hu) hl)
  have h1' : cs[i]? = some y := by simpa using h1
  simp [execOp, hop, hx, Instr.extract, h1']

/-! Loads. -/
theorem cell_at {b off : Nat} {cur : Array Value} {e : TypeId} {fz : Nat × Nat} (h : w.heap[b]? = some (.cells cur e fz)) (j : Nat) : w.cell? ((⟨b, off, none⟩ : Addr).add j) = cur[off + j]? := by
  rw [Addr.add_lit, cell_of_row w b (off + j) cur e fz h]

/-- The cells that a pointer leads to. -/
theorem cellsAt_ok (hI : Inv cx g H w) {v : V} {x : Value} {c : List V} {off : Nat} (h : cellsAt H v = some (c, off)) (r : Rep g H v x) (hu : v.und H.length = true) :
    ∃ b o', x = .pointer (some ⟨b, o' + off, none⟩) ∧ undL H.length c = true ∧ (c = [] ∨ ∃ cur e fz vs, w.heap[b]? = some (.cells cur e fz) ∧ vs <+: cur.toList.drop o' ∧ RepVs g H c vs) := by
  unfold cellsAt at h
  split at h
  · rename_i id off'
    simp only [Rep] at r
    obtain ⟨⟨ob, ho, _⟩, b, cap, hJ, rfl⟩ := r
    split at h
    · rename_i c' hc
      simp only [Option.some.injEq, Prod.mk.injEq] at h
      obtain ⟨rfl, rfl⟩ := h
      obtain ⟨cur, e, h1, h2, _⟩ := hI.ob id b cap _ hJ hc
      exact ⟨b, 0, by simp, hI.und id _ (List.getElem?_eq_some_iff.1 hc).1 hc, .inr ⟨cur, e, (0, 0), cur.toList, h1, by simp, h2⟩⟩
    · rename_i c' hc
      simp only [Option.some.injEq, Prod.mk.injEq] at h
      obtain ⟨rfl, rfl⟩ := h
      have hob : RepDs g.C c' (g.C b) := hI.ob id b cap _ hJ hc
      refine ⟨b, 0, by simp, undL_map_d _ _, ?_⟩
      by_cases hn : g.C b = []
      · rw [hn] at hob
        have hl := RepDs_length hob
        left
        have : c' = [] := List.eq_nil_of_length_eq_zero (by simpa using hl.symm)
        subst this; rfl
      · obtain ⟨cur, e, fz, h1, h2⟩ := hI.imm b hn
        exact .inr ⟨cur, e, fz, g.C b, h1, by simpa using h2, RepVs_map_d hob⟩
    · cases h
  · rename_i l off'
    simp only [Option.some.injEq, Prod.mk.injEq] at h
    obtain ⟨rfl, rfl⟩ := h
    simp only [Rep] at r
    obtain ⟨b, o', vs, rfl, h1, h2⟩ := r
    refine ⟨b, o', rfl, undL_map_d _ _, ?_⟩
    by_cases hn : g.C b = []
    · rw [hn, List.drop_nil] at h1
      have hv : vs = [] := List.prefix_nil.1 h1
      subst hv
      have hl := RepDs_length h2
      left
      have : l = [] := List.eq_nil_of_length_eq_zero (by simpa using hl.symm)
      subst this; rfl
    · obtain ⟨cur, e, fz, h3, h4⟩ := hI.imm b hn
      exact .inr ⟨cur, e, fz, vs, h3, h1.trans (prefix_drop h4 o'), RepVs_map_d h2⟩
  · cases h

theorem shape_parts {t : TypeId} {n : Option Nat} (h : shapeT P t = some n) :
    (n = none ∧ (∀ w, (isAgg t).run P w = .ok false w) ∧ ∃ i, P.info? t = some i ∧ i.size = 1) ∨
    (∃ k, n = some k ∧ (∀ w, (isAgg t).run P w = .ok true w) ∧ ∃ i, P.info? t = some i ∧ i.size = k) := by
  unfold shapeT aggT at h
  cases hu : P.underlying t with
  | none => rw [hu] at h; cases h
  | some d =>
    rw [hu] at h
    have ha : ∀ w, (isAgg t).run P w = .ok (match d with | .struct _ | .array _ _ => true | _ => false) w := by
      intro w
      simp only [isAgg, Sem.run_bind, run_underlying hu, Result.andThen_ok]
      cases d <;> rfl
    simp only [Option.map_some, sizeT] at h
    cases hi : P.info? t with
    | none => cases d <;> simp [hi] at h
    | some i =>
      cases d <;> simp [hi] at h <;> first
        | (obtain ⟨h1, h2⟩ := h; exact .inl ⟨h2.symm, ha, i, rfl, h1⟩)
        | (exact .inr ⟨i.size, h.symm, ha, i, rfl, rfl⟩)

theorem loadV_ok (hI : Inv cx g H w) {t : TypeId} {n : Option Nat} (hs : shapeT P t = some n) {p r : V} {x : Value} (h : loadV H n p = some r) (hr : Rep g H p x) (hu : p.und H.length = true) :
    ∃ b off z, x = .pointer (some ⟨b, off, none⟩) ∧ (loadVar t ⟨b, off, none⟩).run P w = .ok z w ∧ Rep g H r z ∧ r.und H.length = true := by
  unfold loadV at h
  split at h
  · cases h
  · rename_i c off hc
    obtain ⟨b, o', rfl, huc, hcs⟩ := cellsAt_ok hI hc hr hu
    rcases shape_parts hs with ⟨rfl, ha, _⟩ | ⟨k, rfl, ha, i, hi, hk⟩
    · simp only [partV] at h
      rcases hcs with rfl | ⟨cur, e, fz, vs, h1, h2, h3⟩
      · simp at h
      · obtain ⟨y, hy, _, hr⟩ := RepVs_get h3 h
        have hy' := prefix_getElem h2 hy
        rw [List.getElem?_drop] at hy'
        refine ⟨b, _, y, rfl, ?_, hr, undL_get huc h⟩
        have hcell : w.cell? ⟨b, o' + off, none⟩ = some y := by
          rw [cell_of_row w b (o' + off) cur e fz h1]; simpa using hy'
        simp [loadVar, ha, hcell]
    · simp only [partV] at h
      split at h
      · rename_i hlen
        simp only [Option.some.injEq] at h
        subst h
        rcases hcs with rfl | ⟨cur, e, fz, vs, h1, h2, h3⟩
        · simp only [List.length_nil, Nat.le_zero] at hlen
          obtain rfl : k = 0 := by omega
          refine ⟨b, _, .agg #[], rfl, ?_, ?_, ?_⟩
          · simp [loadVar, ha, sizeOf, typeInfo, hi, hk, loadCells, loadCellsFrom]
          · simp [mkAgg, allD, Rep, RepD, RepDs]
          · simp [mkAgg, allD, V.und]
        · have hvl := RepVs_length h3
          have hl : ((vs.drop off).take k).length = k := by simp; omega
          refine ⟨b, _, .agg ((vs.drop off).take k).toArray, rfl, ?_, mkAgg_rep (RepVs_take k (RepVs_drop off h3)), mkAgg_und (undL_take k (undL_drop off huc))⟩
          have hload : (loadCells ⟨b, o' + off, none⟩ k).run P w = .ok ((vs.drop off).take k).toArray w := by
            have := run_loadCells_list (P := P) w ⟨b, o' + off, none⟩ ((vs.drop off).take k) (fun j v hj => by
              rw [cell_at h1 j]
              rw [List.getElem?_take] at hj
              split at hj
              · rw [List.getElem?_drop] at hj
                have := prefix_getElem h2 hj
                rw [List.getElem?_drop] at this
                rw [Nat.add_assoc]
                simpa using this
              · cases hj)
            rwa [hl] at this
          simp [loadVar, ha, sizeOf, typeInfo, hi, hk, hload]
      · cases h

theorem op_ld (hI : Inv cx g H w) {t : TypeId} {x : Operand} (hop : o.op = .load t x) {n : Option Nat} (hs : shapeT P t = some n) {p r : V} (h : loadV H n p = some r) (hr : Rep g H p (a.eval x)) (hu : p.und H.length = true) :
    StepOk P cx nb g H w r H ((execOp a.eval o).run P w) := by
  obtain ⟨b, off, z, hx, h1, h2, h3⟩ := loadV_ok (P := P) hI hs h hr hu
  refine StepOk.pure hI ?_ h2 h3
  simp only [execOp, hop, hx]
  exact run_v (by simp [Instr.loadAt, Instr.sureAddr, h1])
end
end Go.Vm
