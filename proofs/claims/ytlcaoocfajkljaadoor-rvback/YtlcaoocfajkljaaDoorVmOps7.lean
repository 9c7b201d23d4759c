import Derived.Test.YtlcaoocfajkljaaDoorVmOps6
namespace Go.Vm
section
variable {P : Program} {cx : Cx} {nb : Nat} {g : Gh} {H : Hp} {w : World} {o : Oper} {a : Act}

/-! A slice written out. -/
theorem fill_row (sz : Nat) {C : Nat → List Value} : ∀ (ds : List D) (xs : List Value) (k : Nat) (cells : Array Value) (pre : List Value), ds.length = xs.length → (∀ (i : Nat) (d : D) (x : Value), ds[i]? = some d → xs[i]? = some x → RepCs C d x.cells.toList ∧ d.cells.length = sz) →
    cells.toList.take (k * sz) = pre → cells.size = (k + xs.length) * sz →
    ∃ cells' us, Instr.fill (fun i => some (i * sz, sz)) cells ((xs.zipIdx k).map fun p => (p.2, p.1)) = some cells' ∧ cells'.toList = pre ++ us ∧ RepEl C sz ds us
  | [], [], k, cells, pre, _, _, hp, hs => by
    refine ⟨cells, [], rfl, ?_, by simp [RepEl]⟩
    simp only [List.length_nil, Nat.add_zero] at hs
    rw [← hp, List.append_nil, List.take_of_length_le (by simp [hs])]
  | d :: ds, x :: xs, k, cells, pre, hl, hall, hp, hs => by
    obtain ⟨r, hd⟩ := hall 0 d x rfl rfl
    have hxl := RepCs_length r
    have hxs : x.cells.size = sz := by simp at hxl; omega
    simp only [List.length_cons] at hs hl
    have e1 : (k + (xs.length + 1)) * sz = k * sz + sz + xs.length * sz := by rw [Nat.add_mul, Nat.add_mul, Nat.one_mul]; omega
    have e2 : (k + 1) * sz = k * sz + sz := by rw [Nat.add_mul, Nat.one_mul]
    have hsz : cells.size = k * sz + sz + xs.length * sz := by omega
    have hpl : pre.length = k * sz := by rw [← hp]; simp; omega
    simp only [List.zipIdx_cons, List.map_cons]
    rw [fill_step (off := k * sz) (size := sz) rfl hxs (by omega)]
    obtain ⟨cells', us, h1, h2, h3⟩ := fill_row sz ds xs (k + 1) (cells.toList.take (k * sz) ++ x.cells.toList ++ cells.toList.drop (k * sz + sz)).toArray (pre ++ x.cells.toList) (by omega)
      (fun i d' x' h h' => hall (i + 1) d' x' (by simpa using h) (by simpa using h')) (by
        simp only [hp]
        rw [e2, List.take_append_of_le_length (by simp [hpl, hxs])]
        exact List.take_of_length_le (by simp [hpl, hxs])) (by
        have e3 : (k + 1 + xs.length) * sz = k * sz + sz + xs.length * sz := by rw [Nat.add_mul, Nat.add_mul, Nat.one_mul]
        simp [hp, hpl, hxs]; omega)
    refine ⟨cells', x.cells.toList ++ us, h1, by rw [h2, List.append_assoc], ?_⟩
    simp only [RepEl]
    exact ⟨_, _, rfl, by simpa using hxs, r, h3⟩

theorem inOrder_zip : ∀ (ps : List (Nat × Operand)) (k : Nat), inOrder k ps = true → ps = ((ps.map (·.2)).zipIdx k).map fun p => (p.2, p.1)
  | [], _, _ => rfl
  | (i, x) :: ps, k, h => by
    simp only [inOrder, Bool.and_eq_true, beq_iff_eq] at h
    obtain ⟨rfl, h⟩ := h
    simp only [List.map_cons, List.zipIdx_cons]
    rw [← inOrder_zip ps (i + 1) h]

theorem toDs'_ok {N : Nat} {e : Env} (hI : Inv cx g H w) (hE : EnvOk g H N e a.tmps) : ∀ {xs : List Operand} {vs : List Opd} {ds : List D}, opdVs xs = some vs → vs.all (Opd.lt N) = true → evOp.toDs' cx e H vs = some ds →
    ds.length = xs.length ∧ ∀ (i : Nat) (d : D) (x : Operand), ds[i]? = some d → xs[i]? = some x → RepD g.C d (a.eval x)
  | [], vs, ds, h, _, hd => by
    simp only [opdVs, Option.some.injEq] at h; subst h
    simp only [evOp.toDs', Option.some.injEq] at hd; subst hd
    exact ⟨rfl, by simp⟩
  | x :: xs, vs, ds, h, hl, hd => by
    simp only [opdVs] at h
    split at h
    · rename_i v vs' hv hvs
      simp only [Option.some.injEq] at h
      subst h
      simp only [List.all_cons, Bool.and_eq_true] at hl
      simp only [evOp.toDs'] at hd
      split at hd
      · rename_i y ys hy hys
        simp only [Option.some.injEq] at hd
        subst hd
        obtain ⟨h1, h2⟩ := toDs'_ok hI hE hvs hl.2 hys
        refine ⟨by simp [h1], fun i d q hi hq => ?_⟩
        cases i with
        | zero => simp at hi hq; subst hi; subst hq; exact toD_rep hI hy (opd_ok hI hE hv hl.1).1
        | succ i => exact h2 i d q (by simpa using hi) (by simpa using hq)
      · cases hd
    · cases h

theorem op_bslice (hI : Inv cx g H w) {N : Nat} {e : Env} (hE : EnvOk g H N e a.tmps) {t el : TypeId} {len : Nat} {ps : Array (Nat × Operand)} (hop : o.op = .buildSlice t len ps) (hu : P.underlying t = some (.slice el)) {sz : Nat} (hsz : sizeT P el = some sz)
    {vs : List Opd} (hvs : opdVs (ps.toList.map (·.2)) = some vs) (hord : inOrder 0 ps.toList = true) (hz : (zeroCells P el).isSome = true) (hlt : vs.all (Opd.lt N) = true)
    {ds : List D} (hds : evOp.toDs' cx e H vs = some ds) (hl : ds.length = len) (hall : ds.all (fun x => x.cells.length == sz) = true) (h0 : 0 < sz) (hmax : len * sz ≤ 16777216) :
    StepOk P cx nb g H w (.d (.sl ds)) H ((execOp a.eval o).run P w) := by
  obtain ⟨z, hz⟩ := Option.isSome_iff_exists.1 hz
  obtain ⟨it, zv, hi, hzv, _⟩ := zero_parts hz
  obtain ⟨h1, h2⟩ := toDs'_ok hI hE hvs hlt hds
  have hpl : ps.size = len := by rw [← hl, h1]; simp
  obtain ⟨cells, us, hf, hc, hel⟩ := fill_row sz (C := g.C) ds (ps.toList.map fun p => a.eval p.2) 0 ((Array.range (len * sz)).map (fun i => (if len * sz = 0 then #[] else zv.cells)[i % (if len * sz = 0 then #[] else zv.cells).size]!)) [] (by simp; omega)
    (by
      intro i d x hd hx
      simp only [List.getElem?_map, Option.map_eq_some_iff] at hx
      obtain ⟨p, hp, rfl⟩ := hx
      refine ⟨RepD_cells (h2 i d p.2 hd (by simp [hp])), ?_⟩
      have := List.all_eq_true.1 hall d (List.mem_of_getElem? hd)
      simpa using this) (by simp) (by simp [hpl])
  have hparts : (ps.map fun (q : Nat × Operand) => (q.1, a.eval q.2)).toList = ((ps.toList.map fun p => a.eval p.2).zipIdx 0).map fun p => (p.2, p.1) := by
    have := inOrder_zip ps.toList 0 hord
    rw [Array.toList_map]
    conv => lhs; rw [this]
    simp [List.zipIdx_map, List.map_map, Function.comp_def]
  have hrun : (execOp a.eval o).run P w = .ok (.value (.slice (some ⟨w.heap.size, 0, none⟩) len len)) (w.alloc (.cells cells el)) := by
    simp only [execOp, hop]
    refine run_v ?_
    have hbig : ¬ (len * sz > 2 ^ 24) := by omega
    simp only [Instr.buildSlice, Sem.run_bind, run_underlying hu, Result.andThen_ok, run_sizeOf hsz]
    rw [if_neg hbig]
    by_cases hz0 : len * sz = 0
    · simp only [if_pos hz0] at hf ⊢
      simp only [Sem.run_bind, Sem.run_pure, Result.andThen_ok]
      rw [hparts, hf]
      simp [newRow]
    · simp only [if_neg hz0] at hf ⊢
      have hzr : (zeroValue el).run P w = .ok zv w := by simp [zeroValue, typeInfo, hi, hzv]
      simp only [Sem.run_bind, Sem.run_pure, hzr, Result.andThen_ok]
      rw [hparts, hf]
      simp [newRow]
  obtain ⟨g', i1, i2, i3⟩ := hI.lit (nb := nb) (cs := cells) (T := el)
  rw [hrun]
  refine .val g' _ _ i1 ?_ rfl i2
  simp only [Rep, RepD, RepCs]
  refine ⟨_, _, by rw [hl], by omega, .inr ⟨w.heap.size, 0, sz, us, rfl, h0, ?_, RepEl_mono i2.keep.C _ _ _ hel⟩⟩
  rw [i3, hc]; simp

/-! Calls. -/
/-- What a function does, told over the machine. -/
def FnSpec (P : Program) (cx : Cx) (f : Nat) (args : List V) (H : Hp) (r : V) (H' : Hp) : Prop :=
  (∃ fn, P.funcs[f]? = some fn ∧ fn.body.isNone = false ∧ (fn.name == "runtime.NumGoroutine") = false) ∧
  ∀ g w (cargs : Array Value), Inv cx g H w → RepTs g H args cargs.toList → undL H.length args = true →
    Calls P f cargs w (fun e w' => ∃ g' x, e = .returned x ∧ Inv cx g' H' w' ∧ Rep g' H' r x ∧ r.und H'.length = true ∧ Ext H.length g H w g' H' w')

def SOrc (P : Program) (cx : Cx) (orc : Orc) : Prop := ∀ f args H r H', orc f args H = some (r, H') → FnSpec P cx f args H r H'

theorem run_callFunc {f : Nat} {fn : Func} (hf : P.funcs[f]? = some fn) (hb : fn.body.isNone = false) (hn : (fn.name == "runtime.NumGoroutine") = false) (args : Array Value) : (callFunc f args).run P w = .ok (.enter f args) w := by
  have hn' : fn.name ≠ "runtime.NumGoroutine" := by simpa using hn
  have hb' : fn.body ≠ none := by intro h; rw [h] at hb; cases hb
  simp [callFunc, hf, hb', hn']

theorem step_call {orc : Orc} (hS : SOrc P cx orc) (hI : Inv cx g H w) (hnb : nb ≤ H.length) {f : Nat} {args : List V} {cargs : Array Value} {r : V} {H' : Hp} (h : orc f args H = some (r, H')) (ra : RepTs g H args cargs.toList) (ua : undL H.length args = true) :
    StepOk P cx nb g H w r H' ((callFunc f cargs).run P w) := by
  obtain ⟨⟨fn, h1, h2, h3⟩, h4⟩ := hS f args H r H' h
  rw [run_callFunc h1 h2 h3]
  refine .call _ _ ((h4 g w cargs hI ra ua).mono ?_)
  rintro e w' ⟨g', x, rfl, i1, i2, i3, i4⟩
  exact ⟨g', x, rfl, i1, i2, i3, i4.le hnb⟩

theorem op_call {orc : Orc} (hS : SOrc P cx orc) (hI : Inv cx g H w) (hnb : nb ≤ H.length) {f : Nat} {ar : Array Operand} {at' : Array TypeId} (hop : o.op = .call { callee := .value (.func f), args := ar, argTypes := at' }) {args : List V} {r : V} {H' : Hp}
    (h : orc f args H = some (r, H')) (ra : RepTs g H args (ar.toList.map a.eval)) (ua : undL H.length args = true) : StepOk P cx nb g H w r H' ((execOp a.eval o).run P w) := by
  have hrun : (execOp a.eval o).run P w = (callFunc f (ar.map a.eval)).run P w := by
    simp [execOp, hop, resolve, Act.eval, Deferred.ofValue, invoke]
  rw [hrun]
  exact step_call hS hI hnb h (by simpa using ra) ua

theorem op_callv {orc : Orc} (hS : SOrc P cx orc) (hI : Inv cx g H w) (hnb : nb ≤ H.length) {t : Nat} {ar : Array Operand} {at' : Array TypeId} (hop : o.op = .call { callee := .value (.tmp t), args := ar, argTypes := at' }) {f : Nat} {c args : List V} {r : V} {H' : Hp}
    (hf : Rep g H (.fn f c) (a.eval (.tmp t))) (uf : (V.fn f c).und H.length = true) (h : orc f (args ++ c) H = some (r, H')) (ra : RepTs g H args (ar.toList.map a.eval)) (ua : undL H.length args = true) : StepOk P cx nb g H w r H' ((execOp a.eval o).run P w) := by
  simp only [Rep] at hf
  obtain ⟨cs, hx, hc⟩ := hf
  have hrun : (execOp a.eval o).run P w = (callFunc f (ar.map a.eval ++ cs)).run P w := by
    simp [execOp, hop, resolve, hx, Deferred.ofValue, invoke]
  rw [hrun]
  refine step_call hS hI hnb h ?_ (undL_append ua (by simpa only [V.und] using uf))
  have := RepTs_append ra hc
  simpa using this
end
end Go.Vm
