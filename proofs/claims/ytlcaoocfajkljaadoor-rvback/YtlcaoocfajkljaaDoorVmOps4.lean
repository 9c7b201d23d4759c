import Derived.Test.YtlcaoocfajkljaaDoorVmOps3
namespace Go.Vm
section
variable {P : Program} {cx : Cx} {nb : Nat} {g : Gh} {H : Hp} {w : World} {o : Oper} {a : Act}

theorem size_parts {t : TypeId} {n : Nat} (h : sizeT P t = some n) : ∃ i, P.info? t = some i ∧ i.size = n := by
  unfold sizeT at h
  obtain ⟨i, hi, hn⟩ := Option.map_eq_some_iff.1 h
  exact ⟨i, hi, hn⟩

theorem run_sizeOf {t : TypeId} {n : Nat} (h : sizeT P t = some n) : (sizeOf t).run P w = .ok n w := by
  obtain ⟨i, hi, rfl⟩ := size_parts h
  simp [sizeOf, typeInfo, hi]

theorem op_fadr (hI : Inv cx g H w) {s : TypeId} {x : Operand} {k : Nat} (hop : o.op = .fieldAddr s x k) {fs : Array Field} (hs : P.underlying s = some (.struct fs)) {f : Field} (hf : fs[k]? = some f)
    {n : Nat} (hn : sizeT P f.type = some n) (h0 : n ≠ 0) {v r : V}
    (h : (∃ id off, v = .ptr id off ∧ r = .ptr id (off + f.offset)) ∨ (∃ l off, v = .ro l off ∧ r = .ro l (off + f.offset))) (hr : Rep g H v (a.eval x)) (hu : v.und H.length = true) :
    StepOk P cx nb g H w r H ((execOp a.eval o).run P w) := by
  have run : ∀ b p, a.eval x = .pointer (some ⟨b, p, none⟩) → (execOp a.eval o).run P w = .ok (.value (.pointer (some ⟨b, p + f.offset, none⟩))) w := by
    intro b p hx
    simp only [execOp, hop, hx]
    refine run_v ?_
    simp [Instr.fieldAt, run_underlying hs, hf, Instr.sureAddr, fieldPlace, run_sizeOf hn, h0, Addr.add_lit]
  rcases h with ⟨id, off, rfl, rfl⟩ | ⟨l, off, rfl, rfl⟩
  · simp only [Rep] at hr
    obtain ⟨ho, b, c, hJ, hx⟩ := hr
    refine StepOk.pure hI (run b off hx) ?_ hu
    simp only [Rep]; exact ⟨ho, b, c, hJ, rfl⟩
  · simp only [Rep] at hr
    obtain ⟨b, p, vs, hx, h1, h2⟩ := hr
    refine StepOk.pure hI (run b (p + off) hx) ?_ rfl
    simp only [Rep]; exact ⟨b, p, vs, by rw [Nat.add_assoc], h1, h2⟩

theorem part_ok {t : TypeId} {n : Option Nat} (hs : shapeT P t = some n) {l : List V} {cs : Array Value} {off : Nat} (hr : RepVs g H l cs.toList) (hu : undL H.length l = true) {r : V}
    (h : partV n l off = some r) :
    ∃ z, (part t cs off).run P w = .ok z w ∧ Rep g H r z ∧ r.und H.length = true := by
  rcases shape_parts hs with ⟨rfl, ha, _⟩ | ⟨k, rfl, ha, i, hi, hk⟩
  · simp only [partV] at h
    obtain ⟨y, hy, _, hr⟩ := RepVs_get hr h
    have hy' : cs[off]? = some y := by simpa using hy
    exact ⟨y, by simp [part, ha, hy'], hr, undL_get hu h⟩
  · simp only [partV] at h
    split at h
    · rename_i hlen
      simp only [Option.some.injEq] at h
      subst h
      refine ⟨.agg ((cs.toList.drop off).take k).toArray, ?_, mkAgg_rep (RepVs_take k (RepVs_drop off hr)), mkAgg_und (undL_take k (undL_drop off hu))⟩
      have : cs.extract off (off + k) = ((cs.toList.drop off).take k).toArray := by
        apply Array.ext'
        simp [Array.toList_extract, List.extract_eq_take_drop]
      simp [part, ha, sizeOf, typeInfo, hi, hk, this]
    · cases h

theorem op_fld (hI : Inv cx g H w) {t : TypeId} {x : Operand} {k : Nat} (hop : o.op = .field t x k) {fs : Array Field} (hs : P.underlying t = some (.struct fs)) {f : Field} (hf : fs[k]? = some f)
    {n : Option Nat} (hn : shapeT P f.type = some n) {l : List V} {v r : V} (hv : v = .agg l ∨ ∃ ds, v = .d (.agg ds) ∧ l = ds.map V.d)
    (h : partV n l f.offset = some r) (hr : Rep g H v (a.eval x)) (hu : v.und H.length = true) :
    StepOk P cx nb g H w r H ((execOp a.eval o).run P w) := by
  have hh : ∃ cs : Array Value, a.eval x = .agg cs ∧ RepVs g H l cs.toList ∧ undL H.length l = true := by
    rcases hv with rfl | ⟨ds, rfl, rfl⟩
    · simp only [Rep] at hr
      obtain ⟨cs, h1, h2⟩ := hr
      exact ⟨cs, h1, h2, by simpa only [V.und] using hu⟩
    · simp only [Rep, RepD] at hr
      obtain ⟨cs, h1, h2⟩ := hr
      exact ⟨cs, h1, RepVs_map_d h2, undL_map_d _ _⟩
  obtain ⟨cs, hx, hr', hu'⟩ := hh
  obtain ⟨z, h1, h2, h3⟩ := part_ok (P := P) (w := w) hn hr' hu' h
  refine StepOk.pure hI ?_ h2 h3
  simp only [execOp, hop, hx]
  exact run_v (by simp [Instr.field, run_underlying hs, hf, asAgg, h1])

theorem idx_int {v : V} {n : Nat} {x : Value} (h : idxNat v = some n) (r : Rep g H v x) : ∃ k, x = .int k (n : Int) := by
  unfold idxNat at h
  split at h
  · rename_i k m
    split at h
    · rename_i hm
      simp only [Option.some.injEq] at h
      refine ⟨k, (rep_int r).trans ?_⟩
      congr 1; omega
    · cases h
  · cases h

theorem op_idx (hI : Inv cx g H w) {t : TypeId} {x i : Operand} (hop : o.op = .index t x i) (ht : P.underlying t = some .string) {vi : V} {n : Nat} (hi : idxNat vi = some n) (ri : Rep g H vi (a.eval i)) {s : List UInt8} {b : UInt8} (hb : s[n]? = some b)
    (rx : Rep g H (.d (.str s)) (a.eval x)) : StepOk P cx nb g H w (.d (.int .u8 b.toNat)) H ((execOp a.eval o).run P w) := by
  obtain ⟨k, hk⟩ := idx_int hi ri
  refine StepOk.pure hI ?_ (int_rep _ _) rfl
  simp only [execOp, hop, rep_str rx, hk]
  refine run_v ?_
  have hb' : (⟨s.toArray⟩ : ByteArray)[n]? = some b := by
    obtain ⟨hlt, he⟩ := List.getElem?_eq_some_iff.1 hb
    have hlt' : n < (⟨s.toArray⟩ : ByteArray).size := by simpa [ByteArray.size] using hlt
    rw [ByteArray.getElem?_lt' _ _ hlt']
    congr 1
  simp [Instr.index, asIntOf, run_underlying ht, hb']

/-- A slice of data, and where it lies. -/
theorem lsize_rep (hI : Inv cx g H w) {v : V} {l : List D} {x : Value} (h : lsize H v = some l) (r : Rep g H v x) : RepD g.C (.sl l) x := by
  unfold lsize at h
  split at h
  · rename_i l' hl
    simp only [Option.some.injEq] at h
    subst h
    exact toD1_rep hI hl r
  · cases h

theorem sl_parts {l : List D} {x : Value} (r : RepD g.C (.sl l) x) : ∃ ad cap, x = .slice ad l.length cap ∧ l.length ≤ cap ∧ (l = [] ∨ ∃ b off sz us, ad = some ⟨b, off, none⟩ ∧ 0 < sz ∧ us <+: (g.C b).drop off ∧ RepEl g.C sz l us) := by
  simp only [RepD, RepCs] at r
  obtain ⟨ad, cap, h, r⟩ := r
  cases h
  exact ⟨ad, cap, rfl, r⟩

theorem op_iadr_sl (hI : Inv cx g H w) {t e : TypeId} {x i : Operand} (hop : o.op = .indexAddr t x i) (ht : P.underlying t = some (.slice e)) {sz : Nat} (hsz : sizeT P e = some sz) {vi : V} {n : Nat} (hi : idxNat vi = some n) (ri : Rep g H vi (a.eval i))
    {v : V} {l : List D} {y : D} (hl : lsize H v = some l) (hy : l[n]? = some y) (hc : y.cells.length = sz) (rx : Rep g H v (a.eval x)) : StepOk P cx nb g H w (.ro y.cells 0) H ((execOp a.eval o).run P w) := by
  obtain ⟨k, hk⟩ := idx_int hi ri
  obtain ⟨ad, cap, hx, _, hr⟩ := sl_parts (lsize_rep hI hl rx)
  have hn := (List.getElem?_eq_some_iff.1 hy).1
  rcases hr with rfl | ⟨b, off, sz', us, rfl, h0, h1, h2⟩
  · simp at hn
  · have hg := RepEl_get h2 hy
    have hlen := RepCs_length hg
    have husl := RepEl_length h2
    have hsz' : sz' = sz := by
      rw [hc] at hlen
      have : (n + 1) * sz' ≤ l.length * sz' := Nat.mul_le_mul_right _ (by omega)
      rw [Nat.add_mul, Nat.one_mul] at this
      simp only [List.length_take, List.length_drop] at hlen
      omega
    subst hsz'
    refine StepOk.pure (x := .pointer (some ⟨b, off + n * sz', none⟩)) hI ?_ ?_ rfl
    · simp only [execOp, hop, hx, hk]
      refine run_v ?_
      simp [Instr.indexAt, asIntOf, run_underlying ht, run_sizeOf hsz, Addr.add_lit]
      omega
    · simp only [Rep]
      refine ⟨b, off + n * sz', (us.drop (n * sz')).take sz', by simp, ?_, RepDs_cells hg⟩
      refine (List.take_prefix _ _).trans ?_
      rw [← List.drop_drop]
      exact prefix_drop h1 _

theorem op_iadr_arr (hI : Inv cx g H w) {t e : TypeId} {x i : Operand} (hop : o.op = .indexAddr t x i) (ht : P.underlying t = some (.slice e)) {sz : Nat} (hsz : sizeT P e = some sz) {vi : V} {n : Nat} (hi : idxNat vi = some n) (ri : Rep g H vi (a.eval i))
    {id off len : Nat} (hn : n < len) (rx : Rep g H (.arr id off len) (a.eval x)) (hu : (V.arr id off len).und H.length = true) : StepOk P cx nb g H w (.ptr id (off + n * sz)) H ((execOp a.eval o).run P w) := by
  obtain ⟨k, hk⟩ := idx_int hi ri
  simp only [Rep] at rx
  obtain ⟨ho, b, c, cap, hJ, hx, _⟩ := rx
  refine StepOk.pure (x := .pointer (some ⟨b, off + n * sz, none⟩)) hI ?_ ?_ hu
  · simp only [execOp, hop, hx, hk]
    refine run_v ?_
    simp [Instr.indexAt, asIntOf, run_underlying ht, run_sizeOf hsz, Addr.add_lit, hn]
  · simp only [Rep]; exact ⟨ho, b, c, hJ, rfl⟩

theorem op_iadra (hI : Inv cx g H w) {t e : TypeId} {x i : Operand} (hop : o.op = .indexAddr t x i) {len : Nat} (ht : P.underlying t = some (.array len e)) {sz : Nat} (hsz : sizeT P e = some sz) {vi : V} {n : Nat} (hi : idxNat vi = some n) (ri : Rep g H vi (a.eval i)) (hn : n < len)
    {v r : V} (h : (∃ id off, v = .ptr id off ∧ r = .ptr id (off + n * sz)) ∨ (∃ l off, v = .ro l off ∧ r = .ro l (off + n * sz))) (hr : Rep g H v (a.eval x)) (hu : v.und H.length = true) :
    StepOk P cx nb g H w r H ((execOp a.eval o).run P w) := by
  obtain ⟨k, hk⟩ := idx_int hi ri
  have run : ∀ b p, a.eval x = .pointer (some ⟨b, p, none⟩) → (execOp a.eval o).run P w = .ok (.value (.pointer (some ⟨b, p + n * sz, none⟩))) w := by
    intro b p hx
    simp only [execOp, hop, hx, hk]
    refine run_v ?_
    simp [Instr.indexAt, asIntOf, run_underlying ht, run_sizeOf hsz, Addr.add_lit, Instr.sureAddr, hn]
  rcases h with ⟨id, off, rfl, rfl⟩ | ⟨l, off, rfl, rfl⟩
  · simp only [Rep] at hr
    obtain ⟨ho, b, c, hJ, hx⟩ := hr
    refine StepOk.pure hI (run b off hx) ?_ hu
    simp only [Rep]; exact ⟨ho, b, c, hJ, rfl⟩
  · simp only [Rep] at hr
    obtain ⟨b, p, vs, hx, h1, h2⟩ := hr
    refine StepOk.pure hI (run b (p + off) hx) ?_ rfl
    simp only [Rep]; exact ⟨b, p, vs, by rw [Nat.add_assoc], h1, h2⟩

theorem op_len_str (hI : Inv cx g H w) {x : Operand} {t : TypeId} {ar : Array Operand} {at' : Array TypeId} (hop : o.op = .call { callee := .builtin .len, args := ar, argTypes := at' }) (har : ar.toList = [x]) (hat : at'.toList = [t])
    (ht : P.underlying t = some .string) {s : List UInt8} (hr : Rep g H (.d (.str s)) (a.eval x)) :
    StepOk P cx nb g H w (.d (.int .i64 s.length)) H ((execOp a.eval o).run P w) := by
  obtain rfl : ar = #[x] := by apply Array.ext'; simpa using har
  obtain rfl : at' = #[t] := by apply Array.ext'; simpa using hat
  refine StepOk.pure hI ?_ (int_rep _ _) rfl
  simp [execOp, hop, resolve, invoke, builtin, rep_str hr, run_len_string, ht, ByteArray.size, goInt]

theorem lenV_rep {v : V} {n : Nat} {x : Value} (h : lenV v = some n) (r : Rep g H v x) : ∃ ad cap, x = .slice ad n cap := by
  cases v with
  | d d =>
    cases d with
    | sl l => simp only [lenV, Option.some.injEq] at h; subst h; simp only [Rep] at r; obtain ⟨ad, cap, hx, _⟩ := sl_parts r; exact ⟨ad, cap, hx⟩
    | _ => simp [lenV] at h
  | nils => simp only [lenV, Option.some.injEq] at h; subst h; simp only [Rep] at r; exact ⟨_, _, r⟩
  | row id len => simp only [lenV, Option.some.injEq] at h; subst h; simp only [Rep] at r; obtain ⟨ad, cap, _, _, hx, _⟩ := r; exact ⟨ad, cap, hx⟩
  | arr id off len => simp only [lenV, Option.some.injEq] at h; subst h; simp only [Rep] at r; obtain ⟨_, b, c, cap, _, hx, _⟩ := r; exact ⟨_, _, hx⟩
  | _ => simp [lenV] at h

theorem op_len_sl (hI : Inv cx g H w) {x : Operand} {t e : TypeId} {ar : Array Operand} {at' : Array TypeId} (hop : o.op = .call { callee := .builtin .len, args := ar, argTypes := at' }) (har : ar.toList = [x]) (hat : at'.toList = [t])
    (ht : P.underlying t = some (.slice e)) {v : V} {n : Nat} (h : lenV v = some n) (hr : Rep g H v (a.eval x)) :
    StepOk P cx nb g H w (.d (.int .i64 n)) H ((execOp a.eval o).run P w) := by
  obtain rfl : ar = #[x] := by apply Array.ext'; simpa using har
  obtain rfl : at' = #[t] := by apply Array.ext'; simpa using hat
  obtain ⟨ad, cap, hx⟩ := lenV_rep h hr
  refine StepOk.pure hI ?_ (int_rep _ _) rfl
  simp [execOp, hop, resolve, invoke, builtin, hx, Builtin.len_, run_underlying ht, goInt]

theorem op_mm (hI : Inv cx g H w) {x y : Operand} {mx : Bool} {ar : Array Operand} {at' : Array TypeId} (hop : o.op = .call { callee := .builtin (if mx then .max else .min), args := ar, argTypes := at' }) (har : ar.toList = [x, y])
    {k : IntKind} {p q : Int} (rx : Rep g H (.d (.int k p)) (a.eval x)) (ry : Rep g H (.d (.int k q)) (a.eval y)) :
    StepOk P cx nb g H w (.d (.int k (if mx then max p q else min p q))) H ((execOp a.eval o).run P w) := by
  obtain rfl : ar = #[x, y] := by apply Array.ext'; simpa using har
  refine StepOk.pure hI ?_ (int_rep _ _) rfl
  cases mx
  · simp only [Bool.false_eq_true, if_false] at hop ⊢
    have : min p q = if q < p then q else p := by omega
    simp [execOp, hop, resolve, invoke, builtin, rep_int rx, rep_int ry, run_min_int2, this]
  · simp only [if_true] at hop ⊢
    have : max p q = if q > p then q else p := by omega
    simp [execOp, hop, resolve, invoke, builtin, rep_int rx, rep_int ry, run_max_int2, this]

/-! Cutting. -/
theorem bound_int {e : Env} {d n : Nat} {ox : Option Opd} {x : Option Operand} (h : evOp.bound cx e d ox = some n) (hx : ∀ v y, ox = some v → x = some y → Rep g H (evO cx e v) (a.eval y)) (hs : ox.isSome = x.isSome) :
    (ox = none ∧ x = none ∧ n = d) ∨ ∃ y k, x = some y ∧ a.eval y = .int k (n : Int) := by
  cases ox with
  | none => cases x with
    | none => simp only [evOp.bound, Option.some.injEq] at h; exact .inl ⟨rfl, rfl, h.symm⟩
    | some y => cases hs
  | some v => cases x with
    | none => cases hs
    | some y =>
      simp only [evOp.bound] at h
      obtain ⟨k, hk⟩ := idx_int h (hx v y rfl rfl)
      exact .inr ⟨y, k, rfl, hk⟩

theorem run_bound {y code} {k : IntKind} {n : Nat} (h : n ≤ y) : (Instr.sliceBound (.int k (n : Int)) y code).run P w = .ok n w := by
  simp [Instr.sliceBound, asIntOf, h]

theorem extract_bytes (s : List UInt8) (l h : Nat) : (⟨s.toArray⟩ : ByteArray).extract l h = ⟨((s.take h).drop l).toArray⟩ := by
  apply ByteArray.ext
  apply Array.ext'
  simp [ByteArray.data_extract, List.extract_eq_take_drop, List.drop_take]

theorem op_slcs (hI : Inv cx g H w) {t : TypeId} {x : Operand} {lo hi : Option Operand} (hop : o.op = .slice t x lo hi none) (ht : P.underlying t = some .string) {s : List UInt8} (rx : Rep g H (.d (.str s)) (a.eval x))
    {l h : Nat} (hl : (lo = none ∧ l = 0) ∨ ∃ y k, lo = some y ∧ a.eval y = .int k (l : Int)) (hh : (hi = none ∧ h = s.length) ∨ ∃ y k, hi = some y ∧ a.eval y = .int k (h : Int)) (h1 : l ≤ h) (h2 : h ≤ s.length) :
    StepOk P cx nb g H w (.d (.str ((s.take h).drop l))) H ((execOp a.eval o).run P w) := by
  refine StepOk.pure hI ?_ (str_rep _) rfl
  simp only [execOp, hop, rep_str rx]
  refine run_v ?_
  have hsz : (⟨s.toArray⟩ : ByteArray).size = s.length := by simp [ByteArray.size]
  rw [← extract_bytes]
  rcases hl with ⟨rfl, rfl⟩ | ⟨yl, kl, rfl, el⟩ <;> rcases hh with ⟨rfl, rfl⟩ | ⟨yh, kh, rfl, eh⟩
  · simp [Instr.sliceAt, run_underlying ht, Instr.slice, Instr.sliceBounds, ← hsz]
  · simp [Instr.sliceAt, run_underlying ht, Instr.slice, Instr.sliceBounds, hsz, eh, run_bound h2]
  · simp [Instr.sliceAt, run_underlying ht, Instr.slice, Instr.sliceBounds, hsz, el, run_bound h1]
  · simp [Instr.sliceAt, run_underlying ht, Instr.slice, Instr.sliceBounds, hsz, el, eh, run_bound h1, run_bound h2]

theorem op_slc (hI : Inv cx g H w) {t e : TypeId} {x : Operand} {lo hi : Option Operand} (hop : o.op = .slice t x lo hi none) (ht : P.underlying t = some (.slice e)) {sz : Nat} (hsz : sizeT P e = some sz) {v : V} {s : List D} (hs : lsize H v = some s) (rx : Rep g H v (a.eval x))
    {l h : Nat} (hl : (lo = none ∧ l = 0) ∨ ∃ y k, lo = some y ∧ a.eval y = .int k (l : Int)) (hh : (hi = none ∧ h = s.length) ∨ ∃ y k, hi = some y ∧ a.eval y = .int k (h : Int)) (h1 : l ≤ h) (h2 : h ≤ s.length)
    (hall : l = 0 ∨ s.all (fun y => y.cells.length == sz) = true) :
    StepOk P cx nb g H w (.d (.sl ((s.take h).drop l))) H ((execOp a.eval o).run P w) := by
  obtain ⟨ad, cap, hx, hlc, hr⟩ := sl_parts (lsize_rep hI hs rx)
  have hrun : (execOp a.eval o).run P w = .ok (.value (.slice (if cap = l then ad else ad.map (·.add (l * sz))) (h - l) (cap - l))) w := by
    simp only [execOp, hop, hx]
    refine run_v ?_
    have h3 : h ≤ cap := by omega
    rcases hl with ⟨rfl, rfl⟩ | ⟨yl, kl, rfl, el⟩ <;> rcases hh with ⟨rfl, rfl⟩ | ⟨yh, kh, rfl, eh⟩
    · simp [Instr.sliceAt, run_underlying ht, Instr.slice, Instr.sliceBounds, run_sizeOf hsz]
    · simp [Instr.sliceAt, run_underlying ht, Instr.slice, Instr.sliceBounds, run_sizeOf hsz, eh, run_bound h3]
    · simp [Instr.sliceAt, run_underlying ht, Instr.slice, Instr.sliceBounds, run_sizeOf hsz, el, run_bound h1]
    · simp [Instr.sliceAt, run_underlying ht, Instr.slice, Instr.sliceBounds, run_sizeOf hsz, el, eh, run_bound h1, run_bound h3]
  refine StepOk.pure hI hrun ?_ rfl
  simp only [Rep, RepD, RepCs]
  have hlen : ((s.take h).drop l).length = h - l := by simp; omega
  refine ⟨_, _, by rw [hlen], by rw [hlen]; omega, ?_⟩
  by_cases he : h = l
  · left; subst he; apply List.eq_nil_of_length_eq_zero; rw [hlen]; omega
  · right
    rcases hr with rfl | ⟨b, off, sz', us, rfl, h0, hp, hel⟩
    · simp at h2; omega
    · have hcap : cap ≠ l := by omega
      rw [if_neg hcap]
      have hel2 := RepEl_drop l (RepEl_take h hel)
      have hus := RepEl_length hel
      by_cases hl0 : l = 0
      · subst hl0
        refine ⟨b, off, sz', us.take (h * sz'), ?_, h0, (List.take_prefix _ _).trans hp, by simpa using hel2⟩
        simp [Addr.add_lit]
      · have hszz : sz' = sz := by
          have hall' := hall.resolve_left hl0
          have hs0 : 0 < s.length := by omega
          have hg := RepCs_length (RepEl_get hel (List.getElem?_eq_getElem hs0))
          have hc : (s[0]).cells.length = sz := by
            have := List.all_eq_true.1 hall' _ (List.getElem_mem hs0)
            simpa using this
          rw [hc] at hg
          have : 1 * sz' ≤ s.length * sz' := Nat.mul_le_mul_right _ (by omega)
          simp only [Nat.zero_mul, List.drop_zero, List.length_take] at hg
          omega
        subst hszz
        refine ⟨b, off + l * sz', sz', (us.take (h * sz')).drop (l * sz'), by simp [Addr.add_lit], h0, ?_, hel2⟩
        rw [← List.drop_drop]
        exact prefix_drop ((List.take_prefix _ _).trans hp) _
end
end Go.Vm
