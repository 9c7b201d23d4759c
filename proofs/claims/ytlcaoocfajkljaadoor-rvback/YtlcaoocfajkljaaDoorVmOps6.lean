import Derived.Test.YtlcaoocfajkljaaDoorVmOps5
namespace Go.Vm
section
variable {P : Program} {cx : Cx} {nb : Nat} {g : Gh} {H : Hp} {w : World} {o : Oper} {a : Act}

/-! Parts laid into cells. -/
theorem foldl_set (off : Nat) : ∀ (vs : List Value) (k : Nat) (cs : Array Value), off + k + vs.length ≤ cs.size →
    ((vs.zipIdx k).foldl (fun (cs : Array Value) (q : Value × Nat) => cs.setIfInBounds (off + q.2) q.1) cs).toList = cs.toList.take (off + k) ++ vs ++ cs.toList.drop (off + k + vs.length)
  | [], k, cs, h => by simp
  | v :: vs, k, cs, h => by
    simp only [List.zipIdx_cons, List.foldl_cons]
    simp only [List.length_cons] at h
    rw [foldl_set off vs (k + 1) _ (by simp; omega)]
    simp only [Array.toList_setIfInBounds, List.length_cons]
    have h1 : off + k < cs.toList.length := by simp; omega
    rw [← Nat.add_assoc, List.take_set, List.drop_set_of_lt (by omega)]
    have e : (cs.toList.take (off + k + 1)).set (off + k) v = cs.toList.take (off + k) ++ [v] := by
      have hm : (cs.toList.take (off + k)).length = off + k := by simp at h1 ⊢; omega
      rw [List.take_succ_eq_append_getElem h1, List.set_append_right _ _ (by omega), hm, Nat.sub_self]
      rfl
    rw [e]
    simp [Nat.add_assoc, Nat.add_comm 1]

theorem fill_step {place : Nat → Option (Nat × Nat)} {cells : Array Value} {i : Nat} {v : Value} {rest : List (Nat × Value)} {off size : Nat} (hp : place i = some (off, size)) (hs : v.cells.size = size) (hl : off + size ≤ cells.size) :
    Instr.fill place cells ((i, v) :: rest) = Instr.fill place (cells.toList.take off ++ v.cells.toList ++ cells.toList.drop (off + size)).toArray rest := by
  have e : (v.cells.zipIdx.foldl (fun (cs : Array Value) (x : Value × Nat) => match x with | (c, j) => cs.setIfInBounds (off + j) c) cells) = (cells.toList.take off ++ v.cells.toList ++ cells.toList.drop (off + size)).toArray := by
    apply Array.ext'
    have := foldl_set off v.cells.toList 0 cells (by simp; omega)
    rw [← Array.foldl_toList, Array.toList_zipIdx]
    simp only [Nat.add_zero, Array.length_toList, hs] at this
    exact this
  simp only [Instr.fill, hp]
  rw [if_neg (by simp [hs]; omega)]
  exact congrArg (fun c => Instr.fill place c rest) e

theorem fillV_ok {place : Nat → Option (Nat × Nat)} : ∀ {ps : List (Nat × Nat × V)} {qs : List (Nat × Value)} {z c : List V} {cells : Array Value}, fillV z ps = some c → RepVs g H z cells.toList → undL H.length z = true →
    (List.length ps = qs.length) → (∀ (i : Nat) (p : Nat × Nat × V) (q : Nat × Value), ps[i]? = some p → qs[i]? = some q → place q.1 = some (p.1, p.2.1) ∧ p.2.2.cells.all V.one = true ∧ Rep g H p.2.2 q.2 ∧ p.2.2.und H.length = true) →
    ∃ cells', Instr.fill place cells qs = some cells' ∧ RepVs g H c cells'.toList ∧ undL H.length c = true
  | [], qs, z, c, cells, h, rz, uz, hlen, _ => by
    simp only [fillV, Option.some.injEq] at h
    subst h
    obtain rfl : qs = [] := List.eq_nil_of_length_eq_zero hlen.symm
    exact ⟨cells, rfl, rz, uz⟩
  | (off, n, v) :: ps, qs, z, c, cells, h, rz, uz, hlen, hall => by
    match qs, hlen with
    | (i, x) :: qs, hlen =>
      simp only [fillV] at h
      split at h
      · rename_i hc
        obtain ⟨h1, h2⟩ := hc
        obtain ⟨p1, p2, p3, p4⟩ := hall 0 _ _ rfl rfl
        dsimp only at p1 p2 p3 p4
        have hxs := Rep_cells p2 p3
        have hxl := RepVs_length hxs
        have hzl := RepVs_length rz
        have hs : x.cells.size = n := by simp at hxl; omega
        rw [fill_step p1 hs (by simp at hzl; omega)]
        refine fillV_ok h ?_ (undL_put (by omega) uz (und_cells p4 p2)) (by simpa using hlen) (fun k p q hp hq => hall (k + 1) p q (by simpa using hp) (by simpa using hq))
        have := RepVs_put (off := off) rz hxs (by omega)
        simpa [hs] using this
      · cases h

theorem partsV_ok {fs : Array Field} : ∀ {ps : List (Nat × Operand)} {vs : List (Nat × Nat × Opd)}, partsV fs P ps = some vs → ps.length = vs.length ∧ ∀ (i : Nat) (p : Nat × Operand) (v : Nat × Nat × Opd), ps[i]? = some p → vs[i]? = some v → ∃ f : Field, fs[p.1]? = some f ∧ sizeT P f.type = some v.2.1 ∧ v.1 = f.offset ∧ opdV p.2 = some v.2.2
  | [], vs, h => by simp only [partsV, Option.some.injEq] at h; subst h; exact ⟨rfl, by simp⟩
  | (i, x) :: ps, vs, h => by
    simp only [partsV] at h
    split at h
    · rename_i f v vs' hf hv hvs
      obtain ⟨n, hn, rfl⟩ := Option.map_eq_some_iff.1 h
      obtain ⟨h1, h2⟩ := partsV_ok hvs
      refine ⟨by simp [h1], fun k p q hp hq => ?_⟩
      cases k with
      | zero => simp at hp hq; subst hp; subst hq; exact ⟨f, hf, hn, rfl, hv⟩
      | succ k => exact h2 k p q (by simpa using hp) (by simpa using hq)
    · cases h

theorem places_ok : ∀ (fs : List Field), fs.all (fun f => (P.info? f.type).isSome) = true → ∃ pl, fs.mapM (fun f => (P.info? f.type).map fun i => (f.offset, i.size)) = some pl ∧ ∀ (i : Nat) (f : Field) (n : Nat), fs[i]? = some f → sizeT P f.type = some n → pl[i]? = some (f.offset, n)
  | [], _ => ⟨[], by simp, by simp⟩
  | f :: fs, h => by
    simp only [List.all_cons, Bool.and_eq_true] at h
    obtain ⟨i, hi⟩ := Option.isSome_iff_exists.1 h.1
    obtain ⟨pl, h1, h2⟩ := places_ok fs h.2
    refine ⟨(f.offset, i.size) :: pl, by simp [List.mapM_cons, hi, h1], fun k f' n hk hn => ?_⟩
    cases k with
    | zero => simp only [List.getElem?_cons_zero, Option.some.injEq] at hk ⊢; subst hk; simp [sizeT, hi] at hn; simp [hn]
    | succ k => exact h2 k f' n (by simpa using hk) hn

theorem op_build (hI : Inv cx g H w) {N : Nat} {e : Env} (hE : EnvOk g H N e a.tmps) {t : TypeId} {ps : Array (Nat × Operand)} (hop : o.op = .build t ps) {fs : Array Field} (hu : P.underlying t = some (.struct fs)) {z : List V} (hz : zeroCells P t = some z)
    (hall : fs.toList.all (fun f => (P.info? f.type).isSome) = true) {vs : List (Nat × Nat × Opd)} (hvs : partsV fs P ps.toList = some vs) (hlt : vs.all (fun p => p.2.2.lt N) = true) {c : List V}
    (hone : vs.all (fun p => (evO cx e p.2.2).cells.all V.one) = true)
    (h : fillV z (vs.map fun p => (p.1, p.2.1, evO cx e p.2.2)) = some c) : StepOk P cx nb g H w (mkAgg c) H ((execOp a.eval o).run P w) := by
  obtain ⟨it, zv, hi, hzv, hc⟩ := zero_parts hz
  obtain ⟨hzr, hzu⟩ := constVs_rep (g := g) (H := H) hc
  obtain ⟨hlen, hparts⟩ := partsV_ok hvs
  obtain ⟨pl, hpl, hplg⟩ := places_ok fs.toList hall
  obtain ⟨cells, h1, h2, h3⟩ := fillV_ok (place := (pl.toArray[·]?)) (qs := ps.toList.map fun p => (p.1, a.eval p.2)) h hzr (undL_le (Nat.zero_le _) _ hzu) (by simp at hlen ⊢; omega) (by
    intro i p q hp hq
    simp only [List.getElem?_map, Option.map_eq_some_iff] at hp hq
    obtain ⟨v, hv, rfl⟩ := hp
    obtain ⟨u, hu', rfl⟩ := hq
    obtain ⟨f, f1, f2, f3, f4⟩ := hparts i u v hu' hv
    have hmem := List.mem_of_getElem? hv
    obtain ⟨r1, r2⟩ := opd_ok (a := a) hI hE f4 (List.all_eq_true.1 hlt v hmem)
    refine ⟨?_, List.all_eq_true.1 hone v hmem, r1, r2⟩
    have := hplg u.1 f v.2.1 (by simpa using f1) f2
    simpa [f3] using this)
  refine StepOk.pure (x := .agg cells) hI ?_ ?_ (mkAgg_und h3)
  · have hb : P.built t ((ps.map fun (q : Nat × Operand) => (q.1, a.eval q.2)).toList) = some cells := by
      simp only [Program.built, hi, hu, hzv, hpl]
      simpa using h1
    simp only [execOp, hop]
    exact run_v (run_build w t _ cells hb)
  · have := mkAgg_rep h2
    simpa using this
end
end Go.Vm
