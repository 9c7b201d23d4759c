import Derived.Test.YtpgpjenfnbcclaaVmFn
import Derived.ProofKit
import Derived.LaidMore
import Derived.Stop.Joined
set_option linter.unusedSimpArgs false
set_option linter.unusedVariables false
namespace Go.Vm
open Go.ChangeShapes Go.WideShapes Go.ChangeAt Go.RowKit

def contents (w : World) (b : Nat) : List Value := match w.heap[b]? with | some (.cells cur _ _) => cur.toList | _ => []

def gh0 (w : World) : Gh := ⟨fun _ => none, contents w⟩

theorem contents_cell {w : World} {b off : Nat} {v : Value} {sp} (h : w.cell? ⟨b, off, sp⟩ = some v) : (contents w b)[off]? = some v := by
  unfold World.cell? at h
  unfold contents
  split at h
  · rename_i c t f hc
    split at h
    · cases h
    · simp only at hc
      rw [hc]
      simpa using h
  · cases h

def GlobOk (cx : Cx) (w : World) : Prop := (∀ i, ∃ vs, vs <+: contents w i ∧ RepDs (contents w) (cx.gv i) vs) ∧ ∀ i o, cx.fx i = some o → w.heap[i]? = some o

theorem inv0 {cx : Cx} {w : World} (h : GlobOk cx w) : Inv cx (gh0 w) [] w := by
  refine ⟨fun i k b c c' h => (nomatch h), fun i b c h => (nomatch h), fun i b c o h => (nomatch h), fun b hb => ?_, fun i c hi => absurd hi (Nat.not_lt_zero _), h.1, fun i o hi => ⟨h.2 i o hi, fun k c hk => (nomatch hk)⟩⟩
  simp only [gh0, contents] at hb ⊢
  split at hb
  · rename_i cur e fz hc
    exact ⟨cur, e, fz, hc, List.prefix_refl _⟩
  · exact absurd rfl hb

theorem front {P : Program} {pg : Pg} (hT : TblOk P pg) (hmx : P.follows .mixedOrders = true) {f : Nat} {args : Array Value} {ds : List D} {W : World} (hg : GlobOk pg.toCx W) (hr : RepTs (gh0 W) [] (ds.map V.d) args.toList)
    {H' : Hp} (hev : evF pg f (ds.map V.d) [] = some (.d (.bool true), H')) : Calls P f args W fun e W' => e = .returned (.bool true) ∧ Below W.heap.size W W' := by
  obtain ⟨_, h⟩ := ev_sound hT hmx f (ds.map V.d) [] (.d (.bool true)) H' hev
  refine (h (gh0 W) W args (inv0 hg) hr (undL_map_d _ ds)).mono fun e w' he => ?_
  obtain ⟨g', x, h1, h2, h3, _, h5⟩ := he
  rw [rep_bool h3] at h1
  exact ⟨h1, ⟨h5.os, h5.tape, h5.output, h5.size, fun k hk => (h5.frame k hk fun i c => by simp [gh0]).1⟩⟩

def offsOk (P : Program) (total : Nat) : Nat → List Field → Bool
  | n, [] => n == total
  | n, f :: r => f.offset == n && offsOk P total (n + P.cellsOf f.type) r

section
variable {H : Type}
mutual
/-- What a reading says, as data. -/
def dwD : DataW H → D
  | .lit (.bool b) => .bool b
  | .lit (.int k n) => .int k n
  | .lit (.string s) => .str s
  | .agg l => .agg (dwCells l)
  | .slice l _ => .sl (dwL l)
  | _ => .sl []
def dwL : List (DataW H) → List D
  | [] => []
  | x :: r => dwD x :: dwL r
def dwCells : List (DataW H) → List D
  | [] => []
  | x :: r => (dwD x).cells ++ dwCells r
end
theorem dwL_eq : ∀ l : List (DataW H), dwL l = l.map dwD
  | [] => rfl
  | x :: r => by simp [dwL, dwL_eq r]
theorem dwCells_eq : ∀ l : List (DataW H), dwCells l = (l.map dwD).flatMap D.cells
  | [] => rfl
  | x :: r => by simp [dwCells, dwCells_eq r]
end

def plainT (P : Program) : Nat → TypeId → Bool
  | 0, _ => false
  | m + 1, t => match P.underlying t with
    | some .bool | some (.int _) | some .string => P.cellsOf t == 1
    | some (.slice e) => P.cellsOf t == 1 && decide (0 < P.cellsOf e) && plainT P m e
    | some (.struct fs) => offsOk P (P.cellsOf t) 0 fs.toList && fs.toList.all fun f => plainT P m f.type
    | some (.array n e) => P.cellsOf t == n * P.cellsOf e && plainT P m e
    | _ => false

def HasT (P : Program) : Nat → TypeId → D → Prop
  | 0, _, _ => False
  | m + 1, t, x => match P.underlying t with
    | some .bool => ∃ b, x = .bool b
    | some (.int k) => ∃ n, x = .int k n ∧ (Lit.int k n).wf = true
    | some .string => ∃ s, x = .str s ∧ s.length ≤ maxLen
    | some (.slice e) => ∃ l, x = .sl l ∧ l.length ≤ maxLen ∧ ∀ y ∈ l, HasT P m e y
    | some (.struct fs) => ∃ xs : List D, x = .agg (xs.flatMap D.cells) ∧ xs.length = fs.toList.length ∧ ∀ (i : Nat) (f : Field) (y : D), fs.toList[i]? = some f → xs[i]? = some y → HasT P m f.type y
    | some (.array n e) => ∃ xs : List D, x = .agg (xs.flatMap D.cells) ∧ xs.length = n ∧ ∀ y ∈ xs, HasT P m e y
    | _ => False

theorem RepDs_append {C : Nat → List Value} : ∀ {l l' : List D} {vs vs' : List Value}, RepDs C l vs → RepDs C l' vs' → RepDs C (l ++ l') (vs ++ vs')
  | [], l', vs, vs', r, r' => by simp only [RepDs] at r; subst r; exact r'
  | d :: ds, l', vs, vs', r, r' => by
    simp only [RepDs] at r
    obtain ⟨y, ys, rfl, h1, h2, h3⟩ := r
    simp only [List.cons_append, RepDs]
    exact ⟨y, ys ++ vs', by simp, h1, h2, RepDs_append h3 r'⟩

section
variable {H : Type} {enc : TypeId × Value → H} {P : Program} {w : World} {base : Nat} {spare : Nat → Bool} {held : Bool} {fuel : Nat}

theorem fields_D {total m : Nat} (rec_ : ∀ t cs x, plainT P m t = true → DataW.trod enc P w base spare held fuel t cs = some x → HasT P m t (dwD x.1) ∧ RepCs (contents w) (dwD x.1) cs) : ∀ (fs : List Field) (n : Nat) (cs : List Value) (xs : List (DataW H × List MemPlace)), offsOk P total n fs = true → cs.length = total →
    (fs.all fun f => plainT P m f.type) = true → (fs.mapM fun f => DataW.trod enc P w base spare held fuel f.type ((cs.drop f.offset).take (P.cellsOf f.type))) = some xs →
    RepDs (contents w) (dwCells (xs.map (·.1))) (cs.drop n) ∧ xs.length = fs.length ∧ ∀ (i : Nat) (f : Field) (y : D), fs[i]? = some f → (xs.map fun x => dwD x.1)[i]? = some y → HasT P m f.type y
  | [], n, cs, xs, ho, hl, _, hx => by
    simp only [offsOk, beq_iff_eq] at ho
    simp only [List.mapM_nil, Option.pure_def, Option.some.injEq] at hx
    subst hx
    refine ⟨?_, rfl, fun i f y h => by simp at h⟩
    rw [List.drop_eq_nil_of_le (by omega)]
    simp [RepDs, dwCells]
  | f :: fs, n, cs, xs, ho, hl, hp, hx => by
    simp only [offsOk, Bool.and_eq_true, beq_iff_eq] at ho
    simp only [List.all_cons, Bool.and_eq_true] at hp
    simp only [List.mapM_cons, Option.bind_eq_bind, Option.bind_eq_some_iff, Option.pure_def, Option.some.injEq] at hx
    obtain ⟨x, hx1, xs', hx2, rfl⟩ := hx
    rw [ho.1] at hx1
    obtain ⟨h1, h2⟩ := rec_ f.type _ x hp.1 hx1
    obtain ⟨h3, h4, h5⟩ := fields_D rec_ fs (n + P.cellsOf f.type) cs xs' ho.2 hl hp.2 hx2
    refine ⟨?_, by simp [h4], fun i f' y hf hy => ?_⟩
    · simp only [List.map_cons, dwCells]
      have := RepDs_append (RepDs_cells h2) h3
      rw [← List.drop_drop, List.take_append_drop] at this
      exact this
    · cases i with
      | zero =>
        simp only [List.getElem?_cons_zero, Option.some.injEq, List.map_cons] at hf hy
        subst hf; subst hy
        exact h1
      | succ i => exact h5 i f' y (by simpa using hf) (by simpa using hy)

theorem arr_D {m sz : Nat} {e : TypeId} (rec_ : ∀ cs x, DataW.trod enc P w base spare held fuel e cs = some x → HasT P m e (dwD x.1) ∧ RepCs (contents w) (dwD x.1) cs) : ∀ (len k : Nat) (cs : List Value) (xs : List (DataW H × List MemPlace)), cs.length = (k + len) * sz →
    ((List.range' k len).mapM fun i => DataW.trod enc P w base spare held fuel e ((cs.drop (i * sz)).take sz)) = some xs →
    RepDs (contents w) (dwCells (xs.map (·.1))) (cs.drop (k * sz)) ∧ xs.length = len ∧ ∀ y ∈ xs.map fun x => dwD x.1, HasT P m e y
  | 0, k, cs, xs, hl, h => by
    simp only [List.range'_zero, List.mapM_nil, Option.pure_def, Option.some.injEq] at h
    subst h
    refine ⟨?_, rfl, by simp⟩
    rw [List.drop_eq_nil_of_le (by rw [hl]; simp)]
    simp [RepDs, dwCells]
  | len + 1, k, cs, xs, hl, h => by
    simp only [List.range'_succ, List.mapM_cons, Option.bind_eq_bind, Option.bind_eq_some_iff, Option.pure_def, Option.some.injEq] at h
    obtain ⟨x, hx, xs', hxs, rfl⟩ := h
    obtain ⟨h1, h2⟩ := rec_ _ x hx
    obtain ⟨h3, h4, h5⟩ := arr_D rec_ len (k + 1) cs xs' (by rw [hl]; congr 1; omega) hxs
    refine ⟨?_, by simp [h4], fun y hy => ?_⟩
    · simp only [List.map_cons, dwCells]
      have := RepDs_append (RepDs_cells h2) h3
      rw [Nat.add_mul, Nat.one_mul, ← List.drop_drop, List.take_append_drop] at this
      exact this
    · simp only [List.map_cons, List.mem_cons] at hy
      rcases hy with rfl | hy
      · exact h1
      · exact h5 y hy

theorem mapM_some_get {α β : Type} {F : α → Option β} : ∀ {l : List α} {r : List β}, l.mapM F = some r → r.length = l.length ∧ ∀ (i : Nat) (x : α), l[i]? = some x → ∃ y, F x = some y ∧ r[i]? = some y
  | [], r, h => by
    simp only [List.mapM_nil, Option.pure_def, Option.some.injEq] at h
    subst h
    exact ⟨rfl, fun i x h => by simp at h⟩
  | a :: l, r, h => by
    simp only [List.mapM_cons, Option.bind_eq_bind, Option.bind_eq_some_iff, Option.pure_def, Option.some.injEq] at h
    obtain ⟨y, hy, ys, hys, rfl⟩ := h
    obtain ⟨h1, h2⟩ := mapM_some_get hys
    refine ⟨by simp [h1], fun i x hx => ?_⟩
    cases i with
    | zero => simp only [List.getElem?_cons_zero, Option.some.injEq] at hx; subst hx; exact ⟨y, hy, rfl⟩
    | succ i => exact h2 i x (by simpa using hx)

theorem cells_part {a : Addr} {n : Nat} {cs : List Value} (h : w.cells? base a n = some cs) : cs.length = n ∧ (0 < n → a.spot = none) ∧ cs <+: (contents w a.block).drop a.off := by
  unfold World.cells? at h
  split at h
  · obtain ⟨h1, h2⟩ := mapM_some_get h
    have hl : cs.length = n := by simpa using h1
    have hc : ∀ i, i < n → ∃ y, w.cell? (a.add i) = some y ∧ cs[i]? = some y := fun i hi => h2 i i (by simp [hi])
    refine ⟨hl, fun hn => ?_, ?_⟩
    · obtain ⟨y, hy, _⟩ := hc 0 hn
      exact World.cell?_spot (by simpa [Addr.add] using hy)
    · rw [List.prefix_iff_eq_take]
      apply List.ext_getElem?
      intro i
      by_cases hi : i < n
      · obtain ⟨y, hy, hcy⟩ := hc i hi
        rw [hcy, List.getElem?_take, if_pos (by omega), List.getElem?_drop]
        have hy' : w.cell? ⟨a.block, a.off + i, none⟩ = some y := by
          by_cases h0 : i = 0
          · subst h0
            have hs := World.cell?_spot hy
            simp only [Addr.add, if_true] at hy hs
            obtain ⟨b, o, sp⟩ := a
            simp only at hs
            subst hs
            simpa using hy
          · simpa [Addr.add, h0] using hy
        exact (contents_cell hy').symm
      · rw [List.getElem?_eq_none (by omega), List.getElem?_eq_none (by rw [List.length_take]; omega)]
  · cases h

theorem els_D {m sz : Nat} {e : TypeId} {a : Addr} (hs : 0 < sz) (rec_ : ∀ cs x, DataW.trod enc P w base spare held fuel e cs = some x → HasT P m e (dwD x.1) ∧ RepCs (contents w) (dwD x.1) cs) : ∀ (len k : Nat) (xs : List (DataW H × List MemPlace)),
    ((List.range' k len).mapM fun i => (w.cells? base (a.add (i * sz)) sz).bind (DataW.trod enc P w base spare held fuel e)) = some xs →
    ∃ us : List Value, xs.length = len ∧ us <+: (contents w a.block).drop (a.off + k * sz) ∧ RepEl (contents w) sz (xs.map fun x => dwD x.1) us ∧ (∀ y ∈ xs.map fun x => dwD x.1, HasT P m e y) ∧ (0 < len → k = 0 → a.spot = none)
  | 0, k, xs, h => by
    simp only [List.range'_zero, List.mapM_nil, Option.pure_def, Option.some.injEq] at h
    subst h
    exact ⟨[], rfl, List.nil_prefix, by simp [RepEl], by simp, by omega⟩
  | len + 1, k, xs, h => by
    simp only [List.range'_succ, List.mapM_cons, Option.bind_eq_bind, Option.bind_eq_some_iff, Option.pure_def, Option.some.injEq] at h
    obtain ⟨x, ⟨cs, hc, hx⟩, xs', hxs, rfl⟩ := h
    obtain ⟨us, h1, h2, h3, h4, _⟩ := els_D hs rec_ len (k + 1) xs' hxs
    obtain ⟨d1, d2⟩ := rec_ cs x hx
    obtain ⟨c1, c2, c3⟩ := cells_part hc
    have hblk : (a.add (k * sz)).block = a.block := by unfold Addr.add; split <;> rfl
    have hoff : (a.add (k * sz)).off = a.off + k * sz := by unfold Addr.add; split <;> simp_all
    rw [hblk, hoff] at c3
    refine ⟨cs ++ us, by simp [h1], ?_, by simp only [List.map_cons, RepEl]; exact ⟨cs, us, rfl, c1, d2, h3⟩, fun y hy => ?_, fun _ hk => ?_⟩
    · obtain ⟨t, ht⟩ := c3
      rw [Nat.add_mul, Nat.one_mul, ← Nat.add_assoc, ← List.drop_drop, ← ht, ← c1, List.drop_left] at h2
      obtain ⟨t', rfl⟩ := h2
      exact ⟨t', by rw [← ht]; simp⟩
    · simp only [List.map_cons] at hy
      cases hy with
      | head => exact d1
      | tail _ hm => exact h4 y hm
    · subst hk
      have := c2 hs
      simpa [Addr.add] using this

theorem trod_D : ∀ (fuel m : Nat) (t : TypeId) (cs : List Value) (x : DataW H × List MemPlace), plainT P m t = true → DataW.trod enc P w base spare held fuel t cs = some x → HasT P m t (dwD x.1) ∧ RepCs (contents w) (dwD x.1) cs := by
  intro fuel
  induction fuel with
  | zero => intro m t cs x _ h; simp [DataW.trod] at h
  | succ fuel ih =>
    intro m t cs x hp h
    cases m with
    | zero => simp [plainT] at hp
    | succ m =>
      simp only [plainT] at hp
      simp only [HasT]
      have h' := h
      unfold DataW.trod at h'
      cases hu : P.underlying t with
      | none => rw [hu] at hp; cases hp
      | some u =>
        rw [hu] at hp h'
        cases u with
        | bool =>
          split at h' <;> first | (rename_i q; cases q; done) | skip
          · rename_i b _
            cases h'
            exact ⟨⟨b, rfl⟩, by simp [RepCs, dwD]⟩
          · cases h'
        | int k =>
          obtain ⟨n, rfl, rfl, hw⟩ := DataW.trod_int hu h
          exact ⟨⟨n, rfl, hw⟩, by simp [RepCs, dwD]⟩
        | string =>
          split at h' <;> first | (rename_i q; cases q; done) | skip
          · rename_i s _
            split at h'
            · rename_i hs
              cases h'
              exact ⟨⟨s.data.toList, rfl, by simpa using hs⟩, by simp [RepCs, dwD]⟩
            · cases h'
          · cases h'
        | slice e =>
          simp only [Bool.and_eq_true, decide_eq_true_eq] at hp
          split at h' <;> first | (rename_i q; cases q; done) | skip
          · cases h'
            exact ⟨⟨[], rfl, by simp, by simp⟩, by simp [RepCs, dwD]⟩
          · rename_i e' a len cap q
            cases q
            simp only at h'
            split at h'
            case isFalse => cases h'
            rename_i hb
            obtain ⟨hb, hlc, hcm⟩ := hb
            obtain ⟨xs, hxs, hrest⟩ := Option.bind_eq_some_iff.1 h'
            obtain ⟨rest, _, rfl⟩ := Option.map_eq_some_iff.1 hrest
            rw [List.range_eq_range'] at hxs
            obtain ⟨us, h1, h2, h3, h4, h5⟩ := els_D (m := m) (sz := P.cellsOf e) (e := e) (a := a) hp.1.2 (fun cs x hx => ih m e cs x hp.2 hx) len 0 xs hxs
            have hd : dwD (DataW.slice (xs.map (·.1)) (rest.map (·.1))) = .sl (xs.map fun x => dwD x.1) := by simp [dwD, dwL_eq, Function.comp_def]
            rw [hd]
            refine ⟨⟨_, rfl, by simp [h1]; omega, h4⟩, ?_⟩
            simp only [RepCs]
            refine ⟨some a, cap, by simp [h1], by simp [h1]; omega, ?_⟩
            by_cases hl0 : len = 0
            · left
              exact List.length_eq_zero_iff.1 (by simp [h1]; omega)
            · right
              have hs := h5 (by omega) rfl
              obtain ⟨b, o, sp⟩ := a
              simp only at hs
              subst hs
              exact ⟨b, o, _, us, rfl, hp.1.2, by simpa using h2, h3⟩
          · cases h'
        | struct fs =>
          simp only [Bool.and_eq_true] at hp
          have hstr : (if cs.length = P.cellsOf t then (fs.toList.mapM fun f => DataW.trod enc P w base spare held fuel f.type ((cs.drop f.offset).take (P.cellsOf f.type))).map fun xs => (DataW.agg (xs.map (·.1)), xs.flatMap (·.2)) else none) = some x := h'
          split at hstr
          · rename_i hl
            obtain ⟨xs, hxs, rfl⟩ := Option.map_eq_some_iff.1 hstr
            obtain ⟨d1, d2, d3⟩ := fields_D (m := m) (fun t cs x hp hx => ih m t cs x hp hx) fs.toList 0 cs xs hp.1 hl hp.2 hxs
            have hd : dwD (DataW.agg (xs.map (·.1))) = .agg ((xs.map fun x => dwD x.1).flatMap D.cells) := by simp [dwD, dwCells_eq, Function.comp_def]
            refine ⟨⟨xs.map fun x => dwD x.1, hd, by simp [d2], d3⟩, ?_⟩
            simp only [dwD, RepCs]
            simpa using d1
          · cases hstr
        | array n e =>
          simp only [Bool.and_eq_true, beq_iff_eq] at hp
          have harr : (if cs.length = P.cellsOf t then ((List.range n).mapM fun i => DataW.trod enc P w base spare held fuel e ((cs.drop (i * P.cellsOf e)).take (P.cellsOf e))).map fun xs => (DataW.agg (xs.map (·.1)), xs.flatMap (·.2)) else none) = some x := h'
          split at harr
          · rename_i hl
            obtain ⟨xs, hxs, rfl⟩ := Option.map_eq_some_iff.1 harr
            rw [List.range_eq_range'] at hxs
            obtain ⟨d1, d2, d3⟩ := arr_D (m := m) (sz := P.cellsOf e) (e := e) (fun cs x hx => ih m e cs x hp.2 hx) n 0 cs xs (by rw [hl, hp.1]; simp) hxs
            have hd : dwD (DataW.agg (xs.map (·.1))) = .agg ((xs.map fun x => dwD x.1).flatMap D.cells) := by simp [dwD, dwCells_eq, Function.comp_def]
            refine ⟨⟨xs.map fun x => dwD x.1, hd, by simp [d2], d3⟩, ?_⟩
            simp only [dwD, RepCs]
            simpa using d1
          · cases harr
        | _ => cases hp

theorem arg_D {m : Nat} {t : TypeId} {v : Value} {d : DataW H} {ps : List MemPlace} {r : Reach} {b0 : Nat} (hp : plainT P m t = true) (hval : Value.okWide P w r b0 t v) (h : DataW.Trod enc P w base spare held t v d ps) : HasT P m t (dwD d) ∧ RepD (contents w) (dwD d) v := by
  obtain ⟨fuel, hf⟩ := h
  obtain ⟨h1, h2⟩ := trod_D fuel m t _ _ hp hf
  simp only at h1 h2
  refine ⟨h1, ?_⟩
  cases m with
  | zero => simp [plainT] at hp
  | succ m =>
    simp only [HasT] at h1
    split at h1
    · rename_i hu
      obtain ⟨b, hb⟩ := h1
      rw [hb] at h2 ⊢
      obtain ⟨b', rfl⟩ := okWide_bool hu hval
      simpa [Value.cells, RepD] using h2
    · rename_i k hu
      obtain ⟨n, hb, _⟩ := h1
      rw [hb] at h2 ⊢
      obtain ⟨n', rfl⟩ := okWide_int hu hval
      simpa [Value.cells, RepD] using h2
    · rename_i hu
      obtain ⟨s, hb, _⟩ := h1
      rw [hb] at h2 ⊢
      obtain ⟨s', rfl⟩ := okWide_string hu hval
      simpa [Value.cells, RepD] using h2
    · rename_i e hu
      obtain ⟨l, hb, _⟩ := h1
      rw [hb] at h2 ⊢
      obtain ⟨a, len, cap, rfl⟩ := okWide_slice hu hval
      simpa [Value.cells, RepD] using h2
    · rename_i fs hu
      obtain ⟨xs, hb, _⟩ := h1
      rw [hb] at h2 ⊢
      obtain ⟨cs, rfl, _⟩ := okWide_struct hu hval
      exact ⟨cs, rfl, by simpa [RepCs, Value.cells] using h2⟩
    · rename_i n e hu
      obtain ⟨xs, hb, _⟩ := h1
      rw [hb] at h2 ⊢
      have hval' := hval
      simp only [Value.okWide, hu] at hval'
      obtain ⟨cs, rfl, _⟩ := hval'
      exact ⟨cs, rfl, by simpa [RepCs, Value.cells] using h2⟩
    · exact h1.elim

theorem args_D {m : Nat} {base0 : Nat} {r : Reach} : ∀ {ts : List TypeId} {vs : List Value} {ds : List (DataW H)} {ps : List MemPlace}, DataW.TrodAll enc P w base spare held ts vs ds ps → (∀ t ∈ ts, plainT P m t = true) → (∀ (j : Nat) t v, ts[j]? = some t → vs[j]? = some v → Value.okWide P w r base0 t v) →
    RepTs (gh0 w) [] ((ds.map dwD).map V.d) vs ∧ ds.length = ts.length ∧ ∀ (i : Nat) t x, ts[i]? = some t → ds[i]? = some x → HasT P m t (dwD x)
  | [], vs, ds, ps, h, _, _ => by
    obtain ⟨rfl, rfl, rfl⟩ := trodAll_nil h
    exact ⟨by simp [RepTs], rfl, fun i t x h => by simp at h⟩
  | t :: ts, vs, ds, ps, h, hp, hv => by
    obtain ⟨v, vs1, d, ds1, a, b, rfl, rfl, rfl, h1, h2⟩ := trodAll_cons h
    obtain ⟨x1, x2⟩ := arg_D (hp t (by simp)) (hv 0 t v rfl rfl) h1
    obtain ⟨y1, y2, y3⟩ := args_D h2 (fun t ht => hp t (by simp [ht])) fun j t v ht hv' => hv (j + 1) t v (by simpa using ht) (by simpa using hv')
    refine ⟨by simp only [List.map_cons, RepTs, Rep]; exact ⟨v, vs1, rfl, x2, by simpa using y1⟩, by simp [y2], fun i t' x' ht hx => ?_⟩
    cases i with
    | zero =>
      simp only [List.getElem?_cons_zero, Option.some.injEq] at ht hx
      subst ht; subst hx
      exact x1
    | succ i => exact y3 i t' x' (by simpa using ht) (by simpa using hx)

theorem trodAll_below {W W' : World} (hl : laidOutB P = true) (hb : Below W.heap.size W W') : ∀ {ts : List TypeId} {vs : List Value} {ds : List (DataW H)} {ps : List MemPlace}, (∀ t ∈ ts, P.readableRec t = true ∧ t < P.types.size) → DataW.TrodAll enc P W 0 (fun _ => true) true ts vs ds ps → (∀ x ∈ ps, x.block < W.heap.size) →
    DataW.TrodAll enc P W' 0 (fun b => decide (b < W.heap.size)) true ts vs ds ps
  | [], vs, ds, ps, _, h, _ => by
    obtain ⟨rfl, rfl, rfl⟩ := trodAll_nil h
    simp [DataW.TrodAll]
  | t :: ts, vs, ds, ps, hr, h, hlt => by
    obtain ⟨v, vs1, d, ds1, a, b, rfl, rfl, rfl, h1, h2⟩ := trodAll_cons h
    exact ⟨a, b, Below.trod hl (hr t (by simp)).1 (hr t (by simp)).2 h1 hb fun x hx => hlt x (by simp [hx]), trodAll_below hl hb (fun t ht => hr t (by simp [ht])) h2 fun x hx => hlt x (by simp [hx]), rfl⟩

theorem post_true {fn : Func} {s : ChangeSpec} {apart : Bool} {W W' : World} {args : Array Value} {ds gs : List (DataW H)} {before : List MemPlace} {tb : TypeId} (hl : laidOutB P = true) (hb : Below W.heap.size W W')
    (hs : s.vars = []) (hfn : ∀ ds : List (DataW H), ds.length = fn.params.size → s.fn H ds = { results := [.lit (.bool true)], args := ds })
    (hr : ∀ t ∈ fn.params.toList, P.readableRec t = true ∧ t < P.types.size) (hres : fn.resultTypes = #[tb]) (htb : P.underlying tb = some .bool)
    (hW : DataW.Whole enc P fn.params.toList s.vars apart W args.toList ds gs before) :
    s.post enc P fn apart true false false W args (.bool true) W' := by
  have hlt := hW.lt
  have hW' := hW
  obtain ⟨p, q, hA, hV, rfl, _, _⟩ := hW
  rw [hs] at hV
  obtain ⟨rfl, rfl⟩ := trodVars_none hV
  have hlen : ∀ {ts : List TypeId} {vs : List Value} {ds : List (DataW H)} {ps : List MemPlace}, DataW.TrodAll enc P W 0 (fun _ => true) true ts vs ds ps → ds.length = ts.length := by
    intro ts
    induction ts with
    | nil => intro vs ds ps h; obtain ⟨_, rfl, _⟩ := trodAll_nil h; rfl
    | cons t ts ih => intro vs ds ps h; obtain ⟨_, _, _, _, _, _, _, rfl, _, _, h2⟩ := trodAll_cons h; simp [ih h2]
  have e := hfn ds (by rw [hlen hA]; simp)
  refine ⟨ds, [], p ++ [], [], p, [], hW', ?_, ?_, ?_, hb.frame _, fun h => by cases h⟩
  · rw [List.append_nil, e, hres]
    exact trodAll_mk1 (shut_bool htb true)
  · rw [List.append_nil, e]
    exact trodAll_below hl hb hr hA fun x hx => hlt x (by simp [hx])
  · rw [List.append_nil, e, hs]
    rfl
end
end Go.Vm
namespace Go.Vm
open Go.ChangeShapes Go.WideShapes Go.ChangeAt Go.RowKit
section
variable {H : Type} {enc : TypeId × Value → H} {P : Program}

def gvOf (l : List (Nat × List D)) (i : Nat) : List D := ((l.find? (·.1 == i)).map (·.2)).getD []

def fixOf (w : World) (l : List Nat) (i : Nat) : Option Obj := if i ∈ l then w.heap[i]? else none
theorem fixOf_ok (w : World) (l : List Nat) (i : Nat) (o : Obj) (h : fixOf w l i = some o) : w.heap[i]? = some o := by
  unfold fixOf at h; split at h
  · exact h
  · cases h
theorem globOk_of {w : World} (l : List (Nat × List D)) {fx : Nat → Option Obj} (hfx : ∀ i o, fx i = some o → w.heap[i]? = some o) (h : ∀ p ∈ l, ∃ vs, vs <+: contents w p.1 ∧ RepDs (contents w) p.2 vs) : GlobOk ⟨gvOf l, fx⟩ w := by
  refine ⟨fun i => ?_, hfx⟩
  show ∃ vs, vs <+: contents w i ∧ RepDs (contents w) (gvOf l i) vs
  unfold gvOf
  cases hf : l.find? (·.1 == i) with
  | none => exact ⟨[], List.nil_prefix, by simp [RepDs]⟩
  | some p =>
    have hm := List.mem_of_find?_eq_some hf
    have he := List.find?_some hf
    simp only [beq_iff_eq] at he
    subst he
    exact h p hm

theorem row_contract {pg : Pg} (hT : TblOk P pg) (hmx : P.follows .mixedOrders = true) {f : Nat} {fn : Func} {s : ChangeSpec} {apart : Bool} {W : World} {base m : Nat} {args : Array Value} {ds gs : List (DataW H)} {before : List MemPlace} {tb : TypeId} (hl : laidOutB P = true)
    (hs : s.vars = []) (hfn : ∀ ds : List (DataW H), ds.length = fn.params.size → s.fn H ds = { results := [.lit (.bool true)], args := ds })
    (hr : ∀ t ∈ fn.params.toList, (P.readableRec t = true ∧ t < P.types.size) ∧ plainT P m t = true) (hres : fn.resultTypes = #[tb]) (htb : P.underlying tb = some .bool)
    (hval : ∀ (j : Nat) t v, fn.params[j]? = some t → args[j]? = some v → Value.okWide P W .any base t v)
    (hW : DataW.Whole enc P fn.params.toList s.vars apart W args.toList ds gs before) (hg : GlobOk pg.toCx W)
    (hkey : ds.length = fn.params.size → (∀ (i : Nat) t x, fn.params[i]? = some t → ds[i]? = some x → HasT P m t (dwD x)) → ∃ H', evF pg f ((ds.map dwD).map V.d) [] = some (.d (.bool true), H')) :
    Calls P f args W fun e W' => ∃ v, e = .returned v ∧ s.post enc P fn apart true false false W args v W' := by
  have hW' := hW
  obtain ⟨p, q, hA, _⟩ := hW
  obtain ⟨h1, h2, h3⟩ := args_D (m := m) hA (fun t ht => (hr t ht).2) (fun j t v ht hv => hval j t v (by simpa using ht) (by simpa using hv))
  obtain ⟨H', hev⟩ := hkey (by simpa using h2) fun i t x ht hx => h3 i t x (by simpa using ht) hx
  refine (front hT hmx hg h1 hev).mono fun e W' he => ?_
  exact ⟨_, he.1, post_true hl he.2 hs hfn (fun t ht => (hr t ht).1) hres htb hW'⟩
end
end Go.Vm
namespace Go.Vm
open Go.ChangeShapes Go.WideShapes Go.ChangeAt Go.RowKit
def HasW (P : Program) : Nat → TypeId → D → Prop
  | 0, _, _ => False
  | m + 1, t, x => match P.underlying t with
    | some .bool => ∃ b, x = .bool b
    | some (.int k) => ∃ n, x = .int k n ∧ (Lit.int k n).wf = true
    | some .string => ∃ s, x = .str s ∧ s.length ≤ reachBytes
    | some (.slice e) => ∃ l, x = .sl l ∧ l.length * P.bytesOf e ≤ reachBytes ∧ ∀ y ∈ l, HasW P m e y
    | some (.struct fs) => ∃ xs : List D, x = .agg (xs.flatMap D.cells) ∧ xs.length = fs.toList.length ∧ ∀ (i : Nat) (f : Field) (y : D), fs.toList[i]? = some f → xs[i]? = some y → HasW P m f.type y
    | some (.array n e) => ∃ xs : List D, x = .agg (xs.flatMap D.cells) ∧ xs.length = n ∧ ∀ y ∈ xs, HasW P m e y
    | _ => False
def Lite (l : List Nat) : Prop := ∀ n ∈ l, n ≤ reachBytes
theorem lite_of {l : List Nat} (h : l.all (· ≤ reachBytes) = true) : Lite l := fun n hn => by
  have := List.all_eq_true.1 h n hn
  simpa using this
theorem Lite.l {a b : List Nat} (h : Lite (a ++ b)) : Lite a := fun n hn => h n (List.mem_append_left _ hn)
theorem Lite.r {a b : List Nat} (h : Lite (a ++ b)) : Lite b := fun n hn => h n (List.mem_append_right _ hn)
section
variable {H : Type} {enc : TypeId × Value → H} {P : Program} {w : World} {base : Nat} {spare : Nat → Bool} {held : Bool}
theorem weights_all {e : TypeId} : ∀ {l : List (DataW H)}, Lite (DataW.weightsAll P e l) → ∀ y ∈ l, Lite (y.weights P e)
  | [], _, y, hy => by cases hy
  | x :: r, h, y, hy => by
    simp only [DataW.weightsAll] at h
    rcases List.mem_cons.1 hy with q | q
    · exact q ▸ h.l
    · exact weights_all h.r y q
theorem weights_each : ∀ {ts : List TypeId} {l : List (DataW H)}, Lite (DataW.weightsEach P ts l) → ∀ (i : Nat) t y, ts[i]? = some t → l[i]? = some y → Lite (y.weights P t)
  | [], _, _, i, t, y, h, _ => by simp at h
  | _ :: _, [], _, i, t, y, _, h => by simp at h
  | t0 :: ts, x :: r, h, i, t, y, ht, hy => by
    simp only [DataW.weightsEach] at h
    cases i with
    | zero =>
      simp only [List.getElem?_cons_zero, Option.some.injEq] at ht hy
      subst ht; subst hy
      exact h.l
    | succ i => exact weights_each h.r i t y (by simpa using ht) (by simpa using hy)
theorem mapM_mem {α β : Type} {F : α → Option β} : ∀ {l : List α} {r : List β}, l.mapM F = some r → ∀ y ∈ r, ∃ x ∈ l, F x = some y
  | [], r, h, y, hy => by
    simp only [List.mapM_nil, Option.pure_def, Option.some.injEq] at h
    subst h; cases hy
  | a :: l, r, h, y, hy => by
    simp only [List.mapM_cons, Option.bind_eq_bind, Option.bind_eq_some_iff, Option.pure_def, Option.some.injEq] at h
    obtain ⟨z, hz, ys, hys, rfl⟩ := h
    rcases List.mem_cons.1 hy with q | q
    · exact ⟨a, by simp, q ▸ hz⟩
    · obtain ⟨x, hx, hf⟩ := mapM_mem hys y q
      exact ⟨x, by simp [hx], hf⟩
theorem trod_W : ∀ (fuel m : Nat) (t : TypeId) (cs : List Value) (x : DataW H × List MemPlace), plainT P m t = true → DataW.trod enc P w base spare held fuel t cs = some x → Lite (x.1.weights P t) → HasW P m t (dwD x.1) := by
  intro fuel
  induction fuel with
  | zero => intro m t cs x _ h; simp [DataW.trod] at h
  | succ fuel ih =>
    intro m t cs x hp h hw
    cases m with
    | zero => simp [plainT] at hp
    | succ m =>
      simp only [plainT] at hp
      simp only [HasW]
      have h' := h
      unfold DataW.trod at h'
      cases hu : P.underlying t with
      | none => rw [hu] at hp; cases hp
      | some u =>
        rw [hu] at hp h'
        cases u with
        | bool =>
          split at h' <;> first | (rename_i q; cases q; done) | skip
          · rename_i b _
            cases h'
            exact ⟨b, rfl⟩
          · cases h'
        | int k =>
          obtain ⟨n, rfl, rfl, hwf⟩ := DataW.trod_int hu h
          exact ⟨n, rfl, hwf⟩
        | string =>
          split at h' <;> first | (rename_i q; cases q; done) | skip
          · rename_i s _
            split at h'
            · cases h'
              exact ⟨s.data.toList, rfl, hw _ (by simp [DataW.weights])⟩
            · cases h'
          · cases h'
        | slice e =>
          simp only [Bool.and_eq_true, decide_eq_true_eq] at hp
          split at h' <;> first | (rename_i q; cases q; done) | skip
          · cases h'
            exact ⟨[], rfl, by simp, by simp⟩
          · rename_i e' a len cap q
            cases q
            simp only at h'
            split at h'
            case isFalse => cases h'
            obtain ⟨xs, hxs, hrest⟩ := Option.bind_eq_some_iff.1 h'
            obtain ⟨rest, _, rfl⟩ := Option.map_eq_some_iff.1 hrest
            have hd : dwD (DataW.slice (xs.map (·.1)) (rest.map (·.1))) = .sl (xs.map fun x => dwD x.1) := by simp [dwD, dwL_eq, Function.comp_def]
            rw [hd]
            simp only [DataW.weights, hu] at hw
            refine ⟨_, rfl, ?_, fun y hy => ?_⟩
            · have h1 := hw _ (List.mem_cons_self ..)
              rw [List.length_map] at h1 ⊢
              exact Nat.le_trans (Nat.mul_le_mul_right _ (Nat.le_add_right _ _)) h1
            · obtain ⟨z, hz, rfl⟩ := List.mem_map.1 hy
              obtain ⟨i, _, hf⟩ := mapM_mem hxs z hz
              obtain ⟨cs, _, hf⟩ := Option.bind_eq_some_iff.1 hf
              have h2 : Lite (DataW.weightsAll P e (xs.map (·.1))) := fun n hn => hw n (List.mem_cons_of_mem _ (List.mem_append_left _ hn))
              exact ih m e cs z hp.2 hf (weights_all h2 _ (List.mem_map.2 ⟨z, hz, rfl⟩))
          · cases h'
        | struct fs =>
          simp only [Bool.and_eq_true] at hp
          have hstr : (if cs.length = P.cellsOf t then (fs.toList.mapM fun f => DataW.trod enc P w base spare held fuel f.type ((cs.drop f.offset).take (P.cellsOf f.type))).map fun xs => (DataW.agg (xs.map (·.1)), xs.flatMap (·.2)) else none) = some x := h'
          split at hstr
          · obtain ⟨xs, hxs, rfl⟩ := Option.map_eq_some_iff.1 hstr
            have hd : dwD (DataW.agg (xs.map (·.1))) = .agg ((xs.map fun x => dwD x.1).flatMap D.cells) := by simp [dwD, dwCells_eq, Function.comp_def]
            obtain ⟨h1, h2⟩ := mapM_some_get hxs
            simp only [DataW.weights, hu] at hw
            refine ⟨xs.map fun x => dwD x.1, hd, by simp [h1], fun i f y hf hy => ?_⟩
            obtain ⟨z, hz, hzi⟩ := h2 i f hf
            rw [List.getElem?_map, hzi] at hy
            simp only [Option.map_some, Option.some.injEq] at hy
            subst hy
            have hpf : plainT P m f.type = true := by
              have := hp.2
              rw [List.all_eq_true] at this
              exact this f (List.mem_of_getElem? hf)
            exact ih m f.type _ z hpf hz (weights_each hw i f.type z.1 (by rw [List.getElem?_map, hf]; rfl) (by rw [List.getElem?_map, hzi]; rfl))
          · cases hstr
        | array n e =>
          simp only [Bool.and_eq_true, beq_iff_eq] at hp
          have harr : (if cs.length = P.cellsOf t then ((List.range n).mapM fun i => DataW.trod enc P w base spare held fuel e ((cs.drop (i * P.cellsOf e)).take (P.cellsOf e))).map fun xs => (DataW.agg (xs.map (·.1)), xs.flatMap (·.2)) else none) = some x := h'
          split at harr
          · obtain ⟨xs, hxs, rfl⟩ := Option.map_eq_some_iff.1 harr
            have hd : dwD (DataW.agg (xs.map (·.1))) = .agg ((xs.map fun x => dwD x.1).flatMap D.cells) := by simp [dwD, dwCells_eq, Function.comp_def]
            simp only [DataW.weights, hu] at hw
            refine ⟨xs.map fun x => dwD x.1, hd, by simp [(mapM_some_get hxs).1], fun y hy => ?_⟩
            obtain ⟨z, hz, rfl⟩ := List.mem_map.1 hy
            obtain ⟨i, _, hf⟩ := mapM_mem hxs z hz
            exact ih m e _ z hp.2 hf (weights_all hw _ (List.mem_map.2 ⟨z, hz, rfl⟩))
          · cases harr
        | _ => cases hp
theorem args_W {m : Nat} : ∀ {ts : List TypeId} {vs : List Value} {ds : List (DataW H)} {ps : List MemPlace}, DataW.TrodAll enc P w base spare held ts vs ds ps → (∀ t ∈ ts, plainT P m t = true) → ∀ {ts2 : List TypeId} {gs : List (DataW H)}, Lite (DataW.weightsEach P (ts ++ ts2) (ds ++ gs)) → ∀ (i : Nat) t x, ts[i]? = some t → ds[i]? = some x → HasW P m t (dwD x)
  | [], vs, ds, ps, h, _, _, _, _ => fun i t x h => by simp at h
  | t :: ts, vs, ds, ps, h, hp, ts2, gs, hw => by
    obtain ⟨v, vs1, d, ds1, a, b, rfl, rfl, rfl, h1, h2⟩ := trodAll_cons h
    simp only [List.cons_append, DataW.weightsEach] at hw
    intro i t' x' ht hx
    cases i with
    | zero =>
      simp only [List.getElem?_cons_zero, Option.some.injEq] at ht hx
      subst ht; subst hx
      obtain ⟨fuel, hf⟩ := h1
      exact trod_W fuel m _ _ _ (hp _ (by simp)) hf hw.l
    | succ i => exact args_W h2 (fun t ht => hp t (by simp [ht])) hw.r i t' x' (by simpa using ht) (by simpa using hx)
theorem row_contract_w {pg : Pg} (hT : TblOk P pg) (hmx : P.follows .mixedOrders = true) {f : Nat} {fn : Func} {s : ChangeSpec} {apart : Bool} {W : World} {base m : Nat} {args : Array Value} {ds gs : List (DataW H)} {before : List MemPlace} {tb : TypeId} {ts2 : List TypeId} (hl : laidOutB P = true)
    (hs : s.vars = []) (hfn : ∀ ds : List (DataW H), ds.length = fn.params.size → s.fn H ds = { results := [.lit (.bool true)], args := ds })
    (hr : ∀ t ∈ fn.params.toList, (P.readableRec t = true ∧ t < P.types.size) ∧ plainT P m t = true) (hres : fn.resultTypes = #[tb]) (htb : P.underlying tb = some .bool)
    (hval : ∀ (j : Nat) t v, fn.params[j]? = some t → args[j]? = some v → Value.okWide P W .any base t v)
    (hW : DataW.Whole enc P fn.params.toList s.vars apart W args.toList ds gs before) (hg : GlobOk pg.toCx W)
    (hsz : (DataW.weightsEach P (fn.params.toList ++ ts2) (ds ++ gs)).all (· ≤ reachBytes) = true)
    (hkey : ds.length = fn.params.size → (∀ (i : Nat) t x, fn.params[i]? = some t → ds[i]? = some x → HasW P m t (dwD x)) → ∃ H', evF pg f ((ds.map dwD).map V.d) [] = some (.d (.bool true), H')) :
    Calls P f args W fun e W' => ∃ v, e = .returned v ∧ s.post enc P fn apart true false false W args v W' := by
  refine row_contract (m := m) hT hmx hl hs hfn hr hres htb hval hW hg fun h1 _ => hkey h1 ?_
  obtain ⟨p, q, hA, _⟩ := hW
  have := args_W (m := m) hA (fun t ht => (hr t ht).2) (lite_of hsz)
  intro i t x ht hx
  exact this i t x (by simpa using ht) hx
end
theorem hasW_int {P : Program} {m t : Nat} {k : IntKind} {x : D} (h : P.underlying t = some (.int k)) (hx : HasW P (m + 1) t x) : ∃ n, x = .int k n ∧ (Lit.int k n).wf = true := by
  unfold HasW at hx; rw [h] at hx; exact hx
theorem hasW_bool {P : Program} {m t : Nat} {x : D} (h : P.underlying t = some .bool) (hx : HasW P (m + 1) t x) : ∃ b, x = .bool b := by
  unfold HasW at hx; rw [h] at hx; exact hx
theorem hasW_str {P : Program} {m t : Nat} {x : D} (h : P.underlying t = some .string) (hx : HasW P (m + 1) t x) : ∃ s, x = .str s ∧ s.length ≤ reachBytes := by
  unfold HasW at hx; rw [h] at hx; exact hx
theorem hasW_slice {P : Program} {m t e n : Nat} {x : D} (h : P.underlying t = some (.slice e)) (hb : P.bytesOf e = n) (hx : HasW P (m + 1) t x) : ∃ l, x = .sl l ∧ l.length * n ≤ reachBytes ∧ ∀ y ∈ l, HasW P m e y := by
  unfold HasW at hx; rw [h] at hx; subst hb; exact hx
def AllW (P : Program) (m : Nat) : List Nat → List D → Prop
  | [], [] => True
  | t :: ts, x :: xs => HasW P m t x ∧ AllW P m ts xs
  | _, _ => False
theorem allW_of {P : Program} {m : Nat} : ∀ (ts : List Field) (xs : List D), xs.length = ts.length → (∀ (i : Nat) (f : Field) (y : D), ts[i]? = some f → xs[i]? = some y → HasW P m f.type y) → AllW P m (ts.map (·.type)) xs
  | [], [], _, _ => trivial
  | [], _ :: _, h, _ => by simp at h
  | _ :: _, [], h, _ => by simp at h
  | t :: ts, x :: xs, h, hx => ⟨hx 0 t x rfl rfl, allW_of ts xs (by simpa using h) fun i f y h1 h2 => hx (i + 1) f y (by simpa using h1) (by simpa using h2)⟩
theorem hasW_struct {P : Program} {m t : Nat} {ts : List Nat} {x : D} (h : (match P.underlying t with | some (.struct fs) => some (fs.toList.map (·.type)) | _ => none) = some ts) (hx : HasW P (m + 1) t x) : ∃ xs : List D, x = .agg (xs.flatMap D.cells) ∧ AllW P m ts xs := by
  unfold HasW at hx
  split at h
  · rename_i fs hf
    rw [hf] at hx
    cases h
    obtain ⟨xs, h1, h2, h3⟩ := hx
    exact ⟨xs, h1, allW_of _ _ h2 h3⟩
  · cases h
end Go.Vm
