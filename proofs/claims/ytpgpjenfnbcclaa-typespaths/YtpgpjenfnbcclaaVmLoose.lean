import Derived.Test.YtpgpjenfnbcclaaVmFn
import Derived.Maps.RangeRun
set_option linter.unusedSimpArgs false
set_option linter.unusedVariables false
namespace Go.Vm
open Go.ChangeMaps (setBlock)
section
variable {P : Program} {cx : Cx} {g : Gh} {H : Hp} {w : World}
theorem Inv.untr {w' : World} (hI : Inv cx g H w) (hs : w.heap.size ≤ w'.heap.size) (hh : ∀ b, ((∃ i c, g.J i = some (b, c)) ∨ g.C b ≠ [] ∨ cx.fx b ≠ none) → w'.heap[b]? = w.heap[b]?) : Inv cx g H w' := by
  refine ⟨hI.inj, fun i b c h => ⟨(hI.dom i b c h).1, Nat.lt_of_lt_of_le (hI.dom i b c h).2 hs⟩, fun i b c o h ho => ?_, fun b hb => ?_, hI.und, hI.glob, fun i o hi => ?_⟩
  · exact (hI.ob i b c o h ho).ext (Keep.refl H.length g H).w (hh b (.inl ⟨i, c, h⟩)) rfl (by rintro c' rfl; exact hI.und i c' (hI.dom i b c h).1 ho)
  · rw [hh b (.inr (.inl hb))]; exact hI.imm b hb
  · obtain ⟨h1, h2⟩ := hI.fix i o hi
    exact ⟨by rw [hh i (.inr (.inr (by rw [hi]; simp)))]; exact h1, h2⟩
theorem Ext.untr {nb : Nat} {g' : Gh} {H' : Hp} {w' w2 : World} (h : Ext nb g H w g' H' w') (h1 : w2.os = w'.os) (h2 : w2.tape = w'.tape) (h3 : w2.output = w'.output) (h4 : w'.heap.size ≤ w2.heap.size) (h5 : ∀ b, b < w.heap.size → w2.heap[b]? = w'.heap[b]?) : Ext nb g H w g' H' w2 :=
  ⟨h1.trans h.os, h2.trans h.tape, h3.trans h.output, Nat.le_trans h.size h4, fun b hb hj => ⟨(h5 b hb).trans (h.frame b hb hj).1, (h.frame b hb hj).2⟩, h.keep, h.jnew, h.clean, h.len⟩
structure Iter (cx : Cx) (g : Gh) (w : World) (r bm n : Nat) (seen : Array Nat) : Prop where
  hr : w.heap[r]? = some (.mapIter (some bm) n seen n)
  noJ : ∀ k c, g.J k ≠ some (r, c)
  noC : g.C r = []
  noF : cx.fx r = none
theorem Iter.lt {r bm n : Nat} {seen : Array Nat} (h : Iter cx g w r bm n seen) : r < w.heap.size := (Array.getElem?_eq_some_iff.1 h.hr).1
theorem Iter.ext {nb r bm n : Nat} {seen : Array Nat} {g' : Gh} {H' : Hp} {w' : World} (h : Iter cx g w r bm n seen) (e : Ext nb g H w g' H' w') : Iter cx g' w' r bm n seen := by
  obtain ⟨h1, h2⟩ := e.frame r h.lt h.noJ
  refine ⟨h1.trans h.hr, fun k c hk => ?_, h2.trans h.noC, h.noF⟩
  obtain ⟨k', c', hk'⟩ := e.jnew k r c hk h.lt
  exact h.noJ k' c' hk'
theorem Iter.cut {r bm n m : Nat} {seen : Array Nat} (h : Iter cx g w r bm n seen) : Iter cx (g.cut m) w r bm n seen :=
  ⟨h.hr, fun k c hk => h.noJ k c (cut_some hk).2, h.noC, h.noF⟩
theorem op_step {ops : Array Oper} {i : Nat} {op : Op} {dst : Option Nat} (h : (ops[i]?).map (fun o => (o.op, o.dst, o.guard)) = some (op, dst, none)) {Q : Exit → Act → World → Prop} {K : Act → World → Prop} {a : Act} {w' : World} {x : Value} (hrun : ∀ o : Oper, o.op = op → (execOp a.eval o).run P w = .ok (.value x) w') (hk : K (a.put dst x) w') : wpOp P ops Q i K a w := by
  obtain ⟨o, ho, he⟩ := Option.map_eq_some_iff.1 h
  simp only [Prod.mk.injEq] at he
  obtain ⟨e1, e2, e3⟩ := he
  unfold wpOp
  simp only [ho]
  rw [if_pos (by simp [Region.wanted, e3])]
  refine .inl ?_
  unfold Oper.wp
  rw [hrun o e1, Oper.upon_value, e2]
  exact hk
structure RangeShape (N : Nat) (ops0 ops1 ops2 : Array Oper) (src tm ti tn tk te tx key : Nat) (mt : TypeId) : Prop where
  s0 : ops0.size = 2
  a0 : (ops0[0]?).map (fun o => (o.op, o.dst, o.guard)) = some (.move (.tmp src), some tm, none)
  a1 : (ops0[1]?).map (fun o => (o.op, o.dst, o.guard)) = some (.range mt (.tmp tm), some ti, none)
  s1 : ops1.size = 2
  b0 : (ops1[0]?).map (fun o => (o.op, o.dst, o.guard)) = some (.next (.tmp ti) false, some tn, none)
  b1 : (ops1[1]?).map (fun o => (o.op, o.dst, o.guard)) = some (.extract (.tmp tn) 0, some tk, none)
  s2 : ops2.size = 3
  c0 : (ops2[0]?).map (fun o => (o.op, o.dst, o.guard)) = some (.entry (.tmp ti), some te, none)
  c1 : (ops2[1]?).map (fun o => (o.op, o.dst, o.guard)) = some (.extract (.tmp te) 0, some tx, none)
  c2 : (ops2[2]?).map (fun o => (o.op, o.dst, o.guard)) = some (.assign (.tmp tx), some key, none)
  lt : src < N ∧ tm < N ∧ ti < N ∧ tn < N ∧ tk < N ∧ te < N ∧ tx < N ∧ key < N
  ne : tm ≠ ti ∧ tn ≠ ti ∧ tk ≠ ti ∧ tn ≠ tk ∧ te ≠ tx ∧ ti ≠ te
theorem range2 : List.range 2 = [0, 1] := rfl
theorem range3 : List.range 3 = [0, 1, 2] := rfl
theorem getE_hit (k : Nat) (v : V) (e : Env) : getE ((k, v) :: e) k = v := by simp [getE]
theorem getE_miss {k i : Nat} (h : k ≠ i) (v : V) (e : Env) : getE ((k, v) :: e) i = getE e i := by simp [getE, h]
theorem eval_tmp (a : Act) (t : Nat) : a.eval (.tmp t) = a.tmps.getD t Go.undef := rfl
theorem run_mv {a : Act} {t : Nat} {o : Oper} (h : o.op = .move (.tmp t)) : (execOp a.eval o).run P w = .ok (.value (a.tmps.getD t Go.undef)) w := by simp [execOp, h, Act.eval]
theorem run_as {a : Act} {t : Nat} {o : Oper} (h : o.op = .assign (.tmp t)) : (execOp a.eval o).run P w = .ok (.value (a.tmps.getD t Go.undef)) w := by simp [execOp, h, Act.eval]
theorem run_ex {a : Act} {t i : Nat} {o : Oper} {cs : Array Value} {y : Value} (h : o.op = .extract (.tmp t) i) (hv : a.tmps.getD t Go.undef = .tuple cs) (hy : cs[i]? = some y) : (execOp a.eval o).run P w = .ok (.value y) w := by
  simp [execOp, h, Act.eval, hv, Instr.extract, hy]
theorem run_rg {a : Act} {t bm n : Nat} {mt kt et : TypeId} {es : Array MapEntry} {o : Oper} (h : o.op = .range mt (.tmp t)) (hmt : P.underlying mt = some (.map kt et)) (hv : a.tmps.getD t Go.undef = .map (some bm)) (hb : w.heap[bm]? = some (.map es n)) : (execOp a.eval o).run P w = .ok (.value (.pointer (some ⟨w.heap.size, 0, none⟩))) (w.alloc (.mapIter (some bm) n #[] n)) := by
  simp [execOp, h, Act.eval, hv, Instr.range, hmt, Sem.run, underlying, getObj, hb, Result.andThen]
theorem run_nx {a : Act} {t : Nat} {x y : Value} {ty : TypeId} {w' : World} {o : Oper} (h : o.op = .next (.tmp t) false) (hv : a.tmps.getD t Go.undef = x) (hr : (Instr.next x false ty).run P w = .ok y w') : (execOp a.eval o).run P w = .ok (.value y) w' := by
  have hr' : (Instr.next x false o.type).run P w = .ok y w' := hr
  simp [execOp, h, Act.eval, hv, hr', Result.andThen]
theorem run_en {a : Act} {t : Nat} {x y : Value} {o : Oper} (h : o.op = .entry (.tmp t)) (hv : a.tmps.getD t Go.undef = x) (hr : (Instr.entry x).run P w = .ok y w) : (execOp a.eval o).run P w = .ok (.value y) w := by
  simp [execOp, h, Act.eval, hv, hr, Result.andThen]
theorem put_get {a : Act} {N k i : Nat} {x : Value} (hs : a.tmps.size = N) (hk : k < N) : (a.put (some k) x).tmps.getD i Go.undef = if k = i then x else a.tmps.getD i Go.undef := by
  simp only [put_tmps, setT, Array.getD_eq_getD_getElem?, Array.getElem?_setIfInBounds, hs]
  by_cases h : k = i
  · subst h; simp [hk]
  · simp [h]
def rangeLoop (tk id id1 id2 id3 : Nat) (ops1 ops2 : Array Oper) (body : Code) : Code :=
  .seq (.region id1 ops1 false) (.seq (.cond (.tmp tk) .skip (.exit id)) (.block id2 (.seq (.region id3 ops2 false) body)))
structure Head (cx : Cx) (N : Nat) (g : Gh) (s : St) (w : World) (E : Nat → Env) (mid bm cap n r : Nat) (seen : List Nat) (Hc : Hp) (g1 : Gh) (a1 : Act) (w1 : World) (sa : Array Nat) : Prop where
  ok : StOk cx N g1 ⟨E r, Hc, s.h.length⟩ a1 w1
  ext : Ext s.b g s.h w g1 Hc w1
  it : Iter cx g1 w1 r bm n sa
  sa : ∀ i, sa.contains i = true ↔ i ∈ seen
  J : g1.J mid = some (bm, cap)
  nw : w.heap.size ≤ r
theorem born_nodup {C : Nat → List Value} {l : List (D × D)} {es : List MapEntry} (h : RepM C l es) : (es.map (·.born)).Nodup := by
  have e : es.map (·.born) = List.range es.length := by
    apply List.ext_getElem
    · simp
    · intro i h1 h2
      simp only [List.length_map] at h1
      have hl : i < l.length := by rw [← h.1]; exact h1
      have := (h.2 i l[i] es[i] (List.getElem?_eq_getElem hl) (List.getElem?_eq_getElem h1)).2.2
      simpa using this
  rw [e]; exact List.nodup_range
theorem pigeon {n : Nat} {l : List Nat} (hd : l.Nodup) (hl : ∀ i ∈ l, i < n) : l.length ≤ n := by
  have : l ⊆ List.range n := fun i hi => List.mem_range.2 (hl i hi)
  have := List.Nodup.length_le_of_subset hd this
  simpa using this
theorem ev_code_sound {pg : Pg} (hT : TblOk P pg) (hmx : P.follows .mixedOrders = true) {A : Ann} {N : Nat} (c : Code) (v : VCode) (ht : tr P A c = some v) (hN : v.okN N = true) {s : St} {a : Act} {x : Ex} {s' : St} (h : ev pg v s = some (x, s')) (ok : StOk pg.toCx N g s a w)
    {Q : Exit → Act → World → Prop} (hq : ∀ g' a' w', StOk pg.toCx N g' s' a' w' → Ext s.b g s.h w g' s'.h w' → Q x.out a' w') : c.wp P Q a w := by
  obtain ⟨n, hn⟩ := evC_fin h
  obtain ⟨hS, hL⟩ := at_sound hT hmx n
  exact code_sound hS hmx hL c v ht hN hn ok hq
theorem rounds_sound {pg : Pg} (hT : TblOk P pg) (hmx : P.follows .mixedOrders = true) {A : Ann} {N : Nat} {body : Code} {v : VCode} (ht : tr P A body = some v) (hN : v.okN N = true)
    {ops0 ops1 ops2 : Array Oper} {src tm ti tn tk te tx key : Nat} {mt : TypeId} (sh : RangeShape N ops0 ops1 ops2 src tm ti tn tk te tx key mt) {id id1 id2 id3 : Nat}
    {s : St} {mid bm cap : Nat} {l : List (D × D)} {ks : List Nat} {E : Nat → Env} (hE : ∀ r, getE (E r) ti = .raw (.pointer (some ⟨r, 0, none⟩))) {I : List Nat → Hp → Prop}
    (hI : ∀ seen Hc, I seen Hc → Hc.length = s.h.length ∧ Hc[mid]? = some (.map l)) {R : St → Prop}
    (step : ∀ r seen Hc i p, I seen Hc → l[i]? = some p → i ∉ seen → ∃ x s1, ev pg v ⟨(key, .d p.1) :: (tx, .d p.1) :: (te, .tup [.d p.1, .d p.2]) :: (tk, .d (.bool true)) :: (tn, .tup [.d (.bool true), .d p.1, .d p.2]) :: E r, Hc, s.h.length⟩ = some (x, s1) ∧ ((x = .nrm ∧ cut s.h.length (keepE ks s1.e) = E r ∧ I (i :: seen) (s1.h.take s.h.length)) ∨ (x = .ret ∧ R s1)))
    {Q : Exit → Act → World → Prop}
    (hnrm : ∀ g' a' w' r Hc seen, I seen Hc → (∀ i, i < l.length → i ∈ seen) → StOk pg.toCx N g' ⟨(tk, .d (.bool false)) :: (tn, .tup [.d (.bool false)]) :: E r, Hc, s.b⟩ a' w' → Ext s.b g s.h w g' Hc w' → Q .normal a' w')
    (hret : ∀ g' a' w' s1, R s1 → StOk pg.toCx N g' ⟨s1.e, s1.h, s.b⟩ a' w' → Ext s.b g s.h w g' s1.h w' → Q .ret a' w') (hbase : s.b ≤ s.h.length) :
    ∀ (k : Nat) (seen : List Nat) (Hc : Hp) (g1 : Gh) (a1 : Act) (w1 : World) (r : Nat) (sa : Array Nat), seen.Nodup → (∀ i ∈ seen, i < l.length) → l.length ≤ seen.length + k → I seen Hc → Head pg.toCx N g s w E mid bm cap l.length r seen Hc g1 a1 w1 sa →
      Code.rounds P (rangeLoop tk id id1 id2 id3 ops1 ops2 body) (Exit.inBlock id Q) (k + 1) a1 w1 := by
  obtain ⟨l1, l2, l3, l4, l5, l6, l7, l8⟩ := sh.lt
  obtain ⟨n1, n2, n3, n4, n5, n6⟩ := sh.ne
  have round : ∀ (K : Act → World → Prop) (seen : List Nat) (Hc : Hp) (g1 : Gh) (a1 : Act) (w1 : World) (r : Nat) (sa : Array Nat), seen.Nodup → (∀ i ∈ seen, i < l.length) → I seen Hc → Head pg.toCx N g s w E mid bm cap l.length r seen Hc g1 a1 w1 sa →
      (∀ i Hc' g2 a2 w2 sa', i < l.length → i ∉ seen → I (i :: seen) Hc' → Head pg.toCx N g s w E mid bm cap l.length r (i :: seen) Hc' g2 a2 w2 sa' → K a2 w2) →
      (rangeLoop tk id id1 id2 id3 ops1 ops2 body).wp P (Exit.then K (Exit.inBlock id Q)) a1 w1 := by
    intro K seen Hc g1 a1 w1 r sa hd hlt hin hh hK
    obtain ⟨hlen, hmid⟩ := hI seen Hc hin
    have hob := hh.ok.inv.ob mid bm cap _ hh.J hmid
    obtain ⟨⟨es, hes, hrm⟩, hC0⟩ := hob
    have hit : a1.tmps.getD ti Go.undef = .pointer (some ⟨r, 0, none⟩) := by
      have := (hh.ok.env.2 ti l3).1
      simp only [hE, Rep] at this
      exact this
    have hold : ∀ x ∈ es.toList, x.born < l.length := fun x hx => by
      obtain ⟨i, hi, rfl⟩ := List.getElem_of_mem hx
      have hil : i < l.length := by rw [← hrm.1]; exact hi
      have := (hrm.2 i l[i] es.toList[i] (List.getElem?_eq_getElem hil) (List.getElem?_eq_getElem hi)).2.2
      omega
    apply wp_seq
    apply wp_region
    rw [sh.s1, range2, wpOps_cons]
    have hnx := run_next_at (P := P) w1 0 r bm l.length l.length sa es l.length hh.it.hr hes hold (Nat.le_refl _)
    rcases hnx with ⟨h0, hrun⟩ | ⟨e, he, w1', hw1', hrun⟩
    · have hall : ∀ i, i < l.length → i ∈ seen := fun i hi => by
        have hi' : i < es.toList.length := by rw [hrm.1]; exact hi
        have hb := (hrm.2 i l[i] es.toList[i] (List.getElem?_eq_getElem hi) (List.getElem?_eq_getElem hi')).2.2
        have hem : leftOf es sa = #[] := Array.eq_empty_of_size_eq_zero h0
        unfold leftOf at hem
        rw [Array.filter_eq_empty_iff] at hem
        have := hem es.toList[i] (by simp)
        rw [hb] at this
        refine (hh.sa i).1 ?_
        simpa using this
      have o1 : StOk pg.toCx N g1 ⟨putE (some tn) (.tup [.d (.bool false)]) (E r), Hc, s.h.length⟩ (a1.put (some tn) (.tuple #[.bool false])) w1 := hh.ok.put (fun k hk => by cases hk; exact l4) hh.ok.inv (by simp only [Rep, RepTs]; exact ⟨_, rfl, _, _, rfl, by simp [RepD, RepCs], rfl⟩) (by simp [V.und, undL]) (Ext.refl ..)
      have o2 : StOk pg.toCx N g1 ⟨putE (some tk) (.d (.bool false)) (putE (some tn) (.tup [.d (.bool false)]) (E r)), Hc, s.h.length⟩ ((a1.put (some tn) (.tuple #[.bool false])).put (some tk) (.bool false)) w1 := o1.put (fun k hk => by cases hk; exact l5) hh.ok.inv (by simp [Rep, RepD, RepCs]) (by simp [V.und]) (Ext.refl ..)
      have e1 : (a1.put (some tn) (.tuple #[.bool false])).tmps.getD tn Go.undef = .tuple #[.bool false] := by rw [put_get hh.ok.env.1 l4, if_pos rfl]
      refine op_step sh.b0 (fun o ho => run_nx ho hit hrun) ?_
      rw [wpOps_cons]
      refine op_step sh.b1 (fun o ho => run_ex ho e1 rfl) ?_
      show (Code.seq (.cond (.tmp tk) .skip (.exit id)) _).wp P _ _ _
      apply wp_seq
      refine wp_cond_false (by rw [eval_tmp, put_get o1.env.1 l5, if_pos rfl]; rfl) ?_
      refine wp_exit ?_
      show (if id = id then Q .normal _ _ else _)
      rw [if_pos rfl]
      refine hnrm g1 _ w1 r Hc seen hin hall ⟨o2.inv, o2.env, o2.defers, ?_⟩ hh.ext
      show s.b ≤ Hc.length
      omega
    · -- one more
      have hem : e ∈ es.toList ∧ sa.contains e.born = false := by
        unfold leftOf at he
        simp only [Array.toList_filter, List.mem_filter, Bool.not_eq_true'] at he
        exact he
      obtain ⟨i, hi, hie⟩ := List.getElem_of_mem hem.1
      have hil : i < l.length := by rw [← hrm.1]; exact hi
      obtain ⟨rk, rv, hb⟩ := hrm.2 i l[i] e (List.getElem?_eq_getElem hil) (by rw [List.getElem?_eq_getElem hi, hie])
      have hns : i ∉ seen := fun hm => by
        have := (hh.sa i).2 hm
        rw [← hb, hem.2] at this; cases this
      obtain ⟨p, hp⟩ : ∃ p, p = l[i] := ⟨_, rfl⟩
      rw [← hp] at rk rv
      have hpl : l[i]? = some p := by rw [hp]; exact List.getElem?_eq_getElem hil
      obtain ⟨w2, hw2⟩ : ∃ w2, w2 = setBlock w1' r (.mapIter (some bm) l.length (sa.push e.born) l.length) := ⟨_, rfl⟩
      rw [← hw2] at hrun
      have hheap : w1'.heap = w1.heap := by rcases hw1' with rfl | rfl <;> rfl
      have hos : w1'.os = w1.os ∧ w1'.tape = w1.tape ∧ w1'.output = w1.output := by rcases hw1' with rfl | rfl <;> exact ⟨rfl, rfl, rfl⟩
      have hrl : r < w1.heap.size := hh.it.lt
      have h2r : w2.heap[r]? = some (.mapIter (some bm) l.length (sa.push e.born) l.length) := by
        rw [hw2]; show (w1'.heap.setIfInBounds r _)[r]? = _
        rw [hheap, Array.getElem?_setIfInBounds_self_of_lt hrl]
      have h2o : ∀ b, b ≠ r → w2.heap[b]? = w1.heap[b]? := fun b hb => by
        rw [hw2]; show (w1'.heap.setIfInBounds r _)[b]? = _
        rw [hheap, Array.getElem?_setIfInBounds_ne (fun e => hb e.symm)]
      have hsz : w2.heap.size = w1.heap.size := by
        rw [hw2]; show (w1'.heap.setIfInBounds r _).size = _
        rw [Array.size_setIfInBounds, hheap]
      have hbr : bm ≠ r := fun e => hh.it.noJ mid cap (by rw [← e]; exact hh.J)
      have hI2 : Inv pg.toCx g1 Hc w2 := hh.ok.inv.untr (by omega) (fun b hb => h2o b (fun e => by
        subst e
        rcases hb with ⟨k, c, h⟩ | h | h
        · exact hh.it.noJ k c h
        · exact h hh.it.noC
        · exact h hh.it.noF))
      have hx2 : Ext s.b g s.h w g1 Hc w2 := by
        have hox : w2.os = w1.os ∧ w2.tape = w1.tape ∧ w2.output = w1.output := by rw [hw2]; exact hos
        exact hh.ext.untr hox.1 hox.2.1 hox.2.2 (by omega) fun b hb => h2o b (by have := hh.nw; omega)
      have rv1 : RepTs g1 Hc [.d p.1, .d p.2] [e.key, e.val] := by
        simp only [RepTs, Rep]; exact ⟨_, _, rfl, rk, _, _, rfl, rv, rfl⟩
      have hbool : ∀ b, Rep g1 Hc (.d (.bool b)) (.bool b) := fun b => by simp [Rep, RepD, RepCs]
      have ht1 : Rep g1 Hc (.tup [.d (.bool true), .d p.1, .d p.2]) (.tuple #[.bool true, e.key, e.val]) := by
        simp only [Rep]; exact ⟨_, rfl, by rw [RepTs]; exact ⟨_, _, rfl, hbool true, rv1⟩⟩
      have ht2 : Rep g1 Hc (.tup [.d p.1, .d p.2]) (.tuple #[e.key, e.val]) := by simp only [Rep]; exact ⟨_, rfl, rv1⟩
      have ht3 : Rep g1 Hc (.d p.1) e.key := by simp only [Rep]; exact rk
      have u0 : ∀ x : D, (V.d x).und Hc.length = true := fun _ => rfl
      have o1 : StOk pg.toCx N g1 ⟨putE (some tn) (.tup [.d (.bool true), .d p.1, .d p.2]) (E r), Hc, s.h.length⟩ (a1.put (some tn) (.tuple #[.bool true, e.key, e.val])) w2 :=
        ⟨hI2, by rw [put_tmps]; exact hh.ok.env.put (fun k hk => by cases hk; exact l4) ht1 (by simp [V.und, undL]), by rw [put_defers]; exact hh.ok.defers, hh.ok.base⟩
      have o2 := o1.put (d := some tk) (v := .d (.bool true)) (x := .bool true) (fun k hk => by cases hk; exact l5) o1.inv (hbool true) rfl (Ext.refl ..)
      have o3 := o2.put (d := some te) (v := .tup [.d p.1, .d p.2]) (x := .tuple #[e.key, e.val]) (fun k hk => by cases hk; exact l6) o2.inv ht2 (by simp [V.und, undL]) (Ext.refl ..)
      have o4 := o3.put (d := some tx) (v := .d p.1) (x := e.key) (fun k hk => by cases hk; exact l7) o3.inv ht3 rfl (Ext.refl ..)
      have o5 := o4.put (d := some key) (v := .d p.1) (x := e.key) (fun k hk => by cases hk; exact l8) o4.inv ht3 rfl (Ext.refl ..)
      have e1 : (a1.put (some tn) (.tuple #[.bool true, e.key, e.val])).tmps.getD tn Go.undef = .tuple #[.bool true, e.key, e.val] := by rw [put_get hh.ok.env.1 l4, if_pos rfl]
      have e2 : ((a1.put (some tn) (.tuple #[.bool true, e.key, e.val])).put (some tk) (.bool true)).tmps.getD ti Go.undef = .pointer (some ⟨r, 0, none⟩) := by
        rw [put_get o1.env.1 l5, if_neg n3, put_get hh.ok.env.1 l4, if_neg n2, hit]
      have hen := run_entry_at (P := P) w2 r bm l.length sa es l.length e h2r (by rw [h2o bm hbr]; exact hes) hem.1 (born_nodup hrm)
      refine op_step sh.b0 (fun o ho => run_nx ho hit hrun) ?_
      rw [wpOps_cons]
      refine op_step sh.b1 (fun o ho => run_ex (y := .bool true) ho e1 rfl) ?_
      show (Code.seq (.cond (.tmp tk) .skip (.exit id)) _).wp P _ _ _
      apply wp_seq
      refine wp_cond_true (by rw [eval_tmp, put_get o1.env.1 l5, if_pos rfl]) ?_
      refine wp_skip ?_
      show (Code.block id2 _).wp P _ _ _
      apply wp_block
      apply wp_seq
      apply wp_region
      rw [sh.s2, range3, wpOps_cons]
      refine op_step sh.c0 (fun o ho => run_en ho e2 hen) ?_
      rw [wpOps_cons]
      refine op_step sh.c1 (fun o ho => run_ex (y := e.key) ho (by rw [put_get o2.env.1 l6, if_pos rfl]) rfl) ?_
      rw [wpOps_cons]
      refine op_step sh.c2 (fun o ho => run_as ho) ?_
      rw [put_get o3.env.1 l7, if_pos rfl]
      show body.wp P _ _ _
      obtain ⟨x, s1, hev, hcase⟩ := step r seen Hc i p hin hpl hns
      refine ev_code_sound hT hmx body v ht hN hev o5 fun g' a' w' ok' e' => ?_
      have it2 : Iter pg.toCx g1 w2 r bm l.length (sa.push e.born) := ⟨h2r, hh.it.noJ, hh.it.noC, hh.it.noF⟩
      have hxx : Ext s.b g s.h w g' s1.h w' := hx2.trans e' hbase
      rcases hcase with ⟨rfl, hcut, hI'⟩ | ⟨rfl, hR⟩
      · show K a' w'
        have hle : Hc.length ≤ s1.h.length := e'.len
        have hJ' : g'.J mid = some (bm, cap) := ((e'.keep.obj mid (.map l) (List.getElem?_eq_some_iff.1 hmid).1 hmid (by rintro sz l' ⟨⟩)).1).trans hh.J
        have hml : mid < s.h.length := by rw [← hlen]; exact (List.getElem?_eq_some_iff.1 hmid).1
        have hback := StOk.back (ks := ks) (b0 := s.h.length) (s := ⟨E r, Hc, s.h.length⟩) hh.ok.inv.und (by show s.h.length ≤ Hc.length; omega) ok' (by rw [show (St.mk (E r) Hc s.h.length).h.length = s.h.length from hlen]; exact e')
        simp only [hlen] at hback
        rw [hcut] at hback
        refine hK i (s1.h.take s.h.length) (g'.cut s.h.length) a' w' (sa.push e.born) hil hns hI' ⟨hback, ?_, (it2.ext e').cut, fun j => ?_, by rw [cut_lt hml]; exact hJ', hh.nw⟩
        · exact hxx.cut rfl hbase
        · rw [List.mem_cons]
          simp only [Array.contains_push, Bool.or_eq_true, beq_iff_eq, hb, hh.sa]
          constructor
          · rintro (h | h)
            · exact .inr h
            · exact .inl h
          · rintro (h | h)
            · exact .inr h
            · exact .inl h
      · show Q .ret a' w'
        exact hret g' a' w' s1 hR ⟨ok'.inv, ok'.env, ok'.defers, by have h9 : Hc.length ≤ s1.h.length := e'.len; show s.b ≤ s1.h.length; omega⟩ hxx
  intro k
  induction k with
  | zero =>
    intro seen Hc g1 a1 w1 r sa hd hlt hk hin hh
    rw [rounds_succ]
    refine round _ seen Hc g1 a1 w1 r sa hd hlt hin hh fun i Hc' g2 a2 w2 sa' h1 h2 _ _ => ?_
    have := pigeon (n := l.length) (l := i :: seen) (List.nodup_cons.2 ⟨h2, hd⟩) (fun j hj => (List.mem_cons.1 hj).elim (fun e => by rw [e]; exact h1) (hlt j))
    simp only [List.length_cons] at this
    omega
  | succ k ih =>
    intro seen Hc g1 a1 w1 r sa hd hlt hk hin hh
    rw [rounds_succ]
    refine round _ seen Hc g1 a1 w1 r sa hd hlt hin hh fun i Hc' g2 a2 w2 sa' h1 h2 h3 h4 => ?_
    exact ih (i :: seen) Hc' g2 a2 w2 r sa' (List.nodup_cons.2 ⟨h2, hd⟩) (fun j hj => (List.mem_cons.1 hj).elim (fun e => by rw [e]; exact h1) (hlt j)) (by simp only [List.length_cons]; omega) h3 h4
theorem mrange_sound {pg : Pg} (hT : TblOk P pg) (hmx : P.follows .mixedOrders = true) {A : Ann} {N : Nat} {body : Code} {v : VCode} (ht : tr P A body = some v) (hN : v.okN N = true)
    {ops0 ops1 ops2 : Array Oper} {src tm ti tn tk te tx key : Nat} {mt kt et : TypeId} (sh : RangeShape N ops0 ops1 ops2 src tm ti tn tk te tx key mt) (hmt : P.underlying mt = some (.map kt et)) {id id0 id1 id2 id3 : Nat}
    {s : St} {mid : Nat} {l : List (D × D)} {ks : List Nat} {a : Act} (ok : StOk pg.toCx N g s a w) (hsrc : getE s.e src = .mp mid) (hmid : s.h[mid]? = some (.map l)) (hks : ti ∈ ks) {I : List Nat → Hp → Prop} (h0 : I [] s.h)
    (hI : ∀ seen Hc, I seen Hc → Hc.length = s.h.length ∧ Hc[mid]? = some (.map l)) {R : St → Prop}
    (step : ∀ r seen Hc i p, I seen Hc → l[i]? = some p → i ∉ seen → ∃ x s1, ev pg v ⟨(key, .d p.1) :: (tx, .d p.1) :: (te, .tup [.d p.1, .d p.2]) :: (tk, .d (.bool true)) :: (tn, .tup [.d (.bool true), .d p.1, .d p.2]) :: keepE ks ((ti, .raw (.pointer (some ⟨r, 0, none⟩))) :: (tm, .mp mid) :: s.e), Hc, s.h.length⟩ = some (x, s1) ∧ ((x = .nrm ∧ cut s.h.length (keepE ks s1.e) = keepE ks ((ti, .raw (.pointer (some ⟨r, 0, none⟩))) :: (tm, .mp mid) :: s.e) ∧ I (i :: seen) (s1.h.take s.h.length)) ∨ (x = .ret ∧ R s1)))
    {Q : Exit → Act → World → Prop}
    (hnrm : ∀ g' a' w' r Hc seen, I seen Hc → (∀ i, i < l.length → i ∈ seen) → StOk pg.toCx N g' ⟨(tk, .d (.bool false)) :: (tn, .tup [.d (.bool false)]) :: keepE ks ((ti, .raw (.pointer (some ⟨r, 0, none⟩))) :: (tm, .mp mid) :: s.e), Hc, s.b⟩ a' w' → Ext s.b g s.h w g' Hc w' → Q .normal a' w')
    (hret : ∀ g' a' w' s1, R s1 → StOk pg.toCx N g' ⟨s1.e, s1.h, s.b⟩ a' w' → Ext s.b g s.h w g' s1.h w' → Q .ret a' w') :
    (Code.seq (.region id0 ops0 false) (.block id (.loop (rangeLoop tk id id1 id2 id3 ops1 ops2 body)))).wp P Q a w := by
  obtain ⟨l1, l2, l3, l4, l5, l6, l7, l8⟩ := sh.lt
  obtain ⟨n1, n2, n3, n4, n5, n6⟩ := sh.ne
  have hrep := (ok.env.2 src l1).1
  rw [hsrc] at hrep
  have hrep' := hrep
  simp only [Rep] at hrep
  obtain ⟨_, bm, cap, hJ, hval⟩ := hrep
  obtain ⟨⟨es, hes, hrm⟩, hC0⟩ := ok.inv.ob mid bm cap _ hJ hmid
  have hml := (List.getElem?_eq_some_iff.1 hmid).1
  have o1 := ok.put (d := some tm) (v := .mp mid) (x := a.tmps.getD src Go.undef) (fun k hk => by cases hk; exact l2) ok.inv hrep' (by simp [V.und, hml]) (Ext.refl ..)
  obtain ⟨w2, hw2⟩ : ∃ w2, w2 = w.alloc (.mapIter (some bm) l.length #[] l.length) := ⟨_, rfl⟩
  have h2n : w2.heap[w.heap.size]? = some (.mapIter (some bm) l.length #[] l.length) := by rw [hw2]; exact heap_alloc_new w _
  have h2o : ∀ b, b < w.heap.size → w2.heap[b]? = w.heap[b]? := fun b hb => by rw [hw2]; exact heap_alloc_old w _ hb
  have hsz : w.heap.size ≤ w2.heap.size := by rw [hw2]; show _ ≤ (w.heap.push _).size; simp
  have hfx : pg.toCx.fx w.heap.size = none := by
    cases hf : pg.toCx.fx w.heap.size with
    | none => rfl
    | some o =>
      have := (Array.getElem?_eq_some_iff.1 (ok.inv.fix _ o hf).1).1
      omega
  have hCn : g.C w.heap.size = [] := by
    by_cases h : g.C w.heap.size = []
    · exact h
    · obtain ⟨cur, e, fz, h1, _⟩ := ok.inv.imm _ h
      have := (Array.getElem?_eq_some_iff.1 h1).1
      omega
  have hJn : ∀ k c, g.J k ≠ some (w.heap.size, c) := fun k c h => by have := (ok.inv.dom k _ c h).2; omega
  have hlt : ∀ b, ((∃ i c, g.J i = some (b, c)) ∨ g.C b ≠ [] ∨ pg.toCx.fx b ≠ none) → b < w.heap.size := fun b hb => by
    rcases hb with ⟨k, c, h⟩ | h | h
    · exact (ok.inv.dom k b c h).2
    · obtain ⟨cur, e, fz, h1, _⟩ := ok.inv.imm b h
      exact (Array.getElem?_eq_some_iff.1 h1).1
    · cases hf : pg.toCx.fx b with
      | none => exact absurd hf h
      | some o => exact (Array.getElem?_eq_some_iff.1 (ok.inv.fix _ o hf).1).1
  have hI2 : Inv pg.toCx g s.h w2 := ok.inv.untr hsz fun b hb => h2o b (hlt b hb)
  have hx2 : Ext s.b g s.h w g s.h w2 := (Ext.refl s.b g s.h w).untr (by rw [hw2]; rfl) (by rw [hw2]; rfl) (by rw [hw2]; rfl) hsz h2o
  have o2 : StOk pg.toCx N g ⟨putE (some ti) (.raw (.pointer (some ⟨w.heap.size, 0, none⟩))) (putE (some tm) (.mp mid) s.e), s.h, s.b⟩ ((a.put (some tm) (a.tmps.getD src Go.undef)).put (some ti) (.pointer (some ⟨w.heap.size, 0, none⟩))) w2 :=
    ⟨hI2, by rw [put_tmps]; exact o1.env.put (fun k hk => by cases hk; exact l3) (by simp only [Rep]) rfl, by rw [put_defers]; exact o1.defers, o1.base⟩
  have o3 := o2.keep ks
  apply wp_seq
  apply wp_region
  rw [sh.s0, range2, wpOps_cons]
  refine op_step sh.a0 (fun o ho => run_mv ho) ?_
  rw [wpOps_cons]
  refine op_step sh.a1 (fun o ho => run_rg ho hmt (by rw [put_get ok.env.1 l2, if_pos rfl]; exact hval) hes) ?_
  show (Code.block id _).wp P _ _ _
  rw [← hw2]
  apply wp_block
  apply wp_loop_rounds (l.length + 1)
  refine rounds_sound (cap := cap) hT hmx ht hN sh (E := fun r => keepE ks ((ti, .raw (.pointer (some ⟨r, 0, none⟩))) :: (tm, .mp mid) :: s.e)) (fun r => by rw [getE_keepE, if_pos hks, getE_hit]) hI step hnrm hret ok.base l.length [] s.h g _ w2 w.heap.size #[] List.nodup_nil (fun i hi => by cases hi) (by simp) h0 ⟨o3, hx2, ⟨h2n, hJn, hCn, hfx⟩, fun i => by simp, hJ, Nat.le_refl _⟩
theorem fnspec_bare {f : Nat} {fn : Func} {c : Code} {rs : List VRes} {N : Nat} (hf : P.funcs[f]? = some fn) (hb : fn.body = some c) (hname : (fn.name == "runtime.NumGoroutine") = false) (hres : trRes P fn.results.toList = some rs) (hrs : rs.all (resLt N) = true) (hnt : N = fn.ntmps) {args : List V} (hl : args.length ≤ N) (hu : undL 0 args = true) {r : V} (hr0 : r.und 0 = true)
    (hwp : ∀ g w a, StOk cx N g ⟨enterE args, [], 0⟩ a w → c.wp P (fun x a' w' => (x = .normal ∨ x = .ret) ∧ ∃ g' s' vs, StOk cx N g' s' a' w' ∧ Ext 0 g [] w g' s'.h w' ∧ resVs s'.e s'.h rs = some vs ∧ undL 0 (vs.map (toArg s'.h)) = true ∧ oneOf (vs.map (toArg s'.h)) = r) a w) (H : Hp) : FnSpec P cx f args H r H := by
  refine ⟨⟨fn, hf, by rw [hb]; rfl, hname⟩, fun g w cargs hI ra ua => ?_⟩
  have hI0 : Inv cx (g.cut 0) [] w := by
    have := hI.restrict (n := 0) (Nat.zero_le _) (fun i c hi => by omega)
    simpa using this
  have ra0 : RepTs (g.cut 0) [] args cargs.toList := by
    have := keepW_cut g H 0
    rw [List.take_zero] at this
    exact RepTs_keep this _ _ hu ra
  refine calls_of_wp hf hb ?_
  have ok0 : StOk cx N (g.cut 0) ⟨enterE args, [], 0⟩ { tmps := cargs ++ Array.replicate (fn.ntmps - cargs.size) Go.undef, defers := [] } w :=
    ⟨hI0, by rw [← hnt]; exact enter_ok ra0 hu hl, rfl, Nat.le_refl _⟩
  refine wp_mono (hwp _ _ _ ok0) fun x a1 w1 hx => ?_
  obtain ⟨hxx, g1, s, vs, ok1, e1, hvs, hu2, hone⟩ := hx
  have goal : a1.defers = [] ∧ ∃ v, (results fn a1.tmps).run P w1 = .ok v w1 ∧ ∃ g' x, Ending.returned v = .returned x ∧ Inv cx g' H w1 ∧ Rep g' H r x ∧ r.und H.length = true ∧ Ext H.length g H w g' H w1 := by
    refine ⟨ok1.defers, ?_⟩
    obtain ⟨ys, y1, y2, y3⟩ := results_run (P := P) (fn := fn) ok1.inv ok1.env hres hrs hvs
    refine ⟨_, y1, ?_⟩
    have hlen : ([] : Hp).length ≤ s.h.length := e1.len
    have hc := e1.clean 0 (Nat.le_refl _) hI0.und
    have ra' := RepTs_args ok1.inv y2
    have ra2 := RepTs_keep (keepW_cut g1 s.h 0) _ _ hu2 ra'
    have hinv := ok1.inv.restrict (n := 0) (Nat.zero_le _) hc
    have hext := e1.cut (n := 0) rfl (Nat.le_refl _)
    rw [List.take_zero] at ra2 hinv hext
    obtain ⟨q1, q2⟩ := lift_ext (g' := g1.cut 0) hI hinv hext
    refine ⟨⟨g.J, (g1.cut 0).C⟩, _, rfl, q1, ?_, V.und_le (Nat.zero_le _) _ hr0, q2⟩
    have h3 := oneOf_rep ra2
    rw [hone] at h3
    exact Rep_keep (n := 0) (g := g1.cut 0) (H := []) (g' := ⟨g.J, (g1.cut 0).C⟩) (H' := H) ⟨fun _ => List.prefix_refl _, fun i _ hi => by omega, fun i _ _ hi => by omega⟩ _ _ hr0 h3
  rcases hxx with rfl | rfl <;> exact goal
end
end Go.Vm
namespace Go.Vm
section
variable {P : Program} {cx : Cx} {g : Gh} {H : Hp} {w : World}
inductive Loose (cx : Cx) (g : Gh) (w : World) (n sz : Nat) : Value → Nat → List Value → Prop
  | nil : Loose cx g w n sz (.slice none 0 0) 0 []
  | at (b cap : Nat) (cur : Array Value) (e : TypeId) (k : Nat) (us : List Value) : w.heap[b]? = some (.cells cur e (0, 0)) → us <+: cur.toList → us.length = k * sz → k ≤ cap → cur.size = cap * sz → cap ≤ maxLen → (∀ k c, g.J k ≠ some (b, c)) → g.C b = [] → cx.fx b = none → n ≤ b → Loose cx g w n sz (.slice (some ⟨b, 0, none⟩) k cap) k us
theorem Loose.ext {n nb sz k : Nat} {x : Value} {us : List Value} {g' : Gh} {H' : Hp} {w' : World} (h : Loose cx g w n sz x k us) (e : Ext nb g H w g' H' w') : Loose cx g' w' n sz x k us := by
  cases h with
  | nil => exact .nil
  | «at» b cap cur e0 k us h1 h2 hk0 h3 h4 h5 h6 h7 h8 h9 =>
    have hlt := (Array.getElem?_eq_some_iff.1 h1).1
    obtain ⟨f1, f2⟩ := e.frame b hlt h6
    refine .at b cap cur e0 k us (f1.trans h1) h2 hk0 h3 h4 h5 (fun k c hk => ?_) (f2.trans h7) h8 h9
    obtain ⟨k', c', hk'⟩ := e.jnew k b c hk hlt
    exact h6 k' c' hk'
theorem Loose.cut {n m sz k : Nat} {x : Value} {us : List Value} (h : Loose cx g w n sz x k us) : Loose cx (g.cut m) w n sz x k us := by
  cases h with
  | nil => exact .nil
  | «at» b cap cur e0 k us h1 h2 hk0 h3 h4 h5 h6 h7 h8 h9 => exact .at b cap cur e0 k us h1 h2 hk0 h3 h4 h5 (fun k c hk => h6 k c (cut_some hk).2) h7 h8 h9
theorem Loose.len {n sz k : Nat} {x : Value} {us : List Value} (h : Loose cx g w n sz x k us) : ∃ a c, x = .slice a k c := by cases h <;> exact ⟨_, _, rfl⟩
theorem Loose.lens {n sz k : Nat} {x : Value} {us : List Value} (h : Loose cx g w n sz x k us) : us.length = k * sz := by
  cases h with
  | nil => simp
  | «at» b cap cur e0 k us h1 h2 hk0 => exact hk0
theorem known_lt (hI : Inv cx g H w) {b : Nat} (hb : (∃ i c, g.J i = some (b, c)) ∨ g.C b ≠ [] ∨ cx.fx b ≠ none) : b < w.heap.size := by
  rcases hb with ⟨k, c, h⟩ | h | h
  · exact (hI.dom k b c h).2
  · obtain ⟨cur, e, fz, h1, _⟩ := hI.imm b h
    exact (Array.getElem?_eq_some_iff.1 h1).1
  · cases hf : cx.fx b with
    | none => exact absurd hf h
    | some o => exact (Array.getElem?_eq_some_iff.1 (hI.fix _ o hf).1).1
theorem new_unknown (hI : Inv cx g H w) {b : Nat} (hb : w.heap.size ≤ b) : (∀ k c, g.J k ≠ some (b, c)) ∧ g.C b = [] ∧ cx.fx b = none := by
  refine ⟨fun k c h => ?_, ?_, ?_⟩
  · have := known_lt hI (.inl ⟨k, c, h⟩); omega
  · by_cases h : g.C b = []
    · exact h
    · have := known_lt hI (.inr (.inl h)); omega
  · by_cases h : cx.fx b = none
    · exact h
    · have := known_lt hI (.inr (.inr h)); omega
def Stand (w : World) (sz : Nat) (y : Value) (m : Nat) (vs : List Value) : Prop := vs.length = m * sz ∧ ∃ ad c, y = .slice ad m c ∧ (m = 0 ∨ ∃ q, ad = some q ∧ ∀ (j : Nat) u, vs[j]? = some u → w.cell? (q.add j) = some u)
theorem Loose.stand {n sz k : Nat} {x : Value} {us : List Value} (h : Loose cx g w n sz x k us) : Stand w sz x k us := by
  refine ⟨h.lens, ?_⟩
  cases h with
  | nil => exact ⟨_, _, rfl, .inl rfl⟩
  | «at» b cap cur e0 k us h1 h2 hk0 h3 h4 h5 h6 h7 h8 h9 =>
    refine ⟨_, _, rfl, .inr ⟨_, rfl, fun j u hj => ?_⟩⟩
    rw [cell_at h1 j]
    have := prefix_getElem h2 hj
    simpa using this
theorem stand_data (hI : Inv cx g H w) {sz : Nat} {l : List D} {y : Value} (r : RepD g.C (.sl l) y) (hall : l.all (fun y => y.cells.length == sz) = true) : ∃ vs, Stand w sz y l.length vs ∧ RepEl g.C sz l vs := by
  obtain ⟨ad, cap, hx, _, _⟩ := sl_parts r
  by_cases hl : l = []
  · subst hl
    exact ⟨[], ⟨by simp, ad, cap, by rw [hx], .inl rfl⟩, by simp [RepEl]⟩
  · obtain ⟨q, us, h1, h2, h3, h4⟩ := news_of (sz := sz) hI hl (hx ▸ r) hall
    exact ⟨us, ⟨RepEl_length h3, ad, cap, by rw [hx], .inr ⟨q, h1, h4⟩⟩, h3⟩
theorem loose_app (hI : Inv cx g H w) {t e ty : TypeId} (ht : P.underlying t = some (.slice e)) {i : TypeInfo} (hi : P.info? e = some i) {z : Value} (hz : i.zero = some z) (hzs : z.cells.size = i.size) {n : Nat} {x : Value} {k m : Nat} {us : List Value} (hx : Loose cx g w n i.size x k us) (hn : n ≤ w.heap.size) {y : Value} {vs : List Value} (hy : Stand w i.size y m vs) (h1 : ∀ u ∈ vs, u.oneCell' = true) (hroom : roomy (k + m) i.bytes) :
    ∃ x' w', (Builtin.append_ #[t, t] ty #[x, y]).run P w = .ok x' w' ∧ Loose cx g w' n i.size x' (k + m) (us ++ vs) ∧ Inv cx g H w' ∧ w'.os = w.os ∧ w'.tape = w.tape ∧ w'.output = w.output ∧ w.heap.size ≤ w'.heap.size ∧ ∀ b, b < n → w'.heap[b]? = w.heap[b]? := by
  obtain ⟨hvl, ad, c, rfl, hst⟩ := hy
  by_cases hv : m = 0
  · subst hv
    have : vs = [] := List.eq_nil_of_length_eq_zero (by omega)
    subst this
    rw [List.append_nil, Nat.add_zero]
    cases hx with
    | nil => exact ⟨_, w, run_append_none t ty e i ht hi none 0 0 ad c (Nat.le_refl _) (by simp), .nil, hI, rfl, rfl, rfl, Nat.le_refl _, fun _ _ => rfl⟩
    | «at» b cap cur e0 k us a1 a2 ak a3 a4 a5 a6 a7 a8 a9 =>
      exact ⟨_, w, run_append_none t ty e i ht hi _ _ cap ad c a3 (by simp), .at b cap cur e0 k us a1 a2 ak a3 a4 a5 a6 a7 a8 a9, hI, rfl, rfl, rfl, Nat.le_refl _, fun _ _ => rfl⟩
  obtain ⟨q, rfl, hnews⟩ := hst.resolve_left hv
  obtain ⟨r1, r2⟩ := hroom
  have hlenl : (us ++ vs).length = (k + m) * i.size := by rw [List.length_append, hx.lens, hvl, Nat.add_mul]
  have fresh : ∀ (cs : Array Value) (cap : Nat), (us ++ vs) <+: cs.toList → k + m ≤ cap → cs.size = cap * i.size → cap ≤ maxLen → Loose cx g (w.drew.alloc (.cells cs e)) n i.size (.slice (some ⟨w.heap.size, 0, none⟩) (k + m) cap) (k + m) (us ++ vs) ∧ Inv cx g H (w.drew.alloc (.cells cs e)) := by
    intro cs cap p1 p2 p3 p4
    obtain ⟨q1, q2, q3⟩ := new_unknown hI (Nat.le_refl _)
    refine ⟨.at _ cap cs e _ _ (heap_alloc_new w.drew _) p1 hlenl p2 p3 p4 q1 q2 q3 hn, hI.untr (by simp) fun b hb => heap_alloc_old w.drew _ (known_lt hI hb)⟩
  cases hx with
  | nil =>
    simp only [Nat.zero_add] at r1 r2 fresh ⊢
    have hrun := run_append_nil (P := P) w t ty e i z ht hi hz q m c vs hvl hnews (by omega) (by omega) (by omega)
    refine ⟨_, _, hrun, ?_⟩
    have hge := grownCap_ge w m 0 e
    obtain ⟨f1, f2⟩ := fresh (vs.toArray ++ Builtin.zeroCells z.cells (grownCap w m 0 e - m)) (grownCap w m 0 e) (by simp) hge (by simp [size_zeroCells, hzs, hvl, ← Nat.add_mul]; congr 1; omega) (grownCap_le_maxLen _ _ _ _ (by simp [maxLen]; omega))
    exact ⟨f1, f2, rfl, rfl, rfl, by simp, fun b hb => heap_alloc_old w.drew _ (by show b < w.heap.size; omega)⟩
  | «at» b cap cur e0 k us a1 a2 ak a3 a4 a5 a6 a7 a8 a9 =>
    by_cases hin : k + m ≤ cap
    · have hmul : k * i.size + vs.length ≤ cur.size := by rw [hvl, a4, ← Nat.add_mul]; exact Nat.mul_le_mul_right _ hin
      have hrun := run_append_here (P := P) t ty e i ht hi b k cap cur e0 a1 q m c vs hvl hnews h1 hin hmul
      refine ⟨_, _, hrun, ?_⟩
      have htk : cur.toList.take (k * i.size) = us := by rw [← ak]; exact (List.prefix_iff_eq_take.1 a2).symm
      have hb : ∀ b', b' ≠ b → (w.setRow b (cur.toList.take (k * i.size) ++ vs ++ cur.toList.drop (k * i.size + vs.length)).toArray).heap[b']? = w.heap[b']? := fun b' hb' => setRow_other w b b' _ hb'
      refine ⟨?_, hI.untr (by simp) fun b' hb' => hb b' (fun e => by
        subst e
        rcases hb' with ⟨k, c, h⟩ | h | h
        · exact a6 k c h
        · exact h a7
        · exact h a8), rfl, rfl, rfl, by simp, fun b' hb' => hb b' (by omega)⟩
      refine .at b cap _ e0 _ _ (setRow_heap w b cur _ e0 (0, 0) a1) ?_ hlenl hin ?_ a5 a6 a7 a8 a9
      · rw [htk]; exact List.prefix_append _ _
      · simp only [List.size_toArray, List.length_append, List.length_take, List.length_drop, Array.length_toList]; omega
    · have holds : ∀ (j : Nat) u, us[j]? = some u → w.cell? ((⟨b, 0, none⟩ : Addr).add j) = some u := by
        intro j u hj
        rw [cell_at a1 j]
        have := prefix_getElem a2 hj
        simpa using this
      have hrun := run_append_grow (P := P) w t ty e i z ht hi hz ⟨b, 0, none⟩ k cap us ak holds q m c vs hvl hnews (by omega) (by omega) (growslice_fits (by omega) (by omega))
      refine ⟨_, _, hrun, ?_⟩
      have hge := grownCap_ge w (k + m) cap e
      obtain ⟨f1, f2⟩ := fresh (us.toArray ++ vs.toArray ++ Builtin.zeroCells z.cells (grownCap w (k + m) cap e - (k + m))) (grownCap w (k + m) cap e) (by simp) hge (by simp [size_zeroCells, hzs, hvl, ak, ← Nat.add_mul]; congr 1; omega) (grownCap_le_maxLen _ _ _ _ (by simp [maxLen]; omega))
      exact ⟨f1, f2, rfl, rfl, rfl, by simp, fun b' hb => heap_alloc_old w.drew _ (by show b' < w.heap.size; omega)⟩
theorem ops_pre {orc : Orc} (hS : SOrc P cx orc) {N : Nat} {ops : Array Oper} {rest : List Nat} : ∀ (l : List Oper) (i : Nat) (vs : List VOper), (∀ k, k < l.length → ops[i + k]? = l[k]?) → trOpers P ops l = some vs → vs.all (VOper.okN N) = true → ∀ {g : Gh} {w : World} {s s' : St}, evOps cx orc vs s = some s' → ∀ {a : Act}, StOk cx N g s a w →
    ∀ {Q : Exit → Act → World → Prop}, (∀ g' a' w', StOk cx N g' s' a' w' → Ext s.b g s.h w g' s'.h w' → wpOps P ops Q rest a' w') → wpOps P ops Q (List.range' i l.length ++ rest) a w
  | [], i, vs, _, ht, _, g, w, s, s', h, a, ok, Q, hq => by
    simp only [trOpers, Option.some.injEq] at ht
    subst ht
    simp only [evOps, Option.some.injEq] at h
    subst h
    exact hq g a w ok (Ext.refl ..)
  | co :: l, i, vs, hl, ht, hok, g, w, s, s', h, a, ok, Q, hq => by
    simp only [trOpers] at ht
    split at ht
    · rename_i v vs' hv hvs
      simp only [Option.some.injEq] at ht
      subst ht
      simp only [List.all_cons, Bool.and_eq_true] at hok
      simp only [evOps] at h
      cases h1 : evOper cx orc v s with
      | none => rw [h1] at h; cases h
      | some s1 =>
        rw [h1] at h
        simp only [Option.bind_some] at h
        have hi : ops[i]? = some co := by
          have := hl 0 (by simp)
          simpa using this
        have hl' : ∀ k, k < l.length → ops[i + 1 + k]? = l[k]? := fun k hk => by
          have := hl (k + 1) (by simpa using hk)
          rw [show i + (k + 1) = i + 1 + k by omega] at this
          simpa using this
        simp only [List.length_cons, List.range'_succ, List.cons_append]
        rw [wpOps_cons]
        refine oper_sound hS hi hv hok.1 h1 ok fun g' x w' ok' ext' => ?_
        have hb := evOper_b h1
        refine ops_pre hS l (i + 1) vs' hl' hvs hok.2 h ok' fun g2 a2 w2 ok2 ext2 => ?_
        exact hq g2 a2 w2 ok2 (ext'.trans ext2 (by omega))
    · cases ht
theorem wp_loop_dec {c : Code} {Q : Exit → Act → World → Prop} (I : Nat → Act → World → Prop) (step : ∀ k a w, I k a w → c.wp P (Exit.then (fun a' w' => ∃ k', k' < k ∧ I k' a' w') Q) a w) {k : Nat} {a : Act} (h : I k a w) : (Code.loop c).wp P Q a w := by
  have key : ∀ n k a w, k < n → I k a w → Code.rounds P c Q n a w := by
    intro n
    induction n with
    | zero => intro k a w hk; omega
    | succ n ih =>
      intro k a w hk hI
      rw [rounds_succ]
      refine wp_mono (step k a w hI) fun e a' w' he => ?_
      cases e with
      | normal =>
        obtain ⟨k', hk', hI'⟩ := he
        exact ih k' a' w' (by omega) hI'
      | _ => exact he
  exact wp_loop_rounds (k + 1) (key (k + 1) k a w (by omega) h)
theorem Loose.freeze (hI : Inv cx g H w) {n sz k : Nat} {x : Value} {us : List Value} (h : Loose cx g w n sz x k us) {l : List D} (hl : RepEl g.C sz l us) (hk : l.length = k) (hsz : 0 < sz) :
    ∃ g' : Gh, g'.J = g.J ∧ (∀ b, g.C b <+: g'.C b) ∧ (∀ b, b < n → g'.C b = g.C b) ∧ Inv cx g' H w ∧ RepD g'.C (.sl l) x := by
  cases h with
  | nil =>
    have : l = [] := List.eq_nil_of_length_eq_zero hk
    subst this
    refine ⟨g, rfl, fun _ => List.prefix_refl _, fun _ _ => rfl, hI, ?_⟩
    simp only [RepD, RepCs]
    exact ⟨_, _, rfl, Nat.le_refl _, by simp⟩
  | «at» b cap cur e k us h1 h2 hk0 h3 h4 h5 h6 h7 h8 h9 =>
    obtain ⟨C', hC'⟩ : ∃ C' : Nat → List Value, C' = fun i => if i = b then us else g.C i := ⟨_, rfl⟩
    have hb : C' b = us := by rw [hC']; exact if_pos rfl
    have ho : ∀ i, i ≠ b → C' i = g.C i := fun i hi => by rw [hC']; exact if_neg hi
    have hC : ∀ i, g.C i <+: C' i := fun i => by
      by_cases hi : i = b
      · subst hi; rw [h7]; exact List.nil_prefix
      · rw [ho i hi]; exact List.prefix_refl _
    have hkeep : KeepW H.length g H ⟨g.J, C'⟩ H := ⟨hC, fun i o _ hio hr => ⟨fun p hp => hp, o, hio, hr⟩, fun i sz l _ hio => ⟨l, hio, List.prefix_refl _, fun _ p hp => hp⟩⟩
    refine ⟨⟨g.J, C'⟩, rfl, hC, fun i hi => ho i (by omega), ⟨hI.inj, hI.dom, fun i b' c o hj hio => ?_, fun i hi => ?_, hI.und, fun i => ?_, hI.fix⟩, ?_⟩
    · exact (hI.ob i b' c o hj hio).ext hkeep rfl (ho b' (fun e => h6 i c (by rw [← e]; exact hj))) (by rintro c' rfl; exact hI.und i c' (hI.dom i b' c hj).1 hio)
    · by_cases hib : i = b
      · subst hib
        exact ⟨cur, e, (0, 0), h1, by show C' i <+: _; rw [hb]; exact h2⟩
      · have hi' : g.C i ≠ [] := by rw [← ho i hib]; exact hi
        obtain ⟨cur', e', fz, q1, q2⟩ := hI.imm i hi'
        exact ⟨cur', e', fz, q1, by show C' i <+: _; rw [ho i hib]; exact q2⟩
    · obtain ⟨vs, q1, q2⟩ := hI.glob i
      exact ⟨vs, q1.trans (hC i), RepDs_mono hC _ _ q2⟩
    · simp only [RepD, RepCs]
      refine ⟨_, _, by rw [hk], by omega, .inr ⟨b, 0, sz, us, rfl, hsz, ?_, RepEl_mono hC sz l us hl⟩⟩
      rw [List.drop_zero, hb]; exact List.prefix_refl _
end
end Go.Vm
