import Derived.Test.YtpgpjenfnbcclaaVmLoose
import Derived.Test.YtpgpjenfnbcclaaVmKeep
import Derived.Laws.Cover3
set_option linter.unusedSimpArgs false
set_option linter.unusedVariables false
namespace Go.Vm
open Go.RowKit
section
variable {P : Program} {cx : Cx} {g : Gh} {H : Hp} {w : World}
theorem chunk {pg : Pg} (hT : TblOk P pg) (hmx : P.follows .mixedOrders = true) {A : Ann} {N : Nat} {c : Code} {v : VCode} (ht : tr P A c = some v) (hN : v.okN N = true) {e : Env} {b : Nat} {a : Act} (ok : StOk pg.toCx N g ⟨e, H, b⟩ a w) {R : Ex → Env → Hp → Prop} (h : WQ pg b v [] e H fun x _ e' H' => R x e' H')
    {Q : Exit → Act → World → Prop} (hq : ∀ x e' H' g' a' w', R x e' H' → StOk pg.toCx N g' ⟨e', H', b⟩ a' w' → Ext b g H w g' H' w' → Q x.out a' w') : c.wp P Q a w := by
  obtain ⟨x, kn, e', H', h1, _, h2⟩ := h.imp (KnOk.nil _)
  exact ev_code_sound hT hmx c v ht hN h1 ok fun g' a' w' ok' ext' => hq x e' H' g' a' w' h2 ok' ext'
theorem take_at {ops : Array Oper} {i m k : Nat} (h : k < ((ops.toList.drop i).take m).length) : ops[i + k]? = ((ops.toList.drop i).take m)[k]? := by
  simp only [List.length_take, List.length_drop] at h
  rw [List.getElem?_take_of_lt (by omega), List.getElem?_drop, Array.getElem?_toList]
theorem StOk.low {N : Nat} {s : St} {a : Act} {b : Nat} (ok : StOk cx N g s a w) (hb : b ≤ s.h.length) : StOk cx N g ⟨s.e, s.h, b⟩ a w := ⟨ok.inv, ok.env, ok.defers, hb⟩
theorem StOk.forget {N : Nat} {e : Env} {H : Hp} {b : Nat} {a : Act} (ok : StOk cx N g ⟨e, H, b⟩ a w) (ks : List Nat) : StOk cx N g ⟨keepE ks e, H, b⟩ a w := (ok.keep ks).low ok.base
theorem wp_app {orc : Orc} (hS : SOrc P cx orc) {N id : Nat} {ops : Array Oper} {m m2 : Nat} (hsz : ops.size = m + 1 + m2) {vs1 vs2 : List VOper} (ht1 : trOpers P ops ((ops.toList.drop 0).take m) = some vs1) (ht2 : trOpers P ops ((ops.toList.drop (m + 1)).take m2) = some vs2) (ok1 : vs1.all (VOper.okN N) = true) (ok2 : vs2.all (VOper.okN N) = true)
    {p q d : Nat} {t el : TypeId} (hop : (ops[m]?).map (fun o => (o.op, o.dst, o.guard)) = some (.call { callee := .builtin .append, args := #[.tmp p, .tmp q], argTypes := #[t, t] }, some d, none)) (hd : d < N) (htt : P.underlying t = some (.slice el)) {i : TypeInfo} (hi : P.info? el = some i) {z : Value} (hz : i.zero = some z) (hzs : z.cells.size = i.size)
    {s s1 : St} {a : Act} (ok : StOk cx N g s a w) (e1 : evOps cx orc vs1 s = some s1) {xv : Value} (hx : getE s1.e p = .raw xv) (hpN : p < N) {w0 : World} {g0 : Gh} {H0 : Hp} {k : Nat} {us : List Value} (hl : Loose cx g w w0.heap.size i.size xv k us) (E0 : Ext s.b g0 H0 w0 g s.h w)
    {m3 : Nat} {vs : List Value} (hy : ∀ g' a' w', StOk cx N g' s1 a' w' → Ext s.b g s.h w g' s1.h w' → Stand w' i.size (a'.tmps.getD q Go.undef) m3 vs) (hone : ∀ u ∈ vs, u.oneCell' = true) (hroom : roomy (k + m3) i.bytes)
    {s2 : Value → St} (e2 : ∀ xv', evOps cx orc vs2 ⟨putE (some d) (.raw xv') s1.e, s1.h, s1.b⟩ = some (s2 xv'))
    {Q : Exit → Act → World → Prop} (hq : ∀ xv' g' a' w', StOk cx N g' (s2 xv') a' w' → Loose cx g' w' w0.heap.size i.size xv' (k + m3) (us ++ vs) → Ext s.b g0 H0 w0 g' (s2 xv').h w' → Q .normal a' w') : (Code.region id ops false).wp P Q a w := by
  have hb1 := evOps_b e1
  apply wp_region
  have hr : List.range ops.size = List.range' 0 ((ops.toList.drop 0).take m).length ++ (m :: (List.range' (m + 1) ((ops.toList.drop (m + 1)).take m2).length ++ [])) := by
    have l1 : ((ops.toList.drop 0).take m).length = m := by simp; omega
    have l2 : ((ops.toList.drop (m + 1)).take m2).length = m2 := by simp; omega
    rw [l1, l2, hsz, List.range_eq_range', List.append_nil, Nat.add_assoc, List.range'_append_1.symm, Nat.zero_add, Nat.add_comm 1 m2, List.range'_succ]
  rw [hr]
  refine ops_pre hS _ 0 _ (fun k hk => take_at hk) ht1 ok1 e1 ok fun g' a' w' ok' ext' => ?_
  rw [wpOps_cons]
  have hl' := hl.ext ext'
  have E1 := E0.trans ext' (Nat.le_refl _)
  have hxv : a'.tmps.getD p Go.undef = xv := by
    have := (ok'.env.2 p hpN).1
    rw [hx] at this
    simpa only [Rep] using this
  obtain ⟨o, ho, he⟩ := Option.map_eq_some_iff.1 hop
  simp only [Prod.mk.injEq] at he
  obtain ⟨q1, q2, q3⟩ := he
  obtain ⟨x2, w2, hrun, hl2, hI2, h5, h6, h7, h8, h9⟩ := loose_app (P := P) (t := t) (ty := o.type) ok'.inv htt hi hz hzs hl' E1.size (hy g' a' w' ok' ext') hone hroom
  have hex : (execOp a'.eval o).run P w' = .ok (.value x2) w2 := by
    have : (execOp a'.eval o).run P w' = ((Builtin.append_ #[t, t] o.type #[a'.eval (.tmp p), a'.eval (.tmp q)]).run P w').andThen (fun v w' => .ok (.value v) w') := by
      simp [execOp, q1, resolve, invoke, builtin]
    rw [this, eval_tmp, eval_tmp, hxv, hrun]; rfl
  unfold wpOp
  simp only [ho]
  rw [if_pos (by simp [Region.wanted, q3])]
  refine .inl ?_
  unfold Oper.wp
  rw [hex, Oper.upon_value, q2]
  have E2 : Ext s.b g0 H0 w0 g' s1.h w2 := E1.untr h5 h6 h7 h8 fun b hb => h9 b hb
  have ok2' : StOk cx N g' ⟨putE (some d) (.raw x2) s1.e, s1.h, s1.b⟩ (a'.put (some d) x2) w2 := by
    refine ⟨hI2, ?_, by rw [put_defers]; exact ok'.defers, ok'.base⟩
    rw [put_tmps]
    exact ok'.env.put (fun k hk => by cases hk; exact hd) (by simp only [Rep]) rfl
  refine ops_pre hS _ (m + 1) _ (fun k hk => take_at hk) ht2 ok2 (e2 x2) ok2' fun g3 a3 w3 ok3 ext3 => ?_
  show Q .normal a3 w3
  refine hq x2 g3 a3 w3 ok3 (hl2.ext ext3) (E2.trans ext3 ?_)
  show s.b ≤ s1.b
  omega
end
end Go.Vm
namespace Go.Vm
def cL : Code → Code | .seq a _ => a | c => c
def cR : Code → Code | .seq _ b => b | c => c
def cA : Code → Code | .cond _ a _ => a | c => c
def cE : Code → Code | .cond _ _ b => b | c => c
def cK : Code → Code | .block _ b => b | .loop b => b | c => c
def vL : VCode → VCode | .seq a _ => a | c => c
def vR : VCode → VCode | .seq _ b => b | c => c
def vA : VCode → VCode | .cond _ a _ => a | c => c
def vK : VCode → VCode | .block _ b => b | .loop _ b => b | c => c
def cOps : Code → Array Oper | .region _ ops _ => ops | _ => #[]
def cId : Code → Nat | .region id _ _ => id | .block id _ => id | _ => 0
section
variable {P : Program} {cx : Cx} {g : Gh} {H : Hp} {w : World}
theorem tblNone (P : Program) (cx : Cx) : TblOk P ⟨cx, fun _ => none⟩ := fun _ _ h => nomatch h
theorem op_put {N : Nat} {ops : Array Oper} {i : Nat} {op : Op} {d : Nat} (h : (ops[i]?).map (fun o => (o.op, o.dst, o.guard)) = some (op, some d, none)) {s : St} {a : Act} (ok : StOk cx N g s a w) {x : Value} {v : V} (hrun : ∀ o : Oper, o.op = op → (execOp a.eval o).run P w = .ok (.value x) w) (hd : d < N) (hr : Rep g s.h v x) (hu : v.und s.h.length = true)
    {Q : Exit → Act → World → Prop} {rest : List Nat} (hk : StOk cx N g ⟨putE (some d) v s.e, s.h, s.b⟩ (a.put (some d) x) w → Go.wpOps P ops Q rest (a.put (some d) x) w) : Go.wpOps P ops Q (i :: rest) a w := by
  rw [Go.wpOps_cons]
  exact op_step h hrun (hk (ok.put (fun k hk => by cases hk; exact hd) ok.inv hr hu (Ext.refl ..)))
theorem run_nilsl {a : Act} {t e u : TypeId} {p : Nat} {o : Oper} (ht : P.underlying t = some (.slice e)) {ad : Option Addr} {l c : Nat} (hv : a.tmps.getD p Go.undef = .slice ad l c) (ho : o.op = .binOp .eql t (.tmp p) (.const (.slice none 0 0)) u) : (execOp a.eval o).run P w = .ok (.value (.bool ad.isNone)) w := by
  have h1 : a.eval (.tmp p) = .slice ad l c := hv
  simp only [execOp, ho, h1]
  simp [Act.eval, binOp, eqGuard, run_equal_slice_nil w t e ad l c ht]
theorem op_callE {f : Nat} {fn : Func} (hf : P.funcs[f]? = some fn) (hb : fn.body.isNone = false) (hn : (fn.name == "runtime.NumGoroutine") = false) {ops : Array Oper} {i : Nat} {ar : Array Operand} {at' : Array TypeId} {d : Nat} (h : (ops[i]?).map (fun o => (o.op, o.dst, o.guard)) = some (.call { callee := .value (.func f), args := ar, argTypes := at' }, some d, none)) {a : Act} {R : Ending → World → Prop} (hc : Calls P f (ar.map a.eval) w R)
    {Q : Exit → Act → World → Prop} {rest : List Nat} (hk : ∀ e w', R e w' → ∃ x, e = .returned x ∧ Go.wpOps P ops Q rest (a.put (some d) x) w') : Go.wpOps P ops Q (i :: rest) a w := by
  rw [Go.wpOps_cons]
  obtain ⟨o, ho, he⟩ := Option.map_eq_some_iff.1 h
  simp only [Prod.mk.injEq] at he
  obtain ⟨e1, e2, e3⟩ := he
  have hrun : (execOp a.eval o).run P w = .ok (.enter f (ar.map a.eval)) w := by
    have : (execOp a.eval o).run P w = (callFunc f (ar.map a.eval)).run P w := by
      simp [execOp, e1, resolve, Act.eval, Deferred.ofValue, invoke]
    rw [this, run_callFunc hf hb hn]
  unfold wpOp
  simp only [ho]
  rw [if_pos (by simp [Region.wanted, e3])]
  refine .inl ?_
  unfold Oper.wp
  rw [hrun, Oper.upon_enter]
  refine hc.mono fun e w' he => ?_
  obtain ⟨x, rfl, hx⟩ := hk e w' he
  rw [e2]
  exact hx
theorem run_lenR {a : Act} {t e : TypeId} {p : Nat} {o : Oper} (ht : P.underlying t = some (.slice e)) {ad : Option Addr} {l c : Nat} (hv : a.tmps.getD p Go.undef = .slice ad l c) (ho : o.op = .call { callee := .builtin .len, args := #[.tmp p], argTypes := #[t] }) : (execOp a.eval o).run P w = .ok (.value (.int .i64 l)) w := by
  have h1 : a.eval (.tmp p) = .slice ad l c := hv
  simp [execOp, ho, resolve, invoke, builtin, h1, Builtin.len_, run_underlying ht, goInt]
theorem run_iadrR {a : Act} {t e : TypeId} {p q : Nat} {o : Oper} (ht : P.underlying t = some (.slice e)) (hsz : sizeT P e = some 1) {b l c n : Nat} {k : IntKind} (hv : a.tmps.getD p Go.undef = .slice (some ⟨b, 0, none⟩) l c) (hn : a.tmps.getD q Go.undef = .int k (n : Int)) (hl : n < l) (ho : o.op = .indexAddr t (.tmp p) (.tmp q)) : (execOp a.eval o).run P w = .ok (.value (.pointer (some ⟨b, n, none⟩))) w := by
  have h1 : a.eval (.tmp p) = .slice (some ⟨b, 0, none⟩) l c := hv
  have h2 : a.eval (.tmp q) = .int k (n : Int) := hn
  simp only [execOp, ho, h1, h2]
  refine run_v ?_
  simp [Instr.indexAt, asIntOf, run_underlying ht, run_sizeOf hsz, Addr.add_lit]
  omega
theorem run_slcR {a : Act} {t e : TypeId} {p q : Nat} {o : Oper} (ht : P.underlying t = some (.slice e)) (hsz : sizeT P e = some 1) {ad : Option Addr} {l c n : Nat} {k : IntKind} (hv : a.tmps.getD p Go.undef = .slice ad l c) (hn : a.tmps.getD q Go.undef = .int k (n : Int)) (hl : n ≤ c) (ho : o.op = .slice t (.tmp p) none (some (.tmp q)) none) : (execOp a.eval o).run P w = .ok (.value (.slice (if c = 0 then ad else ad.map (·.add 0)) n c)) w := by
  have h1 : a.eval (.tmp p) = .slice ad l c := hv
  have h2 : a.eval (.tmp q) = .int k (n : Int) := hn
  simp only [execOp, ho, h1]
  refine run_v ?_
  simp [Instr.sliceAt, run_underlying ht, Instr.slice, Instr.sliceBounds, run_sizeOf hsz, h2, run_bound hl]
theorem run_ldR {a : Act} {t : TypeId} {p : Nat} {o : Oper} (hs : shapeT P t = some none) {b n : Nat} {cur : Array Value} {e : TypeId} {fz : Nat × Nat} {y : Value} (hv : a.tmps.getD p Go.undef = .pointer (some ⟨b, n, none⟩)) (hc : w.heap[b]? = some (.cells cur e fz)) (hy : cur[n]? = some y) (ho : o.op = .load t (.tmp p)) : (execOp a.eval o).run P w = .ok (.value y) w := by
  have h1 : a.eval (.tmp p) = .pointer (some ⟨b, n, none⟩) := hv
  have hcell : w.cell? ⟨b, n, none⟩ = some y := by rw [cell_of_row w b n cur e fz hc]; simpa using hy
  rcases shape_parts hs with ⟨_, ha, _⟩ | ⟨k, hk, _⟩
  · have h2 : (loadVar t ⟨b, n, none⟩).run P w = .ok y w := by simp [loadVar, ha, hcell]
    simp only [execOp, ho, h1]
    exact run_v (by simp [Instr.loadAt, Instr.sureAddr, h2])
  · cases hk
theorem Loose.get {n k : Nat} {x : Value} {us : List Value} (h : Loose cx g w n 1 x k us) {i : Nat} {y : Value} (hy : us[i]? = some y) : ∃ b cap cur e, x = .slice (some ⟨b, 0, none⟩) k cap ∧ w.heap[b]? = some (.cells cur e (0, 0)) ∧ cur[i]? = some y := by
  cases h with
  | nil => simp at hy
  | «at» b cap cur e k us h1 h2 hk0 h3 h4 h5 h6 h7 h8 h9 =>
    refine ⟨b, cap, cur, e, rfl, h1, ?_⟩
    have := prefix_getElem h2 hy
    simpa using this
theorem Loose.older {n m sz k : Nat} {x : Value} {us : List Value} (h : Loose cx g w n sz x k us) (hm : m ≤ n) : Loose cx g w m sz x k us := by
  cases h with
  | nil => exact .nil
  | «at» b cap cur e k us h1 h2 hk0 h3 h4 h5 h6 h7 h8 h9 => exact .at b cap cur e k us h1 h2 hk0 h3 h4 h5 h6 h7 h8 (Nat.le_trans hm h9)
theorem Loose.pop {n k : Nat} {ad : Option Addr} {c : Nat} {us : List Value} (h : Loose cx g w n 1 (.slice ad k c) k us) {m : Nat} (hm : m ≤ k) : m ≤ c ∧ Loose cx g w n 1 (.slice (if c = 0 then ad else ad.map (·.add 0)) m c) m (us.take m) := by
  cases h with
  | nil =>
    obtain rfl : m = 0 := by omega
    exact ⟨Nat.le_refl _, .nil⟩
  | «at» b cap cur e k us h1 h2 hk0 h3 h4 h5 h6 h7 h8 h9 =>
    have e0 : (if c = 0 then some (⟨b, 0, none⟩ : Addr) else (some (⟨b, 0, none⟩ : Addr)).map (·.add 0)) = some ⟨b, 0, none⟩ := by
      split <;> simp [Addr.add_lit]
    rw [e0]
    refine ⟨by omega, .at b c cur e m _ h1 ((List.take_prefix _ _).trans h2) ?_ (by omega) h4 h5 h6 h7 h8 h9⟩
    rw [List.length_take]; omega
def vO : VCode → List VOper | .reg l => l | _ => []
def strV (s : List UInt8) : Value := .string ⟨s.toArray⟩
theorem StOk.toRaw {N : Nat} {s : St} {a : Act} (ok : StOk cx N g s a w) {i : Nat} (hi : i < N) (hv : getE s.e i = .nils) : StOk cx N g ⟨putE (some i) (.raw (.slice none 0 0)) s.e, s.h, s.b⟩ a w := by
  refine ⟨ok.inv, ⟨ok.env.1, fun k hk => ?_⟩, ok.defers, ok.base⟩
  show Rep g s.h (getE ((i, .raw (.slice none 0 0)) :: s.e) k) _ ∧ (getE ((i, .raw (.slice none 0 0)) :: s.e) k).und s.h.length = true
  by_cases e : i = k
  · subst e
    rw [getE_hit]
    have := (ok.env.2 i hi).1
    rw [hv] at this
    exact ⟨by simpa only [Rep] using this, rfl⟩
  · rw [getE_miss e]; exact ok.env.2 k hk
theorem stand_str {N : Nat} {s : St} {a : Act} (ok : StOk cx N g s a w) {i : Nat} (hi : i < N) {t : List UInt8} (hv : getE s.e i = .d (.sl [.str t])) : Stand w 1 (a.tmps.getD i Go.undef) 1 [strV t] := by
  have r := (ok.env.2 i hi).1
  rw [hv] at r
  obtain ⟨vs, h1, h2⟩ := stand_data ok.inv r (sz := 1) rfl
  simp only [RepEl] at h2
  obtain ⟨v1, v2, rfl, _, h3, rfl⟩ := h2
  simp only [RepCs] at h3
  subst h3
  exact h1
theorem Ext.cut2 {nb n : Nat} {g' : Gh} {H' : Hp} {w' : World} (h : Ext nb g H w g' H' w') (hn : H.length ≤ n) (hn2 : n ≤ H'.length) (hnb : nb ≤ n) : Ext nb g H w (g'.cut n) (H'.take n) w' := by
  have hlen := h.len
  have hget : ∀ i, i < n → (H'.take n)[i]? = H'[i]? := fun i hi => by rw [List.getElem?_take, if_pos hi]
  refine ⟨h.os, h.tape, h.output, h.size, h.frame, ⟨h.keep.C, fun i o hi ho hr => ?_, fun i sz l hi ho => ?_⟩, fun i b c hj hb => h.jnew i b c (cut_some hj).2 hb, fun m hm hc i c hi ho => ?_, by rw [List.length_take]; omega⟩
  · obtain ⟨h1, o', h2, h3⟩ := h.keep.obj i o hi ho hr
    exact ⟨by rw [cut_lt (by omega)]; exact h1, o', by rw [hget i (by omega)]; exact h2, h3⟩
  · obtain ⟨l', h1, h2, h3⟩ := h.keep.row i sz l hi ho
    exact ⟨l', by rw [hget i (by omega)]; exact h1, h2, fun he => by rw [cut_lt (by omega)]; exact h3 he⟩
  · rw [hget i (by omega)] at ho
    exact h.clean m hm hc i c hi ho
theorem StOk.drop {N n : Nat} (ks : List Nat) {s1 : St} {g1 : Gh} {a1 : Act} {w1 : World} (hlen : n ≤ s1.h.length) (hc : Clean n s1.h) (hb0 : s1.b ≤ n) (ok : StOk cx N g1 s1 a1 w1) :
    StOk cx N (g1.cut n) ⟨cut n (keepE ks s1.e), s1.h.take n, s1.b⟩ a1 w1 := by
  refine ⟨ok.inv.restrict hlen hc, ⟨ok.env.1, fun k hk => ?_⟩, ok.defers, ?_⟩
  · rw [getE_cut]
    split
    · rename_i hu
      rw [getE_keepE] at hu ⊢
      by_cases hks : k ∈ ks
      · rw [if_pos hks] at hu ⊢
        refine ⟨Rep_keep (keepW_cut g1 s1.h n) _ _ hu (ok.env.2 k hk).1, ?_⟩
        show V.und (s1.h.take n).length _ = true
        rw [List.length_take, Nat.min_eq_left hlen]
        exact hu
      · rw [if_neg hks]
        exact ⟨by simp [Rep], rfl⟩
    · exact ⟨by simp [Rep], rfl⟩
  · show s1.b ≤ (s1.h.take n).length
    rw [List.length_take, Nat.min_eq_left hlen]
    exact hb0
theorem ops_mid {orc : Orc} (hS : SOrc P cx orc) {N : Nat} {ops : Array Oper} {i m : Nat} {vs : List VOper} (ht : trOpers P ops ((ops.toList.drop i).take m) = some vs) (hok : vs.all (VOper.okN N) = true) (hsz : i + m ≤ ops.size) {s s' : St} (h : evOps cx orc vs s = some s') {a : Act} (ok : StOk cx N g s a w) {Q : Exit → Act → World → Prop} {rest : List Nat}
    (hq : ∀ g' a' w', StOk cx N g' s' a' w' → Ext s.b g s.h w g' s'.h w' → Go.wpOps P ops Q rest a' w') : Go.wpOps P ops Q (List.range' i m ++ rest) a w := by
  have hl : ((ops.toList.drop i).take m).length = m := by simp; omega
  have := ops_pre hS ((ops.toList.drop i).take m) i vs (fun k hk => take_at hk) ht hok h ok (rest := rest) (Q := Q) hq
  rw [hl] at this
  exact this
theorem valR {N : Nat} {s : St} {a : Act} (ok : StOk cx N g s a w) {i : Nat} (hi : i < N) {x : Value} (hv : getE s.e i = .raw x) : a.tmps.getD i Go.undef = x := by
  have := (ok.env.2 i hi).1
  rw [hv] at this
  simpa only [Rep] using this
theorem valI {N : Nat} {s : St} {a : Act} (ok : StOk cx N g s a w) {i : Nat} (hi : i < N) {n : Int} (hv : getE s.e i = .d (.int .i64 n)) : a.tmps.getD i Go.undef = .int .i64 n := by
  have := (ok.env.2 i hi).1
  rw [hv] at this
  simp only [Rep, RepD, RepCs, List.cons.injEq, and_true] at this
  exact this
theorem repOf {N : Nat} {s : St} {a : Act} (ok : StOk cx N g s a w) {i : Nat} (hi : i < N) {v : V} (hv : getE s.e i = v) : Rep g s.h v (a.tmps.getD i Go.undef) := by
  have := (ok.env.2 i hi).1
  rw [hv] at this
  exact this
theorem cond_val {N : Nat} {s : St} {a : Act} (ok : StOk cx N g s a w) {i : Nat} (hi : i < N) {b : Bool} (hv : getE s.e i = .d (.bool b)) : a.eval (.tmp i) = .bool b := by
  have := (ok.env.2 i hi).1
  rw [hv] at this
  simp only [Rep, RepD, RepCs, List.cons.injEq, and_true] at this
  exact this
end
end Go.Vm
