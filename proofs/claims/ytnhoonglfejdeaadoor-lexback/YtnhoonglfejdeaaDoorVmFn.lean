import Derived.Test.YtnhoonglfejdeaaDoorVmCode
namespace Go.Vm
section
variable {P : Program} {cx : Cx} {g : Gh} {w : World} {H : Hp}

/-- What a table says of a program's functions. -/
def TblOk (P : Program) (pg : Pg) : Prop := ∀ f e, pg.tbl f = some e →
  match e with
  | .prim F => ∀ args H r H', F args H = some (r, H') → FnSpec P pg.toCx f args H r H'
  | .code vf => ∃ fn A, P.funcs[f]? = some fn ∧ (fn.name == "runtime.NumGoroutine") = false ∧ trFn P A vf.keep fn = some vf ∧ vf.ok = true

theorem enter_get (args : List V) (i : Nat) : getE (enterE args) i = args.getD i .undef := by
  have key : ∀ (l : List Nat) (f : Nat → V), getE (l.map fun i => (i, f i)) i = if i ∈ l then f i else .undef := by
    intro l f
    induction l with
    | nil => rfl
    | cons k l ih =>
      simp only [List.map_cons, getE, ih, List.mem_cons]
      by_cases hk : k = i
      · subst hk; simp
      · rw [if_neg hk]
        by_cases hl : i ∈ l
        · simp [hl]
        · rw [if_neg hl, if_neg (by rintro (h | h); exact hk h.symm; exact hl h)]
  rw [enterE, key]
  simp only [List.mem_range]
  split
  · rfl
  · rename_i h
    rw [List.getD_eq_getElem?_getD, List.getElem?_eq_none (by omega)]; rfl

theorem RepTs_get : ∀ {l : List V} {vs : List Value} (i : Nat), RepTs g H l vs → i < l.length → Rep g H (l.getD i .undef) (vs.getD i undef)
  | [], vs, i, _, h => by simp at h
  | v :: l, vs, 0, r, _ => by
    simp only [RepTs] at r
    obtain ⟨y, ys, rfl, r1, _⟩ := r
    exact r1
  | v :: l, vs, i + 1, r, h => by
    simp only [RepTs] at r
    obtain ⟨y, ys, rfl, _, r2⟩ := r
    have := RepTs_get i r2 (by simpa using h)
    simpa using this

theorem RepTs_length : ∀ {l : List V} {vs : List Value}, RepTs g H l vs → vs.length = l.length
  | [], vs, r => by simp only [RepTs] at r; subst r; rfl
  | v :: l, vs, r => by
    simp only [RepTs] at r
    obtain ⟨y, ys, rfl, _, r2⟩ := r
    simp [RepTs_length r2]

theorem undL_getD {n : Nat} : ∀ {l : List V} (i : Nat), undL n l = true → (l.getD i .undef).und n = true
  | [], i, _ => by simp [V.und]
  | v :: l, 0, h => by simp only [undL, Bool.and_eq_true] at h; exact h.1
  | v :: l, i + 1, h => by simp only [undL, Bool.and_eq_true] at h; simpa using undL_getD i h.2

/-- A call's frame. -/
theorem enter_ok {N : Nat} {args : List V} {cargs : Array Value} (ra : RepTs g H args cargs.toList) (ua : undL H.length args = true) (hN : args.length ≤ N) : EnvOk g H N (enterE args) (cargs ++ Array.replicate (N - cargs.size) undef) := by
  have hl : cargs.size = args.length := by simpa using RepTs_length ra
  refine ⟨by simp; omega, fun i hi => ?_⟩
  rw [enter_get]
  refine ⟨?_, undL_getD i ua⟩
  by_cases h : i < args.length
  · have := RepTs_get i ra h
    have e : (cargs ++ Array.replicate (N - cargs.size) undef).getD i undef = cargs.toList.getD i undef := by
      simp only [Array.getD_eq_getD_getElem?, List.getD_eq_getElem?_getD, Array.getElem?_append_left (show i < cargs.size by omega), Array.getElem?_toList]
    rw [e]; exact this
  · rw [List.getD_eq_getElem?_getD, List.getElem?_eq_none (by omega)]
    simp [Rep]

def resRun (t : Array Value) : ResultVar → Sem Value
  | .tmp i => pure (t.getD i undef)
  | .cell a ty => do loadVar ty (← asAddr (t.getD a undef))

def resLt (N : Nat) : VRes → Bool
  | .tmp t => decide (t < N)
  | .cell t _ => decide (t < N)

theorem trRes_run {N : Nat} (hI : Inv cx g H w) {e : Env} {t : Array Value} (hE : EnvOk g H N e t) : ∀ {l : List ResultVar} {rs : List VRes} {vs : List V}, trRes P l = some rs → rs.all (resLt N) = true → resVs e H rs = some vs →
    ∃ ys : List Value, (l.mapM (resRun t)).run P w = Result.ok ys w ∧ RepTs g H vs ys ∧ undL H.length vs = true
  | [], rs, vs, h, _, hr => by
    simp only [trRes, Option.some.injEq] at h
    subst h
    simp only [resVs, Option.some.injEq] at hr
    subst hr
    exact ⟨[], by simp [List.mapM_nil], by simp [RepTs], rfl⟩
  | .tmp i :: l, rs, vs, h, hl, hr => by
    simp only [trRes] at h
    obtain ⟨rs', h', rfl⟩ := Option.map_eq_some_iff.1 h
    simp only [List.all_cons, Bool.and_eq_true, resLt, decide_eq_true_eq] at hl
    simp only [resVs, resV] at hr
    split at hr
    · rename_i v vs' hv hvs
      cases hv
      cases hr
      obtain ⟨ys, y1, y2, y3⟩ := trRes_run hI hE h' hl.2 hvs
      obtain ⟨z1, z2⟩ := hE.2 i hl.1
      refine ⟨t.getD i undef :: ys, ?_, by simp only [RepTs]; exact ⟨_, _, rfl, z1, y2⟩, by simp only [undL, z2, y3, Bool.and_self]⟩
      simp only [List.mapM_cons, Sem.run_bind, resRun, Sem.run_pure, Result.andThen_ok]
      rw [y1]
      rfl
    · cases hr
  | .cell a ty :: l, rs, vs, h, hl, hr => by
    simp only [trRes] at h
    split at h
    · rename_i n rs' hn h'
      cases h
      simp only [List.all_cons, Bool.and_eq_true, resLt, decide_eq_true_eq] at hl
      simp only [resVs, resV] at hr
      split at hr
      · rename_i v vs' hv hvs
        cases hr
        obtain ⟨ys, y1, y2, y3⟩ := trRes_run hI hE h' hl.2 hvs
        obtain ⟨z1, z2⟩ := hE.2 a hl.1
        obtain ⟨b, off, z, q1, q2, q3, q4⟩ := loadV_ok (P := P) hI hn hv z1 z2
        refine ⟨z :: ys, ?_, by simp only [RepTs]; exact ⟨_, _, rfl, q3, y2⟩, by simp only [undL, q4, y3, Bool.and_self]⟩
        simp only [List.mapM_cons, Sem.run_bind, resRun, q1, asAddr, Sem.run_pure, Result.andThen_ok, q2]
        rw [y1]
        rfl
      · cases hr
    · cases h

theorem oneOf_rep {vs : List V} {ys : List Value} (r : RepTs g H vs ys) : Rep g H (oneOf vs) (if h : ys.toArray.size = 1 then ys.toArray[0] else .tuple ys.toArray) := by
  match vs, ys, r with
  | [], ys, r =>
    simp only [RepTs] at r
    subst r
    simp only [oneOf, Rep]
    exact ⟨#[], rfl, by simp [RepTs]⟩
  | [v], ys, r =>
    simp only [RepTs] at r
    obtain ⟨y, _, rfl, h1, rfl⟩ := r
    exact h1
  | v :: v' :: vs, ys, r =>
    have r' := r
    simp only [RepTs] at r
    obtain ⟨y, _, rfl, _, y', ys', rfl, _, _⟩ := r
    rw [dif_neg (by simp)]
    simp only [oneOf, Rep]
    exact ⟨_, rfl, r'⟩

theorem oneOf_und {n : Nat} {vs : List V} (h : undL n vs = true) : (oneOf vs).und n = true := by
  match vs, h with
  | [], _ => rfl
  | [v], h => simpa [undL, oneOf] using h
  | v :: v' :: vs, h => simpa only [oneOf, V.und] using h

theorem results_run {fn : Func} {N : Nat} (hI : Inv cx g H w) {e : Env} {t : Array Value} (hE : EnvOk g H N e t) {rs : List VRes} {vs : List V} (h : trRes P fn.results.toList = some rs) (hl : rs.all (resLt N) = true) (hr : resVs e H rs = some vs) :
    ∃ ys : List Value, (results fn t).run P w = Result.ok (if h : ys.toArray.size = 1 then ys.toArray[0] else .tuple ys.toArray) w ∧ RepTs g H vs ys ∧ undL H.length vs = true := by
  obtain ⟨ys, h1, h2, h3⟩ := trRes_run (P := P) hI hE h hl hr
  refine ⟨ys, ?_, h2, h3⟩
  have e1 : results fn t = (fn.results.mapM (resRun t) >>= fun vs => pure (if h : vs.size = 1 then vs[0] else .tuple vs)) := rfl
  rw [e1, Array.mapM_eq_mapM_toList, Sem.run_bind, Sem.run_map, h1]
  rfl

theorem trFn_parts {A : Ann} {keep : Bool} {fn : Func} {vf : VFn} (h : trFn P A keep fn = some vf) : ∃ c, fn.body = some c ∧ tr P A c = some vf.body ∧ trRes P fn.results.toList = some vf.res ∧ vf.nt = fn.ntmps ∧ vf.keep = keep := by
  unfold trFn at h
  split at h
  · cases h
  · rename_i c hc
    split at h
    · rename_i b rs hb hrs
      cases h
      exact ⟨c, hc, hb, hrs, rfl, rfl⟩
    · cases h

theorem ok_parts {vf : VFn} (h : vf.ok = true) : vf.body.okN vf.nt = true ∧ vf.res.all (resLt vf.nt) = true ∧ vf.np ≤ vf.nt := by
  unfold VFn.ok at h
  simp only [Bool.and_eq_true, decide_eq_true_eq] at h
  refine ⟨h.1.1, ?_, h.2⟩
  have := h.1.2
  simp only [List.all_eq_true] at this ⊢
  intro x hx
  have := this x hx
  cases x <;> exact this

/-- A body, on the heap that it finds. -/
theorem body_sound {orc : Orc} (hS : SOrc P cx orc) (hmx : P.follows .mixedOrders = true) {n : Nat} {lp : Lp} (hL : SLp P cx n lp) {f : Nat} {fn : Func} {A : Ann} {vf : VFn} (hf : P.funcs[f]? = some fn) (ht : trFn P A vf.keep fn = some vf) (hok : vf.ok = true)
    {args : List V} (hl : args.length = vf.np) {H : Hp} {r : V} {H' : Hp} (h : (match evC cx orc lp vf.body ⟨enterE args, H, H.length⟩ with
      | some (.nrm, s) | some (.ret, s) => leave vf H.length s
      | _ => none) = some (r, H')) {g : Gh} {w : World} {cargs : Array Value} (hI : Inv cx g H w) (ra : RepTs g H args cargs.toList) (ua : undL H.length args = true) :
    Calls P f cargs w (fun e w' => ∃ g' x, e = .returned x ∧ Inv cx g' H' w' ∧ Rep g' H' r x ∧ r.und H'.length = true ∧ Ext H.length g H w g' H' w') := by
  obtain ⟨c, hb, htr, hres, hnt, _⟩ := trFn_parts ht
  obtain ⟨k1, k2, k3⟩ := ok_parts hok
  refine calls_of_wp hf hb ?_
  have key : ∀ x s, evC cx orc lp vf.body ⟨enterE args, H, H.length⟩ = some (x, s) → (x = .nrm ∨ x = .ret) → leave vf H.length s = some (r, H') →
      c.wp P (bodyPost P fn fun e w' => ∃ g' x, e = .returned x ∧ Inv cx g' H' w' ∧ Rep g' H' r x ∧ r.und H'.length = true ∧ Ext H.length g H w g' H' w') { tmps := cargs ++ Array.replicate (fn.ntmps - cargs.size) undef, defers := [] } w := by
    intro x s hx hxx hlv
    have ok0 : StOk cx vf.nt g ⟨enterE args, H, H.length⟩ { tmps := cargs ++ Array.replicate (fn.ntmps - cargs.size) undef, defers := [] } w :=
      ⟨hI, by rw [← hnt]; exact enter_ok ra ua (by omega), rfl, Nat.le_refl _⟩
    refine code_sound hS hmx hL c vf.body htr k1 hx ok0 fun g1 a1 w1 ok1 e1 => ?_
    have goal : a1.defers = [] ∧ ∃ v, (results fn a1.tmps).run P w1 = .ok v w1 ∧ ∃ g' x, Ending.returned v = .returned x ∧ Inv cx g' H' w1 ∧ Rep g' H' r x ∧ r.und H'.length = true ∧ Ext H.length g H w g' H' w1 := by
      refine ⟨ok1.defers, ?_⟩
      unfold leave at hlv
      split at hlv
      · cases hlv
      · rename_i vs hvs
        obtain ⟨ys, y1, y2, y3⟩ := results_run (P := P) (fn := fn) ok1.inv ok1.env hres k2 hvs
        refine ⟨_, y1, ?_⟩
        split at hlv
        · cases hlv
          exact ⟨g1, _, rfl, ok1.inv, oneOf_rep y2, oneOf_und y3, e1⟩
        · simp only at hlv
          split at hlv
          · rename_i hu
            cases hlv
            have hlen : H.length ≤ s.h.length := e1.len
            have hc := e1.clean H.length (Nat.le_refl _) hI.und
            have ra' := RepTs_args ok1.inv y2
            have ra2 := RepTs_keep (keepW_cut g1 s.h H.length) _ _ hu ra'
            refine ⟨g1.cut H.length, _, rfl, ok1.inv.restrict hlen hc, oneOf_rep ra2, ?_, e1.cut rfl (Nat.le_refl _)⟩
            rw [List.length_take, Nat.min_eq_left hlen]
            exact oneOf_und hu
          · cases hlv
    rcases hxx with rfl | rfl <;> exact goal
  cases hx : evC cx orc lp vf.body ⟨enterE args, H, H.length⟩ with
  | none => rw [hx] at h; cases h
  | some q =>
    obtain ⟨x, s⟩ := q
    rw [hx] at h
    cases x with
    | nrm => exact key _ _ hx (.inl rfl) h
    | ret => exact key _ _ hx (.inr rfl) h
    | exit i => cases h

theorem cut_zero (g : Gh) : ∀ i p, (g.cut 0).J i ≠ some p := fun i p h => by have := (cut_some h).1; omega

/-- What ran on an empty heap ran on any. -/
theorem lift_ext {g' : Gh} {w' : World} (hI : Inv cx g H w) (hI' : Inv cx g' [] w') (e : Ext 0 (g.cut 0) [] w g' [] w') :
    Inv cx ⟨g.J, g'.C⟩ H w' ∧ Ext H.length g H w ⟨g.J, g'.C⟩ H w' := by
  have hC : ∀ b, g.C b <+: g'.C b := e.keep.C
  have hfr : ∀ b, b < w.heap.size → w'.heap[b]? = w.heap[b]? ∧ g'.C b = g.C b := fun b hb => e.frame b hb fun i c => cut_zero g i _
  have hk : Keep H.length g H ⟨g.J, g'.C⟩ H := ⟨hC, fun i o _ ho hr => ⟨rfl, o, ho, hr⟩, fun i sz l _ ho => ⟨l, ho, List.prefix_refl _, fun _ => rfl⟩⟩
  refine ⟨⟨hI.inj, fun i b c h => ⟨(hI.dom i b c h).1, Nat.lt_of_lt_of_le (hI.dom i b c h).2 e.size⟩, fun i b c o h ho => ?_, hI'.imm, hI.und, hI'.glob, hI.fix.mono fun b hb hn => ⟨(hfr b hb).1, hn⟩⟩, ⟨e.os, e.tape, e.output, e.size, fun b hb _ => hfr b hb, hk, fun i b c h _ => ⟨i, c, h⟩, fun _ _ h => h, Nat.le_refl _⟩⟩
  obtain ⟨f1, f2⟩ := hfr b (hI.dom i b c h).2
  exact (hI.ob i b c o h ho).ext hk.w f1 f2 (by rintro c' rfl; exact hI.und i c' (hI.dom i b c h).1 ho)

theorem step_sound {pg : Pg} (hT : TblOk P pg) (hmx : P.follows .mixedOrders = true) {orc : Orc} (hS : SOrc P pg.toCx orc) {n : Nat} {lp : Lp} (hL : SLp P pg.toCx n lp) : SOrc P pg.toCx (stepF pg orc lp) := by
  intro f args H r H' h
  unfold stepF at h
  split at h
  · cases h
  · rename_i F ht
    exact hT f _ ht args H r H' h
  · rename_i vf ht
    obtain ⟨fn, A, hf, hname, htr, hok⟩ := hT f _ ht
    obtain ⟨c, hb, _⟩ := trFn_parts htr
    split at h
    · rename_i hl
      refine ⟨⟨fn, hf, by rw [hb]; rfl, hname⟩, fun g w cargs hI ra ua => ?_⟩
      cases hbare : (undL 0 args && !vf.keep) with
      | false =>
        rw [hbare] at h
        exact body_sound hS hmx hL hf htr hok hl h hI ra ua
      | true =>
        rw [hbare] at h
        simp only [bare] at h
        obtain ⟨q, hq, he⟩ := Option.map_eq_some_iff.1 h
        cases he
        obtain ⟨r, H1⟩ := q
        simp only [Bool.and_eq_true, Bool.not_eq_true'] at hbare
        have hI0 : Inv pg.toCx (g.cut 0) [] w := by
          have := hI.restrict (n := 0) (Nat.zero_le _) (fun i c hi => by omega)
          simpa using this
        have ra0 : RepTs (g.cut 0) [] args cargs.toList := by
          have := keepW_cut g H 0
          rw [List.take_zero] at this
          exact RepTs_keep this _ _ hbare.1 ra
        have hH1 : H1 = [] ∧ r.und 0 = true := by
          have : ∀ s, leave vf ([] : Hp).length s = some (r, H1) → H1 = [] ∧ r.und 0 = true := by
            intro s hs
            unfold leave at hs
            split at hs
            · cases hs
            · rw [if_neg (by rw [hbare.2]; simp)] at hs
              simp only at hs
              split at hs
              · rename_i hu
                cases hs
                exact ⟨by simp, oneOf_und hu⟩
              · cases hs
          split at hq
          · exact this _ hq
          · exact this _ hq
          · cases hq
        obtain ⟨rfl, hu0⟩ := hH1
        refine (body_sound hS hmx hL hf htr hok hl hq hI0 ra0 hbare.1).mono fun e w' he => ?_
        obtain ⟨g', x, h1, h2, h3, h4, h5⟩ := he
        obtain ⟨q1, q2⟩ := lift_ext hI h2 h5
        refine ⟨⟨g.J, g'.C⟩, x, h1, q1, ?_, V.und_le (Nat.zero_le _) _ hu0, q2⟩
        exact Rep_keep (n := 0) (g := g') (H := []) (g' := ⟨g.J, g'.C⟩) (H' := H) ⟨fun _ => List.prefix_refl _, fun i _ hi => by omega, fun i _ _ hi => by omega⟩ _ _ hu0 h3
    · cases h

/-- The evaluator is sound at every level. -/
theorem at_sound {pg : Pg} (hT : TblOk P pg) (hmx : P.follows .mixedOrders = true) : ∀ n, SOrc P pg.toCx (fnAt pg n) ∧ SLp P pg.toCx n (lpAt pg n)
  | 0 => ⟨fun f args H r H' h => (nomatch ((fnAt_zero pg _ _ _).symm.trans h)), fun ks b s r h => (nomatch ((lpAt_zero pg _ _ _).symm.trans h)), fun A N c v ks _ _ g s a w x s' h => (nomatch ((lpAt_zero pg _ _ _).symm.trans h))⟩
  | n + 1 => by
    obtain ⟨hS, hL⟩ := at_sound hT hmx n
    refine ⟨step_sound hT hmx hS hL, fun ks b s r h => ?_, fun A N c v ks ht hN g s a w x s' h ok Q hq => ?_⟩
    · rw [lpAt_succ] at h
      exact evC_b hL.1 h
    · rw [lpAt_succ] at h
      rw [rounds_succ]
      simp only [evC] at h
      cases hx : evC pg.toCx (fnAt pg n) (lpAt pg n) v ⟨keepE ks s.e, s.h, s.h.length⟩ with
      | none => rw [hx] at h; cases h
      | some q =>
        obtain ⟨y, s1⟩ := q
        rw [hx] at h
        refine code_sound hS hmx hL c v ht hN hx (ok.keep _) fun g1 a1 w1 ok1 e1 => ?_
        have e1' : Ext s.b g s.h w g1 s1.h w1 := e1.le ok.base
        have hlen := e1.len
        have hbase := ok.base
        cases y with
        | nrm =>
          refine hL.2 A N c v ks ht hN (g1.cut s.h.length) _ a1 w1 x s' h (StOk.back ok.inv.und ok.base ok1 e1) Q fun g' a' w' ok' e' => ?_
          exact hq g' a' w' ok' ((e1'.cut rfl ok.base).trans e' (Nat.le_refl _))
        | exit i =>
          cases h
          exact hq g1 a1 w1 ⟨ok1.inv, ok1.env, ok1.defers, by simp only at hlen ⊢; omega⟩ e1'
        | ret =>
          cases h
          exact hq g1 a1 w1 ⟨ok1.inv, ok1.env, ok1.defers, by simp only at hlen ⊢; omega⟩ e1'

/-- What the evaluator says of a call, the program does. -/
theorem ev_sound {pg : Pg} (hT : TblOk P pg) (hmx : P.follows .mixedOrders = true) : SOrc P pg.toCx (evF pg) := fun f args H r H' h => by
  obtain ⟨n, hn⟩ := evF_iff.1 h
  exact (at_sound hT hmx n).1 f args H r H' hn
end
end Go.Vm
