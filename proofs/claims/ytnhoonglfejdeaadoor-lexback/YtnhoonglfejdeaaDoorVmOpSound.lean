import Derived.Test.YtnhoonglfejdeaaDoorVmOps10
namespace Go.Vm
section
variable {P : Program} {cx : Cx} {nb : Nat} {g : Gh} {H : Hp} {w : World} {o : Oper} {a : Act}

theorem slice_bound {N : Nat} {e : Env} (hI : Inv cx g H w) (hE : EnvOk g H N e a.tmps) {lo : Option Operand} {ol : Option Opd} (hlo : optV lo = some ol) (hl : ∀ v, ol = some v → v.lt N = true) {d n : Nat} (h : evOp.bound cx e d ol = some n) :
    (lo = none ∧ n = d) ∨ ∃ y k, lo = some y ∧ a.eval y = .int k (n : Int) := by
  cases lo with
  | none =>
    simp only [optV, Option.some.injEq] at hlo
    subst hlo
    simp only [evOp.bound, Option.some.injEq] at h
    exact .inl ⟨rfl, h.symm⟩
  | some y =>
    simp only [optV] at hlo
    obtain ⟨v, hv, rfl⟩ := Option.map_eq_some_iff.1 hlo
    simp only [evOp.bound] at h
    obtain ⟨k, hk⟩ := idx_int h (opd_ok (a := a) hI hE hv (hl v rfl)).1
    exact .inr ⟨y, k, rfl, hk⟩

set_option maxHeartbeats 1000000 in
theorem op_sound {orc : Orc} (hS : SOrc P cx orc) (hI : Inv cx g H w) {N : Nat} {e : Env} (hE : EnvOk g H N e a.tmps) (hnb : nb ≤ H.length) {vop : VOp} (ht : trOp P o.op = some vop) (hok : vop.opds.all (Opd.lt N) = true) {r : V} {H' : Hp} (h : evOp cx orc nb e H vop = some (r, H')) :
    StepOk P cx nb g H w r H' ((execOp a.eval o).run P w) := by
  unfold trOp at ht
  split at ht
  · -- move
    rename_i x hop
    obtain ⟨vx, hx, rfl⟩ := Option.map_eq_some_iff.1 ht
    simp only [VOp.opds, List.all_cons, List.all_nil, Bool.and_true] at hok
    simp only [evOp, Option.some.injEq, Prod.mk.injEq] at h
    obtain ⟨rfl, rfl⟩ := h
    obtain ⟨r1, r2⟩ := opd_ok (a := a) hI hE hx hok
    exact op_mv hI (.inl hop) r1 r2
  · -- assign
    rename_i x hop
    obtain ⟨vx, hx, rfl⟩ := Option.map_eq_some_iff.1 ht
    simp only [VOp.opds, List.all_cons, List.all_nil, Bool.and_true] at hok
    simp only [evOp, Option.some.injEq, Prod.mk.injEq] at h
    obtain ⟨rfl, rfl⟩ := h
    obtain ⟨r1, r2⟩ := opd_ok (a := a) hI hE hx hok
    exact op_mv hI (.inr hop) r1 r2
  · -- pick
    rename_i c x y hop
    split at ht
    · rename_i vc vx vy hc hx hy
      simp only [Option.some.injEq] at ht
      subst ht
      simp only [VOp.opds, List.all_cons, List.all_nil, Bool.and_true, Bool.and_eq_true] at hok
      simp only [evOp] at h
      split at h
      · rename_i t hvt
        simp only [Option.some.injEq, Prod.mk.injEq] at h
        obtain ⟨rfl, rfl⟩ := h
        obtain ⟨c1, _⟩ := opd_ok (a := a) hI hE hc hok.1
        obtain ⟨x1, x2⟩ := opd_ok (a := a) hI hE hx hok.2.1
        obtain ⟨y1, y2⟩ := opd_ok (a := a) hI hE hy hok.2.2
        exact op_pick hI hop (hvt ▸ c1) x1 y1 x2 y2
      · cases h
    · cases ht
  · -- alloc
    rename_i t hop
    obtain ⟨z, hz, rfl⟩ := Option.map_eq_some_iff.1 ht
    simp only [evOp, Option.some.injEq, Prod.mk.injEq] at h
    obtain ⟨rfl, rfl⟩ := h
    exact op_zbox hI hnb hop hz
  · -- box
    rename_i t x hop
    obtain ⟨vx, hx, rfl⟩ := Option.map_eq_some_iff.1 ht
    simp only [VOp.opds, List.all_cons, List.all_nil, Bool.and_true] at hok
    simp only [evOp] at h
    split at h
    · rename_i hone
      simp only [Option.some.injEq, Prod.mk.injEq] at h
      obtain ⟨rfl, rfl⟩ := h
      obtain ⟨r1, r2⟩ := opd_ok (a := a) hI hE hx hok
      exact op_box hI hnb hop r1 r2 hone
    · cases h
  · -- build
    rename_i t ps hop
    split at ht
    · rename_i fs z hu hz
      split at ht
      · rename_i hall
        obtain ⟨vs, hvs, rfl⟩ := Option.map_eq_some_iff.1 ht
        simp only [VOp.opds, List.all_map] at hok
        simp only [evOp] at h
        split at h
        · rename_i hone
          obtain ⟨c, hc, he⟩ := Option.map_eq_some_iff.1 h
          simp only [Prod.mk.injEq] at he
          obtain ⟨rfl, rfl⟩ := he
          exact op_build hI hE hop hu hz hall hvs hok hone hc
        · cases h
      · cases ht
    · cases ht
  · -- buildSlice
    rename_i t len ps hop
    split at ht
    · rename_i el hu
      split at ht
      · rename_i sz vs hsz hvs
        split at ht
        · rename_i hc
          simp only [Bool.and_eq_true, beq_iff_eq] at hc
          split at ht
          · rename_i hu8
            split at ht
            · rename_i hs1
              subst hs1
              simp only [Option.some.injEq] at ht
              subst ht
              simp only [VOp.opds] at hok
              simp only [evOp] at h
              split at h
              · rename_i ds hds
                split at h
                · rename_i hcond
                  simp only [Option.some.injEq, Prod.mk.injEq] at h
                  obtain ⟨rfl, rfl⟩ := h
                  exact op_abs hI hnb hE hop hu hsz hvs hc.1.1 hc.2 hok hds hcond.1 hcond.2.1 hcond.2.2
                · cases h
              · cases h
            · cases ht
          · simp only [Option.some.injEq] at ht
            subst ht
            simp only [VOp.opds] at hok
            simp only [evOp] at h
            split at h
            · rename_i ds hds
              split at h
              · rename_i hcond
                simp only [Option.some.injEq, Prod.mk.injEq] at h
                obtain ⟨rfl, rfl⟩ := h
                exact op_bslice hI hE hop hu hsz hvs hc.1.1 hc.2 hok hds hcond.1 hcond.2.1 hcond.2.2.1 hcond.2.2.2
              · cases h
            · cases h
        · cases ht
      · cases ht
    · cases ht
  · -- load
    rename_i t x hop
    split at ht
    · rename_i n vx hs hx
      simp only [Option.some.injEq] at ht
      subst ht
      simp only [VOp.opds, List.all_cons, List.all_nil, Bool.and_true] at hok
      simp only [evOp] at h
      obtain ⟨q, hq, he⟩ := Option.map_eq_some_iff.1 h
      simp only [Prod.mk.injEq] at he
      obtain ⟨rfl, rfl⟩ := he
      obtain ⟨r1, r2⟩ := opd_ok (a := a) hI hE hx hok
      exact op_ld hI hop hs hq r1 r2
    · cases ht
  · -- store
    rename_i t x y hop
    split at ht
    · rename_i n vx vy hn hx hy
      simp only [Option.some.injEq] at ht
      subst ht
      simp only [VOp.opds, List.all_cons, List.all_nil, Bool.and_true, Bool.and_eq_true] at hok
      simp only [evOp] at h
      obtain ⟨q, hq, he⟩ := Option.map_eq_some_iff.1 h
      simp only [Prod.mk.injEq] at he
      obtain ⟨rfl, rfl⟩ := he
      obtain ⟨r1, r2⟩ := opd_ok (a := a) hI hE hx hok.1
      obtain ⟨s1, s2⟩ := opd_ok (a := a) hI hE hy hok.2
      exact op_st hI hop hn hq r1 s1 s2
    · cases ht
  · -- nilCheck
    rename_i x hop
    obtain ⟨vx, hx, rfl⟩ := Option.map_eq_some_iff.1 ht
    simp only [VOp.opds, List.all_cons, List.all_nil, Bool.and_true] at hok
    obtain ⟨r1, r2⟩ := opd_ok (a := a) hI hE hx hok
    simp only [evOp] at h
    split at h
    · rename_i id off hv
      simp only [Option.some.injEq, Prod.mk.injEq] at h
      obtain ⟨rfl, rfl⟩ := h
      rw [hv] at r1 r2
      exact op_nilck hI hop (.inl ⟨_, _, rfl⟩) r1 r2
    · rename_i f c hv
      simp only [Option.some.injEq, Prod.mk.injEq] at h
      obtain ⟨rfl, rfl⟩ := h
      rw [hv] at r1 r2
      exact op_nilck hI hop (.inr ⟨_, _, rfl⟩) r1 r2
    · cases h
  · -- binOp
    rename_i op t x y u hop
    split at ht
    · rename_i vx vy hx hy
      have fin : ∀ neg, op = (if neg then .neq else .eql) → ∀ ks, kindsT P t = some ks → vop = .eqa neg ks vx vy → StepOk P cx nb g H w r H' ((execOp a.eval o).run P w) := by
        rintro neg hopn ks hks rfl
        simp only [VOp.opds, List.all_cons, List.all_nil, Bool.and_true, Bool.and_eq_true] at hok
        obtain ⟨r1, r2⟩ := opd_ok (a := a) hI hE hx hok.1
        obtain ⟨s1, s2⟩ := opd_ok (a := a) hI hE hy hok.2
        simp only [evOp] at h
        split at h
        · rename_i A B hA hB
          split at h
          · rename_i hk
            simp only [Option.some.injEq, Prod.mk.injEq] at h
            obtain ⟨rfl, rfl⟩ := h
            subst hopn
            exact op_eqa hI hop hks hk (hA ▸ r1) (hB ▸ s1)
          · cases h
        · cases h
      have finb : ∀ neg, op = (if neg then .neq else .eql) → P.underlying t = some .bool → vop = .eqb neg vx vy → StepOk P cx nb g H w r H' ((execOp a.eval o).run P w) := by
        rintro neg hopn hub rfl
        simp only [VOp.opds, List.all_cons, List.all_nil, Bool.and_true, Bool.and_eq_true] at hok
        obtain ⟨r1, r2⟩ := opd_ok (a := a) hI hE hx hok.1
        obtain ⟨s1, s2⟩ := opd_ok (a := a) hI hE hy hok.2
        simp only [evOp] at h
        split at h
        · rename_i A B hA hB
          simp only [Option.some.injEq, Prod.mk.injEq] at h
          obtain ⟨rfl, rfl⟩ := h
          subst hopn
          exact op_eqb hI hop hub (hA ▸ r1) (hB ▸ s1)
        · cases h
      have finn : vop = .bin op vx vy → StepOk P cx nb g H w r H' ((execOp a.eval o).run P w) := by
        rintro rfl
        simp only [VOp.opds, List.all_cons, List.all_nil, Bool.and_true, Bool.and_eq_true] at hok
        obtain ⟨r1, r2⟩ := opd_ok (a := a) hI hE hx hok.1
        obtain ⟨s1, s2⟩ := opd_ok (a := a) hI hE hy hok.2
        simp only [evOp] at h
        obtain ⟨q, hq, he⟩ := Option.map_eq_some_iff.1 h
        simp only [Prod.mk.injEq] at he
        obtain ⟨rfl, rfl⟩ := he
        exact op_bin hI hop hq r1 s1
      have fini : ∀ {ms} (neg : Bool), op = (if neg then .neq else .eql) → y = .const .nilIface → P.underlying t = some (.interface ms) → vop = .isnil neg vx → StepOk P cx nb g H w r H' ((execOp a.eval o).run P w) := by
        rintro ms neg rfl rfl hui rfl
        simp only [VOp.opds, List.all_cons, List.all_nil, Bool.and_true] at hok
        have r1 := (opd_ok (a := a) hI hE hx hok).1
        simp only [evOp] at h
        split at h
        · rename_i b hA
          simp only [Option.some.injEq, Prod.mk.injEq] at h
          obtain ⟨rfl, rfl⟩ := h
          exact op_isnil hI hop hui (hA ▸ r1)
        · cases h
      split at ht
      · exact finn (Option.some.inj ht).symm
      · exact finn (Option.some.inj ht).symm
      · rename_i hub
        split at ht
        · exact finb false rfl hub (Option.some.inj ht).symm
        · exact finb true rfl hub (Option.some.inj ht).symm
        · cases ht
      · split at ht
        · obtain ⟨ks, hks, he⟩ := Option.map_eq_some_iff.1 ht; exact fin false rfl ks hks he.symm
        · obtain ⟨ks, hks, he⟩ := Option.map_eq_some_iff.1 ht; exact fin true rfl ks hks he.symm
        · cases ht
      · rename_i ms hui
        split at ht
        · exact fini false rfl rfl hui (Option.some.inj ht).symm
        · exact fini true rfl rfl hui (Option.some.inj ht).symm
        · cases ht
      · cases ht
    · cases ht
  · -- unOp
    rename_i op t x hop
    obtain ⟨vx, hx, rfl⟩ := Option.map_eq_some_iff.1 ht
    simp only [VOp.opds, List.all_cons, List.all_nil, Bool.and_true] at hok
    simp only [evOp] at h
    obtain ⟨q, hq, he⟩ := Option.map_eq_some_iff.1 h
    simp only [Prod.mk.injEq] at he
    obtain ⟨rfl, rfl⟩ := he
    exact op_un hI hop hq (opd_ok (a := a) hI hE hx hok).1
  · -- convert
    rename_i s t x hop
    split at ht
    · rename_i k0 k vx hs hd hx
      simp only [Option.some.injEq] at ht
      subst ht
      simp only [VOp.opds, List.all_cons, List.all_nil, Bool.and_true] at hok
      have r1 := (opd_ok (a := a) hI hE hx hok).1
      simp only [evOp] at h
      split at h
      · rename_i k' n hv
        simp only [Option.some.injEq, Prod.mk.injEq] at h
        obtain ⟨rfl, rfl⟩ := h
        exact op_conv hI hop hs hd (hv ▸ r1)
      · cases h
    · rename_i vx hs hd hx
      simp only [Option.some.injEq] at ht
      subst ht
      simp only [VOp.opds, List.all_cons, List.all_nil, Bool.and_true] at hok
      have r1 := (opd_ok (a := a) hI hE hx hok).1
      simp only [evOp] at h
      split at h
      · rename_i l hv
        simp only [Option.some.injEq, Prod.mk.injEq] at h
        obtain ⟨rfl, rfl⟩ := h
        exact op_convs hI hop hs hd (hv ▸ r1)
      · cases h
    · rename_i el vx hs hx
      split at ht
      · rename_i hst
        subst hst
        split at ht
        · rename_i hc
          simp only [Option.some.injEq] at ht
          subst ht
          simp only [VOp.opds, List.all_cons, List.all_nil, Bool.and_true] at hok
          obtain ⟨r1, r2⟩ := opd_ok (a := a) hI hE hx hok
          simp only [evOp] at h
          split at h
          · rename_i id off len hv
            split at h
            · rename_i c hH
              simp only [Option.some.injEq, Prod.mk.injEq] at h
              obtain ⟨rfl, rfl⟩ := h
              exact op_mark hI hop hs hc hH (hv ▸ r1) (hv ▸ r2)
            · cases h
          · cases h
        · cases ht
      · cases ht
    · cases ht
  · -- makeFunc
    rename_i f first caps hop
    split at ht
    · rename_i hf
      obtain ⟨vs, hvs, rfl⟩ := Option.map_eq_some_iff.1 ht
      simp only [VOp.opds] at hok
      simp only [evOp, Option.some.injEq, Prod.mk.injEq] at h
      obtain ⟨rfl, rfl⟩ := h
      obtain ⟨r1, r2⟩ := opds_ok (a := a) hI hE hvs hok
      exact op_mkfn hI hop hf r1 r2
    · cases ht
  · -- makeSlice
    rename_i t l c hop
    split at ht
    · rename_i e' hu
      split at ht
      · rename_i i z hi hz
        split at ht
        · rename_i hlc
          simp only [Option.some.injEq] at ht
          subst ht
          obtain rfl : l = c := by simpa using hlc
          simp only [VOp.opds, List.all_cons, List.all_nil, Bool.and_true] at hok
          have r1 := (opd_ok (a := a) (x := .tmp l) hI hE rfl hok).1
          simp only [evOp] at h
          split at h
          · rename_i k n hv
            split at h
            · rename_i hcond
              obtain ⟨h0, h1, h2, h3⟩ := hcond
              simp only [Option.some.injEq, Prod.mk.injEq] at h
              obtain ⟨rfl, rfl⟩ := h
              obtain ⟨z0, rfl⟩ := List.length_eq_one_iff.1 h2
              exact op_msl hI hnb hop hu hi h3 hz h0 h1 (hv ▸ r1)
            · cases h
          · cases h
        · cases ht
      · cases ht
    · cases ht
  · -- slice
    rename_i t x lo hi hop
    split at ht
    · rename_i vx vlo vhi hx elo ehi
      split at ht
      · rename_i hu
        simp only [Option.some.injEq] at ht
        subst ht
        simp only [VOp.opds, List.all_cons, List.all_append, Bool.and_eq_true] at hok
        have r1 := (opd_ok (a := a) hI hE hx hok.1).1
        simp only [evOp] at h
        split at h
        · rename_i s l hv hl
          split at h
          · rename_i hh' hh
            split at h
            · rename_i hcond
              simp only [Option.some.injEq, Prod.mk.injEq] at h
              obtain ⟨rfl, rfl⟩ := h
              exact op_slcs hI hop hu (hv ▸ r1) (slice_bound hI hE elo (fun v hv => List.all_eq_true.1 hok.2.1 v (by rw [hv]; simp)) hl) (slice_bound hI hE ehi (fun v hv => List.all_eq_true.1 hok.2.2 v (by rw [hv]; simp)) hh) hcond.1 hcond.2
            · cases h
          · cases h
        · cases h
      · rename_i e' hu
        obtain ⟨sz, hsz, rfl⟩ := Option.map_eq_some_iff.1 ht
        simp only [VOp.opds, List.all_cons, List.all_append, Bool.and_eq_true] at hok
        have r1 := (opd_ok (a := a) hI hE hx hok.1).1
        simp only [evOp] at h
        split at h
        · rename_i s l hv hl
          split at h
          · rename_i hh' hh
            split at h
            · rename_i hcond
              simp only [Option.some.injEq, Prod.mk.injEq] at h
              obtain ⟨rfl, rfl⟩ := h
              refine op_slc hI hop hu hsz hv r1 (slice_bound hI hE elo (fun v hv => List.all_eq_true.1 hok.2.1 v (by rw [hv]; simp)) hl) (slice_bound hI hE ehi (fun v hv => List.all_eq_true.1 hok.2.2 v (by rw [hv]; simp)) hh) hcond.1 hcond.2.1 ?_
              rcases Bool.or_eq_true_iff.1 hcond.2.2 with hn | hn
              · left
                have : vlo = none := by simpa using hn
                rw [this] at hl
                simp only [evOp.bound, Option.some.injEq] at hl
                exact hl.symm
              · exact .inr hn
            · cases h
          · cases h
        · cases h
      · cases ht
    · cases ht
  · -- fieldAddr
    rename_i s x k hop
    split at ht
    · rename_i fs vx hs hx
      split at ht
      · rename_i f hf
        split at ht
        · cases ht
        · rename_i hne
          split at ht
          · cases ht
          · rename_i hsome
            simp only [Option.some.injEq] at ht
            subst ht
            simp only [VOp.opds, List.all_cons, List.all_nil, Bool.and_true] at hok
            obtain ⟨r1, r2⟩ := opd_ok (a := a) hI hE hx hok
            obtain ⟨n, hn⟩ : ∃ n, sizeT P f.type = some n := by
              cases hq : sizeT P f.type with
              | none => rw [hq] at hsome; simp at hsome
              | some n => exact ⟨n, rfl⟩
            have hn0 : n ≠ 0 := by rintro rfl; exact hne hn
            simp only [evOp] at h
            split at h
            · rename_i id off hv
              simp only [Option.some.injEq, Prod.mk.injEq] at h
              obtain ⟨rfl, rfl⟩ := h
              rw [hv] at r1 r2
              exact op_fadr hI hop hs hf hn hn0 (.inl ⟨_, _, rfl, rfl⟩) r1 r2
            · rename_i l off hv
              simp only [Option.some.injEq, Prod.mk.injEq] at h
              obtain ⟨rfl, rfl⟩ := h
              rw [hv] at r1 r2
              exact op_fadr hI hop hs hf hn hn0 (.inr ⟨_, _, rfl, rfl⟩) r1 r2
            · cases h
      · cases ht
    · cases ht
  · -- field
    rename_i t x k hop
    split at ht
    · rename_i fs vx hs hx
      split at ht
      · rename_i f hf
        obtain ⟨n, hn, rfl⟩ := Option.map_eq_some_iff.1 ht
        simp only [VOp.opds, List.all_cons, List.all_nil, Bool.and_true] at hok
        obtain ⟨r1, r2⟩ := opd_ok (a := a) hI hE hx hok
        simp only [evOp] at h
        split at h
        · rename_i c hv
          obtain ⟨q, hq, he⟩ := Option.map_eq_some_iff.1 h
          simp only [Prod.mk.injEq] at he
          obtain ⟨rfl, rfl⟩ := he
          rw [hv] at r1 r2
          exact op_fld hI hop hs hf hn (.inr ⟨c, rfl, rfl⟩) hq r1 r2
        · rename_i c hv
          obtain ⟨q, hq, he⟩ := Option.map_eq_some_iff.1 h
          simp only [Prod.mk.injEq] at he
          obtain ⟨rfl, rfl⟩ := he
          rw [hv] at r1 r2
          exact op_fld hI hop hs hf hn (.inl rfl) hq r1 r2
        · cases h
      · cases ht
    · cases ht
  · -- indexAddr
    rename_i t x i hop
    split at ht
    · rename_i e' vx vi hu hx hi
      obtain ⟨sz, hsz, rfl⟩ := Option.map_eq_some_iff.1 ht
      simp only [VOp.opds, List.all_cons, List.all_nil, Bool.and_true, Bool.and_eq_true] at hok
      obtain ⟨r1, r2⟩ := opd_ok (a := a) hI hE hx hok.1
      obtain ⟨s1, s2⟩ := opd_ok (a := a) hI hE hi hok.2
      simp only [evOp] at h
      split at h
      · cases h
      · rename_i n hn
        split at h
        · rename_i id off len hv
          split at h
          · rename_i hlt
            simp only [Option.some.injEq, Prod.mk.injEq] at h
            obtain ⟨rfl, rfl⟩ := h
            rw [hv] at r1 r2
            exact op_iadr_arr hI hop hu hsz hn s1 hlt r1 r2
          · cases h
        · split at h
          · rename_i l hl
            split at h
            · rename_i y hy
              split at h
              · rename_i hc
                simp only [Option.some.injEq, Prod.mk.injEq] at h
                obtain ⟨rfl, rfl⟩ := h
                exact op_iadr_sl hI hop hu hsz hn s1 hl hy hc r1
              · cases h
            · cases h
          · cases h
    · rename_i len e' vx vi hu hx hi
      obtain ⟨sz, hsz, rfl⟩ := Option.map_eq_some_iff.1 ht
      simp only [VOp.opds, List.all_cons, List.all_nil, Bool.and_true, Bool.and_eq_true] at hok
      obtain ⟨r1, r2⟩ := opd_ok (a := a) hI hE hx hok.1
      obtain ⟨s1, s2⟩ := opd_ok (a := a) hI hE hi hok.2
      simp only [evOp] at h
      split at h
      · cases h
      · rename_i n hn
        split at h
        · rename_i hlt
          split at h
          · rename_i id off hv
            simp only [Option.some.injEq, Prod.mk.injEq] at h
            obtain ⟨rfl, rfl⟩ := h
            rw [hv] at r1 r2
            exact op_iadra hI hop hu hsz hn s1 hlt (.inl ⟨_, _, rfl, rfl⟩) r1 r2
          · rename_i l off hv
            simp only [Option.some.injEq, Prod.mk.injEq] at h
            obtain ⟨rfl, rfl⟩ := h
            rw [hv] at r1 r2
            exact op_iadra hI hop hu hsz hn s1 hlt (.inr ⟨_, _, rfl, rfl⟩) r1 r2
          · cases h
        · cases h
    · cases ht
  · -- index
    rename_i t x i hop
    split at ht
    · rename_i vx vi hu hx hi
      simp only [Option.some.injEq] at ht
      subst ht
      simp only [VOp.opds, List.all_cons, List.all_nil, Bool.and_true, Bool.and_eq_true] at hok
      obtain ⟨r1, r2⟩ := opd_ok (a := a) hI hE hx hok.1
      obtain ⟨s1, s2⟩ := opd_ok (a := a) hI hE hi hok.2
      simp only [evOp] at h
      split at h
      · rename_i n s hn hv
        obtain ⟨q, hq, he⟩ := Option.map_eq_some_iff.1 h
        simp only [Prod.mk.injEq] at he
        obtain ⟨rfl, rfl⟩ := he
        exact op_idx hI hop hu hn s1 hq (hv ▸ r1)
      · cases h
    · cases ht
  · -- extract
    rename_i x i hop
    obtain ⟨vx, hx, rfl⟩ := Option.map_eq_some_iff.1 ht
    simp only [VOp.opds, List.all_cons, List.all_nil, Bool.and_true] at hok
    obtain ⟨r1, r2⟩ := opd_ok (a := a) hI hE hx hok
    simp only [evOp] at h
    split at h
    · rename_i l hv
      obtain ⟨q, hq, he⟩ := Option.map_eq_some_iff.1 h
      simp only [Prod.mk.injEq] at he
      obtain ⟨rfl, rfl⟩ := he
      rw [hv] at r1 r2
      exact op_ext hI hop hq r1 r2
    · cases h
  · -- makeMap
    rename_i t hop
    simp only [Option.some.injEq] at ht
    subst ht
    simp only [evOp, Option.some.injEq, Prod.mk.injEq] at h
    obtain ⟨rfl, rfl⟩ := h
    exact op_mkm hI hnb hop
  · -- mapUpdate
    rename_i t m k x hop
    split at ht
    · rename_i kt et vm vk vx hu hm hk hx
      obtain ⟨kk, hkk, rfl⟩ := Option.map_eq_some_iff.1 ht
      simp only [VOp.opds, List.all_cons, List.all_nil, Bool.and_true, Bool.and_eq_true] at hok
      obtain ⟨m1, _⟩ := opd_ok (a := a) hI hE hm hok.1
      obtain ⟨k1, _⟩ := opd_ok (a := a) hI hE hk hok.2.1
      obtain ⟨x1, _⟩ := opd_ok (a := a) hI hE hx hok.2.2
      simp only [evOp] at h
      split at h
      · rename_i id kd xd em ek ex
        split at h
        · rename_i l hl
          split at h
          · rename_i hc
            simp only [Bool.and_eq_true] at hc
            simp only [Option.some.injEq, Prod.mk.injEq] at h
            obtain ⟨rfl, rfl⟩ := h
            exact op_mput hI (.inl hop) hu hkk hl hc.1 hc.2 (em ▸ m1) (ek ▸ k1) (toD_rep hI ex x1)
          · cases h
        · cases h
      · cases h
    · cases ht
  · -- insert
    rename_i t m k x hop
    split at ht
    · rename_i kt et vm vk vx hu hm hk hx
      obtain ⟨kk, hkk, rfl⟩ := Option.map_eq_some_iff.1 ht
      simp only [VOp.opds, List.all_cons, List.all_nil, Bool.and_true, Bool.and_eq_true] at hok
      obtain ⟨m1, _⟩ := opd_ok (a := a) hI hE hm hok.1
      obtain ⟨k1, _⟩ := opd_ok (a := a) hI hE hk hok.2.1
      obtain ⟨x1, _⟩ := opd_ok (a := a) hI hE hx hok.2.2
      simp only [evOp] at h
      split at h
      · rename_i id kd xd em ek ex
        split at h
        · rename_i l hl
          split at h
          · rename_i hc
            simp only [Bool.and_eq_true] at hc
            simp only [Option.some.injEq, Prod.mk.injEq] at h
            obtain ⟨rfl, rfl⟩ := h
            exact op_mput hI (.inr hop) hu hkk hl hc.1 hc.2 (em ▸ m1) (ek ▸ k1) (toD_rep hI ex x1)
          · cases h
        · cases h
      · cases h
    · cases ht
  · -- lookup
    rename_i t m k ok hop
    split at ht
    · rename_i kt et vm vk hu hm hk
      split at ht
      · rename_i kk z hkk hz
        simp only [Option.some.injEq] at ht
        subst ht
        simp only [VOp.opds, List.all_cons, List.all_nil, Bool.and_true, Bool.and_eq_true] at hok
        obtain ⟨m1, _⟩ := opd_ok (a := a) hI hE hm hok.1
        obtain ⟨k1, _⟩ := opd_ok (a := a) hI hE hk hok.2
        simp only [evOp] at h
        split at h
        · rename_i id kd em ek
          split at h
          · rename_i l hl
            split at h
            · rename_i hc
              simp only [Bool.and_eq_true] at hc
              simp only [Option.some.injEq, Prod.mk.injEq] at h
              obtain ⟨rfl, rfl⟩ := h
              exact op_mget hI hop hu hkk hz hl hc.1 hc.2 (em ▸ m1) (ek ▸ k1)
            · cases h
          · cases h
        · cases h
      · cases ht
    · cases ht
  · -- mapEntry
    rename_i t m k hop
    split at ht
    · rename_i kt et vm vk hu hm hk
      split at ht
      · rename_i kk z hkk hz
        simp only [Option.some.injEq] at ht
        subst ht
        simp only [VOp.opds, List.all_cons, List.all_nil, Bool.and_true, Bool.and_eq_true] at hok
        obtain ⟨m1, _⟩ := opd_ok (a := a) hI hE hm hok.1
        obtain ⟨k1, _⟩ := opd_ok (a := a) hI hE hk hok.2
        simp only [evOp] at h
        split at h
        · rename_i id kd em ek
          split at h
          · rename_i l hl
            split at h
            · rename_i hc
              simp only [Bool.and_eq_true] at hc
              exact op_ment hI hop hu hkk hz hl hc.1 hc.2 (em ▸ m1) (ek ▸ k1) h
            · cases h
          · cases h
        · cases h
      · cases ht
    · cases ht
  · -- entryStore
    rename_i t m s x hop
    split at ht
    · rename_i vm vs vx hm hs hx
      simp only [Option.some.injEq] at ht
      subst ht
      simp only [VOp.opds, List.all_cons, List.all_nil, Bool.and_true, Bool.and_eq_true] at hok
      obtain ⟨m1, _⟩ := opd_ok (a := a) hI hE hm hok.1
      obtain ⟨s1, _⟩ := opd_ok (a := a) hI hE hs hok.2.1
      obtain ⟨x1, _⟩ := opd_ok (a := a) hI hE hx hok.2.2
      simp only [evOp] at h
      split at h
      · rename_i id ik n xd em es ex
        split at h
        · rename_i l hl
          split at h
          · rename_i hc
            simp only [Option.some.injEq, Prod.mk.injEq] at h
            obtain ⟨rfl, rfl⟩ := h
            exact op_mest hI hop hl hc (em ▸ m1) (es ▸ s1) (toD_rep hI ex x1)
          · cases h
        · cases h
      · cases h
    · cases ht
  · -- call
    rename_i c hop
    obtain ⟨callee, ar, at'⟩ := c
    simp only at ht
    split at ht
    · rename_i f
      obtain ⟨vs, hvs, rfl⟩ := Option.map_eq_some_iff.1 ht
      simp only [VOp.opds] at hok
      simp only [evOp] at h
      obtain ⟨r1, r2⟩ := opds_ok (a := a) hI hE hvs hok
      have r1' := RepTs_args hI r1
      have r2' := undL_args (H := H) r2
      simp only [List.map_map, Function.comp_def] at r1' r2'
      exact op_call hS hI hnb hop h r1' r2'
    · rename_i t
      obtain ⟨vs, hvs, rfl⟩ := Option.map_eq_some_iff.1 ht
      simp only [VOp.opds, List.all_cons, Bool.and_eq_true] at hok
      obtain ⟨f1, f2⟩ := opd_ok (a := a) (x := .tmp t) hI hE rfl hok.1
      obtain ⟨r1, r2⟩ := opds_ok (a := a) hI hE hvs hok.2
      have r1' := RepTs_args hI r1
      have r2' := undL_args (H := H) r2
      simp only [List.map_map, Function.comp_def] at r1' r2'
      simp only [evOp] at h
      split at h
      · rename_i f c hv
        rw [hv] at f1 f2
        exact op_callv hS hI hnb hop f1 f2 h r1' r2'
      · cases h
    · split at ht
      · rename_i x t har hat
        split at ht
        · rename_i hu
          obtain ⟨vx, hx, rfl⟩ := Option.map_eq_some_iff.1 ht
          simp only [VOp.opds, List.all_cons, List.all_nil, Bool.and_true] at hok
          obtain ⟨r1, r2⟩ := opd_ok (a := a) hI hE hx hok
          simp only [evOp] at h
          split at h
          · rename_i s hb hv
            simp only [Option.some.injEq, Prod.mk.injEq] at h
            obtain ⟨rfl, rfl⟩ := h
            exact op_len_str hI hop har hat hu (hv ▸ r1)
          · rename_i hb; cases hb
          · cases h
        · rename_i e' hu
          obtain ⟨vx, hx, rfl⟩ := Option.map_eq_some_iff.1 ht
          simp only [VOp.opds, List.all_cons, List.all_nil, Bool.and_true] at hok
          obtain ⟨r1, r2⟩ := opd_ok (a := a) hI hE hx hok
          simp only [evOp] at h
          obtain ⟨q, hq, he⟩ := Option.map_eq_some_iff.1 h
          simp only [Prod.mk.injEq] at he
          obtain ⟨rfl, rfl⟩ := he
          exact op_len_sl hI hop har hat hu hq r1
        · cases ht
      · cases ht
    · split at ht
      · rename_i x y t u har hat
        split at ht
        · rename_i e' e2 vx vy hu hu2 hx hy
          split at ht
          · rename_i i hi
            split at ht
            · rename_i hc
              simp only [Option.some.injEq] at ht
              subst ht
              obtain ⟨hz, rfl⟩ := hc
              simp only [VOp.opds, List.all_cons, List.all_nil, Bool.and_true, Bool.and_eq_true] at hok
              obtain ⟨r1, r2⟩ := opd_ok (a := a) hI hE hx hok.1
              obtain ⟨s1, s2⟩ := opd_ok (a := a) hI hE hy hok.2
              simp only [evOp] at h
              split at h
              · cases h
              · rename_i ys hys
                split at h
                · rename_i hcond
                  refine op_app hI hnb hop har hat hu hi hz hys hcond.1 hcond.2 r1 s1 r2 ?_
                  split at h
                  · rename_i hv
                    left
                    refine ⟨hv, ?_⟩
                    split at h
                    · rename_i hy0
                      simp only [Option.some.injEq, Prod.mk.injEq] at h
                      exact .inl ⟨hy0, h.1.symm, h.2.symm⟩
                    · rename_i hy0
                      split at h
                      · rename_i hroom
                        simp only [Option.some.injEq, Prod.mk.injEq] at h
                        exact .inr ⟨hy0, hroom, h.1.symm, h.2.symm⟩
                      · cases h
                  · rename_i id len hv
                    right
                    split at h
                    · rename_i sz' l hl
                      split at h
                      · rename_i hc2
                        obtain ⟨rfl, h2, h3⟩ := hc2
                        simp only [Option.some.injEq, Prod.mk.injEq] at h
                        exact ⟨id, len, l, hv, hl, h2, h3, h.1.symm, h.2.symm⟩
                      · cases h
                    · cases h
                  · cases h
                · cases h
            · cases ht
          · cases ht
        · cases ht
      · cases ht
    · split at ht
      · rename_i x y har
        split at ht
        · rename_i vx vy hx hy
          simp only [Option.some.injEq] at ht
          subst ht
          simp only [VOp.opds, List.all_cons, List.all_nil, Bool.and_true, Bool.and_eq_true] at hok
          obtain ⟨r1, r2⟩ := opd_ok (a := a) hI hE hx hok.1
          obtain ⟨s1, s2⟩ := opd_ok (a := a) hI hE hy hok.2
          simp only [evOp] at h
          split at h
          · rename_i k p k' q hp hq
            split at h
            · rename_i hk
              subst hk
              simp only [Option.some.injEq, Prod.mk.injEq] at h
              obtain ⟨rfl, rfl⟩ := h
              exact op_mm (mx := true) hI hop har (hp ▸ r1) (hq ▸ s1)
            · cases h
          · cases h
        · cases ht
      · cases ht
    · split at ht
      · rename_i x y har
        split at ht
        · rename_i vx vy hx hy
          simp only [Option.some.injEq] at ht
          subst ht
          simp only [VOp.opds, List.all_cons, List.all_nil, Bool.and_true, Bool.and_eq_true] at hok
          obtain ⟨r1, r2⟩ := opd_ok (a := a) hI hE hx hok.1
          obtain ⟨s1, s2⟩ := opd_ok (a := a) hI hE hy hok.2
          simp only [evOp] at h
          split at h
          · rename_i k p k' q hp hq
            split at h
            · rename_i hk
              subst hk
              simp only [Option.some.injEq, Prod.mk.injEq] at h
              obtain ⟨rfl, rfl⟩ := h
              exact op_mm (mx := false) hI hop har (hp ▸ r1) (hq ▸ s1)
            · cases h
          · cases h
        · cases ht
      · cases ht
    · cases ht
  · cases ht
end
end Go.Vm
