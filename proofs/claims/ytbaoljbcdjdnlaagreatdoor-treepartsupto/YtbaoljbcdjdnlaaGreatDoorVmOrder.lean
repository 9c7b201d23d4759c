import Derived.Test.YtbaoljbcdjdnlaaGreatDoorVmOps10
set_option linter.unusedSimpArgs false
set_option linter.unusedVariables false
namespace Go.Vm
section
variable {P : Program} {cx : Cx} {nb : Nat} {g : Gh} {H : Hp} {w : World} {o : Oper} {a : Act}

theorem slice_bound {N : Nat} {e : Env} (hI : Inv cx g H w) (hE : EnvOk g H N e a.tmps) {lo : Option Operand} {ol : Option Opd} (hlo : optV lo = some ol) (hl : ∀ v, ol = some v → v.lt N = true) {d n : Nat} (h : evOp.bound cx e d ol = some n) :
    (lo = none ∧ n = d) ∨ ∃ y k, lo = some y ∧ a.eval y = .int k (n : Int) := by
  cases lo with
  | none =>
    simp only [optV, Option.some.injEq] at hlo
    subst hlo
    simp only [evOp.bound, Option.some.injEq] at h
    exact .inl ⟨rfl, h.symm⟩
  | some y =>
    simp only [optV] at hlo
    obtain ⟨v, hv, rfl⟩ := Option.map_eq_some_iff.1 hlo
    simp only [evOp.bound] at h
    obtain ⟨k, hk⟩ := idx_int h (opd_ok (a := a) hI hE hv (hl v rfl)).1
    exact .inr ⟨y, k, rfl, hk⟩

set_option maxHeartbeats 1000000 in
theorem op_sound0 {orc : Orc} (hS : SOrc P cx orc) (hI : Inv cx g H w) {N : Nat} {e : Env} (hE : EnvOk g H N e a.tmps) (hnb : nb ≤ H.length) {vop : VOp} (ht : trOp0 P o.op = some vop) (hok : vop.opds.all (Opd.lt N) = true) {r : V} {H' : Hp} (h : evOp cx orc nb e H vop = some (r, H')) :
    StepOk P cx nb g H w r H' ((execOp a.eval o).run P w) := by
  unfold trOp0 at ht
  split at ht
  · -- move
    rename_i x hop
    obtain ⟨vx, hx, rfl⟩ := Option.map_eq_some_iff.1 ht
    simp only [VOp.opds, List.all_cons, List.all_nil, Bool.and_true] at hok
    simp only [evOp, Option.some.injEq, Prod.mk.injEq] at h
    obtain ⟨rfl, rfl⟩ := h
    obtain ⟨r1, r2⟩ := opd_ok (a := a) hI hE hx hok
    exact op_mv hI (.inl hop) r1 r2
  · -- assign
    rename_i x hop
    obtain ⟨vx, hx, rfl⟩ := Option.map_eq_some_iff.1 ht
    simp only [VOp.opds, List.all_cons, List.all_nil, Bool.and_true] at hok
    simp only [evOp, Option.some.injEq, Prod.mk.injEq] at h
    obtain ⟨rfl, rfl⟩ := h
    obtain ⟨r1, r2⟩ := opd_ok (a := a) hI hE hx hok
    exact op_mv hI (.inr hop) r1 r2
  · -- pick
    rename_i c x y hop
    split at ht
    · rename_i vc vx vy hc hx hy
      simp only [Option.some.injEq] at ht
      subst ht
      simp only [VOp.opds, List.all_cons, List.all_nil, Bool.and_true, Bool.and_eq_true] at hok
      simp only [evOp] at h
      split at h
      · rename_i t hvt
        simp only [Option.some.injEq, Prod.mk.injEq] at h
        obtain ⟨rfl, rfl⟩ := h
        obtain ⟨c1, _⟩ := opd_ok (a := a) hI hE hc hok.1
        obtain ⟨x1, x2⟩ := opd_ok (a := a) hI hE hx hok.2.1
        obtain ⟨y1, y2⟩ := opd_ok (a := a) hI hE hy hok.2.2
        exact op_pick hI hop (hvt ▸ c1) x1 y1 x2 y2
      · cases h
    · cases ht
  · -- alloc
    rename_i t hop
    obtain ⟨z, hz, rfl⟩ := Option.map_eq_some_iff.1 ht
    simp only [evOp, Option.some.injEq, Prod.mk.injEq] at h
    obtain ⟨rfl, rfl⟩ := h
    exact op_zbox hI hnb hop hz
  · -- box
    rename_i t x hop
    obtain ⟨vx, hx, rfl⟩ := Option.map_eq_some_iff.1 ht
    simp only [VOp.opds, List.all_cons, List.all_nil, Bool.and_true] at hok
    simp only [evOp] at h
    split at h
    · rename_i hone
      simp only [Option.some.injEq, Prod.mk.injEq] at h
      obtain ⟨rfl, rfl⟩ := h
      obtain ⟨r1, r2⟩ := opd_ok (a := a) hI hE hx hok
      exact op_box hI hnb hop r1 r2 hone
    · cases h
  · -- build
    rename_i t ps hop
    split at ht
    · rename_i fs z hu hz
      split at ht
      · rename_i hall
        obtain ⟨vs, hvs, rfl⟩ := Option.map_eq_some_iff.1 ht
        simp only [VOp.opds, List.all_map] at hok
        simp only [evOp] at h
        split at h
        · rename_i hone
          obtain ⟨c, hc, he⟩ := Option.map_eq_some_iff.1 h
          simp only [Prod.mk.injEq] at he
          obtain ⟨rfl, rfl⟩ := he
          exact op_build hI hE hop hu hz hall hvs hok hone hc
        · cases h
      · cases ht
    · cases ht
  · -- buildSlice
    rename_i t len ps hop
    split at ht
    · rename_i el hu
      split at ht
      · rename_i sz vs hsz hvs
        split at ht
        · rename_i hc
          simp only [Bool.and_eq_true, beq_iff_eq] at hc
          split at ht
          · rename_i hu8
            split at ht
            · rename_i hs1
              subst hs1
              simp only [Option.some.injEq] at ht
              subst ht
              simp only [VOp.opds] at hok
              simp only [evOp] at h
              split at h
              · rename_i ds hds
                split at h
                · rename_i hcond
                  simp only [Option.some.injEq, Prod.mk.injEq] at h
                  obtain ⟨rfl, rfl⟩ := h
                  exact op_abs hI hnb hE hop hu hsz hvs hc.1.1 hc.2 hok hds hcond.1 hcond.2.1 hcond.2.2
                · cases h
              · cases h
            · cases ht
          · simp only [Option.some.injEq] at ht
            subst ht
            simp only [VOp.opds] at hok
            simp only [evOp] at h
            split at h
            · rename_i ds hds
              split at h
              · rename_i hcond
                simp only [Option.some.injEq, Prod.mk.injEq] at h
                obtain ⟨rfl, rfl⟩ := h
                exact op_bslice hI hE hop hu hsz hvs hc.1.1 hc.2 hok hds hcond.1 hcond.2.1 hcond.2.2.1 hcond.2.2.2
              · cases h
            · cases h
        · cases ht
      · cases ht
    · cases ht
  · -- load
    rename_i t x hop
    split at ht
    · rename_i n vx hs hx
      simp only [Option.some.injEq] at ht
      subst ht
      simp only [VOp.opds, List.all_cons, List.all_nil, Bool.and_true] at hok
      simp only [evOp] at h
      obtain ⟨q, hq, he⟩ := Option.map_eq_some_iff.1 h
      simp only [Prod.mk.injEq] at he
      obtain ⟨rfl, rfl⟩ := he
      obtain ⟨r1, r2⟩ := opd_ok (a := a) hI hE hx hok
      exact op_ld hI hop hs hq r1 r2
    · cases ht
  · -- store
    rename_i t x y hop
    split at ht
    · rename_i n vx vy hn hx hy
      simp only [Option.some.injEq] at ht
      subst ht
      simp only [VOp.opds, List.all_cons, List.all_nil, Bool.and_true, Bool.and_eq_true] at hok
      simp only [evOp] at h
      obtain ⟨q, hq, he⟩ := Option.map_eq_some_iff.1 h
      simp only [Prod.mk.injEq] at he
      obtain ⟨rfl, rfl⟩ := he
      obtain ⟨r1, r2⟩ := opd_ok (a := a) hI hE hx hok.1
      obtain ⟨s1, s2⟩ := opd_ok (a := a) hI hE hy hok.2
      exact op_st hI hop hn hq r1 s1 s2
    · cases ht
  · -- nilCheck
    rename_i x hop
    obtain ⟨vx, hx, rfl⟩ := Option.map_eq_some_iff.1 ht
    simp only [VOp.opds, List.all_cons, List.all_nil, Bool.and_true] at hok
    obtain ⟨r1, r2⟩ := opd_ok (a := a) hI hE hx hok
    simp only [evOp] at h
    split at h
    · rename_i id off hv
      simp only [Option.some.injEq, Prod.mk.injEq] at h
      obtain ⟨rfl, rfl⟩ := h
      rw [hv] at r1 r2
      exact op_nilck hI hop (.inl ⟨_, _, rfl⟩) r1 r2
    · rename_i f c hv
      simp only [Option.some.injEq, Prod.mk.injEq] at h
      obtain ⟨rfl, rfl⟩ := h
      rw [hv] at r1 r2
      exact op_nilck hI hop (.inr ⟨_, _, rfl⟩) r1 r2
    · cases h
  · -- binOp
    rename_i op t x y u hop
    split at ht
    · rename_i vx vy hx hy
      have fin : ∀ neg, op = (if neg then .neq else .eql) → ∀ ks, kindsT P t = some ks → vop = .eqa neg ks vx vy → StepOk P cx nb g H w r H' ((execOp a.eval o).run P w) := by
        rintro neg hopn ks hks rfl
        simp only [VOp.opds, List.all_cons, List.all_nil, Bool.and_true, Bool.and_eq_true] at hok
        obtain ⟨r1, r2⟩ := opd_ok (a := a) hI hE hx hok.1
        obtain ⟨s1, s2⟩ := opd_ok (a := a) hI hE hy hok.2
        simp only [evOp] at h
        split at h
        · rename_i A B hA hB
          split at h
          · rename_i hk
            simp only [Option.some.injEq, Prod.mk.injEq] at h
            obtain ⟨rfl, rfl⟩ := h
            subst hopn
            exact op_eqa hI hop hks hk (hA ▸ r1) (hB ▸ s1)
          · cases h
        · cases h
      have finb : ∀ neg, op = (if neg then .neq else .eql) → P.underlying t = some .bool → vop = .eqb neg vx vy → StepOk P cx nb g H w r H' ((execOp a.eval o).run P w) := by
        rintro neg hopn hub rfl
        simp only [VOp.opds, List.all_cons, List.all_nil, Bool.and_true, Bool.and_eq_true] at hok
        obtain ⟨r1, r2⟩ := opd_ok (a := a) hI hE hx hok.1
        obtain ⟨s1, s2⟩ := opd_ok (a := a) hI hE hy hok.2
        simp only [evOp] at h
        split at h
        · rename_i A B hA hB
          simp only [Option.some.injEq, Prod.mk.injEq] at h
          obtain ⟨rfl, rfl⟩ := h
          subst hopn
          exact op_eqb hI hop hub (hA ▸ r1) (hB ▸ s1)
        · cases h
      have finn : vop = .bin op vx vy → StepOk P cx nb g H w r H' ((execOp a.eval o).run P w) := by
        rintro rfl
        simp only [VOp.opds, List.all_cons, List.all_nil, Bool.and_true, Bool.and_eq_true] at hok
        obtain ⟨r1, r2⟩ := opd_ok (a := a) hI hE hx hok.1
        obtain ⟨s1, s2⟩ := opd_ok (a := a) hI hE hy hok.2
        simp only [evOp] at h
        obtain ⟨q, hq, he⟩ := Option.map_eq_some_iff.1 h
        simp only [Prod.mk.injEq] at he
        obtain ⟨rfl, rfl⟩ := he
        exact op_bin hI hop hq r1 s1
      have fini : ∀ {ms} (neg : Bool), op = (if neg then .neq else .eql) → y = .const .nilIface → P.underlying t = some (.interface ms) → vop = .isnil neg vx → StepOk P cx nb g H w r H' ((execOp a.eval o).run P w) := by
        rintro ms neg rfl rfl hui rfl
        simp only [VOp.opds, List.all_cons, List.all_nil, Bool.and_true] at hok
        have r1 := (opd_ok (a := a) hI hE hx hok).1
        simp only [evOp] at h
        split at h
        · rename_i b hA
          simp only [Option.some.injEq, Prod.mk.injEq] at h
          obtain ⟨rfl, rfl⟩ := h
          exact op_isnil hI hop hui (hA ▸ r1)
        · cases h
      split at ht
      · exact finn (Option.some.inj ht).symm
      · exact finn (Option.some.inj ht).symm
      · rename_i hub
        split at ht
        · exact finb false rfl hub (Option.some.inj ht).symm
        · exact finb true rfl hub (Option.some.inj ht).symm
        · cases ht
      · split at ht
        · obtain ⟨ks, hks, he⟩ := Option.map_eq_some_iff.1 ht; exact fin false rfl ks hks he.symm
        · obtain ⟨ks, hks, he⟩ := Option.map_eq_some_iff.1 ht; exact fin true rfl ks hks he.symm
        · cases ht
      · rename_i ms hui
        split at ht
        · exact fini false rfl rfl hui (Option.some.inj ht).symm
        · exact fini true rfl rfl hui (Option.some.inj ht).symm
        · cases ht
      · cases ht
    · cases ht
  · -- unOp
    rename_i op t x hop
    obtain ⟨vx, hx, rfl⟩ := Option.map_eq_some_iff.1 ht
    simp only [VOp.opds, List.all_cons, List.all_nil, Bool.and_true] at hok
    simp only [evOp] at h
    obtain ⟨q, hq, he⟩ := Option.map_eq_some_iff.1 h
    simp only [Prod.mk.injEq] at he
    obtain ⟨rfl, rfl⟩ := he
    exact op_un hI hop hq (opd_ok (a := a) hI hE hx hok).1
  · -- convert
    rename_i s t x hop
    split at ht
    · rename_i k0 k vx hs hd hx
      simp only [Option.some.injEq] at ht
      subst ht
      simp only [VOp.opds, List.all_cons, List.all_nil, Bool.and_true] at hok
      have r1 := (opd_ok (a := a) hI hE hx hok).1
      simp only [evOp] at h
      split at h
      · rename_i k' n hv
        simp only [Option.some.injEq, Prod.mk.injEq] at h
        obtain ⟨rfl, rfl⟩ := h
        exact op_conv hI hop hs hd (hv ▸ r1)
      · cases h
    · rename_i vx hs hd hx
      simp only [Option.some.injEq] at ht
      subst ht
      simp only [VOp.opds, List.all_cons, List.all_nil, Bool.and_true] at hok
      have r1 := (opd_ok (a := a) hI hE hx hok).1
      simp only [evOp] at h
      split at h
      · rename_i l hv
        simp only [Option.some.injEq, Prod.mk.injEq] at h
        obtain ⟨rfl, rfl⟩ := h
        exact op_convs hI hop hs hd (hv ▸ r1)
      · cases h
    · rename_i el vx hs hx
      split at ht
      · rename_i hst
        subst hst
        split at ht
        · rename_i hc
          simp only [Option.some.injEq] at ht
          subst ht
          simp only [VOp.opds, List.all_cons, List.all_nil, Bool.and_true] at hok
          obtain ⟨r1, r2⟩ := opd_ok (a := a) hI hE hx hok
          simp only [evOp] at h
          split at h
          · rename_i id off len hv
            split at h
            · rename_i c hH
              simp only [Option.some.injEq, Prod.mk.injEq] at h
              obtain ⟨rfl, rfl⟩ := h
              exact op_mark hI hop hs hc hH (hv ▸ r1) (hv ▸ r2)
            · cases h
          · cases h
        · cases ht
      · cases ht
    · cases ht
  · -- makeFunc
    rename_i f first caps hop
    split at ht
    · rename_i hf
      obtain ⟨vs, hvs, rfl⟩ := Option.map_eq_some_iff.1 ht
      simp only [VOp.opds] at hok
      simp only [evOp, Option.some.injEq, Prod.mk.injEq] at h
      obtain ⟨rfl, rfl⟩ := h
      obtain ⟨r1, r2⟩ := opds_ok (a := a) hI hE hvs hok
      exact op_mkfn hI hop hf r1 r2
    · cases ht
  · -- makeSlice
    rename_i t l c hop
    split at ht
    · rename_i e' hu
      split at ht
      · rename_i i z hi hz
        split at ht
        · rename_i hlc
          simp only [Option.some.injEq] at ht
          subst ht
          obtain rfl : l = c := by simpa using hlc
          simp only [VOp.opds, List.all_cons, List.all_nil, Bool.and_true] at hok
          have r1 := (opd_ok (a := a) (x := .tmp l) hI hE rfl hok).1
          simp only [evOp] at h
          split at h
          · rename_i k n hv
            split at h
            · rename_i hcond
              obtain ⟨h0, h1, h2, h3⟩ := hcond
              simp only [Option.some.injEq, Prod.mk.injEq] at h
              obtain ⟨rfl, rfl⟩ := h
              obtain ⟨z0, rfl⟩ := List.length_eq_one_iff.1 h2
              exact op_msl hI hnb hop hu hi h3 hz h0 h1 (hv ▸ r1)
            · cases h
          · cases h
        · cases ht
      · cases ht
    · cases ht
  · -- slice
    rename_i t x lo hi hop
    split at ht
    · rename_i vx vlo vhi hx elo ehi
      split at ht
      · rename_i hu
        simp only [Option.some.injEq] at ht
        subst ht
        simp only [VOp.opds, List.all_cons, List.all_append, Bool.and_eq_true] at hok
        have r1 := (opd_ok (a := a) hI hE hx hok.1).1
        simp only [evOp] at h
        split at h
        · rename_i s l hv hl
          split at h
          · rename_i hh' hh
            split at h
            · rename_i hcond
              simp only [Option.some.injEq, Prod.mk.injEq] at h
              obtain ⟨rfl, rfl⟩ := h
              exact op_slcs hI hop hu (hv ▸ r1) (slice_bound hI hE elo (fun v hv => List.all_eq_true.1 hok.2.1 v (by rw [hv]; simp)) hl) (slice_bound hI hE ehi (fun v hv => List.all_eq_true.1 hok.2.2 v (by rw [hv]; simp)) hh) hcond.1 hcond.2
            · cases h
          · cases h
        · cases h
      · rename_i e' hu
        obtain ⟨sz, hsz, rfl⟩ := Option.map_eq_some_iff.1 ht
        simp only [VOp.opds, List.all_cons, List.all_append, Bool.and_eq_true] at hok
        have r1 := (opd_ok (a := a) hI hE hx hok.1).1
        simp only [evOp] at h
        split at h
        · rename_i s l hv hl
          split at h
          · rename_i hh' hh
            split at h
            · rename_i hcond
              simp only [Option.some.injEq, Prod.mk.injEq] at h
              obtain ⟨rfl, rfl⟩ := h
              refine op_slc hI hop hu hsz hv r1 (slice_bound hI hE elo (fun v hv => List.all_eq_true.1 hok.2.1 v (by rw [hv]; simp)) hl) (slice_bound hI hE ehi (fun v hv => List.all_eq_true.1 hok.2.2 v (by rw [hv]; simp)) hh) hcond.1 hcond.2.1 ?_
              rcases Bool.or_eq_true_iff.1 hcond.2.2 with hn | hn
              · left
                have : vlo = none := by simpa using hn
                rw [this] at hl
                simp only [evOp.bound, Option.some.injEq] at hl
                exact hl.symm
              · exact .inr hn
            · cases h
          · cases h
        · cases h
      · cases ht
    · cases ht
  · -- fieldAddr
    rename_i s x k hop
    split at ht
    · rename_i fs vx hs hx
      split at ht
      · rename_i f hf
        split at ht
        · cases ht
        · rename_i hne
          split at ht
          · cases ht
          · rename_i hsome
            simp only [Option.some.injEq] at ht
            subst ht
            simp only [VOp.opds, List.all_cons, List.all_nil, Bool.and_true] at hok
            obtain ⟨r1, r2⟩ := opd_ok (a := a) hI hE hx hok
            obtain ⟨n, hn⟩ : ∃ n, sizeT P f.type = some n := by
              cases hq : sizeT P f.type with
              | none => rw [hq] at hsome; simp at hsome
              | some n => exact ⟨n, rfl⟩
            have hn0 : n ≠ 0 := by rintro rfl; exact hne hn
            simp only [evOp] at h
            split at h
            · rename_i id off hv
              simp only [Option.some.injEq, Prod.mk.injEq] at h
              obtain ⟨rfl, rfl⟩ := h
              rw [hv] at r1 r2
              exact op_fadr hI hop hs hf hn hn0 (.inl ⟨_, _, rfl, rfl⟩) r1 r2
            · rename_i l off hv
              simp only [Option.some.injEq, Prod.mk.injEq] at h
              obtain ⟨rfl, rfl⟩ := h
              rw [hv] at r1 r2
              exact op_fadr hI hop hs hf hn hn0 (.inr ⟨_, _, rfl, rfl⟩) r1 r2
            · cases h
      · cases ht
    · cases ht
  · -- field
    rename_i t x k hop
    split at ht
    · rename_i fs vx hs hx
      split at ht
      · rename_i f hf
        obtain ⟨n, hn, rfl⟩ := Option.map_eq_some_iff.1 ht
        simp only [VOp.opds, List.all_cons, List.all_nil, Bool.and_true] at hok
        obtain ⟨r1, r2⟩ := opd_ok (a := a) hI hE hx hok
        simp only [evOp] at h
        split at h
        · rename_i c hv
          obtain ⟨q, hq, he⟩ := Option.map_eq_some_iff.1 h
          simp only [Prod.mk.injEq] at he
          obtain ⟨rfl, rfl⟩ := he
          rw [hv] at r1 r2
          exact op_fld hI hop hs hf hn (.inr ⟨c, rfl, rfl⟩) hq r1 r2
        · rename_i c hv
          obtain ⟨q, hq, he⟩ := Option.map_eq_some_iff.1 h
          simp only [Prod.mk.injEq] at he
          obtain ⟨rfl, rfl⟩ := he
          rw [hv] at r1 r2
          exact op_fld hI hop hs hf hn (.inl rfl) hq r1 r2
        · cases h
      · cases ht
    · cases ht
  · -- indexAddr
    rename_i t x i hop
    split at ht
    · rename_i e' vx vi hu hx hi
      obtain ⟨sz, hsz, rfl⟩ := Option.map_eq_some_iff.1 ht
      simp only [VOp.opds, List.all_cons, List.all_nil, Bool.and_true, Bool.and_eq_true] at hok
      obtain ⟨r1, r2⟩ := opd_ok (a := a) hI hE hx hok.1
      obtain ⟨s1, s2⟩ := opd_ok (a := a) hI hE hi hok.2
      simp only [evOp] at h
      split at h
      · cases h
      · rename_i n hn
        split at h
        · rename_i id off len hv
          split at h
          · rename_i hlt
            simp only [Option.some.injEq, Prod.mk.injEq] at h
            obtain ⟨rfl, rfl⟩ := h
            rw [hv] at r1 r2
            exact op_iadr_arr hI hop hu hsz hn s1 hlt r1 r2
          · cases h
        · split at h
          · rename_i l hl
            split at h
            · rename_i y hy
              split at h
              · rename_i hc
                simp only [Option.some.injEq, Prod.mk.injEq] at h
                obtain ⟨rfl, rfl⟩ := h
                exact op_iadr_sl hI hop hu hsz hn s1 hl hy hc r1
              · cases h
            · cases h
          · cases h
    · rename_i len e' vx vi hu hx hi
      obtain ⟨sz, hsz, rfl⟩ := Option.map_eq_some_iff.1 ht
      simp only [VOp.opds, List.all_cons, List.all_nil, Bool.and_true, Bool.and_eq_true] at hok
      obtain ⟨r1, r2⟩ := opd_ok (a := a) hI hE hx hok.1
      obtain ⟨s1, s2⟩ := opd_ok (a := a) hI hE hi hok.2
      simp only [evOp] at h
      split at h
      · cases h
      · rename_i n hn
        split at h
        · rename_i hlt
          split at h
          · rename_i id off hv
            simp only [Option.some.injEq, Prod.mk.injEq] at h
            obtain ⟨rfl, rfl⟩ := h
            rw [hv] at r1 r2
            exact op_iadra hI hop hu hsz hn s1 hlt (.inl ⟨_, _, rfl, rfl⟩) r1 r2
          · rename_i l off hv
            simp only [Option.some.injEq, Prod.mk.injEq] at h
            obtain ⟨rfl, rfl⟩ := h
            rw [hv] at r1 r2
            exact op_iadra hI hop hu hsz hn s1 hlt (.inr ⟨_, _, rfl, rfl⟩) r1 r2
          · cases h
        · cases h
    · cases ht
  · -- index
    rename_i t x i hop
    split at ht
    · rename_i vx vi hu hx hi
      simp only [Option.some.injEq] at ht
      subst ht
      simp only [VOp.opds, List.all_cons, List.all_nil, Bool.and_true, Bool.and_eq_true] at hok
      obtain ⟨r1, r2⟩ := opd_ok (a := a) hI hE hx hok.1
      obtain ⟨s1, s2⟩ := opd_ok (a := a) hI hE hi hok.2
      simp only [evOp] at h
      split at h
      · rename_i n s hn hv
        obtain ⟨q, hq, he⟩ := Option.map_eq_some_iff.1 h
        simp only [Prod.mk.injEq] at he
        obtain ⟨rfl, rfl⟩ := he
        exact op_idx hI hop hu hn s1 hq (hv ▸ r1)
      · cases h
    · cases ht
  · -- extract
    rename_i x i hop
    obtain ⟨vx, hx, rfl⟩ := Option.map_eq_some_iff.1 ht
    simp only [VOp.opds, List.all_cons, List.all_nil, Bool.and_true] at hok
    obtain ⟨r1, r2⟩ := opd_ok (a := a) hI hE hx hok
    simp only [evOp] at h
    split at h
    · rename_i l hv
      obtain ⟨q, hq, he⟩ := Option.map_eq_some_iff.1 h
      simp only [Prod.mk.injEq] at he
      obtain ⟨rfl, rfl⟩ := he
      rw [hv] at r1 r2
      exact op_ext hI hop hq r1 r2
    · cases h
  · -- makeMap
    rename_i t hop
    simp only [Option.some.injEq] at ht
    subst ht
    simp only [evOp, Option.some.injEq, Prod.mk.injEq] at h
    obtain ⟨rfl, rfl⟩ := h
    exact op_mkm hI hnb hop
  · -- mapUpdate
    rename_i t m k x hop
    split at ht
    · rename_i kt et vm vk vx hu hm hk hx
      obtain ⟨kk, hkk, rfl⟩ := Option.map_eq_some_iff.1 ht
      simp only [VOp.opds, List.all_cons, List.all_nil, Bool.and_true, Bool.and_eq_true] at hok
      obtain ⟨m1, _⟩ := opd_ok (a := a) hI hE hm hok.1
      obtain ⟨k1, _⟩ := opd_ok (a := a) hI hE hk hok.2.1
      obtain ⟨x1, _⟩ := opd_ok (a := a) hI hE hx hok.2.2
      simp only [evOp] at h
      split at h
      · rename_i id kd xd em ek ex
        split at h
        · rename_i l hl
          split at h
          · rename_i hc
            simp only [Bool.and_eq_true] at hc
            simp only [Option.some.injEq, Prod.mk.injEq] at h
            obtain ⟨rfl, rfl⟩ := h
            exact op_mput hI (.inl hop) hu hkk hl hc.1 hc.2 (em ▸ m1) (ek ▸ k1) (toD_rep hI ex x1)
          · cases h
        · cases h
      · cases h
    · cases ht
  · -- insert
    rename_i t m k x hop
    split at ht
    · rename_i kt et vm vk vx hu hm hk hx
      obtain ⟨kk, hkk, rfl⟩ := Option.map_eq_some_iff.1 ht
      simp only [VOp.opds, List.all_cons, List.all_nil, Bool.and_true, Bool.and_eq_true] at hok
      obtain ⟨m1, _⟩ := opd_ok (a := a) hI hE hm hok.1
      obtain ⟨k1, _⟩ := opd_ok (a := a) hI hE hk hok.2.1
      obtain ⟨x1, _⟩ := opd_ok (a := a) hI hE hx hok.2.2
      simp only [evOp] at h
      split at h
      · rename_i id kd xd em ek ex
        split at h
        · rename_i l hl
          split at h
          · rename_i hc
            simp only [Bool.and_eq_true] at hc
            simp only [Option.some.injEq, Prod.mk.injEq] at h
            obtain ⟨rfl, rfl⟩ := h
            exact op_mput hI (.inr hop) hu hkk hl hc.1 hc.2 (em ▸ m1) (ek ▸ k1) (toD_rep hI ex x1)
          · cases h
        · cases h
      · cases h
    · cases ht
  · -- lookup
    rename_i t m k ok hop
    split at ht
    · rename_i kt et vm vk hu hm hk
      split at ht
      · rename_i kk z hkk hz
        simp only [Option.some.injEq] at ht
        subst ht
        simp only [VOp.opds, List.all_cons, List.all_nil, Bool.and_true, Bool.and_eq_true] at hok
        obtain ⟨m1, _⟩ := opd_ok (a := a) hI hE hm hok.1
        obtain ⟨k1, _⟩ := opd_ok (a := a) hI hE hk hok.2
        simp only [evOp] at h
        split at h
        · rename_i id kd em ek
          split at h
          · rename_i l hl
            split at h
            · rename_i hc
              simp only [Bool.and_eq_true] at hc
              simp only [Option.some.injEq, Prod.mk.injEq] at h
              obtain ⟨rfl, rfl⟩ := h
              exact op_mget hI hop hu hkk hz hl hc.1 hc.2 (em ▸ m1) (ek ▸ k1)
            · cases h
          · cases h
        · cases h
      · cases ht
    · cases ht
  · -- mapEntry
    rename_i t m k hop
    split at ht
    · rename_i kt et vm vk hu hm hk
      split at ht
      · rename_i kk z hkk hz
        simp only [Option.some.injEq] at ht
        subst ht
        simp only [VOp.opds, List.all_cons, List.all_nil, Bool.and_true, Bool.and_eq_true] at hok
        obtain ⟨m1, _⟩ := opd_ok (a := a) hI hE hm hok.1
        obtain ⟨k1, _⟩ := opd_ok (a := a) hI hE hk hok.2
        simp only [evOp] at h
        split at h
        · rename_i id kd em ek
          split at h
          · rename_i l hl
            split at h
            · rename_i hc
              simp only [Bool.and_eq_true] at hc
              exact op_ment hI hop hu hkk hz hl hc.1 hc.2 (em ▸ m1) (ek ▸ k1) h
            · cases h
          · cases h
        · cases h
      · cases ht
    · cases ht
  · -- entryStore
    rename_i t m s x hop
    split at ht
    · rename_i vm vs vx hm hs hx
      simp only [Option.some.injEq] at ht
      subst ht
      simp only [VOp.opds, List.all_cons, List.all_nil, Bool.and_true, Bool.and_eq_true] at hok
      obtain ⟨m1, _⟩ := opd_ok (a := a) hI hE hm hok.1
      obtain ⟨s1, _⟩ := opd_ok (a := a) hI hE hs hok.2.1
      obtain ⟨x1, _⟩ := opd_ok (a := a) hI hE hx hok.2.2
      simp only [evOp] at h
      split at h
      · rename_i id ik n xd em es ex
        split at h
        · rename_i l hl
          split at h
          · rename_i hc
            simp only [Option.some.injEq, Prod.mk.injEq] at h
            obtain ⟨rfl, rfl⟩ := h
            exact op_mest hI hop hl hc (em ▸ m1) (es ▸ s1) (toD_rep hI ex x1)
          · cases h
        · cases h
      · cases h
    · cases ht
  · -- call
    rename_i c hop
    obtain ⟨callee, ar, at'⟩ := c
    simp only at ht
    split at ht
    · rename_i f
      obtain ⟨vs, hvs, rfl⟩ := Option.map_eq_some_iff.1 ht
      simp only [VOp.opds] at hok
      simp only [evOp] at h
      obtain ⟨r1, r2⟩ := opds_ok (a := a) hI hE hvs hok
      have r1' := RepTs_args hI r1
      have r2' := undL_args (H := H) r2
      simp only [List.map_map, Function.comp_def] at r1' r2'
      exact op_call hS hI hnb hop h r1' r2'
    · rename_i t
      obtain ⟨vs, hvs, rfl⟩ := Option.map_eq_some_iff.1 ht
      simp only [VOp.opds, List.all_cons, Bool.and_eq_true] at hok
      obtain ⟨f1, f2⟩ := opd_ok (a := a) (x := .tmp t) hI hE rfl hok.1
      obtain ⟨r1, r2⟩ := opds_ok (a := a) hI hE hvs hok.2
      have r1' := RepTs_args hI r1
      have r2' := undL_args (H := H) r2
      simp only [List.map_map, Function.comp_def] at r1' r2'
      simp only [evOp] at h
      split at h
      · rename_i f c hv
        rw [hv] at f1 f2
        exact op_callv hS hI hnb hop f1 f2 h r1' r2'
      · cases h
    · split at ht
      · rename_i x t har hat
        split at ht
        · rename_i hu
          obtain ⟨vx, hx, rfl⟩ := Option.map_eq_some_iff.1 ht
          simp only [VOp.opds, List.all_cons, List.all_nil, Bool.and_true] at hok
          obtain ⟨r1, r2⟩ := opd_ok (a := a) hI hE hx hok
          simp only [evOp] at h
          split at h
          · rename_i s hb hv
            simp only [Option.some.injEq, Prod.mk.injEq] at h
            obtain ⟨rfl, rfl⟩ := h
            exact op_len_str hI hop har hat hu (hv ▸ r1)
          · rename_i hb; cases hb
          · cases h
        · rename_i e' hu
          obtain ⟨vx, hx, rfl⟩ := Option.map_eq_some_iff.1 ht
          simp only [VOp.opds, List.all_cons, List.all_nil, Bool.and_true] at hok
          obtain ⟨r1, r2⟩ := opd_ok (a := a) hI hE hx hok
          simp only [evOp] at h
          obtain ⟨q, hq, he⟩ := Option.map_eq_some_iff.1 h
          simp only [Prod.mk.injEq] at he
          obtain ⟨rfl, rfl⟩ := he
          exact op_len_sl hI hop har hat hu hq r1
        · cases ht
      · cases ht
    · split at ht
      · rename_i x y t u har hat
        split at ht
        · rename_i e' e2 vx vy hu hu2 hx hy
          split at ht
          · rename_i i hi
            split at ht
            · rename_i hc
              simp only [Option.some.injEq] at ht
              subst ht
              obtain ⟨hz, rfl⟩ := hc
              simp only [VOp.opds, List.all_cons, List.all_nil, Bool.and_true, Bool.and_eq_true] at hok
              obtain ⟨r1, r2⟩ := opd_ok (a := a) hI hE hx hok.1
              obtain ⟨s1, s2⟩ := opd_ok (a := a) hI hE hy hok.2
              simp only [evOp] at h
              split at h
              · cases h
              · rename_i ys hys
                split at h
                · rename_i hcond
                  refine op_app hI hnb hop har hat hu hi hz hys hcond.1 hcond.2 r1 s1 r2 ?_
                  split at h
                  · rename_i hv
                    left
                    refine ⟨hv, ?_⟩
                    split at h
                    · rename_i hy0
                      simp only [Option.some.injEq, Prod.mk.injEq] at h
                      exact .inl ⟨hy0, h.1.symm, h.2.symm⟩
                    · rename_i hy0
                      split at h
                      · rename_i hroom
                        simp only [Option.some.injEq, Prod.mk.injEq] at h
                        exact .inr ⟨hy0, hroom, h.1.symm, h.2.symm⟩
                      · cases h
                  · rename_i id len hv
                    right
                    split at h
                    · rename_i sz' l hl
                      split at h
                      · rename_i hc2
                        obtain ⟨rfl, h2, h3⟩ := hc2
                        simp only [Option.some.injEq, Prod.mk.injEq] at h
                        exact ⟨id, len, l, hv, hl, h2, h3, h.1.symm, h.2.symm⟩
                      · cases h
                    · cases h
                  · cases h
                · cases h
            · cases ht
          · cases ht
        · cases ht
      · cases ht
    · split at ht
      · rename_i x y har
        split at ht
        · rename_i vx vy hx hy
          simp only [Option.some.injEq] at ht
          subst ht
          simp only [VOp.opds, List.all_cons, List.all_nil, Bool.and_true, Bool.and_eq_true] at hok
          obtain ⟨r1, r2⟩ := opd_ok (a := a) hI hE hx hok.1
          obtain ⟨s1, s2⟩ := opd_ok (a := a) hI hE hy hok.2
          simp only [evOp] at h
          split at h
          · rename_i k p k' q hp hq
            split at h
            · rename_i hk
              subst hk
              simp only [Option.some.injEq, Prod.mk.injEq] at h
              obtain ⟨rfl, rfl⟩ := h
              exact op_mm (mx := true) hI hop har (hp ▸ r1) (hq ▸ s1)
            · cases h
          · cases h
        · cases ht
      · cases ht
    · split at ht
      · rename_i x y har
        split at ht
        · rename_i vx vy hx hy
          simp only [Option.some.injEq] at ht
          subst ht
          simp only [VOp.opds, List.all_cons, List.all_nil, Bool.and_true, Bool.and_eq_true] at hok
          obtain ⟨r1, r2⟩ := opd_ok (a := a) hI hE hx hok.1
          obtain ⟨s1, s2⟩ := opd_ok (a := a) hI hE hy hok.2
          simp only [evOp] at h
          split at h
          · rename_i k p k' q hp hq
            split at h
            · rename_i hk
              subst hk
              simp only [Option.some.injEq, Prod.mk.injEq] at h
              obtain ⟨rfl, rfl⟩ := h
              exact op_mm (mx := false) hI hop har (hp ▸ r1) (hq ▸ s1)
            · cases h
          · cases h
        · cases ht
      · cases ht
    · cases ht
  · cases ht
theorem op_sound {orc : Orc} (hS : SOrc P cx orc) (hI : Inv cx g H w) {N : Nat} {e : Env} (hE : EnvOk g H N e a.tmps) (hnb : nb ≤ H.length) {vop : VOp} (ht : trOp P o.op = some vop) (hok : vop.opds.all (Opd.lt N) = true) {r : V} {H' : Hp} (h : evOp cx orc nb e H vop = some (r, H')) :
    StepOk P cx nb g H w r H' ((execOp a.eval o).run P w) := by
  unfold trOp at ht
  cases h0 : trOp0 P o.op with
  | none =>
    rw [h0] at ht
    simp only [Option.getD_none, Option.some.injEq] at ht
    subst ht
    cases h
  | some v =>
    rw [h0] at ht
    simp only [Option.getD_some, Option.some.injEq] at ht
    subst ht
    exact op_sound0 hS hI hE hnb h0 hok h
end
end Go.Vm
namespace Go.Vm
section
variable {P : Program} {cx : Cx} {g : Gh} {w : World}

structure StOk (cx : Cx) (N : Nat) (g : Gh) (s : St) (a : Act) (w : World) : Prop where
  inv : Inv cx g s.h w
  env : EnvOk g s.h N s.e a.tmps
  defers : a.defers = []
  base : s.b ≤ s.h.length

theorem put_tmps (a : Act) (d : Option Nat) (x : Value) : (a.put d x).tmps = setT d x a.tmps := by cases d <;> rfl
theorem put_defers (a : Act) (d : Option Nat) (x : Value) : (a.put d x).defers = a.defers := by cases d <;> rfl

theorem StOk.put {N : Nat} {s : St} {a : Act} {d : Option Nat} {v : V} {x : Value} {h' : Hp} {g' : Gh} {w' : World} (ok : StOk cx N g s a w) (hd : ∀ k, d = some k → k < N) (hI : Inv cx g' h' w') (hr : Rep g' h' v x) (hu : v.und h'.length = true) (he : Ext s.b g s.h w g' h' w') :
    StOk cx N g' ⟨putE d v s.e, h', s.b⟩ (a.put d x) w' :=
  ⟨hI, by rw [put_tmps]; exact (ok.env.ext he).put hd hr hu, by rw [put_defers]; exact ok.defers, Nat.le_trans ok.base he.len⟩

theorem StOk.put' {N : Nat} {s : St} {a : Act} {d d' : Option Nat} {v : V} {x : Value} {h' : Hp} {g' : Gh} {w' : World} (hdd : d' = d) (ok : StOk cx N g s a w) (hd : ∀ k, d = some k → k < N) (hI : Inv cx g' h' w') (hr : Rep g' h' v x) (hu : v.und h'.length = true) (he : Ext s.b g s.h w g' h' w') :
    StOk cx N g' ⟨putE d v s.e, h', s.b⟩ (a.put d' x) w' := by
  subst hdd
  exact ok.put hd hI hr hu he

theorem trOper_parts {ops : Array Oper} {co : Oper} {o : VOper} (h : trOper P ops co = some o) : trOp P co.op = some o.op ∧ o.dst = co.dst ∧ ((co.guard = none ∧ o.guard = none) ∨ ∃ j b s, co.guard = some (j, b) ∧ (ops[j]?).bind (·.dst) = some s ∧ o.guard = some (s, b)) := by
  unfold trOper at h
  split at h
  · cases h
  · rename_i v hv
    split at h
    · rename_i hg
      simp only [Option.some.injEq] at h
      subst h
      exact ⟨hv, rfl, .inl ⟨hg, rfl⟩⟩
    · rename_i j b hg
      split at h
      · rename_i s hs
        simp only [Option.some.injEq] at h
        subst h
        exact ⟨hv, rfl, .inr ⟨j, b, s, hg, hs, rfl⟩⟩
      · cases h

theorem okN_parts {N : Nat} {o : VOper} (h : o.okN N = true) : (∀ k, o.dst = some k → k < N) ∧ o.op.opds.all (Opd.lt N) = true ∧ ∀ s b, o.guard = some (s, b) → s < N := by
  unfold VOper.okN at h
  simp only [Bool.and_eq_true] at h
  obtain ⟨⟨h1, h2⟩, h3⟩ := h
  refine ⟨fun k hk => ?_, h2, fun s b hs => ?_⟩
  · rw [hk] at h1; simpa using h1
  · rw [hs] at h3; simpa using h3

theorem yielded_at {ops : Array Oper} {t : Array Value} {j s N : Nat} (hs : (ops[j]?).bind (·.dst) = some s) (hN : t.size = N) (hlt : s < N) : yielded ops t j = match t.getD s Go.undef with | .bool b => some b | _ => none := by
  unfold yielded
  rw [hs]
  have : t[s]? = some (t.getD s Go.undef) := by
    simp [Array.getD, hN, hlt]
  simp only [Option.bind_some, this]
  generalize t.getD s Go.undef = v
  cases v <;> rfl

theorem oper_sound {orc : Orc} (hS : SOrc P cx orc) {N : Nat} {ops : Array Oper} {i : Nat} {co : Oper} (hi : ops[i]? = some co) {o : VOper} (ht : trOper P ops co = some o) (hok : o.okN N = true) {s s' : St} (h : evOper cx orc o s = some s') {a : Act} (ok : StOk cx N g s a w)
    {Q : Exit → Act → World → Prop} {K : Act → World → Prop} (hk : ∀ g' x w', StOk cx N g' s' (a.put co.dst x) w' → Ext s.b g s.h w g' s'.h w' → K (a.put co.dst x) w') : wpOp P ops Q i K a w := by
  obtain ⟨h1, h2, h3⟩ := trOper_parts ht
  obtain ⟨k1, k2, k3⟩ := okN_parts hok
  have run : ∀ r : V × Hp, evOp cx orc s.b s.e s.h o.op = some r → s' = ⟨putE o.dst r.1 s.e, r.2, s.b⟩ → co.wp P a w K Q := by
    rintro ⟨r, h'⟩ hr rfl
    refine (op_sound hS ok.inv ok.env ok.base h1 k2 hr).wp fun g' x w' i1 i2 i3 i4 => ?_
    exact hk g' x w' (ok.put' h2.symm k1 i1 i2 i3 i4) i4
  have skip : s' = ⟨putE o.dst (.tup []) s.e, s.h, s.b⟩ → K (a.put co.dst Go.undef) w := by
    rintro rfl
    exact hk g Go.undef w (ok.put' (v := .tup []) (x := Go.undef) h2.symm k1 ok.inv (by simp [Rep, RepTs, Go.undef]) (by simp [V.und, undL]) (Ext.refl ..)) (Ext.refl ..)
  unfold wpOp
  simp only [hi]
  unfold evOper at h
  rcases h3 with ⟨g1, g2⟩ | ⟨j, b, sl, g1, g2, g3⟩
  · simp only [g2, lay] at h
    obtain ⟨r, hr, rfl⟩ := Option.map_eq_some_iff.1 h
    rw [if_pos (by simp [Region.wanted, g1])]
    exact .inl (run r hr rfl)
  · simp only [g3] at h
    have hlt := k3 sl b g3
    have hy := yielded_at (t := a.tmps) g2 ok.env.1 hlt
    obtain ⟨e1, _⟩ := ok.env.2 sl hlt
    unfold grd at h
    split at h
    · rename_i t hv
      rw [hv] at e1
      have hb := rep_bool e1
      rw [hb] at hy
      split at h
      · rename_i htb
        subst htb
        obtain ⟨r, hr, rfl⟩ := Option.map_eq_some_iff.1 h
        rw [if_pos (by simp [Region.wanted, g1, hy])]
        exact .inl (run r hr rfl)
      · rename_i htb
        simp only [Option.some.injEq] at h
        rw [if_neg (by simp [Region.wanted, g1, hy, htb])]
        exact skip h.symm
    · rename_i hv
      rw [hv] at e1
      simp only [Rep, RepTs] at e1
      obtain ⟨cs, hx, hcs⟩ := e1
      rw [hx] at hy
      simp only [Option.some.injEq] at h
      rw [if_neg (by simp [Region.wanted, g1, hy])]
      exact skip h.symm
    · cases h

theorem evOper_b {orc : Orc} {v : VOper} {s s1 : St} (h1 : evOper cx orc v s = some s1) : s1.b = s.b := by
  unfold evOper at h1
  split at h1
  · obtain ⟨r, _, rfl⟩ := Option.map_eq_some_iff.1 h1; rfl
  · unfold grd at h1
    split at h1
    · split at h1
      · obtain ⟨r, _, rfl⟩ := Option.map_eq_some_iff.1 h1; rfl
      · simp only [Option.some.injEq] at h1; subst h1; rfl
    · simp only [Option.some.injEq] at h1; subst h1; rfl
    · cases h1

theorem ops_sound {orc : Orc} (hS : SOrc P cx orc) {N : Nat} {ops : Array Oper} : ∀ (l : List Oper) (i : Nat) (vs : List VOper), ops.toList.drop i = l → trOpers P ops l = some vs → vs.all (VOper.okN N) = true → ∀ {g : Gh} {w : World} {s s' : St}, evOps cx orc vs s = some s' → ∀ {a : Act}, StOk cx N g s a w →
    ∀ {Q : Exit → Act → World → Prop}, (∀ g' a' w', StOk cx N g' s' a' w' → Ext s.b g s.h w g' s'.h w' → Q .normal a' w') → wpOps P ops Q (List.range' i l.length) a w
  | [], i, vs, _, ht, _, g, w, s, s', h, a, ok, Q, hq => by
    simp only [trOpers, Option.some.injEq] at ht
    subst ht
    simp only [evOps, Option.some.injEq] at h
    subst h
    exact hq g a w ok (Ext.refl ..)
  | co :: l, i, vs, hl, ht, hok, g, w, s, s', h, a, ok, Q, hq => by
    simp only [trOpers] at ht
    split at ht
    · rename_i v vs' hv hvs
      simp only [Option.some.injEq] at ht
      subst ht
      simp only [List.all_cons, Bool.and_eq_true] at hok
      simp only [evOps] at h
      cases h1 : evOper cx orc v s with
      | none => rw [h1] at h; cases h
      | some s1 =>
        rw [h1] at h
        simp only [Option.bind_some] at h
        have hi : ops[i]? = some co := by
          have := congrArg (·[0]?) hl
          simpa using this
        have hl' : ops.toList.drop (i + 1) = l := by rw [← List.drop_drop, hl]; rfl
        simp only [List.length_cons, List.range'_succ]
        rw [wpOps_cons]
        refine oper_sound hS hi hv hok.1 h1 ok fun g' x w' ok' ext' => ?_
        have hb := evOper_b h1
        refine ops_sound hS l (i + 1) vs' hl' hvs hok.2 h ok' fun g2 a2 w2 ok2 ext2 => ?_
        exact hq g2 a2 w2 ok2 (ext'.trans ext2 (by omega))
    · cases ht

theorem reg_sound {orc : Orc} (hS : SOrc P cx orc) {N : Nat} {ops : Array Oper} {id : Nat} {vs : List VOper} (ht : trOpers P ops ops.toList = some vs) (hok : vs.all (VOper.okN N) = true) {s s' : St} (h : evOps cx orc vs s = some s') {a : Act} (ok : StOk cx N g s a w)
    {Q : Exit → Act → World → Prop} (hq : ∀ g' a' w', StOk cx N g' s' a' w' → Ext s.b g s.h w g' s'.h w' → Q .normal a' w') : (Code.region id ops false).wp P Q a w := by
  apply wp_region
  have := ops_sound hS ops.toList 0 vs (by simp) ht hok h ok hq
  simpa [List.range_eq_range'] using this
end
end Go.Vm
namespace Go.Vm

theorem go_take : ∀ (ops : List Oper) (acc : List Nat), (befores.go ops acc).take acc.length = acc
  | [], acc => by simp [befores.go]
  | o :: r, acc => by
    rw [befores.go]
    have := go_take r (acc ++ [o.after.toList.foldl (fun s e => if Region.binds .any e then s ||| 2 ^ e.on ||| acc.getD e.on 0 else s) 0])
    have h2 := congrArg (·.take acc.length) this
    simp only [List.length_append, List.length_cons, List.length_nil, List.take_take] at h2
    rw [Nat.min_eq_left (by omega)] at h2
    rw [h2]
    simp

theorem go_get : ∀ (ops : List Oper) (acc : List Nat) (i : Nat) (o : Oper), ops[i]? = some o →
    (befores.go ops acc)[acc.length + i]? = some (o.after.toList.foldl (fun s e => if Region.binds .any e then s ||| 2 ^ e.on ||| ((befores.go ops acc).take (acc.length + i)).getD e.on 0 else s) 0)
  | [], acc, i, o, h => by simp at h
  | p :: r, acc, 0, o, h => by
    simp only [List.getElem?_cons_zero, Option.some.injEq] at h
    subst h
    simp only [Nat.add_zero]
    rw [go_take]
    rw [befores.go]
    have := go_take r (acc ++ [p.after.toList.foldl (fun s e => if Region.binds .any e then s ||| 2 ^ e.on ||| acc.getD e.on 0 else s) 0])
    have h2 := congrArg (·[acc.length]?) this
    simpa [List.getElem?_take] using h2
  | p :: r, acc, i + 1, o, h => by
    simp only [List.getElem?_cons_succ] at h
    rw [befores.go]
    have := go_get r (acc ++ [p.after.toList.foldl (fun s e => if Region.binds .any e then s ||| 2 ^ e.on ||| acc.getD e.on 0 else s) 0]) i o h
    simp only [List.length_append, List.length_cons, List.length_nil] at this
    rw [show acc.length + (0 + 1) + i = acc.length + (i + 1) by omega] at this
    exact this

theorem fold_bit {A : Nat → Nat} {k : Nat} : ∀ (l : List Edge) (s : Nat), (l.foldl (fun s e => if Region.binds .any e then s ||| 2 ^ e.on ||| A e.on else s) s).testBit k = true → s.testBit k = true ∨ ∃ e ∈ l, Region.binds .any e = true ∧ (k = e.on ∨ (A e.on).testBit k = true)
  | [], s, h => .inl h
  | e :: l, s, h => by
    simp only [List.foldl_cons] at h
    rcases fold_bit l _ h with h | ⟨e', h1, h2⟩
    · split at h
      · rename_i hb
        simp only [Nat.testBit_or, Bool.or_eq_true, Nat.testBit_two_pow, decide_eq_true_eq] at h
        rcases h with (h | h) | h
        · exact .inl h
        · exact .inr ⟨e, by simp, hb, .inl h.symm⟩
        · exact .inr ⟨e, by simp, hb, .inr h⟩
      · exact .inl h
    · exact .inr ⟨e', by simp [h1], h2⟩

theorem before_listed {ops : Array Oper} {L : Nat → Bool} (hback : ∀ (i : Nat) (o : Oper), ops[i]? = some o → ∀ e ∈ o.after, Region.binds .any e = true → e.on < i) (hcl : ∀ (i : Nat) (o : Oper), ops[i]? = some o → L i = true → ∀ e ∈ o.after, Region.binds .any e = true → L e.on = true) :
    ∀ (i : Nat) (o : Oper), ops[i]? = some o → (∀ e ∈ o.after, Region.binds .any e = true → L e.on = true) → ∀ k, ((befores ops.toList).getD i 0).testBit k = true → L k = true := by
  intro i
  induction i using Nat.strongRecOn with
  | _ i ih =>
    intro o ho hl k hk
    have hg := go_get ops.toList [] i o (by simpa using ho)
    simp only [List.length_nil, Nat.zero_add] at hg
    rw [List.getD_eq_getElem?_getD, befores, hg] at hk
    simp only [Option.getD_some] at hk
    rcases fold_bit (A := fun j => (List.take i (befores.go ops.toList [])).getD j 0) _ _ hk with h | ⟨e, he, hb, h⟩
    · simp at h
    · have he' : e ∈ o.after := by simpa using he
      have hlt := hback i o ho e he' hb
      rcases h with rfl | h
      · exact hl e he' hb
      · have hin := (Array.getElem?_eq_some_iff.1 ho).1
        have hon : ops[e.on]? = some ops[e.on] := Array.getElem?_eq_getElem (by omega)
        refine ih e.on hlt _ hon (hcl e.on _ hon (hl e he' hb)) k ?_
        rw [List.getD_eq_getElem?_getD, List.getElem?_take, if_pos hlt] at h
        rw [List.getD_eq_getElem?_getD]
        exact h

def cnt (L : Nat → Bool) : Nat → Nat
  | 0 => 0
  | n + 1 => cnt L n + (if L n then 0 else 1)

theorem cnt_congr {L L' : Nat → Bool} : ∀ n, (∀ i, i < n → L i = L' i) → cnt L n = cnt L' n
  | 0, _ => rfl
  | n + 1, h => by simp only [cnt]; rw [cnt_congr n fun i hi => h i (by omega), h n (by omega)]

theorem cnt_set {L L' : Nat → Bool} {i : Nat} (h0 : L i = false) (h1 : L' i = true) (ho : ∀ k, k ≠ i → L' k = L k) : ∀ n, i < n → cnt L' n + 1 = cnt L n
  | 0, h => by omega
  | n + 1, h => by
    simp only [cnt]
    by_cases hi : i = n
    · subst hi
      rw [h0, h1, cnt_congr i fun k hk => ho k (by omega)]
      simp
    · have := cnt_set h0 h1 ho n (by omega)
      rw [ho n (Ne.symm hi)]
      omega

theorem cnt_zero {L : Nat → Bool} : ∀ n, cnt L n = 0 → ∀ i, i < n → L i = true
  | 0, _, i, h => by omega
  | n + 1, h, i, hi => by
    simp only [cnt] at h
    by_cases hin : i = n
    · subst hin
      by_cases hl : L i = true
      · exact hl
      · rw [if_neg hl] at h; omega
    · exact cnt_zero n (by omega) i (by omega)

theorem cnt_none {L : Nat → Bool} : ∀ n, (∀ i, i < n → L i = false) → cnt L n = n
  | 0, _ => rfl
  | n + 1, h => by simp only [cnt]; rw [cnt_none n fun i hi => h i (by omega), h n (by omega)]; rfl
end Go.Vm
