import Derived.Test.YtnhoonglfejdeaaDoorVmRep
import Derived.Test.YtnhoonglfejdeaaDoorVmFix
import Derived.Calls
namespace Go.Vm

def Clean (n : Nat) (H : Hp) : Prop := ∀ i c, i < n → H[i]? = some (.box c) → undL n c = true

/-- A map's entries. -/
def RepM (C : Nat → List Value) (l : List (D × D)) (es : List MapEntry) : Prop := es.length = l.length ∧ ∀ (i : Nat) p e, l[i]? = some p → es[i]? = some e → RepD C p.1 e.key ∧ RepD C p.2 e.val ∧ e.born = i

def ObOk (g : Gh) (H : Hp) (w : World) (b cap : Nat) : Ob → Prop
  | .box c => ∃ cur e, w.heap[b]? = some (.cells cur e (0, 0)) ∧ RepVs g H c cur.toList ∧ g.C b = []
  | .frz c => RepDs g.C c (g.C b)
  | .map l => (∃ es : Array MapEntry, w.heap[b]? = some (.map es l.length) ∧ RepM g.C l es.toList) ∧ g.C b = []
  | .row sz l => ∃ cur e, w.heap[b]? = some (.cells cur e (0, 0)) ∧ RepEl g.C sz l (g.C b) ∧ 0 < sz ∧ l.length ≤ cap ∧ cur.size = cap * sz ∧ cap ≤ maxLen

/-- Blocks that are known whole stay as they are. -/
def FixOk (cx : Cx) (g : Gh) (w : World) : Prop := ∀ i o, cx.fx i = some o → w.heap[i]? = some o ∧ ∀ k c, g.J k ≠ some (i, c)

structure Inv (cx : Cx) (g : Gh) (H : Hp) (w : World) : Prop where
  inj : ∀ i k b c c', g.J i = some (b, c) → g.J k = some (b, c') → i = k
  dom : ∀ i b c, g.J i = some (b, c) → i < H.length ∧ b < w.heap.size
  ob : ∀ i b c o, g.J i = some (b, c) → H[i]? = some o → ObOk g H w b c o
  imm : ∀ b, g.C b ≠ [] → ∃ cur e fz, w.heap[b]? = some (.cells cur e fz) ∧ g.C b <+: cur.toList
  und : Clean H.length H
  glob : ∀ i, ∃ vs, vs <+: g.C i ∧ RepDs g.C (cx.gv i) vs
  fix : FixOk cx g w

theorem FixOk.mono {cx : Cx} {g g' : Gh} {w w' : World} (h : FixOk cx g w) (hh : ∀ b, b < w.heap.size → (∀ k c, g.J k ≠ some (b, c)) → w'.heap[b]? = w.heap[b]? ∧ ∀ k c, g'.J k ≠ some (b, c)) : FixOk cx g' w' := fun i o hi => by
  obtain ⟨h1, h2⟩ := h i o hi
  obtain ⟨h3, h4⟩ := hh i (Array.getElem?_eq_some_iff.1 h1).1 h2
  exact ⟨h3.trans h1, h4⟩

structure Ext (nb : Nat) (g : Gh) (H : Hp) (w : World) (g' : Gh) (H' : Hp) (w' : World) : Prop where
  os : w'.os = w.os
  tape : w'.tape = w.tape
  output : w'.output = w.output
  size : w.heap.size ≤ w'.heap.size
  frame : ∀ b, b < w.heap.size → (∀ i c, g.J i ≠ some (b, c)) → w'.heap[b]? = w.heap[b]? ∧ g'.C b = g.C b
  keep : Keep H.length g H g' H'
  jnew : ∀ i b c, g'.J i = some (b, c) → b < w.heap.size → ∃ k c', g.J k = some (b, c')
  clean : ∀ n, n ≤ nb → Clean n H → Clean n H'
  len : H.length ≤ H'.length

theorem Ext.refl (nb : Nat) (g : Gh) (H : Hp) (w : World) : Ext nb g H w g H w :=
  ⟨rfl, rfl, rfl, Nat.le_refl _, fun _ _ _ => ⟨rfl, rfl⟩, Keep.refl _ _ _, fun i _ c h _ => ⟨i, c, h⟩, fun _ _ h => h, Nat.le_refl _⟩

theorem Ext.trans {nb nb' : Nat} {g g1 g2 : Gh} {H H1 H2 : Hp} {w w1 w2 : World} (h : Ext nb g H w g1 H1 w1) (k : Ext nb' g1 H1 w1 g2 H2 w2) (hb : nb ≤ nb') : Ext nb g H w g2 H2 w2 := by
  refine ⟨k.os.trans h.os, k.tape.trans h.tape, k.output.trans h.output, Nat.le_trans h.size k.size, fun b hb hj => ?_, h.keep.trans k.keep h.len, fun i b c hi hlt => ?_, fun n hn hc => k.clean n (by omega) (h.clean n hn hc), Nat.le_trans h.len k.len⟩
  · obtain ⟨a1, a2⟩ := h.frame b hb hj
    obtain ⟨b1, b2⟩ := k.frame b (Nat.lt_of_lt_of_le hb h.size) (fun i c hi => by
      obtain ⟨k', c', hk⟩ := h.jnew i b c hi hb
      exact hj k' c' hk)
    exact ⟨b1.trans a1, b2.trans a2⟩
  · obtain ⟨k1, c1, h1⟩ := k.jnew i b c hi (Nat.lt_of_lt_of_le hlt h.size)
    exact h.jnew k1 b c1 h1 hlt

theorem Ext.le {nb nb' : Nat} {g g' : Gh} {H H' : Hp} {w w' : World} (h : Ext nb g H w g' H' w') (hn : nb' ≤ nb) : Ext nb' g H w g' H' w' :=
  ⟨h.os, h.tape, h.output, h.size, h.frame, h.keep, h.jnew, fun n hn' => h.clean n (by omega), h.len⟩

/-- The slots of a frame. -/
def EnvOk (g : Gh) (H : Hp) (N : Nat) (e : Env) (t : Array Value) : Prop :=
  t.size = N ∧ ∀ i, i < N → Rep g H (getE e i) (t.getD i undef) ∧ (getE e i).und H.length = true

mutual
theorem V.und_le {n m : Nat} (h : n ≤ m) : ∀ v : V, v.und n = true → v.und m = true
  | .d _, _ => rfl
  | .agg l, u => by simp only [V.und] at u ⊢; exact undL_le h l u
  | .tup l, u => by simp only [V.und] at u ⊢; exact undL_le h l u
  | .nils, _ => rfl
  | .row id _, u => by simp only [V.und, decide_eq_true_eq] at u ⊢; omega
  | .arr id _ _, u => by simp only [V.und, decide_eq_true_eq] at u ⊢; omega
  | .ptr id _, u => by simp only [V.und, decide_eq_true_eq] at u ⊢; omega
  | .mp id, u => by simp only [V.und, decide_eq_true_eq] at u ⊢; omega
  | .ro _ _, _ => rfl
  | .fn _ l, u => by simp only [V.und] at u ⊢; exact undL_le h l u
  | .nul, _ => rfl
  | .nof, _ => rfl
  | .ifc _, _ => rfl
  | .undef, _ => rfl
theorem undL_le {n m : Nat} (h : n ≤ m) : ∀ l : List V, undL n l = true → undL m l = true
  | [], _ => rfl
  | v :: l, u => by
    simp only [undL, Bool.and_eq_true] at u ⊢
    exact ⟨V.und_le h v u.1, undL_le h l u.2⟩
end

theorem EnvOk.ext {nb : Nat} {g g' : Gh} {H H' : Hp} {w w' : World} {N : Nat} {e : Env} {t : Array Value} (h : EnvOk g H N e t) (x : Ext nb g H w g' H' w') : EnvOk g' H' N e t :=
  ⟨h.1, fun i hi => ⟨Rep_keep x.keep.w _ _ (h.2 i hi).2 (h.2 i hi).1, V.und_le x.len _ (h.2 i hi).2⟩⟩

def setT (d : Option Nat) (x : Value) (t : Array Value) : Array Value := match d with | some d => t.setIfInBounds d x | none => t

theorem EnvOk.put {g : Gh} {H : Hp} {N : Nat} {e : Env} {t : Array Value} (h : EnvOk g H N e t) {d : Option Nat} {v : V} {x : Value} (hd : ∀ k, d = some k → k < N) (hr : Rep g H v x) (hu : v.und H.length = true) :
    EnvOk g H N (putE d v e) (setT d x t) := by
  cases d with
  | none => exact h
  | some k =>
    simp only [setT]
    refine ⟨by simpa using h.1, fun i hi => ?_⟩
    have hk := hd k rfl
    simp only [putE, getE]
    by_cases hki : k = i
    · subst hki
      rw [if_pos rfl]
      have : (t.setIfInBounds k x).getD k undef = x := by simp [Array.getD, h.1, hi]
      rw [this]
      exact ⟨hr, hu⟩
    · rw [if_neg hki]
      have : (t.setIfInBounds k x).getD i undef = t.getD i undef := by
        simp only [Array.getD_eq_getD_getElem?, Array.getElem?_setIfInBounds]
        rw [if_neg hki]
      rw [this]
      exact h.2 i hi

end Go.Vm
