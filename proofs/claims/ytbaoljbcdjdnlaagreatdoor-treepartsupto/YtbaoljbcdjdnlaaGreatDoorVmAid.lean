import Derived.Test.YtbaoljbcdjdnlaaGreatDoorVmFrame
import Derived.Test.YtbaoljbcdjdnlaaGreatDoorVmNum
import Derived.Test.YtbaoljbcdjdnlaaGreatDoorVmWp2
set_option linter.unusedSimpArgs false
set_option linter.unusedVariables false
namespace Go.Vm
abbrev u8 (c : UInt8) : V := .d (.int .u8 c.toNat)
abbrev str (s : List UInt8) : V := .d (.str s)
abbrev i64 (n : Int) : V := .d (.int .i64 n)
abbrev boo (b : Bool) : V := .d (.bool b)
theorem idx_of {α : Type} {s : List α} {i : Nat} (h : i < s.length) {k : α → Prop} (hk : k s[i]) : ∃ c, ((0 : Int) ≤ (i : Int) ∧ s[(i : Int).toNat]? = some c) ∧ k c :=
  ⟨s[i], ⟨by omega, by rw [Int.toNat_natCast, List.getElem?_eq_getElem h]⟩, hk⟩
theorem all_upto {α : Type} {p : α → Bool} {s : List α} {i : Nat} (hi : i < s.length) (h : (s.take i).all p = true) (hp : p s[i] = true) : (s.take (i + 1)).all p = true := by
  rw [List.take_add_one, List.getElem?_eq_getElem hi, List.all_append, h]
  simp [hp]
theorem pickD {α : Type} {l : List α} {n : Int} {d : α} (h : 0 ≤ n ∧ l[n.toNat]? = some d) {k : α → Prop} (hk : k d) : ∃ c, (0 ≤ n ∧ l[n.toNat]? = some c) ∧ k c := ⟨d, h, hk⟩
theorem and_t {b : Bool} {X Y : Prop} (h : b = true) (x : X) : (b = true → X) ∧ (b = false → Y) := ⟨fun _ => x, fun e => by rw [h] at e; cases e⟩
theorem and_f {b : Bool} {X Y : Prop} (h : b = false) (y : Y) : (b = true → X) ∧ (b = false → Y) := ⟨fun e => by (rw [h] at e; cases e), fun _ => y⟩
theorem gd_t {b : Bool} {X Y : Prop} (h : b = true) (x : X) : (b = false → Y) ∧ (b = (!false) → X) := ⟨fun e => by (rw [h] at e; cases e), fun _ => x⟩
theorem gd_f {b : Bool} {X Y : Prop} (h : b = false) (y : Y) : (b = false → Y) ∧ (b = (!false) → X) := ⟨fun _ => y, fun e => by (rw [h] at e; cases e)⟩
theorem gt_t {b : Bool} {X Y : Prop} (h : b = true) (x : X) : (b = true → X) ∧ (b = (!true) → Y) := ⟨fun _ => x, fun e => by (rw [h] at e; cases e)⟩
theorem gt_f {b : Bool} {X Y : Prop} (h : b = false) (y : Y) : (b = true → X) ∧ (b = (!true) → Y) := ⟨fun e => by (rw [h] at e; cases e), fun _ => y⟩
theorem ca {x : Option (V × Hp)} {p : V → Hp → Prop} {r : V} {H : Hp} (h : x = some (r, H)) (k : p r H) : ∃ r H, x = some (r, H) ∧ p r H := ⟨r, H, h, k⟩
theorem st_of {b : Bool} {l : List V} {k : List V → Prop} (h : b = true) (hk : k l) : chk b (forceL l k) := chk_of h (by rw [forceL_eq]; exact hk)
theorem putAt_one : ∀ {c : List V} {n : Nat} {v : V}, n < c.length → putAt c n [v] = c.set n v
  | [], n, v, h => by simp at h
  | a :: c, 0, v, _ => by simp [putAt]
  | a :: c, n + 1, v, h => by
    simp only [List.length_cons] at h
    simp only [putAt, List.set_cons_succ]
    rw [putAt_one (by omega)]
theorem putAt_map {α : Type} (f : α → V) {l : List α} {n : Nat} {a : α} (h : n < l.length) : putAt (l.map f) n [f a] = (l.set n a).map f := by
  rw [putAt_one (by rw [List.length_map]; exact h), List.map_set]
theorem fz {c : List V} {ds : List D} {p : List D → Prop} (h : allD c = some ds) (k : p ds) : ∃ ds, allD c = some ds ∧ p ds := ⟨ds, h, k⟩
theorem wp_loopE {pg : Pg} {ks : List Nat} {c : VCode} {b : Nat} {α : Type} (μ : α → Nat) (E : α → Env) (Hf : α → Hp) (P : α → Prop) {Q : Ex → Kn → Env → Hp → Prop} {e0 : Env} {h0 : Hp}
    (step : ∀ a, P a → lenK (Hf a) 0 fun n => keepK (E a) ks fun e => wp pg n c [] e (Hf a) (fun x _ e' H' => match x with
      | .nrm => backK n e' ks fun e2 => forceL (H'.take n) fun H2 => ∃ a', P a' ∧ μ a' < μ a ∧ e2 = E a' ∧ H2 = Hf a'
      | .exit i => Q (.exit i) [] e' H'
      | .ret => Q .ret [] e' H')) (a : α) (ha : P a) (he : e0 = E a) (hh : h0 = Hf a) : LoopK pg b ks c e0 h0 Q := by
  subst he; subst hh; exact wp_loop μ E Hf P step a ha
end Go.Vm
