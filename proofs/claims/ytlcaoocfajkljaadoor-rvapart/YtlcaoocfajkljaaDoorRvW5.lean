import Derived.Test.YtlcaoocfajkljaaDoorRvW4
namespace Go.Vm.Rv
set_option maxRecDepth 10000
section
variable {fx : Nat → Option Obj} {rowsD : List D} {rw_ : Int → Rw} (R : RowsOk rowsD rw_) (H : Hp)
def zeroD : D := insD 0 0 0 0 0
/-- The first operation from 66 - k on that is meant, as an instruction. -/
def decR (p : Int → Bool) (mk : Int → D) : Nat → V
  | 0 => .tup [.d zeroD, .d (.int .i64 10)]
  | k + 1 => if p (65 - k) then .tup [.d (mk (65 - k)), .d (.int .i64 0)] else decR p mk k
theorem decR_ext {p q : Int → Bool} {f g : Int → D} (h : ∀ op, 1 ≤ op → op ≤ 65 → p op = q op) (hf : ∀ op, 1 ≤ op → op ≤ 65 → p op = true → f op = g op) : ∀ k, k ≤ 65 → decR p f k = decR q g k
  | 0, _ => rfl
  | k + 1, hk => by
    unfold decR
    rw [h _ (by omega) (by omega), decR_ext h hf k (by omega)]
    cases hp : q (65 - k) with
    | true => rw [hf _ (by omega) (by omega) (by rw [h _ (by omega) (by omega)]; exact hp)]
    | false => rfl
def dfL (b : Bool) (w s : Int) : Int := if b then IntKind.i64.wrap (andI .u32 (shrI .u32 w s) 31) else 0
def opD (r : Rw) (op w : Int) : D := insD op (dfL (rdL r.f) w 7) (dfL (rs1L r.f) w 15) (dfL (rs2L r.f) w 20) (immL r.f w)
include R in
theorem dec_ev (w : Int) : evF (pgR fx rowsD) 13 [.d (.int .u32 w)] H = some (decR (fun op => fitsL (rw_ op) w) (fun op => opD (rw_ op) op w) 65, H) := by
  refine evF_wp tbl13 rfl rfl ?_ H
  refine wp_loop (α := Int) (fun op => (66 - op).toNat) (fun op => [(0, .d (.int .u32 w)), (2, .ptr 0 0), (4, .d (.int .i64 op))]) (fun _ => [.box [.d (.int .i64 0), .d (.int .i64 0), .d (.int .i64 0), .d (.int .i64 0), .d (.int .i64 0)]])
    (fun op => 1 ≤ op ∧ op ≤ 66 ∧ decR (fun op => fitsL (rw_ op) w) (fun op => opD (rw_ op) op w) (66 - op).toNat = decR (fun op => fitsL (rw_ op) w) (fun op => opD (rw_ op) op w) 65) ?_ 1 ⟨by omega, by omega, rfl⟩
  intro op ⟨h1, h2, h3⟩
  refine And.intro (fun h => ?_) (fun h => ?_)
  · replace h := of_decide_eq_true h
    refine And.intro ⟨by omega, by omega⟩ ?_
    refine partK_of (R.part op h1 h) ?_
    refine Exists.intro _ (Exists.intro _ (And.intro (fits_ev _ _ _) ?_))
    have hn : (66 - op).toNat = (65 - op).toNat + 1 := by omega
    have ho : 65 - ((65 - op).toNat : Int) = op := by omega
    rw [hn, decR, ho] at h3
    refine And.intro (fun hf => ?_) (fun hf => ?_)
    · have hf : fitsL (rw_ op) w = false := by simpa using hf
      rw [hf] at h3
      refine Exists.intro (op + 1) ⟨⟨by omega, by omega, ?_⟩, by omega, ?_, rfl⟩
      · rw [show (66 - (op + 1)).toNat = (65 - op).toNat by omega]; simpa using h3
      · rw [i64w (by omega)]
    · have hf : fitsL (rw_ op) w = true := by simpa using hf
      rw [hf, if_pos rfl] at h3
      refine Exists.intro _ (Exists.intro _ (And.intro (imm_ev _ _ _) ?_))
      refine Exists.intro _ (Exists.intro _ (And.intro (has_ev _ _) ?_))
      rw [← h3]
      repeat' refine And.intro (fun h => ?_) (fun h => ?_)
      all_goals show _ = _
      all_goals simp only [oneOf, opD, insD, dfL]
      all_goals grind
  · replace h := of_decide_eq_false h
    have : op = 66 := by omega
    subst this
    show _ = _
    rw [← h3]; rfl
end
end Go.Vm.Rv
