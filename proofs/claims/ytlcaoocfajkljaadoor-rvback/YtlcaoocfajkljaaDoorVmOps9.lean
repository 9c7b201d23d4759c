import Derived.Test.YtlcaoocfajkljaaDoorVmOps8
namespace Go.Vm
section
variable {P : Program} {cx : Cx} {nb : Nat} {g : Gh} {H : Hp} {w : World} {o : Oper} {a : Act}

theorem wrap_i64 {n : Int} (h0 : 0 ≤ n) (h1 : n ≤ 9223372036854775807) : IntKind.i64.wrap n = n := by
  have e : n % (18446744073709551616 : Int) = n := Int.emod_eq_of_lt h0 (by omega)
  simp only [IntKind.wrap, IntKind.bits, IntKind.signed]
  simp only [show ((2 : Int) ^ 64) = 18446744073709551616 from rfl, show ((2 : Int) ^ (64 - 1)) = 9223372036854775808 from rfl, e]
  simp
  omega

theorem RepVs_replicate {v : V} {x : Value} (hv : v.one = true) (h : Rep g H v x) : ∀ n, RepVs g H (List.replicate n v) (List.replicate n x)
  | 0 => by simp [RepVs]
  | n + 1 => by simp only [List.replicate_succ, RepVs]; exact ⟨_, _, rfl, hv, h, RepVs_replicate hv h n⟩

theorem undL_replicate {m : Nat} {v : V} (h : v.und m = true) : ∀ n, undL m (List.replicate n v) = true
  | 0 => rfl
  | n + 1 => by simp only [List.replicate_succ, undL, h, undL_replicate h n, Bool.and_self]

theorem op_msl (hI : Inv cx g H w) (hnb : nb ≤ H.length) {t e : TypeId} {l : Nat} (hop : o.op = .makeSlice t (.tmp l) (.tmp l)) (ht : P.underlying t = some (.slice e)) {i : TypeInfo} (hi : P.info? e = some i) (hs : i.size = 1) {z : V} (hz : zeroCells P e = some [z])
    {k : IntKind} {n : Int} (h0 : 0 ≤ n) (hr : roomy n.toNat i.bytes) (rl : Rep g H (.d (.int k n)) (a.eval (.tmp l))) : StepOk P cx nb g H w (.arr H.length 0 n.toNat) (H ++ [.box (List.replicate n.toNat z)]) ((execOp a.eval o).run P w) := by
  obtain ⟨it, zv, hi', hzv, hc⟩ := zero_parts hz
  obtain rfl : it = i := by rw [hi] at hi'; exact (Option.some.inj hi').symm
  obtain ⟨hzr, hzu⟩ := constVs_rep (g := g) (H := H) hc
  simp only [RepVs] at hzr
  obtain ⟨y, ys, hzc, hone, hrz, rfl⟩ := hzr
  simp only [undL, Bool.and_true] at hzu
  have hn1 : n ≤ 9223372036854775807 := by have := hr.2; omega
  have hw := wrap_i64 h0 hn1
  have hcells : zv.cells = #[y] := by apply Array.ext'; simpa using hzc
  have hb : ¬ ((it.bytes : Int) * n > 2 ^ 48) := by
    have h1 := hr.1
    have e1 : ((n.toNat * it.bytes : Nat) : Int) = n * it.bytes := by rw [Int.natCast_mul, Int.toNat_of_nonneg h0]
    rw [Int.mul_comm]
    have : (2 : Int) ^ 48 = 281474976710656 := rfl
    omega
  have hrun : (execOp a.eval o).run P w = .ok (.value (.slice (some ⟨w.heap.size, 0, none⟩) n.toNat n.toNat)) (w.alloc (.cells (List.replicate n.toNat y).toArray e)) := by
    simp only [execOp, hop, rep_int rl]
    refine run_v ?_
    have harr : ∀ m, (Array.range m).map (fun j => (#[y] : Array Value)[j % (#[y] : Array Value).size]!) = (List.replicate m y).toArray := by
      intro m
      apply Array.ext
      · simp
      · intro j h1 h2
        simp [Nat.mod_one]
    simp only [Instr.makeSlice, Sem.run_bind, run_underlying ht, Result.andThen_ok, asInt, asIntOf, Sem.run_pure, typeInfo, run_program, hi, hw]
    have hb' : (it.bytes : Int) * n ≤ 281474976710656 := by
      have : (2 : Int) ^ 48 = 281474976710656 := rfl
      omega
    have hn0' : ¬ n < 0 := by omega
    rw [if_neg (by simp [hb', hn0'])]
    simp only [Sem.run_bind, run_askRoom, Result.andThen_ok, sizeOf, typeInfo, run_program, hi, hs, Sem.run_pure, Nat.mul_one]
    by_cases hn0 : n.toNat = 0
    · simp [hn0, newRow]
      congr 2
      apply Array.ext <;> simp
    · have hzrun : (zeroValue e).run P w = .ok zv w := by simp [zeroValue, typeInfo, hi, hzv]
      rw [if_neg hn0]
      simp only [Sem.run_bind, hzrun, Result.andThen_ok, Sem.run_pure, hcells, harr, newRow, run_newObj, World.alloc_eq]
  obtain ⟨g', h1, h2, h3, h4⟩ := hI.alloc (nb := nb) hnb (w1 := w) rfl rfl rfl rfl (cs := (List.replicate n.toNat y).toArray) (T := e) (o := .box (List.replicate n.toNat z)) (cap := 0) (vs := []) List.nil_prefix
    (by rintro c ⟨⟩; exact undL_replicate (V.und_le (Nat.zero_le _) _ hzu) _)
    (fun g' w' hk hC hw => ⟨_, _, hw, RepVs_replicate hone (Rep_keep hk.w _ _ (V.und_le (Nat.zero_le _) _ hzu) hrz) _, hC⟩)
  rw [hrun]
  refine .val g' _ _ h1 ?_ (by simp [V.und]) h2
  simp only [Rep]
  exact ⟨⟨_, get_last H _, by simp⟩, _, _, _, h3, rfl, Nat.le_refl _⟩
end
end Go.Vm
