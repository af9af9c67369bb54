/- All tiles together are as many cells as the size. -/
import Derived.Test.YtekpjmdkihnpeaaPure12
namespace Go.Proofs.Ytekpjmdkihnpeaa
set_option linter.unusedSimpArgs false
set_option linter.unusedVariables false

/-- How many cells the first k tiles have. -/
def tSum (W H : Int) (k : Nat) : Int := W * min (8 * (k / tW W H)) H + min (8 * (k % tW W H)) W * min 8 (H - k / tW W H * 8)
theorem tSum_zero {W H : Int} (h : Rt W H) : tSum W H 0 = 0 := by
  have hb := h.bounds
  unfold tSum
  simp only [Int.natCast_zero, Int.zero_ediv, Int.zero_emod, Int.mul_zero, Int.zero_mul]
  rw [show min (0 : Int) H = 0 by omega, show min (0 : Int) W = 0 by omega]; simp
theorem divmod_succ {k : Nat} {m : Int} (hm : 1 ≤ m) : ((k + 1 : Nat) : Int) / m = k / m ∧ ((k + 1 : Nat) : Int) % m = k % m + 1 ∧ (k : Int) % m + 1 < m ∨ ((k + 1 : Nat) : Int) / m = k / m + 1 ∧ ((k + 1 : Nat) : Int) % m = 0 ∧ (k : Int) % m + 1 = m := by
  have h1 := Int.emod_nonneg (k : Int) (show m ≠ 0 by omega)
  have h2 := Int.emod_lt_of_pos (k : Int) (show 0 < m by omega)
  have h3 := Int.mul_ediv_add_emod (k : Int) m
  by_cases h : (k : Int) % m + 1 < m
  · refine .inl ⟨?_, ?_, h⟩
    · rw [show ((k + 1 : Nat) : Int) = k / m * m + (k % m + 1) by rw [Int.mul_comm]; omega]
      exact xy_div (by omega) h
    · rw [show ((k + 1 : Nat) : Int) = k / m * m + (k % m + 1) by rw [Int.mul_comm]; omega]
      exact xy_mod (by omega) h
  · refine .inr ⟨?_, ?_, by omega⟩
    · rw [show ((k + 1 : Nat) : Int) = (k / m + 1) * m + 0 by rw [Int.add_mul, Int.mul_comm (k / m)]; omega]
      exact xy_div (by omega) (by omega)
    · rw [show ((k + 1 : Nat) : Int) = (k / m + 1) * m + 0 by rw [Int.add_mul, Int.mul_comm (k / m)]; omega]
      exact xy_mod (by omega) (by omega)
theorem tSum_succ {W H : Int} {k : Nat} (h : InT W H k) : tSum W H (k + 1) = tSum W H k + bWd W H k * bHt W H k := by
  obtain ⟨_, _, e3, e4⟩ := box_of h
  have hb := box_bd h
  have hr := h.rtT
  have hw := tW_of hr
  obtain ⟨x1, x2, x3, x4, _⟩ := h.xy
  rw [e3, e4]
  unfold tSum
  have hm : 1 ≤ tW W H := by omega
  rcases divmod_succ (k := k) hm with ⟨d1, d2, d3⟩ | ⟨d1, d2, d3⟩
  · rw [d1, d2]
    generalize (k : Int) / tW W H = j at *
    generalize (k : Int) % tW W H = i at *
    rw [show min (8 * (i + 1)) W = min (8 * i) W + min 8 (W - i * 8) by omega, Int.add_mul]
    omega
  · rw [d1, d2]
    generalize (k : Int) / tW W H = j at *
    generalize (k : Int) % tW W H = i at *
    rw [show min (8 * (j + 1)) H = min (8 * j) H + min 8 (H - j * 8) by omega, Int.mul_add]
    rw [show min (8 * 0) W = 0 by omega, Int.zero_mul]
    have : min (8 * i) W + min 8 (W - i * 8) = W := by omega
    have h2 : (min (8 * i) W + min 8 (W - i * 8)) * min 8 (H - j * 8) = W * min 8 (H - j * 8) := by rw [this]
    rw [Int.add_mul] at h2
    omega
theorem tSum_all {W H : Int} (h : Rt W H) : tSum W H (tCount W H).toNat = W * H := by
  have hb := h.bounds
  have hm : 1 ≤ tW W H := (tRt h).1
  have hn : 1 ≤ tH W H := (tRt h).2.2.1
  have hh := tH_of h
  have hmn := mul_bounds (tRt h).1 (tRt h).2.1 (tRt h).2.2.1 (tRt h).2.2.2.1
  have e : ((tCount W H).toNat : Int) = tH W H * tW W H + 0 := by
    rw [tCount, cnt_yes (tRt h), Int.mul_comm (tH W H)]; omega
  unfold tSum
  rw [e, xy_div (by omega) (by omega), xy_mod (by omega) (by omega)]
  rw [show min (8 * tH W H) H = H by omega, show min (8 * 0) W = 0 by omega, Int.zero_mul]
  omega
theorem inT_of {W H : Int} {k : Nat} (h : (k : Int) < tCount W H) : InT W H k := ⟨by omega, h⟩
theorem box_area {W H t : Int} : 0 ≤ bWd W H t * bHt W H t ∧ bWd W H t * bHt W H t ≤ 64 := by
  obtain ⟨_, _, _, _, q5, q6, q7, q8⟩ := box_bd2 W H t
  refine ⟨Int.mul_nonneg q5 q7, ?_⟩
  have h1 : bWd W H t * bHt W H t ≤ 8 * bHt W H t := Int.mul_le_mul_of_nonneg_right q6 q7
  omega
theorem tSum_le {W H : Int} (h : Rt W H) : ∀ (d k : Nat), (tCount W H).toNat - k = d → (k : Int) ≤ tCount W H → tSum W H k ≤ W * H := by
  intro d
  induction d with
  | zero => intro k hd hk; rw [show k = (tCount W H).toNat by omega, tSum_all h]; omega
  | succ d ih =>
    intro k hd hk
    have h1 := ih (k + 1) (by omega) (by omega)
    rw [tSum_succ (inT_of (by omega))] at h1
    have := (box_area (W := W) (H := H) (t := k)).1
    omega
theorem tSum_nn {W H : Int} (h : Rt W H) : ∀ k : Nat, (k : Int) ≤ tCount W H → 0 ≤ tSum W H k
  | 0, _ => by rw [tSum_zero h]; omega
  | k + 1, hk => by
    rw [tSum_succ (inT_of (by omega))]
    have h1 := tSum_nn h k (by omega)
    have := (box_area (W := W) (H := H) (t := k)).1
    omega
end Go.Proofs.Ytekpjmdkihnpeaa
