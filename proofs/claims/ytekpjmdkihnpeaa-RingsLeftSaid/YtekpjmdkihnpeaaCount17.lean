/- Rings: how many cells; which; the one ahead. -/
import Derived.Test.YtekpjmdkihnpeaaRef17
namespace Go.Proofs.Ytekpjmdkihnpeaa
set_option linter.unusedSimpArgs false
set_option linter.unusedVariables false

theorem mem_ringL {W H c d x : Int} : x ∈ ringL W H c d ↔ 0 ≤ d ∧ away W H c x = d := by
  rw [← pfar_filter, List.mem_filter, mem_ints]
  unfold pfar
  rw [Bool.and_eq_true, decide_eq_true_iff, beq_iff_eq]
  constructor
  · rintro ⟨_, h1, h2⟩; omega
  · rintro ⟨h1, h2⟩
    have h : InC W H c ∧ InC W H x := by
      by_cases h : InC W H c ∧ InC W H x
      · exact h
      · rw [aw_no h] at h2; omega
    have := h.2
    have h3 : x < cnt W H := this.2
    have h4 : 0 ≤ x := this.1
    exact ⟨⟨h4, by omega⟩, by omega, h2⟩

/-- How many in a row at this side. -/
def fr (W x s : Int) : Nat := (if 0 ≤ x - s ∧ x - s < W then 1 else 0) + (if 0 < s ∧ x + s < W then 1 else 0)
theorem fr_le (W x s : Int) : fr W x s ≤ 2 := by unfold fr; split <;> split <;> omega
theorem fr_zero (W x : Int) : fr W x 0 ≤ 1 := by unfold fr; split <;> split <;> omega
theorem row_len (W x y d row : Int) : (ringRow W x y d row).length = fr W x (d - max (row - y) (y - row)) := by
  unfold ringRow fr
  rw [List.length_append]
  congr 1
  · split <;> rfl
  · split <;> rfl
/-- k rows from this side on, inward. -/
def frs (W x : Int) (d : Int) : Nat → Nat
  | 0 => 0
  | k + 1 => frs W x d k + fr W x (d - k)
theorem frs_peel (W x d : Int) (k : Nat) : frs W x d (k + 1) = fr W x d + frs W x (d - 1) k := by
  induction k with
  | zero => simp [frs]
  | succ k ih =>
    rw [frs, ih, frs, show d - 1 - (k : Int) = d - ((k + 1 : Nat) : Int) by omega]; omega
theorem frs_mono (W x d : Int) {a b : Nat} (h : a ≤ b) : frs W x d a ≤ frs W x d b := by
  induction b with
  | zero => obtain rfl : a = 0 := by omega
            exact Nat.le_refl _
  | succ b ih =>
    by_cases hb : a = b + 1
    · rw [hb]; exact Nat.le_refl _
    · have := ih (by omega); rw [frs]; omega

theorem ringTo_app (W x y d r : Int) (a b : Nat) : ringTo W x y d r (a + b) = ringTo W x y d r a ++ ringTo W x y d (r + a) b := by
  induction b with
  | zero => simp [ringTo]
  | succ b ih => rw [← Nat.add_assoc, ringTo, ih, ringTo, List.append_assoc, show r + ((a + b : Nat) : Int) = r + a + b by omega]
theorem below_len (W x y d : Int) (b : Nat) : (ringTo W x y d (y + 1) b).length = frs W x (d - 1) b := by
  induction b with
  | zero => rfl
  | succ b ih => rw [ringTo, List.length_append, ih, row_len, frs]; congr 2; omega
theorem above_len (W x y d : Int) (k : Nat) : (ringTo W x y d (y - k) (k + 1)).length = frs W x d (k + 1) := by
  induction k with
  | zero =>
    show (ringTo W x y d (y - (0 : Nat)) 0 ++ ringRow W x y d (y - (0 : Nat) + (0 : Nat))).length = _
    rw [List.length_append, row_len]
    simp [ringTo, frs]
  | succ k ih =>
    rw [show k + 1 + 1 = 1 + (k + 1) by omega, ringTo_app, List.length_append, show y - ((k + 1 : Nat) : Int) + ((1 : Nat) : Int) = y - k by omega, ih]
    have h1 : (ringTo W x y d (y - ((k + 1 : Nat) : Int)) 1).length = fr W x (d - ((k + 1 : Nat) : Int)) := by
      show (ringTo W x y d (y - ((k + 1 : Nat) : Int)) 0 ++ ringRow W x y d (y - ((k + 1 : Nat) : Int) + (0 : Nat))).length = _
      rw [List.length_append, row_len]
      simp only [ringTo, List.length_nil, Nat.zero_add]
      congr 1; omega
    have h2 : frs W x d (1 + (k + 1)) = frs W x d (k + 1) + fr W x (d - ((k + 1 : Nat) : Int)) := by rw [Nat.add_comm 1 (k + 1)]; rfl
    rw [h1, h2]; omega

/-- A ring's size. -/
theorem ring_size {W H c d : Int} (hc : InC W H c) (h0 : 0 ≤ d) (h1 : d ≤ lastD W H c) :
    (ringL W H c d).length = frs W (c % W) d ((min d (c / W)).toNat + 1) + frs W (c % W) (d - 1) (min d (H - 1 - c / W)).toNat := by
  obtain ⟨x1, x2, y1, y2, _⟩ := hc.xy
  rw [show ringL W H c d = _ from if_pos ⟨hc, h0, h1⟩]
  generalize c % W = x at *
  generalize c / W = y at *
  obtain ⟨k, hk⟩ : ∃ k : Nat, min d y = k := ⟨(min d y).toNat, by omega⟩
  obtain ⟨b, hb⟩ : ∃ b : Nat, min d (H - 1 - y) = b := ⟨(min d (H - 1 - y)).toNat, by omega⟩
  rw [hk, hb, Int.toNat_natCast, Int.toNat_natCast]
  rw [show ringR0 y d = y - k by unfold ringR0; omega, show (ringR1 H y d - (y - (k : Int)) + 1).toNat = (k + 1) + b by unfold ringR1; omega]
  rw [ringTo_app, List.length_append, above_len, show y - (k : Int) + ((k + 1 : Nat) : Int) = y + 1 by omega, below_len]

theorem ring_none {W H c d : Int} (h : ¬ (InC W H c ∧ 0 ≤ d ∧ d ≤ lastD W H c)) : ringL W H c d = [] := if_neg h
/-- At most four more than the one ahead. -/
theorem ring_grow {W H c d : Int} (hd : 1 ≤ d) : (ringL W H c d).length ≤ (ringL W H c (d - 1)).length + 4 := by
  by_cases h : InC W H c ∧ 0 ≤ d ∧ d ≤ lastD W H c
  · obtain ⟨x1, x2, y1, y2, _⟩ := h.1.xy
    rw [ring_size h.1 h.2.1 h.2.2, ring_size h.1 (by omega) (by omega), frs_peel]
    have e1 := fr_le W (c % W) d
    have e2 := fr_le W (c % W) (d - 1)
    generalize c % W = x at *
    generalize c / W = y at *
    have e3 : frs W x (d - 1) (min d y).toNat ≤ frs W x (d - 1) ((min (d - 1) y).toNat + 1) := frs_mono _ _ _ (by omega)
    by_cases hb : (min d (H - 1 - y)).toNat = 0
    · rw [hb]; simp only [frs] at *; omega
    · obtain ⟨b, hb'⟩ : ∃ b, (min d (H - 1 - y)).toNat = b + 1 := ⟨(min d (H - 1 - y)).toNat - 1, by omega⟩
      have e4 : frs W x (d - 1 - 1) b ≤ frs W x (d - 1 - 1) (min (d - 1) (H - 1 - y)).toNat := frs_mono _ _ _ (by omega)
      rw [hb', frs_peel]; omega
  · rw [ring_none h]; simp
theorem ring_zero (W H c : Int) : (ringL W H c 0).length ≤ 1 := by
  by_cases h : InC W H c ∧ 0 ≤ (0 : Int) ∧ (0 : Int) ≤ lastD W H c
  · obtain ⟨x1, x2, y1, y2, _⟩ := h.1.xy
    rw [ring_size h.1 h.2.1 h.2.2]
    rw [show (min 0 (c / W)).toNat = 0 by omega, show (min 0 (H - 1 - c / W)).toNat = 0 by omega]
    have := fr_zero W (c % W)
    simp only [frs]
    simpa using this
  · rw [ring_none h]; simp
theorem ring_neg {W H c d : Int} (h : d < 0) : (ringL W H c d).length = 0 := by rw [ring_none (by omega)]; rfl
theorem ring_one (W H c : Int) : (ringL W H c 1).length ≤ 4 := by
  by_cases h : InC W H c ∧ 0 ≤ (1 : Int) ∧ (1 : Int) ≤ lastD W H c
  · obtain ⟨x1, x2, y1, y2, _⟩ := h.1.xy
    rw [ring_size h.1 h.2.1 h.2.2, frs_peel]
    have e0 := fr_le W (c % W) 1
    have e1 := fr_zero W (c % W)
    have e2 : frs W (c % W) (1 - 1) (min 1 (c / W)).toNat ≤ frs W (c % W) (1 - 1) 1 := frs_mono _ _ _ (by omega)
    have e3 : frs W (c % W) (1 - 1) (min 1 (H - 1 - c / W)).toNat ≤ frs W (c % W) (1 - 1) 1 := frs_mono _ _ _ (by omega)
    have e4 : frs W (c % W) (1 - 1) 1 = fr W (c % W) 0 := by simp [frs]
    omega
  · rw [ring_none h]; simp
theorem ring_four {W H c : Int} (n : Nat) : (ringL W H c (n + 1)).length ≤ 4 * (n + 1) := by
  induction n with
  | zero => exact ring_one W H c
  | succ n ih =>
    have := ring_grow (W := W) (H := H) (c := c) (d := ((n + 1 : Nat) : Int) + 1) (by omega)
    rw [show (((n + 1 : Nat) : Int) + 1 - 1) = (n : Int) + 1 by omega] at this
    omega
/-- Where a ring has cells, the one ahead has. -/
theorem ring_ahead {W H c d : Int} (hd : 1 ≤ d) (h : (ringL W H c d).length ≠ 0) : 0 < (ringL W H c (d - 1)).length := by
  obtain ⟨e, he⟩ : ∃ e, e ∈ ringL W H c d := by
    cases hl : ringL W H c d with
    | nil => rw [hl] at h; exact absurd rfl h
    | cons a l => exact ⟨a, by simp⟩
  have ha := (mem_ringL.1 he).2
  have hin : InC W H c ∧ InC W H e := by
    by_cases h : InC W H c ∧ InC W H e
    · exact h
    · rw [aw_no h] at ha; omega
  obtain ⟨hc, hin⟩ := hin
  have hr := hc.rt
  obtain ⟨x1, x2, y1, y2, _⟩ := hc.xy
  obtain ⟨u1, u2, v1, v2, _⟩ := hin.xy
  rw [aw_of hc hin] at ha
  have key : ∀ (x y : Int), 0 ≤ x → x < W → 0 ≤ y → y < H → max (c % W - x) (x - c % W) + max (c / W - y) (y - c / W) = d - 1 → 0 < (ringL W H c (d - 1)).length := by
    intro x y h1 h2 h3 h4 h5
    obtain ⟨i1, i2, i3⟩ := inC_of hr h1 h2 h3 h4
    have : y * W + x ∈ ringL W H c (d - 1) := mem_ringL.2 ⟨by omega, by rw [aw_of hc i1, i2, i3]; exact h5⟩
    exact List.length_pos_of_mem this
  by_cases a1 : e % W < c % W
  · exact key (e % W + 1) (e / W) (by omega) (by omega) (by omega) (by omega) (by omega)
  · by_cases a2 : c % W < e % W
    · exact key (e % W - 1) (e / W) (by omega) (by omega) (by omega) (by omega) (by omega)
    · by_cases a3 : e / W < c / W
      · exact key (e % W) (e / W + 1) (by omega) (by omega) (by omega) (by omega) (by omega)
      · exact key (e % W) (e / W - 1) (by omega) (by omega) (by omega) (by omega) (by omega)
theorem ring_len (W H c d : Int) : ((ringL W H c d).length : Int) ≤ cnt W H ∨ (ringL W H c d).length = 0 := by
  rw [← pfar_filter]
  have := List.length_filter_le (pfar W H c d) (ints 0 (cnt W H).toNat)
  rw [ints_len] at this
  omega
/-- The law's last row. -/
theorem ring_law {W H c d : Int} (hd : 1 ≤ d) (hn : cnt W H ≤ 300) :
    ((ringL W H c d).length : Int) ≤ (ringL W H c (d - 1)).length + 4 ∧ ((ringL W H c d).length : Int) ≤ 4 * min d 5000 ∧ ((ringL W H c d).length = 0 ∨ 0 < (ringL W H c (d - 1)).length) ∧ (ringL W H c d).length ≤ 300 ∧ (ringL W H c (d - 1)).length ≤ 300 := by
  have h1 := ring_grow (W := W) (H := H) (c := c) hd
  have h2 := ring_four (W := W) (H := H) (c := c) (d - 1).toNat
  rw [show (((d - 1).toNat : Nat) : Int) + 1 = d by omega] at h2
  have h3 := ring_ahead (W := W) (H := H) (c := c) hd
  have h4 := ring_len W H c d
  have h5 := ring_len W H c (d - 1)
  omega
theorem ring_back {W H c d x : Int} (h : x ∈ ringL W H c d) : c ∈ ringL W H x d := by
  have := mem_ringL.1 h
  exact mem_ringL.2 ⟨this.1, by rw [aw_comm]; exact this.2⟩
end Go.Proofs.Ytekpjmdkihnpeaa
