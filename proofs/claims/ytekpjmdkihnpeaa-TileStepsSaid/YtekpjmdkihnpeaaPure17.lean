/- The plain mathematics of chapter 17: rings. -/
import Derived.Test.YtekpjmdkihnpeaaPure2
namespace Go.Proofs.Ytekpjmdkihnpeaa
set_option linter.unusedSimpArgs false
set_option linter.unusedVariables false

/-- The greatest distance. -/
def lastD (W H c : Int) : Int := if InC W H c then max (c % W) (W - 1 - c % W) + max (c / W) (H - 1 - c / W) else -1
/-- A ring's cells in one row. -/
def ringRow (W x y d row : Int) : List Int :=
  (if 0 ≤ x - (d - max (row - y) (y - row)) ∧ x - (d - max (row - y) (y - row)) < W then [row * W + (x - (d - max (row - y) (y - row)))] else []) ++
  (if 0 < d - max (row - y) (y - row) ∧ x + (d - max (row - y) (y - row)) < W then [row * W + (x + (d - max (row - y) (y - row)))] else [])
/-- Of k rows from r on. -/
def ringTo (W x y d r : Int) : Nat → List Int
  | 0 => []
  | k + 1 => ringTo W x y d r k ++ ringRow W x y d (r + k)
def ringR0 (y d : Int) : Int := max (y - d) 0
def ringR1 (H y d : Int) : Int := min (y + d) (H - 1)
def ringL (W H c d : Int) : List Int :=
  if InC W H c ∧ 0 ≤ d ∧ d ≤ lastD W H c then ringTo W (c % W) (c / W) d (ringR0 (c / W) d) (ringR1 H (c / W) d - ringR0 (c / W) d + 1).toNat else []

theorem ringTo_split (W x y d r : Int) (k n : Nat) (h : k < n) : ∃ post, ringTo W x y d r n = ringTo W x y d r k ++ (ringRow W x y d (r + k) ++ post) := by
  induction n with
  | zero => omega
  | succ n ih =>
    by_cases hk : k = n
    · subst hk; exact ⟨[], by simp [ringTo]⟩
    · obtain ⟨post, hp⟩ := ih (by omega)
      exact ⟨post ++ ringRow W x y d (r + n), by simp [ringTo, hp]⟩
theorem lastD_of {W H c : Int} (h : InC W H c) : lastD W H c = max (c % W) (W - 1 - c % W) + max (c / W) (H - 1 - c / W) := if_pos h
theorem lastD_no {W H c : Int} (h : ¬ InC W H c) : lastD W H c = -1 := if_neg h
theorem lastD_bd (W H c : Int) : -1 ≤ lastD W H c ∧ lastD W H c ≤ 8190 := by
  by_cases h : InC W H c
  · rw [lastD_of h]; have := h.xy; have := h.bounds; omega
  · rw [lastD_no h]; omega
theorem lastD_nn {W H c : Int} (h : InC W H c) : 0 ≤ lastD W H c := by rw [lastD_of h]; have := h.xy; omega

/-! ### A ring is: all cells that are so far, in their order -/
/-- The numbers from a on, m of them. -/
def ints (a : Int) : Nat → List Int
  | 0 => []
  | m + 1 => a :: ints (a + 1) m
theorem ints_append (a : Int) (m k : Nat) : ints a (m + k) = ints a m ++ ints (a + m) k := by
  induction m generalizing a with
  | zero => simp [ints]
  | succ m ih => rw [show m + 1 + k = (m + k) + 1 by omega]; simp only [ints, List.cons_append]; rw [ih]; rw [show a + 1 + (m : Int) = a + ((m + 1 : Nat) : Int) by omega]
theorem ints_snoc (a : Int) (m : Nat) : ints a (m + 1) = ints a m ++ [a + m] := by rw [ints_append]; rfl
theorem mem_ints {a x : Int} {m : Nat} : x ∈ ints a m ↔ a ≤ x ∧ x < a + m := by
  induction m generalizing a with
  | zero => simp only [ints, List.not_mem_nil, false_iff]; omega
  | succ m ih => simp only [ints, List.mem_cons, ih]; omega
theorem ints_len (a : Int) (m : Nat) : (ints a m).length = m := by
  induction m generalizing a with
  | zero => rfl
  | succ m ih => simp [ints, ih]

/-- A filter that lets through none, one, two of a row. -/
theorem filter_none {p : Int → Bool} {a : Int} {m : Nat} (h : ∀ x, a ≤ x → x < a + m → p x = false) : (ints a m).filter p = [] := by
  rw [List.filter_eq_nil_iff]
  intro x hx
  have := mem_ints.1 hx
  simp [h x this.1 this.2]
theorem filter_one {p : Int → Bool} {a u : Int} {m : Nat} (h0 : a ≤ u) (h1 : u < a + m) (h : ∀ x, a ≤ x → x < a + m → (p x = true ↔ x = u)) : (ints a m).filter p = [u] := by
  obtain ⟨i, rfl⟩ : ∃ i : Nat, u = a + i := ⟨(u - a).toNat, by omega⟩
  obtain ⟨j, rfl⟩ : ∃ j : Nat, m = i + (1 + j) := ⟨m - i - 1, by omega⟩
  rw [ints_append, ints_append, List.filter_append, List.filter_append]
  have e1 : (ints a i).filter p = [] := filter_none (fun x hx1 hx2 => by
    have := h x (by omega) (by omega)
    cases hp : p x with
    | false => rfl
    | true => have := this.1 hp; omega)
  have e2 : (ints (a + i) 1).filter p = [a + i] := by
    have := (h (a + i) (by omega) (by omega)).2 rfl
    simp [ints, this]
  have e3 : (ints (a + i + (1 : Nat)) j).filter p = [] := filter_none (fun x hx1 hx2 => by
    have := h x (by omega) (by omega)
    cases hp : p x with
    | false => rfl
    | true => have := this.1 hp; omega)
  rw [e1, e2, e3]; rfl
theorem filter_two {p : Int → Bool} {a u v : Int} {m : Nat} (h0 : a ≤ u) (huv : u < v) (h1 : v < a + m) (h : ∀ x, a ≤ x → x < a + m → (p x = true ↔ (x = u ∨ x = v))) : (ints a m).filter p = [u, v] := by
  obtain ⟨i, hi⟩ : ∃ i : Nat, v = a + i := ⟨(v - a).toNat, by omega⟩
  obtain ⟨j, rfl⟩ : ∃ j : Nat, m = i + j := ⟨m - i, by omega⟩
  rw [ints_append, List.filter_append]
  rw [filter_one (u := u) h0 (by omega) (fun x hx1 hx2 => by rw [h x hx1 (by omega)]; omega), filter_one (u := v) (by omega) (by omega) (fun x hx1 hx2 => by rw [h x (by omega) (by omega)]; omega)]
  rfl

/-- In one row: those that are so far. -/
theorem row_filter {W H c d row : Int} (hc : InC W H c) (h0 : 0 ≤ row) (h1 : row < H) (hd : max (row - c / W) (c / W - row) ≤ d) :
    (ints (row * W) W.toNat).filter (fun x => decide (away W H c x = d)) = ringRow W (c % W) (c / W) d row := by
  have hr := hc.rt
  have hb := hc.bounds
  obtain ⟨x1, x2, y1, y2, _⟩ := hc.xy
  have key : ∀ x, row * W ≤ x → x < row * W + W.toNat → (decide (away W H c x = d) = true ↔ (x = row * W + (c % W - (d - max (row - c / W) (c / W - row))) ∨ x = row * W + (c % W + (d - max (row - c / W) (c / W - row))))) := by
    intro x hx1 hx2
    obtain ⟨i1, i2, i3⟩ := inC_of (W := W) (H := H) (x := x - row * W) (y := row) hr (by omega) (by omega) h0 h1
    rw [show row * W + (x - row * W) = x by omega] at i1 i2 i3
    rw [decide_eq_true_iff, aw_of hc i1, i2, i3]
    omega
  unfold ringRow
  generalize hs : d - max (row - c / W) (c / W - row) = s at *
  have hs0 : 0 ≤ s := by omega
  by_cases hl : 0 ≤ c % W - s
  · by_cases h2 : 0 < s ∧ c % W + s < W
    · rw [if_pos ⟨hl, by omega⟩, if_pos h2]
      exact filter_two (by omega) (by omega) (by omega) key
    · rw [if_pos ⟨hl, by omega⟩, if_neg h2]
      exact filter_one (by omega) (by omega) (fun x hx1 hx2 => by rw [key x hx1 hx2]; omega)
  · by_cases h2 : 0 < s ∧ c % W + s < W
    · rw [if_neg (by omega), if_pos h2]
      exact filter_one (by omega) (by omega) (fun x hx1 hx2 => by rw [key x hx1 hx2]; omega)
    · rw [if_neg (by omega), if_neg h2]
      exact filter_none (fun x hx1 hx2 => by
        cases hp : decide (away W H c x = d) with
        | false => rfl
        | true => have := (key x hx1 hx2).1 hp; omega)
theorem row_far {W H c d row : Int} (hc : InC W H c) (h0 : 0 ≤ row) (h1 : row < H) (hd : d < max (row - c / W) (c / W - row)) :
    (ints (row * W) W.toNat).filter (fun x => decide (away W H c x = d)) = [] := by
  have hr := hc.rt
  have hb := hc.bounds
  refine filter_none (fun x hx1 hx2 => ?_)
  obtain ⟨i1, i2, i3⟩ := inC_of (W := W) (H := H) (x := x - row * W) (y := row) hr (by omega) (by omega) h0 h1
  rw [show row * W + (x - row * W) = x by omega] at i1 i2 i3
  rw [decide_eq_false_iff_not, aw_of hc i1, i2, i3]
  omega

/-- The rows of a grid, one behind the other. -/
theorem rows_filter {W : Int} (hW : 0 ≤ W) (p : Int → Bool) (f : Int → List Int) (r : Int) : ∀ (k : Nat), (∀ i : Nat, i < k → (ints ((r + i) * W) W.toNat).filter p = f (r + i)) →
    (ints (r * W) (k * W.toNat)).filter p = (List.range k).flatMap (fun (i : Nat) => f (r + (i : Int)))
  | 0, _ => by simp [ints]
  | k + 1, h => by
    rw [show (k + 1) * W.toNat = k * W.toNat + W.toNat by rw [Nat.add_mul]; omega, ints_append, List.filter_append, rows_filter hW p f r k (fun i hi => h i (by omega)), List.range_succ, List.flatMap_append]
    have := h k (by omega)
    rw [show (r + (k : Int)) * W = r * W + ((k * W.toNat : Nat) : Int) by rw [Int.add_mul, Int.natCast_mul]; congr 2; omega] at this
    rw [this]; simp
theorem ringTo_flat (W x y d r : Int) : ∀ (k : Nat), ringTo W x y d r k = (List.range k).flatMap (fun (i : Nat) => ringRow W x y d (r + (i : Int)))
  | 0 => by simp [ringTo]
  | k + 1 => by rw [ringTo, ringTo_flat W x y d r k, List.range_succ, List.flatMap_append]; simp
theorem flat_congr {f g : Nat → List Int} : ∀ {l : List Nat}, (∀ i ∈ l, f i = g i) → l.flatMap f = l.flatMap g
  | [], _ => rfl
  | a :: l, h => by rw [List.flatMap_cons, List.flatMap_cons, h a (by simp), flat_congr (fun i hi => h i (by simp [hi]))]
theorem flat_none {f : Int → List Int} {r : Int} {k : Nat} (h : ∀ i : Nat, i < k → f (r + i) = []) : (List.range k).flatMap (fun (i : Nat) => f (r + (i : Int))) = [] := by
  rw [List.flatMap_eq_nil_iff]; intro i hi; exact h i (List.mem_range.1 hi)
theorem flat_split (f : Int → List Int) (r : Int) (a b : Nat) : (List.range (a + b)).flatMap (fun (i : Nat) => f (r + (i : Int))) = (List.range a).flatMap (fun (i : Nat) => f (r + (i : Int))) ++ (List.range b).flatMap (fun (i : Nat) => f (r + a + (i : Int))) := by
  induction b with
  | zero => simp
  | succ b ih => rw [← Nat.add_assoc, List.range_succ, List.flatMap_append, ih, List.range_succ, List.flatMap_append, List.append_assoc]; simp; congr 1; omega

/-- All cells that are so far. -/
def farL (W H c d : Int) : List Int := (ints 0 (cnt W H).toNat).filter (fun x => decide (away W H c x = d))

theorem farL_eq {W H c d : Int} (hd : 0 ≤ d) : farL W H c d = ringL W H c d := by
  unfold farL ringL
  by_cases hc : InC W H c
  · have hr := hc.rt
    have hb := hc.bounds
    obtain ⟨x1, x2, y1, y2, _⟩ := hc.xy
    have hcn : (cnt W H).toNat = H.toNat * W.toNat := by
      rw [cnt_yes hr, Int.mul_comm]
      have : H * W = ((H.toNat * W.toNat : Nat) : Int) := by rw [Int.natCast_mul]; congr 1 <;> omega
      rw [this]; exact Int.toNat_natCast _
    obtain ⟨f, hf⟩ : ∃ f : Int → List Int, ∀ row, f row = if max (row - c / W) (c / W - row) ≤ d then ringRow W (c % W) (c / W) d row else [] := ⟨_, fun _ => rfl⟩
    have hrow : ∀ i : Nat, i < H.toNat → (ints ((0 + i) * W) W.toNat).filter (fun x => decide (away W H c x = d)) = f (0 + i) := by
      intro i hi
      rw [hf]
      by_cases h : max ((0 + (i : Int)) - c / W) (c / W - (0 + (i : Int))) ≤ d
      · simp only [if_pos h]; exact row_filter hc (by omega) (by omega) h
      · simp only [if_neg h]; exact row_far hc (by omega) (by omega) (by omega)
    have := rows_filter (W := W) (by omega) (fun x => decide (away W H c x = d)) f 0 H.toNat hrow
    rw [Int.zero_mul] at this
    rw [hcn, this]
    by_cases hl : d ≤ lastD W H c
    · rw [if_pos ⟨hc, hd, hl⟩, ringTo_flat]
      have e0 : 0 ≤ ringR0 (c / W) d ∧ ringR0 (c / W) d ≤ c / W := by unfold ringR0; omega
      have e1 : c / W ≤ ringR1 H (c / W) d ∧ ringR1 H (c / W) d < H := by unfold ringR1; omega
      obtain ⟨a, ha⟩ : ∃ a : Nat, ringR0 (c / W) d = a := ⟨(ringR0 (c / W) d).toNat, by omega⟩
      obtain ⟨b, hb'⟩ : ∃ b : Nat, ringR1 H (c / W) d - ringR0 (c / W) d + 1 = b := ⟨(ringR1 H (c / W) d - ringR0 (c / W) d + 1).toNat, by omega⟩
      obtain ⟨e, he⟩ : ∃ e : Nat, H.toNat = a + (b + e) := ⟨H.toNat - a - b, by omega⟩
      rw [he, flat_split, flat_split]
      rw [flat_none (k := a) (r := 0) (fun i hi => by rw [hf, if_neg]; unfold ringR0 at ha; omega)]
      rw [flat_none (k := e) (fun i hi => by rw [hf, if_neg]; unfold ringR0 at ha; unfold ringR0 ringR1 at hb'; omega)]
      rw [hb', ha]
      simp only [List.nil_append, List.append_nil, Int.toNat_natCast]
      refine flat_congr (fun i hi => ?_)
      have hi := List.mem_range.1 hi
      rw [hf, if_pos (by unfold ringR0 at ha; unfold ringR0 ringR1 at hb'; omega)]
      rw [show (0 : Int) + (a : Int) + (i : Int) = (a : Int) + (i : Int) by omega]
    · rw [if_neg (fun h => hl h.2.2)]
      rw [List.flatMap_eq_nil_iff]
      intro i hi
      have hi := List.mem_range.1 hi
      rw [hf]
      by_cases h : max ((0 + (i : Int)) - c / W) (c / W - (0 + (i : Int))) ≤ d
      · simp only [if_pos h]
        rw [lastD_of hc] at hl
        unfold ringRow
        rw [if_neg (by omega), if_neg (by omega)]; rfl
      · simp only [if_neg h]
  · rw [if_neg (fun h => hc h.1)]
    rw [List.filter_eq_nil_iff]
    intro x _
    rw [aw_no (fun h => hc h.1)]
    simp; omega
end Go.Proofs.Ytekpjmdkihnpeaa
