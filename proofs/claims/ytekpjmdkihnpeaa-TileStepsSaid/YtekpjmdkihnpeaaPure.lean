/- The plain mathematics of chapters 1, 12 and 17: sizes, cells, columns and rows. -/
namespace Go.Proofs.Ytekpjmdkihnpeaa
set_option linter.unusedSimpArgs false
set_option linter.unusedVariables false

/-- Whether a size may be. -/
def Rt (W H : Int) : Prop := 1 ≤ W ∧ W ≤ 4096 ∧ 1 ≤ H ∧ H ≤ 4096 ∧ W * H ≤ 4194304
instance (W H : Int) : Decidable (Rt W H) := by unfold Rt; infer_instance
def rtB (W H : Int) : Bool := decide (Rt W H)
/-- How many cells. -/
def cnt (W H : Int) : Int := if Rt W H then W * H else 0
/-- Is it a cell's number? -/
def InC (W H c : Int) : Prop := 0 ≤ c ∧ c < cnt W H
instance (W H c : Int) : Decidable (InC W H c) := by unfold InC; infer_instance
/-- Is it a column and row? -/
def InXY (W H x y : Int) : Prop := Rt W H ∧ 0 ≤ x ∧ x < W ∧ 0 ≤ y ∧ y < H
instance (W H x y : Int) : Decidable (InXY W H x y) := by unfold InXY; infer_instance

theorem mul_bounds {W H : Int} (h1 : 1 ≤ W) (h2 : W ≤ 4096) (h3 : 1 ≤ H) (h4 : H ≤ 4096) : 1 ≤ W * H ∧ W * H ≤ 16777216 ∧ W ≤ W * H ∧ H ≤ W * H := by
  have a : W * 1 ≤ W * H := Int.mul_le_mul_of_nonneg_left h3 (by omega)
  have b : W * H ≤ W * 4096 := Int.mul_le_mul_of_nonneg_left h4 (by omega)
  have c : 1 * H ≤ W * H := Int.mul_le_mul_of_nonneg_right h1 (by omega)
  omega

theorem Rt.bounds {W H : Int} (h : Rt W H) : 1 ≤ W ∧ W ≤ 4096 ∧ 1 ≤ H ∧ H ≤ 4096 ∧ 1 ≤ W * H ∧ W * H ≤ 4194304 ∧ W ≤ W * H ∧ H ≤ W * H := by
  obtain ⟨h1, h2, h3, h4, h5⟩ := h
  have := mul_bounds h1 h2 h3 h4
  omega

theorem cnt_yes {W H : Int} (h : Rt W H) : cnt W H = W * H := if_pos h
theorem cnt_no {W H : Int} (h : ¬ Rt W H) : cnt W H = 0 := if_neg h
theorem cnt_bd (W H : Int) : 0 ≤ cnt W H ∧ cnt W H ≤ 4194304 := by
  by_cases h : Rt W H
  · rw [cnt_yes h]; have := h.bounds; omega
  · rw [cnt_no h]; omega
theorem cnt_pos {W H : Int} : 0 < cnt W H ↔ Rt W H := by
  by_cases h : Rt W H
  · rw [cnt_yes h]; have := h.bounds; simp [h]; omega
  · rw [cnt_no h]; simp [h]
theorem InC.rt {W H c : Int} (h : InC W H c) : Rt W H := by
  by_cases hr : Rt W H
  · exact hr
  · have := h.1; have := h.2; rw [cnt_no hr] at this; omega
theorem InC.bounds {W H c : Int} (h : InC W H c) : 1 ≤ W ∧ W ≤ 4096 ∧ 1 ≤ H ∧ H ≤ 4096 ∧ 0 ≤ c ∧ c < W * H ∧ W * H ≤ 4194304 := by
  have hr := h.rt
  have := hr.bounds
  obtain ⟨h1, h2⟩ := h
  rw [cnt_yes hr] at h2
  omega
theorem InC.xy {W H c : Int} (h : InC W H c) : 0 ≤ c % W ∧ c % W < W ∧ 0 ≤ c / W ∧ c / W < H ∧ c / W * W + c % W = c := by
  have b := h.bounds
  refine ⟨Int.emod_nonneg _ (by omega), Int.emod_lt_of_pos _ (by omega), Int.ediv_nonneg (by omega) (by omega), ?_, ?_⟩
  · exact Int.ediv_lt_of_lt_mul (by omega) (by rw [Int.mul_comm]; omega)
  · rw [Int.mul_comm]; exact Int.mul_ediv_add_emod c W
theorem InC.inXY {W H c : Int} (h : InC W H c) : InXY W H (c % W) (c / W) := by
  have := h.xy; exact ⟨h.rt, by omega, by omega, by omega, by omega⟩
theorem xy_bounds {W x y H : Int} (hy : 0 ≤ y) (hyH : y < H) (hx : 0 ≤ x) (hxW : x < W) : 0 ≤ y * W ∧ y * W + x < W * H ∧ y * W ≤ H * W - W := by
  have a : 0 * W ≤ y * W := Int.mul_le_mul_of_nonneg_right hy (by omega)
  have b : (y + 1) * W ≤ H * W := Int.mul_le_mul_of_nonneg_right (by omega) (by omega)
  rw [Int.add_mul] at b
  rw [Int.mul_comm W H]
  omega
theorem InXY.inC {W H x y : Int} (h : InXY W H x y) : InC W H (y * W + x) := by
  obtain ⟨hr, h1, h2, h3, h4⟩ := h
  have := xy_bounds h3 h4 h1 h2
  exact ⟨by omega, by rw [cnt_yes hr]; omega⟩
theorem xy_mod {W x y : Int} (hx : 0 ≤ x) (hxW : x < W) : (y * W + x) % W = x := by
  rw [Int.add_comm, Int.add_mul_emod_self_right]; exact Int.emod_eq_of_lt hx hxW
theorem xy_div {W x y : Int} (hx : 0 ≤ x) (hxW : x < W) : (y * W + x) / W = y := by
  rw [Int.add_comm, Int.add_mul_ediv_right _ _ (by omega)]; rw [Int.ediv_eq_zero_of_lt hx hxW]; omega

/-- How far two cells are; -1: one is none. -/
def away (W H a b : Int) : Int :=
  if InC W H a ∧ InC W H b then max (a % W - b % W) (b % W - a % W) + max (a / W - b / W) (b / W - a / W) else -1

/-- What is beside a cell. -/
def nearL (W H c : Int) : List Int :=
  if InC W H c then (if 0 < c / W then [c - W] else []) ++ (if 0 < c % W then [c - 1] else []) ++ (if c % W < W - 1 then [c + 1] else []) ++ (if c / W < H - 1 then [c + W] else [])
  else []

theorem ite_len (p : Prop) [Decidable p] (v : Int) : (if p then [v] else ([] : List Int)).length ≤ 1 := by split <;> simp
theorem nearL_len (W H c : Int) : (nearL W H c).length ≤ 4 := by
  unfold nearL
  by_cases h : InC W H c
  · rw [if_pos h]
    simp only [List.length_append]
    have h1 := ite_len (0 < c / W) (c - W)
    have h2 := ite_len (0 < c % W) (c - 1)
    have h3 := ite_len (c % W < W - 1) (c + 1)
    have h4 := ite_len (c / W < H - 1) (c + W)
    omega
  · rw [if_neg h]; simp
/-- A cell's column, its row, and whether it is one. -/
def atX (W H c : Int) : Int := if InC W H c then c % W else 0
def atY (W H c : Int) : Int := if InC W H c then c / W else 0
def atB (W H c : Int) : Bool := decide (InC W H c)
/-- A column and row's number, and whether they are any's. -/
def ixV (W H x y : Int) : Int := if InXY W H x y then y * W + x else 0
def ixB (W H x y : Int) : Bool := decide (InXY W H x y)

/-- The four ways. -/
def dxs : Nat → Int | 0 => 0 | 1 => -1 | 2 => 1 | _ => 0
def dys : Nat → Int | 0 => -1 | 1 => 0 | 2 => 0 | _ => 1
/-- What one way leads to. -/
def way1 (W H x y : Int) (i : Nat) : List Int := if InXY W H (x + dxs i) (y + dys i) then [(y + dys i) * W + (x + dxs i)] else []
/-- What the first k ways lead to. -/
def nearP (W H x y : Int) : Nat → List Int
  | 0 => []
  | k + 1 => nearP W H x y k ++ way1 W H x y k
theorem nearP_step (W H x y : Int) (k : Nat) (hk : k < 4) : ∃ post, nearP W H x y 4 = nearP W H x y k ++ (way1 W H x y k ++ post) := by
  rcases k with _ | _ | _ | _ | k
  · exact ⟨way1 W H x y 1 ++ (way1 W H x y 2 ++ way1 W H x y 3), by simp [nearP]⟩
  · exact ⟨way1 W H x y 2 ++ way1 W H x y 3, by simp [nearP]⟩
  · exact ⟨way1 W H x y 3, by simp [nearP]⟩
  · exact ⟨[], by simp [nearP]⟩
  · omega
theorem way1_yes {W H x y : Int} {i : Nat} (h : InXY W H (x + dxs i) (y + dys i)) : way1 W H x y i = [(y + dys i) * W + (x + dxs i)] := if_pos h
theorem way1_no {W H x y : Int} {i : Nat} (h : ¬ InXY W H (x + dxs i) (y + dys i)) : way1 W H x y i = [] := if_neg h
theorem nearP_all {W H c : Int} (h : InC W H c) : nearP W H (c % W) (c / W) 4 = nearL W H c := by
  have hr := h.rt
  obtain ⟨h1, h2, h3, h4, h5⟩ := h.xy
  have e : nearL W H c = _ := if_pos h
  rw [e]
  generalize c % W = x at *
  generalize c / W = y at *
  have key : ∀ (i : Nat) (v : Int) (p : Prop) [Decidable p], (InXY W H (x + dxs i) (y + dys i) ↔ p) → (p → (y + dys i) * W + (x + dxs i) = v) → way1 W H x y i = if p then [v] else [] := by
    intro i v p _ hp hv
    by_cases q : p
    · rw [if_pos q, way1_yes (hp.2 q), hv q]
    · rw [if_neg q, way1_no (fun h => q (hp.1 h))]
  have k0 : way1 W H x y 0 = if 0 < y then [c - W] else [] := key 0 _ _ (by simp only [InXY, dxs, dys]; constructor <;> intro h <;> first | omega | exact ⟨hr, by omega, by omega, by omega, by omega⟩) (fun _ => by simp only [dxs, dys]; rw [Int.add_mul]; omega)
  have k1 : way1 W H x y 1 = if 0 < x then [c - 1] else [] := key 1 _ _ (by simp only [InXY, dxs, dys]; constructor <;> intro h <;> first | omega | exact ⟨hr, by omega, by omega, by omega, by omega⟩) (fun _ => by simp only [dxs, dys]; rw [Int.add_mul]; omega)
  have k2 : way1 W H x y 2 = if x < W - 1 then [c + 1] else [] := key 2 _ _ (by simp only [InXY, dxs, dys]; constructor <;> intro h <;> first | omega | exact ⟨hr, by omega, by omega, by omega, by omega⟩) (fun _ => by simp only [dxs, dys]; rw [Int.add_mul]; omega)
  have k3 : way1 W H x y 3 = if y < H - 1 then [c + W] else [] := key 3 _ _ (by simp only [InXY, dxs, dys]; constructor <;> intro h <;> first | omega | exact ⟨hr, by omega, by omega, by omega, by omega⟩) (fun _ => by simp only [dxs, dys]; rw [Int.add_mul]; omega)
  simp only [nearP, k0, k1, k2, k3, List.nil_append]
end Go.Proofs.Ytekpjmdkihnpeaa
