/- More plain mathematics of chapter 1: how far, and what is beside. -/
import Derived.Test.YtekpjmdkihnpeaaPure
namespace Go.Proofs.Ytekpjmdkihnpeaa
set_option linter.unusedSimpArgs false
set_option linter.unusedVariables false

theorem aw_of {W H a b : Int} (ha : InC W H a) (hb : InC W H b) : away W H a b = max (a % W - b % W) (b % W - a % W) + max (a / W - b / W) (b / W - a / W) := if_pos ⟨ha, hb⟩
theorem aw_no {W H a b : Int} (h : ¬ (InC W H a ∧ InC W H b)) : away W H a b = -1 := if_neg h
theorem aw_cases (W H a b : Int) : (InC W H a ∧ InC W H b ∧ 0 ≤ away W H a b ∧ away W H a b ≤ 8190) ∨ (¬ (InC W H a ∧ InC W H b) ∧ away W H a b = -1) := by
  by_cases h : InC W H a ∧ InC W H b
  · obtain ⟨ha, hb⟩ := h
    have h1 := ha.xy; have h2 := hb.xy; have h3 := ha.bounds
    rw [aw_of ha hb]
    exact .inl ⟨ha, hb, by omega, by omega⟩
  · exact .inr ⟨h, aw_no h⟩
theorem aw_lo (W H a b : Int) : -1 ≤ away W H a b ∧ away W H a b ≤ 8190 := by
  rcases aw_cases W H a b with h | h <;> omega
theorem aw_comm (W H a b : Int) : away W H a b = away W H b a := by
  by_cases h : InC W H a ∧ InC W H b
  · rw [aw_of h.1 h.2, aw_of h.2 h.1]; omega
  · rw [aw_no h, aw_no (fun h' => h ⟨h'.2, h'.1⟩)]
theorem aw_zero {W H a b : Int} (h : away W H a b = 0) : a = b := by
  rcases aw_cases W H a b with ⟨ha, hb, _⟩ | h'
  · rw [aw_of ha hb] at h
    have h1 := ha.xy; have h2 := hb.xy
    have e1 : a % W = b % W := by omega
    have e2 : a / W = b / W := by omega
    rw [e1, e2] at h1
    omega
  · omega
theorem aw_tri {W H a b c : Int} (h1 : 0 ≤ away W H a b) (h2 : 0 ≤ away W H b c) : 0 ≤ away W H a c ∧ away W H a c ≤ away W H a b + away W H b c := by
  rcases aw_cases W H a b with ⟨ha, hb, _⟩ | h
  · rcases aw_cases W H b c with ⟨_, hc, _⟩ | h
    · rw [aw_of ha hb, aw_of hb hc, aw_of ha hc]; omega
    · omega
  · omega

/-- A cell by its column and row. -/
theorem inC_of {W H x y : Int} (hr : Rt W H) (h1 : 0 ≤ x) (h2 : x < W) (h3 : 0 ≤ y) (h4 : y < H) : InC W H (y * W + x) ∧ (y * W + x) % W = x ∧ (y * W + x) / W = y :=
  ⟨InXY.inC ⟨hr, h1, h2, h3, h4⟩, xy_mod h1 h2, xy_div h1 h2⟩

theorem mem_ite {p : Prop} [Decidable p] {v b : Int} : b ∈ (if p then [v] else ([] : List Int)) ↔ p ∧ b = v := by
  by_cases h : p <;> simp [h]

theorem mem_near_iff {W H a b : Int} (ha : InC W H a) : b ∈ nearL W H a ↔ (0 < a / W ∧ b = a - W) ∨ (0 < a % W ∧ b = a - 1) ∨ (a % W < W - 1 ∧ b = a + 1) ∨ (a / W < H - 1 ∧ b = a + W) := by
  have e : nearL W H a = _ := if_pos ha
  rw [e]
  simp only [List.mem_append, mem_ite, or_assoc]

/-- What a neighbour's column and row are. -/
theorem near_xy {W H a b : Int} (ha : InC W H a) (h : b ∈ nearL W H a) : InC W H b ∧
    ((0 < a / W ∧ b = a - W ∧ b % W = a % W ∧ b / W = a / W - 1) ∨ (0 < a % W ∧ b = a - 1 ∧ b % W = a % W - 1 ∧ b / W = a / W) ∨ (a % W < W - 1 ∧ b = a + 1 ∧ b % W = a % W + 1 ∧ b / W = a / W) ∨ (a / W < H - 1 ∧ b = a + W ∧ b % W = a % W ∧ b / W = a / W + 1)) := by
  have hr := ha.rt
  have hb := ha.bounds
  obtain ⟨h1, h2, h3, h4, h5⟩ := ha.xy
  generalize hx : a % W = x at *
  generalize hy : a / W = y at *
  rw [mem_near_iff ha, hx, hy] at h
  rcases h with ⟨q, e⟩ | ⟨q, e⟩ | ⟨q, e⟩ | ⟨q, e⟩
  · obtain ⟨i1, i2, i3⟩ := inC_of (x := x) (y := y - 1) hr h1 h2 (by omega) (by omega)
    have : (y - 1) * W + x = b := by rw [Int.sub_mul]; omega
    rw [this] at i1 i2 i3
    exact ⟨i1, .inl ⟨q, e, i2, i3⟩⟩
  · obtain ⟨i1, i2, i3⟩ := inC_of (x := x - 1) (y := y) hr (by omega) (by omega) h3 h4
    have : y * W + (x - 1) = b := by omega
    rw [this] at i1 i2 i3
    exact ⟨i1, .inr (.inl ⟨q, e, i2, i3⟩)⟩
  · obtain ⟨i1, i2, i3⟩ := inC_of (x := x + 1) (y := y) hr (by omega) (by omega) h3 h4
    have : y * W + (x + 1) = b := by omega
    rw [this] at i1 i2 i3
    exact ⟨i1, .inr (.inr (.inl ⟨q, e, i2, i3⟩))⟩
  · obtain ⟨i1, i2, i3⟩ := inC_of (x := x) (y := y + 1) hr h1 h2 (by omega) (by omega)
    have : (y + 1) * W + x = b := by rw [Int.add_mul]; omega
    rw [this] at i1 i2 i3
    exact ⟨i1, .inr (.inr (.inr ⟨q, e, i2, i3⟩))⟩

theorem mem_nearL {W H a b : Int} : b ∈ nearL W H a ↔ away W H a b = 1 := by
  by_cases ha : InC W H a
  · constructor
    · intro h
      obtain ⟨hb, h⟩ := near_xy ha h
      rw [aw_of ha hb]; omega
    · intro h
      rcases aw_cases W H a b with ⟨_, hb, _⟩ | h'
      · rw [aw_of ha hb] at h
        rw [mem_near_iff ha]
        obtain ⟨h1, h2, h3, h4, h5⟩ := ha.xy
        obtain ⟨g1, g2, g3, g4, g5⟩ := hb.xy
        have hc : (b % W = a % W ∧ b / W = a / W - 1) ∨ (b % W = a % W - 1 ∧ b / W = a / W) ∨ (b % W = a % W + 1 ∧ b / W = a / W) ∨ (b % W = a % W ∧ b / W = a / W + 1) := by omega
        rcases hc with ⟨e1, e2⟩ | ⟨e1, e2⟩ | ⟨e1, e2⟩ | ⟨e1, e2⟩
        · rw [e1, e2, Int.sub_mul] at g5; exact .inl ⟨by omega, by omega⟩
        · rw [e1, e2] at g5; exact .inr (.inl ⟨by omega, by omega⟩)
        · rw [e1, e2] at g5; exact .inr (.inr (.inl ⟨by omega, by omega⟩))
        · rw [e1, e2, Int.add_mul] at g5; exact .inr (.inr (.inr ⟨by omega, by omega⟩))
      · omega
  · have e : nearL W H a = [] := if_neg ha
    rw [e, aw_no (fun h => ha h.1)]
    simp
theorem nearB (W H a b : Int) : decide (b ∈ nearL W H a) = decide (away W H a b = 1) := by simp only [mem_nearL]

/-! ### Turned -/
theorem rt_turn (W H : Int) : Rt W H ↔ Rt H W := by unfold Rt; rw [Int.mul_comm W H]; omega
theorem rtB_turn (W H : Int) : rtB W H = rtB H W := by unfold rtB; simp only [rt_turn W H]
theorem cnt_turn (W H : Int) : cnt W H = cnt H W := by
  by_cases h : Rt W H
  · rw [cnt_yes h, cnt_yes ((rt_turn W H).1 h), Int.mul_comm]
  · rw [cnt_no h, cnt_no (fun h' => h ((rt_turn W H).2 h'))]
theorem inXY_turn (W H x y : Int) : InXY W H x y ↔ InXY H W y x := by
  unfold InXY; rw [rt_turn W H]; constructor <;> (rintro ⟨h, h1, h2, h3, h4⟩; exact ⟨h, h3, h4, h1, h2⟩)
theorem ixB_turn (W H x y : Int) : ixB W H x y = ixB H W y x := by unfold ixB; simp only [inXY_turn W H]
theorem away_xy {W H x y u v : Int} (h : InXY W H x y) (h' : InXY W H u v) : away W H (y * W + x) (v * W + u) = max (x - u) (u - x) + max (y - v) (v - y) := by
  rw [aw_of h.inC h'.inC, xy_mod h.2.1 h.2.2.1, xy_div h.2.1 h.2.2.1, xy_mod h'.2.1 h'.2.2.1, xy_div h'.2.1 h'.2.2.1]
theorem away_turn {W H x y u v : Int} (h : InXY W H x y) (h' : InXY W H u v) : away W H (y * W + x) (v * W + u) = away H W (x * H + y) (u * H + v) := by
  rw [away_xy h h', away_xy ((inXY_turn _ _ _ _).1 h) ((inXY_turn _ _ _ _).1 h')]; omega

/-! ### Steps: which of those beside a cell are nearer to another one -/
theorem near_step {W H a b c : Int} (ha : InC W H a) (hb : InC W H b) (hc : c ∈ nearL W H a) : away W H c b = away W H a b - 1 ∨ away W H c b = away W H a b + 1 := by
  obtain ⟨hc, h⟩ := near_xy ha hc
  rw [aw_of hc hb, aw_of ha hb]; omega

/-- How many are nearer. -/
def nearer (W H b d : Int) (l : List Int) : Nat := (l.filter fun c => decide (away W H c b < d)).length
theorem nearer_snoc (W H b d : Int) (l : List Int) (c : Int) : nearer W H b d (l ++ [c]) = nearer W H b d l + (if away W H c b < d then 1 else 0) := by
  unfold nearer; rw [List.filter_append]
  by_cases h : away W H c b < d <;> simp [h]
theorem nearer_le (W H b d : Int) (l : List Int) : nearer W H b d l ≤ l.length := List.length_filter_le _ _
theorem nearer_one {W H a b v : Int} {p q : Prop} [Decidable p] [Decidable q] (hq : p → (away W H v b < away W H a b ↔ q)) : (nearer W H b (away W H a b) (if p then [v] else []) : Nat) = if p ∧ q then 1 else 0 := by
  unfold nearer
  by_cases h : p
  · have := hq h
    by_cases h' : q
    · simp [h, h', this.2 h']
    · simp [h, h', mt this.1 h']
  · simp [h]
theorem nearer_app (W H b d : Int) (l m : List Int) : nearer W H b d (l ++ m) = nearer W H b d l + nearer W H b d m := by
  unfold nearer; rw [List.filter_append, List.length_append]

theorem ite01 (p : Prop) [Decidable p] : (p ∧ (if p then (1 : Nat) else 0) = 1) ∨ (¬ p ∧ (if p then (1 : Nat) else 0) = 0) := by
  by_cases h : p <;> simp [h]
theorem nearer_all {W H a b : Int} (ha : InC W H a) (hb : InC W H b) : nearer W H b (away W H a b) (nearL W H a) ≤ 2 ∧ (0 < nearer W H b (away W H a b) (nearL W H a) ↔ 0 < away W H a b) := by
  have hr := ha.rt
  have hB := ha.bounds
  obtain ⟨h1, h2, h3, h4, h5⟩ := ha.xy
  obtain ⟨g1, g2, g3, g4, g5⟩ := hb.xy
  have e : nearL W H a = _ := if_pos ha
  have d := aw_of ha hb
  have key : ∀ {v x' y' : Int}, v = y' * W + x' → 0 ≤ x' → x' < W → 0 ≤ y' → y' < H → away W H v b = max (x' - b % W) (b % W - x') + max (y' - b / W) (b / W - y') := by
    intro v x' y' hv p1 p2 p3 p4
    obtain ⟨i1, i2, i3⟩ := inC_of hr p1 p2 p3 p4
    subst hv
    rw [aw_of i1 hb, i2, i3]
  have n1 : nearer W H b (away W H a b) (if 0 < a / W then [a - W] else []) = if 0 < a / W ∧ b / W < a / W then 1 else 0 := nearer_one (fun hp => by
    rw [key (v := a - W) (x' := a % W) (y' := a / W - 1) (by rw [Int.sub_mul]; omega) (by omega) (by omega) (by omega) (by omega), d]; omega)
  have n2 : nearer W H b (away W H a b) (if 0 < a % W then [a - 1] else []) = if 0 < a % W ∧ b % W < a % W then 1 else 0 := nearer_one (fun hp => by
    rw [key (v := a - 1) (x' := a % W - 1) (y' := a / W) (by omega) (by omega) (by omega) (by omega) (by omega), d]; omega)
  have n3 : nearer W H b (away W H a b) (if a % W < W - 1 then [a + 1] else []) = if a % W < W - 1 ∧ a % W < b % W then 1 else 0 := nearer_one (fun hp => by
    rw [key (v := a + 1) (x' := a % W + 1) (y' := a / W) (by omega) (by omega) (by omega) (by omega) (by omega), d]; omega)
  have n4 : nearer W H b (away W H a b) (if a / W < H - 1 then [a + W] else []) = if a / W < H - 1 ∧ a / W < b / W then 1 else 0 := nearer_one (fun hp => by
    rw [key (v := a + W) (x' := a % W) (y' := a / W + 1) (by rw [Int.add_mul]; omega) (by omega) (by omega) (by omega) (by omega), d]; omega)
  rw [e, nearer_app, nearer_app, nearer_app, n1, n2, n3, n4, d]
  have t1 := ite01 (0 < a / W ∧ b / W < a / W)
  have t2 := ite01 (0 < a % W ∧ b % W < a % W)
  have t3 := ite01 (a % W < W - 1 ∧ a % W < b % W)
  have t4 := ite01 (a / W < H - 1 ∧ a / W < b / W)
  generalize (if 0 < a / W ∧ b / W < a / W then (1 : Nat) else 0) = s1 at *
  generalize (if 0 < a % W ∧ b % W < a % W then (1 : Nat) else 0) = s2 at *
  generalize (if a % W < W - 1 ∧ a % W < b % W then (1 : Nat) else 0) = s3 at *
  generalize (if a / W < H - 1 ∧ a / W < b / W then (1 : Nat) else 0) = s4 at *
  omega

/-- What is beside a cell rises. -/
theorem near_rises {W H a : Int} {pre post : List Int} {x : Int} (h : nearL W H a = pre ++ x :: post) : (∀ c ∈ pre, c < x) ∧ 0 ≤ x := by
  have hmem : x ∈ nearL W H a := by rw [h]; simp
  have ha : InC W H a := by
    by_cases ha : InC W H a
    · exact ha
    · rw [show nearL W H a = [] from if_neg ha] at hmem; cases hmem
  have hx := (near_xy ha hmem).1.1
  refine ⟨?_, hx⟩
  have hB := ha.bounds
  have hxy := ha.xy
  have hs : (nearL W H a).Pairwise (· < ·) := by
    have e : nearL W H a = _ := if_pos ha
    rw [e]
    have one : ∀ (p : Prop) [Decidable p] (v : Int), (if p then [v] else ([] : List Int)).Pairwise (· < ·) := by
      intro p _ v; split <;> simp
    refine List.pairwise_append.2 ⟨List.pairwise_append.2 ⟨List.pairwise_append.2 ⟨one _ _, one _ _, ?_⟩, one _ _, ?_⟩, one _ _, ?_⟩
    all_goals
      intro c hc d hd
      simp only [List.mem_append, mem_ite] at hc hd
      omega
  rw [h] at hs
  intro c hc
  exact (List.pairwise_append.1 hs).2.2 c hc x (by simp)
theorem near_count {W H a : Int} (ha : InC W H a) (h1 : W ≠ 1) (h2 : H ≠ 1) : 2 ≤ (nearL W H a).length := by
  have e : nearL W H a = _ := if_pos ha
  have hB := ha.bounds
  have hxy := ha.xy
  rw [e]
  simp only [List.length_append]
  have l : ∀ (p : Prop) [Decidable p] (v : Int), (if p then [v] else ([] : List Int)).length = if p then 1 else 0 := by
    intro p _ v; split <;> rfl
  rw [l, l, l, l]
  have t1 := ite01 (0 < a / W)
  have t2 := ite01 (0 < a % W)
  have t3 := ite01 (a % W < W - 1)
  have t4 := ite01 (a / W < H - 1)
  omega
end Go.Proofs.Ytekpjmdkihnpeaa
