/- The plain mathematics of chapter 12: tiles. -/
import Derived.Test.YtekpjmdkihnpeaaPure2
import Derived.Test.YtekpjmdkihnpeaaPure17
namespace Go.Proofs.Ytekpjmdkihnpeaa
set_option linter.unusedSimpArgs false
set_option linter.unusedVariables false

/-! ### Rising lists -/
theorem ints_rise (m : Nat) : ∀ a, (ints a m).Pairwise (· < ·) := by
  induction m with
  | zero => intro a; exact List.Pairwise.nil
  | succ m ih => intro a; exact List.Pairwise.cons (fun x hx => by have := (mem_ints.1 hx).1; omega) (ih _)
/-- Two rising lists of the same members are one. -/
theorem rise_ext : ∀ {l m : List Int}, l.Pairwise (· < ·) → m.Pairwise (· < ·) → (∀ x, x ∈ l ↔ x ∈ m) → l = m
  | [], [], _, _, _ => rfl
  | [], b :: m, _, _, h => absurd ((h b).2 (by simp)) (by simp)
  | a :: l, [], _, _, h => absurd ((h a).1 (by simp)) (by simp)
  | a :: l, b :: m, hl, hm, h => by
    rw [List.pairwise_cons] at hl hm
    have hab : a = b := by
      have h1 := (h a).1 (by simp)
      have h2 := (h b).2 (by simp)
      simp only [List.mem_cons] at h1 h2
      rcases h1 with h1 | h1
      · exact h1
      · rcases h2 with h2 | h2
        · exact h2.symm
        · have := hm.1 a h1; have := hl.1 b h2; omega
    subst hab
    congr 1
    refine rise_ext hl.2 hm.2 fun x => ?_
    have hx := h x
    simp only [List.mem_cons] at hx
    constructor
    · intro hxl
      rcases hx.1 (.inr hxl) with rfl | h'
      · have := hl.1 x hxl; omega
      · exact h'
    · intro hxm
      rcases hx.2 (.inr hxm) with rfl | h'
      · have := hm.1 x hxm; omega
      · exact h'

/-! ### Sizes in tiles -/
def tW (W H : Int) : Int := if Rt W H then (W + 7) / 8 else 0
def tH (W H : Int) : Int := if Rt W H then (H + 7) / 8 else 0
theorem tW_of {W H : Int} (h : Rt W H) : tW W H = (W + 7) / 8 := if_pos h
theorem tH_of {W H : Int} (h : Rt W H) : tH W H = (H + 7) / 8 := if_pos h
theorem tW_no {W H : Int} (h : ¬ Rt W H) : tW W H = 0 := if_neg h
theorem tH_no {W H : Int} (h : ¬ Rt W H) : tH W H = 0 := if_neg h
theorem tRt {W H : Int} (h : Rt W H) : Rt (tW W H) (tH W H) := by
  obtain ⟨h1, h2, h3, h4, h5⟩ := h
  rw [tW_of ⟨h1, h2, h3, h4, h5⟩, tH_of ⟨h1, h2, h3, h4, h5⟩]
  have a1 : 1 ≤ (W + 7) / 8 := by omega
  have a2 : (W + 7) / 8 ≤ 512 := by omega
  have b1 : 1 ≤ (H + 7) / 8 := by omega
  have b2 : (H + 7) / 8 ≤ 512 := by omega
  have m1 : (W + 7) / 8 * ((H + 7) / 8) ≤ 512 * ((H + 7) / 8) := Int.mul_le_mul_of_nonneg_right a2 (by omega)
  exact ⟨a1, by omega, b1, by omega, by omega⟩
theorem tRt_no {W H : Int} (h : ¬ Rt W H) : ¬ Rt (tW W H) (tH W H) := by
  rw [tW_no h]; intro h'; have := h'.1; omega
theorem tRt_iff {W H : Int} : Rt (tW W H) (tH W H) ↔ Rt W H := by
  by_cases h : Rt W H
  · exact iff_of_true (tRt h) h
  · exact iff_of_false (tRt_no h) h
/-- Is it a tile's number? -/
abbrev InT (W H t : Int) : Prop := InC (tW W H) (tH W H) t
theorem InC.rtT {W H t : Int} (h : InT W H t) : Rt W H := tRt_iff.1 h.rt

/-- A cell's tile. -/
def tOf (W H c : Int) : Int := if InC W H c then c / W / 8 * tW W H + c % W / 8 else 0
theorem tOf_yes {W H c : Int} (h : InC W H c) : tOf W H c = c / W / 8 * tW W H + c % W / 8 := if_pos h
theorem tOf_no {W H c : Int} (h : ¬ InC W H c) : tOf W H c = 0 := if_neg h
theorem tOf_xy {W H c : Int} (h : InC W H c) : InXY (tW W H) (tH W H) (c % W / 8) (c / W / 8) := by
  have hr := h.rt
  obtain ⟨h1, h2, h3, h4, _⟩ := h.xy
  refine ⟨tRt hr, ?_, ?_, ?_, ?_⟩
  · omega
  · rw [tW_of hr]; omega
  · omega
  · rw [tH_of hr]; omega
theorem tOf_in {W H c : Int} (h : InC W H c) : InT W H (tOf W H c) ∧ tOf W H c % tW W H = c % W / 8 ∧ tOf W H c / tW W H = c / W / 8 := by
  obtain ⟨h1, h2, h3, h4, h5⟩ := tOf_xy h
  rw [tOf_yes h]
  exact inC_of h1 h2 h3 h4 h5
theorem tOf_iff {W H c t : Int} (h : InC W H c) (ht : InT W H t) : tOf W H c = t ↔ (c % W / 8 = t % tW W H ∧ c / W / 8 = t / tW W H) := by
  obtain ⟨h1, h2, h3⟩ := tOf_in h
  constructor
  · rintro rfl; exact ⟨h2.symm, h3.symm⟩
  · rintro ⟨e1, e2⟩
    have := ht.xy
    rw [tOf_yes h, e1, e2]; exact this.2.2.2.2

/-! ### Where a tile is -/
def bX (W H t : Int) : Int := if InT W H t then t % tW W H * 8 else 0
def bY (W H t : Int) : Int := if InT W H t then t / tW W H * 8 else 0
def bWd (W H t : Int) : Int := if InT W H t then min 8 (W - t % tW W H * 8) else 0
def bHt (W H t : Int) : Int := if InT W H t then min 8 (H - t / tW W H * 8) else 0
theorem box_of {W H t : Int} (h : InT W H t) : bX W H t = t % tW W H * 8 ∧ bY W H t = t / tW W H * 8 ∧ bWd W H t = min 8 (W - t % tW W H * 8) ∧ bHt W H t = min 8 (H - t / tW W H * 8) :=
  ⟨if_pos h, if_pos h, if_pos h, if_pos h⟩
theorem box_no {W H t : Int} (h : ¬ InT W H t) : bX W H t = 0 ∧ bY W H t = 0 ∧ bWd W H t = 0 ∧ bHt W H t = 0 :=
  ⟨if_neg h, if_neg h, if_neg h, if_neg h⟩
theorem box_bd {W H t : Int} (h : InT W H t) : 0 ≤ t % tW W H ∧ t % tW W H * 8 < W ∧ 0 ≤ t / tW W H ∧ t / tW W H * 8 < H ∧ 1 ≤ W ∧ W ≤ 4096 ∧ 1 ≤ H ∧ H ≤ 4096 := by
  have hr := h.rtT
  obtain ⟨h1, h2, h3, h4, h5⟩ := h.xy
  have hb := hr.bounds
  have e1 := tW_of hr
  have e2 := tH_of hr
  omega
theorem box_bd2 (W H t : Int) : 0 ≤ bX W H t ∧ bX W H t ≤ 4096 ∧ 0 ≤ bY W H t ∧ bY W H t ≤ 4096 ∧ 0 ≤ bWd W H t ∧ bWd W H t ≤ 8 ∧ 0 ≤ bHt W H t ∧ bHt W H t ≤ 8 := by
  by_cases h : InT W H t
  · obtain ⟨e1, e2, e3, e4⟩ := box_of h
    have := box_bd h
    omega
  · obtain ⟨e1, e2, e3, e4⟩ := box_no h
    omega

/-! ### A tile's cells -/
/-- k rows of w cells from column x and row y on. -/
def tTo (W x y : Int) (w : Nat) : Nat → List Int
  | 0 => []
  | k + 1 => tTo W x y w k ++ ints ((y + k) * W + x) w
def tcells (W H t : Int) : List Int := tTo W (bX W H t) (bY W H t) (bWd W H t).toNat (bHt W H t).toNat
theorem mem_tTo {W x y c : Int} {w : Nat} : ∀ {k : Nat}, c ∈ tTo W x y w k ↔ ∃ j i : Nat, j < k ∧ i < w ∧ c = (y + j) * W + x + i
  | 0 => by simp [tTo]
  | k + 1 => by
    simp only [tTo, List.mem_append, mem_tTo (k := k), mem_ints]
    constructor
    · rintro (⟨j, i, h1, h2, h3⟩ | ⟨h1, h2⟩)
      · exact ⟨j, i, by omega, h2, h3⟩
      · exact ⟨k, (c - ((y + k) * W + x)).toNat, by omega, by omega, by omega⟩
    · rintro ⟨j, i, h1, h2, rfl⟩
      by_cases hj : j < k
      · exact .inl ⟨j, i, hj, h2, rfl⟩
      · obtain rfl : j = k := by omega
        exact .inr ⟨by omega, by omega⟩
theorem tTo_split (W x y : Int) (w k n : Nat) (h : k < n) : ∃ post, tTo W x y w n = tTo W x y w k ++ (ints ((y + k) * W + x) w ++ post) := by
  induction n with
  | zero => omega
  | succ n ih =>
    by_cases hk : k = n
    · subst hk; exact ⟨[], by simp [tTo]⟩
    · obtain ⟨post, hp⟩ := ih (by omega)
      exact ⟨post ++ ints ((y + n) * W + x) w, by simp [tTo, hp]⟩
theorem tTo_rise {W x y : Int} {w : Nat} (hw : (w : Int) ≤ W) : ∀ k : Nat, (tTo W x y w k).Pairwise (· < ·)
  | 0 => List.Pairwise.nil
  | k + 1 => by
    simp only [tTo]
    rw [List.pairwise_append]
    refine ⟨tTo_rise hw k, ints_rise _ _, ?_⟩
    intro a ha b hb
    obtain ⟨j, i, h1, h2, rfl⟩ := mem_tTo.1 ha
    have := (mem_ints.1 hb).1
    have h3 : (y + j + 1) * W ≤ (y + k) * W := Int.mul_le_mul_of_nonneg_right (by omega) (by omega)
    rw [Int.add_mul] at h3
    omega
theorem tcells_no {W H t : Int} (h : ¬ InT W H t) : tcells W H t = [] := by
  obtain ⟨_, _, _, e⟩ := box_no h
  unfold tcells; rw [e]; rfl
theorem tcells_rise (W H t : Int) : (tcells W H t).Pairwise (· < ·) := by
  by_cases h : InT W H t
  · obtain ⟨e1, e2, e3, e4⟩ := box_of h
    have := box_bd h
    exact tTo_rise (by omega) _
  · rw [tcells_no h]; exact List.Pairwise.nil
/-- A cell by its column and row lies in the tile's box exactly if it is one of its cells. -/
theorem mem_tcells {W H t c : Int} : c ∈ tcells W H t ↔ InC W H c ∧ InT W H t ∧ tOf W H c = t := by
  by_cases ht : InT W H t
  · obtain ⟨e1, e2, e3, e4⟩ := box_of ht
    have hb := box_bd ht
    have hr := ht.rtT
    unfold tcells
    rw [mem_tTo]
    constructor
    · rintro ⟨j, i, h1, h2, rfl⟩
      have hc : InC W H ((bY W H t + j) * W + (bX W H t + i)) ∧ _ := inC_of (x := bX W H t + i) (y := bY W H t + j) hr (by omega) (by omega) (by omega) (by omega)
      rw [← Int.add_assoc] at hc
      obtain ⟨c1, c2, c3⟩ := hc
      refine ⟨c1, ht, (tOf_iff c1 ht).2 ?_⟩
      rw [c2, c3]; omega
    · rintro ⟨hc, _, h⟩
      have h := (tOf_iff hc ht).1 h
      obtain ⟨x1, x2, x3, x4, x5⟩ := hc.xy
      refine ⟨(c / W - bY W H t).toNat, (c % W - bX W H t).toNat, by omega, by omega, ?_⟩
      have e : bY W H t + ((c / W - bY W H t).toNat : Int) = c / W := by omega
      rw [e]; omega
  · rw [tcells_no ht]; simp [ht]
/-- The box by columns and rows. -/
theorem in_tcells {W H t c : Int} (ht : InT W H t) (hc : InC W H c) : c ∈ tcells W H t ↔ (bX W H t ≤ c % W ∧ c % W < bX W H t + bWd W H t ∧ bY W H t ≤ c / W ∧ c / W < bY W H t + bHt W H t) := by
  rw [mem_tcells]
  obtain ⟨e1, e2, e3, e4⟩ := box_of ht
  obtain ⟨x1, x2, x3, x4, x5⟩ := hc.xy
  constructor
  · rintro ⟨_, _, h⟩
    have h := (tOf_iff hc ht).1 h
    omega
  · intro h
    exact ⟨hc, ht, (tOf_iff hc ht).2 (by omega)⟩

/-! ### The document's tile -/
def rOf (W H c : Int) : Int := if InC W H c then c / W / 8 * ((W + 7) / 8) + c % W / 8 else -1
theorem rOf_yes {W H c : Int} (h : InC W H c) : rOf W H c = tOf W H c := by rw [tOf_yes h, tW_of h.rt]; exact if_pos h
theorem rOf_no {W H c : Int} (h : ¬ InC W H c) : rOf W H c = -1 := if_neg h
theorem tOf_bd (W H c : Int) : 0 ≤ tOf W H c ∧ tOf W H c ≤ 4194304 := by
  by_cases h : InC W H c
  · have h1 := (tOf_in h).1
    have := h1.bounds
    omega
  · rw [tOf_no h]; omega
theorem rOf_max (W H c : Int) : max (rOf W H c) 0 = tOf W H c ∧ (0 ≤ rOf W H c ↔ InC W H c) := by
  by_cases h : InC W H c
  · rw [rOf_yes h]; have := tOf_bd W H c; exact ⟨by omega, iff_of_true this.1 h⟩
  · rw [rOf_no h, tOf_no h]; exact ⟨by omega, iff_of_false (by omega) h⟩
/-- The document's cells of a tile. -/
def rcells (W H t : Int) : List Int := (ints 0 (cnt W H).toNat).filter (fun c => decide (0 ≤ t) && (rOf W H c == t))
theorem rcells_eq (W H t : Int) : rcells W H t = tcells W H t := by
  refine rise_ext (List.Pairwise.filter _ (ints_rise _ _)) (tcells_rise _ _ _) fun c => ?_
  rw [mem_tcells, rcells, List.mem_filter, mem_ints, Bool.and_eq_true, decide_eq_true_iff, beq_iff_eq]
  have hc0 := (cnt_bd W H).1
  constructor
  · rintro ⟨⟨h1, h2⟩, h3, h4⟩
    have hc : InC W H c := ⟨h1, by omega⟩
    rw [rOf_yes hc] at h4
    exact ⟨hc, by rw [← h4]; exact (tOf_in hc).1, h4⟩
  · rintro ⟨hc, ht, h⟩
    refine ⟨⟨hc.1, by have := hc.2; omega⟩, ht.1, by rw [rOf_yes hc]; exact h⟩
/-- How many tiles. -/
def tCount (W H : Int) : Int := cnt (tW W H) (tH W H)
theorem tCount_of {W H : Int} (h : Rt W H) : tCount W H = (W + 7) / 8 * ((H + 7) / 8) := by
  unfold tCount; rw [cnt_yes (tRt h), tW_of h, tH_of h]
theorem tCount_no {W H : Int} (h : ¬ Rt W H) : tCount W H = 0 := cnt_no (tRt_no h)
theorem last_cell {W H : Int} (h : Rt W H) : InC W H (W * H - 1) ∧ (W * H - 1) % W = W - 1 ∧ (W * H - 1) / W = H - 1 := by
  have hb := h.bounds
  have := inC_of (x := W - 1) (y := H - 1) h (by omega) (by omega) (by omega) (by omega)
  rw [show (H - 1) * W + (W - 1) = W * H - 1 by rw [Int.sub_mul, Int.mul_comm H W]; omega] at this
  exact this
theorem tOf_last {W H : Int} (h : Rt W H) : tOf W H (W * H - 1) + 1 = tCount W H := by
  obtain ⟨h1, h2, h3⟩ := last_cell h
  have hb := h.bounds
  rw [tOf_yes h1, h2, h3, tW_of h, tCount_of h]
  rw [show (H - 1) / 8 = (H + 7) / 8 - 1 by omega, Int.sub_mul, Int.mul_comm ((W + 7) / 8)]
  omega
/-- The document's count. -/
theorem rcount {W H : Int} : (if cnt W H = 0 then 0 else rOf W H (cnt W H - 1) + 1) = tCount W H := by
  by_cases h : Rt W H
  · have hb := h.bounds
    rw [if_neg (by rw [cnt_yes h]; omega), cnt_yes h, rOf_yes (last_cell h).1, tOf_last h]
  · rw [if_pos (cnt_no h), tCount_no h]

/-! ### The least of many -/
/-- The least so far; -1: nothing yet. -/
def least (f : Int → Int) (l : List Int) : Int := l.foldl (fun b c => if b < 0 ∨ f c < b then f c else b) (-1)
theorem least_snoc (f : Int → Int) (l : List Int) (c : Int) : least f (l ++ [c]) = if least f l < 0 ∨ f c < least f l then f c else least f l := by
  unfold least; rw [List.foldl_append]; rfl
theorem least_nil (f : Int → Int) : least f [] = -1 := rfl
theorem snoc_ind {α : Type} {P : List α → Prop} (h0 : P []) (h1 : ∀ l a, P l → P (l ++ [a])) (l : List α) : P l := by
  rw [← List.reverse_reverse l]
  induction l.reverse with
  | nil => exact h0
  | cons a t ih => rw [List.reverse_cons]; exact h1 _ _ ih
theorem least_is {f : Int → Int} {l : List Int} (h : ∀ c ∈ l, 0 ≤ f c) : (l = [] ∧ least f l = -1) ∨ (l ≠ [] ∧ 0 ≤ least f l ∧ (∀ c ∈ l, least f l ≤ f c) ∧ ∃ c ∈ l, f c = least f l) := by
  revert h
  refine snoc_ind (P := fun l => (∀ c ∈ l, 0 ≤ f c) → (l = [] ∧ least f l = -1) ∨ (l ≠ [] ∧ 0 ≤ least f l ∧ (∀ c ∈ l, least f l ≤ f c) ∧ ∃ c ∈ l, f c = least f l)) (fun _ => .inl ⟨rfl, rfl⟩) ?_ l
  intro l a ih h
  right
  have ha := h a (by simp)
  rw [least_snoc]
  rcases ih (fun c hc => h c (by simp [hc])) with ⟨rfl, e⟩ | ⟨_, h1, h2, ⟨x, hx, h3⟩⟩
  · rw [e, if_pos (.inl (by omega))]
    refine ⟨by simp, ha, ?_, a, by simp, rfl⟩
    intro c hc; simp at hc; subst hc; omega
  · by_cases hlt : f a < least f l
    · rw [if_pos (.inr hlt)]
      refine ⟨by simp, ha, ?_, a, by simp, rfl⟩
      intro c hc
      simp only [List.mem_append, List.mem_singleton] at hc
      rcases hc with hc | rfl
      · have := h2 c hc; omega
      · omega
    · rw [if_neg (by omega)]
      refine ⟨by simp, h1, ?_, x, by simp [hx], h3⟩
      intro c hc
      simp only [List.mem_append, List.mem_singleton] at hc
      rcases hc with hc | rfl
      · exact h2 c hc
      · omega
theorem least_eq {f : Int → Int} {l : List Int} {d : Int} (h0 : 0 ≤ d) (h : ∀ c ∈ l, d ≤ f c) (hx : ∃ c ∈ l, f c = d) : least f l = d := by
  rcases least_is (f := f) (l := l) (fun c hc => by have := h c hc; omega) with ⟨rfl, _⟩ | ⟨_, _, h2, ⟨y, hy, h3⟩⟩
  · obtain ⟨c, hc, _⟩ := hx; simp at hc
  · obtain ⟨c, hc, e⟩ := hx
    have := h2 c hc; have := h y hy; omega

/-- How far a cell is from a tile. -/
def tAway (W H c t : Int) : Int :=
  if InC W H c ∧ InT W H t then max (max (bX W H t - c % W) (c % W - (bX W H t + bWd W H t - 1))) 0 + max (max (bY W H t - c / W) (c / W - (bY W H t + bHt W H t - 1))) 0 else -1
theorem tAway_of {W H c t : Int} (hc : InC W H c) (ht : InT W H t) : tAway W H c t = max (max (bX W H t - c % W) (c % W - (bX W H t + bWd W H t - 1))) 0 + max (max (bY W H t - c / W) (c / W - (bY W H t + bHt W H t - 1))) 0 := if_pos ⟨hc, ht⟩
theorem tAway_no {W H c t : Int} (h : ¬ (InC W H c ∧ InT W H t)) : tAway W H c t = -1 := if_neg h
theorem tAway_bd (W H c t : Int) : -1 ≤ tAway W H c t ∧ tAway W H c t ≤ 16400 := by
  by_cases h : InC W H c ∧ InT W H t
  · rw [tAway_of h.1 h.2]
    have h1 := box_bd2 W H t
    have h2 := h.1.xy
    have h3 := h.1.bounds
    omega
  · rw [tAway_no h]; omega
/-- The nearest of a tile's cells. -/
def nearX (lo w x : Int) : Int := if x < lo then lo else if lo + w - 1 < x then lo + w - 1 else x
theorem tAway_least {W H c t : Int} (hc : InC W H c) (ht : InT W H t) : 0 ≤ tAway W H c t ∧ (∀ x ∈ tcells W H t, tAway W H c t ≤ away W H c x) ∧ ∃ x ∈ tcells W H t, away W H c x = tAway W H c t := by
  obtain ⟨e1, e2, e3, e4⟩ := box_of ht
  have hb := box_bd ht
  obtain ⟨c1, c2, c3, c4, c5⟩ := hc.xy
  rw [tAway_of hc ht]
  refine ⟨by omega, ?_, ?_⟩
  · intro x hx
    have hx' := (mem_tcells.1 hx).1
    have h := (in_tcells ht hx').1 hx
    rw [aw_of hc hx']
    omega
  · obtain ⟨i1, i2, i3⟩ := inC_of (x := nearX (bX W H t) (bWd W H t) (c % W)) (y := nearX (bY W H t) (bHt W H t) (c / W)) ht.rtT
      (by unfold nearX; split <;> (try split) <;> omega) (by unfold nearX; split <;> (try split) <;> omega) (by unfold nearX; split <;> (try split) <;> omega) (by unfold nearX; split <;> (try split) <;> omega)
    refine ⟨_, (in_tcells ht i1).2 ?_, ?_⟩
    · rw [i2, i3]; unfold nearX
      (repeat' split) <;> omega
    · rw [aw_of hc i1, i2, i3]; unfold nearX
      (repeat' split) <;> omega
theorem tcells_some {W H t : Int} (ht : InT W H t) : tcells W H t ≠ [] := by
  have hr := ht.rtT
  have hb := hr.bounds
  have hb2 := box_bd ht
  obtain ⟨e1, e2, e3, e4⟩ := box_of ht
  obtain ⟨i1, i2, i3⟩ := inC_of (x := bX W H t) (y := bY W H t) hr (by omega) (by omega) (by omega) (by omega)
  have h : bY W H t * W + bX W H t ∈ tcells W H t := (in_tcells ht i1).2 (by rw [i2, i3]; omega)
  intro e; rw [e] at h; cases h
/-- The document's way to tell it. -/
theorem tAway_ref {W H c t : Int} (hc : InC W H c) : least (away W H c) (tcells W H t) = tAway W H c t := by
  by_cases ht : InT W H t
  · obtain ⟨h1, h2, h3⟩ := tAway_least hc ht
    exact least_eq h1 h2 h3
  · rw [tcells_no ht, tAway_no (fun h => ht h.2)]; rfl

/-! ### Tiles beside one another -/
theorem tiles_beside {W H a b : Int} : b ∈ nearL (tW W H) (tH W H) a ↔ a ≠ b ∧ ∃ c ∈ tcells W H a, ∃ m ∈ nearL W H c, rOf W H m = b := by
  constructor
  · intro h
    have ha : InT W H a := by
      by_cases ha : InT W H a
      · exact ha
      · rw [show nearL (tW W H) (tH W H) a = [] from if_neg ha] at h; cases h
    have hb := box_bd ha
    have hr := ha.rtT
    obtain ⟨e1, e2, e3, e4⟩ := box_of ha
    obtain ⟨hbT, hn⟩ := near_xy ha h
    obtain ⟨a1, a2, a3, a4, a5⟩ := ha.xy
    have w1 := tW_of hr
    have w2 := tH_of hr
    have hbb := box_bd hbT
    have key : ∀ (x y u v : Int), 0 ≤ x → x < W → 0 ≤ y → y < H → 0 ≤ u → u < W → 0 ≤ v → v < H → x / 8 = a % tW W H → y / 8 = a / tW W H → u / 8 = b % tW W H → v / 8 = b / tW W H →
        max (x - u) (u - x) + max (y - v) (v - y) = 1 → ∃ c ∈ tcells W H a, ∃ m ∈ nearL W H c, rOf W H m = b := by
      intro x y u v x0 x1 y0 y1 u0 u1 v0 v1 f1 f2 f3 f4 f5
      obtain ⟨i1, i2, i3⟩ := inC_of hr x0 x1 y0 y1
      obtain ⟨j1, j2, j3⟩ := inC_of hr u0 u1 v0 v1
      refine ⟨_, mem_tcells.2 ⟨i1, ha, (tOf_iff i1 ha).2 (by rw [i2, i3]; exact ⟨f1, f2⟩)⟩, v * W + u, mem_nearL.2 ?_, ?_⟩
      · rw [aw_of i1 j1, i2, i3, j2, j3]; exact f5
      · rw [rOf_yes j1]; exact (tOf_iff j1 hbT).2 (by rw [j2, j3]; exact ⟨f3, f4⟩)
    refine ⟨?_, ?_⟩
    · rintro rfl; omega
    · rcases hn with ⟨q, _, g1, g2⟩ | ⟨q, _, g1, g2⟩ | ⟨q, _, g1, g2⟩ | ⟨q, _, g1, g2⟩
      · exact key (bX W H a) (bY W H a) (bX W H a) (bY W H a - 1) (by omega) (by omega) (by omega) (by omega) (by omega) (by omega) (by omega) (by omega) (by omega) (by omega) (by omega) (by omega) (by omega)
      · exact key (bX W H a) (bY W H a) (bX W H a - 1) (bY W H a) (by omega) (by omega) (by omega) (by omega) (by omega) (by omega) (by omega) (by omega) (by omega) (by omega) (by omega) (by omega) (by omega)
      · exact key (bX W H a + 7) (bY W H a) (bX W H a + 8) (bY W H a) (by omega) (by omega) (by omega) (by omega) (by omega) (by omega) (by omega) (by omega) (by omega) (by omega) (by omega) (by omega) (by omega)
      · exact key (bX W H a) (bY W H a + 7) (bX W H a) (bY W H a + 8) (by omega) (by omega) (by omega) (by omega) (by omega) (by omega) (by omega) (by omega) (by omega) (by omega) (by omega) (by omega) (by omega)
  · rintro ⟨hne, c, hc, m, hm, hb⟩
    obtain ⟨hcI, ha, hca⟩ := mem_tcells.1 hc
    obtain ⟨hmI, hn⟩ := near_xy hcI hm
    rw [rOf_yes hmI] at hb
    have hbT : InT W H b := by rw [← hb]; exact (tOf_in hmI).1
    have h1 := (tOf_iff hcI ha).1 hca
    have h2 := (tOf_iff hmI hbT).1 hb
    have hne2 : ¬ (a % tW W H = b % tW W H ∧ a / tW W H = b / tW W H) := by
      rintro ⟨f1, f2⟩
      exact hne (by rw [← hca, ← hb]; rw [tOf_yes hcI, tOf_yes hmI, h1.1, h1.2, h2.1, h2.2, f1, f2])
    rw [mem_nearL, aw_of ha hbT]
    omega
end Go.Proofs.Ytekpjmdkihnpeaa
