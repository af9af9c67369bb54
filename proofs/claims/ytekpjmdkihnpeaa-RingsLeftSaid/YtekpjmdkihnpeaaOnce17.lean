/- All cells by rings: their order, each once. -/
import Derived.Test.YtekpjmdkihnpeaaCount17
import Derived.Test.YtekpjmdkihnpeaaAll
namespace Go.Proofs.Ytekpjmdkihnpeaa
set_option linter.unusedSimpArgs false
set_option linter.unusedVariables false

/-- Nearer first; of like ones the smaller number. -/
def Lex (e x : Int × Int) : Prop := e.1 < x.1 ∨ (e.1 = x.1 ∧ e.2 < x.2)

theorem mem_allTo {W H c : Int} {x : Int × Int} : ∀ {k : Nat}, x ∈ allTo W H c k ↔ 0 ≤ x.1 ∧ x.1 < k ∧ away W H c x.2 = x.1
  | 0 => by simp only [allTo, List.not_mem_nil, false_iff]; omega
  | k + 1 => by
    simp only [allTo, List.mem_append, mem_allTo (k := k), List.mem_map]
    constructor
    · rintro (h | ⟨y, hy, rfl⟩)
      · omega
      · have := mem_ringL.1 hy; exact ⟨by simp, by simp; omega, this.2⟩
    · rintro ⟨h1, h2, h3⟩
      by_cases h : x.1 < k
      · exact .inl ⟨h1, h, h3⟩
      · have : x.1 = k := by omega
        exact .inr ⟨x.2, mem_ringL.2 ⟨by omega, by omega⟩, by rw [← this]⟩

theorem ints_lt (m : Nat) : ∀ a, (ints a m).Pairwise (· < ·) := by
  induction m with
  | zero => intro a; exact List.Pairwise.nil
  | succ m ih => intro a; exact List.Pairwise.cons (fun x hx => by have := (mem_ints.1 hx).1; omega) (ih _)
theorem ringL_lt (W H c d : Int) : (ringL W H c d).Pairwise (· < ·) := by
  rw [← pfar_filter]; exact List.Pairwise.filter _ (ints_lt _ _)
theorem allTo_lex (W H c : Int) : ∀ k, (allTo W H c k).Pairwise Lex
  | 0 => List.Pairwise.nil
  | k + 1 => by
    simp only [allTo]
    rw [List.pairwise_append]
    refine ⟨allTo_lex W H c k, ?_, ?_⟩
    · rw [List.pairwise_map]
      exact (ringL_lt W H c k).imp (fun h => .inr ⟨rfl, h⟩)
    · intro a ha b hb
      obtain ⟨y, _, rfl⟩ := List.mem_map.1 hb
      exact .inl (mem_allTo.1 ha).2.1
theorem allL_lex {W H c : Int} {pre post : List (Int × Int)} {x : Int × Int} (h : allL W H c = pre ++ x :: post) : ∀ e ∈ pre, Lex e x := by
  have := allTo_lex W H c (lastD W H c + 1).toNat
  rw [show allTo W H c (lastD W H c + 1).toNat = _ from h, List.pairwise_append] at this
  exact fun e he => this.2.2 e he x (by simp)
theorem mem_allL {W H c : Int} {x : Int × Int} (h : x ∈ allL W H c) : 0 ≤ x.1 ∧ away W H c x.2 = x.1 ∧ InC W H c ∧ InC W H x.2 := by
  have := mem_allTo.1 h
  refine ⟨this.1, this.2.2, ?_⟩
  by_cases hi : InC W H c ∧ InC W H x.2
  · exact hi
  · have h2 := aw_no hi; omega
theorem in_allL {W H c x : Int} (hc : InC W H c) (hx : InC W H x) : (away W H c x, x) ∈ allL W H c := by
  have h1 := aw_of hc hx
  obtain ⟨x1, x2, y1, y2, _⟩ := hc.xy
  obtain ⟨u1, u2, v1, v2, _⟩ := hx.xy
  exact mem_allTo.2 ⟨by simp only; omega, by simp only; rw [lastD_of hc]; omega, rfl⟩

theorem filter_step (g : Int → Int) (k : Int) : ∀ l : List Int, (l.filter (fun x => decide (g x < k + 1))).length = (l.filter (fun x => decide (g x < k))).length + (l.filter (fun x => decide (g x = k))).length
  | [] => rfl
  | a :: l => by
    have ih := filter_step g k l
    simp only [List.filter_cons, decide_eq_true_iff]
    by_cases h1 : g a < k
    · rw [if_pos (by omega), if_pos h1, if_neg (by omega)]; simp only [List.length_cons]; omega
    · by_cases h2 : g a = k
      · rw [if_pos (by omega), if_neg h1, if_pos h2]; simp only [List.length_cons]; omega
      · rw [if_neg (by omega), if_neg h1, if_neg h2]; exact ih
theorem allTo_count {W H c : Int} (hc : InC W H c) : ∀ k : Nat, (allTo W H c k).length = ((ints 0 (cnt W H).toNat).filter (fun x => decide (away W H c x < k))).length
  | 0 => by
    rw [show ((0 : Nat) : Int) = 0 from rfl]
    have : (ints 0 (cnt W H).toNat).filter (fun x => decide (away W H c x < 0)) = [] := by
      rw [List.filter_eq_nil_iff]
      intro x hx
      have h := mem_ints.1 hx
      have hx' : InC W H x := ⟨h.1, by omega⟩
      obtain ⟨x1, x2, y1, y2, _⟩ := hc.xy
      obtain ⟨u1, u2, v1, v2, _⟩ := hx'.xy
      rw [aw_of hc hx']; simp; omega
    rw [this]; rfl
  | k + 1 => by
    simp only [allTo, List.length_append, List.length_map]
    rw [allTo_count hc k, show ((k + 1 : Nat) : Int) = (k : Int) + 1 by omega, filter_step, ← farL_eq (by omega)]; rfl
/-- As many as the grid has cells. -/
theorem allL_count {W H c : Int} (hc : InC W H c) : ((allL W H c).length : Int) = cnt W H := by
  have h0 := (cnt_bd W H).1
  unfold allL
  rw [allTo_count hc, List.filter_eq_self.2, ints_len]
  · omega
  · intro x hx
    have h := mem_ints.1 hx
    have := (mem_allTo.1 (in_allL hc (x := x) ⟨h.1, by omega⟩)).2.1
    simp only at this
    exact decide_eq_true this
theorem allL_none {W H c : Int} (hc : ¬ InC W H c) : allL W H c = [] := by
  cases h : allL W H c with
  | nil => rfl
  | cons a l => exact absurd (mem_allL (x := a) (by rw [h]; simp)).2.2.1 hc
/-- The last one told, and the next. -/
theorem lex_last {pre : List (Int × Int)} {x : Int × Int} (h : ∀ e ∈ pre, Lex e x) (h0 : 0 ≤ x.1) (h1 : 0 ≤ x.2) :
    (pre.map Prod.fst).getLastD 0 < x.1 ∨ ((pre.map Prod.fst).getLastD 0 = x.1 ∧ (pre.map Prod.snd).getLastD (-1) < x.2) := by
  rcases List.eq_nil_or_concat pre with rfl | ⟨q, e, rfl⟩
  · simp; omega
  · have := h e (by simp)
    simpa [Lex] using this
theorem lex_new {W H c : Int} {pre post : List (Int × Int)} {x : Int × Int} (h : allL W H c = pre ++ x :: post) : x.2 ∉ pre.map Prod.snd := by
  intro hm
  obtain ⟨e, he, h2⟩ := List.mem_map.1 hm
  have hx := mem_allL (x := x) (by rw [h]; simp)
  have hee := mem_allL (x := e) (by rw [h]; simp [he])
  have := allL_lex h e he
  rw [← h2, hee.2.1] at hx
  unfold Lex at this; omega
/-- The last distance is the greatest. -/
theorem allL_far {W H c : Int} (hc : InC W H c) : ((allL W H c).map Prod.fst).getLastD 0 = lastD W H c := by
  have hr := hc.rt
  obtain ⟨x1, x2, y1, y2, _⟩ := hc.xy
  have hcor : ∃ x, InC W H x ∧ away W H c x = lastD W H c := by
    have key : ∀ (x y : Int), 0 ≤ x → x < W → 0 ≤ y → y < H → max (c % W - x) (x - c % W) + max (c / W - y) (y - c / W) = lastD W H c → ∃ x, InC W H x ∧ away W H c x = lastD W H c := by
      intro x y h1 h2 h3 h4 h5
      obtain ⟨i1, i2, i3⟩ := inC_of hr h1 h2 h3 h4
      exact ⟨_, i1, by rw [aw_of hc i1, i2, i3]; exact h5⟩
    by_cases a1 : W - 1 - c % W ≤ c % W
    · by_cases a2 : H - 1 - c / W ≤ c / W
      · exact key 0 0 (by omega) (by omega) (by omega) (by omega) (by rw [lastD_of hc]; omega)
      · exact key 0 (H - 1) (by omega) (by omega) (by omega) (by omega) (by rw [lastD_of hc]; omega)
    · by_cases a2 : H - 1 - c / W ≤ c / W
      · exact key (W - 1) 0 (by omega) (by omega) (by omega) (by omega) (by rw [lastD_of hc]; omega)
      · exact key (W - 1) (H - 1) (by omega) (by omega) (by omega) (by omega) (by rw [lastD_of hc]; omega)
  obtain ⟨x, hx, ha⟩ := hcor
  have hm := in_allL hc hx
  rw [ha] at hm
  rcases List.eq_nil_or_concat (allL W H c) with h | ⟨q, e, h⟩
  · rw [h] at hm; cases hm
  · rw [List.concat_eq_append] at h
    have hlex := allL_lex (pre := q) (x := e) (post := []) (by rw [h])
    have he := mem_allTo.1 (show e ∈ allTo W H c (lastD W H c + 1).toNat from (by rw [show allTo W H c (lastD W H c + 1).toNat = _ from h]; simp))
    have hld := lastD_nn hc
    rw [h] at hm ⊢
    simp only [List.mem_append, List.mem_singleton] at hm
    have hge : lastD W H c ≤ e.1 := by
      rcases hm with hm | hm
      · have := hlex _ hm; unfold Lex at this; simp only at this; omega
      · rw [← hm]; simp
    simp; omega
/-- Of a walk that is left: what has been told is what is nearer. -/
theorem left_iff {W H c x : Int} {q post : List (Int × Int)} {e : Int × Int} (h : allL W H c = q ++ e :: post) (hc : InC W H c) (hx : InC W H x) :
    x ∈ (q ++ [e]).map Prod.snd ↔ (away W H c x < e.1 ∨ (away W H c x = e.1 ∧ x ≤ e.2)) := by
  have hl := allTo_lex W H c (lastD W H c + 1).toNat
  rw [show allTo W H c (lastD W H c + 1).toNat = _ from h, List.pairwise_append, List.pairwise_cons] at hl
  obtain ⟨_, ⟨h2, _⟩, h3⟩ := hl
  have hm := in_allL hc hx
  have hee := mem_allL (x := e) (by rw [h]; simp)
  constructor
  · intro hmem
    obtain ⟨f, hf, hfx⟩ := List.mem_map.1 hmem
    have hff := mem_allL (x := f) (by rw [h]; simp only [List.mem_append, List.mem_singleton] at hf; rcases hf with hf | hf <;> simp [hf])
    rw [hfx] at hff
    simp only [List.mem_append, List.mem_singleton] at hf
    rcases hf with hf | rfl
    · have := h3 f hf e (by simp); unfold Lex at this; omega
    · omega
  · intro hor
    rw [h] at hm
    simp only [List.mem_append, List.mem_cons] at hm
    rcases hm with hm | hm | hm
    · exact List.mem_map.2 ⟨(away W H c x, x), by simp [hm], rfl⟩
    · exact List.mem_map.2 ⟨(away W H c x, x), by rw [hm]; simp, rfl⟩
    · have := h2 _ hm; unfold Lex at this; simp only at this; omega
end Go.Proofs.Ytekpjmdkihnpeaa
