/- A slice of bools of one's own block: made whole, read, written at an index. -/
import Derived.Test.YtekpjmdkihnpeaaInts
import Derived.Laws.OwnMore
namespace Go.Proofs.Ytekpjmdkihnpeaa
set_option linter.unusedSimpArgs false
set_option linter.unusedVariables false
open Go.RowKit Go.Shelf

/-- Block g holds the n marks f. -/
def Bls (w : World) (g n : Nat) (f : Nat → Bool) : Prop := ∃ cs : Array Value, w.heap[g]? = some (.cells cs 4) ∧ cs.size = n ∧ ∀ i, i < n → cs[i]? = some (.bool (f i))

theorem Bls.lt {w : World} {g n : Nat} {f : Nat → Bool} (h : Bls w g n f) : g < w.heap.size := by
  obtain ⟨cs, h1, _⟩ := h; exact (Array.getElem?_eq_some_iff.1 h1).1
theorem Bls.of_block {w w' : World} {g n : Nat} {f : Nat → Bool} (h : Bls w g n f) (hb : w'.heap[g]? = w.heap[g]?) : Bls w' g n f := by
  obtain ⟨cs, h1, h2, h3⟩ := h; exact ⟨cs, hb.trans h1, h2, h3⟩
theorem Bls.later {w w' : World} {g n : Nat} {f : Nat → Bool} (h : Bls w g n f) (hb : Below w.heap.size w w') : Bls w' g n f := h.of_block (hb.block g h.lt)
theorem Bls.read {w : World} {g n : Nat} {f : Nat → Bool} (h : Bls w g n f) {i : Nat} (hi : i < n) : w.cell? ⟨g, i, none⟩ = some (.bool (f i)) ∧ w.frozen? ⟨g, i, none⟩ = false := by
  obtain ⟨cs, h1, h2, h3⟩ := h
  have := h3 i hi
  simp only [World.cell?, World.frozen?, h1]
  simp [this]
theorem Bls.set {w : World} {g n : Nat} {f : Nat → Bool} (h : Bls w g n f) {i : Nat} (hi : i < n) (b : Bool) : Bls (w.setCell ⟨g, i, none⟩ (.bool b)) g n (fun j => if j = i then b else f j) := by
  obtain ⟨cs, h1, h2, h3⟩ := h
  refine ⟨cs.setIfInBounds i (.bool b), ?_, by simp [h2], fun j hj => ?_⟩
  · simp only [World.setCell]
    rw [Array.getElem?_modify]
    simp [h1]
  · rw [Array.getElem?_setIfInBounds]
    by_cases hji : j = i
    · subst hji; simp [h2, hj]
    · rw [if_neg (fun h => hji h.symm)]; simp only [if_neg hji]; exact h3 j hj
theorem Bls.other {w : World} {g n : Nat} {f : Nat → Bool} (h : Bls w g n f) {p : Addr} (hp : g ≠ p.block) (u : Value) : Bls (w.setCell p u) g n f := h.of_block (Below.heap_setCell _ _ _ _ hp)

theorem info_bool : (Try.prog.info? 4).map (fun i => (i.zero, i.size, i.bytes)) = some (some (.bool false), 1, 1) := by kernel_rfl
theorem run_make_bools (w : World) (m : Int) (h0 : 0 ≤ m) (hm : m ≤ 1000000000) :
    ∃ w', (Instr.makeSlice 47 (.int .i64 m) (.int .i64 m)).run Try.prog w = .ok (.slice (some ⟨w.heap.size, 0, none⟩) m.toNat m.toNat) w' ∧ Bls w' w.heap.size m.toNat (fun _ => false) ∧ Below w.heap.size w w' ∧ w'.heap.size = w.heap.size + 1 := by
  obtain ⟨i0, hi, hz0, hz1, hz2⟩ := info_parts info_bool
  have hr := run_make (P := Try.prog) w 47 4 i0 (.bool false) Try.underlying47 hi hz0 .i64 .i64 m m h0 (Int.le_refl _) (by rw [hz2]; omega) (by omega)
  refine ⟨_, hr, ⟨_, World.alloc_heap_new _ _, by rw [size_madeCells, hz1]; omega, fun i hi' => ?_⟩, (Below.refl _ _).alloc (Nat.le_refl _) _, by simp⟩
  rw [hz1]
  simp only [madeCells]
  rw [Array.getElem?_map, Array.getElem?_range, if_pos (by omega)]
  simp [Value.cells, Nat.mod_one]

/-- At the operation, a fenced walk: '(at_make ..)' ahead. -/
theorem wplIn_make_bools {F : Fence} {nF : Nat} {ops : Array Oper} {rest : List Oper} {o : Oper} {a : Act} {Q : Exit → Act → World → Prop} {w : World} (hgd : o.guard = none) (l c : Operand)
    (hop : o.op = Op.makeSlice 47 l c) (m : Int) (hl : a.eval l = .int .i64 m) (hc : a.eval c = .int .i64 m) (h0 : 0 ≤ m) (hm : m ≤ 1000000000)
    (h : ∀ w', Bls w' w.heap.size m.toNat (fun _ => false) → Below w.heap.size w w' → w'.heap.size = w.heap.size + 1 → wpListIn F nF Try.prog ops Q rest (a.put o.dst (.slice (some ⟨w.heap.size, 0, none⟩) m.toNat m.toNat)) w') :
    wpListIn F nF Try.prog ops Q (o :: rest) a w := by
  refine wpListIn_plain hgd fun K hK => ?_
  obtain ⟨w', hr, h1, h2, h3⟩ := run_make_bools w m h0 hm
  unfold Oper.wpIn
  refine ⟨by simp [Oper.about, hop], ?_⟩
  rw [Oper.semAt_plain F _ _ (by rw [hop]; intro c hc'; cases hc')]
  simp [execOp, hop, hl, hc, hr, Result.andThen]
  exact hK _ _ (h w' h1 h2 h3)
end Go.Proofs.Ytekpjmdkihnpeaa
