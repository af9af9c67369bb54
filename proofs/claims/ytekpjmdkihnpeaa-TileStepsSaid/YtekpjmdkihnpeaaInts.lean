/- A slice of ints that the call itself made: what it reads as; an append of one int. -/
import Derived.Test.YtekpjmdkihnpeaaPlace
namespace Go.Proofs.Ytekpjmdkihnpeaa
set_option linter.unusedSimpArgs false
set_option linter.unusedVariables false
open Go.RowKit Go.Shelf

theorem info_int : (Try.prog.info? 3).map (fun i => (i.zero, i.size, i.bytes)) = some (some (.int .i64 0), 1, 8) := by kernel_rfl

/-- v reads as L, in a block from base on. -/
def Ints (w : World) (base : Nat) (v : Value) (L : List Int) : Prop := w.ownsRow base 3 1 v L.length (L.map (Value.int .i64))

theorem Ints.nil (w : World) (base : Nat) : Ints w base (.slice none 0 0) [] := World.ownsRow_nil _ _ _ _

theorem Ints.mono {w : World} {base base' : Nat} {v : Value} {L : List Int} (h : Ints w base v L) (hb : base' ≤ base) : Ints w base' v L := by
  obtain ⟨h1, h2⟩ := h
  refine ⟨h1, ?_⟩
  rcases h2 with h2 | ⟨g, cap, cur, hv, hg, r⟩
  · exact .inl h2
  · exact .inr ⟨g, cap, cur, hv, by omega, r⟩

/-- The block's number, where there is one. -/
theorem Ints.keep {w w' : World} {base : Nat} {v : Value} {L : List Int} (h : Ints w base v L) (hk : ∀ g, base ≤ g → g < w.heap.size → v.ownBlock = some g → w'.heap[g]? = w.heap[g]?) : Ints w' base v L := by
  obtain ⟨h1, h2⟩ := h
  refine ⟨h1, ?_⟩
  rcases h2 with h2 | ⟨g, cap, cur, hv, hg, hh, r⟩
  · exact .inl h2
  · exact .inr ⟨g, cap, cur, hv, hg, by rw [hk g hg (Array.getElem?_eq_some_iff.1 hh).1 (by rw [hv]; rfl)]; exact hh, r⟩

theorem Ints.later {w w' : World} {base : Nat} {v : Value} {L : List Int} (h : Ints w base v L) (hb : Below w.heap.size w w') : Ints w' base v L :=
  h.keep fun g _ hg _ => hb.block g hg

theorem Ints.drewN {w : World} {base : Nat} {v : Value} {L : List Int} (h : Ints w base v L) (n : Nat) : Ints (w.drewN n) base v L := h
theorem Ints.alloc {w : World} {base : Nat} {v : Value} {L : List Int} (h : Ints w base v L) (o : Obj) : Ints (w.alloc o) base v L := h.later ((Below.refl _ _).alloc (Nat.le_refl _) o)

/-- How it reads: its shape; its cells. -/
theorem Ints.read {w : World} {base : Nat} {v : Value} {L : List Int} (h : Ints w base v L) : ∃ a cap, v = .slice a L.length cap ∧ ∀ i, i < L.length → ∃ g, a = some ⟨g, 0, none⟩ ∧ base ≤ g ∧ w.cell? ⟨g, i, none⟩ = some (.int .i64 (L.getD i 0)) := by
  obtain ⟨h1, h2⟩ := h
  rcases h2 with ⟨h2, h3⟩ | ⟨g, cap, cur, hv, hg, hh, hn, hm, hs, ht⟩
  · refine ⟨none, 0, by rw [h2, h3], fun i hi => by omega⟩
  · refine ⟨_, cap, hv, fun i hi => ⟨g, rfl, hg, ?_⟩⟩
    simp only [World.cell?, hh]
    have e : (cur.toList.take (L.length * 1))[i]? = (L.map (Value.int .i64))[i]? := by rw [ht]
    rw [List.getElem?_take_of_lt (by omega)] at e
    simp only [Array.getElem?_toList] at e
    simp only [Option.isSome_none, Bool.false_eq_true, if_false]
    rw [e, List.getElem?_map, List.getElem?_eq_getElem hi]
    simp [List.getD, hi]

section
variable {ops : Array Oper} {rest : List Oper} {o : Oper} {a : Act} {Q : Exit → Act → World → Prop} {w : World}
/-- 'append(s, y)' where s is nil or the call's own. -/
theorem wpl_append_int (hgd : o.guard = none) (s x : Operand)
    (ho : o.op = .call { callee := .builtin .append, args := #[s, x], argTypes := #[36, 36] })
    (base : Nat) {v : Value} {y : Int} {L : List Int} {c : Nat} (hs : a.eval s = v) (hx : a.eval x = .slice (some ⟨w.heap.size, 0, none⟩) 1 c) (hown : Ints w base v L)
    (hlen : L.length < 17592186044416) (hbase : base ≤ w.heap.size)
    (h : ∀ v' w', Ints w' base v' (L ++ [y]) → w.heap.size + 1 ≤ w'.heap.size → (∀ b i, b < base → w'.cell? ⟨b, i, none⟩ = w.cell? ⟨b, i, none⟩) → (∀ b i, b < base → w'.frozen? ⟨b, i, none⟩ = w.frozen? ⟨b, i, none⟩) →
      Below base w w' → wpList Try.prog ops Q rest (a.put o.dst v') w') :
    wpList Try.prog ops Q (o :: rest) a (w.alloc (.cells #[.int .i64 y] 3)) := by
  obtain ⟨i0, hi, hz0, hz1, hz2⟩ := info_parts info_int
  have hb0 : Below base w (w.alloc (.cells #[.int .i64 y] 3)) := (Below.refl _ _).alloc hbase _
  refine wpList_append_own _ hgd s x 36 ho base 3 i0 (.int .i64 0) 1 8 Try.underlying36 hi hz0 hz1 hz2 rfl (by decide) v L.length (L.map (Value.int .i64)) hs (hown.alloc _) ⟨w.heap.size, 0, none⟩ 1 c [.int .i64 y] hx rfl
    (cell_one_new _ _ _) (by simp [Value.oneCell']) (by unfold maxLen; omega) (by omega) (by simp; omega) ?_
  intro v' w' hown' hg _
  have hb1 : Below base (w.alloc (.cells #[.int .i64 y] 3)) w' := (Below.refl _ _).grown hg (by simp; omega) (fun k hk => (World.ownsRow.lt hown k hk).1)
  have hb : Below base w w' := hb0.trans hb1
  exact h v' w' (by unfold Ints; simpa using hown') (by have := hg.size; simpa using this) (fun b i hb' => hb.cell (p := ⟨b, i, none⟩) hb') (fun b i hb' => hb.frozen (p := ⟨b, i, none⟩) hb') hb
end
end Go.Proofs.Ytekpjmdkihnpeaa
