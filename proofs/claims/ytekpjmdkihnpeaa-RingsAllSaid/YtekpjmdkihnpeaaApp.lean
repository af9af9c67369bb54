/- An append of one int to a slice of the call's own, the world's other rows kept: at the operation, and in a region that draws. -/
import Derived.Test.YtekpjmdkihnpeaaInts
import Derived.Maps.AppendAt
import Derived.Deep.RegionLaw
namespace Go.Proofs.Ytekpjmdkihnpeaa
set_option linter.unusedSimpArgs false
set_option linter.unusedVariables false
open Go.RowKit Go.Shelf

/-- Two rows in different blocks. -/
def Apart (v u : Value) : Prop := ∀ g, v.ownBlock = some g → u.ownBlock ≠ some g
theorem Apart.symm {v u : Value} (h : Apart v u) : Apart u v := fun g hg hv => h g hv hg
theorem Apart.nil (u : Value) : Apart (.slice none 0 0) u := fun g hg => by cases hg
theorem Ints.ownLt {w : World} {base : Nat} {v : Value} {L : List Int} (h : Ints w base v L) : ∀ k, v.ownBlock = some k → base ≤ k ∧ k < w.heap.size := World.ownsRow.lt h
theorem Apart.of_base {w w' : World} {b b' : Nat} {v u : Value} {L M : List Int} (h : Ints w b v L) (k : Ints w' b' u M) (hb : w.heap.size ≤ b') : Apart v u := fun g hg hu => by
  have := (h.ownLt g hg).2; have := (k.ownLt g hu).1; omega

/-- What an append to v leaves. -/
structure Grew (base : Nat) (w : World) (v : Value) (w' : World) (v' : Value) : Prop where
  size : w.heap.size ≤ w'.heap.size
  keep : ∀ k, k < w.heap.size → v.ownBlock ≠ some k → w'.heap[k]? = w.heap[k]?
  own : v'.ownBlock = v.ownBlock ∨ ∃ n, v'.ownBlock = some n ∧ w.heap.size ≤ n
  below : Below base w w'

theorem Grew.apart {base : Nat} {w w' : World} {v v' u : Value} {b : Nat} {L : List Int} (h : Grew base w v w' v') (ha : Apart v u) (hu : Ints w b u L) : Apart v' u := fun g hg hu' => by
  rcases h.own with e | ⟨n, e, hn⟩
  · rw [e] at hg; exact ha g hg hu'
  · rw [e] at hg; cases hg
    have := (hu.ownLt _ hu').2; omega
theorem Grew.ints {base : Nat} {w w' : World} {v v' u : Value} {b : Nat} {L : List Int} (h : Grew base w v w' v') (ha : Apart v u) (hu : Ints w b u L) : Ints w' b u L :=
  hu.keep fun g _ hg hu' => h.keep g hg (fun hv => ha g hv hu')

theorem run_append_int {base : Nat} {w : World} {v : Value} {ty : TypeId} {y : Int} {L : List Int} {c b : Nat} (hown : Ints w base v L) (hb : w.cell? ⟨b, 0, none⟩ = some (.int .i64 y)) (hlen : L.length < 17592186044416) (hbase : base ≤ w.heap.size) :
    ∃ v' w', (Builtin.append_ #[36, 36] ty #[v, .slice (some ⟨b, 0, none⟩) 1 c]).run Try.prog w = .ok v' w' ∧ Ints w' base v' (L ++ [y]) ∧ Grew base w v w' v' := by
  obtain ⟨i0, hi, hz0, hz1, hz2⟩ := info_parts info_int
  obtain ⟨v', w', h1, h2, h3, h4, h5⟩ := run_append_own_at (P := Try.prog) w base 36 ty 3 i0 (.int .i64 0) 1 8 Try.underlying36 hi hz0 hz1 hz2 rfl (by decide) v L.length (L.map (Value.int .i64)) hown ⟨b, 0, none⟩ 1 c [.int .i64 y] rfl
    (fun j u hj => by
      rcases j with _ | j
      · simp at hj; subst hj; simpa [Addr.add] using hb
      · simp at hj) (by simp [Value.oneCell']) (by unfold maxLen; omega) (by omega) hbase
  refine ⟨v', w', h1, by unfold Ints; simpa using h2, ⟨h3.size, ?_, ?_, (Below.refl _ _).grown h3 hbase (fun k hk => (World.ownsRow.lt hown k hk).1)⟩⟩
  · intro k hk hv; exact h3.block k hk (fun e => hv e.symm)
  · rcases h5 with h5 | h5
    · exact .inl h5
    · exact .inr ⟨_, h5, Nat.le_refl _⟩

/-- At the operation, a plain walk. -/
theorem wpl_append {ops : Array Oper} {rest : List Oper} {o : Oper} {a : Act} {Q : Exit → Act → World → Prop} {w : World} (hgd : o.guard = none) (s x : Operand)
    (ho : o.op = .call { callee := .builtin .append, args := #[s, x], argTypes := #[36, 36] })
    (base : Nat) {v : Value} {y : Int} {L : List Int} {c b : Nat} (hs : a.eval s = v) (hx : a.eval x = .slice (some ⟨b, 0, none⟩) 1 c) (hown : Ints w base v L) (hb : w.cell? ⟨b, 0, none⟩ = some (.int .i64 y))
    (hlen : L.length < 17592186044416) (hbase : base ≤ w.heap.size)
    (h : ∀ v' w', Ints w' base v' (L ++ [y]) → Grew base w v w' v' → wpList Try.prog ops Q rest (a.put o.dst v') w') :
    wpList Try.prog ops Q (o :: rest) a w := by
  refine wpList_plain hgd fun K hK => ?_
  obtain ⟨v', w', hr, h2, h3⟩ := run_append_int (ty := o.type) (c := c) hown hb hlen hbase
  unfold Oper.wp
  simp [execOp, ho, resolve, invoke, builtin, hs, hx, hr, Result.andThen]
  exact hK _ _ (h v' w' h2 h3)

/-- In a region that draws. -/
theorem step_append {ops : Array Oper} {o : Oper} {a : Act} {Q : Exit → Act → World → Prop} {w : World} {K : Act → World → Prop} {E : Prop} (hgd : o.guard = none) (s x : Operand)
    (ho : o.op = .call { callee := .builtin .append, args := #[s, x], argTypes := #[36, 36] })
    (base : Nat) {v : Value} {y : Int} {L : List Int} {c b : Nat} (hs : a.eval s = v) (hx : a.eval x = .slice (some ⟨b, 0, none⟩) 1 c) (hown : Ints w base v L) (hb : w.cell? ⟨b, 0, none⟩ = some (.int .i64 y))
    (hlen : L.length < 17592186044416) (hbase : base ≤ w.heap.size)
    (h : ∀ v' w', Ints w' base v' (L ++ [y]) → Grew base w v w' v' → K (a.put o.dst v') w') :
    if Region.wanted o (yielded ops a.tmps) = true then Oper.wp Try.prog o a w K Q else E := by
  have hw : Region.wanted o (yielded ops a.tmps) = true := by simp [Region.wanted, hgd]
  rw [if_pos hw]
  obtain ⟨v', w', hr, h2, h3⟩ := run_append_int (ty := o.type) (c := c) hown hb hlen hbase
  unfold Oper.wp
  simp [execOp, ho, resolve, invoke, builtin, hs, hx, hr, Result.andThen]
  exact h v' w' h2 h3
end Go.Proofs.Ytekpjmdkihnpeaa
