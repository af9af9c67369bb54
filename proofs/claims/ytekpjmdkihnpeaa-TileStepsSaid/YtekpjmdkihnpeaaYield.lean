/- An iterator without cells of its own: its contract, the sets of blocks packed away. -/
import Derived.Test.YtekpjmdkihnpeaaRange
namespace Go.Proofs.Ytekpjmdkihnpeaa
set_option linter.unusedSimpArgs false
set_option linter.unusedVariables false
open Go.RowKit Go.Shelf

theorem Iter.of {α : Type} {P : Program} {gf : Nat} {lb : Array Value} {encs : α → Array Value} {L : List α} {C : Nat → Prop} {w : World}
    (h : ∀ (l : Nat) (Y : List α → World → Prop) (D : World → Prop) (V : World) (S : Nat → Prop), Md w.heap.size NoB w V → (∀ k, S k → ¬ C k) →
      (∀ pre W W', Y pre W → Below W.heap.size W W' → Y pre W') → (∀ pre W, Y pre W → Md V.heap.size S V W) →
      (∀ pre x post W, L = pre ++ x :: post → Y pre W → YieldAt Fence.wide 0 P l (encs x) W fun e W' => (e = .returned (.bool true) ∧ Y (pre ++ [x]) W') ∨ (e = .returned (.bool false) ∧ D W')) →
      Y [] V → CallsIn Fence.wide 0 P gf (#[.func (.yield l) #[] #[]] ++ lb) V fun e W' => (∃ v, e = .returned v) ∧ (Y L W' ∨ D W')) :
    Iter P gf lb encs L C w := by
  intro l J Jx S V hV hJ hJx hBd hSC hY h0
  refine (h l (fun pre W => ∃ S', Grw S S' V.heap.size ∧ Bd S' W ∧ Md V.heap.size S V W ∧ J pre S' W) (fun W => ∃ S', Grw S S' V.heap.size ∧ Bd S' W ∧ Md V.heap.size S V W ∧ Jx S' W) V S hV hSC ?_ ?_ ?_ ?_).mono ?_
  · rintro pre W W' ⟨S', hG, hB, hM, hj⟩ hb
    exact ⟨S', hG, fun k hk => by have := hB k hk; have := hb.size; omega, hM.call hb hM.size, hJ _ S' W W' hj (fun k hk => hb.block k (hB k hk))⟩
  · rintro pre W ⟨S', _, _, hM, _⟩; exact hM
  · rintro pre x post W hL ⟨S', hG, hB, hM, hj⟩
    obtain ⟨fn, tmps, assign, body, hy, hR⟩ := hY pre x post S' W hL hB hM hG hj
    refine ⟨fn, tmps, assign, body, hy, hR.mono ?_⟩
    have key : ∀ (S3 : Nat → Prop) (W' : World), Grw S' S3 W.heap.size → Md W.heap.size S' W W' → Grw S S3 V.heap.size ∧ Md V.heap.size S V W' := fun S3 W' hG3 hM3 =>
      ⟨hG.trans hG3 hM.size, hM.trans (hM3.mono hM.size (fun i hi h => (hG i h).resolve_right (by omega)))⟩
    rintro e W' ⟨S3, hG3, hB3, hM3, (⟨rfl, hJ3⟩ | ⟨rfl, hJ3⟩)⟩
    · exact .inl ⟨rfl, S3, (key S3 W' hG3 hM3).1, hB3, (key S3 W' hG3 hM3).2, hJ3⟩
    · exact .inr ⟨rfl, S3, (key S3 W' hG3 hM3).1, hB3, (key S3 W' hG3 hM3).2, hJ3⟩
  · exact ⟨S, Grw.refl _ _, hBd, Md.refl _ _ _, h0⟩
  · rintro e W' ⟨hv, (⟨S', h1, h2, h3, h4⟩ | ⟨S', h1, h2, h3, h4⟩)⟩
    · exact ⟨hv, S', h1, h2, h3, .inl h4⟩
    · exact ⟨hv, S', h1, h2, h3, .inr h4⟩
end Go.Proofs.Ytekpjmdkihnpeaa
