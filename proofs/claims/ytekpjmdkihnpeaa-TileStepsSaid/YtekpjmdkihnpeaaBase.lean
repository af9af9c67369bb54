/- General words of this seat's walks: what a call may have turned ('Md'), an iterator's contract ('Iter'), and the law of a range over a function. -/
import Derived.RangeFuncNested
import Derived.RangeFuncBound
import Derived.RangeFuncCalls
import Derived.RangeFuncLeaves
import Derived.Shelf.Abstract
import Derived.Shelf.RegionOpen
import Derived.WalkKit
import Derived.OwnWalkIn
import Derived.TacticsInMore
import Derived.LoopNIn
import Derived.LoopIn
namespace Go.Proofs.Ytekpjmdkihnpeaa
set_option linter.unusedSimpArgs false
set_option linter.unusedVariables false
open Go.RowKit Go.Shelf

/-- Below block number B, but for the blocks of S, the world w' is as w was. -/
structure Md (B : Nat) (S : Nat → Prop) (w w' : World) : Prop where
  os : w'.os = w.os
  tape : w'.tape = w.tape
  output : w'.output = w.output
  size : w.heap.size ≤ w'.heap.size
  block : ∀ k, k < B → ¬ S k → w'.heap[k]? = w.heap[k]?

/-- No block. -/
def NoB : Nat → Prop := fun _ => False

theorem Md.refl (B : Nat) (S : Nat → Prop) (w : World) : Md B S w w := ⟨rfl, rfl, rfl, Nat.le_refl _, fun _ _ _ => rfl⟩
theorem Md.trans {B : Nat} {S : Nat → Prop} {a b c : World} (h : Md B S a b) (k : Md B S b c) : Md B S a c :=
  ⟨k.os.trans h.os, k.tape.trans h.tape, k.output.trans h.output, Nat.le_trans h.size k.size, fun i hi hs => (k.block i hi hs).trans (h.block i hi hs)⟩
theorem Md.mono {B B' : Nat} {S S' : Nat → Prop} {w w' : World} (h : Md B S w w') (hB : B' ≤ B) (hS : ∀ k, k < B' → S k → S' k) : Md B' S' w w' :=
  ⟨h.os, h.tape, h.output, h.size, fun k hk hs => h.block k (Nat.lt_of_lt_of_le hk hB) (fun h' => hs (hS k hk h'))⟩
theorem Md.alloc {B : Nat} {S : Nat → Prop} {a w : World} (h : Md B S a w) (hB : B ≤ w.heap.size) (o : Obj) : Md B S a (w.alloc o) :=
  h.trans ⟨rfl, rfl, rfl, by simp, fun k hk _ => Below.heap_alloc _ _ _ (by omega)⟩
theorem Md.drew {B : Nat} {S : Nat → Prop} {a w : World} (h : Md B S a w) : Md B S a w.drew := ⟨h.os, h.tape, h.output, h.size, h.block⟩
theorem Md.drewN {B : Nat} {S : Nat → Prop} {a w : World} (h : Md B S a w) (n : Nat) : Md B S a (w.drewN n) := ⟨h.os, h.tape, h.output, h.size, h.block⟩
theorem Md.setCell {B : Nat} {S : Nat → Prop} {a w : World} (h : Md B S a w) {p : Addr} (hp : S p.block ∨ B ≤ p.block) (u : Value) : Md B S a (w.setCell p u) :=
  h.trans ⟨rfl, rfl, rfl, by simp [World.setCell], fun k hk hs => Below.heap_setCell _ _ _ _ (fun e => by subst e; rcases hp with hp | hp <;> first | exact hs hp | omega)⟩
theorem Md.below {B : Nat} {w w' : World} (h : Md B NoB w w') : Below B w w' := ⟨h.os, h.tape, h.output, h.size, fun k hk => h.block k hk (fun h => h)⟩
theorem Md.of_below {B : Nat} {S : Nat → Prop} {w w' : World} (h : Below B w w') : Md B S w w' := ⟨h.os, h.tape, h.output, h.size, fun k hk _ => h.block k hk⟩
theorem Md.call {B : Nat} {S : Nat → Prop} {a w w' : World} (h : Md B S a w) (k : Below w.heap.size w w') (hB : B ≤ w.heap.size) : Md B S a w' := h.trans (Md.of_below (k.mono hB))
theorem Md.putObj {B : Nat} {S : Nat → Prop} {a w : World} (h : Md B S a w) {l : Nat} (hp : S l ∨ B ≤ l) (o : Obj) : Md B S a (w.putObj l o) :=
  h.trans ⟨rfl, rfl, rfl, by simp [World.putObj], fun k hk hs => World.putObj_heap_other (fun e => by subst e; rcases hp with hp | hp <;> first | exact hs hp | omega)⟩

theorem _root_.Go.RowKit.Below.drewN' {B : Nat} {a w : World} (h : Below B a w) (n : Nat) : Below B a (w.drewN n) := ⟨h.os, h.tape, h.output, h.size, h.block⟩
/-- All old cells and marks read as before. -/
theorem bcell {W w1 : World} (hb : Below W.heap.size W w1) : (∀ b o, b < W.heap.size → w1.cell? ⟨b, o, none⟩ = W.cell? ⟨b, o, none⟩) ∧ (∀ b o, b < W.heap.size → w1.frozen? ⟨b, o, none⟩ = W.frozen? ⟨b, o, none⟩) :=
  ⟨fun b o h => hb.cell (p := ⟨b, o, none⟩) h, fun b o h => hb.frozen (p := ⟨b, o, none⟩) h⟩

/-- The blocks of S lie in W. -/
def Bd (S : Nat → Prop) (W : World) : Prop := ∀ k, S k → k < W.heap.size
/-- S' has beyond S blocks from n on alone. -/
def Grw (S S' : Nat → Prop) (n : Nat) : Prop := ∀ k, S' k → S k ∨ n ≤ k
/-- J speaks of the blocks of S alone. -/
def Stab (J : (Nat → Prop) → World → Prop) : Prop := ∀ S W W', J S W → (∀ k, S k → W'.heap[k]? = W.heap[k]?) → J S W'

theorem Grw.refl (S : Nat → Prop) (n : Nat) : Grw S S n := fun _ h => .inl h
theorem Grw.trans {S T U : Nat → Prop} {n m : Nat} (h : Grw S T n) (k : Grw T U m) (hm : n ≤ m) : Grw S U n := fun i hi => by
  rcases k i hi with hi | hi
  · exact h i hi
  · exact .inr (Nat.le_trans hm hi)
theorem Md.shrink {B n : Nat} {S T : Nat → Prop} {w w' : World} (h : Md B T w w') (hg : Grw S T n) (hB : B ≤ n) : Md B S w w' :=
  ⟨h.os, h.tape, h.output, h.size, fun k hk hs => h.block k hk (fun ht => by rcases hg k ht with h' | h' <;> first | exact hs h' | omega)⟩

/-- **AN ITERATOR's CONTRACT**: it hands the values of L to yield, in their order, till a round says 'no more'; it writes no block that was there but what the rounds write (the blocks of S); it reads the blocks of C. -/
def Iter {α : Type} (P : Program) (gf : Nat) (lb : Array Value) (encs : α → Array Value) (L : List α) (C : Nat → Prop) (w : World) : Prop :=
  ∀ (l : Nat) (J : List α → (Nat → Prop) → World → Prop) (Jx : (Nat → Prop) → World → Prop) (S : Nat → Prop) (W : World),
    Md w.heap.size NoB w W → (∀ pre, Stab (J pre)) → Stab Jx → Bd S W → (∀ k, S k → ¬ C k) →
    (∀ pre x post S1 W1, L = pre ++ x :: post → Bd S1 W1 → Md W.heap.size S W W1 → Grw S S1 W.heap.size → J pre S1 W1 →
       YieldAt Fence.wide 0 P l (encs x) W1 fun e W' => ∃ S', Grw S1 S' W1.heap.size ∧ Bd S' W' ∧ Md W1.heap.size S1 W1 W' ∧
          ((e = .returned (.bool true) ∧ J (pre ++ [x]) S' W') ∨ (e = .returned (.bool false) ∧ Jx S' W'))) →
    J [] S W →
    CallsIn Fence.wide 0 P gf (#[.func (.yield l) #[] #[]] ++ lb) W fun e W' => (∃ v, e = .returned v) ∧ ∃ S', Grw S S' W.heap.size ∧ Bd S' W' ∧ Md W.heap.size S W W' ∧ (J L S' W' ∨ Jx S' W')

/-- Later worlds: what was there lies as it lay. -/
theorem Iter.later {α : Type} {P : Program} {gf : Nat} {lb : Array Value} {encs : α → Array Value} {L : List α} {C : Nat → Prop} {w w' : World}
    (h : Iter P gf lb encs L C w) (hb : Below w.heap.size w w') : Iter P gf lb encs L C w' :=
  fun l J Jx S W hW => h l J Jx S W ((Md.of_below hb).trans (hW.mono hb.size (fun _ _ h => h)))

/-- New blocks, one behind the other. -/
def allocs (W : World) : List Obj → World
  | [] => W
  | o :: os => allocs (W.alloc o) os

theorem allocs_md (os : List Obj) : ∀ (B : Nat) (S : Nat → Prop) (W : World), B ≤ W.heap.size → Md B S W (allocs W os) := by
  induction os with
  | nil => exact fun B S W _ => Md.refl _ _ _
  | cons o os ih => exact fun B S W hB => ((Md.refl B S W).alloc hB o).trans (ih B S (W.alloc o) (by simp; omega))

theorem allocs_size (os : List Obj) : ∀ (W : World), (allocs W os).heap.size = W.heap.size + os.length := by
  induction os with
  | nil => intro W; simp [allocs]
  | cons o os ih => intro W; simp only [allocs, ih, World.size_alloc, List.length_cons]; omega

theorem allocs_new (os : List Obj) : ∀ (W : World) (i : Nat) (o : Obj), os[i]? = some o → (allocs W os).heap[W.heap.size + i]? = some o := by
  induction os with
  | nil => intro W i o h; simp at h
  | cons o os ih =>
    intro W i o' h
    cases i with
    | zero =>
      simp at h; subst h
      have := (allocs_md os (W.alloc o).heap.size NoB (W.alloc o) (Nat.le_refl _)).block W.heap.size (by simp) (fun h => h)
      simp only [allocs, Nat.add_zero]
      rw [this]; exact World.alloc_heap_new W o
    | succ i =>
      have := ih (W.alloc o) i o' (by simpa using h)
      rw [World.size_alloc] at this
      simp only [allocs]
      rw [show W.heap.size + (i + 1) = W.heap.size + 1 + i from by omega]
      exact this

/-- WHAT THE BODY OF A ROUND OWES, by the way in which it is left. -/
def bodyQ (I : (Nat → Prop) → World → Prop) (Ix : Code → (Nat → Prop) → World → Prop) (S : Nat → Prop) (n : Nat) (W : World) : Exit → Act → World → Prop
  | .normal, _, W' => ∃ S', Grw S S' n ∧ Bd S' W' ∧ Md n S W W' ∧ I S' W'
  | .ret, _, W' => ∃ S', Grw S S' n ∧ Bd S' W' ∧ Md n S W W' ∧ Ix .ret S' W'
  | .exit id, _, W' => ∃ S', Grw S S' n ∧ Bd S' W' ∧ Md n S W W' ∧ Ix (.exit id) S' W'
  | .goto t, _, W' => ∃ S', Grw S S' n ∧ Bd S' W' ∧ Md n S W W' ∧ Ix (.goto t) S' W'
  | .panic _, _, _ => False
  | .outgrown, _, _ => False

/-- The fence without bounds, in a round or not. -/
abbrev FR (r : Option Nat) : Fence := { Fence.wide with round := r }

/-- THE LAW's CORE, wherever the loop stands: X: the blocks of the book-keeping. -/
theorem range_core {α : Type} {P : Program} {r : Option Nat} {g : Operand} {ps : Array Tmp} {assign body : Code} {Q : Exit → Act → World → Prop} {a : Act} {w : World}
    {gf : Nat} {lb : Array Value} (hg : a.eval g = .func (.func gf) #[] lb) (eg : ∀ args w, (callFunc gf args).run P w = .ok (.enter gf args) w)
    {encs : α → Array Value} {L : List α} {C : Nat → Prop} (hit : Iter P gf lb encs L C w) (hps : ∀ x, (encs x).size = ps.size)
    (l : Nat) (mark : List Deferred) (X : Nat → Prop) (D : Nat) (od : Option Obj)
    (hX : ∀ k, X k → w.heap.size ≤ k) (hXl : X l) (hD : od ≠ none → X D ∧ D ≠ l)
    (hent : ∀ fn, ∃ (W1 : World) (rec : LoopState → Option Code → Loop), (Instr.enterLoop fn a.tmps ps assign body r).run P w = .ok (l, mark) W1 ∧ W1.heap[l]? = some (.loop (rec .ready none)) ∧
       (∀ o, od = some o → W1.heap[D]? = some o) ∧ Md w.heap.size NoB w W1 ∧ Bd X W1 ∧
       (∀ s p, (rec s p).state = s) ∧ (∀ s p, (rec s p).pending = p) ∧ (∀ s p, (rec s p).fn = fn) ∧ (∀ s p, (rec s p).tmps = a.tmps) ∧ (∀ s p, (rec s p).params = ps) ∧ (∀ s p, (rec s p).assign = assign) ∧ (∀ s p, (rec s p).body = body) ∧
       (∀ s p s' p', { rec s p with state := s', pending := p' } = rec s' p'))
    (I : List α → (Nat → Prop) → World → Prop) (Ix : Code → (Nat → Prop) → World → Prop) (S0 : Nat → Prop)
    (hI : ∀ pre, Stab (I pre)) (hIx : ∀ c, Stab (Ix c)) (hS : ∀ k, S0 k → k < w.heap.size ∧ ¬ C k) (hC : ∀ k, C k → k < w.heap.size) (h0 : I [] S0 w)
    (os : α → List Obj) (a₁ : α → Nat → Act)
    (hassign : ∀ (l : Nat) (x : α) (W : World) (K : Act → World → Prop), K (a₁ x W.heap.size) (allocs W (os x)) →
      assign.wpIn (FR (some l)) 0 P (Exit.then K (fun _ _ _ => False)) { tmps := (ps.zip (encs x)).foldl (fun t (p, v) => t.setIfInBounds p v) a.tmps, defers := [] } W)
    (hbody : ∀ (n : Nat) (pre : List α) (x : α) (post : List α) (S : Nat → Prop) (W : World), L = pre ++ x :: post → w.heap.size ≤ n → (∀ k, X k → k < n) → (∃ r, W.heap[l]? = some (.loop r)) →
      (∀ k, X k → ¬ S k) → (∀ k, S k → k < n) → (∀ i o, (os x)[i]? = some o → W.heap[n + i]? = some o) → W.heap.size = n + (os x).length → Md w.heap.size S0 w W → Grw S0 S w.heap.size → I pre S W →
      body.wpIn (FR (some l)) 0 P (bodyQ (I (pre ++ [x])) Ix S n W) (a₁ x n) W)
    (hdone : ∀ (S : Nat → Prop) (W : World), Md w.heap.size S0 w W → Grw S0 S w.heap.size → Bd S W → (∀ k, X k → ¬ S k) → (∀ o, od = some o → W.heap[D]? = some o) → I L S W → Q .normal { a with defers := mark ++ a.defers } W)
    (hstop : ∀ (S : Nat → Prop) (W : World) (c : Code), Md w.heap.size S0 w W → Grw S0 S w.heap.size → Bd S W → (∀ k, X k → ¬ S k) → (∀ o, od = some o → W.heap[D]? = some o) → Ix c S W → c.wpIn (FR r) 0 P Q { a with defers := mark ++ a.defers } W) :
    (Code.rangeFunc g ps assign body).wpIn (FR r) 0 P Q a w := by
  refine wpIn_rangeFunc ?_
  intro fn _
  obtain ⟨W1, rec, hent, hL1, hD1, hb1, hBX, rst, rpe, rfn, rtm, rpa, ras, rbo, rup⟩ := hent fn
  have hSX : ∀ k, S0 k → ¬ X k := fun k hk hx => by have := (hS k hk).1; have := hX k hx; omega
  refine ⟨l, mark, W1, { target := .fn (.func gf) lb, args := #[.func (.yield l) #[] #[]] }, W1, gf, #[.func (.yield l) #[] #[]] ++ lb, W1, hent, ?_, ?_, ?_, fun h => by simp [Fence.wide] at h, ?_⟩
  · simp only [resolve, hg]
    simp [go_sem]
  · intro f' _; exact trivial
  · simp [invoke, go_sem, eg]
  · refine (hit l
      (fun pre S W => ∃ T, (∀ k, S k ↔ (T k ∨ X k)) ∧ (∀ k, X k → ¬ T k) ∧ Grw S0 T w.heap.size ∧ I pre T W ∧ W.heap[l]? = some (.loop (rec .ready none)) ∧ (∀ o, od = some o → W.heap[D]? = some o))
      (fun S W => ∃ c T, (∀ k, S k ↔ (T k ∨ X k)) ∧ (∀ k, X k → ¬ T k) ∧ Grw S0 T w.heap.size ∧ Ix c T W ∧ W.heap[l]? = some (.loop (rec .done (some c))) ∧ (∀ o, od = some o → W.heap[D]? = some o))
      (fun k => S0 k ∨ X k) W1 hb1 ?_ ?_ ?_ ?_ ?_ ?_).mono ?_
    · rintro pre S W W' ⟨T, hT, hTX, hG, hi, hl, hd⟩ heq
      refine ⟨T, hT, hTX, hG, hI pre T W W' hi (fun k hk => heq k ((hT k).2 (.inl hk))), (heq l ((hT l).2 (.inr hXl))).trans hl, fun o ho => (heq D ((hT D).2 (.inr (hD (by simp [ho])).1))).trans (hd o ho)⟩
    · rintro S W W' ⟨c, T, hT, hTX, hG, hi, hl, hd⟩ heq
      exact ⟨c, T, hT, hTX, hG, hIx c T W W' hi (fun k hk => heq k ((hT k).2 (.inl hk))), (heq l ((hT l).2 (.inr hXl))).trans hl, fun o ho => (heq D ((hT D).2 (.inr (hD (by simp [ho])).1))).trans (hd o ho)⟩
    · rintro k (hk | hk)
      · have := (hS k hk).1; have := hb1.size; omega
      · exact hBX k hk
    · rintro k (hk | hk)
      · exact (hS k hk).2
      · intro hc; have := hC k hc; have := hX k hk; omega
    · -- ONE ROUND
      rintro pre x post S1 W hpre hBd hMd hGr ⟨T, hT, hTX, hG, hi, hl, hd⟩
      have hlt : l < W.heap.size := hBd l ((hT l).2 (.inr hXl))
      have hy := run_yield (P := P) (args := encs x) hl (by rw [rpa]; exact hps x)
      rw [rfn, rpa, rtm, ras, rbo] at hy
      refine ⟨fn, _, assign, body, hy, roundIn_of_wpIn trivial (hassign l x W _ ?_)⟩
      clear hy
      have hal := allocs_md (os x) W.heap.size NoB W (Nat.le_refl _)
      have hlA : (allocs W (os x)).heap[l]? = some (.loop (rec .ready none)) := (hal.block l hlt (fun h => h)).trans hl
      have hltA : l < (allocs W (os x)).heap.size := (Array.getElem?_eq_some_iff.1 hlA).1
      refine ⟨_, run_beginRound hlA (rst _ _), ?_⟩
      have hrec' : ({ rec .ready none with state := .busy } : Loop) = rec .busy none := by
        have := rup .ready none .busy none
        rw [← this]; simp [rpe]
      rw [hrec']
      obtain ⟨W2, hW2⟩ : ∃ W2, (allocs W (os x)).putObj l (.loop (rec .busy none)) = W2 := ⟨_, rfl⟩
      have hl2 : W2.heap[l]? = some (.loop (rec .busy none)) := by rw [← hW2]; exact World.putObj_heap_same hltA
      have hoth : ∀ k, k ≠ l → W2.heap[k]? = (allocs W (os x)).heap[k]? := fun k hk => by rw [← hW2]; exact World.putObj_heap_other hk
      have hsz2 : W2.heap.size = W.heap.size + (os x).length := by rw [← hW2, ← allocs_size]; simp [World.putObj]
      have hMdW2 : Md W.heap.size (fun k => k = l) W W2 := by
        rw [← hW2]
        exact Md.putObj (S := fun k => k = l) (l := l) (hal.mono (Nat.le_refl _) (fun k _ h => h.elim)) (.inl rfl) _
      have hWsz : w.heap.size ≤ W.heap.size := Nat.le_trans hb1.size hMd.size
      have hw2 : Md w.heap.size S0 w W2 := by
        refine ((hb1.mono (Nat.le_refl _) (fun k _ h => h.elim)).trans (hMd.mono hb1.size (fun k hk h => ?_))).trans (hMdW2.mono hWsz (fun k hk h => ?_))
        · rcases h with h | h
          · exact h
          · have := hX k h; omega
        · subst h; have := hX k hXl; omega
      rw [hW2]
      have hbd := hbody W.heap.size pre x post T W2 hpre hWsz (fun k hk => hBd k ((hT k).2 (.inr hk))) ⟨_, hl2⟩ hTX (fun k hk => hBd k ((hT k).2 (.inl hk)))
        (fun i o ho => (hoth _ (by omega)).trans (allocs_new (os x) W i o ho)) hsz2 hw2 hG
        (hI pre T W W2 hi (fun k hk => (hMdW2.block k (hBd k ((hT k).2 (.inl hk))) (fun h => by subst h; exact hTX _ hXl hk))))
      refine wpIn_mono hbd ?_
      have fin : ∀ (jump : Option Code) (T' : Nat → Prop) (W3 : World), Grw T T' W.heap.size → Bd T' W3 → Md W.heap.size T W2 W3 →
          (Instr.endRound l jump).run P W3 = .ok (.bool jump.isNone) (W3.putObj l (.loop (rec (if jump.isNone then .ready else .done) jump))) ∧
          (W3.putObj l (.loop (rec (if jump.isNone then .ready else .done) jump))).heap[l]? = some (.loop (rec (if jump.isNone then .ready else .done) jump)) ∧
          (∀ o, od = some o → (W3.putObj l (.loop (rec (if jump.isNone then .ready else .done) jump))).heap[D]? = some o) ∧
          (∀ k, X k → ¬ T' k) ∧ Grw S1 (fun k => T' k ∨ X k) W.heap.size ∧ Bd (fun k => T' k ∨ X k) (W3.putObj l (.loop (rec (if jump.isNone then .ready else .done) jump))) ∧
          Md W.heap.size S1 W (W3.putObj l (.loop (rec (if jump.isNone then .ready else .done) jump))) ∧ Grw S0 T' w.heap.size ∧ (∀ k, T' k → (W3.putObj l (.loop (rec (if jump.isNone then .ready else .done) jump))).heap[k]? = W3.heap[k]?) := by
        intro jump T' W3 hg3 hb3 hm3
        have hl3 : W3.heap[l]? = some (.loop (rec .busy none)) := (hm3.block l hlt (hTX l hXl)).trans hl2
        have hlt3 := (Array.getElem?_eq_some_iff.1 hl3).1
        have hXT' : ∀ k, X k → ¬ T' k := fun k hk ht => by
          rcases hg3 k ht with h | h
          · exact hTX k hk h
          · have := hBd k ((hT k).2 (.inr hk)); omega
        refine ⟨?_, World.putObj_heap_same hlt3, ?_, hXT', ?_, ?_, ?_, hG.trans hg3 hWsz, fun k hk => World.putObj_heap_other (fun e => by subst e; exact hXT' _ hXl hk)⟩
        · have := run_endRound (P := P) jump hl3
          rw [rup] at this; exact this
        · intro o ho
          have hDl := (hD (by simp [ho])).2
          have hDX := (hD (by simp [ho])).1
          have hDlt := hBd D ((hT D).2 (.inr hDX))
          exact (World.putObj_heap_other hDl).trans ((hm3.block D hDlt (hTX D hDX)).trans ((hoth D hDl).trans ((hal.block D hDlt (fun h => h)).trans (hd o ho))))
        · rintro k (hk | hk)
          · rcases hg3 k hk with h | h
            · exact .inl ((hT k).2 (.inl h))
            · exact .inr h
          · exact .inl ((hT k).2 (.inr hk))
        · rintro k (hk | hk)
          · have := hb3 k hk; simpa [World.putObj] using this
          · have h1 := hBd k ((hT k).2 (.inr hk))
            have h2 := hm3.size
            simp [World.putObj]; omega
        · refine Md.putObj ?_ (.inl ((hT l).2 (.inr hXl))) _
          refine (hMdW2.mono (Nat.le_refl _) (fun k _ h => by subst h; exact (hT _).2 (.inr hXl))).trans (hm3.mono (Nat.le_refl _) (fun k _ h => (hT k).2 (.inl h)))
      rintro e a3 W3 hp
      cases e with
      | normal =>
        obtain ⟨T', hg3, hb3, hm3, hi3⟩ := hp
        obtain ⟨f1, f2, f3, f4, f5, f6, f7, f8, f9⟩ := fin none T' W3 hg3 hb3 hm3
        exact ⟨_, _, f1, _, f5, f6, f7, .inl ⟨rfl, T', fun _ => Iff.rfl, f4, f8, hI _ T' _ _ hi3 f9, f2, f3⟩⟩
      | ret =>
        obtain ⟨T', hg3, hb3, hm3, hi3⟩ := hp
        obtain ⟨f1, f2, f3, f4, f5, f6, f7, f8, f9⟩ := fin (some .ret) T' W3 hg3 hb3 hm3
        exact ⟨_, _, f1, _, f5, f6, f7, .inr ⟨rfl, .ret, T', fun _ => Iff.rfl, f4, f8, hIx _ T' _ _ hi3 f9, f2, f3⟩⟩
      | exit id =>
        obtain ⟨T', hg3, hb3, hm3, hi3⟩ := hp
        obtain ⟨f1, f2, f3, f4, f5, f6, f7, f8, f9⟩ := fin (some (.exit id)) T' W3 hg3 hb3 hm3
        exact ⟨_, _, f1, _, f5, f6, f7, .inr ⟨rfl, .exit id, T', fun _ => Iff.rfl, f4, f8, hIx _ T' _ _ hi3 f9, f2, f3⟩⟩
      | goto t =>
        obtain ⟨T', hg3, hb3, hm3, hi3⟩ := hp
        obtain ⟨f1, f2, f3, f4, f5, f6, f7, f8, f9⟩ := fin (some (.goto t)) T' W3 hg3 hb3 hm3
        exact ⟨_, _, f1, _, f5, f6, f7, .inr ⟨rfl, .goto t, T', fun _ => Iff.rfl, f4, f8, hIx _ T' _ _ hi3 f9, f2, f3⟩⟩
      | panic ch => exact hp.elim
      | outgrown => exact hp.elim
    · exact ⟨S0, fun _ => Iff.rfl, fun k hk h => hSX k h hk, Grw.refl _ _, hI [] S0 w W1 h0 (fun k hk => hb1.block k (hS k hk).1 (fun h => h)), hL1, hD1⟩
    · -- BEHIND THE ITERATOR
      have out : ∀ (S' : Nat → Prop) (W2 : World) (T : Nat → Prop) (j : Option Code) (s : LoopState), s ≠ .busy → Md W1.heap.size (fun k => S0 k ∨ X k) W1 W2 → Bd S' W2 → (∀ k, S' k ↔ (T k ∨ X k)) → (∀ k, X k → ¬ T k) → Grw S0 T w.heap.size →
          W2.heap[l]? = some (.loop (rec s j)) → (∀ o, od = some o → W2.heap[D]? = some o) →
          ∃ W4, (Instr.endLoop l).run P W2 = .ok j W4 ∧ Md w.heap.size S0 w W4 ∧ Bd T W4 ∧ (∀ o, od = some o → W4.heap[D]? = some o) ∧ (∀ k, T k → W4.heap[k]? = W2.heap[k]?) := by
        intro S' W2 T j s hs hm hb hT hTX hG hl hd
        refine ⟨W2.putObj l (.loop (rec .exhausted j)), ?_, ?_, ?_, ?_, ?_⟩
        · have := run_endLoop (P := P) hl (by rw [rst]; exact hs)
          have hr : ({ rec s j with state := .exhausted } : Loop) = rec .exhausted j := by
            have := rup s j .exhausted j
            rw [← this]; simp [rpe]
          rw [hr, rpe] at this; exact this
        · refine ((hb1.mono (Nat.le_refl _) (fun k _ h => h.elim)).trans (hm.mono hb1.size (fun k hk h => ?_))).putObj (.inr (hX l hXl)) _
          rcases h with h | h
          · exact h
          · have := hX k h; omega
        · intro k hk; have := hb k ((hT k).2 (.inl hk)); simpa [World.putObj] using this
        · intro o ho; exact (World.putObj_heap_other (hD (by simp [ho])).2).trans (hd o ho)
        · intro k hk; exact World.putObj_heap_other (fun e => by subst e; exact hTX _ hXl hk)
      rintro e W2 ⟨⟨v, rfl⟩, S', hG', hB', hM', (⟨T, hT, hTX, hG, hi, hl, hd⟩ | ⟨c, T, hT, hTX, hG, hi, hl, hd⟩)⟩
      · obtain ⟨W4, g1, g2, g3, g4, g5⟩ := out S' W2 T none .ready (by simp) hM' hB' hT hTX hG hl hd
        exact ⟨none, W4, g1, hdone T W4 g2 hG g3 hTX g4 (hI _ T W2 W4 hi g5)⟩
      · obtain ⟨W4, g1, g2, g3, g4, g5⟩ := out S' W2 T (some c) .done (by simp) hM' hB' hT hTX hG hl hd
        exact ⟨some c, W4, g1, hstop T W4 c g2 hG g3 hTX g4 (hIx _ T W2 W4 hi g5)⟩

/-- **A RANGE OVER A FUNCTION, OUTERMOST.** -/
theorem range_top {α : Type} {P : Program} {g : Operand} {ps : Array Tmp} {assign body : Code} {Q : Exit → Act → World → Prop} {a : Act} {w : World}
    {gf : Nat} {lb : Array Value} (hg : a.eval g = .func (.func gf) #[] lb) (eg : ∀ args w, (callFunc gf args).run P w = .ok (.enter gf args) w)
    {encs : α → Array Value} {L : List α} {C : Nat → Prop} (hit : Iter P gf lb encs L C w) (hps : ∀ x, (encs x).size = ps.size)
    (I : List α → (Nat → Prop) → World → Prop) (Ix : Code → (Nat → Prop) → World → Prop) (S0 : Nat → Prop)
    (hI : ∀ pre, Stab (I pre)) (hIx : ∀ c, Stab (Ix c)) (hS : ∀ k, S0 k → k < w.heap.size ∧ ¬ C k) (hC : ∀ k, C k → k < w.heap.size) (h0 : I [] S0 w)
    (os : α → List Obj) (a₁ : α → Nat → Act)
    (hassign : ∀ (l : Nat) (x : α) (W : World) (K : Act → World → Prop), K (a₁ x W.heap.size) (allocs W (os x)) →
      assign.wpIn (FR (some l)) 0 P (Exit.then K (fun _ _ _ => False)) { tmps := (ps.zip (encs x)).foldl (fun t (p, v) => t.setIfInBounds p v) a.tmps, defers := [] } W)
    (hbody : ∀ (n : Nat) (pre : List α) (x : α) (post : List α) (S : Nat → Prop) (W : World), L = pre ++ x :: post → w.heap.size + 2 ≤ n → (∃ r, W.heap[w.heap.size + 1]? = some (.loop r)) →
      (∀ k, S k → k < n ∧ k ≠ w.heap.size ∧ k ≠ w.heap.size + 1) → (∀ i o, (os x)[i]? = some o → W.heap[n + i]? = some o) → W.heap.size = n + (os x).length → Md w.heap.size S0 w W → Grw S0 S w.heap.size → I pre S W →
      body.wpIn (FR (some (w.heap.size + 1))) 0 P (bodyQ (I (pre ++ [x])) Ix S n W) (a₁ x n) W)
    (hdone : ∀ (S : Nat → Prop) (W : World), Md w.heap.size S0 w W → Grw S0 S w.heap.size → Bd S W → (∀ k, S k → k ≠ w.heap.size ∧ k ≠ w.heap.size + 1) → W.heap[w.heap.size]? = some (.deferred (some [])) → I L S W →
      Q .normal { a with defers := { target := .collected w.heap.size, args := #[] } :: a.defers } W)
    (hstop : ∀ (S : Nat → Prop) (W : World) (c : Code), Md w.heap.size S0 w W → Grw S0 S w.heap.size → Bd S W → (∀ k, S k → k ≠ w.heap.size ∧ k ≠ w.heap.size + 1) → W.heap[w.heap.size]? = some (.deferred (some [])) → Ix c S W →
      c.wpIn (FR none) 0 P Q { a with defers := { target := .collected w.heap.size, args := #[] } :: a.defers } W) :
    (Code.rangeFunc g ps assign body).wpIn Fence.wide 0 P Q a w := by
  refine range_core (r := none) hg eg hit hps (w.heap.size + 1) [{ target := .collected w.heap.size, args := #[] }] (fun k => k = w.heap.size ∨ k = w.heap.size + 1) w.heap.size (some (.deferred (some [])))
    (by omega) (.inr rfl) (fun _ => ⟨.inl rfl, by omega⟩) ?_ I Ix S0 hI hIx hS hC h0 os a₁ hassign ?_ ?_ ?_
  · intro fn
    refine ⟨_, fun s p => { state := s, pending := p, fn, tmps := a.tmps, params := ps, assign, body, defers := w.heap.size }, run_enterLoop_outer _ _ _ _ _, ?_, ?_, ?_, ?_, fun _ _ => rfl, fun _ _ => rfl, fun _ _ => rfl, fun _ _ => rfl, fun _ _ => rfl, fun _ _ => rfl, fun _ _ => rfl, fun _ _ _ _ => rfl⟩
    · have := World.alloc_heap_new (w.alloc (.deferred (some []))) (.loop { state := .ready, pending := none, fn, tmps := a.tmps, params := ps, assign, body, defers := w.heap.size })
      rwa [World.size_alloc] at this
    · intro o ho; cases ho
      exact (Below.heap_alloc _ _ _ (by simp)).trans (World.alloc_heap_new w _)
    · exact ((Md.refl _ _ w).alloc (Nat.le_refl _) _).alloc (by simp) _
    · intro k hk; simp only [World.size_alloc]; omega
  · intro n pre x post S W h1 h2 h3 h4 h5 h6 h7 h8 h9 h10 h11
    have := h3 (w.heap.size + 1) (.inr rfl)
    exact hbody n pre x post S W h1 (by omega) h4 (fun k hk => ⟨h6 k hk, fun e => h5 k (.inl e) hk, fun e => h5 k (.inr e) hk⟩) h7 h8 h9 h10 h11
  · intro S W h1 h2 h3 h4 h5 h6
    exact hdone S W h1 h2 h3 (fun k hk => ⟨fun e => h4 k (.inl e) hk, fun e => h4 k (.inr e) hk⟩) (h5 _ rfl) h6
  · intro S W c h1 h2 h3 h4 h5 h6
    exact hstop S W c h1 h2 h3 (fun k hk => ⟨fun e => h4 k (.inl e) hk, fun e => h4 k (.inr e) hk⟩) (h5 _ rfl) h6

/-- **A RANGE OVER A FUNCTION IN A ROUND OF ANOTHER.** -/
theorem range_in {α : Type} {P : Program} {g : Operand} {ps : Array Tmp} {assign body : Code} {Q : Exit → Act → World → Prop} {a : Act} {w : World} {l₀ : Nat} {r₀ : Loop} (hl₀ : w.heap[l₀]? = some (.loop r₀))
    {gf : Nat} {lb : Array Value} (hg : a.eval g = .func (.func gf) #[] lb) (eg : ∀ args w, (callFunc gf args).run P w = .ok (.enter gf args) w)
    {encs : α → Array Value} {L : List α} {C : Nat → Prop} (hit : Iter P gf lb encs L C w) (hps : ∀ x, (encs x).size = ps.size)
    (I : List α → (Nat → Prop) → World → Prop) (Ix : Code → (Nat → Prop) → World → Prop) (S0 : Nat → Prop)
    (hI : ∀ pre, Stab (I pre)) (hIx : ∀ c, Stab (Ix c)) (hS : ∀ k, S0 k → k < w.heap.size ∧ ¬ C k) (hC : ∀ k, C k → k < w.heap.size) (h0 : I [] S0 w)
    (os : α → List Obj) (a₁ : α → Nat → Act)
    (hassign : ∀ (l : Nat) (x : α) (W : World) (K : Act → World → Prop), K (a₁ x W.heap.size) (allocs W (os x)) →
      assign.wpIn (FR (some l)) 0 P (Exit.then K (fun _ _ _ => False)) { tmps := (ps.zip (encs x)).foldl (fun t (p, v) => t.setIfInBounds p v) a.tmps, defers := [] } W)
    (hbody : ∀ (n : Nat) (pre : List α) (x : α) (post : List α) (S : Nat → Prop) (W : World), L = pre ++ x :: post → w.heap.size + 1 ≤ n → (∃ r, W.heap[w.heap.size]? = some (.loop r)) →
      (∀ k, S k → k < n ∧ k ≠ w.heap.size) → (∀ i o, (os x)[i]? = some o → W.heap[n + i]? = some o) → W.heap.size = n + (os x).length → Md w.heap.size S0 w W → Grw S0 S w.heap.size → I pre S W →
      body.wpIn (FR (some w.heap.size)) 0 P (bodyQ (I (pre ++ [x])) Ix S n W) (a₁ x n) W)
    (hdone : ∀ (S : Nat → Prop) (W : World), Md w.heap.size S0 w W → Grw S0 S w.heap.size → Bd S W → (∀ k, S k → k ≠ w.heap.size) → I L S W → Q .normal a W)
    (hstop : ∀ (S : Nat → Prop) (W : World) (c : Code), Md w.heap.size S0 w W → Grw S0 S w.heap.size → Bd S W → (∀ k, S k → k ≠ w.heap.size) → Ix c S W → c.wpIn (FR (some l₀)) 0 P Q a W) :
    (Code.rangeFunc g ps assign body).wpIn (FR (some l₀)) 0 P Q a w := by
  refine range_core (r := some l₀) hg eg hit hps w.heap.size [] (fun k => k = w.heap.size) 0 none
    (by omega) rfl (fun h => absurd rfl h) ?_ I Ix S0 hI hIx hS hC h0 os a₁ hassign ?_ ?_ ?_
  · intro fn
    refine ⟨_, fun s p => { state := s, pending := p, fn, tmps := a.tmps, params := ps, assign, body, defers := r₀.defers }, run_enterLoop_inner hl₀ _ _ _ _ _, ?_, ?_, ?_, ?_, fun _ _ => rfl, fun _ _ => rfl, fun _ _ => rfl, fun _ _ => rfl, fun _ _ => rfl, fun _ _ => rfl, fun _ _ => rfl, fun _ _ _ _ => rfl⟩
    · exact World.alloc_heap_new w _
    · intro o h; cases h
    · exact (Md.refl _ _ w).alloc (Nat.le_refl _) _
    · rintro k rfl; simp
  · intro n pre x post S W h1 h2 h3 h4 h5 h6 h7 h8 h9 h10 h11
    have := h3 w.heap.size rfl
    exact hbody n pre x post S W h1 (by omega) h4 (fun k hk => ⟨h6 k hk, fun e => h5 k e hk⟩) h7 h8 h9 h10 h11
  · intro S W h1 h2 h3 h4 h5 h6
    exact hdone S W h1 h2 h3 (fun k hk e => h4 k e hk) h6
  · intro S W c h1 h2 h3 h4 h5 h6
    exact hstop S W c h1 h2 h3 (fun k hk e => h4 k e hk) h6
end Go.Proofs.Ytekpjmdkihnpeaa
