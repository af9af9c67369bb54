/- The law of a range over a function in the forms that the walks use: the written blocks fixed. -/
import Derived.Test.YtekpjmdkihnpeaaBase
namespace Go.Proofs.Ytekpjmdkihnpeaa
set_option linter.unusedSimpArgs false
set_option linter.unusedVariables false
open Go.RowKit Go.Shelf

/-- WHAT A ROUND's BODY OWES where the blocks that it writes are the fixed ones of S. -/
def bodyF (I : World → Prop) (Ix : Code → World → Prop) (S : Nat → Prop) (n : Nat) (W : World) : Exit → Act → World → Prop
  | .normal, _, W' => Md n S W W' ∧ I W'
  | .ret, _, W' => Md n S W W' ∧ Ix .ret W'
  | .exit id, _, W' => Md n S W W' ∧ Ix (.exit id) W'
  | .goto t, _, W' => Md n S W W' ∧ Ix (.goto t) W'
  | .panic _, _, _ => False
  | .outgrown, _, _ => False

/-- I speaks of the blocks of S alone. -/
def StabF (S : Nat → Prop) (I : World → Prop) : Prop := ∀ W W', I W → (∀ k, S k → W'.heap[k]? = W.heap[k]?) → I W'

theorem bodyQ_of_bodyF {I : World → Prop} {Ix : Code → World → Prop} {S0 : Nat → Prop} {n : Nat} {W : World} {I' : (Nat → Prop) → World → Prop} {Ix' : Code → (Nat → Prop) → World → Prop}
    (hI : ∀ W, I W → I' S0 W) (hIx : ∀ c W, Ix c W → Ix' c S0 W) (hS : ∀ k, S0 k → k < n) (hn : n ≤ W.heap.size) : ∀ e a W', bodyF I Ix S0 n W e a W' → bodyQ I' Ix' S0 n W e a W' := by
  intro e a W' h
  cases e with
  | normal => exact ⟨S0, Grw.refl _ _, fun k hk => by have := hS k hk; have := h.1.size; omega, h.1, hI _ h.2⟩
  | ret => exact ⟨S0, Grw.refl _ _, fun k hk => by have := hS k hk; have := h.1.size; omega, h.1, hIx _ _ h.2⟩
  | exit id => exact ⟨S0, Grw.refl _ _, fun k hk => by have := hS k hk; have := h.1.size; omega, h.1, hIx _ _ h.2⟩
  | goto id => exact ⟨S0, Grw.refl _ _, fun k hk => by have := hS k hk; have := h.1.size; omega, h.1, hIx _ _ h.2⟩
  | panic ch => exact h.elim
  | outgrown => exact h.elim

section
variable {α : Type} {P : Program} {g : Operand} {ps : Array Tmp} {assign body : Code} {Q : Exit → Act → World → Prop} {a : Act} {w : World}

/-- Outermost; the loop's variables are laid in new blocks 'os x' (none: 'fun _ => []'). -/
theorem range_fix
    {gf : Nat} {lb : Array Value} (hg : a.eval g = .func (.func gf) #[] lb) (eg : ∀ args w, (callFunc gf args).run P w = .ok (.enter gf args) w)
    {encs : α → Array Value} {L : List α} {C : Nat → Prop} (hit : Iter P gf lb encs L C w) (hps : ∀ x, (encs x).size = ps.size)
    (S0 : Nat → Prop) (I : List α → World → Prop) (Ix : Code → World → Prop)
    (hI : ∀ pre, StabF S0 (I pre)) (hIx : ∀ c, StabF S0 (Ix c)) (hS : ∀ k, S0 k → k < w.heap.size ∧ ¬ C k) (hC : ∀ k, C k → k < w.heap.size) (h0 : I [] w)
    (os : α → List Obj) (a₁ : α → Nat → Act)
    (hassign : ∀ (l : Nat) (x : α) (W : World) (n : Nat) (K : Act → World → Prop), W.heap.size = n → K (a₁ x n) (allocs W (os x)) →
      assign.wpIn (FR (some l)) 0 P (Exit.then K (fun _ _ _ => False)) { tmps := (ps.zip (encs x)).foldl (fun t (p, v) => t.setIfInBounds p v) a.tmps, defers := [] } W)
    (hbody : ∀ (n : Nat) (pre : List α) (x : α) (post : List α) (W : World), L = pre ++ x :: post → w.heap.size + 2 ≤ n → (∃ r, W.heap[w.heap.size + 1]? = some (.loop r)) →
      (∀ i o, (os x)[i]? = some o → W.heap[n + i]? = some o) → W.heap.size = n + (os x).length → Md w.heap.size S0 w W → I pre W →
      body.wpIn (FR (some (w.heap.size + 1))) 0 P (bodyF (I (pre ++ [x])) Ix S0 n W) (a₁ x n) W)
    (hdone : ∀ (W : World), Md w.heap.size S0 w W → w.heap.size + 1 ≤ W.heap.size → W.heap[w.heap.size]? = some (.deferred (some [])) → I L W →
      Q .normal { a with defers := { target := .collected w.heap.size, args := #[] } :: a.defers } W)
    (hstop : ∀ (W : World) (c : Code), Md w.heap.size S0 w W → w.heap.size + 1 ≤ W.heap.size → W.heap[w.heap.size]? = some (.deferred (some [])) → Ix c W →
      c.wpIn (FR none) 0 P Q { a with defers := { target := .collected w.heap.size, args := #[] } :: a.defers } W) :
    (Code.rangeFunc g ps assign body).wpIn Fence.wide 0 P Q a w := by
  have hB : Bd S0 w := fun k hk => (hS k hk).1
  refine range_top hg eg hit hps (fun pre S W => S = S0 ∧ I pre W) (fun c S W => S = S0 ∧ Ix c W) S0 ?_ ?_ hS hC ⟨rfl, h0⟩ os a₁
    (fun l x W K hK => hassign l x W W.heap.size K rfl hK) ?_ ?_ ?_
  · rintro pre S W W' ⟨rfl, hi⟩ he
    exact ⟨rfl, hI pre W W' hi he⟩
  · rintro c S W W' ⟨rfl, hi⟩ he
    exact ⟨rfl, hIx c W W' hi he⟩
  · rintro n pre x post S W h1 h2 h3 h4 h5 h6 h7 h8 ⟨rfl, h9⟩
    exact wpIn_mono (hbody n pre x post W h1 h2 h3 h5 h6 h7 h9) (bodyQ_of_bodyF (fun _ h => ⟨rfl, h⟩) (fun _ _ h => ⟨rfl, h⟩) (fun k hk => (h4 k hk).1) (by omega))
  · rintro S W h1 h2 h3 h4 h5 ⟨rfl, h6⟩
    exact hdone W h1 (Array.getElem?_eq_some_iff.1 h5).1 h5 h6
  · rintro S W c h1 h2 h3 h4 h5 ⟨rfl, h6⟩
    exact hstop W c h1 (Array.getElem?_eq_some_iff.1 h5).1 h5 h6

/-- The same in a round of another loop. -/
theorem range_fix_in {l₀ : Nat} (hl₀ : ∃ r₀, w.heap[l₀]? = some (.loop r₀))
    {gf : Nat} {lb : Array Value} (hg : a.eval g = .func (.func gf) #[] lb) (eg : ∀ args w, (callFunc gf args).run P w = .ok (.enter gf args) w)
    {encs : α → Array Value} {L : List α} {C : Nat → Prop} (hit : Iter P gf lb encs L C w) (hps : ∀ x, (encs x).size = ps.size)
    (S0 : Nat → Prop) (I : List α → World → Prop) (Ix : Code → World → Prop)
    (hI : ∀ pre, StabF S0 (I pre)) (hIx : ∀ c, StabF S0 (Ix c)) (hS : ∀ k, S0 k → k < w.heap.size ∧ ¬ C k) (hC : ∀ k, C k → k < w.heap.size) (h0 : I [] w)
    (os : α → List Obj) (a₁ : α → Nat → Act)
    (hassign : ∀ (l : Nat) (x : α) (W : World) (n : Nat) (K : Act → World → Prop), W.heap.size = n → K (a₁ x n) (allocs W (os x)) →
      assign.wpIn (FR (some l)) 0 P (Exit.then K (fun _ _ _ => False)) { tmps := (ps.zip (encs x)).foldl (fun t (p, v) => t.setIfInBounds p v) a.tmps, defers := [] } W)
    (hbody : ∀ (n : Nat) (pre : List α) (x : α) (post : List α) (W : World), L = pre ++ x :: post → w.heap.size + 1 ≤ n → (∃ r, W.heap[w.heap.size]? = some (.loop r)) →
      (∀ i o, (os x)[i]? = some o → W.heap[n + i]? = some o) → W.heap.size = n + (os x).length → Md w.heap.size S0 w W → I pre W →
      body.wpIn (FR (some w.heap.size)) 0 P (bodyF (I (pre ++ [x])) Ix S0 n W) (a₁ x n) W)
    (hdone : ∀ (W : World), Md w.heap.size S0 w W → I L W → Q .normal a W)
    (hstop : ∀ (W : World) (c : Code), Md w.heap.size S0 w W → Ix c W → c.wpIn (FR (some l₀)) 0 P Q a W) :
    (Code.rangeFunc g ps assign body).wpIn (FR (some l₀)) 0 P Q a w := by
  obtain ⟨r₀, hl₀⟩ := hl₀
  have hB : Bd S0 w := fun k hk => (hS k hk).1
  refine range_in hl₀ hg eg hit hps (fun pre S W => S = S0 ∧ I pre W) (fun c S W => S = S0 ∧ Ix c W) S0 ?_ ?_ hS hC ⟨rfl, h0⟩ os a₁
    (fun l x W K hK => hassign l x W W.heap.size K rfl hK) ?_ ?_ ?_
  · rintro pre S W W' ⟨rfl, hi⟩ he
    exact ⟨rfl, hI pre W W' hi he⟩
  · rintro c S W W' ⟨rfl, hi⟩ he
    exact ⟨rfl, hIx c W W' hi he⟩
  · rintro n pre x post S W h1 h2 h3 h4 h5 h6 h7 h8 ⟨rfl, h9⟩
    exact wpIn_mono (hbody n pre x post W h1 h2 h3 h5 h6 h7 h9) (bodyQ_of_bodyF (fun _ h => ⟨rfl, h⟩) (fun _ _ h => ⟨rfl, h⟩) (fun k hk => (h4 k hk).1) (by omega))
  · rintro S W h1 h2 h3 h4 ⟨rfl, h6⟩
    exact hdone W h1 h6
  · rintro S W c h1 h2 h3 h4 ⟨rfl, h6⟩
    exact hstop W c h1 h6

theorem name_w {F : Fence} {n : Nat} {P : Program} {c : Code} {Q : Exit → Act → World → Prop} {a : Act} {w : World} (h : ∀ V, V = w → c.wpIn F n P Q a V) : c.wpIn F n P Q a w := h w rfl
theorem name_wp {P : Program} {c : Code} {Q : Exit → Act → World → Prop} {a : Act} {w : World} (h : ∀ V, V = w → c.wp P Q a V) : c.wp P Q a w := h w rfl
theorem hp_alloc (w : World) (o : Obj) (k : Nat) : (w.alloc o).heap[k]? = if k = w.heap.size then some o else w.heap[k]? := by
  by_cases h : k = w.heap.size
  · rw [if_pos h, h]; exact World.alloc_heap_new w o
  · rw [if_neg h]; show (w.heap.push o)[k]? = _; rw [Array.getElem?_push, if_neg h]
theorem hp_drewN (w : World) (n k : Nat) : (w.drewN n).heap[k]? = w.heap[k]? := rfl
theorem hp_drew (w : World) (k : Nat) : w.drew.heap[k]? = w.heap[k]? := rfl
theorem hp_set_ne (w : World) (b i : Nat) (v : Value) (k : Nat) (h : k ≠ b) : (w.setCell ⟨b, i, none⟩ v).heap[k]? = w.heap[k]? := Below.heap_setCell w ⟨b, i, none⟩ v k h
theorem hp_set_eq {w : World} {b : Nat} {u v : Value} {t : TypeId} (h : w.heap[b]? = some (.cells #[u] t)) : (w.setCell ⟨b, 0, none⟩ v).heap[b]? = some (.cells #[v] t) := Boxed.set v h

/-- Four stores, one behind the other: what lies in the last three blocks. -/
theorem set4 {w : World} {b0 j b1 b2 b3 : Nat} {v0 v1 v2 v3 u1 u2 u3 : Value} {t1 t2 t3 : TypeId} (h1 : w.heap[b1]? = some (.cells #[u1] t1)) (h2 : w.heap[b2]? = some (.cells #[u2] t2)) (h3 : w.heap[b3]? = some (.cells #[u3] t3))
    (n01 : b1 ≠ b0) (n02 : b2 ≠ b0) (n03 : b3 ≠ b0) (n12 : b1 ≠ b2) (n13 : b1 ≠ b3) (n23 : b2 ≠ b3) :
    ((((w.setCell ⟨b0, j, none⟩ v0).setCell ⟨b1, 0, none⟩ v1).setCell ⟨b2, 0, none⟩ v2).setCell ⟨b3, 0, none⟩ v3).heap[b1]? = some (.cells #[v1] t1) ∧
    ((((w.setCell ⟨b0, j, none⟩ v0).setCell ⟨b1, 0, none⟩ v1).setCell ⟨b2, 0, none⟩ v2).setCell ⟨b3, 0, none⟩ v3).heap[b2]? = some (.cells #[v2] t2) ∧
    ((((w.setCell ⟨b0, j, none⟩ v0).setCell ⟨b1, 0, none⟩ v1).setCell ⟨b2, 0, none⟩ v2).setCell ⟨b3, 0, none⟩ v3).heap[b3]? = some (.cells #[v3] t3) := by
  refine ⟨?_, ?_, ?_⟩
  · rw [hp_set_ne _ _ _ _ _ n13, hp_set_ne _ _ _ _ _ n12]; exact hp_set_eq ((hp_set_ne _ _ _ _ _ n01).trans h1)
  · rw [hp_set_ne _ _ _ _ _ n23]; exact hp_set_eq ((hp_set_ne _ _ _ _ _ (Ne.symm n12)).trans ((hp_set_ne _ _ _ _ _ n02).trans h2))
  · exact hp_set_eq ((hp_set_ne _ _ _ _ _ (Ne.symm n23)).trans ((hp_set_ne _ _ _ _ _ (Ne.symm n13)).trans ((hp_set_ne _ _ _ _ _ n03).trans h3)))

theorem calls_of_wide {f : FuncId} {args : Array Value} {w : World} {R : Ending → World → Prop} (h : CallsIn Fence.wide 0 P f args w R) : Calls P f args w R := callsIn_wide.1 h

/-- A box: a block of one cell. -/
abbrev Bx (W : World) (b : Nat) (t : TypeId) (v : Value) : Prop := Boxed W b t v

theorem _root_.Go.Boxed.md {B : Nat} {S : Nat → Prop} {w W : World} {b : Nat} {t : TypeId} {v : Value} (h : Boxed w b t v) (hm : Md B S w W) (hb : b < B) (hs : ¬ S b) : Boxed W b t v := (hm.block b hb hs).trans h
theorem _root_.Go.Boxed.later {w W : World} {b : Nat} {t : TypeId} {v : Value} (h : Boxed w b t v) (hm : Below w.heap.size w W) : Boxed W b t v := (hm.block b h.lt).trans h
theorem _root_.Go.Boxed.drewN {w : World} {b : Nat} {t : TypeId} {v : Value} (h : Boxed w b t v) (n : Nat) : Boxed (w.drewN n) b t v := h
theorem _root_.Go.Boxed.stab {S : Nat → Prop} {W W' : World} {b : Nat} {t : TypeId} {v : Value} (h : Boxed W b t v) (he : ∀ k, S k → W'.heap[k]? = W.heap[k]?) (hs : S b) : Boxed W' b t v := (he b hs).trans h
theorem _root_.Go.Boxed.newAt (W : World) (n : Nat) (t : TypeId) (v : Value) (hn : W.heap.size = n) : Boxed (W.alloc (.cells #[v] t)) n t v := by subst hn; exact Boxed.new W t v

theorem al_lt {w : World} {a : Addr} (h : (w.cell? a).isSome = true) : a.block < w.heap.size := by
  obtain ⟨v, hv⟩ := Option.isSome_iff_exists.1 h
  exact World.block_lt_of_cell? w a hv
@[go_sem] theorem al_cell (w : World) (a : Addr) (o : Obj) (h : (w.cell? a).isSome = true) : (w.alloc o).cell? a = w.cell? a := World.cell?_of_block (Below.heap_alloc w o a.block (al_lt h))
@[go_sem] theorem al_frozen (w : World) (a : Addr) (o : Obj) (h : (w.cell? a).isSome = true) : (w.alloc o).frozen? a = w.frozen? a := World.frozen?_of_block (Below.heap_alloc w o a.block (al_lt h))
theorem eq_two {a b : Nat} (h : a = b) : a ≤ b ∧ b ≤ a := by omega
theorem keepH1 {w V : World} {b : Nat} {o : Obj} (hx : w.heap[b]? = some o) (h : Below w.heap.size w V) : V.heap[b]? = some o := (h.block b (Array.getElem?_eq_some_iff.1 hx).1).trans hx
theorem keepH2 {w0 w w' : World} {b : Nat} {o : Obj} (hx : w0.heap[b]? = some o) (h0 : Below w0.heap.size w0 w) (hb : Below w.heap.size w w') : w'.heap[b]? = some o := keepH1 (keepH1 hx h0) hb
theorem keepM {B : Nat} {S : Nat → Prop} {w V : World} {b : Nat} {o : Obj} (hx : w.heap[b]? = some o) (h : Md B S w V) (hb : b < B) (hs : ¬ S b) : V.heap[b]? = some o := (h.block b hb hs).trans hx
theorem ltF {w : World} {b : Nat} {o : Obj} (h : w.heap[b]? = some o) : b < w.heap.size ∧ b < w.heap.size + 1 ∧ b < w.heap.size + 1 + 1 ∧ b < w.heap.size + 1 + 1 + 1 ∧ b < w.heap.size + 1 + 1 + 1 + 1 := by
  have := (Array.getElem?_eq_some_iff.1 h).1; omega
theorem cell1 {w : World} {b : Nat} {t : TypeId} {u : Value} (h : w.heap[b]? = some (.cells #[u] t)) : w.cell? ⟨b, 0, none⟩ = some u ∧ w.frozen? ⟨b, 0, none⟩ = false := by
  simp [World.cell?, World.frozen?, h]
theorem cell2 {w : World} {b : Nat} {t : TypeId} {u v : Value} (h : w.heap[b]? = some (.cells #[u, v] t)) : w.cell? ⟨b, 0, none⟩ = some u ∧ w.cell? ⟨b, 1, none⟩ = some v ∧ w.frozen? ⟨b, 0, none⟩ = false ∧ w.frozen? ⟨b, 1, none⟩ = false := by
  simp [World.cell?, World.frozen?, h]

/-- The marks that the outermost ranges leave. -/
abbrev mark (D : Nat) : Deferred := { target := .collected D, args := #[] }

theorem leave_core {F : Fence} {n : Nat} {fn : Func} {tmps : Array Value} {R : Ending → World → Prop} {B : Nat} : ∀ (ds : List Nat) (w : World), (∀ D ∈ ds, B ≤ D ∧ w.heap[D]? = some (.deferred (some []))) → ds.Nodup →
    (∀ W', Below B w W' → (∀ k, k ∉ ds → W'.heap[k]? = w.heap[k]?) → ∃ v, (results fn tmps).run P W' = .ok v W' ∧ R (.returned v) W') → LeavesInM F n P fn tmps R (ds.map mark) .returning w
  | [], w, _, _, h => h w (Below.refl _ _) (fun _ _ => rfl)
  | D :: ds, w, hd, hn, h => by
    obtain ⟨hBD, hD⟩ := hd D (by simp)
    have hlt := (Array.getElem?_eq_some_iff.1 hD).1
    have hB0 : Below B w (w.putObj D (.deferred none)) := ((Md.refl B NoB w).putObj (.inr hBD) _).below
    refine ⟨by simp, .inl ⟨_, _, rfl, run_takeDeferred hD, leave_core (B := B) ds _ ?_ (List.nodup_cons.1 hn).2 ?_⟩⟩
    · intro E hE
      have hne : E ≠ D := fun e => (List.nodup_cons.1 hn).1 (e ▸ hE)
      obtain ⟨h1, h2⟩ := hd E (by simp [hE])
      exact ⟨h1, (World.putObj_heap_other hne).trans h2⟩
    · intro W' hb hk
      refine h W' (hB0.trans hb) (fun k hk' => ?_)
      simp only [List.mem_cons, not_or] at hk'
      exact (hk k hk'.2).trans (World.putObj_heap_other hk'.1)

/-- A function's end behind ranges: the result in a temporary. -/
theorem leave_tmp {F : Fence} {n : Nat} {fn : Func} {tmps : Array Value} {R : Ending → World → Prop} {w : World} {t : Tmp} (ds : List Nat) (B : Nat) (hr : fn.results = #[.tmp t])
    (hd : ∀ D ∈ ds, B ≤ D ∧ w.heap[D]? = some (.deferred (some []))) (hn : ds.Nodup)
    (h : ∀ W', Below B w W' → (∀ k, k ∉ ds → W'.heap[k]? = w.heap[k]?) → R (.returned (tmps.getD t undef)) W') : LeavesInM F n P fn tmps R (ds.map mark) .returning w :=
  leave_core (B := B) ds w hd hn fun W' hb hk => ⟨_, results_tmp hr _ _ _, h W' hb hk⟩

theorem results_cell1 {fn : Func} {p : Tmp} {ty : TypeId} (h : fn.results = #[.cell p ty]) (tmps : Array Value) (P : Program) (w : World) :
    (results fn tmps).run P w = ((asAddr (tmps.getD p undef)).run P w).andThen fun a w₁ => (loadVar ty a).run P w₁ := by
  simp only [results, h]
  simp [Sem.run_bind]

/-- The result in a new cell. -/
theorem leave_cell {F : Fence} {n : Nat} {fn : Func} {tmps : Array Value} {R : Ending → World → Prop} {w : World} {p : Tmp} {ty : TypeId} {b : Nat} {v : Value} (ds : List Nat) (B : Nat) (hr : fn.results = #[.cell p ty])
    (hp : tmps.getD p undef = .pointer (some ⟨b, 0, none⟩)) (hv : Boxed w b ty v) (hb : b ∉ ds)
    (hl : ∀ W : World, W.cell? ⟨b, 0, none⟩ = some v → (loadVar ty ⟨b, 0, none⟩).run P W = .ok v W)
    (hd : ∀ D ∈ ds, B ≤ D ∧ w.heap[D]? = some (.deferred (some []))) (hn : ds.Nodup)
    (h : ∀ W', Below B w W' → (∀ k, k ∉ ds → W'.heap[k]? = w.heap[k]?) → R (.returned v) W') : LeavesInM F n P fn tmps R (ds.map mark) .returning w :=
  leave_core (B := B) ds w hd hn fun W' hb' hk => ⟨v, by
    have hv' : Boxed W' b ty v := (hk b hb).trans hv
    rw [results_cell1 hr, hp]
    show (loadVar ty ⟨b, 0, none⟩).run P W' = _
    exact hl W' hv'.cell, h W' hb' hk⟩

theorem end_tmp {F : Fence} {n : Nat} {fn : Func} {R : Ending → World → Prop} {a : Act} {w : World} {t : Tmp} (ds : List Nat) (B : Nat) (hdf : a.defers = ds.map mark) (hr : fn.results = #[.tmp t])
    (hd : ∀ D ∈ ds, B ≤ D ∧ w.heap[D]? = some (.deferred (some []))) (hn : ds.Nodup)
    (h : ∀ W', Below B w W' → (∀ k, k ∉ ds → W'.heap[k]? = w.heap[k]?) → R (.returned (a.tmps.getD t undef)) W') : bodyPostM F n P fn R .ret a w := by
  show LeavesInM F n P fn a.tmps R a.defers .returning w
  rw [hdf]
  exact leave_tmp ds B hr hd hn h
theorem end_cell {F : Fence} {n : Nat} {fn : Func} {R : Ending → World → Prop} {a : Act} {w : World} {p : Tmp} {ty : TypeId} {b : Nat} {v : Value} (ds : List Nat) (B : Nat) (hdf : a.defers = ds.map mark) (hr : fn.results = #[.cell p ty])
    (hp : a.tmps.getD p undef = .pointer (some ⟨b, 0, none⟩)) (hv : Boxed w b ty v) (hb : b ∉ ds)
    (hl : ∀ W : World, W.cell? ⟨b, 0, none⟩ = some v → (loadVar ty ⟨b, 0, none⟩).run P W = .ok v W)
    (hd : ∀ D ∈ ds, B ≤ D ∧ w.heap[D]? = some (.deferred (some []))) (hn : ds.Nodup)
    (h : ∀ W', Below B w W' → (∀ k, k ∉ ds → W'.heap[k]? = w.heap[k]?) → R (.returned v) W') : bodyPostM F n P fn R .ret a w := by
  show LeavesInM F n P fn a.tmps R a.defers .returning w
  rw [hdf]
  exact leave_cell ds B hr hp hv hb hl hd hn h
end
end Go.Proofs.Ytekpjmdkihnpeaa
