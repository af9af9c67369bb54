/- A region that draws its order, whose operations read, whose callees may lay blocks of their own, and which may end in one store: walked once, in the order of the text; outermost or in a round. -/
import Derived.Lib.QuietBelowIn
import Derived.StillTail
import Derived.Test.YtekpjmdkihnpeaaRange
namespace Go.Proofs.Ytekpjmdkihnpeaa
set_option linter.unusedSimpArgs false
set_option linter.unusedVariables false
open Go.RowKit Go.Shelf Go.Sort

section
variable {P : Program} {n : Nat} {md : Region.Mode} {ops : Array Oper} {Q : Exit → Act → World → Prop}

/-- In a round an operation that is no defer statement goes as anywhere. -/
theorem op_round {l : Nat} {o : Oper} {a : Act} {w : World} {K : Act → World → Prop} (hnd : ∀ c, o.op ≠ .defer c) (h : o.wpIn Fence.wide n P a w K Q) : o.wpIn (FR (some l)) n P a w K Q := by
  unfold Oper.wpIn at *
  refine ⟨fun _ _ => trivial, ?_⟩
  have h2 := h.2
  rw [show (Fence.wide).round = none from rfl, Oper.semAt_none] at h2
  rw [show (FR (some l)).round = some l from rfl, Oper.semAt_some l _ _ hnd]
  exact h2

def noDefer (ops : Array Oper) : Bool := ops.all fun o => match o.op with | .defer _ => false | _ => true
theorem noDefer_spec (h : noDefer ops = true) {i : Nat} {o : Oper} (hi : ops[i]? = some o) : ∀ c, o.op ≠ .defer c := by
  intro c e
  obtain ⟨hlt, hi'⟩ := Array.getElem?_eq_some_iff.1 hi
  have h' := (Array.all_eq_true.1 h) i hlt
  rw [hi', e] at h'
  cases h'

theorem any_round {l : Nat} (hnd : noDefer ops = true) : ∀ (fuel : Nat) (listed : Array Bool) (a : Act) (w : World), wpAnyIn Fence.wide n P md ops Q fuel listed a w → wpAnyIn (FR (some l)) n P md ops Q fuel listed a w
  | 0, _, _, _, h => h
  | fuel + 1, listed, a, w, h => by
    refine ⟨h.1, fun i hi => ?_⟩
    have h2 := h.2 i hi
    unfold wpOpIn at *
    cases ho : ops[i]? with
    | none => simp only [ho] at h2 ⊢; exact any_round hnd fuel _ _ _ h2
    | some o =>
      simp only [ho] at h2 ⊢
      by_cases hw : Region.wanted o (yielded ops a.tmps) = true
      · simp only [hw, if_true] at h2 ⊢
        exact Oper.wpIn_mono (fun a w h => any_round hnd fuel _ a w h) (op_round (noDefer_spec hnd ho) h2)
      · simp only [hw] at h2 ⊢
        exact ⟨fun _ _ => trivial, any_round hnd fuel _ _ _ h2.2⟩

/-- The class of worlds: below w's size all is as in w. -/
def Cl (w w' : World) : Prop := ∃ p : Regrown, w' = grow (redrawn w p.d) p.os
theorem Cl.below {w w' : World} (h : Cl w w') : Below w.heap.size w w' := by
  obtain ⟨p, rfl⟩ := h; exact below_regrown w p.d p.os
theorem cl_start (w : World) : (fun w' => ∃ p : Regrown, w' = grow (redrawn w p.d) p.os) { w with drawn := w.drawn + 1 } := ⟨⟨w.drawn + 1, #[]⟩, by rw [grow_empty]; rfl⟩

/-- The region only reads. -/
theorem quiet_any {a : Act} {w : World} {l : List Oper} (hB : Region.lexB .any l.toArray = true)
    (h : wpQuietIn Fence.wide 0 P l.toArray (fun w' => ∃ p : Regrown, w' = grow (redrawn w p.d) p.os) (fun a' => ∀ w', Below w.heap.size w w' → Q .normal a' w') l a) :
    wpAnyIn Fence.wide 0 P .any l.toArray Q l.toArray.size (Array.replicate l.toArray.size false) a { w with drawn := w.drawn + 1 } := by
  simp only [Region.lexB, Bool.and_eq_true] at hB
  refine wpAnyIn_of_quiet (C := fun w' => ∃ p : Regrown, w' = grow (redrawn w p.d) p.os) (Q := fun a' => ∀ w', Below w.heap.size w w' → Q .normal a' w') rfl (fun _ w' hw' h => h w' (Cl.below hw')) _ _ _ _ (cl_start w) ?_
  have := wpAnyQIn_lex (F := Fence.wide) (n := 0) (P := P) (md := .any) hB.1 l 0 (Array.replicate l.toArray.size false) a (by simp) (by simpa using hB.2) h
  simpa using this

theorem region_quiet {id : Nat} {a : Act} {w : World} {l : List Oper} (hm : P.follows .mixedOrders = true) (hB : Region.lexB .any l.toArray = true)
    (h : wpQuietIn Fence.wide 0 P l.toArray (fun w' => ∃ p : Regrown, w' = grow (redrawn w p.d) p.os) (fun a' => ∀ w', Below w.heap.size w w' → Q .normal a' w') l a) :
    (Code.region id l.toArray true).wpIn Fence.wide 0 P Q a w := wpIn_region_any hm (quiet_any hB h)

theorem region_quiet_in {id k : Nat} {a : Act} {w : World} {l : List Oper} (hm : P.follows .mixedOrders = true) (hB : Region.lexB .any l.toArray = true) (hnd : noDefer l.toArray = true)
    (h : wpQuietIn Fence.wide 0 P l.toArray (fun w' => ∃ p : Regrown, w' = grow (redrawn w p.d) p.os) (fun a' => ∀ w', Below w.heap.size w w' → Q .normal a' w') l a) :
    (Code.region id l.toArray true).wpIn (FR (some k)) 0 P Q a w := wpIn_region_any hm (any_round hnd _ _ _ _ (quiet_any hB h))

/-! ### One store at the end -/
def depB (md : Region.Mode) (ops : Array Oper) : Bool := (List.range ops.size).all fun j => match ops[j]? with | some o => o.after.all (fun e => !Region.binds md e || decide (e.on < j)) | none => true
def allB (md : Region.Mode) (o : Oper) (m : Nat) : Bool := (List.range m).all fun i => o.after.any fun e => Region.binds md e && e.on == i

theorem depB_spec (h : depB md ops = true) {j : Nat} {o : Oper} (hj : ops[j]? = some o) : ∀ e ∈ o.after, Region.binds md e = true → e.on < j := by
  intro e he hb
  have h1 := List.all_eq_true.1 h j (List.mem_range.2 (Array.getElem?_eq_some_iff.1 hj).1)
  simp only [hj] at h1
  obtain ⟨i, hi, rfl⟩ := Array.mem_iff_getElem.1 he
  have h2 := (Array.all_eq_true.1 h1) i hi
  simpa [hb] using h2
theorem allB_spec {o : Oper} {m : Nat} (h : allB md o m = true) {i : Nat} (hi : i < m) : ∃ e ∈ o.after, Region.binds md e = true ∧ e.on = i := by
  have h1 := List.all_eq_true.1 h i (List.mem_range.2 hi)
  obtain ⟨e, he, h2⟩ := Array.any_eq_true'.1 h1
  simp only [Bool.and_eq_true, beq_iff_eq] at h2
  exact ⟨e, he, h2.1, h2.2⟩

theorem exists_ready (hd : depB md ops = true) {listed : Array Bool} (hs : listed.size = ops.size) : ∀ (i : Nat), i < ops.size → listed.getD i true = false → ∃ j, j ∈ Region.ready md ops listed := by
  intro i
  induction i using Nat.strongRecOn with
  | _ i ih =>
    intro hi hl
    have ho : ops[i]? = some ops[i] := by simp [hi]
    by_cases h : ∀ e ∈ ops[i].after, Region.binds md e = true → listed.getD e.on false = true
    · exact ⟨i, mem_ready.2 ⟨hl, _, ho, h⟩⟩
    · obtain ⟨e, he⟩ := Classical.not_forall.1 h
      obtain ⟨he, h2⟩ := Classical.not_imp.1 he
      obtain ⟨hb, h3⟩ := Classical.not_imp.1 h2
      have hlt := depB_spec hd ho e he hb
      exact ih e.on hlt (by omega) (getD_in (by omega) (by simpa using h3))

theorem yielded_snoc (l : List Oper) (o : Oper) (hdst : o.dst = none) (tmps : Array Value) : yielded (l ++ [o]).toArray tmps = yielded l.toArray tmps := by
  funext j
  unfold yielded
  have : ((l ++ [o]).toArray[j]?).bind (·.dst) = (l.toArray[j]?).bind (·.dst) := by
    simp only [List.getElem?_toArray]
    rcases Nat.lt_trichotomy j l.length with h | h | h
    · rw [List.getElem?_append_left h]
    · subst h; simp [hdst]
    · rw [List.getElem?_eq_none (by simp; omega), List.getElem?_eq_none (by omega)]
  rw [this]

theorem tail_any {C : World → Prop} {l : List Oper} {o : Oper} (hdst : o.dst = none) (hgd : o.guard = none) (hd : depB md (l ++ [o]).toArray = true) (ha : allB md o l.length = true) {Q2 : Act → Prop}
    (hQ : ∀ a w, C w → Q2 a → o.wpIn Fence.wide n P a w (fun a' w' => Q .normal a' w') Q) :
    ∀ (fuel : Nat) (listed listed' : Array Bool) (a : Act) (w : World), C w → listed.size = l.length + 1 → listed'.size = l.length → (∀ j, j < l.length → ∀ b, listed.getD j b = listed'.getD j b) → listed.getD l.length true = false →
      wpAnyQIn Fence.wide n P md l.toArray C Q2 fuel listed' a → wpAnyIn Fence.wide n P md (l ++ [o]).toArray Q (fuel + 1) listed a w := by
  have hn : (l ++ [o]).toArray[l.length]? = some o := by simp
  have hlt : ∀ j, j < l.length → (l ++ [o]).toArray[j]? = l.toArray[j]? := fun j hj => by simp [List.getElem?_append_left hj]
  intro fuel
  induction fuel with
  | zero =>
    intro listed listed' a w hw h1 h2 h3 h4 h
    refine ⟨fun h0 => ?_, fun i hi => ?_⟩
    · obtain ⟨j, hj⟩ := exists_ready hd (by simpa using h1) l.length (by simp) h4
      rw [h0] at hj; cases hj
    · by_cases hin : i = l.length
      · subst hin
        obtain ⟨_, o', ho', hall⟩ := mem_ready.1 hi
        rw [hn] at ho'; cases ho'
        unfold wpOpIn
        simp only [hn, Region.wanted, hgd, if_true]
        refine Oper.wpIn_mono (fun a' w' hk => ?_) (hQ a w hw h.2)
        have hr : Region.ready md (l ++ [o]).toArray (listed.setIfInBounds l.length true) = [] := by
          refine List.eq_nil_iff_forall_not_mem.2 fun j hj => ?_
          obtain ⟨hj1, oj, hoj, _⟩ := mem_ready.1 hj
          have hjl := (Array.getElem?_eq_some_iff.1 hoj).1
          simp at hjl
          by_cases hjn : j = l.length
          · subst hjn; simp [h1] at hj1
          · obtain ⟨e, he, hb, hon⟩ := allB_spec ha (i := j) (by omega)
            have := hall e he hb
            rw [hon] at this
            rw [getD_set_ne true (by omega)] at hj1
            have h5 : j < listed.size := by omega
            simp [h5] at this hj1
            rw [this] at hj1; cases hj1
        exact ⟨hr, hk⟩
      · have hil : i < l.length := by
          obtain ⟨_, oj, hoj, _⟩ := mem_ready.1 hi
          have := (Array.getElem?_eq_some_iff.1 hoj).1
          simp at this; omega
        obtain ⟨hi1, oi, hoi, hall⟩ := mem_ready.1 hi
        have : i ∈ Region.ready md l.toArray listed' := mem_ready.2 ⟨by rw [← h3 i hil]; exact hi1, oi, by rw [← hlt i hil]; exact hoi, fun e he hb => by
          have := depB_spec hd hoi e he hb
          rw [← h3 e.on (by omega)]; exact hall e he hb⟩
        rw [h.1] at this; cases this
  | succ fuel ih =>
    intro listed listed' a w hw h1 h2 h3 h4 h
    refine ⟨fun h0 => ?_, fun i hi => ?_⟩
    · obtain ⟨j, hj⟩ := exists_ready hd (by simpa using h1) l.length (by simp) h4
      rw [h0] at hj; cases hj
    · by_cases hin : i = l.length
      · subst hin
        obtain ⟨_, o', ho', hall⟩ := mem_ready.1 hi
        rw [hn] at ho'; cases ho'
        have hlisted : ∀ j, j < l.length → listed.getD j false = true := fun j hj => by
          obtain ⟨e, he, hb, hon⟩ := allB_spec ha (i := j) hj
          have := hall e he hb
          rwa [hon] at this
        have hr' : Region.ready md l.toArray listed' = [] := by
          refine List.eq_nil_iff_forall_not_mem.2 fun j hj => ?_
          obtain ⟨hj1, oj, hoj, _⟩ := mem_ready.1 hj
          have hjl := (Array.getElem?_eq_some_iff.1 hoj).1
          simp at hjl
          have h5 := hlisted j hjl
          rw [h3 j hjl] at h5
          have h6 : j < listed'.size := by omega
          simp [h6] at h5 hj1
          rw [h5] at hj1; cases hj1
        unfold wpOpIn
        simp only [hn, Region.wanted, hgd, if_true]
        refine Oper.wpIn_mono (fun a' w' hk => ?_) (hQ a w hw (h.1 hr'))
        have hr : Region.ready md (l ++ [o]).toArray (listed.setIfInBounds l.length true) = [] := by
          refine List.eq_nil_iff_forall_not_mem.2 fun j hj => ?_
          obtain ⟨hj1, oj, hoj, _⟩ := mem_ready.1 hj
          have hjl := (Array.getElem?_eq_some_iff.1 hoj).1
          simp at hjl
          by_cases hjn : j = l.length
          · subst hjn; simp [h1] at hj1
          · have := hlisted j (by omega)
            rw [getD_set_ne true (by omega)] at hj1
            have h5 : j < listed.size := by omega
            simp [h5] at this hj1
            rw [this] at hj1; cases hj1
        exact ⟨fun _ => hk, fun j hj => by rw [hr] at hj; cases hj⟩
      · have hil : i < l.length := by
          obtain ⟨_, oj, hoj, _⟩ := mem_ready.1 hi
          have := (Array.getElem?_eq_some_iff.1 hoj).1
          simp at this; omega
        obtain ⟨hi1, oi, hoi, hall⟩ := mem_ready.1 hi
        have hmem : i ∈ Region.ready md l.toArray listed' := mem_ready.2 ⟨by rw [← h3 i hil]; exact hi1, oi, by rw [← hlt i hil]; exact hoi, fun e he hb => by
          have := depB_spec hd hoi e he hb
          rw [← h3 e.on (by omega)]; exact hall e he hb⟩
        have hq := h.2 i hmem
        have hstep := wpOpIn_of_qOpIn (F := Fence.wide) (Q' := Q) (K' := wpAnyIn Fence.wide n P md (l ++ [o]).toArray Q (fuel + 1) (listed.setIfInBounds i true)) rfl hw
          (fun a' w' hw' hk => ih (listed.setIfInBounds i true) (listed'.setIfInBounds i true) a' w' hw' (by simpa using h1) (by simpa using h2) (fun j hj b => by
            by_cases hji : i = j
            · subst hji
              have e1 : i < listed.size := by omega
              have e2 : i < listed'.size := by omega
              simp [e1, e2]
            · rw [getD_set_ne b hji, getD_set_ne b hji]; exact h3 j hj b) (by rw [getD_set_ne true (by omega)]; exact h4) hk) hq
        unfold wpOpIn at hstep ⊢
        rw [hlt i hil, yielded_snoc l o hdst]
        exact hstep

/-- The region reads, and ends in one store: 'o'. -/
theorem quiet_tail_any {a : Act} {w : World} {l : List Oper} {o : Oper} (hdst : o.dst = none) (hgd : o.guard = none) (hd : depB .any (l ++ [o]).toArray = true) (ha : allB .any o l.length = true) (hB : Region.lexB .any l.toArray = true)
    (h : wpQuietIn Fence.wide 0 P l.toArray (fun w' => ∃ p : Regrown, w' = grow (redrawn w p.d) p.os) (fun a' => ∀ w', Below w.heap.size w w' → o.wpIn Fence.wide 0 P a' w' (fun a'' w'' => Q .normal a'' w'') Q) l a) :
    wpAnyIn Fence.wide 0 P .any (l ++ [o]).toArray Q (l ++ [o]).toArray.size (Array.replicate (l ++ [o]).toArray.size false) a { w with drawn := w.drawn + 1 } := by
  simp only [Region.lexB, Bool.and_eq_true] at hB
  have hq := wpAnyQIn_lex (F := Fence.wide) (n := 0) (P := P) (md := .any) hB.1 l 0 (Array.replicate l.toArray.size false) a (by simp) (by simpa using hB.2) h
  have := tail_any (C := fun w' => ∃ p : Regrown, w' = grow (redrawn w p.d) p.os) (Q := Q) (n := 0) (Q2 := fun a' => ∀ w', Below w.heap.size w w' → o.wpIn Fence.wide 0 P a' w' (fun a'' w'' => Q .normal a'' w'') Q) hdst hgd hd ha (fun a w' hw' h => h w' (Cl.below hw')) l.length (Array.replicate (l.length + 1) false) (Array.replicate l.length false) a _ (cl_start w)
    (by simp) (by simp) (fun j hj b => by simp [hj, Nat.lt_succ_of_lt hj]) (by simp) (by simpa using hq)
  simpa using this

theorem region_tail {id : Nat} {a : Act} {w : World} {l : List Oper} {o : Oper} (hm : P.follows .mixedOrders = true) (hdst : o.dst = none) (hgd : o.guard = none) (hd : depB .any (l ++ [o]).toArray = true) (ha : allB .any o l.length = true) (hB : Region.lexB .any l.toArray = true)
    (h : wpQuietIn Fence.wide 0 P l.toArray (fun w' => ∃ p : Regrown, w' = grow (redrawn w p.d) p.os) (fun a' => ∀ w', Below w.heap.size w w' → o.wpIn Fence.wide 0 P a' w' (fun a'' w'' => Q .normal a'' w'') Q) l a) :
    (Code.region id (l ++ [o]).toArray true).wpIn Fence.wide 0 P Q a w := wpIn_region_any hm (quiet_tail_any hdst hgd hd ha hB h)
theorem region_tail_in {id k : Nat} {a : Act} {w : World} {l : List Oper} {o : Oper} (hm : P.follows .mixedOrders = true) (hdst : o.dst = none) (hgd : o.guard = none) (hd : depB .any (l ++ [o]).toArray = true) (ha : allB .any o l.length = true) (hB : Region.lexB .any l.toArray = true)
    (hnd : noDefer (l ++ [o]).toArray = true)
    (h : wpQuietIn Fence.wide 0 P l.toArray (fun w' => ∃ p : Regrown, w' = grow (redrawn w p.d) p.os) (fun a' => ∀ w', Below w.heap.size w w' → o.wpIn Fence.wide 0 P a' w' (fun a'' w'' => Q .normal a'' w'') Q) l a) :
    (Code.region id (l ++ [o]).toArray true).wpIn (FR (some k)) 0 P Q a w := wpIn_region_any hm (any_round hnd _ _ _ _ (quiet_tail_any hdst hgd hd ha hB h))

/-- All operations but the last; the last. -/
def headOps : List Oper → List Oper
  | [] => []
  | [_] => []
  | o :: o' :: r => o :: headOps (o' :: r)
def lastOp : List Oper → Oper
  | [] => default
  | [o] => o
  | _ :: o' :: r => lastOp (o' :: r)
theorem head_last : ∀ {L : List Oper}, L.isEmpty = false → L = headOps L ++ [lastOp L]
  | [], h => by cases h
  | [_], _ => rfl
  | o :: o' :: r, _ => congrArg (o :: ·) (head_last (L := o' :: r) rfl)
def plainLast (L : List Oper) : Bool := !L.isEmpty && (lastOp L).dst.isNone && (lastOp L).guard.isNone

theorem region_tail_lit {id : Nat} {a : Act} {w : World} {L : List Oper} (hm : P.follows .mixedOrders = true) (hp : plainLast L = true) (hd : depB .any L.toArray = true) (ha : allB .any (lastOp L) (headOps L).length = true) (hB : Region.lexB .any (headOps L).toArray = true)
    (h : wpQuietIn Fence.wide 0 P (headOps L).toArray (fun w' => ∃ p : Regrown, w' = grow (redrawn w p.d) p.os) (fun a' => ∀ w', Below w.heap.size w w' → (lastOp L).wpIn Fence.wide 0 P a' w' (fun a'' w'' => Q .normal a'' w'') Q) (headOps L) a) :
    (Code.region id L.toArray true).wpIn Fence.wide 0 P Q a w := by
  simp only [plainLast, Bool.and_eq_true, Bool.not_eq_true', Option.isNone_iff_eq_none] at hp
  have e := head_last hp.1.1
  rw [e] at hd ⊢
  have hd' : depB .any (headOps L ++ [lastOp L]).toArray = true := hd
  exact region_tail hm hp.1.2 hp.2 hd' ha hB h
theorem region_tail_lit_in {id k : Nat} {a : Act} {w : World} {L : List Oper} (hm : P.follows .mixedOrders = true) (hp : plainLast L = true) (hd : depB .any L.toArray = true) (ha : allB .any (lastOp L) (headOps L).length = true) (hB : Region.lexB .any (headOps L).toArray = true)
    (hnd : noDefer L.toArray = true)
    (h : wpQuietIn Fence.wide 0 P (headOps L).toArray (fun w' => ∃ p : Regrown, w' = grow (redrawn w p.d) p.os) (fun a' => ∀ w', Below w.heap.size w w' → (lastOp L).wpIn Fence.wide 0 P a' w' (fun a'' w'' => Q .normal a'' w'') Q) (headOps L) a) :
    (Code.region id L.toArray true).wpIn (FR (some k)) 0 P Q a w := by
  simp only [plainLast, Bool.and_eq_true, Bool.not_eq_true', Option.isNone_iff_eq_none] at hp
  have e := head_last hp.1.1
  rw [e] at hd hnd ⊢
  exact region_tail_in hm hp.1.2 hp.2 hd ha hB hnd h
end
end Go.Proofs.Ytekpjmdkihnpeaa
