/- A region that draws its order, whose operations read, whose callees may lay blocks of their own, and which may end in one store: walked once, in the order of the text; outermost or in a round. -/
import Derived.Lib.QuietBelowIn
import Derived.StillTail
import Derived.Test.YtekpjmdkihnpeaaRange
namespace Go.Proofs.Ytekpjmdkihnpeaa
set_option linter.unusedSimpArgs false
set_option linter.unusedVariables false
open Go.RowKit Go.Shelf Go.Sort

section
variable {P : Program} {n : Nat} {md : Region.Mode} {ops : Array Oper} {Q : Exit → Act → World → Prop}

/-- In a round an operation that is no defer statement goes as anywhere. -/
theorem op_round {l : Nat} {o : Oper} {a : Act} {w : World} {K : Act → World → Prop} (hnd : ∀ c, o.op ≠ .defer c) (h : o.wpIn Fence.wide n P a w K Q) : o.wpIn (FR (some l)) n P a w K Q := by
  unfold Oper.wpIn at *
  refine ⟨fun _ _ => trivial, ?_⟩
  have h2 := h.2
  rw [show (Fence.wide).round = none from rfl, Oper.semAt_none] at h2
  rw [show (FR (some l)).round = some l from rfl, Oper.semAt_some l _ _ hnd]
  exact h2

def noDefer (ops : Array Oper) : Bool := ops.all fun o => match o.op with | .defer _ => false | _ => true
theorem noDefer_spec (h : noDefer ops = true) {i : Nat} {o : Oper} (hi : ops[i]? = some o) : ∀ c, o.op ≠ .defer c := by
  intro c e
  obtain ⟨hlt, hi'⟩ := Array.getElem?_eq_some_iff.1 hi
  have h' := (Array.all_eq_true.1 h) i hlt
  rw [hi', e] at h'
  cases h'

theorem any_round {l : Nat} (hnd : noDefer ops = true) : ∀ (fuel : Nat) (listed : Array Bool) (a : Act) (w : World), wpAnyIn Fence.wide n P md ops Q fuel listed a w → wpAnyIn (FR (some l)) n P md ops Q fuel listed a w
  | 0, _, _, _, h => h
  | fuel + 1, listed, a, w, h => by
    refine ⟨h.1, fun i hi => ?_⟩
    have h2 := h.2 i hi
    unfold wpOpIn at *
    cases ho : ops[i]? with
    | none => simp only [ho] at h2 ⊢; exact any_round hnd fuel _ _ _ h2
    | some o =>
      simp only [ho] at h2 ⊢
      by_cases hw : Region.wanted o (yielded ops a.tmps) = true
      · simp only [hw, if_true] at h2 ⊢
        exact Oper.wpIn_mono (fun a w h => any_round hnd fuel _ a w h) (op_round (noDefer_spec hnd ho) h2)
      · simp only [hw] at h2 ⊢
        exact ⟨fun _ _ => trivial, any_round hnd fuel _ _ _ h2.2⟩

/-- The class of worlds: below w's size all is as in w. -/
def Cl (w w' : World) : Prop := ∃ p : Regrown, w' = grow (redrawn w p.d) p.os
theorem Cl.below {w w' : World} (h : Cl w w') : Below w.heap.size w w' := by
  obtain ⟨p, rfl⟩ := h; exact below_regrown w p.d p.os
theorem cl_start (w : World) : (fun w' => ∃ p : Regrown, w' = grow (redrawn w p.d) p.os) { w with drawn := w.drawn + 1 } := ⟨⟨w.drawn + 1, #[]⟩, by rw [grow_empty]; rfl⟩

/-- The region only reads. -/
theorem quiet_any {a : Act} {w : World} {l : List Oper} (hB : Region.lexB .any l.toArray = true)
    (h : wpQuietIn Fence.wide 0 P l.toArray (fun w' => ∃ p : Regrown, w' = grow (redrawn w p.d) p.os) (fun a' => ∀ w', Below w.heap.size w w' → Q .normal a' w') l a) :
    wpAnyIn Fence.wide 0 P .any l.toArray Q l.toArray.size (Array.replicate l.toArray.size false) a { w with drawn := w.drawn + 1 } := by
  simp only [Region.lexB, Bool.and_eq_true] at hB
  refine wpAnyIn_of_quiet (C := fun w' => ∃ p : Regrown, w' = grow (redrawn w p.d) p.os) (Q := fun a' => ∀ w', Below w.heap.size w w' → Q .normal a' w') rfl (fun _ w' hw' h => h w' (Cl.below hw')) _ _ _ _ (cl_start w) ?_
  have := wpAnyQIn_lex (F := Fence.wide) (n := 0) (P := P) (md := .any) hB.1 l 0 (Array.replicate l.toArray.size false) a (by simp) (by simpa using hB.2) h
  simpa using this

theorem region_quiet {id : Nat} {a : Act} {w : World} {l : List Oper} (hm : P.follows .mixedOrders = true) (hB : Region.lexB .any l.toArray = true)
    (h : wpQuietIn Fence.wide 0 P l.toArray (fun w' => ∃ p : Regrown, w' = grow (redrawn w p.d) p.os) (fun a' => ∀ w', Below w.heap.size w w' → Q .normal a' w') l a) :
    (Code.region id l.toArray true).wpIn Fence.wide 0 P Q a w := wpIn_region_any hm (quiet_any hB h)

theorem region_quiet_in {id k : Nat} {a : Act} {w : World} {l : List Oper} (hm : P.follows .mixedOrders = true) (hB : Region.lexB .any l.toArray = true) (hnd : noDefer l.toArray = true)
    (h : wpQuietIn Fence.wide 0 P l.toArray (fun w' => ∃ p : Regrown, w' = grow (redrawn w p.d) p.os) (fun a' => ∀ w', Below w.heap.size w w' → Q .normal a' w') l a) :
    (Code.region id l.toArray true).wpIn (FR (some k)) 0 P Q a w := wpIn_region_any hm (any_round hnd _ _ _ _ (quiet_any hB h))

/-! ### One store at the end -/
def depB (md : Region.Mode) (ops : Array Oper) : Bool := (List.range ops.size).all fun j => match ops[j]? with | some o => o.after.all (fun e => !Region.binds md e || decide (e.on < j)) | none => true
/-- From m on each operation waits, through others, for all that stand before it. -/
def chainB (md : Region.Mode) (ops : Array Oper) (m : Nat) : Bool := (List.range ops.size).all fun j => decide (j < m) || (List.range j).all fun i => (List.range (j + 1)).any fun k => decide (i < k) && (match ops[k]? with | some o => o.after.any (fun e => Region.binds md e && e.on == i) | none => false)
/-- No guard but on one of the first m. -/
def gdB (l : List Oper) (m : Nat) : Bool := l.all fun o => match o.guard with | none => true | some (j, _) => decide (j < m)

theorem depB_spec (h : depB md ops = true) {j : Nat} {o : Oper} (hj : ops[j]? = some o) : ∀ e ∈ o.after, Region.binds md e = true → e.on < j := by
  intro e he hb
  have h1 := List.all_eq_true.1 h j (List.mem_range.2 (Array.getElem?_eq_some_iff.1 hj).1)
  simp only [hj] at h1
  obtain ⟨i, hi, rfl⟩ := Array.mem_iff_getElem.1 he
  have h2 := (Array.all_eq_true.1 h1) i hi
  simpa [hb] using h2
theorem chainB_spec {m : Nat} (h : chainB md ops m = true) {i j : Nat} (hj : j < ops.size) (hm : m ≤ j) (hi : i < j) : ∃ k o, i < k ∧ k ≤ j ∧ ops[k]? = some o ∧ ∃ e ∈ o.after, Region.binds md e = true ∧ e.on = i := by
  have h1 := List.all_eq_true.1 h j (List.mem_range.2 hj)
  have hm' : decide (j < m) = false := decide_eq_false (by omega)
  rw [hm', Bool.false_or] at h1
  have h1' := List.all_eq_true.1 h1 i (List.mem_range.2 hi)
  obtain ⟨k, hk, h2⟩ := List.any_eq_true.1 h1'
  rw [Bool.and_eq_true, decide_eq_true_iff] at h2
  obtain ⟨hik, h3⟩ := h2
  have hkj := List.mem_range.1 hk
  have hkl : k < ops.size := by omega
  have ho : ops[k]? = some ops[k] := by simp [hkl]
  rw [ho] at h3
  obtain ⟨e, he, h4⟩ := Array.any_eq_true'.1 h3
  simp only [Bool.and_eq_true, beq_iff_eq] at h4
  exact ⟨k, _, hik, by omega, ho, e, he, h4.1, h4.2⟩
/-- What has been taken waits for nothing. -/
def Closed (md : Region.Mode) (ops : Array Oper) (listed : Array Bool) : Prop := ∀ k o, ops[k]? = some o → listed.getD k false = true → ∀ e ∈ o.after, Region.binds md e = true → listed.getD e.on false = true
theorem closed_all {m j : Nat} {listed : Array Bool} (hs : chainB md ops m = true) (hc : Closed md ops listed) (hm : m ≤ j) (hr : j ∈ Region.ready md ops listed) :
    ∀ (d i : Nat), j - i = d → i < j → listed.getD i false = true := by
  obtain ⟨_, o, ho, hall⟩ := mem_ready.1 hr
  have hjl := (Array.getElem?_eq_some_iff.1 ho).1
  intro d
  induction d using Nat.strongRecOn with
  | _ d ih =>
    intro i hd hi
    obtain ⟨k, o', hik, hkj, hk, e, he, hb, rfl⟩ := chainB_spec hs hjl hm hi
    by_cases hkn : k = j
    · subst hkn
      rw [ho] at hk; cases hk
      exact hall e he hb
    · exact hc k o' hk (ih (j - k) (by omega) k rfl (by omega)) e he hb

theorem exists_ready (hd : depB md ops = true) {listed : Array Bool} (hs : listed.size = ops.size) : ∀ (i : Nat), i < ops.size → listed.getD i true = false → ∃ j, j ∈ Region.ready md ops listed := by
  intro i
  induction i using Nat.strongRecOn with
  | _ i ih =>
    intro hi hl
    have ho : ops[i]? = some ops[i] := by simp [hi]
    by_cases h : ∀ e ∈ ops[i].after, Region.binds md e = true → listed.getD e.on false = true
    · exact ⟨i, mem_ready.2 ⟨hl, _, ho, h⟩⟩
    · obtain ⟨e, he⟩ := Classical.not_forall.1 h
      obtain ⟨he, h2⟩ := Classical.not_imp.1 he
      obtain ⟨hb, h3⟩ := Classical.not_imp.1 h2
      have hlt := depB_spec hd ho e he hb
      exact ih e.on hlt (by omega) (getD_in (by omega) (by simpa using h3))

theorem wanted_app {l T : List Oper} {oi : Oper} {m : Nat} (hm : m ≤ l.length) (hg : gdB l m = true) (hi : oi ∈ l) {tmps : Array Value} : Region.wanted oi (yielded (l ++ T).toArray tmps) = Region.wanted oi (yielded l.toArray tmps) := by
  have h1 := List.all_eq_true.1 hg oi hi
  unfold Region.wanted
  cases hgd : oi.guard with
  | none => rfl
  | some p =>
    obtain ⟨j, b⟩ := p
    rw [hgd] at h1
    have hj : j < m := by simpa using h1
    have : yielded (l ++ T).toArray tmps j = yielded l.toArray tmps j := by
      unfold yielded
      have : (l ++ T).toArray[j]? = l.toArray[j]? := by
        simp only [List.getElem?_toArray]
        rw [List.getElem?_append_left (by omega)]
      rw [this]
    simp only [this]

theorem getD_rep (n k : Nat) : (Array.replicate n false).getD k false = false := by
  rw [Array.getD_eq_getD_getElem?, Array.getElem?_replicate]
  split <;> rfl

theorem Closed.set {i : Nat} {listed : Array Bool} {oi : Oper} (hc : Closed md ops listed) (hoi : ops[i]? = some oi) (hall : ∀ e ∈ oi.after, Region.binds md e = true → listed.getD e.on false = true) : Closed md ops (listed.setIfInBounds i true) := by
  intro k ok hok hk e he hb
  have key : listed.getD e.on false = true := by
    by_cases hki : i = k
    · subst hki
      rw [hoi] at hok; cases hok
      exact hall e he hb
    · rw [getD_set_ne false hki] at hk
      exact hc k ok hok hk e he hb
  by_cases hei : i = e.on
  · subst hei
    by_cases hlt : e.on < listed.size
    · simp [hlt]
    · rw [Array.getD_eq_getD_getElem?, Array.getElem?_eq_none (by simpa using hlt)] at key; cases key
  · rw [getD_set_ne false hei]; exact key

/-- Behind the first j, one after the other. -/
theorem chain_any {L : List Oper} {m : Nat} (hd : depB md L.toArray = true) (ha : chainB md L.toArray m = true) :
    ∀ (fuel j : Nat) (listed : Array Bool) (a : Act) (w : World), m ≤ j → L.length ≤ fuel + j → listed.size = L.length → Closed md L.toArray listed → (∀ i, i < j → i < L.length → listed.getD i false = true) → (∀ i, j ≤ i → i < L.length → listed.getD i true = false) →
      wpListIn Fence.wide n P L.toArray Q (L.drop j) a w → wpAnyIn Fence.wide n P md L.toArray Q fuel listed a w := by
  intro fuel
  induction fuel with
  | zero =>
    intro j listed a w hm hf h1 hc h2 h3 h
    rw [List.drop_of_length_le (by omega)] at h
    refine ⟨List.eq_nil_iff_forall_not_mem.2 fun i hi => ?_, h⟩
    obtain ⟨hi1, oj, hoj, _⟩ := mem_ready.1 hi
    have hil := (Array.getElem?_eq_some_iff.1 hoj).1
    simp at hil
    have := h2 i (by omega) hil
    have h5 : i < listed.size := by omega
    simp [h5] at this hi1
    rw [this] at hi1; cases hi1
  | succ fuel ih =>
    intro j listed a w hm hf h1 hc h2 h3 h
    refine ⟨fun h0 => ?_, fun i hi => ?_⟩
    · by_cases hj : j < L.length
      · obtain ⟨k, hk⟩ := exists_ready hd (by simpa using h1) j (by simpa using hj) (h3 j (Nat.le_refl _) hj)
        rw [h0] at hk; cases hk
      · rw [List.drop_of_length_le (by omega)] at h; exact h
    · obtain ⟨hi1, oi, hoi, hall⟩ := mem_ready.1 hi
      have hil := (Array.getElem?_eq_some_iff.1 hoi).1
      simp at hil
      have hij : j ≤ i := by
        by_cases hij : j ≤ i
        · exact hij
        · have := h2 i (by omega) hil
          have h5 : i < listed.size := by omega
          simp [h5] at this hi1
          rw [this] at hi1; cases hi1
      have heq : i = j := by
        by_cases heq : i = j
        · exact heq
        · have := closed_all ha hc (by omega) hi (i - j) j rfl (by omega)
          have h6 := h3 j (Nat.le_refl _) (by omega)
          have h5 : j < listed.size := by omega
          simp [h5] at this h6
          rw [this] at h6; cases h6
      subst heq
      have hoL : L[i]? = some oi := by simpa using hoi
      have hdrop : L.drop i = oi :: L.drop (i + 1) := by
        rw [List.drop_eq_getElem_cons hil]
        congr 1
        rw [List.getElem?_eq_getElem hil] at hoL
        exact Option.some.inj hoL
      rw [hdrop] at h
      have hk : ∀ a' w', wpListIn Fence.wide n P L.toArray Q (L.drop (i + 1)) a' w' → wpAnyIn Fence.wide n P md L.toArray Q fuel (listed.setIfInBounds i true) a' w' := fun a' w' hk =>
        ih (i + 1) (listed.setIfInBounds i true) a' w' (by omega) (by omega) (by simpa using h1) (hc.set hoi hall)
          (fun k hk1 hk2 => by
            by_cases hki : i = k
            · subst hki; have : i < listed.size := by omega
              simp [this]
            · rw [getD_set_ne false hki]; exact h2 k (by omega) hk2)
          (fun k hk1 hk2 => by rw [getD_set_ne true (by omega)]; exact h3 k (by omega) hk2) hk
      unfold wpOpIn
      rw [hoi]
      unfold wpListIn at h
      simp only at h ⊢
      split
      · rename_i hw
        rw [if_pos hw] at h
        exact Oper.wpIn_mono hk h
      · rename_i hw
        rw [if_neg hw] at h
        exact ⟨h.1, hk _ _ h.2⟩

theorem tail_any {C : World → Prop} {l T : List Oper} (hT : T ≠ []) (hg : gdB l l.length = true) (hd : depB md (l ++ T).toArray = true) (hdl : depB md l.toArray = true) (ha : chainB md (l ++ T).toArray l.length = true) {Q2 : Act → Prop}
    (hQ : ∀ a w, C w → Q2 a → wpListIn Fence.wide n P (l ++ T).toArray Q T a w) :
    ∀ (fuel : Nat) (listed listed' : Array Bool) (a : Act) (w : World), C w → Closed md (l ++ T).toArray listed → listed.size = (l ++ T).length → listed'.size = l.length → (∀ j, j < l.length → ∀ b, listed.getD j b = listed'.getD j b) → (∀ i, l.length ≤ i → i < (l ++ T).length → listed.getD i true = false) →
      wpAnyQIn Fence.wide n P md l.toArray C Q2 fuel listed' a → wpAnyIn Fence.wide n P md (l ++ T).toArray Q (fuel + T.length) listed a w := by
  have hTl : 0 < T.length := List.length_pos_iff.2 hT
  have hlt : ∀ j, j < l.length → (l ++ T).toArray[j]? = l.toArray[j]? := fun j hj => by simp [List.getElem?_append_left hj]
  -- all of the head has been taken
  have behind : ∀ (fuel : Nat) (listed : Array Bool) (a : Act) (w : World), C w → Closed md (l ++ T).toArray listed → listed.size = (l ++ T).length → (∀ i, l.length ≤ i → i < (l ++ T).length → listed.getD i true = false) → (∀ i, i < l.length → listed.getD i false = true) → Q2 a → T.length ≤ fuel →
      wpAnyIn Fence.wide n P md (l ++ T).toArray Q fuel listed a w := by
    intro fuel listed a w hw hc h1 h4 hall hq hf
    refine chain_any hd ha fuel l.length listed a w (Nat.le_refl _) (by simp; omega) h1 hc (fun i hi _ => hall i hi) h4 ?_
    rw [List.drop_left]; exact hQ a w hw hq
  have done : ∀ (listed' : Array Bool), listed'.size = l.length → Region.ready md l.toArray listed' = [] → ∀ i, i < l.length → listed'.getD i false = true := by
    intro listed' h2 h0 i hi
    cases hb : listed'.getD i false with
    | true => rfl
    | false =>
      have h5 : i < listed'.size := by omega
      obtain ⟨j, hj⟩ := exists_ready hdl (by simpa using h2) i (by simpa using hi) (by simp [h5] at hb ⊢; exact hb)
      rw [h0] at hj; cases hj
  intro fuel
  induction fuel with
  | zero =>
    intro listed listed' a w hw hc h1 h2 h3 h4 h
    exact behind _ listed a w hw hc h1 h4 (fun i hi => by rw [h3 i hi]; exact done listed' h2 h.1 i hi) h.2 (by omega)
  | succ fuel ih =>
    intro listed listed' a w hw hc h1 h2 h3 h4 h
    by_cases h0 : Region.ready md l.toArray listed' = []
    · exact behind _ listed a w hw hc h1 h4 (fun i hi => by rw [h3 i hi]; exact done listed' h2 h0 i hi) (h.1 h0) (by omega)
    · rw [show fuel + 1 + T.length = (fuel + T.length) + 1 from by omega]
      refine ⟨fun hr => ?_, fun i hi => ?_⟩
      · obtain ⟨j, hj⟩ := exists_ready hd (by simpa using h1) l.length (by simp; omega) (h4 _ (Nat.le_refl _) (by simp; omega))
        rw [hr] at hj; cases hj
      · obtain ⟨hi1, oi, hoi, hall⟩ := mem_ready.1 hi
        have hil : i < l.length := by
          by_cases hil : i < l.length
          · exact hil
          · exfalso
            refine h0 (List.eq_nil_iff_forall_not_mem.2 fun j hj => ?_)
            obtain ⟨hj1, oj, hoj, _⟩ := mem_ready.1 hj
            have hjl := (Array.getElem?_eq_some_iff.1 hoj).1
            simp at hjl
            have h5 := closed_all ha hc (by omega) hi (i - j) j rfl (by omega)
            rw [h3 j hjl] at h5
            have h6 : j < listed'.size := by omega
            simp [h6] at h5 hj1
            rw [h5] at hj1; cases hj1
        have hmem : i ∈ Region.ready md l.toArray listed' := mem_ready.2 ⟨by rw [← h3 i hil]; exact hi1, oi, by rw [← hlt i hil]; exact hoi, fun e he hb => by
          have := depB_spec hd hoi e he hb
          rw [← h3 e.on (by omega)]; exact hall e he hb⟩
        have hq := h.2 i hmem
        have hstep := wpOpIn_of_qOpIn (F := Fence.wide) (Q' := Q) (K' := wpAnyIn Fence.wide n P md (l ++ T).toArray Q (fuel + T.length) (listed.setIfInBounds i true)) rfl hw
          (fun a' w' hw' hk => ih (listed.setIfInBounds i true) (listed'.setIfInBounds i true) a' w' hw' (hc.set hoi hall) (by simpa using h1) (by simpa using h2) (fun j hj b => by
            by_cases hji : i = j
            · subst hji
              have e1 : i < listed.size := by rw [h1]; simp; omega
              have e2 : i < listed'.size := by omega
              simp [e1, e2]
            · rw [getD_set_ne b hji, getD_set_ne b hji]; exact h3 j hj b) (fun k hk1 hk2 => by rw [getD_set_ne true (by omega)]; exact h4 k hk1 hk2) hk) hq
        have hli : l.toArray[i]? = some oi := by rw [← hlt i hil]; exact hoi
        have hmi : oi ∈ l := List.mem_of_getElem? (l := l) (i := i) (a := oi) (by simpa using hli)
        unfold wpOpIn at hstep ⊢
        rw [hli] at hstep
        rw [hoi]
        simp only at hstep ⊢
        rw [wanted_app (Nat.le_refl _) hg hmi]
        exact hstep

/-- The region reads, and goes on in one order: 'T'. -/
theorem quiet_tail_any {a : Act} {w : World} {l T : List Oper} (hT : T ≠ []) (hg : gdB l l.length = true) (hd : depB .any (l ++ T).toArray = true) (ha : chainB .any (l ++ T).toArray l.length = true) (hB : Region.lexB .any l.toArray = true) (hdl : depB .any l.toArray = true)
    (h : wpQuietIn Fence.wide 0 P l.toArray (fun w' => ∃ p : Regrown, w' = grow (redrawn w p.d) p.os) (fun a' => ∀ w', Below w.heap.size w w' → wpListIn Fence.wide 0 P (l ++ T).toArray Q T a' w') l a) :
    wpAnyIn Fence.wide 0 P .any (l ++ T).toArray Q (l ++ T).toArray.size (Array.replicate (l ++ T).toArray.size false) a { w with drawn := w.drawn + 1 } := by
  simp only [Region.lexB, Bool.and_eq_true] at hB
  have hq := wpAnyQIn_lex (F := Fence.wide) (n := 0) (P := P) (md := .any) hB.1 l 0 (Array.replicate l.toArray.size false) a (by simp) (by simpa using hB.2) h
  have := tail_any (C := fun w' => ∃ p : Regrown, w' = grow (redrawn w p.d) p.os) (Q := Q) (n := 0) (Q2 := fun a' => ∀ w', Below w.heap.size w w' → wpListIn Fence.wide 0 P (l ++ T).toArray Q T a' w') hT hg hd hdl ha (fun a w' hw' h => h w' (Cl.below hw')) l.length (Array.replicate (l ++ T).length false) (Array.replicate l.length false) a _ (cl_start w)
    (fun k o _ hk => by rw [getD_rep] at hk; cases hk) (by simp) (by simp) (fun j hj b => by simp [hj, Nat.lt_of_lt_of_le hj]) (fun i h1 h2 => by rw [Array.getD_eq_getD_getElem?, Array.getElem?_replicate, if_pos h2]; rfl) (by simpa using hq)
  simpa using this

theorem region_chain {id : Nat} {a : Act} {w : World} {L : List Oper} (m : Nat) (hm : P.follows .mixedOrders = true) (hT : (L.drop m).isEmpty = false) (hg : gdB (L.take m) (L.take m).length = true) (hd : depB .any L.toArray = true) (ha : chainB .any L.toArray (L.take m).length = true) (hB : Region.lexB .any (L.take m).toArray = true) (hdl : depB .any (L.take m).toArray = true)
    (h : wpQuietIn Fence.wide 0 P (L.take m).toArray (fun w' => ∃ p : Regrown, w' = grow (redrawn w p.d) p.os) (fun a' => ∀ w', Below w.heap.size w w' → wpListIn Fence.wide 0 P L.toArray Q (L.drop m) a' w') (L.take m) a) :
    (Code.region id L.toArray true).wpIn Fence.wide 0 P Q a w := by
  have e : L.take m ++ L.drop m = L := List.take_append_drop m L
  have := quiet_tail_any (Q := Q) (a := a) (w := w) (l := L.take m) (T := L.drop m) (fun h => by rw [h] at hT; cases hT) hg (by rw [e]; exact hd) (by rw [e]; exact ha) hB hdl (by rw [e]; exact h)
  rw [e] at this
  exact wpIn_region_any hm this
theorem region_chain_in {id k : Nat} {a : Act} {w : World} {L : List Oper} (m : Nat) (hm : P.follows .mixedOrders = true) (hT : (L.drop m).isEmpty = false) (hg : gdB (L.take m) (L.take m).length = true) (hd : depB .any L.toArray = true) (ha : chainB .any L.toArray (L.take m).length = true) (hB : Region.lexB .any (L.take m).toArray = true) (hdl : depB .any (L.take m).toArray = true)
    (hnd : noDefer L.toArray = true)
    (h : wpQuietIn Fence.wide 0 P (L.take m).toArray (fun w' => ∃ p : Regrown, w' = grow (redrawn w p.d) p.os) (fun a' => ∀ w', Below w.heap.size w w' → wpListIn Fence.wide 0 P L.toArray Q (L.drop m) a' w') (L.take m) a) :
    (Code.region id L.toArray true).wpIn (FR (some k)) 0 P Q a w := by
  have e : L.take m ++ L.drop m = L := List.take_append_drop m L
  have := quiet_tail_any (Q := Q) (a := a) (w := w) (l := L.take m) (T := L.drop m) (fun h => by rw [h] at hT; cases hT) hg (by rw [e]; exact hd) (by rw [e]; exact ha) hB hdl (by rw [e]; exact h)
  rw [e] at this
  exact wpIn_region_any hm (any_round hnd _ _ _ _ this)
/-- The last c operations stand in one order. -/
theorem region_last {id : Nat} {a : Act} {w : World} {L : List Oper} (c : Nat) (hm : P.follows .mixedOrders = true) (hT : (L.drop (L.length - c)).isEmpty = false) (hg : gdB (L.take (L.length - c)) (L.take (L.length - c)).length = true) (hd : depB .any L.toArray = true) (ha : chainB .any L.toArray (L.take (L.length - c)).length = true) (hB : Region.lexB .any (L.take (L.length - c)).toArray = true) (hdl : depB .any (L.take (L.length - c)).toArray = true)
    (h : wpQuietIn Fence.wide 0 P (L.take (L.length - c)).toArray (fun w' => ∃ p : Regrown, w' = grow (redrawn w p.d) p.os) (fun a' => ∀ w', Below w.heap.size w w' → wpListIn Fence.wide 0 P L.toArray Q (L.drop (L.length - c)) a' w') (L.take (L.length - c)) a) :
    (Code.region id L.toArray true).wpIn Fence.wide 0 P Q a w := region_chain _ hm hT hg hd ha hB hdl h
theorem region_last_in {id k : Nat} {a : Act} {w : World} {L : List Oper} (c : Nat) (hm : P.follows .mixedOrders = true) (hT : (L.drop (L.length - c)).isEmpty = false) (hg : gdB (L.take (L.length - c)) (L.take (L.length - c)).length = true) (hd : depB .any L.toArray = true) (ha : chainB .any L.toArray (L.take (L.length - c)).length = true) (hB : Region.lexB .any (L.take (L.length - c)).toArray = true) (hdl : depB .any (L.take (L.length - c)).toArray = true)
    (hnd : noDefer L.toArray = true)
    (h : wpQuietIn Fence.wide 0 P (L.take (L.length - c)).toArray (fun w' => ∃ p : Regrown, w' = grow (redrawn w p.d) p.os) (fun a' => ∀ w', Below w.heap.size w w' → wpListIn Fence.wide 0 P L.toArray Q (L.drop (L.length - c)) a' w') (L.take (L.length - c)) a) :
    (Code.region id L.toArray true).wpIn (FR (some k)) 0 P Q a w := region_chain_in _ hm hT hg hd ha hB hdl hnd h
end
end Go.Proofs.Ytekpjmdkihnpeaa
