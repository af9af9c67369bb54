/- place.Beside; the examples of chapter 1. -/
import Derived.Test.YtekpjmdkihnpeaaNear
import Derived.Test.YtekpjmdkihnpeaaRange
namespace Go.Proofs.Ytekpjmdkihnpeaa
set_option linter.unusedSimpArgs false
set_option linter.unusedVariables false
open Go.RowKit Go.Shelf

attribute [local go_sem] Oper.semAt_some

theorem stabF_true (S : Nat → Prop) : StabF S (fun _ => True) := fun _ _ _ _ => trivial
theorem stabF_false (S : Nat → Prop) : StabF S (fun _ => False) := fun _ _ h _ => h

set_option maxRecDepth 100000 in
set_option maxHeartbeats 1000000 in
theorem beside_any (W H a b : Int) (w : World) :
    Calls Try.prog 25 #[.agg #[.int .i64 W, .int .i64 H], .int .i64 a, .int .i64 b] w fun e w' => e = .returned (.bool (decide (b ∈ nearL W H a))) ∧ Below w.heap.size w w' := by
  refine calls_of_wide ?_
  (refine callsIn_of_wp_marks Try.func25 rfl trivial ?_ rfl); simp only [Try.ntmps25, List.size_toArray, List.length_cons, List.length_nil, Nat.reduceAdd, Nat.reduceSub, Array.replicate_succ, Array.replicate_zero, List.push_toArray, List.append_toArray, List.nil_append, List.cons_append]
  gi_wp2_with fail
  (refine ⟨trivial, rfl, ?_⟩); (refine CallsIn.mono (callsIn_wide.2 (near_mk W H a _)) ?_); rintro e w1 ⟨rfl, rfl⟩
  gi_wp2_with fail
  refine name_w fun V hV => ?_
  have hsz : V.heap.size = w.heap.size + 5 := by rw [hV]; simp
  have bR : Boxed V (w.heap.size + 1 + 1) 4 (.bool false) := (by rw [hV]; simp only [Boxed, hp_alloc, hp_drewN, hp_drew, if_true, World.size_alloc, World.size_setCell, World.size_drew, World.heap_drewN]; repeat (first | rw [if_true] | rw [if_pos (by omega)] | rw [if_neg (by omega)] | rw [hp_set_ne _ _ _ _ _ (by omega)] | rw [hp_set_eq (by assumption)]); try first | rfl | assumption | (apply hp_set_eq; (repeat (rw [hp_set_ne _ _ _ _ _ (by omega)])); assumption))
  have bB : Boxed V (w.heap.size + 1) 3 (.int .i64 b) := (by rw [hV]; simp only [Boxed, hp_alloc, hp_drewN, hp_drew, if_true, World.size_alloc, World.size_setCell, World.size_drew, World.heap_drewN]; repeat (first | rw [if_true] | rw [if_pos (by omega)] | rw [if_neg (by omega)] | rw [hp_set_ne _ _ _ _ _ (by omega)] | rw [hp_set_eq (by assumption)]); try first | rfl | assumption | (apply hp_set_eq; (repeat (rw [hp_set_ne _ _ _ _ _ (by omega)])); assumption))
  have hz : V.heap[w.heap.size + 1 + 1 + 1]? = some (.cells #[.int .i64 W, .int .i64 H] 23) := (by rw [hV]; simp only [Boxed, hp_alloc, hp_drewN, hp_drew, if_true, World.size_alloc, World.size_setCell, World.size_drew, World.heap_drewN]; repeat (first | rw [if_true] | rw [if_pos (by omega)] | rw [if_neg (by omega)] | rw [hp_set_ne _ _ _ _ _ (by omega)] | rw [hp_set_eq (by assumption)]); try first | rfl | assumption | (apply hp_set_eq; (repeat (rw [hp_set_ne _ _ _ _ _ (by omega)])); assumption))
  have hc : V.heap[w.heap.size + 1 + 1 + 1 + 1]? = some (.cells #[.int .i64 a] 3) := (by rw [hV]; simp only [Boxed, hp_alloc, hp_drewN, hp_drew, if_true, World.size_alloc, World.size_setCell, World.size_drew, World.heap_drewN]; repeat (first | rw [if_true] | rw [if_pos (by omega)] | rw [if_neg (by omega)] | rw [hp_set_ne _ _ _ _ _ (by omega)] | rw [hp_set_eq (by assumption)]); try first | rfl | assumption | (apply hp_set_eq; (repeat (rw [hp_set_ne _ _ _ _ _ (by omega)])); assumption))
  have hM : Md w.heap.size NoB w V := by rw [hV]; exact (by repeat (first | exact Md.refl _ _ _ | (refine Md.alloc ?_ (by ((try simp only [World.size_alloc, World.size_setCell, World.size_drew, World.heap_drewN]); omega)) _) | (refine Md.drewN ?_ _) | (refine Md.drew ?_) | (refine Md.setCell ?_ (by first | exact .inl rfl | exact .inl (.inl rfl) | exact .inl (.inr (.inl rfl)) | exact .inl (.inr (.inr (.inl rfl))) | exact .inl (.inr (.inr rfl)) | exact .inl (.inr rfl) | exact .inl (.inr (.inr (.inr rfl))) | (right; show _ ≤ _; ((try simp only [World.size_alloc, World.size_setCell, World.size_drew, World.heap_drewN]); omega)) | (left; show _; simp [*]; done)) _) | (refine Md.call ?_ (by assumption) (by ((try simp only [World.size_alloc, World.size_setCell, World.size_drew, World.heap_drewN]); omega))) | (refine Md.trans ?_ (by assumption))))
  clear hV
  refine range_fix rfl (enters_of Try.func51 (by kernel_rfl) rfl) (near_iter W H a V _ _ hz hc) (fun _ => rfl)
    (fun k => k = w.heap.size + 1 + 1) (fun pre W => b ∉ pre ∧ Boxed W (w.heap.size + 1 + 1) 4 (.bool false)) (fun c W' => c = .ret ∧ b ∈ nearL W H a ∧ Boxed W' (w.heap.size + 1 + 1) 4 (.bool true))
    (fun pre W W' h he => ⟨h.1, Boxed.stab h.2 he rfl⟩) (fun c W W' h he => ⟨h.1, h.2.1, Boxed.stab h.2.2 he rfl⟩) (by omega) (by omega) ⟨by simp, bR⟩ (fun _ => []) ?a₁ ?assign ?body ?done ?stop
  case assign =>
    intro l x W n K hn hK
    gi_wp2
    exact hK
  case body =>
    rintro n pre x post U hL hn hr hnew hszU hMU ⟨hi, hbR⟩
    have bB' := bB.md hMU (by omega) (by omega)
    have cB := bB'.cell
    have cR := hbR.cell
    have fR := hbR.frozen
    have hszU' : n = U.heap.size := by simpa using hszU.symm
    by_cases hx : x = b
    · subst hx
      gi_wp2
      exact ⟨(by repeat (first | exact Md.refl _ _ _ | (refine Md.alloc ?_ (by ((try simp only [World.size_alloc, World.size_setCell, World.size_drew, World.heap_drewN]); omega)) _) | (refine Md.drewN ?_ _) | (refine Md.drew ?_) | (refine Md.setCell ?_ (by first | exact .inl rfl | exact .inl (.inl rfl) | exact .inl (.inr (.inl rfl)) | exact .inl (.inr (.inr (.inl rfl))) | exact .inl (.inr (.inr rfl)) | exact .inl (.inr rfl) | exact .inl (.inr (.inr (.inr rfl))) | (right; show _ ≤ _; ((try simp only [World.size_alloc, World.size_setCell, World.size_drew, World.heap_drewN]); omega)) | (left; show _; simp [*]; done)) _) | (refine Md.call ?_ (by assumption) (by ((try simp only [World.size_alloc, World.size_setCell, World.size_drew, World.heap_drewN]); omega))) | (refine Md.trans ?_ (by assumption)))), rfl, by rw [hL]; simp, (by simp only [Boxed, hp_alloc, hp_drewN, hp_drew, if_true, World.size_alloc, World.size_setCell, World.size_drew, World.heap_drewN]; repeat (first | rw [if_true] | rw [if_pos (by omega)] | rw [if_neg (by omega)] | rw [hp_set_ne _ _ _ _ _ (by omega)] | rw [hp_set_eq (by assumption)]); try first | rfl | assumption | (apply hp_set_eq; (repeat (rw [hp_set_ne _ _ _ _ _ (by omega)])); assumption))⟩
    · have hxb : (x == b) = false := beq_eq_false_iff_ne.2 hx
      gi_wp2
      exact ⟨Md.refl _ _ _, by simp [hi, Ne.symm hx], hbR⟩
  case done =>
    rintro U hMU hlt hK ⟨hi, hbR⟩
    have cR := hbR.cell
    have fR := hbR.frozen
    gi_wp2
    refine leave_cell (b := w.heap.size + 1 + 1) (v := .bool false) [V.heap.size] (w.heap.size + 3) rfl rfl ((by simp only [Boxed, hp_alloc, hp_drewN, hp_drew, if_true, World.size_alloc, World.size_setCell, World.size_drew, World.heap_drewN]; repeat (first | rw [if_true] | rw [if_pos (by omega)] | rw [if_neg (by omega)] | rw [hp_set_ne _ _ _ _ _ (by omega)] | rw [hp_set_eq (by assumption)]); try first | rfl | assumption | (apply hp_set_eq; (repeat (rw [hp_set_ne _ _ _ _ _ (by omega)])); assumption))) (by simp; omega) (fun W h => by simp [go_sem, h]) ?_ (by simp) ?_
    · intro D hD
      obtain rfl : D = V.heap.size := by simpa using hD
      exact ⟨by omega, by rw [hp_set_ne _ _ _ _ _ (by omega)]; exact hK⟩
    · intro W' hb _
      refine ⟨by rw [decide_eq_false hi], ?_⟩
      exact ((((hM.trans (hMU.mono (by omega) (by omega))).setCell (p := ⟨w.heap.size + 1 + 1, 0, none⟩) (.inr (by simp; omega)) _).trans (Md.of_below (hb.mono (by omega)))).below)
  case stop =>
    rintro U c hMU hlt hK ⟨rfl, hi, hbR⟩
    gi_wp2
    refine leave_cell (b := w.heap.size + 1 + 1) (v := .bool true) [V.heap.size] (w.heap.size + 3) rfl rfl hbR (by simp; omega) (fun W h => by simp [go_sem, h]) ?_ (by simp) ?_
    · intro D hD
      obtain rfl : D = V.heap.size := by simpa using hD
      exact ⟨by omega, hK⟩
    · intro W' hb _
      refine ⟨by rw [decide_eq_true hi], ?_⟩
      exact (((hM.trans (hMU.mono (by omega) (by omega))).trans (Md.of_below (hb.mono (by omega)))).below)
end Go.Proofs.Ytekpjmdkihnpeaa
