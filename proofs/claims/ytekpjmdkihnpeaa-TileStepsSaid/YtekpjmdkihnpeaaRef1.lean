/- The walks of the reference of chapter 1. -/
import Derived.Test.YtekpjmdkihnpeaaInts
namespace Go.Proofs.Ytekpjmdkihnpeaa
set_option linter.unusedSimpArgs false
set_option linter.unusedVariables false
open Go.RowKit Go.Shelf

set_option maxHeartbeats 400000 in
theorem rcells_any (W H : Int) (w : World) :
    Calls Try.prog 28 #[.agg #[.int .i64 W, .int .i64 H]] w fun e w' => e = .returned (.int .i64 (cnt W H)) ∧ Below w.heap.size w w' := by
  by_cases h : 1 ≤ W ∧ W ≤ 4096 ∧ 1 ≤ H ∧ H ≤ 4096
  · obtain ⟨h1, h2, h3, h4⟩ := h
    obtain ⟨m1, m2, _, _⟩ := mul_bounds h1 h2 h3 h4
    by_cases h5 : W * H ≤ 4194304
    · have E := Lib.hid (cnt_yes ⟨h1, h2, h3, h4, h5⟩)
      go_enter Try.func28, Try.ntmps28
      go_wp2
      go_ret
      exact ⟨ret_int E.out.symm, (by repeat (first | exact Below.refl _ _ | (refine Below.alloc ?_ (by ((try simp only [World.size_alloc, World.size_setCell, World.size_drew, World.heap_drewN]); omega)) _) | (refine Below.drewN' ?_ _) | (refine Below.drew ?_) | (refine Below.setCell ?_ (by ((try simp only [World.size_alloc, World.size_setCell, World.size_drew, World.heap_drewN]); omega)) _) | (refine Below.trans ?_ (Below.mono (by assumption) (by ((try simp only [World.size_alloc, World.size_setCell, World.size_drew, World.heap_drewN]); omega))))))⟩
    · have E := Lib.hid (cnt_no (W := W) (H := H) (fun h => h5 h.2.2.2.2))
      go_enter Try.func28, Try.ntmps28
      go_wp2
      go_ret
      exact ⟨ret_int E.out.symm, (by repeat (first | exact Below.refl _ _ | (refine Below.alloc ?_ (by ((try simp only [World.size_alloc, World.size_setCell, World.size_drew, World.heap_drewN]); omega)) _) | (refine Below.drewN' ?_ _) | (refine Below.drew ?_) | (refine Below.setCell ?_ (by ((try simp only [World.size_alloc, World.size_setCell, World.size_drew, World.heap_drewN]); omega)) _) | (refine Below.trans ?_ (Below.mono (by assumption) (by ((try simp only [World.size_alloc, World.size_setCell, World.size_drew, World.heap_drewN]); omega))))))⟩
  · have E := Lib.hid (cnt_no (W := W) (H := H) (fun h' => h ⟨h'.1, h'.2.1, h'.2.2.1, h'.2.2.2.1⟩))
    go_enter Try.func28, Try.ntmps28
    go_wp2
    all_goals
      first
      | (exfalso; omega)
      | (go_ret
         exact ⟨ret_int E.out.symm, (by repeat (first | exact Below.refl _ _ | (refine Below.alloc ?_ (by ((try simp only [World.size_alloc, World.size_setCell, World.size_drew, World.heap_drewN]); omega)) _) | (refine Below.drewN' ?_ _) | (refine Below.drew ?_) | (refine Below.setCell ?_ (by ((try simp only [World.size_alloc, World.size_setCell, World.size_drew, World.heap_drewN]); omega)) _) | (refine Below.trans ?_ (Below.mono (by assumption) (by ((try simp only [World.size_alloc, World.size_setCell, World.size_drew, World.heap_drewN]); omega))))))⟩)

theorem sub_div (c W : Int) : c - c / W * W = c % W := by rw [Int.mul_comm, Int.emod_def]
theorem ret3i {k : IntKind} {a a' b b' : Int} {t : Bool} (h : a = a') (h' : b = b') : Ending.returned (.tuple #[.int k a, .int k b, .bool t]) = .returned (.tuple #[.int k a', .int k b', .bool t]) := by rw [h, h']

set_option maxHeartbeats 400000 in
theorem rat_yes (W H c : Int) (w : World) (h : InC W H c) :
    Calls Try.prog 31 #[.agg #[.int .i64 W, .int .i64 H], .int .i64 c] w fun e w' => e = .returned (.tuple #[.int .i64 (c % W), .int .i64 (c / W), .bool true]) ∧ Below w.heap.size w w' := by
  obtain ⟨m1, m2, m3, m4, m5, m6, m7⟩ := h.bounds
  obtain ⟨p1, p2, p3, p4, p5⟩ := h.xy
  have hlt : c < cnt W H := h.2
  have hcb := (cnt_bd W H).2
  have b0 : 0 ≤ c / W * W := Int.mul_nonneg p3 (by omega)
  have b1 : c / W * W ≤ c := by omega
  clear p5
  go_enter Try.func31, Try.ntmps31
  go_wp2_with fail
  (refine (rcells_any W H _).mono ?_); rintro e w1 ⟨rfl, hb1⟩; have hz1 := hb1.size; (try simp only [World.size_alloc, World.size_setCell, World.size_drew, World.heap_drewN] at hz1); obtain ⟨hc1, hf1⟩ := bcell hb1; (try simp only [World.size_alloc, World.size_setCell, World.size_drew, World.heap_drewN] at hc1 hf1)
  go_wp2_with fail
  go_quiet (fail)
  go_wp2_with fail
  go_ret3
  exact ⟨ret3i (sub_div c W) rfl, (by repeat (first | exact Below.refl _ _ | (refine Below.alloc ?_ (by ((try simp only [World.size_alloc, World.size_setCell, World.size_drew, World.heap_drewN]); omega)) _) | (refine Below.drewN' ?_ _) | (refine Below.drew ?_) | (refine Below.setCell ?_ (by ((try simp only [World.size_alloc, World.size_setCell, World.size_drew, World.heap_drewN]); omega)) _) | (refine Below.trans ?_ (Below.mono (by assumption) (by ((try simp only [World.size_alloc, World.size_setCell, World.size_drew, World.heap_drewN]); omega))))))⟩

set_option maxHeartbeats 400000 in
theorem rat_no (W H c : Int) (w : World) (h : ¬ InC W H c) :
    Calls Try.prog 31 #[.agg #[.int .i64 W, .int .i64 H], .int .i64 c] w fun e w' => e = .returned (.tuple #[.int .i64 0, .int .i64 0, .bool false]) ∧ Below w.heap.size w w' := by
  by_cases h0 : 0 ≤ c
  · have hge : cnt W H ≤ c := by have h1 : ¬ c < cnt W H := fun h' => h ⟨h0, h'⟩; omega
    go_enter Try.func31, Try.ntmps31
    go_wp2_with fail
    (refine (rcells_any W H _).mono ?_); rintro e w1 ⟨rfl, hb1⟩; have hz1 := hb1.size; (try simp only [World.size_alloc, World.size_setCell, World.size_drew, World.heap_drewN] at hz1); obtain ⟨hc1, hf1⟩ := bcell hb1; (try simp only [World.size_alloc, World.size_setCell, World.size_drew, World.heap_drewN] at hc1 hf1)
    go_wp2_with fail
    go_ret3
    exact ⟨rfl, (by repeat (first | exact Below.refl _ _ | (refine Below.alloc ?_ (by ((try simp only [World.size_alloc, World.size_setCell, World.size_drew, World.heap_drewN]); omega)) _) | (refine Below.drewN' ?_ _) | (refine Below.drew ?_) | (refine Below.setCell ?_ (by ((try simp only [World.size_alloc, World.size_setCell, World.size_drew, World.heap_drewN]); omega)) _) | (refine Below.trans ?_ (Below.mono (by assumption) (by ((try simp only [World.size_alloc, World.size_setCell, World.size_drew, World.heap_drewN]); omega))))))⟩
  · go_enter Try.func31, Try.ntmps31
    go_wp2_with fail
    go_ret3
    exact ⟨rfl, (by repeat (first | exact Below.refl _ _ | (refine Below.alloc ?_ (by ((try simp only [World.size_alloc, World.size_setCell, World.size_drew, World.heap_drewN]); omega)) _) | (refine Below.drewN' ?_ _) | (refine Below.drew ?_) | (refine Below.setCell ?_ (by ((try simp only [World.size_alloc, World.size_setCell, World.size_drew, World.heap_drewN]); omega)) _) | (refine Below.trans ?_ (Below.mono (by assumption) (by ((try simp only [World.size_alloc, World.size_setCell, World.size_drew, World.heap_drewN]); omega))))))⟩

theorem rat_any (W H c : Int) (w : World) :
    Calls Try.prog 31 #[.agg #[.int .i64 W, .int .i64 H], .int .i64 c] w fun e w' => e = .returned (.tuple #[.int .i64 (atX W H c), .int .i64 (atY W H c), .bool (atB W H c)]) ∧ Below w.heap.size w w' := by
  unfold atX atY atB
  by_cases h : InC W H c
  · simp only [if_pos h, decide_eq_true h]; exact rat_yes W H c w h
  · simp only [if_neg h, decide_eq_false h]; exact rat_no W H c w h

set_option maxHeartbeats 800000 in
theorem raway_any (W H a b : Int) (w : World) :
    Calls Try.prog 30 #[.agg #[.int .i64 W, .int .i64 H], .int .i64 a, .int .i64 b] w fun e w' => e = .returned (.int .i64 (away W H a b)) ∧ Below w.heap.size w w' := by
  by_cases ha : InC W H a
  · by_cases hb : InC W H b
    · obtain ⟨m1, m2, m3, m4, m5, m6, m7⟩ := ha.bounds
      obtain ⟨p1, p2, p3, p4, p5⟩ := ha.xy
      obtain ⟨q1, q2, q3, q4, q5⟩ := hb.xy
      have E := Lib.hid (away_of ha hb)
      clear p5 q5
      generalize hx : a % W = x at *
      generalize hy : a / W = y at *
      generalize hu : b % W = u at *
      generalize hv : b / W = v at *
      have Hx := Lib.hid hx
      have Hy := Lib.hid hy
      have Hu := Lib.hid hu
      have Hv := Lib.hid hv
      clear hx hy hu hv
      go_enter Try.func30, Try.ntmps30
      go_wp2_with fail
      (refine (rat_yes W H a _ ha).mono ?_); rintro e w1 ⟨rfl, hb1⟩; have hz1 := hb1.size; (try simp only [World.size_alloc, World.size_setCell, World.size_drew, World.heap_drewN] at hz1); obtain ⟨hc1, hf1⟩ := bcell hb1; (try simp only [World.size_alloc, World.size_setCell, World.size_drew, World.heap_drewN] at hc1 hf1)
      go_wp2_with fail
      (refine (rat_yes W H b _ hb).mono ?_); rintro e w2 ⟨rfl, hb2⟩; have hz2 := hb2.size; (try simp only [World.size_alloc, World.size_setCell, World.size_drew, World.heap_drewN] at hz2); obtain ⟨hc2, hf2⟩ := bcell hb2; (try simp only [World.size_alloc, World.size_setCell, World.size_drew, World.heap_drewN] at hc2 hf2)
      rw [Hx.out, Hy.out, Hu.out, Hv.out]
      go_wp2_with fail
      all_goals
        go_ret
        exact ⟨ret_int (by rw [E.out]; omega), (by repeat (first | exact Below.refl _ _ | (refine Below.alloc ?_ (by ((try simp only [World.size_alloc, World.size_setCell, World.size_drew, World.heap_drewN]); omega)) _) | (refine Below.drewN' ?_ _) | (refine Below.drew ?_) | (refine Below.setCell ?_ (by ((try simp only [World.size_alloc, World.size_setCell, World.size_drew, World.heap_drewN]); omega)) _) | (refine Below.trans ?_ (Below.mono (by assumption) (by ((try simp only [World.size_alloc, World.size_setCell, World.size_drew, World.heap_drewN]); omega))))))⟩
    · have E := Lib.hid (away_no (W := W) (H := H) (a := a) (b := b) (fun h => hb h.2))
      go_enter Try.func30, Try.ntmps30
      go_wp2_with fail
      (refine (rat_yes W H a _ ha).mono ?_); rintro e w1 ⟨rfl, hb1⟩; have hz1 := hb1.size; (try simp only [World.size_alloc, World.size_setCell, World.size_drew, World.heap_drewN] at hz1); obtain ⟨hc1, hf1⟩ := bcell hb1; (try simp only [World.size_alloc, World.size_setCell, World.size_drew, World.heap_drewN] at hc1 hf1)
      go_wp2_with fail
      (refine (rat_no W H b _ hb).mono ?_); rintro e w2 ⟨rfl, hb2⟩; have hz2 := hb2.size; (try simp only [World.size_alloc, World.size_setCell, World.size_drew, World.heap_drewN] at hz2); obtain ⟨hc2, hf2⟩ := bcell hb2; (try simp only [World.size_alloc, World.size_setCell, World.size_drew, World.heap_drewN] at hc2 hf2)
      go_wp2_with fail
      go_ret
      exact ⟨ret_int E.out.symm, (by repeat (first | exact Below.refl _ _ | (refine Below.alloc ?_ (by ((try simp only [World.size_alloc, World.size_setCell, World.size_drew, World.heap_drewN]); omega)) _) | (refine Below.drewN' ?_ _) | (refine Below.drew ?_) | (refine Below.setCell ?_ (by ((try simp only [World.size_alloc, World.size_setCell, World.size_drew, World.heap_drewN]); omega)) _) | (refine Below.trans ?_ (Below.mono (by assumption) (by ((try simp only [World.size_alloc, World.size_setCell, World.size_drew, World.heap_drewN]); omega))))))⟩
  · have E := Lib.hid (away_no (W := W) (H := H) (a := a) (b := b) (fun h => ha h.1))
    by_cases hb : InC W H b
    · go_enter Try.func30, Try.ntmps30
      go_wp2_with fail
      (refine (rat_no W H a _ ha).mono ?_); rintro e w1 ⟨rfl, hb1⟩; have hz1 := hb1.size; (try simp only [World.size_alloc, World.size_setCell, World.size_drew, World.heap_drewN] at hz1); obtain ⟨hc1, hf1⟩ := bcell hb1; (try simp only [World.size_alloc, World.size_setCell, World.size_drew, World.heap_drewN] at hc1 hf1)
      go_wp2_with fail
      (refine (rat_yes W H b _ hb).mono ?_); rintro e w2 ⟨rfl, hb2⟩; have hz2 := hb2.size; (try simp only [World.size_alloc, World.size_setCell, World.size_drew, World.heap_drewN] at hz2); obtain ⟨hc2, hf2⟩ := bcell hb2; (try simp only [World.size_alloc, World.size_setCell, World.size_drew, World.heap_drewN] at hc2 hf2)
      go_wp2_with fail
      go_ret
      exact ⟨ret_int E.out.symm, (by repeat (first | exact Below.refl _ _ | (refine Below.alloc ?_ (by ((try simp only [World.size_alloc, World.size_setCell, World.size_drew, World.heap_drewN]); omega)) _) | (refine Below.drewN' ?_ _) | (refine Below.drew ?_) | (refine Below.setCell ?_ (by ((try simp only [World.size_alloc, World.size_setCell, World.size_drew, World.heap_drewN]); omega)) _) | (refine Below.trans ?_ (Below.mono (by assumption) (by ((try simp only [World.size_alloc, World.size_setCell, World.size_drew, World.heap_drewN]); omega))))))⟩
    · go_enter Try.func30, Try.ntmps30
      go_wp2_with fail
      (refine (rat_no W H a _ ha).mono ?_); rintro e w1 ⟨rfl, hb1⟩; have hz1 := hb1.size; (try simp only [World.size_alloc, World.size_setCell, World.size_drew, World.heap_drewN] at hz1); obtain ⟨hc1, hf1⟩ := bcell hb1; (try simp only [World.size_alloc, World.size_setCell, World.size_drew, World.heap_drewN] at hc1 hf1)
      go_wp2_with fail
      (refine (rat_no W H b _ hb).mono ?_); rintro e w2 ⟨rfl, hb2⟩; have hz2 := hb2.size; (try simp only [World.size_alloc, World.size_setCell, World.size_drew, World.heap_drewN] at hz2); obtain ⟨hc2, hf2⟩ := bcell hb2; (try simp only [World.size_alloc, World.size_setCell, World.size_drew, World.heap_drewN] at hc2 hf2)
      go_wp2_with fail
      go_ret
      exact ⟨ret_int E.out.symm, (by repeat (first | exact Below.refl _ _ | (refine Below.alloc ?_ (by ((try simp only [World.size_alloc, World.size_setCell, World.size_drew, World.heap_drewN]); omega)) _) | (refine Below.drewN' ?_ _) | (refine Below.drew ?_) | (refine Below.setCell ?_ (by ((try simp only [World.size_alloc, World.size_setCell, World.size_drew, World.heap_drewN]); omega)) _) | (refine Below.trans ?_ (Below.mono (by assumption) (by ((try simp only [World.size_alloc, World.size_setCell, World.size_drew, World.heap_drewN]); omega))))))⟩

set_option maxHeartbeats 1000000 in
theorem rnear_any (W H c : Int) (w : World) :
    Calls Try.prog 32 #[.agg #[.int .i64 W, .int .i64 H], .int .i64 c] w fun e w' => ∃ v, e = .returned v ∧ Ints w' (w.heap.size + 1) v (nearL W H c) ∧ Below w.heap.size w w' := by
  by_cases h : InC W H c
  · obtain ⟨m1, m2, m3, m4, m5, m6, m7⟩ := h.bounds
    obtain ⟨p1, p2, p3, p4, p5⟩ := h.xy
    have E := Lib.hid (show nearL W H c = _ from if_pos h)
    clear p5
    generalize hx : c % W = x at *
    generalize hy : c / W = y at *
    have Hx := Lib.hid hx
    have Hy := Lib.hid hy
    clear hx hy
    go_enter Try.func32, Try.ntmps32
    go_wp2_with fail
    (refine (rat_yes W H c _ h).mono ?_); rintro e w1 ⟨rfl, hb1⟩; have hz1 := hb1.size; (try simp only [World.size_alloc, World.size_setCell, World.size_drew, World.heap_drewN] at hz1); obtain ⟨hc1, hf1⟩ := bcell hb1; (try simp only [World.size_alloc, World.size_setCell, World.size_drew, World.heap_drewN] at hc1 hf1)
    rw [Hx.out, Hy.out]
    have hi0 := Ints.nil w1 (w.heap.size + 1)
    have hl0 : (([] : List Int)).length ≤ 0 := Nat.le_refl _
    by_cases c1 : 0 < y
    all_goals by_cases c2 : 0 < x
    all_goals by_cases c3 : x < W - 1
    all_goals by_cases c4 : y < H - 1
    all_goals
      go_wp2_with (at_builtin; refine wpl_append_int rfl _ _ rfl (w.heap.size + 1) rfl rfl (by assumption) (by simp) (by omega) ?_; intro v' w' hi' hz' hc' hf' hb')
    all_goals
      go_ret
      refine ⟨_, rfl, ?_, (by repeat (first | exact Below.refl _ _ | (refine Below.alloc ?_ (by ((try simp only [World.size_alloc, World.size_setCell, World.size_drew, World.heap_drewN]); omega)) _) | (refine Below.drewN' ?_ _) | (refine Below.drew ?_) | (refine Below.setCell ?_ (by ((try simp only [World.size_alloc, World.size_setCell, World.size_drew, World.heap_drewN]); omega)) _) | (refine Below.trans ?_ (Below.mono (by assumption) (by ((try simp only [World.size_alloc, World.size_setCell, World.size_drew, World.heap_drewN]); omega))))))⟩
      rw [E.out]
      repeat (first | rw [if_pos (by omega)] | rw [if_neg (by omega)])
      first | (simpa using hi') | (simpa using hi0)
  · have E := Lib.hid (show nearL W H c = [] from if_neg h)
    go_enter Try.func32, Try.ntmps32
    go_wp2_with fail
    (refine (rat_no W H c _ h).mono ?_); rintro e w1 ⟨rfl, hb1⟩; have hz1 := hb1.size; (try simp only [World.size_alloc, World.size_setCell, World.size_drew, World.heap_drewN] at hz1); obtain ⟨hc1, hf1⟩ := bcell hb1; (try simp only [World.size_alloc, World.size_setCell, World.size_drew, World.heap_drewN] at hc1 hf1)
    go_wp2_with fail
    go_ret
    exact ⟨_, rfl, by rw [E.out]; exact Ints.nil _ _, (by repeat (first | exact Below.refl _ _ | (refine Below.alloc ?_ (by ((try simp only [World.size_alloc, World.size_setCell, World.size_drew, World.heap_drewN]); omega)) _) | (refine Below.drewN' ?_ _) | (refine Below.drew ?_) | (refine Below.setCell ?_ (by ((try simp only [World.size_alloc, World.size_setCell, World.size_drew, World.heap_drewN]); omega)) _) | (refine Below.trans ?_ (Below.mono (by assumption) (by ((try simp only [World.size_alloc, World.size_setCell, World.size_drew, World.heap_drewN]); omega))))))⟩
end Go.Proofs.Ytekpjmdkihnpeaa
