/- The walks of package place: Right, Cells, Index, At, Away; and of the reference. -/
import Derived.Test.YtekpjmdkihnpeaaProg
import Derived.Test.YtekpjmdkihnpeaaBase
import Derived.Test.YtekpjmdkihnpeaaPure
import Derived.WalkSpells
import Derived.WalkLawsBesides
import Derived.Deep.QuietTactic
import Derived.BigQuiet
import Derived.Lib.Hide
namespace Go.Proofs.Ytekpjmdkihnpeaa
set_option linter.unusedSimpArgs false
set_option linter.unusedVariables false
open Go.RowKit Go.Shelf

theorem ret_int {k : IntKind} {a b : Int} (h : a = b) : Ending.returned (.int k a) = .returned (.int k b) := by rw [h]
theorem ret_bool {a b : Bool} (h : a = b) : Ending.returned (.bool a) = .returned (.bool b) := by rw [h]
theorem rtB_of {W H : Int} (h : Rt W H) : rtB W H = true := decide_eq_true h
theorem rtB_no {W H : Int} (h : ¬ Rt W H) : rtB W H = false := decide_eq_false h

set_option maxHeartbeats 400000 in
theorem right_any (W H : Int) (w : World) :
    Calls Try.prog 27 #[.agg #[.int .i64 W, .int .i64 H]] w fun e w' => e = .returned (.bool (rtB W H)) ∧ Below w.heap.size w w' := by
  by_cases h : 1 ≤ W ∧ W ≤ 4096 ∧ 1 ≤ H ∧ H ≤ 4096
  · obtain ⟨h1, h2, h3, h4⟩ := h
    have hm := mul_bounds h1 h2 h3 h4
    obtain ⟨m1, m2, _, _⟩ := hm
    go_enter Try.func27, Try.ntmps27
    have hd0 : decide (W * H ≤ 4194304) = rtB W H := by
      by_cases h5 : W * H ≤ 4194304
      · rw [decide_eq_true h5, rtB_of ⟨h1, h2, h3, h4, h5⟩]
      · rw [decide_eq_false h5, rtB_no (fun h => h5 h.2.2.2.2)]
    have hd := Lib.hid hd0
    clear hd0
    go_wp2
    go_ret
    exact ⟨ret_bool hd.out, (Below.refl _ _).alloc (Nat.le_refl _) _⟩
  · have hno : ¬ Rt W H := fun h' => h ⟨h'.1, h'.2.1, h'.2.2.1, h'.2.2.2.1⟩
    go_enter Try.func27, Try.ntmps27
    go_wp2
    all_goals
      first
      | (exfalso; omega)
      | (go_ret
         exact ⟨ret_bool (rtB_no hno).symm, (Below.refl _ _).alloc (Nat.le_refl _) _⟩)

theorem right_yes (W H : Int) (w : World) (h : Rt W H) :
    Calls Try.prog 27 #[.agg #[.int .i64 W, .int .i64 H]] w fun e w' => e = .returned (.bool true) ∧ Below w.heap.size w w' := by
  have := right_any W H w; rwa [rtB_of h] at this
theorem right_no (W H : Int) (w : World) (h : ¬ Rt W H) :
    Calls Try.prog 27 #[.agg #[.int .i64 W, .int .i64 H]] w fun e w' => e = .returned (.bool false) ∧ Below w.heap.size w w' := by
  have := right_any W H w; rwa [rtB_no h] at this

set_option maxHeartbeats 400000 in
theorem cells_any (W H : Int) (w : World) :
    Calls Try.prog 29 #[.agg #[.int .i64 W, .int .i64 H]] w fun e w' => e = .returned (.int .i64 (cnt W H)) ∧ Below w.heap.size w w' := by
  by_cases h : Rt W H
  · obtain ⟨m1, m2, m3, m4, m5, m6, m7, m8⟩ := h.bounds
    go_enter Try.func29, Try.ntmps29
    go_wp2_with fail
    (refine (right_yes W H _ h).mono ?_); rintro e w1 ⟨rfl, hb1⟩; have hz1 := hb1.size; (try simp only [World.size_alloc, World.size_setCell, World.size_drew, World.heap_drewN] at hz1); obtain ⟨hc1, hf1⟩ := bcell hb1; (try simp only [World.size_alloc, World.size_setCell, World.size_drew, World.heap_drewN] at hc1 hf1)
    go_wp2
    go_ret
    exact ⟨ret_int (cnt_yes h).symm, (by repeat (first | exact Below.refl _ _ | (refine Below.alloc ?_ (by ((try simp only [World.size_alloc, World.size_setCell, World.size_drew, World.heap_drewN]); omega)) _) | (refine Below.drewN' ?_ _) | (refine Below.drew ?_) | (refine Below.setCell ?_ (by ((try simp only [World.size_alloc, World.size_setCell, World.size_drew, World.heap_drewN]); omega)) _) | (refine Below.trans ?_ (Below.mono (by assumption) (by ((try simp only [World.size_alloc, World.size_setCell, World.size_drew, World.heap_drewN]); omega))))))⟩
  · go_enter Try.func29, Try.ntmps29
    go_wp2_with fail
    (refine (right_no W H _ h).mono ?_); rintro e w1 ⟨rfl, hb1⟩; have hz1 := hb1.size; (try simp only [World.size_alloc, World.size_setCell, World.size_drew, World.heap_drewN] at hz1); obtain ⟨hc1, hf1⟩ := bcell hb1; (try simp only [World.size_alloc, World.size_setCell, World.size_drew, World.heap_drewN] at hc1 hf1)
    go_wp2
    go_ret
    exact ⟨ret_int (cnt_no h).symm, (by repeat (first | exact Below.refl _ _ | (refine Below.alloc ?_ (by ((try simp only [World.size_alloc, World.size_setCell, World.size_drew, World.heap_drewN]); omega)) _) | (refine Below.drewN' ?_ _) | (refine Below.drew ?_) | (refine Below.setCell ?_ (by ((try simp only [World.size_alloc, World.size_setCell, World.size_drew, World.heap_drewN]); omega)) _) | (refine Below.trans ?_ (Below.mono (by assumption) (by ((try simp only [World.size_alloc, World.size_setCell, World.size_drew, World.heap_drewN]); omega))))))⟩

set_option maxHeartbeats 400000 in
theorem index_yes (W H x y : Int) (w : World) (h : InXY W H x y) :
    Calls Try.prog 21 #[.agg #[.int .i64 W, .int .i64 H], .int .i64 x, .int .i64 y] w fun e w' => e = .returned (.tuple #[.int .i64 (y * W + x), .bool true]) ∧ Below w.heap.size w w' := by
  obtain ⟨hr, h1, h2, h3, h4⟩ := h
  obtain ⟨m1, m2, m3, m4, m5, m6, m7, m8⟩ := hr.bounds
  have hb := xy_bounds h3 h4 h1 h2
  obtain ⟨b1, b2, b3⟩ := hb
  go_enter Try.func21, Try.ntmps21
  go_wp2_with fail
  (refine (right_yes W H _ hr).mono ?_); rintro e w1 ⟨rfl, hb1⟩; have hz1 := hb1.size; (try simp only [World.size_alloc, World.size_setCell, World.size_drew, World.heap_drewN] at hz1); obtain ⟨hc1, hf1⟩ := bcell hb1; (try simp only [World.size_alloc, World.size_setCell, World.size_drew, World.heap_drewN] at hc1 hf1)
  go_wp2
  go_ret2
  exact ⟨rfl, (by repeat (first | exact Below.refl _ _ | (refine Below.alloc ?_ (by ((try simp only [World.size_alloc, World.size_setCell, World.size_drew, World.heap_drewN]); omega)) _) | (refine Below.drewN' ?_ _) | (refine Below.drew ?_) | (refine Below.setCell ?_ (by ((try simp only [World.size_alloc, World.size_setCell, World.size_drew, World.heap_drewN]); omega)) _) | (refine Below.trans ?_ (Below.mono (by assumption) (by ((try simp only [World.size_alloc, World.size_setCell, World.size_drew, World.heap_drewN]); omega))))))⟩

set_option maxHeartbeats 400000 in
theorem index_no (W H x y : Int) (w : World) (h : ¬ InXY W H x y) :
    Calls Try.prog 21 #[.agg #[.int .i64 W, .int .i64 H], .int .i64 x, .int .i64 y] w fun e w' => e = .returned (.tuple #[.int .i64 0, .bool false]) ∧ Below w.heap.size w w' := by
  by_cases hr : Rt W H
  · obtain ⟨m1, m2, m3, m4, m5, m6, m7, m8⟩ := hr.bounds
    have hn : ¬ (0 ≤ x ∧ x < W ∧ 0 ≤ y ∧ y < H) := fun h' => h ⟨hr, h'⟩
    go_enter Try.func21, Try.ntmps21
    go_wp2_with fail
    (refine (right_yes W H _ hr).mono ?_); rintro e w1 ⟨rfl, hb1⟩; have hz1 := hb1.size; (try simp only [World.size_alloc, World.size_setCell, World.size_drew, World.heap_drewN] at hz1); obtain ⟨hc1, hf1⟩ := bcell hb1; (try simp only [World.size_alloc, World.size_setCell, World.size_drew, World.heap_drewN] at hc1 hf1)
    go_wp2
    all_goals
      first
      | (exfalso; omega)
      | (go_ret2
         exact ⟨rfl, (by repeat (first | exact Below.refl _ _ | (refine Below.alloc ?_ (by ((try simp only [World.size_alloc, World.size_setCell, World.size_drew, World.heap_drewN]); omega)) _) | (refine Below.drewN' ?_ _) | (refine Below.drew ?_) | (refine Below.setCell ?_ (by ((try simp only [World.size_alloc, World.size_setCell, World.size_drew, World.heap_drewN]); omega)) _) | (refine Below.trans ?_ (Below.mono (by assumption) (by ((try simp only [World.size_alloc, World.size_setCell, World.size_drew, World.heap_drewN]); omega))))))⟩)
  · go_enter Try.func21, Try.ntmps21
    go_wp2_with fail
    (refine (right_no W H _ hr).mono ?_); rintro e w1 ⟨rfl, hb1⟩; have hz1 := hb1.size; (try simp only [World.size_alloc, World.size_setCell, World.size_drew, World.heap_drewN] at hz1); obtain ⟨hc1, hf1⟩ := bcell hb1; (try simp only [World.size_alloc, World.size_setCell, World.size_drew, World.heap_drewN] at hc1 hf1)
    go_wp2
    go_ret2
    exact ⟨rfl, (by repeat (first | exact Below.refl _ _ | (refine Below.alloc ?_ (by ((try simp only [World.size_alloc, World.size_setCell, World.size_drew, World.heap_drewN]); omega)) _) | (refine Below.drewN' ?_ _) | (refine Below.drew ?_) | (refine Below.setCell ?_ (by ((try simp only [World.size_alloc, World.size_setCell, World.size_drew, World.heap_drewN]); omega)) _) | (refine Below.trans ?_ (Below.mono (by assumption) (by ((try simp only [World.size_alloc, World.size_setCell, World.size_drew, World.heap_drewN]); omega))))))⟩

set_option maxHeartbeats 400000 in
theorem at_yes (W H c : Int) (w : World) (h : InC W H c) :
    Calls Try.prog 22 #[.agg #[.int .i64 W, .int .i64 H], .int .i64 c] w fun e w' => e = .returned (.tuple #[.int .i64 (c % W), .int .i64 (c / W), .bool true]) ∧ Below w.heap.size w w' := by
  obtain ⟨m1, m2, m3, m4, m5, m6, m7⟩ := h.bounds
  have hlt : c < cnt W H := h.2
  have hcb := (cnt_bd W H).2
  go_enter Try.func22, Try.ntmps22
  go_wp2_with fail
  (refine (cells_any W H _).mono ?_); rintro e w1 ⟨rfl, hb1⟩; have hz1 := hb1.size; (try simp only [World.size_alloc, World.size_setCell, World.size_drew, World.heap_drewN] at hz1); obtain ⟨hc1, hf1⟩ := bcell hb1; (try simp only [World.size_alloc, World.size_setCell, World.size_drew, World.heap_drewN] at hc1 hf1)
  go_wp2_with fail
  go_quiet (fail)
  go_wp2_with fail
  go_ret3
  exact ⟨rfl, (by repeat (first | exact Below.refl _ _ | (refine Below.alloc ?_ (by ((try simp only [World.size_alloc, World.size_setCell, World.size_drew, World.heap_drewN]); omega)) _) | (refine Below.drewN' ?_ _) | (refine Below.drew ?_) | (refine Below.setCell ?_ (by ((try simp only [World.size_alloc, World.size_setCell, World.size_drew, World.heap_drewN]); omega)) _) | (refine Below.trans ?_ (Below.mono (by assumption) (by ((try simp only [World.size_alloc, World.size_setCell, World.size_drew, World.heap_drewN]); omega))))))⟩

set_option maxHeartbeats 400000 in
theorem at_no (W H c : Int) (w : World) (h : ¬ InC W H c) :
    Calls Try.prog 22 #[.agg #[.int .i64 W, .int .i64 H], .int .i64 c] w fun e w' => e = .returned (.tuple #[.int .i64 0, .int .i64 0, .bool false]) ∧ Below w.heap.size w w' := by
  by_cases h0 : 0 ≤ c
  · have hge : cnt W H ≤ c := by have h1 : ¬ c < cnt W H := fun h' => h ⟨h0, h'⟩; omega
    go_enter Try.func22, Try.ntmps22
    go_wp2_with fail
    (refine (cells_any W H _).mono ?_); rintro e w1 ⟨rfl, hb1⟩; have hz1 := hb1.size; (try simp only [World.size_alloc, World.size_setCell, World.size_drew, World.heap_drewN] at hz1); obtain ⟨hc1, hf1⟩ := bcell hb1; (try simp only [World.size_alloc, World.size_setCell, World.size_drew, World.heap_drewN] at hc1 hf1)
    go_wp2_with fail
    go_ret3
    exact ⟨rfl, (by repeat (first | exact Below.refl _ _ | (refine Below.alloc ?_ (by ((try simp only [World.size_alloc, World.size_setCell, World.size_drew, World.heap_drewN]); omega)) _) | (refine Below.drewN' ?_ _) | (refine Below.drew ?_) | (refine Below.setCell ?_ (by ((try simp only [World.size_alloc, World.size_setCell, World.size_drew, World.heap_drewN]); omega)) _) | (refine Below.trans ?_ (Below.mono (by assumption) (by ((try simp only [World.size_alloc, World.size_setCell, World.size_drew, World.heap_drewN]); omega))))))⟩
  · go_enter Try.func22, Try.ntmps22
    go_wp2_with fail
    go_ret3
    exact ⟨rfl, (by repeat (first | exact Below.refl _ _ | (refine Below.alloc ?_ (by ((try simp only [World.size_alloc, World.size_setCell, World.size_drew, World.heap_drewN]); omega)) _) | (refine Below.drewN' ?_ _) | (refine Below.drew ?_) | (refine Below.setCell ?_ (by ((try simp only [World.size_alloc, World.size_setCell, World.size_drew, World.heap_drewN]); omega)) _) | (refine Below.trans ?_ (Below.mono (by assumption) (by ((try simp only [World.size_alloc, World.size_setCell, World.size_drew, World.heap_drewN]); omega))))))⟩

theorem at_any (W H c : Int) (w : World) :
    Calls Try.prog 22 #[.agg #[.int .i64 W, .int .i64 H], .int .i64 c] w fun e w' => e = .returned (.tuple #[.int .i64 (atX W H c), .int .i64 (atY W H c), .bool (atB W H c)]) ∧ Below w.heap.size w w' := by
  unfold atX atY atB
  by_cases h : InC W H c
  · simp only [if_pos h, decide_eq_true h]; exact at_yes W H c w h
  · simp only [if_neg h, decide_eq_false h]; exact at_no W H c w h
theorem index_any (W H x y : Int) (w : World) :
    Calls Try.prog 21 #[.agg #[.int .i64 W, .int .i64 H], .int .i64 x, .int .i64 y] w fun e w' => e = .returned (.tuple #[.int .i64 (ixV W H x y), .bool (ixB W H x y)]) ∧ Below w.heap.size w w' := by
  unfold ixV ixB
  by_cases h : InXY W H x y
  · simp only [if_pos h, decide_eq_true h]; exact index_yes W H x y w h
  · simp only [if_neg h, decide_eq_false h]; exact index_no W H x y w h

theorem away_of {W H a b : Int} (ha : InC W H a) (hb : InC W H b) : away W H a b = max (a % W - b % W) (b % W - a % W) + max (a / W - b / W) (b / W - a / W) := if_pos ⟨ha, hb⟩
theorem away_no {W H a b : Int} (h : ¬ (InC W H a ∧ InC W H b)) : away W H a b = -1 := if_neg h

set_option maxHeartbeats 800000 in
theorem away_any (W H a b : Int) (w : World) :
    Calls Try.prog 26 #[.agg #[.int .i64 W, .int .i64 H], .int .i64 a, .int .i64 b] w fun e w' => e = .returned (.int .i64 (away W H a b)) ∧ Below w.heap.size w w' := by
  by_cases ha : InC W H a
  · by_cases hb : InC W H b
    · obtain ⟨m1, m2, m3, m4, m5, m6, m7⟩ := ha.bounds
      obtain ⟨p1, p2, p3, p4, p5⟩ := ha.xy
      obtain ⟨q1, q2, q3, q4, q5⟩ := hb.xy
      have E := Lib.hid (away_of ha hb)
      clear p5 q5
      generalize hx : a % W = x at *
      generalize hy : a / W = y at *
      generalize hu : b % W = u at *
      generalize hv : b / W = v at *
      have Hx := Lib.hid hx
      have Hy := Lib.hid hy
      have Hu := Lib.hid hu
      have Hv := Lib.hid hv
      clear hx hy hu hv
      go_enter Try.func26, Try.ntmps26
      go_wp2_with fail
      (refine (at_yes W H a _ ha).mono ?_); rintro e w1 ⟨rfl, hb1⟩; have hz1 := hb1.size; (try simp only [World.size_alloc, World.size_setCell, World.size_drew, World.heap_drewN] at hz1); obtain ⟨hc1, hf1⟩ := bcell hb1; (try simp only [World.size_alloc, World.size_setCell, World.size_drew, World.heap_drewN] at hc1 hf1)
      go_wp2_with fail
      (refine (at_yes W H b _ hb).mono ?_); rintro e w2 ⟨rfl, hb2⟩; have hz2 := hb2.size; (try simp only [World.size_alloc, World.size_setCell, World.size_drew, World.heap_drewN] at hz2); obtain ⟨hc2, hf2⟩ := bcell hb2; (try simp only [World.size_alloc, World.size_setCell, World.size_drew, World.heap_drewN] at hc2 hf2)
      rw [Hx.out, Hy.out, Hu.out, Hv.out]
      go_wp2_with fail
      all_goals
        go_ret
        exact ⟨ret_int (by rw [E.out]; omega), (by repeat (first | exact Below.refl _ _ | (refine Below.alloc ?_ (by ((try simp only [World.size_alloc, World.size_setCell, World.size_drew, World.heap_drewN]); omega)) _) | (refine Below.drewN' ?_ _) | (refine Below.drew ?_) | (refine Below.setCell ?_ (by ((try simp only [World.size_alloc, World.size_setCell, World.size_drew, World.heap_drewN]); omega)) _) | (refine Below.trans ?_ (Below.mono (by assumption) (by ((try simp only [World.size_alloc, World.size_setCell, World.size_drew, World.heap_drewN]); omega))))))⟩
    · have E := Lib.hid (away_no (W := W) (H := H) (a := a) (b := b) (fun h => hb h.2))
      go_enter Try.func26, Try.ntmps26
      go_wp2_with fail
      (refine (at_yes W H a _ ha).mono ?_); rintro e w1 ⟨rfl, hb1⟩; have hz1 := hb1.size; (try simp only [World.size_alloc, World.size_setCell, World.size_drew, World.heap_drewN] at hz1); obtain ⟨hc1, hf1⟩ := bcell hb1; (try simp only [World.size_alloc, World.size_setCell, World.size_drew, World.heap_drewN] at hc1 hf1)
      go_wp2_with fail
      (refine (at_no W H b _ hb).mono ?_); rintro e w2 ⟨rfl, hb2⟩; have hz2 := hb2.size; (try simp only [World.size_alloc, World.size_setCell, World.size_drew, World.heap_drewN] at hz2); obtain ⟨hc2, hf2⟩ := bcell hb2; (try simp only [World.size_alloc, World.size_setCell, World.size_drew, World.heap_drewN] at hc2 hf2)
      go_wp2_with fail
      go_ret
      exact ⟨ret_int E.out.symm, (by repeat (first | exact Below.refl _ _ | (refine Below.alloc ?_ (by ((try simp only [World.size_alloc, World.size_setCell, World.size_drew, World.heap_drewN]); omega)) _) | (refine Below.drewN' ?_ _) | (refine Below.drew ?_) | (refine Below.setCell ?_ (by ((try simp only [World.size_alloc, World.size_setCell, World.size_drew, World.heap_drewN]); omega)) _) | (refine Below.trans ?_ (Below.mono (by assumption) (by ((try simp only [World.size_alloc, World.size_setCell, World.size_drew, World.heap_drewN]); omega))))))⟩
  · have E := Lib.hid (away_no (W := W) (H := H) (a := a) (b := b) (fun h => ha h.1))
    by_cases hb : InC W H b
    · go_enter Try.func26, Try.ntmps26
      go_wp2_with fail
      (refine (at_no W H a _ ha).mono ?_); rintro e w1 ⟨rfl, hb1⟩; have hz1 := hb1.size; (try simp only [World.size_alloc, World.size_setCell, World.size_drew, World.heap_drewN] at hz1); obtain ⟨hc1, hf1⟩ := bcell hb1; (try simp only [World.size_alloc, World.size_setCell, World.size_drew, World.heap_drewN] at hc1 hf1)
      go_wp2_with fail
      (refine (at_yes W H b _ hb).mono ?_); rintro e w2 ⟨rfl, hb2⟩; have hz2 := hb2.size; (try simp only [World.size_alloc, World.size_setCell, World.size_drew, World.heap_drewN] at hz2); obtain ⟨hc2, hf2⟩ := bcell hb2; (try simp only [World.size_alloc, World.size_setCell, World.size_drew, World.heap_drewN] at hc2 hf2)
      go_wp2_with fail
      go_ret
      exact ⟨ret_int E.out.symm, (by repeat (first | exact Below.refl _ _ | (refine Below.alloc ?_ (by ((try simp only [World.size_alloc, World.size_setCell, World.size_drew, World.heap_drewN]); omega)) _) | (refine Below.drewN' ?_ _) | (refine Below.drew ?_) | (refine Below.setCell ?_ (by ((try simp only [World.size_alloc, World.size_setCell, World.size_drew, World.heap_drewN]); omega)) _) | (refine Below.trans ?_ (Below.mono (by assumption) (by ((try simp only [World.size_alloc, World.size_setCell, World.size_drew, World.heap_drewN]); omega))))))⟩
    · go_enter Try.func26, Try.ntmps26
      go_wp2_with fail
      (refine (at_no W H a _ ha).mono ?_); rintro e w1 ⟨rfl, hb1⟩; have hz1 := hb1.size; (try simp only [World.size_alloc, World.size_setCell, World.size_drew, World.heap_drewN] at hz1); obtain ⟨hc1, hf1⟩ := bcell hb1; (try simp only [World.size_alloc, World.size_setCell, World.size_drew, World.heap_drewN] at hc1 hf1)
      go_wp2_with fail
      (refine (at_no W H b _ hb).mono ?_); rintro e w2 ⟨rfl, hb2⟩; have hz2 := hb2.size; (try simp only [World.size_alloc, World.size_setCell, World.size_drew, World.heap_drewN] at hz2); obtain ⟨hc2, hf2⟩ := bcell hb2; (try simp only [World.size_alloc, World.size_setCell, World.size_drew, World.heap_drewN] at hc2 hf2)
      go_wp2_with fail
      go_ret
      exact ⟨ret_int E.out.symm, (by repeat (first | exact Below.refl _ _ | (refine Below.alloc ?_ (by ((try simp only [World.size_alloc, World.size_setCell, World.size_drew, World.heap_drewN]); omega)) _) | (refine Below.drewN' ?_ _) | (refine Below.drew ?_) | (refine Below.setCell ?_ (by ((try simp only [World.size_alloc, World.size_setCell, World.size_drew, World.heap_drewN]); omega)) _) | (refine Below.trans ?_ (Below.mono (by assumption) (by ((try simp only [World.size_alloc, World.size_setCell, World.size_drew, World.heap_drewN]); omega))))))⟩
end Go.Proofs.Ytekpjmdkihnpeaa
