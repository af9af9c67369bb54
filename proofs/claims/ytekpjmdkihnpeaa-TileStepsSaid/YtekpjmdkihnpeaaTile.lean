/- The walks of package tile: tiles, Count, Of, Box, Away. -/
import Derived.Test.YtekpjmdkihnpeaaNear
import Derived.Test.YtekpjmdkihnpeaaQuiet
import Derived.Test.YtekpjmdkihnpeaaYield
import Derived.Test.YtekpjmdkihnpeaaPure12
import Derived.Lib.MinMax
import Derived.IntWalk
namespace Go.Proofs.Ytekpjmdkihnpeaa
set_option linter.unusedSimpArgs false
set_option linter.unusedVariables false
open Go.RowKit Go.Shelf

attribute [local go_sem] Oper.semAt_some

theorem ret_agg2 {a a' b b' : Int} (h : a = a') (h' : b = b') : Ending.returned (.agg #[.int .i64 a, .int .i64 b]) = .returned (.agg #[.int .i64 a', .int .i64 b']) := by rw [h, h']
theorem ret_ib {a a' : Int} {t t' : Bool} (h : a = a') (h' : t = t') : Ending.returned (.tuple #[.int .i64 a, .bool t]) = .returned (.tuple #[.int .i64 a', .bool t']) := by rw [h, h']

set_option maxHeartbeats 400000 in
theorem tiles_any (W H : Int) (w : World) :
    Calls Try.prog 54 #[.agg #[.int .i64 W, .int .i64 H]] w fun e w' => e = .returned (.agg #[.int .i64 (tW W H), .int .i64 (tH W H)]) ∧ Below w.heap.size w w' := by
  by_cases h : Rt W H
  · obtain ⟨m1, m2, m3, m4, m5, m6, m7, m8⟩ := h.bounds
    have E1 := Lib.hid (tW_of h)
    have E2 := Lib.hid (tH_of h)
    go_enter Try.func54, Try.ntmps54
    go_wp2_with fail
    (refine (right_yes W H _ h).mono ?_); rintro e w1 ⟨rfl, hb1⟩; have hz1 := hb1.size; (try simp only [World.size_alloc, World.size_setCell, World.size_drew, World.heap_drewN] at hz1); obtain ⟨hc1, hf1⟩ := bcell hb1; (try simp only [World.size_alloc, World.size_setCell, World.size_drew, World.heap_drewN] at hc1 hf1)
    go_wp2_with fail
    exact bodyPost_ret (v := .agg #[.int .i64 ((W + 8 - 1) / 8), .int .i64 ((H + 8 - 1) / 8)]) (by simp [results, Try.results54, go_sem, hc1, hf1, hz1]) rfl ⟨ret_agg2 (E1.out.trans (by first | rfl | (congr 1; omega))).symm (E2.out.trans (by first | rfl | (congr 1; omega))).symm, (by repeat (first | exact Below.refl _ _ | (refine Below.alloc ?_ (by ((try simp only [World.size_alloc, World.size_setCell, World.size_drew, World.heap_drewN]); omega)) _) | (refine Below.drewN' ?_ _) | (refine Below.drew ?_) | (refine Below.setCell ?_ (by ((try simp only [World.size_alloc, World.size_setCell, World.size_drew, World.heap_drewN]); omega)) _) | (refine Below.trans ?_ (Below.mono (by assumption) (by ((try simp only [World.size_alloc, World.size_setCell, World.size_drew, World.heap_drewN]); omega))))))⟩
  · have E1 := Lib.hid (tW_no h)
    have E2 := Lib.hid (tH_no h)
    go_enter Try.func54, Try.ntmps54
    go_wp2_with fail
    (refine (right_no W H _ h).mono ?_); rintro e w1 ⟨rfl, hb1⟩; have hz1 := hb1.size; (try simp only [World.size_alloc, World.size_setCell, World.size_drew, World.heap_drewN] at hz1); obtain ⟨hc1, hf1⟩ := bcell hb1; (try simp only [World.size_alloc, World.size_setCell, World.size_drew, World.heap_drewN] at hc1 hf1)
    go_wp2_with fail
    exact bodyPost_ret (v := .agg #[.int .i64 0, .int .i64 0]) (by simp [results, Try.results54, go_sem, hc1, hf1, hz1]) rfl ⟨ret_agg2 (E1.out.trans (by first | rfl | (congr 1; omega))).symm (E2.out.trans (by first | rfl | (congr 1; omega))).symm, (by repeat (first | exact Below.refl _ _ | (refine Below.alloc ?_ (by ((try simp only [World.size_alloc, World.size_setCell, World.size_drew, World.heap_drewN]); omega)) _) | (refine Below.drewN' ?_ _) | (refine Below.drew ?_) | (refine Below.setCell ?_ (by ((try simp only [World.size_alloc, World.size_setCell, World.size_drew, World.heap_drewN]); omega)) _) | (refine Below.trans ?_ (Below.mono (by assumption) (by ((try simp only [World.size_alloc, World.size_setCell, World.size_drew, World.heap_drewN]); omega))))))⟩

set_option maxHeartbeats 400000 in
theorem tcount_any (W H : Int) (w : World) :
    Calls Try.prog 44 #[.agg #[.int .i64 W, .int .i64 H]] w fun e w' => e = .returned (.int .i64 (tCount W H)) ∧ Below w.heap.size w w' := by
  go_enter Try.func44, Try.ntmps44
  go_wp2_with fail
  (refine (tiles_any W H _).mono ?_); rintro e w1 ⟨rfl, hb1⟩; have hz1 := hb1.size; (try simp only [World.size_alloc, World.size_setCell, World.size_drew, World.heap_drewN] at hz1); obtain ⟨hc1, hf1⟩ := bcell hb1; (try simp only [World.size_alloc, World.size_setCell, World.size_drew, World.heap_drewN] at hc1 hf1)
  go_wp2_with fail
  (refine (cells_any _ _ _).mono ?_); rintro e w2 ⟨rfl, hb2⟩; have hz2 := hb2.size; (try simp only [World.size_alloc, World.size_setCell, World.size_drew, World.heap_drewN] at hz2); obtain ⟨hc2, hf2⟩ := bcell hb2; (try simp only [World.size_alloc, World.size_setCell, World.size_drew, World.heap_drewN] at hc2 hf2)
  go_wp2_with fail
  go_ret
  exact ⟨rfl, (by repeat (first | exact Below.refl _ _ | (refine Below.alloc ?_ (by ((try simp only [World.size_alloc, World.size_setCell, World.size_drew, World.heap_drewN]); omega)) _) | (refine Below.drewN' ?_ _) | (refine Below.drew ?_) | (refine Below.setCell ?_ (by ((try simp only [World.size_alloc, World.size_setCell, World.size_drew, World.heap_drewN]); omega)) _) | (refine Below.trans ?_ (Below.mono (by assumption) (by ((try simp only [World.size_alloc, World.size_setCell, World.size_drew, World.heap_drewN]); omega))))))⟩

set_option maxHeartbeats 400000 in
theorem tof_any (W H c : Int) (w : World) :
    Calls Try.prog 39 #[.agg #[.int .i64 W, .int .i64 H], .int .i64 c] w fun e w' => e = .returned (.tuple #[.int .i64 (tOf W H c), .bool (atB W H c)]) ∧ Below w.heap.size w w' := by
  by_cases h : InC W H c
  · have hxy := tOf_xy h
    have E1 := Lib.hid (tOf_yes h)
    have E2 := Lib.hid (show atB W H c = true from decide_eq_true h)
    obtain ⟨x1, x2, x3, x4, x5⟩ := h.xy
    obtain ⟨m1, m2, m3, m4, m5, m6, m7⟩ := h.bounds
    clear x5
    go_enter Try.func39, Try.ntmps39
    go_wp2_with fail
    (refine (at_yes W H c _ h).mono ?_); rintro e w1 ⟨rfl, hb1⟩; have hz1 := hb1.size; (try simp only [World.size_alloc, World.size_setCell, World.size_drew, World.heap_drewN] at hz1); obtain ⟨hc1, hf1⟩ := bcell hb1; (try simp only [World.size_alloc, World.size_setCell, World.size_drew, World.heap_drewN] at hc1 hf1)
    go_wp2_with fail
    (refine (tiles_any W H _).mono ?_); rintro e w2 ⟨rfl, hb2⟩; have hz2 := hb2.size; (try simp only [World.size_alloc, World.size_setCell, World.size_drew, World.heap_drewN] at hz2); obtain ⟨hc2, hf2⟩ := bcell hb2; (try simp only [World.size_alloc, World.size_setCell, World.size_drew, World.heap_drewN] at hc2 hf2)
    go_wp2_with fail
    (refine (index_yes _ _ _ _ _ hxy).mono ?_); rintro e w3 ⟨rfl, hb3⟩; have hz3 := hb3.size; (try simp only [World.size_alloc, World.size_setCell, World.size_drew, World.heap_drewN] at hz3); obtain ⟨hc3, hf3⟩ := bcell hb3; (try simp only [World.size_alloc, World.size_setCell, World.size_drew, World.heap_drewN] at hc3 hf3)
    go_wp2_with fail
    go_ret2
    exact ⟨ret_ib E1.out.symm E2.out.symm, (by repeat (first | exact Below.refl _ _ | (refine Below.alloc ?_ (by ((try simp only [World.size_alloc, World.size_setCell, World.size_drew, World.heap_drewN]); omega)) _) | (refine Below.drewN' ?_ _) | (refine Below.drew ?_) | (refine Below.setCell ?_ (by ((try simp only [World.size_alloc, World.size_setCell, World.size_drew, World.heap_drewN]); omega)) _) | (refine Below.trans ?_ (Below.mono (by assumption) (by ((try simp only [World.size_alloc, World.size_setCell, World.size_drew, World.heap_drewN]); omega))))))⟩
  · have E1 := Lib.hid (tOf_no h)
    have E2 := Lib.hid (show atB W H c = false from decide_eq_false h)
    go_enter Try.func39, Try.ntmps39
    go_wp2_with fail
    (refine (at_no W H c _ h).mono ?_); rintro e w1 ⟨rfl, hb1⟩; have hz1 := hb1.size; (try simp only [World.size_alloc, World.size_setCell, World.size_drew, World.heap_drewN] at hz1); obtain ⟨hc1, hf1⟩ := bcell hb1; (try simp only [World.size_alloc, World.size_setCell, World.size_drew, World.heap_drewN] at hc1 hf1)
    go_wp2_with fail
    go_ret2
    exact ⟨ret_ib E1.out.symm E2.out.symm, (by repeat (first | exact Below.refl _ _ | (refine Below.alloc ?_ (by ((try simp only [World.size_alloc, World.size_setCell, World.size_drew, World.heap_drewN]); omega)) _) | (refine Below.drewN' ?_ _) | (refine Below.drew ?_) | (refine Below.setCell ?_ (by ((try simp only [World.size_alloc, World.size_setCell, World.size_drew, World.heap_drewN]); omega)) _) | (refine Below.trans ?_ (Below.mono (by assumption) (by ((try simp only [World.size_alloc, World.size_setCell, World.size_drew, World.heap_drewN]); omega))))))⟩

def bB (W H t : Int) : Bool := decide (InT W H t)
theorem ret_box {a a' b b' c c' d d' : Int} {t t' : Bool} (h1 : a = a') (h2 : b = b') (h3 : c = c') (h4 : d = d') (h5 : t = t') :
    Ending.returned (.tuple #[.int .i64 a, .int .i64 b, .int .i64 c, .int .i64 d, .bool t]) = .returned (.tuple #[.int .i64 a', .int .i64 b', .int .i64 c', .int .i64 d', .bool t']) := by rw [h1, h2, h3, h4, h5]

set_option maxHeartbeats 400000 in
theorem box_any (W H t : Int) (w : World) :
    Calls Try.prog 40 #[.agg #[.int .i64 W, .int .i64 H], .int .i64 t] w fun e w' =>
      e = .returned (.tuple #[.int .i64 (bX W H t), .int .i64 (bY W H t), .int .i64 (bWd W H t), .int .i64 (bHt W H t), .bool (bB W H t)]) ∧ Below w.heap.size w w' := by
  by_cases h : InT W H t
  · have E := Lib.hid (box_of h)
    have E5 := Lib.hid (show bB W H t = true from decide_eq_true h)
    obtain ⟨q1, q2, q3, q4, q5, q6, q7, q8⟩ := box_bd h
    refine calls_of_wide ?_
    (refine callsIn_of_wp Try.func40 rfl trivial ?_ rfl); simp only [Try.ntmps40, List.size_toArray, List.length_cons, List.length_nil, Nat.reduceAdd, Nat.reduceSub, Array.replicate_succ, Array.replicate_zero, List.push_toArray, List.append_toArray, List.nil_append, List.cons_append]
    gi_wp2_with fail
    (refine ⟨trivial, rfl, ?_⟩); (refine CallsIn.mono (callsIn_wide.2 (tiles_any W H _)) ?_); rintro e w1 ⟨rfl, hb1⟩; have hz1 := hb1.size; (try simp only [World.size_alloc, World.size_setCell, World.size_drew, World.heap_drewN] at hz1); have z := keepH2 (World.alloc_heap_new w _) (by repeat (first | exact Below.refl _ _ | (refine Below.alloc ?_ (by ((try simp only [World.size_alloc, World.size_setCell, World.size_drew, World.heap_drewN]); omega)) _) | (refine Below.drewN' ?_ _) | (refine Below.drew ?_) | (refine Below.setCell ?_ (by ((try simp only [World.size_alloc, World.size_setCell, World.size_drew, World.heap_drewN]); omega)) _) | (refine Below.trans ?_ (Below.mono (by assumption) (by ((try simp only [World.size_alloc, World.size_setCell, World.size_drew, World.heap_drewN]); omega)))))) hb1; (try simp only [World.size_alloc, World.size_setCell, World.size_drew, World.heap_drewN] at z); obtain ⟨z_l0, z_l1, z_l2, z_l3, z_l4⟩ := ltF z; obtain ⟨z_0, z_1, z_0f, z_1f⟩ := cell2 z
    gi_wp2_with fail
    (refine ⟨trivial, rfl, ?_⟩); (refine CallsIn.mono (callsIn_wide.2 (at_yes _ _ t _ h)) ?_); rintro e w2 ⟨rfl, hb2⟩; have hz2 := hb2.size; (try simp only [World.size_alloc, World.size_setCell, World.size_drew, World.heap_drewN] at hz2); replace z := keepH2 (z) (by repeat (first | exact Below.refl _ _ | (refine Below.alloc ?_ (by ((try simp only [World.size_alloc, World.size_setCell, World.size_drew, World.heap_drewN]); omega)) _) | (refine Below.drewN' ?_ _) | (refine Below.drew ?_) | (refine Below.setCell ?_ (by ((try simp only [World.size_alloc, World.size_setCell, World.size_drew, World.heap_drewN]); omega)) _) | (refine Below.trans ?_ (Below.mono (by assumption) (by ((try simp only [World.size_alloc, World.size_setCell, World.size_drew, World.heap_drewN]); omega)))))) hb2; (try clear z_0); (try clear z_1); (try clear z_0f); (try clear z_1f); (try clear z_l0 z_l1 z_l2 z_l3 z_l4); obtain ⟨z_l0, z_l1, z_l2, z_l3, z_l4⟩ := ltF z; obtain ⟨z_0, z_1, z_0f, z_1f⟩ := cell2 z
    gi_wp2_with fail
    generalize t % tW W H = i at *
    generalize t / tW W H = j at *
    have hs1 : IntKind.i64.wrap (W - i * 8) = W - i * 8 := IntWalk.i64_in _ (by omega)
    have hs2 : IntKind.i64.wrap (H - j * 8) = H - j * 8 := IntWalk.i64_in _ (by omega)
    have z_0_q := cell_regrown (z_0); have z_1_q := cell_regrown (z_1); (refine region_quiet (by kernel_rfl) (by kernel_rfl) ?_); (repeat ((refine wpQuietIn_step (fun _ _ _ _ => trivial) (fun K hK => ?_)); go_simp; first | (refine hK _ ?_; clear hK K) | (apply Exists.intro; refine ⟨fun _ => ?_, hK _ ?_⟩; (first | fail); clear hK K))); (refine wpQuietIn_nil ?_); intro w3 hb3; have hz3 := hb3.size; (try simp only [World.size_alloc, World.size_setCell, World.size_drew, World.heap_drewN] at hz3); (try clear z_0_q); (try clear z_1_q)
    clear hs1 hs2
    gi_wp2_with fail
    refine bodyPost_ret (v := .tuple #[.int .i64 (i * 8), .int .i64 (j * 8), .int .i64 (min 8 (W - i * 8)), .int .i64 (min 8 (H - j * 8)), .bool true]) (by simp [results, Try.results40, go_sem]) rfl ⟨?_, (by repeat (first | exact Below.refl _ _ | (refine Below.alloc ?_ (by ((try simp only [World.size_alloc, World.size_setCell, World.size_drew, World.heap_drewN]); omega)) _) | (refine Below.drewN' ?_ _) | (refine Below.drew ?_) | (refine Below.setCell ?_ (by ((try simp only [World.size_alloc, World.size_setCell, World.size_drew, World.heap_drewN]); omega)) _) | (refine Below.trans ?_ (Below.mono (by assumption) (by ((try simp only [World.size_alloc, World.size_setCell, World.size_drew, World.heap_drewN]); omega))))))⟩
    obtain ⟨e1, e2, e3, e4⟩ := E.out
    exact ret_box e1.symm e2.symm e3.symm e4.symm E5.out.symm
  · have E := Lib.hid (box_no h)
    have E5 := Lib.hid (show bB W H t = false from decide_eq_false h)
    go_enter Try.func40, Try.ntmps40
    go_wp2_with fail
    (refine (tiles_any W H _).mono ?_); rintro e w1 ⟨rfl, hb1⟩; have hz1 := hb1.size; (try simp only [World.size_alloc, World.size_setCell, World.size_drew, World.heap_drewN] at hz1); obtain ⟨hc1, hf1⟩ := bcell hb1; (try simp only [World.size_alloc, World.size_setCell, World.size_drew, World.heap_drewN] at hc1 hf1)
    go_wp2_with fail
    (refine (at_no _ _ t _ h).mono ?_); rintro e w2 ⟨rfl, hb2⟩; have hz2 := hb2.size; (try simp only [World.size_alloc, World.size_setCell, World.size_drew, World.heap_drewN] at hz2); obtain ⟨hc2, hf2⟩ := bcell hb2; (try simp only [World.size_alloc, World.size_setCell, World.size_drew, World.heap_drewN] at hc2 hf2)
    go_wp2_with fail
    refine bodyPost_ret (v := .tuple #[.int .i64 0, .int .i64 0, .int .i64 0, .int .i64 0, .bool false]) (by simp [results, Try.results40, go_sem]) rfl ⟨?_, (by repeat (first | exact Below.refl _ _ | (refine Below.alloc ?_ (by ((try simp only [World.size_alloc, World.size_setCell, World.size_drew, World.heap_drewN]); omega)) _) | (refine Below.drewN' ?_ _) | (refine Below.drew ?_) | (refine Below.setCell ?_ (by ((try simp only [World.size_alloc, World.size_setCell, World.size_drew, World.heap_drewN]); omega)) _) | (refine Below.trans ?_ (Below.mono (by assumption) (by ((try simp only [World.size_alloc, World.size_setCell, World.size_drew, World.heap_drewN]); omega))))))⟩
    obtain ⟨e1, e2, e3, e4⟩ := E.out
    exact ret_box e1.symm e2.symm e3.symm e4.symm E5.out.symm

set_option maxHeartbeats 800000 in
theorem taway_any (W H c t : Int) (w : World) :
    Calls Try.prog 43 #[.agg #[.int .i64 W, .int .i64 H], .int .i64 c, .int .i64 t] w fun e w' => e = .returned (.int .i64 (tAway W H c t)) ∧ Below w.heap.size w w' := by
  obtain ⟨q1, q2, q3, q4, q5, q6, q7, q8⟩ := box_bd2 W H t
  by_cases h : InC W H c
  · obtain ⟨x1, x2, x3, x4, x5⟩ := h.xy
    obtain ⟨m1, m2, m3, m4, m5, m6, m7⟩ := h.bounds
    clear x5
    by_cases ht : InT W H t
    · have E := Lib.hid (tAway_of h ht)
      have hB : bB W H t = true := decide_eq_true ht
      have HB := Lib.hid hB
      clear hB
      generalize hx : c % W = x at *
      generalize hy : c / W = y at *
      have Hx := Lib.hid hx
      have Hy := Lib.hid hy
      clear hx hy
      go_enter Try.func43, Try.ntmps43
      go_wp2_with fail
      (refine (at_yes W H c _ h).mono ?_); rintro e w1 ⟨rfl, hb1⟩; have hz1 := hb1.size; (try simp only [World.size_alloc, World.size_setCell, World.size_drew, World.heap_drewN] at hz1); obtain ⟨hc1, hf1⟩ := bcell hb1; (try simp only [World.size_alloc, World.size_setCell, World.size_drew, World.heap_drewN] at hc1 hf1)
      rw [Hx.out, Hy.out]
      go_wp2_with fail
      (refine (box_any W H t _).mono ?_); rintro e w2 ⟨rfl, hb2⟩; have hz2 := hb2.size; (try simp only [World.size_alloc, World.size_setCell, World.size_drew, World.heap_drewN] at hz2); obtain ⟨hc2, hf2⟩ := bcell hb2; (try simp only [World.size_alloc, World.size_setCell, World.size_drew, World.heap_drewN] at hc2 hf2)
      rw [HB.out]
      generalize bX W H t = bx at *
      generalize bY W H t = bY at *
      generalize bWd W H t = bw at *
      generalize bHt W H t = bh at *
      go_wp2_with fail
      all_goals
        go_ret
        exact ⟨ret_int (by rw [E.out]; omega), (by repeat (first | exact Below.refl _ _ | (refine Below.alloc ?_ (by ((try simp only [World.size_alloc, World.size_setCell, World.size_drew, World.heap_drewN]); omega)) _) | (refine Below.drewN' ?_ _) | (refine Below.drew ?_) | (refine Below.setCell ?_ (by ((try simp only [World.size_alloc, World.size_setCell, World.size_drew, World.heap_drewN]); omega)) _) | (refine Below.trans ?_ (Below.mono (by assumption) (by ((try simp only [World.size_alloc, World.size_setCell, World.size_drew, World.heap_drewN]); omega))))))⟩
    · have E := Lib.hid (tAway_no (W := W) (H := H) (c := c) (t := t) (fun h => ht h.2))
      have hB : bB W H t = false := decide_eq_false ht
      have HB := Lib.hid hB
      clear hB
      go_enter Try.func43, Try.ntmps43
      go_wp2_with fail
      (refine (at_yes W H c _ h).mono ?_); rintro e w1 ⟨rfl, hb1⟩; have hz1 := hb1.size; (try simp only [World.size_alloc, World.size_setCell, World.size_drew, World.heap_drewN] at hz1); obtain ⟨hc1, hf1⟩ := bcell hb1; (try simp only [World.size_alloc, World.size_setCell, World.size_drew, World.heap_drewN] at hc1 hf1)
      go_wp2_with fail
      (refine (box_any W H t _).mono ?_); rintro e w2 ⟨rfl, hb2⟩; have hz2 := hb2.size; (try simp only [World.size_alloc, World.size_setCell, World.size_drew, World.heap_drewN] at hz2); obtain ⟨hc2, hf2⟩ := bcell hb2; (try simp only [World.size_alloc, World.size_setCell, World.size_drew, World.heap_drewN] at hc2 hf2)
      rw [HB.out]
      go_wp2_with fail
      go_ret
      exact ⟨ret_int E.out.symm, (by repeat (first | exact Below.refl _ _ | (refine Below.alloc ?_ (by ((try simp only [World.size_alloc, World.size_setCell, World.size_drew, World.heap_drewN]); omega)) _) | (refine Below.drewN' ?_ _) | (refine Below.drew ?_) | (refine Below.setCell ?_ (by ((try simp only [World.size_alloc, World.size_setCell, World.size_drew, World.heap_drewN]); omega)) _) | (refine Below.trans ?_ (Below.mono (by assumption) (by ((try simp only [World.size_alloc, World.size_setCell, World.size_drew, World.heap_drewN]); omega))))))⟩
  · have E := Lib.hid (tAway_no (W := W) (H := H) (c := c) (t := t) (fun h' => h h'.1))
    go_enter Try.func43, Try.ntmps43
    go_wp2_with fail
    (refine (at_no W H c _ h).mono ?_); rintro e w1 ⟨rfl, hb1⟩; have hz1 := hb1.size; (try simp only [World.size_alloc, World.size_setCell, World.size_drew, World.heap_drewN] at hz1); obtain ⟨hc1, hf1⟩ := bcell hb1; (try simp only [World.size_alloc, World.size_setCell, World.size_drew, World.heap_drewN] at hc1 hf1)
    go_wp2_with fail
    (refine (box_any W H t _).mono ?_); rintro e w2 ⟨rfl, hb2⟩; have hz2 := hb2.size; (try simp only [World.size_alloc, World.size_setCell, World.size_drew, World.heap_drewN] at hz2); obtain ⟨hc2, hf2⟩ := bcell hb2; (try simp only [World.size_alloc, World.size_setCell, World.size_drew, World.heap_drewN] at hc2 hf2)
    go_wp2_with fail
    go_ret
    exact ⟨ret_int E.out.symm, (by repeat (first | exact Below.refl _ _ | (refine Below.alloc ?_ (by ((try simp only [World.size_alloc, World.size_setCell, World.size_drew, World.heap_drewN]); omega)) _) | (refine Below.drewN' ?_ _) | (refine Below.drew ?_) | (refine Below.setCell ?_ (by ((try simp only [World.size_alloc, World.size_setCell, World.size_drew, World.heap_drewN]); omega)) _) | (refine Below.trans ?_ (Below.mono (by assumption) (by ((try simp only [World.size_alloc, World.size_setCell, World.size_drew, World.heap_drewN]); omega))))))⟩

/-- tile.Cells, tile.Beside: the iterators and their blocks. -/
theorem tcells_f (W H t : Int) (w : World) :
    Calls Try.prog 41 #[.agg #[.int .i64 W, .int .i64 H], .int .i64 t] w fun e w' =>
      e = .returned (.func (.func 55) #[] #[.pointer (some ⟨w.heap.size, 0, none⟩), .pointer (some ⟨w.heap.size + 1, 0, none⟩)]) ∧ Below w.heap.size w w' ∧
      w'.heap[w.heap.size]? = some (.cells #[.int .i64 W, .int .i64 H] 23) ∧ w'.heap[w.heap.size + 1]? = some (.cells #[.int .i64 t] 3) := by
  go_enter Try.func41, Try.ntmps41
  go_wp2
  go_ret
  exact ⟨rfl, (by repeat (first | exact Below.refl _ _ | (refine Below.alloc ?_ (by ((try simp only [World.size_alloc, World.size_setCell, World.size_drew, World.heap_drewN]); omega)) _) | (refine Below.drewN' ?_ _) | (refine Below.drew ?_) | (refine Below.setCell ?_ (by ((try simp only [World.size_alloc, World.size_setCell, World.size_drew, World.heap_drewN]); omega)) _) | (refine Below.trans ?_ (Below.mono (by assumption) (by ((try simp only [World.size_alloc, World.size_setCell, World.size_drew, World.heap_drewN]); omega)))))), (by simp only [Boxed, hp_alloc, hp_drewN, hp_drew, if_true, World.size_alloc, World.size_setCell, World.size_drew, World.heap_drewN]; repeat (first | rw [if_true] | rw [if_pos (by omega)] | rw [if_neg (by omega)] | rw [hp_set_ne _ _ _ _ _ (by omega)] | rw [hp_set_eq (by assumption)]); try first | rfl | assumption | (apply hp_set_eq; (repeat (rw [hp_set_ne _ _ _ _ _ (by omega)])); assumption)), (by simp only [Boxed, hp_alloc, hp_drewN, hp_drew, if_true, World.size_alloc, World.size_setCell, World.size_drew, World.heap_drewN]; repeat (first | rw [if_true] | rw [if_pos (by omega)] | rw [if_neg (by omega)] | rw [hp_set_ne _ _ _ _ _ (by omega)] | rw [hp_set_eq (by assumption)]); try first | rfl | assumption | (apply hp_set_eq; (repeat (rw [hp_set_ne _ _ _ _ _ (by omega)])); assumption))⟩
theorem tbeside_f (W H t : Int) (w : World) :
    Calls Try.prog 49 #[.agg #[.int .i64 W, .int .i64 H], .int .i64 t] w fun e w' =>
      e = .returned (.func (.func 57) #[] #[.pointer (some ⟨w.heap.size, 0, none⟩), .pointer (some ⟨w.heap.size + 1, 0, none⟩)]) ∧ Below w.heap.size w w' ∧
      w'.heap[w.heap.size]? = some (.cells #[.int .i64 W, .int .i64 H] 23) ∧ w'.heap[w.heap.size + 1]? = some (.cells #[.int .i64 t] 3) := by
  go_enter Try.func49, Try.ntmps49
  go_wp2
  go_ret
  exact ⟨rfl, (by repeat (first | exact Below.refl _ _ | (refine Below.alloc ?_ (by ((try simp only [World.size_alloc, World.size_setCell, World.size_drew, World.heap_drewN]); omega)) _) | (refine Below.drewN' ?_ _) | (refine Below.drew ?_) | (refine Below.setCell ?_ (by ((try simp only [World.size_alloc, World.size_setCell, World.size_drew, World.heap_drewN]); omega)) _) | (refine Below.trans ?_ (Below.mono (by assumption) (by ((try simp only [World.size_alloc, World.size_setCell, World.size_drew, World.heap_drewN]); omega)))))), (by simp only [Boxed, hp_alloc, hp_drewN, hp_drew, if_true, World.size_alloc, World.size_setCell, World.size_drew, World.heap_drewN]; repeat (first | rw [if_true] | rw [if_pos (by omega)] | rw [if_neg (by omega)] | rw [hp_set_ne _ _ _ _ _ (by omega)] | rw [hp_set_eq (by assumption)]); try first | rfl | assumption | (apply hp_set_eq; (repeat (rw [hp_set_ne _ _ _ _ _ (by omega)])); assumption)), (by simp only [Boxed, hp_alloc, hp_drewN, hp_drew, if_true, World.size_alloc, World.size_setCell, World.size_drew, World.heap_drewN]; repeat (first | rw [if_true] | rw [if_pos (by omega)] | rw [if_neg (by omega)] | rw [hp_set_ne _ _ _ _ _ (by omega)] | rw [hp_set_eq (by assumption)]); try first | rfl | assumption | (apply hp_set_eq; (repeat (rw [hp_set_ne _ _ _ _ _ (by omega)])); assumption))⟩
end Go.Proofs.Ytekpjmdkihnpeaa
