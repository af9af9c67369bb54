/- The walks of package rings: Last, Ring. -/
import Derived.Lib.MinMax
import Derived.Test.YtekpjmdkihnpeaaQuiet
import Derived.Test.YtekpjmdkihnpeaaPlace
import Derived.Test.YtekpjmdkihnpeaaPure17
import Derived.Test.YtekpjmdkihnpeaaNear
import Derived.Test.YtekpjmdkihnpeaaYield
namespace Go.Proofs.Ytekpjmdkihnpeaa
set_option linter.unusedSimpArgs false
set_option linter.unusedVariables false
open Go.RowKit Go.Shelf Go.Sort

attribute [local go_sem] Oper.semAt_some

set_option maxHeartbeats 1000000 in
theorem last_any (W H c : Int) (w : World) :
    Calls Try.prog 35 #[.agg #[.int .i64 W, .int .i64 H], .int .i64 c] w fun e w' => e = .returned (.int .i64 (lastD W H c)) ∧ Below w.heap.size w w' := by
  go_enter Try.func35, Try.ntmps35
  by_cases h : InC W H c
  · have HL := Lib.hid (lastD_of h)
    obtain ⟨x1, x2, y1, y2, h5⟩ := h.xy
    obtain ⟨m1, m2, m3, m4, m5, m6, m7⟩ := h.bounds
    clear h5
    go_wp2_with fail
    (refine (at_yes W H c _ h).mono ?_); rintro e w1 ⟨rfl, hb1⟩; have hz1 := hb1.size; (try simp only [World.size_alloc, World.size_setCell, World.size_drew, World.heap_drewN] at hz1); obtain ⟨hc1, hf1⟩ := bcell hb1; (try simp only [World.size_alloc, World.size_setCell, World.size_drew, World.heap_drewN] at hc1 hf1)
    generalize hx : c % W = x at *
    generalize hy : c / W = y at *
    clear hx hy
    go_wp2
    go_ret
    exact ⟨ret_int (by have := HL.out; omega), (by repeat (first | exact Below.refl _ _ | (refine Below.alloc ?_ (by ((try simp only [World.size_alloc, World.size_setCell, World.size_drew, World.heap_drewN]); omega)) _) | (refine Below.drewN' ?_ _) | (refine Below.drew ?_) | (refine Below.setCell ?_ (by ((try simp only [World.size_alloc, World.size_setCell, World.size_drew, World.heap_drewN]); omega)) _) | (refine Below.trans ?_ (Below.mono (by assumption) (by ((try simp only [World.size_alloc, World.size_setCell, World.size_drew, World.heap_drewN]); omega))))))⟩
  · have HL := Lib.hid (lastD_no h)
    go_wp2_with fail
    (refine (at_no W H c _ h).mono ?_); rintro e w1 ⟨rfl, hb1⟩; have hz1 := hb1.size; (try simp only [World.size_alloc, World.size_setCell, World.size_drew, World.heap_drewN] at hz1); obtain ⟨hc1, hf1⟩ := bcell hb1; (try simp only [World.size_alloc, World.size_setCell, World.size_drew, World.heap_drewN] at hc1 hf1)
    go_wp2
    go_ret
    exact ⟨ret_int HL.out.symm, (by repeat (first | exact Below.refl _ _ | (refine Below.alloc ?_ (by ((try simp only [World.size_alloc, World.size_setCell, World.size_drew, World.heap_drewN]); omega)) _) | (refine Below.drewN' ?_ _) | (refine Below.drew ?_) | (refine Below.setCell ?_ (by ((try simp only [World.size_alloc, World.size_setCell, World.size_drew, World.heap_drewN]); omega)) _) | (refine Below.trans ?_ (Below.mono (by assumption) (by ((try simp only [World.size_alloc, World.size_setCell, World.size_drew, World.heap_drewN]); omega))))))⟩

/-- rings.Ring: the iterator and its three blocks. -/
theorem ring_f (W H c d : Int) (w : World) :
    Calls Try.prog 33 #[.agg #[.int .i64 W, .int .i64 H], .int .i64 c, .int .i64 d] w fun e w' =>
      e = .returned (.func (.func 52) #[] #[.pointer (some ⟨w.heap.size, 0, none⟩), .pointer (some ⟨w.heap.size + 1, 0, none⟩), .pointer (some ⟨w.heap.size + 1 + 1, 0, none⟩)]) ∧ Below w.heap.size w w' ∧
      w'.heap[w.heap.size]? = some (.cells #[.int .i64 W, .int .i64 H] 23) ∧ w'.heap[w.heap.size + 1]? = some (.cells #[.int .i64 c] 3) ∧ w'.heap[w.heap.size + 1 + 1]? = some (.cells #[.int .i64 d] 3) := by
  go_enter Try.func33, Try.ntmps33
  go_wp2
  go_ret
  exact ⟨rfl, (by repeat (first | exact Below.refl _ _ | (refine Below.alloc ?_ (by ((try simp only [World.size_alloc, World.size_setCell, World.size_drew, World.heap_drewN]); omega)) _) | (refine Below.drewN' ?_ _) | (refine Below.drew ?_) | (refine Below.setCell ?_ (by ((try simp only [World.size_alloc, World.size_setCell, World.size_drew, World.heap_drewN]); omega)) _) | (refine Below.trans ?_ (Below.mono (by assumption) (by ((try simp only [World.size_alloc, World.size_setCell, World.size_drew, World.heap_drewN]); omega)))))), (by simp only [Boxed, hp_alloc, hp_drewN, hp_drew, if_true, World.size_alloc, World.size_setCell, World.size_drew, World.heap_drewN]; repeat (first | rw [if_true] | rw [if_pos (by omega)] | rw [if_neg (by omega)] | rw [hp_set_ne _ _ _ _ _ (by omega)] | rw [hp_set_eq (by assumption)]); try first | rfl | assumption | (apply hp_set_eq; (repeat (rw [hp_set_ne _ _ _ _ _ (by omega)])); assumption)), (by simp only [Boxed, hp_alloc, hp_drewN, hp_drew, if_true, World.size_alloc, World.size_setCell, World.size_drew, World.heap_drewN]; repeat (first | rw [if_true] | rw [if_pos (by omega)] | rw [if_neg (by omega)] | rw [hp_set_ne _ _ _ _ _ (by omega)] | rw [hp_set_eq (by assumption)]); try first | rfl | assumption | (apply hp_set_eq; (repeat (rw [hp_set_ne _ _ _ _ _ (by omega)])); assumption)), (by simp only [Boxed, hp_alloc, hp_drewN, hp_drew, if_true, World.size_alloc, World.size_setCell, World.size_drew, World.heap_drewN]; repeat (first | rw [if_true] | rw [if_pos (by omega)] | rw [if_neg (by omega)] | rw [hp_set_ne _ _ _ _ _ (by omega)] | rw [hp_set_eq (by assumption)]); try first | rfl | assumption | (apply hp_set_eq; (repeat (rw [hp_set_ne _ _ _ _ _ (by omega)])); assumption))⟩

set_option maxRecDepth 100000 in
set_option maxHeartbeats 2000000 in
theorem ring_iter (W H c d : Int) (w : World) (bz bc bd : Nat) (hz : w.heap[bz]? = some (.cells #[.int .i64 W, .int .i64 H] 23)) (hc : w.heap[bc]? = some (.cells #[.int .i64 c] 3)) (hd : w.heap[bd]? = some (.cells #[.int .i64 d] 3)) :
    Iter Try.prog 52 #[.pointer (some ⟨bz, 0, none⟩), .pointer (some ⟨bc, 0, none⟩), .pointer (some ⟨bd, 0, none⟩)] encI (ringL W H c d) (fun k => k = bz ∨ k = bc ∨ k = bd) w := by
  refine Iter.of ?_
  intro l Y D V S hV hSC hlater hold hY h0
  have zV : V.heap[bz]? = some (.cells #[.int .i64 W, .int .i64 H] 23) := (hV.block bz (Array.getElem?_eq_some_iff.1 hz).1 (fun h => h)).trans hz
  have cV : V.heap[bc]? = some (.cells #[.int .i64 c] 3) := (hV.block bc (Array.getElem?_eq_some_iff.1 hc).1 (fun h => h)).trans hc
  have dV : V.heap[bd]? = some (.cells #[.int .i64 d] 3) := (hV.block bd (Array.getElem?_eq_some_iff.1 hd).1 (fun h => h)).trans hd
  obtain ⟨z0, z1, z0f, z1f⟩ := cell2 zV
  obtain ⟨c0, c0f⟩ := cell1 cV
  obtain ⟨d0, d0f⟩ := cell1 dV
  have zl := (ltF zV).1
  have cl := (ltF cV).1
  have dl := (ltF dV).1
  have hS0 := And.intro (fun h => hSC bz h (.inl rfl)) (And.intro (fun h => hSC bc h (.inr (.inl rfl))) (fun h => hSC bd h (.inr (.inr rfl))))
  obtain ⟨hSz, hSc, hSd⟩ := hS0
  (refine callsIn_of_wp Try.func52 rfl trivial ?_ rfl); simp only [Try.ntmps52, List.size_toArray, List.length_cons, List.length_nil, Nat.reduceAdd, Nat.reduceSub, Array.replicate_succ, Array.replicate_zero, List.push_toArray, List.append_toArray, List.nil_append, List.cons_append]
  by_cases h : InC W H c
  · gi_wp2_with fail
    (refine ⟨trivial, rfl, ?_⟩); (refine CallsIn.mono (callsIn_wide.2 (at_yes W H c _ h)) ?_); rintro e w1 ⟨rfl, hb1⟩; have hz1 := hb1.size; (try simp only [World.size_alloc, World.size_setCell, World.size_drew, World.heap_drewN] at hz1); have z := keepH2 (zV) (by repeat (first | exact Below.refl _ _ | (refine Below.alloc ?_ (by ((try simp only [World.size_alloc, World.size_setCell, World.size_drew, World.heap_drewN]); omega)) _) | (refine Below.drewN' ?_ _) | (refine Below.drew ?_) | (refine Below.setCell ?_ (by ((try simp only [World.size_alloc, World.size_setCell, World.size_drew, World.heap_drewN]); omega)) _) | (refine Below.trans ?_ (Below.mono (by assumption) (by ((try simp only [World.size_alloc, World.size_setCell, World.size_drew, World.heap_drewN]); omega)))))) hb1; (try simp only [World.size_alloc, World.size_setCell, World.size_drew, World.heap_drewN] at z); obtain ⟨z_l0, z_l1, z_l2, z_l3, z_l4⟩ := ltF z; obtain ⟨z_0, z_1, z_0f, z_1f⟩ := cell2 z; have cc := keepH2 (cV) (by repeat (first | exact Below.refl _ _ | (refine Below.alloc ?_ (by ((try simp only [World.size_alloc, World.size_setCell, World.size_drew, World.heap_drewN]); omega)) _) | (refine Below.drewN' ?_ _) | (refine Below.drew ?_) | (refine Below.setCell ?_ (by ((try simp only [World.size_alloc, World.size_setCell, World.size_drew, World.heap_drewN]); omega)) _) | (refine Below.trans ?_ (Below.mono (by assumption) (by ((try simp only [World.size_alloc, World.size_setCell, World.size_drew, World.heap_drewN]); omega)))))) hb1; (try simp only [World.size_alloc, World.size_setCell, World.size_drew, World.heap_drewN] at cc); obtain ⟨cc_l0, cc_l1, cc_l2, cc_l3, cc_l4⟩ := ltF cc; obtain ⟨cc_0, cc_0f⟩ := cell1 cc; have dd := keepH2 (dV) (by repeat (first | exact Below.refl _ _ | (refine Below.alloc ?_ (by ((try simp only [World.size_alloc, World.size_setCell, World.size_drew, World.heap_drewN]); omega)) _) | (refine Below.drewN' ?_ _) | (refine Below.drew ?_) | (refine Below.setCell ?_ (by ((try simp only [World.size_alloc, World.size_setCell, World.size_drew, World.heap_drewN]); omega)) _) | (refine Below.trans ?_ (Below.mono (by assumption) (by ((try simp only [World.size_alloc, World.size_setCell, World.size_drew, World.heap_drewN]); omega)))))) hb1; (try simp only [World.size_alloc, World.size_setCell, World.size_drew, World.heap_drewN] at dd); obtain ⟨dd_l0, dd_l1, dd_l2, dd_l3, dd_l4⟩ := ltF dd; obtain ⟨dd_0, dd_0f⟩ := cell1 dd
    gi_wp2_with fail
    have hfull := Lib.hid (fun (h0 : 0 ≤ d) (h1 : d ≤ lastD W H c) => (show ringL W H c d = ringTo W (c % W) (c / W) d (ringR0 (c / W) d) (ringR1 H (c / W) d - ringR0 (c / W) d + 1).toNat from if_pos ⟨h, h0, h1⟩))
    have hnone := Lib.hid (fun (h0 : ¬ (0 ≤ d ∧ d ≤ lastD W H c)) => (show ringL W H c d = [] from if_neg (fun h => h0 h.2)))
    have HL := Lib.hid (lastD_of h)
    have hlb := lastD_bd W H c
    have hr := h.rt
    obtain ⟨x1, x2, y1, y2, h5⟩ := h.xy
    obtain ⟨m1, m2, m3, m4, m5, m6, m7⟩ := h.bounds
    clear h5
    have hcs : d < 0 ∨ (0 ≤ d ∧ lastD W H c < d) ∨ (0 ≤ d ∧ d ≤ lastD W H c) := by omega
    rcases hcs with h1 | ⟨h1, h2⟩ | ⟨h1, h2⟩
    · have E := Lib.hid (hnone.out (by omega))
      have z_0_q := cell_regrown (z_0); have z_1_q := cell_regrown (z_1); have cc_0_q := cell_regrown (cc_0); have dd_0_q := cell_regrown (dd_0); (refine region_quiet (by kernel_rfl) (by kernel_rfl) ?_); (repeat ((refine wpQuietIn_step (fun _ _ _ _ => trivial) (fun K hK => ?_)); go_simp; first | (refine hK _ ?_; clear hK K) | (apply Exists.intro; refine ⟨fun _ => ?_, hK _ ?_⟩; (first | (with_reducible exact ⟨rfl, CallsIn.regrown_of (callsIn_wide.2 (last_any W H c _))⟩)); clear hK K))); (refine wpQuietIn_nil ?_); intro w2 hb2; have hz2 := hb2.size; (try simp only [World.size_alloc, World.size_setCell, World.size_drew, World.heap_drewN] at hz2); (try clear z_0_q); (try clear z_1_q); (try clear cc_0_q); (try clear dd_0_q); replace z := keepH2 (z) (by repeat (first | exact Below.refl _ _ | (refine Below.alloc ?_ (by ((try simp only [World.size_alloc, World.size_setCell, World.size_drew, World.heap_drewN]); omega)) _) | (refine Below.drewN' ?_ _) | (refine Below.drew ?_) | (refine Below.setCell ?_ (by ((try simp only [World.size_alloc, World.size_setCell, World.size_drew, World.heap_drewN]); omega)) _) | (refine Below.trans ?_ (Below.mono (by assumption) (by ((try simp only [World.size_alloc, World.size_setCell, World.size_drew, World.heap_drewN]); omega)))))) hb2; (try clear z_0); (try clear z_1); (try clear z_0f); (try clear z_1f); (try clear z_l0 z_l1 z_l2 z_l3 z_l4); obtain ⟨z_l0, z_l1, z_l2, z_l3, z_l4⟩ := ltF z; obtain ⟨z_0, z_1, z_0f, z_1f⟩ := cell2 z; replace cc := keepH2 (cc) (by repeat (first | exact Below.refl _ _ | (refine Below.alloc ?_ (by ((try simp only [World.size_alloc, World.size_setCell, World.size_drew, World.heap_drewN]); omega)) _) | (refine Below.drewN' ?_ _) | (refine Below.drew ?_) | (refine Below.setCell ?_ (by ((try simp only [World.size_alloc, World.size_setCell, World.size_drew, World.heap_drewN]); omega)) _) | (refine Below.trans ?_ (Below.mono (by assumption) (by ((try simp only [World.size_alloc, World.size_setCell, World.size_drew, World.heap_drewN]); omega)))))) hb2; (try clear cc_0); (try clear cc_1); (try clear cc_0f); (try clear cc_1f); (try clear cc_l0 cc_l1 cc_l2 cc_l3 cc_l4); obtain ⟨cc_l0, cc_l1, cc_l2, cc_l3, cc_l4⟩ := ltF cc; obtain ⟨cc_0, cc_0f⟩ := cell1 cc; replace dd := keepH2 (dd) (by repeat (first | exact Below.refl _ _ | (refine Below.alloc ?_ (by ((try simp only [World.size_alloc, World.size_setCell, World.size_drew, World.heap_drewN]); omega)) _) | (refine Below.drewN' ?_ _) | (refine Below.drew ?_) | (refine Below.setCell ?_ (by ((try simp only [World.size_alloc, World.size_setCell, World.size_drew, World.heap_drewN]); omega)) _) | (refine Below.trans ?_ (Below.mono (by assumption) (by ((try simp only [World.size_alloc, World.size_setCell, World.size_drew, World.heap_drewN]); omega)))))) hb2; (try clear dd_0); (try clear dd_1); (try clear dd_0f); (try clear dd_1f); (try clear dd_l0 dd_l1 dd_l2 dd_l3 dd_l4); obtain ⟨dd_l0, dd_l1, dd_l2, dd_l3, dd_l4⟩ := ltF dd; obtain ⟨dd_0, dd_0f⟩ := cell1 dd
      gi_wp2_with fail
      refine bodyPost_ret (results_none rfl _ _ _) rfl ?_
      exact ⟨⟨_, rfl⟩, .inl (by rw [E.out]; exact hlater _ _ _ h0 (by repeat (first | exact Below.refl _ _ | (refine Below.alloc ?_ (by ((try simp only [World.size_alloc, World.size_setCell, World.size_drew, World.heap_drewN]); omega)) _) | (refine Below.drewN' ?_ _) | (refine Below.drew ?_) | (refine Below.setCell ?_ (by ((try simp only [World.size_alloc, World.size_setCell, World.size_drew, World.heap_drewN]); omega)) _) | (refine Below.trans ?_ (Below.mono (by assumption) (by ((try simp only [World.size_alloc, World.size_setCell, World.size_drew, World.heap_drewN]); omega)))))))⟩
    · have E := Lib.hid (hnone.out (by omega))
      have z_0_q := cell_regrown (z_0); have z_1_q := cell_regrown (z_1); have cc_0_q := cell_regrown (cc_0); have dd_0_q := cell_regrown (dd_0); (refine region_quiet (by kernel_rfl) (by kernel_rfl) ?_); (repeat ((refine wpQuietIn_step (fun _ _ _ _ => trivial) (fun K hK => ?_)); go_simp; first | (refine hK _ ?_; clear hK K) | (apply Exists.intro; refine ⟨fun _ => ?_, hK _ ?_⟩; (first | (with_reducible exact ⟨rfl, CallsIn.regrown_of (callsIn_wide.2 (last_any W H c _))⟩)); clear hK K))); (refine wpQuietIn_nil ?_); intro w2 hb2; have hz2 := hb2.size; (try simp only [World.size_alloc, World.size_setCell, World.size_drew, World.heap_drewN] at hz2); (try clear z_0_q); (try clear z_1_q); (try clear cc_0_q); (try clear dd_0_q); replace z := keepH2 (z) (by repeat (first | exact Below.refl _ _ | (refine Below.alloc ?_ (by ((try simp only [World.size_alloc, World.size_setCell, World.size_drew, World.heap_drewN]); omega)) _) | (refine Below.drewN' ?_ _) | (refine Below.drew ?_) | (refine Below.setCell ?_ (by ((try simp only [World.size_alloc, World.size_setCell, World.size_drew, World.heap_drewN]); omega)) _) | (refine Below.trans ?_ (Below.mono (by assumption) (by ((try simp only [World.size_alloc, World.size_setCell, World.size_drew, World.heap_drewN]); omega)))))) hb2; (try clear z_0); (try clear z_1); (try clear z_0f); (try clear z_1f); (try clear z_l0 z_l1 z_l2 z_l3 z_l4); obtain ⟨z_l0, z_l1, z_l2, z_l3, z_l4⟩ := ltF z; obtain ⟨z_0, z_1, z_0f, z_1f⟩ := cell2 z; replace cc := keepH2 (cc) (by repeat (first | exact Below.refl _ _ | (refine Below.alloc ?_ (by ((try simp only [World.size_alloc, World.size_setCell, World.size_drew, World.heap_drewN]); omega)) _) | (refine Below.drewN' ?_ _) | (refine Below.drew ?_) | (refine Below.setCell ?_ (by ((try simp only [World.size_alloc, World.size_setCell, World.size_drew, World.heap_drewN]); omega)) _) | (refine Below.trans ?_ (Below.mono (by assumption) (by ((try simp only [World.size_alloc, World.size_setCell, World.size_drew, World.heap_drewN]); omega)))))) hb2; (try clear cc_0); (try clear cc_1); (try clear cc_0f); (try clear cc_1f); (try clear cc_l0 cc_l1 cc_l2 cc_l3 cc_l4); obtain ⟨cc_l0, cc_l1, cc_l2, cc_l3, cc_l4⟩ := ltF cc; obtain ⟨cc_0, cc_0f⟩ := cell1 cc; replace dd := keepH2 (dd) (by repeat (first | exact Below.refl _ _ | (refine Below.alloc ?_ (by ((try simp only [World.size_alloc, World.size_setCell, World.size_drew, World.heap_drewN]); omega)) _) | (refine Below.drewN' ?_ _) | (refine Below.drew ?_) | (refine Below.setCell ?_ (by ((try simp only [World.size_alloc, World.size_setCell, World.size_drew, World.heap_drewN]); omega)) _) | (refine Below.trans ?_ (Below.mono (by assumption) (by ((try simp only [World.size_alloc, World.size_setCell, World.size_drew, World.heap_drewN]); omega)))))) hb2; (try clear dd_0); (try clear dd_1); (try clear dd_0f); (try clear dd_1f); (try clear dd_l0 dd_l1 dd_l2 dd_l3 dd_l4); obtain ⟨dd_l0, dd_l1, dd_l2, dd_l3, dd_l4⟩ := ltF dd; obtain ⟨dd_0, dd_0f⟩ := cell1 dd
      gi_wp2_with fail
      refine bodyPost_ret (results_none rfl _ _ _) rfl ?_
      exact ⟨⟨_, rfl⟩, .inl (by rw [E.out]; exact hlater _ _ _ h0 (by repeat (first | exact Below.refl _ _ | (refine Below.alloc ?_ (by ((try simp only [World.size_alloc, World.size_setCell, World.size_drew, World.heap_drewN]); omega)) _) | (refine Below.drewN' ?_ _) | (refine Below.drew ?_) | (refine Below.setCell ?_ (by ((try simp only [World.size_alloc, World.size_setCell, World.size_drew, World.heap_drewN]); omega)) _) | (refine Below.trans ?_ (Below.mono (by assumption) (by ((try simp only [World.size_alloc, World.size_setCell, World.size_drew, World.heap_drewN]); omega)))))))⟩
    · have E := Lib.hid (hfull.out h1 h2)
      have z_0_q := cell_regrown (z_0); have z_1_q := cell_regrown (z_1); have cc_0_q := cell_regrown (cc_0); have dd_0_q := cell_regrown (dd_0); (refine region_quiet (by kernel_rfl) (by kernel_rfl) ?_); (repeat ((refine wpQuietIn_step (fun _ _ _ _ => trivial) (fun K hK => ?_)); go_simp; first | (refine hK _ ?_; clear hK K) | (apply Exists.intro; refine ⟨fun _ => ?_, hK _ ?_⟩; (first | (with_reducible exact ⟨rfl, CallsIn.regrown_of (callsIn_wide.2 (last_any W H c _))⟩)); clear hK K))); (refine wpQuietIn_nil ?_); intro w2 hb2; have hz2 := hb2.size; (try simp only [World.size_alloc, World.size_setCell, World.size_drew, World.heap_drewN] at hz2); (try clear z_0_q); (try clear z_1_q); (try clear cc_0_q); (try clear dd_0_q); replace z := keepH2 (z) (by repeat (first | exact Below.refl _ _ | (refine Below.alloc ?_ (by ((try simp only [World.size_alloc, World.size_setCell, World.size_drew, World.heap_drewN]); omega)) _) | (refine Below.drewN' ?_ _) | (refine Below.drew ?_) | (refine Below.setCell ?_ (by ((try simp only [World.size_alloc, World.size_setCell, World.size_drew, World.heap_drewN]); omega)) _) | (refine Below.trans ?_ (Below.mono (by assumption) (by ((try simp only [World.size_alloc, World.size_setCell, World.size_drew, World.heap_drewN]); omega)))))) hb2; (try clear z_0); (try clear z_1); (try clear z_0f); (try clear z_1f); (try clear z_l0 z_l1 z_l2 z_l3 z_l4); obtain ⟨z_l0, z_l1, z_l2, z_l3, z_l4⟩ := ltF z; obtain ⟨z_0, z_1, z_0f, z_1f⟩ := cell2 z; replace cc := keepH2 (cc) (by repeat (first | exact Below.refl _ _ | (refine Below.alloc ?_ (by ((try simp only [World.size_alloc, World.size_setCell, World.size_drew, World.heap_drewN]); omega)) _) | (refine Below.drewN' ?_ _) | (refine Below.drew ?_) | (refine Below.setCell ?_ (by ((try simp only [World.size_alloc, World.size_setCell, World.size_drew, World.heap_drewN]); omega)) _) | (refine Below.trans ?_ (Below.mono (by assumption) (by ((try simp only [World.size_alloc, World.size_setCell, World.size_drew, World.heap_drewN]); omega)))))) hb2; (try clear cc_0); (try clear cc_1); (try clear cc_0f); (try clear cc_1f); (try clear cc_l0 cc_l1 cc_l2 cc_l3 cc_l4); obtain ⟨cc_l0, cc_l1, cc_l2, cc_l3, cc_l4⟩ := ltF cc; obtain ⟨cc_0, cc_0f⟩ := cell1 cc; replace dd := keepH2 (dd) (by repeat (first | exact Below.refl _ _ | (refine Below.alloc ?_ (by ((try simp only [World.size_alloc, World.size_setCell, World.size_drew, World.heap_drewN]); omega)) _) | (refine Below.drewN' ?_ _) | (refine Below.drew ?_) | (refine Below.setCell ?_ (by ((try simp only [World.size_alloc, World.size_setCell, World.size_drew, World.heap_drewN]); omega)) _) | (refine Below.trans ?_ (Below.mono (by assumption) (by ((try simp only [World.size_alloc, World.size_setCell, World.size_drew, World.heap_drewN]); omega)))))) hb2; (try clear dd_0); (try clear dd_1); (try clear dd_0f); (try clear dd_1f); (try clear dd_l0 dd_l1 dd_l2 dd_l3 dd_l4); obtain ⟨dd_l0, dd_l1, dd_l2, dd_l3, dd_l4⟩ := ltF dd; obtain ⟨dd_0, dd_0f⟩ := cell1 dd
      have hY2 : Y [] w2 := hlater _ _ _ h0 (by repeat (first | exact Below.refl _ _ | (refine Below.alloc ?_ (by ((try simp only [World.size_alloc, World.size_setCell, World.size_drew, World.heap_drewN]); omega)) _) | (refine Below.drewN' ?_ _) | (refine Below.drew ?_) | (refine Below.setCell ?_ (by ((try simp only [World.size_alloc, World.size_setCell, World.size_drew, World.heap_drewN]); omega)) _) | (refine Below.trans ?_ (Below.mono (by assumption) (by ((try simp only [World.size_alloc, World.size_setCell, World.size_drew, World.heap_drewN]); omega))))))
      have hV2 : V.heap.size ≤ w2.heap.size := by omega
      generalize lastD W H c = ld at *
      clear hfull hnone HL
      generalize hx : c % W = x at *
      generalize hy : c / W = y at *
      clear hx hy
      have hr0 : max (y - d) 0 = ringR0 y d := rfl
      have hr1 : min (y + d) (H - 1) = ringR1 H y d := rfl
      generalize hr0' : ringR0 y d = r0 at *
      generalize hr1' : ringR1 H y d = r1 at *
      obtain ⟨n, hn⟩ : ∃ n : Nat, r1 - r0 + 1 = n := ⟨(r1 - r0 + 1).toNat, by omega⟩
      rw [hn, Int.toNat_natCast] at E
      clear hr0' hr1'
      have HR0 := Lib.hid hr0
      have HR1 := Lib.hid hr1
      have hr00 : 0 ≤ r0 ∧ r0 ≤ y ∧ y - d ≤ r0 ∧ y ≤ r1 ∧ r1 ≤ y + d ∧ r1 ≤ H - 1 := by omega
      clear hr0 hr1
      gi_wp2_with fail
      rw [HR0.out]
      gi_loopw [8] (fun v wr => ∃ k : Nat, (k : Int) ≤ n ∧ v = .int .i64 (r0 + k) ∧ Y (ringTo W x y d r0 k) wr) (fun v wr => (r1 + 1 - intOf v).toNat)
      case atStart => exact ⟨0, by omega, by congr 1 <;> omega, hY2⟩
      case round =>
        obtain ⟨k, hk, rfl, hYr⟩ := hrel
        have hold' := hold _ _ hYr
        have hszr := hold'.size
        replace z := keepM zV hold' zl hSz
        replace cc := keepM cV hold' cl hSc
        replace dd := keepM dV hold' dl hSd
        clear z_0 z_1 z_0f z_1f cc_0 cc_0f dd_0 dd_0f
        obtain ⟨z_0, z_1, z_0f, z_1f⟩ := cell2 z
        obtain ⟨cc_0, cc_0f⟩ := cell1 cc
        obtain ⟨dd_0, dd_0f⟩ := cell1 dd
        obtain ⟨z_l0, z_l1, z_l2, z_l3, z_l4⟩ := ltF z
        obtain ⟨cc_l0, cc_l1, cc_l2, cc_l3, cc_l4⟩ := ltF cc
        obtain ⟨dd_l0, dd_l1, dd_l2, dd_l3, dd_l4⟩ := ltF dd
        clear hb1 hb2 hz1 hz2 hold' hY2
        -- ROUND
        by_cases hkn : k < n
        · have hrow : ∃ row : Int, r0 + (k : Int) = row := ⟨_, rfl⟩
          obtain ⟨row, hrow⟩ := hrow
          have hsn : ringTo W x y d r0 (k + 1) = ringTo W x y d r0 k ++ ringRow W x y d row := by rw [← hrow]; rfl
          obtain ⟨post, hpo⟩ := ringTo_split W x y d r0 k n hkn
          rw [hrow] at hpo
          have hside : ∃ s : Int, d - max (row - y) (y - row) = s := ⟨_, rfl⟩
          obtain ⟨s, hs⟩ := hside
          have hs0 : 0 ≤ s ∧ s ≤ d := by omega
          have hrb0 : 0 ≤ row ∧ row < H := by omega
          have hrw : ∃ Lf Rg : List Int, ringRow W x y d row = Lf ++ Rg ∧ ((InXY W H (x - s) row ∧ Lf = [row * W + (x - s)]) ∨ (¬ InXY W H (x - s) row ∧ Lf = [])) ∧
              ((InXY W H (x + s) row ∧ 0 < s ∧ Rg = [row * W + (x + s)]) ∨ (InXY W H (x + s) row ∧ ¬ 0 < s ∧ Rg = []) ∨ (¬ InXY W H (x + s) row ∧ Rg = [])) := by
            refine ⟨if 0 ≤ x - s ∧ x - s < W then [row * W + (x - s)] else [], if 0 < s ∧ x + s < W then [row * W + (x + s)] else [], by unfold ringRow; rw [hs], ?_, ?_⟩
            · by_cases h : 0 ≤ x - s ∧ x - s < W
              · exact .inl ⟨⟨hr, h.1, h.2, hrb0.1, hrb0.2⟩, if_pos h⟩
              · exact .inr ⟨fun h' => h ⟨h'.2.1, h'.2.2.1⟩, if_neg h⟩
            · by_cases h : x + s < W
              · by_cases h2 : 0 < s
                · exact .inl ⟨⟨hr, by omega, h, hrb0.1, hrb0.2⟩, h2, if_pos ⟨h2, h⟩⟩
                · exact .inr (.inl ⟨⟨hr, by omega, h, hrb0.1, hrb0.2⟩, h2, if_neg (fun h3 => h2 h3.1)⟩)
              · exact .inr (.inr ⟨fun h' => h h'.2.2.1, if_neg (fun h3 => h h3.2)⟩)
          obtain ⟨Lf, Rg, hLR, hleft, hright⟩ := hrw
          rw [hLR] at hsn hpo
          have HSN := Lib.hid hsn
          have HPO := Lib.hid hpo
          have HS := Lib.hid hs
          clear hsn hpo hLR hs
          rw [hrow]
          · skip
            rcases hleft with ⟨hin, hLf⟩ | ⟨hin, hLf⟩
            · have HLf := Lib.hid hLf
              clear hLf
              gi_wp2_with fail
              rw [HS.out]
              (refine ⟨trivial, rfl, ?_⟩); (refine CallsIn.mono (callsIn_wide.2 (index_yes W H _ _ _ hin)) ?_); rintro e w3 ⟨rfl, hb3⟩; have hz3 := hb3.size; (try simp only [World.size_alloc, World.size_setCell, World.size_drew, World.heap_drewN] at hz3); replace z := keepH2 (z) (by repeat (first | exact Below.refl _ _ | (refine Below.alloc ?_ (by ((try simp only [World.size_alloc, World.size_setCell, World.size_drew, World.heap_drewN]); omega)) _) | (refine Below.drewN' ?_ _) | (refine Below.drew ?_) | (refine Below.setCell ?_ (by ((try simp only [World.size_alloc, World.size_setCell, World.size_drew, World.heap_drewN]); omega)) _) | (refine Below.trans ?_ (Below.mono (by assumption) (by ((try simp only [World.size_alloc, World.size_setCell, World.size_drew, World.heap_drewN]); omega)))))) hb3; (try clear z_0); (try clear z_1); (try clear z_0f); (try clear z_1f); (try clear z_l0 z_l1 z_l2 z_l3 z_l4); obtain ⟨z_l0, z_l1, z_l2, z_l3, z_l4⟩ := ltF z; obtain ⟨z_0, z_1, z_0f, z_1f⟩ := cell2 z
              have hY3 := hlater _ _ _ hYr hb3
              obtain ⟨fn, tmps, assign, body, hy, hR⟩ := hY (ringTo W x y d r0 k) (row * W + (x - s)) (Rg ++ post) w3 (by rw [E.out, HPO.out, HLf.out]; simp) hY3
              dsimp only [encI] at hy
              clear hYr
              gi_wp2_with fail
              refine ⟨rfl, hR.mono ?_⟩
              rintro e W4 (⟨rfl, hY4⟩ | ⟨rfl, hD4⟩)
              · rw [← HLf.out] at hY4
                clear hy hR hb3 hz3
                replace z := keepM zV (hold _ _ hY4) zl hSz
                clear z_0 z_1 z_0f z_1f
                obtain ⟨z_0, z_1, z_0f, z_1f⟩ := cell2 z
                obtain ⟨z_l0, z_l1, z_l2, z_l3, z_l4⟩ := ltF z
                rcases hright with ⟨hin2, hs0, hRg⟩ | ⟨hin2, hs0, hRg⟩ | ⟨hin2, hRg⟩
                · have HRg := Lib.hid hRg
                  clear hRg
                  gi_wp2_with fail
                  (refine ⟨trivial, rfl, ?_⟩); (refine CallsIn.mono (callsIn_wide.2 (index_yes W H _ _ _ hin2)) ?_); rintro e w5 ⟨rfl, hb5⟩; have hz5 := hb5.size; (try simp only [World.size_alloc, World.size_setCell, World.size_drew, World.heap_drewN] at hz5); replace z := keepH2 (z) (by repeat (first | exact Below.refl _ _ | (refine Below.alloc ?_ (by ((try simp only [World.size_alloc, World.size_setCell, World.size_drew, World.heap_drewN]); omega)) _) | (refine Below.drewN' ?_ _) | (refine Below.drew ?_) | (refine Below.setCell ?_ (by ((try simp only [World.size_alloc, World.size_setCell, World.size_drew, World.heap_drewN]); omega)) _) | (refine Below.trans ?_ (Below.mono (by assumption) (by ((try simp only [World.size_alloc, World.size_setCell, World.size_drew, World.heap_drewN]); omega)))))) hb5; (try clear z_0); (try clear z_1); (try clear z_0f); (try clear z_1f); (try clear z_l0 z_l1 z_l2 z_l3 z_l4); obtain ⟨z_l0, z_l1, z_l2, z_l3, z_l4⟩ := ltF z; obtain ⟨z_0, z_1, z_0f, z_1f⟩ := cell2 z
                  have hY5 := hlater _ _ _ hY4 hb5
                  obtain ⟨fn, tmps, assign, body, hy, hR⟩ := hY (ringTo W x y d r0 k ++ Lf) (row * W + (x + s)) post w5 (by rw [E.out, HPO.out, HRg.out]; simp) hY5
                  dsimp only [encI] at hy
                  clear hY4
                  gi_wp2_with fail
                  refine ⟨rfl, hR.mono ?_⟩
                  rintro e W6 (⟨rfl, hY6⟩ | ⟨rfl, hD6⟩)
                  · gi_wp2_with fail
                    go_roundw
                    case rel => exact ⟨k + 1, by omega, by congr 1; omega, by rw [HSN.out, HRg.out]; simpa using hY6⟩
                    case measure => simp only [intOf]; omega
                  · gi_wp2_with fail
                    refine bodyPost_ret (results_none rfl _ _ _) rfl ?_
                    exact ⟨⟨_, rfl⟩, .inr hD6⟩
                · have HRg := Lib.hid hRg
                  clear hRg
                  gi_wp2_with fail
                  (refine ⟨trivial, rfl, ?_⟩); (refine CallsIn.mono (callsIn_wide.2 (index_yes W H _ _ _ hin2)) ?_); rintro e w5 ⟨rfl, hb5⟩; have hz5 := hb5.size; (try simp only [World.size_alloc, World.size_setCell, World.size_drew, World.heap_drewN] at hz5); replace z := keepH2 (z) (by repeat (first | exact Below.refl _ _ | (refine Below.alloc ?_ (by ((try simp only [World.size_alloc, World.size_setCell, World.size_drew, World.heap_drewN]); omega)) _) | (refine Below.drewN' ?_ _) | (refine Below.drew ?_) | (refine Below.setCell ?_ (by ((try simp only [World.size_alloc, World.size_setCell, World.size_drew, World.heap_drewN]); omega)) _) | (refine Below.trans ?_ (Below.mono (by assumption) (by ((try simp only [World.size_alloc, World.size_setCell, World.size_drew, World.heap_drewN]); omega)))))) hb5; (try clear z_0); (try clear z_1); (try clear z_0f); (try clear z_1f); (try clear z_l0 z_l1 z_l2 z_l3 z_l4); obtain ⟨z_l0, z_l1, z_l2, z_l3, z_l4⟩ := ltF z; obtain ⟨z_0, z_1, z_0f, z_1f⟩ := cell2 z
                  have hY5 := hlater _ _ _ hY4 hb5
                  clear hY4
                  gi_wp2_with fail
                  refine ⟨fun _ h => (by cases h), ?_⟩
                  gi_wp2_with fail
                  go_roundw
                  case rel => exact ⟨k + 1, by omega, by congr 1; omega, by rw [HSN.out, HRg.out]; simpa using hY5⟩
                  case measure => simp only [intOf]; omega
                · have HRg := Lib.hid hRg
                  clear hRg
                  gi_wp2_with fail
                  (refine ⟨trivial, rfl, ?_⟩); (refine CallsIn.mono (callsIn_wide.2 (index_no W H _ _ _ hin2)) ?_); rintro e w5 ⟨rfl, hb5⟩; have hz5 := hb5.size; (try simp only [World.size_alloc, World.size_setCell, World.size_drew, World.heap_drewN] at hz5); replace z := keepH2 (z) (by repeat (first | exact Below.refl _ _ | (refine Below.alloc ?_ (by ((try simp only [World.size_alloc, World.size_setCell, World.size_drew, World.heap_drewN]); omega)) _) | (refine Below.drewN' ?_ _) | (refine Below.drew ?_) | (refine Below.setCell ?_ (by ((try simp only [World.size_alloc, World.size_setCell, World.size_drew, World.heap_drewN]); omega)) _) | (refine Below.trans ?_ (Below.mono (by assumption) (by ((try simp only [World.size_alloc, World.size_setCell, World.size_drew, World.heap_drewN]); omega)))))) hb5; (try clear z_0); (try clear z_1); (try clear z_0f); (try clear z_1f); (try clear z_l0 z_l1 z_l2 z_l3 z_l4); obtain ⟨z_l0, z_l1, z_l2, z_l3, z_l4⟩ := ltF z; obtain ⟨z_0, z_1, z_0f, z_1f⟩ := cell2 z
                  have hY5 := hlater _ _ _ hY4 hb5
                  clear hY4
                  gi_wp2_with fail
                  refine ⟨fun _ h => (by cases h), ?_⟩
                  gi_wp2_with fail
                  go_roundw
                  case rel => exact ⟨k + 1, by omega, by congr 1; omega, by rw [HSN.out, HRg.out]; simpa using hY5⟩
                  case measure => simp only [intOf]; omega
              · gi_wp2_with fail
                refine bodyPost_ret (results_none rfl _ _ _) rfl ?_
                exact ⟨⟨_, rfl⟩, .inr hD4⟩
            · have HLf := Lib.hid hLf
              clear hLf
              gi_wp2_with fail
              rw [HS.out]
              (refine ⟨trivial, rfl, ?_⟩); (refine CallsIn.mono (callsIn_wide.2 (index_no W H _ _ _ hin)) ?_); rintro e w3 ⟨rfl, hb3⟩; have hz3 := hb3.size; (try simp only [World.size_alloc, World.size_setCell, World.size_drew, World.heap_drewN] at hz3); replace z := keepH2 (z) (by repeat (first | exact Below.refl _ _ | (refine Below.alloc ?_ (by ((try simp only [World.size_alloc, World.size_setCell, World.size_drew, World.heap_drewN]); omega)) _) | (refine Below.drewN' ?_ _) | (refine Below.drew ?_) | (refine Below.setCell ?_ (by ((try simp only [World.size_alloc, World.size_setCell, World.size_drew, World.heap_drewN]); omega)) _) | (refine Below.trans ?_ (Below.mono (by assumption) (by ((try simp only [World.size_alloc, World.size_setCell, World.size_drew, World.heap_drewN]); omega)))))) hb3; (try clear z_0); (try clear z_1); (try clear z_0f); (try clear z_1f); (try clear z_l0 z_l1 z_l2 z_l3 z_l4); obtain ⟨z_l0, z_l1, z_l2, z_l3, z_l4⟩ := ltF z; obtain ⟨z_0, z_1, z_0f, z_1f⟩ := cell2 z
              have hY4 : Y (ringTo W x y d r0 k ++ Lf) w3 := by rw [HLf.out, List.append_nil]; exact hlater _ _ _ hYr hb3
              obtain ⟨W4, rfl⟩ : ∃ W4 : World, W4 = w3 := ⟨_, rfl⟩
              clear hYr hb3 hz3
              gi_wp2_with fail
              refine ⟨fun _ h => (by cases h), ?_⟩
              replace z := keepM zV (hold _ _ hY4) zl hSz
              clear z_0 z_1 z_0f z_1f
              obtain ⟨z_0, z_1, z_0f, z_1f⟩ := cell2 z
              obtain ⟨z_l0, z_l1, z_l2, z_l3, z_l4⟩ := ltF z
              rcases hright with ⟨hin2, hs0, hRg⟩ | ⟨hin2, hs0, hRg⟩ | ⟨hin2, hRg⟩
              · have HRg := Lib.hid hRg
                clear hRg
                gi_wp2_with fail
                (refine ⟨trivial, rfl, ?_⟩); (refine CallsIn.mono (callsIn_wide.2 (index_yes W H _ _ _ hin2)) ?_); rintro e w5 ⟨rfl, hb5⟩; have hz5 := hb5.size; (try simp only [World.size_alloc, World.size_setCell, World.size_drew, World.heap_drewN] at hz5); replace z := keepH2 (z) (by repeat (first | exact Below.refl _ _ | (refine Below.alloc ?_ (by ((try simp only [World.size_alloc, World.size_setCell, World.size_drew, World.heap_drewN]); omega)) _) | (refine Below.drewN' ?_ _) | (refine Below.drew ?_) | (refine Below.setCell ?_ (by ((try simp only [World.size_alloc, World.size_setCell, World.size_drew, World.heap_drewN]); omega)) _) | (refine Below.trans ?_ (Below.mono (by assumption) (by ((try simp only [World.size_alloc, World.size_setCell, World.size_drew, World.heap_drewN]); omega)))))) hb5; (try clear z_0); (try clear z_1); (try clear z_0f); (try clear z_1f); (try clear z_l0 z_l1 z_l2 z_l3 z_l4); obtain ⟨z_l0, z_l1, z_l2, z_l3, z_l4⟩ := ltF z; obtain ⟨z_0, z_1, z_0f, z_1f⟩ := cell2 z
                have hY5 := hlater _ _ _ hY4 hb5
                obtain ⟨fn, tmps, assign, body, hy, hR⟩ := hY (ringTo W x y d r0 k ++ Lf) (row * W + (x + s)) post w5 (by rw [E.out, HPO.out, HRg.out]; simp) hY5
                dsimp only [encI] at hy
                clear hY4
                gi_wp2_with fail
                refine ⟨rfl, hR.mono ?_⟩
                rintro e W6 (⟨rfl, hY6⟩ | ⟨rfl, hD6⟩)
                · gi_wp2_with fail
                  go_roundw
                  case rel => exact ⟨k + 1, by omega, by congr 1; omega, by rw [HSN.out, HRg.out]; simpa using hY6⟩
                  case measure => simp only [intOf]; omega
                · gi_wp2_with fail
                  refine bodyPost_ret (results_none rfl _ _ _) rfl ?_
                  exact ⟨⟨_, rfl⟩, .inr hD6⟩
              · have HRg := Lib.hid hRg
                clear hRg
                gi_wp2_with fail
                (refine ⟨trivial, rfl, ?_⟩); (refine CallsIn.mono (callsIn_wide.2 (index_yes W H _ _ _ hin2)) ?_); rintro e w5 ⟨rfl, hb5⟩; have hz5 := hb5.size; (try simp only [World.size_alloc, World.size_setCell, World.size_drew, World.heap_drewN] at hz5); replace z := keepH2 (z) (by repeat (first | exact Below.refl _ _ | (refine Below.alloc ?_ (by ((try simp only [World.size_alloc, World.size_setCell, World.size_drew, World.heap_drewN]); omega)) _) | (refine Below.drewN' ?_ _) | (refine Below.drew ?_) | (refine Below.setCell ?_ (by ((try simp only [World.size_alloc, World.size_setCell, World.size_drew, World.heap_drewN]); omega)) _) | (refine Below.trans ?_ (Below.mono (by assumption) (by ((try simp only [World.size_alloc, World.size_setCell, World.size_drew, World.heap_drewN]); omega)))))) hb5; (try clear z_0); (try clear z_1); (try clear z_0f); (try clear z_1f); (try clear z_l0 z_l1 z_l2 z_l3 z_l4); obtain ⟨z_l0, z_l1, z_l2, z_l3, z_l4⟩ := ltF z; obtain ⟨z_0, z_1, z_0f, z_1f⟩ := cell2 z
                have hY5 := hlater _ _ _ hY4 hb5
                clear hY4
                gi_wp2_with fail
                refine ⟨fun _ h => (by cases h), ?_⟩
                gi_wp2_with fail
                go_roundw
                case rel => exact ⟨k + 1, by omega, by congr 1; omega, by rw [HSN.out, HRg.out]; simpa using hY5⟩
                case measure => simp only [intOf]; omega
              · have HRg := Lib.hid hRg
                clear hRg
                gi_wp2_with fail
                (refine ⟨trivial, rfl, ?_⟩); (refine CallsIn.mono (callsIn_wide.2 (index_no W H _ _ _ hin2)) ?_); rintro e w5 ⟨rfl, hb5⟩; have hz5 := hb5.size; (try simp only [World.size_alloc, World.size_setCell, World.size_drew, World.heap_drewN] at hz5); replace z := keepH2 (z) (by repeat (first | exact Below.refl _ _ | (refine Below.alloc ?_ (by ((try simp only [World.size_alloc, World.size_setCell, World.size_drew, World.heap_drewN]); omega)) _) | (refine Below.drewN' ?_ _) | (refine Below.drew ?_) | (refine Below.setCell ?_ (by ((try simp only [World.size_alloc, World.size_setCell, World.size_drew, World.heap_drewN]); omega)) _) | (refine Below.trans ?_ (Below.mono (by assumption) (by ((try simp only [World.size_alloc, World.size_setCell, World.size_drew, World.heap_drewN]); omega)))))) hb5; (try clear z_0); (try clear z_1); (try clear z_0f); (try clear z_1f); (try clear z_l0 z_l1 z_l2 z_l3 z_l4); obtain ⟨z_l0, z_l1, z_l2, z_l3, z_l4⟩ := ltF z; obtain ⟨z_0, z_1, z_0f, z_1f⟩ := cell2 z
                have hY5 := hlater _ _ _ hY4 hb5
                clear hY4
                gi_wp2_with fail
                refine ⟨fun _ h => (by cases h), ?_⟩
                gi_wp2_with fail
                go_roundw
                case rel => exact ⟨k + 1, by omega, by congr 1; omega, by rw [HSN.out, HRg.out]; simpa using hY5⟩
                case measure => simp only [intOf]; omega
        · have hke : k = n := by omega
          rw [hke] at hYr
          have hr1 := HR1.out
          · gi_wp2_with fail
            refine bodyPost_end (results_none rfl _ _ _) rfl ?_
            exact ⟨⟨_, rfl⟩, .inl (by rw [E.out]; exact hYr)⟩
  · have E := Lib.hid (show ringL W H c d = [] from if_neg (fun h' => h h'.1))
    gi_wp2_with fail
    (refine ⟨trivial, rfl, ?_⟩); (refine CallsIn.mono (callsIn_wide.2 (at_no W H c _ h)) ?_); rintro e w1 ⟨rfl, hb1⟩; have hz1 := hb1.size; (try simp only [World.size_alloc, World.size_setCell, World.size_drew, World.heap_drewN] at hz1); have z := keepH2 (zV) (by repeat (first | exact Below.refl _ _ | (refine Below.alloc ?_ (by ((try simp only [World.size_alloc, World.size_setCell, World.size_drew, World.heap_drewN]); omega)) _) | (refine Below.drewN' ?_ _) | (refine Below.drew ?_) | (refine Below.setCell ?_ (by ((try simp only [World.size_alloc, World.size_setCell, World.size_drew, World.heap_drewN]); omega)) _) | (refine Below.trans ?_ (Below.mono (by assumption) (by ((try simp only [World.size_alloc, World.size_setCell, World.size_drew, World.heap_drewN]); omega)))))) hb1; (try simp only [World.size_alloc, World.size_setCell, World.size_drew, World.heap_drewN] at z); obtain ⟨z_l0, z_l1, z_l2, z_l3, z_l4⟩ := ltF z; obtain ⟨z_0, z_1, z_0f, z_1f⟩ := cell2 z; have cc := keepH2 (cV) (by repeat (first | exact Below.refl _ _ | (refine Below.alloc ?_ (by ((try simp only [World.size_alloc, World.size_setCell, World.size_drew, World.heap_drewN]); omega)) _) | (refine Below.drewN' ?_ _) | (refine Below.drew ?_) | (refine Below.setCell ?_ (by ((try simp only [World.size_alloc, World.size_setCell, World.size_drew, World.heap_drewN]); omega)) _) | (refine Below.trans ?_ (Below.mono (by assumption) (by ((try simp only [World.size_alloc, World.size_setCell, World.size_drew, World.heap_drewN]); omega)))))) hb1; (try simp only [World.size_alloc, World.size_setCell, World.size_drew, World.heap_drewN] at cc); obtain ⟨cc_l0, cc_l1, cc_l2, cc_l3, cc_l4⟩ := ltF cc; obtain ⟨cc_0, cc_0f⟩ := cell1 cc; have dd := keepH2 (dV) (by repeat (first | exact Below.refl _ _ | (refine Below.alloc ?_ (by ((try simp only [World.size_alloc, World.size_setCell, World.size_drew, World.heap_drewN]); omega)) _) | (refine Below.drewN' ?_ _) | (refine Below.drew ?_) | (refine Below.setCell ?_ (by ((try simp only [World.size_alloc, World.size_setCell, World.size_drew, World.heap_drewN]); omega)) _) | (refine Below.trans ?_ (Below.mono (by assumption) (by ((try simp only [World.size_alloc, World.size_setCell, World.size_drew, World.heap_drewN]); omega)))))) hb1; (try simp only [World.size_alloc, World.size_setCell, World.size_drew, World.heap_drewN] at dd); obtain ⟨dd_l0, dd_l1, dd_l2, dd_l3, dd_l4⟩ := ltF dd; obtain ⟨dd_0, dd_0f⟩ := cell1 dd
    gi_wp2_with fail
    have z_0_q := cell_regrown (z_0); have z_1_q := cell_regrown (z_1); have cc_0_q := cell_regrown (cc_0); have dd_0_q := cell_regrown (dd_0); (refine region_quiet (by kernel_rfl) (by kernel_rfl) ?_); (repeat ((refine wpQuietIn_step (fun _ _ _ _ => trivial) (fun K hK => ?_)); go_simp; first | (refine hK _ ?_; clear hK K) | (apply Exists.intro; refine ⟨fun _ => ?_, hK _ ?_⟩; (first | (with_reducible exact ⟨rfl, CallsIn.regrown_of (callsIn_wide.2 (last_any W H c _))⟩)); clear hK K))); (refine wpQuietIn_nil ?_); intro w2 hb2; have hz2 := hb2.size; (try simp only [World.size_alloc, World.size_setCell, World.size_drew, World.heap_drewN] at hz2); (try clear z_0_q); (try clear z_1_q); (try clear cc_0_q); (try clear dd_0_q); replace z := keepH2 (z) (by repeat (first | exact Below.refl _ _ | (refine Below.alloc ?_ (by ((try simp only [World.size_alloc, World.size_setCell, World.size_drew, World.heap_drewN]); omega)) _) | (refine Below.drewN' ?_ _) | (refine Below.drew ?_) | (refine Below.setCell ?_ (by ((try simp only [World.size_alloc, World.size_setCell, World.size_drew, World.heap_drewN]); omega)) _) | (refine Below.trans ?_ (Below.mono (by assumption) (by ((try simp only [World.size_alloc, World.size_setCell, World.size_drew, World.heap_drewN]); omega)))))) hb2; (try clear z_0); (try clear z_1); (try clear z_0f); (try clear z_1f); (try clear z_l0 z_l1 z_l2 z_l3 z_l4); obtain ⟨z_l0, z_l1, z_l2, z_l3, z_l4⟩ := ltF z; obtain ⟨z_0, z_1, z_0f, z_1f⟩ := cell2 z; replace cc := keepH2 (cc) (by repeat (first | exact Below.refl _ _ | (refine Below.alloc ?_ (by ((try simp only [World.size_alloc, World.size_setCell, World.size_drew, World.heap_drewN]); omega)) _) | (refine Below.drewN' ?_ _) | (refine Below.drew ?_) | (refine Below.setCell ?_ (by ((try simp only [World.size_alloc, World.size_setCell, World.size_drew, World.heap_drewN]); omega)) _) | (refine Below.trans ?_ (Below.mono (by assumption) (by ((try simp only [World.size_alloc, World.size_setCell, World.size_drew, World.heap_drewN]); omega)))))) hb2; (try clear cc_0); (try clear cc_1); (try clear cc_0f); (try clear cc_1f); (try clear cc_l0 cc_l1 cc_l2 cc_l3 cc_l4); obtain ⟨cc_l0, cc_l1, cc_l2, cc_l3, cc_l4⟩ := ltF cc; obtain ⟨cc_0, cc_0f⟩ := cell1 cc; replace dd := keepH2 (dd) (by repeat (first | exact Below.refl _ _ | (refine Below.alloc ?_ (by ((try simp only [World.size_alloc, World.size_setCell, World.size_drew, World.heap_drewN]); omega)) _) | (refine Below.drewN' ?_ _) | (refine Below.drew ?_) | (refine Below.setCell ?_ (by ((try simp only [World.size_alloc, World.size_setCell, World.size_drew, World.heap_drewN]); omega)) _) | (refine Below.trans ?_ (Below.mono (by assumption) (by ((try simp only [World.size_alloc, World.size_setCell, World.size_drew, World.heap_drewN]); omega)))))) hb2; (try clear dd_0); (try clear dd_1); (try clear dd_0f); (try clear dd_1f); (try clear dd_l0 dd_l1 dd_l2 dd_l3 dd_l4); obtain ⟨dd_l0, dd_l1, dd_l2, dd_l3, dd_l4⟩ := ltF dd; obtain ⟨dd_0, dd_0f⟩ := cell1 dd
    gi_wp2_with fail
    refine bodyPost_ret (results_none rfl _ _ _) rfl ?_
    exact ⟨⟨_, rfl⟩, .inl (by rw [E.out]; exact hlater _ _ _ h0 (by repeat (first | exact Below.refl _ _ | (refine Below.alloc ?_ (by ((try simp only [World.size_alloc, World.size_setCell, World.size_drew, World.heap_drewN]); omega)) _) | (refine Below.drewN' ?_ _) | (refine Below.drew ?_) | (refine Below.setCell ?_ (by ((try simp only [World.size_alloc, World.size_setCell, World.size_drew, World.heap_drewN]); omega)) _) | (refine Below.trans ?_ (Below.mono (by assumption) (by ((try simp only [World.size_alloc, World.size_setCell, World.size_drew, World.heap_drewN]); omega)))))))⟩
end Go.Proofs.Ytekpjmdkihnpeaa
