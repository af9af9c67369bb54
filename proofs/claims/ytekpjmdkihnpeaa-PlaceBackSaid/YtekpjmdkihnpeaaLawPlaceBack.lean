/- The walk of PlaceBack. -/
import Derived.Test.YtekpjmdkihnpeaaAwake1
import Derived.Test.YtekpjmdkihnpeaaQuiet
import Derived.Test.YtekpjmdkihnpeaaPure2
namespace Go.Proofs.Ytekpjmdkihnpeaa
set_option linter.unusedSimpArgs false
set_option linter.unusedVariables false
open Go.RowKit Go.Shelf Go.Sort

attribute [local go_sem] Oper.semAt_some

theorem kw_bounds (k : Nat) (W : Int) {H : Int} (h1 : (k : Int) < H) (h2 : 1 ≤ W) (h3 : W ≤ 40) (h4 : H ≤ 40) : 0 ≤ (k : Int) * W ∧ (k : Int) * W ≤ 1600 ∧ (k : Int) * W + W = ((k + 1 : Nat) : Int) * W := by
  have a : 0 * W ≤ (k : Int) * W := Int.mul_le_mul_of_nonneg_right (by omega) (by omega)
  have b : (k : Int) * W ≤ 40 * W := Int.mul_le_mul_of_nonneg_right (by omega) (by omega)
  have c : ((k + 1 : Nat) : Int) * W = (k : Int) * W + W := by rw [Int.natCast_add, Int.add_mul]; simp
  omega

set_option maxRecDepth 100000 in
set_option maxHeartbeats 8000000 in
/-- The last part: the sizes up to 40 by 40. -/

theorem walk_PlaceBack (z_W : Int) (z_H : Int) (cell : Int) (x : Int) (y : Int) (w_z_W : (Lit.int .i64 z_W).wf = true) (w_z_H : (Lit.int .i64 z_H).wf = true) (w_cell : (Lit.int .i64 cell).wf = true) (w_x : (Lit.int .i64 x).wf = true) (w_y : (Lit.int .i64 y).wf = true) (w : World) :
    Calls Try.prog 5 #[.agg #[.int .i64 z_W, .int .i64 z_H], .int .i64 cell, .int .i64 x, .int .i64 y] w fun e w' => e = .returned (.bool true) ∧ Below w.heap.size w w' := by
  refine calls_of_wide ?_
  have hA : (atB z_W z_H cell = true ∧ InXY z_W z_H (cell % z_W) (cell / z_W) ∧ atX z_W z_H cell = cell % z_W ∧ atY z_W z_H cell = cell / z_W ∧ cell / z_W * z_W + cell % z_W = cell ∧ cell < cnt z_W z_H) ∨ atB z_W z_H cell = false := by
    by_cases h : InC z_W z_H cell
    · exact .inl ⟨decide_eq_true h, h.inXY, if_pos h, if_pos h, h.xy.2.2.2.2, h.2⟩
    · exact .inr (decide_eq_false h)
  have hX : (ixB z_W z_H x y = true ∧ InC z_W z_H (y * z_W + x) ∧ ixV z_W z_H x y = y * z_W + x ∧ (y * z_W + x) % z_W = x ∧ (y * z_W + x) / z_W = y) ∨ ixB z_W z_H x y = false := by
    by_cases h : InXY z_W z_H x y
    · exact .inl ⟨decide_eq_true h, h.inC, if_pos h, xy_mod h.2.1 h.2.2.1, xy_div h.2.1 h.2.2.1⟩
    · exact .inr (decide_eq_false h)
  have hS : (cnt z_W z_H ≤ 0) ∨ (0 < cnt z_W z_H ∧ 40 < z_W) ∨ (0 < cnt z_W z_H ∧ z_W ≤ 40 ∧ 40 < z_H) ∨ (0 < cnt z_W z_H ∧ z_W ≤ 40 ∧ z_H ≤ 40) := by omega
  (refine callsIn_of_wp Try.func5 rfl trivial ?_ rfl); simp only [Try.ntmps5, List.size_toArray, List.length_cons, List.length_nil, Nat.reduceAdd, Nat.reduceSub, Array.replicate_succ, Array.replicate_zero, List.push_toArray, List.append_toArray, List.nil_append, List.cons_append]
  gi_wp2_with fail
  (refine ⟨trivial, rfl, ?_⟩); (refine CallsIn.mono (callsIn_wide.2 (awake1_any _)) ?_); rintro e w1 ⟨rfl, hb1⟩; have hz1 := hb1.size; (try simp only [World.size_alloc, World.size_setCell, World.size_drew, World.heap_drewN] at hz1); have z := keepH2 (World.alloc_heap_new w _) (by repeat (first | exact Below.refl _ _ | (refine Below.alloc ?_ (by ((try simp only [World.size_alloc, World.size_setCell, World.size_drew, World.heap_drewN]); omega)) _) | (refine Below.drewN' ?_ _) | (refine Below.drew ?_) | (refine Below.setCell ?_ (by ((try simp only [World.size_alloc, World.size_setCell, World.size_drew, World.heap_drewN]); omega)) _) | (refine Below.trans ?_ (Below.mono (by assumption) (by ((try simp only [World.size_alloc, World.size_setCell, World.size_drew, World.heap_drewN]); omega)))))) hb1; (try simp only [World.size_alloc, World.size_setCell, World.size_drew, World.heap_drewN] at z); obtain ⟨z_l0, z_l1, z_l2, z_l3, z_l4⟩ := ltF z; obtain ⟨z_0, z_1, z_0f, z_1f⟩ := cell2 z
  gi_wp2_with fail
  (refine ⟨trivial, rfl, ?_⟩); (refine CallsIn.mono (callsIn_wide.2 (at_any z_W z_H cell _)) ?_); rintro e w2 ⟨rfl, hb2⟩; have hz2 := hb2.size; (try simp only [World.size_alloc, World.size_setCell, World.size_drew, World.heap_drewN] at hz2); replace z := keepH2 (z) (by repeat (first | exact Below.refl _ _ | (refine Below.alloc ?_ (by ((try simp only [World.size_alloc, World.size_setCell, World.size_drew, World.heap_drewN]); omega)) _) | (refine Below.drewN' ?_ _) | (refine Below.drew ?_) | (refine Below.setCell ?_ (by ((try simp only [World.size_alloc, World.size_setCell, World.size_drew, World.heap_drewN]); omega)) _) | (refine Below.trans ?_ (Below.mono (by assumption) (by ((try simp only [World.size_alloc, World.size_setCell, World.size_drew, World.heap_drewN]); omega)))))) hb2; (try clear z_0); (try clear z_1); (try clear z_0f); (try clear z_1f); (try clear z_l0 z_l1 z_l2 z_l3 z_l4); obtain ⟨z_l0, z_l1, z_l2, z_l3, z_l4⟩ := ltF z; obtain ⟨z_0, z_1, z_0f, z_1f⟩ := cell2 z
  rcases hA with ⟨a1, a2, a3, a4, a5, a6⟩ | a1
  case' inl =>
    have A5 := Lib.hid a5
    have A3 := Lib.hid a3
    have A4 := Lib.hid a4
    clear a5 a3 a4
    gi_wp2_with fail
    rw [A3.out, A4.out]
    (refine ⟨trivial, rfl, ?_⟩); (refine CallsIn.mono (callsIn_wide.2 (index_yes z_W z_H (cell % z_W) (cell / z_W) _ a2)) ?_); rintro e w3 ⟨rfl, hb3⟩; have hz3 := hb3.size; (try simp only [World.size_alloc, World.size_setCell, World.size_drew, World.heap_drewN] at hz3); replace z := keepH2 (z) (by repeat (first | exact Below.refl _ _ | (refine Below.alloc ?_ (by ((try simp only [World.size_alloc, World.size_setCell, World.size_drew, World.heap_drewN]); omega)) _) | (refine Below.drewN' ?_ _) | (refine Below.drew ?_) | (refine Below.setCell ?_ (by ((try simp only [World.size_alloc, World.size_setCell, World.size_drew, World.heap_drewN]); omega)) _) | (refine Below.trans ?_ (Below.mono (by assumption) (by ((try simp only [World.size_alloc, World.size_setCell, World.size_drew, World.heap_drewN]); omega)))))) hb3; (try clear z_0); (try clear z_1); (try clear z_0f); (try clear z_1f); (try clear z_l0 z_l1 z_l2 z_l3 z_l4); obtain ⟨z_l0, z_l1, z_l2, z_l3, z_l4⟩ := ltF z; obtain ⟨z_0, z_1, z_0f, z_1f⟩ := cell2 z
    rw [A5.out]
    gi_wp2_with fail
    (refine ⟨trivial, rfl, ?_⟩); (refine CallsIn.mono (callsIn_wide.2 (cells_any z_W z_H _)) ?_); rintro e w9 ⟨rfl, hb9⟩; have hz9 := hb9.size; (try simp only [World.size_alloc, World.size_setCell, World.size_drew, World.heap_drewN] at hz9); replace z := keepH2 (z) (by repeat (first | exact Below.refl _ _ | (refine Below.alloc ?_ (by ((try simp only [World.size_alloc, World.size_setCell, World.size_drew, World.heap_drewN]); omega)) _) | (refine Below.drewN' ?_ _) | (refine Below.drew ?_) | (refine Below.setCell ?_ (by ((try simp only [World.size_alloc, World.size_setCell, World.size_drew, World.heap_drewN]); omega)) _) | (refine Below.trans ?_ (Below.mono (by assumption) (by ((try simp only [World.size_alloc, World.size_setCell, World.size_drew, World.heap_drewN]); omega)))))) hb9; (try clear z_0); (try clear z_1); (try clear z_0f); (try clear z_1f); (try clear z_l0 z_l1 z_l2 z_l3 z_l4); obtain ⟨z_l0, z_l1, z_l2, z_l3, z_l4⟩ := ltF z; obtain ⟨z_0, z_1, z_0f, z_1f⟩ := cell2 z
    clear a2 A3 A4 A5
    gi_wp2_with fail
  case' inr =>
    gi_wp2_with fail
    obtain ⟨w9, rfl⟩ : ∃ w9, w9 = w2 := ⟨_, rfl⟩
  all_goals
    have hb9w : Below w.heap.size w w9 := (by repeat (first | exact Below.refl _ _ | (refine Below.alloc ?_ (by ((try simp only [World.size_alloc, World.size_setCell, World.size_drew, World.heap_drewN]); omega)) _) | (refine Below.drewN' ?_ _) | (refine Below.drew ?_) | (refine Below.setCell ?_ (by ((try simp only [World.size_alloc, World.size_setCell, World.size_drew, World.heap_drewN]); omega)) _) | (refine Below.trans ?_ (Below.mono (by assumption) (by ((try simp only [World.size_alloc, World.size_setCell, World.size_drew, World.heap_drewN]); omega))))))
    clear z_l0 z_l1 z_l2 z_l3 z_l4 z_0 z_1 z_0f z_1f
  all_goals rcases hX with ⟨x1, x2, x3, x4, x5⟩ | x1
  case' inl.inl | inr.inl =>
    have hxy : InXY z_W z_H x y := of_decide_eq_true x1
    have X4 := Lib.hid x4
    have X5 := Lib.hid x5
    clear x3 x4 x5
    (refine ⟨trivial, rfl, ?_⟩); (refine CallsIn.mono (callsIn_wide.2 (index_yes z_W z_H x y _ hxy)) ?_); rintro e w10 ⟨rfl, hb10⟩; have hz10 := hb10.size; (try simp only [World.size_alloc, World.size_setCell, World.size_drew, World.heap_drewN] at hz10); replace z := keepH2 (z) (by repeat (first | exact Below.refl _ _ | (refine Below.alloc ?_ (by ((try simp only [World.size_alloc, World.size_setCell, World.size_drew, World.heap_drewN]); omega)) _) | (refine Below.drewN' ?_ _) | (refine Below.drew ?_) | (refine Below.setCell ?_ (by ((try simp only [World.size_alloc, World.size_setCell, World.size_drew, World.heap_drewN]); omega)) _) | (refine Below.trans ?_ (Below.mono (by assumption) (by ((try simp only [World.size_alloc, World.size_setCell, World.size_drew, World.heap_drewN]); omega)))))) hb10; (try clear z_0); (try clear z_1); (try clear z_0f); (try clear z_1f); (try clear z_l0 z_l1 z_l2 z_l3 z_l4); obtain ⟨z_l0, z_l1, z_l2, z_l3, z_l4⟩ := ltF z; obtain ⟨z_0, z_1, z_0f, z_1f⟩ := cell2 z
    clear hxy
    generalize hq : y * z_W + x = q at *
    gi_wp2_with fail
    (refine ⟨trivial, rfl, ?_⟩); (refine CallsIn.mono (callsIn_wide.2 (at_yes z_W z_H q _ x2)) ?_); rintro e w19 ⟨rfl, hb19⟩; have hz19 := hb19.size; (try simp only [World.size_alloc, World.size_setCell, World.size_drew, World.heap_drewN] at hz19); replace z := keepH2 (z) (by repeat (first | exact Below.refl _ _ | (refine Below.alloc ?_ (by ((try simp only [World.size_alloc, World.size_setCell, World.size_drew, World.heap_drewN]); omega)) _) | (refine Below.drewN' ?_ _) | (refine Below.drew ?_) | (refine Below.setCell ?_ (by ((try simp only [World.size_alloc, World.size_setCell, World.size_drew, World.heap_drewN]); omega)) _) | (refine Below.trans ?_ (Below.mono (by assumption) (by ((try simp only [World.size_alloc, World.size_setCell, World.size_drew, World.heap_drewN]); omega)))))) hb19; (try clear z_0); (try clear z_1); (try clear z_0f); (try clear z_1f); (try clear z_l0 z_l1 z_l2 z_l3 z_l4); obtain ⟨z_l0, z_l1, z_l2, z_l3, z_l4⟩ := ltF z; obtain ⟨z_0, z_1, z_0f, z_1f⟩ := cell2 z
    rw [X4.out, X5.out]
    clear hq X4 X5 x2
    gi_wp2_with fail
  case' inl.inr | inr.inr =>
    have hxy : ¬ InXY z_W z_H x y := of_decide_eq_false x1
    (refine ⟨trivial, rfl, ?_⟩); (refine CallsIn.mono (callsIn_wide.2 (index_no z_W z_H x y _ hxy)) ?_); rintro e w19 ⟨rfl, hb19⟩; have hz19 := hb19.size; (try simp only [World.size_alloc, World.size_setCell, World.size_drew, World.heap_drewN] at hz19); replace z := keepH2 (z) (by repeat (first | exact Below.refl _ _ | (refine Below.alloc ?_ (by ((try simp only [World.size_alloc, World.size_setCell, World.size_drew, World.heap_drewN]); omega)) _) | (refine Below.drewN' ?_ _) | (refine Below.drew ?_) | (refine Below.setCell ?_ (by ((try simp only [World.size_alloc, World.size_setCell, World.size_drew, World.heap_drewN]); omega)) _) | (refine Below.trans ?_ (Below.mono (by assumption) (by ((try simp only [World.size_alloc, World.size_setCell, World.size_drew, World.heap_drewN]); omega)))))) hb19; (try clear z_0); (try clear z_1); (try clear z_0f); (try clear z_1f); (try clear z_l0 z_l1 z_l2 z_l3 z_l4); obtain ⟨z_l0, z_l1, z_l2, z_l3, z_l4⟩ := ltF z; obtain ⟨z_0, z_1, z_0f, z_1f⟩ := cell2 z
    clear hxy
    gi_wp2_with fail
  all_goals
    have hb19w : Below w.heap.size w w19 := by
      first
      | exact hb9w.trans (hb19.mono hb9w.size)
      | exact (hb9w.trans (hb10.mono hb9w.size)).trans (hb19.mono (by omega))
    (refine ⟨trivial, rfl, ?_⟩); (refine CallsIn.mono (callsIn_wide.2 (cells_any z_W z_H _)) ?_); rintro e w20 ⟨rfl, hb20⟩; have hz20 := hb20.size; (try simp only [World.size_alloc, World.size_setCell, World.size_drew, World.heap_drewN] at hz20); replace z := keepH2 (z) (by repeat (first | exact Below.refl _ _ | (refine Below.alloc ?_ (by ((try simp only [World.size_alloc, World.size_setCell, World.size_drew, World.heap_drewN]); omega)) _) | (refine Below.drewN' ?_ _) | (refine Below.drew ?_) | (refine Below.setCell ?_ (by ((try simp only [World.size_alloc, World.size_setCell, World.size_drew, World.heap_drewN]); omega)) _) | (refine Below.trans ?_ (Below.mono (by assumption) (by ((try simp only [World.size_alloc, World.size_setCell, World.size_drew, World.heap_drewN]); omega)))))) hb20; (try clear z_0); (try clear z_1); (try clear z_0f); (try clear z_1f); (try clear z_l0 z_l1 z_l2 z_l3 z_l4); obtain ⟨z_l0, z_l1, z_l2, z_l3, z_l4⟩ := ltF z; obtain ⟨z_0, z_1, z_0f, z_1f⟩ := cell2 z
    have hb20w : Below w.heap.size w w20 := hb19w.trans (hb20.mono hb19w.size)
    clear hb9w hb19w
    rcases hS with s1 | ⟨s1, s2⟩ | ⟨s1, s2, s3⟩ | ⟨s1, s2, s3⟩
    · gi_wp2_with fail
      go_ret
      exact ⟨rfl, hb20w⟩
    · gi_wp2_with fail
      go_ret
      exact ⟨rfl, hb20w⟩
    · gi_wp2_with fail
      go_ret
      exact ⟨rfl, hb20w⟩
    · have hr := cnt_pos.1 s1
      obtain ⟨m1, m2, m3, m4, m5, m6, m7, m8⟩ := hr.bounds
      have hcn := cnt_yes hr
      have Hcn := Lib.hid hcn
      have Hr := Lib.hid hr
      clear hcn hr x1 a1
      gi_wp2_with fail
      gi_loopw [18, 19] (fun n b wr => ∃ k : Nat, (k : Int) ≤ z_H ∧ b = .int .i64 k ∧ n = .int .i64 ((k : Int) * z_W) ∧ wr.heap[w.heap.size]? = some (.cells #[.int .i64 z_W, .int .i64 z_H] 23) ∧ Below w.heap.size w wr) (fun n b wr => (z_H - intOf b).toNat)
      case atStart => exact ⟨0, by omega, rfl, by simp, z, hb20w⟩
      case round =>
        obtain ⟨k, hk, rfl, rfl, hzr, hbr⟩ := hrel
        obtain ⟨c0, c1, c0f, c1f⟩ := cell2 hzr
        obtain ⟨wo, rfl⟩ : ∃ wo : World, wo = wr := ⟨_, rfl⟩
        by_cases hlt : (k : Int) < z_H
        · have hkw := kw_bounds k z_W hlt m1 s2 s3
          obtain ⟨u1, u2, u3⟩ := hkw
          have U3 := Lib.hid u3
          clear u3
          generalize hN : (k : Int) * z_W = N at *
          gi_wp2_with fail
          gi_loopw [18, 20] (fun n a wr => ∃ j : Nat, (j : Int) ≤ z_W ∧ a = .int .i64 j ∧ n = .int .i64 (N + j) ∧ wr.heap[w.heap.size]? = some (.cells #[.int .i64 z_W, .int .i64 z_H] 23) ∧ Below w.heap.size w wr) (fun n a wr => (z_W - intOf a).toNat)
          case atStart => exact ⟨0, by omega, rfl, by simp, hzr, hbr⟩
          case round =>
            obtain ⟨j, hj, rfl, rfl, hzi, hbi⟩ := hrel
            clear c0 c1 c0f c1f hzr hbr
            obtain ⟨c0, c1, c0f, c1f⟩ := cell2 hzi
            by_cases hjl : (j : Int) < z_W
            · gi_wp2_with fail
              (refine ⟨trivial, rfl, ?_⟩); (refine CallsIn.mono (callsIn_wide.2 (index_yes z_W z_H j k _ ⟨Hr.out, by omega, hjl, by omega, hlt⟩)) ?_); rintro e w30 ⟨rfl, hb30⟩
              have hz30 := keepH1 hzi hb30
              rw [hN]
              gi_wp2_with fail
              go_roundw
              case rel => exact ⟨j + 1, by omega, by go_num, by rw [show N + (j : Int) + 1 = N + ((j + 1 : Nat) : Int) by omega], hz30, hbi.trans (hb30.mono hbi.size)⟩
              case measure => simp [intOf]; omega
            · have hje : (j : Int) = z_W := by omega
              gi_wp2_with fail
              go_roundw
              case rel => exact ⟨k + 1, by omega, by go_num, by rw [hje, U3.out], hzi, hbi⟩
              case measure => simp [intOf]; omega
        · have hke : (k : Int) = z_H := by omega
          have hq : ((k : Int) * z_W == cnt z_W z_H) = true := by rw [hke, Hcn.out, beq_iff_eq, Int.mul_comm]
          clear hke
          gi_wp2_with fail
          (refine ⟨trivial, rfl, ?_⟩); (refine CallsIn.mono (callsIn_wide.2 (cells_any z_W z_H _)) ?_); rintro e w30 ⟨rfl, hb30⟩
          gi_wp2_with fail
          go_ret
          exact ⟨rfl, hbr.trans (hb30.mono hbr.size)⟩
end Go.Proofs.Ytekpjmdkihnpeaa
