/- The walk of TileCount. -/
import Derived.Test.YtekpjmdkihnpeaaAwake12
import Derived.Test.YtekpjmdkihnpeaaSum12
namespace Go.Proofs.Ytekpjmdkihnpeaa
set_option linter.unusedSimpArgs false
set_option linter.unusedVariables false
open Go.RowKit Go.Shelf Go.Sort

attribute [local go_sem] Oper.semAt_some

set_option maxRecDepth 100000 in
set_option maxHeartbeats 2000000 in
theorem walk_TileCount (z_W : Int) (z_H : Int) (w_z_W : (Lit.int .i64 z_W).wf = true) (w_z_H : (Lit.int .i64 z_H).wf = true) (w : World) :
    Calls Try.prog 18 #[.agg #[.int .i64 z_W, .int .i64 z_H]] w fun e w' => e = .returned (.bool true) ∧ Below w.heap.size w w' := by
  refine calls_of_wide ?_
  obtain ⟨hcn1, hcn2⟩ := cnt_bd z_W z_H
  (refine callsIn_of_wp Try.func18 rfl trivial ?_ rfl); simp only [Try.ntmps18, List.size_toArray, List.length_cons, List.length_nil, Nat.reduceAdd, Nat.reduceSub, Array.replicate_succ, Array.replicate_zero, List.push_toArray, List.append_toArray, List.nil_append, List.cons_append]
  gi_wp2_with fail
  (refine ⟨trivial, rfl, ?_⟩); (refine CallsIn.mono (callsIn_wide.2 (awake12_any _)) ?_); rintro e w1 ⟨rfl, hb1⟩; have hz1 := hb1.size; (try simp only [World.size_alloc, World.size_setCell, World.size_drew, World.heap_drewN] at hz1); have z := keepH2 (World.alloc_heap_new w _) (by repeat (first | exact Below.refl _ _ | (refine Below.alloc ?_ (by ((try simp only [World.size_alloc, World.size_setCell, World.size_drew, World.heap_drewN]); omega)) _) | (refine Below.drewN' ?_ _) | (refine Below.drew ?_) | (refine Below.setCell ?_ (by ((try simp only [World.size_alloc, World.size_setCell, World.size_drew, World.heap_drewN]); omega)) _) | (refine Below.trans ?_ (Below.mono (by assumption) (by ((try simp only [World.size_alloc, World.size_setCell, World.size_drew, World.heap_drewN]); omega)))))) hb1; (try simp only [World.size_alloc, World.size_setCell, World.size_drew, World.heap_drewN] at z); obtain ⟨z_l0, z_l1, z_l2, z_l3, z_l4⟩ := ltF z; obtain ⟨z_0, z_1, z_0f, z_1f⟩ := cell2 z
  gi_wp2_with fail
  (refine ⟨trivial, rfl, ?_⟩); (refine CallsIn.mono (callsIn_wide.2 (cells_any z_W z_H _)) ?_); rintro e w2 ⟨rfl, hb2⟩; have hz2 := hb2.size; (try simp only [World.size_alloc, World.size_setCell, World.size_drew, World.heap_drewN] at hz2); replace z := keepH2 (z) (by repeat (first | exact Below.refl _ _ | (refine Below.alloc ?_ (by ((try simp only [World.size_alloc, World.size_setCell, World.size_drew, World.heap_drewN]); omega)) _) | (refine Below.drewN' ?_ _) | (refine Below.drew ?_) | (refine Below.setCell ?_ (by ((try simp only [World.size_alloc, World.size_setCell, World.size_drew, World.heap_drewN]); omega)) _) | (refine Below.trans ?_ (Below.mono (by assumption) (by ((try simp only [World.size_alloc, World.size_setCell, World.size_drew, World.heap_drewN]); omega)))))) hb2; (try clear z_0); (try clear z_1); (try clear z_0f); (try clear z_1f); (try clear z_l0 z_l1 z_l2 z_l3 z_l4); obtain ⟨z_l0, z_l1, z_l2, z_l3, z_l4⟩ := ltF z; obtain ⟨z_0, z_1, z_0f, z_1f⟩ := cell2 z
  by_cases hbig : 2500 < cnt z_W z_H
  · gi_wp2_with fail
    go_ret
    exact ⟨rfl, (by repeat (first | exact Below.refl _ _ | (refine Below.alloc ?_ (by ((try simp only [World.size_alloc, World.size_setCell, World.size_drew, World.heap_drewN]); omega)) _) | (refine Below.drewN' ?_ _) | (refine Below.drew ?_) | (refine Below.setCell ?_ (by ((try simp only [World.size_alloc, World.size_setCell, World.size_drew, World.heap_drewN]); omega)) _) | (refine Below.trans ?_ (Below.mono (by assumption) (by ((try simp only [World.size_alloc, World.size_setCell, World.size_drew, World.heap_drewN]); omega))))))⟩
  · by_cases hr : Rt z_W z_H
    · obtain ⟨m1, m2, m3, m4, m5, m6, m7, m8⟩ := hr.bounds
      have hc := cnt_yes hr
      rw [hc] at hbig hcn1 hcn2 ⊢
      have hlast := tOf_last hr
      have htc := tCount_of hr
      have hin := (last_cell hr).1
      have hat : atB z_W z_H (z_W * z_H - 1) = true := decide_eq_true hin
      have Hat := Lib.hid hat
      have hab : (z_W + 7) / 8 * ((z_H + 7) / 8) = tCount z_W z_H := htc.symm
      have Hab := Lib.hid hab
      have Hlast := Lib.hid (show tOf z_W z_H (z_W * z_H - 1) = tCount z_W z_H - 1 by omega)
      have Hs0 := Lib.hid (tSum_zero hr)
      have Hsn := Lib.hid (fun (k : Nat) (h : (k : Int) < tCount z_W z_H) => tSum_succ (inT_of h))
      have Hsa := Lib.hid (tSum_all hr)
      have Hle := Lib.hid (fun (k : Nat) (h : (k : Int) ≤ tCount z_W z_H) => tSum_le hr _ k rfl h)
      have Hnn := Lib.hid (fun (k : Nat) (h : (k : Int) ≤ tCount z_W z_H) => tSum_nn hr k h)
      have hinT := Lib.hid (fun (k : Nat) (h : (k : Int) < tCount z_W z_H) => inT_of h)
      have htb := cnt_bd (tW z_W z_H) (tH z_W z_H)
      have htb' : 0 ≤ tCount z_W z_H ∧ tCount z_W z_H ≤ 4194304 := htb
      obtain ⟨tb1, tb2⟩ := htb'
      have ha0 : 0 ≤ (z_W + 7) / 8 * ((z_H + 7) / 8) := by omega
      have ha1 : (z_W + 7) / 8 * ((z_H + 7) / 8) ≤ 4194304 := by omega
      clear hc hlast htc hat hab hin htb
      generalize hm : z_W * z_H = n at *
      have Hm := Lib.hid hm
      clear hm
      generalize hT : tCount z_W z_H = T at *
      have HT := Lib.hid hT
      clear hT
      gi_wp2_with fail
      (refine ⟨trivial, rfl, ?_⟩); (refine CallsIn.mono (callsIn_wide.2 (tcount_any z_W z_H _)) ?_); rintro e w3 ⟨rfl, hb3⟩; have hz3 := hb3.size; (try simp only [World.size_alloc, World.size_setCell, World.size_drew, World.heap_drewN] at hz3); replace z := keepH2 (z) (by repeat (first | exact Below.refl _ _ | (refine Below.alloc ?_ (by ((try simp only [World.size_alloc, World.size_setCell, World.size_drew, World.heap_drewN]); omega)) _) | (refine Below.drewN' ?_ _) | (refine Below.drew ?_) | (refine Below.setCell ?_ (by ((try simp only [World.size_alloc, World.size_setCell, World.size_drew, World.heap_drewN]); omega)) _) | (refine Below.trans ?_ (Below.mono (by assumption) (by ((try simp only [World.size_alloc, World.size_setCell, World.size_drew, World.heap_drewN]); omega)))))) hb3; (try clear z_0); (try clear z_1); (try clear z_0f); (try clear z_1f); (try clear z_l0 z_l1 z_l2 z_l3 z_l4); obtain ⟨z_l0, z_l1, z_l2, z_l3, z_l4⟩ := ltF z; obtain ⟨z_0, z_1, z_0f, z_1f⟩ := cell2 z
      rw [HT.out]
      gi_wp2_with fail
      (refine ⟨trivial, rfl, ?_⟩); (refine CallsIn.mono (callsIn_wide.2 (tof_any z_W z_H (n - 1) _)) ?_); rintro e w4 ⟨rfl, hb4⟩; have hz4 := hb4.size; (try simp only [World.size_alloc, World.size_setCell, World.size_drew, World.heap_drewN] at hz4); replace z := keepH2 (z) (by repeat (first | exact Below.refl _ _ | (refine Below.alloc ?_ (by ((try simp only [World.size_alloc, World.size_setCell, World.size_drew, World.heap_drewN]); omega)) _) | (refine Below.drewN' ?_ _) | (refine Below.drew ?_) | (refine Below.setCell ?_ (by ((try simp only [World.size_alloc, World.size_setCell, World.size_drew, World.heap_drewN]); omega)) _) | (refine Below.trans ?_ (Below.mono (by assumption) (by ((try simp only [World.size_alloc, World.size_setCell, World.size_drew, World.heap_drewN]); omega)))))) hb4; (try clear z_0); (try clear z_1); (try clear z_0f); (try clear z_1f); (try clear z_l0 z_l1 z_l2 z_l3 z_l4); obtain ⟨z_l0, z_l1, z_l2, z_l3, z_l4⟩ := ltF z; obtain ⟨z_0, z_1, z_0f, z_1f⟩ := cell2 z
      rw [Hlast.out, Hat.out]
      have hne : (T != (z_W + 7) / 8 * ((z_H + 7) / 8)) = false := by rw [Hab.out]; simp
      gi_wp2_with fail
      clear hne
      have hw4 : Below w.heap.size w w4 := (by repeat (first | exact Below.refl _ _ | (refine Below.alloc ?_ (by ((try simp only [World.size_alloc, World.size_setCell, World.size_drew, World.heap_drewN]); omega)) _) | (refine Below.drewN' ?_ _) | (refine Below.drew ?_) | (refine Below.setCell ?_ (by ((try simp only [World.size_alloc, World.size_setCell, World.size_drew, World.heap_drewN]); omega)) _) | (refine Below.trans ?_ (Below.mono (by assumption) (by ((try simp only [World.size_alloc, World.size_setCell, World.size_drew, World.heap_drewN]); omega))))))
      gi_loopw [7, 8] (fun al t wr => ∃ k : Nat, (k : Int) ≤ T ∧ t = .int .i64 k ∧ al = .int .i64 (tSum z_W z_H k) ∧ wr.heap[w.heap.size]? = some (.cells #[.int .i64 z_W, .int .i64 z_H] 23) ∧ Below w.heap.size w wr) (fun al t wr => (T - intOf t).toNat)
      case atStart => exact ⟨0, by omega, rfl, by rw [Hs0.out], z, hw4⟩
      case round =>
        obtain ⟨k, hk, rfl, rfl, hzr, hbr⟩ := hrel
        clear z z_0 z_1 z_0f z_1f hw4
        obtain ⟨c0, c1, c0f, c1f⟩ := cell2 hzr
        by_cases hkT : (k : Int) < T
        · have hle1 := Hle.out k (by omega)
          have hnn1 := Hnn.out k (by omega)
          have hsk := Hsn.out k hkT
          have hB : bB z_W z_H k = true := decide_eq_true (hinT.out k hkT)
          have HB := Lib.hid hB
          have hbx := box_of (hinT.out k hkT)
          have hbb := box_bd (hinT.out k hkT)
          have har := box_area (W := z_W) (H := z_H) (t := k)
          have hq : 1 ≤ bWd z_W z_H k ∧ bWd z_W z_H k ≤ 8 ∧ 1 ≤ bHt z_W z_H k ∧ bHt z_W z_H k ≤ 8 := by omega
          obtain ⟨q1, q2, q3, q4⟩ := hq
          obtain ⟨a1, a2⟩ := har
          have Hsk := Lib.hid hsk
          clear hB hsk hbx hbb
          generalize tSum z_W z_H k = s at *
          generalize hbw : bWd z_W z_H k = bw at *
          generalize hbh : bHt z_W z_H k = bh at *
          have Hbw := Lib.hid hbw
          have Hbh := Lib.hid hbh
          clear hbw hbh
          gi_wp2_with fail
          (refine ⟨trivial, rfl, ?_⟩); (refine CallsIn.mono (callsIn_wide.2 (box_any z_W z_H k _)) ?_); rintro e w5 ⟨rfl, hb5⟩; have hz5 := hb5.size; (try simp only [World.size_alloc, World.size_setCell, World.size_drew, World.heap_drewN] at hz5); have zz := keepH2 (hzr) (by repeat (first | exact Below.refl _ _ | (refine Below.alloc ?_ (by ((try simp only [World.size_alloc, World.size_setCell, World.size_drew, World.heap_drewN]); omega)) _) | (refine Below.drewN' ?_ _) | (refine Below.drew ?_) | (refine Below.setCell ?_ (by ((try simp only [World.size_alloc, World.size_setCell, World.size_drew, World.heap_drewN]); omega)) _) | (refine Below.trans ?_ (Below.mono (by assumption) (by ((try simp only [World.size_alloc, World.size_setCell, World.size_drew, World.heap_drewN]); omega)))))) hb5; (try simp only [World.size_alloc, World.size_setCell, World.size_drew, World.heap_drewN] at zz); obtain ⟨zz_l0, zz_l1, zz_l2, zz_l3, zz_l4⟩ := ltF zz; obtain ⟨zz_0, zz_1, zz_0f, zz_1f⟩ := cell2 zz
          rw [HB.out, Hbw.out, Hbh.out]
          gi_wp2_with fail
          go_roundw
          case rel => exact ⟨k + 1, by omega, by go_num, by rw [Hsk.out], zz, hbr.trans (hb5.mono hbr.size)⟩
          case measure => simp only [intOf]; omega
        · obtain rfl : (k : Int) = T := by omega
          have hfin : tSum z_W z_H k = n := by
            have := Hsa.out
            rwa [Int.toNat_natCast] at this
          rw [hfin]
          clear hfin
          gi_wp2_with fail
          go_ret
          exact ⟨rfl, hbr⟩
    · have hc := cnt_no hr
      rw [hc]
      have ht := tCount_no hr
      gi_wp2_with fail
      (refine ⟨trivial, rfl, ?_⟩); (refine CallsIn.mono (callsIn_wide.2 (tcount_any z_W z_H _)) ?_); rintro e w3 ⟨rfl, hb3⟩; have hz3 := hb3.size; (try simp only [World.size_alloc, World.size_setCell, World.size_drew, World.heap_drewN] at hz3); replace z := keepH2 (z) (by repeat (first | exact Below.refl _ _ | (refine Below.alloc ?_ (by ((try simp only [World.size_alloc, World.size_setCell, World.size_drew, World.heap_drewN]); omega)) _) | (refine Below.drewN' ?_ _) | (refine Below.drew ?_) | (refine Below.setCell ?_ (by ((try simp only [World.size_alloc, World.size_setCell, World.size_drew, World.heap_drewN]); omega)) _) | (refine Below.trans ?_ (Below.mono (by assumption) (by ((try simp only [World.size_alloc, World.size_setCell, World.size_drew, World.heap_drewN]); omega)))))) hb3; (try clear z_0); (try clear z_1); (try clear z_0f); (try clear z_1f); (try clear z_l0 z_l1 z_l2 z_l3 z_l4); obtain ⟨z_l0, z_l1, z_l2, z_l3, z_l4⟩ := ltF z; obtain ⟨z_0, z_1, z_0f, z_1f⟩ := cell2 z
      rw [ht]
      gi_wp2_with fail
      go_ret
      exact ⟨rfl, (by repeat (first | exact Below.refl _ _ | (refine Below.alloc ?_ (by ((try simp only [World.size_alloc, World.size_setCell, World.size_drew, World.heap_drewN]); omega)) _) | (refine Below.drewN' ?_ _) | (refine Below.drew ?_) | (refine Below.setCell ?_ (by ((try simp only [World.size_alloc, World.size_setCell, World.size_drew, World.heap_drewN]); omega)) _) | (refine Below.trans ?_ (Below.mono (by assumption) (by ((try simp only [World.size_alloc, World.size_setCell, World.size_drew, World.heap_drewN]); omega))))))⟩
end Go.Proofs.Ytekpjmdkihnpeaa
