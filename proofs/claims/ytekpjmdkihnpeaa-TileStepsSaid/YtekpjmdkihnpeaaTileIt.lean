/- The iterators of package tile. -/
import Derived.Test.YtekpjmdkihnpeaaTile
import Derived.Test.YtekpjmdkihnpeaaAll
namespace Go.Proofs.Ytekpjmdkihnpeaa
set_option linter.unusedSimpArgs false
set_option linter.unusedVariables false
open Go.RowKit Go.Shelf

attribute [local go_sem] Oper.semAt_some

set_option maxRecDepth 100000 in
set_option maxHeartbeats 2000000 in
theorem tcells_iter (W H t : Int) (w : World) (bz bc : Nat) (hz : w.heap[bz]? = some (.cells #[.int .i64 W, .int .i64 H] 23)) (hc : w.heap[bc]? = some (.cells #[.int .i64 t] 3)) :
    Iter Try.prog 55 #[.pointer (some ⟨bz, 0, none⟩), .pointer (some ⟨bc, 0, none⟩)] encI (tcells W H t) (fun k => k = bz ∨ k = bc) w := by
  refine Iter.of ?_
  intro l Y D V S hV hSC hlater hold hY h0
  have zV : V.heap[bz]? = some (.cells #[.int .i64 W, .int .i64 H] 23) := (hV.block bz (Array.getElem?_eq_some_iff.1 hz).1 (fun h => h)).trans hz
  have cV : V.heap[bc]? = some (.cells #[.int .i64 t] 3) := (hV.block bc (Array.getElem?_eq_some_iff.1 hc).1 (fun h => h)).trans hc
  obtain ⟨z0, z1, z0f, z1f⟩ := cell2 zV
  obtain ⟨c0, c0f⟩ := cell1 cV
  have zl := (ltF zV).1
  have cl := (ltF cV).1
  have hSz : ¬ S bz := fun h => hSC bz h (.inl rfl)
  have hSc : ¬ S bc := fun h => hSC bc h (.inr rfl)
  (refine callsIn_of_wp Try.func55 rfl trivial ?_ rfl); simp only [Try.ntmps55, List.size_toArray, List.length_cons, List.length_nil, Nat.reduceAdd, Nat.reduceSub, Array.replicate_succ, Array.replicate_zero, List.push_toArray, List.append_toArray, List.nil_append, List.cons_append]
  gi_wp2_with fail
  (refine ⟨trivial, rfl, ?_⟩); (refine CallsIn.mono (callsIn_wide.2 (box_any W H t _)) ?_); rintro e w1 ⟨rfl, hb1⟩; have hz1 := hb1.size; (try simp only [World.size_alloc, World.size_setCell, World.size_drew, World.heap_drewN] at hz1); have z := keepH2 (zV) (by repeat (first | exact Below.refl _ _ | (refine Below.alloc ?_ (by ((try simp only [World.size_alloc, World.size_setCell, World.size_drew, World.heap_drewN]); omega)) _) | (refine Below.drewN' ?_ _) | (refine Below.drew ?_) | (refine Below.setCell ?_ (by ((try simp only [World.size_alloc, World.size_setCell, World.size_drew, World.heap_drewN]); omega)) _) | (refine Below.trans ?_ (Below.mono (by assumption) (by ((try simp only [World.size_alloc, World.size_setCell, World.size_drew, World.heap_drewN]); omega)))))) hb1; (try simp only [World.size_alloc, World.size_setCell, World.size_drew, World.heap_drewN] at z); obtain ⟨z_l0, z_l1, z_l2, z_l3, z_l4⟩ := ltF z; obtain ⟨z_0, z_1, z_0f, z_1f⟩ := cell2 z; have cc := keepH2 (cV) (by repeat (first | exact Below.refl _ _ | (refine Below.alloc ?_ (by ((try simp only [World.size_alloc, World.size_setCell, World.size_drew, World.heap_drewN]); omega)) _) | (refine Below.drewN' ?_ _) | (refine Below.drew ?_) | (refine Below.setCell ?_ (by ((try simp only [World.size_alloc, World.size_setCell, World.size_drew, World.heap_drewN]); omega)) _) | (refine Below.trans ?_ (Below.mono (by assumption) (by ((try simp only [World.size_alloc, World.size_setCell, World.size_drew, World.heap_drewN]); omega)))))) hb1; (try simp only [World.size_alloc, World.size_setCell, World.size_drew, World.heap_drewN] at cc); obtain ⟨cc_l0, cc_l1, cc_l2, cc_l3, cc_l4⟩ := ltF cc; obtain ⟨cc_0, cc_0f⟩ := cell1 cc
  have hY1 : Y [] w1 := hlater _ _ _ h0 (by repeat (first | exact Below.refl _ _ | (refine Below.alloc ?_ (by ((try simp only [World.size_alloc, World.size_setCell, World.size_drew, World.heap_drewN]); omega)) _) | (refine Below.drewN' ?_ _) | (refine Below.drew ?_) | (refine Below.setCell ?_ (by ((try simp only [World.size_alloc, World.size_setCell, World.size_drew, World.heap_drewN]); omega)) _) | (refine Below.trans ?_ (Below.mono (by assumption) (by ((try simp only [World.size_alloc, World.size_setCell, World.size_drew, World.heap_drewN]); omega))))))
  have HT := Lib.hid (show tcells W H t = tTo W (bX W H t) (bY W H t) (bWd W H t).toNat (bHt W H t).toNat from rfl)
  obtain ⟨q1, q2, q3, q4, q5, q6, q7, q8⟩ := box_bd2 W H t
  have hWb : 0 < bHt W H t → 1 ≤ W ∧ W ≤ 4096 := fun h => by
    by_cases ht : InT W H t
    · have := box_bd ht; omega
    · have := (box_no ht).2.2.2; omega
  generalize bX W H t = x at *
  generalize bY W H t = y at *
  obtain ⟨m, hm⟩ : ∃ m : Nat, bWd W H t = m := ⟨(bWd W H t).toNat, by omega⟩
  obtain ⟨n, hn⟩ : ∃ n : Nat, bHt W H t = n := ⟨(bHt W H t).toNat, by omega⟩
  rw [hm, hn, Int.toNat_natCast, Int.toNat_natCast] at HT
  rw [hm] at q5 q6
  rw [hn] at q7 q8 hWb
  rw [hm, hn]
  clear hm hn
  gi_wp2_with fail
  gi_loopw [21] (fun v wr => ∃ k : Nat, k ≤ n ∧ v = .int .i64 k ∧ Y (tTo W x y m k) wr) (fun v wr => n - (intOf v).toNat)
  case atStart => exact ⟨0, by omega, rfl, hY1⟩
  case round =>
    obtain ⟨k, hk, rfl, hYr⟩ := hrel
    by_cases hkn : k < n
    · obtain ⟨hW1, hW2⟩ := hWb (by omega)
      obtain ⟨post, hpo⟩ := tTo_split W x y m k n hkn
      have HPO := Lib.hid hpo
      have HSN := Lib.hid (show tTo W x y m (k + 1) = tTo W x y m k ++ ints ((y + k) * W + x) m from rfl)
      have hb0 : 0 ≤ (y + k) * W := Int.mul_nonneg (by omega) (by omega)
      have hb1' : (y + k) * W ≤ 4200 * W := Int.mul_le_mul_of_nonneg_right (by omega) (by omega)
      have hb2' : 4200 * W ≤ 17203200 := by omega
      have hb3 : (y + k) * W ≤ 17203200 := by omega
      clear hpo hb1' hb2'
      gi_wp2_with fail
      obtain ⟨wo, rfl⟩ : ∃ wo : World, wo = wr := ⟨_, rfl⟩
      gi_loopw [25] (fun v wr => ∃ i : Nat, i ≤ m ∧ v = .int .i64 i ∧ Y (tTo W x y m k ++ ints ((y + k) * W + x) i) wr) (fun v wr => m - (intOf v).toNat)
      case atStart => exact ⟨0, by omega, rfl, by simpa [ints] using hYr⟩
      case round =>
        obtain ⟨i, hi, rfl, hYi⟩ := hrel
        by_cases him : i < m
        · have hold' := hold _ _ hYi
          replace z := keepM zV hold' zl hSz
          clear z_0 z_1 z_0f z_1f
          obtain ⟨z_0, z_1, z_0f, z_1f⟩ := cell2 z
          clear hYr
          obtain ⟨post2, hp2⟩ : ∃ post2, ints ((y + k) * W + x) m = ints ((y + k) * W + x) i ++ ((y + k) * W + x + i) :: post2 := by
            obtain ⟨e, rfl⟩ : ∃ e, m = i + (e + 1) := ⟨m - i - 1, by omega⟩
            exact ⟨_, by rw [ints_append]; rfl⟩
          obtain ⟨fn, tmps, assign, body, hy, hR⟩ := hY (tTo W x y m k ++ ints ((y + k) * W + x) i) ((y + k) * W + x + i) (post2 ++ post) _ (by rw [HT.out, HPO.out, hp2]; simp) hYi
          have HSI := Lib.hid (ints_snoc ((y + k) * W + x) i)
          dsimp only [encI] at hy
          clear hp2 hold'
          gi_wp2_with fail
          refine ⟨rfl, hR.mono ?_⟩
          rintro e W4 (⟨rfl, hY4⟩ | ⟨rfl, hD4⟩)
          · gi_wp2_with fail
            go_roundw
            case rel => exact ⟨i + 1, by omega, by go_num, by rw [HSI.out]; simpa using hY4⟩
            case measure => simp only [intOf]; omega
          · gi_wp2_with fail
            refine bodyPost_ret (results_none rfl _ _ _) rfl ?_
            exact ⟨⟨_, rfl⟩, .inr hD4⟩
        · obtain rfl : i = m := by omega
          gi_wp2_with fail
          go_roundw
          case rel => exact ⟨k + 1, by omega, by go_num, by rw [HSN.out]; exact hYi⟩
          case measure => simp only [intOf]; omega
    · obtain rfl : k = n := by omega
      gi_wp2_with fail
      refine bodyPost_end (results_none rfl _ _ _) rfl ?_
      exact ⟨⟨_, rfl⟩, .inl (by rw [HT.out]; exact hYr)⟩

set_option maxRecDepth 100000 in
set_option maxHeartbeats 2000000 in
theorem tbeside_iter (W H t : Int) (w : World) (bz bc : Nat) (hz : w.heap[bz]? = some (.cells #[.int .i64 W, .int .i64 H] 23)) (hc : w.heap[bc]? = some (.cells #[.int .i64 t] 3)) :
    Iter Try.prog 57 #[.pointer (some ⟨bz, 0, none⟩), .pointer (some ⟨bc, 0, none⟩)] encI (nearL (tW W H) (tH W H) t) (fun k => k = bz ∨ k = bc) w := by
  intro l J Jx S V hV hJ hJx hBd hSC hY h0
  have zV : V.heap[bz]? = some (.cells #[.int .i64 W, .int .i64 H] 23) := (hV.block bz (Array.getElem?_eq_some_iff.1 hz).1 (fun h => h)).trans hz
  have cV : V.heap[bc]? = some (.cells #[.int .i64 t] 3) := (hV.block bc (Array.getElem?_eq_some_iff.1 hc).1 (fun h => h)).trans hc
  have hSV : ∀ k, S k → k < V.heap.size := hBd
  (refine callsIn_of_wp_marks Try.func57 rfl trivial ?_ rfl); simp only [Try.ntmps57, List.size_toArray, List.length_cons, List.length_nil, Nat.reduceAdd, Nat.reduceSub, Array.replicate_succ, Array.replicate_zero, List.push_toArray, List.append_toArray, List.nil_append, List.cons_append]
  gi_wp2_with fail
  (refine name_w fun U hU => ?_); have hzU : U.heap.size = _ := (by rw [hU]); (try simp only [World.size_alloc, World.size_setCell, World.size_drew, World.heap_drewN] at hzU); obtain ⟨hzaU, hzbU⟩ := eq_two hzU; clear hzU; have z := keepH1 (V := U) (zV) (by rw [hU]; exact (by repeat (first | exact Below.refl _ _ | (refine Below.alloc ?_ (by ((try simp only [World.size_alloc, World.size_setCell, World.size_drew, World.heap_drewN]); omega)) _) | (refine Below.drewN' ?_ _) | (refine Below.drew ?_) | (refine Below.setCell ?_ (by ((try simp only [World.size_alloc, World.size_setCell, World.size_drew, World.heap_drewN]); omega)) _) | (refine Below.trans ?_ (Below.mono (by assumption) (by ((try simp only [World.size_alloc, World.size_setCell, World.size_drew, World.heap_drewN]); omega))))))); (try simp only [World.size_alloc, World.size_setCell, World.size_drew, World.heap_drewN] at z); obtain ⟨z_l0, z_l1, z_l2, z_l3, z_l4⟩ := ltF z; obtain ⟨z_0, z_1, z_0f, z_1f⟩ := cell2 z; have cc := keepH1 (V := U) (cV) (by rw [hU]; exact (by repeat (first | exact Below.refl _ _ | (refine Below.alloc ?_ (by ((try simp only [World.size_alloc, World.size_setCell, World.size_drew, World.heap_drewN]); omega)) _) | (refine Below.drewN' ?_ _) | (refine Below.drew ?_) | (refine Below.setCell ?_ (by ((try simp only [World.size_alloc, World.size_setCell, World.size_drew, World.heap_drewN]); omega)) _) | (refine Below.trans ?_ (Below.mono (by assumption) (by ((try simp only [World.size_alloc, World.size_setCell, World.size_drew, World.heap_drewN]); omega))))))); (try simp only [World.size_alloc, World.size_setCell, World.size_drew, World.heap_drewN] at cc); obtain ⟨cc_l0, cc_l1, cc_l2, cc_l3, cc_l4⟩ := ltF cc; obtain ⟨cc_0, cc_0f⟩ := cell1 cc; have y := keepH1 (V := U) (World.alloc_heap_new V _) (by rw [hU]; exact (by repeat (first | exact Below.refl _ _ | (refine Below.alloc ?_ (by ((try simp only [World.size_alloc, World.size_setCell, World.size_drew, World.heap_drewN]); omega)) _) | (refine Below.drewN' ?_ _) | (refine Below.drew ?_) | (refine Below.setCell ?_ (by ((try simp only [World.size_alloc, World.size_setCell, World.size_drew, World.heap_drewN]); omega)) _) | (refine Below.trans ?_ (Below.mono (by assumption) (by ((try simp only [World.size_alloc, World.size_setCell, World.size_drew, World.heap_drewN]); omega))))))); (try simp only [World.size_alloc, World.size_setCell, World.size_drew, World.heap_drewN] at y); obtain ⟨y_l0, y_l1, y_l2, y_l3, y_l4⟩ := ltF y; obtain ⟨y_0, y_0f⟩ := cell1 y
  have hbU : Below V.heap.size V U := by rw [hU]; exact (by repeat (first | exact Below.refl _ _ | (refine Below.alloc ?_ (by ((try simp only [World.size_alloc, World.size_setCell, World.size_drew, World.heap_drewN]); omega)) _) | (refine Below.drewN' ?_ _) | (refine Below.drew ?_) | (refine Below.setCell ?_ (by ((try simp only [World.size_alloc, World.size_setCell, World.size_drew, World.heap_drewN]); omega)) _) | (refine Below.trans ?_ (Below.mono (by assumption) (by ((try simp only [World.size_alloc, World.size_setCell, World.size_drew, World.heap_drewN]); omega))))))
  clear hU
  have z_0_q := cell_regrown (z_0); have z_1_q := cell_regrown (z_1); have cc_0_q := cell_regrown (cc_0); (refine region_last 1 (by kernel_rfl) (by kernel_rfl) (by kernel_rfl) (by kernel_rfl) (by kernel_rfl) (by kernel_rfl) (by kernel_rfl) ?_); (simp only [List.length_cons, List.length_nil, Nat.reduceAdd, Nat.reduceSub, List.take_succ_cons, List.take_zero, List.drop_succ_cons, List.drop_zero]); (repeat ((refine wpQuietIn_step (fun _ _ _ _ => trivial) (fun K hK => ?_)); go_simp; first | (refine hK _ ?_; clear hK K) | (apply Exists.intro; refine ⟨fun _ => ?_, hK _ ?_⟩; (first | (with_reducible exact ⟨rfl, CallsIn.regrown_of (callsIn_wide.2 (tiles_any W H _))⟩)); clear hK K))); (refine wpQuietIn_nil ?_); intro w1 hb1; have hz1 := hb1.size; (try simp only [World.size_alloc, World.size_setCell, World.size_drew, World.heap_drewN] at hz1); (try clear z_0_q); (try clear z_1_q); (try clear cc_0_q); replace z := keepH2 (z) (by repeat (first | exact Below.refl _ _ | (refine Below.alloc ?_ (by ((try simp only [World.size_alloc, World.size_setCell, World.size_drew, World.heap_drewN]); omega)) _) | (refine Below.drewN' ?_ _) | (refine Below.drew ?_) | (refine Below.setCell ?_ (by ((try simp only [World.size_alloc, World.size_setCell, World.size_drew, World.heap_drewN]); omega)) _) | (refine Below.trans ?_ (Below.mono (by assumption) (by ((try simp only [World.size_alloc, World.size_setCell, World.size_drew, World.heap_drewN]); omega)))))) hb1; (try clear z_0); (try clear z_1); (try clear z_0f); (try clear z_1f); (try clear z_l0 z_l1 z_l2 z_l3 z_l4); obtain ⟨z_l0, z_l1, z_l2, z_l3, z_l4⟩ := ltF z; obtain ⟨z_0, z_1, z_0f, z_1f⟩ := cell2 z; replace cc := keepH2 (cc) (by repeat (first | exact Below.refl _ _ | (refine Below.alloc ?_ (by ((try simp only [World.size_alloc, World.size_setCell, World.size_drew, World.heap_drewN]); omega)) _) | (refine Below.drewN' ?_ _) | (refine Below.drew ?_) | (refine Below.setCell ?_ (by ((try simp only [World.size_alloc, World.size_setCell, World.size_drew, World.heap_drewN]); omega)) _) | (refine Below.trans ?_ (Below.mono (by assumption) (by ((try simp only [World.size_alloc, World.size_setCell, World.size_drew, World.heap_drewN]); omega)))))) hb1; (try clear cc_0); (try clear cc_1); (try clear cc_0f); (try clear cc_1f); (try clear cc_l0 cc_l1 cc_l2 cc_l3 cc_l4); obtain ⟨cc_l0, cc_l1, cc_l2, cc_l3, cc_l4⟩ := ltF cc; obtain ⟨cc_0, cc_0f⟩ := cell1 cc; replace y := keepH2 (y) (by repeat (first | exact Below.refl _ _ | (refine Below.alloc ?_ (by ((try simp only [World.size_alloc, World.size_setCell, World.size_drew, World.heap_drewN]); omega)) _) | (refine Below.drewN' ?_ _) | (refine Below.drew ?_) | (refine Below.setCell ?_ (by ((try simp only [World.size_alloc, World.size_setCell, World.size_drew, World.heap_drewN]); omega)) _) | (refine Below.trans ?_ (Below.mono (by assumption) (by ((try simp only [World.size_alloc, World.size_setCell, World.size_drew, World.heap_drewN]); omega)))))) hb1; (try clear y_0); (try clear y_1); (try clear y_0f); (try clear y_1f); (try clear y_l0 y_l1 y_l2 y_l3 y_l4); obtain ⟨y_l0, y_l1, y_l2, y_l3, y_l4⟩ := ltF y; obtain ⟨y_0, y_0f⟩ := cell1 y
  gi_wp2_with fail
  (refine ⟨trivial, rfl, ?_⟩); (refine CallsIn.mono (callsIn_wide.2 (near_mk _ _ _ _)) ?_); rintro e w2 ⟨rfl, rfl⟩
  gi_wp2_with fail
  (refine name_w fun w2 hw2 => ?_); have hzw2 : w2.heap.size = _ := (by rw [hw2]); (try simp only [World.size_alloc, World.size_setCell, World.size_drew, World.heap_drewN] at hzw2); obtain ⟨hzaw2, hzbw2⟩ := eq_two hzw2; clear hzw2; replace z := keepH1 (V := w2) (z) (by rw [hw2]; exact (by repeat (first | exact Below.refl _ _ | (refine Below.alloc ?_ (by ((try simp only [World.size_alloc, World.size_setCell, World.size_drew, World.heap_drewN]); omega)) _) | (refine Below.drewN' ?_ _) | (refine Below.drew ?_) | (refine Below.setCell ?_ (by ((try simp only [World.size_alloc, World.size_setCell, World.size_drew, World.heap_drewN]); omega)) _) | (refine Below.trans ?_ (Below.mono (by assumption) (by ((try simp only [World.size_alloc, World.size_setCell, World.size_drew, World.heap_drewN]); omega))))))); (try clear z_0); (try clear z_1); (try clear z_0f); (try clear z_1f); (try clear z_l0 z_l1 z_l2 z_l3 z_l4); obtain ⟨z_l0, z_l1, z_l2, z_l3, z_l4⟩ := ltF z; obtain ⟨z_0, z_1, z_0f, z_1f⟩ := cell2 z; replace cc := keepH1 (V := w2) (cc) (by rw [hw2]; exact (by repeat (first | exact Below.refl _ _ | (refine Below.alloc ?_ (by ((try simp only [World.size_alloc, World.size_setCell, World.size_drew, World.heap_drewN]); omega)) _) | (refine Below.drewN' ?_ _) | (refine Below.drew ?_) | (refine Below.setCell ?_ (by ((try simp only [World.size_alloc, World.size_setCell, World.size_drew, World.heap_drewN]); omega)) _) | (refine Below.trans ?_ (Below.mono (by assumption) (by ((try simp only [World.size_alloc, World.size_setCell, World.size_drew, World.heap_drewN]); omega))))))); (try clear cc_0); (try clear cc_1); (try clear cc_0f); (try clear cc_1f); (try clear cc_l0 cc_l1 cc_l2 cc_l3 cc_l4); obtain ⟨cc_l0, cc_l1, cc_l2, cc_l3, cc_l4⟩ := ltF cc; obtain ⟨cc_0, cc_0f⟩ := cell1 cc; replace y := keepH1 (V := w2) (y) (by rw [hw2]; exact (by repeat (first | exact Below.refl _ _ | (refine Below.alloc ?_ (by ((try simp only [World.size_alloc, World.size_setCell, World.size_drew, World.heap_drewN]); omega)) _) | (refine Below.drewN' ?_ _) | (refine Below.drew ?_) | (refine Below.setCell ?_ (by ((try simp only [World.size_alloc, World.size_setCell, World.size_drew, World.heap_drewN]); omega)) _) | (refine Below.trans ?_ (Below.mono (by assumption) (by ((try simp only [World.size_alloc, World.size_setCell, World.size_drew, World.heap_drewN]); omega))))))); (try clear y_0); (try clear y_1); (try clear y_0f); (try clear y_1f); (try clear y_l0 y_l1 y_l2 y_l3 y_l4); obtain ⟨y_l0, y_l1, y_l2, y_l3, y_l4⟩ := ltF y; obtain ⟨y_0, y_0f⟩ := cell1 y; have kz := keepH1 (V := w2) (World.alloc_heap_new w1 _) (by rw [hw2]; exact (by repeat (first | exact Below.refl _ _ | (refine Below.alloc ?_ (by ((try simp only [World.size_alloc, World.size_setCell, World.size_drew, World.heap_drewN]); omega)) _) | (refine Below.drewN' ?_ _) | (refine Below.drew ?_) | (refine Below.setCell ?_ (by ((try simp only [World.size_alloc, World.size_setCell, World.size_drew, World.heap_drewN]); omega)) _) | (refine Below.trans ?_ (Below.mono (by assumption) (by ((try simp only [World.size_alloc, World.size_setCell, World.size_drew, World.heap_drewN]); omega))))))); (try simp only [World.size_alloc, World.size_setCell, World.size_drew, World.heap_drewN] at kz); obtain ⟨kz_l0, kz_l1, kz_l2, kz_l3, kz_l4⟩ := ltF kz; obtain ⟨kz_0, kz_1, kz_0f, kz_1f⟩ := cell2 kz; have kc := keepH1 (V := w2) (World.alloc_heap_new (w1.alloc _) _) (by rw [hw2]; exact (by repeat (first | exact Below.refl _ _ | (refine Below.alloc ?_ (by ((try simp only [World.size_alloc, World.size_setCell, World.size_drew, World.heap_drewN]); omega)) _) | (refine Below.drewN' ?_ _) | (refine Below.drew ?_) | (refine Below.setCell ?_ (by ((try simp only [World.size_alloc, World.size_setCell, World.size_drew, World.heap_drewN]); omega)) _) | (refine Below.trans ?_ (Below.mono (by assumption) (by ((try simp only [World.size_alloc, World.size_setCell, World.size_drew, World.heap_drewN]); omega))))))); (try simp only [World.size_alloc, World.size_setCell, World.size_drew, World.heap_drewN] at kc); obtain ⟨kc_l0, kc_l1, kc_l2, kc_l3, kc_l4⟩ := ltF kc; obtain ⟨kc_0, kc_0f⟩ := cell1 kc
  have hb12 : Below w1.heap.size w1 w2 := by rw [hw2]; exact (by repeat (first | exact Below.refl _ _ | (refine Below.alloc ?_ (by ((try simp only [World.size_alloc, World.size_setCell, World.size_drew, World.heap_drewN]); omega)) _) | (refine Below.drewN' ?_ _) | (refine Below.drew ?_) | (refine Below.setCell ?_ (by ((try simp only [World.size_alloc, World.size_setCell, World.size_drew, World.heap_drewN]); omega)) _) | (refine Below.trans ?_ (Below.mono (by assumption) (by ((try simp only [World.size_alloc, World.size_setCell, World.size_drew, World.heap_drewN]); omega))))))
  clear hw2
  have hbV2 : Below V.heap.size V w2 := hbU.trans ((hb1.mono (by omega)).trans (hb12.mono (by omega)))
  have hMV : Md V.heap.size S V w2 := Md.of_below hbV2
  have hSw : ∀ i, S i → w2.heap[i]? = V.heap[i]? := fun i hi => hbV2.block i (hSV i hi)
  have hs2 := hbV2.size
  have hkl := (ltF kc).1
  have hSy : ¬ S V.heap.size := fun h => by have := hSV _ h; omega
  refine range_top rfl (enters_of Try.func51 (by kernel_rfl) rfl) (near_iter (tW W H) (tH W H) t w2 _ _ kz kc) (fun _ => rfl)
    (fun pre S W' => J pre S W') (fun cd S W' => cd = .ret ∧ Jx S W') S (fun pre => hJ _) (fun cd S W W' h he => ⟨h.1, hJx S W W' h.2 he⟩)
    (fun i hi => by have := hSV i hi; omega) (by omega) (hJ _ S V w2 h0 hSw) (fun _ => []) ?a₁ ?assign ?body ?done ?stop
  case assign =>
    intro l x W K hK
    generalize W.heap.size = n at hK
    gi_wp2
    exact hK
  case body =>
    rintro m pre x post' Sx U2 hpre hm hr hSx hnew hszU hMU hGU hJU
    obtain rfl : U2.heap.size = m := by simpa using hszU
    replace y := keepM y hMU (by omega) hSy
    obtain ⟨y_0, y_0f⟩ := cell1 y
    obtain ⟨fn, tmps, assign, body, hy, hR⟩ := hY pre x post' Sx U2 hpre (fun i hi => (hSx i hi).1) (hMV.trans (hMU.mono (by omega) (fun i hi h => h))) (fun i hi => (hGU i hi).imp id (fun h => by omega)) hJU
    dsimp only [encI] at hy
    gi_wp2_with fail
    refine ⟨rfl, hR.mono ?_⟩
    rintro e W3 ⟨S3, hG3, hB3, hM3, (⟨rfl, hJ3⟩ | ⟨rfl, hJ3⟩)⟩
    · gi_wp2_with fail
      exact ⟨S3, hG3, hB3, hM3, by simpa using hJ3⟩
    · gi_wp2_with fail
      exact ⟨S3, hG3, hB3, hM3, rfl, hJ3⟩
  case done =>
    rintro S2 U2 hMU hGU hBU hne hD hJU
    gi_wp2_with fail
    refine end_none (.inr rfl) [w2.heap.size] V.heap.size rfl rfl ?_ (by simp) ?_
    · intro D hD'
      obtain rfl : D = w2.heap.size := by simpa using hD'
      exact ⟨by omega, hD⟩
    · intro W' hb hkeep
      have hM' := hMV.trans (hMU.mono (B' := V.heap.size) (S' := S) (by omega) (fun i hi h => h))
      refine ⟨⟨_, rfl⟩, S2, fun i hi => (hGU i hi).imp id (fun h => by omega), fun i hi => by have := hBU i hi; have := hb.size; omega, hM'.trans (Md.of_below hb), .inl ?_⟩
      exact hJ _ S2 U2 W' hJU (fun i hi => hkeep i (fun h => (hne i hi).1 (by simpa using h)))
  case stop =>
    rintro S2 U2 cd hMU hGU hBU hne hD ⟨rfl, hJU⟩
    gi_wp2_with fail
    refine end_none (.inl rfl) [w2.heap.size] V.heap.size rfl rfl ?_ (by simp) ?_
    · intro D hD'
      obtain rfl : D = w2.heap.size := by simpa using hD'
      exact ⟨by omega, hD⟩
    · intro W' hb hkeep
      have hM' := hMV.trans (hMU.mono (B' := V.heap.size) (S' := S) (by omega) (fun i hi h => h))
      refine ⟨⟨_, rfl⟩, S2, fun i hi => (hGU i hi).imp id (fun h => by omega), fun i hi => by have := hBU i hi; have := hb.size; omega, hM'.trans (Md.of_below hb), .inr ?_⟩
      exact hJx S2 U2 W' hJU (fun i hi => hkeep i (fun h => (hne i hi).1 (by simpa using h)))
end Go.Proofs.Ytekpjmdkihnpeaa
