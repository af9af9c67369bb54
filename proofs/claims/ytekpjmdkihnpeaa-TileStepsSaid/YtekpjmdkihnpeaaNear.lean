/- place.Near: the iterator's contract. -/
import Derived.Test.YtekpjmdkihnpeaaInts
namespace Go.Proofs.Ytekpjmdkihnpeaa
set_option linter.unusedSimpArgs false
set_option linter.unusedVariables false
open Go.RowKit Go.Shelf

attribute [local go_sem] Oper.semAt_some

@[go_sem] theorem eql_seq_nil (f : Fn) (a b : Array Value) (w : World) : (binOp .eql 29 (.func f a b) .nilFunc).run Try.prog w = .ok (.bool false) w := by kernel_rfl
@[go_sem] theorem eql_seq2_nil (f : Fn) (a b : Array Value) (w : World) : (binOp .eql 44 (.func f a b) .nilFunc).run Try.prog w = .ok (.bool false) w := by kernel_rfl

abbrev encI (x : Int) : Array Value := #[.int .i64 x]

set_option maxHeartbeats 400000 in
theorem near_mk (W H c : Int) (w : World) :
    Calls Try.prog 23 #[.agg #[.int .i64 W, .int .i64 H], .int .i64 c] w fun e w' =>
      e = .returned (.func (.func 51) #[] #[.pointer (some ⟨w.heap.size, 0, none⟩), .pointer (some ⟨w.heap.size + 1, 0, none⟩)]) ∧
      w' = (w.alloc (.cells #[.int .i64 W, .int .i64 H] 23)).alloc (.cells #[.int .i64 c] 3) := by
  go_enter Try.func23, Try.ntmps23
  go_wp2
  go_ret
  exact ⟨rfl, rfl⟩

/-- The same, the world a variable. -/
theorem near_f (W H c : Int) (w : World) :
    Calls Try.prog 23 #[.agg #[.int .i64 W, .int .i64 H], .int .i64 c] w fun e w' =>
      e = .returned (.func (.func 51) #[] #[.pointer (some ⟨w.heap.size, 0, none⟩), .pointer (some ⟨w.heap.size + 1, 0, none⟩)]) ∧ Below w.heap.size w w' ∧
      w'.heap[w.heap.size]? = some (.cells #[.int .i64 W, .int .i64 H] 23) ∧ w'.heap[w.heap.size + 1]? = some (.cells #[.int .i64 c] 3) :=
  (near_mk W H c w).mono fun e w' ⟨he, hw⟩ => by
    subst hw
    refine ⟨he, ((Below.refl _ _).alloc (Nat.le_refl _) _).alloc (by simp) _, (Below.heap_alloc _ _ _ (by simp)).trans (World.alloc_heap_new _ _), ?_⟩
    have := World.alloc_heap_new (w.alloc (.cells #[.int .i64 W, .int .i64 H] 23)) (.cells #[.int .i64 c] 3)
    rwa [World.size_alloc] at this

theorem lit_cells {w : World} {b : Nat} (h : w.heap[b]? = some (.cells #[.int .i64 0, .int .i64 (-1), .int .i64 (-1), .int .i64 0, .int .i64 1, .int .i64 0, .int .i64 0, .int .i64 1] 54)) (k : Nat) (hk : k < 4) :
    w.cell? ⟨b, k * 2, none⟩ = some (.int .i64 (dxs k)) ∧ w.cell? ⟨b, k * 2 + 1, none⟩ = some (.int .i64 (dys k)) ∧ -1 ≤ dxs k ∧ dxs k ≤ 1 ∧ -1 ≤ dys k ∧ dys k ≤ 1 := by
  rcases k with _ | _ | _ | _ | k
  · simp [World.cell?, h, dxs, dys]
  · simp [World.cell?, h, dxs, dys]
  · simp [World.cell?, h, dxs, dys]
  · simp [World.cell?, h, dxs, dys]
  · omega

set_option maxRecDepth 100000 in
set_option maxHeartbeats 1000000 in
theorem near_iter (W H c : Int) (w : World) (bz bc : Nat) (hz : w.heap[bz]? = some (.cells #[.int .i64 W, .int .i64 H] 23)) (hc : w.heap[bc]? = some (.cells #[.int .i64 c] 3)) :
    Iter Try.prog 51 #[.pointer (some ⟨bz, 0, none⟩), .pointer (some ⟨bc, 0, none⟩)] encI (nearL W H c) (fun k => k = bz ∨ k = bc) w := by
  intro l J Jx S V hV hJ hJx hBd hSC hY h0
  have hzV : V.heap[bz]? = some (.cells #[.int .i64 W, .int .i64 H] 23) := (hV.block bz (Array.getElem?_eq_some_iff.1 hz).1 (fun h => h)).trans hz
  have hcV : V.heap[bc]? = some (.cells #[.int .i64 c] 3) := (hV.block bc (Array.getElem?_eq_some_iff.1 hc).1 (fun h => h)).trans hc
  have cz0 : V.cell? ⟨bz, 0, none⟩ = some (.int .i64 W) := by simp [World.cell?, hzV]
  have cz1 : V.cell? ⟨bz, 1, none⟩ = some (.int .i64 H) := by simp [World.cell?, hzV]
  have cc0 : V.cell? ⟨bc, 0, none⟩ = some (.int .i64 c) := by simp [World.cell?, hcV]
  (refine callsIn_of_wp Try.func51 rfl trivial ?_ rfl); simp only [Try.ntmps51, List.size_toArray, List.length_cons, List.length_nil, Nat.reduceAdd, Nat.reduceSub, Array.replicate_succ, Array.replicate_zero, List.push_toArray, List.append_toArray, List.nil_append, List.cons_append]
  by_cases h : InC W H c
  · obtain ⟨m1, m2, m3, m4, m5, m6, m7⟩ := h.bounds
    gi_wp2_with fail
    (refine ⟨trivial, rfl, ?_⟩); (refine CallsIn.mono (callsIn_wide.2 (at_yes W H c _ h)) ?_); rintro e w1 ⟨rfl, hb1⟩; have hz1 := hb1.size; (try simp only [World.size_alloc, World.size_setCell, World.size_drew, World.heap_drewN] at hz1); obtain ⟨hc1, hf1⟩ := bcell hb1; (try simp only [World.size_alloc, World.size_setCell, World.size_drew, World.heap_drewN] at hc1 hf1)
    gi_wp2_with fail
    have hall := Lib.hid (nearP_all h)
    obtain ⟨p1, p2, p3, p4, p5⟩ := h.xy
    clear p5
    generalize hx : c % W = x at *
    generalize hy : c / W = y at *
    have Hx := Lib.hid hx
    have Hy := Lib.hid hy
    clear hx hy
    gi_loopw [26] (fun i wr => ∃ (k : Nat) (S' : Nat → Prop), k ≤ 4 ∧ i = .int .i64 k ∧ Grw S S' V.heap.size ∧ Bd S' wr ∧ Md V.heap.size S V wr ∧ J (nearP W H x y k) S' wr ∧
        wr.heap[w1.heap.size]? = some (.cells #[.int .i64 0, .int .i64 (-1), .int .i64 (-1), .int .i64 0, .int .i64 1, .int .i64 0, .int .i64 0, .int .i64 1] 54) ∧ ¬ S' w1.heap.size)
      (fun i _ => 4 - (intOf i).toNat)
    case atStart =>
      have hbs : ∀ k, S k → k < w1.heap.size := fun k hk => by have := hBd k hk; omega
      refine ⟨0, S, by omega, rfl, Grw.refl _ _, fun k hk => by have := hbs k hk; simp only [World.size_alloc]; omega, (by repeat (first | exact Md.refl _ _ _ | (refine Md.alloc ?_ (by ((try simp only [World.size_alloc, World.size_setCell, World.size_drew, World.heap_drewN]); omega)) _) | (refine Md.drewN ?_ _) | (refine Md.drew ?_) | (refine Md.setCell ?_ (by first | exact .inl rfl | exact .inl (.inl rfl) | exact .inl (.inr (.inl rfl)) | exact .inl (.inr (.inr (.inl rfl))) | exact .inl (.inr (.inr rfl)) | exact .inl (.inr rfl) | exact .inl (.inr (.inr (.inr rfl))) | (right; show _ ≤ _; ((try simp only [World.size_alloc, World.size_setCell, World.size_drew, World.heap_drewN]); omega)) | (left; show _; simp [*]; done)) _) | (refine Md.call ?_ (by assumption) (by ((try simp only [World.size_alloc, World.size_setCell, World.size_drew, World.heap_drewN]); omega))) | (refine Md.trans ?_ (by assumption)))), ?_, World.alloc_heap_new _ _, fun h => by have := hbs _ h; omega⟩
      exact hJ [] S V _ h0 (fun k hk => (Below.heap_alloc _ _ _ (hbs k hk)).trans (hb1.block k (hBd k hk)))
    case round =>
      obtain ⟨k, S', hk, rfl, hG, hB, hM, hj, hlit, hSl⟩ := hrel
      have hbz : bz < V.heap.size := (Array.getElem?_eq_some_iff.1 hzV).1
      have hzr : wr.heap[bz]? = some (.cells #[.int .i64 W, .int .i64 H] 23) := (hM.block bz hbz (fun h => hSC bz h (.inl rfl))).trans hzV
      have z0 : wr.cell? ⟨bz, 0, none⟩ = some (.int .i64 W) := by simp [World.cell?, hzr]
      have z1 : wr.cell? ⟨bz, 1, none⟩ = some (.int .i64 H) := by simp [World.cell?, hzr]
      have hwl : w1.heap.size < wr.heap.size := (Array.getElem?_eq_some_iff.1 hlit).1
      have hVw : V.heap.size ≤ w1.heap.size := hb1.size
      have hbr : bz < wr.heap.size := by have := hM.size; omega
      by_cases hk4 : k < 4
      · obtain ⟨post, hpost⟩ := nearP_step W H x y k hk4
        have Hpost := Lib.hid hpost
        clear hpost
        obtain ⟨l0, l1, d1, d2, d3, d4⟩ := lit_cells hlit k hk4
        have Hyes := Lib.hid (fun h => way1_yes (W := W) (H := H) (x := x) (y := y) (i := k) h)
        have Hno := Lib.hid (fun h => way1_no (W := W) (H := H) (x := x) (y := y) (i := k) h)
        generalize hda : dxs k = da at *
        generalize hdb : dys k = db at *
        clear hda hdb
        by_cases hin : InXY W H (x + da) (y + db)
        · gi_wp2_with fail
          (refine ⟨trivial, rfl, ?_⟩); (refine CallsIn.mono (callsIn_wide.2 (index_yes W H _ _ _ hin)) ?_); rintro e w2 ⟨rfl, hb2⟩; have hz2 := hb2.size; (try simp only [World.size_alloc, World.size_setCell, World.size_drew, World.heap_drewN] at hz2); obtain ⟨hc2, hf2⟩ := bcell hb2; (try simp only [World.size_alloc, World.size_setCell, World.size_drew, World.heap_drewN] at hc2 hf2)
          have hM2 : Md V.heap.size S V w2 := (by repeat (first | exact Md.refl _ _ _ | (refine Md.alloc ?_ (by ((try simp only [World.size_alloc, World.size_setCell, World.size_drew, World.heap_drewN]); omega)) _) | (refine Md.drewN ?_ _) | (refine Md.drew ?_) | (refine Md.setCell ?_ (by first | exact .inl rfl | exact .inl (.inl rfl) | exact .inl (.inr (.inl rfl)) | exact .inl (.inr (.inr (.inl rfl))) | exact .inl (.inr (.inr rfl)) | exact .inl (.inr rfl) | exact .inl (.inr (.inr (.inr rfl))) | (right; show _ ≤ _; ((try simp only [World.size_alloc, World.size_setCell, World.size_drew, World.heap_drewN]); omega)) | (left; show _; simp [*]; done)) _) | (refine Md.call ?_ (by assumption) (by ((try simp only [World.size_alloc, World.size_setCell, World.size_drew, World.heap_drewN]); omega))) | (refine Md.trans ?_ (by assumption))))
          have hB2 : ∀ k, S' k → k < wr.heap.size := hB
          have hj2 : J (nearP W H x y k) S' w2 := hJ _ S' wr w2 hj (fun i hi => by
            have := hB i hi
            exact (hb2.block i (by simp only [World.size_alloc]; omega)).trans (Below.heap_alloc _ _ _ this))
          generalize hcc : (y + db) * W + (x + da) = cc at *
          obtain ⟨fn, tmps, assign, body, hy, hR⟩ := hY (nearP W H x y k) cc post S' w2 (by rw [← hall.out, Hpost.out, Hyes.out hin]; rfl) (fun i hi => by have := hB i hi; omega) hM2 hG hj2
          have Hcc := Lib.hid hcc
          clear hcc
          dsimp only [encI] at hy
          gi_wp2_with fail
          refine ⟨rfl, hR.mono ?_⟩
          rintro e W3 ⟨S3, hG3, hB3, hM3, (⟨rfl, hJ3⟩ | ⟨rfl, hJx3⟩)⟩
          · gi_wp2_with fail
            go_roundw
            case rel =>
              refine ⟨k + 1, S3, by omega, by go_num, hG.trans hG3 (by have := hM2.size; omega), hB3, hM2.trans (hM3.mono hM2.size (fun i hi h => (hG i h).resolve_right (by omega))), ?_, ?_, ?_⟩
              · show J (nearP W H x y k ++ way1 W H x y k) S3 W3
                rw [Hyes.out hin]; exact hJ3
              · exact (hM3.block _ (by omega) hSl).trans ((hb2.block _ (by simp only [World.size_alloc]; omega)).trans ((Below.heap_alloc _ _ _ (by omega)).trans hlit))
              · intro h; rcases hG3 _ h with h | h
                · exact hSl h
                · omega
            case measure => simp [intOf]; omega
          · gi_wp2_with fail
            refine bodyPost_ret (results_none rfl _ _ _) rfl ?_
            exact ⟨⟨_, rfl⟩, S3, hG.trans hG3 (by have := hM2.size; omega), hB3, hM2.trans (hM3.mono hM2.size (fun i hi h => (hG i h).resolve_right (by omega))), .inr hJx3⟩
        · gi_wp2_with fail
          (refine ⟨trivial, rfl, ?_⟩); (refine CallsIn.mono (callsIn_wide.2 (index_no W H _ _ _ hin)) ?_); rintro e w2 ⟨rfl, hb2⟩; have hz2 := hb2.size; (try simp only [World.size_alloc, World.size_setCell, World.size_drew, World.heap_drewN] at hz2); obtain ⟨hc2, hf2⟩ := bcell hb2; (try simp only [World.size_alloc, World.size_setCell, World.size_drew, World.heap_drewN] at hc2 hf2)
          gi_wp2_with fail
          refine ⟨fun _ h => (by cases h), ?_⟩
          gi_wp2_with fail
          go_roundw
          case rel =>
            refine ⟨k + 1, S', by omega, by go_num, hG, fun i hi => by have := hB i hi; omega, (by repeat (first | exact Md.refl _ _ _ | (refine Md.alloc ?_ (by ((try simp only [World.size_alloc, World.size_setCell, World.size_drew, World.heap_drewN]); omega)) _) | (refine Md.drewN ?_ _) | (refine Md.drew ?_) | (refine Md.setCell ?_ (by first | exact .inl rfl | exact .inl (.inl rfl) | exact .inl (.inr (.inl rfl)) | exact .inl (.inr (.inr (.inl rfl))) | exact .inl (.inr (.inr rfl)) | exact .inl (.inr rfl) | exact .inl (.inr (.inr (.inr rfl))) | (right; show _ ≤ _; ((try simp only [World.size_alloc, World.size_setCell, World.size_drew, World.heap_drewN]); omega)) | (left; show _; simp [*]; done)) _) | (refine Md.call ?_ (by assumption) (by ((try simp only [World.size_alloc, World.size_setCell, World.size_drew, World.heap_drewN]); omega))) | (refine Md.trans ?_ (by assumption)))), ?_, ?_, hSl⟩
            · show J (nearP W H x y k ++ way1 W H x y k) S' w2
              rw [Hno.out hin, List.append_nil]
              exact hJ _ S' wr w2 hj (fun i hi => by
                have := hB i hi
                exact (hb2.block i (by simp only [World.size_alloc]; omega)).trans (Below.heap_alloc _ _ _ this))
            · exact (hb2.block _ (by simp only [World.size_alloc]; omega)).trans ((Below.heap_alloc _ _ _ (by omega)).trans hlit)
          case measure => simp [intOf]; omega
      · obtain rfl : k = 4 := by omega
        gi_wp2_with fail
        refine bodyPost_end (results_none rfl _ _ _) rfl ?_
        exact ⟨⟨_, rfl⟩, S', hG, hB, hM, .inl (by rw [← hall.out]; exact hj)⟩
  · have E := Lib.hid (show nearL W H c = [] from if_neg h)
    gi_wp2_with fail
    (refine ⟨trivial, rfl, ?_⟩); (refine CallsIn.mono (callsIn_wide.2 (at_no W H c _ h)) ?_); rintro e w1 ⟨rfl, hb1⟩; have hz1 := hb1.size; (try simp only [World.size_alloc, World.size_setCell, World.size_drew, World.heap_drewN] at hz1); obtain ⟨hc1, hf1⟩ := bcell hb1; (try simp only [World.size_alloc, World.size_setCell, World.size_drew, World.heap_drewN] at hc1 hf1)
    gi_wp2_with fail
    refine bodyPost_ret (results_none rfl _ _ _) rfl ?_
    refine ⟨⟨_, rfl⟩, S, Grw.refl _ _, ?_, (by repeat (first | exact Md.refl _ _ _ | (refine Md.alloc ?_ (by ((try simp only [World.size_alloc, World.size_setCell, World.size_drew, World.heap_drewN]); omega)) _) | (refine Md.drewN ?_ _) | (refine Md.drew ?_) | (refine Md.setCell ?_ (by first | exact .inl rfl | exact .inl (.inl rfl) | exact .inl (.inr (.inl rfl)) | exact .inl (.inr (.inr (.inl rfl))) | exact .inl (.inr (.inr rfl)) | exact .inl (.inr rfl) | exact .inl (.inr (.inr (.inr rfl))) | (right; show _ ≤ _; ((try simp only [World.size_alloc, World.size_setCell, World.size_drew, World.heap_drewN]); omega)) | (left; show _; simp [*]; done)) _) | (refine Md.call ?_ (by assumption) (by ((try simp only [World.size_alloc, World.size_setCell, World.size_drew, World.heap_drewN]); omega))) | (refine Md.trans ?_ (by assumption)))), .inl ?_⟩
    · intro k hk; have := hBd k hk; omega
    · rw [E.out]; exact hJ [] S V _ h0 (fun k hk => hb1.block k (hBd k hk))
end Go.Proofs.Ytekpjmdkihnpeaa
