/- The walks of the reference of chapter 17. -/
import Derived.Test.YtekpjmdkihnpeaaRef1
import Derived.Test.YtekpjmdkihnpeaaPure17
import Derived.Test.YtekpjmdkihnpeaaRange
namespace Go.Proofs.Ytekpjmdkihnpeaa
set_option linter.unusedSimpArgs false
set_option linter.unusedVariables false
open Go.RowKit Go.Shelf

/-- The cells that are so far, as the reference asks. -/
def pfar (W H c d : Int) (x : Int) : Bool := decide (0 ≤ away W H c x) && (away W H c x == d)

theorem pfar_filter (W H c d : Int) : (ints 0 (cnt W H).toNat).filter (pfar W H c d) = ringL W H c d := by
  by_cases hd : 0 ≤ d
  · rw [← farL_eq hd]
    unfold farL
    refine List.filter_congr (fun x _ => ?_)
    unfold pfar
    by_cases h : away W H c x = d
    · simp [h, hd]
    · simp [h]
  · have : ringL W H c d = [] := if_neg (fun h => hd h.2.1)
    rw [this, List.filter_eq_nil_iff]
    intro x _
    unfold pfar
    simp; omega

set_option maxHeartbeats 1000000 in
theorem rring_any (W H a d : Int) (w : World) :
    Calls Try.prog 36 #[.agg #[.int .i64 W, .int .i64 H], .int .i64 a, .int .i64 d] w fun e w' => ∃ v, e = .returned v ∧ Ints w' (w.heap.size + 1) v (ringL W H a d) ∧ Below w.heap.size w w' := by
  have hcb := cnt_bd W H
  obtain ⟨hcb1, hcb2⟩ := hcb
  have hfin := pfar_filter W H a d
  have Hfin := Lib.hid hfin
  clear hfin
  go_enter Try.func36, Try.ntmps36
  go_wp2_with fail
  have hz0 : (w.alloc (.cells #[.int .i64 W, .int .i64 H] 23)).heap[w.heap.size]? = some (.cells #[.int .i64 W, .int .i64 H] 23) := World.alloc_heap_new _ _
  go_loopw [7, 8] (fun v c wr => ∃ k : Nat, (k : Int) ≤ cnt W H ∧ c = .int .i64 k ∧ Ints wr (w.heap.size + 1) v ((ints 0 k).filter (pfar W H a d)) ∧ wr.heap[w.heap.size]? = some (.cells #[.int .i64 W, .int .i64 H] 23) ∧ Below w.heap.size w wr ∧ w.heap.size + 1 ≤ wr.heap.size) (fun v c wr => (cnt W H - intOf c).toNat)
  case atStart => exact ⟨0, by omega, rfl, Ints.nil _ _, hz0, (by repeat (first | exact Below.refl _ _ | (refine Below.alloc ?_ (by ((try simp only [World.size_alloc, World.size_setCell, World.size_drew, World.heap_drewN]); omega)) _) | (refine Below.drewN' ?_ _) | (refine Below.drew ?_) | (refine Below.setCell ?_ (by ((try simp only [World.size_alloc, World.size_setCell, World.size_drew, World.heap_drewN]); omega)) _) | (refine Below.trans ?_ (Below.mono (by assumption) (by ((try simp only [World.size_alloc, World.size_setCell, World.size_drew, World.heap_drewN]); omega)))))), by simp⟩
  case round =>
    obtain ⟨k, hk, rfl, hI, hzr, hbr, hsz⟩ := hrel
    have hlen : ((ints 0 k).filter (pfar W H a d)).length < 17592186044416 := by
      have := List.length_filter_le (pfar W H a d) (ints 0 k)
      rw [ints_len] at this; omega
    have hsn : (ints 0 (k + 1)).filter (pfar W H a d) = (ints 0 k).filter (pfar W H a d) ++ (if pfar W H a d k then [(k : Int)] else []) := by
      rw [ints_snoc, List.filter_append]
      by_cases h : pfar W H a d k = true <;> simp [h]
    have Hsn := Lib.hid hsn
    clear hsn
    generalize hL : (ints 0 k).filter (pfar W H a d) = L at *
    have HL := Lib.hid hL
    clear hL
    obtain ⟨c0, c1, c0f, c1f⟩ := cell2 hzr
    by_cases hlt : (k : Int) < cnt W H
    · go_wp2_with fail
      (refine (rcells_any W H _).mono ?_); rintro e w1 ⟨rfl, hb1⟩
      have hz1 := keepH1 hzr hb1
      obtain ⟨d0, d1, d0f, d1f⟩ := cell2 hz1
      have hI1 := hI.later hb1
      have hbr1 : Below w.heap.size w w1 := hbr.trans (hb1.mono hbr.size)
      have hs1 := hb1.size
      clear hI
      go_wp2_with fail
      (refine (raway_any W H a k _).mono ?_); rintro e w2 ⟨rfl, hb2⟩
      have hz2 := keepH1 hz1 hb2
      obtain ⟨d0, d1, d0f, d1f⟩ := cell2 hz2
      have hI2 := hI1.later hb2
      have hbr2 : Below w.heap.size w w2 := hbr1.trans (hb2.mono hbr1.size)
      have hs2 := hb2.size
      clear hI1 hb1 hb2 hz1 hbr hbr1
      by_cases h0 : 0 ≤ away W H a k
      · by_cases h1 : away W H a k = d
        · have hp : pfar W H a d k = true := by unfold pfar; rw [h1] at h0 ⊢; simp [h0]
          have h1' : (away W H a k == d) = true := beq_iff_eq.2 h1
          have Hp := Lib.hid hp
          clear hp h1
          go_wp2_with (at_builtin; refine wpl_append_int rfl _ _ rfl (w.heap.size + 1) rfl rfl (by assumption) hlen (by omega) ?_; intro v' w' hi' hz' hc' hf' hb')
          go_roundw
          case rel => exact ⟨k + 1, by omega, by go_num, by rw [Hsn.out, if_pos Hp.out]; exact hi', (hb'.block _ (by omega)).trans hz2, hbr2.trans (hb'.mono (by omega)), by omega⟩
          case measure => simp [intOf]; omega
        · have hp : ¬ pfar W H a d k = true := by unfold pfar; simp [h1]
          have h1' : (away W H a k == d) = false := beq_eq_false_iff_ne.2 h1
          have Hp := Lib.hid hp
          clear hp h1
          go_wp2_with fail
          go_roundw
          case rel => exact ⟨k + 1, by omega, by go_num, by rw [Hsn.out, if_neg Hp.out, List.append_nil]; exact hI2, hz2, hbr2, by omega⟩
          case measure => simp [intOf]; omega
      · have hp : ¬ pfar W H a d k = true := by unfold pfar; simp [h0]
        have Hp := Lib.hid hp
        clear hp
        go_wp2_with fail
        go_roundw
        case rel => exact ⟨k + 1, by omega, by go_num, by rw [Hsn.out, if_neg Hp.out, List.append_nil]; exact hI2, hz2, hbr2, by omega⟩
        case measure => simp [intOf]; omega
    · have hke : (cnt W H).toNat = k := by omega
      go_wp2_with fail
      (refine (rcells_any W H _).mono ?_); rintro e w1 ⟨rfl, hb1⟩
      have hI1 := hI.later hb1
      have hfL : L = ringL W H a d := by rw [← Hfin.out, hke]; exact HL.out.symm
      go_wp2_with fail
      go_ret
      exact ⟨_, rfl, by rw [← hfL]; exact hI1, hbr.trans (hb1.mono hbr.size)⟩

/-- The greatest of the distances to the numbers from 0 on, -1 where there are none. -/
def farthest (W H c : Int) : Nat → Int
  | 0 => -1
  | k + 1 => max (farthest W H c k) (away W H c k)
theorem farthest_le {W H c m : Int} (h : -1 ≤ m) : ∀ (k : Nat), (∀ i : Nat, i < k → away W H c i ≤ m) → farthest W H c k ≤ m
  | 0, _ => h
  | k + 1, hk => by
    have h1 := farthest_le h k (fun i hi => hk i (by omega))
    have h2 := hk k (by omega)
    simp only [farthest]; omega
theorem farthest_ge {W H c : Int} (i : Nat) : ∀ (k : Nat), i < k → away W H c i ≤ farthest W H c k
  | 0, h => by omega
  | k + 1, h => by
    simp only [farthest]
    by_cases hk : i = k
    · subst hk; omega
    · have := farthest_ge (W := W) (H := H) (c := c) i k (by omega); omega
theorem farthest_bd (W H c : Int) (k : Nat) : -1 ≤ farthest W H c k ∧ farthest W H c k ≤ 8190 := by
  induction k with
  | zero => simp [farthest]
  | succ k ih => have := aw_lo W H c k; simp only [farthest]; omega
theorem farthest_all (W H c : Int) : farthest W H c (cnt W H).toNat = lastD W H c := by
  by_cases hc : InC W H c
  · have hr := hc.rt
    have hb := hc.bounds
    obtain ⟨x1, x2, y1, y2, _⟩ := hc.xy
    have up : farthest W H c (cnt W H).toNat ≤ lastD W H c := farthest_le (by have := lastD_bd W H c; omega) _ (fun i hi => by
      have hi' : InC W H i := ⟨by omega, by have := (cnt_bd W H).1; omega⟩
      have h2 := hi'.xy
      rw [aw_of hc hi', lastD_of hc]; omega)
    have key : ∀ (x y : Int), 0 ≤ x → x < W → 0 ≤ y → y < H → max (c % W - x) (x - c % W) + max (c / W - y) (y - c / W) ≤ farthest W H c (cnt W H).toNat := by
      intro x y h1 h2 h3 h4
      obtain ⟨i1, i2, i3⟩ := inC_of hr h1 h2 h3 h4
      have := farthest_ge (W := W) (H := H) (c := c) (y * W + x).toNat (cnt W H).toNat (by have := i1.1; have := i1.2; omega)
      rw [show (((y * W + x).toNat : Nat) : Int) = y * W + x by have := i1.1; omega, aw_of hc i1, i2, i3] at this
      exact this
    have k1 := key 0 0 (by omega) (by omega) (by omega) (by omega)
    have k2 := key (W - 1) 0 (by omega) (by omega) (by omega) (by omega)
    have k3 := key 0 (H - 1) (by omega) (by omega) (by omega) (by omega)
    have k4 := key (W - 1) (H - 1) (by omega) (by omega) (by omega) (by omega)
    rw [lastD_of hc] at up ⊢
    omega
  · rw [lastD_no hc]
    have h1 := (farthest_bd W H c (cnt W H).toNat).1
    have h2 : farthest W H c (cnt W H).toNat ≤ -1 := farthest_le (by omega) _ (fun i _ => by rw [aw_no (fun h => hc h.1)]; omega)
    omega

set_option maxHeartbeats 1000000 in
theorem rlast_any (W H a : Int) (w : World) :
    Calls Try.prog 37 #[.agg #[.int .i64 W, .int .i64 H], .int .i64 a] w fun e w' => e = .returned (.int .i64 (lastD W H a)) ∧ Below w.heap.size w w' := by
  have hcb := cnt_bd W H
  obtain ⟨hcb1, hcb2⟩ := hcb
  have Hfin := Lib.hid (farthest_all W H a)
  go_enter Try.func37, Try.ntmps37
  go_wp2_with fail
  have hz0 : (w.alloc (.cells #[.int .i64 W, .int .i64 H] 23)).heap[w.heap.size]? = some (.cells #[.int .i64 W, .int .i64 H] 23) := World.alloc_heap_new _ _
  go_loopw [5, 6] (fun v c wr => ∃ k : Nat, (k : Int) ≤ cnt W H ∧ c = .int .i64 k ∧ v = .int .i64 (farthest W H a k) ∧ wr.heap[w.heap.size]? = some (.cells #[.int .i64 W, .int .i64 H] 23) ∧ Below w.heap.size w wr) (fun v c wr => (cnt W H - intOf c).toNat)
  case atStart => exact ⟨0, by omega, rfl, rfl, hz0, (by repeat (first | exact Below.refl _ _ | (refine Below.alloc ?_ (by ((try simp only [World.size_alloc, World.size_setCell, World.size_drew, World.heap_drewN]); omega)) _) | (refine Below.drewN' ?_ _) | (refine Below.drew ?_) | (refine Below.setCell ?_ (by ((try simp only [World.size_alloc, World.size_setCell, World.size_drew, World.heap_drewN]); omega)) _) | (refine Below.trans ?_ (Below.mono (by assumption) (by ((try simp only [World.size_alloc, World.size_setCell, World.size_drew, World.heap_drewN]); omega))))))⟩
  case round =>
    obtain ⟨k, hk, rfl, rfl, hzr, hbr⟩ := hrel
    have hsn : farthest W H a (k + 1) = max (farthest W H a k) (away W H a k) := rfl
    have Hsn := Lib.hid hsn
    have hfl : (cnt W H).toNat = k → farthest W H a k = lastD W H a := fun h => by rw [← Hfin.out, h]
    have Hfl := Lib.hid hfl
    clear hsn hfl
    generalize farthest W H a k = m at *
    obtain ⟨c0, c1, c0f, c1f⟩ := cell2 hzr
    by_cases hlt : (k : Int) < cnt W H
    · go_wp2_with fail
      (refine (rcells_any W H _).mono ?_); rintro e w1 ⟨rfl, hb1⟩
      have hz1 := keepH1 hzr hb1
      obtain ⟨d0, d1, d0f, d1f⟩ := cell2 hz1
      have hbr1 : Below w.heap.size w w1 := hbr.trans (hb1.mono hbr.size)
      go_wp2_with fail
      (refine (raway_any W H a k _).mono ?_); rintro e w2 ⟨rfl, hb2⟩
      have hz2 := keepH1 hz1 hb2
      obtain ⟨d0, d1, d0f, d1f⟩ := cell2 hz2
      have hbr2 : Below w.heap.size w w2 := hbr1.trans (hb2.mono hbr1.size)
      by_cases h0 : m < away W H a k
      · go_wp2_with fail
        go_roundw
        case rel => exact ⟨k + 1, by omega, by go_num, by rw [Hsn.out, show max m (away W H a k) = away W H a k by omega], hz2, hbr2⟩
        case measure => simp [intOf]; omega
      · go_wp2_with fail
        go_roundw
        case rel => exact ⟨k + 1, by omega, by go_num, by rw [Hsn.out, show max m (away W H a k) = m by omega], hz2, hbr2⟩
        case measure => simp [intOf]; omega
    · have hke : (cnt W H).toNat = k := by omega
      have hfL := Lib.hid (Hfl.out hke)
      clear hke
      go_wp2_with fail
      (refine (rcells_any W H _).mono ?_); rintro e w1 ⟨rfl, hb1⟩
      go_wp2_with fail
      go_ret
      exact ⟨ret_int hfL.out, hbr.trans (hb1.mono hbr.size)⟩
end Go.Proofs.Ytekpjmdkihnpeaa
