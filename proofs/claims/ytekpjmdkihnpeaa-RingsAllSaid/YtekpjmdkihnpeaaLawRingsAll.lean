/- The walk of RingsAll. -/
import Derived.Test.YtekpjmdkihnpeaaAwake17
import Derived.Test.YtekpjmdkihnpeaaCount17
import Derived.Test.YtekpjmdkihnpeaaApp
namespace Go.Proofs.Ytekpjmdkihnpeaa
set_option linter.unusedSimpArgs false
set_option linter.unusedVariables false
open Go.RowKit Go.Shelf Go.Sort

attribute [local go_sem] Oper.semAt_some

/-- Off the end alone. -/
def onlyN (K : Act → World → Prop) : Exit → Act → World → Prop
  | .normal, a, w => K a w
  | _, _, _ => False
theorem wp_onlyN {P : Program} {c : Code} {Q : Exit → Act → World → Prop} {a : Act} {w : World} (h : c.wp P (onlyN (Q .normal)) a w) : c.wp P Q a w :=
  wp_mono h fun e a w hq => by cases e <;> first | exact hq | exact hq.elim

theorem cell_new_int (w : World) (y : Int) : (w.alloc (.cells #[.int .i64 y] 3)).cell? ⟨w.heap.size, 0, none⟩ = some (.int .i64 y) := (cell1 (World.alloc_heap_new _ _)).1
theorem Ints.at {w : World} {base : Nat} {a : Option Addr} {n cap : Nat} {L : List Int} (h : Ints w base (.slice a n cap) L) {i : Nat} (hi : i < L.length) : ∃ g, a = some ⟨g, 0, none⟩ ∧ base ≤ g ∧ g < w.heap.size ∧ w.cell? ⟨g, i, none⟩ = some (.int .i64 (L.getD i 0)) := by
  obtain ⟨a', cap', e, hr⟩ := h.read
  cases e
  obtain ⟨g, e1, e2, e3⟩ := hr i hi
  exact ⟨g, e1, e2, World.block_lt_of_cell? w _ e3, e3⟩
theorem Ints.shape {w : World} {base : Nat} {v : Value} {L : List Int} (h : Ints w base v L) : ∃ a n c, v = .slice a n c := by
  obtain ⟨a, c, e, _⟩ := h.read
  exact ⟨a, _, c, e⟩
theorem Ints.set {w : World} {base : Nat} {v : Value} {L : List Int} (h : Ints w base v L) {p : Addr} (hp : p.block < base) (u : Value) : Ints (w.setCell p u) base v L :=
  h.keep fun g hg _ _ => Below.heap_setCell _ _ _ _ (by omega)

theorem allTo_len {W H c : Int} {m : Nat} (h : ∀ d, (ringL W H c d).length ≤ m) : ∀ k, (allTo W H c k).length ≤ m * k
  | 0 => by simp [allTo]
  | k + 1 => by
    have := allTo_len h k
    have := h k
    simp only [allTo, List.length_append, List.length_map]
    rw [Nat.mul_succ]; omega

/-- The rings till the i-th cell of ring k. -/
def allAt (W H c : Int) (k i : Nat) : List (Int × Int) := allTo W H c k ++ ((ringL W H c k).take i).map (fun x => ((k : Int), x))
theorem allAt_zero (W H c : Int) (k : Nat) : allAt W H c k 0 = allTo W H c k := by simp [allAt]
theorem allAt_all (W H c : Int) (k : Nat) : allAt W H c k (ringL W H c k).length = allTo W H c (k + 1) := by simp [allAt, allTo]
theorem allAt_succ {W H c : Int} {k i : Nat} (h : i < (ringL W H c k).length) : allAt W H c k (i + 1) = allAt W H c k i ++ [((k : Int), (ringL W H c k).getD i 0)] := by
  have : (ringL W H c k).take (i + 1) = (ringL W H c k).take i ++ [(ringL W H c k).getD i 0] := by
    rw [List.take_add_one, List.getElem?_eq_getElem h]; simp [List.getD, h]
  simp [allAt, this]

set_option maxRecDepth 100000 in
set_option maxHeartbeats 8000000 in
theorem walk_RingsAll (z_W : Int) (z_H : Int) (at_ : Int) (w_z_W : (Lit.int .i64 z_W).wf = true) (w_z_H : (Lit.int .i64 z_H).wf = true) (w_at_ : (Lit.int .i64 at_).wf = true) (w : World) :
    Calls Try.prog 11 #[.agg #[.int .i64 z_W, .int .i64 z_H], .int .i64 at_] w fun e w' => e = .returned (.bool true) ∧ Below w.heap.size w w' := by
  refine calls_of_wide ?_
  obtain ⟨hcn1, hcn2⟩ := cnt_bd z_W z_H
  have hlb := lastD_bd z_W z_H at_
  (refine callsIn_of_wp_marks Try.func11 rfl trivial ?_ rfl); simp only [Try.ntmps11, List.size_toArray, List.length_cons, List.length_nil, Nat.reduceAdd, Nat.reduceSub, Array.replicate_succ, Array.replicate_zero, List.push_toArray, List.append_toArray, List.nil_append, List.cons_append]
  gi_wp2_with fail
  (refine ⟨trivial, rfl, ?_⟩); (refine CallsIn.mono (callsIn_wide.2 (awake17_any _)) ?_); rintro e w1 ⟨rfl, hb1⟩; have hz1 := hb1.size; (try simp only [World.size_alloc, World.size_setCell, World.size_drew, World.heap_drewN] at hz1); have z := keepH2 (World.alloc_heap_new w _) (by repeat (first | exact Below.refl _ _ | (refine Below.alloc ?_ (by ((try simp only [World.size_alloc, World.size_setCell, World.size_drew, World.heap_drewN]); omega)) _) | (refine Below.drewN' ?_ _) | (refine Below.drew ?_) | (refine Below.setCell ?_ (by ((try simp only [World.size_alloc, World.size_setCell, World.size_drew, World.heap_drewN]); omega)) _) | (refine Below.trans ?_ (Below.mono (by assumption) (by ((try simp only [World.size_alloc, World.size_setCell, World.size_drew, World.heap_drewN]); omega)))))) hb1; (try simp only [World.size_alloc, World.size_setCell, World.size_drew, World.heap_drewN] at z); obtain ⟨z_l0, z_l1, z_l2, z_l3, z_l4⟩ := ltF z; obtain ⟨z_0, z_1, z_0f, z_1f⟩ := cell2 z; have r := keepH2 (World.alloc_heap_new (w.alloc _) _) (by repeat (first | exact Below.refl _ _ | (refine Below.alloc ?_ (by ((try simp only [World.size_alloc, World.size_setCell, World.size_drew, World.heap_drewN]); omega)) _) | (refine Below.drewN' ?_ _) | (refine Below.drew ?_) | (refine Below.setCell ?_ (by ((try simp only [World.size_alloc, World.size_setCell, World.size_drew, World.heap_drewN]); omega)) _) | (refine Below.trans ?_ (Below.mono (by assumption) (by ((try simp only [World.size_alloc, World.size_setCell, World.size_drew, World.heap_drewN]); omega)))))) hb1; (try simp only [World.size_alloc, World.size_setCell, World.size_drew, World.heap_drewN] at r); obtain ⟨r_l0, r_l1, r_l2, r_l3, r_l4⟩ := ltF r; obtain ⟨r_0, r_0f⟩ := cell1 r
  gi_wp2_with fail
  (refine ⟨trivial, rfl, ?_⟩); (refine CallsIn.mono (callsIn_wide.2 (rcells_any z_W z_H _)) ?_); rintro e w2 ⟨rfl, hb2⟩; have hz2 := hb2.size; (try simp only [World.size_alloc, World.size_setCell, World.size_drew, World.heap_drewN] at hz2); replace z := keepH2 (z) (by repeat (first | exact Below.refl _ _ | (refine Below.alloc ?_ (by ((try simp only [World.size_alloc, World.size_setCell, World.size_drew, World.heap_drewN]); omega)) _) | (refine Below.drewN' ?_ _) | (refine Below.drew ?_) | (refine Below.setCell ?_ (by ((try simp only [World.size_alloc, World.size_setCell, World.size_drew, World.heap_drewN]); omega)) _) | (refine Below.trans ?_ (Below.mono (by assumption) (by ((try simp only [World.size_alloc, World.size_setCell, World.size_drew, World.heap_drewN]); omega)))))) hb2; (try clear z_0); (try clear z_1); (try clear z_0f); (try clear z_1f); (try clear z_l0 z_l1 z_l2 z_l3 z_l4); obtain ⟨z_l0, z_l1, z_l2, z_l3, z_l4⟩ := ltF z; obtain ⟨z_0, z_1, z_0f, z_1f⟩ := cell2 z; replace r := keepH2 (r) (by repeat (first | exact Below.refl _ _ | (refine Below.alloc ?_ (by ((try simp only [World.size_alloc, World.size_setCell, World.size_drew, World.heap_drewN]); omega)) _) | (refine Below.drewN' ?_ _) | (refine Below.drew ?_) | (refine Below.setCell ?_ (by ((try simp only [World.size_alloc, World.size_setCell, World.size_drew, World.heap_drewN]); omega)) _) | (refine Below.trans ?_ (Below.mono (by assumption) (by ((try simp only [World.size_alloc, World.size_setCell, World.size_drew, World.heap_drewN]); omega)))))) hb2; (try clear r_0); (try clear r_1); (try clear r_0f); (try clear r_1f); (try clear r_l0 r_l1 r_l2 r_l3 r_l4); obtain ⟨r_l0, r_l1, r_l2, r_l3, r_l4⟩ := ltF r; obtain ⟨r_0, r_0f⟩ := cell1 r
  by_cases hbig : 300 < cnt z_W z_H
  · gi_wp2_with fail
    refine end_cell (b := w.heap.size + 1) (v := .bool true) [] (w.heap.size + 1) rfl rfl rfl ((by simp only [Boxed, hp_alloc, hp_drewN, hp_drew, if_true, World.size_alloc, World.size_setCell, World.size_drew, World.heap_drewN]; repeat (first | rw [if_true] | rw [if_pos (by omega)] | rw [if_neg (by omega)] | rw [hp_set_ne _ _ _ _ _ (by omega)] | rw [hp_set_eq (by assumption)]); try first | rfl | assumption)) (by simp) (fun W h => by simp [go_sem, h]) (by simp) (by simp) ?_
    intro W' hb _
    have hw2 : Below w.heap.size w w2 := (by repeat (first | exact Below.refl _ _ | (refine Below.alloc ?_ (by ((try simp only [World.size_alloc, World.size_setCell, World.size_drew, World.heap_drewN]); omega)) _) | (refine Below.drewN' ?_ _) | (refine Below.drew ?_) | (refine Below.setCell ?_ (by ((try simp only [World.size_alloc, World.size_setCell, World.size_drew, World.heap_drewN]); omega)) _) | (refine Below.trans ?_ (Below.mono (by assumption) (by ((try simp only [World.size_alloc, World.size_setCell, World.size_drew, World.heap_drewN]); omega))))))
    exact ⟨rfl, (hw2.setCell (p := ⟨w.heap.size + 1, 0, none⟩) (by simp) _).trans (hb.mono (by omega))⟩
  · have hrl : ∀ d, (ringL z_W z_H at_ d).length ≤ 300 := fun d => by have := ring_len z_W z_H at_ d; omega
    obtain ⟨N, hN⟩ : ∃ N : Nat, (lastD z_W z_H at_ + 1).toNat = N := ⟨_, rfl⟩
    have hNe : allL z_W z_H at_ = allTo z_W z_H at_ N := by unfold allL; rw [hN]
    have hNl : lastD z_W z_H at_ + 1 = N := by omega
    have HNe := Lib.hid hNe
    have Hrl := Lib.hid hrl
    have hNb : N ≤ 8191 := by omega
    have hw2 : Below w.heap.size w w2 := (by repeat (first | exact Below.refl _ _ | (refine Below.alloc ?_ (by ((try simp only [World.size_alloc, World.size_setCell, World.size_drew, World.heap_drewN]); omega)) _) | (refine Below.drewN' ?_ _) | (refine Below.drew ?_) | (refine Below.setCell ?_ (by ((try simp only [World.size_alloc, World.size_setCell, World.size_drew, World.heap_drewN]); omega)) _) | (refine Below.trans ?_ (Below.mono (by assumption) (by ((try simp only [World.size_alloc, World.size_setCell, World.size_drew, World.heap_drewN]); omega))))))
    generalize hld : lastD z_W z_H at_ = ld at *
    have Hld := Lib.hid hld
    clear hld hNe hrl hN hb1 hb2
    gi_wp2_with fail
    refine wpIn_wide.2 ?_
    go_loopw [7] (fun v wr => ∃ (k : Nat) (v1 v2 : Value), k ≤ N ∧ v = .int .i64 k ∧ wr.heap[w2.heap.size]? = some (.cells #[v1] 36) ∧ wr.heap[w2.heap.size + 1]? = some (.cells #[v2] 36) ∧
        Ints wr (w2.heap.size + 2) v1 ((allTo z_W z_H at_ k).map Prod.fst) ∧ Ints wr (w2.heap.size + 2) v2 ((allTo z_W z_H at_ k).map Prod.snd) ∧ Apart v1 v2 ∧ Below w2.heap.size w2 wr ∧ w2.heap.size + 2 ≤ wr.heap.size)
      (fun v wr => N - (intOf v).toNat)
    case atStart => exact ⟨0, .slice none 0 0, .slice none 0 0, by omega, rfl, (by simp only [Boxed, hp_alloc, hp_drewN, hp_drew, if_true, World.size_alloc, World.size_setCell, World.size_drew, World.heap_drewN]; repeat (first | rw [if_true] | rw [if_pos (by omega)] | rw [if_neg (by omega)] | rw [hp_set_ne _ _ _ _ _ (by omega)] | rw [hp_set_eq (by assumption)]); try first | rfl | assumption), (by simp only [Boxed, hp_alloc, hp_drewN, hp_drew, if_true, World.size_alloc, World.size_setCell, World.size_drew, World.heap_drewN]; repeat (first | rw [if_true] | rw [if_pos (by omega)] | rw [if_neg (by omega)] | rw [hp_set_ne _ _ _ _ _ (by omega)] | rw [hp_set_eq (by assumption)]); try first | rfl | assumption), Ints.nil _ _, Ints.nil _ _, Apart.nil _, (by repeat (first | exact Below.refl _ _ | (refine Below.alloc ?_ (by ((try simp only [World.size_alloc, World.size_setCell, World.size_drew, World.heap_drewN]); omega)) _) | (refine Below.drewN' ?_ _) | (refine Below.drew ?_) | (refine Below.setCell ?_ (by ((try simp only [World.size_alloc, World.size_setCell, World.size_drew, World.heap_drewN]); omega)) _) | (refine Below.trans ?_ (Below.mono (by assumption) (by ((try simp only [World.size_alloc, World.size_setCell, World.size_drew, World.heap_drewN]); omega)))))), by simp⟩
    case round =>
      obtain ⟨k, v1, v2, hk, rfl, hd, hl, hI1, hI2, hap, hbr, hsz⟩ := hrel
      replace z := keepH1 z hbr
      clear z_0 z_1 z_0f z_1f r_0 r_0f
      obtain ⟨z_0, z_1, z_0f, z_1f⟩ := cell2 z
      by_cases hkN : k < N
      · go_wp2_with fail
        (refine (rlast_any z_W z_H at_ _).mono ?_); rintro e w3 ⟨rfl, hb3⟩
        rw [Hld.out]
        have hz3 := hb3.size
        replace z := keepH1 z hb3
        clear z_0 z_1 z_0f z_1f
        obtain ⟨z_0, z_1, z_0f, z_1f⟩ := cell2 z
        replace hd := keepH1 hd hb3
        replace hl := keepH1 hl hb3
        replace hI1 := hI1.later hb3
        replace hI2 := hI2.later hb3
        replace hbr := hbr.trans (hb3.mono hbr.size)
        go_wp2_with fail
        (refine (rring_any z_W z_H at_ k _).mono ?_); rintro e w4 ⟨v3, rfl, hI3, hb4⟩
        have hz4 := hb4.size
        have hap1 : Apart v1 v3 := Apart.of_base hI1 hI3 (by omega)
        have hap2 : Apart v2 v3 := Apart.of_base hI2 hI3 (by omega)
        replace hI3 := hI3.mono (base' := w2.heap.size + 2) (by omega)
        replace hd := keepH1 hd hb4
        replace hl := keepH1 hl hb4
        replace hI1 := hI1.later hb4
        replace hI2 := hI2.later hb4
        replace hbr := hbr.trans (hb4.mono hbr.size)
        obtain ⟨la, cap, rfl, _⟩ := hI3.read
        have hlk := Hrl.out k
        have hlen1 := allTo_len Hrl.out k
        have Hz := Lib.hid (allAt_zero z_W z_H at_ k)
        have Hs := Lib.hid (fun (i : Nat) (h : i < (ringL z_W z_H at_ k).length) => allAt_succ h)
        have Ha := Lib.hid (allAt_all z_W z_H at_ k)
        have hat : ∀ i, (allAt z_W z_H at_ k i).length ≤ 300 * k + 300 := fun i => by
          unfold allAt; simp only [List.length_append, List.length_map, List.length_take]; omega
        have Hat := Lib.hid hat
        clear hat z z_0 z_1 z_0f z_1f hb3 hb4
        rw [← Hz.out] at hI1 hI2
        generalize hLk : ringL z_W z_H at_ k = L at *
        clear hLk
        go_wp2_with fail
        go_loopw [9] (fun v wr => ∃ (i : Nat) (v1 v2 : Value), i ≤ L.length ∧ v = .int .i64 i ∧ wr.heap[w2.heap.size]? = some (.cells #[v1] 36) ∧ wr.heap[w2.heap.size + 1]? = some (.cells #[v2] 36) ∧
            Ints wr (w2.heap.size + 2) v1 ((allAt z_W z_H at_ k i).map Prod.fst) ∧ Ints wr (w2.heap.size + 2) v2 ((allAt z_W z_H at_ k i).map Prod.snd) ∧ Ints wr (w2.heap.size + 2) (.slice la L.length cap) L ∧
            Apart v1 v2 ∧ Apart v1 (.slice la L.length cap) ∧ Apart v2 (.slice la L.length cap) ∧ Below w2.heap.size w2 wr ∧ w2.heap.size + 2 ≤ wr.heap.size)
          (fun v wr => L.length - (intOf v).toNat)
        case atStart => exact ⟨0, v1, v2, by omega, rfl, hd, hl, hI1, hI2, hI3, hap, hap1, hap2, hbr, by omega⟩
        case round =>
          clear hd hl hI1 hI2 hI3 hap hap1 hap2 hbr v1 v2
          obtain ⟨i, v1, v2, hi, rfl, hd, hl, hI1, hI2, hI3, hap, hap1, hap2, hbr, hsz⟩ := hrel
          by_cases hil : i < L.length
          · obtain ⟨d_0, d_0f⟩ := cell1 hd
            obtain ⟨l_0, l_0f⟩ := cell1 hl
            have hlen := Hat.out i
            have hI1' := hI1.alloc (.cells #[.int .i64 k] 3)
            have hcn := cell_new_int wr k
            go_wp2_with (at_builtin; refine wpl_append rfl _ _ rfl (w2.heap.size + 2) rfl rfl hI1' hcn (by simp; omega) (by simp; omega) ?_; intro v1' w5 hJ1 hG1; obtain ⟨la1, n1, cap1, rfl⟩ := hJ1.shape; have hd5 := (hG1.below.block w2.heap.size (by omega)).trans ((Below.heap_alloc wr _ w2.heap.size (by omega)).trans hd); obtain ⟨d5, d5f⟩ := cell1 hd5)
            have hl5 := (hG1.below.block (w2.heap.size + 1) (by omega)).trans ((Below.heap_alloc wr _ (w2.heap.size + 1) (by omega)).trans hl)
            have hs5 := hG1.size
            simp only [World.size_alloc] at hs5
            have hJ2 := hG1.ints hap (hI2.alloc _)
            have hJ3 := hG1.ints hap1 (hI3.alloc _)
            have ha1 := hG1.apart hap (hI2.alloc _)
            have ha2 := hG1.apart hap1 (hI3.alloc _)
            have hb5 : Below w2.heap.size w2 w5 := (hbr.alloc (by omega) _).trans (hG1.below.mono (by omega))
            refine name_wp fun V hV => ?_
            have hsV : w5.heap.size ≤ V.heap.size := by rw [hV]; simp [World.setCell]
            replace hd : V.heap[w2.heap.size]? = some (.cells #[.slice la1 n1 cap1] 36) := by rw [hV]; exact hp_set_eq hd5
            replace hl : V.heap[w2.heap.size + 1]? = some (.cells #[v2] 36) := by rw [hV, hp_set_ne _ _ _ _ _ (by omega)]; exact hl5
            replace hI1 := hJ1.set (p := ⟨w2.heap.size, 0, none⟩) (by simp) (.slice la1 n1 cap1)
            replace hI2 := hJ2.set (p := ⟨w2.heap.size, 0, none⟩) (by simp) (.slice la1 n1 cap1)
            replace hI3 := hJ3.set (p := ⟨w2.heap.size, 0, none⟩) (by simp) (.slice la1 n1 cap1)
            replace hbr := hb5.setCell (p := ⟨w2.heap.size, 0, none⟩) (by simp) (.slice la1 n1 cap1)
            rw [← hV] at hI1 hI2 hI3 hbr
            clear hV hJ1 hJ2 hJ3 hb5 hd5 hl5 d5 d5f hI1' hcn hG1 d_0 d_0f l_0 l_0f hap hap1
            obtain ⟨d_0, d_0f⟩ := cell1 hd
            obtain ⟨l_0, l_0f⟩ := cell1 hl
            obtain ⟨g, rfl, hg1, hg2, hgc⟩ := hI3.at hil
            generalize hx : L.getD i 0 = x at *
            have Hx := Lib.hid hx
            clear hx
            have hlen2 : ((allAt z_W z_H at_ k i).map Prod.snd).length < 17592186044416 := by simp; omega
            have hcn2 : (V.drew.alloc (.cells #[.int .i64 x] 3)).cell? ⟨V.heap.size, 0, none⟩ = some (.int .i64 x) := cell_new_int V.drew _
            have hsz2 : w2.heap.size + 2 ≤ (V.drew.alloc (.cells #[.int .i64 x] 3)).heap.size := by simp only [World.size_alloc]; show _ ≤ V.heap.size + 1; omega
            have hI2d : Ints V.drew (w2.heap.size + 2) v2 ((allAt z_W z_H at_ k i).map Prod.snd) := hI2
            refine wp_onlyN ?_
            go_region_law (refine step_append rfl _ _ rfl (w2.heap.size + 2) rfl rfl (hI2d.alloc _) hcn2 hlen2 hsz2 ?_; intro v2' w6 hJ2 hG2; obtain ⟨la2, n2, cap2, rfl⟩ := hJ2.shape; have hl6 := (hG2.below.block (w2.heap.size + 1) (by omega)).trans ((Below.heap_alloc V.drew _ (w2.heap.size + 1) (by show _ < V.heap.size; omega)).trans hl); obtain ⟨l6, l6f⟩ := cell1 hl6)
            all_goals
              have hI1d : Ints V.drew (w2.heap.size + 2) (.slice la1 n1 cap1) ((allAt z_W z_H at_ k i).map Prod.fst ++ [(k : Int)]) := hI1
              have hI3d : Ints V.drew (w2.heap.size + 2) (.slice (some ⟨g, 0, none⟩) L.length cap) L := hI3
              have hK1 := hG2.ints ha1.symm (hI1d.alloc _)
              have hK3 := hG2.ints hap2 (hI3d.alloc _)
              have hA1 := (hG2.apart ha1.symm (hI1d.alloc _)).symm
              have hA2 := hG2.apart hap2 (hI3d.alloc _)
              have hd6 := (hG2.below.block w2.heap.size (by omega)).trans ((Below.heap_alloc V.drew (.cells #[.int .i64 x] 3) w2.heap.size (by show _ < V.heap.size; omega)).trans hd)
              have hs6' : (V.alloc (.cells #[.int .i64 x] 3)).heap.size ≤ w6.heap.size := hG2.size
              rw [World.size_alloc] at hs6'
              have hb6 : Below w2.heap.size w2 w6 := ((show Below w2.heap.size w2 V.drew from hbr.drew).alloc (by show _ ≤ V.heap.size; omega) _).trans (hG2.below.mono (by omega))
              have hS := Hs.out i hil
              rw [Hx.out] at hS
              simp only [onlyN]
              go_wp2_with fail
              go_roundw
              case rel => exact ⟨i + 1, _, _, by omega, by go_num, (hp_set_ne _ _ _ _ _ (by omega)).trans hd6, hp_set_eq hl6, by rw [hS, List.map_append]; exact hK1.set (by simp) _, by rw [hS, List.map_append]; exact hJ2.set (by simp) _, hK3.set (by simp) _, hA1, ha2, hA2, hb6.setCell (by simp) _, by simp only [World.size_setCell]; omega⟩
              case measure => simp only [intOf]; omega
          · obtain rfl : i = L.length := by omega
            go_wp2_with fail
            rw [Ha.out] at hI1 hI2
            go_roundw
            case rel => exact ⟨k + 1, v1, v2, by omega, by go_num, hd, hl, hI1, hI2, hap, hbr, hsz⟩
            case measure => simp [intOf]; omega
      · obtain rfl : k = N := by omega
        go_wp2_with fail
        (refine (rlast_any z_W z_H at_ _).mono ?_); rintro e w3 ⟨rfl, hb3⟩
        rw [Hld.out]
        go_wp2_with fail
        have hw3 : Below w.heap.size w w3 := (hw2.trans (hbr.mono (by omega))).trans (hb3.mono (by have := hbr.size; omega))
        replace r := keepH1 (keepH1 r hbr) hb3
        replace z := keepH1 z hb3
        replace hd := keepH1 hd hb3
        replace hl := keepH1 hl hb3
        replace hI1 := hI1.later hb3
        replace hI2 := hI2.later hb3
        have hz3 := hb3.size
        have hlenP := allTo_len Hrl.out k
        generalize hP : allTo z_W z_H at_ k = P at *
        clear hP z_0 z_1 z_0f z_1f hbr hb3 hw2 hap
        obtain ⟨a1, c1, e1, hr1⟩ := hI1.read
        obtain ⟨a2, c2, e2, hr2⟩ := hI2.read
        rw [List.length_map] at e1 e2 hr1 hr2
        subst e1 e2
        clear hI1 hI2
        have Hr1 := Lib.hid hr1
        have Hr2 := Lib.hid hr2
        clear hr1 hr2
        obtain ⟨z_0, z_1, z_0f, z_1f⟩ := cell2 z
        obtain ⟨r_0, r_0f⟩ := cell1 r
        obtain ⟨hd_0, hd_0f⟩ := cell1 hd
        obtain ⟨hl_0, hl_0f⟩ := cell1 hl
        obtain ⟨z_l0, z_l1, z_l2, z_l3, z_l4⟩ := ltF z
        obtain ⟨r_l0, r_l1, r_l2, r_l3, r_l4⟩ := ltF r
        obtain ⟨hd_l0, hd_l1, hd_l2, hd_l3, hd_l4⟩ := ltF hd
        obtain ⟨hl_l0, hl_l1, hl_l2, hl_l3, hl_l4⟩ := ltF hl
        gi_wp2_with fail
        (refine ⟨trivial, rfl, ?_⟩); (refine CallsIn.mono (callsIn_wide.2 (all_f z_W z_H at_ _)) ?_); rintro e w5 ⟨rfl, hb5, hm5⟩; have hz5 := hb5.size; (try simp only [World.size_alloc, World.size_setCell, World.size_drew, World.heap_drewN] at hz5); replace z := keepH2 (z) (by repeat (first | exact Below.refl _ _ | (refine Below.alloc ?_ (by ((try simp only [World.size_alloc, World.size_setCell, World.size_drew, World.heap_drewN]); omega)) _) | (refine Below.drewN' ?_ _) | (refine Below.drew ?_) | (refine Below.setCell ?_ (by ((try simp only [World.size_alloc, World.size_setCell, World.size_drew, World.heap_drewN]); omega)) _) | (refine Below.trans ?_ (Below.mono (by assumption) (by ((try simp only [World.size_alloc, World.size_setCell, World.size_drew, World.heap_drewN]); omega)))))) hb5; (try clear z_0); (try clear z_1); (try clear z_0f); (try clear z_1f); (try clear z_l0 z_l1 z_l2 z_l3 z_l4); obtain ⟨z_l0, z_l1, z_l2, z_l3, z_l4⟩ := ltF z; obtain ⟨z_0, z_1, z_0f, z_1f⟩ := cell2 z; replace r := keepH2 (r) (by repeat (first | exact Below.refl _ _ | (refine Below.alloc ?_ (by ((try simp only [World.size_alloc, World.size_setCell, World.size_drew, World.heap_drewN]); omega)) _) | (refine Below.drewN' ?_ _) | (refine Below.drew ?_) | (refine Below.setCell ?_ (by ((try simp only [World.size_alloc, World.size_setCell, World.size_drew, World.heap_drewN]); omega)) _) | (refine Below.trans ?_ (Below.mono (by assumption) (by ((try simp only [World.size_alloc, World.size_setCell, World.size_drew, World.heap_drewN]); omega)))))) hb5; (try clear r_0); (try clear r_1); (try clear r_0f); (try clear r_1f); (try clear r_l0 r_l1 r_l2 r_l3 r_l4); obtain ⟨r_l0, r_l1, r_l2, r_l3, r_l4⟩ := ltF r; obtain ⟨r_0, r_0f⟩ := cell1 r; replace hd := keepH2 (hd) (by repeat (first | exact Below.refl _ _ | (refine Below.alloc ?_ (by ((try simp only [World.size_alloc, World.size_setCell, World.size_drew, World.heap_drewN]); omega)) _) | (refine Below.drewN' ?_ _) | (refine Below.drew ?_) | (refine Below.setCell ?_ (by ((try simp only [World.size_alloc, World.size_setCell, World.size_drew, World.heap_drewN]); omega)) _) | (refine Below.trans ?_ (Below.mono (by assumption) (by ((try simp only [World.size_alloc, World.size_setCell, World.size_drew, World.heap_drewN]); omega)))))) hb5; (try clear hd_0); (try clear hd_1); (try clear hd_0f); (try clear hd_1f); (try clear hd_l0 hd_l1 hd_l2 hd_l3 hd_l4); obtain ⟨hd_l0, hd_l1, hd_l2, hd_l3, hd_l4⟩ := ltF hd; obtain ⟨hd_0, hd_0f⟩ := cell1 hd; replace hl := keepH2 (hl) (by repeat (first | exact Below.refl _ _ | (refine Below.alloc ?_ (by ((try simp only [World.size_alloc, World.size_setCell, World.size_drew, World.heap_drewN]); omega)) _) | (refine Below.drewN' ?_ _) | (refine Below.drew ?_) | (refine Below.setCell ?_ (by ((try simp only [World.size_alloc, World.size_setCell, World.size_drew, World.heap_drewN]); omega)) _) | (refine Below.trans ?_ (Below.mono (by assumption) (by ((try simp only [World.size_alloc, World.size_setCell, World.size_drew, World.heap_drewN]); omega)))))) hb5; (try clear hl_0); (try clear hl_1); (try clear hl_0f); (try clear hl_1f); (try clear hl_l0 hl_l1 hl_l2 hl_l3 hl_l4); obtain ⟨hl_l0, hl_l1, hl_l2, hl_l3, hl_l4⟩ := ltF hl; obtain ⟨hl_0, hl_0f⟩ := cell1 hl; have ib := keepH2 (World.alloc_heap_new w3 _) (by repeat (first | exact Below.refl _ _ | (refine Below.alloc ?_ (by ((try simp only [World.size_alloc, World.size_setCell, World.size_drew, World.heap_drewN]); omega)) _) | (refine Below.drewN' ?_ _) | (refine Below.drew ?_) | (refine Below.setCell ?_ (by ((try simp only [World.size_alloc, World.size_setCell, World.size_drew, World.heap_drewN]); omega)) _) | (refine Below.trans ?_ (Below.mono (by assumption) (by ((try simp only [World.size_alloc, World.size_setCell, World.size_drew, World.heap_drewN]); omega)))))) hb5; (try simp only [World.size_alloc, World.size_setCell, World.size_drew, World.heap_drewN] at ib); obtain ⟨ib_l0, ib_l1, ib_l2, ib_l3, ib_l4⟩ := ltF ib; obtain ⟨ib_0, ib_0f⟩ := cell1 ib
        clear hm5
        gi_wp2_with fail
        (refine ⟨trivial, rfl, ?_⟩); (refine CallsIn.mono (callsIn_wide.2 (all_f z_W z_H at_ _)) ?_); rintro e w6 ⟨rfl, hb6, hm6⟩; have hz6 := hb6.size; (try simp only [World.size_alloc, World.size_setCell, World.size_drew, World.heap_drewN] at hz6); replace z := keepH2 (z) (by repeat (first | exact Below.refl _ _ | (refine Below.alloc ?_ (by ((try simp only [World.size_alloc, World.size_setCell, World.size_drew, World.heap_drewN]); omega)) _) | (refine Below.drewN' ?_ _) | (refine Below.drew ?_) | (refine Below.setCell ?_ (by ((try simp only [World.size_alloc, World.size_setCell, World.size_drew, World.heap_drewN]); omega)) _) | (refine Below.trans ?_ (Below.mono (by assumption) (by ((try simp only [World.size_alloc, World.size_setCell, World.size_drew, World.heap_drewN]); omega)))))) hb6; (try clear z_0); (try clear z_1); (try clear z_0f); (try clear z_1f); (try clear z_l0 z_l1 z_l2 z_l3 z_l4); obtain ⟨z_l0, z_l1, z_l2, z_l3, z_l4⟩ := ltF z; obtain ⟨z_0, z_1, z_0f, z_1f⟩ := cell2 z; replace r := keepH2 (r) (by repeat (first | exact Below.refl _ _ | (refine Below.alloc ?_ (by ((try simp only [World.size_alloc, World.size_setCell, World.size_drew, World.heap_drewN]); omega)) _) | (refine Below.drewN' ?_ _) | (refine Below.drew ?_) | (refine Below.setCell ?_ (by ((try simp only [World.size_alloc, World.size_setCell, World.size_drew, World.heap_drewN]); omega)) _) | (refine Below.trans ?_ (Below.mono (by assumption) (by ((try simp only [World.size_alloc, World.size_setCell, World.size_drew, World.heap_drewN]); omega)))))) hb6; (try clear r_0); (try clear r_1); (try clear r_0f); (try clear r_1f); (try clear r_l0 r_l1 r_l2 r_l3 r_l4); obtain ⟨r_l0, r_l1, r_l2, r_l3, r_l4⟩ := ltF r; obtain ⟨r_0, r_0f⟩ := cell1 r; replace hd := keepH2 (hd) (by repeat (first | exact Below.refl _ _ | (refine Below.alloc ?_ (by ((try simp only [World.size_alloc, World.size_setCell, World.size_drew, World.heap_drewN]); omega)) _) | (refine Below.drewN' ?_ _) | (refine Below.drew ?_) | (refine Below.setCell ?_ (by ((try simp only [World.size_alloc, World.size_setCell, World.size_drew, World.heap_drewN]); omega)) _) | (refine Below.trans ?_ (Below.mono (by assumption) (by ((try simp only [World.size_alloc, World.size_setCell, World.size_drew, World.heap_drewN]); omega)))))) hb6; (try clear hd_0); (try clear hd_1); (try clear hd_0f); (try clear hd_1f); (try clear hd_l0 hd_l1 hd_l2 hd_l3 hd_l4); obtain ⟨hd_l0, hd_l1, hd_l2, hd_l3, hd_l4⟩ := ltF hd; obtain ⟨hd_0, hd_0f⟩ := cell1 hd; replace hl := keepH2 (hl) (by repeat (first | exact Below.refl _ _ | (refine Below.alloc ?_ (by ((try simp only [World.size_alloc, World.size_setCell, World.size_drew, World.heap_drewN]); omega)) _) | (refine Below.drewN' ?_ _) | (refine Below.drew ?_) | (refine Below.setCell ?_ (by ((try simp only [World.size_alloc, World.size_setCell, World.size_drew, World.heap_drewN]); omega)) _) | (refine Below.trans ?_ (Below.mono (by assumption) (by ((try simp only [World.size_alloc, World.size_setCell, World.size_drew, World.heap_drewN]); omega)))))) hb6; (try clear hl_0); (try clear hl_1); (try clear hl_0f); (try clear hl_1f); (try clear hl_l0 hl_l1 hl_l2 hl_l3 hl_l4); obtain ⟨hl_l0, hl_l1, hl_l2, hl_l3, hl_l4⟩ := ltF hl; obtain ⟨hl_0, hl_0f⟩ := cell1 hl; replace ib := keepH2 (ib) (by repeat (first | exact Below.refl _ _ | (refine Below.alloc ?_ (by ((try simp only [World.size_alloc, World.size_setCell, World.size_drew, World.heap_drewN]); omega)) _) | (refine Below.drewN' ?_ _) | (refine Below.drew ?_) | (refine Below.setCell ?_ (by ((try simp only [World.size_alloc, World.size_setCell, World.size_drew, World.heap_drewN]); omega)) _) | (refine Below.trans ?_ (Below.mono (by assumption) (by ((try simp only [World.size_alloc, World.size_setCell, World.size_drew, World.heap_drewN]); omega)))))) hb6; (try clear ib_0); (try clear ib_1); (try clear ib_0f); (try clear ib_1f); (try clear ib_l0 ib_l1 ib_l2 ib_l3 ib_l4); obtain ⟨ib_l0, ib_l1, ib_l2, ib_l3, ib_l4⟩ := ltF ib; obtain ⟨ib_0, ib_0f⟩ := cell1 ib
        obtain ⟨kz, kc⟩ := hm6
        have kcl := (ltF kc).1
        gi_wp2_with fail
        have hb36 : Below w3.heap.size w3 w6 := (by repeat (first | exact Below.refl _ _ | (refine Below.alloc ?_ (by ((try simp only [World.size_alloc, World.size_setCell, World.size_drew, World.heap_drewN]); omega)) _) | (refine Below.drewN' ?_ _) | (refine Below.drew ?_) | (refine Below.setCell ?_ (by ((try simp only [World.size_alloc, World.size_setCell, World.size_drew, World.heap_drewN]); omega)) _) | (refine Below.trans ?_ (Below.mono (by assumption) (by ((try simp only [World.size_alloc, World.size_setCell, World.size_drew, World.heap_drewN]); omega))))))
        have hbV : Below w.heap.size w w6 := hw3.trans (hb36.mono (by have := hw3.size; omega))
        have hg1 : ∀ i, i < P.length → ∃ g, a1 = some ⟨g, 0, none⟩ ∧ g < w3.heap.size ∧ w6.cell? ⟨g, i, none⟩ = some (.int .i64 ((P.map Prod.fst).getD i 0)) := fun i hi => by
          obtain ⟨g, e1, _, e3⟩ := Hr1.out i hi
          have hlt := World.block_lt_of_cell? w3 _ e3
          exact ⟨g, e1, hlt, (hb36.cell (p := ⟨g, i, none⟩) hlt).trans e3⟩
        have hg2 : ∀ i, i < P.length → ∃ g, a2 = some ⟨g, 0, none⟩ ∧ g < w3.heap.size ∧ w6.cell? ⟨g, i, none⟩ = some (.int .i64 ((P.map Prod.snd).getD i 0)) := fun i hi => by
          obtain ⟨g, e1, _, e3⟩ := Hr2.out i hi
          have hlt := World.block_lt_of_cell? w3 _ e3
          exact ⟨g, e1, hlt, (hb36.cell (p := ⟨g, i, none⟩) hlt).trans e3⟩
        have Hg1 := Lib.hid hg1
        have Hg2 := Lib.hid hg2
        clear hg1 hg2
        refine range_fix rfl (enters_of Try.func53 (by kernel_rfl) rfl) (all_iter z_W z_H at_ w6 _ _ kz kc) (fun _ => rfl)
          (fun k => k = w3.heap.size) (fun pre W => Boxed W w3.heap.size 3 (.int .i64 pre.length)) (fun _ _ => False)
          (fun pre W W' h he => h.stab he rfl) (fun _ _ _ h _ => h) (by omega) (by omega) (by have h := ib; simpa [Boxed] using h) (fun _ => []) ?a₁ ?assign ?body ?done ?stop
        case assign =>
          intro l x W n K hn hK
          gi_wp2
          exact hK
        case stop =>
          rintro U c hMU hlt hK h
          exact h.elim
        case body =>
          rintro m pre c post U hpre hm hr hnew hszU hMU hi
          rw [HNe.out] at hpre
          have hlt : pre.length < P.length := by rw [hpre]; simp
          obtain ⟨g1, rfl, hgl1, hgc1⟩ := Hg1.out pre.length hlt
          obtain ⟨g2, rfl, hgl2, hgc2⟩ := Hg2.out pre.length hlt
          have hgd1 : (P.map Prod.fst).getD pre.length 0 = c.1 := by rw [hpre]; simp [List.getD]
          have hgd2 : (P.map Prod.snd).getD pre.length 0 = c.2 := by rw [hpre]; simp [List.getD]
          rw [hgd1] at hgc1
          rw [hgd2] at hgc2
          have hgc1' : U.cell? ⟨g1, pre.length, none⟩ = some (.int .i64 c.1) := (World.cell?_of_block (hMU.block g1 (by omega) (by omega))).trans hgc1
          have hgc2' : U.cell? ⟨g2, pre.length, none⟩ = some (.int .i64 c.2) := (World.cell?_of_block (hMU.block g2 (by omega) (by omega))).trans hgc2
          clear hgc1 hgd1 hgc2 hgd2 hpre
          skip; replace z := keepM (z) hMU (by omega) (by omega); (try clear z_0); (try clear z_1); (try clear z_0f); (try clear z_1f); (try clear z_l0 z_l1 z_l2 z_l3 z_l4); obtain ⟨z_l0, z_l1, z_l2, z_l3, z_l4⟩ := ltF z; obtain ⟨z_0, z_1, z_0f, z_1f⟩ := cell2 z; replace r := keepM (r) hMU (by omega) (by omega); (try clear r_0); (try clear r_1); (try clear r_0f); (try clear r_1f); (try clear r_l0 r_l1 r_l2 r_l3 r_l4); obtain ⟨r_l0, r_l1, r_l2, r_l3, r_l4⟩ := ltF r; obtain ⟨r_0, r_0f⟩ := cell1 r; replace hd := keepM (hd) hMU (by omega) (by omega); (try clear hd_0); (try clear hd_1); (try clear hd_0f); (try clear hd_1f); (try clear hd_l0 hd_l1 hd_l2 hd_l3 hd_l4); obtain ⟨hd_l0, hd_l1, hd_l2, hd_l3, hd_l4⟩ := ltF hd; obtain ⟨hd_0, hd_0f⟩ := cell1 hd; replace hl := keepM (hl) hMU (by omega) (by omega); (try clear hl_0); (try clear hl_1); (try clear hl_0f); (try clear hl_1f); (try clear hl_l0 hl_l1 hl_l2 hl_l3 hl_l4); obtain ⟨hl_l0, hl_l1, hl_l2, hl_l3, hl_l4⟩ := ltF hl; obtain ⟨hl_0, hl_0f⟩ := cell1 hl
          obtain ⟨i_0, i_0f⟩ := cell1 hi
          have hlen : ((pre ++ [c]).length : Int) = (pre.length : Int) + 1 := by simp
          have Hlen := Lib.hid hlen
          clear hlen
          gi_wp2
          exact ⟨(by repeat (first | exact Md.refl _ _ _ | (refine Md.alloc ?_ (by ((try simp only [World.size_alloc, World.size_setCell, World.size_drew, World.heap_drewN]); omega)) _) | (refine Md.drewN ?_ _) | (refine Md.drew ?_) | (refine Md.setCell ?_ (by first | (right; show _ ≤ _; ((try simp only [World.size_alloc, World.size_setCell, World.size_drew, World.heap_drewN]); omega)) | (left; show _; simp [*]; done)) _) | (refine Md.call ?_ (by assumption) (by ((try simp only [World.size_alloc, World.size_setCell, World.size_drew, World.heap_drewN]); omega))) | (refine Md.trans ?_ (by assumption)))), by rw [Hlen.out]; exact Boxed.set _ hi⟩
        case done =>
          rintro U hMU hlt hK hi
          rw [HNe.out] at hi
          skip; replace z := keepM (z) hMU (by omega) (by omega); (try clear z_0); (try clear z_1); (try clear z_0f); (try clear z_1f); (try clear z_l0 z_l1 z_l2 z_l3 z_l4); obtain ⟨z_l0, z_l1, z_l2, z_l3, z_l4⟩ := ltF z; obtain ⟨z_0, z_1, z_0f, z_1f⟩ := cell2 z; replace r := keepM (r) hMU (by omega) (by omega); (try clear r_0); (try clear r_1); (try clear r_0f); (try clear r_1f); (try clear r_l0 r_l1 r_l2 r_l3 r_l4); obtain ⟨r_l0, r_l1, r_l2, r_l3, r_l4⟩ := ltF r; obtain ⟨r_0, r_0f⟩ := cell1 r; replace hd := keepM (hd) hMU (by omega) (by omega); (try clear hd_0); (try clear hd_1); (try clear hd_0f); (try clear hd_1f); (try clear hd_l0 hd_l1 hd_l2 hd_l3 hd_l4); obtain ⟨hd_l0, hd_l1, hd_l2, hd_l3, hd_l4⟩ := ltF hd; obtain ⟨hd_0, hd_0f⟩ := cell1 hd; replace hl := keepM (hl) hMU (by omega) (by omega); (try clear hl_0); (try clear hl_1); (try clear hl_0f); (try clear hl_1f); (try clear hl_l0 hl_l1 hl_l2 hl_l3 hl_l4); obtain ⟨hl_l0, hl_l1, hl_l2, hl_l3, hl_l4⟩ := ltF hl; obtain ⟨hl_0, hl_0f⟩ := cell1 hl
          obtain ⟨i_0, i_0f⟩ := cell1 hi
          have hbU : Below w.heap.size w6 U := (hMU.mono (B' := w.heap.size) (S' := NoB) (by omega) (by intro k hk h; omega)).below
          have hbwU : Below w.heap.size w U := hbV.trans hbU
          gi_wp2_with fail
          refine end_cell (b := w.heap.size + 1) (v := .bool true) [w6.heap.size] (w.heap.size + 2) rfl rfl rfl ((by simp only [Boxed, hp_alloc, hp_drewN, hp_drew, if_true, World.size_alloc, World.size_setCell, World.size_drew, World.heap_drewN]; repeat (first | rw [if_true] | rw [if_pos (by omega)] | rw [if_neg (by omega)] | rw [hp_set_ne _ _ _ _ _ (by omega)] | rw [hp_set_eq (by assumption)]); try first | rfl | assumption)) (by simp; omega) (fun W h => by simp [go_sem, h]) ?_ (by simp) ?_
          · intro D hD
            obtain rfl : D = w6.heap.size := by simpa using hD
            exact ⟨by omega, by rw [hp_set_ne _ _ _ _ _ (by omega)]; exact hK⟩
          · intro W' hb _
            exact ⟨rfl, (hbwU.setCell (p := ⟨w.heap.size + 1, 0, none⟩) (by simp) _).trans (hb.mono (by omega))⟩
end Go.Proofs.Ytekpjmdkihnpeaa
